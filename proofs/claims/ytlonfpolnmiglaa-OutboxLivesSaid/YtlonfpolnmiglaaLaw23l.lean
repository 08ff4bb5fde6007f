/-
  What is proved here: the law OutboxLives on heaps ('outboxLives_ok'). No condition.
-/
import Derived.Test.YtlonfpolnmiglaaLaw23n
import Derived.Test.YtlonfpolnmiglaaBoxNil
import Derived.Test.YtlonfpolnmiglaaRelPass
import Derived.Test.YtlonfpolnmiglaaVcK
set_option maxRecDepth 100000
namespace Go.Proofs.Ytlonfpolnmiglaa
open Go.Den Go.Fields Go.Heapq
namespace Rbx
open Fld Obx
variable {h h' h0 : Heap} {x b : Nat} {X Y : Ft} {R : Value → Heap → Prop} {p q : Option Addr} {c d i : Nat} {Ls : List RI} {s : BS}

theorem Rb.on (B : Rb h x Y Ls) (f : Fr (fun _ => False) h h') : Rb h' x Y Ls := B.frame f (fun _ _ => id)
abbrev Apart (X Y : Ft) : Prop := ∀ c, X.M c ∨ X.D c → ¬ (Y.M c ∨ Y.D c)
theorem Apart.symm {X Y : Ft} (a : Apart X Y) : Apart Y X := fun c h1 h2 => a c h2 h1

set_option maxHeartbeats 8000000 in
theorem _root_.Go.Proofs.Ytlonfpolnmiglaa.outboxLives_ok (op : Option Addr) (ol oc : Nat) (hv : RokV Try.prog h T.s_law23_Op (.slice op ol oc)) : LawH Try.prog F.law23_OutboxLives #[.slice op ol oc] h := by
  obtain ⟨fs, rfl, hrow, hok⟩ := ovs_read hv
  clear hv
  unfold LawH
  generalize hR : (fun (v : Value) h' => v = .bool true ∧ Fr (fun _ => False) h h') = R
  have hk : ∀ h', Fr (fun _ => False) h h' → R (.bool true) h' := fun h' hf => by rw [← hR]; exact ⟨rfl, hf⟩
  clear hR
  refine law23_OutboxLives.walk (new_box fun h1 b X1 H1 u1 => ⟨_, rfl, newP_of ?_⟩)
  have f2 : Fr (fun _ => False) h1 (h1.push (.cells #[.slice none 0 0] T.ref23_Box)) := Fr.push _ _
  have hb2 : (h1.push (.cells #[.slice none 0 0] T.ref23_Box))[h1.size]? = some (.cells #[.slice none 0 0] T.ref23_Box (0, 0)) := push_new
  generalize h1.push (.cells #[.slice none 0 0] T.ref23_Box) = h2 at f2 hb2 ⊢
  have hx0 : ∀ c, X1.M c ∨ X1.D c → c < h1.size := fun c hc => H1.lt c hc
  have hx1 : h.size ≤ h1.size := u1.fr.1
  generalize h1.size = x at hb2 hx0 hx1 ⊢
  have B2 : Rb h2 x ⟨fun c => c = x, fun _ => False⟩ [] := ⟨none, 0, [], ⟨hb2, .nil rfl rfl rfl rfl, rfl, (fun y hy => by cases hy), (fun c => ⟨.inl, fun hc => hc.resolve_right (fun ⟨a, e, _⟩ => by cases e)⟩), (fun ⟨a, e, _⟩ => by cases e), (fun c _ hd => hd), (fun c hd => hd.elim)⟩⟩
  refine ⟨fun i g => ∃ (k : Nat) (X Y : Ft) (s : BS) (Ls : List RI), i = (k : Int) ∧ k ≤ 80 ∧ Box g b X s ∧ Rb g x Y Ls ∧ Rel s Ls ∧ UpF h X g ∧ UpF h Y g ∧ Apart X Y ∧ Ls.length ≤ k, fun i _ => 80 - i.toNat,
    ⟨0, X1, _, _, [], rfl, by omega, H1.on f2, B2, Rel.nil, u1.on f2, ⟨u1.fr.tt f2, fun c hc => by rcases hc with rfl | hc; exact hx1; exact hc.elim⟩, fun c h1 h2 => by rcases h2 with rfl | h2; exact absurd (hx0 _ h1) (Nat.lt_irrefl _); exact h2, Nat.le_refl _⟩, ?_⟩
  clear B2 hb2 f2 u1 H1 hx0 hx1
  rintro _ h3 ⟨k, X, Y, s, Ls, rfl, hk80, H, B, rel, u, w, ap, hll⟩
  refine JoinP.of fun J hJ => ?_
  by_cases hl : k < fs.length ∧ k < 80
  · have q1 : (k : Int) < ((fs.length : Nat) : Int) := by omega
    have q2 : (k : Int) < 80 := by omega
    simp only [q1, q2, decide_true, if_true]
    subst hJ
    simp only [if_true, Int.toNat_natCast]
    obtain ⟨f, hf⟩ : ∃ f, fs[k]? = some f := ⟨fs[k], List.getElem?_eq_getElem hl.1⟩
    have row3 := hrow.frame u.fr (fun _ _ => id)
    obtain ⟨a, rfl⟩ := row3.some (by intro e; cases fs with | nil => simp at hf | cons => simp at e)
    refine ⟨⟨by first | trivial | omega, by first | trivial | omega⟩, onSome_some.2 (law23_Op.ldA (row3.heldAt oenc_len hf) (law23_Op.new fun b1 h9 eb hb f9 => ⟨_, _, _, cell_at hb rfl, ?_⟩))⟩
    have nX : ¬ X.M b1 := fun hm => by have := H.lt b1 (.inl hm); omega
    have nY : ¬ Y.M b1 := fun hm => by have := B.lt b1 (.inl hm); omega
    have H9 := H.on f9
    have B9 := B.on f9
    have u9 := u.on f9
    have w9 := w.on f9
    have hokf := hok f (List.mem_of_getElem? hf)
    have rowb : Row h9 f.p (bc f.b) := hokf.frame u9.fr (fun _ _ => id)
    clear H B u w row3
    have hnx : s.next = Ls.length + 1 := rel.next
    by_cases hbig : f.b.length > 700
    · have : ((f.b.length : Nat) : Int) > 700 := by omega
      simp only [this, decide_true, if_true]
      exact alive_ok fun h11 f11 => ⟨_, rfl, hk h11 (u9.fr.tt f11)⟩
    · have : ¬ ((f.b.length : Nat) : Int) > 700 := by omega
      simp only [this, decide_false, Bool.false_eq_true, if_false]
      refine ⟨_, cell_at hb rfl, JoinP.of fun J1 hJ1 => ?_⟩
      have fin : ∀ g X' Y' s' Ls', Box g b X' s' → Rb g x Y' Ls' → Rel s' Ls' → UpF h X' g → UpF h Y' g → Apart X' Y' → Ls'.length ≤ k + 1 → J1 true g := by
        intro g X' Y' s' Ls' H' B' rel' u' w' ap' hl'
        subst hJ1
        dsimp only
        refine JoinP.of fun J2 hJ2 => ?_
        rw [if_neg (by simp)]
        refine Rbx.same_ok H' B' rel' (by omega) fun h12 f12 => ⟨_, rfl, ?_⟩
        subst hJ2
        simp only [Bool.not_true, Bool.false_eq_true, if_false]
        rw [wrap_id (by omega) (by omega)]
        exact ⟨⟨k + 1, X', Y', s', Ls', by omega, by omega, H'.on f12, B'.on f12, rel', u'.on f12, w'.on f12, ap', hl'⟩, by show 80 - Int.toNat ((k : Int) + 1) < 80 - k; omega⟩
      clear hJ1
      -- what is kept of the document's box behind a call of the other
      have keep : ∀ {g X'}, StepF X h9 X' g → Rb g x Y Ls ∧ Apart X' Y ∧ UpF h Y g := fun st =>
        ⟨B9.frame st.fr (fun y hy hm => ap y (.inl hm) hy), st.apart ap (fun c hc => B9.lt c hc), ⟨(u9.step st).fr, w9.ge⟩⟩
      refine JoinP.of fun J3 hJ3 => ?_
      subst hJ3
      split
      · refine ⟨_, cell_at hb rfl, _, _, _, cell_at hb rfl, _, cell_at hb rfl, Obx.add_ok f.till rfl H9 rowb rfl (by omega) (by omega) fun g X' H' st => ⟨_, _, rfl, ?_⟩⟩
        have hb' := st.fr.get hb nX
        obtain ⟨B', ap', w'⟩ := keep st
        have u' := u9.step st
        refine ⟨_, cell_at hb' rfl, _, _, _, cell_at hb' rfl, _, cell_at hb' rfl, Rbx.add_ok f.till rfl B' (hokf.frame u'.fr (fun _ _ => id)) rfl (by omega) (by omega) (fun he h17 Y' B17 st17 => ⟨_, _, rfl, ?_⟩) (fun he h17 f17 => ⟨_, _, rfl, ?_⟩)⟩
        · have e0 : Obx.addE s f.owner f.b f.till = 0 := by rw [rel.addE]; exact he
          have e1 : Obx.addN s f.owner f.b f.till = (s.next : Int) := if_pos e0
          have e2 : Obx.addS s f.owner f.b f.till = { s with items := s.items ++ [⟨s.next, f.owner, f.b, f.till⟩], next := s.next + 1 } := if_pos e0
          rw [e2] at H'
          refine JoinP.of fun J4 hJ4 => ?_
          rw [e0, e1, if_pos (by rw [hnx]; simp)]
          subst hJ4
          exact fin h17 X' Y' _ _ (H'.frame st17.fr (fun y hy hm => ap' y hy (.inl hm))) B17 (rel.add f.owner f.b f.till) ⟨(w'.step st17).fr, u'.ge⟩ (w'.step st17) (Apart.symm (st17.apart ap'.symm (fun c hc => H'.lt c hc))) (by rw [List.length_append]; show _ + 1 ≤ _; omega)
        · have e0 : ¬ Obx.addE s f.owner f.b f.till = 0 := by rw [rel.addE]; exact he
          have e1 : Obx.addN s f.owner f.b f.till = 0 := if_neg e0
          have e2 : Obx.addS s f.owner f.b f.till = s := if_neg e0
          rw [e2] at H'
          refine JoinP.of fun J4 hJ4 => ?_
          rw [e1, rel.addE, if_pos (by rfl), beq_self_eq_true]
          subst hJ4
          exact fin h17 X' Y s Ls (H'.on f17) (B'.on f17) rel (u'.on f17) (w'.on f17) ap' (by omega)
      refine JoinP.of fun J4 hJ4 => ?_
      subst hJ4
      split
      · refine ⟨_, cell_at hb rfl, _, cell_at hb rfl, _, cell_at hb rfl, _, cell_at hb rfl, Obx.cancel_ok H9 (by omega) fun g X' H' st => ⟨_, rfl, ?_⟩⟩
        have hb' := st.fr.get hb nX
        obtain ⟨B', ap', w'⟩ := keep st
        have u' := u9.step st
        refine ⟨cell_at hb' rfl, cell_at hb' rfl, Rbx.cancel_ok B' (by omega) (fun i y hi hy hf1 ho h21 B21 st21 => ⟨_, rfl, ?_⟩) (fun hno => ⟨_, rfl, ?_⟩) (fun i y hi hy hf1 ho => ⟨_, rfl, ?_⟩)⟩
        · have e0 : cancE s f.num f.owner = 0 := by rw [hi, rel.cancE1 hy hf1, if_pos ho]
          have e1 : cancS s f.num f.owner = { s with items := delI s.items f.num, canc := s.canc + 1 } := if_pos e0
          rw [e1, hi] at H'
          rw [e0, beq_self_eq_true]
          exact fin h21 X' Y _ _ (H'.frame st21.fr (fun y hy hm => ap' y hy (.inl hm))) B21 (rel.cancel hy hf1) ⟨(w'.step st21).fr, u'.ge⟩ (w'.step st21) ap' (by rw [List.length_set]; omega)
        · have e0 : cancE s f.num f.owner = 4 := rel.cancE0 hno
          have e1 : cancS s f.num f.owner = s := if_neg (by rw [e0]; decide)
          rw [e1] at H'
          rw [e0, beq_self_eq_true]
          exact fin g X' Y s Ls H' B' rel u' w' ap' (by omega)
        · have e0 : cancE s f.num f.owner = 13 := by rw [hi, rel.cancE1 hy hf1, if_neg ho]
          have e1 : cancS s f.num f.owner = s := if_neg (by rw [e0]; decide)
          rw [e1] at H'
          rw [e0, beq_self_eq_true]
          exact fin g X' Y s Ls H' B' rel u' w' ap' (by omega)
      refine JoinP.of fun J5 hJ5 => ?_
      subst hJ5
      split
      · refine Obx.take_ok H9 (by omega) (fun hn g H' f' => ⟨_, _, _, _, _, _, _, rfl, ?_⟩) (fun z r hxr g X' v hva H' st v' => ⟨_, _, _, _, _, _, _, rfl, ?_⟩)
        · refine outbox_Item.new fun b2 h24 eb2 hb2 f24 => ?_
          have F24 := f'.tt f24
          refine Rbx.take_ok (B9.on F24) (by omega) (fun i y hi hy => by have := rel.mem.2 ⟨i, y, hi, hy, rfl⟩; rw [hn] at this; cases this) (fun hno => ⟨_, rfl, ?_⟩)
          refine ref23_Item.new fun b3 h30 eb3 hb3 f30 => JoinP.of fun J7 hJ7 => ?_
          rw [if_neg (by decide)]
          subst hJ7
          refine JoinP.of fun J8 hJ8 => ?_
          refine outbox_Item.ld (f30.get hb2 id) (ref23_Item.ld hb3 (same_it (u := []) (w := []) Row.nil Row.nil rfl rfl fun h38 f38 => ⟨_, rfl, ?_⟩))
          rw [if_pos (by decide), if_pos (by decide), if_neg (by decide)]
          subst hJ8
          have F38 := F24.tt (f30.tt f38)
          exact fin h38 X Y s Ls (H9.on F38) (B9.on F38) rel (u9.on F38) (w9.on F38) ap (by omega)
        · refine outbox_Item.new fun b2 h24 eb2 hb2 f24 => ?_
          obtain ⟨B', ap', w'⟩ := keep st
          have u' := u9.step st
          have n2 : ¬ Y.M b2 := fun hm => by have := B'.lt b2 (.inl hm); omega
          refine Rbx.take_ok (B'.on f24) (by omega) (fun i y hi hy hno h29 B29 st29 => ⟨_, rfl, ?_⟩) (fun hno => by have := rel.none hno; rw [hxr] at this; cases this)
          obtain ⟨hzy, rel'⟩ := rel.take hi hy hno hxr
          refine ref23_Item.new fun b3 h30 eb3 hb3 f30 => JoinP.of fun J7 hJ7 => ?_
          have ilt := (List.getElem?_eq_some_iff.1 hi).1
          rw [if_pos (by simp)]
          obtain ⟨lp, lc, xs, M⟩ := B29
          have hlen := M.len
          rw [List.length_set] at hlen
          obtain ⟨v2, hv2, hva2⟩ := M.get (i := i) (y := { y with fate := 2 }) (by rw [List.getElem?_set_self ilt])
          obtain ⟨lb, lo, rfl⟩ := M.own.addr (by omega)
          have M30 := M.on f30
          simp only [Int.toNat_natCast]
          refine ⟨_, _, _, cell_at M30.blk rfl, ⟨by omega, by omega⟩, onSome_some.2 (ref23_Item.ldA (M30.own.heldAt renc_len hv2) (ref23_Item.set hb3 fun h43 a43 s43 o43 => ?_))⟩
          have F43 : Fr (fun _ => False) h29 h43 := f30.fresh (S := fun y => y = b3) ⟨by omega, fun y _ hn => o43 y hn⟩ (fun y e => by omega)
          have hb2' := F43.get (st29.fr.get hb2 n2) id
          have r1 : Row h43 v.v.p (bc v.v.b) := ((((v'.frame f24 (fun _ _ => id)).frame st29.fr (fun y hy hm => ap' y (.inr hy) (.inl hm))).frame F43 (fun _ _ => id))).row
          have r2 : Row h43 v2.v.p (bc v2.v.b) := ((M.dat v2 (List.mem_of_getElem? hv2)).frame F43 (fun _ _ => id)).row
          subst hJ7
          refine JoinP.of fun J8 hJ8 => ?_
          refine outbox_Item.ld hb2' (ref23_Item.ld a43 (same_it r1 r2 rfl rfl fun h38 f38 => ⟨_, rfl, ?_⟩))
          have hit : v.abs = v2.abs.it := by rw [hva, hzy, hva2]
          have e0 : v.num = v2.num := congrArg It.num hit
          have e1 : v.owner = v2.owner := congrArg It.owner hit
          have e2 : v.v.b = v2.v.b := congrArg It.d hit
          have e3 : v.till = v2.till := congrArg It.till hit
          have qi : (i : Int) ≥ 0 := by omega
          simp only [e0, e1, e2, e3, decide_true, Bool.and_self, if_true, qi]
          rw [if_pos (by decide)]
          subst hJ8
          have F38 := F43.tt f38
          have B29 : Rb h29 x Y (Ls.set i { y with fate := 2 }) := ⟨_, _, _, M⟩
          have w29 := (w'.on f24).step st29
          exact fin h38 X' Y _ _ (((H'.on f24).frame st29.fr (fun y hy hm => ap' y hy (.inl hm))).on F38) (B29.on F38) rel' ⟨(w29.on F38).fr, u'.ge⟩ (w29.on F38) ap' (by rw [List.length_set]; omega)
      refine JoinP.of fun J8 hJ8 => ?_
      subst hJ8
      split
      · refine ⟨_, cell_at hb rfl, _, cell_at hb rfl, Obx.pass_ok f.till rfl H9 (by omega) fun g X' p' c' ys D H' st o' d' g' kv so pm sub => ⟨_, _, _, rfl, ?_⟩⟩
        have hb' := st.fr.get hb nX
        obtain ⟨B', ap', w'⟩ := keep st
        have u' := u9.step st
        refine ⟨cell_at hb' rfl, Rbx.pass_ok f.till rfl B' (by omega) fun h46 q' d2 ms o46 g46 B46 st46 hs hm => ⟨_, _, _, rfl, ?_⟩⟩
        obtain ⟨ely, hkm, rel'⟩ := rel.pass hm hs kv so pm sub
        have w46 := w'.step st46
        have hml : ms.length ≤ 1000 := by
          obtain ⟨_, _, ok'⟩ := id H'
          have : s.next = 1 + _ + s.taken + s.canc + (s.over + ys.length) := ok'.cnt
          omega
        have o1 := o'.frame st46.fr (fun y hy hm => by have := (g' y hy).1; have := B9.lt y (.inl hm); omega)
        have d1 : ∀ y ∈ ys, y.v.ok h46 X'.D := fun y hy => (d' y hy).frame st46.fr (fun z hz hm => ap' z (.inr hz) (.inl hm))
        refine ⟨fun fine i g => fine = true ∧ Fr (fun _ => False) h46 g ∧ ∃ n : Nat, i = (n : Int) ∧ n ≤ ms.length, fun _ i _ => ms.length - i.toNat, ⟨by rw [ely]; simp, Fr.refl _ _, 0, rfl, by omega⟩, ?_⟩
        rintro _ _ g2 ⟨rfl, fg, n, rfl, hn⟩
        refine JoinP.of fun J10 hJ10 => ?_
        by_cases hlt : n < ms.length
        · have q1 : (n : Int) < ((ms.length : Nat) : Int) := by omega
          simp only [q1, decide_true, if_true]
          subst hJ10
          simp only [if_true, Int.toNat_natCast]
          have hmk : ms[n]? = some ms[n] := List.getElem?_eq_getElem hlt
          generalize ms[n] = m at hmk
          have hyk : ys[n]? = some (ys[n]'(by omega)) := List.getElem?_eq_getElem _
          generalize ys[n]'(by omega) = v at hyk
          obtain ⟨y, hy, hvy⟩ := hkm n m v hmk hyk
          obtain ⟨lp, lc, xs, M⟩ := B46.on fg
          have hlen := M.len
          rw [overL_len] at hlen
          have mlt := (List.getElem?_eq_some_iff.1 hy).1
          obtain ⟨v2, hv2, hva2⟩ := M.get (i := m) (y := ⟨y.it, 4⟩) (by rw [overL_at, hy]; simp only [Option.map_some]; rw [if_pos (List.mem_of_getElem? hmk)])
          obtain ⟨lb, lo, rfl⟩ := M.own.addr (by omega)
          have o2 := o1.frame fg (fun _ _ => id)
          have o3 := o46.frame fg (fun _ _ => id)
          obtain ⟨yb, yo, rfl⟩ := o2.addr (by omega)
          obtain ⟨mb, mo, rfl⟩ := o3.addr (by omega)
          have cm := o3.cell (j := n) (v := .int .i64 (m : Int)) (by rw [List.getElem?_map, hmk]; rfl)
          refine ⟨⟨by first | trivial | omega, by first | trivial | omega⟩, onSome_some.2 (outbox_Item.ldA (o2.heldAt ienc_len hyk) ⟨_, _, _, cell_at M.blk rfl, ⟨by first | trivial | omega, by first | trivial | omega⟩, onSome_some.2 ⟨_, by rw [Nat.mul_one]; exact cm, ⟨by omega, by omega⟩, onSome_some.2 ?_⟩⟩)⟩
          simp only [Int.toNat_natCast]
          refine ref23_Item.ldA (M.own.heldAt renc_len hv2) (same_it ((d1 v (List.mem_of_getElem? hyk)).frame fg (fun _ _ => id)).row (M.dat v2 (List.mem_of_getElem? hv2)).row rfl rfl fun h49 f49 => ⟨_, rfl, ?_⟩)
          have hit : v.abs = v2.abs.it := by rw [hvy, hva2]
          have e0 : v.num = v2.num := congrArg It.num hit
          have e1 : v.owner = v2.owner := congrArg It.owner hit
          have e2 : v.v.b = v2.v.b := congrArg It.d hit
          have e3 : v.till = v2.till := congrArg It.till hit
          simp only [e0, e1, e2, e3, decide_true, Bool.and_self]
          rw [wrap_id (by omega) (by omega)]
          refine ⟨by rw [Nat.mul_one]; exact (o3.frame f49 (fun _ _ => id)).cell (by rw [List.getElem?_map, hmk]; rfl), cell_at (M.on f49).blk rfl, ⟨by first | trivial | rfl, fg.tt f49, n + 1, by omega, by omega⟩, by show ms.length - Int.toNat ((n : Int) + 1) < ms.length - n; omega⟩
        · have q1 : ¬ (n : Int) < ((ms.length : Nat) : Int) := by omega
          simp only [q1, decide_false, Bool.false_eq_true, if_false]
          subst hJ10
          simp only [Bool.false_eq_true, if_false]
          exact fin g2 X' Y _ _ ((H'.frame st46.fr (fun y hy hm => ap' y hy (.inl hm))).on fg) (B46.on fg) rel' ⟨(w46.on fg).fr, u'.ge⟩ (w46.on fg) ap' (by rw [overL_len]; omega)
      · exact fin h9 X Y s Ls H9 B9 rel u9 w9 ap (by omega)
  · have last : J false h3 := by
      subst hJ
      simp only [Bool.false_eq_true, if_false]
      have hnx : s.next = Ls.length + 1 := rel.next
      obtain ⟨L2, _, ok⟩ := id H
      have hle := ok.le
      refine newP_of ?_
      have f4 : Fr (fun _ => False) h3 (h3.push (.cells #[.slice none 0 0, .int .i64 0, .int .i64 0, .int .i64 0, .int .i64 0, .pointer none] T.outbox_Box)) := Fr.push _ _
      have Z4 : Zero (h3.push (.cells #[.slice none 0 0, .int .i64 0, .int .i64 0, .int .i64 0, .int .i64 0, .pointer none] T.outbox_Box)) h3.size := push_new
      generalize h3.push (.cells #[.slice none 0 0, .int .i64 0, .int .i64 0, .int .i64 0, .int .i64 0, .pointer none] T.outbox_Box) = h4 at f4 Z4 ⊢
      refine lit_ok (bs := [97]) rfl fun h52 r52 f52 => add_nil ⟨_, _, rfl, take_zero (f52.get Z4 id) fun h54 f54 => ⟨_, _, _, _, _, _, _, rfl, outbox_Item.new fun b6 h59 eb6 hb6 f59 => alive_ok fun h60 f60 => ⟨_, rfl, ?_⟩⟩⟩
      have F60 := f4.tt (f52.tt (f54.tt (f59.tt f60)))
      simp only [if_true]
      refine Obx.save_ok (H.on F60) (by omega) fun h61 p61 l61 c61 B61 f61 => ⟨_, _, _, rfl, Rbx.save_ok (B.on (F60.tt f61)) (by omega) rel.fates ?_ fun h62 p62 l62 c62 B62 f62 => ⟨_, _, _, rfl, ?_⟩⟩
      · intro z hz
        have hz' : z ∈ s.items := by rw [rel.there]; exact hz
        have := ok.it z hz'
        omega
      have F62 := F60.tt (f61.tt f62)
      obtain ⟨xs, Rx, hxs⟩ := BL.to_rows B61
      obtain ⟨zs, Rz, hzs⟩ := BL.to_rows B62
      have hl61 := B61.len
      have hrl : (recsB s).length = s.items.length + 1 := by unfold recsB; simp
      refine Fld.same_ok (Rx.on f62) Rz (by omega) ⟨_, rfl, ?_⟩
      rw [hzs, hxs, rel.recs, decide_eq_true rfl, if_pos rfl, if_pos (by decide), if_pos (by decide)]
      have Z62 : Zero h62 h3.size := (f52.tt (f54.tt (f59.tt (f60.tt (f61.tt f62))))).get Z4 id
      refine cancel_nil ⟨_, rfl, ?_⟩
      rw [if_pos (by decide)]
      refine cancel_zero Z62 ⟨_, rfl, ?_⟩
      rw [if_pos (by decide)]
      refine pass_nil ⟨_, _, _, rfl, all_zero Z62 ⟨_, _, _, rfl, save_nil ⟨_, _, _, rfl, ?_⟩⟩⟩
      rw [if_pos (by decide)]
      exact counts_zero Z62 fun h69 f69 => ⟨_, _, _, _, _, rfl, true, eq_same _ _ _ _ _, hk h69 (u.fr.tt (F62.tt f69))⟩
    by_cases q1 : (k : Int) < ((fs.length : Nat) : Int)
    · have q2 : ¬ (k : Int) < 80 := by omega
      simp only [q1, q2, decide_true, decide_false, if_true]
      exact last
    · simp only [q1, decide_false, Bool.false_eq_true, if_false]
      exact last
end Rbx
end Go.Proofs.Ytlonfpolnmiglaa
