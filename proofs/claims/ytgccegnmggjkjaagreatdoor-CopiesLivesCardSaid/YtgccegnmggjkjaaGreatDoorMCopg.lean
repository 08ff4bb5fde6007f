/-
  What is proved here: the parts named below, one behind the other (texts of this work, merged by a program). No condition.
-/
import Derived.Lib.LaidU8
import Derived.Lib.LaidTab
import Derived.Test.YtgccegnmggjkjaaGreatDoorMCopf

/-
  What is proved here: law21's parts that hold a table against the document's: same, ints, Same, Do. No condition.
-/
set_option maxRecDepth 100000
namespace Go.Proofs.YtgccegnmggjkjaaGreatDoor
open Go.Den Go.Fields Go.Heapq
namespace Rcp
open Eid Cps Fld Alarm
variable {h h' h0 : Heap} {t x : Nat} {X X' Y Y' : Ft} {R : Value → Heap → Prop} {p q : Option Addr} {c d i k : Nat} {Ls Ls' : List RC} {s s' : CF}
abbrev Apart (X Y : Ft) : Prop := ∀ c, X.M c ∨ X.D c → ¬ (Y.M c ∨ Y.D c)
theorem Apart.symm {X Y : Ft} (a : Apart X Y) : Apart Y X := fun c h1 h2 => a c h2 h1
/-- two tables step -/
structure Two (h : Heap) (X Y : Ft) (h' : Heap) (X' Y' : Ft) : Prop where
  fr : Fr (fun y => X.M y ∨ Y.M y) h h'
  nx : ∀ c, X'.M c ∨ X'.D c → (X.M c ∨ X.D c) ∨ h.size ≤ c
  ny : ∀ c, Y'.M c ∨ Y'.D c → (Y.M c ∨ Y.D c) ∨ h.size ≤ c
  mx : ∀ c, X'.M c → X.M c ∨ h.size ≤ c
  my : ∀ c, Y'.M c → Y.M c ∨ h.size ≤ c
  ap : Apart X' Y'
theorem Two.no (f : Fr (fun _ => False) h h') (ap : Apart X Y) : Two h X Y h' X Y := ⟨f.mono (fun _ _ => False.elim), fun _ => .inl, fun _ => .inl, fun _ => .inl, fun _ => .inl, ap⟩
theorem Two.of {h1 : Heap} (a : StepF X h X' h1) (b : StepF Y h1 Y' h') (ap : Apart X Y) (lY : ∀ c, Y.M c ∨ Y.D c → c < h.size) (lX : ∀ c, X'.M c ∨ X'.D c → c < h1.size) : Two h X Y h' X' Y' := by
  have z := a.fr.1
  refine ⟨a.fr.trans b.fr (fun _ _ => .inl) (fun _ _ => .inr), fun c hc => ?_, fun c hc => ?_, a.newM, fun c hc => (b.newM c hc).imp id (fun h1 => by omega), ?_⟩
  · rcases hc with hc | hc
    · exact (a.newM c hc).imp .inl id
    · exact (a.newD c hc).imp .inr id
  · rcases hc with hc | hc
    · exact (b.newM c hc).imp .inl (fun h1 => by omega)
    · exact (b.newD c hc).imp .inr (fun h1 => by omega)
  · have ap1 : Apart X' Y := a.apart ap lY
    exact Apart.symm (b.apart ap1.symm lX)
theorem Two.pre {g : Heap} (f : Fr (fun _ => False) g h) (T : Two h X Y h' X' Y') : Two g X Y h' X' Y' := by
  have z := f.1
  exact ⟨f.no T.fr, fun c hc => (T.nx c hc).imp id (fun h1 => by omega), fun c hc => (T.ny c hc).imp id (fun h1 => by omega), fun c hc => (T.mx c hc).imp id (fun h1 => by omega), fun c hc => (T.my c hc).imp id (fun h1 => by omega), T.ap⟩
theorem Two.post {g : Heap} (T : Two h X Y h' X' Y') (f : Fr (fun _ => False) h' g) : Two h X Y g X' Y' := ⟨T.fr.on f, T.nx, T.ny, T.mx, T.my, T.ap⟩
/-! ### what is kept -/
structure Inv (s : CF) (Ls : List RC) (k : Nat) : Prop where
  rel : Rel s Ls
  ok : okC s
  all : ∀ y ∈ Ls, okZ y.c
  len : Ls.length ≤ k
theorem Inv.nil : Inv ⟨[], 1, 0, 0, 0, [], []⟩ [] 0 := ⟨Rel.nil, ⟨(fun z hz => by cases hz), (fun z hz => by cases hz), (fun e => by simp), (fun e => by simp), rfl⟩, (fun y hy => by cases hy), Nat.le_refl _⟩
theorem Inv.L (I : Inv s Ls k) : s.L.length ≤ k := by
  rw [I.rel.there]
  unfold thereL
  rw [List.length_map]
  exact Nat.le_trans (List.length_filter_le _ _) I.len
theorem Inv.small (I : Inv s Ls k) (O : Ord s) (hk : k ≤ 40000) : Small s := by
  have h1 := I.L
  have h2 := I.len
  have h3 := I.rel.next
  have nd : ∀ {l : List E}, (keys l).Nodup → l.Nodup := fun {l} hn => (List.pairwise_map.1 hn).imp (fun h e => h (congrArg _ e))
  have e1 : s.E1.length ≤ s.L.length := by
    have := nd_le (l2 := s.L.map (fun z => (((z.num : Int), (z.till : Int)) : E))) (nd O.n1) (fun e he => by
      obtain ⟨z, hz, rfl⟩ := (I.ok.e1 e).1 he
      exact List.mem_map.2 ⟨z, hz, rfl⟩)
    rwa [List.length_map] at this
  have e2 : s.E2.length ≤ s.L.length := by
    rw [leased_len I.ok O]; exact List.length_filter_le _ _
  exact ⟨by omega, by omega, by omega, by omega⟩
theorem Inv.okL (I : Inv s Ls k) : ∀ z ∈ s.L, okZ z := fun z hz => by
  obtain ⟨i, y, hi, _, rfl⟩ := I.rel.mem.1 hz
  exact I.all y (List.mem_of_getElem? hi)
theorem cntF_le (Ls : List RC) (f : Nat) : cntF Ls f ≤ Ls.length := by unfold cntF; exact List.length_filter_le _ _
theorem Inv.cnts (I : Inv s Ls k) (hk : k ≤ 40000) : s.acked ≤ 40000 ∧ s.over ≤ 40000 ∧ s.gone ≤ 40000 := by
  have h1 := cntF_le Ls 1
  have h2 := cntF_le Ls 2
  have h3 := cntF_le Ls 3
  have := I.len
  rw [I.rel.acked, I.rel.over, I.rel.gone]; omega
theorem Inv.held (I : Inv s Ls k) : Held s := fun j hj => by
  unfold keys at hj
  obtain ⟨e, he, rfl⟩ := List.mem_map.1 hj
  obtain ⟨z, hz, _, rfl⟩ := (I.ok.e2 e).1 he
  exact ⟨z, hz, rfl⟩
theorem all_set {y' : RC} (ha : ∀ y ∈ Ls, okZ y.c) (h1 : okZ y'.c) : ∀ z ∈ Ls.set i y', okZ z.c := fun z hz => by
  rcases List.mem_or_eq_of_mem_set hz with hz | rfl
  · exact ha z hz
  · exact h1
theorem _root_.Go.Proofs.YtgccegnmggjkjaaGreatDoor.Cps.okZ.free {z : Cp} (k : okZ z) : okZ { z with ses := 0, dl := 0 } := ⟨k.r, k.v, k.d, k.n, k.t, by show (0 : Int) ≤ 0; omega, by show (0 : Int) ≤ 1099511627776; omega, by show 0 ≤ 1099511627776; omega⟩
theorem _root_.Go.Proofs.YtgccegnmggjkjaaGreatDoor.Cps.okZ.lease {z : Cp} (k : okZ z) {ses : Int} {dl : Nat} (hm : mayS ses dl) : okZ { z with ses := ses, dl := dl } := ⟨k.r, k.v, k.d, k.n, k.t, by have := hm.1; show 0 ≤ ses; omega, hm.2.1, hm.2.2⟩
theorem may_parts {e : Ev} {n till : Nat} (h : Rcp.mayC e n till = true) : rightE e = true ∧ n ≤ 600 ∧ till ≤ 1099511627776 := by
  unfold Rcp.mayC at h
  simp only [Bool.and_eq_true, decide_eq_true_eq] at h
  exact ⟨(Classical.byContradiction fun hn => h.1 (kind_lt.2 hn) : rightE e = true ∧ e ≠ .zero).1, h.2.2.1, h.2.2.2⟩
/-! ### the law's parts -/
theorem lsame_ok {y : CV} {w : RW} (h1 : Row h y.v.p (bc y.v.b)) (h2 : Row h w.v.p (bc w.v.b)) (e : y.abs = w.abs.c) (hk : ∀ h', Fr (fun _ => False) h h' → R (.bool true) h') :
    CallsH Tryz.prog F.law21_same #[.agg #[.int .i64 (y.num : Int), .bool y.e.ipn, .int .u64 y.e.node, .int .u64 y.e.svc, .string y.e.host, .string y.e.dem, .slice y.v.p y.v.b.length y.v.c, .int .u64 (y.till : Int), .int .i64 y.ses, .int .u64 (y.dl : Int)], .agg #[.int .i64 (w.num : Int), .bool w.e.ipn, .int .u64 w.e.node, .int .u64 w.e.svc, .string w.e.host, .string w.e.dem, .slice w.v.p w.v.b.length w.v.c, .int .u64 (w.till : Int), .int .i64 w.ses, .int .u64 (w.dl : Int), .int .i64 (w.fate : Int)]] h R := by
  have e0 : y.num = w.num := congrArg Cp.num e
  have e1 : y.e = w.e := congrArg Cp.e e
  have e2 : y.v.b = w.v.b := congrArg Cp.d e
  have e3 : y.till = w.till := congrArg Cp.till e
  have e4 : y.ses = w.ses := congrArg Cp.ses e
  have e5 : y.dl = w.dl := congrArg Cp.dl e
  refine law21_same.walk (copies_Copy.box fun b g1 eb hb f1 => ref21_Copy.box fun b1 g2 eb1 hb1 f2 => ?_)
  have hb2 := f2.get hb id
  have hw : ∀ {g : Heap}, g[b1]? = g2[b1]? → heldL ⟨b1, 1, none⟩ [.bool w.e.ipn, .int .u64 w.e.node, .int .u64 w.e.svc, .string w.e.host, .string w.e.dem] 0 g := fun hg => by
    have hg := hg.trans hb1
    exact ⟨cell_at hg rfl, cell_at hg rfl, cell_at hg rfl, cell_at hg rfl, cell_at hg rfl, trivial⟩
  refine ⟨_, cell_at hb2 rfl, _, cell_at hb1 rfl, ?_⟩
  rw [if_pos (by rw [e0]; simp)]
  refine ⟨_, cell_at hb2 rfl, _, cell_at hb2 rfl, _, cell_at hb2 rfl, _, cell_at hb2 rfl, _, cell_at hb2 rfl, ref04_Eid.ldA (hw rfl) (Eid.as_ok y.e fun g3 f3 => ?_)⟩
  have hb3 := f3.get hb2 id
  have hb13 := f3.get hb1 id
  refine ⟨_, _, _, _, _, rfl, hw (hb13.trans hb1.symm), cell_at hb13 rfl, cell_at hb3 rfl, _, eqv04' (x := y.e) (y := w.e) rfl rfl, ?_⟩
  rw [if_pos (decide_eq_true e1)]
  have F3 := f1.tt (f2.tt f3)
  refine ⟨_, _, _, cell_at hb3 rfl, _, conv (h1.frame F3 (fun _ _ => id)) rfl, _, _, _, cell_at hb13 rfl, _, conv (h2.frame F3 (fun _ _ => id)) rfl, ?_⟩
  rw [if_pos (by rw [str_list, str_list, e2]; simp)]
  refine ⟨_, cell_at hb3 rfl, _, cell_at hb13 rfl, ?_⟩
  rw [if_pos (by rw [e3]; simp)]
  refine ⟨_, cell_at hb3 rfl, _, cell_at hb13 rfl, ?_⟩
  rw [if_pos (by rw [e4]; simp)]
  refine ⟨_, cell_at hb3 rfl, _, cell_at hb13 rfl, ?_⟩
  rw [e5, beq_self_eq_true]
  exact hk g3 F3
theorem ints_ok {ks : List Int} {n m cn cm : Nat} (hn : n = ks.length) (hm : m = ks.length) (o1 : Own h p n cn 1 (ks.map ienc)) (o2 : Own h q m cm 1 (ks.map ienc)) (hl : ks.length ≤ 1000000) (hk : R (.bool true) h) : CallsH Tryz.prog F.law21_ints #[.slice p n cn, .slice q m cm] h R := by
  subst hn hm
  refine law21_ints.walk ?_
  unfold law21_ints.vc
  rw [if_neg (by simp)]
  refine ⟨fun t g => g = h ∧ ∃ j : Nat, t = (j : Int) ∧ j ≤ ks.length, fun t _ => ks.length - t.toNat, ⟨rfl, 0, rfl, by omega⟩, ?_⟩
  rintro _ _ ⟨rfl, j, rfl, hj⟩
  by_cases hlt : j < ks.length
  · have q1 : (j : Int) < ((ks.length : Nat) : Int) := by omega
    simp only [q1, decide_true, if_true, Int.toNat_natCast]
    have hx : ks[j]? = some ks[j] := List.getElem?_eq_getElem hlt
    generalize ks[j] = v at hx
    obtain ⟨ab, aoff, rfl⟩ := o1.addr (by omega)
    obtain ⟨bb, boff, rfl⟩ := o2.addr (by omega)
    refine ⟨⟨by first | trivial | omega, by first | trivial | omega⟩, onSome_some.2 ⟨v, by rw [Nat.mul_one]; exact o1.cell (by rw [List.getElem?_map, hx]; rfl), ⟨by first | trivial | omega, by first | trivial | omega⟩, onSome_some.2 ⟨v, by rw [Nat.mul_one]; exact o2.cell (by rw [List.getElem?_map, hx]; rfl), ?_⟩⟩⟩
    rw [if_neg (by simp), wrap_id (by omega) (by omega)]
    exact ⟨⟨by first | trivial | rfl, j + 1, by omega, by omega⟩, by show ks.length - Int.toNat ((j : Int) + 1) < ks.length - j; omega⟩
  · have q1 : ¬ (j : Int) < ((ks.length : Nat) : Int) := by omega
    simp only [q1, decide_false, Bool.false_eq_true, if_false]
    exact hk
theorem eqv6 (a b c d e f : Int) : EqV Tryz.prog T.a6_int (.agg #[.int .i64 a, .int .i64 b, .int .i64 c, .int .i64 d, .int .i64 e, .int .i64 f]) (.agg #[.int .i64 a, .int .i64 b, .int .i64 c, .int .i64 d, .int .i64 e, .int .i64 f]) true := by
  have q : (a == a && (b == b && (c == c && (d == d && (e == e && (f == f && true)))))) = true := by simp
  rw [← q]
  exact EqV.of (by kernel_rfl)
theorem Same_ok (H : Ct h t X s) (B : Rb h x Y Ls) (I : Inv s Ls k) (hk8 : k ≤ 40000) (hk : ∀ h', Fr (fun _ => False) h h' → R (.bool true) h') : CallsH Tryz.prog F.law21_Same #[.pointer (some ⟨t, 0, none⟩), .pointer (some ⟨x, 0, none⟩)] h R := by
  have O := H.ord
  have sm := I.small O hk8
  have hl := I.len
  refine law21_Same.walk (Cps.all_ok H sm (fun z hz => (I.okL z hz).d) fun h1 p1 c1 ys o1 hab hrow f1 => ⟨_, _, _, rfl, there_ok (B.on f1) (by omega) fun h2 p2 c2 ws o2 n2 hab2 hdat f2 => ⟨_, _, _, rfl, JoinP.of fun J hJ => ?_⟩⟩)
  have hws : (ws.map RW.abs).map RC.c = s.L := by rw [hab2, I.rel.there]; rfl
  have ely : ys.length = ws.length := by
    have h1 := congrArg List.length hab
    have h2 := congrArg List.length hws
    simp only [List.length_map] at h1 h2; omega
  have F2 := f1.tt f2
  rw [if_neg (by simp [ely])]
  refine Cps.counts_ok (H.on F2) sm fun h3 f3 => ⟨_, _, _, _, _, _, rfl, counts_ok (B.on (F2.tt f3)) (by omega) I.rel.fates fun h4 f4 => ⟨_, _, _, _, _, _, rfl, true, ?_, ?_⟩⟩
  · obtain ⟨e0, e1, e2, e3, e4, e5⟩ := I.rel.counts I.ok O
    rw [e0, e1, e2, e3, e4, e5]
    exact eqv6 _ _ _ _ _ _
  subst hJ
  simp only [Bool.not_true, Bool.false_eq_true, if_false]
  have F4 := F2.tt (f3.tt f4)
  have wl : ws.length ≤ 40000 := by
    have h2 := congrArg List.length hws
    simp only [List.length_map] at h2
    have := I.L; omega
  refine ⟨fun q g => ∃ j : Nat, q = (j : Int) ∧ j ≤ ws.length ∧ Fr (fun _ => False) h4 g, fun q _ => ws.length - q.toNat, ⟨0, rfl, by omega, Fr.refl _ _⟩, ?_⟩
  rintro _ g ⟨j, rfl, hj, fg⟩
  by_cases hlt : j < ws.length
  · have q1 : (j : Int) < ((ws.length : Nat) : Int) := by omega
    simp only [q1, decide_true, if_true, Int.toNat_natCast]
    have hw : ws[j]? = some ws[j] := List.getElem?_eq_getElem hlt
    generalize ws[j] = w at hw
    have hy : ys[j]? = some (ys[j]'(by omega)) := List.getElem?_eq_getElem _
    generalize ys[j]'(by omega) = y at hy
    have e : y.abs = w.abs.c := by
      have h1 : (ys.map CV.abs)[j]? = some y.abs := by rw [List.getElem?_map, hy]; rfl
      rw [hab, ← hws, List.getElem?_map, List.getElem?_map, hw] at h1
      exact (Option.some.inj h1).symm
    have og := o1.frame (f2.tt (f3.tt (f4.tt fg))) (fun _ _ => id)
    have og2 := o2.frame (f3.tt (f4.tt fg)) (fun _ _ => id)
    obtain ⟨ab, aoff, rfl⟩ := og.addr (by omega)
    obtain ⟨bb, boff, rfl⟩ := og2.addr (by omega)
    refine ⟨⟨by first | trivial | omega, by first | trivial | omega⟩, onSome_some.2 (copies_Copy.ldA (og.heldAt aenc_len hy) ⟨⟨by first | trivial | omega, by first | trivial | omega⟩, onSome_some.2 (ref21_Copy.ldA (og2.heldAt cenc_len hw) (lsame_ok ((hrow y (List.mem_of_getElem? hy)).frame (f2.tt (f3.tt (f4.tt fg))) (fun _ _ => id)) (((hdat w (List.mem_of_getElem? hw)).row).frame (f3.tt (f4.tt fg)) (fun _ _ => id)) e fun g2 f5 => ⟨_, rfl, ?_⟩))⟩)⟩
    rw [if_neg (by decide), wrap_id (by omega) (by omega)]
    exact ⟨⟨j + 1, by omega, by omega, fg.tt f5⟩, by show ws.length - Int.toNat ((j : Int) + 1) < ws.length - j; omega⟩
  · have q1 : ¬ (j : Int) < ((ws.length : Nat) : Int) := by omega
    simp only [q1, decide_false, Bool.false_eq_true, if_false]
    exact hk g (F4.tt fg)
theorem nums_places {ms : List Nat} : (ms.map fun (i : Nat) => Value.int .i64 ((i : Int) + 1)) = (ms.map (fun (i : Nat) => (i : Int) + 1)).map ienc := by rw [List.map_map]; rfl
abbrev zeroV : CV := ⟨0, 0, .zero, ⟨none, 0, []⟩, 0, 0, 0⟩
abbrev zeroW : RW := ⟨0, .zero, ⟨none, 0, []⟩, 0, 0, 0, 0⟩
set_option maxHeartbeats 4000000 in
theorem do_ok (H : Ct h t X s) (B : Rb h x Y Ls) (I : Inv s Ls k) (ap : Apart X Y) (hk8 : k ≤ 30000) (f : OP) (rowf : Row h f.p (bc f.b)) (hpm : f.b ≠ [] → ∀ a, f.p = some a → ¬ X.M a.block ∧ ¬ Y.M a.block) (hsv : 0 ≤ f.e.svc)
    (hk : ∀ h' X' Y' s' Ls', Ct h' t X' s' → Rb h' x Y' Ls' → Inv s' Ls' (k + 1) → Two h X Y h' X' Y' → R (.bool true) h') :
    CallsH Tryz.prog F.law21_Do #[.pointer (some ⟨t, 0, none⟩), .pointer (some ⟨x, 0, none⟩), .agg (oenc f).toArray] h R := by
  have O := H.ord
  have sm := I.small O (by omega)
  have hl := I.len
  have cn := I.cnts (by omega)
  have rel := I.rel
  refine law21_Do.walk (law21_Op.box fun b h1 eb hb f1 => op_eid hb (Eid.as_ok f.e fun h2 f2 => ⟨_, _, _, _, _, rfl, ref04_Eid.new fun b1 h4 eb1 hb1 f4 => ?_⟩))
  have F4 := f1.tt (f2.tt f4)
  have hb4 : f.at h4 b := (f2.tt f4).get hb id
  have H4 := H.on F4
  have B4 := B.on F4
  have z1 := lt_of_get hb
  have z2 := lt_of_get hb1
  have zz := f1.1
  have zz2 := f2.1
  have nX : ¬ X.M b := fun hm => by have := H.lt b (.inl hm); omega
  have nY : ¬ Y.M b := fun hm => by have := B.lt b (.inl hm); omega
  have nX1 : ¬ X.M b1 := fun hm => by have := H.lt b1 (.inl hm); omega
  have nY1 : ¬ Y.M b1 := fun hm => by have := B.lt b1 (.inl hm); omega
  have row4 := rowf.frame F4 (fun _ _ => id)
  -- what is kept of the document's table behind a call of the other
  have keep : ∀ {g X'}, StepF X h4 X' g → Rb g x Y Ls := fun st => B4.frame st.fr (fun y hy hm => ap y (.inl hm) hy)
  have fin : ∀ {g g' X' Y' s' Ls'}, Ct g t X' s' → StepF X h4 X' g → Rb g' x Y' Ls' → StepF Y g Y' g' → Inv s' Ls' (k + 1) → R (.bool true) g' := by
    intro g g' X' Y' s' Ls' H' st B' st' I'
    have tw : Two h4 X Y g' X' Y' := Two.of st st' ap (fun c hc => B4.lt c hc) (fun c hc => H'.lt c hc)
    have ap1 : Apart X' Y := st.apart ap (fun c hc => B4.lt c hc)
    exact hk g' X' Y' s' Ls' (H'.frame st'.fr (fun y hy hm => ap1 y hy (.inl hm))) B' I' (tw.pre F4)
  have fin0 : ∀ {g}, Fr (fun _ => False) h4 g → R (.bool true) g := fun fg => hk _ X Y s Ls (H4.on fg) (B4.on fg) ⟨I.rel, I.ok, I.all, by omega⟩ (Two.no (F4.tt fg) ap)
  refine ⟨_, cell_at hb4 rfl, ?_⟩
  split
  · -- Add
    refine op_eid hb4 ⟨_, _, _, cell_at hb4 rfl, _, cell_at hb4 rfl, Cps.add_ok H4 sm (fun z hz => (I.ok.bd z hz).2.1) (by rw [rel.next]; omega) f.e f.till rfl row4 rfl (fun hne a ea => (hpm hne a ea).1) fun g X' H' st => ⟨_, _, rfl, ?_⟩⟩
    have hb5 : f.at g b := st.fr.get hb4 nX
    have row5 : Row g f.p (bc f.b) := by
      by_cases hne : f.b = []
      · rw [hne]; exact Row.nil
      · exact row4.frame st.fr (fun a ea => (hpm hne a ea).1)
    have B5 := keep st
    refine ref04_Eid.ld (st.fr.get hb1 nX1) ⟨_, _, _, cell_at hb5 rfl, _, cell_at hb5 rfl, radd_ok B5 (by omega) f.e f.till rfl row5 rfl (fun he g2 fg2 => ⟨_, _, rfl, ?_⟩) (fun he g2 Y' B' st' => ⟨_, _, rfl, ?_⟩)⟩
    · have e0 : ¬ Cps.addE s f.e f.b f.till = 0 := by rw [rel.addE]; exact he
      have e1 : addN s f.e f.b f.till = 0 := if_neg e0
      have e2 : addF s f.e f.b f.till = s := if_neg e0
      rw [e2] at H'
      rw [e1, if_pos (by decide), rel.addE, beq_self_eq_true]
      exact fin H' st (B5.on fg2) (StepF.of_no fg2) ⟨I.rel, I.ok, I.all, by omega⟩
    · have e0 : Cps.addE s f.e f.b f.till = 0 := by rw [rel.addE]; exact he
      obtain ⟨r1, r2⟩ := rel.add f.e f.b f.till e0
      rw [r2, if_pos (by simp), e0, beq_self_eq_true]
      refine fin H' st B' st' ⟨r1, I.ok.add f.e f.b f.till, fun y hy => ?_, by rw [List.length_append]; show Ls.length + 1 ≤ _; omega⟩
      rcases List.mem_append.1 hy with hy | hy
      · exact I.all y hy
      · obtain rfl := List.mem_singleton.1 hy
        have hm : Rcp.mayC f.e f.b.length f.till = true := by
          unfold Rcp.addE at he
          cases q : Rcp.mayC f.e f.b.length f.till with
          | true => rfl
          | false => rw [q] at he; simp at he
        obtain ⟨m1, m2, m3⟩ := may_parts hm
        exact ⟨m1, hsv, m2, by show Ls.length + 1 ≤ 1000000; omega, m3, by show (0 : Int) ≤ 0; omega, by show (0 : Int) ≤ 1099511627776; omega, by show 0 ≤ 1099511627776; omega⟩
  split
  · -- Lease
    have two : ∀ (y : CV) (g : Heap) (e : Int) X' s', Ct g t X' s' → StepF X h4 X' g → Row g y.v.p (bc y.v.b) → (∀ a, inBlk y.v.p a → ¬ X'.M a ∧ ¬ Y.M a) →
        ((¬ mayS f.ses f.till ∧ e = 1 ∧ y.abs = zeroV.abs ∧ s' = s) ∨ (mayS f.ses f.till ∧ Cps.leaseC s.L f.e = none ∧ e = 4 ∧ y.abs = zeroV.abs ∧ s' = s) ∨ (mayS f.ses f.till ∧ e = 0 ∧ ∃ z, Cps.leaseC s.L f.e = some z ∧ y.abs = { z with ses := f.ses, dl := f.till } ∧ s' = leaseF s z f.ses f.till)) →
        NewP g (.cells #[.int .i64 0, .bool false, .int .u64 0, .int .u64 0, .string (⟨#[]⟩ : ByteArray), .string (⟨#[]⟩ : ByteArray), .slice none 0 0, .int .u64 0, .int .i64 0, .int .u64 0] T.copies_Copy) fun b_2 h_8 =>
        copies_Copy.ST h_8 ⟨b_2, 0, none⟩ (y.num : Int) y.e.ipn y.e.node y.e.svc y.e.host y.e.dem y.v.p y.v.b.length y.v.c (y.till : Int) y.ses (y.dl : Int) fun h_9 =>
        ref04_Eid.LD h_9 ⟨b1, 0, none⟩ fun t69_0 t69_1 t69_2 t69_3 t69_4 =>
        ∃ (t71 : Int), hcell h_9 ⟨b, 2, none⟩ = some (.int .i64 t71) ∧
        ∃ (t73 : Int), hcell h_9 ⟨b, 9, none⟩ = some (.int .u64 t73) ∧
        CallsH Tryz.prog F.ref21_Table_Lease #[.pointer (some ⟨x, 0, none⟩), .agg #[.bool t69_0, .int .u64 t69_1, .int .u64 t69_2, .string t69_3, .string t69_4], .int .i64 t71, .int .u64 t73] h_9 fun v_4 h_10 =>
        ∃ (t74_0 : Int), ∃ (t74_1 : Int), v_4 = .tuple #[.int .i64 t74_0, .int .i64 t74_1] ∧
        NewP h_10 (.cells #[.int .i64 0, .bool false, .int .u64 0, .int .u64 0, .string (⟨#[]⟩ : ByteArray), .string (⟨#[]⟩ : ByteArray), .slice none 0 0, .int .u64 0, .int .i64 0, .int .u64 0, .int .i64 0] T.ref21_Copy) fun b_3 h_11 =>
        ref21_Copy.ST h_11 ⟨b_3, 0, none⟩ 0 false 0 0 (⟨#[]⟩ : ByteArray) (⟨#[]⟩ : ByteArray) none 0 0 0 0 0 0 fun h_12 =>
        JoinP (fun (h_13 : Heap) =>
          copies_Copy.LD h_13 ⟨b_2, 0, none⟩ fun t87_0 t87_1 t87_2 t87_3 t87_4 t87_5 t87_6_p t87_6_l t87_6_c t87_7 t87_8 t87_9 =>
          ref21_Copy.LD h_13 ⟨b_3, 0, none⟩ fun t88_0 t88_1 t88_2 t88_3 t88_4 t88_5 t88_6_p t88_6_l t88_6_c t88_7 t88_8 t88_9 t88_10 =>
          CallsH Tryz.prog F.law21_same #[.agg #[.int .i64 t87_0, .bool t87_1, .int .u64 t87_2, .int .u64 t87_3, .string t87_4, .string t87_5, .slice t87_6_p t87_6_l t87_6_c, .int .u64 t87_7, .int .i64 t87_8, .int .u64 t87_9], .agg #[.int .i64 t88_0, .bool t88_1, .int .u64 t88_2, .int .u64 t88_3, .string t88_4, .string t88_5, .slice t88_6_p t88_6_l t88_6_c, .int .u64 t88_7, .int .i64 t88_8, .int .u64 t88_9, .int .i64 t88_10]] h_13 fun v_5 h_14 =>
          ∃ (t89 : Bool), v_5 = .bool t89 ∧
          if t89 = true then
            R (.bool (e == t74_1)) h_14
          else
            R (.bool false) h_14)
        (fun J =>
          if (decide (t74_0 ≥ 0)) = true then
            ∃ (t83_p : Option Addr) (t83_l t83_c : Nat), hcell h_12 ⟨x, 0, none⟩ = some (.slice t83_p t83_l t83_c) ∧
            ((0 : Int) ≤ t74_0 ∧ t74_0 < ((t83_l : Nat) : Int)) ∧
            onSome t83_p fun a =>
            ref21_Copy.LD h_12 (a.add (Int.toNat t74_0 * 11)) fun t86_0 t86_1 t86_2 t86_3 t86_4 t86_5 t86_6_p t86_6_l t86_6_c t86_7 t86_8 t86_9 t86_10 =>
            ref21_Copy.ST h_12 ⟨b_3, 0, none⟩ t86_0 t86_1 t86_2 t86_3 t86_4 t86_5 t86_6_p t86_6_l t86_6_c t86_7 t86_8 t86_9 t86_10 fun h_15 =>
            J h_15
          else
            J h_12) := by
      intro y g e X' s' H' st rowy nyb hcase
      refine copies_Copy.new fun b2 h9 e9 hb2 f9 => ?_
      have S9 := StepF.on st f9
      have hb9 : f.at h9 b := f9.get (st.fr.get hb4 nX) id
      have B9 := (keep st).on f9
      have H9 := H'.on f9
      have lb2 := lt_of_get hb2
      have z9 := f9.1
      have zst := st.fr.1
      have nY2 : ¬ Y.M b2 := fun hm => by have := B.lt b2 (.inl hm); have := F4.1; omega
      have bad : ∀ (e' : Int) g2, Fr (fun _ => False) h9 g2 → e = e' → y.abs = zeroV.abs → s' = s → ref21_Copy.LD g2 ⟨b2, 0, none⟩ (fun _ _ _ _ _ _ _ _ _ _ _ _ _ => True) ∨ True := fun _ _ _ _ _ _ => .inr trivial
      clear bad
      refine ref04_Eid.ld (f9.get (st.fr.get hb1 nX1) id) ⟨_, cell_at hb9 rfl, _, cell_at hb9 rfl, rlease_ok B9 (by omega) f.e f.ses f.till rfl (fun hm g2 fg2 => ⟨_, _, rfl, ?_⟩) (fun hm hno g2 fg2 => ⟨_, _, rfl, ?_⟩) (fun hm i w hi hiE hs0 hmin g2 B2 st2 => ⟨_, _, rfl, ?_⟩)⟩
      · rcases hcase with ⟨_, rfl, ey, rfl⟩ | ⟨h1, _⟩ | ⟨h1, _⟩
        · refine ref21_Copy.new fun b3 h12 e12 hb3 f12 => JoinP.of fun J hJ => ?_
          rw [if_neg (by decide)]
          subst hJ
          have F12 := fg2.tt f12
          refine copies_Copy.ld (F12.get hb2 id) (ref21_Copy.ld hb3 (lsame_ok (y := y) (w := zeroW) (rowy.frame (f9.tt F12) (fun _ _ => id)) Row.nil ey fun g3 f3 => ⟨_, rfl, ?_⟩))
          rw [if_pos rfl, beq_self_eq_true]
          have FF := F12.tt f3
          exact fin (H9.on FF) (StepF.on S9 FF) (B9.on FF) (StepF.refl _ _) ⟨I.rel, I.ok, I.all, by omega⟩
        · exact absurd h1 hm
        · exact absurd h1 hm
      · rcases hcase with ⟨h1, _⟩ | ⟨_, _, rfl, ey, rfl⟩ | ⟨_, _, z, hz, _⟩
        · exact absurd hm h1
        · refine ref21_Copy.new fun b3 h12 e12 hb3 f12 => JoinP.of fun J hJ => ?_
          rw [if_neg (by decide)]
          subst hJ
          have F12 := fg2.tt f12
          refine copies_Copy.ld (F12.get hb2 id) (ref21_Copy.ld hb3 (lsame_ok (y := y) (w := zeroW) (rowy.frame (f9.tt F12) (fun _ _ => id)) Row.nil ey fun g3 f3 => ⟨_, rfl, ?_⟩))
          rw [if_pos rfl, beq_self_eq_true]
          have FF := F12.tt f3
          exact fin (H9.on FF) (StepF.on S9 FF) (B9.on FF) (StepF.refl _ _) ⟨I.rel, I.ok, I.all, by omega⟩
        · rw [rel.lease0 hno] at hz; cases hz
      · obtain ⟨l1, l2⟩ := rel.lease hi hiE hs0 hmin f.ses f.till
        rcases hcase with ⟨h1, _⟩ | ⟨_, h2, _⟩ | ⟨_, rfl, z, hz, ey, rfl⟩
        · exact absurd hm h1
        · rw [l1] at h2; cases h2
        · rw [l1] at hz
          obtain rfl := Option.some.inj hz
          refine ref21_Copy.new fun b3 h12 e12 hb3 f12 => JoinP.of fun J hJ => ?_
          have qi : (i : Int) ≥ 0 := by omega
          rw [if_pos (decide_eq_true qi)]
          obtain ⟨lp, lc, xs, M⟩ := B2
          have hlen := M.len
          rw [List.length_set] at hlen
          have ilt := (List.getElem?_eq_some_iff.1 hi).1
          obtain ⟨v2, hv2, hva2⟩ := M.get (i := i) (y := ⟨{ w.c with ses := f.ses, dl := f.till }, w.fate⟩) (by rw [List.getElem?_set_self ilt])
          obtain ⟨lb, lo, rfl⟩ := M.own.addr (by omega)
          have M12 := M.on f12
          simp only [Int.toNat_natCast]
          refine ⟨_, _, _, cell_at M12.blk rfl, ⟨by omega, by omega⟩, onSome_some.2 (ref21_Copy.ldA (M12.own.heldAt cenc_len hv2) (ref21_Copy.set hb3 fun h15 a15 s15 o15 => ?_))⟩
          subst hJ
          have F15 : Fr (fun _ => False) g2 h15 := f12.fresh (S := fun y => y = b3) ⟨by omega, fun y _ hn => o15 y hn⟩ (fun y e => by omega)
          have hb15 := F15.get (st2.fr.get hb2 nY2) id
          have ry : Row h15 y.v.p (bc y.v.b) := ((rowy.frame f9 (fun _ _ => id)).frame st2.fr (fun a ea => (nyb a.block ⟨a, ea, rfl⟩).2)).frame F15 (fun _ _ => id)
          have rw2 : Row h15 v2.v.p (bc v2.v.b) := ((M.dat v2 (List.mem_of_getElem? hv2)).row).frame F15 (fun _ _ => id)
          refine copies_Copy.ld hb15 (ref21_Copy.ld a15 (lsame_ok (y := y) (w := v2) ry rw2 (by rw [ey, hva2]) fun g3 f3 => ⟨_, rfl, ?_⟩))
          rw [if_pos rfl, beq_self_eq_true]
          have FF := F15.tt f3
          have B3 : Rb g3 x Y (Ls.set i ⟨{ w.c with ses := f.ses, dl := f.till }, w.fate⟩) := ⟨_, _, _, M.on FF⟩
          have hwz : w.c ∈ s.L := rel.mem.2 ⟨i, w, hi, by unfold isE at hiE; simp only [Bool.and_eq_true, decide_eq_true_eq] at hiE; exact hiE.1, rfl⟩
          exact fin H9 S9 B3 (StepF.on st2 FF) ⟨l2, I.ok.lease O hwz hm, all_set I.all ((I.all w (List.mem_of_getElem? hi)).lease hm), by rw [List.length_set]; omega⟩
    refine op_eid hb4 ⟨_, cell_at hb4 rfl, _, cell_at hb4 rfl, Cps.lease_ok H4 sm I.ok.bd f.e f.ses f.till rfl (fun hm g fg => ⟨_, _, _, _, _, _, _, _, _, _, _, _, _, rfl, ?_⟩) (fun hm hno g fg => ⟨_, _, _, _, _, _, _, _, _, _, _, _, _, rfl, ?_⟩) (fun hm z hz g X' p' c' H' st rp np => ⟨_, _, _, _, _, _, _, _, _, _, _, _, _, rfl, ?_⟩)⟩
    · exact two zeroV g 1 X s (H4.on fg) (StepF.of_no fg) Row.nil (fun a ⟨b, e, _⟩ => by cases e) (.inl ⟨hm, rfl, rfl, rfl⟩)
    · exact two zeroV g 4 X s (H4.on fg) (StepF.of_no fg) Row.nil (fun a ⟨b, e, _⟩ => by cases e) (.inr (.inl ⟨hm, hno, rfl, rfl, rfl⟩))
    · exact two ⟨z.num, 0, z.e, ⟨p', c', z.d⟩, z.till, f.ses, f.till⟩ g 0 X' _ H' st rp (fun a ha => ⟨(np a ha).2, fun hm => by have := (np a ha).1; have := B4.lt a (.inl hm); omega⟩) (.inr (.inr ⟨hm, rfl, z, hz, rfl, rfl⟩))
  refine JoinP.of fun J hJ => ?_
  have ends : (f.kind = 2 ∨ f.kind = 3) → J true h4 := fun hk23 => by
    subst hJ
    dsimp only
    rw [if_pos rfl]
    refine ⟨_, cell_at hb4 rfl, JoinP.of fun J hJ => ?_⟩
    have go : ∀ (e : Int) g X' s', Ct g t X' s' → StepF X h4 X' g → e = findE s.L f.num f.ses → s' = (if f.kind = 3 then relF s f.num f.ses else ackF s f.num f.ses) → J e g := by
      intro e g X' s' H' st he hs'
      subst hJ
      dsimp only
      have hbg : f.at g b := st.fr.get hb4 nX
      have Bg := keep st
      have same : findE s.L f.num f.ses ≠ 0 → s' = s := fun hne => by
        rw [hs']
        unfold relF ackF
        rw [if_neg hne, if_neg hne]; split <;> rfl
      refine ⟨_, cell_at hbg rfl, _, cell_at hbg rfl, _, cell_at hbg rfl, rend_ok Bg (by omega) (fun hno => ⟨_, rfl, ?_⟩) (fun i y hn hy hf hs => ⟨_, rfl, ?_⟩) (fun i y hn hy hf h1 h2 g2 B2 st2 => ⟨_, rfl, ?_⟩)⟩
      · have e4 := rel.find0 (ses := f.ses) hno
        rw [he, e4, beq_self_eq_true]
        rw [same (by rw [e4]; decide)] at H'
        exact fin H' st Bg (StepF.refl _ _) ⟨I.rel, I.ok, I.all, by omega⟩
      · have e4 := rel.find14 hn hy hf hs
        rw [he, e4, beq_self_eq_true]
        rw [same (by rw [e4]; decide)] at H'
        exact fin H' st Bg (StepF.refl _ _) ⟨I.rel, I.ok, I.all, by omega⟩
      · have e4 := rel.find1 hn hy hf h1 h2
        rw [he, e4, beq_self_eq_true]
        have ky := (I.all y (List.mem_of_getElem? hy)).free
        by_cases k3 : f.kind = 3
        · have : (f.kind == 3) = true := by simpa using k3
          rw [this, if_pos rfl] at B2
          rw [if_pos k3] at hs'
          rw [hs'] at H'
          exact fin H' st B2 st2 ⟨rel.release hn hy hf h1 h2, I.ok.rel O _ _, all_set I.all ky, by rw [List.length_set]; omega⟩
        · have : (f.kind == 3) = false := by simpa using k3
          rw [this, if_neg (by decide)] at B2
          rw [if_neg k3] at hs'
          rw [hs'] at H'
          exact fin H' st B2 st2 ⟨rel.ack hn hy hf h1 h2, I.ok.ack O _ _, all_set I.all ky, by rw [List.length_set]; omega⟩
    by_cases k2 : f.kind = 2
    · rw [if_pos (by simpa using k2)]
      refine ⟨_, cell_at hb4 rfl, _, cell_at hb4 rfl, Cps.ack_ok H4 sm (by omega) f.num f.ses fun g X' H' st => ⟨_, rfl, go _ g X' _ H' st rfl (by rw [if_neg (by omega)])⟩⟩
    · rw [if_neg (by simpa using k2)]
      have k3 : f.kind = 3 := hk23.resolve_left k2
      refine ⟨_, cell_at hb4 rfl, _, cell_at hb4 rfl, Cps.release_ok H4 sm f.num f.ses fun g X' H' st => ⟨_, rfl, go _ g X' _ H' st rfl (by rw [if_pos k3])⟩⟩
  have others : f.kind ≠ 2 → f.kind ≠ 3 → J false h4 := fun k2 k3 => by
    subst hJ
    try dsimp only
    rw [if_neg (by decide)]
    split
    · -- Pass
      refine ⟨_, cell_at hb4 rfl, _, cell_at hb4 rfl, Cps.pass_ok H4 sm (by omega) I.held (f.till : Int) fun g X' p' c' H' st N np => ⟨_, _, _, rfl, ?_⟩⟩
      have hbg : f.at g b := st.fr.get hb4 nX
      have Bg := keep st
      have ltY : ∀ y, Y.M y → y < h4.size := fun y hy => B4.lt y (.inl hy)
      refine ⟨cell_at hbg rfl, rpass_ok f.till rfl Bg (by omega) fun g2 p2 c2 ms o2 n2 B2 st2 hs hm => ⟨_, _, _, rfl, ?_⟩⟩
      have ek := rel.keysEq I.ok O hm hs
      have o1 := N.own.frame st2.fr (fun y hy hq => by have := np y hy; have := ltY y hq; omega)
      rw [ek] at o1
      rw [nums_places] at o2
      have el : (Alarm.due s.E1 (f.till : Int)).length = (ms.map (fun (i : Nat) => (i : Int) + 1)).length := by rw [← ek]; unfold keys; rw [List.length_map]
      have ml : ms.length ≤ 50000 := by
        have h1 := congrArg List.length ek
        unfold keys at h1
        simp only [List.length_map] at h1
        have h2 : (Alarm.due s.E1 (f.till : Int)).length ≤ s.E1.length := by rw [(sorted_split O.o1).1]; exact List.length_filter_le _ _
        have := sm.e1
        omega
      refine ints_ok el (by rw [List.length_map]) o1 o2 (by rw [List.length_map]; omega) ⟨_, rfl, ?_⟩
      have hses : ∀ y ∈ Ls, 0 ≤ y.c.ses := fun y hy => (I.all y hy).s0
      refine fin H' st B2 st2 ⟨rel.pass I.ok O hses hm hs, (pass_all I.ok O (f.till : Int)).1, fun y hy => ?_, by rw [List.length_map, overL_len]; omega⟩
      obtain ⟨z, hz, rfl⟩ := List.mem_map.1 hy
      have hz' : okZ z.c := by
        obtain ⟨j, hj⟩ := List.getElem?_of_mem hz
        rw [overL_at] at hj
        cases hL : Ls[j]? with
        | none => rw [hL] at hj; cases hj
        | some w =>
          rw [hL] at hj
          have hj := Option.some.inj hj
          have kw := I.all w (List.mem_of_getElem? hL)
          dsimp only at hj
          split at hj
          · rw [← hj]; exact kw.free
          · rw [← hj]; exact kw
      unfold freeR
      split
      · exact hz'.free
      · exact hz'
    split
    · -- Drop
      refine op_eid hb4 (ref04_Eid.ld hb1 (Cps.drop_ok H4 sm (by omega) f.e fun g X' p' c' H' st N np => ⟨_, _, _, rfl, ref04_Eid.held (st.fr.get hb1 nX1), ?_⟩))
      have Bg := keep st
      have ltY : ∀ y, Y.M y → y < h4.size := fun y hy => B4.lt y (.inl hy)
      refine rdrop_ok Bg (by omega) f.e fun g2 p2 c2 o2 n2 B2 st2 => ⟨_, _, _, rfl, ?_⟩
      have ek := rel.placesAll f.e
      have o1 := N.own.frame st2.fr (fun y hy hq => by have := np y hy; have := ltY y hq; omega)
      rw [ek] at o1
      rw [nums_places] at o2
      have el : (ofL s.L f.e).length = ((placesE Ls f.e Ls.length).map (fun (i : Nat) => (i : Int) + 1)).length := by rw [← ek, List.length_map]
      have ml : (placesE Ls f.e Ls.length).length ≤ 50000 := by
        rw [List.length_map] at el
        have h2 : (ofL s.L f.e).length ≤ s.L.length := by unfold ofL; exact List.length_filter_le _ _
        have := sm.l
        omega
      refine ints_ok el (by rw [List.length_map]) o1 o2 (by rw [List.length_map]; omega) ⟨_, rfl, ?_⟩
      refine fin H' st B2 st2 ⟨rel.drop O f.e, I.ok.drop O f.e, fun y hy => ?_, by rw [List.length_map]; omega⟩
      obtain ⟨z, hz, rfl⟩ := List.mem_map.1 hy
      unfold goneR
      split
      · exact (I.all z hz).free
      · exact I.all z hz
    · exact fin0 (Fr.refl _ _)
  by_cases k2 : f.kind = 2
  · rw [if_pos (by simpa using k2)]
    have : (f.kind == 2) = true := by simpa using k2
    rw [this]; exact ends (.inl k2)
  · rw [if_neg (by simpa using k2)]
    by_cases k3 : f.kind = 3
    · have : (f.kind == 3) = true := by simpa using k3
      rw [this]; exact ends (.inr k3)
    · have : (f.kind == 3) = false := by simpa using k3
      rw [this]; exact others k2 k3
end Rcp
end Go.Proofs.YtgccegnmggjkjaaGreatDoor

/-
  What is proved here: what a table of copies tells that is nil, or that no call made. No condition.
-/
set_option maxRecDepth 100000
namespace Go.Proofs.YtgccegnmggjkjaaGreatDoor
open Go.Den Go.Fields Go.Heapq
namespace Cps
open Eid Alarm Fld
variable {h h' : Heap} {R : Value → Heap → Prop} {b : Nat} {p : Option Addr} {n c : Nat}
def Zero (h : Heap) (b : Nat) : Prop := h[b]? = some (.cells #[.map none, .int .i64 0, .int .i64 0, .int .i64 0, .int .i64 0, .pointer none, .pointer none] T.copies_Table (0, 0))
theorem made_zero (Z : Zero h b) (hk : R (.bool false) h) : CallsH Tryz.prog F.copies_Table_made #[.pointer (some ⟨b, 0, none⟩)] h R := copies_Table_made.walk ⟨_, cell_at Z rfl, hk⟩
theorem made_nil (hk : R (.bool false) h) : CallsH Tryz.prog F.copies_Table_made #[.pointer none] h R := copies_Table_made.nil.walk hk
theorem sort_nil (hk : ∀ h', Fr (fun _ => False) h h' → R (.tuple #[]) h') : CallsH Tryz.prog F.slices_Sort_s_int_int #[.slice none 0 0] h R :=
  Srt.sort_ok (xs := []) (.nil rfl rfl rfl rfl) rfl List.nodup_nil (by omega) fun h2 ys o2 _ _ f2 => hk h2 (f2.mono (fun y _ ⟨a, e, _⟩ => by cases e))
theorem numbers_zero (Z : Zero h b) (hk : ∀ h', Fr (fun _ => False) h h' → R (.slice none 0 0) h') : CallsH Tryz.prog F.copies_Table_numbers #[.pointer (some ⟨b, 0, none⟩)] h R :=
  copies_Table_numbers.walk (made_zero Z ⟨_, rfl, JoinP.of fun J hJ => by rw [if_neg (by decide)]; subst hJ; exact sort_nil fun h2 f2 => ⟨rfl, hk h2 f2⟩⟩)
theorem numbers_nil (hk : ∀ h', Fr (fun _ => False) h h' → R (.slice none 0 0) h') : CallsH Tryz.prog F.copies_Table_numbers #[.pointer none] h R :=
  copies_Table_numbers.nil.walk (made_nil ⟨_, rfl, JoinP.of fun J hJ => by rw [if_neg (by decide)]; subst hJ; exact sort_nil fun h2 f2 => ⟨rfl, hk h2 f2⟩⟩)
theorem del_nil {c0 c1 : Nat} (hk : R (.slice none 0 0) h) : CallsH Tryz.prog F.slices_DeleteFunc_s_int_int #[.slice none 0 0, .func (.func F.copies_Table_of_1) #[] #[.pointer (some ⟨c0, 0, none⟩), .pointer (some ⟨c1, 0, none⟩)]] h R := by
  refine slices_DeleteFunc_s_int_int.of.walk (slices_IndexFunc_s_int_int.of.walk ⟨fun t g => t = 0 ∧ g = h, fun _ _ => 0, ⟨rfl, rfl⟩, ?_⟩)
  rintro _ _ ⟨rfl, rfl⟩
  rw [if_neg (by decide)]
  refine ⟨_, rfl, ?_⟩
  rw [if_pos (by decide)]
  exact hk
theorem of_nil (x : Ev) (hk : ∀ h', Fr (fun _ => False) h h' → R (.slice none 0 0) h') : CallsH Tryz.prog F.copies_Table_of #[.pointer none, ev5 x] h R := by
  refine copies_Table_of.nil.walk (newP_of (eid_Eid.box fun b1 h2 e2 hb2 f2 => ⟨_, cell_at (f2.get push_new id) rfl, numbers_nil fun h3 f3 => ⟨_, _, _, rfl, del_nil ⟨_, _, _, rfl, ?_⟩⟩⟩))
  exact hk h3 ((Fr.push _ _).tt (f2.tt f3))
theorem of_zero (Z : Zero h b) (x : Ev) (hk : ∀ h', Fr (fun _ => False) h h' → R (.slice none 0 0) h') : CallsH Tryz.prog F.copies_Table_of #[.pointer (some ⟨b, 0, none⟩), ev5 x] h R := by
  refine copies_Table_of.walk (newP_of (eid_Eid.box fun b1 h2 e2 hb2 f2 => ?_))
  have f1 : Fr (fun _ => False) h (h.push (.cells #[.pointer (some ⟨b, 0, none⟩)] T.p_copies_Table)) := Fr.push _ _
  refine ⟨_, cell_at (f2.get push_new id) rfl, numbers_zero ((f1.tt f2).get Z id) fun h3 f3 => ⟨_, _, _, rfl, del_nil ⟨_, _, _, rfl, ?_⟩⟩⟩
  exact hk h3 (f1.tt (f2.tt f3))
theorem ready_nil (x : Ev) (hk : ∀ h', Fr (fun _ => False) h h' → R (.int .i64 0) h') : CallsH Tryz.prog F.copies_Table_Ready #[.pointer none, ev5 x] h R := by
  refine copies_Table_Ready.nil.walk (eid_Eid.box fun b1 h1 e1 hb1 f1 => eid_Eid.ld hb1 (of_nil x fun h2 f2 => ⟨_, _, _, rfl, fun n t g => n = 0 ∧ t = 0 ∧ g = h2, fun _ _ _ => 0, ⟨rfl, rfl, rfl⟩, ?_⟩))
  rintro _ _ _ ⟨rfl, rfl, rfl⟩
  rw [if_neg (by decide)]
  exact hk _ (f1.tt f2)
theorem add_nil (x : Ev) {k : Int} (hk : ∀ h', Fr (fun _ => False) h h' → R (.tuple #[.int .i64 0, .int .i64 6]) h') : CallsH Tryz.prog F.copies_Table_Add #[.pointer none, ev5 x, .slice p n c, .int .u64 k] h R :=
  copies_Table_Add.nil.walk (eid_Eid.box fun b1 h1 e1 hb1 f1 => made_nil ⟨_, rfl, by rw [if_pos (by decide)]; exact hk h1 f1⟩)
theorem ack_nil {num ses : Int} (hk : R (.int .i64 6) h) : CallsH Tryz.prog F.copies_Table_Ack #[.pointer none, .int .i64 num, .int .i64 ses] h R :=
  copies_Table_Ack.nil.walk (copies_Table_find.nil.walk (made_nil ⟨_, rfl, by rw [if_pos (by decide)]; exact ⟨_, _, rfl, JoinP.of fun J hJ => by rw [if_neg (by decide)]; subst hJ; exact hk⟩⟩))
theorem release_zero (Z : Zero h b) {num ses : Int} (hk : R (.int .i64 6) h) : CallsH Tryz.prog F.copies_Table_Release #[.pointer (some ⟨b, 0, none⟩), .int .i64 num, .int .i64 ses] h R :=
  copies_Table_Release.walk (copies_Table_find.walk (made_zero Z ⟨_, rfl, by rw [if_pos (by decide)]; exact ⟨_, _, rfl, JoinP.of fun J hJ => by rw [if_neg (by decide)]; subst hJ; exact hk⟩⟩))
theorem pass_nil {k : Int} (hk : R (.slice none 0 0) h) : CallsH Tryz.prog F.copies_Table_Pass #[.pointer none, .int .u64 k] h R :=
  copies_Table_Pass.nil.walk (made_nil ⟨_, rfl, by rw [if_pos (by decide)]; exact hk⟩)
theorem drop_zero (Z : Zero h b) (x : Ev) (hk : ∀ h', Fr (fun _ => False) h h' → R (.slice none 0 0) h') : CallsH Tryz.prog F.copies_Table_Drop #[.pointer (some ⟨b, 0, none⟩), ev5 x] h R := by
  refine copies_Table_Drop.walk (eid_Eid.box fun b1 h1 e1 hb1 f1 => eid_Eid.ld hb1 (of_zero (f1.get Z id) x fun h2 f2 => ⟨_, _, _, rfl, fun t g => t = 0 ∧ g = h2, fun _ _ => 0, ⟨rfl, rfl⟩, ?_⟩))
  rintro _ _ ⟨rfl, rfl⟩
  rw [if_neg (by decide)]
  exact hk _ (f1.tt f2)
theorem all_zero (Z : Zero h b) (hk : ∀ h', Fr (fun _ => False) h h' → R (.slice none 0 0) h') : CallsH Tryz.prog F.copies_Table_All #[.pointer (some ⟨b, 0, none⟩)] h R := by
  refine copies_Table_All.walk (numbers_zero Z fun h1 f1 => ⟨_, _, _, rfl, fun op ol oc t g => op = none ∧ ol = 0 ∧ oc = 0 ∧ t = 0 ∧ g = h1, fun _ _ _ _ _ => 0, ⟨rfl, rfl, rfl, rfl, rfl⟩, ?_⟩)
  rintro _ _ _ _ _ ⟨rfl, rfl, rfl, rfl, rfl⟩
  rw [if_neg (by decide)]
  exact hk _ f1
theorem save_nil (hk : R (.slice none 0 0) h) : CallsH Tryz.prog F.copies_Table_Save #[.pointer none] h R :=
  copies_Table_Save.nil.walk (made_nil ⟨_, rfl, by rw [if_pos (by decide)]; exact hk⟩)
theorem lease_zero (Z : Zero h b) (x : Ev) {ses k : Int} (hk : ∀ h', Fr (fun _ => False) h h' → R (.tuple #[zeroC, .int .i64 6]) h') : CallsH Tryz.prog F.copies_Table_Lease #[.pointer (some ⟨b, 0, none⟩), ev5 x, .int .i64 ses, .int .u64 k] h R := by
  refine copies_Table_Lease.walk (eid_Eid.box fun b1 h1 e1 hb1 f1 => newP_of ?_)
  have f2 : Fr (fun _ => False) h1 (h1.push (.cells #[.int .i64 0, .bool false, .int .u64 0, .int .u64 0, .string ⟨#[]⟩, .string ⟨#[]⟩, .slice none 0 0, .int .u64 0, .int .i64 0, .int .u64 0] T.copies_Copy)) := Fr.push _ _
  have hb2 : copies_Copy.at (h1.push (.cells #[.int .i64 0, .bool false, .int .u64 0, .int .u64 0, .string ⟨#[]⟩, .string ⟨#[]⟩, .slice none 0 0, .int .u64 0, .int .i64 0, .int .u64 0] T.copies_Copy)) h1.size 0 false 0 0 ⟨#[]⟩ ⟨#[]⟩ none 0 0 0 0 0 := push_new
  refine made_zero ((f1.tt f2).get Z id) ⟨_, rfl, ?_⟩
  rw [if_pos (by decide)]
  exact copies_Copy.set hb2 fun h3 a3 s3 o3 => copies_Copy.ld a3 (hk h3 ((f1.tt f2).fresh (S := fun y => y = h1.size) ⟨by omega, fun y _ hn => o3 y hn⟩ (fun y e => by have := f1.1; omega)))
theorem counts_zero (Z : Zero h b) (hk : ∀ h', Fr (fun _ => False) h h' → R (.agg #[.int .i64 0, .int .i64 0, .int .i64 0, .int .i64 0, .int .i64 0, .int .i64 0]) h') : CallsH Tryz.prog F.copies_Table_Counts #[.pointer (some ⟨b, 0, none⟩)] h R := by
  refine copies_Table_Counts.walk (a6_int.box fun b1 h1 e1 hb1 f1 => made_zero (f1.get Z id) ⟨_, rfl, ?_⟩)
  rw [if_pos (by decide)]
  exact a6_int.set hb1 fun h3 a3 s3 o3 => a6_int.ld a3 (hk h3 (f1.fresh (S := fun y => y = b1) ⟨by omega, fun y _ hn => o3 y hn⟩ (fun y e => by omega)))
end Cps
end Go.Proofs.YtgccegnmggjkjaaGreatDoor

/-
  What is proved here: the law CopiesLives on heaps ('copiesLives_ok'). No condition.
-/
set_option maxRecDepth 100000
namespace Go.Proofs.YtgccegnmggjkjaaGreatDoor
open Go.Den Go.Fields Go.Heapq
namespace Rcp
open Eid Cps Fld Alarm
variable {h h' h0 : Heap} {t x : Nat} {X X' Y Y' : Ft} {R : Value → Heap → Prop} {p q : Option Addr} {c d i k : Nat} {Ls Ls' : List RC} {s s' : CF}
theorem eid_tl : tleaves Tryz.prog 5 T.eid_Eid = some [T.bool, T.uint64, T.uint64, T.string, T.string] := by kernel_rfl
theorem eid_arg {cs : Array Value} (hs : cs.size = Tryz.prog.cellsOf T.eid_Eid) (hv : RokV Tryz.prog h T.eid_Eid (.agg cs)) : ∃ e : Ev, Value.agg cs = ev5 e := by
  have hs : cs.size = 5 := hs.trans (by kernel_rfl)
  obtain ⟨n, hr⟩ := hv
  have hr : Rok Tryz.prog h n T.eid_Eid cs.toList := hr
  have L := tleaves_ok 5 n _ _ cs.toList eid_tl (by rw [Array.length_toList, hs]; rfl) hr
  obtain ⟨l⟩ := cs
  match l, hs with
  | [a, b, c, d, e], _ =>
    obtain ⟨k3, rfl⟩ := L.bool 0 rfl rfl (by kernel_rfl)
    obtain ⟨k4, rfl, _⟩ := L.int 1 rfl rfl (k := .u64) (by kernel_rfl)
    obtain ⟨k5, rfl, _⟩ := L.int 2 rfl rfl (k := .u64) (by kernel_rfl)
    obtain ⟨m6, hm6⟩ := L.get 3 rfl rfl
    obtain ⟨k6, rfl⟩ := Cps.Rok.str hm6
    obtain ⟨m7, hm7⟩ := L.get 4 rfl rfl
    obtain ⟨k7, rfl⟩ := Cps.Rok.str hm7
    exact ⟨⟨k3, k4, k5, k6, k7⟩, rfl⟩

set_option maxHeartbeats 8000000 in
theorem _root_.Go.Proofs.YtgccegnmggjkjaaGreatDoor.copiesLives_ok (op : Option Addr) (ol oc : Nat) (ask : Array Value) (hv : RokV Tryz.prog h T.s_law21_Op (.slice op ol oc)) (hs5 : ask.size = Tryz.prog.cellsOf T.eid_Eid) (ha : RokV Tryz.prog h T.eid_Eid (.agg ask)) (tb : Num.Tab h) : LawH Tryz.prog F.law21_CopiesLives #[.slice op ol oc, .agg ask] h := by
  obtain ⟨fs, rfl, hrow, hok⟩ := ops_read2 hv
  obtain ⟨e, he⟩ := eid_arg hs5 ha
  rw [he]
  clear hv ha he hs5
  unfold LawH
  generalize hR : (fun (v : Value) h' => v = .bool true ∧ Fr (fun _ => False) h h') = R
  have hk : ∀ h', Fr (fun _ => False) h h' → R (.bool true) h' := fun h' hf => by rw [← hR]; exact ⟨rfl, hf⟩
  clear hR
  refine law21_CopiesLives.walk (eid_Eid.box fun b h1 eb hb f1 => Cps.new_ok fun h2 t X1 H2 u2 => ⟨_, rfl, newP_of ?_⟩)
  have f3 : Fr (fun _ => False) h2 (h2.push (.cells #[.slice none 0 0] T.ref21_Table)) := Fr.push _ _
  have hb3 : (h2.push (.cells #[.slice none 0 0] T.ref21_Table))[h2.size]? = some (.cells #[.slice none 0 0] T.ref21_Table (0, 0)) := push_new
  generalize h2.push (.cells #[.slice none 0 0] T.ref21_Table) = h3 at f3 hb3 ⊢
  have hx0 : ∀ c, X1.M c ∨ X1.D c → h1.size ≤ c ∧ c < h2.size := fun c hc => ⟨u2.ge c hc, H2.lt c hc⟩
  have hx1 : h1.size ≤ h2.size := u2.fr.1
  have lb := lt_of_get hb
  have z1 := f1.1
  generalize h2.size = x at hb3 hx0 hx1 ⊢
  have F3 : Fr (fun _ => False) h1 h3 := u2.fr.tt f3
  have hbb := F3.get hb id
  have B3 : Rb h3 x ⟨fun c => c = x, fun _ => False⟩ [] := ⟨none, 0, [], ⟨hb3, .nil rfl rfl rfl rfl, rfl, (fun y hy => by cases hy), (fun c => ⟨.inl, fun hc => hc.resolve_right (fun ⟨a, e, _⟩ => by cases e)⟩), (fun ⟨a, e, _⟩ => by cases e), (fun c _ hd => hd), (fun c hd => hd.elim)⟩⟩
  refine ⟨_, cell_at hbb rfl, _, cell_at hbb rfl, ?_⟩
  by_cases hbig : decide ((IntKind.wrap .i64 (((e.host.size : Nat) : Int) + ((e.dem.size : Nat) : Int))) > 300) = true
  · rw [if_pos hbig]
    exact alive_ok fun h4 f4 => ⟨_, rfl, hk h4 (f1.tt (F3.tt f4))⟩
  rw [if_neg hbig]
  refine ⟨fun i g => ∃ (k : Nat) (X Y : Ft) (s : CF) (Ls : List RC), i = (k : Int) ∧ k ≤ 80 ∧ Ct g t X s ∧ Rb g x Y Ls ∧ Inv s Ls k ∧ Fr (fun _ => False) h1 g ∧ (∀ c, X.M c ∨ X.D c → h1.size ≤ c) ∧ (∀ c, Y.M c ∨ Y.D c → h1.size ≤ c) ∧ Apart X Y, fun i _ => 80 - i.toNat,
    ⟨0, X1, _, _, [], rfl, by omega, H2.on f3, B3, Inv.nil, F3, (fun c hc => (hx0 c hc).1), (fun c hc => by rcases hc with rfl | hc; exact hx1; exact hc.elim), fun c h1 h2 => by rcases h2 with rfl | h2; exact absurd (hx0 _ h1).2 (Nat.lt_irrefl _); exact h2⟩, ?_⟩
  clear B3 hb3 f3 u2 H2 hx0 hx1 F3 hbb
  rintro _ h5 ⟨k, X, Y, s, Ls, rfl, hk80, H, B, I, fg, gX, gY, ap⟩
  have Fg := f1.tt fg
  refine JoinP.of fun J hJ => ?_
  by_cases hl : k < fs.length ∧ k < 80
  · have q1 : (k : Int) < ((fs.length : Nat) : Int) := by omega
    have q2 : (k : Int) < 80 := by omega
    simp only [q1, q2, decide_true, if_true]
    subst hJ
    simp only [if_true, Int.toNat_natCast]
    obtain ⟨f, hf⟩ : ∃ f, fs[k]? = some f := ⟨fs[k], List.getElem?_eq_getElem hl.1⟩
    have row5 := hrow.frame Fg (fun _ _ => id)
    obtain ⟨a, rfl⟩ := row5.some (by intro e; cases fs with | nil => simp at hf | cons => simp at e)
    have bnd : ((0 : Int) ≤ (k : Int) ∧ (k : Int) < ((fs.length : Nat) : Int)) := ⟨by omega, by omega⟩
    refine ⟨⟨by first | trivial | omega, by first | trivial | omega⟩, onSome_some.2 (law21_Op.ldA (row5.heldAt oenc_len hf) (great_ok f fun great h7 f7 => ⟨_, rfl, ?_⟩))⟩
    by_cases hgr : great = true
    · rw [if_pos hgr]
      exact alive_ok fun h8 f8 => ⟨_, rfl, hk h8 (Fg.tt (f7.tt f8))⟩
    rw [if_neg hgr]
    refine JoinP.of fun J1 hJ1 => ?_
    have row7 := row5.frame f7 (fun _ _ => id)
    obtain ⟨rf, sf⟩ := hok f (List.mem_of_getElem? hf)
    have F7 := Fg.tt f7
    have rowf := rf.frame F7 (fun _ _ => id)
    refine ⟨⟨by first | trivial | omega, by first | trivial | omega⟩, onSome_some.2 (law21_Op.ldA (row7.heldAt oenc_len hf) (do_ok (H.on f7) (B.on f7) I ap (by omega) f rowf (fun hne a ea => ?_) sf fun h10 X' Y' s' Ls' H' B' I' tw => ⟨_, rfl, ?_⟩))⟩
    · have hlt : a.block < h.size := row_lt rf (by intro e; apply hne; have := congrArg List.length e; rw [bc_len] at this; exact List.length_eq_zero_iff.1 this) ⟨a, ea, rfl⟩
      exact ⟨fun hm => by have := gX _ (.inl hm); omega, fun hm => by have := gY _ (.inl hm); omega⟩
    rw [if_neg (by decide)]
    have z7 := (fg.tt f7).1
    have F10 : Fr (fun _ => False) h1 h10 := (fg.tt f7).fresh tw.fr (fun c hc => hc.elim (fun hm => gX c (.inl hm)) (fun hm => gY c (.inl hm)))
    have gX' : ∀ c, X'.M c ∨ X'.D c → h1.size ≤ c := fun c hc => (tw.nx c hc).elim (gX c) (fun h1 => by omega)
    have gY' : ∀ c, Y'.M c ∨ Y'.D c → h1.size ≤ c := fun c hc => (tw.ny c hc).elim (gY c) (fun h1 => by omega)
    refine Same_ok H' B' I' (by omega) fun h11 f11 => ⟨_, rfl, ?_⟩
    rw [if_neg (by decide)]
    have O' := H'.ord
    have sm' := I'.small O' (by omega)
    have hbb := (F10.tt f11).get hb id
    refine eid_Eid.ld hbb (eid_Eid.ld hbb (Cps.ready_ok (H'.on f11) sm' e fun h12 f12 => ⟨_, rfl, eid_Eid.held (f12.get hbb id), Eid.as_ok e fun h13 f13 => ⟨_, _, _, _, _, rfl, ready_ok (B'.on (f11.tt (f12.tt f13))) (by have := I'.len; omega) e fun h14 f14 => ⟨_, rfl, ?_⟩⟩⟩))
    have er : ((readyN s'.L e : Int) != (cntE Ls' e true : Int)) = false := by rw [I'.rel.ready]; simp
    rw [er]
    subst hJ1
    dsimp only
    rw [if_neg (by decide), wrap_id (by omega) (by omega)]
    have F14 := f11.tt (f12.tt (f13.tt f14))
    exact ⟨⟨k + 1, X', Y', s', Ls', by omega, by omega, H'.on F14, B'.on F14, I', F10.tt F14, gX', gY', tw.ap⟩, by show 80 - Int.toNat ((k : Int) + 1) < 80 - k; omega⟩
  · have hJf : J false h5 := by
      subst hJ
      dsimp only
      rw [if_neg (by decide)]
      refine newP_of ?_
      have f6 : Fr (fun _ => False) h5 (h5.push (.cells #[.map none, .int .i64 0, .int .i64 0, .int .i64 0, .int .i64 0, .pointer none, .pointer none] T.copies_Table)) := Fr.push _ _
      have Z6 : Cps.Zero (h5.push (.cells #[.map none, .int .i64 0, .int .i64 0, .int .i64 0, .int .i64 0, .pointer none, .pointer none] T.copies_Table)) h5.size := push_new
      generalize h5.push (.cells #[.map none, .int .i64 0, .int .i64 0, .int .i64 0, .int .i64 0, .pointer none, .pointer none] T.copies_Table) = h6 at f6 Z6 ⊢
      generalize h5.size = z at Z6 ⊢
      refine home_ok fun h7 f7 => ⟨_, _, _, _, _, rfl, Fld.lit_ok (bs := [97]) rfl fun h8 r8 f8 => Cps.add_nil _ fun h9 f9 => ⟨_, _, rfl, ?_⟩⟩
      have F9 := f7.tt (f8.tt f9)
      refine home_ok fun h10 f10 => ⟨_, _, _, _, _, rfl, lease_zero ((F9.tt f10).get Z6 id) _ fun h11 f11 => ⟨_, _, _, _, _, _, _, _, _, _, _, _, _, rfl, copies_Copy.new fun b12 h12 e12 hb12 f12 => ?_⟩⟩
      have F12 := F9.tt (f10.tt (f11.tt f12))
      refine alive_ok fun h13 f13 => ⟨_, rfl, ?_⟩
      rw [if_pos rfl]
      have F13 := f6.tt (F12.tt f13)
      have O := H.ord
      have sm := I.small O (by omega)
      have cn := I.cnts (by omega)
      refine Cps.save_ok (H.on F13) sm ⟨by omega, by omega, by omega⟩ I.okL (tb.on (Fg.tt F13)) fun h14 p14 l14 c14 B14 f14 => ⟨_, _, _, rfl, ?_⟩
      refine rsave_ok (B.on (F13.tt f14)) (by have := I.len; omega) I.rel.fates (fun z hz => I.okL z (by rw [I.rel.there]; exact hz)) fun h15 p15 l15 c15 B15 f15 => ⟨_, _, _, rfl, ?_⟩
      obtain ⟨xs, r1, e1⟩ := (B14.on f15).to_rows
      obtain ⟨ys, r2, e2⟩ := B15.to_rows
      have ln := B14.len
      have lL := I.L
      rw [recsC, List.length_cons, List.length_map] at ln
      refine Fld.same_ok r1 r2 (by omega) ⟨_, rfl, ?_⟩
      rw [decide_eq_true (e1.trans (by rw [e2, I.rel.recs])), if_pos rfl, if_pos (by decide), if_pos (by decide)]
      have F15 := F12.tt (f13.tt (f14.tt f15))
      refine Cps.ack_nil ⟨_, rfl, ?_⟩
      rw [if_pos (by decide)]
      refine Cps.release_zero (F15.get Z6 id) ⟨_, rfl, ?_⟩
      rw [if_pos (by decide)]
      refine Cps.pass_nil ⟨_, _, _, rfl, home_ok fun h16 f16 => ⟨_, _, _, _, _, rfl, drop_zero ((F15.tt f16).get Z6 id) _ fun h17 f17 => ⟨_, _, _, rfl, home_ok fun h18 f18 => ⟨_, _, _, _, _, rfl, ready_nil _ fun h19 f19 => ⟨_, rfl, ?_⟩⟩⟩⟩⟩
      have F19 := F15.tt (f16.tt (f17.tt (f18.tt f19)))
      refine Cps.all_zero (F19.get Z6 id) fun h20 f20 => ⟨_, _, _, rfl, Cps.save_nil ⟨_, _, _, rfl, ?_⟩⟩
      rw [if_pos (by decide)]
      refine Cps.counts_zero ((F19.tt f20).get Z6 id) fun h21 f21 => ⟨_, _, _, _, _, _, rfl, true, eqv6 0 0 0 0 0 0, ?_⟩
      exact hk h21 (Fg.tt (f6.tt (F19.tt (f20.tt f21))))
    by_cases q1 : k < fs.length
    · have q2 : ¬ k < 80 := fun e => hl ⟨q1, e⟩
      have q1 : (k : Int) < ((fs.length : Nat) : Int) := by omega
      have q2 : ¬ (k : Int) < 80 := by omega
      simp only [q1, q2, decide_true, decide_false, if_true]
      exact hJf
    · have q1 : ¬ (k : Int) < ((fs.length : Nat) : Int) := by omega
      simp only [q1, decide_false, Bool.false_eq_true, if_false]
      exact hJf
end Rcp
end Go.Proofs.YtgccegnmggjkjaaGreatDoor

/-
  What is proved here: from a row's listed variables to the table of the powers of ten in the heap. No condition.
-/
set_option maxRecDepth 100000
namespace Go.Proofs.YtgccegnmggjkjaaGreatDoor
open Go.Den
namespace Num
theorem Tab.of_laid {W : World} {l : List (String × DataW Unit)} {s : String} (hs : Tryz.prog.globalNamed s = some 0) (h : laidMet Tryz.prog l W) (hm : (s, Lib.tabData .u64 Lib.pow10Tab) ∈ l) : Tab W.heap := by
  obtain ⟨g, t, cs, fuel, p, hg, ht, hv, hd⟩ := Lib.laidMet.reads h hm
  have hg : Tryz.prog.globalNamed s = some g := hg
  unfold World.var? at hv
  rw [hg] at hv
  have hv' : (match W.heap[g]? with | some (.cells cs _ _) => some cs | _ => none) = some cs := hv
  cases hh : W.heap[g]? with
  | none => rw [hh] at hv'; cases hv'
  | some o =>
    rw [hh] at hv'
    cases o with
    | cells c ty fz =>
      obtain rfl : c = cs := Option.some.inj hv'
      have eg : g = 0 := Option.some.inj (hg.symm.trans hs)
      subst eg
      refine ⟨ty, fz, ?_⟩
      have htt : t = T.a20_uint64 := by
        have e : (Tryz.prog.globals[(0 : Nat)]?).map (·.type) = some T.a20_uint64 := by kernel_rfl
        exact Option.some.inj (ht.symm.trans e)
      subst htt
      have := Lib.cells_of_tab (n := 20) (e := T.uint64) (by kernel_rfl) (by kernel_rfl) (by kernel_rfl) (by kernel_rfl) hd
      rw [hh, ← this]
    | _ => cases hv'
end Num
end Go.Proofs.YtgccegnmggjkjaaGreatDoor
