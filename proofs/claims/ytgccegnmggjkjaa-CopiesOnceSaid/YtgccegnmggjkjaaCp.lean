/-
  What is proved here: a table of copies in memory: what it is, and what stays of it. No condition.
-/
import Derived.Test.YtgccegnmggjkjaaEidC
import Derived.Test.YtgccegnmggjkjaaSep
import Derived.Test.YtgccegnmggjkjaaRing
import Derived.Test.YtgccegnmggjkjaaVcC
set_option maxRecDepth 100000
namespace Go.Proofs.Ytgccegnmggjkjaa
open Go.Den Go.Heapq
namespace Cps
open Eid Alarm
variable {h h' : Heap} {R : Value → Heap → Prop} {t : Nat} {X : Ft}

structure Cp where
  num : Nat
  e : Ev
  d : List UInt8
  till : Nat
  ses : Int
  dl : Nat
structure CV where
  num : Nat
  b : Nat
  e : Ev
  v : BV
  till : Nat
  ses : Int
  dl : Nat
def CV.abs (x : CV) : Cp := ⟨x.num, x.e, x.v.b, x.till, x.ses, x.dl⟩
abbrev CV.at (h : Heap) (b : Nat) (x : CV) : Prop := copies_Copy.at h b (x.num : Int) x.e.ipn x.e.node x.e.svc x.e.host x.e.dem x.v.p x.v.b.length x.v.c (x.till : Int) x.ses (x.dl : Int)
/-- a table: its copies by number, its counts, what its alarms hold -/
structure CF where
  L : List Cp
  next : Nat
  acked : Nat
  over : Nat
  gone : Nat
  E1 : List E
  E2 : List E
abbrev ienc (n : Int) : Value := .int .i64 n
theorem ikey : KeyOk Try.prog T.int ienc := ⟨fun a b h => by kernel_rfl, fun e a h => by kernel_rfl, by
  have hu : Try.prog.underlying T.int = some (.int .i64) := by kernel_rfl
  exact ⟨_, hu, fun a b => .inr rfl⟩, fun a => by simp [Instr.sameBits]⟩
theorem mapTy : MapKy Try.prog T.m_int_p_copies_Copy ienc (.pointer none) := MapKy.of T.int T.p_copies_Copy (by kernel_rfl) ikey (by kernel_rfl)
abbrev CV.pair (x : CV) : Int × Value := ((x.num : Int), .pointer (some ⟨x.b, 0, none⟩))
structure Cm (h : Heap) (t : Nat) (X : Ft) (s : CF) (m : Nat) (xs : List CV) (a1 : Nat) (S1 : Nat → Prop) (a2 : Nat) (S2 : Nat → Prop) (lab : Nat → Option Nat) : Prop where
  blk : h[t]? = some (.cells #[.map (some m), .int .i64 (s.next : Int), .int .i64 (s.acked : Int), .int .i64 (s.over : Int), .int .i64 (s.gone : Int), .pointer (some ⟨a1, 0, none⟩), .pointer (some ⟨a2, 0, none⟩)] T.copies_Table (0, 0))
  map : MapP h m ienc (xs.map CV.pair)
  cps : ∀ x ∈ xs, x.at h x.b
  abs : xs.map CV.abs = s.L
  dat : ∀ x ∈ xs, x.v.ok h X.D
  al1 : Al h a1 S1 s.E1
  al2 : Al h a2 S2 s.E2
  l0 : lab t = some 0
  l1 : lab m = some 1
  l2 : ∀ c, S1 c → lab c = some 2
  l3 : ∀ c, S2 c → lab c = some 3
  l4 : ∀ x ∈ xs, lab x.b = some (4 + x.num)
  mm : ∀ c, X.M c ↔ lab c ≠ none
  dd : ∀ c, X.D c → lab c = none ∧ c < h.size
  lsz : ∀ c, lab c ≠ none → c < h.size
  so : (xs.map CV.num).Pairwise (· < ·)
def Ct (h : Heap) (t : Nat) (X : Ft) (s : CF) : Prop := ∃ m xs a1 S1 a2 S2 lab, Cm h t X s m xs a1 S1 a2 S2 lab
variable {s s' : CF} {m a1 a2 : Nat} {xs : List CV} {S1 S2 S1' S2' : Nat → Prop} {lab : Nat → Option Nat}

/-- a block of one label changes: all else stays -/
structure Kept (h' : Heap) (t : Nat) (X : Ft) (s : CF) (m : Nat) (xs : List CV) (a1 : Nat) (S1 : Nat → Prop) (a2 : Nat) (S2 : Nat → Prop) (k : Nat) : Prop where
  blk : k ≠ 0 → h'[t]? = some (.cells #[.map (some m), .int .i64 (s.next : Int), .int .i64 (s.acked : Int), .int .i64 (s.over : Int), .int .i64 (s.gone : Int), .pointer (some ⟨a1, 0, none⟩), .pointer (some ⟨a2, 0, none⟩)] T.copies_Table (0, 0))
  map : k ≠ 1 → MapP h' m ienc (xs.map CV.pair)
  al1 : k ≠ 2 → Al h' a1 S1 s.E1
  al2 : k ≠ 3 → Al h' a2 S2 s.E2
  cps : ∀ x ∈ xs, k ≠ 4 + x.num → x.at h' x.b
  dat : ∀ x ∈ xs, x.v.ok h' X.D
theorem Cm.keep {Q : Nat → Prop} {k : Nat} (H : Cm h t X s m xs a1 S1 a2 S2 lab) (f : Fr Q h h') (hq : ∀ c, Q c → c < h.size → lab c = some k) : Kept h' t X s m xs a1 S1 a2 S2 k := by
  have no : ∀ {c j : Nat}, c < h.size → lab c = some j → k ≠ j → ¬ Q c := fun hc hl hk hQ => hk (by have := hq _ hQ hc; rw [hl] at this; exact (Option.some.inj this).symm)
  refine ⟨fun hk => f.get H.blk (no (lt_of_get H.blk) H.l0 hk), fun hk => H.map.frame f (no H.map.lt H.l1 hk), fun hk => ?_, fun hk => ?_, fun x hx hk => f.get (H.cps x hx) (no (lt_of_get (H.cps x hx)) (H.l4 x hx) hk), fun x hx => ?_⟩
  · exact H.al1.frame f (fun c hc => no (H.al1.lt hc) (H.l2 c hc) hk)
  · exact H.al2.frame f (fun c hc => no (H.al2.lt hc) (H.l3 c hc) hk)
  · refine (H.dat x hx).frame f (fun c hc hQ => ?_)
    have := H.dd c hc
    have h2 := hq c hQ this.2
    rw [this.1] at h2; cases h2
theorem Cm.frame {Q : Nat → Prop} (H : Cm h t X s m xs a1 S1 a2 S2 lab) (f : Fr Q h h') (hq : ∀ y, X.M y ∨ X.D y → ¬ Q y) : Cm h' t X s m xs a1 S1 a2 S2 lab := by
  have no : ∀ {c j : Nat}, lab c = some j → ¬ Q c := fun hl => hq _ (.inl ((H.mm _).2 (by rw [hl]; simp)))
  exact ⟨f.get H.blk (no H.l0), H.map.frame f (no H.l1), fun x hx => f.get (H.cps x hx) (no (H.l4 x hx)), H.abs, fun x hx => (H.dat x hx).frame f (fun c hc => hq c (.inr hc)),
    H.al1.frame f (fun c hc => no (H.l2 c hc)), H.al2.frame f (fun c hc => no (H.l3 c hc)), H.l0, H.l1, H.l2, H.l3, H.l4, H.mm, fun c hc => ⟨(H.dd c hc).1, Nat.lt_of_lt_of_le (H.dd c hc).2 f.1⟩, fun c hc => Nat.lt_of_lt_of_le (H.lsz c hc) f.1, H.so⟩
theorem Cm.on (H : Cm h t X s m xs a1 S1 a2 S2 lab) (f : Fr (fun _ => False) h h') : Cm h' t X s m xs a1 S1 a2 S2 lab := H.frame f (fun _ _ => id)
theorem Ct.frame {Q : Nat → Prop} (H : Ct h t X s) (f : Fr Q h h') (hq : ∀ y, X.M y ∨ X.D y → ¬ Q y) : Ct h' t X s := by
  obtain ⟨m, xs, a1, S1, a2, S2, lab, H⟩ := H; exact ⟨m, xs, a1, S1, a2, S2, lab, H.frame f hq⟩
theorem Ct.on (H : Ct h t X s) (f : Fr (fun _ => False) h h') : Ct h' t X s := H.frame f (fun _ _ => id)
theorem Ct.lt (H : Ct h t X s) (y : Nat) (hy : X.M y ∨ X.D y) : y < h.size := by
  obtain ⟨m, xs, a1, S1, a2, S2, lab, H⟩ := H
  rcases hy with hy | hy
  · exact H.lsz y ((H.mm y).1 hy)
  · exact (H.dd y hy).2
theorem Cm.step {Q : Nat → Prop} {k : Nat} (H : Cm h t X s m xs a1 S1 a2 S2 lab) (f : Fr Q h h') (hq : ∀ c, Q c → c < h.size → lab c = some k) : StepF X h X h' :=
  StepF.of_fr (f.mono fun c hc hQ => (H.mm c).2 (by rw [hq c hQ hc]; simp))
/-! ### one part changes -/
theorem Cm.field (H : Cm h t X s m xs a1 S1 a2 S2 lab) (hL : s'.L = s.L) (h1 : s'.E1 = s.E1) (h2 : s'.E2 = s.E2)
    (hb : h'[t]? = some (.cells #[.map (some m), .int .i64 (s'.next : Int), .int .i64 (s'.acked : Int), .int .i64 (s'.over : Int), .int .i64 (s'.gone : Int), .pointer (some ⟨a1, 0, none⟩), .pointer (some ⟨a2, 0, none⟩)] T.copies_Table (0, 0)))
    (hs : h'.size = h.size) (ho : ∀ x, x ≠ t → h'[x]? = h[x]?) : Cm h' t X s' m xs a1 S1 a2 S2 lab ∧ StepF X h X h' := by
  have f : Fr (fun c => c = t) h h' := ⟨by omega, fun c _ hn => ho c hn⟩
  have hq : ∀ c, c = t → c < h.size → lab c = some 0 := fun c e _ => by rw [e]; exact H.l0
  have K := H.keep f hq
  refine ⟨⟨hb, K.map (by omega), fun x hx => K.cps x hx (by omega), H.abs.trans hL.symm, K.dat, by rw [h1]; exact K.al1 (by omega), by rw [h2]; exact K.al2 (by omega), H.l0, H.l1, H.l2, H.l3, H.l4, H.mm, fun c hc => by rw [hs]; exact H.dd c hc, fun c hc => by rw [hs]; exact H.lsz c hc, H.so⟩, H.step f hq⟩
def relab (lab : Nat → Option Nat) (S : Nat → Prop) [DecidablePred S] (k : Nat) : Nat → Option Nat := fun c => if S c then some k else lab c
/-- the alarm of the leases -/
theorem Cm.alarm2 {E' : List E} (H : Cm h t X s m xs a1 S1 a2 S2 lab) (A : Al h' a2 S2' E') (hS : ∀ c, S2' c → S2 c ∨ h.size ≤ c) (f : Fr S2 h h') (hL : s'.L = s.L) (h1 : s'.E1 = s.E1) (h2 : s'.E2 = E') (hn : s'.next = s.next ∧ s'.acked = s.acked ∧ s'.over = s.over ∧ s'.gone = s.gone) :
    ∃ X' lab', Cm h' t X' s' m xs a1 S1 a2 S2' lab' ∧ StepF X h X' h' ∧ ∀ c, X'.M c → X.M c ∨ S2' c := by
  classical
  have hq : ∀ c, S2 c → c < h.size → lab c = some 3 := fun c hc _ => H.l3 c hc
  have K := H.keep f hq
  have z := f.1
  let lab' := relab lab S2' 3
  have keepL : ∀ {c j : Nat}, lab c = some j → j ≠ 3 → lab' c = some j := fun {c j} hl hj => by
    show (if S2' c then some 3 else lab c) = some j
    rw [if_neg]
    · exact hl
    · intro hc
      rcases hS c hc with h3 | h3
      · rw [H.l3 c h3] at hl; exact hj (Option.some.inj hl).symm
      · have := H.lsz c (by rw [hl]; simp); omega
  have lab_none : ∀ c, lab' c ≠ none → lab c ≠ none ∨ S2' c := fun c hc => by
    by_cases hx : S2' c
    · exact .inr hx
    · refine .inl ?_
      have e : lab' c = lab c := if_neg hx
      rwa [e] at hc
  have none_lab : ∀ c, lab c ≠ none → lab' c ≠ none := fun c hc => by
    by_cases hx : S2' c
    · have e : lab' c = some 3 := if_pos hx
      rw [e]; simp
    · have e : lab' c = lab c := if_neg hx
      rwa [e]
  have st : StepF X h ⟨fun c => lab' c ≠ none, X.D⟩ h' := by
    refine ⟨f.mono (fun c hc hx => (H.mm c).2 (by rw [H.l3 c hx]; simp)), fun c hc => ?_, fun c hc => .inl hc, fun c hc => hc⟩
    rcases lab_none c hc with h3 | h3
    · exact .inl ((H.mm c).2 h3)
    · rcases hS c h3 with h4 | h4
      · exact .inl ((H.mm c).2 (by rw [H.l3 c h4]; simp))
      · exact .inr h4
  refine ⟨⟨fun c => lab' c ≠ none, X.D⟩, lab', ⟨?_, K.map (by omega), fun x hx => K.cps x hx (by omega), H.abs.trans hL.symm, K.dat, by rw [h1]; exact K.al1 (by omega), by rw [h2]; exact A, keepL H.l0 (by omega), keepL H.l1 (by omega), fun c hc => keepL (H.l2 c hc) (by omega), fun c hc => if_pos hc, fun x hx => keepL (H.l4 x hx) (by omega), fun c => Iff.rfl, fun c hc => ?_, fun c hc => ?_, H.so⟩, st, fun c hc => (lab_none c hc).imp (fun h => (H.mm c).2 h) id⟩
  · rw [hn.1, hn.2.1, hn.2.2.1, hn.2.2.2]; exact K.blk (by omega)
  · have := H.dd c hc
    refine ⟨?_, by omega⟩
    show (if S2' c then some 3 else lab c) = none
    rw [if_neg]
    · exact this.1
    · intro hx
      rcases hS c hx with h3 | h3
      · rw [H.l3 c h3] at this; cases this.1
      · omega
  · rcases lab_none c hc with h3 | h3
    · have := H.lsz c h3; omega
    · exact A.lt h3
/-- the alarm of the ends -/
theorem Cm.alarm1 {E' : List E} (H : Cm h t X s m xs a1 S1 a2 S2 lab) (A : Al h' a1 S1' E') (hS : ∀ c, S1' c → S1 c ∨ h.size ≤ c) (f : Fr S1 h h') (hL : s'.L = s.L) (h1 : s'.E1 = E') (h2 : s'.E2 = s.E2) (hn : s'.next = s.next ∧ s'.acked = s.acked ∧ s'.over = s.over ∧ s'.gone = s.gone) :
    ∃ X' lab', Cm h' t X' s' m xs a1 S1' a2 S2 lab' ∧ StepF X h X' h' ∧ ∀ c, X'.M c → X.M c ∨ S1' c := by
  classical
  have hq : ∀ c, S1 c → c < h.size → lab c = some 2 := fun c hc _ => H.l2 c hc
  have K := H.keep f hq
  have z := f.1
  let lab' := relab lab S1' 2
  have keepL : ∀ {c j : Nat}, lab c = some j → j ≠ 2 → lab' c = some j := fun {c j} hl hj => by
    show (if S1' c then some 2 else lab c) = some j
    rw [if_neg]
    · exact hl
    · intro hc
      rcases hS c hc with h3 | h3
      · rw [H.l2 c h3] at hl; exact hj (Option.some.inj hl).symm
      · have := H.lsz c (by rw [hl]; simp); omega
  have lab_none : ∀ c, lab' c ≠ none → lab c ≠ none ∨ S1' c := fun c hc => by
    by_cases hx : S1' c
    · exact .inr hx
    · refine .inl ?_
      have e : lab' c = lab c := if_neg hx
      rwa [e] at hc
  have st : StepF X h ⟨fun c => lab' c ≠ none, X.D⟩ h' := by
    refine ⟨f.mono (fun c hc hx => (H.mm c).2 (by rw [H.l2 c hx]; simp)), fun c hc => ?_, fun c hc => .inl hc, fun c hc => hc⟩
    rcases lab_none c hc with h3 | h3
    · exact .inl ((H.mm c).2 h3)
    · rcases hS c h3 with h4 | h4
      · exact .inl ((H.mm c).2 (by rw [H.l2 c h4]; simp))
      · exact .inr h4
  refine ⟨⟨fun c => lab' c ≠ none, X.D⟩, lab', ⟨?_, K.map (by omega), fun x hx => K.cps x hx (by omega), H.abs.trans hL.symm, K.dat, by rw [h1]; exact A, by rw [h2]; exact K.al2 (by omega), keepL H.l0 (by omega), keepL H.l1 (by omega), fun c hc => if_pos hc, fun c hc => keepL (H.l3 c hc) (by omega), fun x hx => keepL (H.l4 x hx) (by omega), fun c => Iff.rfl, fun c hc => ?_, fun c hc => ?_, H.so⟩, st, fun c hc => (lab_none c hc).imp (fun h => (H.mm c).2 h) id⟩
  · rw [hn.1, hn.2.1, hn.2.2.1, hn.2.2.2]; exact K.blk (by omega)
  · have := H.dd c hc
    refine ⟨?_, by omega⟩
    show (if S1' c then some 2 else lab c) = none
    rw [if_neg]
    · exact this.1
    · intro hx
      rcases hS c hx with h3 | h3
      · rw [H.l2 c h3] at this; cases this.1
      · omega
  · rcases lab_none c hc with h3 | h3
    · have := H.lsz c h3; omega
    · exact A.lt h3
/-- a copy goes -/
theorem Cm.del {n : Int} (H : Cm h t X s m xs a1 S1 a2 S2 lab) (M : MapP h' m ienc (gdel (xs.map CV.pair) n)) (hs : h'.size = h.size) (ho : ∀ c, c ≠ m → h'[c]? = h[c]?) (hL : s'.L = s.L.filter (fun x => !decide ((x.num : Int) = n))) (h1 : s'.E1 = s.E1) (h2 : s'.E2 = s.E2) (hn : s'.next = s.next ∧ s'.acked = s.acked ∧ s'.over = s.over ∧ s'.gone = s.gone) :
    Cm h' t X s' m (xs.filter (fun x => !decide ((x.num : Int) = n))) a1 S1 a2 S2 lab ∧ StepF X h X h' := by
  have f : Fr (fun c => c = m) h h' := ⟨by omega, fun c _ hn => ho c hn⟩
  have hq : ∀ c, c = m → c < h.size → lab c = some 1 := fun c e _ => by rw [e]; exact H.l1
  have K := H.keep f hq
  have sub : ∀ x ∈ xs.filter (fun x => !decide ((x.num : Int) = n)), x ∈ xs := fun x hx => (List.mem_filter.1 hx).1
  refine ⟨⟨?_, ?_, fun x hx => K.cps x (sub x hx) (by omega), ?_, fun x hx => K.dat x (sub x hx), by rw [h1]; exact K.al1 (by omega), by rw [h2]; exact K.al2 (by omega), H.l0, H.l1, H.l2, H.l3, fun x hx => H.l4 x (sub x hx), H.mm, fun c hc => by rw [hs]; exact H.dd c hc, fun c hc => by rw [hs]; exact H.lsz c hc, H.so.sublist (List.filter_sublist.map _)⟩, H.step f hq⟩
  · rw [hn.1, hn.2.1, hn.2.2.1, hn.2.2.2]; exact K.blk (by omega)
  · unfold gdel at M
    rw [List.filter_map] at M
    exact M
  · rw [hL, ← H.abs, List.filter_map]; rfl
/-- a copy changes -/
theorem Cm.change {x y : CV} (H : Cm h t X s m xs a1 S1 a2 S2 lab) (hx : x ∈ xs) (hb : y.b = x.b) (hnum : y.num = x.num) (hv : y.v = x.v) (hy : y.at h' x.b) (hs : h'.size = h.size) (ho : ∀ c, c ≠ x.b → h'[c]? = h[c]?)
    (hL : s'.L = s.L.map (fun z => if z.num = x.num then y.abs else z)) (h1 : s'.E1 = s.E1) (h2 : s'.E2 = s.E2) (hn : s'.next = s.next ∧ s'.acked = s.acked ∧ s'.over = s.over ∧ s'.gone = s.gone) :
    Cm h' t X s' m (xs.map (fun z => if z.num = x.num then y else z)) a1 S1 a2 S2 lab ∧ StepF X h X h' := by
  have f : Fr (fun c => c = x.b) h h' := ⟨by omega, fun c _ hn => ho c hn⟩
  have hq : ∀ c, c = x.b → c < h.size → lab c = some (4 + x.num) := fun c e _ => by rw [e]; exact H.l4 x hx
  have K := H.keep f hq
  have mem : ∀ z ∈ xs.map (fun z => if z.num = x.num then y else z), (z = y) ∨ (z ∈ xs ∧ z.num ≠ x.num) := fun z hz => by
    obtain ⟨u, hu, rfl⟩ := List.mem_map.1 hz
    by_cases e : u.num = x.num
    · rw [if_pos e]; exact .inl rfl
    · rw [if_neg e]; exact .inr ⟨hu, e⟩
  have pe : (xs.map (fun z => if z.num = x.num then y else z)).map CV.pair = xs.map CV.pair := by
    rw [List.map_map]
    refine List.map_congr_left fun z hz => ?_
    show CV.pair (if z.num = x.num then y else z) = z.pair
    by_cases e : z.num = x.num
    · rw [if_pos e]
      have : z = x := by
        obtain ⟨i, hi⟩ := List.getElem?_of_mem hz
        obtain ⟨j, hj⟩ := List.getElem?_of_mem hx
        have hnd : (xs.map CV.num).Nodup := H.so.imp (fun h => Nat.ne_of_lt h)
        have hil := (List.getElem?_eq_some_iff.1 hi).1
        have := (List.getElem?_inj (l := xs.map CV.num) (i := i) (j := j) (by simpa using hil) hnd).1 (by rw [List.getElem?_map, List.getElem?_map, hi, hj]; simp [e])
        subst this
        rw [hi] at hj; exact Option.some.inj hj
      subst this
      unfold CV.pair
      rw [hnum, hb]
    · rw [if_neg e]
  refine ⟨⟨?_, ?_, fun z hz => ?_, ?_, fun z hz => ?_, by rw [h1]; exact K.al1 (by omega), by rw [h2]; exact K.al2 (by omega), H.l0, H.l1, H.l2, H.l3, fun z hz => ?_, H.mm, fun c hc => by rw [hs]; exact H.dd c hc, fun c hc => by rw [hs]; exact H.lsz c hc, ?_⟩, H.step f hq⟩
  · rw [hn.1, hn.2.1, hn.2.2.1, hn.2.2.2]; exact K.blk (by omega)
  · rw [pe]; exact K.map (by omega)
  · rcases mem z hz with rfl | ⟨hz, e⟩
    · rw [hb]; exact hy
    · exact K.cps z hz (by omega)
  · rw [hL, ← H.abs, List.map_map, List.map_map]
    refine List.map_congr_left fun z _ => ?_
    show CV.abs (if z.num = x.num then y else z) = if z.num = x.num then y.abs else z.abs
    split <;> rfl
  · rcases mem z hz with rfl | ⟨hz, _⟩
    · rw [hv]; exact K.dat x hx
    · exact K.dat z hz
  · rcases mem z hz with rfl | ⟨hz, _⟩
    · rw [hb, hnum]; exact H.l4 x hx
    · exact H.l4 z hz
  · have : (xs.map (fun z => if z.num = x.num then y else z)).map CV.num = xs.map CV.num := by
      rw [List.map_map]
      refine List.map_congr_left fun z _ => ?_
      show CV.num (if z.num = x.num then y else z) = z.num
      split
      · rename_i e; rw [hnum, e]
      · rfl
    rw [this]; exact H.so
/-- a copy comes: its block is b, its data is new -/
theorem Cm.add {y : CV} {h1 h2 : Heap} (H : Cm h t X s m xs a1 S1 a2 S2 lab) (f1 : Fr (fun _ => False) h h1) (hy : y.at h1 y.b) (hyb : h.size ≤ y.b) (hdat : Row h1 y.v.p (bc y.v.b)) (hcap : y.v.b.length ≤ y.v.c) (hdn : ∀ c, inBlk y.v.p c → h.size ≤ c ∧ c ≠ y.b ∧ c < h1.size) (hnum : ∀ x ∈ xs, x.num < y.num)
    (M : MapP h2 m ienc (gput (xs.map CV.pair) (y.num : Int) (.pointer (some ⟨y.b, 0, none⟩)))) (hs : h2.size = h1.size) (ho : ∀ c, c ≠ m → h2[c]? = h1[c]?)
    (hL : s'.L = s.L ++ [y.abs]) (e1 : s'.E1 = s.E1) (e2 : s'.E2 = s.E2) (hn : s'.next = s.next ∧ s'.acked = s.acked ∧ s'.over = s.over ∧ s'.gone = s.gone) :
    ∃ X' lab', Cm h2 t X' s' m (xs ++ [y]) a1 S1 a2 S2 lab' ∧ StepF X h X' h2 := by
  classical
  have z1 := f1.1
  have H1 := H.on f1
  have f2 : Fr (fun c => c = m) h1 h2 := ⟨by omega, fun c _ hn => ho c hn⟩
  have hq : ∀ c, c = m → c < h1.size → lab c = some 1 := fun c e _ => by rw [e]; exact H.l1
  have K := H1.keep f2 hq
  have yb1 := lt_of_get hy
  let lab' := relab lab (fun c => c = y.b) (4 + y.num)
  have lold : ∀ c, c ≠ y.b → lab' c = lab c := fun c hc => if_neg hc
  have lnew : lab' y.b = some (4 + y.num) := if_pos rfl
  have ynl : ∀ {c : Nat}, lab c ≠ none → c ≠ y.b := fun {c} hc e => by have := H.lsz c hc; omega
  have keepL : ∀ {c j : Nat}, lab c = some j → lab' c = some j := fun {c j} hl => by rw [lold c (ynl (by rw [hl]; simp))]; exact hl
  let D' := fun c => X.D c ∨ (y.v.b ≠ [] ∧ inBlk y.v.p c)
  have ymn : y.b ≠ m := fun e => by have := H.map.lt; omega
  have K2 : ∀ c, D' c → lab' c = none ∧ c < h2.size := fun c hc => by
    rcases hc with hc | ⟨_, hc⟩
    · have := H.dd c hc
      rw [lold c (by omega)]
      exact ⟨this.1, by omega⟩
    · have := hdn c hc
      rw [lold c this.2.1]
      refine ⟨?_, by omega⟩
      cases e : lab c with
      | none => rfl
      | some j => have := H.lsz c (by rw [e]; simp); omega
  refine ⟨⟨fun c => lab' c ≠ none, D'⟩, lab', ⟨?_, ?_, fun x hx => ?_, ?_, fun x hx => ?_, by rw [e1]; exact K.al1 (by omega), by rw [e2]; exact K.al2 (by omega), keepL H.l0, keepL H.l1, fun c hc => keepL (H.l2 c hc), fun c hc => keepL (H.l3 c hc), fun x hx => ?_, fun c => Iff.rfl, K2, fun c hc => ?_, ?_⟩, ?_⟩
  · rw [hn.1, hn.2.1, hn.2.2.1, hn.2.2.2]; exact K.blk (by omega)
  · refine M.perm ?_
    unfold gput
    rw [gdel_none (fun e he => by obtain ⟨x, hx, rfl⟩ := List.mem_map.1 he; have := hnum x hx; show ¬ ((x.num : Int) = (y.num : Int)); omega), List.map_append]
    exact (List.perm_append_comm (l₁ := [CV.pair y]) (l₂ := xs.map CV.pair))
  · rcases List.mem_append.1 hx with hx | hx
    · exact K.cps x hx (by omega)
    · obtain rfl := List.mem_singleton.1 hx
      exact f2.get hy ymn
  · rw [hL, ← H.abs, List.map_append]; rfl
  · rcases List.mem_append.1 hx with hx | hx
    · exact (K.dat x hx).mono (fun c hc => .inl hc)
    · obtain rfl := List.mem_singleton.1 hx
      refine ⟨hdat.frame f2 (fun a e hm => ?_), fun hne c hc => .inr ⟨hne, hc⟩, hcap⟩
      have h1 := (hdn a.block ⟨a, e, rfl⟩).1
      have h2 := H.map.lt
      have h3 : a.block = m := hm
      omega
  · rcases List.mem_append.1 hx with hx | hx
    · exact keepL (H.l4 x hx)
    · obtain rfl := List.mem_singleton.1 hx; exact lnew
  · by_cases e : c = y.b
    · subst e; omega
    · rw [lold c e] at hc; have := H.lsz c hc; omega
  · rw [List.map_append, List.pairwise_append]
    refine ⟨H.so, by simp, fun a ha b hb => ?_⟩
    obtain ⟨x, hx, rfl⟩ := List.mem_map.1 ha
    simp at hb; subst hb
    exact hnum x hx
  · refine ⟨?_, fun c hc => ?_, fun c hc => ?_, fun c hc => .inl hc⟩
    · have f12 : Fr (fun c => c = m) h h2 := Fr.no f1 f2
      exact f12.mono (fun c _ e => (H.mm c).2 (by rw [e, H.l1]; simp))
    · by_cases e : c = y.b
      · exact .inr (by omega)
      · have hc : lab' c ≠ none := hc
        rw [lold c e] at hc
        exact .inl ((H.mm c).2 hc)
    · rcases hc with hc | ⟨_, hc⟩
      · exact .inl hc
      · exact .inr (hdn c hc).1
end Cps
end Go.Proofs.Ytgccegnmggjkjaa
