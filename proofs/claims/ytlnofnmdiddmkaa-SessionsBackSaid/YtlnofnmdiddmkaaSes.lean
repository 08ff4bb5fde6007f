/-
  What is proved here: a table of sessions in memory, and how its blocks are kept apart; the slices' functions that it uses. No condition.
-/
import Derived.Test.YtlnofnmdiddmkaaRecs
import Derived.Test.YtlnofnmdiddmkaaStructs
import Derived.Test.YtlnofnmdiddmkaaVcC
import Derived.Test.YtlnofnmdiddmkaaVcF
namespace Go.Proofs.Ytlnofnmdiddmkaa
open Go.Den Go.Fields
namespace Ses
open Fld
variable {h h' h0 : Heap} {t : Nat} {X : Ft} {R : Value → Heap → Prop} {p q : Option Addr} {c d i : Nat}

structure AV where
  id : Nat
  v : BV
abbrev AV.enc (a : AV) : List Value := [.int .u64 (a.id : Int), a.v.val]
/-- a session in memory -/
structure SC where
  b : Nat
  num : Nat
  token : Nat
  up : Bool
  watch : Bool
  kept : List AV
  kp : Option Addr
  kc : Nat
  notes : List BV
  np : Option Addr
  nc : Nat
/-- a session -/
structure Ses where
  num : Nat
  token : Nat
  up : Bool
  watch : Bool
  kept : List (Nat × List UInt8)
  notes : List (List UInt8)
def AV.abs (a : AV) : Nat × List UInt8 := (a.id, a.v.b)
def SC.abs (s : SC) : Ses := ⟨s.num, s.token, s.up, s.watch, s.kept.map AV.abs, s.notes.map BV.b⟩

theorem set_same {α : Type} {l : List α} {i : Nat} {v : α} (h : l[i]? = some v) : l.set i v = l := by
  apply List.ext_getElem?
  intro j
  rw [List.getElem?_set]
  split
  · rename_i e; subst e; rw [if_pos (List.getElem?_eq_some_iff.1 h).1, h]
  · rfl
abbrev Lab := Nat → Option Nat
abbrev At (h : Heap) (s : SC) : Prop := sessions_Session.at h s.b (s.num : Int) (s.token : Int) s.up s.watch s.kp s.kept.length s.kc s.np s.notes.length s.nc
structure SesAt (h : Heap) (lab : Lab) (D : Nat → Prop) (i : Nat) (s : SC) : Prop where
  blk : At h s
  lb : lab s.b = some (2 + 3 * i)
  kown : Own h s.kp s.kept.length s.kc 2 (s.kept.flatMap AV.enc)
  kl : ∀ c, inBlk s.kp c → lab c = some (3 + 3 * i)
  nown : Own h s.np s.notes.length s.nc 1 (s.notes.flatMap nenc)
  nl : ∀ c, inBlk s.np c → lab c = some (4 + 3 * i)
  kd : ∀ a ∈ s.kept, a.v.ok h D
  nd : ∀ n ∈ s.notes, n.ok h D
structure Tab (h : Heap) (t : Nat) (lab : Lab) (D : Nat → Prop) (L : List SC) : Prop where
  blk : ∃ p c, h[t]? = some (.cells #[.bool true, .slice p L.length c] T.sessions_Table (0, 0)) ∧ Own h p L.length c 1 (L.map fun s => .pointer (some ⟨s.b, 0, none⟩)) ∧ ∀ x, inBlk p x → lab x = some 1
  lt0 : lab t = some 0
  ses : ∀ i s, L[i]? = some s → SesAt h lab D i s
  llt : ∀ c r, lab c = some r → c < h.size
  dlt : ∀ c, D c → c < h.size
  ap : ∀ c r, lab c = some r → ¬ D c
/-- t is a table of the sessions A; B: their blocks -/
def HasB (h : Heap) (t : Nat) (X : Ft) (A : List Ses) (B : List Nat) : Prop :=
  ∃ lab L, Tab h t lab X.D L ∧ L.map SC.abs = A ∧ L.map SC.b = B ∧ ∀ c, X.M c ↔ ∃ r, lab c = some r
/-- t is a table of the sessions A -/
def Has (h : Heap) (t : Nat) (X : Ft) (A : List Ses) : Prop := ∃ B, HasB h t X A B

variable {lab : Lab} {D : Nat → Prop} {L : List SC} {A : List Ses}
theorem SesAt.frame {Q : Nat → Prop} {s : SC} (H : SesAt h lab D i s) (f : Fr Q h h') (hq : ∀ c r, lab c = some r → 2 + 3 * i ≤ r → r ≤ 4 + 3 * i → ¬ Q c) (hd : ∀ c, D c → ¬ Q c) : SesAt h' lab D i s :=
  ⟨f.get H.blk (hq _ _ H.lb (by omega) (by omega)), H.lb, H.kown.frame f (fun c hc => hq c _ (H.kl c hc) (by omega) (by omega)), H.kl, H.nown.frame f (fun c hc => hq c _ (H.nl c hc) (by omega) (by omega)), H.nl, fun a ha => (H.kd a ha).frame f hd, fun n hn => (H.nd n hn).frame f hd⟩
theorem SesAt.mono {lab' : Lab} {D' : Nat → Prop} {s : SC} (H : SesAt h lab D i s) (hl : ∀ c r, lab c = some r → lab' c = some r) (hd : ∀ c, D c → D' c) : SesAt h lab' D' i s :=
  ⟨H.blk, hl _ _ H.lb, H.kown, fun c hc => hl c _ (H.kl c hc), H.nown, fun c hc => hl c _ (H.nl c hc), fun a ha => (H.kd a ha).mono hd, fun n hn => (H.nd n hn).mono hd⟩
theorem HasB.lt {B : List Nat} (H : HasB h t X A B) : ∀ x, X.M x ∨ X.D x → x < h.size := by
  obtain ⟨lab, L, T, _, _, hS⟩ := H
  rintro x (hx | hd)
  · obtain ⟨r, hr⟩ := (hS x).1 hx
    exact T.llt x r hr
  · exact T.dlt x hd
theorem HasB.dis {B : List Nat} (H : HasB h t X A B) : ∀ x, X.M x → ¬ X.D x := by
  obtain ⟨lab, L, T, _, _, hS⟩ := H
  intro x hx
  obtain ⟨r, hr⟩ := (hS x).1 hx
  exact T.ap x r hr
theorem HasB.frame {B : List Nat} {Q : Nat → Prop} (H : HasB h t X A B) (f : Fr Q h h') (hq : ∀ x, X.M x ∨ X.D x → ¬ Q x) : HasB h' t X A B := by
  obtain ⟨lab, L, T, e, eB, hS⟩ := H
  obtain ⟨p, c, hb, own, hp⟩ := T.blk
  have hl : ∀ c r, lab c = some r → ¬ Q c := fun c r hr => hq c (.inl ((hS c).2 ⟨r, hr⟩))
  refine ⟨lab, L, ⟨⟨p, c, f.get hb (hl t _ T.lt0), own.frame f (fun x hx => hl x _ (hp x hx)), hp⟩, T.lt0, fun i s hs => (T.ses i s hs).frame f (fun c r hr _ _ => hl c r hr) (fun c hd => hq c (.inr hd)), ?_, ?_, T.ap⟩, e, eB, hS⟩
  · intro c r hr; exact Nat.lt_of_lt_of_le (T.llt c r hr) f.1
  · intro c hd; exact Nat.lt_of_lt_of_le (T.dlt c hd) f.1

theorem Has.lt (H : Has h t X A) : ∀ x, X.M x ∨ X.D x → x < h.size := by obtain ⟨B, H⟩ := H; exact H.lt
theorem Has.dis (H : Has h t X A) : ∀ x, X.M x → ¬ X.D x := by obtain ⟨B, H⟩ := H; exact H.dis
theorem Has.frame {Q : Nat → Prop} (H : Has h t X A) (f : Fr Q h h') (hq : ∀ x, X.M x ∨ X.D x → ¬ Q x) : Has h' t X A := by obtain ⟨B, H⟩ := H; exact ⟨B, H.frame f hq⟩

open Classical in
/-- a session changes -/
theorem Tab.updG {s s' : SC} {Q E : Nat → Prop} (T : Tab h t lab X.D L) (hS : ∀ c, X.M c ↔ ∃ r, lab c = some r) (hs : L[i]? = some s) (hb : s'.b = s.b) (f : Fr Q h h') (hq : ∀ c, Q c → ∃ r, lab c = some r ∧ 2 + 3 * i ≤ r ∧ r ≤ 4 + 3 * i)
    (blk : At h' s') (kown : Own h' s'.kp s'.kept.length s'.kc 2 (s'.kept.flatMap AV.enc)) (kn : ∀ c, inBlk s'.kp c → lab c = some (3 + 3 * i) ∨ h.size ≤ c)
    (nown : Own h' s'.np s'.notes.length s'.nc 1 (s'.notes.flatMap nenc)) (nn : ∀ c, inBlk s'.np c → lab c = some (4 + 3 * i) ∨ h.size ≤ c) (kn' : ∀ c, inBlk s'.kp c → inBlk s'.np c → False)
    (hE : ∀ c, E c → lab c = none ∧ c < h'.size ∧ ¬ inBlk s'.kp c ∧ ¬ inBlk s'.np c) (kd : ∀ a ∈ s'.kept, a.v.ok h' (fun c => X.D c ∨ E c)) (nd : ∀ n ∈ s'.notes, n.ok h' (fun c => X.D c ∨ E c)) :
    ∃ X', HasB h' t X' ((L.map SC.abs).set i s'.abs) (L.map SC.b) ∧ Fr X.M h h' ∧ (∀ c, X'.M c → X.M c ∨ h.size ≤ c) ∧ (∀ c, X'.D c → X.D c ∨ E c) ∧ ∀ c, X.D c → X'.D c := by
  let lab' : Lab := fun c => if h.size ≤ c ∧ inBlk s'.kp c then some (3 + 3 * i) else if h.size ≤ c ∧ inBlk s'.np c then some (4 + 3 * i) else lab c
  have old : ∀ c r, lab c = some r → lab' c = some r := fun c r hr => by
    have := T.llt c r hr
    show (if h.size ≤ c ∧ inBlk s'.kp c then some (3 + 3 * i) else if h.size ≤ c ∧ inBlk s'.np c then some (4 + 3 * i) else lab c) = some r
    rw [if_neg (fun hh => by omega), if_neg (fun hh => by omega)]; exact hr
  have new : ∀ c r, lab' c = some r → lab c = some r ∨ (h.size ≤ c ∧ (inBlk s'.kp c ∨ inBlk s'.np c)) := fun c r hr => by
    have hr : (if h.size ≤ c ∧ inBlk s'.kp c then some (3 + 3 * i) else if h.size ≤ c ∧ inBlk s'.np c then some (4 + 3 * i) else lab c) = some r := hr
    split at hr
    · rename_i hh; exact .inr ⟨hh.1, .inl hh.2⟩
    · split at hr
      · rename_i hh; exact .inr ⟨hh.1, .inr hh.2⟩
      · exact .inl hr
  have nb : ∀ c, inBlk s'.kp c ∨ inBlk s'.np c → c < h'.size := fun c hc => hc.elim (fun hc => kown.blk_lt hc) (fun hc => nown.blk_lt hc)
  have hd : ∀ c, X.D c → ¬ Q c := fun c hc hx => by obtain ⟨r, hr, _⟩ := hq c hx; exact T.ap c r hr hc
  obtain ⟨p, c0, hbt, own, hp⟩ := T.blk
  have hil : i < L.length := (List.getElem?_eq_some_iff.1 hs).1
  have nQ0 : ¬ Q t := fun hx => by obtain ⟨r, hr, h1, h2⟩ := hq t hx; rw [T.lt0] at hr; cases hr; omega
  have nQ1 : ∀ x, inBlk p x → ¬ Q x := fun x hx hq' => by obtain ⟨r, hr, h1, h2⟩ := hq x hq'; rw [hp x hx] at hr; cases hr; omega
  have ptrs : (L.set i s').map (fun s => Value.pointer (some ⟨s.b, 0, none⟩)) = L.map (fun s => Value.pointer (some ⟨s.b, 0, none⟩)) := by
    rw [List.map_set, hb]
    exact set_same (by rw [List.getElem?_map, hs]; rfl)
  have blks : (L.set i s').map SC.b = L.map SC.b := by
    rw [List.map_set, hb]
    exact set_same (by rw [List.getElem?_map, hs]; rfl)
  refine ⟨⟨fun c => ∃ r, lab' c = some r, fun c => X.D c ∨ E c⟩, ⟨lab', L.set i s', ⟨⟨p, c0, ?_, ?_, fun x hx => old x _ (hp x hx)⟩, old t 0 T.lt0, ?_, ?_, ?_, ?_⟩, ?_, blks, fun c => Iff.rfl⟩, ?_, ?_, fun c h => h, fun c => .inl⟩
  · rw [List.length_set]; exact f.get hbt nQ0
  · rw [ptrs, List.length_set]; exact own.frame f nQ1
  · intro j sj hj
    rw [List.getElem?_set] at hj
    by_cases e : i = j
    · subst e
      rw [if_pos rfl, if_pos hil] at hj
      obtain rfl := Option.some.inj hj
      refine ⟨blk, ?_, kown, fun c hc => ?_, nown, fun c hc => ?_, kd, nd⟩
      · rw [hb]; exact old _ _ (T.ses i s hs).lb
      · show (if h.size ≤ c ∧ inBlk s'.kp c then some (3 + 3 * i) else if h.size ≤ c ∧ inBlk s'.np c then some (4 + 3 * i) else lab c) = _
        rcases kn c hc with h1 | h1
        · have := T.llt c _ h1
          rw [if_neg (fun hh => by omega), if_neg (fun hh => by omega)]; exact h1
        · rw [if_pos ⟨h1, hc⟩]
      · show (if h.size ≤ c ∧ inBlk s'.kp c then some (3 + 3 * i) else if h.size ≤ c ∧ inBlk s'.np c then some (4 + 3 * i) else lab c) = _
        rw [if_neg (fun hh => kn' c hh.2 hc)]
        rcases nn c hc with h1 | h1
        · have := T.llt c _ h1
          rw [if_neg (fun hh => by omega)]; exact h1
        · rw [if_pos ⟨h1, hc⟩]
    · rw [if_neg e] at hj
      refine ((T.ses j sj hj).frame f (fun c r hr h1 h2 hx => ?_) hd).mono old (fun c => .inl)
      obtain ⟨r', hr', h3, h4⟩ := hq c hx
      rw [hr] at hr'; cases hr'
      omega
  · intro c r hr
    rcases new c r hr with h1 | ⟨_, h1⟩
    · exact Nat.lt_of_lt_of_le (T.llt c r h1) f.1
    · exact nb c h1
  · rintro c (h1 | h1)
    · exact Nat.lt_of_lt_of_le (T.dlt c h1) f.1
    · exact (hE c h1).2.1
  · rintro c r hr (h1 | h1)
    · rcases new c r hr with h2 | ⟨h2, _⟩
      · exact T.ap c r h2 h1
      · have := T.dlt c h1; omega
    · rcases new c r hr with h2 | ⟨_, h2⟩
      · rw [(hE c h1).1] at h2; cases h2
      · exact h2.elim (hE c h1).2.2.1 (hE c h1).2.2.2
  · rw [List.map_set]
  · exact f.mono (fun c _ hx => by obtain ⟨r, hr, _⟩ := hq c hx; exact (hS c).2 ⟨r, hr⟩)
  · rintro c ⟨r, hr⟩
    rcases new c r hr with h2 | ⟨h2, _⟩
    · exact .inl ((hS c).2 ⟨r, h2⟩)
    · exact .inr h2
/-- a session changes -/
theorem Tab.upd {s s' : SC} {Q E : Nat → Prop} (T : Tab h t lab X.D L) (hS : ∀ c, X.M c ↔ ∃ r, lab c = some r) (hs : L[i]? = some s) (hb : s'.b = s.b) (f : Fr Q h h') (hq : ∀ c, Q c → ∃ r, lab c = some r ∧ 2 + 3 * i ≤ r ∧ r ≤ 4 + 3 * i)
    (blk : At h' s') (kown : Own h' s'.kp s'.kept.length s'.kc 2 (s'.kept.flatMap AV.enc)) (kn : ∀ c, inBlk s'.kp c → lab c = some (3 + 3 * i) ∨ h.size ≤ c)
    (nown : Own h' s'.np s'.notes.length s'.nc 1 (s'.notes.flatMap nenc)) (nn : ∀ c, inBlk s'.np c → lab c = some (4 + 3 * i) ∨ h.size ≤ c) (kn' : ∀ c, inBlk s'.kp c → inBlk s'.np c → False)
    (hE : ∀ c, E c → h.size ≤ c ∧ c < h'.size ∧ ¬ inBlk s'.kp c ∧ ¬ inBlk s'.np c) (kd : ∀ a ∈ s'.kept, a.v.ok h' (fun c => X.D c ∨ E c)) (nd : ∀ n ∈ s'.notes, n.ok h' (fun c => X.D c ∨ E c)) :
    ∃ X', HasB h' t X' ((L.map SC.abs).set i s'.abs) (L.map SC.b) ∧ StepF X h X' h' := by
  obtain ⟨X', H', f', m', d', o'⟩ := T.updG (Q := Q) (E := E) hS hs hb f hq blk kown kn nown nn kn' (fun c hc => ⟨by
    cases hl : lab c with
    | none => rfl
    | some r => have := T.llt c r hl; have := (hE c hc).1; omega, (hE c hc).2⟩) kd nd
  exact ⟨X', H', f', m', fun c hc => (d' c hc).imp (fun h => h) (fun h => (hE c h).1), o'⟩
/-- a session's block alone changes -/
theorem Tab.flag {s s' : SC} (T : Tab h t lab X.D L) (hS : ∀ c, X.M c ↔ ∃ r, lab c = some r) (hs : L[i]? = some s) (hb : s'.b = s.b) (hk : s'.kept = s.kept ∧ s'.kp = s.kp ∧ s'.kc = s.kc) (hn : s'.notes = s.notes ∧ s'.np = s.np ∧ s'.nc = s.nc)
    (blk : At h' s') (hsz : h'.size = h.size) (ho : ∀ x, x ≠ s.b → h'[x]? = h[x]?) : ∃ X', HasB h' t X' ((L.map SC.abs).set i s'.abs) (L.map SC.b) ∧ StepF X h X' h' := by
  have H := T.ses i s hs
  have f : Fr (fun x => x = s.b) h h' := Fr.of_eq hsz ho
  have nk : ∀ c, inBlk s.kp c → ¬ c = s.b := fun c hc e => by have h1 := H.kl c hc; rw [e, H.lb] at h1; simp at h1
  have nn : ∀ c, inBlk s.np c → ¬ c = s.b := fun c hc e => by have h1 := H.nl c hc; rw [e, H.lb] at h1; simp at h1
  have nD : ∀ c, X.D c → ¬ c = s.b := fun c hc e => T.ap c _ (e ▸ H.lb) hc
  refine T.upd (Q := fun x => x = s.b) (E := fun _ => False) hS hs hb f (fun c e => ⟨_, e ▸ H.lb, by omega, by omega⟩) blk ?_ ?_ ?_ ?_ ?_ (fun c hc => hc.elim) ?_ ?_
  · rw [hk.1, hk.2.1, hk.2.2]; exact H.kown.frame f nk
  · rw [hk.2.1]; exact fun c hc => .inl (H.kl c hc)
  · rw [hn.1, hn.2.1, hn.2.2]; exact H.nown.frame f nn
  · rw [hn.2.1]; exact fun c hc => .inl (H.nl c hc)
  · rw [hk.2.1, hn.2.1]; exact fun c h1 h2 => by have a := H.kl c h1; have b := H.nl c h2; rw [a] at b; simp at b
  · rw [hk.1]; exact fun a ha => ((H.kd a ha).frame f nD).mono (fun c => .inl)
  · rw [hn.1]; exact fun n hn => ((H.nd n hn).frame f nD).mono (fun c => .inl)

open Classical in
/-- a session more -/
theorem Tab.add {s : SC} {p : Option Addr} {c0 : Nat} {Q : Nat → Prop} (TB : Tab h t lab X.D L) (hS : ∀ c, X.M c ↔ ∃ r, lab c = some r) (f : Fr Q h h') (hq : ∀ c, Q c → lab c = some 0 ∨ lab c = some 1)
    (hbt : h'[t]? = some (.cells #[.bool true, .slice p (L.length + 1) c0] T.sessions_Table (0, 0))) (own : Own h' p (L.length + 1) c0 1 (L.map (fun s => .pointer (some ⟨s.b, 0, none⟩)) ++ [.pointer (some ⟨s.b, 0, none⟩)]))
    (hp : ∀ x, inBlk p x → lab x = some 1 ∨ h.size ≤ x) (hpb : ¬ inBlk p s.b) (blk : At h' s) (hsb : h.size ≤ s.b) (hk : s.kept = [] ∧ s.kp = none ∧ s.kc = 0) (hn : s.notes = [] ∧ s.np = none ∧ s.nc = 0) :
    ∃ X', HasB h' t X' (L.map SC.abs ++ [s.abs]) (L.map SC.b ++ [s.b]) ∧ StepF X h X' h' := by
  have hsl := lt_of_get blk
  let lab' : Lab := fun c => if c = s.b then some (2 + 3 * L.length) else if h.size ≤ c ∧ inBlk p c then some 1 else lab c
  have old : ∀ c r, lab c = some r → lab' c = some r := fun c r hr => by
    have := TB.llt c r hr
    show (if c = s.b then some (2 + 3 * L.length) else if h.size ≤ c ∧ inBlk p c then some 1 else lab c) = some r
    rw [if_neg (fun hh => by omega), if_neg (fun hh => by omega)]; exact hr
  have new : ∀ c r, lab' c = some r → lab c = some r ∨ (h.size ≤ c ∧ (c = s.b ∨ inBlk p c)) := fun c r hr => by
    have hr : (if c = s.b then some (2 + 3 * L.length) else if h.size ≤ c ∧ inBlk p c then some 1 else lab c) = some r := hr
    split at hr
    · rename_i hh; exact .inr ⟨by omega, .inl hh⟩
    · split at hr
      · rename_i hh; exact .inr ⟨hh.1, .inr hh.2⟩
      · exact .inl hr
  have hd : ∀ c, X.D c → ¬ Q c := fun c hc hx => (hq c hx).elim (fun h1 => TB.ap c _ h1 hc) (fun h1 => TB.ap c _ h1 hc)
  refine ⟨⟨fun c => ∃ r, lab' c = some r, X.D⟩, ⟨lab', L ++ [s], ⟨⟨p, c0, ?_, ?_, ?_⟩, old t 0 TB.lt0, ?_, ?_, ?_, ?_⟩, ?_, by rw [List.map_append]; rfl, fun c => Iff.rfl⟩, ?_, ?_, fun c => .inl, fun c => id⟩
  · rw [List.length_append]; exact hbt
  · rw [List.length_append, List.map_append]; exact own
  · intro x hx
    show (if x = s.b then some (2 + 3 * L.length) else if h.size ≤ x ∧ inBlk p x then some 1 else lab x) = some 1
    rw [if_neg (fun e : x = s.b => hpb (e ▸ hx))]
    rcases hp x hx with h1 | h1
    · have := TB.llt x _ h1
      rw [if_neg (fun hh => by omega)]; exact h1
    · rw [if_pos ⟨h1, hx⟩]
  · intro j sj hj
    by_cases e : j < L.length
    · rw [List.getElem?_append_left e] at hj
      refine ((TB.ses j sj hj).frame f (fun c r hr h1 h2 hx => ?_) hd).mono old (fun c h => h)
      rcases hq c hx with h3 | h3
      · rw [hr] at h3; cases h3; omega
      · rw [hr] at h3; cases h3; omega
    · rw [List.getElem?_append_right (by omega)] at hj
      have e2 : j = L.length := by
        have := (List.getElem?_eq_some_iff.1 hj).1; simp at this; omega
      subst e2
      simp at hj
      subst hj
      refine ⟨blk, ?_, ?_, ?_, ?_, ?_, ?_, ?_⟩
      · show (if s.b = s.b then some (2 + 3 * L.length) else _) = _
        rw [if_pos rfl]
      · rw [hk.1, hk.2.1, hk.2.2]; exact .nil rfl rfl rfl rfl
      · rw [hk.2.1]; rintro c ⟨a, e, _⟩; cases e
      · rw [hn.1, hn.2.1, hn.2.2]; exact .nil rfl rfl rfl rfl
      · rw [hn.2.1]; rintro c ⟨a, e, _⟩; cases e
      · rw [hk.1]; intro a ha; cases ha
      · rw [hn.1]; intro a ha; cases ha
  · intro c r hr
    rcases new c r hr with h1 | ⟨_, h1 | h1⟩
    · exact Nat.lt_of_lt_of_le (TB.llt c r h1) f.1
    · omega
    · exact own.blk_lt h1
  · intro c h1; exact Nat.lt_of_lt_of_le (TB.dlt c h1) f.1
  · intro c r hr h1
    rcases new c r hr with h2 | ⟨h2, _⟩
    · exact TB.ap c r h2 h1
    · have := TB.dlt c h1; omega
  · rw [List.map_append]; rfl
  · exact f.mono (fun c _ hx => (hS c).2 ((hq c hx).elim (fun h1 => ⟨_, h1⟩) (fun h1 => ⟨_, h1⟩)))
  · rintro c ⟨r, hr⟩
    rcases new c r hr with h2 | ⟨h2, _⟩
    · exact .inl ((hS c).2 ⟨r, h2⟩)
    · exact .inr h2

/-! ### slices of answers and notes -/
theorem tA : SlTy Try.prog T.s_sessions_Answer T.sessions_Answer 2 32 (.agg #[.int .u64 0, .slice none 0 0]) := ⟨by kernel_rfl, by kernel_rfl, rfl⟩
theorem uA : Try.prog.underlying T.s_sessions_Answer = some (.slice T.sessions_Answer) := by kernel_rfl
theorem aenc_len (a : AV) : a.enc.length = 2 := rfl
theorem aenc_one (xs : List AV) : ∀ v ∈ xs.flatMap AV.enc, oneCell v = true := by
  intro v hv
  obtain ⟨a, _, ha⟩ := List.mem_flatMap.1 hv
  simp at ha
  rcases ha with rfl | rfl <;> rfl
theorem cloneA_ok {xs : List AV} {n m : Nat} (hr : Row h p (xs.flatMap AV.enc)) (hn : n = xs.length) (hl : xs.length ≤ 1000000000)
    (hk : ∀ p' c' h', Own h' p' xs.length c' 2 (xs.flatMap AV.enc) → Fr (fun _ => False) h h' → (∀ x, inBlk p' x → h.size ≤ x) → R (.slice p' xs.length c') h') :
    CallsH Try.prog F.slices_Clone_s_sessions_Answer_sessions_Answer #[.slice p n m] h R := by
  subst hn
  refine slices_Clone_s_sessions_Answer_sessions_Answer.walk ?_
  unfold slices_Clone_s_sessions_Answer_sessions_Answer.vc
  cases p with
  | none =>
    have : xs = [] := by
      rcases hr with hr | ⟨a, e, _⟩
      · cases xs with
        | nil => rfl
        | cons b bs => cases hr
      · cases e
    subst this
    exact hk none 0 h (.nil rfl rfl rfl rfl) (Fr.refl _ _) (fun x ⟨a, e, _⟩ => by cases e)
  | some a =>
    simp only [Option.isNone_some, Bool.false_eq_true, if_false]
    exact den_clone tA uA hr (flat_len AV.enc 2 aenc_len xs) (aenc_one xs) (by omega) (by omega) fun p' c' h' o f g => ⟨_, _, _, rfl, hk p' c' h' o f g⟩
theorem cloneN_ok {xs : List BV} {n m : Nat} (hr : Row h p (xs.flatMap nenc)) (hn : n = xs.length) (hl : xs.length ≤ 1000000000)
    (hk : ∀ p' c' h', Own h' p' xs.length c' 1 (xs.flatMap nenc) → Fr (fun _ => False) h h' → (∀ x, inBlk p' x → h.size ≤ x) → R (.slice p' xs.length c') h') :
    CallsH Try.prog F.slices_Clone_s_s_byte_s_byte #[.slice p n m] h R := by
  subst hn
  refine slices_Clone_s_s_byte_s_byte.walk ?_
  unfold slices_Clone_s_s_byte_s_byte.vc
  cases p with
  | none =>
    have : xs = [] := by
      rcases hr with hr | ⟨a, e, _⟩
      · cases xs with
        | nil => rfl
        | cons b bs => cases hr
      · cases e
    subst this
    exact hk none 0 h (.nil rfl rfl rfl rfl) (Fr.refl _ _) (fun x ⟨a, e, _⟩ => by cases e)
  | some a =>
    simp only [Option.isNone_some, Bool.false_eq_true, if_false]
    exact den_clone tN uN hr (flat_len nenc 1 nenc_len xs) (nenc_one xs) (by omega) (by omega) fun p' c' h' o f g => ⟨_, _, _, rfl, hk p' c' h' o f g⟩

/-- a variable of a number -/
abbrev IdAt (h : Heap) (b : Nat) (id : Nat) : Prop := h[b]? = some (.cells #[.int .u64 (id : Int)] T.uint64 (0, 0))
/-- where an answer of this number stands -/
def idxA (xs : List AV) (id : Nat) : Int := match xs.findIdx? (fun a => decide (a.id = id)) with | some k => (k : Int) | none => -1
theorem keep1_ok {b id : Nat} (a : AV) (hid : IdAt h b id) (hk : ∀ h', Fr (fun _ => False) h h' → R (.bool (decide (a.id = id))) h') : CallsH Try.prog F.sessions_Table_Keep_1 #[.agg #[.int .u64 (a.id : Int), a.v.val], .pointer (some ⟨b, 0, none⟩)] h R := by
  refine sessions_Table_Keep_1.walk (sessions_Answer.box fun b1 h1 eb hb f1 => ⟨_, cell_at hb rfl, _, cell_at (f1.get hid (fun x => x)) rfl, ?_⟩)
  have e : (((a.id : Nat) : Int) == ((id : Nat) : Int)) = decide (a.id = id) := by
    by_cases q : a.id = id
    · simp [q]
    · have : ¬ ((a.id : Nat) : Int) = (id : Int) := by omega
      simp [q, this]
  rw [e]
  exact hk h1 f1
theorem idxKeep_ok {xs : List AV} {n m b id : Nat} (hr : Row h p (xs.flatMap AV.enc)) (hn : n = xs.length) (hl : xs.length ≤ 1000000000) (hid : IdAt h b id) (hk : ∀ h', Fr (fun _ => False) h h' → R (.int .i64 (idxA xs id)) h') :
    CallsH Try.prog F.slices_IndexFunc_s_sessions_Answer_sessions_Answer #[.slice p n m, .func (.func F.sessions_Table_Keep_1) #[] #[.pointer (some ⟨b, 0, none⟩)]] h R := by
  subst hn
  refine slices_IndexFunc_s_sessions_Answer_sessions_Answer.keep.walk ?_
  refine ⟨fun i h' => Fr (fun _ => False) h h' ∧ ∃ k : Nat, i = (k : Int) ∧ k ≤ xs.length ∧ ∀ j (hj : j < xs.length), j < k → xs[j].id ≠ id, fun i _ => xs.length - i.toNat, ⟨Fr.refl _ _, 0, rfl, by omega, fun j _ hj => by omega⟩, ?_⟩
  rintro _ h1 ⟨f1, k, rfl, hkn, hall⟩
  have hr1 := hr.frame f1 (fun _ _ x => x)
  have hid1 : IdAt h1 b id := f1.get hid (fun x => x)
  by_cases hlt : k < xs.length
  · have q1 : (k : Int) < (xs.length : Int) := by omega
    simp only [q1, decide_true, if_true, Int.toNat_natCast]
    have hx : xs[k]? = some xs[k] := List.getElem?_eq_getElem hlt
    obtain ⟨a, rfl⟩ := hr1.some (fun e => by have := congrArg List.length e; rw [flat_len AV.enc 2 aenc_len, List.length_nil] at this; omega)
    refine ⟨⟨by omega, by first | trivial | omega⟩, onSome_some.2 (sessions_Answer.ldA (hr1.heldAt aenc_len hx) ?_)⟩
    refine keep1_ok xs[k] hid1 fun h2 f2 => ⟨_, rfl, ?_⟩
    by_cases e : xs[k].id = id
    · simp only [e, decide_true, if_true]
      have : idxA xs id = (k : Int) := by
        unfold idxA
        have : xs.findIdx? (fun a => decide (a.id = id)) = some k := by
          rw [List.findIdx?_eq_some_iff_getElem]
          exact ⟨hlt, by simpa using e, fun j hj => by simpa using hall j (by omega) hj⟩
        rw [this]
      rw [this] at hk
      exact hk h2 (f1.tt f2)
    · simp only [e, decide_false, Bool.false_eq_true, if_false]
      rw [wrap_id (by omega) (by omega)]
      refine ⟨⟨f1.tt f2, k + 1, by omega, by omega, fun j hj hjk => ?_⟩, ?_⟩
      · by_cases q : j = k
        · subst q; exact e
        · exact hall j hj (by omega)
      · show xs.length - Int.toNat ((k : Int) + 1) < xs.length - Int.toNat (k : Int); omega
  · have q1 : ¬ (k : Int) < (xs.length : Int) := by omega
    simp only [q1, decide_false, Bool.false_eq_true, if_false]
    have : idxA xs id = -1 := by
      unfold idxA
      have : xs.findIdx? (fun a => decide (a.id = id)) = none := by
        rw [List.findIdx?_eq_none_iff]
        intro a ha
        obtain ⟨j, hj⟩ := List.getElem?_of_mem ha
        have hjl := (List.getElem?_eq_some_iff.1 hj).1
        rw [List.getElem?_eq_getElem hjl] at hj
        obtain rfl := Option.some.inj hj
        simpa using hall j hjl (by omega)
      rw [this]
    rw [this] at hk
    exact hk h1 f1
theorem kept1_ok {b id : Nat} (a : AV) (hid : IdAt h b id) (hk : ∀ h', Fr (fun _ => False) h h' → R (.bool (decide (a.id = id))) h') : CallsH Try.prog F.sessions_Table_Kept_1 #[.agg #[.int .u64 (a.id : Int), a.v.val], .pointer (some ⟨b, 0, none⟩)] h R := by
  refine sessions_Table_Kept_1.walk (sessions_Answer.box fun b1 h1 eb hb f1 => ⟨_, cell_at hb rfl, _, cell_at (f1.get hid (fun x => x)) rfl, ?_⟩)
  have e : (((a.id : Nat) : Int) == ((id : Nat) : Int)) = decide (a.id = id) := by
    by_cases q : a.id = id
    · simp [q]
    · have : ¬ ((a.id : Nat) : Int) = (id : Int) := by omega
      simp [q, this]
  rw [e]
  exact hk h1 f1
theorem idxKept_ok {xs : List AV} {n m b id : Nat} (hr : Row h p (xs.flatMap AV.enc)) (hn : n = xs.length) (hl : xs.length ≤ 1000000000) (hid : IdAt h b id) (hk : ∀ h', Fr (fun _ => False) h h' → R (.int .i64 (idxA xs id)) h') :
    CallsH Try.prog F.slices_IndexFunc_s_sessions_Answer_sessions_Answer #[.slice p n m, .func (.func F.sessions_Table_Kept_1) #[] #[.pointer (some ⟨b, 0, none⟩)]] h R := by
  subst hn
  refine slices_IndexFunc_s_sessions_Answer_sessions_Answer.kept.walk ?_
  refine ⟨fun i h' => Fr (fun _ => False) h h' ∧ ∃ k : Nat, i = (k : Int) ∧ k ≤ xs.length ∧ ∀ j (hj : j < xs.length), j < k → xs[j].id ≠ id, fun i _ => xs.length - i.toNat, ⟨Fr.refl _ _, 0, rfl, by omega, fun j _ hj => by omega⟩, ?_⟩
  rintro _ h1 ⟨f1, k, rfl, hkn, hall⟩
  have hr1 := hr.frame f1 (fun _ _ x => x)
  have hid1 : IdAt h1 b id := f1.get hid (fun x => x)
  by_cases hlt : k < xs.length
  · have q1 : (k : Int) < (xs.length : Int) := by omega
    simp only [q1, decide_true, if_true, Int.toNat_natCast]
    have hx : xs[k]? = some xs[k] := List.getElem?_eq_getElem hlt
    obtain ⟨a, rfl⟩ := hr1.some (fun e => by have := congrArg List.length e; rw [flat_len AV.enc 2 aenc_len, List.length_nil] at this; omega)
    refine ⟨⟨by omega, by first | trivial | omega⟩, onSome_some.2 (sessions_Answer.ldA (hr1.heldAt aenc_len hx) ?_)⟩
    refine kept1_ok xs[k] hid1 fun h2 f2 => ⟨_, rfl, ?_⟩
    by_cases e : xs[k].id = id
    · simp only [e, decide_true, if_true]
      have : idxA xs id = (k : Int) := by
        unfold idxA
        have : xs.findIdx? (fun a => decide (a.id = id)) = some k := by
          rw [List.findIdx?_eq_some_iff_getElem]
          exact ⟨hlt, by simpa using e, fun j hj => by simpa using hall j (by omega) hj⟩
        rw [this]
      rw [this] at hk
      exact hk h2 (f1.tt f2)
    · simp only [e, decide_false, Bool.false_eq_true, if_false]
      rw [wrap_id (by omega) (by omega)]
      refine ⟨⟨f1.tt f2, k + 1, by omega, by omega, fun j hj hjk => ?_⟩, ?_⟩
      · by_cases q : j = k
        · subst q; exact e
        · exact hall j hj (by omega)
      · show xs.length - Int.toNat ((k : Int) + 1) < xs.length - Int.toNat (k : Int); omega
  · have q1 : ¬ (k : Int) < (xs.length : Int) := by omega
    simp only [q1, decide_false, Bool.false_eq_true, if_false]
    have : idxA xs id = -1 := by
      unfold idxA
      have : xs.findIdx? (fun a => decide (a.id = id)) = none := by
        rw [List.findIdx?_eq_none_iff]
        intro a ha
        obtain ⟨j, hj⟩ := List.getElem?_of_mem ha
        have hjl := (List.getElem?_eq_some_iff.1 hj).1
        rw [List.getElem?_eq_getElem hjl] at hj
        obtain rfl := Option.some.inj hj
        simpa using hall j hjl (by omega)
      rw [this]
    rw [this] at hk
    exact hk h1 f1
def delI (h0 : Heap) (p : Option Addr) (cap b id : Nat) (xs : List AV) (i j : Int) (h : Heap) : Prop :=
  ∃ (a k : Nat) (zs : List AV), i = (a : Int) ∧ j = (k : Int) ∧ a < k ∧ k ≤ xs.length ∧ zs.length = xs.length ∧ zs.take a = (xs.take k).filter (fun x => decide (x.id ≠ id)) ∧ zs.drop k = xs.drop k ∧ Own h p xs.length cap 2 (zs.flatMap AV.enc) ∧ Fr (inBlk p) h0 h ∧ IdAt h b id
theorem del_ok {xs : List AV} {cap b id n : Nat} (own : Own h p xs.length cap 2 (xs.flatMap AV.enc)) (hn : n = xs.length) (hl : xs.length ≤ 1000000000) (hid : IdAt h b id) (hb : ¬ inBlk p b)
    (hk : ∀ h', Own h' p (xs.filter (fun x => decide (x.id ≠ id))).length cap 2 ((xs.filter (fun x => decide (x.id ≠ id))).flatMap AV.enc) → Fr (inBlk p) h h' → IdAt h' b id → R (.slice p (xs.filter (fun x => decide (x.id ≠ id))).length cap) h') :
    CallsH Try.prog F.slices_DeleteFunc_s_sessions_Answer_sessions_Answer #[.slice p n cap, .func (.func F.sessions_Table_Keep_1) #[] #[.pointer (some ⟨b, 0, none⟩)]] h R := by
  subst hn
  refine slices_DeleteFunc_s_sessions_Answer_sessions_Answer.keep.walk (idxKeep_ok own.row' rfl hl hid fun h1 f1 => ⟨_, rfl, ?_⟩)
  have own1 := own.frame f1 (fun _ _ x => x)
  have hid1 : IdAt h1 b id := f1.get hid (fun x => x)
  have F1 : Fr (inBlk p) h h1 := f1.mono (fun _ _ => False.elim)
  unfold idxA
  cases hf : xs.findIdx? (fun a => decide (a.id = id)) with
  | none =>
    rw [if_pos (by rfl)]
    have hall : xs.filter (fun x => decide (x.id ≠ id)) = xs := by
      rw [List.filter_eq_self]
      intro a ha
      have := List.findIdx?_eq_none_iff.1 hf a ha
      simpa using this
    rw [hall] at hk
    exact hk h1 own1 F1 hid1
  | some k =>
    dsimp only
    rw [if_neg (by simp only [beq_iff_eq]; omega)]
    obtain ⟨hkl, hke, hkb⟩ := List.findIdx?_eq_some_iff_getElem.1 hf
    rw [wrap_id (by omega) (by omega)]
    have hpre : (xs.take (k + 1)).filter (fun x => decide (x.id ≠ id)) = xs.take k := by
      rw [List.take_add_one, List.getElem?_eq_getElem hkl, List.filter_append]
      have e1 : (xs.take k).filter (fun x => decide (x.id ≠ id)) = xs.take k := by
        rw [List.filter_eq_self]
        intro a ha
        obtain ⟨j, hj⟩ := List.getElem?_of_mem ha
        rw [List.getElem?_take] at hj
        split at hj
        · rename_i hjk
          have hjl : j < xs.length := by omega
          rw [List.getElem?_eq_getElem hjl] at hj
          obtain rfl := Option.some.inj hj
          simpa using hkb j hjk
        · cases hj
      have e2 : [xs[k]].filter (fun x => decide (x.id ≠ id)) = [] := by
        simp at hke; simp [hke]
      rw [e1]
      show xs.take k ++ [xs[k]].filter (fun x => decide (x.id ≠ id)) = _
      rw [e2, List.append_nil]
    refine ⟨delI h p cap b id xs, fun _ j _ => xs.length - j.toNat, ⟨k, k + 1, xs, rfl, by omega, by omega, by omega, rfl, hpre.symm, rfl, own1, F1, hid1⟩, ?_⟩
    clear own1 hid1 F1 f1 hpre hkb hke hkl hf
    rintro _ _ h2 ⟨a, j, zs, rfl, rfl, haj, hjn, hzl, hz1, hz2, own2, F2, hid2⟩
    by_cases hjl : j < xs.length
    · have q1 : (j : Int) < (xs.length : Int) := by omega
      simp only [q1, decide_true, if_true, Int.toNat_natCast]
      have hxj : xs[j]? = some xs[j] := List.getElem?_eq_getElem hjl
      have hzj : zs[j]? = some xs[j] := by
        have := congrArg (·[0]?) hz2
        simpa [hxj] using this
      have e3 : (xs.take (j + 1)).filter (fun x => decide (x.id ≠ id)) = (xs.take j).filter (fun x => decide (x.id ≠ id)) ++ if xs[j].id = id then [] else [xs[j]] := by
        rw [List.take_add_one, hxj, List.filter_append]
        congr 1
        by_cases e : xs[j].id = id <;> simp [e]
      generalize xs[j] = x at *
      obtain ⟨ab, aoff, rfl⟩ := own2.addr (by omega)
      refine JoinP.of fun J hJ => ⟨⟨by omega, by first | trivial | omega⟩, onSome_some.2 (sessions_Answer.ldA (own2.heldAt aenc_len hzj) (sessions_Answer.new fun b6 h6 eb6 hb6 f6 => sessions_Answer.ld hb6 ?_))⟩
      have hid6 : IdAt h6 b id := f6.get hid2 (fun x => x)
      refine keep1_ok x hid6 fun h7 f7 => ⟨_, rfl, ?_⟩
      have f27 := f6.tt f7
      have own7 := own2.frame f27 (fun _ _ x => x)
      have hid7 : IdAt h7 b id := f7.get hid6 (fun x => x)
      have F7 := F2.on f27
      refine JoinP.of fun J1 hJ1 => ?_
      subst hJ1
      by_cases e : x.id = id
      · simp only [e, decide_true, Bool.not_true, Bool.false_eq_true, if_false]
        subst hJ
        rw [wrap_id (by omega) (by omega)]
        rw [if_pos e, List.append_nil] at e3
        refine ⟨⟨a, j + 1, zs, rfl, by omega, by omega, by omega, hzl, by rw [e3]; exact hz1, ?_, own7, F7, hid7⟩, ?_⟩
        · have := congrArg (List.drop 1) hz2; rw [List.drop_drop, List.drop_drop] at this; exact this
        · show xs.length - Int.toNat ((j : Int) + 1) < xs.length - Int.toNat (j : Int); omega
      · simp only [e, decide_false, Bool.not_false, if_true]
        have hb7 := f7.get hb6 (fun x => x)
        rw [if_neg e] at e3
        refine sessions_Answer.ld hb7 ⟨⟨by omega, by first | trivial | omega⟩, onSome_some.2 ?_⟩
        have hal : a < zs.length := by omega
        have hfl := flat_len AV.enc 2 aenc_len zs
        refine own7.store (by rw [hfl]; omega) fun h9 own9 s9 o9 => ?_
        rw [add_add]
        refine own9.store (by rw [List.length_set, hfl]; omega) fun h10 own10 s10 o10 => ?_
        rw [flat_set2 aenc_len hal rfl] at own10
        subst hJ
        rw [wrap_id (by omega) (by omega), wrap_id (by omega) (by omega)]
        have f10 : Fr (inBlk (some ⟨ab, aoff, none⟩)) h7 h10 := (Fr.of_eq s9 o9).tt (Fr.of_eq s10 o10)
        refine ⟨⟨a + 1, j + 1, zs.set a x, by omega, by omega, by omega, by omega, by rw [List.length_set]; exact hzl, ?_, ?_, own10, F7.tt f10, f10.get hid7 hb⟩, ?_⟩
        · rw [e3, ← hz1, List.take_add_one, List.getElem?_set, if_pos rfl, if_pos hal, List.take_set_of_le (Nat.le_refl a)]; rfl
        · rw [List.drop_set_of_lt (by omega)]
          have := congrArg (List.drop 1) hz2; rw [List.drop_drop, List.drop_drop] at this; exact this
        · show xs.length - Int.toNat ((j : Int) + 1) < xs.length - Int.toNat (j : Int); omega
    · have q1 : ¬ (j : Int) < (xs.length : Int) := by omega
      simp only [q1, decide_false, Bool.false_eq_true, if_false]
      obtain rfl : j = xs.length := by omega
      rw [List.take_length] at hz1
      have hlen : (xs.filter (fun x => decide (x.id ≠ id))).length = a := by rw [← hz1, List.length_take]; omega
      refine ⟨⟨by omega, by omega⟩, ?_⟩
      simp only [Int.toNat_natCast]
      refine den_clear tA (by intro v hv; simp [Value.cells] at hv; rcases hv with rfl | rfl <;> rfl) own2 (by omega) fun h3 own3 f3 => ⟨rfl, ⟨by omega, by have := own.le; omega⟩, ?_⟩
      rw [flat_take AV.enc 2 aenc_len, hz1] at own3
      rw [slBase_zero, Nat.sub_zero, Nat.sub_zero]
      rw [hlen] at hk
      exact hk h3 own3 (F2.tt f3) (f3.get hid2 hb)
end Ses
end Go.Proofs.Ytlnofnmdiddmkaa
