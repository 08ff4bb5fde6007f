/-
  What is proved here: parts of the proof, one behind the other (texts of this work, merged by a program; what the theorem does not use is left out). No condition.
-/
import Derived.Test.YtaphjamdblgiiaaGreatDoorProg
import Derived.Shelf.SortM.Plain
import Derived.Shelf.SortM.SortNone
import Derived.Ground.SlgmProg
import Derived.Shelf.Strconv.Itoa4
import Derived.Ground.NamesProg
import Derived.Test.YtaphjamdblgiiaaGreatDoorMDansc
set_option linter.defProp false
set_option maxRecDepth 100000
set_option maxHeartbeats 4000000
namespace Go.Proofs.YtaphjamdblgiiaaGreatDoor
open Go.Den
open IntKind (wrap)
open Int (toNat)
section
open Go.Fields
namespace Ses
open Fld
variable {h h' h0:Heap} {t:Nat} {X:Ft} {p:TyO} {c i:Nat}
structure AV where
  id : Nat
  v : BV
abbrev AV.enc (a : AV) : List Value := [.int .u64 (a.id : Int), a.v.val]
structure SC where
  b : Nat
  num : Nat
  token : Nat
  up : Bool
  watch : Bool
  kept : List AV
  kp : Option Addr
  kc : Nat
  notes : List BV
  np : Option Addr
  nc : Nat
structure Ses where
  num : Nat
  token : Nat
  up : Bool
  watch : Bool
  kept : List (Nat × List UInt8)
  notes : List (List UInt8)
def AV.abs (a : AV) : Nat × List UInt8 := (a.id, a.v.b)
def SC.abs (s : SC) : Ses := ⟨s.num, s.token, s.up, s.watch, s.kept.map AV.abs, s.notes.map BV.b⟩
theorem set_same {α : Type} {l : List α} {i : Nat} {v : α} (h : l[i]? = some v) : l.set i v = l := by
  apply List.ext_getElem?
  intro j
  rw [List.getElem?_set]
  split
  · grind
  · rfl
abbrev Lab := Nat → Option Nat
abbrev At (h : Heap) (s : SC) : Prop := sessions_Session.at h s.b (s.num : Int) (s.token : Int) s.up s.watch s.kp s.kept.length s.kc s.np s.notes.length s.nc
structure SesAt (h : Heap) (lab : Lab) (D : Nat → Prop) (i : Nat) (s : SC) : Prop where
  blk : At h s
  lb : lab s.b = some (2 + 3 * i)
  kown : Own h s.kp s.kept.length s.kc 2 (s.kept.flatMap AV.enc)
  kl : ∀ c, inBlk s.kp c → lab c = some (3 + 3 * i)
  nown : Own h s.np s.notes.length s.nc 1 (s.notes.flatMap nenc)
  nl : ∀ c, inBlk s.np c → lab c = some (4 + 3 * i)
  kd : ∀ a ∈ s.kept, a.v.ok h D
  nd : ∀ n ∈ s.notes, n.ok h D
structure Tab (h : Heap) (t : Nat) (lab : Lab) (D : Nat → Prop) (L : List SC) : Prop where
  blk : ∃ p c, h[t]? = some (.cells #[.bool true, .slice p L.length c] 193 (0, 0)) ∧ Own h p L.length c 1 (L.map fun s => .pointer (some ⟨s.b, 0, none⟩)) ∧ ∀ x, inBlk p x → lab x = some 1
  lt0 : lab t = some 0
  ses : ∀ i s, L[i]? = some s → SesAt h lab D i s
  llt : ∀ c r, lab c = some r → c < h.size
  dlt : ∀ c, D c → c < h.size
  ap : ∀ c r, lab c = some r → ¬ D c
def HasB (h : Heap) (t : Nat) (X : Ft) (A : List Ses) (B : List Nat) : Prop :=
  ∃ lab L, Tab h t lab X.D L ∧ L.map SC.abs = A ∧ L.map SC.b = B ∧ ∀ c, X.M c ↔ ∃ r, lab c = some r
def Has (h : Heap) (t : Nat) (X : Ft) (A : List Ses) : Prop := ∃ B, HasB h t X A B
variable {lab : Lab} {D : Nat → Prop} {L : List SC} {A : List Ses}
theorem SesAt.frame {Q : Nat → Prop} {s : SC} (H : SesAt h lab D i s) (f : Fr Q h h') (hq : ∀ c r, lab c = some r → 2 + 3 * i ≤ r → r ≤ 4 + 3 * i → ¬ Q c) (hd : ∀ c, D c → ¬ Q c) : SesAt h' lab D i s :=
  ⟨f.get H.blk (hq _ _ H.lb (by omega) (by omega)), H.lb, H.kown.frame f (fun c hc => hq c _ (H.kl c hc) (by omega) (by omega)), H.kl, H.nown.frame f (fun c hc => hq c _ (H.nl c hc) (by omega) (by omega)), H.nl, fun a ha => (H.kd a ha).frame f hd, fun n hn => (H.nd n hn).frame f hd⟩
theorem SesAt.mono {lab' : Lab} {D' : Nat → Prop} {s : SC} (H : SesAt h lab D i s) (hl : ∀ c r, lab c = some r → lab' c = some r) (hd : ∀ c, D c → D' c) : SesAt h lab' D' i s :=
  ⟨H.blk, hl _ _ H.lb, H.kown, fun c hc => hl c _ (H.kl c hc), H.nown, fun c hc => hl c _ (H.nl c hc), fun a ha => (H.kd a ha).mono hd, fun n hn => (H.nd n hn).mono hd⟩
theorem HasB.lt {B : List Nat} (H : HasB h t X A B) : ∀ x, X.M x ∨ X.D x → x < h.size := by
  have ⟨lab, L, T, _, _, hS⟩ := H
  rintro x (hx | hd)
  · have ⟨r, hr⟩ := (hS x).1 hx
    exact T.llt x r hr
  · exact T.dlt x hd
theorem HasB.dis {B : List Nat} (H : HasB h t X A B) : ∀ x, X.M x → ¬ X.D x := by
  have ⟨lab, L, T, _, _, hS⟩ := H
  intro x hx
  have ⟨r, hr⟩ := (hS x).1 hx
  exact T.ap x r hr
theorem HasB.frame {B : List Nat} {Q : Nat → Prop} (H : HasB h t X A B) (f : Fr Q h h') (hq : ∀ x, X.M x ∨ X.D x → ¬ Q x) : HasB h' t X A B := by
  have ⟨lab, L, T, e, eB, hS⟩ := H
  have ⟨p, c, hb, own, hp⟩ := T.blk
  have hl  := fun c r hr => hq c (.inl ((hS c).2 ⟨r, hr⟩))
  refine ⟨lab, L, ⟨⟨p, c, f.get hb (hl t _ T.lt0), own.frame f (fun x hx => hl x _ (hp x hx)), hp⟩, T.lt0, fun i s hs => (T.ses i s hs).frame f (fun c r hr _ _ => hl c r hr) (fun c hd => hq c (.inr hd)), ?_, ?_, T.ap⟩, e, eB, hS⟩
  · intro c r hr; exact Nat.lt_of_lt_of_le (T.llt c r hr) f.1
  · intro c hd; exact Nat.lt_of_lt_of_le (T.dlt c hd) f.1
theorem Has.lt (H : Has h t X A) : ∀ x, X.M x ∨ X.D x → x < h.size := by have ⟨B, H⟩ := H; exact H.lt
theorem Has.dis (H : Has h t X A) : ∀ x, X.M x → ¬ X.D x := by have ⟨B, H⟩ := H; exact H.dis
theorem Has.frame {Q : Nat → Prop} (H : Has h t X A) (f : Fr Q h h') (hq : ∀ x, X.M x ∨ X.D x → ¬ Q x) : Has h' t X A := by have ⟨B, H⟩ := H; exact ⟨B, H.frame f hq⟩
open Classical in
theorem Tab.updG {s s' : SC} {Q E : Nat → Prop} (T : Tab h t lab X.D L) (hS : ∀ c, X.M c ↔ ∃ r, lab c = some r) (hs : L[i]? = some s) (hb : s'.b = s.b) (f : Fr Q h h') (hq : ∀ c, Q c → ∃ r, lab c = some r ∧ 2 + 3 * i ≤ r ∧ r ≤ 4 + 3 * i)
    (blk : At h' s') (kown : Own h' s'.kp s'.kept.length s'.kc 2 (s'.kept.flatMap AV.enc)) (kn : ∀ c, inBlk s'.kp c → lab c = some (3 + 3 * i) ∨ h.size ≤ c)
    (nown : Own h' s'.np s'.notes.length s'.nc 1 (s'.notes.flatMap nenc)) (nn : ∀ c, inBlk s'.np c → lab c = some (4 + 3 * i) ∨ h.size ≤ c) (kn' : ∀ c, inBlk s'.kp c → inBlk s'.np c → False)
    (hE : ∀ c, E c → lab c = none ∧ c < h'.size ∧ ¬ inBlk s'.kp c ∧ ¬ inBlk s'.np c) (kd : ∀ a ∈ s'.kept, a.v.ok h' (fun c => X.D c ∨ E c)) (nd : ∀ n ∈ s'.notes, n.ok h' (fun c => X.D c ∨ E c)) :
    ∃ X', HasB h' t X' ((L.map SC.abs).set i s'.abs) (L.map SC.b) ∧ Fr X.M h h' ∧ (∀ c, X'.M c → X.M c ∨ h.size ≤ c) ∧ (∀ c, X'.D c → X.D c ∨ E c) ∧ ∀ c, X.D c → X'.D c := by
  let lab' : Lab := fun c => if h.size ≤ c ∧ inBlk s'.kp c then some (3 + 3 * i) else if h.size ≤ c ∧ inBlk s'.np c then some (4 + 3 * i) else lab c
  have old : ∀ c r, lab c = some r → lab' c = some r := fun c r hr => by
    have := T.llt c r hr
    show (if h.size ≤ c ∧ inBlk s'.kp c then some (3 + 3 * i) else if h.size ≤ c ∧ inBlk s'.np c then some (4 + 3 * i) else lab c) = some r
    rw [if_neg (fun hh => by omega), if_neg (fun hh => by omega)]; exact hr
  have new : ∀ c r, lab' c = some r → lab c = some r ∨ (h.size ≤ c ∧ (inBlk s'.kp c ∨ inBlk s'.np c)) := fun c r hr => by
    have hr : (if h.size ≤ c ∧ inBlk s'.kp c then some (3 + 3 * i) else if h.size ≤ c ∧ inBlk s'.np c then some (4 + 3 * i) else lab c) = some r := hr
    split at hr
    · rename_i hh; exact .inr ⟨hh.1, .inl hh.2⟩
    · split at hr
      · rename_i hh; exact .inr ⟨hh.1, .inr hh.2⟩
      · exact .inl hr
  have nb : ∀ c, inBlk s'.kp c ∨ inBlk s'.np c → c < h'.size := fun c hc => hc.elim (fun hc => kown.blk_lt hc) (fun hc => nown.blk_lt hc)
  have hd : ∀ c, X.D c → ¬ Q c := fun c hc hx => by obtain ⟨r, hr, _⟩ := hq c hx; exact T.ap c r hr hc
  obtain ⟨p, c0, hbt, own, hp⟩ := T.blk
  have hil : i < L.length := (List.getElem?_eq_some_iff.1 hs).1
  have nQ0 : ¬ Q t := fun hx => by obtain ⟨r, hr, h1, h2⟩ := hq t hx; rw [T.lt0] at hr; cases hr; omega
  have nQ1 : ∀ x, inBlk p x → ¬ Q x := fun x hx hq' => by obtain ⟨r, hr, h1, h2⟩ := hq x hq'; rw [hp x hx] at hr; cases hr; omega
  have ptrs : (L.set i s').map (fun s => Value.pointer (some ⟨s.b, 0, none⟩)) = L.map (fun s => Value.pointer (some ⟨s.b, 0, none⟩)) := by
    rw [List.map_set, hb]
    exact set_same (by rw [List.getElem?_map, hs]; rfl)
  have blks : (L.set i s').map SC.b = L.map SC.b := by
    rw [List.map_set, hb]
    exact set_same (by rw [List.getElem?_map, hs]; rfl)
  refine ⟨⟨fun c => ∃ r, lab' c = some r, fun c => X.D c ∨ E c⟩, ⟨lab', L.set i s', ⟨⟨p, c0, ?_, ?_, fun x hx => old x _ (hp x hx)⟩, old t 0 T.lt0, ?_, ?_, ?_, ?_⟩, ?_, blks, fun c => Iff.rfl⟩, ?_, ?_, fun c h => h, fun c => .inl⟩
  · rw [List.length_set]; exact f.get hbt nQ0
  · rw [ptrs, List.length_set]; exact own.frame f nQ1
  · intro j sj hj
    rw [List.getElem?_set] at hj
    by_cases e : i = j
    · subst e
      rw [if_pos rfl, if_pos hil] at hj
      obtain rfl := Option.some.inj hj
      refine ⟨blk, ?_, kown, fun c hc => ?_, nown, fun c hc => ?_, kd, nd⟩
      · rw [hb]; exact old _ _ (T.ses i s hs).lb
      · show (if h.size ≤ c ∧ inBlk s'.kp c then some (3 + 3 * i) else if h.size ≤ c ∧ inBlk s'.np c then some (4 + 3 * i) else lab c) = _
        rcases kn c hc with h1 | h1
        · have := T.llt c _ h1
          rw [if_neg (fun hh => by omega), if_neg (fun hh => by omega)]; exact h1
        · rw [if_pos ⟨h1, hc⟩]
      · show (if h.size ≤ c ∧ inBlk s'.kp c then some (3 + 3 * i) else if h.size ≤ c ∧ inBlk s'.np c then some (4 + 3 * i) else lab c) = _
        rw [if_neg (fun hh => kn' c hh.2 hc)]
        rcases nn c hc with h1 | h1
        · have := T.llt c _ h1
          rw [if_neg (fun hh => by omega)]; exact h1
        · rw [if_pos ⟨h1, hc⟩]
    · rw [if_neg e] at hj
      refine ((T.ses j sj hj).frame f (fun c r hr h1 h2 hx => ?_) hd).mono old (fun c => .inl)
      obtain ⟨r', hr', h3, h4⟩ := hq c hx
      rw [hr] at hr'; cases hr'
      omega
  · intro c r hr
    rcases new c r hr with h1 | ⟨_, h1⟩
    · exact Nat.lt_of_lt_of_le (T.llt c r h1) f.1
    · exact nb c h1
  · rintro c (h1 | h1)
    · exact Nat.lt_of_lt_of_le (T.dlt c h1) f.1
    · exact (hE c h1).2.1
  · rintro c r hr (h1 | h1)
    · rcases new c r hr with h2 | ⟨h2, _⟩
      · exact T.ap c r h2 h1
      · have := T.dlt c h1; omega
    · rcases new c r hr with h2 | ⟨_, h2⟩
      · rw [(hE c h1).1] at h2; cases h2
      · exact h2.elim (hE c h1).2.2.1 (hE c h1).2.2.2
  · rw [List.map_set]
  · exact f.mono (fun c _ hx => by obtain ⟨r, hr, _⟩ := hq c hx; exact (hS c).2 ⟨r, hr⟩)
  · rintro c ⟨r, hr⟩
    rcases new c r hr with h2 | ⟨h2, _⟩
    · exact .inl ((hS c).2 ⟨r, h2⟩)
    · exact .inr h2
theorem Tab.upd {s s' : SC} {Q E : Nat → Prop} (T : Tab h t lab X.D L) (hS : ∀ c, X.M c ↔ ∃ r, lab c = some r) (hs : L[i]? = some s) (hb : s'.b = s.b) (f : Fr Q h h') (hq : ∀ c, Q c → ∃ r, lab c = some r ∧ 2 + 3 * i ≤ r ∧ r ≤ 4 + 3 * i)
    (blk : At h' s') (kown : Own h' s'.kp s'.kept.length s'.kc 2 (s'.kept.flatMap AV.enc)) (kn : ∀ c, inBlk s'.kp c → lab c = some (3 + 3 * i) ∨ h.size ≤ c)
    (nown : Own h' s'.np s'.notes.length s'.nc 1 (s'.notes.flatMap nenc)) (nn : ∀ c, inBlk s'.np c → lab c = some (4 + 3 * i) ∨ h.size ≤ c) (kn' : ∀ c, inBlk s'.kp c → inBlk s'.np c → False)
    (hE : ∀ c, E c → h.size ≤ c ∧ c < h'.size ∧ ¬ inBlk s'.kp c ∧ ¬ inBlk s'.np c) (kd : ∀ a ∈ s'.kept, a.v.ok h' (fun c => X.D c ∨ E c)) (nd : ∀ n ∈ s'.notes, n.ok h' (fun c => X.D c ∨ E c)) :
    ∃ X', HasB h' t X' ((L.map SC.abs).set i s'.abs) (L.map SC.b) ∧ StepF X h X' h' := by
  obtain ⟨X', H', f', m', d', o'⟩ := T.updG (Q := Q) (E := E) hS hs hb f hq blk kown kn nown nn kn' (fun c hc => ⟨by
    cases hl : lab c with
    | none => rfl
    | some r => have := T.llt c r hl; have := (hE c hc).1; omega, (hE c hc).2⟩) kd nd
  exact ⟨X', H', f', m', fun c hc => (d' c hc).imp (fun h => h) (fun h => (hE c h).1), o'⟩
theorem Tab.flag {s s' : SC} (T : Tab h t lab X.D L) (hS : ∀ c, X.M c ↔ ∃ r, lab c = some r) (hs : L[i]? = some s) (hb : s'.b = s.b) (hk : s'.kept = s.kept ∧ s'.kp = s.kp ∧ s'.kc = s.kc) (hn : s'.notes = s.notes ∧ s'.np = s.np ∧ s'.nc = s.nc)
    (blk : At h' s') (hsz : h'.size = h.size) (ho : ∀ x, x ≠ s.b → h'[x]? = h[x]?) : ∃ X', HasB h' t X' ((L.map SC.abs).set i s'.abs) (L.map SC.b) ∧ StepF X h X' h' := by
  have H := T.ses i s hs
  have f : Fr (fun x => x = s.b) h h' := Fr.of_eq hsz ho
  have nk : ∀ c, inBlk s.kp c → ¬ c = s.b := fun c hc e => by have h1 := H.kl c hc; rw [e, H.lb] at h1; simp at h1
  have nn : ∀ c, inBlk s.np c → ¬ c = s.b := fun c hc e => by have h1 := H.nl c hc; rw [e, H.lb] at h1; simp at h1
  have nD : ∀ c, X.D c → ¬ c = s.b := fun c hc e => T.ap c _ (e ▸ H.lb) hc
  refine T.upd (Q := fun x => x = s.b) (E := fun _ => False) hS hs hb f (fun c e => ⟨_, e ▸ H.lb, by omega, by omega⟩) blk ?_ ?_ ?_ ?_ ?_ (fun c hc => hc.elim) ?_ ?_
  · rw [hk.1, hk.2.1, hk.2.2]; exact H.kown.frame f nk
  · rw [hk.2.1]; exact fun c hc => .inl (H.kl c hc)
  · rw [hn.1, hn.2.1, hn.2.2]; exact H.nown.frame f nn
  · rw [hn.2.1]; exact fun c hc => .inl (H.nl c hc)
  · rw [hk.2.1, hn.2.1]; exact fun c h1 h2 => by have a := H.kl c h1; have b := H.nl c h2; rw [a] at b; simp at b
  · rw [hk.1]; exact fun a ha => ((H.kd a ha).frame f nD).mono (fun c => .inl)
  · rw [hn.1]; exact fun n hn => ((H.nd n hn).frame f nD).mono (fun c => .inl)
open Classical in
theorem Tab.add {s : SC} {p : Option Addr} {c0 : Nat} {Q : Nat → Prop} (TB : Tab h t lab X.D L) (hS : ∀ c, X.M c ↔ ∃ r, lab c = some r) (f : Fr Q h h') (hq : ∀ c, Q c → lab c = some 0 ∨ lab c = some 1)
    (hbt : h'[t]? = some (.cells #[.bool true, .slice p (L.length + 1) c0] 193 (0, 0))) (own : Own h' p (L.length + 1) c0 1 (L.map (fun s => .pointer (some ⟨s.b, 0, none⟩)) ++ [.pointer (some ⟨s.b, 0, none⟩)]))
    (hp : ∀ x, inBlk p x → lab x = some 1 ∨ h.size ≤ x) (hpb : ¬ inBlk p s.b) (blk : At h' s) (hsb : h.size ≤ s.b) (hk : s.kept = [] ∧ s.kp = none ∧ s.kc = 0) (hn : s.notes = [] ∧ s.np = none ∧ s.nc = 0) :
    ∃ X', HasB h' t X' (L.map SC.abs ++ [s.abs]) (L.map SC.b ++ [s.b]) ∧ StepF X h X' h' := by
  have hsl := lt_of_get blk
  let lab' : Lab := fun c => if c = s.b then some (2 + 3 * L.length) else if h.size ≤ c ∧ inBlk p c then some 1 else lab c
  have old : ∀ c r, lab c = some r → lab' c = some r := fun c r hr => by
    have := TB.llt c r hr
    show (if c = s.b then some (2 + 3 * L.length) else if h.size ≤ c ∧ inBlk p c then some 1 else lab c) = some r
    rw [if_neg (fun hh => by omega), if_neg (fun hh => by omega)]; exact hr
  have new : ∀ c r, lab' c = some r → lab c = some r ∨ (h.size ≤ c ∧ (c = s.b ∨ inBlk p c)) := fun c r hr => by
    have hr : (if c = s.b then some (2 + 3 * L.length) else if h.size ≤ c ∧ inBlk p c then some 1 else lab c) = some r := hr
    split at hr
    · rename_i hh; exact .inr ⟨by omega, .inl hh⟩
    · split at hr
      · rename_i hh; exact .inr ⟨hh.1, .inr hh.2⟩
      · exact .inl hr
  have hd : ∀ c, X.D c → ¬ Q c := fun c hc hx => (hq c hx).elim (fun h1 => TB.ap c _ h1 hc) (fun h1 => TB.ap c _ h1 hc)
  refine ⟨⟨fun c => ∃ r, lab' c = some r, X.D⟩, ⟨lab', L ++ [s], ⟨⟨p, c0, ?_, ?_, ?_⟩, old t 0 TB.lt0, ?_, ?_, ?_, ?_⟩, ?_, by rw [List.map_append]; rfl, fun c => Iff.rfl⟩, ?_, ?_, fun c => .inl, fun c => id⟩
  · rw [List.length_append]; exact hbt
  · rw [List.length_append, List.map_append]; exact own
  · intro x hx
    show (if x = s.b then some (2 + 3 * L.length) else if h.size ≤ x ∧ inBlk p x then some 1 else lab x) = some 1
    rw [if_neg (fun e : x = s.b => hpb (e ▸ hx))]
    rcases hp x hx with h1 | h1
    · have := TB.llt x _ h1
      rw [if_neg (fun hh => by omega)]; exact h1
    · rw [if_pos ⟨h1, hx⟩]
  · intro j sj hj
    by_cases e : j < L.length
    · rw [List.getElem?_append_left e] at hj
      refine ((TB.ses j sj hj).frame f (fun c r hr h1 h2 hx => ?_) hd).mono old (fun c h => h)
      rcases hq c hx with h3 | h3
      · rw [hr] at h3; cases h3; omega
      · rw [hr] at h3; cases h3; omega
    · rw [List.getElem?_append_right (by omega)] at hj
      have e2 : j = L.length := by
        have := (List.getElem?_eq_some_iff.1 hj).1; simp at this; omega
      subst e2
      simp at hj
      subst hj
      refine ⟨blk, ?_, ?_, ?_, ?_, ?_, ?_, ?_⟩
      · show (if s.b = s.b then some (2 + 3 * L.length) else _) = _
        rw [if_pos rfl]
      · rw [hk.1, hk.2.1, hk.2.2]; exact .nil rfl rfl rfl rfl
      · rw [hk.2.1]; rintro c ⟨a, e, _⟩; cases e
      · rw [hn.1, hn.2.1, hn.2.2]; exact .nil rfl rfl rfl rfl
      · rw [hn.2.1]; rintro c ⟨a, e, _⟩; cases e
      · rw [hk.1]; intro a ha; cases ha
      · rw [hn.1]; intro a ha; cases ha
  · intro c r hr
    rcases new c r hr with h1 | ⟨_, h1 | h1⟩
    · exact Nat.lt_of_lt_of_le (TB.llt c r h1) f.1
    · omega
    · exact own.blk_lt h1
  · intro c h1; exact Nat.lt_of_lt_of_le (TB.dlt c h1) f.1
  · intro c r hr h1
    rcases new c r hr with h2 | ⟨h2, _⟩
    · exact TB.ap c r h2 h1
    · have := TB.dlt c h1; omega
  · rw [List.map_append]; rfl
  · exact f.mono (fun c _ hx => (hS c).2 ((hq c hx).elim (fun h1 => ⟨_, h1⟩) (fun h1 => ⟨_, h1⟩)))
  · rintro c ⟨r, hr⟩
    rcases new c r hr with h2 | ⟨h2, _⟩
    · exact .inl ((hS c).2 ⟨r, h2⟩)
    · exact .inr h2
abbrev IdAt (h : Heap) (b : Nat) (id : Nat) : Prop := h[b]? = some (.cells #[.int .u64 (id : Int)] 22 (0, 0))
def delI (h0 : Heap) (p : Option Addr) (cap b id : Nat) (xs : List AV) (i j : Int) (h : Heap) : Prop :=
  ∃ (a k : Nat) (zs : List AV), i = (a : Int) ∧ j = (k : Int) ∧ a < k ∧ k ≤ xs.length ∧ zs.length = xs.length ∧ zs.take a = (xs.take k).filter (fun x => decide (x.id ≠ id)) ∧ zs.drop k = xs.drop k ∧ Own h p xs.length cap 2 (zs.flatMap AV.enc) ∧ Fr (inBlk p) h0 h ∧ IdAt h b id
end Ses
end
section
namespace Ses
variable {A:List Ses} {num:Int} {s s':Ses} {i:Nat}
structure okS (i : Nat) (s : Ses) : Prop where
  num : s.num = i + 1
  tk : 1 ≤ s.token ∧ s.token ≤ 2147483648
  kl : s.kept.length ≤ 6
  nl : s.notes.length ≤ 6
  kd : ∀ a ∈ s.kept, a.1 ≤ 1099511627776 ∧ a.2.length ≤ 1000
  nd : ∀ n ∈ s.notes, 1 ≤ n.length ∧ n.length ≤ 600
  ki : (s.kept.map (·.1)).Nodup
structure okA (A : List Ses) : Prop where
  le : A.length ≤ 8
  at_ : ∀ i s, A[i]? = some s → okS i s
  tk : (A.map (·.token)).Nodup
def getA (A : List Ses) (num : Int) : Option Ses := if 1 ≤ num then A[(num - 1).toNat]? else none
theorem getA_some (h : getA A num = some s) : ∃ i : Nat, num = (i : Int) + 1 ∧ A[i]? = some s := by
  unfold getA at h
  split at h
  · exact ⟨(num - 1).toNat, by omega, h⟩
  · cases h
theorem getA_at : getA A ((i : Int) + 1) = A[i]? := by
  unfold getA
  rw [if_pos (by omega), show ((i : Int) + 1 - 1).toNat = i by omega]
theorem getA_none (h : num < 1 ∨ num > (A.length : Int)) : getA A num = none := by
  unfold getA
  split
  · simp;omega
  · rfl
def setA (A : List Ses) (num : Int) (s : Ses) : List Ses := A.set (num - 1).toNat s
def hasTk (A : List Ses) (token : Nat) : Bool := A.any fun s => decide (s.token = token)
def openE (A : List Ses) (token : Nat) : Int := if token < 1 ∨ token > 2147483648 then 1 else if hasTk A token = true then 12 else if A.length ≥ 8 then 5 else 0
def openN (A : List Ses) (token : Nat) : Int := if openE A token = 0 then (A.length : Int) + 1 else 0
def openA (A : List Ses) (token : Nat) : List Ses := if openE A token = 0 then A ++ [⟨A.length + 1, token, true, false, [], []⟩] else A
def downE (A : List Ses) (num : Int) : Int := match getA A num with | none => 4 | some s => if s.up = true then 0 else 7
def downA (A : List Ses) (num : Int) : List Ses := match getA A num with | none => A | some s => if s.up = true then setA A num { s with up := false } else A
theorem okA.set (ok : okA A) (hs : A[i]? = some s) (ht : s'.token = s.token) (h' : okS i s') : okA (A.set i s') := by
  refine ⟨by rw [List.length_set]; exact ok.le, fun j u hj => ?_, ?_⟩
  · rw [List.getElem?_set] at hj
    by_cases e : i = j
    · grind
    · rw [if_neg e] at hj
      exact ok.at_ j u hj
  · rw [List.map_set, ht, set_same (by grind)]
    exact ok.tk
theorem okA.setA (ok : okA A) (hs : getA A num = some s) (ht : s'.token = s.token) (h' : ∀ i, okS i s → okS i s') : okA (setA A num s') := by
  obtain ⟨i, rfl, hi⟩ := getA_some hs
  unfold Ses.setA
  rw [show ((i : Int) + 1 - 1).toNat = i by omega]
  exact ok.set hi ht (h' i (ok.at_ i s hi))
theorem okA.open (ok : okA A) (token : Nat) : okA (openA A token) := by
  unfold openA
  split
  · rename_i he
    unfold openE at he
    split at he
    · cases he
    rename_i h1
    split at he
    · cases he
    rename_i h2
    split at he
    · cases he
    rename_i h3
    refine ⟨by grind, fun j u hj => ?_, ?_⟩
    · by_cases e : j < A.length
      · rw [List.getElem?_append_left e] at hj; exact ok.at_ j u hj
      · have e2 : j = A.length := by
          grind
        subst e2
        simp at hj; subst hj
        exact ⟨rfl, by grind, by simp, by simp, by simp, by simp, by simp⟩
    · rw [List.map_append, List.nodup_append]
      refine ⟨ok.tk, by simp, fun a ha b hb e => ?_⟩
      apply h2
      unfold hasTk
      rw [List.any_eq_true]
      have ⟨s, hs, e⟩ := List.mem_map.1 ha
      exact ⟨s, hs, by grind⟩
  · exact ok
theorem okA.nil : okA [] := ⟨by simp, by simp, by simp⟩

end Ses
end
section
open Go.Fields
namespace Ses
open Fld
variable {h h':Heap} {t:Nat} {X:Ft} {R:TyP} {p:TyO} {c i:Nat} {lab:Lab} {D:Nat→Prop} {L:List SC} {A:List Ses}
variable {num k:Int}
theorem tP : SlTy Tryz.prog 191 318 1 8 (.pointer none) := ⟨by kernel_rfl, by kernel_rfl, rfl⟩
theorem uP : Tryz.prog.underlying 191 = some (.slice 318) := by kernel_rfl
theorem new_ok (hk : ∀ h' t X, Has h' t X [] → Fr No h h' → (∀ x, X.M x ∨ X.D x → h.size ≤ x) → R (.pointer (some ⟨t, 0, none⟩)) h') : Cl 60 #[] h R := by
  refine sessions_New.walk (newP_of (hk _ _ ⟨fun x => x = h.size, fun _ => False⟩ ⟨[], fun x => if x = h.size then some 0 else none, [], ⟨⟨none, 0, push_new, .nil rfl rfl rfl rfl, fun x ⟨a, e, _⟩ => by cases e⟩, by simp, fun i s hs => by simp at hs, ?_, fun _ h => h.elim, fun _ _ _ h => h⟩, rfl, rfl, ?_⟩ (Fr.push _ _) (fun x hx => hx.elim (fun e => by omega) False.elim)))
  · grind
  · simp
theorem find_ok (TB : Tab h t lab D L) (k1 : ∀ i s, num = ((i : Nat) : Int) + 1 → L[i]? = some s → R (.tuple #[.pointer (some ⟨s.b, 0, none⟩), .int .i64 0]) h) (k2 : (num < 1 ∨ num > (L.length : Int)) → R (.tuple #[.pointer none, .int .i64 4]) h) (hl : L.length ≤ 1000000) :
    Cl 204 #[.pointer (some ⟨t, 0, none⟩), .int .i64 num] h R := by
  have ⟨p, c, hb, own, hp⟩ := TB.blk
  refine sessions_Table_find.walk (JoinP.of fun J hJ => ⟨true, cell_at hb rfl, ?_⟩)
  subst hJ
  simp only [Bool.not_true, Bool.false_eq_true, if_false]
  refine JoinP.of fun J hJ => ?_
  by_cases h1 : num < 1
  · grind
  · rw [if_neg (by simp only [decide_eq_true_eq]; omega)]
    refine ⟨_, _, _, cell_at hb rfl, ?_⟩
    by_cases h2 : num > (L.length)
    · grind
    · simp only [h2, decide_false]
      subst hJ
      obtain ⟨i, rfl⟩ : ∃ i : Nat, num = (i) + 1 := ⟨(num - 1).toNat, by omega⟩
      have hil : i < L.length := by omega
      obtain ⟨ab, aoff, rfl⟩ := own.addr (by omega)
      have e : IntKind.wrap .i64 ((i) + 1 - 1) = (i) := by rw [wrap_id (by omega) (by omega)]; omega
      refine ⟨_, _, _, cell_at hb rfl, ⟨by omega, by omega⟩, onSome_some.2 ⟨_, (own.cell (by grind)), k1 i _ rfl (List.getElem?_eq_getElem hil)⟩⟩
theorem of_ok (token : Nat) (hk0 : k = (token : Int)) (TB : Tab h t lab D L) (hl : L.length ≤ 1000000) (k1 : ∀ i s, L[i]? = some s → s.token = token → L.findIdx? (fun s => decide (s.token = token)) = some i → R (.pointer (some ⟨s.b, 0, none⟩)) h)
    (k2 : L.findIdx? (fun s => decide (s.token = token)) = none → R (.pointer none) h) : Cl 203 #[.pointer (some ⟨t, 0, none⟩), .int .u64 k] h R := by
  have ⟨p, c, hb, own, hp⟩ := TB.blk
  refine sessions_Table_of.walk ⟨_, _, _, cell_at hb rfl, ⟨fun i h' => h' = h ∧ ∃ k : Nat, i = (k) ∧ k ≤ L.length ∧ ∀ j (hj : j < L.length), j < k → L[j].token ≠ token, fun i _ => L.length - i.toNat, ⟨rfl, 0, rfl, by omega, fun j _ hj => by omega⟩, ?_⟩⟩
  rintro _ h1 ⟨rfl, k, rfl, hkn, hall⟩
  by_cases hlt : k < L.length
  · have q1 : (k) < (L.length : Int) := by omega
    simp only [q1, decide_true, if_true, Int.toNat_natCast]
    have hs  := List.getElem?_eq_getElem hlt
    obtain ⟨ab, aoff, rfl⟩ := own.addr (by omega)
    refine ⟨⟨by omega, by first | omega | simp⟩, onSome_some.2 ⟨some ⟨L[k].b, 0, none⟩, ?_, onSome_some.2 ⟨_, cell_at ((TB.ses k _ hs).blk) rfl, ?_⟩⟩⟩
    · exact own.cell (by grind)
    by_cases e : L[k].token = token
    · rw [if_pos (by grind)]
      refine k1 k _ hs e ?_
      rw [List.findIdx?_eq_some_iff_getElem]
      exact ⟨hlt, by grind, fun j hj => by grind⟩
    · rw [if_neg (by grind),wrap_id (by omega) (by omega)]
      refine ⟨⟨trivial, k + 1, by omega, by omega, fun j hj hjk => ?_⟩, ?_⟩
      · grind
      · grind
  · rw [if_neg (by simp only [decide_eq_true_eq]; omega)]
    refine k2 ?_
    rw [List.findIdx?_eq_none_iff]
    intro a ha
    have ⟨j, hj⟩ := List.getElem?_of_mem ha
    have hjl := (List.getElem?_eq_some_iff.1 hj).1
    rw [List.getElem?_eq_getElem hjl] at hj
    obtain rfl := Option.some.inj hj
    simpa using hall j hjl (by omega)
theorem abs_at {s : SC} (hs : L[i]? = some s) : (L.map SC.abs)[i]? = some s.abs := by grind
theorem open_ok (token : Nat) (hk0 : k = (token : Int)) (H : Has h t X A) (ok : okA A) (hk : ∀ h' X', Has h' t X' (openA A token) → StepF X h X' h' → R (.tuple #[.int .i64 (openN A token), .int .i64 (openE A token)]) h') :
    Cl 167 #[.pointer (some ⟨t, 0, none⟩), .int .u64 k] h R := by
  subst hk0
  have H0 := H
  obtain ⟨_, lab, L, TB, rfl, _, hS⟩ := H
  have hl := ok.le
  rw [List.length_map] at hl
  obtain ⟨p, c, hb, own, hp⟩ := TB.blk
  refine sessions_Table_Open.walk (JoinP.of fun J hJ => ⟨true, cell_at hb rfl, ?_⟩)
  subst hJ
  simp only [Bool.not_true, Bool.false_eq_true, if_false]
  refine JoinP.of fun J hJ => ?_
  unfold openN openA at hk
  have jt : (token < 1 ∨ token > 2147483648) → J true h := by
    intro hh
    subst hJ
    simp only [if_true]
    have e : openE (L.map SC.abs) token = 1 := by unfold openE; rw [if_pos hh]
    rw [e] at hk
    exact hk h X H0 (StepF.refl _ _)
  have jf : ¬ (token < 1 ∨ token > 2147483648) → J false h := by
    intro hh
    subst hJ
    simp only [Bool.false_eq_true, if_false]
    refine of_ok token rfl TB (by omega) (fun i s hs ht hf => ⟨_, rfl, ?_⟩) (fun hf => ⟨_, rfl, ?_⟩)
    · simp only [Option.isNone_some, Bool.not_false, if_true]
      have e : openE (L.map SC.abs) token = 12 := by
        unfold openE
        rw [if_neg hh, if_pos]
        unfold hasTk
        rw [List.any_eq_true]
        exact ⟨s.abs, List.mem_map_of_mem (List.mem_of_getElem? hs), by simp [SC.abs, ht]⟩
      rw [e] at hk
      exact hk h X H0 (StepF.refl _ _)
    · simp only [Option.isNone_none, Bool.not_true, Bool.false_eq_true, if_false]
      have hno : ¬ hasTk (L.map SC.abs) token = true := by
        unfold hasTk
        rw [List.any_eq_true]
        rintro ⟨x, hx, e⟩
        obtain ⟨s, hs, rfl⟩ := List.mem_map.1 hx
        have := List.findIdx?_eq_none_iff.1 hf s hs
        rw [show s.abs.token = s.token from rfl] at e
        rw [e] at this; cases this
      refine ⟨_, _, _, cell_at hb rfl, ?_⟩
      by_cases h8 : (L.length : Int) ≥ 8
      · simp only [h8, decide_true, if_true]
        have e : openE (L.map SC.abs) token = 5 := by
          unfold openE
          rw [if_neg hh, if_neg hno, if_pos (by rw [List.length_map]; omega)]
        rw [e] at hk
        exact hk h X H0 (StepF.refl _ _)
      · simp only [h8, decide_false, Bool.false_eq_true, if_false]
        have e : openE (L.map SC.abs) token = 0 := by
          unfold openE
          rw [if_neg hh, if_neg hno, if_neg (by grind)]
        rw [e] at hk
        simp only [if_true] at hk
        refine ⟨_, _, _, cell_at hb rfl, ?_⟩
        rw [wrap_id (n := (L.length : Int) + 1) (by omega) (by omega)]
        refine sessions_Session.box fun b h4 eb hb4 f4 => ?_
        have own4 := own.frame f4 (fun _ _ => id)
        refine ⟨_, _, _, cell_at (f4.get hb id) rfl, ?_⟩
        refine den_append1 tP uP own4 rfl (fun v hv => by simp at hv; subst hv; rfl) (by omega) (by omega) ?_
        intro p' c' h6 o6 f6 g6
        refine ⟨_, _, _, rfl, ?_⟩
        have hbl := lt_of_get hb
        have npt : ¬ inBlk p t := fun hx => by have := hp t hx; rw [TB.lt0] at this; cases this
        have hb6 := f6.get (f4.get hb id) npt
        have npb : ¬ inBlk p b := fun hx => by have := own.blk_lt hx; omega
        have hs6 := f6.get hb4 npb
        refine storeP_blk hb6 (by simp) fun h7 k1 k2 k3 => ?_
        have f7 : Fr (fun x => x = t) h6 h7 := Fr.of_eq k2 k3
        have ntb : ¬ b = t := fun e => by omega
        have hs7 := f7.get hs6 ntb
        refine ⟨_, cell_at hs7 rfl, ?_⟩
        have F : Fr (fun x => x = t ∨ inBlk p x) h h7 := (f4.mono (fun _ _ => False.elim)).tt ((f6.mono (fun _ _ hx => .inr hx)).tt (f7.mono (fun _ _ hx => .inl hx)))
        have np't : ¬ inBlk p' t := fun hx => (g6 t hx).elim npt (fun h2 => by have := lt_of_get (f4.get hb id); omega)
        have a1 : ∀ x, x = t ∨ inBlk p x → lab x = some 0 ∨ lab x = some 1 := by
          rintro x (rfl | hx)
          · exact .inl TB.lt0
          · exact .inr (hp x hx)
        have a2 : ∀ x, inBlk p' x → lab x = some 1 ∨ h.size ≤ x := by
          intro x hx
          rcases g6 x hx with h2 | h2
          · exact .inl (hp x h2)
          · have := f4.1; exact .inr (by omega)
        have a3 : ¬ inBlk p' b := by
          intro hx
          rcases g6 b hx with h2 | h2
          · exact npb h2
          · have := lt_of_get hb4; omega
        obtain ⟨X', HH, st⟩ := TB.add (s := ⟨b, L.length + 1, token, true, false, [], none, 0, [], none, 0⟩) (p := p') (c0 := c') hS F a1 k1 (o6.frame f7 (fun x hx e => np't (e ▸ hx))) a2 a3 hs7 (by show h.size ≤ b; omega) ⟨rfl, rfl, rfl⟩ ⟨rfl, rfl, rfl⟩
        have := hk h7 X' (by rw [List.length_map]; exact ⟨_, HH⟩) st
        rw [List.length_map] at this
        exact this
  clear hJ
  by_cases h1 : token < 1
  · grind
  · grind
theorem down_ok (H : Has h t X A) (ok : okA A) (hk : ∀ h' X', Has h' t X' (downA A num) → StepF X h X' h' → R (.int .i64 (downE A num)) h') : Cl 169 #[.pointer (some ⟨t, 0, none⟩), .int .i64 num] h R := by
  have H0 := H
  obtain ⟨_, lab, L, TB, rfl, _, hS⟩ := H
  have hl := ok.le
  rw [List.length_map] at hl
  unfold downA downE at hk
  refine sessions_Table_Down.walk (find_ok TB (fun i s e hs => ⟨_, _, rfl, ?_⟩) (fun hn => ⟨_, _, rfl, ?_⟩) (by omega))
  · subst e
    rw [getA_at, abs_at hs] at hk
    have hat := (TB.ses i s hs).blk
    refine onSome_some.2 ⟨_, cell_at hat rfl, ?_⟩
    cases hu : s.up with
    | true =>
      have : s.abs.up = true := hu
      simp only [this, if_true] at hk
      refine onSome_some.2 (storeP_blk hat (by simp) fun h3 k1 k2 k3 => ?_)
      have ⟨X', HH, st⟩ := TB.flag (s' := { s with up := false }) hS hs rfl ⟨rfl, rfl, rfl⟩ ⟨rfl, rfl, rfl⟩ k1 k2 k3
      refine hk h3 X' ?_ st
      unfold setA
      rw [show ((i : Int) + 1 - 1).toNat = i by omega]
      exact ⟨_, HH⟩
    | false =>
      have : s.abs.up = false := hu
      simp only [this, Bool.false_eq_true, if_false] at hk
      exact hk h X H0 (StepF.refl _ _)
  · rw [getA_none (by grind)] at hk
    exact hk h X H0 (StepF.refl _ _)

end Ses
end
section
open Go.Fields Go.Heapq
namespace Obx
open Fld
variable {h h':Heap} {b:Nat} {X:Ft} {R:TyP} {p:TyO} {c d i:Nat} {L:List E} {s:BS}
variable {lp:TyO} {lc a:Nat} {xs:List IV} {S:Nat→Prop} {x:It}
def Box (h : Heap) (b : Nat) (X : Ft) (s : BS) : Prop := ∃ L, Bx h b X s L ∧ okB s L
theorem Box.frame {Q : Nat → Prop} (H : Box h b X s) (f : Fr Q h h') (hq : ∀ y, X.M y ∨ X.D y → ¬ Q y) : Box h' b X s := by
  have ⟨L, H, ok⟩ := H
  exact ⟨L, H.frame f hq, ok⟩
theorem Box.on (H : Box h b X s) (f : Fr No h h') : Box h' b X s := H.frame f (fun _ _ => id)
theorem Box.lt (H : Box h b X s) (y : Nat) (hy : X.M y ∨ X.D y) : y < h.size := by
  have ⟨L, H, ok⟩ := H
  exact H.lt y hy
theorem Mm.okL (H : Mm h b X s L lp lc xs a S) (ok : okB s L) : L.length < 1000 ∧ xs.length ≤ 16 := by
  have h1 := ok.pm.length_eq
  rw [List.length_map] at h1
  have := ok.le
  have := H.len
  omega
def addE (s : BS) (owner : Int) (d : List UInt8) (till : Nat) : Int := if rightB owner d.length (till : Int) = true then (if s.items.length ≥ 16 then 15 else 0) else 1
theorem Mm.field {s' : BS} (H : Mm h b X s L lp lc xs a S) (hi : s'.items = s.items)
    (hb : h'[b]? = some (.cells #[.slice lp xs.length lc, .int .i64 (s'.next : Int), .int .i64 (s'.taken : Int), .int .i64 (s'.canc : Int), .int .i64 (s'.over : Int), .pointer (some ⟨a, 0, none⟩)] 204 (0, 0)))
    (f : Fr (fun y => y = b) h h') : Mm h' b X s' L lp lc xs a S ∧ StepF X h X h' := by
  have hX : ∀ y, X.D y → y ≠ b := fun y hd e => H.dis b ((H.m b).2 (.inl rfl)) (e ▸ hd)
  refine ⟨⟨hb, H.own.frame f (fun y hy e => H.bl (e ▸ hy)), H.al.frame f (fun y hy e => H.bs (e ▸ hy)), H.abs.trans hi.symm, fun x hx => (H.dat x hx).frame f (fun y hd e => hX y hd e), H.m, H.bl, H.bs, H.ls, H.dis, fun y hy => Nat.lt_of_lt_of_le (H.dlt y hy) f.1⟩, StepF.of_fr (f.mono (fun y _ e => (H.m y).2 (.inl e)))⟩
theorem abs_get (H : Mm h b X s L lp lc xs a S) (hx : s.items[i]? = some x) : ∃ v, xs[i]? = some v ∧ v.abs = x := by
  rw [← H.abs, List.getElem?_map] at hx
  cases hv : xs[i]? with
  | _ => grind
theorem del_len {items : List It} (hp : (items.map It.num).Pairwise (· < ·)) (hx : items[i]? = some x) : (delI items (x.num : Int)).length + 1 = items.length := by
  have hi := (List.getElem?_eq_some_iff.1 hx).1
  rw [← cutI_del hp hx]
  unfold cutI
  rw [List.length_append, List.length_take, List.length_drop]
  omega
theorem pass_ok {k : Int} (now : Nat) (hk0 : k = (now : Int)) (H : Box h b X s) (hnx : s.next ≤ 1000000000)
    (hk : ∀ h' X' p' c' (ys : List IV) D, Box h' b X' { s with items := s.items.filter (fun x => decide ((now : Int) < (x.till : Int))), over := s.over + ys.length } → StepF X h X' h' → Own h' p' ys.length c' 4 (ys.flatMap ienc) → (∀ y ∈ ys, y.v.ok h' X'.D) → (∀ y, inBlk p' y → h.size ≤ y ∧ ¬ (X'.M y ∨ X'.D y)) →
      (ys.map IV.abs).map It.kv = D → Sorted D → D.Perm ((s.items.filter (fun x => decide ((x.till : Int) ≤ (now : Int)))).map It.kv) → (∀ y ∈ ys, y.abs ∈ s.items) → R (.slice p' ys.length c') h') :
    Cl 165 #[.pointer (some ⟨b, 0, none⟩), .int .u64 k] h R := by
  subst hk0
  obtain ⟨L, ⟨lp, lc, xs, a, S, H⟩, ok⟩ := H
  obtain ⟨hL, hxl⟩ := H.okL ok
  have hle := ok.le
  have hcnt := ok.cnt
  have so := H.al.sorted
  have nd := H.al.nodup
  refine outbox_Box_Pass.walk (made_ok H ⟨_, rfl, JoinP.of fun J hJ => ?_⟩)
  simp only [if_true]
  refine ⟨_, cell_at H.blk rfl, Alarm.ring_ok H.al (by omega) _ fun h3 p3 c3 A3 o3 g3 f3 => ⟨_, _, _, rfl, ?_⟩⟩
  generalize hD : Alarm.due L (now : Int) = D at o3 ⊢
  have hLD : L = D ++ Alarm.rest L (now : Int) := by rw [← hD]; exact (List.takeWhile_append_dropWhile).symm
  have M3 : Mm h3 b X s (Alarm.rest L (now : Int)) lp lc xs a S := by
    refine ⟨f3.get H.blk H.bs, H.own.frame f3 (fun y hy hs => H.ls y hy hs), A3, H.abs, fun x hx => (H.dat x hx).frame f3 (fun y hd hs => H.dis y ((H.m y).2 (.inr (.inr hs))) hd), H.m, H.bl, H.bs, H.ls, H.dis, fun y hy => Nat.lt_of_lt_of_le (H.dlt y hy) f3.1⟩
  have s3 : StepF X h X h3 := StepF.of_fr (f3.mono (fun y _ hs => (H.m y).2 (.inr (.inr hs))))
  have Dl : D.length ≤ 16 := by
    have h1 := congrArg List.length hLD
    rw [List.length_append] at h1
    have := ok.pm.length_eq
    rw [List.length_map] at this
    omega
  have ndD : (keys D).Nodup := by
    rw [hLD] at nd
    unfold keys at nd ⊢
    rw [List.map_append, List.nodup_append] at nd
    exact nd.1
  have dr : ∀ e ∈ D, e.1 ∉ keys (Alarm.rest L (now : Int)) := by
    intro e he hm
    rw [hLD] at nd
    unfold keys at nd hm
    rw [List.map_append, List.nodup_append] at nd
    exact nd.2.2 e.1 (List.mem_map_of_mem he) e.1 hm rfl
  have restL : (Alarm.rest L (now : Int)).length < 1000 := by
    have h1 := congrArg List.length hLD
    rw [List.length_append] at h1
    omega
  refine ⟨fun op ol oc t g => ∃ (k : Nat) (X' : Ft) (ys : List IV), t = (k : Int) ∧ k ≤ D.length ∧ ol = ys.length ∧ ys.length = k ∧ Bx g b X' { s with items := remI s.items (keys (D.take k)), over := s.over + k } (Alarm.rest L (now : Int)) ∧ StepF X h X' g ∧ Fr (fun y => h.size ≤ y ∨ X.M y) h3 g ∧ Own g op ol oc 4 (ys.flatMap ienc) ∧ (∀ y ∈ ys, y.v.ok g X'.D) ∧
      (∀ y, inBlk op y → h.size ≤ y ∧ ¬ (X'.M y ∨ X'.D y) ∧ ¬ inBlk p3 y) ∧ (∀ y, inBlk p3 y → ¬ (X'.M y ∨ X'.D y)) ∧ Row g p3 (Alarm.kc D) ∧ (ys.map IV.abs).map It.kv = D.take k ∧ (∀ y ∈ ys, y.abs ∈ s.items), fun _ _ _ t _ => D.length - t.toNat,
      ⟨0, X, [], rfl, by omega, rfl, rfl, ?_, s3, Fr.refl _ _, .nil rfl rfl rfl rfl, (fun y hy => by cases hy), (fun y ⟨a, e, _⟩ => by cases e), (fun y hy hx => by have := g3 y hy; have := H.lt y hx; omega), o3.row', rfl, fun y hy => by cases hy⟩, ?_⟩
  · have : ({ s with items := remI s.items (keys (D.take 0)), over := s.over + 0 } : BS) = s := by
      show (⟨remI s.items [], _, _, _, _⟩ : BS) = s
      rw [remI_nil]; rfl
    rw [this]
    exact ⟨lp, lc, xs, a, S, M3⟩
  clear M3 A3
  rintro op ol oc _ g ⟨k, X', ys, rfl, hkD, rfl, hys, B, st, fg, o, hd, hop, h3p, r3, hkv, hsub⟩
  by_cases hlt : k < D.length
  · rw [if_pos (decide_eq_true (by omega))]
    have ⟨e, hDk⟩ := getAt hlt
    have heD := List.mem_of_getElem? hDk
    have hcell : (Alarm.kc D)[k]? = some (.int .i64 e.1) := by
      unfold Alarm.kc keys
      rw [List.getElem?_map, List.getElem?_map, hDk]; rfl
    obtain ⟨pa, rfl⟩ := r3.some (fun e0 => by rw [e0] at hcell; cases hcell)
    have cell := r3.cell hcell
    refine ⟨⟨by first | trivial | omega, by first | trivial | omega⟩, onSome_some.2 ⟨e.1, by rw [Int.toNat_natCast, Nat.mul_one]; exact cell, ?_⟩⟩
    obtain ⟨lp', lc', xs', a', S', M⟩ := B
    have items' : ({ s with items := remI s.items (keys (D.take k)), over := s.over + k } : BS).items = remI s.items (keys (D.take k)) := rfl
    have rl : (remI s.items (keys (D.take k))).length ≤ 16 := Nat.le_trans (List.length_filter_le _ _) hle
    refine find_ok M (by rw [items']; omega) fun h5 f5 => ⟨_, rfl, ?_⟩
    rw [items']
    have M5 := M.on f5
    have heL : e ∈ L := by rw [hLD]; exact List.mem_append_left _ heD
    obtain ⟨x, hx, hxe⟩ := List.mem_map.1 (ok.pm.mem_iff.1 heL)
    have hxn : (x.num : Int) = e.1 := by rw [← hxe]; rfl
    have hnk : e.1 ∉ keys (D.take k) := by
      intro hm
      obtain ⟨e', he', ek⟩ := List.mem_map.1 hm
      obtain ⟨j, hj⟩ := List.getElem?_of_mem he'
      rw [List.getElem?_take] at hj
      split at hj
      · rename_i hjk
        have h1 : (keys D)[j]? = some e.1 := by unfold keys; rw [List.getElem?_map, hj, ← ek]; rfl
        have h2 : (keys D)[k]? = some e.1 := by unfold keys; rw [List.getElem?_map, hDk]; rfl
        have := (List.getElem?_inj (by unfold keys; rw [List.length_map]; omega) ndD).1 (h1.trans h2.symm)
        omega
      · cases hj
    have hxr : x ∈ remI s.items (keys (D.take k)) := List.mem_filter.2 ⟨hx, decide_eq_true (by rw [hxn]; exact hnk)⟩
    cases hidx : idxI (remI s.items (keys (D.take k))) e.1 with
    | none => exact absurd hxn (idx_none hidx x hxr)
    | some i =>
      obtain ⟨x', hx', hn'⟩ := idx_some hidx
      have hx'm : x' ∈ s.items := (List.mem_filter.1 (List.mem_of_getElem? hx')).1
      obtain rfl : x' = x := uniq ok.inc hx'm hx (by omega)
      have ev : idxV (remI s.items (keys (D.take k))) e.1 = (i : Int) := by unfold idxV; rw [hidx]
      rw [ev]
      obtain ⟨v, hv, hva⟩ := abs_get M5 hx'
      refine cut_ok M5 (by rw [items']; omega) restL hv fun h6 X6 B6 s6 v6 => ⟨_, _, _, _, _, _, rfl, ?_⟩
      have vn : (v.num : Int) = e.1 := by rw [← hxn, ← hva]; rfl
      rw [vn, dropK_none (dr e heD)] at B6
      have inc' : ((remI s.items (keys (D.take k))).map It.num).Pairwise (· < ·) := ok.inc.sublist (List.filter_sublist.map _)
      have htk : keys (D.take (k + 1)) = keys (D.take k) ++ [e.1] := by unfold keys; rw [List.take_add_one, hDk, List.map_append]; rfl
      have eit : cutI (remI s.items (keys (D.take k))) i = remI s.items (keys (D.take (k + 1))) := by
        rw [cutI_del inc' hx', hxn, remI_del, htk]
      have o5 := o.frame f5 (fun _ _ => id)
      have op6 : ∀ y, inBlk op y → ¬ (X6.M y ∨ X6.D y) := fun y hy => fun hx => s6.apart (Q := inBlk op) (fun z hz hq => (hop z hq).2.1 hz) (fun z hq => o5.blk_lt hq) y hx hy
      have o6 := o5.frame s6.fr (fun y hy hm => (hop y hy).2.1 (.inl hm))
      refine den_append1 tI uI o6 rfl (fun w hw => by simp at hw; rcases hw with rfl | rfl | rfl | rfl <;> rfl) (by omega) (by omega) fun p8 c8 h8 o8 f8 g8 => ⟨_, _, _, rfl, ?_⟩
      have B8 : Bx h8 b X6 _ _ := B6.frame f8 (fun y hy hq => op6 y hq hy)
      obtain ⟨lp8, lc8, xs8, a8, S8, M8⟩ := B8
      refine ⟨_, cell_at M8.blk rfl, storeP_blk M8.blk (by simp) fun h9 a1 a2 a3 => ?_⟩
      have f9 : Fr (fun y => y = b) h8 h9 := Fr.of_eq a2 a3
      obtain ⟨M9, s9⟩ := M8.field (s' := ⟨remI s.items (keys (D.take (k + 1))), s.next, s.taken, s.canc, s.over + (k + 1)⟩) (h' := h9) eit.symm (by
        rw [a1]
        dsimp only
        rw [wrap_id (by omega) (by omega)]; rfl) f9
      have b6 : X6.M b := (M8.m b).2 (.inl rfl)
      have op8 : ∀ y, inBlk p8 y → h.size ≤ y ∧ ¬ (X6.M y ∨ X6.D y) ∧ ¬ inBlk (some pa) y := by
        intro y hy
        rcases g8 y hy with h1 | h1
        · exact ⟨(hop y h1).1, op6 y h1, (hop y h1).2.2⟩
        · have z6 := s6.fr.1
          have z5 := f5.1
          have zg := st.fr.1
          refine ⟨by omega, fun hx => by have := B6.lt y hx; omega, fun hx => ?_⟩
          have := row_lt r3 (by intro e0; rw [e0] at hcell; cases hcell) hx
          omega
      have sg6 : StepF X' g X6 h6 := (StepF.of_no f5).trans s6
      have h3p6 : ∀ y, inBlk (some pa) y → ¬ (X6.M y ∨ X6.D y) := fun y hy hx => sg6.apart (Q := inBlk (some pa)) (fun z hz hq => h3p z hq hz) (fun z hq => row_lt r3 (by intro e0; rw [e0] at hcell; cases hcell) hq) y hx hy
      have st6 : StepF X h X6 h6 := st.trans sg6
      have fr89 : ∀ y, y < h.size → ¬ X.M y → h9[y]? = h6[y]? := by
        intro y hy hm
        have zz := st6.fr.1
        have zz8 := f8.1
        rw [f9.2 y (by omega) (fun e0 => (st6.newM b b6).elim (fun h1 => hm (e0 ▸ h1)) (fun h1 => by omega)), f8.2 y (by omega) (fun hq => by have := (hop y hq).1; omega)]
      have st9 : StepF X h X6 h9 := by
        refine ⟨⟨by have := st6.fr.1; have := f8.1; omega, fun y hy hn => ?_⟩, st6.newM, st6.newD, st6.oldD⟩
        rw [fr89 y hy hn]
        exact st6.fr.2 y hy hn
      have zb8 : ∀ y, inBlk p8 y → y ≠ b := fun y hy e0 => (op8 y hy).2.1 (.inl (e0 ▸ b6))
      have cat : ys.flatMap ienc ++ ([.int .i64 (v.num : Int), .int .i64 v.owner, .slice v.v.p v.v.b.length v.v.c, .int .u64 (v.till : Int)] : List Value) = (ys ++ [v]).flatMap ienc := by rw [List.flatMap_append]; simp
      have ln : (ys ++ [v]).length = ys.length + 1 := by rw [List.length_append]; rfl
      rw [wrap_id (by omega) (by omega)]
      refine ⟨⟨k + 1, X6, ys ++ [v], by omega, by omega, ln.symm, by rw [ln, hys], ⟨lp8, lc8, xs8, a8, S8, M9⟩, st9, ?_, ?_, ?_, op8, h3p6, ?_, ?_, ?_⟩, ?_⟩
      · refine ⟨by have := fg.1; have := sg6.fr.1; have := f8.1; omega, fun y hy hn => ?_⟩
        have hylt : y < h.size := Nat.lt_of_not_le (fun hx => hn (.inl hx))
        have hnm : ¬ X.M y := fun hx => hn (.inr hx)
        rw [fr89 y hylt hnm, st6.fr.2 y hylt hnm, s3.fr.2 y hylt hnm]
      · rw [← cat]; exact o8.frame f9 zb8
      · intro w hw
        have key : ∀ u : IV, u.v.ok h6 X6.D → u.v.ok h9 X6.D := fun u hu => (hu.frame f8 (fun y hy hq => op6 y hq (.inr hy))).frame f9 (fun y hy e0 => M8.dis b b6 (e0 ▸ hy))
        rcases List.mem_append.1 hw with hw | hw
        · exact key w (((hd w hw).frame sg6.fr (fun y hy hm => M.dis y hm hy)).mono (fun y hy => sg6.oldD y hy))
        · obtain rfl := List.mem_singleton.1 hw
          exact key w v6
      · refine ((r3.frame sg6.fr (fun a' ea hm => h3p _ ⟨a', ea, rfl⟩ (.inl hm))).frame f8 (fun a' ea hq => (hop _ hq).2.2 ⟨a', ea, rfl⟩)).frame f9 (fun a' ea e0 => h3p6 _ ⟨a', ea, rfl⟩ (.inl (by have e0 : a'.block = b := e0; rw [e0]; exact b6)))
      · rw [List.map_append, List.map_append, hkv, List.take_add_one, hDk]
        simp [hva, hxe]
      · intro w hw
        rcases List.mem_append.1 hw with hw | hw
        · exact hsub w hw
        · obtain rfl := List.mem_singleton.1 hw
          rw [hva]; exact hx
      · show D.length - Int.toNat ((k : Int) + 1) < D.length - Int.toNat (k : Int); omega
  · rw [if_neg (by simp only [decide_eq_true_eq]; omega)]
    obtain rfl : k = D.length := by omega
    subst hJ
    rw [List.take_length] at B hkv
    have e1 : remI s.items (keys D) = s.items.filter (fun x => decide ((now : Int) < (x.till : Int))) := by rw [← hD]; exact remI_due ok so nd
    rw [e1] at B
    have hlen2 : D.length + (s.items.filter (fun x => decide ((now : Int) < (x.till : Int)))).length = s.items.length := by
      have h1 := congrArg List.length hLD
      rw [List.length_append, (rest_perm (now := (now : Int)) ok so).length_eq, List.length_map, ok.pm.length_eq, List.length_map] at h1
      omega
    refine hk g X' op oc ys D ⟨_, by rw [hys]; exact B, ?_⟩ st o hd (fun y hy => ⟨(hop y hy).1, (hop y hy).2.1⟩) hkv ?_ ?_ hsub
    · exact ok.sub List.filter_sublist (rest_perm ok so) (by omega)
    · rw [← hD, (sorted_split so).1]; exact List.Pairwise.filter _ so
    · rw [← hD]; exact due_perm ok so

end Obx
end
section
variable {h:Heap} {R:TyP}
theorem regs_New.walk  (hv :
 NewP h (.map #[] 0) fun b h_1 =>
 NewP h_1 (.cells #[.map (some b)] 196) fun b_1 h_2 =>
 R (.pointer (some ⟨b_1, 0, none⟩)) h_2) : Cl 61 #[] h R :=
 callsN [] hv

end
section
namespace Regs
open Eid
variable {h h':Heap} {R:TyP} {b:Nat} {X:Ft}
structure Rg where
  e : Ev
  pol : Int
  own : Int
abbrev Rg.zero : Rg := ⟨.zero, 0, 0⟩
abbrev Rg.val (r : Rg) : Value := .agg #[.bool r.e.ipn, .int .u64 r.e.node, .int .u64 r.e.svc, .string r.e.host, .string r.e.dem, .int .i64 r.pol, .int .i64 r.own]
abbrev Rg.pair (r : Rg) : Ev × Value := (r.e, r.val)
abbrev rless (x y : Rg) : Prop := lessE x.e y.e = true
structure Tbm (h : Heap) (b : Nat) (X : Ft) (L : List Rg) (m : Nat) : Prop where
  blk : h[b]? = some (.cells #[.map (some m)] 196 (0, 0))
  map : MapP h m ev5 (L.map Rg.pair)
  fm : ∀ c, X.M c ↔ c = b ∨ c = m
  d : ∀ c, ¬ X.D c
  ne : b ≠ m
  so : L.Pairwise rless
def Tb (h : Heap) (b : Nat) (X : Ft) (L : List Rg) : Prop := ∃ m, Tbm h b X L m
variable {L : List Rg} {m : Nat}
theorem Tbm.frame {Q : Nat → Prop} (H : Tbm h b X L m) (f : Fr Q h h') (hq : ∀ y, X.M y ∨ X.D y → ¬ Q y) : Tbm h' b X L m :=
  ⟨f.get H.blk (hq b (.inl ((H.fm b).2 (.inl rfl)))), H.map.frame f (hq m (.inl ((H.fm m).2 (.inr rfl)))), H.fm, H.d, H.ne, H.so⟩
theorem Tb.frame {Q : Nat → Prop} (H : Tb h b X L) (f : Fr Q h h') (hq : ∀ y, X.M y ∨ X.D y → ¬ Q y) : Tb h' b X L := by
  have ⟨m, H⟩ := H; exact ⟨m, H.frame f hq⟩
theorem Tb.on (H : Tb h b X L) (f : Fr No h h') : Tb h' b X L := H.frame f (fun _ _ => id)
theorem Tb.lt (H : Tb h b X L) (y : Nat) (hy : X.M y ∨ X.D y) : y < h.size := by
  have ⟨m, H⟩ := H
  rcases hy with hy | hy
  · rcases (H.fm y).1 hy with rfl | rfl
    · exact lt_of_get H.blk
    · exact H.map.lt
  · exact absurd hy (H.d y)
def findR (L : List Rg) (x : Ev) : Option Rg := L.find? (fun r => decide (r.e = x))
def rightR (r : Rg) : Bool := rightE r.e && (!decide (r.e = Ev.zero) && (decide (r.pol ≥ 0) && decide (r.pol ≤ 2) && (decide (r.own ≥ 1) && decide (r.own ≤ 1099511627776))))
def addE (L : List Rg) (r : Rg) : Int := if rightR r = false then 1 else if (findR L r.e).isSome = true then 11 else if L.length ≥ 8 then 15 else 0
def askE (L : List Rg) (x : Ev) (owner : Int) : Int := match findR L x with | none => 4 | some r => if r.own = owner then 0 else 13
theorem new_ok (hk : ∀ h' b X, Tb h' b X [] → UpF h X h' → R (.pointer (some ⟨b, 0, none⟩)) h') : Cl 61 #[] h R := by
  refine regs_New.walk (newP_of (newP_of ?_))
  have f1 : Fr No h (h.push (.map #[] 0)) := Fr.push _ _
  have M1 := MapP.push h ev5
  have z1 : (h.push (.map #[] 0)).size = h.size + 1 := Array.size_push _
  generalize h.push (.map #[] 0) = h1 at f1 M1 z1 ⊢
  have f2 : Fr No h1 (h1.push (.cells #[.map (some h.size)] 196)) := Fr.push _ _
  refine hk _ h1.size ⟨fun c => c = h1.size ∨ c = h.size, fun _ => False⟩ ⟨h.size, push_new, M1.frame f2 id, fun c => Iff.rfl, fun _ => id, by omega, .nil⟩ ⟨f1.tt f2, fun c hc => ?_⟩
  rcases hc with hc | hc
  · omega
  · grind
end Regs
end
section
variable {h:Heap} {R:TyP}
variable {t:Nat} {n:Int}
theorem copies_New.walk  (hv :
 NewP h (.map #[] 0) fun b h_1 =>
 Cl 96 #[] h_1 fun v h_2 =>
 ∃ t2, v = .pointer t2 ∧
 Cl 96 #[] h_2 fun v_1 h_3 =>
 ∃ t3, v_1 = .pointer t3 ∧
 NewP h_3 (.cells #[.map (some b), .int .i64 1, .int .i64 0, .int .i64 0, .int .i64 0, .pointer t2, .pointer t3] 201) fun b_1 h_4 =>
 R (.pointer (some ⟨b_1, 0, none⟩)) h_4) : Cl 62 #[] h R :=
 callsN [] hv
theorem copies_Table_made.walk (hv :
 ∃ t9, hcell h ⟨t, 0, none⟩ = some (.map t9) ∧
 R (.bool (!t9.isNone)) h) : Cl 192 #[.pointer (some ⟨t, 0, none⟩)] h R :=
 callsN [] hv
theorem copies_Table_free.walk (hv :
 ∃ t7, hcell h ⟨t, 6, none⟩ = some (.pointer t7) ∧
 Cl 225 #[.pointer t7, .int .i64 n] h fun v h_1 =>
 ∃ t9, v = .int .i64 t9 ∧
 ∃ t13, hcell h_1 ⟨t, 0, none⟩ = some (.map t13) ∧
 ∃ t15, Lkz 197 (.map t13) (.int .i64 n) false h_1 (.pointer t15) ∧
 ∃ t19, hcell h_1 ⟨t, 0, none⟩ = some (.map t19) ∧
 ∃ t21, Lkz 197 (.map t19) (.int .i64 n) false h_1 (.pointer t21) ∧
 onSome t15 fun a =>
 StoreP h_1 (a.add 8) (.int .i64 0) fun h_2 =>
 onSome t21 fun a_1 =>
 StoreP h_2 (a_1.add 9) (.int .u64 0) fun h_3 =>
 R (.tuple #[]) h_3) : Cl 199 #[.pointer (some ⟨t, 0, none⟩), .int .i64 n] h R :=
 callsN [(2, fun _ => .plan (opL [0,1,2,3,4,5,6,7,8,9,10,11,12,13,14,15,16,17] .done))] hv
theorem copies_Table_remove.walk (hv :
 ∃ t7, hcell h ⟨t, 6, none⟩ = some (.pointer t7) ∧
 Cl 225 #[.pointer t7, .int .i64 n] h fun v h_1 =>
 ∃ t9, v = .int .i64 t9 ∧
 ∃ t13, hcell h_1 ⟨t, 5, none⟩ = some (.pointer t13) ∧
 Cl 225 #[.pointer t13, .int .i64 n] h_1 fun v_1 h_2 =>
 ∃ t15, v_1 = .int .i64 t15 ∧
 ∃ t19, hcell h_2 ⟨t, 0, none⟩ = some (.map t19) ∧
 Dsz (Builtin.delete_ #[197, 3] 0 #[.map t19, .int .i64 n]) h_2 fun v_2 h_3 =>
 v_2 = .tuple #[] ∧
 R (.tuple #[]) h_3) : Cl 198 #[.pointer (some ⟨t, 0, none⟩), .int .i64 n] h R :=
 callsN [] hv
theorem copies_Table_Pass.walk {now : Int} (hv :
 Cl 192 #[.pointer (some ⟨t, 0, none⟩)] h fun v h_1 =>
 ∃ t11, v = .bool t11 ∧
 ite (!t11)
 (  R (.slice none 0 0) h_1)
 (  ∃ t16, hcell h_1 ⟨t, 5, none⟩ = some (.pointer t16) ∧
 Cl 197 #[.pointer t16, .int .u64 now] h_1 fun v_1 h_2 =>
 ∃ t18_p t18_l t18_c, v_1 = .slice t18_p t18_l t18_c ∧
 ∃ (I : Int → Heap → Prop) (mu : Int → Heap → Nat), I 0 h_2 ∧ ∀ t21 h_3, I t21 h_3 →
 ite (decide (t21 < ((t18_l : Nat) : Int)))
 (  ((0 : Int) ≤ t21 ∧ t21 < ((t18_l : Nat) : Int)) ∧
 onSome t18_p fun a =>
 ∃ t24, hcell h_3 (a.add (Int.toNat t21 * 1)) = some (.int .i64 t24) ∧
 Cl 198 #[.pointer (some ⟨t, 0, none⟩), .int .i64 t24] h_3 fun v_2 h_4 =>
 v_2 = .tuple #[] ∧
 ∃ t31, hcell h_4 ⟨t, 3, none⟩ = some (.int .i64 t31) ∧
 StoreP h_4 ⟨t, 3, none⟩ (.int .i64 (IntKind.wrap .i64 (t31 + 1))) fun h_5 =>
 (I (IntKind.wrap .i64 (t21 + 1)) h_5 ∧ mu (IntKind.wrap .i64 (t21 + 1)) h_5 < mu t21 h_3))
 (  ∃ t39, hcell h_3 ⟨t, 6, none⟩ = some (.pointer t39) ∧
 Cl 197 #[.pointer t39, .int .u64 now] h_3 fun v_3 h_6 =>
 ∃ t41_p t41_l t41_c, v_3 = .slice t41_p t41_l t41_c ∧
 ∃ (I_1 : Int → Heap → Prop) (mu_1 : Int → Heap → Nat), I_1 0 h_6 ∧ ∀ t43 h_7, I_1 t43 h_7 →
 ite (decide (t43 < ((t41_l : Nat) : Int)))
 (  ((0 : Int) ≤ t43 ∧ t43 < ((t41_l : Nat) : Int)) ∧
 onSome t41_p fun a_1 =>
 ∃ t46, hcell h_7 (a_1.add (Int.toNat t43 * 1)) = some (.int .i64 t46) ∧
 Cl 199 #[.pointer (some ⟨t, 0, none⟩), .int .i64 t46] h_7 fun v_4 h_8 =>
 v_4 = .tuple #[] ∧
 (I_1 (IntKind.wrap .i64 (t43 + 1)) h_8 ∧ mu_1 (IntKind.wrap .i64 (t43 + 1)) h_8 < mu_1 t43 h_7))
 (  R (.slice t18_p t18_l t18_c) h_7)))) : Cl 164 #[.pointer (some ⟨t, 0, none⟩), .int .u64 now] h R :=
 callsN [(16, .loop [(21, sI)]), (35, .loop [(43, sI)])] hv

end
section
open Go.Heapq
namespace Cps
open Eid Alarm
variable {h h':Heap} {t:Nat} {X:Ft}
structure Cp where
  num : Nat
  e : Ev
  d : List UInt8
  till : Nat
  ses : Int
  dl : Nat
structure CV where
  num : Nat
  b : Nat
  e : Ev
  v : BV
  till : Nat
  ses : Int
  dl : Nat
def CV.abs (x : CV) : Cp := ⟨x.num, x.e, x.v.b, x.till, x.ses, x.dl⟩
abbrev CV.at (h : Heap) (b : Nat) (x : CV) : Prop := copies_Copy.at h b (x.num : Int) x.e.ipn x.e.node x.e.svc x.e.host x.e.dem x.v.p x.v.b.length x.v.c (x.till : Int) x.ses (x.dl : Int)
structure CF where
  L : List Cp
  next : Nat
  acked : Nat
  over : Nat
  gone : Nat
  E1 : List E
  E2 : List E
abbrev ienc (n : Int) : Value := .int .i64 n
theorem ikey : KeyOk Tryz.prog 3 ienc := ⟨fun a b h => by kernel_rfl, fun e a h => by kernel_rfl, by
  have hu : Tryz.prog.underlying 3 = some (.int .i64) := by kernel_rfl
  exact ⟨_, hu, fun a b => .inr rfl⟩, fun a => by simp [Instr.sameBits]⟩
theorem mapTy : MapKy Tryz.prog 197 ienc (.pointer none) := MapKy.of 3 314 (by kernel_rfl) ikey (by kernel_rfl)
abbrev CV.pair (x : CV) : Int × Value := ((x.num : Int), .pointer (some ⟨x.b, 0, none⟩))
structure Cm (h : Heap) (t : Nat) (X : Ft) (s : CF) (m : Nat) (xs : List CV) (a1 : Nat) (S1 : Nat → Prop) (a2 : Nat) (S2 : Nat → Prop) (lab : Nat → Option Nat) : Prop where
  blk : h[t]? = some (.cells #[.map (some m), .int .i64 (s.next : Int), .int .i64 (s.acked : Int), .int .i64 (s.over : Int), .int .i64 (s.gone : Int), .pointer (some ⟨a1, 0, none⟩), .pointer (some ⟨a2, 0, none⟩)] 201 (0, 0))
  map : MapP h m ienc (xs.map CV.pair)
  cps : ∀ x ∈ xs, x.at h x.b
  abs : xs.map CV.abs = s.L
  dat : ∀ x ∈ xs, x.v.ok h X.D
  al1 : Al h a1 S1 s.E1
  al2 : Al h a2 S2 s.E2
  l0 : lab t = some 0
  l1 : lab m = some 1
  l2 : ∀ c, S1 c → lab c = some 2
  l3 : ∀ c, S2 c → lab c = some 3
  l4 : ∀ x ∈ xs, lab x.b = some (4 + x.num)
  mm : ∀ c, X.M c ↔ lab c ≠ none
  dd : ∀ c, X.D c → lab c = none ∧ c < h.size
  lsz : ∀ c, lab c ≠ none → c < h.size
  so : (xs.map CV.num).Pairwise (· < ·)
def Ct (h : Heap) (t : Nat) (X : Ft) (s : CF) : Prop := ∃ m xs a1 S1 a2 S2 lab, Cm h t X s m xs a1 S1 a2 S2 lab
variable {s s' : CF} {m a1 a2 : Nat} {xs : List CV} {S1 S2 S1' S2' : Nat → Prop} {lab : Nat → Option Nat}
structure Kept (h' : Heap) (t : Nat) (X : Ft) (s : CF) (m : Nat) (xs : List CV) (a1 : Nat) (S1 : Nat → Prop) (a2 : Nat) (S2 : Nat → Prop) (k : Nat) : Prop where
  blk : k ≠ 0 → h'[t]? = some (.cells #[.map (some m), .int .i64 (s.next : Int), .int .i64 (s.acked : Int), .int .i64 (s.over : Int), .int .i64 (s.gone : Int), .pointer (some ⟨a1, 0, none⟩), .pointer (some ⟨a2, 0, none⟩)] 201 (0, 0))
  map : k ≠ 1 → MapP h' m ienc (xs.map CV.pair)
  al1 : k ≠ 2 → Al h' a1 S1 s.E1
  al2 : k ≠ 3 → Al h' a2 S2 s.E2
  cps : ∀ x ∈ xs, k ≠ 4 + x.num → x.at h' x.b
  dat : ∀ x ∈ xs, x.v.ok h' X.D
theorem Cm.keep {Q : Nat → Prop} {k : Nat} (H : Cm h t X s m xs a1 S1 a2 S2 lab) (f : Fr Q h h') (hq : ∀ c, Q c → c < h.size → lab c = some k) : Kept h' t X s m xs a1 S1 a2 S2 k := by
  have no : ∀ {c j : Nat}, c < h.size → lab c = some j → k ≠ j → ¬ Q c := fun hc hl hk hQ => hk (by grind)
  refine ⟨fun hk => f.get H.blk (no (lt_of_get H.blk) H.l0 hk), fun hk => H.map.frame f (no H.map.lt H.l1 hk), fun hk => ?_, fun hk => ?_, fun x hx hk => f.get (H.cps x hx) (no (lt_of_get (H.cps x hx)) (H.l4 x hx) hk), fun x hx => ?_⟩
  · exact H.al1.frame f (fun c hc => no (H.al1.lt hc) (H.l2 c hc) hk)
  · exact H.al2.frame f (fun c hc => no (H.al2.lt hc) (H.l3 c hc) hk)
  · refine (H.dat x hx).frame f (fun c hc hQ => ?_)
    have := H.dd c hc
    have h2 := hq c hQ this.2
    rw [this.1] at h2; cases h2
theorem Cm.frame {Q : Nat → Prop} (H : Cm h t X s m xs a1 S1 a2 S2 lab) (f : Fr Q h h') (hq : ∀ y, X.M y ∨ X.D y → ¬ Q y) : Cm h' t X s m xs a1 S1 a2 S2 lab := by
  have no : ∀ {c j : Nat}, lab c = some j → ¬ Q c := fun hl => hq _ (.inl ((H.mm _).2 (by grind)))
  exact ⟨f.get H.blk (no H.l0), H.map.frame f (no H.l1), fun x hx => f.get (H.cps x hx) (no (H.l4 x hx)), H.abs, fun x hx => (H.dat x hx).frame f (fun c hc => hq c (.inr hc)),
    H.al1.frame f (fun c hc => no (H.l2 c hc)), H.al2.frame f (fun c hc => no (H.l3 c hc)), H.l0, H.l1, H.l2, H.l3, H.l4, H.mm, fun c hc => ⟨(H.dd c hc).1, Nat.lt_of_lt_of_le (H.dd c hc).2 f.1⟩, fun c hc => Nat.lt_of_lt_of_le (H.lsz c hc) f.1, H.so⟩
theorem Ct.frame {Q : Nat → Prop} (H : Ct h t X s) (f : Fr Q h h') (hq : ∀ y, X.M y ∨ X.D y → ¬ Q y) : Ct h' t X s := by
  have ⟨m, xs, a1, S1, a2, S2, lab, H⟩ := H; exact ⟨m, xs, a1, S1, a2, S2, lab, H.frame f hq⟩
theorem Ct.on (H : Ct h t X s) (f : Fr No h h') : Ct h' t X s := H.frame f (fun _ _ => id)
theorem Ct.lt (H : Ct h t X s) (y : Nat) (hy : X.M y ∨ X.D y) : y < h.size := by
  have ⟨m, xs, a1, S1, a2, S2, lab, H⟩ := H
  rcases hy with hy | hy
  · exact H.lsz y ((H.mm y).1 hy)
  · exact (H.dd y hy).2
theorem Cm.step {Q : Nat → Prop} {k : Nat} (H : Cm h t X s m xs a1 S1 a2 S2 lab) (f : Fr Q h h') (hq : ∀ c, Q c → c < h.size → lab c = some k) : StepF X h X h' :=
  StepF.of_fr (f.mono fun c hc hQ => (H.mm c).2 (by grind))
theorem Cm.field (H : Cm h t X s m xs a1 S1 a2 S2 lab) (hL : s'.L = s.L) (h1 : s'.E1 = s.E1) (h2 : s'.E2 = s.E2)
    (hb : h'[t]? = some (.cells #[.map (some m), .int .i64 (s'.next : Int), .int .i64 (s'.acked : Int), .int .i64 (s'.over : Int), .int .i64 (s'.gone : Int), .pointer (some ⟨a1, 0, none⟩), .pointer (some ⟨a2, 0, none⟩)] 201 (0, 0)))
    (hs : h'.size = h.size) (ho : ∀ x, x ≠ t → h'[x]? = h[x]?) : Cm h' t X s' m xs a1 S1 a2 S2 lab ∧ StepF X h X h' := by
  have f : Fr (fun c => c = t) h h' := ⟨by omega, fun c _ hn => ho c hn⟩
  have hq : ∀ c, c = t → c < h.size → lab c = some 0 := fun c e _ => by rw [e]; exact H.l0
  have K := H.keep f hq
  refine ⟨⟨hb, K.map (by omega), fun x hx => K.cps x hx (by omega), H.abs.trans hL.symm, K.dat, by rw [h1]; exact K.al1 (by omega), by rw [h2]; exact K.al2 (by omega), H.l0, H.l1, H.l2, H.l3, H.l4, H.mm, fun c hc => by rw [hs]; exact H.dd c hc, fun c hc => by rw [hs]; exact H.lsz c hc, H.so⟩, H.step f hq⟩
def relab (lab : Nat → Option Nat) (S : Nat → Prop) [DecidablePred S] (k : Nat) : Nat → Option Nat := fun c => if S c then some k else lab c
theorem Cm.alarm2 {E' : List E} (H : Cm h t X s m xs a1 S1 a2 S2 lab) (A : Al h' a2 S2' E') (hS : ∀ c, S2' c → S2 c ∨ h.size ≤ c) (f : Fr S2 h h') (hL : s'.L = s.L) (h1 : s'.E1 = s.E1) (h2 : s'.E2 = E') (hn : s'.next = s.next ∧ s'.acked = s.acked ∧ s'.over = s.over ∧ s'.gone = s.gone) :
    ∃ X' lab', Cm h' t X' s' m xs a1 S1 a2 S2' lab' ∧ StepF X h X' h' ∧ ∀ c, X'.M c → X.M c ∨ S2' c := by
  classical
  have hq : ∀ c, S2 c → c < h.size → lab c = some 3 := fun c hc _ => H.l3 c hc
  have K := H.keep f hq
  have z := f.1
  let lab' := relab lab S2' 3
  have keepL : ∀ {c j : Nat}, lab c = some j → j ≠ 3 → lab' c = some j := fun {c j} hl hj => by
    show (if S2' c then some 3 else lab c) = some j
    rw [if_neg]
    · exact hl
    · intro hc
      rcases hS c hc with h3 | h3
      · rw [H.l3 c h3] at hl; exact hj (Option.some.inj hl).symm
      · have := H.lsz c (by rw [hl]; simp); omega
  have lab_none : ∀ c, lab' c ≠ none → lab c ≠ none ∨ S2' c := fun c hc => by
    by_cases hx : S2' c
    · exact .inr hx
    · refine .inl ?_
      have e : lab' c = lab c := if_neg hx
      rwa [e] at hc
  have none_lab : ∀ c, lab c ≠ none → lab' c ≠ none := fun c hc => by
    by_cases hx : S2' c
    · have e : lab' c = some 3 := if_pos hx
      rw [e]; simp
    · have e : lab' c = lab c := if_neg hx
      rwa [e]
  have st : StepF X h ⟨fun c => lab' c ≠ none, X.D⟩ h' := by
    refine ⟨f.mono (fun c hc hx => (H.mm c).2 (by rw [H.l3 c hx]; simp)), fun c hc => ?_, fun c hc => .inl hc, fun c hc => hc⟩
    rcases lab_none c hc with h3 | h3
    · exact .inl ((H.mm c).2 h3)
    · rcases hS c h3 with h4 | h4
      · exact .inl ((H.mm c).2 (by rw [H.l3 c h4]; simp))
      · exact .inr h4
  refine ⟨⟨fun c => lab' c ≠ none, X.D⟩, lab', ⟨?_, K.map (by omega), fun x hx => K.cps x hx (by omega), H.abs.trans hL.symm, K.dat, by rw [h1]; exact K.al1 (by omega), by rw [h2]; exact A, keepL H.l0 (by omega), keepL H.l1 (by omega), fun c hc => keepL (H.l2 c hc) (by omega), fun c hc => if_pos hc, fun x hx => keepL (H.l4 x hx) (by omega), fun c => Iff.rfl, fun c hc => ?_, fun c hc => ?_, H.so⟩, st, fun c hc => (lab_none c hc).imp (fun h => (H.mm c).2 h) id⟩
  · rw [hn.1, hn.2.1, hn.2.2.1, hn.2.2.2]; exact K.blk (by omega)
  · have := H.dd c hc
    refine ⟨?_, by omega⟩
    show (if S2' c then some 3 else lab c) = none
    rw [if_neg]
    · exact this.1
    · intro hx
      rcases hS c hx with h3 | h3
      · rw [H.l3 c h3] at this; cases this.1
      · omega
  · rcases lab_none c hc with h3 | h3
    · have := H.lsz c h3; omega
    · exact A.lt h3
theorem Cm.alarm1 {E' : List E} (H : Cm h t X s m xs a1 S1 a2 S2 lab) (A : Al h' a1 S1' E') (hS : ∀ c, S1' c → S1 c ∨ h.size ≤ c) (f : Fr S1 h h') (hL : s'.L = s.L) (h1 : s'.E1 = E') (h2 : s'.E2 = s.E2) (hn : s'.next = s.next ∧ s'.acked = s.acked ∧ s'.over = s.over ∧ s'.gone = s.gone) :
    ∃ X' lab', Cm h' t X' s' m xs a1 S1' a2 S2 lab' ∧ StepF X h X' h' ∧ ∀ c, X'.M c → X.M c ∨ S1' c := by
  classical
  have hq : ∀ c, S1 c → c < h.size → lab c = some 2 := fun c hc _ => H.l2 c hc
  have K := H.keep f hq
  have z := f.1
  let lab' := relab lab S1' 2
  have keepL : ∀ {c j : Nat}, lab c = some j → j ≠ 2 → lab' c = some j := fun {c j} hl hj => by
    show (if S1' c then some 2 else lab c) = some j
    rw [if_neg]
    · exact hl
    · intro hc
      rcases hS c hc with h3 | h3
      · rw [H.l2 c h3] at hl; exact hj (Option.some.inj hl).symm
      · have := H.lsz c (by rw [hl]; simp); omega
  have lab_none : ∀ c, lab' c ≠ none → lab c ≠ none ∨ S1' c := fun c hc => by
    by_cases hx : S1' c
    · exact .inr hx
    · refine .inl ?_
      have e : lab' c = lab c := if_neg hx
      rwa [e] at hc
  have st : StepF X h ⟨fun c => lab' c ≠ none, X.D⟩ h' := by
    refine ⟨f.mono (fun c hc hx => (H.mm c).2 (by rw [H.l2 c hx]; simp)), fun c hc => ?_, fun c hc => .inl hc, fun c hc => hc⟩
    rcases lab_none c hc with h3 | h3
    · exact .inl ((H.mm c).2 h3)
    · rcases hS c h3 with h4 | h4
      · exact .inl ((H.mm c).2 (by rw [H.l2 c h4]; simp))
      · exact .inr h4
  refine ⟨⟨fun c => lab' c ≠ none, X.D⟩, lab', ⟨?_, K.map (by omega), fun x hx => K.cps x hx (by omega), H.abs.trans hL.symm, K.dat, by rw [h1]; exact A, by rw [h2]; exact K.al2 (by omega), keepL H.l0 (by omega), keepL H.l1 (by omega), fun c hc => if_pos hc, fun c hc => keepL (H.l3 c hc) (by omega), fun x hx => keepL (H.l4 x hx) (by omega), fun c => Iff.rfl, fun c hc => ?_, fun c hc => ?_, H.so⟩, st, fun c hc => (lab_none c hc).imp (fun h => (H.mm c).2 h) id⟩
  · rw [hn.1, hn.2.1, hn.2.2.1, hn.2.2.2]; exact K.blk (by omega)
  · have := H.dd c hc
    refine ⟨?_, by omega⟩
    show (if S1' c then some 2 else lab c) = none
    rw [if_neg]
    · exact this.1
    · intro hx
      rcases hS c hx with h3 | h3
      · rw [H.l2 c h3] at this; cases this.1
      · omega
  · rcases lab_none c hc with h3 | h3
    · have := H.lsz c h3; omega
    · exact A.lt h3
theorem Cm.del {n : Int} (H : Cm h t X s m xs a1 S1 a2 S2 lab) (M : MapP h' m ienc (gdel (xs.map CV.pair) n)) (hs : h'.size = h.size) (ho : ∀ c, c ≠ m → h'[c]? = h[c]?) (hL : s'.L = s.L.filter (fun x => !decide ((x.num : Int) = n))) (h1 : s'.E1 = s.E1) (h2 : s'.E2 = s.E2) (hn : s'.next = s.next ∧ s'.acked = s.acked ∧ s'.over = s.over ∧ s'.gone = s.gone) :
    Cm h' t X s' m (xs.filter (fun x => !decide ((x.num : Int) = n))) a1 S1 a2 S2 lab ∧ StepF X h X h' := by
  have f : Fr (fun c => c = m) h h' := ⟨by omega, fun c _ hn => ho c hn⟩
  have hq : ∀ c, c = m → c < h.size → lab c = some 1 := fun c e _ => by rw [e]; exact H.l1
  have K := H.keep f hq
  have sub : ∀ x ∈ xs.filter (fun x => !decide ((x.num : Int) = n)), x ∈ xs := fun x hx => (List.mem_filter.1 hx).1
  refine ⟨⟨?_, ?_, fun x hx => K.cps x (sub x hx) (by omega), ?_, fun x hx => K.dat x (sub x hx), by rw [h1]; exact K.al1 (by omega), by rw [h2]; exact K.al2 (by omega), H.l0, H.l1, H.l2, H.l3, fun x hx => H.l4 x (sub x hx), H.mm, fun c hc => by rw [hs]; exact H.dd c hc, fun c hc => by rw [hs]; exact H.lsz c hc, H.so.sublist (List.filter_sublist.map _)⟩, H.step f hq⟩
  · rw [hn.1, hn.2.1, hn.2.2.1, hn.2.2.2]; exact K.blk (by omega)
  · unfold gdel at M
    rw [List.filter_map] at M
    exact M
  · rw [hL, ← H.abs, List.filter_map]; rfl
theorem Cm.change {x y : CV} (H : Cm h t X s m xs a1 S1 a2 S2 lab) (hx : x ∈ xs) (hb : y.b = x.b) (hnum : y.num = x.num) (hv : y.v = x.v) (hy : y.at h' x.b) (hs : h'.size = h.size) (ho : ∀ c, c ≠ x.b → h'[c]? = h[c]?)
    (hL : s'.L = s.L.map (fun z => if z.num = x.num then y.abs else z)) (h1 : s'.E1 = s.E1) (h2 : s'.E2 = s.E2) (hn : s'.next = s.next ∧ s'.acked = s.acked ∧ s'.over = s.over ∧ s'.gone = s.gone) :
    Cm h' t X s' m (xs.map (fun z => if z.num = x.num then y else z)) a1 S1 a2 S2 lab ∧ StepF X h X h' := by
  have f : Fr (fun c => c = x.b) h h' := ⟨by omega, fun c _ hn => ho c hn⟩
  have hq : ∀ c, c = x.b → c < h.size → lab c = some (4 + x.num) := fun c e _ => by rw [e]; exact H.l4 x hx
  have K := H.keep f hq
  have mem : ∀ z ∈ xs.map (fun z => if z.num = x.num then y else z), (z = y) ∨ (z ∈ xs ∧ z.num ≠ x.num) := fun z hz => by
    obtain ⟨u, hu, rfl⟩ := List.mem_map.1 hz
    by_cases e : u.num = x.num
    · rw [if_pos e]; exact .inl rfl
    · rw [if_neg e]; exact .inr ⟨hu, e⟩
  have pe : (xs.map (fun z => if z.num = x.num then y else z)).map CV.pair = xs.map CV.pair := by
    rw [List.map_map]
    refine List.map_congr_left fun z hz => ?_
    show CV.pair (if z.num = x.num then y else z) = z.pair
    by_cases e : z.num = x.num
    · rw [if_pos e]
      have : z = x := by
        obtain ⟨i, hi⟩ := List.getElem?_of_mem hz
        obtain ⟨j, hj⟩ := List.getElem?_of_mem hx
        have hnd : (xs.map CV.num).Nodup := H.so.imp (fun h => Nat.ne_of_lt h)
        have hil := (List.getElem?_eq_some_iff.1 hi).1
        have := (List.getElem?_inj (l := xs.map CV.num) (i := i) (j := j) (by simpa using hil) hnd).1 (by rw [List.getElem?_map, List.getElem?_map, hi, hj]; simp [e])
        subst this
        rw [hi] at hj; exact Option.some.inj hj
      subst this
      unfold CV.pair
      rw [hnum, hb]
    · rw [if_neg e]
  refine ⟨⟨?_, ?_, fun z hz => ?_, ?_, fun z hz => ?_, by rw [h1]; exact K.al1 (by omega), by rw [h2]; exact K.al2 (by omega), H.l0, H.l1, H.l2, H.l3, fun z hz => ?_, H.mm, fun c hc => by rw [hs]; exact H.dd c hc, fun c hc => by rw [hs]; exact H.lsz c hc, ?_⟩, H.step f hq⟩
  · rw [hn.1, hn.2.1, hn.2.2.1, hn.2.2.2]; exact K.blk (by omega)
  · rw [pe]; exact K.map (by omega)
  · rcases mem z hz with rfl | ⟨hz, e⟩
    · rw [hb]; exact hy
    · exact K.cps z hz (by omega)
  · rw [hL, ← H.abs, List.map_map, List.map_map]
    refine List.map_congr_left fun z _ => ?_
    show CV.abs (if z.num = x.num then y else z) = if z.num = x.num then y.abs else z.abs
    split <;> rfl
  · rcases mem z hz with rfl | ⟨hz, _⟩
    · rw [hv]; exact K.dat x hx
    · exact K.dat z hz
  · rcases mem z hz with rfl | ⟨hz, _⟩
    · rw [hb, hnum]; exact H.l4 x hx
    · exact H.l4 z hz
  · have : (xs.map (fun z => if z.num = x.num then y else z)).map CV.num = xs.map CV.num := by
      rw [List.map_map]
      refine List.map_congr_left fun z _ => ?_
      show CV.num (if z.num = x.num then y else z) = z.num
      split
      · rename_i e; rw [hnum, e]
      · rfl
    rw [this]; exact H.so
end Cps
end
end Go.Proofs.YtaphjamdblgiiaaGreatDoor
namespace Go.Proofs
open Go.Den
open IntKind (wrap)
open Int (toNat)
section
open Go.Shelf
def Tryz.laysS_ren : Go.Shelf.Ren := ⟨fun | 5 => 37 | 8 => 83 | 7 => 82 | 19 => 116 | 20 => 117 | 10 => 107 | 11 => 108 | 12 => 109 | 13 => 110 | 14 => 111 | 15 => 112 | 16 => 113 | 17 => 114 | 18 => 115 | 30 => 142 | 31 => 143 | 32 => 144 | 33 => 145 | 34 => 146 | 35 => 147 | 40 => 178 | n => n, fun | 23 => 58 | 25 => 3 | 3 => 3 | 32 => 170 | 22 => 58 | 0 => 0 | 44 => 229 | 46 => 22 | 4 => 4 | 36 => 221 | 35 => 220 | 41 => 226 | 5 => 5 | 9 => 9 | 53 => 258 | 57 => 261 | 63 => 291 | 64 => 270 | n => n, fun | n => n⟩
theorem Tryz.laysS : Go.Proofs.SlLaysM.n5 Tryz.prog Tryz.laysS_ren := by
  constructor; kernel_rfl; exact ⟨Tryz.f37.name, by decide, by kernel_rfl⟩; exact ⟨Tryz.f82.name, by decide, by kernel_rfl⟩; kernel_rfl; exact ⟨Tryz.f107.name, by decide, by kernel_rfl⟩; exact ⟨Tryz.f108.name, by decide, by kernel_rfl⟩; exact ⟨Tryz.f109.name, by decide, by kernel_rfl⟩; exact ⟨Tryz.f110.name, by decide, by kernel_rfl⟩; exact ⟨Tryz.f111.name, by decide, by kernel_rfl⟩; exact ⟨Tryz.f112.name, by decide, by kernel_rfl⟩; exact ⟨Tryz.f113.name, by decide, by kernel_rfl⟩; exact ⟨Tryz.f114.name, by decide, by kernel_rfl⟩; exact ⟨Tryz.f115.name, by decide, by kernel_rfl⟩; kernel_rfl; kernel_rfl; exact ⟨Tryz.f142.name, by decide, by kernel_rfl⟩; kernel_rfl; kernel_rfl; exact ⟨Tryz.f145.name, by decide, by kernel_rfl⟩; exact ⟨Tryz.f146.name, by decide, by kernel_rfl⟩; exact ⟨Tryz.f147.name, by decide, by kernel_rfl⟩; exact ⟨Tryz.f178.name, by decide, by kernel_rfl⟩; all_goals first | kernel_rfl | (intro _; kernel_rfl)

end
end Go.Proofs
namespace Go.Proofs.YtaphjamdblgiiaaGreatDoor
open Go.Den
open IntKind (wrap)
open Int (toNat)
section
open Go.Sort
namespace Srt
variable {h:Heap} {R:TyP} {p:TyO} {n c:Nat} {xs:List Int}
abbrev iv (x : Int) : Value := .int .i64 x
theorem sort_ok (o : Own h p n c 1 (xs.map iv)) (hl : n = xs.length) (nd : xs.Nodup) (hn : n ≤ 60000) (hk : ∀ h' (zs : List Int), Own h' p n c 1 (zs.map iv) → zs.Perm xs → zs.Pairwise (· < ·) → Fr (inBlk p) h h' → R (.tuple #[]) h') :
    Cl 37 #[.slice p n c] h R := by
  subst hl
  intro w hw
  cases o with
  | nil hp h0 hc hcs =>
    obtain rfl := List.eq_nil_of_length_eq_zero h0
    refine (AnyM.slices_Sort_int_none Tryz.laysS p c w).mono ?_
    rintro e w' ⟨rfl, rfl⟩
    exact ⟨_, rfl, hk _ [] (by rw [hw]; exact .nil hp rfl hc rfl) (.refl _) .nil (by rw [hw]; exact Fr.refl _ _), Same.refl _⟩
  | row b off ca t hp hb h1 hc h2 hcs =>
    subst hp; subst hw
    have hat : ∀ (zs : List Int) (j : Nat), j < zs.length → zs.toArray[j]! = zs.getD j 0 := fun zs j hj => by
      simp [getElem!_pos, hj]
    refine (AnyM.slices_Sort_int Tryz.laysS b off c xs w (fun j hj => ?_) (lt_of_get hb) (by omega)).mono ?_
    · have hj : j < xs.length := by simpa using hj
      refine ⟨?_, by rw [frozen_eq]; exact hfrozen_blk hb⟩
      rw [cell_eq, hcell_blk hb, hat xs j hj]
      exact hcs j _ (by grind)
    · rintro e w' ⟨rfl, k, os, rfl⟩
      have pm := List.mergeSort_perm xs fun x y => decide (x ≤ y)
      have so : (xs.mergeSort fun x y => decide (x ≤ y)).Pairwise (· < ·) := by
        have s1 := List.pairwise_mergeSort (le := fun (x y : Int) => decide (x ≤ y)) (fun a b c h1 h2 => by simp at h1 h2 ⊢; omega) (fun a b => by simp; omega) xs
        have s2 : (xs.mergeSort fun x y => decide (x ≤ y)).Nodup := pm.nodup_iff.2 nd
        exact (s1.and s2).imp fun {a b} h => by grind
      generalize (xs.mergeSort fun x y => decide (x ≤ y)) = zs at pm so ⊢
      have hz : zs.length = xs.length := pm.length_eq
      have hold : ∀ x, x < w.heap.size → x ≠ b → (w.heap.modify b (onCells (putCells (Value.int .i64) off zs.toArray)) ++ os)[x]? = w.heap[x]? := fun x hx hne => by
        grind
      have hnew : (w.heap.modify b (onCells (putCells (Value.int .i64) off zs.toArray)) ++ os)[b]? = some (.cells (putCells (Value.int .i64) off zs.toArray ca) t (0, 0)) := by
        rw [Array.getElem?_append_left (by simpa using lt_of_get hb), Array.getElem?_modify, if_pos rfl, hb]; rfl
      refine ⟨_, rfl, hk _ zs (.row b off _ t rfl hnew h1 (by unfold putCells; rw [Array.size_mapIdx]; exact hc) (by simp [hz]) fun j v hj => ?_) pm so ?_, ⟨rfl, rfl, rfl⟩⟩
      · rw [List.getElem?_map] at hj
        have hjl : j < zs.length := by
          grind
        rw [List.getElem?_eq_getElem hjl] at hj
        obtain rfl := Option.some.inj hj
        unfold putCells
        have hs : off + j < ca.size := by omega
        rw [Array.getElem?_mapIdx, Array.getElem?_eq_getElem hs, Option.map_some, if_pos ⟨by omega, by simp; omega⟩, show off + j - off = j by omega, hat zs j hjl, List.getD_eq_getElem?_getD, List.getElem?_eq_getElem hjl]; rfl
      · refine ⟨by simp, fun x hx hn => hold x hx (fun e => hn ⟨_, rfl, e.symm⟩)⟩

end Srt
end
section
open Go.Heapq
namespace Cps
open Eid Alarm
variable {h:Heap} {R:TyP} {t:Nat} {X:Ft} {s:CF} {m a1 a2:Nat} {xs:List CV} {S1 S2:Nat→Prop} {lab:Nat→Option Nat}
theorem made_ok (H : Cm h t X s m xs a1 S1 a2 S2 lab) (hk : R (.bool true) h) : Cl 192 #[.pointer (some ⟨t, 0, none⟩)] h R := copies_Table_made.walk ⟨_, cell_at H.blk rfl, hk⟩
theorem look (H : Cm h t X s m xs a1 S1 a2 S2 lab) {x : CV} (hx : x ∈ xs) : LookV Tryz.prog 197 (.map (some m)) (.int .i64 (x.num : Int)) false h (.pointer (some ⟨x.b, 0, none⟩)) := by
  have := lookV_P mapTy H.map (x.num)
  rw [((gget_some H.map.nodup).2 (List.mem_map.2 ⟨x, hx, rfl⟩))] at this
  exact this
variable {c0 c1 : Nat} {x : Ev}
end Cps
end
section
open Go.Heapq
namespace Cps
open Eid Alarm Fld
variable {h h':Heap} {R:TyP} {t:Nat} {X:Ft} {s s':CF} {m a1 a2:Nat} {xs:List CV} {S1 S2:Nat→Prop} {lab:Nat→Option Nat} {n c:Nat}
variable {z:Cp} {K:Heap→Prop}
def delL (L : List Cp) (n : Int) : List Cp := L.filter (fun x => !decide ((x.num : Int) = n))
def setC (L : List Cp) (n : Nat) (ses : Int) (dl : Nat) : List Cp := L.map (fun x => if x.num = n then { x with ses := ses, dl := dl } else x)
def remF (s : CF) (n : Int) : CF := { s with L := delL s.L n, E1 := dropK s.E1 n, E2 := dropK s.E2 n }
def freeF (s : CF) (n : Nat) : CF := { s with L := setC s.L n 0 0, E2 := dropK s.E2 (n : Int) }
theorem dropK_len (L : List E) (k : Int) : (dropK L k).length ≤ L.length := List.length_filter_le _ _
structure Small (s : CF) : Prop where
  n : s.next ≤ 50000
  l : s.L.length ≤ 50000
  e1 : s.E1.length ≤ 50000
  e2 : s.E2.length ≤ 50000
theorem Cm.len (H : Cm h t X s m xs a1 S1 a2 S2 lab) : xs.length = s.L.length := by rw [← H.abs, List.length_map]
theorem new_ok (hk : ∀ h' t X, Ct h' t X ⟨[], 1, 0, 0, 0, [], []⟩ → UpF h X h' → R (.pointer (some ⟨t, 0, none⟩)) h') : Cl 62 #[] h R := by
  classical
  refine copies_New.walk (newP_of ?_)
  have f1 : Fr No h (h.push (.map #[] 0)) := Fr.push _ _
  have M1 := MapP.push h ienc
  have z1 : (h.push (.map #[] 0)).size = h.size + 1 := Array.size_push _
  generalize h.push (.map #[] 0) = h1 at f1 M1 z1 ⊢
  refine Alarm.new_ok fun a1 S1 h2 A1 g1 f2 => ⟨_, rfl, Alarm.new_ok fun a2 S2 h3 A2 g2 f3 => ⟨_, rfl, newP_of ?_⟩⟩
  have f4 : Fr No h3 (h3.push (.cells #[.map (some h.size), .int .i64 1, .int .i64 0, .int .i64 0, .int .i64 0, .pointer (some ⟨a1, 0, none⟩), .pointer (some ⟨a2, 0, none⟩)] 201)) := Fr.push _ _
  have z2 := f2.1
  have z3 := f3.1
  have z4 : (h3.push (.cells #[.map (some h.size), .int .i64 1, .int .i64 0, .int .i64 0, .int .i64 0, .pointer (some ⟨a1, 0, none⟩), .pointer (some ⟨a2, 0, none⟩)] 201)).size = h3.size + 1 := Array.size_push _
  have b4 : (h3.push (.cells #[.map (some h.size), .int .i64 1, .int .i64 0, .int .i64 0, .int .i64 0, .pointer (some ⟨a1, 0, none⟩), .pointer (some ⟨a2, 0, none⟩)] 201))[h3.size]? = some (.cells #[.map (some h.size), .int .i64 1, .int .i64 0, .int .i64 0, .int .i64 0, .pointer (some ⟨a1, 0, none⟩), .pointer (some ⟨a2, 0, none⟩)] 201 (0, 0)) := push_new
  generalize h3.push (.cells #[.map (some h.size), .int .i64 1, .int .i64 0, .int .i64 0, .int .i64 0, .pointer (some ⟨a1, 0, none⟩), .pointer (some ⟨a2, 0, none⟩)] 201) = h4 at f4 z4 b4 ⊢
  have l1 : ∀ c, S1 c → h1.size ≤ c ∧ c < h2.size := fun c hc => ⟨g1 c hc, A1.lt hc⟩
  have l2 : ∀ c, S2 c → h2.size ≤ c ∧ c < h3.size := fun c hc => ⟨g2 c hc, A2.lt hc⟩
  let lab  := fun c => if c = h3.size then some 0 else if c = h.size then some 1 else if S1 c then some 2 else if S2 c then some 3 else none
  have lab1 : ∀ c, S1 c → lab c = some 2 := fun c hc => by
    grind
  have lab2 : ∀ c, S2 c → lab c = some 3 := fun c hc => by
    grind
  have labs : ∀ c, lab c ≠ none → h.size ≤ c ∧ c < h4.size := fun c hc => by
    grind
  refine hk h4 h3.size ⟨fun c => lab c ≠ none, fun _ => False⟩ ⟨h.size, [], a1, S1, a2, S2, lab, ⟨b4, (M1.frame (f2.tt f3) id).frame f4 id, (fun x hx => by cases hx), rfl, (fun x hx => by cases hx), A1.frame (f3.tt f4) (fun _ _ => id), A2.frame f4 (fun _ _ => id), if_pos rfl, ?_, lab1, lab2, (fun x hx => by cases hx), fun c => Iff.rfl, fun c hc => hc.elim, fun c hc => (labs c hc).2, .nil⟩⟩ ⟨f1.tt (f2.tt (f3.tt f4)), fun c hc => ?_⟩
  · grind
  · grind
theorem drop2 (H : Cm h t X s m xs a1 S1 a2 S2 lab) (hn : s.E2.length < 1000000) (k : Int) (hk : ∀ h' X' lab' (e : Int), Cm h' t X' { s with E2 := dropK s.E2 k } m xs a1 S1 a2 S2 lab' → StepF X h X' h' → R (.int .i64 e) h') :
    Cl 225 #[.pointer (some ⟨a2, 0, none⟩), .int .i64 k] h R := by
  refine Alarm.drop_ok H.al2 hn k (fun _ h1 A1 f1 => ?_) (fun hno => ?_)
  · have ⟨X', lab', H', st, _⟩ := H.alarm2 (s' := { s with E2 := dropK s.E2 k }) A1 (fun c hc => .inl hc) f1 rfl rfl rfl ⟨rfl, rfl, rfl, rfl⟩
    exact hk h1 X' lab' 0 H' st
  · have e : ({ s with E2 := dropK s.E2 k }) = s := by rw [dropK_none hno]
    exact hk h X lab 4 (by grind) (StepF.refl _ _)
theorem drop1 (H : Cm h t X s m xs a1 S1 a2 S2 lab) (hn : s.E1.length < 1000000) (k : Int) (hk : ∀ h' X' lab' (e : Int), Cm h' t X' { s with E1 := dropK s.E1 k } m xs a1 S1 a2 S2 lab' → StepF X h X' h' → R (.int .i64 e) h') :
    Cl 225 #[.pointer (some ⟨a1, 0, none⟩), .int .i64 k] h R := by
  refine Alarm.drop_ok H.al1 hn k (fun _ h1 A1 f1 => ?_) (fun hno => ?_)
  · have ⟨X', lab', H', st, _⟩ := H.alarm1 (s' := { s with E1 := dropK s.E1 k }) A1 (fun c hc => .inl hc) f1 rfl rfl rfl ⟨rfl, rfl, rfl, rfl⟩
    exact hk h1 X' lab' 0 H' st
  · have e : ({ s with E1 := dropK s.E1 k }) = s := by rw [dropK_none hno]
    exact hk h X lab 4 (by grind) (StepF.refl _ _)
theorem remove_ok (H : Ct h t X s) (sm : Small s) (k : Int) (hk : ∀ h' X', Ct h' t X' (remF s k) → StepF X h X' h' → R (.tuple #[]) h') :
    Cl 198 #[.pointer (some ⟨t, 0, none⟩), .int .i64 k] h R := by
  have ⟨m, xs, a1, S1, a2, S2, lab, H⟩ := H
  have := sm.e1
  have := sm.e2
  refine copies_Table_remove.walk ⟨_, cell_at H.blk rfl, drop2 H (by omega) k fun h1 X1 lab1 _ H1 st1 => ⟨_, rfl, _, cell_at H1.blk rfl, drop1 H1 (by grind) k fun h2 X2 lab2 _ H2 st2 => ⟨_, rfl, _, cell_at H2.blk rfl, den_delP mapTy H2.map fun h3 M3 s3 o3 => ⟨rfl, ?_⟩⟩⟩⟩
  have ⟨H3, st3⟩ := H2.del (s' := remF s k) M3 s3 o3 rfl rfl rfl ⟨rfl, rfl, rfl, rfl⟩
  exact hk h3 X2 ⟨_, _, _, _, _, _, _, H3⟩ (st1.trans (st2.trans st3))
theorem mem_of_num (H : Cm h t X s m xs a1 S1 a2 S2 lab) (hz : z ∈ s.L) : ∃ x ∈ xs, x.abs = z := by
  rw [← H.abs] at hz
  have ⟨x, hx, e⟩ := List.mem_map.1 hz
  exact ⟨x, hx, e⟩
theorem Cm.lease {x : CV} {ses : Int} {dl : Nat} (H : Cm h t X s m xs a1 S1 a2 S2 lab) (hx : x ∈ xs)
    (hk : ∀ h', Cm h' t X { s with L := setC s.L x.num ses dl } m (xs.map (fun z => if z.num = x.num then { x with ses := ses, dl := dl } else z)) a1 S1 a2 S2 lab → StepF X h X h' → K h') :
    StoreP h ((⟨x.b, 0, none⟩ : Addr).add 8) (.int .i64 ses) fun h1 => StoreP h1 ((⟨x.b, 0, none⟩ : Addr).add 9) (.int .u64 (dl : Int)) K := by
  rw [add_blk, add_blk]
  have hb := H.cps x hx
  refine storeP_blk hb (by simp) fun h1 c1 s1 o1 => storeP_blk c1 (by simp) fun h2 c2 s2 o2 => ?_
  have hy : ({ x with ses := ses, dl := dl } : CV).at h2 x.b := c2
  obtain ⟨H2, st⟩ := H.change (s' := { s with L := setC s.L x.num ses dl }) (y := { x with ses := ses, dl := dl }) hx rfl rfl rfl hy (by omega) (fun c hc => by rw [o2 c hc, o1 c hc]) (by
    show setC s.L x.num ses dl = _
    unfold setC
    refine List.map_congr_left fun z hz => ?_
    by_cases e : z.num = x.num
    · rw [if_pos e, if_pos e]
      obtain ⟨u, hu, rfl⟩ := mem_of_num H hz
      have e : u.num = x.num := e
      have : u = x := by
        obtain ⟨i, hi⟩ := List.getElem?_of_mem hu
        obtain ⟨j, hj⟩ := List.getElem?_of_mem hx
        have hnd : (xs.map CV.num).Nodup := H.so.imp (fun h => Nat.ne_of_lt h)
        have hil := (List.getElem?_eq_some_iff.1 hi).1
        have := (List.getElem?_inj (l := xs.map CV.num) (i := i) (j := j) (by simpa using hil) hnd).1 (by rw [List.getElem?_map, List.getElem?_map, hi, hj]; simp [e])
        subst this
        rw [hi] at hj; exact Option.some.inj hj
      rw [this]; rfl
    · rw [if_neg e, if_neg e]) rfl rfl ⟨rfl, rfl, rfl, rfl⟩
  exact hk h2 H2 st
theorem free_ok (H : Ct h t X s) (sm : Small s) (hz : z ∈ s.L) (hk : ∀ h' X', Ct h' t X' (freeF s z.num) → StepF X h X' h' → R (.tuple #[]) h') :
    Cl 199 #[.pointer (some ⟨t, 0, none⟩), .int .i64 (z.num : Int)] h R := by
  have ⟨m, xs, a1, S1, a2, S2, lab, H⟩ := H
  obtain ⟨x, hx, rfl⟩ := mem_of_num H hz
  have := sm.e2
  refine copies_Table_free.walk ⟨_, cell_at H.blk rfl, drop2 H (by omega) _ fun h1 X1 lab1 _ H1 st1 => ⟨_, rfl, _, cell_at H1.blk rfl, _, look H1 hx, _, cell_at H1.blk rfl, _, look H1 hx, (onSome_some.2 (H1.lease hx fun h2 H2 st2 => hk h2 X1 ⟨_, _, _, _, _, _, _, H2⟩ (st1.trans st2)))⟩⟩
theorem Ct.bump3 (H : Ct h t X s) (hs : s.over ≤ 100000) (hk : ∀ h', Ct h' t X { s with over := s.over + 1 } → StepF X h X h' → K h') :
    ∃ (u : Int), hcell h ⟨t, 3, none⟩ = some (.int .i64 u) ∧ StoreP h ⟨t, 3, none⟩ (.int .i64 (IntKind.wrap .i64 (u + 1))) K := by
  have ⟨m, xs, a1, S1, a2, S2, lab, H⟩ := H
  refine ⟨_, cell_at H.blk rfl, storeP_blk H.blk (by simp) fun h1 c1 s1 o1 => ?_⟩
  rw [wrap_id (by omega) (by omega)] at c1
  have ⟨H1, st⟩ := H.field (s' := { s with over := s.over + 1 }) rfl rfl rfl c1 s1 o1
  exact hk h1 ⟨_, _, _, _, _, _, _, H1⟩ st

end Cps
end
section
namespace Stt
open Obx (It)
open Eid (Ev)
variable {h h':Heap} {s j:Nat} {X:Ft}
structure SS where
  A : List Ses.Ses
  G : List Regs.Rg
  C : Cps.CF
  B : Obx.BS
  Q : List It
  e : Ev
  tm : Nat
  sq : Nat
  now : Nat
  rf : Nat
structure Ids where
  t : Nat
  r : Nat
  c : Nat
  o : Nat
  p : Nat
  k : Nat
abbrev Mk (h : Heap) (k : Nat) (e : Ev) (tm sq : Nat) : Prop := h[k]? = some (.cells #[.bool e.ipn, .int .u64 e.node, .int .u64 e.svc, .string e.host, .string e.dem, .int .u64 (tm : Int), .int .u64 (sq : Int), .bool true] 187 (0, 0))
abbrev Bk (h : Heap) (s : Nat) (I : Ids) (now rf : Nat) : Prop := h[s]? = some (.cells #[pt I.t, pt I.r, pt I.c, pt I.o, pt I.p, pt I.k, .int .u64 (now : Int), .int .i64 (rf : Int)] 102 (0, 0))
def part (σ : SS) (I : Ids) (s : Nat) (i : Nat) (h : Heap) (X : Ft) : Prop := match i with
  | 0 => Ses.Has h I.t X σ.A
  | 1 => Regs.Tb h I.r X σ.G
  | 2 => Cps.Ct h I.c X σ.C
  | 3 => Obx.Box h I.o X σ.B
  | 4 => ∃ m, Pu h I.p m σ.Q ∧ only X fun y => y = I.p ∨ y = m
  | 5 => Mk h I.k σ.e σ.tm σ.sq ∧ only X fun y => y = I.k
  | 6 => Bk h s I σ.now σ.rf ∧ only X fun y => y = s
  | _ => ∀ y, ¬ In X y
theorem part.lt {σ : SS} {I : Ids} {i : Nat} (H : part σ I s i h X) (y : Nat) (hy : In X y) : y < h.size := by
  rcases i with _ | _ | _ | _ | _ | _ | _ | i
  · exact Ses.Has.lt H y hy
  · exact Regs.Tb.lt H y hy
  · exact Cps.Ct.lt H y hy
  · exact Obx.Box.lt H y hy
  · have ⟨m, P, o⟩ := H
    rcases hy with hy | hy
    · rcases (o y).1.1 hy with rfl | rfl
      · exact P.lt.1
      · exact P.lt.2
    · exact absurd hy (o y).2
  · have ⟨P, o⟩ := H
    rcases hy with hy | hy
    · grind
    · grind
  · have ⟨P, o⟩ := H
    rcases hy with hy | hy
    · rw [(o y).1.1 hy]; exact lt_of_get P
    · exact absurd hy (o y).2
  · exact absurd hy (H y)
theorem part.frame {σ : SS} {I : Ids} {i : Nat} {Q : Nat → Prop} (H : part σ I s i h X) (f : Fr Q h h') (hq : ∀ y, In X y → ¬ Q y) : part σ I s i h' X := by
  rcases i with _ | _ | _ | _ | _ | _ | _ | i
  · exact Ses.Has.frame H f hq
  · exact Regs.Tb.frame H f hq
  · exact Cps.Ct.frame H f hq
  · exact Obx.Box.frame H f hq
  · have ⟨m, P, o⟩ := H
    exact ⟨m, P.frame f (hq _ (.inl ((o _).1.2 (.inl rfl)))) (hq _ (.inl ((o _).1.2 (.inr rfl)))), o⟩
  · have ⟨P, o⟩ := H
    exact ⟨f.get P (hq _ (.inl ((o _).1.2 rfl))), o⟩
  · have ⟨P, o⟩ := H
    exact ⟨f.get P (hq _ (.inl ((o _).1.2 rfl))), o⟩
  · exact H
theorem part.dis {σ : SS} {I : Ids} {i : Nat} (H : part σ I s i h X) (y : Nat) (hm : X.M y) (hd : X.D y) : False := by
  rcases i with _ | _ | _ | _ | _ | _ | _ | i
  · exact Ses.Has.dis H y hm hd
  · have ⟨m, H⟩ := H; exact H.d y hd
  · have ⟨m, xs, a1, S1, a2, S2, lab, H⟩ := H; exact (H.mm y).1 hm (H.dd y hd).1
  · have ⟨L, ⟨lp, lc, xs, a, S, H⟩, _⟩ := H; exact H.dis y hm hd
  · have ⟨m, P, o⟩ := H; exact (o y).2 hd
  · exact (H.2 y).2 hd
  · exact (H.2 y).2 hd
  · exact H y (.inl hm)
theorem part.st (σ : SS) (I : Ids) (s : Nat) : Stable (part σ I s) := ⟨part.lt, part.frame, part.dis⟩
def Pt (h : Heap) (s : Nat) (X : Ft) (I : Ids) (σ : SS) : Prop := Fam (part σ I s) h X
variable {I : Ids} {σ : SS}
theorem Pt.lt (H : Pt h s X I σ) (y : Nat) (hy : X.M y ∨ X.D y) : y < h.size := Fam.lt (part.st _ _ _) H y hy
theorem Pt.dis (H : Pt h s X I σ) (y : Nat) (a : X.M y) (b : X.D y) : False := Fam.dis (part.st _ _ _) H y a b
theorem Pt.frame {Q : Nat → Prop} (H : Pt h s X I σ) (f : Fr Q h h') (hq : ∀ y, X.M y ∨ X.D y → ¬ Q y) : Pt h' s X I σ := Fam.frame (part.st _ _ _) H f hq
theorem Pt.on (H : Pt h s X I σ) (f : Fr No h h') : Pt h' s X I σ := H.frame f (fun _ _ => id)
theorem Pt.use (H : Pt h s X I σ) (j : Nat) : ∃ Z, part σ I s j h Z ∧ (∀ y, Z.M y → X.M y) ∧ (∀ y, Z.D y → X.D y) ∧ ∀ h' Z' σ', part σ' I s j h' Z' → StepF Z h Z' h' → (∀ i, i ≠ j → part σ' I s i = part σ I s i) →
    ∃ X', Pt h' s X' I σ' ∧ StepF X h X' h' ∧ (∀ y, Z'.D y → X'.D y) ∧ ∀ y, h.size ≤ y → X'.M y ∨ X'.D y → Z'.M y ∨ Z'.D y := by
  obtain ⟨Z, h1, h2, h3, go⟩ := Fam.use (part.st σ I s) H j
  exact ⟨Z, h1, h2, h3, fun h' Z' σ' => go h' Z' (part σ' I s)⟩
theorem Pt.blk (H : Pt h s X I σ) : Bk h s I σ.now σ.rf := by have ⟨Y, hp, _⟩ := H; exact (hp 6).1
theorem Pt.box (H : Pt h s X I σ) : ∃ Z, Obx.Box h I.o Z σ.B := by have ⟨Y, hp, _⟩ := H; exact ⟨_, hp 3⟩
theorem part_A {i : Nat} (a : List Ses.Ses) (hi : i ≠ 0) : part { σ with A := a } I s i = part σ I s i := by rcases i with _ | _ | _ | _ | _ | _ | _ | i <;> first | rfl | omega
theorem part_C {i : Nat} (a : Cps.CF) (hi : i ≠ 2) : part { σ with C := a } I s i = part σ I s i := by rcases i with _ | _ | _ | _ | _ | _ | _ | i <;> first | rfl | omega
theorem part_B {i : Nat} (a : Obx.BS) (hi : i ≠ 3) : part { σ with B := a } I s i = part σ I s i := by rcases i with _ | _ | _ | _ | _ | _ | _ | i <;> first | rfl | omega
theorem part_Q {i : Nat} (a : List It) (hi : i ≠ 4) : part { σ with Q := a } I s i = part σ I s i := by rcases i with _ | _ | _ | _ | _ | _ | _ | i <;> first | rfl | omega
theorem part_n {i : Nat} (a b : Nat) (hi : i ≠ 6) : part { σ with now := a, rf := b } I s i = part σ I s i := by rcases i with _ | _ | _ | _ | _ | _ | _ | i <;> first | rfl | omega
end Stt
end
section
open Go.Heapq
namespace Cps
open Eid Alarm Fld
variable {h h':Heap} {R:TyP} {t:Nat} {X:Ft} {s s':CF} {m a1 a2:Nat} {xs:List CV} {S1 S2:Nat→Prop} {lab:Nat→Option Nat} {p:TyO} {n c:Nat}
variable {ks:List Int} {i:Nat} {k:Int} {f:CF→Int→CF}
def mayC (x : Ev) (len : Nat) (till : Int) : Bool := rightE x && (!decide (x = Ev.zero) && (decide (1 ≤ len) && (decide (len ≤ 600) && decide (till ≤ 1099511627776))))
def ofL (L : List Cp) (x : Ev) : List Cp := L.filter (fun y => decide (y.e = x))
def addE (s : CF) (x : Ev) (d : List UInt8) (till : Nat) : Int := if mayC x d.length (till : Int) = true then (if (ofL s.L x).length ≥ 16 then 15 else 0) else 1
def addF (s : CF) (x : Ev) (d : List UInt8) (till : Nat) : CF := if addE s x d till = 0 then { s with L := s.L ++ [⟨s.next, x, d, till, 0, 0⟩], next := s.next + 1, E1 := setL s.E1 (s.next : Int) (till : Int) } else s
def remOver (s : CF) (k : Int) : CF := { remF s k with over := s.over + 1 }
def remGone (s : CF) (k : Int) : CF := { remF s k with gone := s.gone + 1 }
theorem Small.rem (sm : Small s) (k : Int) : Small (remF s k) :=
  ⟨sm.n, Nat.le_trans (List.length_filter_le _ _) sm.l, Nat.le_trans (dropK_len _ _) sm.e1, Nat.le_trans (dropK_len _ _) sm.e2⟩
theorem Small.free (sm : Small s) (k : Nat) : Small (freeF s k) :=
  ⟨sm.n, by show (setC s.L k 0 0).length ≤ _; unfold setC; rw [List.length_map]; exact sm.l, sm.e1, Nat.le_trans (dropK_len _ _) sm.e2⟩
def Held (s : CF) : Prop := ∀ k ∈ keys s.E2, ∃ z ∈ s.L, (z.num : Int) = k
theorem Held.rem (H : Held s) (k : Int) : Held (remF s k) := fun j hj => by
  obtain ⟨e, he, rfl⟩ := List.mem_map.1 hj
  have ⟨h1, h2⟩ := List.mem_filter.1 he
  have ⟨z, hz, e2⟩ := H e.1 (List.mem_map_of_mem h1)
  exact ⟨z, List.mem_filter.2 ⟨hz, by grind⟩, e2⟩
theorem setC_nums (L : List Cp) (n : Nat) (a : Int) (b : Nat) {z : Cp} (hz : z ∈ L) : ∃ y ∈ setC L n a b, y.num = z.num := by
  refine ⟨_, List.mem_map_of_mem hz, ?_⟩
  split <;> rfl
theorem Ct.ring1 (H : Ct h t X s) (sm : Small s) (now : Int) (hk : ∀ h' X' p' c', Ct h' t X' { s with E1 := Alarm.rest s.E1 now } → StepF X h X' h' → Own h' p' (Alarm.due s.E1 now).length c' 1 (kc (Alarm.due s.E1 now)) → (∀ y, inBlk p' y → h.size ≤ y ∧ ¬ X'.M y) → R (.slice p' (Alarm.due s.E1 now).length c') h') :
    ∃ (u : Option Addr), hcell h ⟨t, 5, none⟩ = some (.pointer u) ∧ Cl 197 #[.pointer u, .int .u64 now] h R := by
  have ⟨m, xs, a1, S1, a2, S2, lab, H⟩ := H
  have := sm.e1
  refine ⟨_, cell_at H.blk rfl, Alarm.ring_ok H.al1 (by omega) now fun h1 p1 c1 A1 o1 g1 f1 => ?_⟩
  have ⟨X', lab', H', st, hM⟩ := H.alarm1 (s' := { s with E1 := Alarm.rest s.E1 now }) A1 (fun c hc => .inl hc) f1 rfl rfl rfl ⟨rfl, rfl, rfl, rfl⟩
  refine hk h1 X' p1 c1 ⟨_, _, _, _, _, _, _, H'⟩ st o1 (fun y hy => ⟨g1 y hy, fun hm => ?_⟩)
  have hy := g1 y hy
  rcases hM y hm with h2 | h2
  · have := H.lsz y ((H.mm y).1 h2); omega
  · have := H.al1.lt h2; omega
theorem Ct.ring2 (H : Ct h t X s) (sm : Small s) (now : Int) (hk : ∀ h' X' p' c', Ct h' t X' { s with E2 := Alarm.rest s.E2 now } → StepF X h X' h' → Own h' p' (Alarm.due s.E2 now).length c' 1 (kc (Alarm.due s.E2 now)) → (∀ y, inBlk p' y → h.size ≤ y ∧ ¬ X'.M y) → R (.slice p' (Alarm.due s.E2 now).length c') h') :
    ∃ (u : Option Addr), hcell h ⟨t, 6, none⟩ = some (.pointer u) ∧ Cl 197 #[.pointer u, .int .u64 now] h R := by
  have ⟨m, xs, a1, S1, a2, S2, lab, H⟩ := H
  have := sm.e2
  refine ⟨_, cell_at H.blk rfl, Alarm.ring_ok H.al2 (by omega) now fun h1 p1 c1 A1 o1 g1 f1 => ?_⟩
  have ⟨X', lab', H', st, hM⟩ := H.alarm2 (s' := { s with E2 := Alarm.rest s.E2 now }) A1 (fun c hc => .inl hc) f1 rfl rfl rfl ⟨rfl, rfl, rfl, rfl⟩
  refine hk h1 X' p1 c1 ⟨_, _, _, _, _, _, _, H'⟩ st o1 (fun y hy => ⟨g1 y hy, fun hm => ?_⟩)
  have hy := g1 y hy
  rcases hM y hm with h2 | h2
  · have := H.lsz y ((H.mm y).1 h2); omega
  · have := H.al2.lt h2; omega
structure Nums (h : Heap) (X : Ft) (p : Option Addr) (n c : Nat) (ks : List Int) : Prop where
  own : Own h p n c 1 (ks.map ienc)
  len : n = ks.length
  ap : ∀ y, inBlk p y → ¬ X.M y
theorem Nums.step {X' : Ft} (N : Nums h X p n c ks) (st : StepF X h X' h') : Nums h' X' p n c ks :=
  ⟨N.own.frame st.fr N.ap, N.len, fun y hy hm => by
    rcases st.newM y hm with h1 | h1
    · exact N.ap y hy h1
    · have := N.own.blk_lt hy; omega⟩
theorem Nums.at {K : Int → Prop} (N : Nums h X p n c ks) (hi : ks[i]? = some k) (hk : K k) :
    ((0 : Int) ≤ (i : Int) ∧ (i : Int) < ((n : Nat) : Int)) ∧ onSome p fun a => ∃ t : Int, hcell h (a.add (Int.toNat (i : Int) * 1)) = some (.int .i64 t) ∧ K t := by
  have hl := (List.getElem?_eq_some_iff.1 hi).1
  have hn := N.len
  have ⟨ab, ao, e⟩ := N.own.addr (by omega)
  subst e
  refine ⟨⟨by omega, by omega⟩, onSome_some.2 ⟨k, (N.own.cell (by grind)), hk⟩⟩
theorem foldl_small (hf : ∀ s k, Small s → Small (f s k)) : ∀ (ks : List Int) (s : CF), Small s → Small (ks.foldl f s)
  | [], _, h => h
  | k :: ks, s, h => foldl_small hf ks (f s k) (hf s k h)
theorem over_fold : ∀ (ks : List Int) (s : CF), (ks.foldl remOver s).over = s.over + ks.length
  | [], _ => rfl
  | k :: ks, s => by rw [List.foldl_cons, over_fold ks, List.length_cons]; show s.over + 1 + ks.length = _; omega
theorem held_fold : ∀ (ks : List Int) (s : CF), Held s → Held (ks.foldl remOver s)
  | [], _, h => h
  | k :: ks, s, h => held_fold ks (remOver s k) (h.rem k)
theorem take_foldl (hi : ks[i]? = some k) (s : CF) : (ks.take (i + 1)).foldl f s = f ((ks.take i).foldl f s) k := by
  rw [List.take_add_one, hi, List.foldl_append]; rfl
def passF (s : CF) (now : Int) : CF :=
  let s1 := (keys (Alarm.due s.E1 now)).foldl remOver { s with E1 := Alarm.rest s.E1 now }
  (keys (Alarm.due s1.E2 now)).foldl (fun s k => freeF s k.toNat) { s1 with E2 := Alarm.rest s1.E2 now }
theorem free_nums : ∀ (ks : List Int) (s : CF) (z : Cp), z ∈ s.L → ∃ y ∈ (ks.foldl (fun s k => freeF s k.toNat) s).L, y.num = z.num
  | [], s, z, hz => ⟨z, hz, rfl⟩
  | k :: ks, s, z, hz => by
    have ⟨y, hy, e⟩ := setC_nums s.L k.toNat 0 0 hz
    have ⟨u, hu, e2⟩ := free_nums ks (freeF s k.toNat) y hy
    exact ⟨u, hu, e2.trans e⟩
theorem rest_len (L : List E) (now : Int) : (Alarm.rest L now).length ≤ L.length := (List.dropWhile_sublist _).length_le
theorem pass_ok (H : Ct h t X s) (sm : Small s) (ho : s.over ≤ 40000) (hE : Held s) (now : Int)
    (hk : ∀ h' X' p' c', Ct h' t X' (passF s now) → StepF X h X' h' → Nums h' X' p' (Alarm.due s.E1 now).length c' (keys (Alarm.due s.E1 now)) → (∀ y, inBlk p' y → h.size ≤ y) → R (.slice p' (Alarm.due s.E1 now).length c') h') :
    Cl 164 #[.pointer (some ⟨t, 0, none⟩), .int .u64 now] h R := by
  have hdl : (Alarm.due s.E1 now).length ≤ s.E1.length := (List.takeWhile_sublist _).length_le
  have e1b := sm.e1
  have hm : ∀ {R : Value → Heap → Prop}, R (.bool true) h → Cl 192 #[.pointer (some ⟨t, 0, none⟩)] h R := fun hk => by
    have ⟨m, xs, a1, S1, a2, S2, lab, H⟩ := H
    exact made_ok H hk
  refine copies_Table_Pass.walk (hm ⟨_, rfl, ?_⟩)
  rw [if_neg (by decide)]
  refine H.ring1 sm now fun h2 X2 p2 c2 H2 st2 o2 g2 => ⟨_, _, _, rfl, ?_⟩
  have sm2 : Small { s with E1 := Alarm.rest s.E1 now } := ⟨sm.n, sm.l, Nat.le_trans (rest_len _ _) sm.e1, sm.e2⟩
  have kl : (keys (Alarm.due s.E1 now)).length = (Alarm.due s.E1 now).length := by unfold keys; rw [List.length_map]
  have N2 : Nums h2 X2 p2 (Alarm.due s.E1 now).length c2 (keys (Alarm.due s.E1 now)) := ⟨o2, kl.symm, fun y hy => (g2 y hy).2⟩
  have smR : ∀ (s : CF) k, Small s → Small (remOver s k) := fun s k h => ⟨(h.rem k).n, (h.rem k).l, (h.rem k).e1, (h.rem k).e2⟩
  refine ⟨fun u g => ∃ (i : Nat) (Xg : Ft), u = (i) ∧ i ≤ (Alarm.due s.E1 now).length ∧ Ct g t Xg (((keys (Alarm.due s.E1 now)).take i).foldl remOver { s with E1 := Alarm.rest s.E1 now }) ∧ StepF X h Xg g ∧ Nums g Xg p2 (Alarm.due s.E1 now).length c2 (keys (Alarm.due s.E1 now)), fun u _ => (Alarm.due s.E1 now).length - u.toNat, ⟨0, X2, rfl, Nat.zero_le _, H2, st2, N2⟩, ?_⟩
  rintro _ g ⟨i, Xg, rfl, hi, Hg, stg, Ng⟩
  have smg := foldl_small smR ((keys (Alarm.due s.E1 now)).take i) _ sm2
  by_cases hlt : i < (Alarm.due s.E1 now).length
  · rw [if_pos (decide_eq_true (by omega))]
    have ⟨k, hki⟩ := getO (keys (Alarm.due s.E1 now)) i
    refine Ng.at hki (remove_ok Hg smg k fun g3 X3 H3 st3 => ⟨rfl, H3.bump3 ?_ fun g4 H4 st4 => ?_⟩)
    · show (((keys (Alarm.due s.E1 now)).take i).foldl remOver { s with E1 := Alarm.rest s.E1 now }).over ≤ 100000
      rw [over_fold, List.length_take]
      show s.over + _ ≤ 100000
      omega
    · rw [wrap_id (by omega) (by omega)]
      refine ⟨⟨i + 1, X3, by omega, by omega, ?_, stg.trans (st3.trans st4), (Ng.step st3).step st4⟩, by grind⟩
      rw [take_foldl hki]
      exact H4
  · rw [if_neg (by grind)]
    obtain rfl : i = (Alarm.due s.E1 now).length := by omega
    have ta : (keys (Alarm.due s.E1 now)).take (Alarm.due s.E1 now).length = keys (Alarm.due s.E1 now) := List.take_of_length_le (by omega)
    rw [ta] at Hg smg
    have hE1 : Held ((keys (Alarm.due s.E1 now)).foldl remOver { s with E1 := Alarm.rest s.E1 now }) := held_fold _ _ hE
    generalize hs1 : (keys (Alarm.due s.E1 now)).foldl remOver { s with E1 := Alarm.rest s.E1 now } = s1 at Hg smg hE1
    refine Hg.ring2 smg now fun h6 X6 p6 c6 H6 st6 o6 g6 => ⟨_, _, _, rfl, ?_⟩
    have kl6 : (keys (Alarm.due s1.E2 now)).length = (Alarm.due s1.E2 now).length := by unfold keys; rw [List.length_map]
    have sm6 : Small { s1 with E2 := Alarm.rest s1.E2 now } := ⟨smg.n, smg.l, smg.e1, Nat.le_trans (rest_len _ _) smg.e2⟩
    have N6 : Nums h6 X6 p6 (Alarm.due s1.E2 now).length c6 (keys (Alarm.due s1.E2 now)) := ⟨o6, kl6.symm, fun y hy => (g6 y hy).2⟩
    have hd6 := smg.e2
    have hdl6 : (Alarm.due s1.E2 now).length ≤ s1.E2.length := (List.takeWhile_sublist _).length_le
    refine ⟨fun u g => ∃ (i : Nat) (Xg : Ft), u = (i : Int) ∧ i ≤ (Alarm.due s1.E2 now).length ∧ Ct g t Xg (((keys (Alarm.due s1.E2 now)).take i).foldl (fun s k => freeF s k.toNat) { s1 with E2 := Alarm.rest s1.E2 now }) ∧ StepF X h Xg g ∧ Nums g Xg p6 (Alarm.due s1.E2 now).length c6 (keys (Alarm.due s1.E2 now)) ∧ Nums g Xg p2 (Alarm.due s.E1 now).length c2 (keys (Alarm.due s.E1 now)), fun u _ => (Alarm.due s1.E2 now).length - u.toNat, ⟨0, X6, rfl, Nat.zero_le _, H6, stg.trans st6, N6, Ng.step st6⟩, ?_⟩
    rintro _ g7 ⟨j, X7, rfl, hj, H7, st7, N7, M7⟩
    have sm7 := foldl_small (f := fun s k => freeF s k.toNat) (fun s k h => h.free k.toNat) ((keys (Alarm.due s1.E2 now)).take j) _ sm6
    by_cases hlt : j < (Alarm.due s1.E2 now).length
    · rw [if_pos (decide_eq_true (by omega))]
      have ⟨k, hki⟩ := getO (keys (Alarm.due s1.E2 now)) j
      have hkm : k ∈ keys s1.E2 := by
        have h1 := List.mem_of_getElem? hki
        unfold keys at h1 ⊢
        obtain ⟨e, he, rfl⟩ := List.mem_map.1 h1
        exact List.mem_map_of_mem ((List.takeWhile_sublist _).subset he)
      obtain ⟨z, hz, ez⟩ := hE1 k hkm
      obtain ⟨y, hy, ey⟩ := free_nums ((keys (Alarm.due s1.E2 now)).take j) { s1 with E2 := Alarm.rest s1.E2 now } z hz
      have eyk : k = (y.num : Int) := by omega
      refine N7.at hki ?_
      rw [eyk]
      refine free_ok H7 sm7 hy fun g8 X8 H8 st8 => ⟨rfl, ?_⟩
      rw [wrap_id (by omega) (by omega)]
      refine ⟨⟨j + 1, X8, by omega, by omega, ?_, st7.trans st8, N7.step st8, M7.step st8⟩, by grind⟩
      rw [take_foldl hki, eyk, Int.toNat_natCast]
      exact H8
    · rw [if_neg (by simp; omega)]
      obtain rfl : j = (Alarm.due s1.E2 now).length := by omega
      rw [List.take_of_length_le (by omega)] at H7
      refine hk g7 X7 p2 c2 ?_ st7 M7 (fun y hy => (g2 y hy).1)
      unfold passF
      rw [hs1]
      exact H7
def dropF (s : CF) (x : Ev) : CF := ((ofL s.L x).map (fun z => (z.num : Int))).foldl remGone s
abbrev Cp.val (z : Cp) (p : Option Addr) (c : Nat) : Value := .agg #[.int .i64 (z.num : Int), .bool z.e.ipn, .int .u64 z.e.node, .int .u64 z.e.svc, .string z.e.host, .string z.e.dem, .slice p z.d.length c, .int .u64 (z.till : Int), .int .i64 z.ses, .int .u64 (z.dl : Int)]
def mayS (ses : Int) (dl : Nat) : Prop := 1 ≤ ses ∧ ses ≤ 1099511627776 ∧ dl ≤ 1099511627776

end Cps
end
section
open Go.Heapq
namespace Cps
open Eid Alarm Fld
variable {h:Heap} {t:Nat} {X:Ft} {s s':CF} {n:Nat} {now:Int}
variable {z:Cp} {L:List Cp} {ks:List Int}
structure Ord (s : CF) : Prop where
  nd : (s.L.map Cp.num).Nodup
  o1 : Sorted s.E1
  o2 : Sorted s.E2
  n1 : (keys s.E1).Nodup
  n2 : (keys s.E2).Nodup
theorem Ct.ord (H : Ct h t X s) : Ord s := by
  have ⟨m, xs, a1, S1, a2, S2, lab, H⟩ := H
  refine ⟨?_, H.al1.sorted, H.al2.sorted, H.al1.nodup, H.al2.nodup⟩
  rw [← H.abs, List.map_map]
  exact H.so.imp (fun h => Nat.ne_of_lt h)
structure okC (s : CF) : Prop where
  bd : ∀ z ∈ s.L, 1 ≤ z.num ∧ z.num < s.next ∧ z.d.length ≤ 600
  sp : ∀ z ∈ s.L, 0 ≤ z.ses
  e1 : ∀ e, e ∈ s.E1 ↔ ∃ z ∈ s.L, e = ((z.num : Int), (z.till : Int))
  e2 : ∀ e, e ∈ s.E2 ↔ ∃ z ∈ s.L, z.ses ≠ 0 ∧ e = ((z.num : Int), (z.dl : Int))
  cnt : s.next = 1 + s.L.length + s.acked + s.over + s.gone
theorem Ord.inj (O : Ord s) {y:Cp} (hz : z ∈ s.L) (hy : y ∈ s.L) (e : z.num = y.num) : z = y := by
  have ⟨i, hi⟩ := List.getElem?_of_mem hz
  have ⟨j, hj⟩ := List.getElem?_of_mem hy
  by_cases hij : i = j
  · grind
  · exfalso
    have h1 : (s.L.map Cp.num)[i]? = some z.num := by grind
    have h2 : (s.L.map Cp.num)[j]? = some y.num := by grind
    have  := (List.getElem?_inj (by grind) O.nd).1 (h1.trans ((congrArg some e).trans h2.symm))
    exact hij this
theorem delL_mem {k : Int} : z ∈ delL L k ↔ z ∈ L ∧ (z.num : Int) ≠ k := by unfold delL; simp [List.mem_filter]
theorem del_len : ∀ {L : List Cp}, (L.map Cp.num).Nodup → ∀ {z : Cp}, z ∈ L → (delL L (z.num : Int)).length + 1 = L.length
  | [], _, z, hz => by cases hz
  | y :: l, nd, z, hz => by
    rw [List.map_cons, List.nodup_cons] at nd
    unfold delL
    rw [List.filter_cons]
    rcases List.mem_cons.1 hz with rfl | hz
    · rw [if_neg (by simp), List.filter_eq_self.2 (fun x hx => ?_), List.length_cons]
      have : x.num ≠ z.num := fun e => nd.1 (by grind)
      simp; omega
    · rw [if_pos (by grind), List.length_cons, List.length_cons]
      have := del_len nd.2 hz
      unfold delL at this
      omega
theorem sorted_split : ∀ {L : List E}, Sorted L → Alarm.due L now = L.filter (isDue now) ∧ Alarm.rest L now = L.filter (fun e => !isDue now e)
  | [], _ => ⟨rfl, rfl⟩
  | e :: r, hs => by
    have hs' := List.pairwise_cons.1 hs
    have ⟨i1, i2⟩ := sorted_split hs'.2
    unfold Alarm.due at i1 ⊢
    unfold Alarm.rest at i2 ⊢
    by_cases he : isDue now e = true
    · simp_all
    · have he' : isDue now e = false := by grind
      have all : ∀ x ∈ r, isDue now x = false := by
        intro x hx
        have h1 := hs'.1 x hx
        have h2 := of_decide_eq_false he'
        apply decide_eq_false
        rcases h1 with h1 | h1 <;> omega
      rw [List.takeWhile_cons, List.dropWhile_cons, List.filter_cons, List.filter_cons, he']
      simp only [Bool.false_eq_true, if_false, Bool.not_false, if_true]
      refine ⟨?_, ?_⟩
      · simp_all
      · congr 1; symm; rw [List.filter_eq_self]; intro x hx; rw [all x hx]; rfl
def outC (L : List Cp) (ks : List Int) : List Cp := L.filter (fun z => !decide ((z.num : Int) ∈ ks))
def outE (L : List E) (ks : List Int) : List E := L.filter (fun e => !decide (e.1 ∈ ks))
theorem outC_nil (L : List Cp) : outC L [] = L := by exact List.filter_eq_self.2 (fun _ _ => by simp)
theorem outE_nil (L : List E) : outE L [] = L := by exact List.filter_eq_self.2 (fun _ _ => by simp)
theorem outC_cons (L : List Cp) (k : Int) (ks : List Int) : outC (delL L k) ks = outC L (k :: ks) := by
  unfold outC delL
  rw [List.filter_filter]
  apply List.filter_congr
  intro x _
  by_cases h1 : (x.num) = k
  · simp [h1]
  · grind
theorem outE_cons (L : List E) (k : Int) (ks : List Int) : outE (dropK L k) ks = outE L (k :: ks) := by
  unfold outE dropK
  rw [List.filter_filter]
  apply List.filter_congr
  intro x _
  by_cases h1 : x.1 = k
  · simp [h1]
  · grind
theorem fold_gone : ∀ (ks : List Int) (s : CF), ks.foldl remGone s = { s with L := outC s.L ks, E1 := outE s.E1 ks, E2 := outE s.E2 ks, gone := s.gone + ks.length }
  | [], s => by rw [outC_nil, outE_nil, outE_nil]; rfl
  | k :: ks, s => by
    rw [List.foldl_cons, fold_gone ks]
    unfold remGone remF
    dsimp only
    rw [outC_cons, outE_cons, outE_cons, List.length_cons]
    congr 1; omega
theorem out_len : ∀ (ks : List Int) (L : List Cp), (L.map Cp.num).Nodup → ks.Nodup → (∀ k ∈ ks, ∃ z ∈ L, (z.num : Int) = k) → (outC L ks).length + ks.length = L.length
  | [], L, _, _, _ => by rw [outC_nil]; rfl
  | k :: ks, L, nd, nk, hk => by
    obtain ⟨z, hz, rfl⟩ := hk k (by simp)
    rw [← outC_cons, List.length_cons]
    have h1 := del_len nd hz
    have nk' := List.nodup_cons.1 nk
    have h2 := out_len ks (delL L (z.num)) (List.Pairwise.sublist (List.Sublist.map _ List.filter_sublist) nd) nk'.2 (fun j hj => by
      have ⟨y, hy, e⟩ := hk j (List.mem_cons_of_mem _ hj)
      exact ⟨y, delL_mem.2 ⟨hy, fun e2 => nk'.1 (by grind)⟩, e⟩)
    omega
theorem outC_mem : z ∈ outC L ks ↔ z ∈ L ∧ (z.num : Int) ∉ ks := by unfold outC; simp [List.mem_filter]
theorem outE_mem {L : List E} {e : E} : e ∈ outE L ks ↔ e ∈ L ∧ e.1 ∉ ks := by unfold outE; simp [List.mem_filter]
theorem of_nodup (O : Ord s) (x : Ev) : ((ofL s.L x).map (fun z => (z.num : Int))).Nodup := by
  have : ((ofL s.L x).map Cp.num).Nodup := List.Pairwise.sublist (List.Sublist.map _ List.filter_sublist) O.nd
  have e : (ofL s.L x).map (fun z => (z.num : Int)) = ((ofL s.L x).map Cp.num).map (fun n : Nat => (n : Int)) := by simp
  rw [e]
  exact List.Pairwise.map _ (fun a b h => by omega) this
theorem okC.outs (ok : okC s) (O : Ord s) (nk : ks.Nodup) (hk : ∀ k ∈ ks, ∃ z ∈ s.L, (z.num : Int) = k) (hL : s'.L = outC s.L ks) (h1 : s'.E1 = outE s.E1 ks) (h2 : s'.E2 = outE s.E2 ks) (hn : s'.next = s.next) (hc : s'.acked + s'.over + s'.gone = s.acked + s.over + s.gone + ks.length) : okC s' := by
  refine ⟨fun y hy => ?_, fun y hy => ?_, fun e => ?_, fun e => ?_, ?_⟩
  · rw [hL, outC_mem] at hy; rw [hn]; exact ok.bd y hy.1
  · rw [hL, outC_mem] at hy; exact ok.sp y hy.1
  · rw [h1, outE_mem, ok.e1, hL]
    constructor
    · rintro ⟨⟨y, hy, rfl⟩, hne⟩; exact ⟨y, outC_mem.2 ⟨hy, hne⟩, rfl⟩
    · rintro ⟨y, hy, rfl⟩; have := outC_mem.1 hy; exact ⟨⟨y, this.1, rfl⟩, this.2⟩
  · rw [h2, outE_mem, ok.e2, hL]
    constructor
    · rintro ⟨⟨y, hy, hs, rfl⟩, hne⟩; exact ⟨y, outC_mem.2 ⟨hy, hne⟩, hs, rfl⟩
    · rintro ⟨y, hy, hs, rfl⟩; have := outC_mem.1 hy; exact ⟨⟨y, this.1, hs, rfl⟩, this.2⟩
  · have := out_len ks s.L O.nd nk hk
    have := ok.cnt
    rw [hn, hL]; omega
theorem okC.drop (ok : okC s) (O : Ord s) (x : Ev) : okC (dropF s x) := by
  unfold dropF
  rw [fold_gone]
  refine ok.outs O (of_nodup O x) (fun k hk => ?_) rfl rfl rfl rfl (by grind)
  have ⟨z, hz, e⟩ := List.mem_map.1 hk
  exact ⟨z, (List.mem_filter.1 hz).1, e⟩

end Cps
end
section
open Go.Fields Go.Heapq
namespace Cps
open Eid Alarm Fld
variable {t:Nat} {n:Nat}
structure okZ (z : Cp) : Prop where
  r : rightE z.e = true
  v : 0 ≤ z.e.svc
  d : z.d.length ≤ 600
  n : z.num ≤ 1000000
  t : z.till ≤ 1099511627776
  s0 : 0 ≤ z.ses
  s1 : z.ses ≤ 1099511627776
  l : z.dl ≤ 1099511627776

end Cps
end
section
open Go.Fields Go.Heapq
namespace Cps
open Eid Alarm Fld
variable {s:CF} {k:Nat}
theorem nd_le {α : Type} [DecidableEq α] : ∀ {l1 l2 : List α}, l1.Nodup → (∀ a ∈ l1, a ∈ l2) → l1.length ≤ l2.length
  | [], _, _, _ => Nat.zero_le _
  | a :: l, l2, h, hs => by
    have ⟨h1, h2⟩ := List.nodup_cons.1 h
    have := nd_le (l2 := l2.erase a) h2 (fun b hb => (List.mem_erase_of_ne (fun e => h1 (by grind))).2 (hs b (List.mem_cons_of_mem _ hb)))
    have h3 := List.length_erase_of_mem (hs a (by simp))
    have h4  := List.length_pos_of_mem (hs a (by simp))
    rw [List.length_cons]; omega
theorem nd_len {α : Type} [DecidableEq α] {l1 l2 : List α} (h1 : l1.Nodup) (h2 : l2.Nodup) (hs : ∀ a, a ∈ l1 ↔ a ∈ l2) : l1.length = l2.length :=
  Nat.le_antisymm (nd_le h1 (fun a ha => (hs a).1 ha)) (nd_le h2 (fun a ha => (hs a).2 ha))
theorem leased_len (ok : okC s) (O : Ord s) : s.E2.length = (s.L.filter (fun z => decide (z.ses ≠ 0))).length := by
  have e : ((s.L.filter (fun z => decide (z.ses ≠ 0))).map (fun z => (((z.num : Int), (z.dl : Int))))).length = (s.L.filter (fun z => decide (z.ses ≠ 0))).length := List.length_map ..
  rw [← e]
  refine nd_len ?_ ?_ fun a => ?_
  · have := O.n2
    exact (List.pairwise_map.1 this).imp (fun h e => h (congrArg _ e))
  · have h1 : ((s.L.filter (fun z => decide (z.ses ≠ 0))).map Cp.num).Nodup := List.Pairwise.sublist (List.Sublist.map _ List.filter_sublist) O.nd
    exact List.pairwise_map.2 ((List.pairwise_map.1 h1).imp (fun h e => h (Int.ofNat.inj (congrArg Prod.fst e))))
  · rw [ok.e2, List.mem_map]
    constructor
    · grind
    · grind
structure Good (s : CF) (k : Nat) : Prop where
  ok : okC s
  all : ∀ z ∈ s.L, okZ z
  may : ∀ z ∈ s.L, mayC z.e z.d.length (z.till : Int) = true
  fr : ∀ z ∈ s.L, z.ses = 0 → z.dl = 0
  full : ∀ e, (ofL s.L e).length ≤ 16
  len : s.next ≤ k + 1
theorem Good.nil : Good ⟨[], 1, 0, 0, 0, [], []⟩ 0 := ⟨⟨(fun z hz => by cases hz), (fun z hz => by cases hz), (fun e => by simp), (fun e => by simp), rfl⟩, (fun z hz => by cases hz), (fun z hz => by cases hz), (fun z hz => by cases hz), fun _ => Nat.zero_le _, Nat.le_refl _⟩
theorem Good.L (G : Good s k) : s.L.length ≤ k ∧ s.acked ≤ k ∧ s.over ≤ k ∧ s.gone ≤ k := by
  have := G.ok.cnt
  have := G.len
  omega
theorem Good.small (G : Good s k) (O : Ord s) (hk : k ≤ 40000) : Small s := by
  have h1 := G.L
  have h2 := G.len
  have nd : ∀ {l : List E}, (keys l).Nodup → l.Nodup := fun {l} hn => (List.pairwise_map.1 hn).imp (fun h e => h (congrArg _ e))
  have e1  := by
    have := nd_le (nd O.n1) (fun e he => by
      obtain ⟨z, hz, rfl⟩ := (G.ok.e1 e).1 he
      exact List.mem_map.2 ⟨z, hz, rfl⟩)
    rwa [List.length_map] at this
  have e2 : s.E2.length ≤ s.L.length := by
    rw [leased_len G.ok O]; exact List.length_filter_le _ _
  exact ⟨by omega, by omega, by omega, by omega⟩
theorem Good.held (G : Good s k) : Held s := fun j hj => by
  obtain ⟨e, he, rfl⟩ := List.mem_map.1 hj
  obtain ⟨z, hz, _, rfl⟩ := (G.ok.e2 e).1 he
  exact ⟨z, hz, rfl⟩
theorem Good.more (G : Good s k) : Good s (k + 1) := ⟨G.ok, G.all, G.may, G.fr, G.full, by have := G.len; omega⟩
instance (ses : Int) (dl : Nat) : Decidable (mayS ses dl) := by unfold mayS; infer_instance

end Cps
end
section
open Go.Fields
namespace Regs
open Eid Fld
variable {r:Rg}
structure okR (r : Rg) : Prop where
  rt : rightR r = true
  sv : 0 ≤ r.e.svc
theorem okR.e (k : okR r) : rightE r.e = true ∧ 0 ≤ r.pol ∧ r.pol ≤ 2 ∧ 1 ≤ r.own ∧ r.own ≤ 1099511627776 := by
  have := k.rt
  unfold rightR at this
  simp only [Bool.and_eq_true, Bool.not_eq_true', decide_eq_true_eq, decide_eq_false_iff_not] at this
  exact ⟨this.1, this.2.2.1.1, this.2.2.1.2, this.2.2.2.1, this.2.2.2.2⟩

end Regs
end
section
open Go.Fields
namespace Regs
open Eid Fld
variable {L:List Rg}
structure okL (L : List Rg) : Prop where
  len : L.length ≤ 8
  all : ∀ r ∈ L, okR r

end Regs
end
section
namespace Stt
open Obx (It)
open Eid (Ev rightE)
variable {σ:SS} {k:Nat}
structure Good (σ : SS) (k : Nat) : Prop where
  a : Ses.okA σ.A
  g : Regs.okL σ.G
  c : Cps.Good σ.C k
  b : σ.B.next ≤ k + 1
  v : σ.B.over ≤ k
  q : σ.Q = σ.B.items
  ok : okQ σ.Q
  n : σ.now ≤ 1099511627776
  e : rightE σ.e = true ∧ σ.e ≠ Ev.zero ∧ 0 ≤ σ.e.svc
  t : σ.tm ≤ 1099511627776 ∧ σ.sq ≤ 1099511627776
  r : σ.rf ≤ k
def newS (e : Ev) : SS := ⟨[], [], ⟨[], 1, 0, 0, 0, [], []⟩, ⟨[], 1, 0, 0, 0⟩, [], e, 0, 0, 0, 0⟩
theorem Good.new {e : Ev} (h1 : rightE e = true) (h2 : e ≠ Ev.zero) (h3 : 0 ≤ e.svc) : Good (newS e) 0 :=
  ⟨Ses.okA.nil, ⟨Nat.zero_le _, fun _ h => (by cases h)⟩, Cps.Good.nil, Nat.le_refl _, Nat.le_refl _, rfl, okQ.nil, Nat.zero_le _, ⟨h1, h2, h3⟩, ⟨Nat.zero_le _, Nat.zero_le _⟩, Nat.le_refl _⟩
def passB (s : Obx.BS) (now : Nat) : Obx.BS := { s with items := s.items.filter (fun x => decide ((now : Int) < (x.till : Int))), over := s.over + (s.items.filter (fun x => decide ((x.till : Int) ≤ (now : Int)))).length }
def passE (σ : SS) (now : Nat) : Int := if now > 1099511627776 then 1 else if now < σ.now then 18 else 0
def passS (σ : SS) (now : Nat) : SS := { σ with C := Cps.passF σ.C (now : Int), B := passB σ.B now, Q := (passB σ.B now).items, now := now }
def passA (σ : SS) (now : Nat) : SS := if passE σ now = 0 then passS σ now else σ
theorem Good.more (G : Good σ k) : Good σ (k + 1) := ⟨G.a, G.g, G.c.more, by have := G.b; omega, by have := G.v; omega, G.q, G.ok, G.n, G.e, G.t, by have := G.r; omega⟩
def takeA (σ : SS) : SS := match σ.B.items with | [] => σ | _ :: r => { σ with B := { σ.B with items := r, taken := σ.B.taken + 1 }, Q := r }
theorem Good.take (G : Good σ k) : Good (takeA σ) (k + 1) := by
  unfold takeA
  split
  · exact G.more
  · rename_i x r h
    refine ⟨G.a, G.g, G.c.more, by show σ.B.next ≤ _; have := G.b; omega, by show σ.B.over ≤ _; have := G.v; omega, rfl, ?_, G.n, G.e, G.t, by show σ.rf ≤ _; have := G.r; omega⟩
    have ok := G.ok
    rw [G.q, h] at ok
    exact ok.sub
theorem Good.openA (G : Good σ k) (token : Nat) : Good { σ with A := Ses.openA σ.A token } (k + 1) :=
  ⟨G.a.open token, G.g, G.c.more, by show σ.B.next ≤ _; have := G.b; omega, by show σ.B.over ≤ _; have := G.v; omega, G.q, G.ok, G.n, G.e, G.t, by show σ.rf ≤ _; have := G.r; omega⟩

end Stt
end
section
variable {h:Heap} {R:TyP}
variable {s:Nat}
theorem state_New.walk {self_0 : Bool} {self_1 : Int} {self_2 : Int} {self_3 : ByteArray} {self_4 : ByteArray} (hv :
 NewP h (.cells #[.bool self_0, .int .u64 self_1, .int .u64 self_2, .string self_3, .string self_4] 31) fun b h_1 =>
 eid_Eid.LD h_1 ⟨b, 0, none⟩ fun t8_0 t8_1 t8_2 t8_3 t8_4 =>
 Cl 58 #[.agg #[.bool t8_0, .int .u64 t8_1, .int .u64 t8_2, .string t8_3, .string t8_4]] h_1 fun v h_2 =>
 ∃ t9_0 t9_1, v = .tuple #[.pointer t9_0, .int .i64 t9_1] ∧
 ite (t9_1 != 0)
 (  R (.tuple #[.pointer none, .int .i64 t9_1]) h_2)
 (  Cl 59 #[.int .i64 4800, .int .i64 1600] h_2 fun v_1 h_3 =>
 ∃ t16_0 t16_1, v_1 = .tuple #[.pointer t16_0, .int .i64 t16_1] ∧
 ite (t16_1 != 0)
 (  R (.tuple #[.pointer none, .int .i64 t16_1]) h_3)
 (  Cl 60 #[] h_3 fun v_2 h_4 =>
 ∃ t22, v_2 = .pointer t22 ∧
 Cl 61 #[] h_4 fun v_3 h_5 =>
 ∃ t23, v_3 = .pointer t23 ∧
 Cl 62 #[] h_5 fun v_4 h_6 =>
 ∃ t24, v_4 = .pointer t24 ∧
 Cl 63 #[] h_6 fun v_5 h_7 =>
 ∃ t25, v_5 = .pointer t25 ∧
 NewP h_7 (.cells #[.pointer t22, .pointer t23, .pointer t24, .pointer t25, .pointer t16_0, .pointer t9_0, .int .u64 0, .int .i64 0] 102) fun b_1 h_8 =>
 R (.tuple #[.pointer (some ⟨b_1, 0, none⟩), .int .i64 0]) h_8))) : Cl 27 #[.agg #[.bool self_0, .int .u64 self_1, .int .u64 self_2, .string self_3, .string self_4]] h R :=
 callsN [] hv
theorem state_State_made.walk (hv :
 ∃ t9, hcell h ⟨s, 0, none⟩ = some (.pointer t9) ∧
 ite (!t9.isNone)
 (  ∃ t16, hcell h ⟨s, 1, none⟩ = some (.pointer t16) ∧
 ite (!t16.isNone)
 (  ∃ t23, hcell h ⟨s, 2, none⟩ = some (.pointer t23) ∧
 ite (!t23.isNone)
 (  ∃ t30, hcell h ⟨s, 3, none⟩ = some (.pointer t30) ∧
 ite (!t30.isNone)
 (  ∃ t37, hcell h ⟨s, 4, none⟩ = some (.pointer t37) ∧
 ite (!t37.isNone)
 (  ∃ t44, hcell h ⟨s, 5, none⟩ = some (.pointer t44) ∧
 R (.bool (!t44.isNone)) h)
 (  R (.bool false) h))
 (  R (.bool false) h))
 (  R (.bool false) h))
 (  R (.bool false) h))
 (  R (.bool false) h)) : Cl 156 #[.pointer (some ⟨s, 0, none⟩)] h R :=
 callsN [] hv
theorem state_State_Pass.walk {now : Int} (hv :
 Cl 156 #[.pointer (some ⟨s, 0, none⟩)] h fun v h_1 =>
 ∃ t9, v = .bool t9 ∧
 ite (!t9)
 (  R (.int .i64 6) h_1)
 (  ite (decide (now > 1099511627776))
 (  R (.int .i64 1) h_1)
 (  ∃ t19, hcell h_1 ⟨s, 6, none⟩ = some (.int .u64 t19) ∧
 ite (decide (now < t19))
 (  R (.int .i64 18) h_1)
 (  StoreP h_1 ⟨s, 6, none⟩ (.int .u64 now) fun h_2 =>
 ∃ t28, hcell h_2 ⟨s, 2, none⟩ = some (.pointer t28) ∧
 Cl 164 #[.pointer t28, .int .u64 now] h_2 fun v_1 h_3 =>
 ∃ t30_p t30_l t30_c, v_1 = .slice t30_p t30_l t30_c ∧
 ∃ t34, hcell h_3 ⟨s, 3, none⟩ = some (.pointer t34) ∧
 Cl 165 #[.pointer t34, .int .u64 now] h_3 fun v_2 h_4 =>
 ∃ t36_p t36_l t36_c, v_2 = .slice t36_p t36_l t36_c ∧
 ∃ (I : Int → Heap → Prop) (mu : Int → Heap → Nat), I 0 h_4 ∧ ∀ t38 h_5, I t38 h_5 →
 ite (decide (t38 < ((t36_l : Nat) : Int)))
 (  ((0 : Int) ≤ t38 ∧ t38 < ((t36_l : Nat) : Int)) ∧
 onSome t36_p fun a =>
 outbox_Item.LD h_5 (a.add (Int.toNat t38 * 4)) fun t41_0 t41_1 t41_2_p t41_2_l t41_2_c t41_3 =>
 NewP h_5 (.cells #[.int .i64 0, .int .i64 0, .slice none 0 0, .int .u64 0] 281) fun b h_6 =>
 outbox_Item.ST h_6 ⟨b, 0, none⟩ t41_0 t41_1 t41_2_p t41_2_l t41_2_c t41_3 fun h_7 =>
 ∃ t45, hcell h_7 ⟨s, 4, none⟩ = some (.pointer t45) ∧
 ∃ t47, hcell h_7 ⟨b, 1, none⟩ = some (.int .i64 t47) ∧
 ∃ t49_p t49_l t49_c, hcell h_7 ⟨b, 2, none⟩ = some (.slice t49_p t49_l t49_c) ∧
 Cl 166 #[.pointer t45, .int .i64 t47, .int .i64 ((t49_l : Nat) : Int)] h_7 fun v_3 h_8 =>
 ∃ t51, v_3 = .int .i64 t51 ∧
 hcell h_8 ⟨b, 2, none⟩ = some (.slice t49_p t49_l t49_c) ∧
 (I (IntKind.wrap .i64 (t38 + 1)) h_8 ∧ mu (IntKind.wrap .i64 (t38 + 1)) h_8 < mu t38 h_5))
 (  R (.int .i64 0) h_5))))) : Cl 131 #[.pointer (some ⟨s, 0, none⟩), .int .u64 now] h R :=
 callsN [(31, .loop [(38, sI)]), (42, fun _ => .plan (opL [0,1,2,3,4,5,6,7,8,9] .done))] hv
theorem ident_New.walk {source_0 : Bool} {source_1 : Int} {source_2 : Int} {source_3 : ByteArray} {source_4 : ByteArray} (hv :
 NewP h (.cells #[.bool source_0, .int .u64 source_1, .int .u64 source_2, .string source_3, .string source_4] 31) fun b h_1 =>
 JoinP (fun (t11 : Bool) h_2 =>
 ite t11
 (  R (.tuple #[.pointer none, .int .i64 3]) h_2)
 (  eid_Eid.LD h_2 ⟨b, 0, none⟩ fun t12_0 t12_1 t12_2 t12_3 t12_4 =>
 NewP h_2 (.cells #[.bool t12_0, .int .u64 t12_1, .int .u64 t12_2, .string t12_3, .string t12_4, .int .u64 0, .int .u64 0, .bool true] 187) fun b_1 h_3 =>
 R (.tuple #[.pointer (some ⟨b_1, 0, none⟩), .int .i64 0]) h_3))
 (fun J =>
 eid_Eid.LD h_1 ⟨b, 0, none⟩ fun t4_0 t4_1 t4_2 t4_3 t4_4 =>
 Cl 95 #[.agg #[.bool t4_0, .int .u64 t4_1, .int .u64 t4_2, .string t4_3, .string t4_4]] h_1 fun v h_4 =>
 ∃ t5, v = .bool t5 ∧
 ite (!t5)
 (  J true h_4)
 (  eid_Eid.LD h_4 ⟨b, 0, none⟩ fun t8_0 t8_1 t8_2 t8_3 t8_4 =>
 ∃ (eq : Bool), Eqz 31 (.agg #[.bool t8_0, .int .u64 t8_1, .int .u64 t8_2, .string t8_3, .string t8_4]) (.agg #[.bool false, .int .u64 0, .int .u64 0, .string (⟨#[]⟩ : ByteArray), .string (⟨#[]⟩ : ByteArray)]) eq ∧
 J eq h_4))) : Cl 58 #[.agg #[.bool source_0, .int .u64 source_1, .int .u64 source_2, .string source_3, .string source_4]] h R :=
 callsN [(4, .join [(11, sB)])] hv

end
section
namespace Stt
open Obx (It)
open Eid (Ev rightE ev5)
variable {h h':Heap} {R:TyP} {s k:Nat} {X:Ft} {I:Ids} {σ:SS}
variable {n r:Nat} {x:It} {l:List It} {L:List Go.Heapq.E} {B:Obx.BS}
theorem made_ok (B : Bk h s I n r) (hk : R (.bool true) h) : Cl 156 #[pt s] h R := by
  refine state_State_made.walk ?_
  repeat (first | exact hk | refine ⟨_, cell_at B rfl, ?_⟩ | rfl)
theorem Pt.put (H : Pt h s X I σ) (b : Bk h' s I n r) (hs : h'.size = h.size) (ho : ∀ x, x ≠ s → h'[x]? = h[x]?) : ∃ X', Pt h' s X' I { σ with now := n, rf := r } ∧ StepF X h X' h' := by
  obtain ⟨Z, ⟨hb, on⟩, zm, zd, go⟩ := H.use 6
  obtain ⟨X', H', st, _, _⟩ := go h' Z { σ with now := n, rf := r } ⟨b, on⟩ (StepF.of_fr (Fr.of_eq hs fun c hc => ho c (fun e => hc ((on c).1.2 e)))) (fun i hi => part_n _ _ hi)
  exact ⟨X', H', st⟩
theorem Pt.give {n o : Int} (H : Pt h s X I σ) (e : σ.Q.Perm (x :: l)) (ok : okQ σ.Q) (kx : okI x) (hn : n = (x.d.length : Int)) (ho : o = x.owner)
    (hk : ∀ h' X', Pt h' s X' I { σ with Q := l } → StepF X h X' h' → R (.int .i64 0) h') : Cl 166 #[pt I.p, .int .i64 o, .int .i64 n] h R := by
  subst ho
  obtain ⟨Z, ⟨m, P, on⟩, zm, zd, go⟩ := H.use 4
  refine give1 (P.perm e) (okQ.perm ok e) kx hn fun h' P' f' => ?_
  obtain ⟨X', H', st, _, _⟩ := go h' Z { σ with Q := l } ⟨m, P', on⟩ (StepF.of_fr (f'.mono fun y _ hy => (on y).1.2 hy)) (fun i hi => part_Q _ hi)
  exact hk h' X' H' st
theorem Pt.perm (H : Pt h s X I σ) (e : σ.Q.Perm l) : Pt h s X I { σ with Q := l } := by
  have ⟨Y, hp, r⟩ := H
  refine ⟨Y, fun i => ?_, r⟩
  by_cases hi : i = 4
  · subst hi
    have ⟨m, P, on⟩ := hp 4
    exact ⟨m, P.perm e, on⟩
  · rw [part_Q _ hi]; exact hp i
theorem okQ_drop {r:List It} (ok : okQ (l ++ r)) : ∀ j, okQ (l.drop j ++ r)
  | 0 => ok
  | j + 1 => by
    have h := okQ_drop ok j
    rcases Nat.lt_or_ge j l.length with q | q
    · rw [List.drop_eq_getElem_cons q] at h; exact okQ.sub h
    · rw [List.drop_eq_nil_of_le q] at h; rw [List.drop_eq_nil_of_le (by omega)]; exact h
theorem Pt.okB (H : Pt h s X I σ) : ∃ L, Obx.okB σ.B L := by
  have ⟨Z, L, B, ok⟩ := H.box
  exact ⟨L, ok⟩
theorem Pt.ord (H : Pt h s X I σ) : Cps.Ord σ.C := by
  have ⟨Y, hp, _⟩ := H
  exact Cps.Ct.ord (hp 2)
theorem okI_of (ok : Obx.okB B L) (hx : x ∈ B.items) : okI x := by
  have := ok.it x hx
  exact ⟨this.2.2.1, this.2.2.2.1, this.2.2.2.2.1, this.2.2.2.2.2.1⟩
theorem Good.small (G : Good σ k) (O : Cps.Ord σ.C) (hk : k ≤ 40000) : Cps.Small σ.C := G.c.small O hk
theorem due_items (ok : Obx.okB B L) {P : It → Bool} {ys : List It} (hm : ∀ y ∈ ys, y ∈ B.items) (hp : (ys.map It.kv).Perm ((B.items.filter P).map It.kv)) : ys.Perm (B.items.filter P) := by
  have nd : ∀ {l : List It}, l.Sublist B.items → (l.map It.num).Nodup := fun hs => ((ok.inc.sublist (hs.map It.num))).imp fun h => Nat.ne_of_lt h
  have n1 : ((ys.map It.kv).map (fun e => e.1)).Nodup := by
    refine (hp.map _).nodup_iff.2 ?_
    rw [List.map_map]
    have := nd (List.filter_sublist (l := B.items) (p := P))
    unfold List.Nodup at this ⊢
    rw [List.pairwise_map] at this ⊢
    exact this.imp fun h e => h (by have e : ((_ : Nat) : Int) = ((_ : Nat) : Int) := e; exact Int.ofNat.inj e)
  have n2 : ys.Nodup := by
    rw [List.map_map] at n1
    unfold List.Nodup at n1 ⊢
    rw [List.pairwise_map] at n1
    exact n1.imp fun h e => h (by rw [e])
  have n3 : (B.items.filter P).Nodup := by
    have := nd (List.filter_sublist (l := B.items) (p := P))
    unfold List.Nodup at this ⊢
    rw [List.pairwise_map] at this
    exact this.imp fun h e => h (by rw [e])
  rw [List.perm_ext_iff_of_nodup n2 n3]
  have inj : ∀ x ∈ B.items, ∀ y ∈ B.items, x.kv = y.kv → x = y := fun x hx y hy e => Obx.uniq ok.inc hx hy (by have e : ((x.num : Nat) : Int) = ((y.num : Nat) : Int) := congrArg Prod.fst e; exact Int.ofNat.inj e)
  intro x
  constructor
  · intro hx
    obtain ⟨y, hy, e⟩ := List.mem_map.1 (hp.mem_iff.1 (List.mem_map.2 ⟨x, hx, rfl⟩))
    rw [inj x (hm x hx) y (List.mem_filter.1 hy).1 e.symm]; exact hy
  · intro hx
    obtain ⟨y, hy, e⟩ := List.mem_map.1 (hp.mem_iff.2 (List.mem_map.2 ⟨x, hx, rfl⟩))
    rw [inj x (List.mem_filter.1 hx).1 y (hm y hy) e.symm]; exact hy
theorem split_perm (l : List It) (now : Nat) : l.Perm (l.filter (fun x => decide ((x.till : Int) ≤ (now : Int))) ++ l.filter (fun x => decide ((now : Int) < (x.till : Int)))) := by
  have h := (List.filter_append_perm (fun x  => decide ((x.till) ≤ (now : Int))) l).symm
  have e : (fun x  => !decide ((x.till) ≤ (now : Int))) = fun x : It => decide ((now) < (x.till : Int)) := funext fun x => by
    grind
  rw [e] at h
  exact h
theorem pass_ok {n : Int} (now : Nat) (hn : n = (now : Int)) (H : Pt h s X I σ) (G : Good σ k) (hk8 : k ≤ 30000)
    (hk : ∀ h' X', Pt h' s X' I (passA σ now) → StepF X h X' h' → R (.int .i64 (passE σ now)) h') : Cl 131 #[pt s, .int .u64 n] h R := by
  subst hn
  have B := H.blk
  refine state_State_Pass.walk (made_ok B ⟨_, rfl, ?_⟩)
  rw [if_neg (by decide)]
  unfold passA at hk
  by_cases h1 : now > 1099511627776
  · have e : passE σ now = 1 := if_pos h1
    rw [e, if_neg (by decide)] at hk
    rw [if_pos (decide_eq_true (by omega))]
    exact hk h X H (StepF.refl _ _)
  rw [if_neg (fun e => h1 (by have := of_decide_eq_true e; omega))]
  refine ⟨_, cell_at B rfl, ?_⟩
  by_cases h2 : now < σ.now
  · have e : passE σ now = 18 := by unfold passE; rw [if_neg h1, if_pos h2]
    rw [e, if_neg (by decide)] at hk
    rw [if_pos (decide_eq_true (by omega))]
    exact hk h X H (StepF.refl _ _)
  rw [if_neg (fun e => h2 (by have := of_decide_eq_true e; omega))]
  have e : passE σ now = 0 := by unfold passE; rw [if_neg h1, if_neg h2]
  rw [e, if_pos rfl] at hk
  refine storeP_blk B (by simp) fun h2 a1 a2 a3 => ?_
  obtain ⟨X2, H2, st2⟩ := H.put (n := now) (r := σ.rf) a1 a2 a3
  have O := H.ord
  have sm := G.small O (by omega)
  obtain ⟨Z, hz, zm, zd, go⟩ := H2.use 2
  refine ⟨_, cell_at H2.blk rfl, Cps.pass_ok hz sm (by have := G.c.L; show σ.C.over ≤ _; omega) (Cps.Good.held G.c) (now : Int) fun h3 Z3 p3 c3 C3 s3 N3 g3 => ⟨_, _, _, rfl, ?_⟩⟩
  obtain ⟨X3, H3, st3, _, _⟩ := go h3 Z3 { σ with now := now, C := Cps.passF σ.C (now : Int) } C3 s3 (fun i hi => part_C (σ := { σ with now := now }) _ hi)
  obtain ⟨Z, hz, zm, zd, go⟩ := H3.use 3
  obtain ⟨L, okB⟩ := H.okB
  refine ⟨_, cell_at H3.blk rfl, Obx.pass_ok now rfl hz (by have := G.b; show σ.B.next ≤ _; omega) fun h4 Z4 p4 c4 ys D B4 s4 o4 d4 n4 e4 so4 pm4 m4 => ⟨_, _, _, rfl, ?_⟩⟩
  have yp : (ys.map Obx.IV.abs).Perm (σ.B.items.filter (fun x => decide ((x.till : Int) ≤ (now : Int)))) := due_items okB (fun y hy => by obtain ⟨z, hz, rfl⟩ := List.mem_map.1 hy; exact m4 z hz) (by rw [e4]; exact pm4)
  have yl : ys.length = (σ.B.items.filter (fun x => decide ((x.till : Int) ≤ (now : Int)))).length := by rw [← yp.length_eq, List.length_map]
  have eB : ({ σ.B with items := σ.B.items.filter (fun x => decide ((now : Int) < (x.till : Int))), over := σ.B.over + ys.length } : Obx.BS) = passB σ.B now := by unfold passB; rw [yl]
  rw [eB] at B4
  obtain ⟨X4, H4, st4, dd4, nn4⟩ := go h4 Z4 { σ with now := now, C := Cps.passF σ.C (now : Int), B := passB σ.B now } B4 s4 (fun i hi => part_B (σ := { σ with now := now, C := Cps.passF σ.C (now : Int) }) _ hi)
  have st := st2.trans (st3.trans st4)
  have nX4 : ∀ y, inBlk p4 y → ¬ (X4.M y ∨ X4.D y) ∧ h3.size ≤ y := fun y hy => ⟨fun hm => (n4 y hy).2 (nn4 y (n4 y hy).1 hm), (n4 y hy).1⟩
  have hq : (σ.Q).Perm (ys.map Obx.IV.abs ++ (passB σ.B now).items) := by
    rw [G.q]
    exact (split_perm _ now).trans (yp.symm.append_right _)
  have okA : okQ (ys.map Obx.IV.abs ++ (passB σ.B now).items) := okQ.perm G.ok hq
  refine ⟨fun i g => ∃ (j : Nat) (Xg : Ft), i = (j : Int) ∧ j ≤ ys.length ∧ Pt g s Xg I { σ with now := now, C := Cps.passF σ.C (now : Int), B := passB σ.B now, Q := (ys.map Obx.IV.abs).drop j ++ (passB σ.B now).items } ∧ StepF X4 h4 Xg g ∧ Own g p4 ys.length c4 4 (ys.flatMap Obx.ienc), fun i _ => ys.length - i.toNat,
    ⟨0, X4, rfl, Nat.zero_le _, H4.perm hq, StepF.refl _ _, o4⟩, ?_⟩
  rintro _ g ⟨j, Xg, rfl, hj, Hg, sg, og⟩
  have l16 : ys.length ≤ 16 := by rw [yl]; exact Nat.le_trans (List.length_filter_le _ _) okB.le
  by_cases hl : j < ys.length
  · rw [if_pos (decide_eq_true (by omega))]
    have hy : ys[j]? = some ys[j] := List.getElem?_eq_getElem hl
    obtain ⟨pb, po, rfl⟩ := og.addr (by omega)
    refine ⟨⟨by omega, by omega⟩, onSome_some.2 (outbox_Item.ldA (by rw [Int.toNat_natCast]; exact og.heldAt Obx.ienc_len hy) (outbox_Item.new fun b g1 eb hb f1 => ?_))⟩
    have H1 := Hg.on f1
    have ed : (ys.map Obx.IV.abs).drop j = ys[j].abs :: (ys.map Obx.IV.abs).drop (j + 1) := by
      rw [List.drop_eq_getElem_cons (by rw [List.length_map]; exact hl), List.getElem_map]
    have okj := okQ_drop okA j
    refine ⟨_, cell_at H1.blk rfl, _, cell_at hb rfl, _, _, _, cell_at hb rfl, H1.give (x := ys[j].abs) (l := (ys.map Obx.IV.abs).drop (j + 1) ++ (passB σ.B now).items) (by simp_all) okj (okI_of okB (m4 _ (List.getElem_mem hl))) rfl rfl fun g2 X2 H2 st2 => ⟨_, rfl, ?_, ?_⟩⟩
    · have lb := lt_of_get hb
      exact st2.fr.cell (cell_at hb rfl) (fun hm => by have := Hg.lt b (.inl hm); omega)
    · rw [wrap_id (by omega) (by omega)]
      have s2 := sg.on f1 |>.trans st2
      refine ⟨⟨j + 1, X2, by omega, by omega, H2, s2, (og.frame f1 (fun _ _ => id)).frame st2.fr (fun y hy hm => ?_)⟩, by grind⟩
      rcases sg.newM y hm with a | a
      · exact (nX4 y hy).1 (.inl a)
      · have := o4.blk_lt hy; omega
  · rw [if_neg (fun e => hl (by have := of_decide_eq_true e; omega))]
    refine hk g Xg ?_ (st.trans sg)
    rw [List.drop_eq_nil_of_le (by rw [List.length_map]; omega)] at Hg
    exact Hg

end Stt
end
section
variable {h:Heap} {R:TyP}
variable {x:event_Event.S}
theorem event_Same.walk {a : event_Event.S} {b : event_Event.S} (hv :
 NewP h (.cells a.arr 35) fun b_1 h_1 =>
 NewP h_1 (.cells b.arr 35) fun b_2 h_2 =>
 ∃ t6, hcell h_2 ⟨b_1, 0, none⟩ = some (.int .u64 t6) ∧
 ∃ t8, hcell h_2 ⟨b_2, 0, none⟩ = some (.int .u64 t8) ∧
 ite (t6 == t8)
 (  ∃ t12, hcell h_2 ⟨b_1, 1, none⟩ = some (.int .i64 t12) ∧
 ∃ t14, hcell h_2 ⟨b_2, 1, none⟩ = some (.int .i64 t14) ∧
 ite (t12 == t14)
 (  ∃ t19, hcell h_2 ⟨b_1, 2, none⟩ = some (.int .u64 t19) ∧
 ∃ t21, hcell h_2 ⟨b_2, 2, none⟩ = some (.int .u64 t21) ∧
 ite (t19 == t21)
 (  ∃ t26, hcell h_2 ⟨b_1, 3, none⟩ = some (.int .i64 t26) ∧
 ∃ t28, hcell h_2 ⟨b_2, 3, none⟩ = some (.int .i64 t28) ∧
 ite (t26 == t28)
 (  request_Request.LDp h_2 ⟨b_1, 4, none⟩ fun t33 =>
 request_Request.LDp h_2 ⟨b_2, 4, none⟩ fun t35 =>
 Cl 183 #[t33.agg, t35.agg] h_2 fun v h_3 =>
 ∃ t36, v = .bool t36 ∧
 ite t36
 (  ∃ t40_p t40_l t40_c, hcell h_3 ⟨b_1, 23, none⟩ = some (.slice t40_p t40_l t40_c) ∧
 ∃ t42_p t42_l t42_c, hcell h_3 ⟨b_2, 23, none⟩ = some (.slice t42_p t42_l t42_c) ∧
 Cl 122 #[.slice t40_p t40_l t40_c, .slice t42_p t42_l t42_c] h_3 fun v_1 h_4 =>
 ∃ t43, v_1 = .bool t43 ∧
 R (.bool t43) h_4)
 (  R (.bool false) h_3))
 (  R (.bool false) h_2))
 (  R (.bool false) h_2))
 (  R (.bool false) h_2))
 (  R (.bool false) h_2)) : Cl 152 #[a.agg, b.agg] h R :=
 callsN [] hv
theorem event_own.walk (hv :
 NewP h (.cells x.arr 35) fun b h_1 =>
 NewP h_1 (.cells event_Event.S.z.arr 35) fun b_1 h_2 =>
 ∃ t5, hcell h_2 ⟨b, 0, none⟩ = some (.int .u64 t5) ∧
 ∃ t7, hcell h_2 ⟨b, 1, none⟩ = some (.int .i64 t7) ∧
 NewP h_2 (.cells event_Event.S.z.arr 35) fun b_2 h_3 =>
 event_Event.STp h_3 ⟨b_2, 0, none⟩ ⟨t5, t7, 0, 0, 0, 0, false, 0, 0, (⟨#[]⟩ : ByteArray), (⟨#[]⟩ : ByteArray), false, 0, 0, (⟨#[]⟩ : ByteArray), (⟨#[]⟩ : ByteArray), 0, 0, 0, none, 0, 0, 0, 0, false, none, 0, 0⟩ fun h_4 =>
 ∃ t10, hcell h_4 ⟨b, 1, none⟩ = some (.int .i64 t10) ∧
 JoinP (fun h_5 =>
 event_Event.LDp h_5 ⟨b_2, 0, none⟩ fun t35 =>
 event_Event.STp h_5 ⟨b_1, 0, none⟩ t35 fun h_6 =>
 event_Event.LDp h_6 ⟨b_1, 0, none⟩ fun r0 =>
 R (r0.agg) h_6)
 (fun J =>
 JoinP (fun (t11 : Bool) h_7 =>
 JoinP (fun h_8 =>
 J h_8)
 (fun J_2 =>
 ite t11
 (  ∃ t15, hcell h_7 ⟨b, 2, none⟩ = some (.int .u64 t15) ∧
 StoreP h_7 ⟨b_2, 2, none⟩ (.int .u64 t15) fun h_9 =>
 J_2 h_9)
 (  JoinP (fun h_10 =>
 J_2 h_10)
 (fun J_3 =>
 ite (t10 == 3)
 (  ∃ t20, hcell h_7 ⟨b, 3, none⟩ = some (.int .i64 t20) ∧
 StoreP h_7 ⟨b_2, 3, none⟩ (.int .i64 t20) fun h_11 =>
 J_3 h_11)
 (  JoinP (fun h_12 =>
 J_3 h_12)
 (fun J_4 =>
 ite (t10 == 4)
 (  ∃ t25, hcell h_7 ⟨b, 3, none⟩ = some (.int .i64 t25) ∧
 request_Request.LDp h_7 ⟨b, 4, none⟩ fun t27 =>
 StoreP h_7 ⟨b_2, 3, none⟩ (.int .i64 t25) fun h_13 =>
 Kp h_7 h_13 [(some ⟨b, 4, none⟩)] ∧
 request_Request.STp h_13 ⟨b_2, 4, none⟩ t27 fun h_14 =>
 J_4 h_14)
 (  JoinP (fun h_15 =>
 J_4 h_15)
 (fun J_5 =>
 ite (t10 == 5)
 (  ∃ t33_p t33_l t33_c, hcell h_7 ⟨b, 23, none⟩ = some (.slice t33_p t33_l t33_c) ∧
 StoreP h_7 ⟨b_2, 23, none⟩ (.slice t33_p t33_l t33_c) fun h_16 =>
 J_5 h_16)
 (  J_5 h_7)))))))))
 (fun J_1 =>
 ite (t10 == 1)
 (  J_1 (t10 == 1) h_4)
 (  J_1 (t10 == 2) h_4)))) : Cl 153 #[x.agg] h R :=
 callsN [(7, .join []), (11, .join [(11, sB)]), (14, .join []), (18, .join []), (22, .join []), (23, fun _ => .planK (runP 8 0 .done)), (26, .join [])] hv
theorem event_isSession.walk {n : Int} (hv :
 ite (decide (n ≥ 1))
 (  R (.bool (decide (n ≤ 1099511627776))) h)
 (  R (.bool false) h)) : Cl 185 #[.int .i64 n] h R :=
 callsN [] hv
theorem event_parts.walk (hv :
 NewP h (.cells x.arr 35) fun b h_1 =>
 ∃ t4, hcell h_1 ⟨b, 1, none⟩ = some (.int .i64 t4) ∧
 JoinP (fun (t5 : Bool) h_2 =>
 ite t5
 (  ∃ t9, hcell h_2 ⟨b, 2, none⟩ = some (.int .u64 t9) ∧
 ite (decide (t9 ≥ 1))
 (  ∃ t13, hcell h_2 ⟨b, 2, none⟩ = some (.int .u64 t13) ∧
 R (.bool (decide (t13 ≤ 2147483648))) h_2)
 (  R (.bool false) h_2))
 (  ite (t4 == 3)
 (  ∃ t19, hcell h_2 ⟨b, 3, none⟩ = some (.int .i64 t19) ∧
 Cl 185 #[.int .i64 t19] h_2 fun v h_3 =>
 ∃ t20, v = .bool t20 ∧
 R (.bool t20) h_3)
 (  ite (t4 == 4)
 (  ∃ t24, hcell h_2 ⟨b, 3, none⟩ = some (.int .i64 t24) ∧
 Cl 185 #[.int .i64 t24] h_2 fun v_1 h_4 =>
 ∃ t25, v_1 = .bool t25 ∧
 ite t25
 (  request_Request.LDp h_4 ⟨b, 4, none⟩ fun t28 =>
 Cl 149 #[t28.agg] h_4 fun v_2 h_5 =>
 ∃ t29, v_2 = .bool t29 ∧
 ite t29
 (  ∃ t34, hcell h_5 ⟨b, 5, none⟩ = some (.int .i64 t34) ∧
 ite (t34 != 11)
 (  ∃ t40, hcell h_5 ⟨b, 5, none⟩ = some (.int .i64 t40) ∧
 R (.bool (t40 != 12)) h_5)
 (  R (.bool false) h_5))
 (  R (.bool false) h_5))
 (  R (.bool false) h_4))
 (  ite (t4 == 5)
 (  ∃ t46_p t46_l t46_c, hcell h_2 ⟨b, 23, none⟩ = some (.slice t46_p t46_l t46_c) ∧
 Cl 186 #[.slice t46_p t46_l t46_c] h_2 fun v_3 h_6 =>
 ∃ t47, v_3 = .bool t47 ∧
 R (.bool t47) h_6)
 (  ∃ t49, hcell h_2 ⟨b, 1, none⟩ = some (.int .i64 t49) ∧
 ite (t49 == 6)
 (  R (.bool true) h_2)
 (  ∃ t53, hcell h_2 ⟨b, 1, none⟩ = some (.int .i64 t53) ∧
 ite (t53 == 7)
 (  R (.bool true) h_2)
 (  ∃ t58, hcell h_2 ⟨b, 1, none⟩ = some (.int .i64 t58) ∧
 R (.bool (t58 == 8)) h_2)))))))
 (fun J =>
 ite (t4 == 1)
 (  J (t4 == 1) h_1)
 (  J (t4 == 2) h_1))) : Cl 154 #[x.agg] h R :=
 callsN [(9, .join [(5, sB)])] hv
theorem event_Right.walk (hv :
 NewP h (.cells x.arr 35) fun b h_1 =>
 ∃ t4, hcell h_1 ⟨b, 0, none⟩ = some (.int .u64 t4) ∧
 ite (decide (t4 ≤ 1099511627776))
 (  event_Event.LDp h_1 ⟨b, 0, none⟩ fun t7 =>
 event_Event.LDp h_1 ⟨b, 0, none⟩ fun t8 =>
 Cl 153 #[t8.agg] h_1 fun v h_2 =>
 event_Event.EX fun t9 =>
 v = t9.agg ∧
 Kp h_1 h_2 [(some ⟨b, 0, none⟩), (some ⟨b, 0, none⟩)] ∧
 Cl 152 #[t7.agg, t9.agg] h_2 fun v_1 h_3 =>
 ∃ t10, v_1 = .bool t10 ∧
 Kp h_2 h_3 [(some ⟨b, 0, none⟩)] ∧
 ite t10
 (  event_Event.LDp h_3 ⟨b, 0, none⟩ fun t13 =>
 Cl 154 #[t13.agg] h_3 fun v_2 h_4 =>
 ∃ t14, v_2 = .bool t14 ∧
 Kp h_3 h_4 [(some ⟨b, 0, none⟩)] ∧
 R (.bool t14) h_4)
 (  R (.bool false) h_3))
 (  R (.bool false) h_1)) : Cl 123 #[x.agg] h R :=
 callsN [(3, fun _ => .planK (runP 14 0 .done))] hv

end
section
namespace Ask
open Eid (Ev rightE)
structure Rq where
  id : Nat
  kind : Int
  ep : Ev
  dest : Ev
  pol : Int
  num : Int
  ticks : Int
  pay : List UInt8
  life : Nat
  token : Nat
  on : Bool
deriving DecidableEq
def baseQ (x : Rq) : Rq := ⟨x.id, x.kind, .zero, .zero, 0, 0, 0, [], 0, 0, false⟩
def ownQ (x : Rq) : Rq :=
  if x.kind = 1 ∨ x.kind = 3 then { baseQ x with ep := x.ep, pol := x.pol }
  else if x.kind = 2 ∨ x.kind = 6 then { baseQ x with ep := x.ep }
  else if x.kind = 4 then { baseQ x with ep := x.ep, dest := x.dest, pay := x.pay, life := x.life, on := x.on }
  else if x.kind = 5 ∨ x.kind = 8 ∨ x.kind = 9 then { baseQ x with num := x.num }
  else if x.kind = 7 then { baseQ x with ep := x.ep, ticks := x.ticks }
  else if x.kind = 10 then { baseQ x with on := x.on }
  else if x.kind = 12 then { baseQ x with token := x.token }
  else baseQ x
def nameQ (e : Ev) : Bool := rightE e && !decide (e = .zero)
def partsQ (x : Rq) : Bool :=
  if x.kind = 1 ∨ x.kind = 3 then nameQ x.ep && decide (x.pol ≥ 0) && decide (x.pol ≤ 2)
  else if x.kind = 2 ∨ x.kind = 6 then nameQ x.ep
  else if x.kind = 4 then nameQ x.ep && nameQ x.dest && decide (x.pay.length ≤ 200) && decide (x.life ≥ 1) && decide (x.life ≤ 1099511627776)
  else if x.kind = 5 ∨ x.kind = 8 ∨ x.kind = 9 then decide (x.num ≥ 1) && decide (x.num ≤ 1099511627776)
  else if x.kind = 7 then nameQ x.ep && decide (x.ticks ≥ 1) && decide (x.ticks ≤ 1000)
  else if x.kind = 12 then decide (x.token ≥ 1) && decide (x.token ≤ 2147483648)
  else decide (x.kind = 10 ∨ x.kind = 11)
def rightQ (x : Rq) : Bool := decide (x.id ≥ 1) && decide (x.id ≤ 1099511627776) && partsQ x && decide (x = ownQ x)

end Ask
end
section
variable {h:Heap} {R:TyP}
variable {b_p x_5_p s_p:TyO} {b_l b_c x_5_l x_5_c s_l s_c:Nat} {x_0 x_1 x_2 x_3 x_4:Int}
theorem bytes_Equal.walk {a_p : Option Addr} {a_l a_c : Nat} (hv :
 ∃ (t6 : ByteArray), ConvV Tryz.prog 26 9 (.slice a_p a_l a_c) h t6 ∧
 ∃ (t8 : ByteArray), ConvV Tryz.prog 26 9 (.slice b_p b_l b_c) h t8 ∧
 R (.bool (t6.toList == t8.toList)) h) : Cl 122 #[.slice a_p a_l a_c, .slice b_p b_l b_c] h R :=
 callsN [] hv
theorem reply_Same.walk {a_0 : Int} {a_1 : Int} {a_2 : Int} {a_3 : Int} {a_4 : Int} {a_5_p : Option Addr} {a_5_l a_5_c : Nat} {b_0 : Int} {b_1 : Int} {b_2 : Int} {b_3 : Int} {b_4 : Int} {b_5_p : Option Addr} {b_5_l b_5_c : Nat} (hv :
 NewP h (.cells #[.int .u64 a_0, .int .i64 a_1, .int .i64 a_2, .int .i64 a_3, .int .u64 a_4, .slice a_5_p a_5_l a_5_c] 37) fun b h_1 =>
 NewP h_1 (.cells #[.int .u64 b_0, .int .i64 b_1, .int .i64 b_2, .int .i64 b_3, .int .u64 b_4, .slice b_5_p b_5_l b_5_c] 37) fun b_1 h_2 =>
 ∃ t6, hcell h_2 ⟨b, 0, none⟩ = some (.int .u64 t6) ∧
 ∃ t8, hcell h_2 ⟨b_1, 0, none⟩ = some (.int .u64 t8) ∧
 ite (t6 == t8)
 (  ∃ t12, hcell h_2 ⟨b, 1, none⟩ = some (.int .i64 t12) ∧
 ∃ t14, hcell h_2 ⟨b_1, 1, none⟩ = some (.int .i64 t14) ∧
 ite (t12 == t14)
 (  ∃ t19, hcell h_2 ⟨b, 2, none⟩ = some (.int .i64 t19) ∧
 ∃ t21, hcell h_2 ⟨b_1, 2, none⟩ = some (.int .i64 t21) ∧
 ite (t19 == t21)
 (  ∃ t26, hcell h_2 ⟨b, 3, none⟩ = some (.int .i64 t26) ∧
 ∃ t28, hcell h_2 ⟨b_1, 3, none⟩ = some (.int .i64 t28) ∧
 ite (t26 == t28)
 (  ∃ t33, hcell h_2 ⟨b, 4, none⟩ = some (.int .u64 t33) ∧
 ∃ t35, hcell h_2 ⟨b_1, 4, none⟩ = some (.int .u64 t35) ∧
 ite (t33 == t35)
 (  ∃ t40_p t40_l t40_c, hcell h_2 ⟨b, 5, none⟩ = some (.slice t40_p t40_l t40_c) ∧
 ∃ t42_p t42_l t42_c, hcell h_2 ⟨b_1, 5, none⟩ = some (.slice t42_p t42_l t42_c) ∧
 Cl 122 #[.slice t40_p t40_l t40_c, .slice t42_p t42_l t42_c] h_2 fun v h_3 =>
 ∃ t43, v = .bool t43 ∧
 R (.bool t43) h_3)
 (  R (.bool false) h_2))
 (  R (.bool false) h_2))
 (  R (.bool false) h_2))
 (  R (.bool false) h_2))
 (  R (.bool false) h_2)) : Cl 94 #[.agg #[.int .u64 a_0, .int .i64 a_1, .int .i64 a_2, .int .i64 a_3, .int .u64 a_4, .slice a_5_p a_5_l a_5_c], .agg #[.int .u64 b_0, .int .i64 b_1, .int .i64 b_2, .int .i64 b_3, .int .u64 b_4, .slice b_5_p b_5_l b_5_c]] h R :=
 callsN [] hv
theorem reply_Fail.walk {id : Int} {e : Int} (hv :
 NewP h (.cells #[.int .u64 0, .int .i64 0, .int .i64 0, .int .i64 0, .int .u64 0, .slice none 0 0] 37) fun b h_1 =>
 reply_Reply.ST h_1 ⟨b, 0, none⟩ id e 0 0 0 none 0 0 fun h_2 =>
 reply_Reply.LD h_2 ⟨b, 0, none⟩ fun r0_0 r0_1 r0_2 r0_3 r0_4 r0_5_p r0_5_l r0_5_c =>
 R (.agg #[.int .u64 r0_0, .int .i64 r0_1, .int .i64 r0_2, .int .i64 r0_3, .int .u64 r0_4, .slice r0_5_p r0_5_l r0_5_c]) h_2) : Cl 46 #[.int .u64 id, .int .i64 e] h R :=
 callsN [] hv
theorem reply_within.walk {l_p : Option Addr} {l_l l_c : Nat} (hv :
 Cl 133 #[.slice l_p l_l l_c, .func (.func 134) #[] #[]] h fun v h_1 =>
 ∃ t4, v = .bool t4 ∧
 R (.bool (!t4)) h_1) : Cl 93 #[.slice l_p l_l l_c] h R :=
 callsN [] hv
theorem reply_within_1.walk {n : Int} (hv :
 ite (decide (n < 0))
 (  R (.bool true) h)
 (  R (.bool (decide (n > 1099511627776))) h)) : Cl 134 #[.int .i64 n] h R :=
 callsN [] hv
theorem reply_Right.walk (hv :
 NewP h (.cells #[.int .u64 x_0, .int .i64 x_1, .int .i64 x_2, .int .i64 x_3, .int .u64 x_4, .slice x_5_p x_5_l x_5_c] 37) fun b h_1 =>
 JoinP (fun (t3 : Bool) h_2 =>
 ite t3
 (  R (.bool false) h_2)
 (  ∃ t39, hcell h_2 ⟨b, 1, none⟩ = some (.int .i64 t39) ∧
 ite (t39 != 0)
 (  reply_Reply.LD h_2 ⟨b, 0, none⟩ fun t41_0 t41_1 t41_2 t41_3 t41_4 t41_5_p t41_5_l t41_5_c =>
 ∃ t43, hcell h_2 ⟨b, 0, none⟩ = some (.int .u64 t43) ∧
 ∃ t45, hcell h_2 ⟨b, 1, none⟩ = some (.int .i64 t45) ∧
 Cl 46 #[.int .u64 t43, .int .i64 t45] h_2 fun v h_3 =>
 ∃ t46_0 t46_1 t46_2 t46_3 t46_4 t46_5_p t46_5_l t46_5_c, v = .agg #[.int .u64 t46_0, .int .i64 t46_1, .int .i64 t46_2, .int .i64 t46_3, .int .u64 t46_4, .slice t46_5_p t46_5_l t46_5_c] ∧
 heldL ⟨b, 0, none⟩ [.int .u64 t41_0, .int .i64 t41_1, .int .i64 t41_2, .int .i64 t41_3, .int .u64 t41_4, .slice t41_5_p t41_5_l t41_5_c] 0 h_3 ∧
 Cl 94 #[.agg #[.int .u64 t41_0, .int .i64 t41_1, .int .i64 t41_2, .int .i64 t41_3, .int .u64 t41_4, .slice t41_5_p t41_5_l t41_5_c], .agg #[.int .u64 t46_0, .int .i64 t46_1, .int .i64 t46_2, .int .i64 t46_3, .int .u64 t46_4, .slice t46_5_p t46_5_l t46_5_c]] h_3 fun v_1 h_4 =>
 ∃ t47, v_1 = .bool t47 ∧
 R (.bool t47) h_4)
 (  R (.bool true) h_2)))
 (fun J =>
 ∃ t5, hcell h_1 ⟨b, 0, none⟩ = some (.int .u64 t5) ∧
 ite (decide (t5 > 1099511627776))
 (  J true h_1)
 (  ∃ t9, hcell h_1 ⟨b, 1, none⟩ = some (.int .i64 t9) ∧
 ite (decide (t9 < 0))
 (  J true h_1)
 (  ∃ t14, hcell h_1 ⟨b, 1, none⟩ = some (.int .i64 t14) ∧
 ite (decide (t14 > 99))
 (  J true h_1)
 (  ∃ t19, hcell h_1 ⟨b, 2, none⟩ = some (.int .i64 t19) ∧
 ∃ t21, hcell h_1 ⟨b, 3, none⟩ = some (.int .i64 t21) ∧
 NewP h_1 (.cells #[.int .i64 t19, .int .i64 t21] 3) fun b_1 h_5 =>
 Cl 93 #[.slice (some ⟨b_1, 0, none⟩) 2 2] h_5 fun v_2 h_6 =>
 ∃ t23, v_2 = .bool t23 ∧
 ite (!t23)
 (  J true h_6)
 (  ∃ t28, hcell h_6 ⟨b, 4, none⟩ = some (.int .u64 t28) ∧
 ite (decide (t28 > 2147483648))
 (  J true h_6)
 (  ∃ t33_p t33_l t33_c, hcell h_6 ⟨b, 5, none⟩ = some (.slice t33_p t33_l t33_c) ∧
 J (decide (((t33_l : Nat) : Int) > 600)) h_6))))))) : Cl 51 #[.agg #[.int .u64 x_0, .int .i64 x_1, .int .i64 x_2, .int .i64 x_3, .int .u64 x_4, .slice x_5_p x_5_l x_5_c]] h R :=
 callsN [(5, .join [(3, sB)]), (14, fun _ => .plan (opL [0,1,2,3,4,5,6,7] .done))] hv
theorem reply_Write.walk (hv :
 NewP h (.cells #[.int .u64 x_0, .int .i64 x_1, .int .i64 x_2, .int .i64 x_3, .int .u64 x_4, .slice x_5_p x_5_l x_5_c] 37) fun b h_1 =>
 reply_Reply.LD h_1 ⟨b, 0, none⟩ fun t4_0 t4_1 t4_2 t4_3 t4_4 t4_5_p t4_5_l t4_5_c =>
 Cl 51 #[.agg #[.int .u64 t4_0, .int .i64 t4_1, .int .i64 t4_2, .int .i64 t4_3, .int .u64 t4_4, .slice t4_5_p t4_5_l t4_5_c]] h_1 fun v h_2 =>
 ∃ t5, v = .bool t5 ∧
 ite (!t5)
 (  R (.tuple #[.slice none 0 0, .int .i64 3]) h_2)
 (  ∃ t9, hcell h_2 ⟨b, 0, none⟩ = some (.int .u64 t9) ∧
 ∃ t12, hcell h_2 ⟨b, 1, none⟩ = some (.int .i64 t12) ∧
 ∃ t15, hcell h_2 ⟨b, 2, none⟩ = some (.int .i64 t15) ∧
 ∃ t18, hcell h_2 ⟨b, 3, none⟩ = some (.int .i64 t18) ∧
 ∃ t21, hcell h_2 ⟨b, 4, none⟩ = some (.int .u64 t21) ∧
 ∃ t24_p t24_l t24_c, hcell h_2 ⟨b, 5, none⟩ = some (.slice t24_p t24_l t24_c) ∧
 Cl 52 #[] h_2 fun v_1 h_3 =>
 ∃ t7, v_1 = .pointer t7 ∧
 hcell h_3 ⟨b, 5, none⟩ = some (.slice t24_p t24_l t24_c) ∧
 hcell h_3 ⟨b, 4, none⟩ = some (.int .u64 t21) ∧
 hcell h_3 ⟨b, 3, none⟩ = some (.int .i64 t18) ∧
 hcell h_3 ⟨b, 2, none⟩ = some (.int .i64 t15) ∧
 hcell h_3 ⟨b, 1, none⟩ = some (.int .i64 t12) ∧
 hcell h_3 ⟨b, 0, none⟩ = some (.int .u64 t9) ∧
 Cl 53 #[.pointer t7, .int .u64 t9] h_3 fun v_2 h_4 =>
 ∃ t10, v_2 = .pointer t10 ∧
 hcell h_4 ⟨b, 5, none⟩ = some (.slice t24_p t24_l t24_c) ∧
 hcell h_4 ⟨b, 4, none⟩ = some (.int .u64 t21) ∧
 hcell h_4 ⟨b, 3, none⟩ = some (.int .i64 t18) ∧
 hcell h_4 ⟨b, 2, none⟩ = some (.int .i64 t15) ∧
 hcell h_4 ⟨b, 1, none⟩ = some (.int .i64 t12) ∧
 Cl 54 #[.pointer t10, .int .i64 t12] h_4 fun v_3 h_5 =>
 ∃ t13, v_3 = .pointer t13 ∧
 hcell h_5 ⟨b, 5, none⟩ = some (.slice t24_p t24_l t24_c) ∧
 hcell h_5 ⟨b, 4, none⟩ = some (.int .u64 t21) ∧
 hcell h_5 ⟨b, 3, none⟩ = some (.int .i64 t18) ∧
 hcell h_5 ⟨b, 2, none⟩ = some (.int .i64 t15) ∧
 Cl 54 #[.pointer t13, .int .i64 t15] h_5 fun v_4 h_6 =>
 ∃ t16, v_4 = .pointer t16 ∧
 hcell h_6 ⟨b, 5, none⟩ = some (.slice t24_p t24_l t24_c) ∧
 hcell h_6 ⟨b, 4, none⟩ = some (.int .u64 t21) ∧
 hcell h_6 ⟨b, 3, none⟩ = some (.int .i64 t18) ∧
 Cl 54 #[.pointer t16, .int .i64 t18] h_6 fun v_5 h_7 =>
 ∃ t19, v_5 = .pointer t19 ∧
 hcell h_7 ⟨b, 5, none⟩ = some (.slice t24_p t24_l t24_c) ∧
 hcell h_7 ⟨b, 4, none⟩ = some (.int .u64 t21) ∧
 Cl 53 #[.pointer t19, .int .u64 t21] h_7 fun v_6 h_8 =>
 ∃ t22, v_6 = .pointer t22 ∧
 hcell h_8 ⟨b, 5, none⟩ = some (.slice t24_p t24_l t24_c) ∧
 Cl 55 #[.pointer t22, .slice t24_p t24_l t24_c] h_8 fun v_7 h_9 =>
 ∃ t25, v_7 = .pointer t25 ∧
 Cl 56 #[.pointer t25] h_9 fun v_8 h_10 =>
 ∃ t26_p t26_l t26_c, v_8 = .slice t26_p t26_l t26_c ∧
 R (.tuple #[.slice t26_p t26_l t26_c, .int .i64 0]) h_10)) : Cl 25 #[.agg #[.int .u64 x_0, .int .i64 x_1, .int .i64 x_2, .int .i64 x_3, .int .u64 x_4, .slice x_5_p x_5_l x_5_c]] h R :=
 callsN [(11, fun _ => .plan (opL [1,2,4,5,7,8,10,11,13,14,16,17,0,3,6,9,12,15,18,19,20,21] .done))] hv
theorem reply_Read.walk (hv :
 NewP h (.cells #[.int .u64 0, .int .i64 0, .int .i64 0, .int .i64 0, .int .u64 0, .slice none 0 0] 37) fun b h_1 =>
 Cl 74 #[.slice b_p b_l b_c] h_1 fun v h_2 =>
 ∃ t7, v = .pointer t7 ∧
 Cl 75 #[.pointer t7] h_2 fun v_1 h_3 =>
 ∃ t9, v_1 = .int .u64 t9 ∧
 Cl 76 #[.pointer t7] h_3 fun v_2 h_4 =>
 ∃ t11, v_2 = .int .i64 t11 ∧
 Cl 76 #[.pointer t7] h_4 fun v_3 h_5 =>
 ∃ t13, v_3 = .int .i64 t13 ∧
 Cl 76 #[.pointer t7] h_5 fun v_4 h_6 =>
 ∃ t15, v_4 = .int .i64 t15 ∧
 Cl 75 #[.pointer t7] h_6 fun v_5 h_7 =>
 ∃ t17, v_5 = .int .u64 t17 ∧
 Cl 77 #[.pointer t7] h_7 fun v_6 h_8 =>
 ∃ t19_p t19_l t19_c, v_6 = .slice t19_p t19_l t19_c ∧
 NewP h_8 (.cells #[.int .u64 0, .int .i64 0, .int .i64 0, .int .i64 0, .int .u64 0, .slice none 0 0] 37) fun b_1 h_9 =>
 reply_Reply.ST h_9 ⟨b_1, 0, none⟩ t9 t11 t13 t15 t17 t19_p t19_l t19_c fun h_10 =>
 JoinP (fun (t28 : Bool) h_11 =>
 ite t28
 (  reply_Reply.ST h_11 ⟨b, 0, none⟩ 0 0 0 0 0 none 0 0 fun h_12 =>
 reply_Reply.LD h_12 ⟨b, 0, none⟩ fun r0_0 r0_1 r0_2 r0_3 r0_4 r0_5_p r0_5_l r0_5_c =>
 R (.tuple #[.agg #[.int .u64 r0_0, .int .i64 r0_1, .int .i64 r0_2, .int .i64 r0_3, .int .u64 r0_4, .slice r0_5_p r0_5_l r0_5_c], .int .i64 3]) h_12)
 (  reply_Reply.LD h_11 ⟨b_1, 0, none⟩ fun t30_0 t30_1 t30_2 t30_3 t30_4 t30_5_p t30_5_l t30_5_c =>
 reply_Reply.ST h_11 ⟨b, 0, none⟩ t30_0 t30_1 t30_2 t30_3 t30_4 t30_5_p t30_5_l t30_5_c fun h_13 =>
 reply_Reply.LD h_13 ⟨b, 0, none⟩ fun r0_0_1 r0_1_1 r0_2_1 r0_3_1 r0_4_1 r0_5_p_1 r0_5_l_1 r0_5_c_1 =>
 R (.tuple #[.agg #[.int .u64 r0_0_1, .int .i64 r0_1_1, .int .i64 r0_2_1, .int .i64 r0_3_1, .int .u64 r0_4_1, .slice r0_5_p_1 r0_5_l_1 r0_5_c_1], .int .i64 0]) h_13))
 (fun J =>
 Cl 78 #[.pointer t7] h_10 fun v_7 h_14 =>
 ∃ t22, v_7 = .int .i64 t22 ∧
 ite (t22 != 0)
 (  J true h_14)
 (  reply_Reply.LD h_14 ⟨b_1, 0, none⟩ fun t25_0 t25_1 t25_2 t25_3 t25_4 t25_5_p t25_5_l t25_5_c =>
 Cl 51 #[.agg #[.int .u64 t25_0, .int .i64 t25_1, .int .i64 t25_2, .int .i64 t25_3, .int .u64 t25_4, .slice t25_5_p t25_5_l t25_5_c]] h_14 fun v_8 h_15 =>
 ∃ t26, v_8 = .bool t26 ∧
 J (!t26) h_15))) : Cl 33 #[.slice b_p b_l b_c] h R :=
 callsN [(8, .join [(28, sB)])] hv
theorem slices_ContainsFunc_s_int_int.within.walk (hv :
 Cl 174 #[.slice s_p s_l s_c, .func (.func 134) #[] #[]] h fun v h_1 =>
 ∃ t7, v = .int .i64 t7 ∧
 R (.bool (decide (t7 ≥ 0))) h_1) : Cl 133 #[.slice s_p s_l s_c, .func (.func 134) #[] #[]] h R :=
 callsN [] hv
theorem slices_IndexFunc_s_int_int.within.walk (hv :
 ∃ (I : Int → Heap → Prop) (mu : Int → Heap → Nat), I 0 h ∧ ∀ t8 h_1, I t8 h_1 →
 ite (decide (t8 < ((s_l : Nat) : Int)))
 (  ((0 : Int) ≤ t8 ∧ t8 < ((s_l : Nat) : Int)) ∧
 onSome s_p fun a =>
 ∃ t15, hcell h_1 (a.add (Int.toNat t8 * 1)) = some (.int .i64 t15) ∧
 Cl 134 #[.int .i64 t15] h_1 fun v h_2 =>
 ∃ t16, v = .bool t16 ∧
 ite t16
 (  R (.int .i64 t8) h_2)
 (  (I (IntKind.wrap .i64 (t8 + 1)) h_2 ∧ mu (IntKind.wrap .i64 (t8 + 1)) h_2 < mu t8 h_1)))
 (  R (.int .i64 (-1)) h_1)) : Cl 174 #[.slice s_p s_l s_c, .func (.func 134) #[] #[]] h R :=
 callsN [(6, .loop [(8, sI)])] hv

end
section
open Go.Fields
namespace Rep
open Fld
variable {h h0:Heap} {R:TyP} {p q:TyO} {c d:Nat}
variable {n m:Nat}
abbrev val (x : RD) (p : Option Addr) (c : Nat) : Value := .agg #[.int .u64 (x.id : Int), .int .i64 x.err, .int .i64 x.num, .int .i64 x.count, .int .u64 (x.token : Int), .slice p x.b.length c]
abbrev At (h : Heap) (b : Nat) (x : RD) (p : Option Addr) (c : Nat) : Prop := reply_Reply.at h b (x.id : Int) x.err x.num x.count (x.token : Int) p x.b.length c
theorem bytesEqual_ok {a b : List UInt8} (ra : Row h p (bc a)) (rb : Row h q (bc b)) (hn : n = a.length) (hm : m = b.length) (hk : R (.bool (decide (a = b))) h) : Cl 122 #[.slice p n c, .slice q m d] h R := by
  refine bytes_Equal.walk ⟨_, conv ra hn, _, conv rb hm, ?_⟩
  rw [str_list, str_list]
  have : (a == b) = decide (a = b) := by
    grind
  rw [this]; exact hk
theorem same_ok (x y : RD) (rx : Row h p (bc x.b)) (ry : Row h q (bc y.b)) (hk : ∀ h', Fr No h h' → R (.bool (decide (x.same y))) h') : Cl 94 #[val x p c, val y q d] h R := by
  refine reply_Same.walk (reply_Reply.box fun b h1 _ hb f1 => reply_Reply.box fun b' h2 _ hb' f2 => ?_)
  have hb2 := f2.get hb id
  have f12 := f1.tt f2
  have hk := hk h2 f12
  unfold RD.same at hk
  refine ⟨_, cell_at hb2 rfl, _, cell_at hb' rfl, ?_⟩
  by_cases e0 : x.id = y.id
  · rw [if_pos (by rw [e0]; simp)]
    refine ⟨_, cell_at hb2 rfl, _, cell_at hb' rfl, ?_⟩
    by_cases e1 : x.err = y.err
    · rw [if_pos (by grind)]
      refine ⟨_, cell_at hb2 rfl, _, cell_at hb' rfl, ?_⟩
      by_cases e2 : x.num = y.num
      · rw [if_pos (by rw [e2]; simp)]
        refine ⟨_, cell_at hb2 rfl, _, cell_at hb' rfl, ?_⟩
        by_cases e3 : x.count = y.count
        · rw [if_pos (by grind)]
          refine ⟨_, cell_at hb2 rfl, _, cell_at hb' rfl, ?_⟩
          by_cases e4 : x.token = y.token
          · rw [if_pos (by grind)]
            refine ⟨_, _, _, cell_at hb2 rfl, _, _, _, cell_at hb' rfl, bytesEqual_ok (rx.frame f12 (fun _ _ => id)) (ry.frame f12 (fun _ _ => id)) rfl rfl ⟨_, rfl, ?_⟩⟩
            simpa [e0, e1, e2, e3, e4] using hk
          · grind
        · grind
      · grind
    · grind
  · grind
def failR (id : Nat) (e : Int) : RD := ⟨id, e, 0, 0, 0, []⟩
theorem fail_ok {i : Int} (id : Nat) (hi : i = (id : Int)) (e : Int) (hk : ∀ h', Fr No h h' → R (val (failR id e) none 0) h') : Cl 46 #[.int .u64 i, .int .i64 e] h R := by
  subst hi
  refine reply_Fail.walk (reply_Reply.new fun b h1 _ hb f1 => reply_Reply.ld hb (hk h1 f1))
def inB (n : Int) : Bool := decide (0 ≤ n ∧ n ≤ 1099511627776)
theorem in1_ok (n : Int) (hk : R (.bool (!inB n)) h) : Cl 134 #[.int .i64 n] h R := by
  refine reply_within_1.walk ?_
  unfold inB at hk
  by_cases h1 : n < 0
  · grind
  · by_cases h2 : n > 1099511627776
    · grind
    · grind
theorem within_ok {ns : List Int} (hr : Row h p (ns.map (.int .i64 ·))) (hn : n = ns.length) (hl : ns.length ≤ 1000000) (hk : R (.bool (ns.all inB)) h) : Cl 93 #[.slice p n m] h R := by
  subst hn
  refine reply_within.walk (slices_ContainsFunc_s_int_int.within.walk (slices_IndexFunc_s_int_int.within.walk ⟨fun i h' => h' = h ∧ ∃ k : Nat, i = (k) ∧ k ≤ ns.length ∧ ∀ j, j < k → inB (ns.getD j 0) = true, fun i _ => ns.length - i.toNat, ⟨rfl, 0, rfl, by omega, fun j hj => by omega⟩, ?_⟩))
  rintro _ h1 ⟨rfl, k, rfl, hkn, hall⟩
  by_cases hlt : k < ns.length
  · have : (k) < (ns.length : Int) := by omega
    simp only [this, decide_true, if_true, Int.toNat_natCast]
    obtain ⟨a, rfl, ck⟩ := row_int_at hr hlt
    refine ⟨⟨by omega, by first | omega | trivial⟩, onSome_some.2 ⟨_, ck, in1_ok _ ⟨_, rfl, ?_⟩⟩⟩
    cases hb : inB (ns.getD k 0) with
    | false =>
      refine ⟨_, rfl, ⟨_, rfl, ?_⟩⟩
      have : ns.all inB = false := by
        grind
      have h0  := by omega
      simpa [h0] using hk
    | true =>
      simp only [Bool.not_true, Bool.false_eq_true, if_false]
      rw [wrap_id (by omega) (by omega)]
      refine ⟨⟨trivial, k + 1, by omega, by omega, fun j hj => ?_⟩, ?_⟩
      · grind
      · grind
  · rw [if_neg (by simp only [decide_eq_true_eq]; omega)]
    refine ⟨_, rfl, ⟨_, rfl, ?_⟩⟩
    have : ns.all inB = true := by
      rw [List.all_eq_true]
      intro n hn
      have ⟨j, hj⟩ := List.getElem?_of_mem hn
      have hjl := (List.getElem?_eq_some_iff.1 hj).1
      have := hall j (by omega)
      rwa [List.getD_eq_getElem?_getD, hj] at this
    rw [this] at hk
    simpa using hk
theorem right_ok (x : RD) (rx : Row h p (bc x.b)) (hk : ∀ h', Fr No h h' → R (.bool (decide x.Right)) h') : Cl 51 #[val x p c] h R := by
  refine reply_Right.walk (reply_Reply.box fun b h1 _ hb f1 => JoinP.of fun J hJ => ?_)
  have jt : ∀ h2, Fr No h h2 → ¬ x.Right → J true h2 := by
    grind
  have jf : ∀ h2, At h2 b x p c → Fr No h h2 → x.id ≤ 1099511627776 → (0 ≤ x.err ∧ x.err ≤ 99) → (0 ≤ x.num ∧ x.num ≤ 1099511627776) → (0 ≤ x.count ∧ x.count ≤ 1099511627776) → x.token ≤ 2147483648 → x.b.length ≤ 600 → J false h2 := by
    intro h2 hb2 f2 q1 q2 q3 q4 q5 q6
    subst hJ
    simp only [Bool.false_eq_true, if_false]
    refine ⟨_, cell_at hb2 rfl, ?_⟩
    by_cases he : x.err = 0
    · rw [if_neg (by simp [he])]
      have := hk h2 f2
      rwa [decide_eq_true (show x.Right from ⟨q1, q2, q3, q4, q5, q6, fun h => absurd he h⟩)] at this
    · rw [if_pos (by grind)]
      refine reply_Reply.ld hb2 ⟨_, cell_at hb2 rfl, _, cell_at hb2 rfl, fail_ok x.id rfl x.err fun h3 f3 => ⟨_, _, _, _, _, _, _, _, rfl, (reply_Reply.held (f3.get hb2 id)), ?_⟩⟩
      have f23 := f2.tt f3
      refine same_ok x (failR x.id x.err) (rx.frame f23 (fun _ _ => id)) (.inl rfl) fun h4 f4 => ⟨_, rfl, ?_⟩
      have e : decide (x.same (failR x.id x.err)) = decide x.Right := by
        unfold RD.same RD.Right failR
        simp [q1, q2, q3, q4, q5, q6, he]
      rw [e]
      exact hk h4 (f23.tt f4)
  refine ⟨_, cell_at hb rfl, ?_⟩
  by_cases q1 : x.id ≤ 1099511627776
  · rw [if_neg (by simp; omega)]
    refine ⟨_, cell_at hb rfl, ?_⟩
    by_cases q2 : 0 ≤ x.err
    · rw [if_neg (by simp; omega)]
      refine ⟨_, cell_at hb rfl, ?_⟩
      by_cases q3 : x.err ≤ 99
      · rw [if_neg (by simp; omega)]
        refine ⟨_, cell_at hb rfl, _, cell_at hb rfl, newP_of ?_⟩
        refine within_ok (ns := [x.num, x.count]) row_new rfl (by simp) ⟨_, rfl, ?_⟩
        have f5 := f1.tt (Fr.push h1 (.cells #[.int .i64 x.num, .int .i64 x.count] 3))
        have hb5 : At _ b x p c := (Fr.push (S := fun _ => False) h1 (.cells #[.int .i64 x.num, .int .i64 x.count] 3)).get hb id
        generalize h1.push (.cells #[.int .i64 x.num, .int .i64 x.count] 3) = h5 at *
        cases hin : [x.num, x.count].all inB with
        | false =>
          simp only [Bool.not_false, if_true]
          refine jt _ f5 fun hr => ?_
          obtain ⟨_, _, r3, r4, _⟩ := hr
          simp [inB, r3, r4] at hin
        | true =>
          simp only [Bool.not_true, Bool.false_eq_true, if_false]
          simp [inB] at hin
          refine ⟨_, cell_at hb5 rfl, ?_⟩
          by_cases q5 : x.token ≤ 2147483648
          · rw [if_neg (by simp; omega)]
            refine ⟨_, _, _, cell_at hb5 rfl, ?_⟩
            by_cases q6 : x.b.length ≤ 600
            · grind
            · have : decide (((x.b.length : Nat) : Int) > 600) = true := by simp; omega
              rw [this]
              exact jt _ f5 fun hr => q6 hr.2.2.2.2.2.1
          · rw [if_pos (by simp; omega)]
            exact jt _ f5 fun hr => q5 hr.2.2.2.2.1
      · rw [if_pos (by simp; omega)]
        exact jt _ f1 fun hr => q3 hr.2.1.2
    · rw [if_pos (by simp; omega)]
      exact jt _ f1 fun hr => q2 hr.2.1.1
  · rw [if_pos (by grind)]
    exact jt _ f1 fun hr => q1 hr.1
theorem write_ok (x : RD) (rx : Row h p (bc x.b)) (k1 : x.Right → ∀ h' q d, Own h' q x.enc.length d 1 (bc x.enc) → Fr No h h' → (∀ y, inBlk q y → h.size ≤ y) → R (.tuple #[.slice q x.enc.length d, .int .i64 0]) h')
    (k2 : ¬ x.Right → ∀ h', Fr No h h' → R (.tuple #[.slice none 0 0, .int .i64 3]) h') : Cl 25 #[val x p c] h R := by
  refine reply_Write.walk (reply_Reply.box fun b h1 eb hb f1 => reply_Reply.ld hb (right_ok x (rx.frame f1 (fun _ _ => id)) fun h2 f2 => ⟨_, rfl, ?_⟩))
  by_cases hr : x.Right
  · rw [decide_eq_true hr]
    rw [if_neg (by decide)]
    have ⟨q1, ⟨q2, q2'⟩, ⟨q3, q3'⟩, ⟨q4, q4'⟩, q5, q6, _⟩ := id hr
    have hb2 := f2.get hb id
    have f02 := f1.tt f2
    refine ⟨_, cell_at hb2 rfl, _, cell_at hb2 rfl, _, cell_at hb2 rfl, _, cell_at hb2 rfl, _, cell_at hb2 rfl, _, _, _, cell_at hb2 rfl, (new_ok fun h3 w S3 H3 f3 g3 => ⟨_, rfl, ?_⟩)⟩
    have b3 := f3.get hb2 id
    have u3 : Up h2 S3 h3 := ⟨f3, g3⟩
    have nb : ∀ {S : Nat → Prop} {h' : Heap}, Up h2 S h' → ¬ S b := fun u hx => by have := u.ge b hx; have := lt_of_get hb2; omega
    refine ⟨cell_at b3 rfl, cell_at b3 rfl, cell_at b3 rfl, cell_at b3 rfl, cell_at b3 rfl, cell_at b3 rfl, (num_ok x.id H3 (by simp) rfl (by omega) fun h4 S4 H4 s4 => ⟨_, rfl, ?_⟩)⟩
    have b4 := s4.fr.get b3 (nb u3)
    have u4 := u3.step s4
    have l1 := (encNum_len x.id).2
    refine ⟨cell_at b4 rfl, cell_at b4 rfl, cell_at b4 rfl, cell_at b4 rfl, cell_at b4 rfl, (int_ok H4 (by grind) (by omega) fun h5 S5 H5 s5 => ⟨_, rfl, ?_⟩)⟩
    have b5 := s5.fr.get b4 (nb u4)
    have u5 := u4.step s5
    have l2 := (encNum_len (natOf x.err)).2
    refine ⟨cell_at b5 rfl, cell_at b5 rfl, cell_at b5 rfl, cell_at b5 rfl, (int_ok H5 (by simp only [List.nil_append, List.length_append]; omega) (by omega) fun h6 S6 H6 s6 => ⟨_, rfl, ?_⟩)⟩
    have b6 := s6.fr.get b5 (nb u5)
    have u6 := u5.step s6
    have l3 := (encNum_len (natOf x.num)).2
    refine ⟨cell_at b6 rfl, cell_at b6 rfl, cell_at b6 rfl, (int_ok H6 (by grind) (by omega) fun h7 S7 H7 s7 => ⟨_, rfl, ?_⟩)⟩
    have b7 := s7.fr.get b6 (nb u6)
    have u7 := u6.step s7
    have l4 := (encNum_len (natOf x.count)).2
    refine ⟨cell_at b7 rfl, cell_at b7 rfl, (num_ok x.token H7 (by simp only [List.nil_append, List.length_append]; omega) rfl (by omega) fun h8 S8 H8 s8 => ⟨_, rfl, ?_⟩)⟩
    have u8 := u7.step s8
    have l5 := (encNum_len x.token).2
    refine ⟨cell_at (s8.fr.get b7 (nb u7)) rfl, (text_ok' H8 (by grind) (rx.frame (f02.tt u8.fr) (fun _ _ => id)) rfl (by omega) (fun y hy hne hS => ?_) fun h9 S9 H9 s9 => ⟨_, rfl, ?_⟩)⟩
    · have := row_lt rx (fun e => hne (List.map_eq_nil_iff.1 e)) hy
      have := u8.ge y hS
      have := f02.1
      omega
    have u9 := u8.step s9
    have he : [] ++ encNum x.id ++ encNum (natOf x.err) ++ encNum (natOf x.num) ++ encNum (natOf x.count) ++ encNum x.token ++ encText x.b = x.enc := rfl
    rw [he] at H9
    refine bytes_ok H9 (by have := enc_len q6; omega) fun q d h10 o10 f10 g10 => ⟨_, _, _, rfl, (k1 hr h10 q d o10 (f02.tt (u9.fr.tt f10)) (fun y hy => by have := g10 y hy; have := (f02.tt u9.fr).1; omega))⟩
  · rw [decide_eq_false hr]
    exact k2 hr h2 (f1.tt f2)
theorem read_ok {bs : List UInt8} (rb : Row h p (bc bs)) (hn : n = bs.length) (hl : bs.length ≤ 70368744177664)
    (k1 : ∀ x, decR bs = some x → ∀ h' q d, Own h' q x.b.length d 1 (bc x.b) → Fr No h h' → (∀ y, inBlk q y → h.size ≤ y) → R (.tuple #[val x q d, .int .i64 0]) h')
    (k2 : decR bs = none → ∀ h', Fr No h h' → R (.tuple #[val RD.zero none 0, .int .i64 3]) h') : Cl 33 #[.slice p n c] h R := by
  refine reply_Read.walk (reply_Reply.box (f5l := 0) fun b h1 eb hb f1 => ?_)
  refine Fld.read_ok (rb.frame f1 (fun _ _ => id)) hn hl fun h2 r T D2 f2 g2 => ⟨_, rfl, ?_⟩
  have u2 : Up h1 T h2 := ⟨f2, g2⟩
  refine rnum_ok D2 fun h3 D3 f3 => ⟨_, rfl, ?_⟩
  have u3 := u2.touch f3 (fun y e => e ▸ D2.self)
  have la := readNum_len 0 bs
  generalize hA : readNum 0 bs = A at D3 la ⊢
  obtain ⟨a, ae, ar⟩ := A
  dsimp only at D3 la ⊢
  refine rint_ok D3 fun h4 D4 f4 => ⟨_, rfl, ?_⟩
  have u4 := u3.touch f4 (fun y e => e ▸ D2.self)
  have lb : (readInt ae ar).2.2.length ≤ ar.length := readMost_len _ ae ar
  generalize hB : readInt ae ar = B at D4 lb ⊢
  obtain ⟨b', be, br⟩ := B
  dsimp only at D4 lb ⊢
  refine rint_ok D4 fun h5 D5 f5 => ⟨_, rfl, ?_⟩
  have u5 := u4.touch f5 (fun y e => e ▸ D2.self)
  have lc : (readInt be br).2.2.length ≤ br.length := readMost_len _ be br
  generalize hC : readInt be br = C at D5 lc ⊢
  obtain ⟨c', ce, cr⟩ := C
  dsimp only at D5 lc ⊢
  refine rint_ok D5 fun h6 D6 f6 => ⟨_, rfl, ?_⟩
  have u6 := u5.touch f6 (fun y e => e ▸ D2.self)
  have ld : (readInt ce cr).2.2.length ≤ cr.length := readMost_len _ ce cr
  generalize hD : readInt ce cr = D at D6 ld ⊢
  obtain ⟨d', de, dr⟩ := D
  dsimp only at D6 ld ⊢
  refine rnum_ok D6 fun h7 D7 f7 => ⟨_, rfl, ?_⟩
  have u7 := u6.touch f7 (fun y e => e ▸ D2.self)
  have lf := readNum_len de dr
  generalize hF : readNum de dr = F at D7 lf ⊢
  obtain ⟨f', fe, fr⟩ := F
  dsimp only at D7 lf ⊢
  refine rtext_ok D7 (by omega) fun h8 q d D8 o8 g8 f8 => ⟨_, _, _, rfl, ?_⟩
  have u8 := u7.touch f8 (fun y e => e ▸ D2.self)
  generalize hG : readText fe fr = G at D8 o8 ⊢
  obtain ⟨g', ge, gr⟩ := G
  dsimp only at D8 o8 ⊢
  have hX : rdR 1099511627776 readMost bs = ⟨⟨a, b', c', d', f', g'⟩, ge, gr⟩ := by
    unfold readInt at hB hC hD
    unfold rdR
    simp only [hA, hB, hC, hD, hF, hG]
  have hdec : decR bs = fromR ⟨⟨a, b', c', d', f', g'⟩, ge, gr⟩ := by unfold decR; rw [hX]
  clear hX hA hB hC hD hF hG la lb lc ld lf D3 D4 D5 D6 D7 f3 f4 f5 f6 f7 f8
  generalize hx : (⟨a, b', c', d', f', g'⟩ : RD) = x at *
  have e0 : a = x.id := by rw [← hx]
  have e1 : (b' : Int) = x.err := by rw [← hx]
  have e2 : (c' : Int) = x.num := by rw [← hx]
  have e3 : (d' : Int) = x.count := by rw [← hx]
  have e4 : f' = x.token := by grind
  have e5 : g' = x.b := by rw [← hx]
  rw [e0, e1, e2, e3, e4, e5]
  rw [e5] at o8
  clear hx e0 e1 e2 e3 e4 e5
  refine reply_Reply.new fun b1 h15 eb1 hb1 f15 => ?_
  have hb15 : At h15 b RD.zero none 0 := f15.get (u8.fr.get hb id) id
  have F15 : Fr No h h15 := f1.tt (u8.fr.tt f15)
  have o15 := o8.frame f15 (fun _ _ => id)
  have gq : ∀ y, inBlk q y → h1.size ≤ y := fun y hy => by have := g8 y hy; have := u7.fr.1; omega
  have bne : b ≠ b1 := fun e => by have := lt_of_get (u8.fr.get hb id); omega
  have hbl : b < h1.size := lt_of_get hb
  refine JoinP.of fun J hJ => ?_
  have jt : fromR ⟨x, ge, gr⟩ = none → ∀ h16, At h16 b RD.zero none 0 → Fr No h h16 → J true h16 := by
    intro hn h16 hb16 f16
    subst hJ
    simp only [if_true]
    refine reply_Reply.set hb16 fun h22 hb22 s22 o22 => reply_Reply.ld hb22 ?_
    exact k2 (hdec.trans hn) h22 (f16.step (Fr.of_eq (S := fun y => y = b) s22 o22) (fun y hy e => by omega))
  have jf : fromR ⟨x, ge, gr⟩ = some x → ∀ h16, At h16 b RD.zero none 0 → At h16 b1 x q d → Own h16 q x.b.length d 1 (bc x.b) → Fr No h h16 → J false h16 := by
    intro hs h16 hb16 hb116 o16 f16
    subst hJ
    simp only [Bool.false_eq_true, if_false]
    refine reply_Reply.ld hb116 (reply_Reply.set hb16 fun h28 hb28 s28 o28 => reply_Reply.ld hb28 ?_)
    have f28 : Fr (fun y => y = b) h16 h28 := Fr.of_eq s28 o28
    refine k1 x (hdec.trans hs) h28 q d (o16.frame f28 (fun y hy e => ?_)) (f16.step f28 (fun y hy e => by omega)) (fun y hy => ?_)
    · grind
    · grind
  clear hJ
  refine rend_ok (D8.frame f15 (fun _ _ => id)) ⟨_, rfl, ?_⟩
  by_cases he : readEnd ge gr = 0
  · rw [if_neg (by grind)]
    refine reply_Reply.ld hb1 (right_ok x o15.row' fun h30 f30 => ⟨_, rfl, ?_⟩)
    by_cases hr : x.Right
    · rw [decide_eq_true hr]
      exact jf (by unfold fromR; rw [if_pos ⟨he, hr⟩]) h30 (f30.get hb15 id) (f30.get hb1 id) (o15.frame f30 (fun _ _ => id)) (F15.tt f30)
    · rw [decide_eq_false hr]
      exact jt (by unfold fromR; rw [if_neg (fun hh => hr hh.2)]) h30 (f30.get hb15 id) (F15.tt f30)
  · rw [if_pos (by simpa using he)]
    exact jt (by unfold fromR; rw [if_neg (fun hh => he hh.1)]) h15 hb15 F15

end Rep
end
section
variable {h:Heap}
variable {K:Nat→Heap→Prop} {a:Addr} {b:Nat}
abbrev eid_Eid.atp (h : Heap) (b : Nat) (x : eid_Eid.S) : Prop := h[b]? = some (.cells x.arr 31 (0, 0))
theorem eid_Eid.ex {K : eid_Eid.S → Prop} (x : eid_Eid.S) (hk : K x) : eid_Eid.EX K := ⟨_, _, _, _, _, hk⟩
theorem eid_Eid.ldAp {x : eid_Eid.S} {K : eid_Eid.S → Prop} (hb : heldL a x.l 0 h) (hk : K x) : eid_Eid.LDp h a K := by
  obtain ⟨q0, q1, q2, q3, q4, _⟩ := hb
  rw [add_zero_addr] at q0
  exact ⟨_, q0, _, q1, _, q2, _, q3, _, q4, hk⟩
theorem eid_Eid.heldp {x : eid_Eid.S} (hb : eid_Eid.atp h b x) : heldL ⟨b, 0, none⟩ x.l 0 h :=
  heldL_blk hb (fun j v hj => by rw [Nat.zero_add]; simpa using hj)
theorem eid_Eid.ldp {x : eid_Eid.S} {K : eid_Eid.S → Prop} (hb : eid_Eid.atp h b x) (hk : K x) : eid_Eid.LDp h ⟨b, 0, none⟩ K := ldAp (heldp hb) hk
theorem eid_Eid.newp {x : eid_Eid.S} (hk : ∀ b h', b = h.size → eid_Eid.atp h' b x → Fr No h h' → K b h') : NewP h (.cells eid_Eid.S.z.arr 31) fun b h_0 => eid_Eid.STp h_0 ⟨b, 0, none⟩ x (K b) :=
  new_full (vs := x.l) rfl rfl hk
theorem eid_Eid.boxp {x : eid_Eid.S} (hk : ∀ b h', b = h.size → eid_Eid.atp h' b x → Fr No h h' → K b h') : NewP h (.cells x.arr 31) fun b h_0 => K b h_0 :=
  newP_of (hk _ _ rfl push_new (Fr.push _ _))
abbrev request_Request.atp (h : Heap) (b : Nat) (x : request_Request.S) : Prop := h[b]? = some (.cells x.arr 33 (0, 0))
theorem request_Request.ex {K : request_Request.S → Prop} (x : request_Request.S) (hk : K x) : request_Request.EX K := ⟨_, _, _, _, _, _, _, _, _, _, _, _, _, _, _, _, _, _, _, _, _, hk⟩
theorem request_Request.ldAp {x : request_Request.S} {K : request_Request.S → Prop} (hb : heldL a x.l 0 h) (hk : K x) : request_Request.LDp h a K := by
  obtain ⟨q0, q1, q2, q3, q4, q5, q6, q7, q8, q9, q10, q11, q12, q13, q14, q15, q16, q17, q18, _⟩ := hb
  rw [add_zero_addr] at q0
  exact ⟨_, q0, _, q1, _, q2, _, q3, _, q4, _, q5, _, q6, _, q7, _, q8, _, q9, _, q10, _, q11, _, q12, _, q13, _, q14, _, _, _, q15, _, q16, _, q17, _, q18, hk⟩
theorem request_Request.heldp {x : request_Request.S} (hb : request_Request.atp h b x) : heldL ⟨b, 0, none⟩ x.l 0 h :=
  heldL_blk hb (fun j v hj => by rw [Nat.zero_add]; simpa using hj)
theorem request_Request.ldp {x : request_Request.S} {K : request_Request.S → Prop} (hb : request_Request.atp h b x) (hk : K x) : request_Request.LDp h ⟨b, 0, none⟩ K := ldAp (heldp hb) hk
theorem request_Request.newp {x : request_Request.S} (hk : ∀ b h', b = h.size → request_Request.atp h' b x → Fr No h h' → K b h') : NewP h (.cells request_Request.S.z.arr 33) fun b h_0 => request_Request.STp h_0 ⟨b, 0, none⟩ x (K b) :=
  new_full (vs := x.l) rfl rfl hk
theorem request_Request.boxp {x : request_Request.S} (hk : ∀ b h', b = h.size → request_Request.atp h' b x → Fr No h h' → K b h') : NewP h (.cells x.arr 33) fun b h_0 => K b h_0 :=
  newP_of (hk _ _ rfl push_new (Fr.push _ _))
theorem request_Request.setp {y x : request_Request.S} {K : Heap → Prop} (a0 : request_Request.atp h b y) (hk : ∀ h', request_Request.atp h' b x → Fr (fun y => y = b) h h' → h'.size = h.size → K h') : request_Request.STp h ⟨b, 0, none⟩ x K :=
  (show storeL ⟨b, 0, none⟩ x.l 0 h K from storeL_full a0 rfl rfl fun h1 d1 d2 d3 => hk h1 d1 (Fr.of_eq d2 fun c hc => d3 c hc) d2)
variable {x:request_Request.S}
abbrev reply_Reply.atp (h : Heap) (b : Nat) (x : reply_Reply.S) : Prop := h[b]? = some (.cells x.arr 37 (0, 0))
theorem reply_Reply.ex {K : reply_Reply.S → Prop} (x : reply_Reply.S) (hk : K x) : reply_Reply.EX K := ⟨_, _, _, _, _, _, _, _, hk⟩
theorem reply_Reply.ldAp {x : reply_Reply.S} {K : reply_Reply.S → Prop} (hb : heldL a x.l 0 h) (hk : K x) : reply_Reply.LDp h a K := by
  obtain ⟨q0, q1, q2, q3, q4, q5, _⟩ := hb
  rw [add_zero_addr] at q0
  exact ⟨_, q0, _, q1, _, q2, _, q3, _, q4, _, _, _, q5, hk⟩
theorem reply_Reply.heldp {x : reply_Reply.S} (hb : reply_Reply.atp h b x) : heldL ⟨b, 0, none⟩ x.l 0 h :=
  heldL_blk hb (fun j v hj => by rw [Nat.zero_add]; simpa using hj)
theorem reply_Reply.ldp {x : reply_Reply.S} {K : reply_Reply.S → Prop} (hb : reply_Reply.atp h b x) (hk : K x) : reply_Reply.LDp h ⟨b, 0, none⟩ K := ldAp (heldp hb) hk
theorem reply_Reply.newp {x : reply_Reply.S} (hk : ∀ b h', b = h.size → reply_Reply.atp h' b x → Fr No h h' → K b h') : NewP h (.cells reply_Reply.S.z.arr 37) fun b h_0 => reply_Reply.STp h_0 ⟨b, 0, none⟩ x (K b) :=
  new_full (vs := x.l) rfl rfl hk
theorem reply_Reply.boxp {x : reply_Reply.S} (hk : ∀ b h', b = h.size → reply_Reply.atp h' b x → Fr No h h' → K b h') : NewP h (.cells x.arr 37) fun b h_0 => K b h_0 :=
  newP_of (hk _ _ rfl push_new (Fr.push _ _))
theorem reply_Reply.setp {y x : reply_Reply.S} {K : Heap → Prop} (a0 : reply_Reply.atp h b y) (hk : ∀ h', reply_Reply.atp h' b x → Fr (fun y => y = b) h h' → h'.size = h.size → K h') : reply_Reply.STp h ⟨b, 0, none⟩ x K :=
  (show storeL ⟨b, 0, none⟩ x.l 0 h K from storeL_full a0 rfl rfl fun h1 d1 d2 d3 => hk h1 d1 (Fr.of_eq d2 fun c hc => d3 c hc) d2)
abbrev event_Event.atp (h : Heap) (b : Nat) (x : event_Event.S) : Prop := h[b]? = some (.cells x.arr 35 (0, 0))
theorem event_Event.ex {K : event_Event.S → Prop} (x : event_Event.S) (hk : K x) : event_Event.EX K := ⟨_, _, _, _, _, _, _, _, _, _, _, _, _, _, _, _, _, _, _, _, _, _, _, _, _, _, _, _, hk⟩
theorem event_Event.ldAp {x : event_Event.S} {K : event_Event.S → Prop} (hb : heldL a x.l 0 h) (hk : K x) : event_Event.LDp h a K := by
  obtain ⟨q0, q1, q2, q3, q4, q5, q6, q7, q8, q9, q10, q11, q12, q13, q14, q15, q16, q17, q18, q19, q20, q21, q22, q23, _⟩ := hb
  rw [add_zero_addr] at q0
  exact ⟨_, q0, _, q1, _, q2, _, q3, _, q4, _, q5, _, q6, _, q7, _, q8, _, q9, _, q10, _, q11, _, q12, _, q13, _, q14, _, q15, _, q16, _, q17, _, q18, _, _, _, q19, _, q20, _, q21, _, q22, _, _, _, q23, hk⟩
theorem event_Event.heldp {x : event_Event.S} (hb : event_Event.atp h b x) : heldL ⟨b, 0, none⟩ x.l 0 h :=
  heldL_blk hb (fun j v hj => by rw [Nat.zero_add]; simpa using hj)
theorem event_Event.ldp {x : event_Event.S} {K : event_Event.S → Prop} (hb : event_Event.atp h b x) (hk : K x) : event_Event.LDp h ⟨b, 0, none⟩ K := ldAp (heldp hb) hk
theorem event_Event.newp {x : event_Event.S} (hk : ∀ b h', b = h.size → event_Event.atp h' b x → Fr No h h' → K b h') : NewP h (.cells event_Event.S.z.arr 35) fun b h_0 => event_Event.STp h_0 ⟨b, 0, none⟩ x (K b) :=
  new_full (vs := x.l) rfl rfl hk
theorem event_Event.boxp {x : event_Event.S} (hk : ∀ b h', b = h.size → event_Event.atp h' b x → Fr No h h' → K b h') : NewP h (.cells x.arr 35) fun b h_0 => K b h_0 :=
  newP_of (hk _ _ rfl push_new (Fr.push _ _))
theorem event_Event.setp {y x : event_Event.S} {K : Heap → Prop} (a0 : event_Event.atp h b y) (hk : ∀ h', event_Event.atp h' b x → Fr (fun y => y = b) h h' → h'.size = h.size → K h') : event_Event.STp h ⟨b, 0, none⟩ x K :=
  (show storeL ⟨b, 0, none⟩ x.l 0 h K from storeL_full a0 rfl rfl fun h1 d1 d2 d3 => hk h1 d1 (Fr.of_eq d2 fun c hc => d3 c hc) d2)
theorem outbox_Item.ex {K : outbox_Item.S → Prop} (x : outbox_Item.S) (hk : K x) : outbox_Item.EX K := ⟨_, _, _, _, _, _, hk⟩

end
section
namespace Bn
open Eid (Ev rightE ev5)
variable {h h0 h':Heap} {R:TyP}
abbrev _root_.Go.Proofs.YtaphjamdblgiiaaGreatDoor.Eid.Ev.s (x : Ev) : eid_Eid.S := ⟨x.ipn, x.node, x.svc, x.host, x.dem⟩
theorem eldn {b off : Nat} {c : Array Value} {ty : TypeId} (x : Ev) {K : eid_Eid.S → Prop} (hb : h[b]? = some (.cells c ty (0, 0))) (h0 : c[off]? = some (.bool x.ipn)) (h1 : c[off + 1]? = some (.int .u64 x.node)) (h2 : c[off + 2]? = some (.int .u64 x.svc)) (h3 : c[off + 3]? = some (.string x.host)) (h4 : c[off + 4]? = some (.string x.dem)) (hk : K x.s) : eid_Eid.LDp h ⟨b, off, none⟩ K :=
  ⟨_, cell_at hb h0, _, cell_at hb h1, _, cell_at hb h2, _, cell_at hb h3, _, cell_at hb h4, hk⟩
theorem dec_le (n m : Nat) : decide ((n : Int) ≤ (m : Int)) = decide (n ≤ m) := by simp
end Bn
namespace Cb
variable {h h0 h' : Heap} {R : Value → Heap → Prop}
theorem bytesEq_ok {p q : Option Addr} {n m c d : Nat} {a b : List UInt8} (ra : Row h p (bc a)) (rb : Row h q (bc b)) (hn : n = a.length) (hm : m = b.length) (hk : R (.bool (decide (a = b))) h) : Cl 122 #[.slice p n c, .slice q m d] h R := by
  refine bytes_Equal.walk ⟨_, Fld.conv ra hn, _, Fld.conv rb hm, ?_⟩
  rw [str_list, str_list]
  have : (a == b) = decide (a = b) := by grind
  rw [this]
  exact hk
end Cb
end
section
variable {h:Heap} {R:TyP}
variable {x:request_Request.S}
theorem request_Same.walk {a : request_Request.S} {b : request_Request.S} (hv :
 NewP h (.cells a.arr 33) fun b_1 h_1 =>
 NewP h_1 (.cells b.arr 33) fun b_2 h_2 =>
 ∃ t6, hcell h_2 ⟨b_1, 0, none⟩ = some (.int .u64 t6) ∧
 ∃ t8, hcell h_2 ⟨b_2, 0, none⟩ = some (.int .u64 t8) ∧
 ite (t6 == t8)
 (  ∃ t12, hcell h_2 ⟨b_1, 1, none⟩ = some (.int .i64 t12) ∧
 ∃ t14, hcell h_2 ⟨b_2, 1, none⟩ = some (.int .i64 t14) ∧
 ite (t12 == t14)
 (  eid_Eid.LDp h_2 ⟨b_1, 2, none⟩ fun t19 =>
 eid_Eid.LDp h_2 ⟨b_2, 2, none⟩ fun t21 =>
 ∃ (eq : Bool), Eqz 31 (t19.agg) (t21.agg) eq ∧
 ite eq
 (  eid_Eid.LDp h_2 ⟨b_1, 7, none⟩ fun t26 =>
 eid_Eid.LDp h_2 ⟨b_2, 7, none⟩ fun t28 =>
 ∃ (eq_1 : Bool), Eqz 31 (t26.agg) (t28.agg) eq_1 ∧
 ite eq_1
 (  ∃ t33, hcell h_2 ⟨b_1, 12, none⟩ = some (.int .i64 t33) ∧
 ∃ t35, hcell h_2 ⟨b_2, 12, none⟩ = some (.int .i64 t35) ∧
 ite (t33 == t35)
 (  ∃ t40, hcell h_2 ⟨b_1, 13, none⟩ = some (.int .i64 t40) ∧
 ∃ t42, hcell h_2 ⟨b_2, 13, none⟩ = some (.int .i64 t42) ∧
 ite (t40 == t42)
 (  ∃ t47, hcell h_2 ⟨b_1, 14, none⟩ = some (.int .i64 t47) ∧
 ∃ t49, hcell h_2 ⟨b_2, 14, none⟩ = some (.int .i64 t49) ∧
 ite (t47 == t49)
 (  ∃ t54_p t54_l t54_c, hcell h_2 ⟨b_1, 15, none⟩ = some (.slice t54_p t54_l t54_c) ∧
 ∃ t56_p t56_l t56_c, hcell h_2 ⟨b_2, 15, none⟩ = some (.slice t56_p t56_l t56_c) ∧
 Cl 122 #[.slice t54_p t54_l t54_c, .slice t56_p t56_l t56_c] h_2 fun v h_3 =>
 ∃ t57, v = .bool t57 ∧
 ite t57
 (  ∃ t61, hcell h_3 ⟨b_1, 16, none⟩ = some (.int .u64 t61) ∧
 ∃ t63, hcell h_3 ⟨b_2, 16, none⟩ = some (.int .u64 t63) ∧
 ite (t61 == t63)
 (  ∃ t68, hcell h_3 ⟨b_1, 17, none⟩ = some (.int .u64 t68) ∧
 ∃ t70, hcell h_3 ⟨b_2, 17, none⟩ = some (.int .u64 t70) ∧
 ite (t68 == t70)
 (  ∃ t75, hcell h_3 ⟨b_1, 18, none⟩ = some (.bool t75) ∧
 ∃ t77, hcell h_3 ⟨b_2, 18, none⟩ = some (.bool t77) ∧
 R (.bool (t75 == t77)) h_3)
 (  R (.bool false) h_3))
 (  R (.bool false) h_3))
 (  R (.bool false) h_3))
 (  R (.bool false) h_2))
 (  R (.bool false) h_2))
 (  R (.bool false) h_2))
 (  R (.bool false) h_2))
 (  R (.bool false) h_2))
 (  R (.bool false) h_2))
 (  R (.bool false) h_2)) : Cl 183 #[a.agg, b.agg] h R :=
 callsN [] hv
theorem request_own.walk (hv :
 NewP h (.cells x.arr 33) fun b h_1 =>
 NewP h_1 (.cells request_Request.S.z.arr 33) fun b_1 h_2 =>
 ∃ t5, hcell h_2 ⟨b, 0, none⟩ = some (.int .u64 t5) ∧
 ∃ t7, hcell h_2 ⟨b, 1, none⟩ = some (.int .i64 t7) ∧
 NewP h_2 (.cells request_Request.S.z.arr 33) fun b_2 h_3 =>
 request_Request.STp h_3 ⟨b_2, 0, none⟩ ⟨t5, t7, false, 0, 0, (⟨#[]⟩ : ByteArray), (⟨#[]⟩ : ByteArray), false, 0, 0, (⟨#[]⟩ : ByteArray), (⟨#[]⟩ : ByteArray), 0, 0, 0, none, 0, 0, 0, 0, false⟩ fun h_4 =>
 ∃ t10, hcell h_4 ⟨b, 1, none⟩ = some (.int .i64 t10) ∧
 JoinP (fun h_5 =>
 request_Request.LDp h_5 ⟨b_2, 0, none⟩ fun t68 =>
 request_Request.STp h_5 ⟨b_1, 0, none⟩ t68 fun h_6 =>
 request_Request.LDp h_6 ⟨b_1, 0, none⟩ fun r0 =>
 R (r0.agg) h_6)
 (fun J =>
 JoinP (fun (t11 : Bool) h_7 =>
 JoinP (fun h_8 =>
 J h_8)
 (fun J_2 =>
 ite t11
 (  eid_Eid.LDp h_7 ⟨b, 2, none⟩ fun t15 =>
 ∃ t17, hcell h_7 ⟨b, 12, none⟩ = some (.int .i64 t17) ∧
 eid_Eid.STp h_7 ⟨b_2, 2, none⟩ t15 fun h_9 =>
 Kp h_7 h_9 [(some ⟨b, 12, none⟩)] ∧
 StoreP h_9 ⟨b_2, 12, none⟩ (.int .i64 t17) fun h_10 =>
 J_2 h_10)
 (  JoinP (fun (t20 : Bool) h_11 =>
 JoinP (fun h_12 =>
 J_2 h_12)
 (fun J_4 =>
 ite t20
 (  eid_Eid.LDp h_11 ⟨b, 2, none⟩ fun t24 =>
 eid_Eid.STp h_11 ⟨b_2, 2, none⟩ t24 fun h_13 =>
 J_4 h_13)
 (  JoinP (fun h_14 =>
 J_4 h_14)
 (fun J_5 =>
 ite (t10 == 4)
 (  eid_Eid.LDp h_11 ⟨b, 2, none⟩ fun t29 =>
 eid_Eid.LDp h_11 ⟨b, 7, none⟩ fun t31 =>
 ∃ t33_p t33_l t33_c, hcell h_11 ⟨b, 15, none⟩ = some (.slice t33_p t33_l t33_c) ∧
 ∃ t35, hcell h_11 ⟨b, 16, none⟩ = some (.int .u64 t35) ∧
 ∃ t37, hcell h_11 ⟨b, 18, none⟩ = some (.bool t37) ∧
 eid_Eid.STp h_11 ⟨b_2, 2, none⟩ t29 fun h_15 =>
 Kp h_11 h_15 [(some ⟨b, 18, none⟩), (some ⟨b, 16, none⟩), (some ⟨b, 15, none⟩), (some ⟨b, 7, none⟩)] ∧
 eid_Eid.STp h_15 ⟨b_2, 7, none⟩ t31 fun h_16 =>
 Kp h_15 h_16 [(some ⟨b, 18, none⟩), (some ⟨b, 16, none⟩), (some ⟨b, 15, none⟩)] ∧
 StoreP h_16 ⟨b_2, 15, none⟩ (.slice t33_p t33_l t33_c) fun h_17 =>
 Kp h_16 h_17 [(some ⟨b, 18, none⟩), (some ⟨b, 16, none⟩)] ∧
 StoreP h_17 ⟨b_2, 16, none⟩ (.int .u64 t35) fun h_18 =>
 Kp h_17 h_18 [(some ⟨b, 18, none⟩)] ∧
 StoreP h_18 ⟨b_2, 18, none⟩ (.bool t37) fun h_19 =>
 J_5 h_19)
 (  JoinP (fun (t43 : Bool) h_20 =>
 JoinP (fun h_21 =>
 J_5 h_21)
 (fun J_7 =>
 ite t43
 (  ∃ t48, hcell h_20 ⟨b, 13, none⟩ = some (.int .i64 t48) ∧
 StoreP h_20 ⟨b_2, 13, none⟩ (.int .i64 t48) fun h_22 =>
 J_7 h_22)
 (  JoinP (fun h_23 =>
 J_7 h_23)
 (fun J_8 =>
 ite (t10 == 7)
 (  eid_Eid.LDp h_20 ⟨b, 2, none⟩ fun t53 =>
 ∃ t55, hcell h_20 ⟨b, 14, none⟩ = some (.int .i64 t55) ∧
 eid_Eid.STp h_20 ⟨b_2, 2, none⟩ t53 fun h_24 =>
 Kp h_20 h_24 [(some ⟨b, 14, none⟩)] ∧
 StoreP h_24 ⟨b_2, 14, none⟩ (.int .i64 t55) fun h_25 =>
 J_8 h_25)
 (  JoinP (fun h_26 =>
 J_8 h_26)
 (fun J_9 =>
 ite (t10 == 10)
 (  ∃ t61, hcell h_20 ⟨b, 18, none⟩ = some (.bool t61) ∧
 StoreP h_20 ⟨b_2, 18, none⟩ (.bool t61) fun h_27 =>
 J_9 h_27)
 (  JoinP (fun h_28 =>
 J_9 h_28)
 (fun J_10 =>
 ite (t10 == 12)
 (  ∃ t66, hcell h_20 ⟨b, 17, none⟩ = some (.int .u64 t66) ∧
 StoreP h_20 ⟨b_2, 17, none⟩ (.int .u64 t66) fun h_29 =>
 J_10 h_29)
 (  J_10 h_20)))))))))
 (fun J_6 =>
 ite (t10 == 5)
 (  J_6 (t10 == 5) h_11)
 (  JoinP (fun (t43_1 : Bool) h_30 =>
 J_6 t43_1 h_30)
 (fun J_11 =>
 ite (t10 == 8)
 (  J_11 (t10 == 8) h_11)
 (  J_11 (t10 == 9) h_11)))))))))
 (fun J_3 =>
 ite (t10 == 2)
 (  J_3 (t10 == 2) h_7)
 (  J_3 (t10 == 6) h_7)))))
 (fun J_1 =>
 ite (t10 == 1)
 (  J_1 (t10 == 1) h_4)
 (  J_1 (t10 == 3) h_4)))) : Cl 184 #[x.agg] h R :=
 callsN [(7, .join []), (11, .join [(11, sB)]), (14, .join []), (15, fun _ => .planK (runP 8 0 .done)), (19, .join [(20, sB)]), (22, .join []), (26, .join []), (27, fun _ => .planK (runP 20 0 .done)), (31, .join [(43, sB)]), (35, .join [(43, sB)]), (38, .join []), (42, .join []), (43, fun _ => .planK (runP 8 0 .done)), (46, .join []), (50, .join [])] hv
theorem request_isName.walk {x : eid_Eid.S} (hv :
 NewP h (.cells x.arr 31) fun b h_1 =>
 eid_Eid.LDp h_1 ⟨b, 0, none⟩ fun t3 =>
 Cl 95 #[t3.agg] h_1 fun v h_2 =>
 ∃ t4, v = .bool t4 ∧
 ite t4
 (  eid_Eid.LDp h_2 ⟨b, 0, none⟩ fun t6 =>
 ∃ (eq : Bool), Eqz 31 (t6.agg) (eid_Eid.S.z.agg) eq ∧
 R (.bool (!eq)) h_2)
 (  R (.bool false) h_2)) : Cl 217 #[x.agg] h R :=
 callsN [] hv
theorem request_parts.walk (hv :
 NewP h (.cells x.arr 33) fun b h_1 =>
 ∃ t4, hcell h_1 ⟨b, 1, none⟩ = some (.int .i64 t4) ∧
 JoinP (fun (t5 : Bool) h_2 =>
 ite t5
 (  eid_Eid.LDp h_2 ⟨b, 2, none⟩ fun t9 =>
 Cl 217 #[t9.agg] h_2 fun v h_3 =>
 ∃ t10, v = .bool t10 ∧
 ite t10
 (  ∃ t13, hcell h_3 ⟨b, 12, none⟩ = some (.int .i64 t13) ∧
 ite (decide (t13 ≥ 0))
 (  ∃ t18, hcell h_3 ⟨b, 12, none⟩ = some (.int .i64 t18) ∧
 R (.bool (decide (t18 ≤ 2))) h_3)
 (  R (.bool false) h_3))
 (  R (.bool false) h_3))
 (  JoinP (fun (t21 : Bool) h_4 =>
 ite t21
 (  eid_Eid.LDp h_4 ⟨b, 2, none⟩ fun t25 =>
 Cl 217 #[t25.agg] h_4 fun v_1 h_5 =>
 ∃ t26, v_1 = .bool t26 ∧
 R (.bool t26) h_5)
 (  ite (t4 == 4)
 (  eid_Eid.LDp h_4 ⟨b, 2, none⟩ fun t30 =>
 Cl 217 #[t30.agg] h_4 fun v_2 h_6 =>
 ∃ t31, v_2 = .bool t31 ∧
 ite t31
 (  eid_Eid.LDp h_6 ⟨b, 7, none⟩ fun t34 =>
 Cl 217 #[t34.agg] h_6 fun v_3 h_7 =>
 ∃ t35, v_3 = .bool t35 ∧
 ite t35
 (  ∃ t39_p t39_l t39_c, hcell h_7 ⟨b, 15, none⟩ = some (.slice t39_p t39_l t39_c) ∧
 ite (decide (((t39_l : Nat) : Int) ≤ 200))
 (  ∃ t45, hcell h_7 ⟨b, 16, none⟩ = some (.int .u64 t45) ∧
 ite (decide (t45 ≥ 1))
 (  ∃ t50, hcell h_7 ⟨b, 16, none⟩ = some (.int .u64 t50) ∧
 R (.bool (decide (t50 ≤ 1099511627776))) h_7)
 (  R (.bool false) h_7))
 (  R (.bool false) h_7))
 (  R (.bool false) h_7))
 (  R (.bool false) h_6))
 (  JoinP (fun (t53 : Bool) h_8 =>
 ite t53
 (  ∃ t58, hcell h_8 ⟨b, 13, none⟩ = some (.int .i64 t58) ∧
 ite (decide (t58 ≥ 1))
 (  ∃ t62, hcell h_8 ⟨b, 13, none⟩ = some (.int .i64 t62) ∧
 R (.bool (decide (t62 ≤ 1099511627776))) h_8)
 (  R (.bool false) h_8))
 (  ite (t4 == 7)
 (  eid_Eid.LDp h_8 ⟨b, 2, none⟩ fun t68 =>
 Cl 217 #[t68.agg] h_8 fun v_4 h_9 =>
 ∃ t69, v_4 = .bool t69 ∧
 ite t69
 (  ∃ t72, hcell h_9 ⟨b, 14, none⟩ = some (.int .i64 t72) ∧
 ite (decide (t72 ≥ 1))
 (  ∃ t77, hcell h_9 ⟨b, 14, none⟩ = some (.int .i64 t77) ∧
 R (.bool (decide (t77 ≤ 1000))) h_9)
 (  R (.bool false) h_9))
 (  R (.bool false) h_9))
 (  ite (t4 == 12)
 (  ∃ t83, hcell h_8 ⟨b, 17, none⟩ = some (.int .u64 t83) ∧
 ite (decide (t83 ≥ 1))
 (  ∃ t87, hcell h_8 ⟨b, 17, none⟩ = some (.int .u64 t87) ∧
 R (.bool (decide (t87 ≤ 2147483648))) h_8)
 (  R (.bool false) h_8))
 (  ∃ t91, hcell h_8 ⟨b, 1, none⟩ = some (.int .i64 t91) ∧
 ite (t91 == 10)
 (  R (.bool true) h_8)
 (  ∃ t95, hcell h_8 ⟨b, 1, none⟩ = some (.int .i64 t95) ∧
 R (.bool (t95 == 11)) h_8)))))
 (fun J_2 =>
 ite (t4 == 5)
 (  J_2 (t4 == 5) h_4)
 (  JoinP (fun (t53_1 : Bool) h_10 =>
 J_2 t53_1 h_10)
 (fun J_3 =>
 ite (t4 == 8)
 (  J_3 (t4 == 8) h_4)
 (  J_3 (t4 == 9) h_4)))))))
 (fun J_1 =>
 ite (t4 == 2)
 (  J_1 (t4 == 2) h_2)
 (  J_1 (t4 == 6) h_2))))
 (fun J =>
 ite (t4 == 1)
 (  J (t4 == 1) h_1)
 (  J (t4 == 3) h_1))) : Cl 182 #[x.agg] h R :=
 callsN [(9, .join [(5, sB)]), (19, .join [(21, sB)]), (35, .join [(53, sB)]), (39, .join [(53, sB)])] hv
theorem request_Right.walk (hv :
 NewP h (.cells x.arr 33) fun b h_1 =>
 ∃ t4, hcell h_1 ⟨b, 0, none⟩ = some (.int .u64 t4) ∧
 ite (decide (t4 ≥ 1))
 (  ∃ t8, hcell h_1 ⟨b, 0, none⟩ = some (.int .u64 t8) ∧
 ite (decide (t8 ≤ 1099511627776))
 (  request_Request.LDp h_1 ⟨b, 0, none⟩ fun t12 =>
 Cl 182 #[t12.agg] h_1 fun v h_2 =>
 ∃ t13, v = .bool t13 ∧
 Kp h_1 h_2 [(some ⟨b, 0, none⟩), (some ⟨b, 0, none⟩)] ∧
 ite t13
 (  request_Request.LDp h_2 ⟨b, 0, none⟩ fun t16 =>
 request_Request.LDp h_2 ⟨b, 0, none⟩ fun t17 =>
 Cl 184 #[t17.agg] h_2 fun v_1 h_3 =>
 request_Request.EX fun t18 =>
 v_1 = t18.agg ∧
 Kp h_2 h_3 [(some ⟨b, 0, none⟩), (some ⟨b, 0, none⟩), (some ⟨b, 0, none⟩)] ∧
 Cl 183 #[t16.agg, t18.agg] h_3 fun v_2 h_4 =>
 ∃ t19, v_2 = .bool t19 ∧
 Kp h_3 h_4 [(some ⟨b, 0, none⟩), (some ⟨b, 0, none⟩)] ∧
 R (.bool t19) h_4)
 (  R (.bool false) h_2))
 (  R (.bool false) h_1))
 (  R (.bool false) h_1)) : Cl 149 #[x.agg] h R :=
 callsN [(3, fun _ => .planK (runP 19 0 .done))] hv

end
section
namespace Ask
open Eid (Ev rightE ev5)
open Bn (eldn)
variable {h h' g:Heap} {R:TyP} {p q:TyO} {c d:Nat}
variable {b:Nat} {y:request_Request.S} {x:eid_Eid.S} {K:Heap→Prop}
abbrev Rq.s (x : Rq) (p : Option Addr) (c : Nat) : request_Request.S := ⟨x.id, x.kind, x.ep.ipn, x.ep.node, x.ep.svc, x.ep.host, x.ep.dem, x.dest.ipn, x.dest.node, x.dest.svc, x.dest.host, x.dest.dem, x.pol, x.num, x.ticks, p, x.pay.length, c, x.life, x.token, x.on⟩
theorem qdec (x y : Rq) : decide (x = y) = (((x.id : Int) == (y.id : Int)) && ((x.kind == y.kind) && (decide (x.ep = y.ep) && (decide (x.dest = y.dest) && ((x.pol == y.pol) && ((x.num == y.num) && ((x.ticks == y.ticks) && (decide (x.pay = y.pay) && (((x.life : Int) == (y.life : Int)) && (((x.token : Int) == (y.token : Int)) && (x.on == y.on))))))))))) := by
  rw [Bool.eq_iff_iff]
  cases x; cases y
  simp [Int.ofNat_inj]
theorem qsame_ok (x y : Rq) (rx : Row h p (bc x.pay)) (ry : Row h q (bc y.pay)) (hk : ∀ h', Fr No h h' → R (.bool (decide (x = y))) h') : Cl 183 #[(x.s p c).agg, (y.s q d).agg] h R := by
  refine request_Same.walk (request_Request.boxp fun b h1 eb hb f1 => request_Request.boxp fun b1 h2 eb1 hb1 f2 => ?_)
  have hb2 := f2.get hb id
  have F2 := f1.tt f2
  simp only [qdec] at hk
  exact ⟨_, cell_at hb2 rfl, _, cell_at hb1 rfl, andQ hk F2 fun hk => ⟨_, cell_at hb2 rfl, _, cell_at hb1 rfl, andQ hk F2 fun hk => eldn x.ep hb2 rfl rfl rfl rfl rfl (eldn y.ep hb1 rfl rfl rfl rfl rfl ⟨_, Eid.eqv' (x := x.ep) (y := y.ep) rfl rfl, andQ hk F2 fun hk => eldn x.dest hb2 rfl rfl rfl rfl rfl (eldn y.dest hb1 rfl rfl rfl rfl rfl ⟨_, Eid.eqv' (x := x.dest) (y := y.dest) rfl rfl, andQ hk F2 fun hk =>
    ⟨_, cell_at hb2 rfl, _, cell_at hb1 rfl, andQ hk F2 fun hk => ⟨_, cell_at hb2 rfl, _, cell_at hb1 rfl, andQ hk F2 fun hk => ⟨_, cell_at hb2 rfl, _, cell_at hb1 rfl, andQ hk F2 fun hk => ⟨_, _, _, cell_at hb2 rfl, _, _, _, cell_at hb1 rfl, Cb.bytesEq_ok (rx.frame F2 (fun _ _ => id)) (ry.frame F2 (fun _ _ => id)) rfl rfl ⟨_, rfl, andQ hk F2 fun hk => ⟨_, cell_at hb2 rfl, _, cell_at hb1 rfl, andQ hk F2 fun hk => ⟨_, cell_at hb2 rfl, _, cell_at hb1 rfl, andQ hk F2 fun hk => ⟨_, cell_at hb2 rfl, _, cell_at hb1 rfl, hk h2 F2⟩⟩⟩⟩⟩⟩⟩⟩⟩)⟩)⟩⟩
theorem isName_ok (e : Ev) (hk : ∀ h', Fr No h h' → R (.bool (nameQ e)) h') : Cl 217 #[e.s.agg] h R := by
  refine request_isName.walk (eid_Eid.boxp fun b h1 eb hb f1 => eid_Eid.ldp hb (Eid.right_ok e fun h2 f2 => ⟨_, rfl, ?_⟩))
  unfold nameQ at hk
  cases c1 : rightE e with
  | false => rw [c1] at hk; exact hk h2 (f1.tt f2)
  | true => rw [c1] at hk; rw [if_pos rfl]; exact eid_Eid.ldp (f2.get hb id) ⟨_, Eid.eqv' rfl rfl, hk h2 (f1.tt f2)⟩
theorem rqep (hb : request_Request.atp h b y) (hk : ∀ h', request_Request.atp h' b { y with f2 := x.f0, f3 := x.f1, f4 := x.f2, f5 := x.f3, f6 := x.f4 } → Fr (fun y => y = b) h h' → K h') : eid_Eid.STp h ⟨b, 2, none⟩ x K :=
  (show storeL ⟨b, 2, none⟩ x.l 0 h K from storeL_at hb (by simp) rfl rfl fun h1 d1 d2 d3 => hk h1 d1 (Fr.of_eq d2 fun c hc => d3 c hc))
theorem rqdest (hb : request_Request.atp h b y) (hk : ∀ h', request_Request.atp h' b { y with f7 := x.f0, f8 := x.f1, f9 := x.f2, f10 := x.f3, f11 := x.f4 } → Fr (fun y => y = b) h h' → K h') : eid_Eid.STp h ⟨b, 7, none⟩ x K :=
  (show storeL ⟨b, 7, none⟩ x.l 0 h K from storeL_at hb (by simp) rfl rfl fun h1 d1 d2 d3 => hk h1 d1 (Fr.of_eq d2 fun c hc => d3 c hc))
theorem rqcell {i:Nat} {z:request_Request.S} {v : Value} (hb : request_Request.atp h b y) (hi : i < 19) (hz : y.arr.setIfInBounds i v = z.arr) (hk : ∀ h', request_Request.atp h' b z → Fr (fun y => y = b) h h' → K h') : StoreP h ⟨b, i, none⟩ v K :=
  storeP_blk hb hi fun h1 d1 d2 d3 => hk h1 (by grind) (Fr.of_eq d2 fun c hc => d3 c hc)
theorem kpo {b2:Nat} {l : List (Option Addr)} (f : Fr (fun y => y = b2) h h') (ne : b ≠ b2) (hl : ∀ p ∈ l, p.map (·.block) = some b) : Kp h h' l := f.kps fun p hp x e hb => ne (by grind)
theorem bq {n k : Int} : ((n == k) = true ↔ n = k) := beq_iff_eq
theorem own_ok (x : Rq) (rx : Row h p (bc x.pay)) (hk : ∀ h' p' c', Row h' p' (bc (ownQ x).pay) → Fr No h h' → R ((ownQ x).s p' c').agg h') : Cl 184 #[(x.s p c).agg] h R := by
  refine request_own.walk (request_Request.boxp fun b h1 eb hb f1 => request_Request.boxp fun b1 h2 eb1 hb1 f2 => ⟨_, cell_at (f2.get hb id) rfl, _, cell_at (f2.get hb id) rfl, request_Request.newp (x := (baseQ x).s none 0) fun b2 h4 eb2 hb2 f4 => ?_⟩)
  have hb4 := (f2.tt f4).get hb id
  have F4 := f1.tt (f2.tt f4)
  have zb := lt_of_get hb
  have zb1 := lt_of_get hb1
  have z1 := f1.1
  have z2 := f2.1
  have ne : b ≠ b2 := by omega
  have ne1 : b1 ≠ b2 := by omega
  refine ⟨_, cell_at hb4 rfl, JoinP.of fun J hJ => JoinP.of fun J1 hJ1 => ?_⟩
  have fin : ∀ g p' c', request_Request.atp g b2 ((ownQ x).s p' c') → Row h p' (bc (ownQ x).pay) → Fr (fun y => y = b2) h4 g → J g := by
    intro g p' c' hg hr fg
    have Fg : Fr No h2 g := f4.fresh fg (fun y e => by omega)
    have G := (f1.tt f2).tt Fg
    subst hJ
    refine request_Request.ldp hg (request_Request.setp (x := (ownQ x).s p' c') (Fg.get hb1 id) fun h6 d6 f6 _ => request_Request.ldp d6 ?_)
    have G6 := G.fresh f6 (fun y e => by omega)
    exact hk h6 p' c' (hr.frame G6 (fun _ _ => id)) G6
  have none0 : Row h none (bc []) := Row.nil
  have key : ∀ v, (v = true ↔ x.kind = 1 ∨ x.kind = 3) → J1 v h4 := by
    intro v hv
    subst hJ1
    dsimp only
    refine JoinP.of fun J2 hJ2 => ?_
    by_cases k1 : x.kind = 1 ∨ x.kind = 3
    · have eo : ownQ x = { baseQ x with ep := x.ep, pol := x.pol } := if_pos k1
      rw [eo] at fin
      rw [if_pos (hv.2 k1)]
      exact eldn x.ep hb4 rfl rfl rfl rfl rfl ⟨_, cell_at hb4 rfl, rqep hb2 fun g1 e1 f5 => ⟨kpo f5 ne (by simp), rqcell (z := ({ baseQ x with ep := x.ep, pol := x.pol } : Rq).s none 0) e1 (by decide) rfl fun g2 e2 f6 => by subst hJ2; exact fin g2 none 0 e2 none0 (f5.tt f6)⟩⟩
    rw [if_neg (fun e => k1 (hv.1 e))]
    refine JoinP.of fun J3 hJ3 => ?_
    have key2 : ∀ v, (v = true ↔ x.kind = 2 ∨ x.kind = 6) → J3 v h4 := by
      intro v hv
      subst hJ3
      dsimp only
      refine JoinP.of fun J4 hJ4 => ?_
      by_cases k2 : x.kind = 2 ∨ x.kind = 6
      · have eo : ownQ x = { baseQ x with ep := x.ep } := (if_neg k1).trans (if_pos k2)
        rw [eo] at fin
        rw [if_pos (hv.2 k2)]
        exact eldn x.ep hb4 rfl rfl rfl rfl rfl (rqep hb2 fun g1 e1 f5 => by subst hJ4; subst hJ2; exact fin g1 none 0 e1 none0 f5)
      rw [if_neg (fun e => k2 (hv.1 e))]
      refine JoinP.of fun J5 hJ5 => ?_
      by_cases k4 : x.kind = 4
      · have eo : ownQ x = { baseQ x with ep := x.ep, dest := x.dest, pay := x.pay, life := x.life, on := x.on } := (if_neg k1).trans ((if_neg k2).trans (if_pos k4))
        rw [eo] at fin
        rw [if_pos (bq.2 k4)]
        refine eldn x.ep hb4 rfl rfl rfl rfl rfl (eldn x.dest hb4 rfl rfl rfl rfl rfl ⟨_, _, _, cell_at hb4 rfl, _, cell_at hb4 rfl, _, cell_at hb4 rfl, rqep hb2 fun g1 e1 f5 => ⟨kpo f5 ne (by simp), rqdest e1 fun g2 e2 f6 => ⟨kpo f6 ne (by simp), ?_⟩⟩⟩)
        refine rqcell (z := ({ baseQ x with ep := x.ep, dest := x.dest, pay := x.pay } : Rq).s p c) e2 (by decide) rfl fun g3 e3 f7 => ⟨kpo f7 ne (by simp), ?_⟩
        refine rqcell (z := ({ baseQ x with ep := x.ep, dest := x.dest, pay := x.pay, life := x.life } : Rq).s p c) e3 (by decide) rfl fun g4 e4 f8 => ⟨kpo f8 ne (by simp), ?_⟩
        refine rqcell (z := ({ baseQ x with ep := x.ep, dest := x.dest, pay := x.pay, life := x.life, on := x.on } : Rq).s p c) e4 (by decide) rfl fun g5 e5 f9 => ?_
        subst hJ5; subst hJ4; subst hJ2
        exact fin g5 p c e5 rx (f5.tt (f6.tt (f7.tt (f8.tt f9))))
      rw [if_neg (fun e => k4 (bq.1 e))]
      refine JoinP.of fun J6 hJ6 => ?_
      have key5 : ∀ v, (v = true ↔ x.kind = 5 ∨ x.kind = 8 ∨ x.kind = 9) → J6 v h4 := by
        intro v hv
        subst hJ6
        dsimp only
        refine JoinP.of fun J7 hJ7 => ?_
        by_cases k5 : x.kind = 5 ∨ x.kind = 8 ∨ x.kind = 9
        · have eo : ownQ x = { baseQ x with num := x.num } := (if_neg k1).trans ((if_neg k2).trans ((if_neg k4).trans (if_pos k5)))
          rw [eo] at fin
          rw [if_pos (hv.2 k5)]
          exact ⟨_, cell_at hb4 rfl, rqcell (z := ({ baseQ x with num := x.num } : Rq).s none 0) hb2 (by decide) rfl fun g1 e1 f5 => by subst hJ7; subst hJ5; subst hJ4; subst hJ2; exact fin g1 none 0 e1 none0 f5⟩
        rw [if_neg (fun e => k5 (hv.1 e))]
        refine JoinP.of fun J8 hJ8 => ?_
        by_cases k7 : x.kind = 7
        · have eo : ownQ x = { baseQ x with ep := x.ep, ticks := x.ticks } := (if_neg k1).trans ((if_neg k2).trans ((if_neg k4).trans ((if_neg k5).trans (if_pos k7))))
          rw [eo] at fin
          rw [if_pos (bq.2 k7)]
          exact eldn x.ep hb4 rfl rfl rfl rfl rfl ⟨_, cell_at hb4 rfl, rqep hb2 fun g1 e1 f5 => ⟨kpo f5 ne (by simp), rqcell (z := ({ baseQ x with ep := x.ep, ticks := x.ticks } : Rq).s none 0) e1 (by decide) rfl fun g2 e2 f6 => by subst hJ8; subst hJ7; subst hJ5; subst hJ4; subst hJ2; exact fin g2 none 0 e2 none0 (f5.tt f6)⟩⟩
        rw [if_neg (fun e => k7 (bq.1 e))]
        refine JoinP.of fun J9 hJ9 => ?_
        by_cases k10 : x.kind = 10
        · have eo : ownQ x = { baseQ x with on := x.on } := (if_neg k1).trans ((if_neg k2).trans ((if_neg k4).trans ((if_neg k5).trans ((if_neg k7).trans (if_pos k10)))))
          rw [eo] at fin
          rw [if_pos (bq.2 k10)]
          exact ⟨_, cell_at hb4 rfl, rqcell (z := ({ baseQ x with on := x.on } : Rq).s none 0) hb2 (by decide) rfl fun g1 e1 f5 => by subst hJ9; subst hJ8; subst hJ7; subst hJ5; subst hJ4; subst hJ2; exact fin g1 none 0 e1 none0 f5⟩
        rw [if_neg (fun e => k10 (bq.1 e))]
        refine JoinP.of fun J10 hJ10 => ?_
        by_cases k12 : x.kind = 12
        · have eo : ownQ x = { baseQ x with token := x.token } := (if_neg k1).trans ((if_neg k2).trans ((if_neg k4).trans ((if_neg k5).trans ((if_neg k7).trans ((if_neg k10).trans (if_pos k12))))))
          rw [eo] at fin
          rw [if_pos (bq.2 k12)]
          exact ⟨_, cell_at hb4 rfl, rqcell (z := ({ baseQ x with token := x.token } : Rq).s none 0) hb2 (by decide) rfl fun g1 e1 f5 => by subst hJ10; subst hJ9; subst hJ8; subst hJ7; subst hJ5; subst hJ4; subst hJ2; exact fin g1 none 0 e1 none0 f5⟩
        rw [if_neg (fun e => k12 (bq.1 e))]
        have eo : ownQ x = baseQ x := (if_neg k1).trans ((if_neg k2).trans ((if_neg k4).trans ((if_neg k5).trans ((if_neg k7).trans ((if_neg k10).trans (if_neg k12))))))
        rw [eo] at fin
        subst hJ10; subst hJ9; subst hJ8; subst hJ7; subst hJ5; subst hJ4; subst hJ2
        exact fin h4 none 0 hb2 none0 (Fr.refl _ _)
      by_cases k5 : x.kind = 5
      · grind
      rw [if_neg (fun e => k5 (bq.1 e))]
      refine JoinP.of fun J11 hJ11 => ?_
      subst hJ11
      dsimp only
      by_cases k8 : x.kind = 8
      · grind
      rw [if_neg (fun e => k8 (bq.1 e))]
      exact key5 _ ⟨fun e => .inr (.inr (bq.1 e)), fun e => bq.2 ((e.resolve_left k5).resolve_left k8)⟩
    by_cases k2 : x.kind = 2
    · grind
    rw [if_neg (fun e => k2 (bq.1 e))]
    exact key2 _ ⟨fun e => .inr (bq.1 e), fun e => bq.2 (e.resolve_left k2)⟩
  by_cases k1 : x.kind = 1
  · rw [if_pos (bq.2 k1)]
    exact key _ ⟨fun _ => .inl k1, fun _ => bq.2 k1⟩
  rw [if_neg (fun e => k1 (bq.1 e))]
  exact key _ ⟨fun e => .inr (bq.1 e), fun e => bq.2 (e.resolve_left k1)⟩
theorem dec_ge (n k : Nat) : decide ((n : Int) ≥ (k : Int)) = decide (n ≥ k) := by simp
theorem parts_ok (x : Rq) (hk : ∀ h', Fr No h h' → R (.bool (partsQ x)) h') : Cl 182 #[(x.s p c).agg] h R := by
  refine request_parts.walk (request_Request.boxp fun b h1 eb hb f1 => ⟨_, cell_at hb rfl, JoinP.of fun J1 hJ1 => ?_⟩)
  have key : ∀ v, (v = true ↔ x.kind = 1 ∨ x.kind = 3) → J1 v h1 := by
    intro v hv
    subst hJ1
    dsimp only
    by_cases k1 : x.kind = 1 ∨ x.kind = 3
    · rw [show partsQ x = (nameQ x.ep && (decide (x.pol ≥ 0) && decide (x.pol ≤ 2))) from (if_pos k1).trans (Bool.and_assoc ..)] at hk
      rw [if_pos (hv.2 k1)]
      exact eldn x.ep hb rfl rfl rfl rfl rfl (isName_ok x.ep fun h3 f3 => ⟨_, rfl, andI (hk h3 (f1.tt f3)) fun hk => ⟨_, cell_at (f3.get hb id) rfl, andI hk fun hk => ⟨_, cell_at (f3.get hb id) rfl, hk⟩⟩⟩)
    rw [if_neg (fun e => k1 (hv.1 e))]
    refine JoinP.of fun J2 hJ2 => ?_
    have key2 : ∀ v, (v = true ↔ x.kind = 2 ∨ x.kind = 6) → J2 v h1 := by
      intro v hv
      subst hJ2
      dsimp only
      by_cases k2 : x.kind = 2 ∨ x.kind = 6
      · have eo : partsQ x = nameQ x.ep := (if_neg k1).trans (if_pos k2)
        rw [eo] at hk
        rw [if_pos (hv.2 k2)]
        exact eldn x.ep hb rfl rfl rfl rfl rfl (isName_ok x.ep fun h3 f3 => ⟨_, rfl, hk h3 (f1.tt f3)⟩)
      rw [if_neg (fun e => k2 (hv.1 e))]
      by_cases k4 : x.kind = 4
      · have eo : partsQ x = (nameQ x.ep && nameQ x.dest && decide (x.pay.length ≤ 200) && decide (x.life ≥ 1) && decide (x.life ≤ 1099511627776)) := (if_neg k1).trans ((if_neg k2).trans (if_pos k4))
        simp only [Bool.and_assoc] at eo
        rw [eo] at hk
        rw [if_pos (bq.2 k4)]
        refine eldn x.ep hb rfl rfl rfl rfl rfl (isName_ok x.ep fun h3 f3 => ⟨_, rfl, andQ hk (f1.tt f3) fun hk => eldn x.dest (f3.get hb id) rfl rfl rfl rfl rfl (isName_ok x.dest fun h4 f4 => ⟨_, rfl, ?_⟩)⟩)
        have hb4 := (f3.tt f4).get hb id
        exact andI (hk h4 (f1.tt (f3.tt f4))) fun hk => ⟨_, _, _, cell_at hb4 rfl, andI hk (fun hk => ⟨_, cell_at hb4 rfl, andI hk (fun hk => ⟨_, cell_at hb4 rfl, by rw [show decide (((x.s p c).f16 : Int) ≤ 1099511627776) = _ from Bn.dec_le x.life 1099511627776]; exact hk⟩) (dec_ge x.life 1)⟩) (Bn.dec_le x.pay.length 200)⟩
      rw [if_neg (fun e => k4 (bq.1 e))]
      refine JoinP.of fun J3 hJ3 => ?_
      have hk0 := hk
      have hk := hk h1 f1
      have key5 : ∀ v, (v = true ↔ x.kind = 5 ∨ x.kind = 8 ∨ x.kind = 9) → J3 v h1 := by
        intro v hv
        subst hJ3
        dsimp only
        by_cases k5 : x.kind = 5 ∨ x.kind = 8 ∨ x.kind = 9
        · have eo : partsQ x = (decide (x.num ≥ 1) && decide (x.num ≤ 1099511627776)) := (if_neg k1).trans ((if_neg k2).trans ((if_neg k4).trans (if_pos k5)))
          rw [eo] at hk
          rw [if_pos (hv.2 k5)]
          exact ⟨_, cell_at hb rfl, andI hk fun hk => ⟨_, cell_at hb rfl, hk⟩⟩
        rw [if_neg (fun e => k5 (hv.1 e))]
        by_cases k7 : x.kind = 7
        · have eo : partsQ x = (nameQ x.ep && decide (x.ticks ≥ 1) && decide (x.ticks ≤ 1000)) := (if_neg k1).trans ((if_neg k2).trans ((if_neg k4).trans ((if_neg k5).trans (if_pos k7))))
          rw [eo, Bool.and_assoc] at hk0
          rw [if_pos (bq.2 k7)]
          exact eldn x.ep hb rfl rfl rfl rfl rfl (isName_ok x.ep fun h3 f3 => ⟨_, rfl, andI (hk0 h3 (f1.tt f3)) fun hk => ⟨_, cell_at (f3.get hb id) rfl, andI hk fun hk => ⟨_, cell_at (f3.get hb id) rfl, hk⟩⟩⟩)
        rw [if_neg (fun e => k7 (bq.1 e))]
        by_cases k12 : x.kind = 12
        · have eo : partsQ x = (decide (x.token ≥ 1) && decide (x.token ≤ 2147483648)) := (if_neg k1).trans ((if_neg k2).trans ((if_neg k4).trans ((if_neg k5).trans ((if_neg k7).trans (if_pos k12)))))
          rw [eo] at hk
          rw [if_pos (bq.2 k12)]
          exact ⟨_, cell_at hb rfl, andI hk (fun hk => ⟨_, cell_at hb rfl, by rw [show decide (((x.s p c).f17 : Int) ≤ 2147483648) = _ from Bn.dec_le x.token 2147483648]; exact hk⟩) (dec_ge x.token 1)⟩
        rw [if_neg (fun e => k12 (bq.1 e))]
        have eo : partsQ x = decide (x.kind = 10 ∨ x.kind = 11) := (if_neg k1).trans ((if_neg k2).trans ((if_neg k4).trans ((if_neg k5).trans ((if_neg k7).trans (if_neg k12)))))
        rw [eo] at hk
        refine ⟨_, cell_at hb rfl, ?_⟩
        by_cases k10 : x.kind = 10
        · rw [if_pos (bq.2 k10)]; rw [decide_eq_true (.inl k10)] at hk; exact hk
        · rw [if_neg (fun e => k10 (bq.1 e))]
          refine ⟨_, cell_at hb rfl, ?_⟩
          have e5 : decide (x.kind = 10 ∨ x.kind = 11) = (x.kind == 11) := by by_cases k11 : x.kind = 11 <;> simp [k10, k11]
          rw [e5] at hk; exact hk
      by_cases k5 : x.kind = 5
      · grind
      rw [if_neg (fun e => k5 (bq.1 e))]
      refine JoinP.of fun J11 hJ11 => ?_
      subst hJ11
      dsimp only
      by_cases k8 : x.kind = 8
      · grind
      rw [if_neg (fun e => k8 (bq.1 e))]
      exact key5 _ ⟨fun e => .inr (.inr (bq.1 e)), fun e => bq.2 ((e.resolve_left k5).resolve_left k8)⟩
    by_cases k2 : x.kind = 2
    · simp_all
    rw [if_neg (fun e => k2 (bq.1 e))]
    exact key2 _ ⟨fun e => .inr (bq.1 e), fun e => bq.2 (e.resolve_left k2)⟩
  by_cases k1 : x.kind = 1
  · rw [if_pos (bq.2 k1)]
    exact key _ ⟨fun _ => .inl k1, fun _ => bq.2 k1⟩
  rw [if_neg (fun e => k1 (bq.1 e))]
  exact key _ ⟨fun e => .inr (bq.1 e), fun e => bq.2 (e.resolve_left k1)⟩
theorem right_ok (x : Rq) (rx : Row h p (bc x.pay)) (hk : ∀ h', Fr No h h' → R (.bool (rightQ x)) h') : Cl 149 #[(x.s p c).agg] h R := by
  refine request_Right.walk (request_Request.boxp fun b h1 eb hb f1 => ⟨_, cell_at hb rfl, ?_⟩)
  unfold rightQ at hk
  simp only [Bool.and_assoc] at hk
  rw [show decide (((x.s p c).f0 : Int) ≥ 1) = _ from dec_ge x.id 1]
  refine andQ hk f1 fun hk => ⟨_, cell_at hb rfl, ?_⟩
  rw [show decide (((x.s p c).f0 : Int) ≤ 1099511627776) = _ from Bn.dec_le x.id 1099511627776]
  refine andQ hk f1 fun hk => request_Request.ldp hb (parts_ok x fun h2 f2 => ⟨_, rfl, f2.kp, andQ hk (f1.tt f2) fun hk => ?_⟩)
  have hb2 := f2.get hb _root_.id
  have F2 := f1.tt f2
  refine request_Request.ldp hb2 (request_Request.ldp hb2 (own_ok x (rx.frame F2 (fun _ _ => _root_.id)) fun h3 p' c' r3 f3 => request_Request.ex ((ownQ x).s p' c') ⟨rfl, f3.kp, (qsame_ok x (ownQ x) (rx.frame (F2.tt f3) (fun _ _ => _root_.id)) r3 fun h4 f4 => ⟨_, rfl, f4.kp, (hk h4 (F2.tt (f3.tt f4)))⟩)⟩))

end Ask
end
section
variable {h:Heap} {R:TyP}
theorem request_Read.walk {b_p : Option Addr} {b_l b_c : Nat} (hv :
 NewP h (.cells request_Request.S.z.arr 33) fun b h_1 =>
 Cl 74 #[.slice b_p b_l b_c] h_1 fun v h_2 =>
 ∃ t9, v = .pointer t9 ∧
 Cl 75 #[.pointer t9] h_2 fun v_1 h_3 =>
 ∃ t11, v_1 = .int .u64 t11 ∧
 Cl 76 #[.pointer t9] h_3 fun v_2 h_4 =>
 ∃ t13, v_2 = .int .i64 t13 ∧
 NewP h_4 (.cells request_Request.S.z.arr 33) fun b_1 h_5 =>
 request_Request.STp h_5 ⟨b_1, 0, none⟩ ⟨t11, t13, false, 0, 0, (⟨#[]⟩ : ByteArray), (⟨#[]⟩ : ByteArray), false, 0, 0, (⟨#[]⟩ : ByteArray), (⟨#[]⟩ : ByteArray), 0, 0, 0, none, 0, 0, 0, 0, false⟩ fun h_6 =>
 ∃ t16, hcell h_6 ⟨b_1, 1, none⟩ = some (.int .i64 t16) ∧
 JoinP (fun h_7 =>
 request_Request.LDp h_7 ⟨b_1, 0, none⟩ fun t75 =>
 Cl 121 #[t75.agg] h_7 fun v_3 h_8 =>
 ∃ t76_0_p t76_0_l t76_0_c t76_1, v_3 = .tuple #[.slice t76_0_p t76_0_l t76_0_c, .int .i64 t76_1] ∧
 JoinP (fun (t91 : Bool) h_9 =>
 ite t91
 (  request_Request.STp h_9 ⟨b, 0, none⟩ request_Request.S.z fun h_10 =>
 request_Request.LDp h_10 ⟨b, 0, none⟩ fun r0 =>
 R (.tuple #[r0.agg, .int .i64 3]) h_10)
 (  request_Request.LDp h_9 ⟨b_1, 0, none⟩ fun t93 =>
 request_Request.STp h_9 ⟨b, 0, none⟩ t93 fun h_11 =>
 request_Request.LDp h_11 ⟨b, 0, none⟩ fun r0_1 =>
 R (.tuple #[r0_1.agg, .int .i64 0]) h_11))
 (fun J_1 =>
 ite (t76_1 != 0)
 (  J_1 true h_8)
 (  Cl 78 #[.pointer t9] h_8 fun v_4 h_12 =>
 ∃ t83, v_4 = .int .i64 t83 ∧
 ite (t83 != 0)
 (  J_1 true h_12)
 (  Cl 122 #[.slice t76_0_p t76_0_l t76_0_c, .slice b_p b_l b_c] h_12 fun v_5 h_13 =>
 ∃ t89, v_5 = .bool t89 ∧
 J_1 (!t89) h_13))))
 (fun J =>
 JoinP (fun (t17 : Bool) h_14 =>
 JoinP (fun h_15 =>
 J h_15)
 (fun J_3 =>
 ite t17
 (  Cl 119 #[.pointer t9] h_14 fun v_6 h_16 =>
 eid_Eid.EX fun t21 =>
 v_6 = t21.agg ∧
 eid_Eid.STp h_16 ⟨b_1, 2, none⟩ t21 fun h_17 =>
 Cl 76 #[.pointer t9] h_17 fun v_7 h_18 =>
 ∃ t24, v_7 = .int .i64 t24 ∧
 StoreP h_18 ⟨b_1, 12, none⟩ (.int .i64 t24) fun h_19 =>
 J_3 h_19)
 (  JoinP (fun (t26 : Bool) h_20 =>
 JoinP (fun h_21 =>
 J_3 h_21)
 (fun J_5 =>
 ite t26
 (  Cl 119 #[.pointer t9] h_20 fun v_8 h_22 =>
 eid_Eid.EX fun t30 =>
 v_8 = t30.agg ∧
 eid_Eid.STp h_22 ⟨b_1, 2, none⟩ t30 fun h_23 =>
 J_5 h_23)
 (  JoinP (fun h_24 =>
 J_5 h_24)
 (fun J_6 =>
 ite (t16 == 4)
 (  Cl 119 #[.pointer t9] h_20 fun v_9 h_25 =>
 eid_Eid.EX fun t35 =>
 v_9 = t35.agg ∧
 eid_Eid.STp h_25 ⟨b_1, 2, none⟩ t35 fun h_26 =>
 Cl 119 #[.pointer t9] h_26 fun v_10 h_27 =>
 eid_Eid.EX fun t38 =>
 v_10 = t38.agg ∧
 eid_Eid.STp h_27 ⟨b_1, 7, none⟩ t38 fun h_28 =>
 Cl 77 #[.pointer t9] h_28 fun v_11 h_29 =>
 ∃ t41_p t41_l t41_c, v_11 = .slice t41_p t41_l t41_c ∧
 Cl 75 #[.pointer t9] h_29 fun v_12 h_30 =>
 ∃ t43, v_12 = .int .u64 t43 ∧
 Cl 120 #[.pointer t9] h_30 fun v_13 h_31 =>
 ∃ t45, v_13 = .bool t45 ∧
 StoreP h_31 ⟨b_1, 15, none⟩ (.slice t41_p t41_l t41_c) fun h_32 =>
 StoreP h_32 ⟨b_1, 16, none⟩ (.int .u64 t43) fun h_33 =>
 StoreP h_33 ⟨b_1, 18, none⟩ (.bool t45) fun h_34 =>
 J_6 h_34)
 (  JoinP (fun (t49 : Bool) h_35 =>
 JoinP (fun h_36 =>
 J_6 h_36)
 (fun J_8 =>
 ite t49
 (  Cl 76 #[.pointer t9] h_35 fun v_14 h_37 =>
 ∃ t54, v_14 = .int .i64 t54 ∧
 StoreP h_37 ⟨b_1, 13, none⟩ (.int .i64 t54) fun h_38 =>
 J_8 h_38)
 (  JoinP (fun h_39 =>
 J_8 h_39)
 (fun J_9 =>
 ite (t16 == 7)
 (  Cl 119 #[.pointer t9] h_35 fun v_15 h_40 =>
 eid_Eid.EX fun t59 =>
 v_15 = t59.agg ∧
 eid_Eid.STp h_40 ⟨b_1, 2, none⟩ t59 fun h_41 =>
 Cl 76 #[.pointer t9] h_41 fun v_16 h_42 =>
 ∃ t62, v_16 = .int .i64 t62 ∧
 StoreP h_42 ⟨b_1, 14, none⟩ (.int .i64 t62) fun h_43 =>
 J_9 h_43)
 (  JoinP (fun h_44 =>
 J_9 h_44)
 (fun J_10 =>
 ite (t16 == 10)
 (  Cl 120 #[.pointer t9] h_35 fun v_17 h_45 =>
 ∃ t67, v_17 = .bool t67 ∧
 StoreP h_45 ⟨b_1, 18, none⟩ (.bool t67) fun h_46 =>
 J_10 h_46)
 (  JoinP (fun h_47 =>
 J_10 h_47)
 (fun J_11 =>
 ite (t16 == 12)
 (  Cl 75 #[.pointer t9] h_35 fun v_18 h_48 =>
 ∃ t72, v_18 = .int .u64 t72 ∧
 StoreP h_48 ⟨b_1, 17, none⟩ (.int .u64 t72) fun h_49 =>
 J_11 h_49)
 (  J_11 h_35)))))))))
 (fun J_7 =>
 ite (t16 == 5)
 (  J_7 (t16 == 5) h_20)
 (  JoinP (fun (t49_1 : Bool) h_50 =>
 J_7 t49_1 h_50)
 (fun J_12 =>
 ite (t16 == 8)
 (  J_12 (t16 == 8) h_20)
 (  J_12 (t16 == 9) h_20)))))))))
 (fun J_4 =>
 ite (t16 == 2)
 (  J_4 (t16 == 2) h_14)
 (  J_4 (t16 == 6) h_14)))))
 (fun J_2 =>
 ite (t16 == 1)
 (  J_2 (t16 == 1) h_6)
 (  J_2 (t16 == 3) h_6)))) : Cl 87 #[.slice b_p b_l b_c] h R :=
 callsN [(9, .join []), (13, .join [(17, sB)]), (16, .join []), (23, .join [(26, sB)]), (26, .join []), (30, .join []), (39, .join [(49, sB)]), (43, .join [(49, sB)]), (46, .join []), (50, .join []), (56, .join []), (60, .join []), (67, .join [(91, sB)])] hv
theorem request_Write.walk {x : request_Request.S} (hv :
 NewP h (.cells x.arr 33) fun b h_1 =>
 request_Request.LDp h_1 ⟨b, 0, none⟩ fun t5 =>
 Cl 149 #[t5.agg] h_1 fun v h_2 =>
 ∃ t6, v = .bool t6 ∧
 ite (!t6)
 (  R (.tuple #[.slice none 0 0, .int .i64 3]) h_2)
 (  ∃ t10, hcell h_2 ⟨b, 0, none⟩ = some (.int .u64 t10) ∧
 ∃ t13, hcell h_2 ⟨b, 1, none⟩ = some (.int .i64 t13) ∧
 Cl 52 #[] h_2 fun v_1 h_3 =>
 ∃ t8, v_1 = .pointer t8 ∧
 Kp h_2 h_3 [(some ⟨b, 1, none⟩), (some ⟨b, 0, none⟩)] ∧
 Cl 53 #[.pointer t8, .int .u64 t10] h_3 fun v_2 h_4 =>
 ∃ t11, v_2 = .pointer t11 ∧
 Kp h_3 h_4 [(some ⟨b, 1, none⟩)] ∧
 Cl 54 #[.pointer t11, .int .i64 t13] h_4 fun v_3 h_5 =>
 ∃ t14, v_3 = .pointer t14 ∧
 ∃ t16, hcell h_5 ⟨b, 1, none⟩ = some (.int .i64 t16) ∧
 JoinP (fun h_6 =>
 Cl 56 #[.pointer t14] h_6 fun v_4 h_7 =>
 ∃ t86_p t86_l t86_c, v_4 = .slice t86_p t86_l t86_c ∧
 R (.tuple #[.slice t86_p t86_l t86_c, .int .i64 0]) h_7)
 (fun J =>
 JoinP (fun (t17 : Bool) h_8 =>
 JoinP (fun h_9 =>
 J h_9)
 (fun J_2 =>
 ite t17
 (  eid_Eid.LDp h_8 ⟨b, 2, none⟩ fun t22 =>
 Cl 150 #[.pointer t14, t22.agg] h_8 fun v_5 h_10 =>
 v_5 = .tuple #[] ∧
 ∃ t26, hcell h_10 ⟨b, 12, none⟩ = some (.int .i64 t26) ∧
 Cl 54 #[.pointer t14, .int .i64 t26] h_10 fun v_6 h_11 =>
 ∃ t27, v_6 = .pointer t27 ∧
 J_2 h_11)
 (  JoinP (fun (t28 : Bool) h_12 =>
 JoinP (fun h_13 =>
 J_2 h_13)
 (fun J_4 =>
 ite t28
 (  eid_Eid.LDp h_12 ⟨b, 2, none⟩ fun t33 =>
 Cl 150 #[.pointer t14, t33.agg] h_12 fun v_7 h_14 =>
 v_7 = .tuple #[] ∧
 J_4 h_14)
 (  JoinP (fun h_15 =>
 J_4 h_15)
 (fun J_5 =>
 ite (t16 == 4)
 (  eid_Eid.LDp h_12 ⟨b, 2, none⟩ fun t39 =>
 Cl 150 #[.pointer t14, t39.agg] h_12 fun v_8 h_16 =>
 v_8 = .tuple #[] ∧
 eid_Eid.LDp h_16 ⟨b, 7, none⟩ fun t43 =>
 Cl 150 #[.pointer t14, t43.agg] h_16 fun v_9 h_17 =>
 v_9 = .tuple #[] ∧
 ∃ t47_p t47_l t47_c, hcell h_17 ⟨b, 15, none⟩ = some (.slice t47_p t47_l t47_c) ∧
 ∃ t50, hcell h_17 ⟨b, 16, none⟩ = some (.int .u64 t50) ∧
 ∃ t53, hcell h_17 ⟨b, 18, none⟩ = some (.bool t53) ∧
 Cl 55 #[.pointer t14, .slice t47_p t47_l t47_c] h_17 fun v_10 h_18 =>
 ∃ t48, v_10 = .pointer t48 ∧
 Kp h_17 h_18 [(some ⟨b, 18, none⟩), (some ⟨b, 16, none⟩)] ∧
 Cl 53 #[.pointer t48, .int .u64 t50] h_18 fun v_11 h_19 =>
 ∃ t51, v_11 = .pointer t51 ∧
 Kp h_18 h_19 [(some ⟨b, 18, none⟩)] ∧
 Cl 151 #[.pointer t51, .bool t53] h_19 fun v_12 h_20 =>
 ∃ t54, v_12 = .pointer t54 ∧
 J_5 h_20)
 (  JoinP (fun (t55 : Bool) h_21 =>
 JoinP (fun h_22 =>
 J_5 h_22)
 (fun J_7 =>
 ite t55
 (  ∃ t61, hcell h_21 ⟨b, 13, none⟩ = some (.int .i64 t61) ∧
 Cl 54 #[.pointer t14, .int .i64 t61] h_21 fun v_13 h_23 =>
 ∃ t62, v_13 = .pointer t62 ∧
 J_7 h_23)
 (  JoinP (fun h_24 =>
 J_7 h_24)
 (fun J_8 =>
 ite (t16 == 7)
 (  eid_Eid.LDp h_21 ⟨b, 2, none⟩ fun t67 =>
 Cl 150 #[.pointer t14, t67.agg] h_21 fun v_14 h_25 =>
 v_14 = .tuple #[] ∧
 ∃ t71, hcell h_25 ⟨b, 14, none⟩ = some (.int .i64 t71) ∧
 Cl 54 #[.pointer t14, .int .i64 t71] h_25 fun v_15 h_26 =>
 ∃ t72, v_15 = .pointer t72 ∧
 J_8 h_26)
 (  JoinP (fun h_27 =>
 J_8 h_27)
 (fun J_9 =>
 ite (t16 == 10)
 (  ∃ t77, hcell h_21 ⟨b, 18, none⟩ = some (.bool t77) ∧
 Cl 151 #[.pointer t14, .bool t77] h_21 fun v_16 h_28 =>
 ∃ t78, v_16 = .pointer t78 ∧
 J_9 h_28)
 (  JoinP (fun h_29 =>
 J_9 h_29)
 (fun J_10 =>
 ite (t16 == 12)
 (  ∃ t83, hcell h_21 ⟨b, 17, none⟩ = some (.int .u64 t83) ∧
 Cl 53 #[.pointer t14, .int .u64 t83] h_21 fun v_17 h_30 =>
 ∃ t84, v_17 = .pointer t84 ∧
 J_10 h_30)
 (  J_10 h_21)))))))))
 (fun J_6 =>
 ite (t16 == 5)
 (  J_6 (t16 == 5) h_12)
 (  JoinP (fun (t55_1 : Bool) h_31 =>
 J_6 t55_1 h_31)
 (fun J_11 =>
 ite (t16 == 8)
 (  J_11 (t16 == 8) h_12)
 (  J_11 (t16 == 9) h_12)))))))))
 (fun J_3 =>
 ite (t16 == 2)
 (  J_3 (t16 == 2) h_8)
 (  J_3 (t16 == 6) h_8)))))
 (fun J_1 =>
 ite (t16 == 1)
 (  J_1 (t16 == 1) h_5)
 (  J_1 (t16 == 3) h_5))))) : Cl 121 #[x.agg] h R :=
 callsN [(11, fun _ => .planK (opL [1,2,4,5,0,3,6,7] .done)), (15, .join []), (19, .join [(17, sB)]), (22, .join []), (29, .join [(28, sB)]), (32, .join []), (36, .join []), (41, fun _ => .planK (runP 3 0 (opL [4,5,7,8,3,6,9] .done))), (45, .join [(55, sB)]), (49, .join [(55, sB)]), (52, .join []), (56, .join []), (62, .join []), (66, .join [])] hv

end
section
open Go.Fields
namespace Opn
open _root_.Go.Proofs.YtaphjamdblgiiaaGreatDoor.Ask
variable {h:Heap} {R:TyP}
def rqO : Rq := ⟨5, 11, .zero, .zero, 0, 0, 0, [], 0, 0, false⟩
abbrev rO : request_Request.S := rqO.s none 0
theorem rqO_right : rightQ rqO = true := by simp [rightQ, partsQ, ownQ, baseQ, rqO]
theorem write_ok (hk : ∀ g p c, Own g p 2 c 1 (bc [5, 11]) → Fr No h g → (∀ y, inBlk p y → h.size ≤ y) → R (.tuple #[.slice p 2 c, .int .i64 0]) g) : Cl 121 #[rO.agg] h R := by
  refine request_Write.walk (request_Request.boxp fun b h1 e1 b1 f1 => request_Request.ldp b1 (right_ok rqO (.inl rfl) fun h2 f2 => ⟨_, rfl, ?_⟩))
  rw [rqO_right, if_neg (by decide)]
  have b2 := f2.get b1 id
  have bl : b < h1.size := (Array.getElem?_eq_some_iff.1 b1).1
  have u1 := f1.1
  have u2 := f2.1
  refine ⟨_, cell_at b2 rfl, _, cell_at b2 rfl, Fld.new_ok fun h3 w S3 W3 f3 g3 => ⟨_, rfl, f3.kp, Fld.num_ok 5 W3 (by decide) rfl (by decide) fun h4 S4 W4 st4 => ⟨_, rfl, ?_, ?_⟩⟩⟩
  · refine st4.fr.kps fun p hp x e hx => ?_
    simp at hp
    subst hp
    cases e
    have : h2.size ≤ b := g3 _ hx
    omega
  have u3 := f3.1
  have g4 : ∀ y, S4 y → h2.size ≤ y := fun y hy => (st4.new y hy).elim (g3 y) (fun e => by omega)
  have F4 : Fr No h2 h4 := f3.fresh st4.fr g3
  refine Fld.int_ok W4 (by decide) (by decide) fun h5 S5 W5 st5 => ⟨_, rfl, ?_⟩
  have F5 : Fr No h2 h5 := F4.fresh st5.fr g4
  have u5 := F5.1
  refine ⟨_, cell_at (F5.get b2 id) rfl, ?_⟩
  repeat (first | (refine JoinP.of fun J hJ => ?_; subst hJ; dsimp only) | rw [if_neg (by decide)])
  refine Fld.bytes_ok W5 (by decide) fun p c h6 o6 f6 g6 => ⟨_, _, _, rfl, ?_⟩
  exact hk h6 p c o6 (((f1.tt f2).tt F5).tt f6) fun y hy => by have := g6 y hy; omega
theorem read_ok {p : Option Addr} {l c : Nat} (row : Row h p (bc [5, 11])) (hl : l = 2) (hk : ∀ g, Fr No h g → R (.tuple #[rO.agg, .int .i64 0]) g) : Cl 87 #[.slice p l c] h R := by
  subst hl
  have e1 : readNum 0 [5, 11] = (5, 0, [11]) := by decide
  have e2 : readInt 0 [11] = (11, 0, []) := by decide
  refine request_Read.walk (request_Request.boxp (x := request_Request.S.z) fun b h1 eb1 b1 f1 => Fld.read_ok (row.frame f1 (fun _ _ => id)) rfl (by decide) fun h2 r S2 R2 f2 g2 => ⟨_, rfl, Fld.rnum_ok R2 fun h3 R3 f3 => ⟨_, rfl, ?_⟩⟩)
  rw [e1] at R3 ⊢
  refine Fld.rint_ok R3 fun h4 R4 f4 => ⟨_, rfl, ?_⟩
  rw [e2] at R4 ⊢
  have bl : b < h1.size := (Array.getElem?_eq_some_iff.1 b1).1
  have u1 := f1.1
  have u2 := f2.1
  have gr := g2 r R2.self
  have F4 : Fr No h1 h4 := (f2.fresh f3 (fun y e => by subst e; exact gr)).fresh f4 (fun y e => by subst e; exact gr)
  refine request_Request.newp (x := rO) fun b5 h5 e5 b5' f5 => ⟨_, cell_at b5' rfl, ?_⟩
  have u4 := F4.1
  have u5 := f5.1
  have R5 := R4.frame f5 (fun _ _ => id)
  refine JoinP.of fun J hJ => ?_
  have key : J h5 := by
    subst hJ
    refine request_Request.ldp b5' (write_ok fun h6 p6 c6 o6 f6 g6 => ⟨_, _, _, _, rfl, JoinP.of fun J1 hJ1 => ?_⟩)
    rw [if_neg (by decide)]
    refine Fld.rend_ok (R5.frame f6 (fun _ _ => id)) ⟨_, rfl, ?_⟩
    rw [if_neg (by decide)]
    have F6 : Fr No h1 h6 := (F4.tt f5).tt f6
    refine Cb.bytesEq_ok (b := [5, 11]) o6.row' (row.frame (f1.tt F6) (fun _ _ => id)) rfl rfl ⟨_, rfl, ?_⟩
    subst hJ1
    show if (!decide ([5, 11] = ([5, 11] : List UInt8))) = true then _ else _
    rw [if_neg (by decide)]
    exact request_Request.ldp (f6.get b5' id) (request_Request.setp (x := rO) (F6.get b1 id) fun h7 b7 f7 _ => request_Request.ldp b7 (hk h7 ((f1.tt F6).fresh f7 fun y e => by omega)))
  clear hJ
  repeat (first | (refine JoinP.of fun J hJ => ?_; subst hJ; dsimp only) | rw [if_neg (by decide)])
  exact key

end Opn
end
section
open Go.Fields
namespace Opn
open _root_.Go.Proofs.YtaphjamdblgiiaaGreatDoor.Ask
variable {h:Heap} {R:TyP} {t s:Nat}
variable {b:Bool} {A B:Prop}
theorem iteT (h : b = true) (a : A) : ite (b = true) A B := by rw [if_pos h]; exact a
theorem iteF (h : b = false) (a : B) : ite (b = true) A B := by rw [if_neg (by rw [h]; decide)]; exact a
abbrev eO (t : Nat) : event_Event.S := { event_Event.S.z with f1 := 1, f2 := (t : Int) }
abbrev eD (s : Nat) : event_Event.S := { event_Event.S.z with f1 := 3, f3 := (s : Int) }
theorem reqz_same (hk : ∀ g, Fr No h g → R (.bool true) g) : Cl 183 #[request_Request.S.z.agg, request_Request.S.z.agg] h R := by
  refine qsame_ok (p := none) (q := none) (c := 0) (d := 0) ⟨0, 0, .zero, .zero, 0, 0, 0, [], 0, 0, false⟩ ⟨0, 0, .zero, .zero, 0, 0, 0, [], 0, 0, false⟩ (.inl rfl) (.inl rfl) fun g f => ?_
  rw [decide_eq_true rfl]
  exact hk g f
theorem ownO_ok (hk : ∀ g, Fr No h g → R ((eO t).agg) g) : Cl 153 #[(eO t).agg] h R := by
  refine event_own.walk (event_Event.boxp fun b h1 e1 b1 f1 => event_Event.boxp (x := event_Event.S.z) fun b2 h2 e2 b2' f2 => ⟨_, cell_at (f2.get b1 id) rfl, _, cell_at (f2.get b1 id) rfl, event_Event.newp (x := { event_Event.S.z with f1 := 1 }) fun b3 h3 e3 b3' f3 => ⟨_, cell_at (f3.get (f2.get b1 id) id) rfl, ?_⟩⟩)
  have lb := (Array.getElem?_eq_some_iff.1 b1).1
  have lb2 := (Array.getElem?_eq_some_iff.1 b2').1
  have u1 := f1.1
  have u2 := f2.1
  have u3 := f3.1
  refine JoinP.of fun J hJ => JoinP.of fun J1 hJ1 => iteT (b := ((1 : Int) == 1)) rfl ?_
  subst hJ1
  refine JoinP.of fun J2 hJ2 => iteT (b := ((1 : Int) == 1)) rfl ⟨_, cell_at (f3.get (f2.get b1 id) id) rfl, storeP_blk b3' (by show 2 < 24; omega) fun h4 b4 z4 q4 => ?_⟩
  subst hJ2 hJ
  have f4 : Fr (fun y => y = b3) h3 h4 := Fr.of_eq z4 q4
  have b4' : event_Event.atp h4 b3 (eO t) := b4
  refine event_Event.ldp b4' (event_Event.setp (x := eO t) (f4.get (f3.get b2' id) (by omega)) fun h5 b5 f5 _ => event_Event.ldp b5 (hk h5 ?_))
  exact ((((f1.tt f2).tt f3).fresh f4 (fun y e => by omega)).fresh f5 fun y e => by omega)
theorem ownD_ok (hk : ∀ g, Fr No h g → R ((eD s).agg) g) : Cl 153 #[(eD s).agg] h R := by
  refine event_own.walk (event_Event.boxp fun b h1 e1 b1 f1 => event_Event.boxp (x := event_Event.S.z) fun b2 h2 e2 b2' f2 => ⟨_, cell_at (f2.get b1 id) rfl, _, cell_at (f2.get b1 id) rfl, event_Event.newp (x := { event_Event.S.z with f1 := 3 }) fun b3 h3 e3 b3' f3 => ⟨_, cell_at (f3.get (f2.get b1 id) id) rfl, ?_⟩⟩)
  have lb := (Array.getElem?_eq_some_iff.1 b1).1
  have lb2 := (Array.getElem?_eq_some_iff.1 b2').1
  have u1 := f1.1
  have u2 := f2.1
  have u3 := f3.1
  refine JoinP.of fun J hJ => JoinP.of fun J1 hJ1 => iteF (b := ((3 : Int) == 1)) rfl ?_
  subst hJ1
  refine JoinP.of fun J2 hJ2 => iteF (b := ((3 : Int) == 2)) rfl (JoinP.of fun J3 hJ3 => iteT (b := ((3 : Int) == 3)) rfl ⟨_, cell_at (f3.get (f2.get b1 id) id) rfl, storeP_blk b3' (by show 3 < 24; omega) fun h4 b4 z4 q4 => ?_⟩)
  subst hJ3 hJ2 hJ
  have f4 : Fr (fun y => y = b3) h3 h4 := Fr.of_eq z4 q4
  have b4' : event_Event.atp h4 b3 (eD s) := b4
  refine event_Event.ldp b4' (event_Event.setp (x := eD s) (f4.get (f3.get b2' id) (by omega)) fun h5 b5 f5 _ => event_Event.ldp b5 (hk h5 ?_))
  exact ((((f1.tt f2).tt f3).fresh f4 (fun y e => by omega)).fresh f5 fun y e => by omega)
theorem partsO_ok (t1 : 1 ≤ t) (t2 : t ≤ 2147483648) (hk : ∀ g, Fr No h g → R (.bool true) g) : Cl 154 #[(eO t).agg] h R := by
  refine event_parts.walk (event_Event.boxp fun b h1 e1 b1 f1 => ⟨_, cell_at b1 rfl, JoinP.of fun J hJ => iteT (b := ((1 : Int) == 1)) rfl ?_⟩)
  subst hJ
  refine iteT (b := ((1 : Int) == 1)) rfl ⟨_, cell_at b1 rfl, iteT (decide_eq_true (by show (t : Int) ≥ 1; omega)) ⟨_, cell_at b1 rfl, ?_⟩⟩
  have := hk h1 f1
  rw [← show decide ((t : Int) ≤ 2147483648) = true from decide_eq_true (by omega)] at this
  exact this
theorem partsD_ok (t1 : 1 ≤ s) (t2 : s ≤ 1099511627776) (hk : ∀ g, Fr No h g → R (.bool true) g) : Cl 154 #[(eD s).agg] h R := by
  refine event_parts.walk (event_Event.boxp fun b h1 e1 b1 f1 => ⟨_, cell_at b1 rfl, JoinP.of fun J hJ => iteF (b := ((3 : Int) == 1)) rfl ?_⟩)
  subst hJ
  refine iteF (b := ((3 : Int) == 2)) rfl (iteT (b := ((3 : Int) == 3)) rfl ⟨_, cell_at b1 rfl, event_isSession.walk (iteT (decide_eq_true (by show (s : Int) ≥ 1; omega)) ⟨_, rfl, ?_⟩)⟩)
  have := hk h1 f1
  rw [← show decide ((s : Int) ≤ 1099511627776) = true from decide_eq_true (by omega)] at this
  exact this
theorem held_mid {b off : Nat} {ty : TypeId} {L vs post : List Value} (hb : h[b]? = some (.cells L.toArray ty (0, 0))) (e : L.drop off = vs ++ post) : heldL ⟨b, off, none⟩ vs 0 h := heldL_blk hb fun j v hj => by
  have hl := (List.getElem?_eq_some_iff.1 hj).1
  have : (L.drop off)[j]? = some v := by rw [e, List.getElem?_append_left hl]; exact hj
  rw [List.getElem?_drop] at this
  simpa using this
abbrev evs (k t s : Int) : event_Event.S := { event_Event.S.z with f1 := k, f2 := t, f3 := s }
theorem esame_ok (k t s : Int) (hk : ∀ g, Fr No h g → R (.bool true) g) : Cl 152 #[(evs k t s).agg, (evs k t s).agg] h R := by
  refine event_Same.walk (event_Event.boxp fun b h1 e1 b1 f1 => event_Event.boxp fun b2 h2 e2 b2' f2 => ?_)
  have b1' := f2.get b1 id
  refine ⟨_, cell_at b1' rfl, _, cell_at b2' rfl, iteT (beq_self_eq_true _) ⟨_, cell_at b1' rfl, _, cell_at b2' rfl, iteT (beq_self_eq_true _) ⟨_, cell_at b1' rfl, _, cell_at b2' rfl, iteT (beq_self_eq_true _) ⟨_, cell_at b1' rfl, _, cell_at b2' rfl, iteT (beq_self_eq_true _) ?_⟩⟩⟩⟩
  refine request_Request.ldAp (x := request_Request.S.z) (held_mid (post := [.slice none 0 0]) b1' rfl) (request_Request.ldAp (x := request_Request.S.z) (held_mid (post := [.slice none 0 0]) b2' rfl) (reqz_same fun h3 f3 => ⟨_, rfl, iteT rfl ?_⟩))
  refine ⟨_, _, _, cell_at (f3.get b1' id) rfl, _, _, _, cell_at (f3.get b2' id) rfl, Cb.bytesEq_ok (a := []) (b := []) (.inl rfl) (.inl rfl) rfl rfl ⟨_, rfl, ?_⟩⟩
  rw [decide_eq_true rfl]
  exact hk h3 ((f1.tt f2).tt f3)
theorem rightO_ok (t1 : 1 ≤ t) (t2 : t ≤ 2147483648) (hk : ∀ g, Fr No h g → R (.bool true) g) : Cl 123 #[(eO t).agg] h R :=
  event_Right.walk (event_Event.boxp fun _ _ _ b1 f1 => ⟨_, cell_at b1 rfl, iteT (b := decide ((0 : Int) ≤ 1099511627776)) rfl (event_Event.ldp b1 (event_Event.ldp b1 (ownO_ok fun _ f2 => event_Event.ex (eO t) ⟨rfl, f2.kp, esame_ok 1 t 0 fun _ f3 => ⟨_, rfl, f3.kp, iteT rfl (event_Event.ldp (f3.get (f2.get b1 id) id) (partsO_ok t1 t2 fun h4 f4 => ⟨_, rfl, f4.kp, hk h4 (((f1.tt f2).tt f3).tt f4)⟩))⟩⟩)))⟩)
theorem rightD_ok (t1 : 1 ≤ s) (t2 : s ≤ 1099511627776) (hk : ∀ g, Fr No h g → R (.bool true) g) : Cl 123 #[(eD s).agg] h R :=
  event_Right.walk (event_Event.boxp fun _ _ _ b1 f1 => ⟨_, cell_at b1 rfl, iteT (b := decide ((0 : Int) ≤ 1099511627776)) rfl (event_Event.ldp b1 (event_Event.ldp b1 (ownD_ok fun _ f2 => event_Event.ex (eD s) ⟨rfl, f2.kp, esame_ok 3 0 s fun _ f3 => ⟨_, rfl, f3.kp, iteT rfl (event_Event.ldp (f3.get (f2.get b1 id) id) (partsD_ok t1 t2 fun h4 f4 => ⟨_, rfl, f4.kp, hk h4 (((f1.tt f2).tt f3).tt f4)⟩))⟩⟩)))⟩)

end Opn
end
section
open Go.Fields
namespace Opn
variable {h:Heap} {R:TyP} {t s:Nat}
def eOB (t : Nat) : List UInt8 := (([] ++ encNum 0) ++ encNum (natOf 1)) ++ encNum t
def eDB (s : Nat) : List UInt8 := (([] ++ encNum 0) ++ encNum (natOf 3)) ++ encNum (natOf (s : Int))
theorem eOB_len (t : Nat) : 1 ≤ (eOB t).length ∧ (eOB t).length ≤ 30 := by
  have a := encN_len 9 0
  have b := encN_len 9 (natOf 1)
  have c := encN_len 9 t
  unfold eOB encNum
  simp only [List.length_append, List.length_nil]
  omega
theorem eDB_len (s : Nat) : 1 ≤ (eDB s).length ∧ (eDB s).length ≤ 30 := by
  have a := encN_len 9 0
  have b := encN_len 9 (natOf 3)
  have c := encN_len 9 (natOf (s : Int))
  unfold eDB encNum
  simp only [List.length_append, List.length_nil]
  omega
theorem ewriteO_ok (t1 : 1 ≤ t) (t2 : t ≤ 2147483648) (hk : ∀ g p c, Own g p (eOB t).length c 1 (bc (eOB t)) → Fr No h g → (∀ y, inBlk p y → h.size ≤ y) → R (.tuple #[.slice p (eOB t).length c, .int .i64 0]) g) : Cl 89 #[(eO t).agg] h R := by
  refine event_Write.walk (event_Event.boxp fun b h1 e1 b1 f1 => event_Event.ldp b1 (rightO_ok t1 t2 fun h2 f2 => ⟨_, rfl, iteF rfl ?_⟩))
  have b2 := f2.get b1 id
  have bl : b < h1.size := (Array.getElem?_eq_some_iff.1 b1).1
  have u1 := f1.1
  have u2 := f2.1
  refine ⟨_, cell_at b2 rfl, _, cell_at b2 rfl, Fld.new_ok fun h3 w S3 W3 f3 g3 => ⟨_, rfl, f3.kp, Fld.num_ok 0 W3 (by decide) rfl (by decide) fun h4 S4 W4 st4 => ⟨_, rfl, ?_, ?_⟩⟩⟩
  · refine st4.fr.kps fun p hp x e hx => ?_
    simp at hp
    subst hp
    cases e
    have : h2.size ≤ b := g3 _ hx
    omega
  have u3 := f3.1
  have g4 : ∀ y, S4 y → h2.size ≤ y := fun y hy => (st4.new y hy).elim (g3 y) (fun e => by omega)
  have F4 : Fr No h2 h4 := f3.fresh st4.fr g3
  have u4 := F4.1
  refine Fld.int_ok (n := 1) W4 (by decide) (by decide) fun h5 S5 W5 st5 => ⟨_, rfl, ?_⟩
  have F5 : Fr No h2 h5 := F4.fresh st5.fr g4
  have g5 : ∀ y, S5 y → h2.size ≤ y := fun y hy => (st5.new y hy).elim (g4 y) (fun e => by omega)
  have b5 := F5.get b2 id
  have u5 := F5.1
  refine ⟨_, cell_at b5 rfl, JoinP.of fun J hJ => JoinP.of fun J1 hJ1 => iteT (b := ((1 : Int) == 1)) rfl ?_⟩
  subst hJ1
  refine JoinP.of fun J2 hJ2 => iteT (b := ((1 : Int) == 1)) rfl ⟨_, cell_at b5 rfl, Fld.num_ok t W5 (by decide) rfl (by omega) fun h6 S6 W6 st6 => ⟨_, rfl, ?_⟩⟩
  subst hJ2 hJ
  have F6 : Fr No h2 h6 := F5.fresh st6.fr g5
  have u6 := F6.1
  refine Fld.bytes_ok W6 (by have := eOB_len t; unfold eOB at this; omega) fun p c h7 o7 f7 g7 => ⟨_, _, _, rfl, ?_⟩
  exact hk h7 p c o7 (((f1.tt f2).tt F6).tt f7) fun y hy => by have := g7 y hy; omega
theorem ewriteD_ok (t1 : 1 ≤ s) (t2 : s ≤ 1099511627776) (hk : ∀ g p c, Own g p (eDB s).length c 1 (bc (eDB s)) → Fr No h g → (∀ y, inBlk p y → h.size ≤ y) → R (.tuple #[.slice p (eDB s).length c, .int .i64 0]) g) : Cl 89 #[(eD s).agg] h R := by
  refine event_Write.walk (event_Event.boxp fun b h1 e1 b1 f1 => event_Event.ldp b1 (rightD_ok t1 t2 fun h2 f2 => ⟨_, rfl, iteF rfl ?_⟩))
  have b2 := f2.get b1 id
  have bl : b < h1.size := (Array.getElem?_eq_some_iff.1 b1).1
  have u1 := f1.1
  have u2 := f2.1
  refine ⟨_, cell_at b2 rfl, _, cell_at b2 rfl, Fld.new_ok fun h3 w S3 W3 f3 g3 => ⟨_, rfl, f3.kp, Fld.num_ok 0 W3 (by decide) rfl (by decide) fun h4 S4 W4 st4 => ⟨_, rfl, ?_, ?_⟩⟩⟩
  · refine st4.fr.kps fun p hp x e hx => ?_
    simp at hp
    subst hp
    cases e
    have : h2.size ≤ b := g3 _ hx
    omega
  have u3 := f3.1
  have g4 : ∀ y, S4 y → h2.size ≤ y := fun y hy => (st4.new y hy).elim (g3 y) (fun e => by omega)
  have F4 : Fr No h2 h4 := f3.fresh st4.fr g3
  have u4 := F4.1
  refine Fld.int_ok (n := 3) W4 (by decide) (by decide) fun h5 S5 W5 st5 => ⟨_, rfl, ?_⟩
  have F5 : Fr No h2 h5 := F4.fresh st5.fr g4
  have g5 : ∀ y, S5 y → h2.size ≤ y := fun y hy => (st5.new y hy).elim (g4 y) (fun e => by omega)
  have b5 := F5.get b2 id
  have u5 := F5.1
  refine ⟨_, cell_at b5 rfl, JoinP.of fun J hJ => JoinP.of fun J1 hJ1 => iteF (b := ((3 : Int) == 1)) rfl ?_⟩
  subst hJ1
  refine JoinP.of fun J2 hJ2 => iteF (b := ((3 : Int) == 2)) rfl (JoinP.of fun J3 hJ3 => iteT (b := ((3 : Int) == 3)) rfl ⟨_, cell_at b5 rfl, Fld.int_ok W5 (by decide) (by show (s : Int) ≤ _; omega) fun h6 S6 W6 st6 => ⟨_, rfl, ?_⟩⟩)
  subst hJ3 hJ2 hJ
  have F6 : Fr No h2 h6 := F5.fresh st6.fr g5
  have u6 := F6.1
  refine Fld.bytes_ok W6 (by have := eDB_len s; unfold eDB at this; exact Nat.le_trans this.2 (by decide)) fun p c h7 o7 f7 g7 => ⟨_, _, _, rfl, ?_⟩
  exact hk h7 p c o7 (((f1.tt f2).tt F6).tt f7) fun y hy => by have := g7 y hy; omega

end Opn
end
section
namespace Opn
open Stt
variable {h:Heap} {R:TyP} {s k bo t n:Nat} {X X':Ft} {I:Ids} {σ:SS}
theorem amade_ok {r:Nat} (B : Bk h s I n r) (hk : R (.bool true) h) : Cl 130 #[pt s] h R := by
  refine arrive_made.walk ?_
  repeat (first | exact hk | refine ⟨_, cell_at B rfl, ?_⟩ | rw [if_pos rfl])
theorem happenO_ok (H : Pt h s X I σ) (G : Stt.Good σ k) (hy : reply_Reply.atp h bo reply_Reply.S.z) (nb : ¬ (X.M bo ∨ X.D bo))
    (hk : ∀ g X', Pt g s X' I { σ with A := Ses.openA σ.A t } → reply_Reply.atp g bo { reply_Reply.S.z with f2 := Ses.openN σ.A t, f4 := (t : Int) } → Fr (fun y => X.M y ∨ y = bo) h g → (∀ y, X'.M y → X.M y ∨ h.size ≤ y) → (∀ y, X'.D y → X.D y ∨ h.size ≤ y) → (∀ y, X.D y → X'.D y) → R (.int .i64 (Ses.openE σ.A t)) g) :
    Cl 132 #[pt s, (eO t).agg, .pointer (some ⟨bo, 0, none⟩)] h R := by
  refine arrive_happen.walk (event_Event.boxp (x := eO t) fun b h1 eb hb f1 => ⟨_, cell_at hb rfl, JoinP.of fun J hJ => JoinP.of fun J1 hJ1 => iteT (b := ((1 : Int) == 1)) rfl ?_⟩)
  have H1 := H.on f1
  have u1 := f1.1
  have bl := (Array.getElem?_eq_some_iff.1 hb).1
  have ol := (Array.getElem?_eq_some_iff.1 hy).1
  obtain ⟨Z, hz, zm, zd, go⟩ := H1.use 0
  refine ⟨_, cell_at H1.blk rfl, _, cell_at hb rfl, Ses.open_ok t rfl hz G.a fun h2 Z2 T2 s2 => ?_⟩
  obtain ⟨X2, H2, st2, _, _⟩ := go h2 Z2 { σ with A := Ses.openA σ.A t } T2 s2 (fun i hi => Stt.part_A _ hi)
  have nM : ¬ X.M bo := fun e => nb (.inl e)
  have nb1 : ¬ X.M b := fun e => by have := H.lt b (.inl e); omega
  have nX2 : ¬ (X2.M bo ∨ X2.D bo) := fun e => by
    rcases e with e | e
    · rcases st2.newM bo e with q | q
      · exact nb (.inl q)
      · omega
    · rcases st2.newD bo e with q | q
      · exact nb (.inr q)
      · omega
  have d2 := st2.fr.get (f1.get hy id) nM
  refine ⟨_, _, rfl, storeP_l d2 (by show 2 < 6; omega) fun h3 d3 z3 q3 => ?_⟩
  have f3 : Fr (fun y => y = bo) h2 h3 := Fr.of_eq z3 q3
  refine ⟨_, cell_at (f3.get (st2.fr.get hb nb1) (by omega)) rfl, storeP_l d3 (by show 4 < 6; omega) fun h4 d4 z4 q4 => ?_⟩
  have f4 : Fr (fun y => y = bo) h3 h4 := Fr.of_eq z4 q4
  subst hJ1 hJ
  refine hk h4 X2 (H2.frame (f3.tt f4) (fun y hy e => nX2 (e ▸ hy))) d4 ((f1.no (st2.fr.mono fun y _ => .inl)).trans (f3.tt f4) (fun _ _ => id) (fun y _ => .inr)) (fun y e => (st2.newM y e).imp id (fun q => by omega)) (fun y e => (st2.newD y e).imp id (fun q => by omega)) st2.oldD
theorem happenD_ok (H : Pt h s X I σ) (G : Stt.Good σ k) (hk : ∀ g X', Pt g s X' I { σ with A := Ses.downA σ.A (n : Int) } → StepF X h X' g → R (.int .i64 (Ses.downE σ.A (n : Int))) g) :
    Cl 132 #[pt s, (eD n).agg, .pointer (some ⟨bo, 0, none⟩)] h R := by
  refine arrive_happen.walk (event_Event.boxp (x := eD n) fun b h1 eb hb f1 => ⟨_, cell_at hb rfl, JoinP.of fun J hJ => JoinP.of fun J1 hJ1 => iteF (b := ((3 : Int) == 1)) rfl (JoinP.of fun J2 hJ2 => iteF (b := ((3 : Int) == 2)) rfl (JoinP.of fun J3 hJ3 => iteT (b := ((3 : Int) == 3)) rfl ?_))⟩)
  have H1 := H.on f1
  obtain ⟨Z, hz, zm, zd, go⟩ := H1.use 0
  refine ⟨_, cell_at H1.blk rfl, _, cell_at hb rfl, Ses.down_ok hz G.a fun h2 Z2 T2 s2 => ⟨_, rfl, ?_⟩⟩
  obtain ⟨X2, H2, st2, _, _⟩ := go h2 Z2 { σ with A := Ses.downA σ.A (n : Int) } T2 s2 (fun i hi => Stt.part_A _ hi)
  subst hJ3 hJ2 hJ1 hJ
  exact hk h2 X2 H2 (.no f1 st2)

end Opn
end
end Go.Proofs.YtaphjamdblgiiaaGreatDoor
