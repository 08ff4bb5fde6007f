/-
  What is proved here: footprints that only grow by what is new; a new block that is filled; 'append' of one element; pointers compared. No condition.
-/
import Derived.Test.YtgccegnmggjkjaaDoorRok
namespace Go.Den

/-- S was touched, and S' is what it has become -/
structure Step (S : Nat → Prop) (h : Heap) (S' : Nat → Prop) (h' : Heap) : Prop where
  fr : Fr S h h'
  new : ∀ c, S' c → S c ∨ h.size ≤ c
theorem Step.refl (S : Nat → Prop) (h : Heap) : Step S h S h := ⟨Fr.refl _ _, fun _ => .inl⟩
theorem Step.trans {S S1 S2 : Nat → Prop} {h h1 h2 : Heap} (a : Step S h S1 h1) (b : Step S1 h1 S2 h2) : Step S h S2 h2 :=
  ⟨a.fr.trans b.fr (fun _ _ => id) (fun c hc hx => (a.new c hx).resolve_right (by omega)), fun c hc => by
    rcases b.new c hc with hc | hc
    · exact a.new c hc
    · have := a.fr.1; exact .inr (by omega)⟩
theorem Step.of_fr {S : Nat → Prop} {h h' : Heap} (f : Fr S h h') : Step S h S h' := ⟨f, fun _ => .inl⟩
theorem Step.apart {S S' Q : Nat → Prop} {h h' : Heap} (st : Step S h S' h') (hd : ∀ c, S c → ¬ Q c) (hq : ∀ c, Q c → c < h.size) : ∀ c, S' c → ¬ Q c := fun c hc hx => by
  rcases st.new c hc with h1 | h1
  · exact hd c h1 hx
  · have := hq c hx; omega
theorem Step.no {S S1 : Nat → Prop} {h h1 h2 : Heap} (f : Fr (fun _ => False) h h1) (b : Step S h1 S1 h2) : Step S h S1 h2 :=
  ⟨Fr.no f b.fr, fun c hc => by
    rcases b.new c hc with hc | hc
    · exact .inl hc
    · have := f.1; exact .inr (by omega)⟩
theorem Step.on {S S1 : Nat → Prop} {h h1 h2 : Heap} (a : Step S h S1 h1) (f : Fr (fun _ => False) h1 h2) : Step S h S1 h2 :=
  ⟨Fr.on a.fr f, a.new⟩
/-- what is new may be touched -/
theorem Fr.fresh {S : Nat → Prop} {h h1 h2 : Heap} (f : Fr (fun _ => False) h h1) (g : Fr S h1 h2) (hs : ∀ c, S c → h.size ≤ c) : Fr (fun _ => False) h h2 :=
  f.step g fun c hc hx => by have := hs c hx; omega

/-! ### a new block, filled -/
theorem hset_push {h : Heap} {c : Array Value} {t : TypeId} {f : Nat × Nat} {i : Nat} {v : Value} : hset (h.push (.cells c t f)) ⟨h.size, i, none⟩ v = h.push (.cells (c.setIfInBounds i v) t f) := by
  apply Array.ext
  · simp [hset]
  · intro j h1 h2
    have e : ∀ (x : Heap) (hx : j < x.size), x[j]? = some x[j] := fun x hx => Array.getElem?_eq_getElem hx
    have : (hset (h.push (.cells c t f)) ⟨h.size, i, none⟩ v)[j]? = (h.push (.cells (c.setIfInBounds i v) t f))[j]? := by
      by_cases q : j = h.size
      · subst q
        rw [hset_same push_new, push_new]
      · rw [hset_other q]
        rw [Array.getElem?_push, Array.getElem?_push, if_neg q, if_neg q]
    rw [e _ h1, e _ h2] at this
    exact Option.some.inj this
theorem storeP_push {h : Heap} {c : Array Value} {t : TypeId} {i : Nat} {v : Value} {K : Heap → Prop} (hi : i < c.size) (hk : K (h.push (.cells (c.setIfInBounds i v) t (0, 0)))) : StoreP (h.push (.cells c t (0, 0))) ⟨h.size, i, none⟩ v K := by
  refine ⟨?_, hfrozen_blk push_new, ?_⟩
  · rw [hcell_blk push_new]; simp [hi]
  · rintro _ rfl
    rw [hset_push]; exact hk
theorem newP_of {h : Heap} {o : Obj} {K : Nat → Heap → Prop} (hk : K h.size (h.push o)) : NewP h o K := by
  rintro b h' rfl rfl; exact hk

section
variable {P : Program}
theorem den_append1 {sT xT ty elem eT t : TypeId} {sz bytes : Nat} {z : Value} {h : Heap} {p : Option Addr} {len cap : Nat} {cs : List Value} {xs : Array Value} {K : Value → Heap → Prop}
    (T : SlTy P sT elem sz bytes z) (hx : P.underlying xT = some (.slice eT))
    (own : Own h p len cap sz cs) (hxs : xs.size = sz) (hone : ∀ v ∈ xs.toList, oneCell v = true) (hb : (len + 1) * bytes ≤ 70368744177664) (hb2 : len + 1 ≤ 9223372036854775807)
    (hk : ∀ p' cap' h', Own h' p' (len + 1) cap' sz (cs ++ xs.toList) → Fr (inBlk p) h h' → (∀ c, inBlk p' c → inBlk p c ∨ h.size ≤ c) → K (.slice p' (len + 1) cap') h') :
    NewP h (.cells xs t) fun b h1 => denSem P (Builtin.append_ #[sT, xT] ty #[.slice p len cap, .slice (some ⟨b, 0, none⟩) 1 1]) h1 K := by
  refine newP_of ?_
  have f1 : Fr (fun _ => False) h (h.push (.cells xs t)) := Fr.push _ _
  refine den_append T hx (own.frame f1 (fun _ _ => id)) (ds := xs.toList) (.inr ⟨_, rfl, heldL_blk push_new (fun j v hj => by rw [Nat.zero_add]; simpa using hj)⟩) (by simp [hxs]) hone hb hb2 ?_
  intro p' cap' h' o1 _ f2 g
  exact hk p' cap' h' o1 (Fr.no f1 f2) (fun c hc => (g c hc).imp id (fun h2 => by simp at h2; omega))

theorem rd_sameAddr_blk {a b : Addr} {h : Heap} (hb : a.block = b.block) : rd P (sameAddr a b) h = some (a == b) := by
  unfold sameAddr
  have : (a.block == b.block) = true := by simp [hb]
  rw [if_pos this]; rfl
/-- a pointer and itself -/
theorem EqV.refl {t e : TypeId} {i : TypeInfo} (ht : P.underlying t = some (.pointer e)) (hi : P.info? e = some i) (hz : i.size ≠ 0) (a : Addr) : EqV P t (.pointer (some a)) (.pointer (some a)) true := fun h => by
  unfold Op.equal
  show rd P (Op.equalIn (Op.maxDepth - 1 + 1) t _ _) h = _
  unfold Op.equalIn
  rw [rd_bind _ _ _ _ (rd_underlying ht)]
  show rd P (sizeOf e >>= _) h = _
  rw [rd_bind _ _ _ _ (rd_sizeOf hi), if_pos hz, rd_sameAddr_blk rfl]
  simp
theorem EqV.self {t e : TypeId} (ht : P.underlying t = some (.pointer e)) (hi : (P.info? e).map (fun i => Nat.beq i.size 0) = some false) (a : Addr) : EqV P t (.pointer (some a)) (.pointer (some a)) true := by
  cases h : P.info? e with
  | none => rw [h] at hi; cases hi
  | some i =>
    rw [h] at hi
    refine EqV.refl ht h (fun e0 => ?_) a
    simp [e0] at hi
end
end Go.Den
namespace Go.Den
/-- all that was touched is new -/
structure Up (h0 : Heap) (S : Nat → Prop) (h : Heap) : Prop where
  fr : Fr (fun _ => False) h0 h
  ge : ∀ c, S c → h0.size ≤ c
theorem Up.step {h0 h h' : Heap} {S S' : Nat → Prop} (u : Up h0 S h) (st : Step S h S' h') : Up h0 S' h' :=
  ⟨u.fr.fresh st.fr u.ge, fun c hc => by
    rcases st.new c hc with h1 | h1
    · exact u.ge c h1
    · have := u.fr.1; omega⟩
theorem Up.on {h0 h h' : Heap} {S : Nat → Prop} (u : Up h0 S h) (f : Fr (fun _ => False) h h') : Up h0 S h' := ⟨u.fr.tt f, u.ge⟩
theorem Up.touch {h0 h h' : Heap} {S Q : Nat → Prop} (u : Up h0 S h) (f : Fr Q h h') (hq : ∀ c, Q c → S c) : Up h0 S h' := ⟨u.fr.fresh f (fun c hc => u.ge c (hq c hc)), u.ge⟩
/-- a new row of cells -/
theorem row_new {h : Heap} {cs : List Value} {t : TypeId} : Row (h.push (.cells cs.toArray t)) (some ⟨h.size, 0, none⟩) cs := .inr ⟨_, rfl, heldL_blk push_new (fun j v hj => by rw [Nat.zero_add]; simpa using hj)⟩
theorem add_zero_addr (a : Addr) : a.add 0 = a := by simp [Addr.add]
theorem add_block (a : Addr) (n : Nat) : (a.add n).block = a.block := by unfold Addr.add; split <;> rfl
/-- a row that is not empty lies in the heap -/
theorem row_lt {h : Heap} {p : Option Addr} {cs : List Value} (hr : Row h p cs) (hn : cs ≠ []) {x : Nat} (hx : inBlk p x) : x < h.size := by
  obtain ⟨a, rfl, rfl⟩ := hx
  rcases hr with hh | ⟨a', e, hh⟩
  · exact absurd hh hn
  · cases e
    cases cs with
    | nil => exact absurd rfl hn
    | cons c cs =>
      obtain ⟨_, _, _, hb, _⟩ := hcell_some hh.1
      have := lt_of_get hb
      rwa [add_block] at this
/-- a part of a row -/
theorem Row.sub {h : Heap} {p : Option Addr} {cs : List Value} (hr : Row h p cs) {cap l u sz : Nat} (h1 : l ≤ u) (h2 : u ≤ cap) : Row h (slBase p cap l sz) ((cs.take (u * sz)).drop (l * sz)) := by
  by_cases hc : cap = l
  · left
    have : u = l := by omega
    subst this
    rw [List.drop_eq_nil_iff, List.length_take]
    exact Nat.min_le_left _ _
  · unfold slBase
    rw [if_neg hc]
    rcases hr with rfl | ⟨a, rfl, hh⟩
    · left; simp
    · refine .inr ⟨a.add (l * sz), rfl, heldL_at.2 fun j v hj => ?_⟩
      rw [add_add, Nat.zero_add]
      rw [List.getElem?_drop, List.getElem?_take] at hj
      split at hj
      · have := heldL_at.1 hh (l * sz + j) v hj
        rwa [Nat.zero_add] at this
      · cases hj

/-! ### what may be touched (M), and what is only read (D) -/
structure Ft where
  M : Nat → Prop
  D : Nat → Prop
structure StepF (F : Ft) (h : Heap) (F' : Ft) (h' : Heap) : Prop where
  fr : Fr F.M h h'
  newM : ∀ c, F'.M c → F.M c ∨ h.size ≤ c
  newD : ∀ c, F'.D c → F.D c ∨ h.size ≤ c
  oldD : ∀ c, F.D c → F'.D c
theorem StepF.refl (F : Ft) (h : Heap) : StepF F h F h := ⟨Fr.refl _ _, fun _ => .inl, fun _ => .inl, fun _ => id⟩
theorem StepF.trans {F F1 F2 : Ft} {h h1 h2 : Heap} (a : StepF F h F1 h1) (b : StepF F1 h1 F2 h2) : StepF F h F2 h2 := by
  have z := a.fr.1
  refine ⟨a.fr.trans b.fr (fun _ _ => id) (fun c hc hx => (a.newM c hx).resolve_right (by omega)), fun c hc => ?_, fun c hc => ?_, fun c hc => b.oldD c (a.oldD c hc)⟩
  · rcases b.newM c hc with hc | hc
    · exact a.newM c hc
    · exact .inr (by omega)
  · rcases b.newD c hc with hc | hc
    · exact a.newD c hc
    · exact .inr (by omega)
theorem StepF.of_fr {F : Ft} {h h' : Heap} (f : Fr F.M h h') : StepF F h F h' := ⟨f, fun _ => .inl, fun _ => .inl, fun _ => id⟩
theorem StepF.of_no {F : Ft} {h h' : Heap} (f : Fr (fun _ => False) h h') : StepF F h F h' := .of_fr (f.mono fun _ _ => False.elim)
theorem StepF.no {F F1 : Ft} {h h1 h2 : Heap} (f : Fr (fun _ => False) h h1) (b : StepF F h1 F1 h2) : StepF F h F1 h2 := (StepF.of_no f).trans b
theorem StepF.on {F F1 : Ft} {h h1 h2 : Heap} (a : StepF F h F1 h1) (f : Fr (fun _ => False) h1 h2) : StepF F h F1 h2 := a.trans (StepF.of_no f)
theorem StepF.apart {F F' : Ft} {Q : Nat → Prop} {h h' : Heap} (st : StepF F h F' h') (hd : ∀ c, F.M c ∨ F.D c → ¬ Q c) (hq : ∀ c, Q c → c < h.size) : ∀ c, F'.M c ∨ F'.D c → ¬ Q c := fun c hc hx => by
  have := hq c hx
  rcases hc with hc | hc
  · rcases st.newM c hc with h1 | h1
    · exact hd c (.inl h1) hx
    · omega
  · rcases st.newD c hc with h1 | h1
    · exact hd c (.inr h1) hx
    · omega
/-- what is only read stays apart from what may be touched -/
theorem StepF.apartM {F F' : Ft} {Q : Nat → Prop} {h h' : Heap} (st : StepF F h F' h') (hd : ∀ c, F.M c → ¬ Q c) (hq : ∀ c, Q c → c < h.size) : ∀ c, F'.M c → ¬ Q c := fun c hc hx => by
  have := hq c hx
  rcases st.newM c hc with h1 | h1
  · exact hd c h1 hx
  · omega
/-- all that was touched is new -/
structure UpF (h0 : Heap) (F : Ft) (h : Heap) : Prop where
  fr : Fr (fun _ => False) h0 h
  ge : ∀ c, F.M c ∨ F.D c → h0.size ≤ c
theorem UpF.step {h0 h h' : Heap} {F F' : Ft} (u : UpF h0 F h) (st : StepF F h F' h') : UpF h0 F' h' := by
  have z := u.fr.1
  refine ⟨u.fr.fresh st.fr (fun c hc => u.ge c (.inl hc)), fun c hc => ?_⟩
  rcases hc with hc | hc
  · rcases st.newM c hc with h1 | h1
    · exact u.ge c (.inl h1)
    · omega
  · rcases st.newD c hc with h1 | h1
    · exact u.ge c (.inr h1)
    · omega
theorem UpF.on {h0 h h' : Heap} {F : Ft} (u : UpF h0 F h) (f : Fr (fun _ => False) h h') : UpF h0 F h' := ⟨u.fr.tt f, u.ge⟩
/-! a block that is stored as a whole -/
theorem storeL_from {b : Nat} {t : TypeId} : ∀ (vs : List Value) (i : Nat) (h : Heap) (c : Array Value) (K : Heap → Prop), h[b]? = some (.cells c t (0, 0)) → i + vs.length ≤ c.size → vs.all oneCell = true →
    (∀ h' c', h'[b]? = some (.cells c' t (0, 0)) → c'.size = c.size → (∀ j, j < i ∨ i + vs.length ≤ j → c'[j]? = c[j]?) → (∀ j v, vs[j]? = some v → c'[i + j]? = some v) → h'.size = h.size → (∀ x, x ≠ b → h'[x]? = h[x]?) → K h') →
    storeL ⟨b, 0, none⟩ vs i h K
  | [], i, h, c, K, hb, _, _, hk => hk h c hb rfl (fun _ _ => rfl) (fun j v hj => by simp at hj) rfl (fun _ _ => rfl)
  | v :: vs, i, h, c, K, hb, hl, hv, hk => by
    rw [List.all_cons, Bool.and_eq_true] at hv
    rw [List.length_cons] at hl
    unfold storeL
    rw [hv.1]
    dsimp only
    rw [add_blk, Nat.zero_add]
    refine storeP_blk hb (by omega) fun h1 a1 s1 o1 => ?_
    refine storeL_from vs (i + 1) h1 _ K a1 (by rw [Array.size_setIfInBounds]; omega) hv.2 fun h2 c2 b2 z2 q2 r2 s2 o2 => hk h2 c2 b2 (by rw [z2, Array.size_setIfInBounds]) (fun j hj => ?_) (fun j u hj => ?_) (by omega) (fun x hx => by rw [o2 x hx, o1 x hx])
    · rw [List.length_cons] at hj
      rw [q2 j (by omega), Array.getElem?_setIfInBounds, if_neg (by omega)]
    · cases j with
      | zero =>
        simp only [List.getElem?_cons_zero, Option.some.injEq] at hj
        subst hj
        rw [Nat.add_zero, q2 i (by omega)]
        rw [Array.getElem?_setIfInBounds, if_pos rfl, if_pos (by omega)]
      | succ j =>
        have := r2 j u (by simpa using hj)
        rwa [show i + 1 + j = i + (j + 1) by omega] at this
theorem storeL_full {h : Heap} {b : Nat} {c : Array Value} {t : TypeId} {vs : List Value} {K : Heap → Prop} (hb : h[b]? = some (.cells c t (0, 0))) (hl : vs.length = c.size) (hv : vs.all oneCell = true)
    (hk : ∀ h', h'[b]? = some (.cells vs.toArray t (0, 0)) → h'.size = h.size → (∀ x, x ≠ b → h'[x]? = h[x]?) → K h') : storeL ⟨b, 0, none⟩ vs 0 h K := by
  refine storeL_from vs 0 h c K hb (by omega) hv fun h' c' b' z _ r s o => hk h' ?_ s o
  have : c' = vs.toArray := by
    apply Array.ext'
    apply List.ext_getElem?
    intro j
    by_cases hj : j < vs.length
    · have e := List.getElem?_eq_getElem hj
      have := r j _ e
      rw [Nat.zero_add] at this
      rw [Array.getElem?_toList, this]
      exact e.symm
    · rw [List.getElem?_eq_none (by rw [Array.length_toList]; omega), List.getElem?_eq_none (by simpa using hj)]
  rw [← this]; exact b'
theorem new_full {h : Heap} {c : Array Value} {t : TypeId} {vs : List Value} {K : Nat → Heap → Prop} (hl : vs.length = c.size) (hv : vs.all oneCell = true)
    (hk : ∀ b h', b = h.size → h'[b]? = some (.cells vs.toArray t (0, 0)) → Fr (fun _ => False) h h' → K b h') : NewP h (.cells c t) fun b h0 => storeL ⟨b, 0, none⟩ vs 0 h0 (K b) :=
  newP_of (storeL_full push_new hl hv fun h' b' s o => hk _ h' rfl b' ((Fr.push h _).fresh (S := fun y => y = h.size) ⟨by omega, fun y _ hn => o y hn⟩ (fun y e => Nat.le_of_eq e.symm)))
end Go.Den
