/-
  What is proved here: laws on maps with keys of any kind, as pairs in whatever order; 'range' over them. No condition.
-/
import Derived.Test.YtgccegnmggjkjaaDoorHeap
set_option linter.unusedSectionVars false
namespace Go.Den
section
variable {P : Program} {α : Type} [DecidableEq α]

/-- what is needed of a key type: 'enc' writes keys -/
structure KeyOk (P : Program) (kt : TypeId) (enc : α → Value) : Prop where
  eq : ∀ (a b : α) (h : Heap), rd P (Op.equal kt (enc a) (enc b)) h = some (decide (a = b))
  chk : ∀ (e : Bool) (a : α) (h : Heap), rd P (Instr.checkKey e 10000 kt (enc a)) h = some ()
  now : ∃ d, P.underlying kt = some d ∧ ∀ a b, Instr.sameNow d (enc a) (enc b) = none ∨ Instr.sameNow d (enc a) (enc b) = some (decide (a = b))
  bits : ∀ a, Instr.sameBits 10000 (enc a) (enc a) = true
abbrev ent (enc : α → Value) (t : α × Value × Nat) : MapEntry := ⟨enc t.1, t.2.1, t.2.2⟩
abbrev pr (t : α × Value × Nat) : α × Value := (t.1, t.2.1)
/-- block m is a map with just these entries -/
structure MapT (h : Heap) (m : Nat) (enc : α → Value) (T : List (α × Value × Nat)) (clock : Nat) : Prop where
  blk : h[m]? = some (.map (T.map (ent enc)).toArray clock)
  keys : (T.map (·.1)).Nodup
  old : ∀ t ∈ T, t.2.2 < clock
  born : (T.map (·.2.2)).Nodup
/-- .. with these pairs, in whatever order -/
def MapP (h : Heap) (m : Nat) (enc : α → Value) (l : List (α × Value)) : Prop := ∃ T clock, MapT h m enc T clock ∧ (T.map pr).Perm l
def gdel (l : List (α × Value)) (k : α) : List (α × Value) := l.filter (fun e => !decide (e.1 = k))
def gput (l : List (α × Value)) (k : α) (v : Value) : List (α × Value) := (k, v) :: gdel l k

theorem MapP.perm {h : Heap} {m : Nat} {enc : α → Value} {l l' : List (α × Value)} (H : MapP h m enc l) (p : l.Perm l') : MapP h m enc l' := by
  obtain ⟨T, c, h1, h2⟩ := H
  exact ⟨T, c, h1, h2.trans p⟩
theorem MapP.of_get {h h' : Heap} {m : Nat} {enc : α → Value} {l : List (α × Value)} (H : MapP h m enc l) (he : h'[m]? = h[m]?) : MapP h' m enc l := by
  obtain ⟨T, c, ⟨a, b, d, e⟩, h2⟩ := H
  exact ⟨T, c, ⟨he.trans a, b, d, e⟩, h2⟩
theorem MapP.lt {h : Heap} {m : Nat} {enc : α → Value} {l : List (α × Value)} (H : MapP h m enc l) : m < h.size := by
  obtain ⟨T, c, h1, _⟩ := H; exact lt_of_get h1.blk
theorem MapP.frame {S : Nat → Prop} {h h' : Heap} {m : Nat} {enc : α → Value} {l : List (α × Value)} (H : MapP h m enc l) (hf : Fr S h h') (hn : ¬ S m) : MapP h' m enc l := H.of_get (hf.2 m H.lt hn)
theorem MapP.push (h : Heap) (enc : α → Value) : MapP (h.push (.map #[] 0)) h.size enc [] := ⟨[], 0, ⟨push_new, by simp, by simp, by simp⟩, .refl _⟩
theorem MapP.nodup {h : Heap} {m : Nat} {enc : α → Value} {l : List (α × Value)} (H : MapP h m enc l) : (l.map (·.1)).Nodup := by
  obtain ⟨T, c, h1, h2⟩ := H
  have h3 := h2.map (·.1)
  rw [List.map_map] at h3
  exact h3.nodup_iff.1 h1.keys

def findT (k : α) : List (α × Value × Nat) → Nat → Option (Nat × Value)
  | [], _ => none
  | t :: T, i => if k = t.1 then some (i, t.2.1) else findT k T (i + 1)
theorem findT_none {k : α} : ∀ {T : List (α × Value × Nat)} {i : Nat}, findT k T i = none → ∀ t ∈ T, t.1 ≠ k
  | [], _, _, _, ht => by cases ht
  | u :: T, i, h, t, ht => by
    unfold findT at h
    split at h
    · cases h
    · rename_i hne
      rcases List.mem_cons.1 ht with rfl | ht
      · exact fun e => hne e.symm
      · exact findT_none h t ht
theorem findT_some {k : α} : ∀ {T : List (α × Value × Nat)} {i j : Nat} {v : Value}, findT k T i = some (j, v) → ∃ A B b, T = A ++ (k, v, b) :: B ∧ j = i + A.length
  | [], _, _, _, h => by cases h
  | u :: T, i, j, v, h => by
    unfold findT at h
    split at h
    · rename_i he
      simp only [Option.some.injEq, Prod.mk.injEq] at h
      obtain ⟨rfl, rfl⟩ := h
      subst he
      exact ⟨[], T, u.2.2, rfl, rfl⟩
    · obtain ⟨A, B, b, rfl, rfl⟩ := findT_some h
      exact ⟨u :: A, B, b, rfl, by rw [List.length_cons]; omega⟩
theorem findNow_ent {kt : TypeId} {enc : α → Value} {d : TypeDesc} (hd : ∀ a b, Instr.sameNow d (enc a) (enc b) = none ∨ Instr.sameNow d (enc a) (enc b) = some (decide (a = b))) (k : α) :
    ∀ (T : List (α × Value × Nat)) (i : Nat), Instr.findNow d (enc k) (T.map (ent enc)) i = none ∨ Instr.findNow d (enc k) (T.map (ent enc)) i = some (findT k T i)
  | [], i => .inr rfl
  | t :: T, i => by
    rw [List.map_cons]
    unfold Instr.findNow findT
    rcases hd k t.1 with e | e <;> rw [e]
    · exact .inl rfl
    · by_cases hk : k = t.1
      · rw [decide_eq_true hk, if_pos hk]; exact .inr rfl
      · rw [decide_eq_false hk, if_neg hk]; exact findNow_ent (kt := kt) hd k T (i + 1)
theorem rd_asking {kt : TypeId} {enc : α → Value} (K : KeyOk P kt enc) (k : α) (h : Heap) : ∀ (T : List (α × Value × Nat)) (i : Nat), rd P (Instr.findAsking kt (enc k) (T.map (ent enc)) i) h = some (findT k T i)
  | [], i => rfl
  | t :: T, i => by
    rw [List.map_cons]
    unfold Instr.findAsking findT
    rw [rd_bind _ _ _ _ (K.eq k t.1 h)]
    by_cases hk : k = t.1
    · rw [decide_eq_true hk, if_pos hk, if_pos rfl]; rfl
    · rw [decide_eq_false hk, if_neg hk, if_neg (by simp)]; exact rd_asking K k h T (i + 1)
theorem rd_find {kt : TypeId} {enc : α → Value} (K : KeyOk P kt enc) (k : α) (h : Heap) (T : List (α × Value × Nat)) : rd P (Instr.findKey kt (enc k) (T.map (ent enc))) h = some (findT k T 0) := by
  obtain ⟨d, h1, h2⟩ := K.now
  unfold Instr.findKey
  rw [rd_bind _ _ _ _ (rd_underlying h1)]
  rcases findNow_ent (kt := kt) h2 k T 0 with e | e <;> rw [e]
  · exact rd_asking K k h T 0
  · rfl

/-- a map type -/
structure MapKy (P : Program) (t : TypeId) (enc : α → Value) (z : Value) : Prop where
  ty : ∃ k e, P.underlying t = some (.map k e) ∧ KeyOk P k enc ∧ ∃ i, P.info? e = some i ∧ i.zero = some z
theorem MapKy.of {t : TypeId} {enc : α → Value} {z : Value} (k e : TypeId) (h1 : P.underlying t = some (.map k e)) (h2 : KeyOk P k enc) (h3 : (P.info? e).bind (·.zero) = some z) : MapKy P t enc z := by
  cases hi : P.info? e with
  | none => rw [hi] at h3; cases h3
  | some i => exact ⟨k, e, h1, h2, i, hi, by rw [hi] at h3; exact h3⟩
/-- what is found of a key -/
def gget (l : List (α × Value)) (k : α) : Option Value := (l.find? (fun e => decide (e.1 = k))).map (·.2)
theorem gget_none {l : List (α × Value)} {k : α} : gget l k = none ↔ ∀ e ∈ l, e.1 ≠ k := by
  unfold gget
  rw [Option.map_eq_none_iff, List.find?_eq_none]
  simp
theorem gget_some {l : List (α × Value)} {k : α} {v : Value} (hn : (l.map (·.1)).Nodup) : gget l k = some v ↔ (k, v) ∈ l := by
  induction l with
  | nil => simp [gget]
  | cons e l ih =>
    rw [List.map_cons, List.nodup_cons] at hn
    unfold gget at ih ⊢
    rw [List.find?_cons]
    by_cases h : e.1 = k
    · rw [decide_eq_true h]
      simp only [Option.map_some, Option.some.injEq, List.mem_cons]
      constructor
      · rintro rfl; exact .inl (by rw [← h])
      · rintro (rfl | hm)
        · rfl
        · exact absurd (List.mem_map_of_mem (f := (·.1)) hm) (by rw [← h]; exact hn.1)
    · rw [decide_eq_false h]
      rw [ih hn.2, List.mem_cons]
      constructor
      · exact .inr
      · rintro (rfl | hm)
        · exact absurd rfl h
        · exact hm
theorem MapP.find {h : Heap} {m : Nat} {enc : α → Value} {l : List (α × Value)} (H : MapP h m enc l) {T : List (α × Value × Nat)} (hp : (T.map pr).Perm l) (k : α) : (findT k T 0).map (·.2) = gget l k := by
  have hn := H.nodup
  cases e : findT k T 0 with
  | none =>
    symm
    rw [Option.map_none, gget_none]
    intro x hx
    obtain ⟨t, ht, rfl⟩ := List.mem_map.1 (hp.mem_iff.2 hx)
    exact findT_none e t ht
  | some jv =>
    obtain ⟨j, v⟩ := jv
    obtain ⟨A, B, b, rfl, _⟩ := findT_some e
    symm
    rw [Option.map_some, gget_some hn]
    exact hp.mem_iff.1 (by simp)
theorem lookP {t : TypeId} {enc : α → Value} {z : Value} (K : MapKy P t enc z) {h : Heap} {m : Nat} {l : List (α × Value)} (H : MapP h m enc l) (k : α) (ok : Bool) :
    rd P (Instr.lookup t (.map (some m)) (enc k) ok) h = some (if ok then .tuple #[(gget l k).getD z, .bool (gget l k).isSome] else (gget l k).getD z) := by
  obtain ⟨kt, e, ht, hk, i, hi, hz⟩ := K.ty
  have H0 := H
  obtain ⟨T, c, H, hp⟩ := H
  rw [← H0.find hp k]
  unfold Instr.lookup
  rw [rd_bind _ _ _ _ (rd_underlying ht)]
  simp only
  rw [rd_bind _ _ _ _ (rd_getObj H.blk)]
  simp only
  rw [rd_bind _ _ _ _ (rd_pure _), rd_bind _ _ _ _ (hk.chk _ k h), rd_bind _ _ _ _ (rd_find hk k h T)]
  cases hf : findT k T 0 with
  | none =>
    simp only
    rw [rd_bind _ _ _ _ (rd_zeroValue hi hz)]
    cases ok <;> rfl
  | some jv => cases ok <;> rfl
theorem lookV_P {t : TypeId} {enc : α → Value} {z : Value} (K : MapKy P t enc z) {h : Heap} {m : Nat} {l : List (α × Value)} (H : MapP h m enc l) (k : α) : LookV P t (.map (some m)) (enc k) false h ((gget l k).getD z) := fun h' hs => by
  have := lookP K (H.of_get (h' := h') hs) k false
  simpa using this
theorem lookV_Pok {t : TypeId} {enc : α → Value} {z : Value} (K : MapKy P t enc z) {h : Heap} {m : Nat} {l : List (α × Value)} (H : MapP h m enc l) (k : α) : LookV P t (.map (some m)) (enc k) true h (.tuple #[(gget l k).getD z, .bool (gget l k).isSome]) := fun h' hs => by
  have := lookP K (H.of_get (h' := h') hs) k true
  simpa using this
theorem lenV_P {t ty : TypeId} {enc : α → Value} {z : Value} (K : MapKy P t enc z) {h : Heap} {m : Nat} {l : List (α × Value)} (H : MapP h m enc l) : LenV P #[t] ty (.map (some m)) h (.int .i64 (l.length : Int)) := fun h' hs => by
  obtain ⟨kt, e, ht, _⟩ := K.ty
  obtain ⟨T, c, H, hp⟩ := H
  have hb : h'[m]? = some (.map (T.map (ent enc)).toArray c) := Eq.trans hs H.blk
  have hl : T.length = l.length := by rw [← hp.length_eq, List.length_map]
  unfold Builtin.len_
  show rd P (underlying t >>= _) h' = _
  rw [rd_bind _ _ _ _ (rd_underlying ht)]
  show rd P (getObj m >>= _) h' = _
  rw [rd_bind _ _ _ _ (rd_getObj hb)]
  show some (goInt _) = _
  simp [hl, goInt]
theorem modify_mid {β : Type} (A B : List β) (t : β) (f : β → β) : (A ++ t :: B).modify A.length f = A ++ f t :: B := by
  induction A with
  | nil => rfl
  | cons a A ih => simp only [List.cons_append, List.length_cons, List.modify_succ_cons, ih]
theorem erase_mid {β : Type} (A B : List β) (t : β) : (A ++ t :: B).eraseIdx A.length = A ++ B := by
  induction A with
  | nil => rfl
  | cons a A ih => simp only [List.cons_append, List.length_cons, List.eraseIdx_cons_succ, ih]
theorem gdel_perm {l l' : List (α × Value)} (p : l.Perm l') (k : α) : (gdel l k).Perm (gdel l' k) := p.filter _
theorem gdel_mid {A B : List (α × Value × Nat)} {k : α} {v : Value} {b : Nat} (hn : ((A ++ (k, v, b) :: B).map (·.1)).Nodup) : gdel ((A ++ (k, v, b) :: B).map pr) k = (A ++ B).map pr := by
  rw [List.map_append, List.map_cons, List.nodup_append] at hn
  obtain ⟨_, h2, h3⟩ := hn
  rw [List.nodup_cons] at h2
  unfold gdel
  rw [List.map_append, List.map_cons, List.filter_append, List.filter_cons, if_neg (by simp), List.map_append]
  congr 1
  · rw [List.filter_eq_self]
    intro e he
    obtain ⟨t, ht, rfl⟩ := List.mem_map.1 he
    have := h3 t.1 (List.mem_map_of_mem ht) k (by simp)
    simp [this]
  · rw [List.filter_eq_self]
    intro e he
    obtain ⟨t, ht, rfl⟩ := List.mem_map.1 he
    have : t.1 ≠ k := fun e => h2.1 (List.mem_map.2 ⟨t, ht, e⟩)
    simp [this]
theorem gdel_none {l : List (α × Value)} {k : α} (hn : ∀ e ∈ l, e.1 ≠ k) : gdel l k = l := by
  unfold gdel
  rw [List.filter_eq_self]
  intro e he
  simp [hn e he]
/-- 'm[k] = v' -/
theorem den_putP {t : TypeId} {enc : α → Value} {z : Value} (K : MapKy P t enc z) {h : Heap} {m : Nat} {l : List (α × Value)} (H : MapP h m enc l) {k : α} {v : Value} {Q : Unit → Heap → Prop}
    (hk : ∀ h', MapP h' m enc (gput l k v) → h'.size = h.size → (∀ c, c ≠ m → h'[c]? = h[c]?) → Q () h') : denSem P (Instr.mapUpdate t (.map (some m)) (enc k) v) h Q := by
  obtain ⟨kt, e, ht, hkt, _⟩ := K.ty
  obtain ⟨T, c, H, hp⟩ := H
  have hlt := lt_of_get H.blk
  unfold Instr.mapUpdate
  refine den_of_rd (rd_underlying ht) ?_
  simp only
  refine den_of_rd (rd_getObj H.blk) ?_
  simp only
  refine den_of_rd (hkt.chk _ k h) ?_
  have fin : ∀ (T' : List (α × Value × Nat)) (es' : Array MapEntry) (c' : Nat), es'.toList = T'.map (ent enc) → (T'.map (·.1)).Nodup → (∀ t ∈ T', t.2.2 < c') → (T'.map (·.2.2)).Nodup → (T'.map pr).Perm (gput l k v) → denSem P (setObj m (.map es' c')) h Q := fun T' es' c' h0 h1 h2 h3 h4 => by
    refine ⟨⟨_, H.blk, fun c e f he => by cases he⟩, ?_⟩
    refine hk _ ⟨T', c', ⟨?_, h1, h2, h3⟩, h4⟩ (by simp) (fun x hx => ?_)
    · rw [← h0]; simp [hlt]
    · rw [Array.getElem?_setIfInBounds, if_neg (Ne.symm hx)]
  refine den_of_rd (rd_find hkt k h T) ?_
  cases hf : findT k T 0 with
  | none =>
    simp only
    have hno := findT_none hf
    refine fin (T ++ [(k, v, c)]) _ _ (by simp) ?_ ?_ ?_ ?_
    · rw [List.map_append, List.nodup_append]
      refine ⟨H.keys, by simp, fun a ha b hb => ?_⟩
      obtain ⟨t, ht, rfl⟩ := List.mem_map.1 ha
      simp at hb; subst hb
      exact hno t ht
    · intro t ht
      rcases List.mem_append.1 ht with ht | ht
      · exact Nat.lt_succ_of_lt (H.old t ht)
      · obtain rfl := List.mem_singleton.1 ht; exact Nat.lt_succ_self _
    · rw [List.map_append, List.nodup_append]
      refine ⟨H.born, by simp, fun a ha b hb => ?_⟩
      obtain ⟨t, ht, rfl⟩ := List.mem_map.1 ha
      simp at hb; subst hb
      exact Nat.ne_of_lt (H.old t ht)
    · unfold gput
      rw [gdel_none (fun e he => by obtain ⟨t, ht, rfl⟩ := List.mem_map.1 (hp.mem_iff.2 he); exact hno t ht), List.map_append]
      exact (List.perm_append_comm.trans (.refl _)).trans (List.Perm.cons _ hp)
  | some jv =>
    obtain ⟨j, u⟩ := jv
    obtain ⟨A, B, b, rfl, hj⟩ := findT_some hf
    rw [Nat.zero_add] at hj
    subst hj
    simp only
    have hst : rd P (Instr.keyThatStays (((((A ++ (k, u, b) :: B).map (ent enc)).toArray[A.length]?).map (·.key)).getD (enc k)) (enc k)) h = some (enc k) := by
      have : ((A ++ (k, u, b) :: B).map (ent enc)).toArray[A.length]? = some (ent enc (k, u, b)) := by simp
      rw [this]
      simp only [Option.map_some, Option.getD_some]
      unfold Instr.keyThatStays
      rw [if_pos (hkt.bits k)]; rfl
    refine den_of_rd hst ?_
    refine fin (A ++ (k, v, b) :: B) _ _ ?_ ?_ ?_ ?_ ?_
    · rw [Array.toList_modify, List.map_append, List.map_cons]
      have := modify_mid (A.map (ent enc)) (B.map (ent enc)) (ent enc (k, u, b)) (fun e => { e with key := enc k, val := v })
      rw [List.length_map] at this
      rw [this, List.map_append, List.map_cons]
    · have := H.keys; simpa using this
    · intro t ht
      rcases List.mem_append.1 ht with ht | ht
      · exact H.old t (List.mem_append_left _ ht)
      · rcases List.mem_cons.1 ht with rfl | ht
        · exact H.old (k, u, b) (by simp)
        · exact H.old t (by simp [ht])
    · have := H.born; simpa using this
    · unfold gput
      refine List.Perm.trans ?_ (List.Perm.cons _ ((gdel_mid H.keys ▸ gdel_perm hp k)))
      rw [List.map_append, List.map_cons, List.map_append]
      exact List.perm_middle
/-- 'delete(m, k)' -/
theorem den_delP {t kt' ty : TypeId} {enc : α → Value} {z : Value} (K : MapKy P t enc z) {h : Heap} {m : Nat} {l : List (α × Value)} (H : MapP h m enc l) {k : α} {Q : Value → Heap → Prop}
    (hk : ∀ h', MapP h' m enc (gdel l k) → h'.size = h.size → (∀ c, c ≠ m → h'[c]? = h[c]?) → Q (.tuple #[]) h') : denSem P (Builtin.delete_ #[t, kt'] ty #[.map (some m), enc k]) h Q := by
  obtain ⟨kt, e, ht, hkt, _⟩ := K.ty
  obtain ⟨T, c, H, hp⟩ := H
  have hlt := lt_of_get H.blk
  unfold Builtin.delete_
  refine den_of_rd (rd_underlying ht) ?_
  show denSem P (do
      let __x ← getObj m
      match __x with
        | Obj.map es clock => do
          Instr.checkKey es.isEmpty 10000 kt (enc k)
          let __do_lift ← Instr.findKey kt (enc k) es.toList
          match __do_lift with
            | some (i, _) => do
              setObj m (Obj.map (es.eraseIdxIfInBounds i) clock)
              pure (Value.tuple #[])
            | none => do
              setObj m (Obj.map es clock)
              pure (Value.tuple #[])
        | _ => do
          stuck "delete: map expected"
          pure (Value.tuple #[])) h Q
  refine den_of_rd (rd_getObj H.blk) ?_
  simp only
  refine den_of_rd (hkt.chk _ k h) ?_
  have fin : ∀ (T' : List (α × Value × Nat)) (es' : Array MapEntry), es'.toList = T'.map (ent enc) → (T'.map (·.1)).Nodup → (∀ t ∈ T', t.2.2 < c) → (T'.map (·.2.2)).Nodup → (T'.map pr).Perm (gdel l k) → denSem P (do setObj m (.map es' c); pure (Value.tuple #[])) h Q := fun T' es' h0 h1 h2 h3 h4 => by
    rw [den_bind]
    refine ⟨⟨_, H.blk, fun c e f he => by cases he⟩, ?_⟩
    refine hk _ ⟨T', c, ⟨?_, h1, h2, h3⟩, h4⟩ (by simp) (fun x hx => ?_)
    · rw [← h0]; simp [hlt]
    · rw [Array.getElem?_setIfInBounds, if_neg (Ne.symm hx)]
  refine den_of_rd (rd_find hkt k h T) ?_
  cases hf : findT k T 0 with
  | none =>
    have hno := findT_none hf
    refine fin T _ rfl H.keys H.old H.born ?_
    rw [gdel_none (fun e he => by obtain ⟨t, ht, rfl⟩ := List.mem_map.1 (hp.mem_iff.2 he); exact hno t ht)]
    exact hp
  | some jv =>
    obtain ⟨j, u⟩ := jv
    obtain ⟨A, B, b, rfl, hj⟩ := findT_some hf
    rw [Nat.zero_add] at hj
    subst hj
    have hsub : List.Sublist (A ++ B) (A ++ (k, u, b) :: B) := List.Sublist.append (List.Sublist.refl _) (List.sublist_cons_self _ _)
    refine fin (A ++ B) _ ?_ ((hsub.map _).nodup H.keys) (fun t ht => H.old t (hsub.subset ht)) ((hsub.map _).nodup H.born) (gdel_mid H.keys ▸ gdel_perm hp k)
    rw [Array.toList_eraseIdxIfInBounds, List.map_append, List.map_cons]
    have := erase_mid (A.map (ent enc)) (B.map (ent enc)) (ent enc (k, u, b))
    rw [List.length_map] at this
    rw [this, List.map_append]

/-! ### 'range' over a map -/
/-- block r ranges over the map m, which holds l; done: what has come -/
def Iter (h : Heap) (r m : Nat) (enc : α → Value) (l done : List (α × Value)) : Prop :=
  ∃ T clock D last, MapT h m enc T clock ∧ (T.map pr).Perm l ∧ h[r]? = some (.mapIter (some m) clock (D.map (·.2.2)).toArray last) ∧ (D ≠ [] → last = clock) ∧ D.Nodup ∧ (∀ t ∈ D, t ∈ T) ∧ D.map pr = done ∧ r ≠ m
theorem Iter.frame {S : Nat → Prop} {h h' : Heap} {r m : Nat} {enc : α → Value} {l done : List (α × Value)} (H : Iter h r m enc l done) (f : Fr S h h') (h1 : ¬ S r) (h2 : ¬ S m) : Iter h' r m enc l done := by
  obtain ⟨T, c, D, last, A, B, C, E⟩ := H
  exact ⟨T, c, D, last, ⟨f.get A.blk h2, A.keys, A.old, A.born⟩, B, f.get C h1, E⟩
theorem Iter.map {h : Heap} {r m : Nat} {enc : α → Value} {l done : List (α × Value)} (H : Iter h r m enc l done) : MapP h m enc l := by
  obtain ⟨T, c, D, last, A, B, _⟩ := H; exact ⟨T, c, A, B⟩
theorem Iter.sub {h : Heap} {r m : Nat} {enc : α → Value} {l done : List (α × Value)} (H : Iter h r m enc l done) : ∀ x ∈ done, x ∈ l := by
  obtain ⟨T, c, D, last, A, B, _, _, _, hs, rfl, _⟩ := H
  intro x hx
  obtain ⟨t, ht, rfl⟩ := List.mem_map.1 hx
  exact B.mem_iff.1 (List.mem_map_of_mem (hs t ht))
theorem Iter.le {h : Heap} {r m : Nat} {enc : α → Value} {l done : List (α × Value)} (H : Iter h r m enc l done) : done.length ≤ l.length := by
  obtain ⟨T, c, D, last, A, B, _, _, hn, hs, rfl, _⟩ := H
  rw [List.length_map, ← B.length_eq, List.length_map]
  exact hn.length_le_of_subset (fun t ht => hs t ht)
theorem den_rangeP {t : TypeId} {enc : α → Value} {z : Value} (K : MapKy P t enc z) {h : Heap} {m : Nat} {l : List (α × Value)} (H : MapP h m enc l) {Q : Value → Heap → Prop}
    (hk : ∀ r h', r = h.size → Iter h' r m enc l [] → Fr (fun _ => False) h h' → Q (.pointer (some ⟨r, 0, none⟩)) h') : denSem P (Instr.range t (.map (some m))) h Q := by
  obtain ⟨kt, e, ht, hkt, _⟩ := K.ty
  obtain ⟨T, c, H, hp⟩ := H
  unfold Instr.range
  refine den_of_rd (rd_underlying ht) ?_
  simp only
  show denSem P (getObj m >>= _) h Q
  refine den_of_rd (rd_getObj H.blk) ?_
  · have f : Fr (fun _ => False) h (h.push (.mapIter (some m) c #[] c)) := Fr.push _ _
    exact hk h.size _ rfl ⟨T, c, [], c, ⟨f.get H.blk id, H.keys, H.old, H.born⟩, hp, push_new, (fun e => absurd rfl e), .nil, (fun t ht => by cases ht), rfl, fun e => by have := lt_of_get H.blk; omega⟩ f
theorem choose_den {β : Type} {n : Nat} {g : Nat → Sem β} {h : Heap} {Q : β → Heap → Prop} (hn : 0 < n) (hk : ∀ i, i < n → denSem P (g i) h Q) : denSem P (choose (.mapNext n) >>= g) h Q := by
  show (if (Question.mapNext n).forced = true then denSem P (g 0) h Q else ∀ t, denSem P (g ((Question.mapNext n).cut t)) h Q)
  split
  · exact hk 0 hn
  · intro t; exact hk _ (Nat.mod_lt _ hn)
theorem den_nextP {ty : TypeId} {enc : α → Value} {h : Heap} {r m : Nat} {l done : List (α × Value)} (I : Iter h r m enc l done) {Q : Value → Heap → Prop} (k1 : done.Perm l → Q (.tuple #[.bool false]) h)
    (k2 : ∀ a v h', (a, v) ∈ l → (a, v) ∉ done → Iter h' r m enc l (done ++ [(a, v)]) → h'.size = h.size → (∀ c, c ≠ r → h'[c]? = h[c]?) → Q (.tuple #[.bool true, enc a, v]) h') :
    denSem P (Instr.next (.pointer (some ⟨r, 0, none⟩)) false ty) h Q := by
  classical
  obtain ⟨T, c, D, last, M, hp, hr, hlast, hn, hsub, rfl, hne⟩ := I
  have hlt := lt_of_get hr
  have hTn : T.Nodup := by
    have := M.keys
    exact List.Pairwise.of_map (S := (· ≠ ·)) (·.1) (fun a b hab e => hab (by rw [e])) this
  unfold Instr.next
  simp only
  have hri : rd P (getObj r) h = some (.mapIter (some m) c (D.map (·.2.2)).toArray last) := by unfold getObj; simp only [rd, hr]
  refine den_of_rd hri ?_
  simp only
  refine den_of_rd (rd_getObj M.blk) ?_
  simp only
  have hq : (!(D.map (·.2.2)).toArray.isEmpty && !(T.map (ent enc)).toArray.isEmpty && (T.map (ent enc)).toArray.all (fun e => decide (e.born ≥ last))) = false := by
    cases hD : D with
    | nil => rfl
    | cons d D' =>
      have hl := hlast (by rw [hD]; simp)
      have hd : d ∈ T := hsub d (by rw [hD]; simp)
      have : (T.map (ent enc)).toArray.all (fun e => decide (e.born ≥ last)) = false := by
        rw [List.all_toArray, List.all_eq_false]
        exact ⟨ent enc d, List.mem_map_of_mem hd, by simp; have := M.old d hd; omega⟩
      rw [this]; simp
  rw [if_neg (by rw [hq]; simp)]
  -- those that are left
  have hleft : (T.map (ent enc)).toArray.filter (fun e => !(D.map (·.2.2)).toArray.contains e.born) = ((T.filter (fun t => !decide (t ∈ D))).map (ent enc)).toArray := by
    apply Array.ext'
    rw [Array.toList_filter]
    simp only []
    rw [List.filter_map]
    congr 1
    apply List.filter_congr
    intro t ht
    have : (D.map (·.2.2)).toArray.contains (ent enc t).born = decide (t ∈ D) := by
      by_cases hm : t ∈ D
      · rw [decide_eq_true hm]; simp; exact ⟨t.1, t.2.1, hm⟩
      · rw [decide_eq_false hm]
        simp only [List.contains_toArray, List.contains_eq_mem, decide_eq_false_iff_not, List.mem_map, not_exists, not_and]
        intro u hu e
        have hinj : u = t := by
          have hb := M.born
          have hu' := hsub u hu
          obtain ⟨i, hi⟩ := List.getElem?_of_mem hu'
          obtain ⟨j, hj⟩ := List.getElem?_of_mem ht
          have hil := (List.getElem?_eq_some_iff.1 hi).1
          have := (List.getElem?_inj (l := T.map (·.2.2)) (i := i) (j := j) (by simpa using hil) hb).1 (by rw [List.getElem?_map, List.getElem?_map, hi, hj]; simp [e])
          subst this
          rw [hi] at hj
          exact Option.some.inj hj
        exact hm (hinj ▸ hu)
    simp only [Function.comp, this]
  have hold : (((T.filter (fun t => !decide (t ∈ D))).map (ent enc)).toArray.filter (fun e => decide (e.born < c))) = ((T.filter (fun t => !decide (t ∈ D))).map (ent enc)).toArray := by
    rw [Array.filter_eq_self]
    intro e he
    obtain ⟨t, ht, rfl⟩ := List.mem_map.1 (List.mem_toArray.1 he)
    exact decide_eq_true (M.old t (List.mem_filter.1 ht).1)
  have hnew : (((T.filter (fun t => !decide (t ∈ D))).map (ent enc)).toArray.filter (fun e => decide (e.born ≥ c))) = #[] := by
    rw [Array.filter_eq_empty_iff]
    intro e he
    obtain ⟨t, ht, rfl⟩ := List.mem_map.1 (List.mem_toArray.1 he)
    have := M.old t (List.mem_filter.1 ht).1
    simp; omega
  rw [hleft, hold, hnew]
  simp only [Array.append_empty]
  cases hF : T.filter (fun t => !decide (t ∈ D)) with
  | nil =>
    refine choose_den (by simp) fun i hi => ?_
    have : i = 0 := by simpa using hi
    subst this
    have e0 : ((if ((([] : List (α × Value × Nat)).map (ent enc)).toArray.isEmpty = true) then #[none] else #[]) ++ Array.map some (([] : List (α × Value × Nat)).map (ent enc)).toArray)[0]? = some none := by simp
    rw [e0]
    show denSem P (pure (.tuple #[.bool false])) h Q
    refine k1 ?_
    refine List.Perm.trans (List.Perm.map _ ?_) hp
    rw [List.perm_ext_iff_of_nodup hn hTn]
    intro t
    refine ⟨hsub t, fun ht => ?_⟩
    have := List.filter_eq_nil_iff.1 hF t ht
    simpa using this
  | cons f F =>
    refine choose_den (by simp) fun i hi => ?_
    rw [← hF] at hi ⊢
    have hne' : (((T.filter (fun t => !decide (t ∈ D))).map (ent enc)).toArray.isEmpty) = false := by rw [hF]; rfl
    rw [hne'] at hi ⊢
    simp only [Bool.false_eq_true, if_false, Array.empty_append] at hi ⊢
    have hi' : i < (T.filter (fun t => !decide (t ∈ D))).length := by simpa using hi
    obtain ⟨t, ht⟩ : ∃ t, (T.filter (fun t => !decide (t ∈ D)))[i]? = some t := ⟨_, List.getElem?_eq_getElem hi'⟩
    have hget : (Array.map some ((T.filter (fun t => !decide (t ∈ D))).map (ent enc)).toArray)[i]? = some (some (ent enc t)) := by simp [ht]
    rw [hget]
    have htm := List.mem_filter.1 (List.mem_of_getElem? ht)
    have htD : t ∉ D := by simpa using htm.2
    refine ⟨⟨_, hr, fun _ _ _ e => by cases e⟩, ?_⟩
    refine k2 t.1 t.2.1 _ (hp.mem_iff.1 (List.mem_map_of_mem (f := pr) htm.1)) ?_ ⟨T, c, D ++ [t], c, ⟨?_, M.keys, M.old, M.born⟩, hp, ?_, (fun _ => rfl), ?_, ?_, ?_, hne⟩ (by simp) (fun x hx => ?_)
    · intro hmem
      obtain ⟨u, hu, e⟩ := List.mem_map.1 hmem
      have h1 : u.1 = t.1 := congrArg (fun x : α × Value => x.1) e
      have : u = t := by
        obtain ⟨i, hi⟩ := List.getElem?_of_mem (hsub u hu)
        obtain ⟨j, hj⟩ := List.getElem?_of_mem htm.1
        have hil := (List.getElem?_eq_some_iff.1 hi).1
        have := (List.getElem?_inj (l := T.map (·.1)) (i := i) (j := j) (by simpa using hil) M.keys).1 (by rw [List.getElem?_map, List.getElem?_map, hi, hj]; simp [h1])
        subst this
        rw [hi] at hj
        exact Option.some.inj hj
      exact htD (this ▸ hu)
    · rw [Array.getElem?_setIfInBounds, if_neg hne]; exact M.blk
    · simp [hlt]
    · rw [List.nodup_append]
      exact ⟨hn, by simp, fun a ha b hb => by simp at hb; subst hb; exact fun e => htD (e ▸ ha)⟩
    · intro u hu
      rcases List.mem_append.1 hu with hu | hu
      · exact hsub u hu
      · obtain rfl := List.mem_singleton.1 hu; exact htm.1
    · rw [List.map_append]; rfl
    · rw [Array.getElem?_setIfInBounds, if_neg (Ne.symm hx)]
end
end Go.Den
namespace Go.Den
section
variable {P : Program} {α : Type}
theorem find_born (enc : α → Value) {t : α × Value × Nat} : ∀ {T : List (α × Value × Nat)}, (T.map (·.2.2)).Nodup → t ∈ T → T.find? ((fun e : MapEntry => e.born == t.2.2) ∘ ent enc) = some t
  | [], _, ht => by cases ht
  | u :: T, hn, ht => by
    rw [List.map_cons, List.nodup_cons] at hn
    rw [List.find?_cons]
    by_cases hu : u.2.2 = t.2.2
    · have : ((fun e : MapEntry => e.born == t.2.2) ∘ ent enc) u = true := by simp [hu]
      rw [this]
      rcases List.mem_cons.1 ht with e | e
      · rw [e]
      · exact absurd (List.mem_map.2 ⟨t, e, hu.symm⟩) hn.1
    · have : ((fun e : MapEntry => e.born == t.2.2) ∘ ent enc) u = false := by simp [hu]
      rw [this]
      rcases List.mem_cons.1 ht with e | e
      · exact absurd (by rw [e]) hu
      · exact find_born enc hn.2 e
/-! 'range' over a string -/
theorem den_rangeS {t : TypeId} {s : ByteArray} {h : Heap} {Q : Value → Heap → Prop} (ht : P.underlying t = some .string) (hk : ∀ r h', r = h.size → h'[r]? = some (.stringIter s 0) → Fr (fun _ => False) h h' → Q (.pointer (some ⟨r, 0, none⟩)) h') :
    denSem P (Instr.range t (.string s)) h Q := by
  unfold Instr.range
  refine den_of_rd (rd_underlying ht) ?_
  exact hk h.size _ rfl push_new (Fr.push _ _)
theorem den_nextS {ty : TypeId} {s : ByteArray} {h : Heap} {r pos : Nat} {Q : Value → Heap → Prop} (hr : h[r]? = some (.stringIter s pos)) (k1 : s.size ≤ pos → Q (.tuple #[.bool false]) h)
    (k2 : pos < s.size → ∀ h', h'[r]? = some (.stringIter s (pos + (Utf8.decode s pos).2)) → h'.size = h.size → (∀ c, c ≠ r → h'[c]? = h[c]?) → Q (.tuple #[.bool true, .int .i64 (pos : Int), .int .i32 ((Utf8.decode s pos).1 : Int)]) h') :
    denSem P (Instr.next (.pointer (some ⟨r, 0, none⟩)) true ty) h Q := by
  have hlt := lt_of_get hr
  unfold Instr.next
  simp only
  have hri : rd P (getObj r) h = some (.stringIter s pos) := by unfold getObj; simp only [rd, hr]
  refine den_of_rd hri ?_
  simp only
  by_cases hp : pos < s.size
  · rw [if_pos hp]
    refine ⟨⟨_, hr, fun _ _ _ e => by cases e⟩, ?_⟩
    exact k2 hp _ (by simp [hlt]) (by simp) (fun c hc => by rw [Array.getElem?_setIfInBounds, if_neg (Ne.symm hc)])
  · rw [if_neg hp]
    exact k1 (by omega)
theorem den_entryP {enc : α → Value} {h : Heap} {r m : Nat} {l done : List (α × Value)} {a : α} {v : Value} (I : Iter h r m enc l (done ++ [(a, v)])) {Q : Value → Heap → Prop} (hk : Q (.tuple #[enc a, v]) h) :
    denSem P (Instr.entry (.pointer (some ⟨r, 0, none⟩))) h Q := by
  obtain ⟨T, c, D, last, M, hp, hr, hlast, hn, hsub, hd, hne⟩ := I
  rcases List.eq_nil_or_concat D with rfl | ⟨D', t, rfl⟩
  · simp at hd
  rw [List.concat_eq_append] at *
  rw [List.map_append] at hd
  obtain ⟨_, e2⟩ := List.append_inj' hd rfl
  have e2 : pr t = (a, v) := by simpa using e2
  have e3 : t.1 = a := congrArg (fun x : α × Value => x.1) e2
  have e4 : t.2.1 = v := congrArg (fun x : α × Value => x.2) e2
  have ht : t ∈ T := hsub t (by simp)
  have hl := hlast (by simp)
  unfold Instr.entry
  simp only
  have hri : rd P (getObj r) h = some (.mapIter (some m) c ((D' ++ [t]).map (·.2.2)).toArray last) := by unfold getObj; simp only [rd, hr]
  refine den_of_rd hri ?_
  simp only
  have hb : ((D' ++ [t]).map (·.2.2)).toArray.back? = some t.2.2 := by simp
  rw [hb]
  simp only
  refine den_of_rd (rd_getObj M.blk) ?_
  simp only
  rw [hl, if_neg (by simp)]
  have hf : (T.map (ent enc)).toArray.find? (fun e => e.born == t.2.2) = some (ent enc t) := by
    rw [List.find?_toArray, List.find?_map]
    have : T.find? ((fun e : MapEntry => e.born == t.2.2) ∘ ent enc) = some t := find_born enc M.born ht
    rw [this]; rfl
  rw [hf]
  show Q (.tuple #[enc t.1, t.2.1]) h
  rw [e3, e4]; exact hk
end
end Go.Den
