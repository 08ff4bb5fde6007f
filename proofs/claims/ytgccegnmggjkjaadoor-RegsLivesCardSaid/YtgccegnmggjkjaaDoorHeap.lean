/-
  What is proved here: laws on heaps: what a block holds behind a push, a store, a set; frames; maps with integer keys. No condition.
-/
import Derived.Test.YtgccegnmggjkjaaDoorSound
import Derived.IntWalk
namespace Go.Den

/-! ### blocks and cells -/
theorem hcell_blk {h : Heap} {b i : Nat} {c : Array Value} {t : TypeId} {f : Nat × Nat} (hb : h[b]? = some (.cells c t f)) : hcell h ⟨b, i, none⟩ = c[i]? := by
  simp [hcell, hb]
theorem hfrozen_blk {h : Heap} {b i : Nat} {c : Array Value} {t : TypeId} (hb : h[b]? = some (.cells c t (0, 0))) : hfrozen h ⟨b, i, none⟩ = false := by
  simp [hfrozen, hb]
theorem hcell_some {h : Heap} {a : Addr} {v : Value} (hc : hcell h a = some v) : ∃ c t f, h[a.block]? = some (.cells c t f) ∧ a.spot = none ∧ c[a.off]? = some v := by
  unfold hcell at hc
  split at hc
  · rename_i c t f hb
    split at hc
    · cases hc
    · rename_i hs
      exact ⟨c, t, f, hb, by simpa using hs, hc⟩
  · cases hc
theorem lt_of_get {h : Heap} {b : Nat} {o : Obj} (hb : h[b]? = some o) : b < h.size := (Array.getElem?_eq_some_iff.1 hb).1
theorem push_old {h : Heap} {b : Nat} {o x : Obj} (hb : h[b]? = some o) : (h.push x)[b]? = some o := by
  rw [Array.getElem?_push, if_neg (Nat.ne_of_lt (lt_of_get hb)), hb]
theorem push_new {h : Heap} {x : Obj} : (h.push x)[h.size]? = some x := by simp
theorem hset_same {h : Heap} {b i : Nat} {c : Array Value} {t : TypeId} {f : Nat × Nat} {v : Value} (hb : h[b]? = some (.cells c t f)) : (hset h ⟨b, i, none⟩ v)[b]? = some (.cells (c.setIfInBounds i v) t f) := by
  simp [hset, Array.getElem?_modify, hb]
theorem hset_other {h : Heap} {a : Addr} {b : Nat} {v : Value} (hne : b ≠ a.block) : (hset h a v)[b]? = h[b]? := by
  simp [hset, Array.getElem?_modify, Ne.symm hne]
theorem hset_size {h : Heap} {a : Addr} {v : Value} : (hset h a v).size = h.size := by simp [hset]
theorem add_blk (b o n : Nat) : (⟨b, o, none⟩ : Addr).add n = ⟨b, o + n, none⟩ := by
  unfold Addr.add
  split
  · rename_i hn; subst hn; rfl
  · rfl
theorem add_add (a : Addr) (m n : Nat) : (a.add m).add n = a.add (m + n) := by
  unfold Addr.add
  split
  · rename_i hn; subst hn
    simp
  · split
    · rename_i hn hm; subst hm; simp [hn]
    · rename_i hn hm
      have : m + n ≠ 0 := by omega
      rw [if_neg this]
      simp [Nat.add_assoc]

/-! ### frames: what is not in S is as it was -/
def Fr (S : Nat → Prop) (h h' : Heap) : Prop := h.size ≤ h'.size ∧ ∀ c, c < h.size → ¬ S c → h'[c]? = h[c]?
theorem Fr.refl (S : Nat → Prop) (h : Heap) : Fr S h h := ⟨Nat.le_refl _, fun _ _ _ => rfl⟩
theorem Fr.get {S : Nat → Prop} {h h' : Heap} (hf : Fr S h h') {c : Nat} {o : Obj} (hc : h[c]? = some o) (hn : ¬ S c) : h'[c]? = some o :=
  (hf.2 c (lt_of_get hc) hn).trans hc
theorem Fr.trans {S S' S'' : Nat → Prop} {h h1 h2 : Heap} (hf : Fr S h h1) (hf' : Fr S' h1 h2) (hs : ∀ c, c < h.size → S c → S'' c) (hs' : ∀ c, c < h.size → S' c → S'' c) : Fr S'' h h2 :=
  ⟨Nat.le_trans hf.1 hf'.1, fun c hc hn => (hf'.2 c (Nat.lt_of_lt_of_le hc hf.1) (fun hq => hn (hs' c hc hq))).trans (hf.2 c hc (fun hq => hn (hs c hc hq)))⟩
theorem Fr.mono {S S' : Nat → Prop} {h h' : Heap} (hf : Fr S h h') (hs : ∀ c, c < h.size → S c → S' c) : Fr S' h h' :=
  ⟨hf.1, fun c hc hn => hf.2 c hc (fun hq => hn (hs c hc hq))⟩
theorem Fr.push {S : Nat → Prop} (h : Heap) (o : Obj) : Fr S h (h.push o) :=
  ⟨by simp, fun c hc _ => by rw [Array.getElem?_push, if_neg (Nat.ne_of_lt hc)]⟩
theorem Fr.set {S : Nat → Prop} (h : Heap) (a : Addr) (v : Value) (hs : S a.block) : Fr S h (hset h a v) :=
  ⟨by rw [hset_size]; exact Nat.le_refl _, fun c _ hn => hset_other (fun e => hn (e ▸ hs))⟩
theorem Fr.cell {S : Nat → Prop} {h h' : Heap} (hf : Fr S h h') {a : Addr} {v : Value} (hc : hcell h a = some v) (hn : ¬ S a.block) : hcell h' a = some v := by
  obtain ⟨c, t, f, hb, hs, hv⟩ := hcell_some hc
  have := hf.get hb hn
  unfold hcell
  rw [this]
  simp [hs, hv]

/-! ### calls -/
theorem CallsH.conseq {P : Program} {f : FuncId} {args : Array Value} {h : Heap} {R R' : Value → Heap → Prop} (hh : CallsH P f args h R) (hr : ∀ v h', R v h' → R' v h') : CallsH P f args h R' := hh.mono hr

/-! ### maps whose keys are ints -/
def mget (l : List (Int × Value)) (k : Int) : Option Value := (l.find? (·.1 == k)).map (·.2)
def mput (l : List (Int × Value)) (k : Int) (v : Value) : List (Int × Value) := if (mget l k).isSome = true then l.map (fun e => if e.1 == k then (k, v) else e) else l ++ [(k, v)]
def mdel (l : List (Int × Value)) (k : Int) : List (Int × Value) := l.filter (fun e => !(e.1 == k))

theorem mget_nil (k : Int) : mget [] k = none := rfl
theorem mget_cons (e : Int × Value) (l : List (Int × Value)) (k : Int) : mget (e :: l) k = if e.1 = k then some e.2 else mget l k := by
  unfold mget
  by_cases h : e.1 = k <;> simp [h]
theorem mget_mem {l : List (Int × Value)} {k : Int} : (mget l k).isSome = true ↔ k ∈ l.map (·.1) := by
  induction l with
  | nil => simp [mget]
  | cons e l ih =>
    rw [mget_cons, List.map_cons, List.mem_cons]
    by_cases h : e.1 = k
    · simp [h]
    · rw [if_neg h, ih]; constructor
      · exact fun hm => .inr hm
      · rintro (e' | hm)
        · exact absurd e'.symm h
        · exact hm
theorem mget_map_other (l : List (Int × Value)) (k k' : Int) (v : Value) (hne : k' ≠ k) : mget (l.map (fun e => if e.1 == k then (k, v) else e)) k' = mget l k' := by
  induction l with
  | nil => rfl
  | cons e l ih =>
    rw [List.map_cons, mget_cons, mget_cons, ih]
    by_cases h : e.1 = k
    · simp [h, Ne.symm hne]
    · simp [h]
theorem mget_map_same (l : List (Int × Value)) (k : Int) (v : Value) (hm : (mget l k).isSome = true) : mget (l.map (fun e => if e.1 == k then (k, v) else e)) k = some v := by
  induction l with
  | nil => simp [mget] at hm
  | cons e l ih =>
    rw [List.map_cons, mget_cons]
    by_cases h : e.1 = k
    · simp [h]
    · rw [mget_cons, if_neg h] at hm
      have hb : (e.1 == k) = false := by simp [h]
      rw [hb]
      simp only [Bool.false_eq_true, if_false, if_neg h]
      exact ih hm
theorem mget_append (l l' : List (Int × Value)) (k : Int) : mget (l ++ l') k = (mget l k).or (mget l' k) := by
  induction l with
  | nil => simp [mget]
  | cons e l ih =>
    rw [List.cons_append, mget_cons, mget_cons, ih]
    by_cases h : e.1 = k <;> simp [h]
theorem mget_mput (l : List (Int × Value)) (k k' : Int) (v : Value) : mget (mput l k v) k' = if k' = k then some v else mget l k' := by
  unfold mput
  by_cases hm : (mget l k).isSome = true
  · rw [if_pos hm]
    by_cases h : k' = k
    · subst h; rw [if_pos rfl, mget_map_same _ _ _ hm]
    · rw [if_neg h, mget_map_other _ _ _ _ h]
  · rw [if_neg hm, mget_append, mget_cons, mget_nil]
    have hn : mget l k = none := by simpa using hm
    by_cases h : k' = k
    · subst h; simp [hn]
    · simp [h, Ne.symm h]
theorem mget_mdel (l : List (Int × Value)) (k k' : Int) : mget (mdel l k) k' = if k' = k then none else mget l k' := by
  unfold mdel
  induction l with
  | nil => simp [mget]
  | cons e l ih =>
    rw [List.filter_cons, mget_cons]
    by_cases h : e.1 = k
    · subst h
      simp only [beq_self_eq_true, Bool.not_true, Bool.false_eq_true, if_false]
      rw [ih]
      by_cases hk : k' = e.1
      · simp [hk]
      · simp [hk, Ne.symm hk]
    · have hb : (!(e.1 == k)) = true := by simp [h]
      rw [if_pos hb, mget_cons, ih]
      by_cases hk : k' = k
      · subst hk; simp [h]
      · simp [hk]
theorem mput_keys (l : List (Int × Value)) (k : Int) (v : Value) (hn : (l.map (·.1)).Nodup) : ((mput l k v).map (·.1)).Nodup := by
  unfold mput
  by_cases hm : (mget l k).isSome = true
  · rw [if_pos hm]
    have : (l.map (fun e => if e.1 == k then (k, v) else e)).map (·.1) = l.map (·.1) := by
      rw [List.map_map]
      apply List.map_congr_left
      intro e _
      by_cases h : e.1 = k <;> simp [h]
    rw [this]; exact hn
  · rw [if_neg hm, List.map_append]
    rw [mget_mem] at hm
    rw [List.nodup_append]
    exact ⟨hn, by simp, by intro a ha b hb; simp at hb; subst hb; intro e; subst e; exact hm ha⟩
theorem mdel_keys (l : List (Int × Value)) (k : Int) (hn : (l.map (·.1)).Nodup) : ((mdel l k).map (·.1)).Nodup :=
  List.Sublist.nodup (List.Sublist.map _ List.filter_sublist) hn

/-- block m is a map with int keys, holding just l; its stamps are in order -/
def MapL (h : Heap) (m : Nat) (l : List (Int × Value)) : Prop :=
  ∃ (es : Array MapEntry) (clock : Nat), h[m]? = some (.map es clock) ∧ es.toList.map (fun e => (e.key, e.val)) = l.map (fun e => (Value.int .i64 e.1, e.2)) ∧ (l.map (·.1)).Nodup ∧
    (∀ e ∈ es.toList, e.born < clock) ∧ (es.toList.map (·.born)).Nodup
/-- .. and what it holds as a function of the key -/
def MapF (h : Heap) (m : Nat) (f : Int → Option Value) : Prop := ∃ l, MapL h m l ∧ ∀ k, mget l k = f k

theorem MapL.of_get {h h' : Heap} {m : Nat} {l : List (Int × Value)} (hm : MapL h m l) (he : h'[m]? = h[m]?) : MapL h' m l := by
  obtain ⟨es, clock, h1, h2⟩ := hm
  exact ⟨es, clock, he.trans h1, h2⟩
theorem MapL.lt {h : Heap} {m : Nat} {l : List (Int × Value)} (hm : MapL h m l) : m < h.size := by
  obtain ⟨es, clock, h1, _⟩ := hm; exact lt_of_get h1
theorem MapL.frame {S : Nat → Prop} {h h' : Heap} {m : Nat} {l : List (Int × Value)} (hm : MapL h m l) (hf : Fr S h h') (hn : ¬ S m) : MapL h' m l :=
  hm.of_get (hf.2 m hm.lt hn)
theorem MapF.of_get {h h' : Heap} {m : Nat} {f : Int → Option Value} (hm : MapF h m f) (he : h'[m]? = h[m]?) : MapF h' m f := by
  obtain ⟨l, h1, h2⟩ := hm; exact ⟨l, h1.of_get he, h2⟩
theorem MapF.lt {h : Heap} {m : Nat} {f : Int → Option Value} (hm : MapF h m f) : m < h.size := by
  obtain ⟨l, h1, _⟩ := hm; exact h1.lt
theorem MapF.frame {S : Nat → Prop} {h h' : Heap} {m : Nat} {f : Int → Option Value} (hm : MapF h m f) (hf : Fr S h h') (hn : ¬ S m) : MapF h' m f := by
  obtain ⟨l, h1, h2⟩ := hm; exact ⟨l, h1.frame hf hn, h2⟩
theorem MapF.map {h : Heap} {m : Nat} {f : Int → Option Value} (hm : MapF h m f) : ∃ es clock, h[m]? = some (.map es clock) := by
  obtain ⟨l, ⟨es, clock, h1, _⟩, _⟩ := hm; exact ⟨es, clock, h1⟩
theorem MapL.push (h : Heap) : MapL (h.push (.map #[] 0)) h.size [] := ⟨#[], 0, push_new, rfl, by simp, by simp, by simp⟩
theorem MapF.push (h : Heap) : MapF (h.push (.map #[] 0)) h.size (fun _ => none) := ⟨[], MapL.push h, fun _ => rfl⟩

theorem findNow_int {k : Int} : ∀ (es : List MapEntry) (l : List (Int × Value)) (i : Nat) (d : IntKind), es.map (fun e => (e.key, e.val)) = l.map (fun e => (Value.int .i64 e.1, e.2)) →
    (mget l k = none → Instr.findNow (.int d) (.int .i64 k) es i = some none) ∧
    (∀ v, mget l k = some v → ∃ j, Instr.findNow (.int d) (.int .i64 k) es i = some (some (i + j, v)) ∧ ∃ e, es[j]? = some e ∧ e.key = .int .i64 k ∧ e.val = v)
  | [], l, i, d, h => by
    have : l = [] := by cases l <;> simp at h ⊢
    subst this
    exact ⟨fun _ => rfl, fun v hv => by simp [mget] at hv⟩
  | e :: es, l, i, d, h => by
    cases l with
    | nil => simp at h
    | cons x l =>
      simp only [List.map_cons, List.cons.injEq, Prod.mk.injEq] at h
      obtain ⟨⟨hk, hv⟩, hrest⟩ := h
      have ih := findNow_int (k := k) es l (i + 1) d hrest
      have hs : Instr.sameNow (.int d) (.int .i64 k) e.key = some (k == x.1) := by rw [hk]; simp [Instr.sameNow]
      by_cases hkx : x.1 = k
      · refine ⟨(fun hn => by rw [mget_cons, if_pos hkx] at hn; cases hn), fun v hv' => ⟨0, ?_, e, rfl, by rw [hk, hkx], ?_⟩⟩
        · rw [mget_cons, if_pos hkx] at hv'
          simp only [Option.some.injEq] at hv'
          simp [Instr.findNow, hs, hkx, hv, hv']
        · rw [mget_cons, if_pos hkx] at hv'
          simp only [Option.some.injEq] at hv'
          rw [hv, hv']
      · have hkf : (k == x.1) = false := by simp [Ne.symm hkx]
        rw [hkf] at hs
        refine ⟨fun hn => ?_, fun v hv' => ?_⟩
        · rw [mget_cons, if_neg hkx] at hn
          simp only [Instr.findNow, hs]
          exact ih.1 hn
        · rw [mget_cons, if_neg hkx] at hv'
          obtain ⟨j, h1, e', h2, h3⟩ := ih.2 v hv'
          refine ⟨j + 1, ?_, e', by simpa using h2, h3⟩
          simp only [Instr.findNow, hs]
          rw [h1, show i + 1 + j = i + (j + 1) by omega]

section
variable {P : Program}
theorem rd_checkKey {empty : Bool} {n : Nat} {t : TypeId} {d : IntKind} {v : Value} {h : Heap} (ht : P.underlying t = some (.int d)) : rd P (Instr.checkKey empty (n + 1) t v) h = some () := by
  unfold Instr.checkKey
  rw [rd_bind _ _ _ _ (rd_underlying ht)]
  rfl
theorem rd_findKey_none {t : TypeId} {d : IntKind} {k : Int} {es : List MapEntry} {l : List (Int × Value)} {h : Heap} (ht : P.underlying t = some (.int d))
    (hl : es.map (fun e => (e.key, e.val)) = l.map (fun e => (Value.int .i64 e.1, e.2))) (hk : mget l k = none) : rd P (Instr.findKey t (.int .i64 k) es) h = some none := by
  unfold Instr.findKey
  rw [rd_bind _ _ _ _ (rd_underlying ht)]
  simp only [(findNow_int es l 0 d hl).1 hk]
  rfl
theorem rd_findKey_some {t : TypeId} {d : IntKind} {k : Int} {v : Value} {es : List MapEntry} {l : List (Int × Value)} {h : Heap} (ht : P.underlying t = some (.int d))
    (hl : es.map (fun e => (e.key, e.val)) = l.map (fun e => (Value.int .i64 e.1, e.2))) (hk : mget l k = some v) : ∃ j, rd P (Instr.findKey t (.int .i64 k) es) h = some (some (j, v)) ∧ ∃ e, es[j]? = some e ∧ e.key = .int .i64 k ∧ e.val = v := by
  obtain ⟨j, h1, h2⟩ := (findNow_int es l 0 d hl).2 v hk
  refine ⟨j, ?_, h2⟩
  unfold Instr.findKey
  rw [rd_bind _ _ _ _ (rd_underlying ht)]
  simp only [h1, Nat.zero_add]
  rfl
theorem rd_zeroValue {t : TypeId} {i : TypeInfo} {z : Value} {h : Heap} (hi : P.info? t = some i) (hz : i.zero = some z) : rd P (zeroValue t) h = some z := by
  unfold zeroValue
  rw [rd_bind _ _ _ _ (rd_typeInfo hi), hz]; rfl
theorem rd_getObj {r : Nat} {es : Array MapEntry} {c : Nat} {h : Heap} (hr : h[r]? = some (.map es c)) : rd P (getObj r) h = some (.map es c) := by
  unfold getObj
  simp only [rd, hr]

/-- what is needed of a map type: int keys; the zero of its elements -/
structure MapTy (P : Program) (t : TypeId) (z : Value) : Prop where
  ty : ∃ k e d, P.underlying t = some (.map k e) ∧ P.underlying k = some (.int d) ∧ ∃ i, P.info? e = some i ∧ i.zero = some z
theorem MapTy.of {P : Program} {t : TypeId} {z : Value} (k e : TypeId) (d : IntKind) (h1 : P.underlying t = some (.map k e)) (h2 : P.underlying k = some (.int d)) (h3 : (P.info? e).bind (·.zero) = some z) : MapTy P t z := by
  cases hi : P.info? e with
  | none => rw [hi] at h3; cases h3
  | some i => exact ⟨k, e, d, h1, h2, i, hi, by rw [hi] at h3; exact h3⟩

theorem look_map {t : TypeId} {z : Value} (T : MapTy P t z) {h : Heap} {m : Nat} {l : List (Int × Value)} (hm : MapL h m l) (k : Int) :
    rd P (Instr.lookup t (.map (some m)) (.int .i64 k) false) h = some ((mget l k).getD z) ∧
    rd P (Instr.lookup t (.map (some m)) (.int .i64 k) true) h = some (.tuple #[(mget l k).getD z, .bool (mget l k).isSome]) := by
  obtain ⟨kt, e, d, ht, hk, i, hi, hz⟩ := T.ty
  obtain ⟨es, clock, hb, hl, _⟩ := hm
  have gen : ∀ ok : Bool, rd P (Instr.lookup t (.map (some m)) (.int .i64 k) ok) h = some (if ok then .tuple #[(mget l k).getD z, .bool (mget l k).isSome] else (mget l k).getD z) := fun ok => by
    unfold Instr.lookup
    rw [rd_bind _ _ _ _ (rd_underlying ht)]
    simp only
    rw [rd_bind _ _ _ _ (rd_getObj hb)]
    simp only
    rw [rd_bind _ _ _ _ (rd_pure _), rd_bind _ _ _ _ (rd_checkKey hk)]
    cases hg : mget l k with
    | none =>
      rw [rd_bind _ _ _ _ (rd_findKey_none hk hl hg)]
      simp only
      rw [rd_bind _ _ _ _ (rd_zeroValue hi hz)]
      cases ok <;> rfl
    | some v =>
      obtain ⟨j, h2, _⟩ := rd_findKey_some (h := h) hk hl hg
      rw [rd_bind _ _ _ _ h2]
      simp only
      cases ok <;> rfl
  exact ⟨gen false, gen true⟩

theorem lookV_map {t : TypeId} {z : Value} (T : MapTy P t z) {h : Heap} {m : Nat} {f : Int → Option Value} (hm : MapF h m f) (k : Int) :
    LookV P t (.map (some m)) (.int .i64 k) false h ((f k).getD z) := fun h' hs => by
  obtain ⟨l, hl, hf⟩ := hm
  rw [← hf k]
  exact (look_map T (hl.of_get hs) k).1
theorem lookV_map_ok {t : TypeId} {z : Value} (T : MapTy P t z) {h : Heap} {m : Nat} {f : Int → Option Value} (hm : MapF h m f) (k : Int) :
    LookV P t (.map (some m)) (.int .i64 k) true h (.tuple #[(f k).getD z, .bool (f k).isSome]) := fun h' hs => by
  obtain ⟨l, hl, hf⟩ := hm
  rw [← hf k]
  exact (look_map T (hl.of_get hs) k).2

theorem den_of_rd {α β : Type} {s : Sem α} {g : α → Sem β} {h : Heap} {a : α} {K : β → Heap → Prop} (hr : rd P s h = some a) (hk : denSem P (g a) h K) : denSem P (s >>= g) h K :=
  (den_bind s g K).2 (rd_den s h a hr _ hk)

theorem map_modify {es : List MapEntry} {l : List (Int × Value)} {k : Int} {v : Value} {j : Nat} (hl : es.map (fun e => (e.key, e.val)) = l.map (fun e => (Value.int .i64 e.1, e.2))) (hn : (l.map (·.1)).Nodup)
    {e : MapEntry} (he : es[j]? = some e) (hk : e.key = .int .i64 k) (f : MapEntry → MapEntry) (hf : ∀ e : MapEntry, (f e).key = .int .i64 k ∧ (f e).val = v) :
    (es.modify j f).map (fun e => (e.key, e.val)) = (l.map (fun e => if e.1 == k then (k, v) else e)).map (fun e => (Value.int .i64 e.1, e.2)) := by
  apply List.ext_getElem?
  intro i
  have hli : ∀ i : Nat, (es[i]?).map (fun e : MapEntry => (e.key, e.val)) = (l[i]?).map (fun e : Int × Value => (Value.int .i64 e.1, e.2)) := fun i => by
    have := congrArg (·[i]?) hl; simpa using this
  have hlj := hli j
  rw [he] at hlj
  cases hlq : l[j]? with
  | none => rw [hlq] at hlj; simp at hlj
  | some x =>
    rw [hlq] at hlj
    simp only [Option.map_some, Option.some.injEq, Prod.mk.injEq] at hlj
    have hxk : x.1 = k := by have := hlj.1.symm.trans hk; simpa using this
    simp only [List.getElem?_map, List.getElem?_modify, Option.map_map]
    by_cases hij : j = i
    · subst hij
      simp [he, hlq, hf, hxk]
    · have h1 := hli i
      cases hei : es[i]? with
      | none =>
        rw [hei] at h1
        cases hq : l[i]? with
        | none => simp
        | some y => rw [hq] at h1; simp at h1
      | some e' =>
        rw [hei] at h1
        cases hq : l[i]? with
        | none => rw [hq] at h1; simp at h1
        | some y =>
          rw [hq] at h1
          simp only [Option.map_some, Option.some.injEq, Prod.mk.injEq] at h1
          have hyk : y.1 ≠ k := by
            intro hy
            apply hij
            have hji : j < (l.map (·.1)).length := by simpa using (List.getElem?_eq_some_iff.1 hlq).1
            refine (List.getElem?_inj hji hn).1 ?_
            simp [hlq, hq, hxk, hy]
          simp [hij, hyk, h1.1, h1.2]

/-- 'm[k] = v' -/
theorem den_mapUpdate {t : TypeId} {z : Value} (T : MapTy P t z) {h : Heap} {m : Nat} {l : List (Int × Value)} (hm : MapL h m l) {k : Int} {v : Value} {K : Unit → Heap → Prop}
    (hk : ∀ h', MapL h' m (mput l k v) → h'.size = h.size → (∀ c, c ≠ m → h'[c]? = h[c]?) → K () h') : denSem P (Instr.mapUpdate t (.map (some m)) (.int .i64 k) v) h K := by
  obtain ⟨kt, e, d, ht, hkt, _⟩ := T.ty
  obtain ⟨es, clock, hb, hl, hn, hst, hnd⟩ := hm
  have hlt := lt_of_get hb
  unfold Instr.mapUpdate
  refine den_of_rd (rd_underlying ht) ?_
  simp only
  refine den_of_rd (rd_getObj hb) ?_
  simp only
  refine den_of_rd (rd_checkKey hkt) ?_
  have fin : ∀ (es' : Array MapEntry) (clock' : Nat), es'.toList.map (fun e => (e.key, e.val)) = (mput l k v).map (fun e => (Value.int .i64 e.1, e.2)) → (∀ e ∈ es'.toList, e.born < clock') → (es'.toList.map (·.born)).Nodup →
      denSem P (setObj m (.map es' clock')) h K := fun es' clock' h1 h2 h3 => by
    refine ⟨⟨_, hb, fun c e f he => by cases he⟩, ?_⟩
    refine hk _ ⟨es', clock', by simp [hlt], h1, mput_keys l k v hn, h2, h3⟩ (by simp) (fun c hc => ?_)
    rw [Array.getElem?_setIfInBounds, if_neg (Ne.symm hc)]
  cases hg : mget l k with
  | none =>
    refine den_of_rd (rd_findKey_none hkt hl hg) ?_
    simp only
    refine fin _ _ ?_ ?_ ?_
    · unfold mput
      rw [hg]
      simp [hl]
    · intro e' he'
      simp only [Array.toList_push, List.mem_append, List.mem_singleton] at he'
      rcases he' with he' | rfl
      · exact Nat.lt_succ_of_lt (hst _ he')
      · exact Nat.lt_succ_self _
    · simp only [Array.toList_push, List.map_append, List.map_cons, List.map_nil]
      rw [List.nodup_append]
      refine ⟨hnd, by simp, ?_⟩
      intro a ha b hb'
      simp at hb'
      subst hb'
      obtain ⟨e', he', rfl⟩ := List.mem_map.1 ha
      exact Nat.ne_of_lt (hst _ he')
  | some u =>
    obtain ⟨j, h1, e', he', hke, _⟩ := rd_findKey_some (h := h) hkt hl hg
    refine den_of_rd h1 ?_
    simp only
    have he2 : es[j]? = some e' := by simpa using he'
    have hst1 : rd P (Instr.keyThatStays (((es[j]?).map (·.key)).getD (.int .i64 k)) (.int .i64 k)) h = some (.int .i64 k) := by
      rw [he2]
      simp only [Option.map_some, Option.getD_some, hke]
      unfold Instr.keyThatStays
      have : Instr.sameBits 10000 (.int .i64 k) (.int .i64 k) = true := by unfold Instr.sameBits; simp
      rw [if_pos this]; rfl
    refine den_of_rd hst1 ?_
    refine fin _ _ ?_ ?_ ?_
    · unfold mput
      rw [hg]
      simp only [Option.isSome_some, if_true]
      rw [Array.toList_modify]
      exact map_modify hl hn he' hke _ (fun e => ⟨rfl, rfl⟩)
    · intro e2 he2'
      rw [Array.toList_modify] at he2'
      obtain ⟨i, hi⟩ := List.getElem?_of_mem he2'
      rw [List.getElem?_modify] at hi
      cases hq : es.toList[i]? with
      | none => rw [hq] at hi; simp at hi
      | some e3 =>
        rw [hq] at hi
        have := hst e3 (List.mem_of_getElem? hq)
        simp only [Option.map_eq_map, Option.map_some, Option.some.injEq] at hi
        subst hi
        split <;> exact this
    · rw [Array.toList_modify]
      have : (es.toList.modify j fun e => { e with key := Value.int .i64 k, val := v }).map (·.born) = es.toList.map (·.born) := by
        apply List.ext_getElem?
        intro i
        simp only [List.getElem?_map, List.getElem?_modify]
        cases es.toList[i]? with
        | none => rfl
        | some e3 => simp only [Option.map_eq_map, Option.map_some]; split <;> rfl
      rw [this]; exact hnd
theorem den_mapUpdateF {t : TypeId} {z : Value} (T : MapTy P t z) {h : Heap} {m : Nat} {f : Int → Option Value} (hm : MapF h m f) {k : Int} {v : Value} {K : Unit → Heap → Prop}
    (hk : ∀ h', MapF h' m (fun x => if x = k then some v else f x) → h'.size = h.size → (∀ c, c ≠ m → h'[c]? = h[c]?) → K () h') : denSem P (Instr.mapUpdate t (.map (some m)) (.int .i64 k) v) h K := by
  obtain ⟨l, hl, hf⟩ := hm
  refine den_mapUpdate T hl fun h' h1 h2 h3 => hk h' ⟨_, h1, fun x => ?_⟩ h2 h3
  rw [mget_mput, hf]

theorem erase_filter {es : List MapEntry} {l : List (Int × Value)} {k : Int} (hl : es.map (fun e => (e.key, e.val)) = l.map (fun e => (Value.int .i64 e.1, e.2))) (hn : (l.map (·.1)).Nodup) :
    ∀ {j : Nat} {e : MapEntry}, es[j]? = some e → e.key = .int .i64 k → (es.eraseIdx j).map (fun e => (e.key, e.val)) = (mdel l k).map (fun e => (Value.int .i64 e.1, e.2)) := by
  induction es generalizing l with
  | nil => intro j e he; simp at he
  | cons x es ih =>
    intro j e he hk
    cases l with
    | nil => simp at hl
    | cons y l =>
      simp only [List.map_cons, List.cons.injEq, Prod.mk.injEq] at hl
      obtain ⟨⟨h1, h2⟩, h3⟩ := hl
      simp only [List.map_cons, List.nodup_cons] at hn
      obtain ⟨hy, hn⟩ := hn
      cases j with
      | zero =>
        simp only [List.getElem?_cons_zero, Option.some.injEq] at he
        subst he
        have hyk : y.1 = k := by have := h1.symm.trans hk; simpa using this
        have : mdel (y :: l) k = l := by
          unfold mdel
          rw [List.filter_cons, if_neg (by simp [hyk])]
          rw [List.filter_eq_self]
          intro a ha
          have : a.1 ≠ k := fun e => hy (by rw [hyk, ← e]; exact List.mem_map_of_mem ha)
          simp [this]
        rw [this]
        simpa using h3
      | succ j =>
        have he' : es[j]? = some e := by simpa using he
        have hyk : y.1 ≠ k := by
          intro hyk
          apply hy
          have hli := congrArg (·[j]?) h3
          simp only [List.getElem?_map, he', Option.map_some] at hli
          cases hq : l[j]? with
          | none => rw [hq] at hli; simp at hli
          | some z =>
            rw [hq] at hli
            simp only [Option.map_some, Option.some.injEq, Prod.mk.injEq] at hli
            have hzk : z.1 = k := by have := hli.1.symm.trans hk; simpa using this
            rw [hyk, ← hzk]
            exact List.mem_map_of_mem (List.mem_of_getElem? hq)
        have : mdel (y :: l) k = y :: mdel l k := by
          unfold mdel; rw [List.filter_cons, if_pos (by simp [hyk])]
        rw [this]
        simp only [List.eraseIdx_cons_succ, List.map_cons, h1, h2]
        rw [ih h3 hn he' hk]

/-- 'delete(m, k)' -/
theorem den_delete {t kt' ty : TypeId} {z : Value} (T : MapTy P t z) {h : Heap} {m : Nat} {l : List (Int × Value)} (hm : MapL h m l) {k : Int} {K : Value → Heap → Prop}
    (hk : ∀ h', MapL h' m (mdel l k) → h'.size = h.size → (∀ c, c ≠ m → h'[c]? = h[c]?) → K (.tuple #[]) h') : denSem P (Builtin.delete_ #[t, kt'] ty #[.map (some m), .int .i64 k]) h K := by
  obtain ⟨kt, e, d, ht, hkt, _⟩ := T.ty
  obtain ⟨es, clock, hb, hl, hn, hst, hnd⟩ := hm
  have hlt := lt_of_get hb
  unfold Builtin.delete_
  refine den_of_rd (rd_underlying ht) ?_
  show denSem P (do
      let __x ← getObj m
      match __x with
        | Obj.map es clock => do
          Instr.checkKey es.isEmpty 10000 kt (Value.int IntKind.i64 k)
          let __do_lift ← Instr.findKey kt (Value.int IntKind.i64 k) es.toList
          match __do_lift with
            | some (i, _) => do
              setObj m (Obj.map (es.eraseIdxIfInBounds i) clock)
              pure (Value.tuple #[])
            | none => do
              setObj m (Obj.map es clock)
              pure (Value.tuple #[])
        | _ => do
          stuck "delete: map expected"
          pure (Value.tuple #[])) h K
  refine den_of_rd (rd_getObj hb) ?_
  simp only
  refine den_of_rd (rd_checkKey hkt) ?_
  have fin : ∀ (es' : Array MapEntry), es'.toList.map (fun e => (e.key, e.val)) = (mdel l k).map (fun e => (Value.int .i64 e.1, e.2)) → (∀ e ∈ es'.toList, e.born < clock) → (es'.toList.map (·.born)).Nodup →
      denSem P (do setObj m (.map es' clock); pure (Value.tuple #[])) h K := fun es' h1 h2 h3 => by
    rw [den_bind]
    refine ⟨⟨_, hb, fun c e f he => by cases he⟩, ?_⟩
    refine hk _ ⟨es', clock, by simp [hlt], h1, mdel_keys l k hn, h2, h3⟩ (by simp) (fun c hc => ?_)
    rw [Array.getElem?_setIfInBounds, if_neg (Ne.symm hc)]
  cases hg : mget l k with
  | none =>
    refine den_of_rd (rd_findKey_none hkt hl hg) ?_
    refine fin es ?_ hst hnd
    have : mdel l k = l := by
      unfold mdel
      rw [List.filter_eq_self]
      intro a ha
      have : a.1 ≠ k := fun e => by
        have hm : k ∈ l.map (·.1) := e ▸ List.mem_map_of_mem ha
        rw [← mget_mem, hg] at hm; cases hm
      simp [this]
    rw [this]; exact hl
  | some u =>
    obtain ⟨j, h1, e', he', hke, _⟩ := rd_findKey_some (h := h) hkt hl hg
    refine den_of_rd h1 ?_
    have hsub : List.Sublist (es.eraseIdxIfInBounds j).toList es.toList := by
      rw [Array.toList_eraseIdxIfInBounds]; exact List.eraseIdx_sublist _ _
    refine fin _ ?_ ?_ ?_
    · rw [Array.toList_eraseIdxIfInBounds]
      exact erase_filter hl hn he' hke
    · intro e2 he2; exact hst e2 (hsub.subset he2)
    · exact (hsub.map _).nodup hnd
theorem den_deleteF {t kt' ty : TypeId} {z : Value} (T : MapTy P t z) {h : Heap} {m : Nat} {f : Int → Option Value} (hm : MapF h m f) {k : Int} {K : Value → Heap → Prop}
    (hk : ∀ h', MapF h' m (fun x => if x = k then none else f x) → h'.size = h.size → (∀ c, c ≠ m → h'[c]? = h[c]?) → K (.tuple #[]) h') : denSem P (Builtin.delete_ #[t, kt'] ty #[.map (some m), .int .i64 k]) h K := by
  obtain ⟨l, hl, hf⟩ := hm
  refine den_delete T hl fun h' h1 h2 h3 => hk h' ⟨_, h1, fun x => ?_⟩ h2 h3
  rw [mget_mdel, hf]
end

end Go.Den
namespace Go.Den
theorem cell_at {h : Heap} {b i : Nat} {c : Array Value} {t : TypeId} {f : Nat × Nat} {v : Value} (hb : h[b]? = some (.cells c t f)) (hi : c[i]? = some v) : hcell h ⟨b, i, none⟩ = some v := by
  rw [hcell_blk hb, hi]
theorem storeP_blk {h : Heap} {b i : Nat} {c : Array Value} {t : TypeId} {v : Value} {K : Heap → Prop} (hb : h[b]? = some (.cells c t (0, 0))) (hi : i < c.size)
    (hk : ∀ h', h'[b]? = some (.cells (c.setIfInBounds i v) t (0, 0)) → h'.size = h.size → (∀ x, x ≠ b → h'[x]? = h[x]?) → K h') : StoreP h ⟨b, i, none⟩ v K := by
  refine ⟨?_, hfrozen_blk hb, ?_⟩
  · rw [hcell_blk hb]; simp [hi]
  · rintro _ rfl
    exact hk _ (hset_same hb) hset_size (fun x hx => hset_other hx)
theorem Fr.of_eq {S : Nat → Prop} {h h' : Heap} (hs : h'.size = h.size) (ho : ∀ c, ¬ S c → h'[c]? = h[c]?) : Fr S h h' := ⟨by omega, fun c _ hn => ho c hn⟩
theorem wrap_id {n : Int} (h1 : -9223372036854775808 ≤ n) (h2 : n ≤ 9223372036854775807) : IntKind.wrap .i64 n = n := IntWalk.i64_in n ⟨h1, h2⟩
theorem wrap_u64 {n : Int} (h1 : 0 ≤ n) (h2 : n ≤ 18446744073709551615) : IntKind.wrap .u64 n = n := IntWalk.u64_in n ⟨h1, h2⟩
theorem wrap_u8 {n : Int} (h1 : 0 ≤ n) (h2 : n ≤ 255) : IntKind.wrap .u8 n = n := IntWalk.u8_in n ⟨h1, h2⟩
theorem Fr.no {h1 h2 h3 : Heap} {S : Nat → Prop} (h12 : Fr (fun _ => False) h1 h2) (h23 : Fr S h2 h3) : Fr S h1 h3 := h12.trans h23 (fun _ _ => False.elim) (fun _ _ => id)
theorem Fr.on {h1 h2 h3 : Heap} {S : Nat → Prop} (h12 : Fr S h1 h2) (h23 : Fr (fun _ => False) h2 h3) : Fr S h1 h3 := h12.trans h23 (fun _ _ => id) (fun _ _ => False.elim)
theorem Fr.tt {h1 h2 h3 : Heap} {S : Nat → Prop} (h12 : Fr S h1 h2) (h23 : Fr S h2 h3) : Fr S h1 h3 := h12.trans h23 (fun _ _ => id) (fun _ _ => id)
theorem Fr.step {S : Nat → Prop} {h h1 h2 : Heap} (hf : Fr (fun _ => False) h h1) (hs : Fr S h1 h2) (hn : ∀ c, c < h.size → ¬ S c) : Fr (fun _ => False) h h2 :=
  hf.trans hs (fun _ _ hx => hx) (fun c hc hx => hn c hc hx)
end Go.Den
