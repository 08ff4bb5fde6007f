/-
  What is proved here: laws on slices in memory: reading, 'append'. No condition.
-/
import Derived.Test.YtgccegnmggjkjaaDoorHeap
namespace Go.Den

/-! ### reading rows of cells -/
/-- the cells from p on are cs -/
def Row (h : Heap) (p : Option Addr) (cs : List Value) : Prop := cs = [] ∨ ∃ a, p = some a ∧ heldL a cs 0 h
theorem Row.nil {h : Heap} {p : Option Addr} : Row h p [] := .inl rfl
theorem heldL_at {h : Heap} {a : Addr} : ∀ {cs : List Value} {i : Nat}, heldL a cs i h ↔ ∀ j v, cs[j]? = some v → hcell h (a.add (i + j)) = some v
  | [], i => by simp [heldL]
  | c :: cs, i => by
    simp only [heldL]
    rw [heldL_at (cs := cs)]
    constructor
    · rintro ⟨h1, h2⟩ j v hj
      cases j with
      | zero => simp only [List.getElem?_cons_zero, Option.some.injEq] at hj; subst hj; exact h1
      | succ j => have := h2 j v (by simpa using hj); rwa [show i + 1 + j = i + (j + 1) by omega] at this
    · intro hh
      refine ⟨hh 0 c rfl, fun j v hj => ?_⟩
      have := hh (j + 1) v (by simpa using hj)
      rwa [show i + (j + 1) = i + 1 + j by omega] at this
theorem heldL_blk {h : Heap} {b off : Nat} {c : Array Value} {t : TypeId} {f : Nat × Nat} {cs : List Value} (hb : h[b]? = some (.cells c t f)) (hc : ∀ j v, cs[j]? = some v → c[off + j]? = some v) : heldL ⟨b, off, none⟩ cs 0 h := by
  rw [heldL_at]
  intro j v hj
  rw [Nat.zero_add, add_blk, hcell_blk hb]
  exact hc j v hj
theorem heldL_frame {S : Nat → Prop} {h h' : Heap} (hf : Fr S h h') {a : Addr} (hn : ¬ S a.block) : ∀ {cs : List Value} {i : Nat}, heldL a cs i h → heldL a cs i h'
  | [], _, _ => trivial
  | _ :: _, i, hh => ⟨hf.cell hh.1 (by unfold Addr.add; split <;> exact hn), heldL_frame hf hn hh.2⟩
theorem Row.frame {S : Nat → Prop} {h h' : Heap} (hf : Fr S h h') {p : Option Addr} {cs : List Value} (hr : Row h p cs) (hn : ∀ a, p = some a → ¬ S a.block) : Row h' p cs := by
  rcases hr with rfl | ⟨a, rfl, hh⟩
  · exact .inl rfl
  · exact .inr ⟨a, rfl, heldL_frame hf (hn a rfl) hh⟩
theorem Row.cell {h : Heap} {a : Addr} {cs : List Value} (hr : Row h (some a) cs) {j : Nat} {v : Value} (hj : cs[j]? = some v) : hcell h (a.add j) = some v := by
  rcases hr with rfl | ⟨a', e, hh⟩
  · simp at hj
  · cases e
    have := heldL_at.1 hh j v hj
    rwa [Nat.zero_add] at this
theorem Row.some {h : Heap} {p : Option Addr} {cs : List Value} (hr : Row h p cs) (hn : cs ≠ []) : ∃ a, p = some a := by
  rcases hr with rfl | ⟨a, e, _⟩
  · exact absurd rfl hn
  · exact ⟨a, e⟩

section
variable {P : Program}
theorem rd_firstCells {h : Heap} {q : Option Addr} {n cq sz : Nat} {ds : List Value} (hq : Row h q ds) (hl : ds.length = n * sz) : rd P (Builtin.firstCells sz n (.slice q n cq)) h = some ds.toArray := by
  cases q with
  | none =>
    have : ds = [] := by
      rcases hq with rfl | ⟨a, e, _⟩
      · rfl
      · cases e
    subst this; rfl
  | some a =>
    show rd P (loadCells a (n * sz)) h = _
    have hh : heldL a ds 0 h := by
      rcases hq with rfl | ⟨a', e, hh⟩
      · trivial
      · cases e; exact hh
    unfold loadCells
    rw [← hl, rd_loadCellsFrom ds 0 #[] h hh]
    simp

theorem growBy_le {need : Nat} : ∀ (r c : Nat), c < 2 * need → 256 ≤ c → Builtin.growBy need r c ≤ 2 * need
  | 0, c, h, _ => by unfold Builtin.growBy; omega
  | r + 1, c, h, h2 => by
    unfold Builtin.growBy
    split
    · omega
    · rename_i hc
      by_cases hlt : c + (c + 768) / 4 < 2 * need
      · exact growBy_le r _ hlt (by omega)
      · have : c + (c + 768) / 4 ≤ 2 * need := by omega
        cases r with
        | zero => unfold Builtin.growBy; exact this
        | succ r => unfold Builtin.growBy; rw [if_pos (by omega)]; exact this
theorem nextslicecap_le {need cap : Nat} (h : cap < need) : Builtin.nextslicecap need cap ≤ 2 * need := by
  unfold Builtin.nextslicecap
  split
  · omega
  · split
    · omega
    · exact growBy_le 4 cap (by omega) (by omega)

/-! ### a slice that may be appended to -/
inductive Own (h : Heap) (p : Option Addr) (len cap sz : Nat) (cs : List Value) : Prop
  | nil (hp : p = none) (hl : len = 0) (hc : cap = 0) (hcs : cs = [])
  | row (b off : Nat) (c : Array Value) (t : TypeId) (hp : p = some ⟨b, off, none⟩) (hb : h[b]? = some (.cells c t (0, 0))) (hl : len ≤ cap) (hc : off + cap * sz ≤ c.size) (hn : cs.length = len * sz) (hcs : ∀ j v, cs[j]? = some v → c[off + j]? = some v)

/-- the block that a slice lies in -/
def inBlk (p : Option Addr) (c : Nat) : Prop := ∃ a, p = some a ∧ a.block = c

theorem Own.length {h : Heap} {p : Option Addr} {len cap sz : Nat} {cs : List Value} (o : Own h p len cap sz cs) : cs.length = len * sz := by
  cases o with
  | nil _ hl _ hcs => subst hl hcs; simp
  | row b off c t _ _ _ _ hn _ => exact hn
theorem Own.row' {h : Heap} {p : Option Addr} {len cap sz : Nat} {cs : List Value} (o : Own h p len cap sz cs) : Row h p cs := by
  cases o with
  | nil _ _ _ hcs => exact .inl hcs
  | row b off c t hp hb _ _ _ hcs => exact .inr ⟨_, hp, heldL_blk hb hcs⟩
theorem Own.frame {S : Nat → Prop} {h h' : Heap} {p : Option Addr} {len cap sz : Nat} {cs : List Value} (o : Own h p len cap sz cs) (hf : Fr S h h') (hn : ∀ c, inBlk p c → ¬ S c) : Own h' p len cap sz cs := by
  cases o with
  | nil hp hl hc hcs => exact .nil hp hl hc hcs
  | row b off c t hp hb hl hc hlen hcs => exact .row b off c t hp (hf.get hb (hn b ⟨_, hp, rfl⟩)) hl hc hlen hcs
theorem Own.blk_lt {h : Heap} {p : Option Addr} {len cap sz : Nat} {cs : List Value} (o : Own h p len cap sz cs) {c : Nat} (hc : inBlk p c) : c < h.size := by
  obtain ⟨a, e, rfl⟩ := hc
  cases o with
  | nil hp _ _ _ => rw [hp] at e; cases e
  | row b off c t hp hb _ _ _ _ => rw [hp] at e; cases e; exact lt_of_get hb
theorem Own.cells {h : Heap} {p : Option Addr} {len cap sz : Nat} {cs : List Value} (o : Own h p len cap sz cs) {b : Nat} (hb : inBlk p b) : ∃ c t, h[b]? = some (.cells c t (0, 0)) := by
  obtain ⟨a, e, rfl⟩ := hb
  cases o with
  | nil hp _ _ _ => rw [hp] at e; cases e
  | row b off c t hp hb _ _ _ _ => rw [hp] at e; cases e; exact ⟨c, t, hb⟩
theorem Own.le {h : Heap} {p : Option Addr} {len cap sz : Nat} {cs : List Value} (o : Own h p len cap sz cs) : len ≤ cap := by
  cases o with
  | nil _ hl hc _ => omega
  | row b off c t _ _ hl _ _ _ => exact hl

theorem Own.some {h : Heap} {p : Option Addr} {len cap sz : Nat} {cs : List Value} (o : Own h p len cap sz cs) (hn : 0 < cs.length) : ∃ b off, p = some ⟨b, off, none⟩ := by
  cases o with
  | nil _ _ _ hcs => subst hcs; simp at hn
  | row b off c t hp _ _ _ _ _ => exact ⟨b, off, hp⟩
theorem Own.cell {h : Heap} {a : Addr} {len cap sz : Nat} {cs : List Value} (o : Own h (.some a) len cap sz cs) {j : Nat} {v : Value} (hj : cs[j]? = .some v) : hcell h (a.add j) = .some v := o.row'.cell hj
/-- a store into a slice -/
theorem Own.store {h : Heap} {a : Addr} {len cap sz : Nat} {cs : List Value} {j : Nat} {v : Value} {K : Heap → Prop} (o : Own h (.some a) len cap sz cs) (hj : j < cs.length)
    (hk : ∀ h', Own h' (.some a) len cap sz (cs.set j v) → h'.size = h.size → (∀ x, ¬ inBlk (.some a) x → h'[x]? = h[x]?) → K h') : StoreP h (a.add j) v K := by
  cases o with
  | nil hp _ _ _ => cases hp
  | row b off c t hp hb hl hc hn hcs =>
    cases hp
    rw [add_blk]
    have hmul : len * sz ≤ cap * sz := Nat.mul_le_mul_right _ hl
    refine storeP_blk hb (by omega) fun h' h1 h2 h3 => hk h' (.row b off _ t rfl h1 hl (by simpa using hc) (by simpa using hn) ?_) h2 (fun x hx => h3 x (fun e => hx ⟨_, rfl, e.symm⟩))
    intro i w hi
    rw [List.getElem?_set] at hi
    rw [Array.getElem?_setIfInBounds]
    by_cases e : j = i
    · subst e
      rw [if_pos rfl, if_pos hj] at hi
      rw [if_pos rfl, if_pos (by omega)]
      exact hi
    · rw [if_neg e] at hi
      rw [if_neg (by omega)]
      exact hcs i w hi
/-- 's[l:u]' -/
theorem Own.sub {h : Heap} {p : Option Addr} {len cap sz : Nat} {cs : List Value} (o : Own h p len cap sz cs) {l u : Nat} (h1 : l ≤ u) (h2 : u ≤ len) : Own h (slBase p cap l sz) (u - l) (cap - l) sz ((cs.take (u * sz)).drop (l * sz)) := by
  cases o with
  | nil hp hl hc hcs =>
    subst hp hl hc hcs
    refine .nil ?_ (by omega) (by omega) (by simp)
    unfold slBase; split <;> rfl
  | row b off c t hp hb hl hc hn hcs =>
    subst hp
    have m1 : u * sz ≤ len * sz := Nat.mul_le_mul_right _ h2
    have m2 : l * sz ≤ u * sz := Nat.mul_le_mul_right _ h1
    have m3 : len * sz ≤ cap * sz := Nat.mul_le_mul_right _ hl
    have hget : ∀ j v, ((cs.take (u * sz)).drop (l * sz))[j]? = .some v → c[off + l * sz + j]? = .some v := fun j v hj => by
      rw [List.getElem?_drop, List.getElem?_take] at hj
      split at hj
      · have := hcs _ v hj
        rwa [← Nat.add_assoc] at this
      · cases hj
    have hlen : ((cs.take (u * sz)).drop (l * sz)).length = (u - l) * sz := by
      rw [List.length_drop, List.length_take, Nat.sub_mul]; omega
    have hcap : (cap - l) * sz = cap * sz - l * sz := Nat.sub_mul _ _ _
    unfold slBase
    split
    · rename_i e
      have e1 : u - l = 0 := by omega
      refine .row b off c t rfl hb (by omega) (by omega) hlen (fun j v hj => ?_)
      have hz : ((cs.take (u * sz)).drop (l * sz)).length = 0 := by rw [hlen, e1]; simp
      rw [List.eq_nil_of_length_eq_zero hz] at hj
      cases hj
    · show Own h (.some ((⟨b, off, none⟩ : Addr).add (l * sz))) _ _ _ _
      rw [add_blk]
      exact .row b (off + l * sz) c t rfl hb (by omega) (by omega) hlen hget
theorem inBlk_sub {p : Option Addr} {cap l sz c : Nat} (hc : inBlk (slBase p cap l sz) c) : inBlk p c := by
  obtain ⟨a, e, rfl⟩ := hc
  unfold slBase at e
  split at e
  · exact ⟨a, e, rfl⟩
  · cases p with
    | none => cases e
    | some b => cases e; exact ⟨b, rfl, by unfold Addr.add; split <;> rfl⟩

theorem splice_set {c : Array Value} {off : Nat} : ∀ (ds : List Value) (i : Nat) (h : Heap) (b : Nat) (t : TypeId) (K : Unit → Heap → Prop), (∀ v ∈ ds, oneCell v = true) → h[b]? = some (.cells c t (0, 0)) → off + i + ds.length ≤ c.size →
    (∀ h' c', h'[b]? = some (.cells c' t (0, 0)) → c'.size = c.size → (∀ j, j < off + i ∨ off + i + ds.length ≤ j → c'[j]? = c[j]?) → (∀ j v, ds[j]? = some v → c'[off + i + j]? = some v) → h'.size = h.size → (∀ x, x ≠ b → h'[x]? = h[x]?) → K () h') →
    denSem P (storeCells ⟨b, off, none⟩ ds i) h K
  | [], i, h, b, t, K, _, hb, _, hk => by
    refine hk h c hb rfl (fun _ _ => rfl) (fun j v hj => by simp at hj) rfl (fun _ _ => rfl)
  | v :: ds, i, h, b, t, K, hv, hb, hlen, hk => by
    simp only [storeCells]
    rw [den_bind]
    simp only [List.length_cons] at hlen
    have hlt : off + i < c.size := by omega
    refine ⟨hv v List.mem_cons_self, ?_, ?_, ?_⟩
    · rw [add_blk, hcell_blk hb]; simp [hlt]
    · rw [add_blk]; exact hfrozen_blk hb
    · rw [add_blk]
      show denSem P (storeCells ⟨b, off, none⟩ ds (i + 1)) (hset h ⟨b, off + i, none⟩ v) K
      refine splice_set (c := c.setIfInBounds (off + i) v) ds (i + 1) _ b t K (fun u hu => hv u (List.mem_cons_of_mem _ hu)) (hset_same hb) (by simp; omega) ?_
      intro h' c' hb' hs' ho' hn' hsz hoth
      refine hk h' c' hb' (by rw [hs']; simp) (fun j hj => ?_) (fun j u hj => ?_) (by rw [hsz, hset_size]) (fun x hx => by rw [hoth x hx, hset_other hx])
      · simp only [List.length_cons] at hj
        rw [ho' j (by omega), Array.getElem?_setIfInBounds, if_neg (by omega)]
      · cases j with
        | zero =>
          simp only [List.getElem?_cons_zero, Option.some.injEq] at hj
          subst hj
          rw [ho' (off + i + 0) (by omega)]
          simp [hlt]
        | succ j =>
          have := hn' j u (by simpa using hj)
          rwa [show off + (i + 1) + j = off + i + (j + 1) by omega] at this

/-- 'append(s, x...)' -/
theorem den_append_i {sT xT ty elem eT : TypeId} {i : TypeInfo} {z : Value} {h : Heap} {p q : Option Addr} {len cap n cq : Nat} {cs ds : List Value} {K : Value → Heap → Prop}
    (hs : P.underlying sT = some (.slice elem)) (hx : P.underlying xT = some (.slice eT)) (hi : P.info? elem = some i) (hz : i.zero = some z) (hsz : z.cells.size = i.size)
    (own : Own h p len cap i.size cs) (hq : Row h q ds) (hd : ds.length = n * i.size) (hone : ∀ v ∈ ds, oneCell v = true) (hb : (len + n) * i.bytes ≤ 70368744177664) (hb2 : len + n ≤ 9223372036854775807)
    (hk : ∀ p' cap' h', Own h' p' (len + n) cap' i.size (cs ++ ds) → Own h' p len cap i.size cs → Fr (inBlk p) h h' → (∀ c, inBlk p' c → inBlk p c ∨ h.size ≤ c) → K (.slice p' (len + n) cap') h') :
    denSem P (Builtin.append_ #[sT, xT] ty #[.slice p len cap, .slice q n cq]) h K := by
  unfold Builtin.append_
  refine den_of_rd (s := underlying sT) (rd_underlying hs) ?_
  refine den_of_rd (s := sizeOf elem) (rd_sizeOf hi) ?_
  refine den_of_rd (s := underlying xT) (rd_underlying hx) ?_
  refine den_of_rd (s := (pure false : Sem Bool)) (a := false) rfl ?_
  refine den_of_rd (s := Builtin.lenOf (.slice q n cq)) (a := n) rfl ?_
  show denSem P (if len + n ≤ cap then _ else _) h K
  by_cases hcap : len + n ≤ cap
  · rw [if_pos hcap]
    refine den_of_rd (s := Builtin.firstCells i.size n (.slice q n cq)) (a := ds.toArray) (rd_firstCells hq hd) ?_
    cases own with
    | nil hp hl hc hcs =>
      subst hp hl hc hcs
      have hn0 : n = 0 := by omega
      subst hn0
      have hds : ds = [] := by simpa using hd
      subst hds
      exact hk none 0 h (.nil rfl rfl rfl rfl) (.nil rfl rfl rfl rfl) (Fr.refl _ _) (fun c ⟨a, e, _⟩ => by cases e)
    | row b off c t hp hbk hl hc hlen hcs =>
      subst hp
      show denSem P (storeCells ((⟨b, off, none⟩ : Addr).add (len * i.size)) ds >>= fun _ => pure (.slice (some ⟨b, off, none⟩) (len + n) cap)) h K
      rw [add_blk]
      have hmul : (len + n) * i.size ≤ cap * i.size := Nat.mul_le_mul_right _ hcap
      rw [Nat.add_mul] at hmul
      rw [den_bind]
      refine splice_set (c := c) (off := off + len * i.size) ds 0 h b t _ hone hbk (by omega) ?_
      intro h' c' hb' hs' ho' hn' hsz hoth
      show K (.slice (some ⟨b, off, none⟩) (len + n) cap) h'
      refine hk _ cap h' (.row b off c' t rfl hb' hcap (by omega) (by rw [List.length_append, hlen, hd, Nat.add_mul]) ?_) (.row b off c' t rfl hb' hl (by omega) hlen ?_) (Fr.of_eq hsz fun x hx => hoth x (fun e => hx ⟨_, rfl, e.symm⟩)) (fun c hc => .inl hc)
      · intro j v hj
        by_cases hjl : j < cs.length
        · rw [List.getElem?_append_left hjl] at hj
          rw [ho' _ (by omega)]; exact hcs j v hj
        · rw [List.getElem?_append_right (by omega)] at hj
          have := hn' _ v hj
          rw [hlen] at this
          rwa [show off + len * i.size + 0 + (j - len * i.size) = off + j by omega] at this
      · intro j v hj
        have hjl : j < cs.length := (List.getElem?_eq_some_iff.1 hj).1
        rw [ho' _ (by omega)]; exact hcs j v hj
  · rw [if_neg hcap]
    have hle := nextslicecap_le (need := len + n) (cap := cap) (by omega)
    refine den_of_rd (s := typeInfo elem) (rd_typeInfo hi) ?_
    have hmax : ¬ (((len + n : Nat) : Int) > IntKind.max .i64 ∧ (False ∨ i.bytes = 0)) := fun hc => by
      have : IntKind.max .i64 = 9223372036854775807 := rfl
      rw [this] at hc; omega
    show denSem P (if (((len + n : Nat) : Int) > IntKind.max .i64 ∧ (false = true ∨ i.bytes = 0)) then _ else _) h K
    rw [if_neg (by simpa using hmax)]
    refine den_of_rd (s := typeInfo elem) (rd_typeInfo hi) ?_
    have hnext : ¬ (Builtin.nextslicecap (len + n) cap * i.bytes > 2 ^ 48) := by
      have h1 : Builtin.nextslicecap (len + n) cap * i.bytes ≤ 2 * (len + n) * i.bytes := Nat.mul_le_mul_right _ hle
      rw [Nat.mul_assoc] at h1
      omega
    show denSem P (if Builtin.nextslicecap (len + n) cap * i.bytes > 2 ^ 48 then _ else _) h K
    rw [if_neg hnext]
    show denSem P (choose (.appendCap (len + n) cap elem) >>= _) h K
    rw [den_bind]
    unfold choose
    simp only [denSem, Question.forced, Bool.false_eq_true, if_false, Question.cut]
    intro tq
    refine den_of_rd (s := typeInfo elem) (rd_typeInfo hi) ?_
    rw [den_bind]
    have hroom : ∀ (m : Nat) (K' : Unit → Heap → Prop), K' () h → denSem P (askRoom m) h K' := fun m K' hk' => by
      unfold askRoom
      split
      · exact hk'
      · exact hk'
    refine hroom _ _ ?_
    refine den_of_rd (s := Builtin.firstCells i.size len (.slice p len cap)) (a := cs.toArray) (rd_firstCells own.row' own.length) ?_
    refine den_of_rd (s := Builtin.firstCells i.size n (.slice q n cq)) (a := ds.toArray) (rd_firstCells hq hd) ?_
    refine den_of_rd (s := zeroValue elem) (rd_zeroValue hi hz) ?_
    generalize hcap' : len + n + tq % (2 ^ 63 - (len + n)) = cap'
    have hge : len + n ≤ cap' := by omega
    show K (.slice (some ⟨h.size, 0, none⟩) (len + n) cap') (h.push (.cells (cs.toArray ++ ds.toArray ++ Builtin.zeroCells z.cells (cap' - (len + n))) elem))
    have hsize : (cs.toArray ++ ds.toArray ++ Builtin.zeroCells z.cells (cap' - (len + n))).size = cap' * i.size := by
      have h1 : (Builtin.zeroCells z.cells (cap' - (len + n))).size = (cap' - (len + n)) * i.size := by simp [Builtin.zeroCells, hsz]
      have h2 := own.length
      rw [Array.size_append, Array.size_append, h1]
      simp only [List.size_toArray]
      rw [h2, hd, ← Nat.add_mul, ← Nat.add_mul]
      congr 1; omega
    refine hk _ cap' _ (.row h.size 0 _ elem rfl push_new hge (by rw [hsize]; omega) (by rw [List.length_append, own.length, hd, Nat.add_mul]) ?_) (own.frame (Fr.push (S := fun _ => False) _ _) (fun _ _ => id)) (Fr.push _ _) ?_
    · intro j v hj
      rw [Nat.zero_add]
      have hjl : j < (cs ++ ds).length := (List.getElem?_eq_some_iff.1 hj).1
      rw [Array.getElem?_append_left (by simpa using hjl)]
      simpa using hj
    · rintro c ⟨a, e, rfl⟩
      cases e
      exact .inr (Nat.le_refl _)
/-- a slice type: its elements' type, cells, bytes, zero -/
structure SlTy (P : Program) (sT elem : TypeId) (sz bytes : Nat) (z : Value) : Prop where
  u : P.underlying sT = some (.slice elem)
  info : (P.info? elem).map (fun i => (i.size, i.bytes, i.zero)) = some (sz, bytes, some z)
  zs : z.cells.size = sz
theorem SlTy.i {sT elem : TypeId} {sz bytes : Nat} {z : Value} (T : SlTy P sT elem sz bytes z) : ∃ i, P.info? elem = some i ∧ i.size = sz ∧ i.bytes = bytes ∧ i.zero = some z := by
  have := T.info
  cases hi : P.info? elem with
  | none => rw [hi] at this; cases this
  | some i =>
    rw [hi] at this
    simp only [Option.map_some, Option.some.injEq, Prod.mk.injEq] at this
    exact ⟨i, rfl, this⟩
theorem den_append {sT xT ty elem eT : TypeId} {sz bytes : Nat} {z : Value} {h : Heap} {p q : Option Addr} {len cap n cq : Nat} {cs ds : List Value} {K : Value → Heap → Prop}
    (T : SlTy P sT elem sz bytes z) (hx : P.underlying xT = some (.slice eT))
    (own : Own h p len cap sz cs) (hq : Row h q ds) (hd : ds.length = n * sz) (hone : ∀ v ∈ ds, oneCell v = true) (hb : (len + n) * bytes ≤ 70368744177664) (hb2 : len + n ≤ 9223372036854775807)
    (hk : ∀ p' cap' h', Own h' p' (len + n) cap' sz (cs ++ ds) → Own h' p len cap sz cs → Fr (inBlk p) h h' → (∀ c, inBlk p' c → inBlk p c ∨ h.size ≤ c) → K (.slice p' (len + n) cap') h') :
    denSem P (Builtin.append_ #[sT, xT] ty #[.slice p len cap, .slice q n cq]) h K := by
  obtain ⟨i, hi, rfl, rfl, hz⟩ := T.i
  exact den_append_i T.u hx hi hz T.zs own hq hd hone hb hb2 hk
end

end Go.Den
