/-
  What is proved here: bytes that are held; labels of blocks; more laws on slices ('clear', a clone). No condition.
-/
import Derived.Test.YtgccegnmggjkjaaDoorBytes
import Derived.Test.YtgccegnmggjkjaaDoorStep
namespace Go.Den

/-- bytes in memory: where, their room, what they say -/
structure BV where
  p : Option Addr
  c : Nat
  b : List UInt8
abbrev BV.val (x : BV) : Value := .slice x.p x.b.length x.c
/-- .. and they lie in D -/
structure BV.ok (h : Heap) (D : Nat → Prop) (x : BV) : Prop where
  row : Row h x.p (bc x.b)
  own : x.b ≠ [] → ∀ c, inBlk x.p c → D c
  cap : x.b.length ≤ x.c
theorem BV.ok.frame {h h' : Heap} {D Q : Nat → Prop} {x : BV} (H : x.ok h D) (f : Fr Q h h') (hn : ∀ c, D c → ¬ Q c) : x.ok h' D := by
  refine ⟨?_, H.own, H.cap⟩
  by_cases hc : x.b = []
  · rw [hc]; exact .inl rfl
  · exact H.row.frame f (fun a e => hn a.block (H.own hc a.block ⟨a, e, rfl⟩))
theorem BV.ok.mono {h : Heap} {D D' : Nat → Prop} {x : BV} (H : x.ok h D) (hd : ∀ c, D c → D' c) : x.ok h D' := ⟨H.row, fun hc c hx => hd c (H.own hc c hx), H.cap⟩
theorem BV.of_own {h : Heap} {D : Nat → Prop} {p : Option Addr} {c : Nat} {b : List UInt8} (o : Own h p b.length c 1 (bc b)) (hd : ∀ x, inBlk p x → D x) : BV.ok h D ⟨p, c, b⟩ := ⟨o.row', fun _ => hd, o.le⟩

theorem slBase_zero (p : Option Addr) (m sz : Nat) : slBase p m 0 sz = p := by
  unfold slBase
  split
  · rfl
  · cases p with
    | none => rfl
    | some a => simp [Addr.add]

/-- a row in an owned slice -/
theorem Own.heldAt {h : Heap} {a : Addr} {len cap sz : Nat} {α : Type} {enc : α → List Value} {xs : List α} (own : Own h (.some a) len cap sz (xs.flatMap enc)) (henc : ∀ x, (enc x).length = sz) {i : Nat} {x : α} (hi : xs[i]? = .some x) : heldL (a.add (i * sz)) (enc x) 0 h := by
  refine heldL_at.2 fun j v hj => ?_
  rw [Nat.zero_add, add_add]
  exact own.cell (flat_at enc sz henc xs i x hi j v hj)
theorem Row.heldAt {h : Heap} {a : Addr} {sz : Nat} {α : Type} {enc : α → List Value} {xs : List α} (own : Row h (.some a) (xs.flatMap enc)) (henc : ∀ x, (enc x).length = sz) {i : Nat} {x : α} (hi : xs[i]? = .some x) : heldL (a.add (i * sz)) (enc x) 0 h := by
  refine heldL_at.2 fun j v hj => ?_
  rw [Nat.zero_add, add_add]
  exact own.cell (flat_at enc sz henc xs i x hi j v hj)
theorem Own.addr {h : Heap} {p : Option Addr} {len cap sz : Nat} {cs : List Value} (own : Own h p len cap sz cs) (hl : 0 < len) : ∃ b off, p = .some ⟨b, off, none⟩ := by
  cases own with
  | nil _ h2 _ _ => omega
  | row b off c t hp _ _ _ _ _ => exact ⟨b, off, hp⟩
theorem Own.pre {h : Heap} {p : Option Addr} {len cap sz : Nat} {cs : List Value} (own : Own h p len cap sz cs) {i : Nat} (hi : i ≤ len) : Own h p i cap sz (cs.take (i * sz)) := by
  have := own.sub (l := 0) (u := i) (Nat.zero_le _) hi
  rwa [slBase_zero, Nat.zero_mul, List.drop_zero] at this
theorem flat_take {α : Type} (enc : α → List Value) (sz : Nat) (henc : ∀ x, (enc x).length = sz) : ∀ (xs : List α) (i : Nat), (xs.flatMap enc).take (i * sz) = (xs.take i).flatMap enc
  | [], i => by simp
  | x :: xs, 0 => by simp
  | x :: xs, i + 1 => by
    rw [List.flatMap_cons, List.take_succ_cons, List.flatMap_cons, List.take_append, henc, List.take_of_length_le (by rw [henc, Nat.add_mul]; omega), show (i + 1) * sz - sz = i * sz by rw [Nat.add_mul]; omega, flat_take enc sz henc xs i]
theorem flat_drop {α : Type} (enc : α → List Value) (sz : Nat) (henc : ∀ x, (enc x).length = sz) : ∀ (xs : List α) (i : Nat), (xs.flatMap enc).drop (i * sz) = (xs.drop i).flatMap enc
  | [], i => by simp
  | x :: xs, 0 => by simp
  | x :: xs, i + 1 => by
    rw [List.flatMap_cons, List.drop_succ_cons, List.drop_append, henc, List.drop_of_length_le (by rw [henc, Nat.add_mul]; omega), List.nil_append, show (i + 1) * sz - sz = i * sz by rw [Nat.add_mul]; omega, flat_drop enc sz henc xs i]
theorem flat_set {α : Type} (enc : α → List Value) (sz : Nat) (henc : ∀ x, (enc x).length = sz) : ∀ (xs : List α) (i : Nat) (y : α), i < xs.length → ∀ (cs : List Value), cs.length = (xs.flatMap enc).length → (∀ j, j / sz ≠ i ∨ sz = 0 → cs[j]? = (xs.flatMap enc)[j]?) → (∀ j v, j < sz → (enc y)[j]? = some v → cs[i * sz + j]? = some v) → cs = (xs.set i y).flatMap enc := by
  intro xs i y hi cs hl h1 h2
  apply List.ext_getElem?
  intro j
  by_cases hsz : sz = 0
  · rw [h1 j (.inr hsz)]
    have e1 : ∀ zs : List α, zs.flatMap enc = [] := fun zs => by
      have := flat_len enc sz henc zs; rw [hsz, Nat.mul_zero] at this; exact List.eq_nil_of_length_eq_zero this
    rw [e1, e1]
  have hpos : 0 < sz := by omega
  by_cases hj : j / sz = i
  · have hjm : j = i * sz + j % sz := by rw [← hj, Nat.mul_comm]; exact (Nat.div_add_mod j sz).symm
    have hm := Nat.mod_lt j hpos
    have hy : (enc y)[j % sz]? = some ((enc y)[j % sz]'(by rw [henc]; exact hm)) := List.getElem?_eq_getElem _
    have a := h2 _ _ hm hy
    have b := flat_at enc sz henc (xs.set i y) i y (by simp [hi]) _ _ hy
    rw [← hjm] at a b
    rw [a, b]
  · rw [h1 j (.inl hj)]
    by_cases hjl : j / sz < xs.length
    · have hjm : j = (j / sz) * sz + j % sz := by rw [Nat.mul_comm]; exact (Nat.div_add_mod j sz).symm
      have hm := Nat.mod_lt j hpos
      have hx : xs[j / sz]? = some (xs[j / sz]) := List.getElem?_eq_getElem hjl
      have hx' : (xs.set i y)[j / sz]? = some (xs[j / sz]) := by rw [List.getElem?_set, if_neg (fun e => hj e.symm)]; exact hx
      have hy : (enc xs[j / sz])[j % sz]? = some ((enc xs[j / sz])[j % sz]'(by rw [henc]; exact hm)) := List.getElem?_eq_getElem _
      have a := flat_at enc sz henc xs _ _ hx _ _ hy
      have b := flat_at enc sz henc (xs.set i y) _ _ hx' _ _ hy
      rw [← hjm] at a b
      rw [a, b]
    · have hge : xs.length * sz ≤ j := by
        have := (Nat.le_div_iff_mul_le hpos).1 (Nat.le_of_not_lt hjl); exact this
      rw [List.getElem?_eq_none (by rw [flat_len enc sz henc]; exact hge), List.getElem?_eq_none (by rw [flat_len enc sz henc, List.length_set]; exact hge)]

section
variable {P : Program}
theorem den_clear {sT elem ty : TypeId} {sz bytes : Nat} {z : Value} {h : Heap} {p : Option Addr} {len cap i : Nat} {cs : List Value} {K : Value → Heap → Prop} (T : SlTy P sT elem sz bytes z) (hone : ∀ v ∈ z.cells.toList, oneCell v = true)
    (own : Own h p len cap sz cs) (hi : i ≤ len) (hk : ∀ h', Own h' p i cap sz (cs.take (i * sz)) → Fr (inBlk p) h h' → K (.tuple #[]) h') : denSem P (Builtin.clear_ #[sT] ty #[.slice (slBase p cap i sz) (len - i) (cap - i)]) h K := by
  have fin : K (.tuple #[]) h := hk h (own.pre hi) (Fr.refl _ _)
  obtain ⟨inf, hinf, hsz, _, hz⟩ := T.i
  unfold Builtin.clear_
  show denSem P (underlying sT >>= _) h K
  refine den_of_rd (s := underlying sT) (rd_underlying T.u) ?_
  cases own with
  | nil hp hl hc hcs =>
    subst hp
    have : slBase none cap i sz = none := by unfold slBase; split <;> rfl
    rw [this]
    exact fin
  | row b off c t hp hb hl hc hlen hcs =>
    subst hp
    by_cases hil : len - i = 0
    · rw [hil]
      cases hq : slBase (some ⟨b, off, none⟩) cap i sz with
      | none => exact fin
      | some a => exact fin
    · obtain ⟨n, hn⟩ : ∃ n, len - i = n + 1 := ⟨len - i - 1, by omega⟩
      have hci : cap ≠ i := by omega
      have hb0 : slBase (some ⟨b, off, none⟩) cap i sz = some ⟨b, off + i * sz, none⟩ := by
        unfold slBase; rw [if_neg hci]; show some ((⟨b, off, none⟩ : Addr).add (i * sz)) = _; rw [add_blk]
      rw [hb0, hn]
      show denSem P (zeroValue elem >>= fun z => storeCells ⟨b, off + i * sz, none⟩ (Builtin.zeroCells z.cells (n + 1)).toList >>= fun _ => pure (Value.tuple #[])) h K
      refine den_of_rd (s := zeroValue elem) (rd_zeroValue hinf hz) ?_
      rw [den_bind]
      have hzs := T.zs
      have hzl : (Builtin.zeroCells z.cells (n + 1)).toList.length = (n + 1) * sz := by simp [Builtin.zeroCells, hzs]
      have hin : off + i * sz + (n + 1) * sz ≤ off + cap * sz := by
        rw [← hn, Nat.sub_mul]
        have m1 : i * sz ≤ len * sz := Nat.mul_le_mul_right _ hi
        have m2 : len * sz ≤ cap * sz := Nat.mul_le_mul_right _ hl
        omega
      refine splice_set (c := c) (off := off + i * sz) _ 0 h b t _ ?_ hb (by rw [hzl]; omega) ?_
      · intro v hv
        simp only [Builtin.zeroCells, Array.toList_map, List.mem_map] at hv
        obtain ⟨k, hk1, rfl⟩ := hv
        have hpos : 0 < z.cells.size := by
          rcases Nat.eq_zero_or_pos z.cells.size with e | e
          · simp [e] at hk1
          · exact e
        have hm := Nat.mod_lt k hpos
        rw [getElem!_pos z.cells _ hm]
        exact hone _ (by simp)
      · intro h' c' hb' hs' ho' hn' hsz' hoth
        refine hk h' (.row b off c' t rfl hb' (by omega) (by omega) ?_ ?_) (Fr.of_eq hsz' fun x hx => hoth x (fun e => hx ⟨_, rfl, e.symm⟩))
        · rw [List.length_take, hlen]
          have m1 : i * sz ≤ len * sz := Nat.mul_le_mul_right _ hi
          omega
        · intro j v hj
          rw [List.getElem?_take] at hj
          split at hj
          · rename_i hji
            rw [ho' (off + j) (by omega)]
            exact hcs j v hj
          · cases hj
/-- a clone of a slice: 'append' to an empty one -/
theorem den_clone {sT xT ty elem eT t : TypeId} {sz bytes : Nat} {z : Value} {h : Heap} {q : Option Addr} {n cq : Nat} {ds : List Value} {K : Value → Heap → Prop}
    (T : SlTy P sT elem sz bytes z) (hx : P.underlying xT = some (.slice eT)) (hq : Row h q ds) (hd : ds.length = n * sz) (hone : ∀ v ∈ ds, oneCell v = true) (hb : n * bytes ≤ 70368744177664) (hb2 : n ≤ 9223372036854775807)
    (hk : ∀ p' cap' h', Own h' p' n cap' sz ds → Fr (fun _ => False) h h' → (∀ c, inBlk p' c → h.size ≤ c) → K (.slice p' n cap') h') :
    NewP h (.cells #[] t) fun b h1 => denSem P (Builtin.append_ #[sT, xT] ty #[.slice (some ⟨b, 0, none⟩) 0 0, .slice q n cq]) h1 K := by
  refine newP_of ?_
  have f1 : Fr (fun _ => False) h (h.push (.cells #[] t)) := Fr.push _ _
  refine den_append (cs := []) T hx (.row h.size 0 #[] t rfl push_new (Nat.le_refl _) (by simp) (by simp) (fun j v hj => by cases hj)) (hq.frame f1 (fun _ _ => id)) hd hone (by simpa using hb) (by omega) ?_
  intro p' c' h' o1 _ f2 g
  rw [Nat.zero_add, List.nil_append] at o1
  rw [Nat.zero_add]
  refine hk p' c' h' o1 (f1.step f2 (fun c hc ⟨a, e, e2⟩ => by cases e; simp at e2; omega)) (fun x hx => ?_)
  rcases g x hx with ⟨a, e, rfl⟩ | h2
  · cases e; exact Nat.le_refl _
  · simp at h2; omega
end
theorem flat_set2 {α : Type} {enc : α → List Value} (henc : ∀ x, (enc x).length = 2) {xs : List α} {i : Nat} {y : α} {v0 v1 : Value} (hi : i < xs.length) (hy : enc y = [v0, v1]) : ((xs.flatMap enc).set (i * 2) v0).set (i * 2 + 1) v1 = (xs.set i y).flatMap enc := by
  have hl := flat_len enc 2 henc xs
  refine flat_set enc 2 henc xs i y hi _ (by simp) (fun j hj => ?_) (fun j v hj hv => ?_)
  · have hj : j / 2 ≠ i := by omega
    rw [List.getElem?_set, List.getElem?_set, if_neg (by omega), if_neg (by omega)]
  · rw [hy] at hv
    match j, hj with
    | 0, _ =>
      simp only [List.getElem?_cons_zero, Option.some.injEq] at hv
      rw [List.getElem?_set, if_neg (by omega), List.getElem?_set, if_pos (by omega), if_pos (by omega), hv]
    | 1, _ =>
      simp only [List.getElem?_cons_succ, List.getElem?_cons_zero, Option.some.injEq] at hv
      rw [List.getElem?_set, if_pos rfl, if_pos (by rw [List.length_set]; omega), hv]
theorem flat_one {α : Type} (f : α → Value) (xs : List α) : xs.flatMap (fun x => [f x]) = xs.map f := by
  induction xs with
  | nil => rfl
  | cons x xs ih => rw [List.flatMap_cons, ih]; rfl
/-- a slice of slices of bytes that a law is handed -/
theorem RokV.bytess {P : Program} {h : Heap} {t e e8 : TypeId} {p : Option Addr} {len cap : Nat} (he : P.cellsOf e = 1) (he8 : P.cellsOf e8 = 1) (h8 : P.underlying e8 = some (.int .u8)) (hes : P.underlying e = some (.slice e8)) (ht : P.underlying t = some (.slice e)) (hv : RokV P h t (.slice p len cap)) :
    ∃ xs : List BV, xs.length = len ∧ Row h p (xs.flatMap fun x => [x.val]) ∧ ∀ x ∈ xs, Row h x.p (bc x.b) := by
  obtain ⟨xs, h1, _, _, h2, h3⟩ := RokV.slice (e := e) (fun x : BV => [x.val]) 1 (fun x => Row h x.p (bc x.b)) he (fun _ => rfl) (fun n cs hl hr => by
    match cs, hl with
    | [v], _ =>
      obtain ⟨p, c, bs, rfl, hrow⟩ := Rok.bytes he8 h8 hes hr
      exact ⟨⟨p, c, bs⟩, rfl, hrow⟩) ht hv
  exact ⟨xs, h1, h2, h3⟩
end Go.Den
