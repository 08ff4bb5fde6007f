/-
  What is proved here: what a reading of an argument says of the heap ('Rok'); how a law's call on heaps becomes the row's own. No condition.
-/
import Derived.Test.YtgccegnmggjkjaaDoorSlice
import Derived.ProofKit
import Derived.ChangeOld
import Derived.Below
import Derived.Carry
import Derived.OpenShut
namespace Go.Den
open Go.RowKit

/-- cs are the cells of a value of type t, and what it leads to lies in h -/
def Rok (P : Program) (h : Heap) : Nat → TypeId → List Value → Prop
  | 0, _, _ => False
  | n + 1, t, cs =>
    match P.underlying t with
    | some .bool => ∃ b, cs = [.bool b]
    | some (.int k) => ∃ a, cs = [.int k a] ∧ (Lit.int k a).wf = true
    | some .string => ∃ s, cs = [.string s] ∧ s.size ≤ maxLen
    | some (.pointer e) => cs = [.pointer none] ∨ ∃ a cs', cs = [.pointer (some a)] ∧ cs'.length = P.cellsOf e ∧ heldL a cs' 0 h ∧ Rok P h n e cs'
    | some (.slice e) => cs = [.slice none 0 0] ∨ ∃ a len cap, cs = [.slice (some a) len cap] ∧ len ≤ cap ∧ cap ≤ maxLen ∧ ∀ i, i < len → ∃ cs', cs'.length = P.cellsOf e ∧ heldL (a.add (i * P.cellsOf e)) cs' 0 h ∧ Rok P h n e cs'
    | some (.struct fs) => cs.length = P.cellsOf t ∧ ∀ f ∈ fs.toList, Rok P h n f.type ((cs.drop f.offset).take (P.cellsOf f.type))
    | some (.array m e) => cs.length = P.cellsOf t ∧ ∀ i, i < m → Rok P h n e ((cs.drop (i * P.cellsOf e)).take (P.cellsOf e))
    | _ => True

theorem cells_held {w : World} {base : Nat} {a : Addr} {n : Nat} {cs : List Value} (h : w.cells? base a n = some cs) : cs.length = n ∧ heldL a cs 0 w.heap := by
  obtain ⟨_, hl, hc⟩ := World.cells?_some h
  refine ⟨hl, heldL_at.2 fun j v hj => ?_⟩
  have hjl : j < cs.length := (List.getElem?_eq_some_iff.1 hj).1
  have := hc j (by omega)
  rw [cell_eq, hj] at this
  rw [Nat.zero_add]; exact this

theorem mapM_some {α β : Type} {f : α → Option β} : ∀ {l : List α} {r : List β}, l.mapM f = some r → ∀ x ∈ l, ∃ y, f x = some y
  | [], _, _, x, hx => by cases hx
  | a :: l, r, h, x, hx => by
    rw [List.mapM_cons] at h
    cases ha : f a with
    | none => rw [ha] at h; simp at h
    | some y =>
      rw [ha] at h
      cases hl : l.mapM f with
      | none => rw [hl] at h; simp at h
      | some ys =>
        rcases List.mem_cons.1 hx with rfl | hx
        · exact ⟨y, ha⟩
        · exact mapM_some hl x hx

theorem rok_of_trod {H : Type} {enc : TypeId × Value → H} {P : Program} {w : World} {base : Nat} {spare : Nat → Bool} {held : Bool} :
    ∀ (fuel : Nat) (t : TypeId) (cs : List Value) (x : DataW H × List MemPlace), DataW.trod enc P w base spare held fuel t cs = some x → Rok P w.heap fuel t cs
  | 0, _, _, _, h => by simp [DataW.trod] at h
  | fuel + 1, t, cs, x, h => by
    unfold Rok
    cases hd : P.underlying t with
    | none => trivial
    | some d =>
      cases d <;> simp only <;> first | trivial | skip
      case bool => obtain ⟨b, hc, _⟩ := DataW.trod_bool hd h; exact ⟨b, hc⟩
      case int k => obtain ⟨n, hc, _, hw⟩ := DataW.trod_int hd h; exact ⟨n, hc, hw⟩
      case string => obtain ⟨s, hc, _, hw⟩ := DataW.trod_string hd h; exact ⟨s, hc, hw⟩
      case pointer e =>
        rcases DataW.trod_pointer hd h with ⟨hc, _⟩ | ⟨a, cs', y, n, hn, hc, _, hcell, hy⟩
        · exact .inl hc
        · obtain ⟨hl, hh⟩ := cells_held hcell
          obtain rfl : n = fuel := by omega
          exact .inr ⟨a, cs', hc, hl, hh, rok_of_trod n e cs' y hy⟩
      case slice e =>
        rcases DataW.trod_slice hd h with ⟨hc, _⟩ | ⟨a, len, cap, elems, rest, n, hn, hc, _, _, hl, hm, hlen, hel, _⟩
        · exact .inl hc
        · obtain rfl : n = fuel := by omega
          refine .inr ⟨a, len, cap, hc, hl, hm, fun i hi => ?_⟩
          have h1 := hel i hi
          rw [List.getElem?_eq_getElem (by omega)] at h1
          cases hcell : w.cells? base (a.add (i * P.cellsOf e)) (P.cellsOf e) with
          | none => rw [hcell] at h1; cases h1
          | some cs' =>
            rw [hcell] at h1
            obtain ⟨hl', hh⟩ := cells_held hcell
            exact ⟨cs', hl', hh, rok_of_trod n e cs' _ h1⟩
      case struct fs =>
        obtain ⟨xs, n, hn, _, hl, hxs, hf⟩ := DataW.trod_struct hd h
        obtain rfl : n = fuel := by omega
        refine ⟨hl, fun f hm => ?_⟩
        obtain ⟨i, hi⟩ := List.getElem?_of_mem hm
        have hi' : fs[i]? = some f := by simpa using hi
        have h1 := hf i f hi'
        have hlt : i < xs.length := by rw [hxs]; exact (Array.getElem?_eq_some_iff.1 hi').1
        rw [List.getElem?_eq_getElem hlt] at h1
        exact rok_of_trod n _ _ _ h1
      case array m e =>
        obtain ⟨xs, n, hn, _, hl, hxs, hf⟩ := DataW.trod_array hd h
        obtain rfl : n = fuel := by omega
        refine ⟨hl, fun i hi => ?_⟩
        have h1 := hf i hi
        rw [List.getElem?_eq_getElem (by omega)] at h1
        exact rok_of_trod n _ _ _ h1

/-- a value of type t -/
def RokV (P : Program) (h : Heap) (t : TypeId) (v : Value) : Prop := ∃ n, Rok P h n t v.cells.toList
theorem RokV.of {H : Type} {enc : TypeId × Value → H} {P : Program} {w : World} {base : Nat} {spare : Nat → Bool} {held : Bool} {t : TypeId} {v : Value} {d : DataW H} {ps : List MemPlace}
    (h : DataW.Trod enc P w base spare held t v d ps) : RokV P w.heap t v := by
  obtain ⟨n, hn⟩ := h
  exact ⟨n, rok_of_trod n _ _ _ hn⟩

theorem below_of {w w' : World} (hf : Fr (fun _ => False) w.heap w'.heap) (hs : Same w w') : Below w.heap.size w w' :=
  ⟨hs.1, hs.2.2, hs.2.1, hf.1, fun k hk => hf.2 k hk id⟩

/-- a law's call -/
def LawH (P : Program) (f : FuncId) (args : Array Value) (h : Heap) : Prop := CallsH P f args h (fun v h' => v = .bool true ∧ Fr (fun _ => False) h h')
theorem LawH.calls {P : Program} {f : FuncId} {args : Array Value} {w : World} (hl : LawH P f args w.heap) : Calls P f args w fun e w' => e = .returned (.bool true) ∧ Below w.heap.size w w' :=
  (hl w rfl).mono fun _ _ ⟨_, he, ⟨hv, hf⟩, hs⟩ => ⟨by rw [he, hv], below_of hf hs⟩

theorem wf_i64 {a : Int} (h : (Lit.int .i64 a).wf = true) : -9223372036854775808 ≤ a ∧ a ≤ 9223372036854775807 := by
  simpa [Lit.wf, IntKind.min, IntKind.max, IntKind.bits, IntKind.signed] using h
theorem wf_u64 {a : Int} (h : (Lit.int .u64 a).wf = true) : 0 ≤ a ∧ a ≤ 18446744073709551615 := by
  simpa [Lit.wf, IntKind.min, IntKind.max, IntKind.bits, IntKind.signed] using h
theorem wf_u8 {a : Int} (h : (Lit.int .u8 a).wf = true) : 0 ≤ a ∧ a ≤ 255 := by
  simpa [Lit.wf, IntKind.min, IntKind.max, IntKind.bits, IntKind.signed] using h

section
variable {P : Program} {h : Heap} {t : TypeId} {v : Value}
theorem RokV.int {k : IntKind} (ht : P.underlying t = some (.int k)) (hv : RokV P h t v) (hc : ∀ a, v.cells.toList = [.int k a] → v = .int k a) : ∃ a, v = .int k a ∧ (Lit.int k a).wf = true := by
  obtain ⟨n, hn⟩ := hv
  cases n with
  | zero => exact hn.elim
  | succ n =>
    unfold Rok at hn
    rw [ht] at hn
    obtain ⟨a, ha, hw⟩ := hn
    exact ⟨a, hc a ha, hw⟩
theorem heldL_append {h : Heap} {a : Addr} {cs ds : List Value} : heldL a (cs ++ ds) 0 h ↔ heldL a cs 0 h ∧ heldL (a.add cs.length) ds 0 h := by
  simp only [heldL_at, Nat.zero_add]
  constructor
  · intro hh
    refine ⟨fun j v hj => hh j v ?_, fun j v hj => ?_⟩
    · rw [List.getElem?_append_left (List.getElem?_eq_some_iff.1 hj).1]; exact hj
    · rw [add_add]
      refine hh _ v ?_
      rw [List.getElem?_append_right (by omega)]
      simpa using hj
  · rintro ⟨h1, h2⟩ j v hj
    by_cases hlt : j < cs.length
    · rw [List.getElem?_append_left hlt] at hj; exact h1 j v hj
    · rw [List.getElem?_append_right (by omega)] at hj
      have := h2 _ v hj
      rw [add_add] at this
      rwa [show cs.length + (j - cs.length) = j by omega] at this

theorem flat_len {α : Type} (enc : α → List Value) (sz : Nat) (henc : ∀ x, (enc x).length = sz) : ∀ xs : List α, (xs.flatMap enc).length = xs.length * sz
  | [] => by simp
  | x :: xs => by
    rw [List.flatMap_cons, List.length_append, henc, flat_len enc sz henc xs, List.length_cons, Nat.add_mul]; omega
theorem flat_at {α : Type} (enc : α → List Value) (sz : Nat) (henc : ∀ x, (enc x).length = sz) : ∀ (xs : List α) (i : Nat) (x : α), xs[i]? = some x → ∀ j v, (enc x)[j]? = some v → (xs.flatMap enc)[i * sz + j]? = some v
  | [], i, x, h, _, _, _ => by simp at h
  | y :: xs, 0, x, h, j, v, hj => by
    simp at h; subst h
    have hlt := (List.getElem?_eq_some_iff.1 hj).1
    rw [List.flatMap_cons, Nat.zero_mul, Nat.zero_add, List.getElem?_append_left hlt]; exact hj
  | y :: xs, i + 1, x, h, j, v, hj => by
    have := flat_at enc sz henc xs i x (by simpa using h) j v hj
    rw [List.flatMap_cons, List.getElem?_append_right (by rw [henc, Nat.add_mul]; omega), henc]
    rwa [show (i + 1) * sz + j - sz = i * sz + j by rw [Nat.add_mul]; omega]

/-- a slice's elements, read one by one -/
theorem RokV.slice {α : Type} {e : TypeId} {p : Option Addr} {len cap : Nat} (enc : α → List Value) (sz : Nat) (Q : α → Prop) (hsz : P.cellsOf e = sz) (henc : ∀ x, (enc x).length = sz)
    (hdec : ∀ n cs', cs'.length = sz → Rok P h n e cs' → ∃ x, cs' = enc x ∧ Q x) (ht : P.underlying t = some (.slice e)) (hv : RokV P h t (.slice p len cap)) :
    ∃ xs : List α, xs.length = len ∧ len ≤ cap ∧ cap ≤ maxLen ∧ Row h p (xs.flatMap enc) ∧ ∀ x ∈ xs, Q x := by
  obtain ⟨n, hn⟩ := hv
  cases n with
  | zero => exact hn.elim
  | succ n =>
    unfold Rok at hn
    rw [ht] at hn
    rcases hn with hc | ⟨a, len', cap', hc, hl, hm, hel⟩
    · simp [Value.cells] at hc
      obtain ⟨rfl, rfl, rfl⟩ := hc
      exact ⟨[], rfl, Nat.le_refl _, Nat.zero_le _, .inl rfl, fun _ hx => by cases hx⟩
    · simp [Value.cells] at hc
      obtain ⟨rfl, rfl, rfl⟩ := hc
      have key : ∀ k, k ≤ len → ∃ xs : List α, xs.length = k ∧ heldL a (xs.flatMap enc) 0 h ∧ ∀ x ∈ xs, Q x := by
        intro k
        induction k with
        | zero => intro _; exact ⟨[], rfl, trivial, fun _ hx => by cases hx⟩
        | succ k ih =>
          intro hk
          obtain ⟨xs, hx1, hx2, hx3⟩ := ih (by omega)
          obtain ⟨cs', h1, h2, h3⟩ := hel k (by omega)
          obtain ⟨x, rfl, hq⟩ := hdec n cs' (by rw [h1, hsz]) h3
          refine ⟨xs ++ [x], by simp [hx1], ?_, ?_⟩
          · rw [List.flatMap_append, heldL_append]
            refine ⟨hx2, ?_⟩
            rw [flat_len enc sz henc, hx1, ← hsz]
            simpa using h2
          · intro y hy
            rcases List.mem_append.1 hy with hy | hy
            · exact hx3 y hy
            · simp at hy; subst hy; exact hq
      obtain ⟨xs, hx1, hx2, hx3⟩ := key len (Nat.le_refl _)
      exact ⟨xs, hx1, hl, hm, .inr ⟨a, rfl, hx2⟩, hx3⟩

theorem Rok.int {k : IntKind} {n : Nat} {cs : List Value} (ht : P.underlying t = some (.int k)) (hr : Rok P h n t cs) : ∃ a, cs = [.int k a] ∧ (Lit.int k a).wf = true := by
  cases n with
  | zero => exact hr.elim
  | succ n => unfold Rok at hr; rw [ht] at hr; exact hr
theorem Rok.bool {n : Nat} {cs : List Value} (ht : P.underlying t = some .bool) (hr : Rok P h n t cs) : ∃ b, cs = [.bool b] := by
  cases n with
  | zero => exact hr.elim
  | succ n => unfold Rok at hr; rw [ht] at hr; exact hr
theorem Rok.struct {fs : Array Field} {n : Nat} {cs : List Value} (ht : P.underlying t = some (.struct fs)) (hr : Rok P h n t cs) : ∃ m, ∀ f ∈ fs.toList, Rok P h m f.type ((cs.drop f.offset).take (P.cellsOf f.type)) := by
  cases n with
  | zero => exact hr.elim
  | succ n => unfold Rok at hr; rw [ht] at hr; exact ⟨n, hr.2⟩
end

/-! ### a struct's cells, leaf by leaf -/
def tlFields (P : Program) (r : TypeId → Option (List TypeId)) : List Field → Nat → Option (List TypeId)
  | [], _ => some []
  | f :: fs, off => (match Nat.beq f.offset off, r f.type with
    | true, some ts => (match Nat.beq ts.length (P.cellsOf f.type), tlFields P r fs (off + ts.length) with
      | true, some us => some (ts ++ us)
      | _, _ => none)
    | _, _ => none)
def tleaves (P : Program) : Nat → TypeId → Option (List TypeId)
  | 0, _ => none
  | n + 1, t => (match P.underlying t with
    | some (.struct fs) => tlFields P (tleaves P n) fs.toList 0
    | some (.array _ _) => none
    | _ => some [t])
def Leaves (P : Program) (h : Heap) (ts : List TypeId) (cs : List Value) : Prop := ∀ (i : Nat) (ti : TypeId), ts[i]? = some ti → ∃ v m, cs[i]? = some v ∧ Rok P h m ti [v]
theorem Leaves.append {P : Program} {h : Heap} {ts us : List TypeId} {cs : List Value} (h1 : Leaves P h ts (cs.take ts.length)) (h2 : Leaves P h us (cs.drop ts.length)) : Leaves P h (ts ++ us) cs := by
  intro i ti hi
  by_cases hlt : i < ts.length
  · rw [List.getElem?_append_left hlt] at hi
    obtain ⟨v, m, hv, hr⟩ := h1 i ti hi
    rw [List.getElem?_take, if_pos hlt] at hv
    exact ⟨v, m, hv, hr⟩
  · rw [List.getElem?_append_right (by omega)] at hi
    obtain ⟨v, m, hv, hr⟩ := h2 _ ti hi
    rw [List.getElem?_drop] at hv
    exact ⟨v, m, by rwa [show ts.length + (i - ts.length) = i by omega] at hv, hr⟩
theorem tlFields_ok {P : Program} {h : Heap} {r : TypeId → Option (List TypeId)} {n : Nat}
    (hr : ∀ t ts cs, r t = some ts → cs.length = ts.length → Rok P h n t cs → Leaves P h ts cs) :
    ∀ (fs : List Field) (off : Nat) (us : List TypeId) (cs : List Value), tlFields P r fs off = some us → off + us.length ≤ cs.length → (∀ f ∈ fs, Rok P h n f.type ((cs.drop f.offset).take (P.cellsOf f.type))) →
      Leaves P h us (cs.drop off)
  | [], off, us, cs, hu, _, _ => by simp only [tlFields, Option.some.injEq] at hu; subst hu; intro i ti hi; simp at hi
  | f :: fs, off, us, cs, hu, hlen, hf => by
    simp only [tlFields] at hu
    split at hu
    · rename_i ts hoff hts
      split at hu
      · rename_i us' hl hus
        simp only [Option.some.injEq] at hu
        subst hu
        have hoff := Nat.eq_of_beq_eq_true hoff
        have hl := Nat.eq_of_beq_eq_true hl
        rw [List.length_append] at hlen
        have h1 := hf f List.mem_cons_self
        rw [hoff, ← hl] at h1
        refine Leaves.append (hr _ _ _ hts (by simp; omega) h1) ?_
        rw [List.drop_drop]
        exact tlFields_ok hr fs _ us' cs hus (by omega) (fun f' hm => hf f' (List.mem_cons_of_mem _ hm))
      · cases hu
    · cases hu
theorem tleaves_ok {P : Program} {h : Heap} : ∀ (d n : Nat) (t : TypeId) (ts : List TypeId) (cs : List Value), tleaves P d t = some ts → cs.length = ts.length → Rok P h n t cs → Leaves P h ts cs
  | 0, _, _, _, _, ht, _, _ => by simp [tleaves] at ht
  | d + 1, n, t, ts, cs, ht, hl, hr => by
    simp only [tleaves] at ht
    cases n with
    | zero => exact hr.elim
    | succ n =>
      split at ht
      · rename_i fs hfs
        unfold Rok at hr
        rw [hfs] at hr
        have := tlFields_ok (fun t ts cs h1 h2 h3 => tleaves_ok d n t ts cs h1 h2 h3) fs.toList 0 ts cs ht (by omega) hr.2
        simpa using this
      · cases ht
      · simp only [Option.some.injEq] at ht
        subst ht
        intro i ti hi
        match cs, hl with
        | [v], _ =>
          cases i with
          | zero => simp at hi; subst hi; exact ⟨v, n + 1, rfl, hr⟩
          | succ i => simp at hi
theorem Leaves.get {P : Program} {h : Heap} {ts : List TypeId} {cs : List Value} (hl : Leaves P h ts cs) (i : Nat) {ti : TypeId} {v : Value} (hi : ts[i]? = some ti) (hv : cs[i]? = some v) : ∃ m, Rok P h m ti [v] := by
  obtain ⟨u, m, hu, hr⟩ := hl i ti hi
  rw [hu] at hv; cases hv
  exact ⟨m, hr⟩
theorem Leaves.int {P : Program} {h : Heap} {ts : List TypeId} {cs : List Value} (hl : Leaves P h ts cs) (i : Nat) {ti : TypeId} {v : Value} {k : IntKind} (hi : ts[i]? = some ti) (hv : cs[i]? = some v) (ht : P.underlying ti = some (.int k)) : ∃ a, v = .int k a ∧ (Lit.int k a).wf = true := by
  obtain ⟨m, hr⟩ := hl.get i hi hv
  obtain ⟨a, ha, hw⟩ := Rok.int ht hr
  exact ⟨a, by simpa using ha, hw⟩
theorem Leaves.bool {P : Program} {h : Heap} {ts : List TypeId} {cs : List Value} (hl : Leaves P h ts cs) (i : Nat) {ti : TypeId} {v : Value} (hi : ts[i]? = some ti) (hv : cs[i]? = some v) (ht : P.underlying ti = some .bool) : ∃ b, v = .bool b := by
  obtain ⟨m, hr⟩ := hl.get i hi hv
  obtain ⟨a, ha⟩ := Rok.bool ht hr
  exact ⟨a, by simpa using ha⟩

theorem JoinP.of {α : Type} {F : α} {B : α → Prop} (h : ∀ J, J = F → B J) : JoinP F B := h F rfl
/-- a slice of whole numbers -/
theorem RokV.ints {P : Program} {h : Heap} {t e : TypeId} {k : IntKind} {p : Option Addr} {len cap : Nat} (he : P.cellsOf e = 1) (hk : P.underlying e = some (.int k)) (ht : P.underlying t = some (.slice e)) (hv : RokV P h t (.slice p len cap)) :
    ∃ xs : List Int, xs.length = len ∧ Row h p (xs.map (.int k ·)) ∧ ∀ x ∈ xs, (Lit.int k x).wf = true := by
  obtain ⟨xs, h1, _, _, h2, h3⟩ := RokV.slice (e := e) (fun x : Int => [Value.int k x]) 1 (fun x => (Lit.int k x).wf = true) he (fun _ => rfl) (fun n cs' _ hr => Rok.int hk hr) ht hv
  refine ⟨xs, h1, ?_, h3⟩
  have : xs.flatMap (fun x : Int => [Value.int k x]) = xs.map (.int k ·) := by
    clear h1 h2 h3
    induction xs with
    | nil => rfl
    | cons x xs ih => rw [List.flatMap_cons, ih]; rfl
  rwa [this] at h2
theorem row_int_at {h : Heap} {p : Option Addr} {k : IntKind} {xs : List Int} (hr : Row h p (xs.map (.int k ·))) {i : Nat} (hi : i < xs.length) : ∃ a, p = some a ∧ hcell h (a.add (i * 1)) = some (.int k (xs.getD i 0)) := by
  have hc : (xs.map (Value.int k ·))[i]? = some (.int k (xs.getD i 0)) := by simp [hi]
  obtain ⟨a, rfl⟩ := hr.some (fun e => by rw [e] at hc; simp at hc)
  exact ⟨a, rfl, by rw [Nat.mul_one]; exact hr.cell hc⟩
theorem wf_u16 {a : Int} (h : (Lit.int .u16 a).wf = true) : 0 ≤ a ∧ a ≤ 65535 := by
  simpa [Lit.wf, IntKind.min, IntKind.max, IntKind.bits, IntKind.signed] using h
theorem getD_mem {xs : List Int} {i : Nat} (hi : i < xs.length) : xs.getD i 0 ∈ xs := by
  rw [List.getD_eq_getElem?_getD, List.getElem?_eq_getElem hi]; exact List.getElem_mem hi
end Go.Den
