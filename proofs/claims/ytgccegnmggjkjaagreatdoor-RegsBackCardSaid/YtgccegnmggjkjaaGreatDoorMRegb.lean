/-
  What is proved here: the parts named below, one behind the other (texts of this work, merged by a program). No condition.
-/
import Derived.ProofKit
import Derived.ChangeOld
import Derived.Below
import Derived.Carry
import Derived.OpenShut
import Derived.Test.YtgccegnmggjkjaaGreatDoorProg
import Derived.Test.YtgccegnmggjkjaaGreatDoorMRega

/-
  What is proved here: what a reading of an argument says of the heap ('Rok'); how a law's call on heaps becomes the row's own. No condition.
-/
namespace Go.Den
open Go.RowKit

/-- cs are the cells of a value of type t, and what it leads to lies in h -/
def Rok (P : Program) (h : Heap) : Nat → TypeId → List Value → Prop
  | 0, _, _ => False
  | n + 1, t, cs =>
    match P.underlying t with
    | some .bool => ∃ b, cs = [.bool b]
    | some (.int k) => ∃ a, cs = [.int k a] ∧ (Lit.int k a).wf = true
    | some .string => ∃ s, cs = [.string s] ∧ s.size ≤ maxLen
    | some (.pointer e) => cs = [.pointer none] ∨ ∃ a cs', cs = [.pointer (some a)] ∧ cs'.length = P.cellsOf e ∧ heldL a cs' 0 h ∧ Rok P h n e cs'
    | some (.slice e) => cs = [.slice none 0 0] ∨ ∃ a len cap, cs = [.slice (some a) len cap] ∧ len ≤ cap ∧ cap ≤ maxLen ∧ ∀ i, i < len → ∃ cs', cs'.length = P.cellsOf e ∧ heldL (a.add (i * P.cellsOf e)) cs' 0 h ∧ Rok P h n e cs'
    | some (.struct fs) => cs.length = P.cellsOf t ∧ ∀ f ∈ fs.toList, Rok P h n f.type ((cs.drop f.offset).take (P.cellsOf f.type))
    | some (.array m e) => cs.length = P.cellsOf t ∧ ∀ i, i < m → Rok P h n e ((cs.drop (i * P.cellsOf e)).take (P.cellsOf e))
    | _ => True

theorem cells_held {w : World} {base : Nat} {a : Addr} {n : Nat} {cs : List Value} (h : w.cells? base a n = some cs) : cs.length = n ∧ heldL a cs 0 w.heap := by
  obtain ⟨_, hl, hc⟩ := World.cells?_some h
  refine ⟨hl, heldL_at.2 fun j v hj => ?_⟩
  have hjl : j < cs.length := (List.getElem?_eq_some_iff.1 hj).1
  have := hc j (by omega)
  rw [cell_eq, hj] at this
  rw [Nat.zero_add]; exact this

theorem mapM_some {α β : Type} {f : α → Option β} : ∀ {l : List α} {r : List β}, l.mapM f = some r → ∀ x ∈ l, ∃ y, f x = some y
  | [], _, _, x, hx => by cases hx
  | a :: l, r, h, x, hx => by
    rw [List.mapM_cons] at h
    cases ha : f a with
    | none => rw [ha] at h; simp at h
    | some y =>
      rw [ha] at h
      cases hl : l.mapM f with
      | none => rw [hl] at h; simp at h
      | some ys =>
        rcases List.mem_cons.1 hx with rfl | hx
        · exact ⟨y, ha⟩
        · exact mapM_some hl x hx

theorem rok_of_trod {H : Type} {enc : TypeId × Value → H} {P : Program} {w : World} {base : Nat} {spare : Nat → Bool} {held : Bool} :
    ∀ (fuel : Nat) (t : TypeId) (cs : List Value) (x : DataW H × List MemPlace), DataW.trod enc P w base spare held fuel t cs = some x → Rok P w.heap fuel t cs
  | 0, _, _, _, h => by simp [DataW.trod] at h
  | fuel + 1, t, cs, x, h => by
    unfold Rok
    cases hd : P.underlying t with
    | none => trivial
    | some d =>
      cases d <;> simp only <;> first | trivial | skip
      case bool => obtain ⟨b, hc, _⟩ := DataW.trod_bool hd h; exact ⟨b, hc⟩
      case int k => obtain ⟨n, hc, _, hw⟩ := DataW.trod_int hd h; exact ⟨n, hc, hw⟩
      case string => obtain ⟨s, hc, _, hw⟩ := DataW.trod_string hd h; exact ⟨s, hc, hw⟩
      case pointer e =>
        rcases DataW.trod_pointer hd h with ⟨hc, _⟩ | ⟨a, cs', y, n, hn, hc, _, hcell, hy⟩
        · exact .inl hc
        · obtain ⟨hl, hh⟩ := cells_held hcell
          obtain rfl : n = fuel := by omega
          exact .inr ⟨a, cs', hc, hl, hh, rok_of_trod n e cs' y hy⟩
      case slice e =>
        rcases DataW.trod_slice hd h with ⟨hc, _⟩ | ⟨a, len, cap, elems, rest, n, hn, hc, _, _, hl, hm, hlen, hel, _⟩
        · exact .inl hc
        · obtain rfl : n = fuel := by omega
          refine .inr ⟨a, len, cap, hc, hl, hm, fun i hi => ?_⟩
          have h1 := hel i hi
          rw [List.getElem?_eq_getElem (by omega)] at h1
          cases hcell : w.cells? base (a.add (i * P.cellsOf e)) (P.cellsOf e) with
          | none => rw [hcell] at h1; cases h1
          | some cs' =>
            rw [hcell] at h1
            obtain ⟨hl', hh⟩ := cells_held hcell
            exact ⟨cs', hl', hh, rok_of_trod n e cs' _ h1⟩
      case struct fs =>
        obtain ⟨xs, n, hn, _, hl, hxs, hf⟩ := DataW.trod_struct hd h
        obtain rfl : n = fuel := by omega
        refine ⟨hl, fun f hm => ?_⟩
        obtain ⟨i, hi⟩ := List.getElem?_of_mem hm
        have hi' : fs[i]? = some f := by simpa using hi
        have h1 := hf i f hi'
        have hlt : i < xs.length := by rw [hxs]; exact (Array.getElem?_eq_some_iff.1 hi').1
        rw [List.getElem?_eq_getElem hlt] at h1
        exact rok_of_trod n _ _ _ h1
      case array m e =>
        obtain ⟨xs, n, hn, _, hl, hxs, hf⟩ := DataW.trod_array hd h
        obtain rfl : n = fuel := by omega
        refine ⟨hl, fun i hi => ?_⟩
        have h1 := hf i hi
        rw [List.getElem?_eq_getElem (by omega)] at h1
        exact rok_of_trod n _ _ _ h1

/-- a value of type t -/
def RokV (P : Program) (h : Heap) (t : TypeId) (v : Value) : Prop := ∃ n, Rok P h n t v.cells.toList
theorem RokV.of {H : Type} {enc : TypeId × Value → H} {P : Program} {w : World} {base : Nat} {spare : Nat → Bool} {held : Bool} {t : TypeId} {v : Value} {d : DataW H} {ps : List MemPlace}
    (h : DataW.Trod enc P w base spare held t v d ps) : RokV P w.heap t v := by
  obtain ⟨n, hn⟩ := h
  exact ⟨n, rok_of_trod n _ _ _ hn⟩

theorem below_of {w w' : World} (hf : Fr (fun _ => False) w.heap w'.heap) (hs : Same w w') : Below w.heap.size w w' :=
  ⟨hs.1, hs.2.2, hs.2.1, hf.1, fun k hk => hf.2 k hk id⟩

/-- a law's call -/
def LawH (P : Program) (f : FuncId) (args : Array Value) (h : Heap) : Prop := CallsH P f args h (fun v h' => v = .bool true ∧ Fr (fun _ => False) h h')
theorem LawH.calls {P : Program} {f : FuncId} {args : Array Value} {w : World} (hl : LawH P f args w.heap) : Calls P f args w fun e w' => e = .returned (.bool true) ∧ Below w.heap.size w w' :=
  (hl w rfl).mono fun _ _ ⟨_, he, ⟨hv, hf⟩, hs⟩ => ⟨by rw [he, hv], below_of hf hs⟩

theorem wf_i64 {a : Int} (h : (Lit.int .i64 a).wf = true) : -9223372036854775808 ≤ a ∧ a ≤ 9223372036854775807 := by
  simpa [Lit.wf, IntKind.min, IntKind.max, IntKind.bits, IntKind.signed] using h
theorem wf_u64 {a : Int} (h : (Lit.int .u64 a).wf = true) : 0 ≤ a ∧ a ≤ 18446744073709551615 := by
  simpa [Lit.wf, IntKind.min, IntKind.max, IntKind.bits, IntKind.signed] using h
theorem wf_u8 {a : Int} (h : (Lit.int .u8 a).wf = true) : 0 ≤ a ∧ a ≤ 255 := by
  simpa [Lit.wf, IntKind.min, IntKind.max, IntKind.bits, IntKind.signed] using h

section
variable {P : Program} {h : Heap} {t : TypeId} {v : Value}
theorem RokV.int {k : IntKind} (ht : P.underlying t = some (.int k)) (hv : RokV P h t v) (hc : ∀ a, v.cells.toList = [.int k a] → v = .int k a) : ∃ a, v = .int k a ∧ (Lit.int k a).wf = true := by
  obtain ⟨n, hn⟩ := hv
  cases n with
  | zero => exact hn.elim
  | succ n =>
    unfold Rok at hn
    rw [ht] at hn
    obtain ⟨a, ha, hw⟩ := hn
    exact ⟨a, hc a ha, hw⟩
theorem heldL_append {h : Heap} {a : Addr} {cs ds : List Value} : heldL a (cs ++ ds) 0 h ↔ heldL a cs 0 h ∧ heldL (a.add cs.length) ds 0 h := by
  simp only [heldL_at, Nat.zero_add]
  constructor
  · intro hh
    refine ⟨fun j v hj => hh j v ?_, fun j v hj => ?_⟩
    · rw [List.getElem?_append_left (List.getElem?_eq_some_iff.1 hj).1]; exact hj
    · rw [add_add]
      refine hh _ v ?_
      rw [List.getElem?_append_right (by omega)]
      simpa using hj
  · rintro ⟨h1, h2⟩ j v hj
    by_cases hlt : j < cs.length
    · rw [List.getElem?_append_left hlt] at hj; exact h1 j v hj
    · rw [List.getElem?_append_right (by omega)] at hj
      have := h2 _ v hj
      rw [add_add] at this
      rwa [show cs.length + (j - cs.length) = j by omega] at this

theorem flat_len {α : Type} (enc : α → List Value) (sz : Nat) (henc : ∀ x, (enc x).length = sz) : ∀ xs : List α, (xs.flatMap enc).length = xs.length * sz
  | [] => by simp
  | x :: xs => by
    rw [List.flatMap_cons, List.length_append, henc, flat_len enc sz henc xs, List.length_cons, Nat.add_mul]; omega
theorem flat_at {α : Type} (enc : α → List Value) (sz : Nat) (henc : ∀ x, (enc x).length = sz) : ∀ (xs : List α) (i : Nat) (x : α), xs[i]? = some x → ∀ j v, (enc x)[j]? = some v → (xs.flatMap enc)[i * sz + j]? = some v
  | [], i, x, h, _, _, _ => by simp at h
  | y :: xs, 0, x, h, j, v, hj => by
    simp at h; subst h
    have hlt := (List.getElem?_eq_some_iff.1 hj).1
    rw [List.flatMap_cons, Nat.zero_mul, Nat.zero_add, List.getElem?_append_left hlt]; exact hj
  | y :: xs, i + 1, x, h, j, v, hj => by
    have := flat_at enc sz henc xs i x (by simpa using h) j v hj
    rw [List.flatMap_cons, List.getElem?_append_right (by rw [henc, Nat.add_mul]; omega), henc]
    rwa [show (i + 1) * sz + j - sz = i * sz + j by rw [Nat.add_mul]; omega]

/-- a slice's elements, read one by one -/
theorem RokV.slice {α : Type} {e : TypeId} {p : Option Addr} {len cap : Nat} (enc : α → List Value) (sz : Nat) (Q : α → Prop) (hsz : P.cellsOf e = sz) (henc : ∀ x, (enc x).length = sz)
    (hdec : ∀ n cs', cs'.length = sz → Rok P h n e cs' → ∃ x, cs' = enc x ∧ Q x) (ht : P.underlying t = some (.slice e)) (hv : RokV P h t (.slice p len cap)) :
    ∃ xs : List α, xs.length = len ∧ len ≤ cap ∧ cap ≤ maxLen ∧ Row h p (xs.flatMap enc) ∧ ∀ x ∈ xs, Q x := by
  obtain ⟨n, hn⟩ := hv
  cases n with
  | zero => exact hn.elim
  | succ n =>
    unfold Rok at hn
    rw [ht] at hn
    rcases hn with hc | ⟨a, len', cap', hc, hl, hm, hel⟩
    · simp [Value.cells] at hc
      obtain ⟨rfl, rfl, rfl⟩ := hc
      exact ⟨[], rfl, Nat.le_refl _, Nat.zero_le _, .inl rfl, fun _ hx => by cases hx⟩
    · simp [Value.cells] at hc
      obtain ⟨rfl, rfl, rfl⟩ := hc
      have key : ∀ k, k ≤ len → ∃ xs : List α, xs.length = k ∧ heldL a (xs.flatMap enc) 0 h ∧ ∀ x ∈ xs, Q x := by
        intro k
        induction k with
        | zero => intro _; exact ⟨[], rfl, trivial, fun _ hx => by cases hx⟩
        | succ k ih =>
          intro hk
          obtain ⟨xs, hx1, hx2, hx3⟩ := ih (by omega)
          obtain ⟨cs', h1, h2, h3⟩ := hel k (by omega)
          obtain ⟨x, rfl, hq⟩ := hdec n cs' (by rw [h1, hsz]) h3
          refine ⟨xs ++ [x], by simp [hx1], ?_, ?_⟩
          · rw [List.flatMap_append, heldL_append]
            refine ⟨hx2, ?_⟩
            rw [flat_len enc sz henc, hx1, ← hsz]
            simpa using h2
          · intro y hy
            rcases List.mem_append.1 hy with hy | hy
            · exact hx3 y hy
            · simp at hy; subst hy; exact hq
      obtain ⟨xs, hx1, hx2, hx3⟩ := key len (Nat.le_refl _)
      exact ⟨xs, hx1, hl, hm, .inr ⟨a, rfl, hx2⟩, hx3⟩

theorem Rok.int {k : IntKind} {n : Nat} {cs : List Value} (ht : P.underlying t = some (.int k)) (hr : Rok P h n t cs) : ∃ a, cs = [.int k a] ∧ (Lit.int k a).wf = true := by
  cases n with
  | zero => exact hr.elim
  | succ n => unfold Rok at hr; rw [ht] at hr; exact hr
theorem Rok.bool {n : Nat} {cs : List Value} (ht : P.underlying t = some .bool) (hr : Rok P h n t cs) : ∃ b, cs = [.bool b] := by
  cases n with
  | zero => exact hr.elim
  | succ n => unfold Rok at hr; rw [ht] at hr; exact hr
theorem Rok.struct {fs : Array Field} {n : Nat} {cs : List Value} (ht : P.underlying t = some (.struct fs)) (hr : Rok P h n t cs) : ∃ m, ∀ f ∈ fs.toList, Rok P h m f.type ((cs.drop f.offset).take (P.cellsOf f.type)) := by
  cases n with
  | zero => exact hr.elim
  | succ n => unfold Rok at hr; rw [ht] at hr; exact ⟨n, hr.2⟩
end

/-! ### a struct's cells, leaf by leaf -/
def tlFields (P : Program) (r : TypeId → Option (List TypeId)) : List Field → Nat → Option (List TypeId)
  | [], _ => some []
  | f :: fs, off => (match Nat.beq f.offset off, r f.type with
    | true, some ts => (match Nat.beq ts.length (P.cellsOf f.type), tlFields P r fs (off + ts.length) with
      | true, some us => some (ts ++ us)
      | _, _ => none)
    | _, _ => none)
def tleaves (P : Program) : Nat → TypeId → Option (List TypeId)
  | 0, _ => none
  | n + 1, t => (match P.underlying t with
    | some (.struct fs) => tlFields P (tleaves P n) fs.toList 0
    | some (.array _ _) => none
    | _ => some [t])
def Leaves (P : Program) (h : Heap) (ts : List TypeId) (cs : List Value) : Prop := ∀ (i : Nat) (ti : TypeId), ts[i]? = some ti → ∃ v m, cs[i]? = some v ∧ Rok P h m ti [v]
theorem Leaves.append {P : Program} {h : Heap} {ts us : List TypeId} {cs : List Value} (h1 : Leaves P h ts (cs.take ts.length)) (h2 : Leaves P h us (cs.drop ts.length)) : Leaves P h (ts ++ us) cs := by
  intro i ti hi
  by_cases hlt : i < ts.length
  · rw [List.getElem?_append_left hlt] at hi
    obtain ⟨v, m, hv, hr⟩ := h1 i ti hi
    rw [List.getElem?_take, if_pos hlt] at hv
    exact ⟨v, m, hv, hr⟩
  · rw [List.getElem?_append_right (by omega)] at hi
    obtain ⟨v, m, hv, hr⟩ := h2 _ ti hi
    rw [List.getElem?_drop] at hv
    exact ⟨v, m, by rwa [show ts.length + (i - ts.length) = i by omega] at hv, hr⟩
theorem tlFields_ok {P : Program} {h : Heap} {r : TypeId → Option (List TypeId)} {n : Nat}
    (hr : ∀ t ts cs, r t = some ts → cs.length = ts.length → Rok P h n t cs → Leaves P h ts cs) :
    ∀ (fs : List Field) (off : Nat) (us : List TypeId) (cs : List Value), tlFields P r fs off = some us → off + us.length ≤ cs.length → (∀ f ∈ fs, Rok P h n f.type ((cs.drop f.offset).take (P.cellsOf f.type))) →
      Leaves P h us (cs.drop off)
  | [], off, us, cs, hu, _, _ => by simp only [tlFields, Option.some.injEq] at hu; subst hu; intro i ti hi; simp at hi
  | f :: fs, off, us, cs, hu, hlen, hf => by
    simp only [tlFields] at hu
    split at hu
    · rename_i ts hoff hts
      split at hu
      · rename_i us' hl hus
        simp only [Option.some.injEq] at hu
        subst hu
        have hoff := Nat.eq_of_beq_eq_true hoff
        have hl := Nat.eq_of_beq_eq_true hl
        rw [List.length_append] at hlen
        have h1 := hf f List.mem_cons_self
        rw [hoff, ← hl] at h1
        refine Leaves.append (hr _ _ _ hts (by simp; omega) h1) ?_
        rw [List.drop_drop]
        exact tlFields_ok hr fs _ us' cs hus (by omega) (fun f' hm => hf f' (List.mem_cons_of_mem _ hm))
      · cases hu
    · cases hu
theorem tleaves_ok {P : Program} {h : Heap} : ∀ (d n : Nat) (t : TypeId) (ts : List TypeId) (cs : List Value), tleaves P d t = some ts → cs.length = ts.length → Rok P h n t cs → Leaves P h ts cs
  | 0, _, _, _, _, ht, _, _ => by simp [tleaves] at ht
  | d + 1, n, t, ts, cs, ht, hl, hr => by
    simp only [tleaves] at ht
    cases n with
    | zero => exact hr.elim
    | succ n =>
      split at ht
      · rename_i fs hfs
        unfold Rok at hr
        rw [hfs] at hr
        have := tlFields_ok (fun t ts cs h1 h2 h3 => tleaves_ok d n t ts cs h1 h2 h3) fs.toList 0 ts cs ht (by omega) hr.2
        simpa using this
      · cases ht
      · simp only [Option.some.injEq] at ht
        subst ht
        intro i ti hi
        match cs, hl with
        | [v], _ =>
          cases i with
          | zero => simp at hi; subst hi; exact ⟨v, n + 1, rfl, hr⟩
          | succ i => simp at hi
theorem Leaves.get {P : Program} {h : Heap} {ts : List TypeId} {cs : List Value} (hl : Leaves P h ts cs) (i : Nat) {ti : TypeId} {v : Value} (hi : ts[i]? = some ti) (hv : cs[i]? = some v) : ∃ m, Rok P h m ti [v] := by
  obtain ⟨u, m, hu, hr⟩ := hl i ti hi
  rw [hu] at hv; cases hv
  exact ⟨m, hr⟩
theorem Leaves.int {P : Program} {h : Heap} {ts : List TypeId} {cs : List Value} (hl : Leaves P h ts cs) (i : Nat) {ti : TypeId} {v : Value} {k : IntKind} (hi : ts[i]? = some ti) (hv : cs[i]? = some v) (ht : P.underlying ti = some (.int k)) : ∃ a, v = .int k a ∧ (Lit.int k a).wf = true := by
  obtain ⟨m, hr⟩ := hl.get i hi hv
  obtain ⟨a, ha, hw⟩ := Rok.int ht hr
  exact ⟨a, by simpa using ha, hw⟩
theorem Leaves.bool {P : Program} {h : Heap} {ts : List TypeId} {cs : List Value} (hl : Leaves P h ts cs) (i : Nat) {ti : TypeId} {v : Value} (hi : ts[i]? = some ti) (hv : cs[i]? = some v) (ht : P.underlying ti = some .bool) : ∃ b, v = .bool b := by
  obtain ⟨m, hr⟩ := hl.get i hi hv
  obtain ⟨a, ha⟩ := Rok.bool ht hr
  exact ⟨a, by simpa using ha⟩

theorem JoinP.of {α : Type} {F : α} {B : α → Prop} (h : ∀ J, J = F → B J) : JoinP F B := h F rfl
/-- a slice of whole numbers -/
theorem RokV.ints {P : Program} {h : Heap} {t e : TypeId} {k : IntKind} {p : Option Addr} {len cap : Nat} (he : P.cellsOf e = 1) (hk : P.underlying e = some (.int k)) (ht : P.underlying t = some (.slice e)) (hv : RokV P h t (.slice p len cap)) :
    ∃ xs : List Int, xs.length = len ∧ Row h p (xs.map (.int k ·)) ∧ ∀ x ∈ xs, (Lit.int k x).wf = true := by
  obtain ⟨xs, h1, _, _, h2, h3⟩ := RokV.slice (e := e) (fun x : Int => [Value.int k x]) 1 (fun x => (Lit.int k x).wf = true) he (fun _ => rfl) (fun n cs' _ hr => Rok.int hk hr) ht hv
  refine ⟨xs, h1, ?_, h3⟩
  have : xs.flatMap (fun x : Int => [Value.int k x]) = xs.map (.int k ·) := by
    clear h1 h2 h3
    induction xs with
    | nil => rfl
    | cons x xs ih => rw [List.flatMap_cons, ih]; rfl
  rwa [this] at h2
theorem row_int_at {h : Heap} {p : Option Addr} {k : IntKind} {xs : List Int} (hr : Row h p (xs.map (.int k ·))) {i : Nat} (hi : i < xs.length) : ∃ a, p = some a ∧ hcell h (a.add (i * 1)) = some (.int k (xs.getD i 0)) := by
  have hc : (xs.map (Value.int k ·))[i]? = some (.int k (xs.getD i 0)) := by simp [hi]
  obtain ⟨a, rfl⟩ := hr.some (fun e => by rw [e] at hc; simp at hc)
  exact ⟨a, rfl, by rw [Nat.mul_one]; exact hr.cell hc⟩
theorem wf_u16 {a : Int} (h : (Lit.int .u16 a).wf = true) : 0 ≤ a ∧ a ≤ 65535 := by
  simpa [Lit.wf, IntKind.min, IntKind.max, IntKind.bits, IntKind.signed] using h
theorem getD_mem {xs : List Int} {i : Nat} (hi : i < xs.length) : xs.getD i 0 ∈ xs := by
  rw [List.getD_eq_getElem?_getD, List.getElem?_eq_getElem hi]; exact List.getElem_mem hi
end Go.Den

/-
  What is proved here: bytes in memory, bytes as strings, bits of numbers. No program in sight, but for the model's own operations. No condition.
-/
namespace Go.Den

/-- bytes as cells -/
def bc (bs : List UInt8) : List Value := bs.map fun b => .int .u8 (b.toNat : Int)
theorem bc_len (bs : List UInt8) : (bc bs).length = bs.length := by simp [bc]
theorem bc_append (bs cs : List UInt8) : bc (bs ++ cs) = bc bs ++ bc cs := by simp [bc]
theorem bc_take (bs : List UInt8) (n : Nat) : (bc bs).take n = bc (bs.take n) := by simp [bc, List.map_take]
theorem bc_drop (bs : List UInt8) (n : Nat) : (bc bs).drop n = bc (bs.drop n) := by simp [bc, List.map_drop]
theorem bc_one (bs : List UInt8) : ∀ v ∈ bc bs, oneCell v = true := by
  intro v hv
  simp only [bc, List.mem_map] at hv
  obtain ⟨b, _, rfl⟩ := hv
  rfl
theorem bc_at {bs : List UInt8} {i : Nat} {b : UInt8} (h : bs[i]? = some b) : (bc bs)[i]? = some (.int .u8 (b.toNat : Int)) := by simp [bc, h]

/-- bytes as a string -/
def str (bs : List UInt8) : ByteArray := ⟨bs.toArray⟩
theorem toList_loop (b : ByteArray) : ∀ (k i : Nat) (r : List UInt8), b.size - i = k → i ≤ b.size → ByteArray.toList.loop b i r = r.reverse ++ b.data.toList.drop i
  | 0, i, r, hk, hi => by
    have : i = b.size := by omega
    unfold ByteArray.toList.loop
    rw [if_neg (by omega)]
    have : b.data.toList.length ≤ i := by rw [Array.length_toList]; exact Nat.le_of_eq this.symm
    rw [List.drop_of_length_le this]; simp
  | k + 1, i, r, hk, hi => by
    have hlt : i < b.size := by omega
    unfold ByteArray.toList.loop
    rw [if_pos hlt, toList_loop b k (i + 1) _ (by omega) (by omega)]
    have hl : i < b.data.toList.length := by rw [Array.length_toList]; exact hlt
    rw [List.drop_eq_getElem_cons hl]
    have : b.get! i = b.data.toList[i] := by
      show b.data[i]! = _
      rw [getElem!_pos b.data i hlt]; simp
    rw [this]; simp
theorem toList_data (b : ByteArray) : b.toList = b.data.toList := by
  unfold ByteArray.toList
  rw [toList_loop b _ 0 [] rfl (Nat.zero_le _)]; simp
theorem str_list (bs : List UInt8) : (str bs).toList = bs := by rw [toList_data]; simp [str]
theorem str_data (s : ByteArray) : str s.data.toList = s := by cases s; simp [str]

section
variable {P : Program}
theorem rd_forBytes (h : Heap) : ∀ (bs : List UInt8) (s : ByteArray), rd P (forIn (bc bs).toArray s fun c s => (do
      let .int .u8 n := c | stuck "bytesToString: byte expected"
      pure (ForInStep.yield (s.push (UInt8.ofNat n.toNat))))) h = some ⟨s.data ++ bs.toArray⟩ := by
  intro bs
  simp only [List.forIn_toArray]
  induction bs with
  | nil => intro s; simp only [bc, List.map_nil, List.forIn_nil]; show some s = _; cases s; simp
  | cons b bs ih =>
    intro s
    have e : bc (b :: bs) = .int .u8 (b.toNat : Int) :: bc bs := rfl
    rw [e, List.forIn_cons]
    rw [rd_bind _ _ h (ForInStep.yield (s.push b)) (by show some (ForInStep.yield (s.push (UInt8.ofNat b.toNat))) = _; simp)]
    show rd P (forIn (bc bs) (s.push b) _) h = _
    rw [ih]
    simp [ByteArray.push]
/-- 'string(b)' -/
theorem conv_str {sT dT e : TypeId} {h : Heap} {p : Option Addr} {c n : Nat} {bs : List UInt8} (hs : P.underlying sT = some (.slice e)) (he : P.underlying e = some (.int .u8)) (hd : P.underlying dT = some .string)
    (hr : Row h p (bc bs)) (hn : n = bs.length) : ConvV P sT dT (.slice p n c) h (str bs) := by
  subst hn
  unfold ConvV convert
  rw [rd_bind _ _ _ _ (rd_underlying hs), rd_bind _ _ _ _ (rd_underlying hd)]
  show rd P (underlying e >>= _) h = _
  rw [rd_bind _ _ _ _ (rd_underlying he)]
  show rd P (Conv.bytesToString (.slice p bs.length c)) h = _
  cases p with
  | none =>
    have : bs = [] := by
      rcases hr with hr | ⟨a, e, _⟩
      · cases bs with
        | nil => rfl
        | cons b bs => cases hr
      · cases e
    subst this
    rfl
  | some a =>
    have hh : heldL a (bc bs) 0 h := by
      rcases hr with hr | ⟨a', e, hh⟩
      · rw [hr]; trivial
      · cases e; exact hh
    have hl : rd P (loadCells a bs.length) h = some (bc bs).toArray := by
      unfold loadCells
      rw [← bc_len, rd_loadCellsFrom (bc bs) 0 #[] h hh]; simp
    show rd P (loadCells a bs.length >>= fun cells => (forIn cells ByteArray.empty fun c s => (do
      let .int .u8 n := c | stuck "bytesToString: byte expected"
      pure (ForInStep.yield (s.push (UInt8.ofNat n.toNat))))) >>= fun s => pure (Value.string s)) h = _
    rw [rd_bind _ _ _ _ hl, rd_bind _ _ _ _ (rd_forBytes h bs ByteArray.empty)]
    show some (Value.string ⟨ByteArray.empty.data ++ bs.toArray⟩) = _
    have : (⟨ByteArray.empty.data ++ bs.toArray⟩ : ByteArray) = str bs := by
      unfold str; congr 1; show #[] ++ bs.toArray = bs.toArray; simp
    rw [this]
/-- bytes of a literal -/
theorem den_lit {t e : TypeId} {h : Heap} {a : Addr} {n c : Nat} {K : Value → Heap → Prop} (hs : P.underlying t = some (.slice e)) (he : P.underlying e = some (.int .u8)) {cs : Array Value} {ct : TypeId} {f : Nat × Nat} (hb : h[a.block]? = some (.cells cs ct f))
    (hk : ∀ h' f', h'[a.block]? = some (.cells cs ct f') → h'.size = h.size → (∀ x, x ≠ a.block → h'[x]? = h[x]?) → K (.slice (some a) n c) h') : denSem P (convert t t (.slice (some a) n c)) h K := by
  unfold convert
  refine den_of_rd (s := underlying t) (rd_underlying hs) ?_
  refine den_of_rd (s := underlying t) (rd_underlying hs) ?_
  show denSem P (underlying e >>= _) h K
  refine den_of_rd (s := underlying e) (rd_underlying he) ?_
  have ht : (t == t) = true := by simp
  rw [ht]
  show denSem P (markStringish a >>= fun _ => pure (.slice (some a) n c)) h K
  rw [den_bind]
  unfold markStringish shape
  have hsh : hshape h a.block = some (ct, cs.size) := by simp [hshape, hb]
  show denSem P (match hshape h a.block with | some (_, n) => freeze { block := a.block, off := n } 1 | _ => pure ()) h _
  rw [hsh]
  show K (.slice (some a) n c) (hfreeze h { block := a.block, off := cs.size } 1)
  unfold hfreeze
  rw [if_neg (by omega)]
  obtain ⟨lo, hi⟩ := f
  refine hk _ (if lo == hi then (cs.size, cs.size + 1) else (min lo cs.size, max hi (cs.size + 1))) ?_ (by simp) (fun x hx => ?_)
  · simp [Array.getElem?_modify, hb]
  · simp [Array.getElem?_modify, Ne.symm hx]
/-- a slice of bytes that a law is handed -/
theorem RokV.bytes {h : Heap} {t e : TypeId} {p : Option Addr} {len cap : Nat} (he : P.cellsOf e = 1) (hk : P.underlying e = some (.int .u8)) (ht : P.underlying t = some (.slice e)) (hv : RokV P h t (.slice p len cap)) :
    ∃ bs : List UInt8, bs.length = len ∧ Row h p (bc bs) := by
  obtain ⟨xs, h1, h2, h3⟩ := RokV.ints he hk ht hv
  refine ⟨xs.map fun x => UInt8.ofNat x.toNat, by simpa using h1, ?_⟩
  have : bc (xs.map fun x => UInt8.ofNat x.toNat) = xs.map (.int .u8 ·) := by
    unfold bc
    rw [List.map_map]
    refine List.map_congr_left fun x hx => ?_
    have := wf_u8 (h3 x hx)
    simp only [Function.comp, UInt8.toNat_ofNat', Value.int.injEq, true_and]
    omega
  rw [this]; exact h2
end

theorem Rok.bytes {P : Program} {h : Heap} {t e : TypeId} {n : Nat} {v : Value} (he : P.cellsOf e = 1) (hk : P.underlying e = some (.int .u8)) (ht : P.underlying t = some (.slice e)) (hr : Rok P h n t [v]) : ∃ p c bs, v = .slice p (bs : List UInt8).length c ∧ Row h p (bc bs) := by
  have : ∃ p l c, v = .slice p l c := by
    cases n with
    | zero => exact hr.elim
    | succ n =>
      unfold Rok at hr
      rw [ht] at hr
      rcases hr with hc | ⟨a, l, c, hc, _⟩
      · simp at hc; exact ⟨_, _, _, hc⟩
      · simp at hc; exact ⟨_, _, _, hc⟩
  obtain ⟨p, l, c, rfl⟩ := this
  obtain ⟨bs, hl, hrow⟩ := RokV.bytes he hk ht ⟨n, hr⟩
  subst hl
  exact ⟨p, c, bs, rfl, hrow⟩

/-! ### bits -/
theorem wrap_u8_nat (n : Nat) : IntKind.wrap .u8 (n : Int) = ((n % 256 : Nat) : Int) := by
  show (n : Int) % 256 = _
  omega
theorem wrap_u64_nat {n : Nat} (h : n < 18446744073709551616) : IntKind.wrap .u64 (n : Int) = (n : Int) := wrap_u64 (by omega) (by omega)
set_option maxRecDepth 100000 in
theorem or128 (n : Nat) : IntKind.wrap .u8 ((BitVec.ofInt (IntKind.bits .u8) (IntKind.wrap .u8 (n : Int)) ||| BitVec.ofInt (IntKind.bits .u8) 128).toNat : Int) = ((UInt8.ofNat (n % 128 + 128)).toNat : Int) := by
  have key : ∀ m : Fin 256, (((BitVec.ofInt 8 ((m.val : Nat) : Int) ||| BitVec.ofInt 8 128).toNat % 256 : Nat)) = m.val % 128 + 128 := by decide
  rw [wrap_u8_nat n, wrap_u8_nat]
  have k := key ⟨n % 256, by omega⟩
  simp only at k
  have e : IntKind.bits .u8 = 8 := rfl
  rw [e, k]
  rw [UInt8.toNat_ofNat']
  omega
set_option maxRecDepth 100000 in
theorem and128 (c : UInt8) : (IntKind.wrap .u8 ((BitVec.ofInt (IntKind.bits .u8) (c.toNat : Int) &&& BitVec.ofInt (IntKind.bits .u8) 128).toNat : Int) == 0) = decide (c.toNat < 128) := by
  have key : ∀ m : Fin 256, (((((BitVec.ofInt 8 ((m.val : Nat) : Int) &&& BitVec.ofInt 8 128).toNat % 256 : Nat) : Int)) == 0) = decide (m.val < 128) := by decide
  rw [wrap_u8_nat]
  exact key ⟨c.toNat, c.toNat_lt⟩
set_option maxRecDepth 100000 in
theorem and127 (c : UInt8) : IntKind.wrap .u8 ((BitVec.ofInt (IntKind.bits .u8) (c.toNat : Int) &&& BitVec.ofInt (IntKind.bits .u8) 127).toNat : Int) = ((c.toNat % 128 : Nat) : Int) := by
  have key : ∀ m : Fin 256, ((BitVec.ofInt 8 ((m.val : Nat) : Int) &&& BitVec.ofInt 8 127).toNat % 256 : Nat) = m.val % 128 := by decide
  rw [wrap_u8_nat]
  exact congrArg (fun x : Nat => (x : Int)) (key ⟨c.toNat, c.toNat_lt⟩)
/-- seven bits more -/
theorem or_shl {n d i : Nat} (hn : n < 2 ^ i) (hd : d * 2 ^ i < 18446744073709551616) (hi : i ≤ 64) :
    IntKind.wrap .u64 ((BitVec.ofInt (IntKind.bits .u64) (n : Int) ||| BitVec.ofInt (IntKind.bits .u64) (IntKind.wrap .u64 ((d : Int) * 2 ^ min (Int.toNat (i : Int)) (IntKind.bits .u64)))).toNat : Int) = ((n + d * 2 ^ i : Nat) : Int) := by
  have e64 : IntKind.bits .u64 = 64 := rfl
  have hp : (0 : Nat) < 2 ^ i := Nat.two_pow_pos i
  rw [Int.toNat_natCast, e64, Nat.min_eq_left hi]
  have e1 : ((d : Int) * 2 ^ i) = ((d * 2 ^ i : Nat) : Int) := by simp
  rw [e1, wrap_u64_nat hd]
  have hn64 : n < 18446744073709551616 := by
    have : (2 : Nat) ^ i ≤ 2 ^ 64 := Nat.pow_le_pow_right (by omega) hi
    omega
  have e2 : ∀ m : Nat, m < 18446744073709551616 → (BitVec.ofInt 64 (m : Int)).toNat = m := fun m hm => by
    rw [BitVec.toNat_ofInt]; omega
  rw [BitVec.toNat_or, e2 n hn64, e2 _ hd]
  have e3 : n ||| d * 2 ^ i = n + d * 2 ^ i := by
    rw [Nat.or_comm, Nat.mul_comm, ← Nat.two_pow_add_eq_or_of_lt hn d]; omega
  rw [e3]
  refine wrap_u64_nat ?_
  -- n + d 2^i < 2^64
  have hdiv : d < 2 ^ (64 - i) := by
    have : (18446744073709551616 : Nat) = 2 ^ (64 - i) * 2 ^ i := by rw [← Nat.pow_add, Nat.sub_add_cancel hi]
    rw [this] at hd
    exact Nat.lt_of_mul_lt_mul_right hd
  have : (d + 1) * 2 ^ i ≤ 2 ^ (64 - i) * 2 ^ i := Nat.mul_le_mul_right _ hdiv
  rw [← Nat.pow_add, Nat.sub_add_cancel hi, Nat.add_mul] at this
  omega
theorem shr7 {n : Nat} : Int.fdiv (n : Int) (2 ^ min (Int.toNat 7) (IntKind.bits .u64)) = ((n / 128 : Nat) : Int) := by
  show Int.fdiv (n : Int) 128 = _
  rw [Int.fdiv_eq_ediv_of_nonneg _ (by omega)]; omega
end Go.Den

/-
  What is proved here: footprints that only grow by what is new; a new block that is filled; 'append' of one element; pointers compared. No condition.
-/
namespace Go.Den

/-- S was touched, and S' is what it has become -/
structure Step (S : Nat → Prop) (h : Heap) (S' : Nat → Prop) (h' : Heap) : Prop where
  fr : Fr S h h'
  new : ∀ c, S' c → S c ∨ h.size ≤ c
theorem Step.refl (S : Nat → Prop) (h : Heap) : Step S h S h := ⟨Fr.refl _ _, fun _ => .inl⟩
theorem Step.trans {S S1 S2 : Nat → Prop} {h h1 h2 : Heap} (a : Step S h S1 h1) (b : Step S1 h1 S2 h2) : Step S h S2 h2 :=
  ⟨a.fr.trans b.fr (fun _ _ => id) (fun c hc hx => (a.new c hx).resolve_right (by omega)), fun c hc => by
    rcases b.new c hc with hc | hc
    · exact a.new c hc
    · have := a.fr.1; exact .inr (by omega)⟩
theorem Step.of_fr {S : Nat → Prop} {h h' : Heap} (f : Fr S h h') : Step S h S h' := ⟨f, fun _ => .inl⟩
theorem Step.apart {S S' Q : Nat → Prop} {h h' : Heap} (st : Step S h S' h') (hd : ∀ c, S c → ¬ Q c) (hq : ∀ c, Q c → c < h.size) : ∀ c, S' c → ¬ Q c := fun c hc hx => by
  rcases st.new c hc with h1 | h1
  · exact hd c h1 hx
  · have := hq c hx; omega
theorem Step.no {S S1 : Nat → Prop} {h h1 h2 : Heap} (f : Fr (fun _ => False) h h1) (b : Step S h1 S1 h2) : Step S h S1 h2 :=
  ⟨Fr.no f b.fr, fun c hc => by
    rcases b.new c hc with hc | hc
    · exact .inl hc
    · have := f.1; exact .inr (by omega)⟩
theorem Step.on {S S1 : Nat → Prop} {h h1 h2 : Heap} (a : Step S h S1 h1) (f : Fr (fun _ => False) h1 h2) : Step S h S1 h2 :=
  ⟨Fr.on a.fr f, a.new⟩
/-- what is new may be touched -/
theorem Fr.fresh {S : Nat → Prop} {h h1 h2 : Heap} (f : Fr (fun _ => False) h h1) (g : Fr S h1 h2) (hs : ∀ c, S c → h.size ≤ c) : Fr (fun _ => False) h h2 :=
  f.step g fun c hc hx => by have := hs c hx; omega

/-! ### a new block, filled -/
theorem hset_push {h : Heap} {c : Array Value} {t : TypeId} {f : Nat × Nat} {i : Nat} {v : Value} : hset (h.push (.cells c t f)) ⟨h.size, i, none⟩ v = h.push (.cells (c.setIfInBounds i v) t f) := by
  apply Array.ext
  · simp [hset]
  · intro j h1 h2
    have e : ∀ (x : Heap) (hx : j < x.size), x[j]? = some x[j] := fun x hx => Array.getElem?_eq_getElem hx
    have : (hset (h.push (.cells c t f)) ⟨h.size, i, none⟩ v)[j]? = (h.push (.cells (c.setIfInBounds i v) t f))[j]? := by
      by_cases q : j = h.size
      · subst q
        rw [hset_same push_new, push_new]
      · rw [hset_other q]
        rw [Array.getElem?_push, Array.getElem?_push, if_neg q, if_neg q]
    rw [e _ h1, e _ h2] at this
    exact Option.some.inj this
theorem storeP_push {h : Heap} {c : Array Value} {t : TypeId} {i : Nat} {v : Value} {K : Heap → Prop} (hi : i < c.size) (hk : K (h.push (.cells (c.setIfInBounds i v) t (0, 0)))) : StoreP (h.push (.cells c t (0, 0))) ⟨h.size, i, none⟩ v K := by
  refine ⟨?_, hfrozen_blk push_new, ?_⟩
  · rw [hcell_blk push_new]; simp [hi]
  · rintro _ rfl
    rw [hset_push]; exact hk
theorem newP_of {h : Heap} {o : Obj} {K : Nat → Heap → Prop} (hk : K h.size (h.push o)) : NewP h o K := by
  rintro b h' rfl rfl; exact hk

section
variable {P : Program}
theorem den_append1 {sT xT ty elem eT t : TypeId} {sz bytes : Nat} {z : Value} {h : Heap} {p : Option Addr} {len cap : Nat} {cs : List Value} {xs : Array Value} {K : Value → Heap → Prop}
    (T : SlTy P sT elem sz bytes z) (hx : P.underlying xT = some (.slice eT))
    (own : Own h p len cap sz cs) (hxs : xs.size = sz) (hone : ∀ v ∈ xs.toList, oneCell v = true) (hb : (len + 1) * bytes ≤ 70368744177664) (hb2 : len + 1 ≤ 9223372036854775807)
    (hk : ∀ p' cap' h', Own h' p' (len + 1) cap' sz (cs ++ xs.toList) → Fr (inBlk p) h h' → (∀ c, inBlk p' c → inBlk p c ∨ h.size ≤ c) → K (.slice p' (len + 1) cap') h') :
    NewP h (.cells xs t) fun b h1 => denSem P (Builtin.append_ #[sT, xT] ty #[.slice p len cap, .slice (some ⟨b, 0, none⟩) 1 1]) h1 K := by
  refine newP_of ?_
  have f1 : Fr (fun _ => False) h (h.push (.cells xs t)) := Fr.push _ _
  refine den_append T hx (own.frame f1 (fun _ _ => id)) (ds := xs.toList) (.inr ⟨_, rfl, heldL_blk push_new (fun j v hj => by rw [Nat.zero_add]; simpa using hj)⟩) (by simp [hxs]) hone hb hb2 ?_
  intro p' cap' h' o1 _ f2 g
  exact hk p' cap' h' o1 (Fr.no f1 f2) (fun c hc => (g c hc).imp id (fun h2 => by simp at h2; omega))

theorem rd_sameAddr_blk {a b : Addr} {h : Heap} (hb : a.block = b.block) : rd P (sameAddr a b) h = some (a == b) := by
  unfold sameAddr
  have : (a.block == b.block) = true := by simp [hb]
  rw [if_pos this]; rfl
/-- a pointer and itself -/
theorem EqV.refl {t e : TypeId} {i : TypeInfo} (ht : P.underlying t = some (.pointer e)) (hi : P.info? e = some i) (hz : i.size ≠ 0) (a : Addr) : EqV P t (.pointer (some a)) (.pointer (some a)) true := fun h => by
  unfold Op.equal
  show rd P (Op.equalIn (Op.maxDepth - 1 + 1) t _ _) h = _
  unfold Op.equalIn
  rw [rd_bind _ _ _ _ (rd_underlying ht)]
  show rd P (sizeOf e >>= _) h = _
  rw [rd_bind _ _ _ _ (rd_sizeOf hi), if_pos hz, rd_sameAddr_blk rfl]
  simp
theorem EqV.self {t e : TypeId} (ht : P.underlying t = some (.pointer e)) (hi : (P.info? e).map (fun i => Nat.beq i.size 0) = some false) (a : Addr) : EqV P t (.pointer (some a)) (.pointer (some a)) true := by
  cases h : P.info? e with
  | none => rw [h] at hi; cases hi
  | some i =>
    rw [h] at hi
    refine EqV.refl ht h (fun e0 => ?_) a
    simp [e0] at hi
end
end Go.Den
namespace Go.Den
/-- all that was touched is new -/
structure Up (h0 : Heap) (S : Nat → Prop) (h : Heap) : Prop where
  fr : Fr (fun _ => False) h0 h
  ge : ∀ c, S c → h0.size ≤ c
theorem Up.step {h0 h h' : Heap} {S S' : Nat → Prop} (u : Up h0 S h) (st : Step S h S' h') : Up h0 S' h' :=
  ⟨u.fr.fresh st.fr u.ge, fun c hc => by
    rcases st.new c hc with h1 | h1
    · exact u.ge c h1
    · have := u.fr.1; omega⟩
theorem Up.on {h0 h h' : Heap} {S : Nat → Prop} (u : Up h0 S h) (f : Fr (fun _ => False) h h') : Up h0 S h' := ⟨u.fr.tt f, u.ge⟩
theorem Up.touch {h0 h h' : Heap} {S Q : Nat → Prop} (u : Up h0 S h) (f : Fr Q h h') (hq : ∀ c, Q c → S c) : Up h0 S h' := ⟨u.fr.fresh f (fun c hc => u.ge c (hq c hc)), u.ge⟩
/-- a new row of cells -/
theorem row_new {h : Heap} {cs : List Value} {t : TypeId} : Row (h.push (.cells cs.toArray t)) (some ⟨h.size, 0, none⟩) cs := .inr ⟨_, rfl, heldL_blk push_new (fun j v hj => by rw [Nat.zero_add]; simpa using hj)⟩
theorem add_zero_addr (a : Addr) : a.add 0 = a := by simp [Addr.add]
theorem add_block (a : Addr) (n : Nat) : (a.add n).block = a.block := by unfold Addr.add; split <;> rfl
/-- a row that is not empty lies in the heap -/
theorem row_lt {h : Heap} {p : Option Addr} {cs : List Value} (hr : Row h p cs) (hn : cs ≠ []) {x : Nat} (hx : inBlk p x) : x < h.size := by
  obtain ⟨a, rfl, rfl⟩ := hx
  rcases hr with hh | ⟨a', e, hh⟩
  · exact absurd hh hn
  · cases e
    cases cs with
    | nil => exact absurd rfl hn
    | cons c cs =>
      obtain ⟨_, _, _, hb, _⟩ := hcell_some hh.1
      have := lt_of_get hb
      rwa [add_block] at this
/-- a part of a row -/
theorem Row.sub {h : Heap} {p : Option Addr} {cs : List Value} (hr : Row h p cs) {cap l u sz : Nat} (h1 : l ≤ u) (h2 : u ≤ cap) : Row h (slBase p cap l sz) ((cs.take (u * sz)).drop (l * sz)) := by
  by_cases hc : cap = l
  · left
    have : u = l := by omega
    subst this
    rw [List.drop_eq_nil_iff, List.length_take]
    exact Nat.min_le_left _ _
  · unfold slBase
    rw [if_neg hc]
    rcases hr with rfl | ⟨a, rfl, hh⟩
    · left; simp
    · refine .inr ⟨a.add (l * sz), rfl, heldL_at.2 fun j v hj => ?_⟩
      rw [add_add, Nat.zero_add]
      rw [List.getElem?_drop, List.getElem?_take] at hj
      split at hj
      · have := heldL_at.1 hh (l * sz + j) v hj
        rwa [Nat.zero_add] at this
      · cases hj

/-! ### what may be touched (M), and what is only read (D) -/
structure Ft where
  M : Nat → Prop
  D : Nat → Prop
structure StepF (F : Ft) (h : Heap) (F' : Ft) (h' : Heap) : Prop where
  fr : Fr F.M h h'
  newM : ∀ c, F'.M c → F.M c ∨ h.size ≤ c
  newD : ∀ c, F'.D c → F.D c ∨ h.size ≤ c
  oldD : ∀ c, F.D c → F'.D c
theorem StepF.refl (F : Ft) (h : Heap) : StepF F h F h := ⟨Fr.refl _ _, fun _ => .inl, fun _ => .inl, fun _ => id⟩
theorem StepF.trans {F F1 F2 : Ft} {h h1 h2 : Heap} (a : StepF F h F1 h1) (b : StepF F1 h1 F2 h2) : StepF F h F2 h2 := by
  have z := a.fr.1
  refine ⟨a.fr.trans b.fr (fun _ _ => id) (fun c hc hx => (a.newM c hx).resolve_right (by omega)), fun c hc => ?_, fun c hc => ?_, fun c hc => b.oldD c (a.oldD c hc)⟩
  · rcases b.newM c hc with hc | hc
    · exact a.newM c hc
    · exact .inr (by omega)
  · rcases b.newD c hc with hc | hc
    · exact a.newD c hc
    · exact .inr (by omega)
theorem StepF.of_fr {F : Ft} {h h' : Heap} (f : Fr F.M h h') : StepF F h F h' := ⟨f, fun _ => .inl, fun _ => .inl, fun _ => id⟩
theorem StepF.of_no {F : Ft} {h h' : Heap} (f : Fr (fun _ => False) h h') : StepF F h F h' := .of_fr (f.mono fun _ _ => False.elim)
theorem StepF.no {F F1 : Ft} {h h1 h2 : Heap} (f : Fr (fun _ => False) h h1) (b : StepF F h1 F1 h2) : StepF F h F1 h2 := (StepF.of_no f).trans b
theorem StepF.on {F F1 : Ft} {h h1 h2 : Heap} (a : StepF F h F1 h1) (f : Fr (fun _ => False) h1 h2) : StepF F h F1 h2 := a.trans (StepF.of_no f)
theorem StepF.apart {F F' : Ft} {Q : Nat → Prop} {h h' : Heap} (st : StepF F h F' h') (hd : ∀ c, F.M c ∨ F.D c → ¬ Q c) (hq : ∀ c, Q c → c < h.size) : ∀ c, F'.M c ∨ F'.D c → ¬ Q c := fun c hc hx => by
  have := hq c hx
  rcases hc with hc | hc
  · rcases st.newM c hc with h1 | h1
    · exact hd c (.inl h1) hx
    · omega
  · rcases st.newD c hc with h1 | h1
    · exact hd c (.inr h1) hx
    · omega
/-- what is only read stays apart from what may be touched -/
theorem StepF.apartM {F F' : Ft} {Q : Nat → Prop} {h h' : Heap} (st : StepF F h F' h') (hd : ∀ c, F.M c → ¬ Q c) (hq : ∀ c, Q c → c < h.size) : ∀ c, F'.M c → ¬ Q c := fun c hc hx => by
  have := hq c hx
  rcases st.newM c hc with h1 | h1
  · exact hd c h1 hx
  · omega
/-- all that was touched is new -/
structure UpF (h0 : Heap) (F : Ft) (h : Heap) : Prop where
  fr : Fr (fun _ => False) h0 h
  ge : ∀ c, F.M c ∨ F.D c → h0.size ≤ c
theorem UpF.step {h0 h h' : Heap} {F F' : Ft} (u : UpF h0 F h) (st : StepF F h F' h') : UpF h0 F' h' := by
  have z := u.fr.1
  refine ⟨u.fr.fresh st.fr (fun c hc => u.ge c (.inl hc)), fun c hc => ?_⟩
  rcases hc with hc | hc
  · rcases st.newM c hc with h1 | h1
    · exact u.ge c (.inl h1)
    · omega
  · rcases st.newD c hc with h1 | h1
    · exact u.ge c (.inr h1)
    · omega
theorem UpF.on {h0 h h' : Heap} {F : Ft} (u : UpF h0 F h) (f : Fr (fun _ => False) h h') : UpF h0 F h' := ⟨u.fr.tt f, u.ge⟩
/-! a block that is stored as a whole -/
theorem storeL_from {b : Nat} {t : TypeId} : ∀ (vs : List Value) (i : Nat) (h : Heap) (c : Array Value) (K : Heap → Prop), h[b]? = some (.cells c t (0, 0)) → i + vs.length ≤ c.size → vs.all oneCell = true →
    (∀ h' c', h'[b]? = some (.cells c' t (0, 0)) → c'.size = c.size → (∀ j, j < i ∨ i + vs.length ≤ j → c'[j]? = c[j]?) → (∀ j v, vs[j]? = some v → c'[i + j]? = some v) → h'.size = h.size → (∀ x, x ≠ b → h'[x]? = h[x]?) → K h') →
    storeL ⟨b, 0, none⟩ vs i h K
  | [], i, h, c, K, hb, _, _, hk => hk h c hb rfl (fun _ _ => rfl) (fun j v hj => by simp at hj) rfl (fun _ _ => rfl)
  | v :: vs, i, h, c, K, hb, hl, hv, hk => by
    rw [List.all_cons, Bool.and_eq_true] at hv
    rw [List.length_cons] at hl
    unfold storeL
    rw [hv.1]
    dsimp only
    rw [add_blk, Nat.zero_add]
    refine storeP_blk hb (by omega) fun h1 a1 s1 o1 => ?_
    refine storeL_from vs (i + 1) h1 _ K a1 (by rw [Array.size_setIfInBounds]; omega) hv.2 fun h2 c2 b2 z2 q2 r2 s2 o2 => hk h2 c2 b2 (by rw [z2, Array.size_setIfInBounds]) (fun j hj => ?_) (fun j u hj => ?_) (by omega) (fun x hx => by rw [o2 x hx, o1 x hx])
    · rw [List.length_cons] at hj
      rw [q2 j (by omega), Array.getElem?_setIfInBounds, if_neg (by omega)]
    · cases j with
      | zero =>
        simp only [List.getElem?_cons_zero, Option.some.injEq] at hj
        subst hj
        rw [Nat.add_zero, q2 i (by omega)]
        rw [Array.getElem?_setIfInBounds, if_pos rfl, if_pos (by omega)]
      | succ j =>
        have := r2 j u (by simpa using hj)
        rwa [show i + 1 + j = i + (j + 1) by omega] at this
theorem storeL_full {h : Heap} {b : Nat} {c : Array Value} {t : TypeId} {vs : List Value} {K : Heap → Prop} (hb : h[b]? = some (.cells c t (0, 0))) (hl : vs.length = c.size) (hv : vs.all oneCell = true)
    (hk : ∀ h', h'[b]? = some (.cells vs.toArray t (0, 0)) → h'.size = h.size → (∀ x, x ≠ b → h'[x]? = h[x]?) → K h') : storeL ⟨b, 0, none⟩ vs 0 h K := by
  refine storeL_from vs 0 h c K hb (by omega) hv fun h' c' b' z _ r s o => hk h' ?_ s o
  have : c' = vs.toArray := by
    apply Array.ext'
    apply List.ext_getElem?
    intro j
    by_cases hj : j < vs.length
    · have e := List.getElem?_eq_getElem hj
      have := r j _ e
      rw [Nat.zero_add] at this
      rw [Array.getElem?_toList, this]
      exact e.symm
    · rw [List.getElem?_eq_none (by rw [Array.length_toList]; omega), List.getElem?_eq_none (by simpa using hj)]
  rw [← this]; exact b'
theorem new_full {h : Heap} {c : Array Value} {t : TypeId} {vs : List Value} {K : Nat → Heap → Prop} (hl : vs.length = c.size) (hv : vs.all oneCell = true)
    (hk : ∀ b h', b = h.size → h'[b]? = some (.cells vs.toArray t (0, 0)) → Fr (fun _ => False) h h' → K b h') : NewP h (.cells c t) fun b h0 => storeL ⟨b, 0, none⟩ vs 0 h0 (K b) :=
  newP_of (storeL_full push_new hl hv fun h' b' s o => hk _ h' rfl b' ((Fr.push h _).fresh (S := fun y => y = h.size) ⟨by omega, fun y _ hn => o y hn⟩ (fun y e => Nat.le_of_eq e.symm)))
end Go.Den

/-
  Printed by a program of this work (vc.py): the verification conditions of functions, and that each is enough for the call. No condition.
-/
set_option maxRecDepth 100000
set_option maxHeartbeats 4000000
namespace Go.Proofs.YtgccegnmggjkjaaGreatDoor
open Go.Den
namespace F
abbrev main_main : Nat := 0
abbrev gosem_cut : Nat := 1
abbrev gosem_cut_init : Nat := 2
abbrev law21_CopiesLives : Nat := 3
abbrev law22_RegsBack : Nat := 4
abbrev law21_CopiesBack : Nat := 5
abbrev law26_StateLives : Nat := 6
abbrev law26_StatePasses : Nat := 7
abbrev law26_StateBack : Nat := 8
abbrev copies_New : Nat := 9
abbrev law21_alive : Nat := 10
abbrev law21_Great : Nat := 11
abbrev law21_Do : Nat := 12
abbrev law21_Same : Nat := 13
abbrev copies_Table_Ready : Nat := 14
abbrev ref21_Table_Ready : Nat := 15
abbrev law04_As : Nat := 16
abbrev copies_Table_Add : Nat := 17
abbrev law21_home : Nat := 18
abbrev copies_Table_Lease : Nat := 19
abbrev law19_Same : Nat := 20
abbrev copies_Table_Save : Nat := 21
abbrev ref21_Table_Save : Nat := 22
abbrev copies_Table_Ack : Nat := 23
abbrev copies_Table_Release : Nat := 24
abbrev copies_Table_Pass : Nat := 25
abbrev copies_Table_Drop : Nat := 26
abbrev copies_Table_All : Nat := 27
abbrev copies_Table_Counts : Nat := 28
abbrev regs_New : Nat := 29
abbrev law22_alive : Nat := 30
abbrev regs_Table_Find : Nat := 31
abbrev regs_Table_Add : Nat := 32
abbrev regs_Table_Remove : Nat := 33
abbrev regs_Table_Policy : Nat := 34
abbrev regs_Table_Save : Nat := 35
abbrev regs_Load : Nat := 36
abbrev law21_do : Nat := 37
abbrev copies_Load : Nat := 38
abbrev law26_alive : Nat := 39
abbrev state_New : Nat := 40
abbrev ref04_Kind : Nat := 41
abbrev law26_whole : Nat := 42
abbrev ref26_New : Nat := 43
abbrev law26_Do : Nat := 44
abbrev law26_Same : Nat := 45
abbrev state_State_Put : Nat := 46
abbrev state_State_Take : Nat := 47
abbrev state_State_Pass : Nat := 48
abbrev state_State_Cancel : Nat := 49
abbrev state_State_Save : Nat := 50
abbrev law26_Self : Nat := 51
abbrev law26_do : Nat := 52
abbrev outbox_Box_Counts : Nat := 53
abbrev quota_Purse_All : Nat := 54
abbrev law26_pure : Nat := 55
abbrev state_Load : Nat := 56
abbrev alarm_New : Nat := 57
abbrev ref21_Table_Add : Nat := 58
abbrev ref21_Table_Lease : Nat := 59
abbrev law21_same : Nat := 60
abbrev ref21_Table_End : Nat := 61
abbrev law21_ints : Nat := 62
abbrev ref21_Table_Pass : Nat := 63
abbrev ref21_Table_Drop : Nat := 64
abbrev ref21_Table_There : Nat := 65
abbrev ref21_Table_Counts : Nat := 66
abbrev copies_Table_of : Nat := 67
abbrev ref21_Table_count : Nat := 68
abbrev copies_Table_made : Nat := 69
abbrev copies_isCopy : Nat := 70
abbrev slices_Clone_s_byte_byte : Nat := 71
abbrev alarm_Alarm_Set : Nat := 72
abbrev copies_isSession : Nat := 73
abbrev fields_New : Nat := 74
abbrev fields_Writer_Int : Nat := 75
abbrev fields_Writer_Bytes : Nat := 76
abbrev copies_Table_numbers : Nat := 77
abbrev copies_record : Nat := 78
abbrev ref21_numbers : Nat := 79
abbrev ref15_Text : Nat := 80
abbrev ref04_Text : Nat := 81
abbrev ref15_Num : Nat := 82
abbrev copies_Table_find : Nat := 83
abbrev copies_Table_remove : Nat := 84
abbrev copies_Table_free : Nat := 85
abbrev alarm_Alarm_Ring : Nat := 86
abbrev alarm_Alarm_Len : Nat := 87
abbrev law22_home : Nat := 88
abbrev regs_Table_made : Nat := 89
abbrev regs_right : Nat := 90
abbrev regs_Table_ask : Nat := 91
abbrev regs_isPolicy : Nat := 92
abbrev regs_Table_All : Nat := 93
abbrev regs_record : Nat := 94
abbrev fields_Read : Nat := 95
abbrev eid_Parse : Nat := 96
abbrev fields_Reader_Text : Nat := 97
abbrev fields_Reader_Int : Nat := 98
abbrev fields_Reader_End : Nat := 99
abbrev bytes_Equal : Nat := 100
abbrev slices_EqualFunc_s_s_byte_s_s_byte_s_byte_s_byte : Nat := 101
abbrev copies_Table_load : Nat := 102
abbrev quota_Purse_Used : Nat := 103
abbrev ident_New : Nat := 104
abbrev quota_New : Nat := 105
abbrev sessions_New : Nat := 106
abbrev outbox_New : Nat := 107
abbrev ref04_Plain : Nat := 108
abbrev ref26_State_Pass : Nat := 109
abbrev ref26_State_Put : Nat := 110
abbrev ref23_Box_Cancel : Nat := 111
abbrev ref23_Box_Take : Nat := 112
abbrev sessions_Table_Open : Nat := 113
abbrev ref24_Table_Open : Nat := 114
abbrev law26_home : Nat := 115
abbrev ref26_State_Used : Nat := 116
abbrev ref26_State_Save : Nat := 117
abbrev state_State_made : Nat := 118
abbrev outbox_Box_All : Nat := 119
abbrev quota_Purse_Fits : Nat := 120
abbrev outbox_Box_Add : Nat := 121
abbrev quota_Purse_Take : Nat := 122
abbrev outbox_Box_Take : Nat := 123
abbrev quota_Purse_Give : Nat := 124
abbrev outbox_Box_Pass : Nat := 125
abbrev outbox_Box_Cancel : Nat := 126
abbrev slices_IndexFunc_s_outbox_Item_outbox_Item : Nat := 127
abbrev state_State_Cancel_1 : Nat := 128
abbrev ident_Maker_Last : Nat := 129
abbrev eid_Text : Nat := 130
abbrev sessions_Table_Save : Nat := 131
abbrev outbox_Box_Save : Nat := 132
abbrev fields_Writer_Text : Nat := 133
abbrev fields_Writer_Num : Nat := 134
abbrev slices_Concat_s_s_byte_s_byte : Nat := 135
abbrev outbox_Box_made : Nat := 136
abbrev quota_Purse_made : Nat := 137
abbrev fields_Reader_Num : Nat := 138
abbrev ident_Maker_Keep : Nat := 139
abbrev state_State_loadParts : Nat := 140
abbrev ref21_May : Nat := 141
abbrev ref21_Table_is : Nat := 142
abbrev slices_DeleteFunc_s_int_int : Nat := 143
abbrev copies_Table_of_1 : Nat := 144
abbrev eid_Right : Nat := 145
abbrev alarm_Alarm_made : Nat := 146
abbrev alarm_Alarm_Drop : Nat := 147
abbrev alarm_Alarm_put : Nat := 148
abbrev alarm_Alarm_up : Nat := 149
abbrev slices_Sort_s_int_int : Nat := 150
abbrev ref04_Digits : Nat := 151
abbrev alarm_Alarm_Next : Nat := 152
abbrev slices_SortFunc_s_regs_Reg_regs_Reg : Nat := 153
abbrev regs_Table_All_1 : Nat := 154
abbrev eid_Less : Nat := 155
abbrev strings_CutPrefix : Nat := 156
abbrev eid_parseNumbers : Nat := 157
abbrev eid_parsePath : Nat := 158
abbrev fields_Reader_fine : Nat := 159
abbrev fields_fault_fail : Nat := 160
abbrev fields_Reader_atMost : Nat := 161
abbrev ref23_Box_Pass : Nat := 162
abbrev ref23_Box_There : Nat := 163
abbrev ref26_State_Fits : Nat := 164
abbrev ref23_Box_Add : Nat := 165
abbrev sessions_Table_of : Nat := 166
abbrev ref24_Table_of : Nat := 167
abbrev ref24_Table_Save : Nat := 168
abbrev ref22_Table_Save : Nat := 169
abbrev ref23_Box_Save : Nat := 170
abbrev outbox_copied : Nat := 171
abbrev quota_Purse_ask : Nat := 172
abbrev outbox_right : Nat := 173
abbrev outbox_Box_cut : Nat := 174
abbrev outbox_Box_find : Nat := 175
abbrev strconv_FormatUint : Nat := 176
abbrev eid_path : Nat := 177
abbrev sessions_Table_All : Nat := 178
abbrev fields_Writer_Bool : Nat := 179
abbrev slices_Grow_s_s_byte_s_byte : Nat := 180
abbrev ident_Right : Nat := 181
abbrev ident_Ahead : Nat := 182
abbrev state_parts : Nat := 183
abbrev sessions_Load : Nat := 184
abbrev outbox_Load : Nat := 185
abbrev slices_IndexFunc_s_int_int : Nat := 186
abbrev eid_plain : Nat := 187
abbrev alarm_Alarm_down : Nat := 188
abbrev alarm_ahead : Nat := 189
abbrev slices_pdqsortOrdered_int : Nat := 190
abbrev math_bits_Len : Nat := 191
abbrev slices_pdqsortCmpFunc_regs_Reg : Nat := 192
abbrev eid_class : Nat := 193
abbrev internal_stringslite_CutPrefix : Nat := 194
abbrev strings_Cut : Nat := 195
abbrev strconv_ParseUint : Nat := 196
abbrev ref24_bit : Nat := 197
abbrev ref23_Box_Counts : Nat := 198
abbrev slices_Concat_s_outbox_Item_outbox_Item : Nat := 199
abbrev outbox_Box_find_1 : Nat := 200
abbrev internal_strconv_FormatUint : Nat := 201
abbrev state_parts_1 : Nat := 202
abbrev sessions_loader_session : Nat := 203
abbrev slices_insertionSortOrdered_int : Nat := 204
abbrev slices_heapSortOrdered_int : Nat := 205
abbrev slices_breakPatternsOrdered_int : Nat := 206
abbrev slices_choosePivotOrdered_int : Nat := 207
abbrev slices_reverseRangeOrdered_int : Nat := 208
abbrev slices_partialInsertionSortOrdered_int : Nat := 209
abbrev cmp_Less_int : Nat := 210
abbrev slices_partitionEqualOrdered_int : Nat := 211
abbrev slices_partitionOrdered_int : Nat := 212
abbrev math_bits_Len32 : Nat := 213
abbrev math_bits_Len64 : Nat := 214
abbrev slices_insertionSortCmpFunc_regs_Reg : Nat := 215
abbrev slices_heapSortCmpFunc_regs_Reg : Nat := 216
abbrev slices_breakPatternsCmpFunc_regs_Reg : Nat := 217
abbrev slices_choosePivotCmpFunc_regs_Reg : Nat := 218
abbrev slices_reverseRangeCmpFunc_regs_Reg : Nat := 219
abbrev slices_partialInsertionSortCmpFunc_regs_Reg : Nat := 220
abbrev slices_partitionEqualCmpFunc_regs_Reg : Nat := 221
abbrev slices_partitionCmpFunc_regs_Reg : Nat := 222
abbrev internal_stringslite_HasPrefix : Nat := 223
abbrev internal_stringslite_Cut : Nat := 224
abbrev internal_strconv_ParseUint : Nat := 225
abbrev strconv_toError : Nat := 226
abbrev slices_Grow_s_outbox_Item_outbox_Item : Nat := 227
abbrev internal_strconv_small : Nat := 228
abbrev internal_strconv_numDigits : Nat := 229
abbrev internal_strconv_formatBase10 : Nat := 230
abbrev internal_strconv_formatBits : Nat := 231
abbrev sessions_loader_next : Nat := 232
abbrev fields_Reader_Bool : Nat := 233
abbrev sessions_loader_need : Nat := 234
abbrev sessions_Table_Kept : Nat := 235
abbrev sessions_Table_Keep : Nat := 236
abbrev sessions_isNote : Nat := 237
abbrev slices_siftDownOrdered_int : Nat := 238
abbrev slices_nextPowerOfTwo : Nat := 239
abbrev slices_xorshift_Next : Nat := 240
abbrev slices_medianAdjacentOrdered_int : Nat := 241
abbrev slices_medianOrdered_int : Nat := 242
abbrev cmp_isNaN_int : Nat := 243
abbrev slices_siftDownCmpFunc_regs_Reg : Nat := 244
abbrev slices_medianAdjacentCmpFunc_regs_Reg : Nat := 245
abbrev slices_medianCmpFunc_regs_Reg : Nat := 246
abbrev internal_stringslite_Index : Nat := 247
abbrev internal_strconv_lower : Nat := 248
abbrev internal_strconv_underscoreOK : Nat := 249
abbrev strconv_syntaxError : Nat := 250
abbrev strconv_rangeError : Nat := 251
abbrev strconv_baseError : Nat := 252
abbrev strconv_bitSizeError : Nat := 253
abbrev internal_strconv_log10Pow2 : Nat := 254
abbrev internal_strconv_bool2_int : Nat := 255
abbrev internal_strconv_isPowerOfTwo : Nat := 256
abbrev math_bits_TrailingZeros : Nat := 257
abbrev sessions_Table_find : Nat := 258
abbrev slices_IndexFunc_s_sessions_Answer_sessions_Answer : Nat := 259
abbrev sessions_Table_Kept_1 : Nat := 260
abbrev slices_DeleteFunc_s_sessions_Answer_sessions_Answer : Nat := 261
abbrev sessions_Table_Keep_1 : Nat := 262
abbrev slices_Clone_s_sessions_Answer_sessions_Answer : Nat := 263
abbrev slices_order2Ordered_int : Nat := 264
abbrev slices_order2CmpFunc_regs_Reg : Nat := 265
abbrev internal_stringslite_IndexByte : Nat := 266
abbrev internal_bytealg_IndexString : Nat := 267
abbrev internal_bytealg_Cutover : Nat := 268
abbrev internal_bytealg_IndexRabinKarp_string : Nat := 269
abbrev internal_stringslite_Clone : Nat := 270
abbrev errors_New : Nat := 271
abbrev strconv_Itoa : Nat := 272
abbrev math_bits_TrailingZeros32 : Nat := 273
abbrev math_bits_TrailingZeros64 : Nat := 274
abbrev internal_bytealg_IndexByteString : Nat := 275
abbrev internal_bytealg_hashStr_string : Nat := 276
abbrev internal_strconv_Itoa : Nat := 277
abbrev internal_strconv_FormatInt : Nat := 278
abbrev runtime_boundsError_Error : Nat := 279
abbrev runtime_boundsError_RuntimeError : Nat := 280
abbrev runtime_errorString_Error : Nat := 281
abbrev runtime_errorString_RuntimeError : Nat := 282
abbrev runtime_plainError_Error : Nat := 283
abbrev runtime_plainError_RuntimeError : Nat := 284
abbrev runtime_errorAddressString_Error : Nat := 285
abbrev runtime_errorAddressString_RuntimeError : Nat := 286
abbrev runtime_TypeAssertionError_Error : Nat := 287
abbrev runtime_TypeAssertionError_RuntimeError : Nat := 288
abbrev runtime_PanicNilError_Error : Nat := 289
abbrev runtime_PanicNilError_RuntimeError : Nat := 290
abbrev internal_abi_Type_Align : Nat := 291
abbrev internal_runtime_maps_unhashableTypeError_Error : Nat := 292
abbrev internal_runtime_maps_unhashableTypeError_RuntimeError : Nat := 293
abbrev api_Errno_Error : Nat := 294
abbrev sessions_Table_AllDown : Nat := 295
abbrev ref24_Table_AllDown : Nat := 296
abbrev internal_strconv_Error_Error : Nat := 297
abbrev strconv_NumError_Error : Nat := 298
abbrev errors_errorString_Error : Nat := 299
abbrev internal_abi_Kind_String : Nat := 300
abbrev var_s_door_gosem_cut_vars_holds_initialisers_alone_see_the_manifest_s_row_cutvarsword_look_11_test_files_too : Nat := 301
abbrev var_s_door_internal_strconv_uint64pow10_is_laid_by_its_own_initialiser_plain_data_look_11 : Nat := 302
abbrev var_s_door_math_bits_deBruijn32tab_is_laid_by_its_own_initialiser_plain_data_look_11 : Nat := 303
abbrev var_s_door_math_bits_deBruijn64tab_is_laid_by_its_own_initialiser_plain_data_look_11 : Nat := 304
abbrev var_s_door_strconv_ErrRange_is_laid_by_its_own_call_of_errors_New_on_one_literal_look_11 : Nat := 305
abbrev var_s_door_strconv_ErrSyntax_is_laid_by_its_own_call_of_errors_New_on_one_literal_look_11 : Nat := 306
abbrev var_s_door_the_look_of_gosem_cut_vars_went_over_the_folder_that_the_caller_named_as_the_repository_s_root_look_11 : Nat := 307
abbrev gosem_cut_vars : Nat := 308
end F
namespace T
abbrev tup_ : Nat := 0
abbrev func1 : Nat := 1
abbrev int64 : Nat := 2
abbrev int : Nat := 3
abbrev bool : Nat := 4
abbrev uint8 : Nat := 5
abbrev internal_abi_BoundsErrorCode : Nat := 6
abbrev st7 : Nat := 7
abbrev runtime_boundsError : Nat := 8
abbrev string : Nat := 9
abbrev runtime_errorString : Nat := 10
abbrev runtime_plainError : Nat := 11
abbrev uintptr : Nat := 12
abbrev st13 : Nat := 13
abbrev runtime_errorAddressString : Nat := 14
abbrev p_runtime_TypeAssertionError : Nat := 15
abbrev p_runtime_PanicNilError : Nat := 16
abbrev p_internal_abi_Type : Nat := 17
abbrev st18 : Nat := 18
abbrev internal_runtime_maps_unhashableTypeError : Nat := 19
abbrev interface20 : Nat := 20
abbrev int32 : Nat := 21
abbrev s_law21_Op : Nat := 22
abbrev uint64 : Nat := 23
abbrev st24 : Nat := 24
abbrev eid_Eid : Nat := 25
abbrev p_copies_Table : Nat := 26
abbrev func27 : Nat := 27
abbrev p_ref21_Table : Nat := 28
abbrev s_ref21_Copy : Nat := 29
abbrev st30 : Nat := 30
abbrev ref21_Table : Nat := 31
abbrev func32 : Nat := 32
abbrev func33 : Nat := 33
abbrev s_uint8 : Nat := 34
abbrev st35 : Nat := 35
abbrev law21_Op : Nat := 36
abbrev func37 : Nat := 37
abbrev func38 : Nat := 38
abbrev func39 : Nat := 39
abbrev func40 : Nat := 40
abbrev ref04_Eid : Nat := 41
abbrev func42 : Nat := 42
abbrev m_int_p_copies_Copy : Nat := 43
abbrev p_alarm_Alarm : Nat := 44
abbrev st45 : Nat := 45
abbrev copies_Table : Nat := 46
abbrev api_Errno : Nat := 47
abbrev tup_int_api_Errno : Nat := 48
abbrev func49 : Nat := 49
abbrev func50 : Nat := 50
abbrev st51 : Nat := 51
abbrev copies_Copy : Nat := 52
abbrev tup_copies_Copy_api_Errno : Nat := 53
abbrev func54 : Nat := 54
abbrev func55 : Nat := 55
abbrev s_s_uint8 : Nat := 56
abbrev func57 : Nat := 57
abbrev func58 : Nat := 58
abbrev s_int : Nat := 59
abbrev func60 : Nat := 60
abbrev func61 : Nat := 61
abbrev s_copies_Copy : Nat := 62
abbrev func63 : Nat := 63
abbrev a6_int : Nat := 64
abbrev func65 : Nat := 65
abbrev func66 : Nat := 66
abbrev s_law22_Op : Nat := 67
abbrev p_regs_Table : Nat := 68
abbrev func69 : Nat := 69
abbrev st70 : Nat := 70
abbrev law22_Op : Nat := 71
abbrev st72 : Nat := 72
abbrev regs_Reg : Nat := 73
abbrev tup_regs_Reg_bool : Nat := 74
abbrev func75 : Nat := 75
abbrev func76 : Nat := 76
abbrev func77 : Nat := 77
abbrev func78 : Nat := 78
abbrev tup_p_regs_Table_api_Errno : Nat := 79
abbrev func80 : Nat := 80
abbrev func81 : Nat := 81
abbrev func82 : Nat := 82
abbrev tup_p_copies_Table_api_Errno : Nat := 83
abbrev func84 : Nat := 84
abbrev func85 : Nat := 85
abbrev s_law26_Op : Nat := 86
abbrev p_state_State : Nat := 87
abbrev tup_p_state_State_api_Errno : Nat := 88
abbrev func89 : Nat := 89
abbrev func90 : Nat := 90
abbrev p_ref26_State : Nat := 91
abbrev func92 : Nat := 92
abbrev st93 : Nat := 93
abbrev law26_Op : Nat := 94
abbrev func95 : Nat := 95
abbrev func96 : Nat := 96
abbrev p_sessions_Table : Nat := 97
abbrev p_outbox_Box : Nat := 98
abbrev p_quota_Purse : Nat := 99
abbrev p_ident_Maker : Nat := 100
abbrev st101 : Nat := 101
abbrev state_State : Nat := 102
abbrev func103 : Nat := 103
abbrev st104 : Nat := 104
abbrev outbox_Item : Nat := 105
abbrev tup_outbox_Item_api_Errno : Nat := 106
abbrev func107 : Nat := 107
abbrev func108 : Nat := 108
abbrev func109 : Nat := 109
abbrev uint16 : Nat := 110
abbrev func111 : Nat := 111
abbrev a5_int : Nat := 112
abbrev func113 : Nat := 113
abbrev func114 : Nat := 114
abbrev func115 : Nat := 115
abbrev func116 : Nat := 116
abbrev func117 : Nat := 117
abbrev func118 : Nat := 118
abbrev func119 : Nat := 119
abbrev func120 : Nat := 120
abbrev st121 : Nat := 121
abbrev ref21_Copy : Nat := 122
abbrev func123 : Nat := 123
abbrev func124 : Nat := 124
abbrev func125 : Nat := 125
abbrev func126 : Nat := 126
abbrev func127 : Nat := 127
abbrev p_copies_Copy : Nat := 128
abbrev func129 : Nat := 129
abbrev func130 : Nat := 130
abbrev func131 : Nat := 131
abbrev func132 : Nat := 132
abbrev func133 : Nat := 133
abbrev p_fields_Writer : Nat := 134
abbrev func135 : Nat := 135
abbrev func136 : Nat := 136
abbrev func137 : Nat := 137
abbrev func138 : Nat := 138
abbrev func139 : Nat := 139
abbrev func140 : Nat := 140
abbrev func141 : Nat := 141
abbrev func142 : Nat := 142
abbrev tup_p_copies_Copy_api_Errno : Nat := 143
abbrev func144 : Nat := 144
abbrev func145 : Nat := 145
abbrev m_eid_Eid_regs_Reg : Nat := 146
abbrev st147 : Nat := 147
abbrev regs_Table : Nat := 148
abbrev func149 : Nat := 149
abbrev tup_regs_Reg_api_Errno : Nat := 150
abbrev func151 : Nat := 151
abbrev s_regs_Reg : Nat := 152
abbrev func153 : Nat := 153
abbrev func154 : Nat := 154
abbrev p_fields_Reader : Nat := 155
abbrev func156 : Nat := 156
abbrev tup_eid_Eid_api_Errno : Nat := 157
abbrev func158 : Nat := 158
abbrev func159 : Nat := 159
abbrev func160 : Nat := 160
abbrev func161 : Nat := 161
abbrev tup_int_bool : Nat := 162
abbrev func163 : Nat := 163
abbrev func164 : Nat := 164
abbrev tup_p_ident_Maker_api_Errno : Nat := 165
abbrev func166 : Nat := 166
abbrev tup_p_quota_Purse_api_Errno : Nat := 167
abbrev func168 : Nat := 168
abbrev func169 : Nat := 169
abbrev func170 : Nat := 170
abbrev func171 : Nat := 171
abbrev p_ref24_Table : Nat := 172
abbrev s_ref24_Session : Nat := 173
abbrev st174 : Nat := 174
abbrev ref24_Table : Nat := 175
abbrev p_ref22_Table : Nat := 176
abbrev s_ref22_Reg : Nat := 177
abbrev st178 : Nat := 178
abbrev ref22_Table : Nat := 179
abbrev p_ref23_Box : Nat := 180
abbrev s_ref23_Item : Nat := 181
abbrev st182 : Nat := 182
abbrev ref23_Box : Nat := 183
abbrev st184 : Nat := 184
abbrev ref05_Ident : Nat := 185
abbrev st186 : Nat := 186
abbrev ref26_State : Nat := 187
abbrev st188 : Nat := 188
abbrev ref23_Item : Nat := 189
abbrev func190 : Nat := 190
abbrev s_outbox_Item : Nat := 191
abbrev func192 : Nat := 192
abbrev func193 : Nat := 193
abbrev func194 : Nat := 194
abbrev func195 : Nat := 195
abbrev func196 : Nat := 196
abbrev st197 : Nat := 197
abbrev ident_Ident : Nat := 198
abbrev func199 : Nat := 199
abbrev tup_string_api_Errno : Nat := 200
abbrev func201 : Nat := 201
abbrev a4_s_s_uint8 : Nat := 202
abbrev func203 : Nat := 203
abbrev func204 : Nat := 204
abbrev func205 : Nat := 205
abbrev s_s_s_uint8 : Nat := 206
abbrev st207 : Nat := 207
abbrev outbox_Box : Nat := 208
abbrev m_int_int : Nat := 209
abbrev st210 : Nat := 210
abbrev quota_Purse : Nat := 211
abbrev func212 : Nat := 212
abbrev a4_int : Nat := 213
abbrev func214 : Nat := 214
abbrev func215 : Nat := 215
abbrev s_alarm_entry : Nat := 216
abbrev st217 : Nat := 217
abbrev alarm_Alarm : Nat := 218
abbrev func219 : Nat := 219
abbrev func220 : Nat := 220
abbrev func221 : Nat := 221
abbrev func222 : Nat := 222
abbrev func223 : Nat := 223
abbrev st224 : Nat := 224
abbrev alarm_entry : Nat := 225
abbrev func226 : Nat := 226
abbrev st227 : Nat := 227
abbrev fields_Writer : Nat := 228
abbrev func229 : Nat := 229
abbrev func230 : Nat := 230
abbrev tup_int_uint64_bool : Nat := 231
abbrev func232 : Nat := 232
abbrev func233 : Nat := 233
abbrev func234 : Nat := 234
abbrev func235 : Nat := 235
abbrev st236 : Nat := 236
abbrev fields_fault : Nat := 237
abbrev st238 : Nat := 238
abbrev fields_Reader : Nat := 239
abbrev tup_string_bool : Nat := 240
abbrev func241 : Nat := 241
abbrev tup_eid_Eid_bool : Nat := 242
abbrev func243 : Nat := 243
abbrev func244 : Nat := 244
abbrev func245 : Nat := 245
abbrev st246 : Nat := 246
abbrev ident_Maker : Nat := 247
abbrev s_p_sessions_Session : Nat := 248
abbrev st249 : Nat := 249
abbrev sessions_Table : Nat := 250
abbrev func251 : Nat := 251
abbrev p_sessions_Session : Nat := 252
abbrev func253 : Nat := 253
abbrev s_sessions_Answer : Nat := 254
abbrev st255 : Nat := 255
abbrev sessions_Session : Nat := 256
abbrev func257 : Nat := 257
abbrev s_ref24_Answer : Nat := 258
abbrev st259 : Nat := 259
abbrev ref24_Session : Nat := 260
abbrev s_uint64 : Nat := 261
abbrev func262 : Nat := 262
abbrev func263 : Nat := 263
abbrev func264 : Nat := 264
abbrev func265 : Nat := 265
abbrev s_sessions_Session : Nat := 266
abbrev func267 : Nat := 267
abbrev func268 : Nat := 268
abbrev st269 : Nat := 269
abbrev sessions_Answer : Nat := 270
abbrev uint : Nat := 271
abbrev func272 : Nat := 272
abbrev func273 : Nat := 273
abbrev func274 : Nat := 274
abbrev func275 : Nat := 275
abbrev iter_Seq2_int_s_s_byte : Nat := 276
abbrev func277 : Nat := 277
abbrev tup_p_sessions_Table_api_Errno : Nat := 278
abbrev func279 : Nat := 279
abbrev tup_p_outbox_Box_api_Errno : Nat := 280
abbrev func281 : Nat := 281
abbrev func282 : Nat := 282
abbrev func283 : Nat := 283
abbrev func284 : Nat := 284
abbrev func285 : Nat := 285
abbrev func286 : Nat := 286
abbrev func287 : Nat := 287
abbrev tup_string_string_bool : Nat := 288
abbrev func289 : Nat := 289
abbrev interface290 : Nat := 290
abbrev error : Nat := 291
abbrev tup_uint64_error : Nat := 292
abbrev func293 : Nat := 293
abbrev p_fields_fault : Nat := 294
abbrev func295 : Nat := 295
abbrev ref24_Answer : Nat := 296
abbrev st297 : Nat := 297
abbrev ref22_Reg : Nat := 298
abbrev func299 : Nat := 299
abbrev func300 : Nat := 300
abbrev p_sessions_loader : Nat := 301
abbrev st302 : Nat := 302
abbrev sessions_loader : Nat := 303
abbrev func304 : Nat := 304
abbrev a2_int : Nat := 305
abbrev func306 : Nat := 306
abbrev slices_sortedHint : Nat := 307
abbrev tup_int_slices_sortedHint : Nat := 308
abbrev func309 : Nat := 309
abbrev func310 : Nat := 310
abbrev func311 : Nat := 311
abbrev func312 : Nat := 312
abbrev func313 : Nat := 313
abbrev uint32 : Nat := 314
abbrev func315 : Nat := 315
abbrev func316 : Nat := 316
abbrev func317 : Nat := 317
abbrev func318 : Nat := 318
abbrev func319 : Nat := 319
abbrev func320 : Nat := 320
abbrev func321 : Nat := 321
abbrev s_s_outbox_Item : Nat := 322
abbrev func323 : Nat := 323
abbrev func324 : Nat := 324
abbrev a24_uint8 : Nat := 325
abbrev func326 : Nat := 326
abbrev tup_s_uint8_string : Nat := 327
abbrev func328 : Nat := 328
abbrev func329 : Nat := 329
abbrev func330 : Nat := 330
abbrev tup_s_uint8_bool : Nat := 331
abbrev func332 : Nat := 332
abbrev func333 : Nat := 333
abbrev func334 : Nat := 334
abbrev slices_xorshift : Nat := 335
abbrev func336 : Nat := 336
abbrev func337 : Nat := 337
abbrev p_int : Nat := 338
abbrev func339 : Nat := 339
abbrev func340 : Nat := 340
abbrev func341 : Nat := 341
abbrev func342 : Nat := 342
abbrev internal_strconv_Error : Nat := 343
abbrev func344 : Nat := 344
abbrev func345 : Nat := 345
abbrev p_strconv_NumError : Nat := 346
abbrev func347 : Nat := 347
abbrev func348 : Nat := 348
abbrev func349 : Nat := 349
abbrev a20_uint64 : Nat := 350
abbrev a65_uint8 : Nat := 351
abbrev tup_p_sessions_Session_api_Errno : Nat := 352
abbrev func353 : Nat := 353
abbrev func354 : Nat := 354
abbrev func355 : Nat := 355
abbrev func356 : Nat := 356
abbrev func357 : Nat := 357
abbrev p_slices_xorshift : Nat := 358
abbrev tup_int_int : Nat := 359
abbrev func360 : Nat := 360
abbrev func361 : Nat := 361
abbrev func362 : Nat := 362
abbrev func363 : Nat := 363
abbrev st364 : Nat := 364
abbrev strconv_NumError : Nat := 365
abbrev func366 : Nat := 366
abbrev tup_uint32_uint32 : Nat := 367
abbrev func368 : Nat := 368
abbrev p_uint8 : Nat := 369
abbrev p_errors_errorString : Nat := 370
abbrev st371 : Nat := 371
abbrev errors_errorString : Nat := 372
abbrev a32_uint8 : Nat := 373
abbrev a64_uint8 : Nat := 374
abbrev func375 : Nat := 375
abbrev func376 : Nat := 376
abbrev st377 : Nat := 377
abbrev runtime_TypeAssertionError : Nat := 378
abbrev a0_p_runtime_PanicNilError : Nat := 379
abbrev st380 : Nat := 380
abbrev runtime_PanicNilError : Nat := 381
abbrev internal_abi_TFlag : Nat := 382
abbrev internal_abi_Kind : Nat := 383
abbrev func384 : Nat := 384
abbrev internal_abi_NameOff : Nat := 385
abbrev internal_abi_TypeOff : Nat := 386
abbrev st387 : Nat := 387
abbrev internal_abi_Type : Nat := 388
abbrev unsafePointer389 : Nat := 389
end T
abbrev a6_int.LD (h : Heap) (a : Addr) (K : Int → Int → Int → Int → Int → Int → Prop) : Prop := ∃ (t0 : Int), hcell h a = some (.int .i64 t0) ∧ ∃ (t1 : Int), hcell h (a.add 1) = some (.int .i64 t1) ∧ ∃ (t2 : Int), hcell h (a.add 2) = some (.int .i64 t2) ∧ ∃ (t3 : Int), hcell h (a.add 3) = some (.int .i64 t3) ∧ ∃ (t4 : Int), hcell h (a.add 4) = some (.int .i64 t4) ∧ ∃ (t5 : Int), hcell h (a.add 5) = some (.int .i64 t5) ∧ K t0 t1 t2 t3 t4 t5
abbrev a6_int.ST (h : Heap) (a : Addr) (f0 : Int) (f1 : Int) (f2 : Int) (f3 : Int) (f4 : Int) (f5 : Int) (K : Heap → Prop) : Prop := StoreP h a (.int .i64 f0) fun h_1 => StoreP h_1 (a.add 1) (.int .i64 f1) fun h_2 => StoreP h_2 (a.add 2) (.int .i64 f2) fun h_3 => StoreP h_3 (a.add 3) (.int .i64 f3) fun h_4 => StoreP h_4 (a.add 4) (.int .i64 f4) fun h_5 => StoreP h_5 (a.add 5) (.int .i64 f5) fun h_6 => K h_6
abbrev copies_Copy.LD (h : Heap) (a : Addr) (K : Int → Bool → Int → Int → ByteArray → ByteArray → Option Addr → Nat → Nat → Int → Int → Int → Prop) : Prop := ∃ (t0 : Int), hcell h a = some (.int .i64 t0) ∧ ∃ (t1 : Bool), hcell h (a.add 1) = some (.bool t1) ∧ ∃ (t2 : Int), hcell h (a.add 2) = some (.int .u64 t2) ∧ ∃ (t3 : Int), hcell h (a.add 3) = some (.int .u64 t3) ∧ ∃ (t4 : ByteArray), hcell h (a.add 4) = some (.string t4) ∧ ∃ (t5 : ByteArray), hcell h (a.add 5) = some (.string t5) ∧ ∃ (t6p : Option Addr) (t6l t6c : Nat), hcell h (a.add 6) = some (.slice t6p t6l t6c) ∧ ∃ (t7 : Int), hcell h (a.add 7) = some (.int .u64 t7) ∧ ∃ (t8 : Int), hcell h (a.add 8) = some (.int .i64 t8) ∧ ∃ (t9 : Int), hcell h (a.add 9) = some (.int .u64 t9) ∧ K t0 t1 t2 t3 t4 t5 t6p t6l t6c t7 t8 t9
abbrev copies_Copy.ST (h : Heap) (a : Addr) (f0 : Int) (f1 : Bool) (f2 : Int) (f3 : Int) (f4 : ByteArray) (f5 : ByteArray) (f6p : Option Addr) (f6l f6c : Nat) (f7 : Int) (f8 : Int) (f9 : Int) (K : Heap → Prop) : Prop := StoreP h a (.int .i64 f0) fun h_1 => StoreP h_1 (a.add 1) (.bool f1) fun h_2 => StoreP h_2 (a.add 2) (.int .u64 f2) fun h_3 => StoreP h_3 (a.add 3) (.int .u64 f3) fun h_4 => StoreP h_4 (a.add 4) (.string f4) fun h_5 => StoreP h_5 (a.add 5) (.string f5) fun h_6 => StoreP h_6 (a.add 6) (.slice f6p f6l f6c) fun h_7 => StoreP h_7 (a.add 7) (.int .u64 f7) fun h_8 => StoreP h_8 (a.add 8) (.int .i64 f8) fun h_9 => StoreP h_9 (a.add 9) (.int .u64 f9) fun h_10 => K h_10
abbrev eid_Eid.LD (h : Heap) (a : Addr) (K : Bool → Int → Int → ByteArray → ByteArray → Prop) : Prop := ∃ (t0 : Bool), hcell h a = some (.bool t0) ∧ ∃ (t1 : Int), hcell h (a.add 1) = some (.int .u64 t1) ∧ ∃ (t2 : Int), hcell h (a.add 2) = some (.int .u64 t2) ∧ ∃ (t3 : ByteArray), hcell h (a.add 3) = some (.string t3) ∧ ∃ (t4 : ByteArray), hcell h (a.add 4) = some (.string t4) ∧ K t0 t1 t2 t3 t4
abbrev eid_Eid.ST (h : Heap) (a : Addr) (f0 : Bool) (f1 : Int) (f2 : Int) (f3 : ByteArray) (f4 : ByteArray) (K : Heap → Prop) : Prop := StoreP h a (.bool f0) fun h_1 => StoreP h_1 (a.add 1) (.int .u64 f1) fun h_2 => StoreP h_2 (a.add 2) (.int .u64 f2) fun h_3 => StoreP h_3 (a.add 3) (.string f3) fun h_4 => StoreP h_4 (a.add 4) (.string f4) fun h_5 => K h_5
abbrev law21_Op.LD (h : Heap) (a : Addr) (K : Int → Int → Int → Bool → Int → Int → ByteArray → ByteArray → Option Addr → Nat → Nat → Int → Prop) : Prop := ∃ (t0 : Int), hcell h a = some (.int .i64 t0) ∧ ∃ (t1 : Int), hcell h (a.add 1) = some (.int .i64 t1) ∧ ∃ (t2 : Int), hcell h (a.add 2) = some (.int .i64 t2) ∧ ∃ (t3 : Bool), hcell h (a.add 3) = some (.bool t3) ∧ ∃ (t4 : Int), hcell h (a.add 4) = some (.int .u64 t4) ∧ ∃ (t5 : Int), hcell h (a.add 5) = some (.int .u64 t5) ∧ ∃ (t6 : ByteArray), hcell h (a.add 6) = some (.string t6) ∧ ∃ (t7 : ByteArray), hcell h (a.add 7) = some (.string t7) ∧ ∃ (t8p : Option Addr) (t8l t8c : Nat), hcell h (a.add 8) = some (.slice t8p t8l t8c) ∧ ∃ (t9 : Int), hcell h (a.add 9) = some (.int .u64 t9) ∧ K t0 t1 t2 t3 t4 t5 t6 t7 t8p t8l t8c t9
abbrev law21_Op.ST (h : Heap) (a : Addr) (f0 : Int) (f1 : Int) (f2 : Int) (f3 : Bool) (f4 : Int) (f5 : Int) (f6 : ByteArray) (f7 : ByteArray) (f8p : Option Addr) (f8l f8c : Nat) (f9 : Int) (K : Heap → Prop) : Prop := StoreP h a (.int .i64 f0) fun h_1 => StoreP h_1 (a.add 1) (.int .i64 f1) fun h_2 => StoreP h_2 (a.add 2) (.int .i64 f2) fun h_3 => StoreP h_3 (a.add 3) (.bool f3) fun h_4 => StoreP h_4 (a.add 4) (.int .u64 f4) fun h_5 => StoreP h_5 (a.add 5) (.int .u64 f5) fun h_6 => StoreP h_6 (a.add 6) (.string f6) fun h_7 => StoreP h_7 (a.add 7) (.string f7) fun h_8 => StoreP h_8 (a.add 8) (.slice f8p f8l f8c) fun h_9 => StoreP h_9 (a.add 9) (.int .u64 f9) fun h_10 => K h_10
abbrev law22_Op.LD (h : Heap) (a : Addr) (K : Int → Int → Int → Bool → Int → Int → ByteArray → ByteArray → Prop) : Prop := ∃ (t0 : Int), hcell h a = some (.int .i64 t0) ∧ ∃ (t1 : Int), hcell h (a.add 1) = some (.int .i64 t1) ∧ ∃ (t2 : Int), hcell h (a.add 2) = some (.int .i64 t2) ∧ ∃ (t3 : Bool), hcell h (a.add 3) = some (.bool t3) ∧ ∃ (t4 : Int), hcell h (a.add 4) = some (.int .u64 t4) ∧ ∃ (t5 : Int), hcell h (a.add 5) = some (.int .u64 t5) ∧ ∃ (t6 : ByteArray), hcell h (a.add 6) = some (.string t6) ∧ ∃ (t7 : ByteArray), hcell h (a.add 7) = some (.string t7) ∧ K t0 t1 t2 t3 t4 t5 t6 t7
abbrev law22_Op.ST (h : Heap) (a : Addr) (f0 : Int) (f1 : Int) (f2 : Int) (f3 : Bool) (f4 : Int) (f5 : Int) (f6 : ByteArray) (f7 : ByteArray) (K : Heap → Prop) : Prop := StoreP h a (.int .i64 f0) fun h_1 => StoreP h_1 (a.add 1) (.int .i64 f1) fun h_2 => StoreP h_2 (a.add 2) (.int .i64 f2) fun h_3 => StoreP h_3 (a.add 3) (.bool f3) fun h_4 => StoreP h_4 (a.add 4) (.int .u64 f4) fun h_5 => StoreP h_5 (a.add 5) (.int .u64 f5) fun h_6 => StoreP h_6 (a.add 6) (.string f6) fun h_7 => StoreP h_7 (a.add 7) (.string f7) fun h_8 => K h_8
abbrev ref04_Eid.LD (h : Heap) (a : Addr) (K : Bool → Int → Int → ByteArray → ByteArray → Prop) : Prop := ∃ (t0 : Bool), hcell h a = some (.bool t0) ∧ ∃ (t1 : Int), hcell h (a.add 1) = some (.int .u64 t1) ∧ ∃ (t2 : Int), hcell h (a.add 2) = some (.int .u64 t2) ∧ ∃ (t3 : ByteArray), hcell h (a.add 3) = some (.string t3) ∧ ∃ (t4 : ByteArray), hcell h (a.add 4) = some (.string t4) ∧ K t0 t1 t2 t3 t4
abbrev ref04_Eid.ST (h : Heap) (a : Addr) (f0 : Bool) (f1 : Int) (f2 : Int) (f3 : ByteArray) (f4 : ByteArray) (K : Heap → Prop) : Prop := StoreP h a (.bool f0) fun h_1 => StoreP h_1 (a.add 1) (.int .u64 f1) fun h_2 => StoreP h_2 (a.add 2) (.int .u64 f2) fun h_3 => StoreP h_3 (a.add 3) (.string f3) fun h_4 => StoreP h_4 (a.add 4) (.string f4) fun h_5 => K h_5
abbrev ref21_Copy.LD (h : Heap) (a : Addr) (K : Int → Bool → Int → Int → ByteArray → ByteArray → Option Addr → Nat → Nat → Int → Int → Int → Int → Prop) : Prop := ∃ (t0 : Int), hcell h a = some (.int .i64 t0) ∧ ∃ (t1 : Bool), hcell h (a.add 1) = some (.bool t1) ∧ ∃ (t2 : Int), hcell h (a.add 2) = some (.int .u64 t2) ∧ ∃ (t3 : Int), hcell h (a.add 3) = some (.int .u64 t3) ∧ ∃ (t4 : ByteArray), hcell h (a.add 4) = some (.string t4) ∧ ∃ (t5 : ByteArray), hcell h (a.add 5) = some (.string t5) ∧ ∃ (t6p : Option Addr) (t6l t6c : Nat), hcell h (a.add 6) = some (.slice t6p t6l t6c) ∧ ∃ (t7 : Int), hcell h (a.add 7) = some (.int .u64 t7) ∧ ∃ (t8 : Int), hcell h (a.add 8) = some (.int .i64 t8) ∧ ∃ (t9 : Int), hcell h (a.add 9) = some (.int .u64 t9) ∧ ∃ (t10 : Int), hcell h (a.add 10) = some (.int .i64 t10) ∧ K t0 t1 t2 t3 t4 t5 t6p t6l t6c t7 t8 t9 t10
abbrev ref21_Copy.ST (h : Heap) (a : Addr) (f0 : Int) (f1 : Bool) (f2 : Int) (f3 : Int) (f4 : ByteArray) (f5 : ByteArray) (f6p : Option Addr) (f6l f6c : Nat) (f7 : Int) (f8 : Int) (f9 : Int) (f10 : Int) (K : Heap → Prop) : Prop := StoreP h a (.int .i64 f0) fun h_1 => StoreP h_1 (a.add 1) (.bool f1) fun h_2 => StoreP h_2 (a.add 2) (.int .u64 f2) fun h_3 => StoreP h_3 (a.add 3) (.int .u64 f3) fun h_4 => StoreP h_4 (a.add 4) (.string f4) fun h_5 => StoreP h_5 (a.add 5) (.string f5) fun h_6 => StoreP h_6 (a.add 6) (.slice f6p f6l f6c) fun h_7 => StoreP h_7 (a.add 7) (.int .u64 f7) fun h_8 => StoreP h_8 (a.add 8) (.int .i64 f8) fun h_9 => StoreP h_9 (a.add 9) (.int .u64 f9) fun h_10 => StoreP h_10 (a.add 10) (.int .i64 f10) fun h_11 => K h_11
abbrev regs_Reg.LD (h : Heap) (a : Addr) (K : Bool → Int → Int → ByteArray → ByteArray → Int → Int → Prop) : Prop := ∃ (t0 : Bool), hcell h a = some (.bool t0) ∧ ∃ (t1 : Int), hcell h (a.add 1) = some (.int .u64 t1) ∧ ∃ (t2 : Int), hcell h (a.add 2) = some (.int .u64 t2) ∧ ∃ (t3 : ByteArray), hcell h (a.add 3) = some (.string t3) ∧ ∃ (t4 : ByteArray), hcell h (a.add 4) = some (.string t4) ∧ ∃ (t5 : Int), hcell h (a.add 5) = some (.int .i64 t5) ∧ ∃ (t6 : Int), hcell h (a.add 6) = some (.int .i64 t6) ∧ K t0 t1 t2 t3 t4 t5 t6
abbrev regs_Reg.ST (h : Heap) (a : Addr) (f0 : Bool) (f1 : Int) (f2 : Int) (f3 : ByteArray) (f4 : ByteArray) (f5 : Int) (f6 : Int) (K : Heap → Prop) : Prop := StoreP h a (.bool f0) fun h_1 => StoreP h_1 (a.add 1) (.int .u64 f1) fun h_2 => StoreP h_2 (a.add 2) (.int .u64 f2) fun h_3 => StoreP h_3 (a.add 3) (.string f3) fun h_4 => StoreP h_4 (a.add 4) (.string f4) fun h_5 => StoreP h_5 (a.add 5) (.int .i64 f5) fun h_6 => StoreP h_6 (a.add 6) (.int .i64 f6) fun h_7 => K h_7
end Go.Proofs.YtgccegnmggjkjaaGreatDoor

/-
  Printed by a program of this work (vc.py): the verification conditions of functions, and that each is enough for the call. No condition.
-/
set_option maxRecDepth 100000
set_option maxHeartbeats 4000000
namespace Go.Proofs.YtgccegnmggjkjaaGreatDoor
open Go.Den
def eid_Eid.at (h : Heap) (b : Nat) (f0 : Bool) (f1 : Int) (f2 : Int) (f3 : ByteArray) (f4 : ByteArray) : Prop := h[b]? = some (.cells #[.bool f0, .int .u64 f1, .int .u64 f2, .string f3, .string f4] T.eid_Eid (0, 0))
theorem eid_Eid.ld {h : Heap} {b : Nat} {f0 : Bool} {f1 : Int} {f2 : Int} {f3 : ByteArray} {f4 : ByteArray} {K : Bool → Int → Int → ByteArray → ByteArray → Prop} (hb : eid_Eid.at h b f0 f1 f2 f3 f4) (hk : K f0 f1 f2 f3 f4) : eid_Eid.LD h ⟨b, 0, none⟩ K :=
  ⟨_, cell_at hb rfl, _, cell_at hb rfl, _, cell_at hb rfl, _, cell_at hb rfl, _, cell_at hb rfl, hk⟩
theorem eid_Eid.ldA {h : Heap} {a : Addr} {f0 : Bool} {f1 : Int} {f2 : Int} {f3 : ByteArray} {f4 : ByteArray} {K : Bool → Int → Int → ByteArray → ByteArray → Prop} (hb : heldL a [.bool f0, .int .u64 f1, .int .u64 f2, .string f3, .string f4] 0 h) (hk : K f0 f1 f2 f3 f4) : eid_Eid.LD h a K := by
  obtain ⟨q0, q1, q2, q3, q4, _⟩ := hb
  rw [add_zero_addr] at q0
  exact ⟨_, q0, _, q1, _, q2, _, q3, _, q4, hk⟩
theorem eid_Eid.held {h : Heap} {b : Nat} {f0 : Bool} {f1 : Int} {f2 : Int} {f3 : ByteArray} {f4 : ByteArray} (hb : eid_Eid.at h b f0 f1 f2 f3 f4) : heldL ⟨b, 0, none⟩ [.bool f0, .int .u64 f1, .int .u64 f2, .string f3, .string f4] 0 h :=
  heldL_blk hb (fun j v hj => by rw [Nat.zero_add]; simpa using hj)
theorem eid_Eid.stA {h : Heap} {a : Addr} {f0 : Bool} {f1 : Int} {f2 : Int} {f3 : ByteArray} {f4 : ByteArray} {K : Heap → Prop} (hk : storeL a [.bool f0, .int .u64 f1, .int .u64 f2, .string f3, .string f4] 0 h K) : eid_Eid.ST h a f0 f1 f2 f3 f4 K := hk
theorem eid_Eid.new {h : Heap} {f0 : Bool} {f1 : Int} {f2 : Int} {f3 : ByteArray} {f4 : ByteArray} {K : Nat → Heap → Prop} (hk : ∀ b h', b = h.size → eid_Eid.at h' b f0 f1 f2 f3 f4 → Fr (fun _ => False) h h' → K b h') : NewP h (.cells #[.bool false, .int .u64 0, .int .u64 0, .string (⟨#[]⟩ : ByteArray), .string (⟨#[]⟩ : ByteArray)] T.eid_Eid) fun b h_0 => eid_Eid.ST h_0 ⟨b, 0, none⟩ f0 f1 f2 f3 f4 (K b) :=
  new_full (vs := [.bool f0, .int .u64 f1, .int .u64 f2, .string f3, .string f4]) rfl rfl hk
theorem eid_Eid.box {h : Heap} {f0 : Bool} {f1 : Int} {f2 : Int} {f3 : ByteArray} {f4 : ByteArray} {K : Nat → Heap → Prop} (hk : ∀ b h', b = h.size → eid_Eid.at h' b f0 f1 f2 f3 f4 → Fr (fun _ => False) h h' → K b h') : NewP h (.cells #[.bool f0, .int .u64 f1, .int .u64 f2, .string f3, .string f4] T.eid_Eid) fun b h_0 => K b h_0 :=
  newP_of (hk _ _ rfl push_new (Fr.push _ _))
theorem eid_Eid.set {h : Heap} {b : Nat} {g0 : Bool} {g1 : Int} {g2 : Int} {g3 : ByteArray} {g4 : ByteArray} {f0 : Bool} {f1 : Int} {f2 : Int} {f3 : ByteArray} {f4 : ByteArray} {K : Heap → Prop} (a0 : eid_Eid.at h b g0 g1 g2 g3 g4) (hk : ∀ h', eid_Eid.at h' b f0 f1 f2 f3 f4 → h'.size = h.size → (∀ x, x ≠ b → h'[x]? = h[x]?) → K h') : eid_Eid.ST h ⟨b, 0, none⟩ f0 f1 f2 f3 f4 K :=
  eid_Eid.stA (storeL_full a0 rfl rfl hk)

def regs_Reg.at (h : Heap) (b : Nat) (f0 : Bool) (f1 : Int) (f2 : Int) (f3 : ByteArray) (f4 : ByteArray) (f5 : Int) (f6 : Int) : Prop := h[b]? = some (.cells #[.bool f0, .int .u64 f1, .int .u64 f2, .string f3, .string f4, .int .i64 f5, .int .i64 f6] T.regs_Reg (0, 0))
theorem regs_Reg.ld {h : Heap} {b : Nat} {f0 : Bool} {f1 : Int} {f2 : Int} {f3 : ByteArray} {f4 : ByteArray} {f5 : Int} {f6 : Int} {K : Bool → Int → Int → ByteArray → ByteArray → Int → Int → Prop} (hb : regs_Reg.at h b f0 f1 f2 f3 f4 f5 f6) (hk : K f0 f1 f2 f3 f4 f5 f6) : regs_Reg.LD h ⟨b, 0, none⟩ K :=
  ⟨_, cell_at hb rfl, _, cell_at hb rfl, _, cell_at hb rfl, _, cell_at hb rfl, _, cell_at hb rfl, _, cell_at hb rfl, _, cell_at hb rfl, hk⟩
theorem regs_Reg.ldA {h : Heap} {a : Addr} {f0 : Bool} {f1 : Int} {f2 : Int} {f3 : ByteArray} {f4 : ByteArray} {f5 : Int} {f6 : Int} {K : Bool → Int → Int → ByteArray → ByteArray → Int → Int → Prop} (hb : heldL a [.bool f0, .int .u64 f1, .int .u64 f2, .string f3, .string f4, .int .i64 f5, .int .i64 f6] 0 h) (hk : K f0 f1 f2 f3 f4 f5 f6) : regs_Reg.LD h a K := by
  obtain ⟨q0, q1, q2, q3, q4, q5, q6, _⟩ := hb
  rw [add_zero_addr] at q0
  exact ⟨_, q0, _, q1, _, q2, _, q3, _, q4, _, q5, _, q6, hk⟩
theorem regs_Reg.held {h : Heap} {b : Nat} {f0 : Bool} {f1 : Int} {f2 : Int} {f3 : ByteArray} {f4 : ByteArray} {f5 : Int} {f6 : Int} (hb : regs_Reg.at h b f0 f1 f2 f3 f4 f5 f6) : heldL ⟨b, 0, none⟩ [.bool f0, .int .u64 f1, .int .u64 f2, .string f3, .string f4, .int .i64 f5, .int .i64 f6] 0 h :=
  heldL_blk hb (fun j v hj => by rw [Nat.zero_add]; simpa using hj)
theorem regs_Reg.stA {h : Heap} {a : Addr} {f0 : Bool} {f1 : Int} {f2 : Int} {f3 : ByteArray} {f4 : ByteArray} {f5 : Int} {f6 : Int} {K : Heap → Prop} (hk : storeL a [.bool f0, .int .u64 f1, .int .u64 f2, .string f3, .string f4, .int .i64 f5, .int .i64 f6] 0 h K) : regs_Reg.ST h a f0 f1 f2 f3 f4 f5 f6 K := hk
theorem regs_Reg.new {h : Heap} {f0 : Bool} {f1 : Int} {f2 : Int} {f3 : ByteArray} {f4 : ByteArray} {f5 : Int} {f6 : Int} {K : Nat → Heap → Prop} (hk : ∀ b h', b = h.size → regs_Reg.at h' b f0 f1 f2 f3 f4 f5 f6 → Fr (fun _ => False) h h' → K b h') : NewP h (.cells #[.bool false, .int .u64 0, .int .u64 0, .string (⟨#[]⟩ : ByteArray), .string (⟨#[]⟩ : ByteArray), .int .i64 0, .int .i64 0] T.regs_Reg) fun b h_0 => regs_Reg.ST h_0 ⟨b, 0, none⟩ f0 f1 f2 f3 f4 f5 f6 (K b) :=
  new_full (vs := [.bool f0, .int .u64 f1, .int .u64 f2, .string f3, .string f4, .int .i64 f5, .int .i64 f6]) rfl rfl hk
theorem regs_Reg.box {h : Heap} {f0 : Bool} {f1 : Int} {f2 : Int} {f3 : ByteArray} {f4 : ByteArray} {f5 : Int} {f6 : Int} {K : Nat → Heap → Prop} (hk : ∀ b h', b = h.size → regs_Reg.at h' b f0 f1 f2 f3 f4 f5 f6 → Fr (fun _ => False) h h' → K b h') : NewP h (.cells #[.bool f0, .int .u64 f1, .int .u64 f2, .string f3, .string f4, .int .i64 f5, .int .i64 f6] T.regs_Reg) fun b h_0 => K b h_0 :=
  newP_of (hk _ _ rfl push_new (Fr.push _ _))
theorem regs_Reg.set {h : Heap} {b : Nat} {g0 : Bool} {g1 : Int} {g2 : Int} {g3 : ByteArray} {g4 : ByteArray} {g5 : Int} {g6 : Int} {f0 : Bool} {f1 : Int} {f2 : Int} {f3 : ByteArray} {f4 : ByteArray} {f5 : Int} {f6 : Int} {K : Heap → Prop} (a0 : regs_Reg.at h b g0 g1 g2 g3 g4 g5 g6) (hk : ∀ h', regs_Reg.at h' b f0 f1 f2 f3 f4 f5 f6 → h'.size = h.size → (∀ x, x ≠ b → h'[x]? = h[x]?) → K h') : regs_Reg.ST h ⟨b, 0, none⟩ f0 f1 f2 f3 f4 f5 f6 K :=
  regs_Reg.stA (storeL_full a0 rfl rfl hk)

def copies_Copy.at (h : Heap) (b : Nat) (f0 : Int) (f1 : Bool) (f2 : Int) (f3 : Int) (f4 : ByteArray) (f5 : ByteArray) (f6p : Option Addr) (f6l f6c : Nat) (f7 : Int) (f8 : Int) (f9 : Int) : Prop := h[b]? = some (.cells #[.int .i64 f0, .bool f1, .int .u64 f2, .int .u64 f3, .string f4, .string f5, .slice f6p f6l f6c, .int .u64 f7, .int .i64 f8, .int .u64 f9] T.copies_Copy (0, 0))
theorem copies_Copy.ld {h : Heap} {b : Nat} {f0 : Int} {f1 : Bool} {f2 : Int} {f3 : Int} {f4 : ByteArray} {f5 : ByteArray} {f6p : Option Addr} {f6l f6c : Nat} {f7 : Int} {f8 : Int} {f9 : Int} {K : Int → Bool → Int → Int → ByteArray → ByteArray → Option Addr → Nat → Nat → Int → Int → Int → Prop} (hb : copies_Copy.at h b f0 f1 f2 f3 f4 f5 f6p f6l f6c f7 f8 f9) (hk : K f0 f1 f2 f3 f4 f5 f6p f6l f6c f7 f8 f9) : copies_Copy.LD h ⟨b, 0, none⟩ K :=
  ⟨_, cell_at hb rfl, _, cell_at hb rfl, _, cell_at hb rfl, _, cell_at hb rfl, _, cell_at hb rfl, _, cell_at hb rfl, _, _, _, cell_at hb rfl, _, cell_at hb rfl, _, cell_at hb rfl, _, cell_at hb rfl, hk⟩
theorem copies_Copy.ldA {h : Heap} {a : Addr} {f0 : Int} {f1 : Bool} {f2 : Int} {f3 : Int} {f4 : ByteArray} {f5 : ByteArray} {f6p : Option Addr} {f6l f6c : Nat} {f7 : Int} {f8 : Int} {f9 : Int} {K : Int → Bool → Int → Int → ByteArray → ByteArray → Option Addr → Nat → Nat → Int → Int → Int → Prop} (hb : heldL a [.int .i64 f0, .bool f1, .int .u64 f2, .int .u64 f3, .string f4, .string f5, .slice f6p f6l f6c, .int .u64 f7, .int .i64 f8, .int .u64 f9] 0 h) (hk : K f0 f1 f2 f3 f4 f5 f6p f6l f6c f7 f8 f9) : copies_Copy.LD h a K := by
  obtain ⟨q0, q1, q2, q3, q4, q5, q6, q7, q8, q9, _⟩ := hb
  rw [add_zero_addr] at q0
  exact ⟨_, q0, _, q1, _, q2, _, q3, _, q4, _, q5, _, _, _, q6, _, q7, _, q8, _, q9, hk⟩
theorem copies_Copy.held {h : Heap} {b : Nat} {f0 : Int} {f1 : Bool} {f2 : Int} {f3 : Int} {f4 : ByteArray} {f5 : ByteArray} {f6p : Option Addr} {f6l f6c : Nat} {f7 : Int} {f8 : Int} {f9 : Int} (hb : copies_Copy.at h b f0 f1 f2 f3 f4 f5 f6p f6l f6c f7 f8 f9) : heldL ⟨b, 0, none⟩ [.int .i64 f0, .bool f1, .int .u64 f2, .int .u64 f3, .string f4, .string f5, .slice f6p f6l f6c, .int .u64 f7, .int .i64 f8, .int .u64 f9] 0 h :=
  heldL_blk hb (fun j v hj => by rw [Nat.zero_add]; simpa using hj)
theorem copies_Copy.stA {h : Heap} {a : Addr} {f0 : Int} {f1 : Bool} {f2 : Int} {f3 : Int} {f4 : ByteArray} {f5 : ByteArray} {f6p : Option Addr} {f6l f6c : Nat} {f7 : Int} {f8 : Int} {f9 : Int} {K : Heap → Prop} (hk : storeL a [.int .i64 f0, .bool f1, .int .u64 f2, .int .u64 f3, .string f4, .string f5, .slice f6p f6l f6c, .int .u64 f7, .int .i64 f8, .int .u64 f9] 0 h K) : copies_Copy.ST h a f0 f1 f2 f3 f4 f5 f6p f6l f6c f7 f8 f9 K := hk
theorem copies_Copy.new {h : Heap} {f0 : Int} {f1 : Bool} {f2 : Int} {f3 : Int} {f4 : ByteArray} {f5 : ByteArray} {f6p : Option Addr} {f6l f6c : Nat} {f7 : Int} {f8 : Int} {f9 : Int} {K : Nat → Heap → Prop} (hk : ∀ b h', b = h.size → copies_Copy.at h' b f0 f1 f2 f3 f4 f5 f6p f6l f6c f7 f8 f9 → Fr (fun _ => False) h h' → K b h') : NewP h (.cells #[.int .i64 0, .bool false, .int .u64 0, .int .u64 0, .string (⟨#[]⟩ : ByteArray), .string (⟨#[]⟩ : ByteArray), .slice none 0 0, .int .u64 0, .int .i64 0, .int .u64 0] T.copies_Copy) fun b h_0 => copies_Copy.ST h_0 ⟨b, 0, none⟩ f0 f1 f2 f3 f4 f5 f6p f6l f6c f7 f8 f9 (K b) :=
  new_full (vs := [.int .i64 f0, .bool f1, .int .u64 f2, .int .u64 f3, .string f4, .string f5, .slice f6p f6l f6c, .int .u64 f7, .int .i64 f8, .int .u64 f9]) rfl rfl hk
theorem copies_Copy.box {h : Heap} {f0 : Int} {f1 : Bool} {f2 : Int} {f3 : Int} {f4 : ByteArray} {f5 : ByteArray} {f6p : Option Addr} {f6l f6c : Nat} {f7 : Int} {f8 : Int} {f9 : Int} {K : Nat → Heap → Prop} (hk : ∀ b h', b = h.size → copies_Copy.at h' b f0 f1 f2 f3 f4 f5 f6p f6l f6c f7 f8 f9 → Fr (fun _ => False) h h' → K b h') : NewP h (.cells #[.int .i64 f0, .bool f1, .int .u64 f2, .int .u64 f3, .string f4, .string f5, .slice f6p f6l f6c, .int .u64 f7, .int .i64 f8, .int .u64 f9] T.copies_Copy) fun b h_0 => K b h_0 :=
  newP_of (hk _ _ rfl push_new (Fr.push _ _))
theorem copies_Copy.set {h : Heap} {b : Nat} {g0 : Int} {g1 : Bool} {g2 : Int} {g3 : Int} {g4 : ByteArray} {g5 : ByteArray} {g6p : Option Addr} {g6l g6c : Nat} {g7 : Int} {g8 : Int} {g9 : Int} {f0 : Int} {f1 : Bool} {f2 : Int} {f3 : Int} {f4 : ByteArray} {f5 : ByteArray} {f6p : Option Addr} {f6l f6c : Nat} {f7 : Int} {f8 : Int} {f9 : Int} {K : Heap → Prop} (a0 : copies_Copy.at h b g0 g1 g2 g3 g4 g5 g6p g6l g6c g7 g8 g9) (hk : ∀ h', copies_Copy.at h' b f0 f1 f2 f3 f4 f5 f6p f6l f6c f7 f8 f9 → h'.size = h.size → (∀ x, x ≠ b → h'[x]? = h[x]?) → K h') : copies_Copy.ST h ⟨b, 0, none⟩ f0 f1 f2 f3 f4 f5 f6p f6l f6c f7 f8 f9 K :=
  copies_Copy.stA (storeL_full a0 rfl rfl hk)

def a6_int.at (h : Heap) (b : Nat) (f0 : Int) (f1 : Int) (f2 : Int) (f3 : Int) (f4 : Int) (f5 : Int) : Prop := h[b]? = some (.cells #[.int .i64 f0, .int .i64 f1, .int .i64 f2, .int .i64 f3, .int .i64 f4, .int .i64 f5] T.a6_int (0, 0))
theorem a6_int.ld {h : Heap} {b : Nat} {f0 : Int} {f1 : Int} {f2 : Int} {f3 : Int} {f4 : Int} {f5 : Int} {K : Int → Int → Int → Int → Int → Int → Prop} (hb : a6_int.at h b f0 f1 f2 f3 f4 f5) (hk : K f0 f1 f2 f3 f4 f5) : a6_int.LD h ⟨b, 0, none⟩ K :=
  ⟨_, cell_at hb rfl, _, cell_at hb rfl, _, cell_at hb rfl, _, cell_at hb rfl, _, cell_at hb rfl, _, cell_at hb rfl, hk⟩
theorem a6_int.ldA {h : Heap} {a : Addr} {f0 : Int} {f1 : Int} {f2 : Int} {f3 : Int} {f4 : Int} {f5 : Int} {K : Int → Int → Int → Int → Int → Int → Prop} (hb : heldL a [.int .i64 f0, .int .i64 f1, .int .i64 f2, .int .i64 f3, .int .i64 f4, .int .i64 f5] 0 h) (hk : K f0 f1 f2 f3 f4 f5) : a6_int.LD h a K := by
  obtain ⟨q0, q1, q2, q3, q4, q5, _⟩ := hb
  rw [add_zero_addr] at q0
  exact ⟨_, q0, _, q1, _, q2, _, q3, _, q4, _, q5, hk⟩
theorem a6_int.held {h : Heap} {b : Nat} {f0 : Int} {f1 : Int} {f2 : Int} {f3 : Int} {f4 : Int} {f5 : Int} (hb : a6_int.at h b f0 f1 f2 f3 f4 f5) : heldL ⟨b, 0, none⟩ [.int .i64 f0, .int .i64 f1, .int .i64 f2, .int .i64 f3, .int .i64 f4, .int .i64 f5] 0 h :=
  heldL_blk hb (fun j v hj => by rw [Nat.zero_add]; simpa using hj)
theorem a6_int.stA {h : Heap} {a : Addr} {f0 : Int} {f1 : Int} {f2 : Int} {f3 : Int} {f4 : Int} {f5 : Int} {K : Heap → Prop} (hk : storeL a [.int .i64 f0, .int .i64 f1, .int .i64 f2, .int .i64 f3, .int .i64 f4, .int .i64 f5] 0 h K) : a6_int.ST h a f0 f1 f2 f3 f4 f5 K := hk
theorem a6_int.new {h : Heap} {f0 : Int} {f1 : Int} {f2 : Int} {f3 : Int} {f4 : Int} {f5 : Int} {K : Nat → Heap → Prop} (hk : ∀ b h', b = h.size → a6_int.at h' b f0 f1 f2 f3 f4 f5 → Fr (fun _ => False) h h' → K b h') : NewP h (.cells #[.int .i64 0, .int .i64 0, .int .i64 0, .int .i64 0, .int .i64 0, .int .i64 0] T.a6_int) fun b h_0 => a6_int.ST h_0 ⟨b, 0, none⟩ f0 f1 f2 f3 f4 f5 (K b) :=
  new_full (vs := [.int .i64 f0, .int .i64 f1, .int .i64 f2, .int .i64 f3, .int .i64 f4, .int .i64 f5]) rfl rfl hk
theorem a6_int.box {h : Heap} {f0 : Int} {f1 : Int} {f2 : Int} {f3 : Int} {f4 : Int} {f5 : Int} {K : Nat → Heap → Prop} (hk : ∀ b h', b = h.size → a6_int.at h' b f0 f1 f2 f3 f4 f5 → Fr (fun _ => False) h h' → K b h') : NewP h (.cells #[.int .i64 f0, .int .i64 f1, .int .i64 f2, .int .i64 f3, .int .i64 f4, .int .i64 f5] T.a6_int) fun b h_0 => K b h_0 :=
  newP_of (hk _ _ rfl push_new (Fr.push _ _))
theorem a6_int.set {h : Heap} {b : Nat} {g0 : Int} {g1 : Int} {g2 : Int} {g3 : Int} {g4 : Int} {g5 : Int} {f0 : Int} {f1 : Int} {f2 : Int} {f3 : Int} {f4 : Int} {f5 : Int} {K : Heap → Prop} (a0 : a6_int.at h b g0 g1 g2 g3 g4 g5) (hk : ∀ h', a6_int.at h' b f0 f1 f2 f3 f4 f5 → h'.size = h.size → (∀ x, x ≠ b → h'[x]? = h[x]?) → K h') : a6_int.ST h ⟨b, 0, none⟩ f0 f1 f2 f3 f4 f5 K :=
  a6_int.stA (storeL_full a0 rfl rfl hk)

def law21_Op.at (h : Heap) (b : Nat) (f0 : Int) (f1 : Int) (f2 : Int) (f3 : Bool) (f4 : Int) (f5 : Int) (f6 : ByteArray) (f7 : ByteArray) (f8p : Option Addr) (f8l f8c : Nat) (f9 : Int) : Prop := h[b]? = some (.cells #[.int .i64 f0, .int .i64 f1, .int .i64 f2, .bool f3, .int .u64 f4, .int .u64 f5, .string f6, .string f7, .slice f8p f8l f8c, .int .u64 f9] T.law21_Op (0, 0))
theorem law21_Op.ld {h : Heap} {b : Nat} {f0 : Int} {f1 : Int} {f2 : Int} {f3 : Bool} {f4 : Int} {f5 : Int} {f6 : ByteArray} {f7 : ByteArray} {f8p : Option Addr} {f8l f8c : Nat} {f9 : Int} {K : Int → Int → Int → Bool → Int → Int → ByteArray → ByteArray → Option Addr → Nat → Nat → Int → Prop} (hb : law21_Op.at h b f0 f1 f2 f3 f4 f5 f6 f7 f8p f8l f8c f9) (hk : K f0 f1 f2 f3 f4 f5 f6 f7 f8p f8l f8c f9) : law21_Op.LD h ⟨b, 0, none⟩ K :=
  ⟨_, cell_at hb rfl, _, cell_at hb rfl, _, cell_at hb rfl, _, cell_at hb rfl, _, cell_at hb rfl, _, cell_at hb rfl, _, cell_at hb rfl, _, cell_at hb rfl, _, _, _, cell_at hb rfl, _, cell_at hb rfl, hk⟩
theorem law21_Op.ldA {h : Heap} {a : Addr} {f0 : Int} {f1 : Int} {f2 : Int} {f3 : Bool} {f4 : Int} {f5 : Int} {f6 : ByteArray} {f7 : ByteArray} {f8p : Option Addr} {f8l f8c : Nat} {f9 : Int} {K : Int → Int → Int → Bool → Int → Int → ByteArray → ByteArray → Option Addr → Nat → Nat → Int → Prop} (hb : heldL a [.int .i64 f0, .int .i64 f1, .int .i64 f2, .bool f3, .int .u64 f4, .int .u64 f5, .string f6, .string f7, .slice f8p f8l f8c, .int .u64 f9] 0 h) (hk : K f0 f1 f2 f3 f4 f5 f6 f7 f8p f8l f8c f9) : law21_Op.LD h a K := by
  obtain ⟨q0, q1, q2, q3, q4, q5, q6, q7, q8, q9, _⟩ := hb
  rw [add_zero_addr] at q0
  exact ⟨_, q0, _, q1, _, q2, _, q3, _, q4, _, q5, _, q6, _, q7, _, _, _, q8, _, q9, hk⟩
theorem law21_Op.held {h : Heap} {b : Nat} {f0 : Int} {f1 : Int} {f2 : Int} {f3 : Bool} {f4 : Int} {f5 : Int} {f6 : ByteArray} {f7 : ByteArray} {f8p : Option Addr} {f8l f8c : Nat} {f9 : Int} (hb : law21_Op.at h b f0 f1 f2 f3 f4 f5 f6 f7 f8p f8l f8c f9) : heldL ⟨b, 0, none⟩ [.int .i64 f0, .int .i64 f1, .int .i64 f2, .bool f3, .int .u64 f4, .int .u64 f5, .string f6, .string f7, .slice f8p f8l f8c, .int .u64 f9] 0 h :=
  heldL_blk hb (fun j v hj => by rw [Nat.zero_add]; simpa using hj)
theorem law21_Op.stA {h : Heap} {a : Addr} {f0 : Int} {f1 : Int} {f2 : Int} {f3 : Bool} {f4 : Int} {f5 : Int} {f6 : ByteArray} {f7 : ByteArray} {f8p : Option Addr} {f8l f8c : Nat} {f9 : Int} {K : Heap → Prop} (hk : storeL a [.int .i64 f0, .int .i64 f1, .int .i64 f2, .bool f3, .int .u64 f4, .int .u64 f5, .string f6, .string f7, .slice f8p f8l f8c, .int .u64 f9] 0 h K) : law21_Op.ST h a f0 f1 f2 f3 f4 f5 f6 f7 f8p f8l f8c f9 K := hk
theorem law21_Op.new {h : Heap} {f0 : Int} {f1 : Int} {f2 : Int} {f3 : Bool} {f4 : Int} {f5 : Int} {f6 : ByteArray} {f7 : ByteArray} {f8p : Option Addr} {f8l f8c : Nat} {f9 : Int} {K : Nat → Heap → Prop} (hk : ∀ b h', b = h.size → law21_Op.at h' b f0 f1 f2 f3 f4 f5 f6 f7 f8p f8l f8c f9 → Fr (fun _ => False) h h' → K b h') : NewP h (.cells #[.int .i64 0, .int .i64 0, .int .i64 0, .bool false, .int .u64 0, .int .u64 0, .string (⟨#[]⟩ : ByteArray), .string (⟨#[]⟩ : ByteArray), .slice none 0 0, .int .u64 0] T.law21_Op) fun b h_0 => law21_Op.ST h_0 ⟨b, 0, none⟩ f0 f1 f2 f3 f4 f5 f6 f7 f8p f8l f8c f9 (K b) :=
  new_full (vs := [.int .i64 f0, .int .i64 f1, .int .i64 f2, .bool f3, .int .u64 f4, .int .u64 f5, .string f6, .string f7, .slice f8p f8l f8c, .int .u64 f9]) rfl rfl hk
theorem law21_Op.box {h : Heap} {f0 : Int} {f1 : Int} {f2 : Int} {f3 : Bool} {f4 : Int} {f5 : Int} {f6 : ByteArray} {f7 : ByteArray} {f8p : Option Addr} {f8l f8c : Nat} {f9 : Int} {K : Nat → Heap → Prop} (hk : ∀ b h', b = h.size → law21_Op.at h' b f0 f1 f2 f3 f4 f5 f6 f7 f8p f8l f8c f9 → Fr (fun _ => False) h h' → K b h') : NewP h (.cells #[.int .i64 f0, .int .i64 f1, .int .i64 f2, .bool f3, .int .u64 f4, .int .u64 f5, .string f6, .string f7, .slice f8p f8l f8c, .int .u64 f9] T.law21_Op) fun b h_0 => K b h_0 :=
  newP_of (hk _ _ rfl push_new (Fr.push _ _))
theorem law21_Op.set {h : Heap} {b : Nat} {g0 : Int} {g1 : Int} {g2 : Int} {g3 : Bool} {g4 : Int} {g5 : Int} {g6 : ByteArray} {g7 : ByteArray} {g8p : Option Addr} {g8l g8c : Nat} {g9 : Int} {f0 : Int} {f1 : Int} {f2 : Int} {f3 : Bool} {f4 : Int} {f5 : Int} {f6 : ByteArray} {f7 : ByteArray} {f8p : Option Addr} {f8l f8c : Nat} {f9 : Int} {K : Heap → Prop} (a0 : law21_Op.at h b g0 g1 g2 g3 g4 g5 g6 g7 g8p g8l g8c g9) (hk : ∀ h', law21_Op.at h' b f0 f1 f2 f3 f4 f5 f6 f7 f8p f8l f8c f9 → h'.size = h.size → (∀ x, x ≠ b → h'[x]? = h[x]?) → K h') : law21_Op.ST h ⟨b, 0, none⟩ f0 f1 f2 f3 f4 f5 f6 f7 f8p f8l f8c f9 K :=
  law21_Op.stA (storeL_full a0 rfl rfl hk)

def ref04_Eid.at (h : Heap) (b : Nat) (f0 : Bool) (f1 : Int) (f2 : Int) (f3 : ByteArray) (f4 : ByteArray) : Prop := h[b]? = some (.cells #[.bool f0, .int .u64 f1, .int .u64 f2, .string f3, .string f4] T.ref04_Eid (0, 0))
theorem ref04_Eid.ld {h : Heap} {b : Nat} {f0 : Bool} {f1 : Int} {f2 : Int} {f3 : ByteArray} {f4 : ByteArray} {K : Bool → Int → Int → ByteArray → ByteArray → Prop} (hb : ref04_Eid.at h b f0 f1 f2 f3 f4) (hk : K f0 f1 f2 f3 f4) : ref04_Eid.LD h ⟨b, 0, none⟩ K :=
  ⟨_, cell_at hb rfl, _, cell_at hb rfl, _, cell_at hb rfl, _, cell_at hb rfl, _, cell_at hb rfl, hk⟩
theorem ref04_Eid.ldA {h : Heap} {a : Addr} {f0 : Bool} {f1 : Int} {f2 : Int} {f3 : ByteArray} {f4 : ByteArray} {K : Bool → Int → Int → ByteArray → ByteArray → Prop} (hb : heldL a [.bool f0, .int .u64 f1, .int .u64 f2, .string f3, .string f4] 0 h) (hk : K f0 f1 f2 f3 f4) : ref04_Eid.LD h a K := by
  obtain ⟨q0, q1, q2, q3, q4, _⟩ := hb
  rw [add_zero_addr] at q0
  exact ⟨_, q0, _, q1, _, q2, _, q3, _, q4, hk⟩
theorem ref04_Eid.held {h : Heap} {b : Nat} {f0 : Bool} {f1 : Int} {f2 : Int} {f3 : ByteArray} {f4 : ByteArray} (hb : ref04_Eid.at h b f0 f1 f2 f3 f4) : heldL ⟨b, 0, none⟩ [.bool f0, .int .u64 f1, .int .u64 f2, .string f3, .string f4] 0 h :=
  heldL_blk hb (fun j v hj => by rw [Nat.zero_add]; simpa using hj)
theorem ref04_Eid.stA {h : Heap} {a : Addr} {f0 : Bool} {f1 : Int} {f2 : Int} {f3 : ByteArray} {f4 : ByteArray} {K : Heap → Prop} (hk : storeL a [.bool f0, .int .u64 f1, .int .u64 f2, .string f3, .string f4] 0 h K) : ref04_Eid.ST h a f0 f1 f2 f3 f4 K := hk
theorem ref04_Eid.new {h : Heap} {f0 : Bool} {f1 : Int} {f2 : Int} {f3 : ByteArray} {f4 : ByteArray} {K : Nat → Heap → Prop} (hk : ∀ b h', b = h.size → ref04_Eid.at h' b f0 f1 f2 f3 f4 → Fr (fun _ => False) h h' → K b h') : NewP h (.cells #[.bool false, .int .u64 0, .int .u64 0, .string (⟨#[]⟩ : ByteArray), .string (⟨#[]⟩ : ByteArray)] T.ref04_Eid) fun b h_0 => ref04_Eid.ST h_0 ⟨b, 0, none⟩ f0 f1 f2 f3 f4 (K b) :=
  new_full (vs := [.bool f0, .int .u64 f1, .int .u64 f2, .string f3, .string f4]) rfl rfl hk
theorem ref04_Eid.box {h : Heap} {f0 : Bool} {f1 : Int} {f2 : Int} {f3 : ByteArray} {f4 : ByteArray} {K : Nat → Heap → Prop} (hk : ∀ b h', b = h.size → ref04_Eid.at h' b f0 f1 f2 f3 f4 → Fr (fun _ => False) h h' → K b h') : NewP h (.cells #[.bool f0, .int .u64 f1, .int .u64 f2, .string f3, .string f4] T.ref04_Eid) fun b h_0 => K b h_0 :=
  newP_of (hk _ _ rfl push_new (Fr.push _ _))
theorem ref04_Eid.set {h : Heap} {b : Nat} {g0 : Bool} {g1 : Int} {g2 : Int} {g3 : ByteArray} {g4 : ByteArray} {f0 : Bool} {f1 : Int} {f2 : Int} {f3 : ByteArray} {f4 : ByteArray} {K : Heap → Prop} (a0 : ref04_Eid.at h b g0 g1 g2 g3 g4) (hk : ∀ h', ref04_Eid.at h' b f0 f1 f2 f3 f4 → h'.size = h.size → (∀ x, x ≠ b → h'[x]? = h[x]?) → K h') : ref04_Eid.ST h ⟨b, 0, none⟩ f0 f1 f2 f3 f4 K :=
  ref04_Eid.stA (storeL_full a0 rfl rfl hk)

def ref21_Copy.at (h : Heap) (b : Nat) (f0 : Int) (f1 : Bool) (f2 : Int) (f3 : Int) (f4 : ByteArray) (f5 : ByteArray) (f6p : Option Addr) (f6l f6c : Nat) (f7 : Int) (f8 : Int) (f9 : Int) (f10 : Int) : Prop := h[b]? = some (.cells #[.int .i64 f0, .bool f1, .int .u64 f2, .int .u64 f3, .string f4, .string f5, .slice f6p f6l f6c, .int .u64 f7, .int .i64 f8, .int .u64 f9, .int .i64 f10] T.ref21_Copy (0, 0))
theorem ref21_Copy.ld {h : Heap} {b : Nat} {f0 : Int} {f1 : Bool} {f2 : Int} {f3 : Int} {f4 : ByteArray} {f5 : ByteArray} {f6p : Option Addr} {f6l f6c : Nat} {f7 : Int} {f8 : Int} {f9 : Int} {f10 : Int} {K : Int → Bool → Int → Int → ByteArray → ByteArray → Option Addr → Nat → Nat → Int → Int → Int → Int → Prop} (hb : ref21_Copy.at h b f0 f1 f2 f3 f4 f5 f6p f6l f6c f7 f8 f9 f10) (hk : K f0 f1 f2 f3 f4 f5 f6p f6l f6c f7 f8 f9 f10) : ref21_Copy.LD h ⟨b, 0, none⟩ K :=
  ⟨_, cell_at hb rfl, _, cell_at hb rfl, _, cell_at hb rfl, _, cell_at hb rfl, _, cell_at hb rfl, _, cell_at hb rfl, _, _, _, cell_at hb rfl, _, cell_at hb rfl, _, cell_at hb rfl, _, cell_at hb rfl, _, cell_at hb rfl, hk⟩
theorem ref21_Copy.ldA {h : Heap} {a : Addr} {f0 : Int} {f1 : Bool} {f2 : Int} {f3 : Int} {f4 : ByteArray} {f5 : ByteArray} {f6p : Option Addr} {f6l f6c : Nat} {f7 : Int} {f8 : Int} {f9 : Int} {f10 : Int} {K : Int → Bool → Int → Int → ByteArray → ByteArray → Option Addr → Nat → Nat → Int → Int → Int → Int → Prop} (hb : heldL a [.int .i64 f0, .bool f1, .int .u64 f2, .int .u64 f3, .string f4, .string f5, .slice f6p f6l f6c, .int .u64 f7, .int .i64 f8, .int .u64 f9, .int .i64 f10] 0 h) (hk : K f0 f1 f2 f3 f4 f5 f6p f6l f6c f7 f8 f9 f10) : ref21_Copy.LD h a K := by
  obtain ⟨q0, q1, q2, q3, q4, q5, q6, q7, q8, q9, q10, _⟩ := hb
  rw [add_zero_addr] at q0
  exact ⟨_, q0, _, q1, _, q2, _, q3, _, q4, _, q5, _, _, _, q6, _, q7, _, q8, _, q9, _, q10, hk⟩
theorem ref21_Copy.held {h : Heap} {b : Nat} {f0 : Int} {f1 : Bool} {f2 : Int} {f3 : Int} {f4 : ByteArray} {f5 : ByteArray} {f6p : Option Addr} {f6l f6c : Nat} {f7 : Int} {f8 : Int} {f9 : Int} {f10 : Int} (hb : ref21_Copy.at h b f0 f1 f2 f3 f4 f5 f6p f6l f6c f7 f8 f9 f10) : heldL ⟨b, 0, none⟩ [.int .i64 f0, .bool f1, .int .u64 f2, .int .u64 f3, .string f4, .string f5, .slice f6p f6l f6c, .int .u64 f7, .int .i64 f8, .int .u64 f9, .int .i64 f10] 0 h :=
  heldL_blk hb (fun j v hj => by rw [Nat.zero_add]; simpa using hj)
theorem ref21_Copy.stA {h : Heap} {a : Addr} {f0 : Int} {f1 : Bool} {f2 : Int} {f3 : Int} {f4 : ByteArray} {f5 : ByteArray} {f6p : Option Addr} {f6l f6c : Nat} {f7 : Int} {f8 : Int} {f9 : Int} {f10 : Int} {K : Heap → Prop} (hk : storeL a [.int .i64 f0, .bool f1, .int .u64 f2, .int .u64 f3, .string f4, .string f5, .slice f6p f6l f6c, .int .u64 f7, .int .i64 f8, .int .u64 f9, .int .i64 f10] 0 h K) : ref21_Copy.ST h a f0 f1 f2 f3 f4 f5 f6p f6l f6c f7 f8 f9 f10 K := hk
theorem ref21_Copy.new {h : Heap} {f0 : Int} {f1 : Bool} {f2 : Int} {f3 : Int} {f4 : ByteArray} {f5 : ByteArray} {f6p : Option Addr} {f6l f6c : Nat} {f7 : Int} {f8 : Int} {f9 : Int} {f10 : Int} {K : Nat → Heap → Prop} (hk : ∀ b h', b = h.size → ref21_Copy.at h' b f0 f1 f2 f3 f4 f5 f6p f6l f6c f7 f8 f9 f10 → Fr (fun _ => False) h h' → K b h') : NewP h (.cells #[.int .i64 0, .bool false, .int .u64 0, .int .u64 0, .string (⟨#[]⟩ : ByteArray), .string (⟨#[]⟩ : ByteArray), .slice none 0 0, .int .u64 0, .int .i64 0, .int .u64 0, .int .i64 0] T.ref21_Copy) fun b h_0 => ref21_Copy.ST h_0 ⟨b, 0, none⟩ f0 f1 f2 f3 f4 f5 f6p f6l f6c f7 f8 f9 f10 (K b) :=
  new_full (vs := [.int .i64 f0, .bool f1, .int .u64 f2, .int .u64 f3, .string f4, .string f5, .slice f6p f6l f6c, .int .u64 f7, .int .i64 f8, .int .u64 f9, .int .i64 f10]) rfl rfl hk
theorem ref21_Copy.box {h : Heap} {f0 : Int} {f1 : Bool} {f2 : Int} {f3 : Int} {f4 : ByteArray} {f5 : ByteArray} {f6p : Option Addr} {f6l f6c : Nat} {f7 : Int} {f8 : Int} {f9 : Int} {f10 : Int} {K : Nat → Heap → Prop} (hk : ∀ b h', b = h.size → ref21_Copy.at h' b f0 f1 f2 f3 f4 f5 f6p f6l f6c f7 f8 f9 f10 → Fr (fun _ => False) h h' → K b h') : NewP h (.cells #[.int .i64 f0, .bool f1, .int .u64 f2, .int .u64 f3, .string f4, .string f5, .slice f6p f6l f6c, .int .u64 f7, .int .i64 f8, .int .u64 f9, .int .i64 f10] T.ref21_Copy) fun b h_0 => K b h_0 :=
  newP_of (hk _ _ rfl push_new (Fr.push _ _))
theorem ref21_Copy.set {h : Heap} {b : Nat} {g0 : Int} {g1 : Bool} {g2 : Int} {g3 : Int} {g4 : ByteArray} {g5 : ByteArray} {g6p : Option Addr} {g6l g6c : Nat} {g7 : Int} {g8 : Int} {g9 : Int} {g10 : Int} {f0 : Int} {f1 : Bool} {f2 : Int} {f3 : Int} {f4 : ByteArray} {f5 : ByteArray} {f6p : Option Addr} {f6l f6c : Nat} {f7 : Int} {f8 : Int} {f9 : Int} {f10 : Int} {K : Heap → Prop} (a0 : ref21_Copy.at h b g0 g1 g2 g3 g4 g5 g6p g6l g6c g7 g8 g9 g10) (hk : ∀ h', ref21_Copy.at h' b f0 f1 f2 f3 f4 f5 f6p f6l f6c f7 f8 f9 f10 → h'.size = h.size → (∀ x, x ≠ b → h'[x]? = h[x]?) → K h') : ref21_Copy.ST h ⟨b, 0, none⟩ f0 f1 f2 f3 f4 f5 f6p f6l f6c f7 f8 f9 f10 K :=
  ref21_Copy.stA (storeL_full a0 rfl rfl hk)

def law22_Op.at (h : Heap) (b : Nat) (f0 : Int) (f1 : Int) (f2 : Int) (f3 : Bool) (f4 : Int) (f5 : Int) (f6 : ByteArray) (f7 : ByteArray) : Prop := h[b]? = some (.cells #[.int .i64 f0, .int .i64 f1, .int .i64 f2, .bool f3, .int .u64 f4, .int .u64 f5, .string f6, .string f7] T.law22_Op (0, 0))
theorem law22_Op.ld {h : Heap} {b : Nat} {f0 : Int} {f1 : Int} {f2 : Int} {f3 : Bool} {f4 : Int} {f5 : Int} {f6 : ByteArray} {f7 : ByteArray} {K : Int → Int → Int → Bool → Int → Int → ByteArray → ByteArray → Prop} (hb : law22_Op.at h b f0 f1 f2 f3 f4 f5 f6 f7) (hk : K f0 f1 f2 f3 f4 f5 f6 f7) : law22_Op.LD h ⟨b, 0, none⟩ K :=
  ⟨_, cell_at hb rfl, _, cell_at hb rfl, _, cell_at hb rfl, _, cell_at hb rfl, _, cell_at hb rfl, _, cell_at hb rfl, _, cell_at hb rfl, _, cell_at hb rfl, hk⟩
theorem law22_Op.ldA {h : Heap} {a : Addr} {f0 : Int} {f1 : Int} {f2 : Int} {f3 : Bool} {f4 : Int} {f5 : Int} {f6 : ByteArray} {f7 : ByteArray} {K : Int → Int → Int → Bool → Int → Int → ByteArray → ByteArray → Prop} (hb : heldL a [.int .i64 f0, .int .i64 f1, .int .i64 f2, .bool f3, .int .u64 f4, .int .u64 f5, .string f6, .string f7] 0 h) (hk : K f0 f1 f2 f3 f4 f5 f6 f7) : law22_Op.LD h a K := by
  obtain ⟨q0, q1, q2, q3, q4, q5, q6, q7, _⟩ := hb
  rw [add_zero_addr] at q0
  exact ⟨_, q0, _, q1, _, q2, _, q3, _, q4, _, q5, _, q6, _, q7, hk⟩
theorem law22_Op.held {h : Heap} {b : Nat} {f0 : Int} {f1 : Int} {f2 : Int} {f3 : Bool} {f4 : Int} {f5 : Int} {f6 : ByteArray} {f7 : ByteArray} (hb : law22_Op.at h b f0 f1 f2 f3 f4 f5 f6 f7) : heldL ⟨b, 0, none⟩ [.int .i64 f0, .int .i64 f1, .int .i64 f2, .bool f3, .int .u64 f4, .int .u64 f5, .string f6, .string f7] 0 h :=
  heldL_blk hb (fun j v hj => by rw [Nat.zero_add]; simpa using hj)
theorem law22_Op.stA {h : Heap} {a : Addr} {f0 : Int} {f1 : Int} {f2 : Int} {f3 : Bool} {f4 : Int} {f5 : Int} {f6 : ByteArray} {f7 : ByteArray} {K : Heap → Prop} (hk : storeL a [.int .i64 f0, .int .i64 f1, .int .i64 f2, .bool f3, .int .u64 f4, .int .u64 f5, .string f6, .string f7] 0 h K) : law22_Op.ST h a f0 f1 f2 f3 f4 f5 f6 f7 K := hk
theorem law22_Op.new {h : Heap} {f0 : Int} {f1 : Int} {f2 : Int} {f3 : Bool} {f4 : Int} {f5 : Int} {f6 : ByteArray} {f7 : ByteArray} {K : Nat → Heap → Prop} (hk : ∀ b h', b = h.size → law22_Op.at h' b f0 f1 f2 f3 f4 f5 f6 f7 → Fr (fun _ => False) h h' → K b h') : NewP h (.cells #[.int .i64 0, .int .i64 0, .int .i64 0, .bool false, .int .u64 0, .int .u64 0, .string (⟨#[]⟩ : ByteArray), .string (⟨#[]⟩ : ByteArray)] T.law22_Op) fun b h_0 => law22_Op.ST h_0 ⟨b, 0, none⟩ f0 f1 f2 f3 f4 f5 f6 f7 (K b) :=
  new_full (vs := [.int .i64 f0, .int .i64 f1, .int .i64 f2, .bool f3, .int .u64 f4, .int .u64 f5, .string f6, .string f7]) rfl rfl hk
theorem law22_Op.box {h : Heap} {f0 : Int} {f1 : Int} {f2 : Int} {f3 : Bool} {f4 : Int} {f5 : Int} {f6 : ByteArray} {f7 : ByteArray} {K : Nat → Heap → Prop} (hk : ∀ b h', b = h.size → law22_Op.at h' b f0 f1 f2 f3 f4 f5 f6 f7 → Fr (fun _ => False) h h' → K b h') : NewP h (.cells #[.int .i64 f0, .int .i64 f1, .int .i64 f2, .bool f3, .int .u64 f4, .int .u64 f5, .string f6, .string f7] T.law22_Op) fun b h_0 => K b h_0 :=
  newP_of (hk _ _ rfl push_new (Fr.push _ _))
theorem law22_Op.set {h : Heap} {b : Nat} {g0 : Int} {g1 : Int} {g2 : Int} {g3 : Bool} {g4 : Int} {g5 : Int} {g6 : ByteArray} {g7 : ByteArray} {f0 : Int} {f1 : Int} {f2 : Int} {f3 : Bool} {f4 : Int} {f5 : Int} {f6 : ByteArray} {f7 : ByteArray} {K : Heap → Prop} (a0 : law22_Op.at h b g0 g1 g2 g3 g4 g5 g6 g7) (hk : ∀ h', law22_Op.at h' b f0 f1 f2 f3 f4 f5 f6 f7 → h'.size = h.size → (∀ x, x ≠ b → h'[x]? = h[x]?) → K h') : law22_Op.ST h ⟨b, 0, none⟩ f0 f1 f2 f3 f4 f5 f6 f7 K :=
  law22_Op.stA (storeL_full a0 rfl rfl hk)

end Go.Proofs.YtgccegnmggjkjaaGreatDoor

/-
  Printed by a program of this work (vc.py): the verification conditions of functions, and that each is enough for the call. No condition.
-/
set_option maxRecDepth 100000
set_option maxHeartbeats 4000000
namespace Go.Proofs.YtgccegnmggjkjaaGreatDoor
open Go.Den
def eid_plain.host.vc (s : ByteArray) (h : Heap) (R : Value → Heap → Prop) : Prop :=
 denSem Tryz.prog (Instr.range T.string (.string s)) h fun v h_1 =>
 ∃ (it : Nat), v = .pointer (some ⟨it, 0, none⟩) ∧
 ∃ (I : Heap → Prop) (mu : Heap → Nat), I h_1 ∧ ∀ (h_2 : Heap), I h_2 →
 denSem Tryz.prog (Instr.next (.pointer (some ⟨it, 0, none⟩)) true T.tup_) h_2 fun v_1 h_3 =>
 (v_1 = .tuple #[.bool false] ∧
 R (.bool true) h_3) ∨
 (  ∃ (t9_k t9_v : Value), v_1 = .tuple #[.bool true, t9_k, t9_v] ∧
 ∃ (t11 : Int), t9_v = .int .i32 t11 ∧
 JoinP (fun (t34 : Bool) (h_4 : Heap) =>
 if t34 = true then
 R (.bool false) h_4
 else
 (I h_4 ∧ mu h_4 < mu h_2))
 (fun J =>
 if (decide (t11 < 97)) = true then
 if (decide (t11 < 48)) = true then
 if (t11 != 45) = true then
 J (t11 != 45) h_3
 else
 J false h_3
 else
 if (decide (t11 > 57)) = true then
 if (t11 != 45) = true then
 J (t11 != 45) h_3
 else
 J false h_3
 else
 J false h_3
 else
 if (decide (t11 > 122)) = true then
 if (decide (t11 < 48)) = true then
 if (t11 != 45) = true then
 J (t11 != 45) h_3
 else
 J false h_3
 else
 if (decide (t11 > 57)) = true then
 if (t11 != 45) = true then
 J (t11 != 45) h_3
 else
 J false h_3
 else
 J false h_3
 else
 J false h_3))
theorem eid_plain.host.walk {s : ByteArray} {h : Heap} {R : Value → Heap → Prop} (hv : eid_plain.host.vc s h R) : CallsH Tryz.prog F.eid_plain #[.string s, .int .i32 45] h R :=
 callsH_of_body (.seq .leaf (.seq (.seq .leaf (.block (.loop [] (.seq .leaf (.seq (.cond .leaf .leaf) (.block (.seq (.typed [(11, .one (.int .i32))]) (.seq (.join [(34, .one (.bool))] .leaf) (.cond (.seq .leaf .leaf) .leaf))))))))) (.seq .leaf .leaf))) Tryz.func187 rfl rfl (Eq.mp (by kernel_rfl) hv)

def eid_plain.demux.vc (s : ByteArray) (h : Heap) (R : Value → Heap → Prop) : Prop :=
 denSem Tryz.prog (Instr.range T.string (.string s)) h fun v h_1 =>
 ∃ (it : Nat), v = .pointer (some ⟨it, 0, none⟩) ∧
 ∃ (I : Heap → Prop) (mu : Heap → Nat), I h_1 ∧ ∀ (h_2 : Heap), I h_2 →
 denSem Tryz.prog (Instr.next (.pointer (some ⟨it, 0, none⟩)) true T.tup_) h_2 fun v_1 h_3 =>
 (v_1 = .tuple #[.bool false] ∧
 R (.bool true) h_3) ∨
 (  ∃ (t9_k t9_v : Value), v_1 = .tuple #[.bool true, t9_k, t9_v] ∧
 ∃ (t11 : Int), t9_v = .int .i32 t11 ∧
 JoinP (fun (t34 : Bool) (h_4 : Heap) =>
 if t34 = true then
 R (.bool false) h_4
 else
 (I h_4 ∧ mu h_4 < mu h_2))
 (fun J =>
 if (decide (t11 < 97)) = true then
 if (decide (t11 < 48)) = true then
 if (t11 != 45) = true then
 J (t11 != 47) h_3
 else
 J false h_3
 else
 if (decide (t11 > 57)) = true then
 if (t11 != 45) = true then
 J (t11 != 47) h_3
 else
 J false h_3
 else
 J false h_3
 else
 if (decide (t11 > 122)) = true then
 if (decide (t11 < 48)) = true then
 if (t11 != 45) = true then
 J (t11 != 47) h_3
 else
 J false h_3
 else
 if (decide (t11 > 57)) = true then
 if (t11 != 45) = true then
 J (t11 != 47) h_3
 else
 J false h_3
 else
 J false h_3
 else
 J false h_3))
theorem eid_plain.demux.walk {s : ByteArray} {h : Heap} {R : Value → Heap → Prop} (hv : eid_plain.demux.vc s h R) : CallsH Tryz.prog F.eid_plain #[.string s, .int .i32 47] h R :=
 callsH_of_body (.seq .leaf (.seq (.seq .leaf (.block (.loop [] (.seq .leaf (.seq (.cond .leaf .leaf) (.block (.seq (.typed [(11, .one (.int .i32))]) (.seq (.join [(34, .one (.bool))] .leaf) (.cond (.seq .leaf .leaf) .leaf))))))))) (.seq .leaf .leaf))) Tryz.func187 rfl rfl (Eq.mp (by kernel_rfl) hv)

def eid_Right.vc (x_0 : Bool) (x_1 : Int) (x_2 : Int) (x_3 : ByteArray) (x_4 : ByteArray) (h : Heap) (R : Value → Heap → Prop) : Prop :=
 NewP h (.cells #[.bool x_0, .int .u64 x_1, .int .u64 x_2, .string x_3, .string x_4] T.eid_Eid) fun b h_1 =>
 eid_Eid.LD h_1 ⟨b, 0, none⟩ fun t4_0 t4_1 t4_2 t4_3 t4_4 =>
 ∃ (eq : Bool), EqV Tryz.prog T.eid_Eid (.agg #[.bool t4_0, .int .u64 t4_1, .int .u64 t4_2, .string t4_3, .string t4_4]) (.agg #[.bool false, .int .u64 0, .int .u64 0, .string (⟨#[]⟩ : ByteArray), .string (⟨#[]⟩ : ByteArray)]) eq ∧
 if eq = true then
 R (.bool true) h_1
 else
 ∃ (t9 : Bool), hcell h_1 ⟨b, 0, none⟩ = some (.bool t9) ∧
 if t9 = true then
 eid_Eid.LD h_1 ⟨b, 0, none⟩ fun t10_0 t10_1 t10_2 t10_3 t10_4 =>
 ∃ (t12 : Int), hcell h_1 ⟨b, 1, none⟩ = some (.int .u64 t12) ∧
 ∃ (t14 : Int), hcell h_1 ⟨b, 2, none⟩ = some (.int .u64 t14) ∧
 ∃ (eq_1 : Bool), EqV Tryz.prog T.eid_Eid (.agg #[.bool t10_0, .int .u64 t10_1, .int .u64 t10_2, .string t10_3, .string t10_4]) (.agg #[.bool true, .int .u64 t12, .int .u64 t14, .string (⟨#[]⟩ : ByteArray), .string (⟨#[]⟩ : ByteArray)]) eq_1 ∧
 if eq_1 = true then
 ∃ (t19 : Int), hcell h_1 ⟨b, 1, none⟩ = some (.int .u64 t19) ∧
 if (decide (t19 ≥ 1)) = true then
 ∃ (t24 : Int), hcell h_1 ⟨b, 1, none⟩ = some (.int .u64 t24) ∧
 if (decide (t24 ≤ 4294967295)) = true then
 ∃ (t29 : Int), hcell h_1 ⟨b, 2, none⟩ = some (.int .u64 t29) ∧
 R (.bool (decide (t29 ≤ 4294967295))) h_1
 else
 R (.bool false) h_1
 else
 R (.bool false) h_1
 else
 R (.bool false) h_1
 else
 eid_Eid.LD h_1 ⟨b, 0, none⟩ fun t32_0 t32_1 t32_2 t32_3 t32_4 =>
 ∃ (t34 : ByteArray), hcell h_1 ⟨b, 3, none⟩ = some (.string t34) ∧
 ∃ (t36 : ByteArray), hcell h_1 ⟨b, 4, none⟩ = some (.string t36) ∧
 ∃ (eq_2 : Bool), EqV Tryz.prog T.eid_Eid (.agg #[.bool t32_0, .int .u64 t32_1, .int .u64 t32_2, .string t32_3, .string t32_4]) (.agg #[.bool false, .int .u64 0, .int .u64 0, .string t34, .string t36]) eq_2 ∧
 if eq_2 = true then
 ∃ (t41 : ByteArray), hcell h_1 ⟨b, 3, none⟩ = some (.string t41) ∧
 if (decide (((t41.size : Nat) : Int) ≥ 1)) = true then
 ∃ (t47 : ByteArray), hcell h_1 ⟨b, 3, none⟩ = some (.string t47) ∧
 if (decide (((t47.size : Nat) : Int) ≤ 16)) = true then
 ∃ (t53 : ByteArray), hcell h_1 ⟨b, 4, none⟩ = some (.string t53) ∧
 if (decide (((t53.size : Nat) : Int) ≤ 24)) = true then
 ∃ (t59 : ByteArray), hcell h_1 ⟨b, 3, none⟩ = some (.string t59) ∧
 CallsH Tryz.prog F.eid_plain #[.string t59, .int .i32 45] h_1 fun v h_2 =>
 ∃ (t60 : Bool), v = .bool t60 ∧
 if t60 = true then
 ∃ (t64 : ByteArray), hcell h_2 ⟨b, 4, none⟩ = some (.string t64) ∧
 CallsH Tryz.prog F.eid_plain #[.string t64, .int .i32 47] h_2 fun v_1 h_3 =>
 ∃ (t65 : Bool), v_1 = .bool t65 ∧
 R (.bool t65) h_3
 else
 R (.bool false) h_2
 else
 R (.bool false) h_1
 else
 R (.bool false) h_1
 else
 R (.bool false) h_1
 else
 R (.bool false) h_1
theorem eid_Right.walk {x_0 : Bool} {x_1 : Int} {x_2 : Int} {x_3 : ByteArray} {x_4 : ByteArray} {h : Heap} {R : Value → Heap → Prop} (hv : eid_Right.vc x_0 x_1 x_2 x_3 x_4 h R) : CallsH Tryz.prog F.eid_Right #[.agg #[.bool x_0, .int .u64 x_1, .int .u64 x_2, .string x_3, .string x_4]] h R :=
 callsH_of_body (.seq .leaf (.seq (.block (.seq .leaf (.cond (.seq .leaf .leaf) (.seq .leaf (.cond (.seq .leaf .leaf) .leaf))))) (.seq .leaf .leaf))) Tryz.func145 rfl rfl (Eq.mp (by kernel_rfl) hv)

def eid_class.vc (x_0 : Bool) (x_1 : Int) (x_2 : Int) (x_3 : ByteArray) (x_4 : ByteArray) (h : Heap) (R : Value → Heap → Prop) : Prop :=
 NewP h (.cells #[.bool x_0, .int .u64 x_1, .int .u64 x_2, .string x_3, .string x_4] T.eid_Eid) fun b h_1 =>
 eid_Eid.LD h_1 ⟨b, 0, none⟩ fun t4_0 t4_1 t4_2 t4_3 t4_4 =>
 ∃ (eq : Bool), EqV Tryz.prog T.eid_Eid (.agg #[.bool t4_0, .int .u64 t4_1, .int .u64 t4_2, .string t4_3, .string t4_4]) (.agg #[.bool false, .int .u64 0, .int .u64 0, .string (⟨#[]⟩ : ByteArray), .string (⟨#[]⟩ : ByteArray)]) eq ∧
 if eq = true then
 R (.int .i64 0) h_1
 else
 ∃ (t9 : Bool), hcell h_1 ⟨b, 0, none⟩ = some (.bool t9) ∧
 if t9 = true then
 R (.int .i64 1) h_1
 else
 R (.int .i64 2) h_1
theorem eid_class.walk {x_0 : Bool} {x_1 : Int} {x_2 : Int} {x_3 : ByteArray} {x_4 : ByteArray} {h : Heap} {R : Value → Heap → Prop} (hv : eid_class.vc x_0 x_1 x_2 x_3 x_4 h R) : CallsH Tryz.prog F.eid_class #[.agg #[.bool x_0, .int .u64 x_1, .int .u64 x_2, .string x_3, .string x_4]] h R :=
 callsH_of_body (.seq .leaf (.seq (.block (.seq .leaf (.cond (.seq .leaf .leaf) (.seq .leaf (.cond (.seq .leaf .leaf) .leaf))))) (.seq .leaf .leaf))) Tryz.func193 rfl rfl (Eq.mp (by kernel_rfl) hv)

def eid_Less.vc (a_0 : Bool) (a_1 : Int) (a_2 : Int) (a_3 : ByteArray) (a_4 : ByteArray) (b_0 : Bool) (b_1 : Int) (b_2 : Int) (b_3 : ByteArray) (b_4 : ByteArray) (h : Heap) (R : Value → Heap → Prop) : Prop :=
 NewP h (.cells #[.bool a_0, .int .u64 a_1, .int .u64 a_2, .string a_3, .string a_4] T.eid_Eid) fun b h_1 =>
 NewP h_1 (.cells #[.bool b_0, .int .u64 b_1, .int .u64 b_2, .string b_3, .string b_4] T.eid_Eid) fun b_1 h_2 =>
 eid_Eid.LD h_2 ⟨b, 0, none⟩ fun t6_0 t6_1 t6_2 t6_3 t6_4 =>
 eid_Eid.LD h_2 ⟨b_1, 0, none⟩ fun t8_0 t8_1 t8_2 t8_3 t8_4 =>
 CallsH Tryz.prog F.eid_class #[.agg #[.bool t6_0, .int .u64 t6_1, .int .u64 t6_2, .string t6_3, .string t6_4]] h_2 fun v h_3 =>
 ∃ (t7 : Int), v = .int .i64 t7 ∧
 heldL ⟨b_1, 0, none⟩ [.bool t8_0, .int .u64 t8_1, .int .u64 t8_2, .string t8_3, .string t8_4] 0 h_3 ∧
 CallsH Tryz.prog F.eid_class #[.agg #[.bool t8_0, .int .u64 t8_1, .int .u64 t8_2, .string t8_3, .string t8_4]] h_3 fun v_1 h_4 =>
 ∃ (t9 : Int), v_1 = .int .i64 t9 ∧
 if (t7 != t9) = true then
 eid_Eid.LD h_4 ⟨b, 0, none⟩ fun t11_0 t11_1 t11_2 t11_3 t11_4 =>
 eid_Eid.LD h_4 ⟨b_1, 0, none⟩ fun t13_0 t13_1 t13_2 t13_3 t13_4 =>
 CallsH Tryz.prog F.eid_class #[.agg #[.bool t11_0, .int .u64 t11_1, .int .u64 t11_2, .string t11_3, .string t11_4]] h_4 fun v_2 h_5 =>
 ∃ (t12 : Int), v_2 = .int .i64 t12 ∧
 heldL ⟨b_1, 0, none⟩ [.bool t13_0, .int .u64 t13_1, .int .u64 t13_2, .string t13_3, .string t13_4] 0 h_5 ∧
 CallsH Tryz.prog F.eid_class #[.agg #[.bool t13_0, .int .u64 t13_1, .int .u64 t13_2, .string t13_3, .string t13_4]] h_5 fun v_3 h_6 =>
 ∃ (t14 : Int), v_3 = .int .i64 t14 ∧
 R (.bool (decide (t12 < t14))) h_6
 else
 ∃ (t18 : Int), hcell h_4 ⟨b, 1, none⟩ = some (.int .u64 t18) ∧
 ∃ (t20 : Int), hcell h_4 ⟨b_1, 1, none⟩ = some (.int .u64 t20) ∧
 if (t18 != t20) = true then
 ∃ (t23 : Int), hcell h_4 ⟨b, 1, none⟩ = some (.int .u64 t23) ∧
 ∃ (t25 : Int), hcell h_4 ⟨b_1, 1, none⟩ = some (.int .u64 t25) ∧
 R (.bool (decide (t23 < t25))) h_4
 else
 ∃ (t29 : Int), hcell h_4 ⟨b, 2, none⟩ = some (.int .u64 t29) ∧
 ∃ (t31 : Int), hcell h_4 ⟨b_1, 2, none⟩ = some (.int .u64 t31) ∧
 if (t29 != t31) = true then
 ∃ (t34 : Int), hcell h_4 ⟨b, 2, none⟩ = some (.int .u64 t34) ∧
 ∃ (t36 : Int), hcell h_4 ⟨b_1, 2, none⟩ = some (.int .u64 t36) ∧
 R (.bool (decide (t34 < t36))) h_4
 else
 ∃ (t40 : ByteArray), hcell h_4 ⟨b, 3, none⟩ = some (.string t40) ∧
 ∃ (t42 : ByteArray), hcell h_4 ⟨b_1, 3, none⟩ = some (.string t42) ∧
 if (!(t40.toList == t42.toList)) = true then
 ∃ (t45 : ByteArray), hcell h_4 ⟨b, 3, none⟩ = some (.string t45) ∧
 ∃ (t47 : ByteArray), hcell h_4 ⟨b_1, 3, none⟩ = some (.string t47) ∧
 R (.bool (Op.bytesLess t45.toList t47.toList)) h_4
 else
 ∃ (t50 : ByteArray), hcell h_4 ⟨b, 4, none⟩ = some (.string t50) ∧
 ∃ (t52 : ByteArray), hcell h_4 ⟨b_1, 4, none⟩ = some (.string t52) ∧
 R (.bool (Op.bytesLess t50.toList t52.toList)) h_4
theorem eid_Less.walk {a_0 : Bool} {a_1 : Int} {a_2 : Int} {a_3 : ByteArray} {a_4 : ByteArray} {b_0 : Bool} {b_1 : Int} {b_2 : Int} {b_3 : ByteArray} {b_4 : ByteArray} {h : Heap} {R : Value → Heap → Prop} (hv : eid_Less.vc a_0 a_1 a_2 a_3 a_4 b_0 b_1 b_2 b_3 b_4 h R) : CallsH Tryz.prog F.eid_Less #[.agg #[.bool a_0, .int .u64 a_1, .int .u64 a_2, .string a_3, .string a_4], .agg #[.bool b_0, .int .u64 b_1, .int .u64 b_2, .string b_3, .string b_4]] h R :=
 callsH_of_body (.seq .leaf (.seq (.block (.seq (.plan (.op 0 (.op 2 (.op 1 (.op 3 (.op 4 (.op 5 .done))))))) (.cond (.seq (.plan (.op 0 (.op 2 (.op 1 (.op 3 (.op 4 (.op 5 .done))))))) .leaf) (.seq .leaf (.cond (.seq .leaf .leaf) (.seq .leaf (.cond (.seq .leaf .leaf) (.seq .leaf (.cond (.seq .leaf .leaf) .leaf))))))))) (.seq .leaf .leaf))) Tryz.func155 rfl rfl (Eq.mp (by kernel_rfl) hv)

end Go.Proofs.YtgccegnmggjkjaaGreatDoor

/-
  What is proved here: what package eid tells of names: Right, Less; names as keys of maps. No condition.
-/
set_option maxRecDepth 100000
namespace Go.Proofs.YtgccegnmggjkjaaGreatDoor
open Go.Den
namespace Eid
theorem ba_beq {a b : ByteArray} : (a == b) = true ↔ a = b := by
  obtain ⟨a⟩ := a
  obtain ⟨b⟩ := b
  constructor
  · intro h
    have h : (a == b) = true := h
    rw [eq_of_beq h]
  · intro h
    cases h
    show (a == a) = true
    simp

structure Ev where
  ipn : Bool
  node : Int
  svc : Int
  host : ByteArray
  dem : ByteArray
theorem Ev.ext' {x y : Ev} (h0 : x.ipn = y.ipn) (h1 : x.node = y.node) (h2 : x.svc = y.svc) (h3 : x.host = y.host) (h4 : x.dem = y.dem) : x = y := by
  cases x; cases y; simp at h0 h1 h2 h3 h4; simp [h0, h1, h2, h3, h4]
def eqB (x y : Ev) : Bool := x.ipn == y.ipn && (x.node == y.node && (x.svc == y.svc && (x.host == y.host && (x.dem == y.dem && true))))
theorem eqB_iff {x y : Ev} : eqB x y = true ↔ x = y := by
  unfold eqB
  simp only [Bool.and_eq_true, beq_iff_eq, ba_beq, and_true]
  constructor
  · rintro ⟨h0, h1, h2, h3, h4⟩; exact Ev.ext' h0 h1 h2 h3 h4
  · rintro rfl; simp
instance : DecidableEq Ev := fun x y => decidable_of_iff (eqB x y = true) eqB_iff
theorem eqB_dec (x y : Ev) : eqB x y = decide (x = y) := by
  by_cases h : x = y
  · rw [decide_eq_true h]; exact eqB_iff.2 h
  · rw [decide_eq_false h]
    cases hb : eqB x y
    · rfl
    · exact absurd (eqB_iff.1 hb) h
def ev5 (x : Ev) : Value := .agg #[.bool x.ipn, .int .u64 x.node, .int .u64 x.svc, .string x.host, .string x.dem]
def Ev.zero : Ev := ⟨false, 0, 0, ⟨#[]⟩, ⟨#[]⟩⟩
theorem eqv (x y : Ev) : EqV Tryz.prog T.eid_Eid (ev5 x) (ev5 y) (decide (x = y)) := by
  rw [← eqB_dec]
  exact EqV.of (by unfold eqB; kernel_rfl)
theorem eqv' {x y : Ev} {a b : Value} (ha : a = ev5 x) (hb : b = ev5 y) : EqV Tryz.prog T.eid_Eid a b (decide (x = y)) := by subst ha hb; exact eqv x y
theorem chk (e : Bool) (a : Ev) (h : Heap) : rd Tryz.prog (Instr.checkKey e 10000 T.eid_Eid (ev5 a)) h = some () := by kernel_rfl
theorem under : (Tryz.prog.underlying T.eid_Eid).isSome = true := by kernel_rfl
theorem key : KeyOk Tryz.prog T.eid_Eid ev5 := ⟨eqv, chk, by
  obtain ⟨d, h⟩ := Option.isSome_iff_exists.1 under
  exact ⟨d, h, fun a b => .inl (by unfold ev5; cases d <;> rfl)⟩, fun a => by unfold ev5; simp [Instr.sameBits, ba_beq.2]⟩

/-! ### what it says -/
def pl (more c : UInt8) : Bool := (decide (97 ≤ c) && decide (c ≤ 122)) || (decide (48 ≤ c) && decide (c ≤ 57)) || c == 45 || c == more
def plainB (more : UInt8) (s : ByteArray) : Bool := s.data.toList.all (pl more)
def rightE (x : Ev) : Bool :=
  if x = .zero then true
  else if x.ipn = true then decide (x.host = ⟨#[]⟩ ∧ x.dem = ⟨#[]⟩ ∧ 1 ≤ x.node ∧ x.node ≤ 4294967295 ∧ x.svc ≤ 4294967295)
  else decide (x.node = 0 ∧ x.svc = 0 ∧ 1 ≤ x.host.size ∧ x.host.size ≤ 16 ∧ x.dem.size ≤ 24) && (plainB 45 x.host && plainB 47 x.dem)
def classE (x : Ev) : Int := if x = .zero then 0 else if x.ipn = true then 1 else 2
def bl (a b : ByteArray) : Bool := Op.bytesLess a.toList b.toList
def lessE (x y : Ev) : Bool :=
  if classE x ≠ classE y then decide (classE x < classE y)
  else if x.node ≠ y.node then decide (x.node < y.node)
  else if x.svc ≠ y.svc then decide (x.svc < y.svc)
  else if x.host ≠ y.host then bl x.host y.host
  else bl x.dem y.dem

/-! ### it is an order -/
theorem bytes_irrefl : ∀ a : List UInt8, Op.bytesLess a a = false
  | [] => rfl
  | a :: x => by unfold Op.bytesLess; simp [bytes_irrefl x]
theorem bytes_trans : ∀ {a b c : List UInt8}, Op.bytesLess a b = true → Op.bytesLess b c = true → Op.bytesLess a c = true
  | _, [], _, h, _ => by unfold Op.bytesLess at h; cases h
  | _, _ :: _, [], _, h => by unfold Op.bytesLess at h; cases h
  | [], b :: y, c :: z, _, _ => rfl
  | a :: x, b :: y, c :: z, h1, h2 => by
    unfold Op.bytesLess at h1 h2 ⊢
    simp only [Bool.or_eq_true, decide_eq_true_eq, Bool.and_eq_true, beq_iff_eq] at h1 h2 ⊢
    rcases h1 with h1 | ⟨rfl, h1⟩
    · rcases h2 with h2 | ⟨rfl, h2⟩
      · exact .inl (UInt8.lt_trans h1 h2)
      · exact .inl h1
    · rcases h2 with h2 | ⟨rfl, h2⟩
      · exact .inl h2
      · exact .inr ⟨rfl, bytes_trans h1 h2⟩
theorem bytes_total : ∀ {a b : List UInt8}, a ≠ b → Op.bytesLess a b = true ∨ Op.bytesLess b a = true
  | [], [], h => absurd rfl h
  | [], _ :: _, _ => .inl rfl
  | _ :: _, [], _ => .inr rfl
  | a :: x, b :: y, h => by
    unfold Op.bytesLess
    simp only [Bool.or_eq_true, decide_eq_true_eq, Bool.and_eq_true, beq_iff_eq]
    by_cases e : a = b
    · subst e
      rcases bytes_total (a := x) (b := y) (fun e => h (by rw [e])) with h1 | h1
      · exact .inl (.inr ⟨rfl, h1⟩)
      · exact .inr (.inr ⟨rfl, h1⟩)
    · rcases UInt8.lt_or_lt_of_ne e with h1 | h1
      · exact .inl (.inl h1)
      · exact .inr (.inl h1)
theorem bl_ne {a b : ByteArray} (h : a ≠ b) : bl a b = true ∨ bl b a = true := by
  refine bytes_total fun e => h ?_
  rw [toList_data, toList_data] at e
  cases a; cases b
  simp only [ByteArray.mk.injEq]
  exact Array.ext' e
theorem bl_trans {a b c : ByteArray} (h1 : bl a b = true) (h2 : bl b c = true) : bl a c = true := bytes_trans h1 h2
theorem bl_irrefl (a : ByteArray) : bl a a = false := bytes_irrefl _
/-- less, as cases -/
theorem less_iff {x y : Ev} : lessE x y = true ↔ classE x < classE y ∨ (classE x = classE y ∧ (x.node < y.node ∨ (x.node = y.node ∧ (x.svc < y.svc ∨ (x.svc = y.svc ∧ ((x.host ≠ y.host ∧ bl x.host y.host = true) ∨ (x.host = y.host ∧ bl x.dem y.dem = true))))))) := by
  unfold lessE
  by_cases h0 : classE x = classE y
  · rw [if_neg (by simpa using h0)]
    by_cases h1 : x.node = y.node
    · rw [if_neg (by simpa using h1)]
      by_cases h2 : x.svc = y.svc
      · rw [if_neg (by simpa using h2)]
        by_cases h3 : x.host = y.host
        · rw [if_neg (by simpa using h3)]; simp [h0, h1, h2, h3]
        · rw [if_pos h3]; simp [h0, h1, h2, h3]
      · rw [if_pos h2]; simp [h0, h1, h2]
    · rw [if_pos h1]; simp [h0, h1]
  · rw [if_pos h0]; simp [h0]
theorem less_irrefl (x : Ev) : lessE x x = false := by
  cases h : lessE x x
  · rfl
  · rw [less_iff] at h
    rcases h with h | ⟨_, h | ⟨_, h | ⟨_, ⟨h, _⟩ | ⟨_, h⟩⟩⟩⟩
    · omega
    · omega
    · omega
    · exact absurd rfl h
    · rw [bl_irrefl] at h; cases h
theorem less_trans {x y z : Ev} (h1 : lessE x y = true) (h2 : lessE y z = true) : lessE x z = true := by
  rw [less_iff] at h1 h2 ⊢
  rcases h1 with h1 | ⟨c1, h1⟩
  · rcases h2 with h2 | ⟨c2, _⟩
    · exact .inl (by omega)
    · exact .inl (by omega)
  rcases h2 with h2 | ⟨c2, h2⟩
  · exact .inl (by omega)
  refine .inr ⟨by omega, ?_⟩
  rcases h1 with h1 | ⟨n1, h1⟩
  · rcases h2 with h2 | ⟨n2, _⟩ <;> exact .inl (by omega)
  rcases h2 with h2 | ⟨n2, h2⟩
  · exact .inl (by omega)
  refine .inr ⟨by omega, ?_⟩
  rcases h1 with h1 | ⟨s1, h1⟩
  · rcases h2 with h2 | ⟨s2, _⟩ <;> exact .inl (by omega)
  rcases h2 with h2 | ⟨s2, h2⟩
  · exact .inl (by omega)
  refine .inr ⟨by omega, ?_⟩
  rcases h1 with ⟨e1, h1⟩ | ⟨e1, h1⟩
  · rcases h2 with ⟨e2, h2⟩ | ⟨e2, h2⟩
    · refine .inl ⟨fun e => ?_, bl_trans h1 h2⟩
      have := bl_trans h1 (e ▸ h2)
      rw [bl_irrefl] at this; cases this
    · exact .inl (by rw [← e2]; exact ⟨e1, h1⟩)
  · rcases h2 with ⟨e2, h2⟩ | ⟨e2, h2⟩
    · exact .inl (by rw [e1]; exact ⟨e2, h2⟩)
    · exact .inr ⟨e1.trans e2, bl_trans h1 h2⟩
theorem class_zero {x y : Ev} (h : classE x = classE y) (hx : x = .zero) : y = .zero := by
  unfold classE at h
  rw [if_pos hx] at h
  by_cases hy : y = .zero
  · exact hy
  · rw [if_neg hy] at h
    split at h <;> omega
theorem less_total {x y : Ev} (h : x ≠ y) : lessE x y = true ∨ lessE y x = true := by
  rw [less_iff, less_iff]
  by_cases h0 : classE x = classE y
  · by_cases h1 : x.node = y.node
    · by_cases h2 : x.svc = y.svc
      · by_cases h3 : x.host = y.host
        · have h4 : x.dem ≠ y.dem := fun e => by
            have hx0 : x ≠ .zero := fun e0 => h (e0.trans (class_zero h0 e0).symm)
            have hy0 : y ≠ .zero := fun e0 => h ((class_zero h0.symm e0).trans e0.symm)
            unfold classE at h0
            rw [if_neg hx0, if_neg hy0] at h0
            have hi : x.ipn = y.ipn := by
              cases ex : x.ipn <;> cases ey : y.ipn <;> simp [ex, ey] at h0 ⊢
            exact h (Ev.ext' hi h1 h2 h3 e)
          rcases bl_ne h4 with h5 | h5
          · exact .inl (.inr ⟨h0, .inr ⟨h1, .inr ⟨h2, .inr ⟨h3, h5⟩⟩⟩⟩)
          · exact .inr (.inr ⟨h0.symm, .inr ⟨h1.symm, .inr ⟨h2.symm, .inr ⟨h3.symm, h5⟩⟩⟩⟩)
        · rcases bl_ne h3 with h5 | h5
          · exact .inl (.inr ⟨h0, .inr ⟨h1, .inr ⟨h2, .inl ⟨h3, h5⟩⟩⟩⟩)
          · exact .inr (.inr ⟨h0.symm, .inr ⟨h1.symm, .inr ⟨h2.symm, .inl ⟨Ne.symm h3, h5⟩⟩⟩⟩)
      · rcases Int.lt_or_gt_of_ne h2 with h5 | h5
        · exact .inl (.inr ⟨h0, .inr ⟨h1, .inl h5⟩⟩)
        · exact .inr (.inr ⟨h0.symm, .inr ⟨h1.symm, .inl h5⟩⟩)
    · rcases Int.lt_or_gt_of_ne h1 with h5 | h5
      · exact .inl (.inr ⟨h0, .inl h5⟩)
      · exact .inr (.inr ⟨h0.symm, .inl h5⟩)
  · rcases Int.lt_or_gt_of_ne h0 with h5 | h5
    · exact .inl (.inl h5)
    · exact .inr (.inl h5)

/-! ### the calls -/
variable {h : Heap} {R : Value → Heap → Prop}
theorem get_at {s : ByteArray} {i : Nat} (hi : i < s.size) : s.get! i = s.data.toList.getD i 0 := by
  have : i < s.data.size := hi
  show s.data[i]! = _
  have e : s.data.toList[i]? = some s.data[i] := by rw [Array.getElem?_toList]; exact Array.getElem?_eq_getElem this
  rw [getElem!_pos s.data i this, List.getD_eq_getElem?_getD, e]
  rfl
theorem decode_at (s : ByteArray) (i : Nat) (hi : i < s.size) : (s.data.toList.getD i 0 < 128 → Utf8.decode s i = ((s.data.toList.getD i 0).toNat, 1)) ∧ (¬ s.data.toList.getD i 0 < 128 → 128 ≤ (Utf8.decode s i).1) := by
  have e := get_at hi
  have e0 : (s.get! (i + 0)).toNat = (s.data.toList.getD i 0).toNat := by rw [Nat.add_zero, e]
  constructor
  · intro h
    have h : (s.data.toList.getD i 0).toNat < 128 := h
    unfold Utf8.decode
    simp only [e0]
    rw [if_pos h]
  · intro h
    have h : ¬ (s.data.toList.getD i 0).toNat < 128 := h
    unfold Utf8.decode
    simp only [e0]
    rw [if_neg h]
    split
    · split
      · omega
      · show 128 ≤ Utf8.runeError; decide
    · split
      · split
        · rename_i hc; simp only [Bool.and_eq_true, decide_eq_true_eq] at hc; show 128 ≤ _; omega
        · show 128 ≤ Utf8.runeError; decide
      · split
        · split
          · rename_i hc; simp only [Bool.and_eq_true, decide_eq_true_eq] at hc; show 128 ≤ _; omega
          · show 128 ≤ Utf8.runeError; decide
        · show 128 ≤ Utf8.runeError; decide
/-- is a character none of those? -/
def np (more : Int) (c : Int) : Bool := (decide (c < 97) || decide (c > 122)) && ((decide (c < 48) || decide (c > 57)) && ((c != 45) && (c != more)))
theorem np_big {more c : Int} (hm : more < 128) (h : 128 ≤ c) : np more c = true := by
  unfold np
  have h1 : c > 122 := by omega
  have h2 : c > 57 := by omega
  have h3 : c ≠ 45 := by omega
  have h4 : c ≠ more := by omega
  simp [h1, h2, h3, h4]
theorem np_pl (more : UInt8) (b : UInt8) : np (more.toNat : Int) (b.toNat : Int) = !pl more b := by
  have e1 : (b = 45) ↔ ((b.toNat : Int) = 45) := by
    constructor
    · rintro rfl; rfl
    · intro e; exact UInt8.toNat_inj.1 (by show b.toNat = 45; omega)
  have e2 : (b = more) ↔ ((b.toNat : Int) = (more.toNat : Int)) := by
    constructor
    · rintro rfl; rfl
    · intro e; exact UInt8.toNat_inj.1 (by omega)
  have e3 : (97 ≤ b) ↔ ¬ ((b.toNat : Int) < 97) := by rw [UInt8.le_iff_toNat_le]; show 97 ≤ b.toNat ↔ _; omega
  have e4 : (b ≤ 122) ↔ ¬ ((b.toNat : Int) > 122) := by rw [UInt8.le_iff_toNat_le]; show b.toNat ≤ 122 ↔ _; omega
  have e5 : (48 ≤ b) ↔ ¬ ((b.toNat : Int) < 48) := by rw [UInt8.le_iff_toNat_le]; show 48 ≤ b.toNat ↔ _; omega
  have e6 : (b ≤ 57) ↔ ¬ ((b.toNat : Int) > 57) := by rw [UInt8.le_iff_toNat_le]; show b.toNat ≤ 57 ↔ _; omega
  unfold np pl
  have e7 : (b == 45) = decide ((b.toNat : Int) = 45) := by by_cases q : b = 45 <;> simp [q, e1.symm]
  have e8 : (b == more) = decide ((b.toNat : Int) = (more.toNat : Int)) := by
    by_cases q : b = more
    · simp [q]
    · have : ¬ ((b.toNat : Int) = (more.toNat : Int)) := fun e => q (e2.2 e)
      rw [decide_eq_false this]; simp [q]
  rw [e7, e8]
  simp only [e3, e4, e5, e6]
  by_cases q1 : (b.toNat : Int) < 97 <;> by_cases q2 : (b.toNat : Int) > 122 <;> by_cases q3 : (b.toNat : Int) < 48 <;> by_cases q4 : (b.toNat : Int) > 57 <;> by_cases q5 : (b.toNat : Int) = 45 <;> by_cases q6 : (b.toNat : Int) = (more.toNat : Int) <;> simp [q1, q2, q3, q4, q5, q6]
end Eid
end Go.Proofs.YtgccegnmggjkjaaGreatDoor

/-
  What is proved here: what the calls of package eid return: plain, Right, class, Less. No condition.
-/
set_option maxRecDepth 100000
namespace Go.Proofs.YtgccegnmggjkjaaGreatDoor
open Go.Den
namespace Eid
variable {h h' : Heap} {R : Value → Heap → Prop}
theorem byte_at {s : ByteArray} {pos : Nat} (hp : pos < s.size) : s.data.toList[pos]? = some (s.data.toList.getD pos 0) := by
  have : pos < s.data.toList.length := hp
  rw [List.getD_eq_getElem?_getD, List.getElem?_eq_getElem this]; rfl
theorem pl_lt {more b : UInt8} (hm : more.toNat < 128) (h : pl more b = true) : b < 128 := by
  show b.toNat < 128
  by_cases hb : b.toNat < 128
  · exact hb
  · have h1 := np_big (more := (more.toNat : Int)) (c := (b.toNat : Int)) (by omega) (by omega)
    rw [np_pl, h] at h1; cases h1
theorem np_false {more : UInt8} {s : ByteArray} {pos : Nat} (hm : more.toNat < 128) (hp : pos < s.size) (h : np (more.toNat : Int) ((Utf8.decode s pos).1 : Int) = false) :
    pl more (s.data.toList.getD pos 0) = true ∧ (Utf8.decode s pos).2 = 1 := by
  obtain ⟨h1, h2⟩ := decode_at s pos hp
  by_cases hb : s.data.toList.getD pos 0 < 128
  · rw [h1 hb] at h ⊢
    rw [np_pl] at h
    exact ⟨by simpa using h, rfl⟩
  · have := np_big (more := (more.toNat : Int)) (c := ((Utf8.decode s pos).1 : Int)) (by omega) (by have := h2 hb; omega)
    rw [this] at h; cases h
theorem np_true {more : UInt8} {s : ByteArray} {pos : Nat} (hm : more.toNat < 128) (hp : pos < s.size) (h : np (more.toNat : Int) ((Utf8.decode s pos).1 : Int) = true) : plainB more s = false := by
  cases hb : plainB more s with
  | false => rfl
  | true =>
    have hp2 := List.all_eq_true.1 hb _ (List.mem_of_getElem? (byte_at hp))
    obtain ⟨h1, _⟩ := decode_at s pos hp
    rw [h1 (pl_lt hm hp2), np_pl, hp2] at h
    cases h
/-- the loop, whatever other character may be -/
theorem plain_loop {more : UInt8} {s : ByteArray} {it : Nat} {ty : TypeId} {h0 h1 : Heap} (hm : more.toNat < 128) (hit : h1[it]? = some (.stringIter s 0)) (hge : h0.size ≤ it) (f1 : Fr (fun _ => False) h0 h1) (hk : ∀ h', Fr (fun _ => False) h0 h' → R (.bool (plainB more s)) h') :
    ∃ (I : Heap → Prop) (mu : Heap → Nat), I h1 ∧ ∀ g, I g → denSem Tryz.prog (Instr.next (.pointer (some ⟨it, 0, none⟩)) true ty) g fun v g1 =>
      (v = .tuple #[.bool false] ∧ R (.bool true) g1) ∨ ∃ (a b : Value), v = .tuple #[.bool true, a, b] ∧ ∃ (c : Int), b = .int .i32 c ∧ if np (more.toNat : Int) c = true then R (.bool false) g1 else (I g1 ∧ mu g1 < mu g) := by
  refine ⟨fun g => ∃ pos, g[it]? = some (.stringIter s pos) ∧ Fr (fun _ => False) h0 g ∧ pos ≤ s.size ∧ (s.data.toList.take pos).all (pl more) = true, fun g => (match g[it]? with | some (.stringIter _ p) => s.size - p | _ => 0), ⟨0, hit, f1, Nat.zero_le _, by simp⟩, ?_⟩
  rintro g ⟨pos, hg, fg, hle, hall⟩
  refine den_nextS hg (fun hend => .inl ⟨rfl, ?_⟩) (fun hlt g1 hg1 hs1 ho1 => .inr ⟨_, _, rfl, _, rfl, ?_⟩)
  · have : plainB more s = true := by
      unfold plainB
      rw [List.take_of_length_le (by show s.data.toList.length ≤ pos; exact hend)] at hall
      exact hall
    rw [← this]; exact hk g fg
  · have fg1 : Fr (fun _ => False) h0 g1 := fg.fresh (S := fun c => c = it) ⟨by omega, fun c _ hn => ho1 c hn⟩ (fun c e => by omega)
    cases hn : np (more.toNat : Int) ((Utf8.decode s pos).1 : Int) with
    | true =>
      rw [if_pos rfl, ← np_true hm hlt hn]; exact hk g1 fg1
    | false =>
      rw [if_neg (by simp)]
      obtain ⟨h1, h2⟩ := np_false hm hlt hn
      rw [h2] at hg1
      refine ⟨⟨pos + 1, hg1, fg1, hlt, ?_⟩, ?_⟩
      · rw [List.take_add_one, byte_at hlt, List.all_append, hall]
        show (true && (pl more (s.data.toList.getD pos 0) && true)) = true
        rw [h1]; rfl
      · simp only [hg, hg1]; omega
theorem plain_host {s : ByteArray} (hk : ∀ h', Fr (fun _ => False) h h' → R (.bool (plainB 45 s)) h') : CallsH Tryz.prog F.eid_plain #[.string s, .int .i32 45] h R := by
  refine eid_plain.host.walk (den_rangeS (by kernel_rfl) fun r h1 hr hit f1 => ⟨_, rfl, ?_⟩)
  obtain ⟨I, mu, h2, h3⟩ := plain_loop (more := 45) (ty := T.tup_) (by decide) hit (by omega) f1 hk
  refine ⟨I, mu, h2, fun g hg => denSem_mono _ _ (fun v g1 hv => ?_) (h3 g hg)⟩
  rcases hv with hv | ⟨a, b, e, c, e2, hv⟩
  · exact .inl hv
  · refine .inr ⟨a, b, e, c, e2, JoinP.of fun J hJ => ?_⟩
    have key : J (np 45 c) g1 := by subst hJ; exact hv
    clear hJ hv
    unfold np at key
    revert key
    generalize decide (c < 97) = b1
    generalize decide (c > 122) = b2
    generalize decide (c < 48) = b3
    generalize decide (c > 57) = b4
    generalize (c != 45) = b5
    intro key
    cases b1 <;> cases b2 <;> cases b3 <;> cases b4 <;> cases b5 <;> exact key
theorem plain_demux {s : ByteArray} (hk : ∀ h', Fr (fun _ => False) h h' → R (.bool (plainB 47 s)) h') : CallsH Tryz.prog F.eid_plain #[.string s, .int .i32 47] h R := by
  refine eid_plain.demux.walk (den_rangeS (by kernel_rfl) fun r h1 hr hit f1 => ⟨_, rfl, ?_⟩)
  obtain ⟨I, mu, h2, h3⟩ := plain_loop (more := 47) (ty := T.tup_) (by decide) hit (by omega) f1 hk
  refine ⟨I, mu, h2, fun g hg => denSem_mono _ _ (fun v g1 hv => ?_) (h3 g hg)⟩
  rcases hv with hv | ⟨a, b, e, c, e2, hv⟩
  · exact .inl hv
  · refine .inr ⟨a, b, e, c, e2, JoinP.of fun J hJ => ?_⟩
    have key : J (np 47 c) g1 := by subst hJ; exact hv
    clear hJ hv
    unfold np at key
    revert key
    generalize decide (c < 97) = b1
    generalize decide (c > 122) = b2
    generalize decide (c < 48) = b3
    generalize decide (c > 57) = b4
    generalize (c != 45) = b5
    generalize (c != 47) = b6
    intro key
    cases b1 <;> cases b2 <;> cases b3 <;> cases b4 <;> cases b5 <;> cases b6 <;> exact key
abbrev Ev.at (h : Heap) (b : Nat) (x : Ev) : Prop := eid_Eid.at h b x.ipn x.node x.svc x.host x.dem
theorem zero_iff {x : Ev} : (decide (x = Ev.zero) = true) ↔ x = .zero := decide_eq_true_iff
theorem right_ok (x : Ev) (hk : ∀ h', Fr (fun _ => False) h h' → R (.bool (rightE x)) h') : CallsH Tryz.prog F.eid_Right #[.agg #[.bool x.ipn, .int .u64 x.node, .int .u64 x.svc, .string x.host, .string x.dem]] h R := by
  refine eid_Right.walk (eid_Eid.box fun b h1 eb hb f1 => eid_Eid.ld hb ⟨_, eqv' (y := .zero) (x := x) rfl rfl, ?_⟩)
  have K := hk h1 f1
  unfold rightE at K
  by_cases h0 : x = .zero
  · rw [if_pos (decide_eq_true h0)]
    rw [if_pos h0] at K; exact K
  · rw [if_neg (by simpa using h0)]
    rw [if_neg h0] at K
    refine ⟨_, cell_at hb rfl, ?_⟩
    by_cases hi : x.ipn = true
    · rw [if_pos hi]
      rw [if_pos hi] at K
      refine eid_Eid.ld hb ⟨_, cell_at hb rfl, _, cell_at hb rfl, _, eqv' (y := ⟨true, x.node, x.svc, ⟨#[]⟩, ⟨#[]⟩⟩) (x := x) rfl rfl, ?_⟩
      by_cases he : x = ⟨true, x.node, x.svc, ⟨#[]⟩, ⟨#[]⟩⟩
      · have e1 : x.host = ⟨#[]⟩ := congrArg Ev.host he
        have e2 : x.dem = ⟨#[]⟩ := congrArg Ev.dem he
        rw [if_pos (decide_eq_true he)]
        refine ⟨_, cell_at hb rfl, ?_⟩
        by_cases q1 : x.node ≥ 1
        · rw [if_pos (decide_eq_true q1)]
          refine ⟨_, cell_at hb rfl, ?_⟩
          by_cases q2 : x.node ≤ 4294967295
          · rw [if_pos (decide_eq_true q2)]
            refine ⟨_, cell_at hb rfl, ?_⟩
            have q1' : 1 ≤ x.node := q1
            simp only [e1, e2, q1', q2, true_and] at K
            exact K
          · rw [if_neg (by simpa using q2)]
            simp only [q2, false_and, and_false, decide_false] at K; exact K
        · rw [if_neg (by simpa using q1)]
          have q1' : ¬ 1 ≤ x.node := q1
          simp only [q1', false_and, and_false, decide_false] at K; exact K
      · rw [if_neg (by simpa using he)]
        have : ¬ (x.host = ⟨#[]⟩ ∧ x.dem = ⟨#[]⟩ ∧ 1 ≤ x.node ∧ x.node ≤ 4294967295 ∧ x.svc ≤ 4294967295) := fun ⟨a, b, _⟩ => he (Ev.ext' hi rfl rfl a b)
        rw [decide_eq_false this] at K; exact K
    · have hi' : x.ipn = false := by simpa using hi
      rw [if_neg hi]
      rw [if_neg hi] at K
      refine eid_Eid.ld hb ⟨_, cell_at hb rfl, _, cell_at hb rfl, _, eqv' (y := ⟨false, 0, 0, x.host, x.dem⟩) (x := x) rfl rfl, ?_⟩
      by_cases he : x = ⟨false, 0, 0, x.host, x.dem⟩
      · have e1 : x.node = 0 := congrArg Ev.node he
        have e2 : x.svc = 0 := congrArg Ev.svc he
        rw [if_pos (decide_eq_true he)]
        refine ⟨_, cell_at hb rfl, ?_⟩
        simp only [e1, e2, true_and] at K
        by_cases q1 : 1 ≤ x.host.size
        · rw [if_pos (decide_eq_true (by omega))]
          refine ⟨_, cell_at hb rfl, ?_⟩
          by_cases q2 : x.host.size ≤ 16
          · rw [if_pos (decide_eq_true (by omega))]
            refine ⟨_, cell_at hb rfl, ?_⟩
            by_cases q3 : x.dem.size ≤ 24
            · rw [if_pos (decide_eq_true (by omega))]
              simp only [q1, q2, q3, and_self, decide_true, Bool.true_and] at K
              refine ⟨_, cell_at hb rfl, plain_host fun h2 f2 => ⟨_, rfl, ?_⟩⟩
              have hb2 := f2.get hb id
              by_cases q4 : plainB 45 x.host = true
              · rw [if_pos q4]
                refine ⟨_, cell_at hb2 rfl, plain_demux fun h3 f3 => ⟨_, rfl, ?_⟩⟩
                have := hk h3 (f1.tt (f2.tt f3))
                unfold rightE at this
                rw [if_neg h0, if_neg hi, q4] at this
                simp only [e1, e2, q1, q2, q3, and_self, decide_true, Bool.true_and] at this
                exact this
              · rw [if_neg q4]
                have := hk h2 (f1.tt f2)
                unfold rightE at this
                have q4 : plainB 45 x.host = false := by simpa using q4
                rw [if_neg h0, if_neg hi, q4] at this
                simp only [Bool.false_and, Bool.and_false] at this
                exact this
            · rw [if_neg (by simp; omega)]
              simp only [q3, and_false, decide_false, Bool.false_and] at K; exact K
          · rw [if_neg (by simp; omega)]
            simp only [q2, false_and, and_false, decide_false, Bool.false_and] at K; exact K
        · rw [if_neg (by simp; omega)]
          simp only [q1, false_and, and_false, decide_false, Bool.false_and] at K; exact K
      · rw [if_neg (by simpa using he)]
        have : ¬ (x.node = 0 ∧ x.svc = 0 ∧ 1 ≤ x.host.size ∧ x.host.size ≤ 16 ∧ x.dem.size ≤ 24) := fun ⟨a, b, _⟩ => he (Ev.ext' hi' a b rfl rfl)
        rw [decide_eq_false this, Bool.false_and] at K; exact K
theorem class_ok (x : Ev) (hk : ∀ h', Fr (fun _ => False) h h' → R (.int .i64 (classE x)) h') : CallsH Tryz.prog F.eid_class #[.agg #[.bool x.ipn, .int .u64 x.node, .int .u64 x.svc, .string x.host, .string x.dem]] h R := by
  refine eid_class.walk (eid_Eid.box fun b h1 eb hb f1 => eid_Eid.ld hb ⟨_, eqv' (y := .zero) (x := x) rfl rfl, ?_⟩)
  have K := hk h1 f1
  unfold classE at K
  by_cases h0 : x = .zero
  · rw [if_pos (decide_eq_true h0)]; rw [if_pos h0] at K; exact K
  · rw [if_neg (by simpa using h0)]
    rw [if_neg h0] at K
    refine ⟨_, cell_at hb rfl, ?_⟩
    by_cases hi : x.ipn = true
    · rw [if_pos hi]; rw [if_pos hi] at K; exact K
    · rw [if_neg hi]; rw [if_neg hi] at K; exact K
theorem bytes_eq {a b : ByteArray} : (a.toList == b.toList) = true ↔ a = b := by
  rw [beq_iff_eq, toList_data, toList_data]
  constructor
  · intro e; cases a; cases b; simp only [ByteArray.mk.injEq]; exact Array.ext' e
  · rintro rfl; rfl
theorem less_ok (x y : Ev) (hk : ∀ h', Fr (fun _ => False) h h' → R (.bool (lessE x y)) h') : CallsH Tryz.prog F.eid_Less #[.agg #[.bool x.ipn, .int .u64 x.node, .int .u64 x.svc, .string x.host, .string x.dem], .agg #[.bool y.ipn, .int .u64 y.node, .int .u64 y.svc, .string y.host, .string y.dem]] h R := by
  refine eid_Less.walk (eid_Eid.box fun b h1 eb hb f1 => eid_Eid.box fun c h2 ec hc f2 => ?_)
  have hb2 := f2.get hb id
  refine eid_Eid.ld hb2 (eid_Eid.ld hc (class_ok x fun h3 f3 => ⟨_, rfl, eid_Eid.held (f3.get hc id), class_ok y fun h4 f4 => ⟨_, rfl, ?_⟩⟩))
  have F4 := f3.tt f4
  have hb4 := F4.get hb2 id
  have hc4 := F4.get hc id
  have K := hk h4 (f1.tt (f2.tt F4))
  unfold lessE at K
  by_cases q0 : classE x = classE y
  · rw [if_neg (by simpa using q0)]
    rw [if_neg (by simpa using q0)] at K
    refine ⟨_, cell_at hb4 rfl, _, cell_at hc4 rfl, ?_⟩
    by_cases q1 : x.node = y.node
    · rw [if_neg (by simpa using q1)]
      rw [if_neg (by simpa using q1)] at K
      refine ⟨_, cell_at hb4 rfl, _, cell_at hc4 rfl, ?_⟩
      by_cases q2 : x.svc = y.svc
      · rw [if_neg (by simpa using q2)]
        rw [if_neg (by simpa using q2)] at K
        refine ⟨_, cell_at hb4 rfl, _, cell_at hc4 rfl, ?_⟩
        by_cases q3 : x.host = y.host
        · rw [if_neg (by simp [bytes_eq.2 q3])]
          rw [if_neg (by simpa using q3)] at K
          exact ⟨_, cell_at hb4 rfl, _, cell_at hc4 rfl, K⟩
        · have : (x.host.toList == y.host.toList) = false := by
            cases e : x.host.toList == y.host.toList
            · rfl
            · exact absurd (bytes_eq.1 e) q3
          rw [if_pos (by simp [this])]
          rw [if_pos q3] at K
          exact ⟨_, cell_at hb4 rfl, _, cell_at hc4 rfl, K⟩
      · rw [if_pos (by simpa using q2)]
        rw [if_pos q2] at K
        exact ⟨_, cell_at hb4 rfl, _, cell_at hc4 rfl, K⟩
    · rw [if_pos (by simpa using q1)]
      rw [if_pos q1] at K
      exact ⟨_, cell_at hb4 rfl, _, cell_at hc4 rfl, K⟩
  · rw [if_pos (by simpa using q0)]
    refine eid_Eid.ld hb4 (eid_Eid.ld hc4 (class_ok x fun h5 f5 => ⟨_, rfl, eid_Eid.held (f5.get hc4 id), class_ok y fun h6 f6 => ⟨_, rfl, ?_⟩⟩))
    have K := hk h6 (f1.tt (f2.tt (F4.tt (f5.tt f6))))
    unfold lessE at K
    rw [if_pos q0] at K; exact K
end Eid
end Go.Proofs.YtgccegnmggjkjaaGreatDoor

/-
  What is proved here: bytes that are held; labels of blocks; more laws on slices ('clear', a clone). No condition.
-/
namespace Go.Den

/-- bytes in memory: where, their room, what they say -/
structure BV where
  p : Option Addr
  c : Nat
  b : List UInt8
abbrev BV.val (x : BV) : Value := .slice x.p x.b.length x.c
/-- .. and they lie in D -/
structure BV.ok (h : Heap) (D : Nat → Prop) (x : BV) : Prop where
  row : Row h x.p (bc x.b)
  own : x.b ≠ [] → ∀ c, inBlk x.p c → D c
  cap : x.b.length ≤ x.c
theorem BV.ok.frame {h h' : Heap} {D Q : Nat → Prop} {x : BV} (H : x.ok h D) (f : Fr Q h h') (hn : ∀ c, D c → ¬ Q c) : x.ok h' D := by
  refine ⟨?_, H.own, H.cap⟩
  by_cases hc : x.b = []
  · rw [hc]; exact .inl rfl
  · exact H.row.frame f (fun a e => hn a.block (H.own hc a.block ⟨a, e, rfl⟩))
theorem BV.ok.mono {h : Heap} {D D' : Nat → Prop} {x : BV} (H : x.ok h D) (hd : ∀ c, D c → D' c) : x.ok h D' := ⟨H.row, fun hc c hx => hd c (H.own hc c hx), H.cap⟩
theorem BV.of_own {h : Heap} {D : Nat → Prop} {p : Option Addr} {c : Nat} {b : List UInt8} (o : Own h p b.length c 1 (bc b)) (hd : ∀ x, inBlk p x → D x) : BV.ok h D ⟨p, c, b⟩ := ⟨o.row', fun _ => hd, o.le⟩

theorem slBase_zero (p : Option Addr) (m sz : Nat) : slBase p m 0 sz = p := by
  unfold slBase
  split
  · rfl
  · cases p with
    | none => rfl
    | some a => simp [Addr.add]

/-- a row in an owned slice -/
theorem Own.heldAt {h : Heap} {a : Addr} {len cap sz : Nat} {α : Type} {enc : α → List Value} {xs : List α} (own : Own h (.some a) len cap sz (xs.flatMap enc)) (henc : ∀ x, (enc x).length = sz) {i : Nat} {x : α} (hi : xs[i]? = .some x) : heldL (a.add (i * sz)) (enc x) 0 h := by
  refine heldL_at.2 fun j v hj => ?_
  rw [Nat.zero_add, add_add]
  exact own.cell (flat_at enc sz henc xs i x hi j v hj)
theorem Row.heldAt {h : Heap} {a : Addr} {sz : Nat} {α : Type} {enc : α → List Value} {xs : List α} (own : Row h (.some a) (xs.flatMap enc)) (henc : ∀ x, (enc x).length = sz) {i : Nat} {x : α} (hi : xs[i]? = .some x) : heldL (a.add (i * sz)) (enc x) 0 h := by
  refine heldL_at.2 fun j v hj => ?_
  rw [Nat.zero_add, add_add]
  exact own.cell (flat_at enc sz henc xs i x hi j v hj)
theorem Own.addr {h : Heap} {p : Option Addr} {len cap sz : Nat} {cs : List Value} (own : Own h p len cap sz cs) (hl : 0 < len) : ∃ b off, p = .some ⟨b, off, none⟩ := by
  cases own with
  | nil _ h2 _ _ => omega
  | row b off c t hp _ _ _ _ _ => exact ⟨b, off, hp⟩
theorem Own.pre {h : Heap} {p : Option Addr} {len cap sz : Nat} {cs : List Value} (own : Own h p len cap sz cs) {i : Nat} (hi : i ≤ len) : Own h p i cap sz (cs.take (i * sz)) := by
  have := own.sub (l := 0) (u := i) (Nat.zero_le _) hi
  rwa [slBase_zero, Nat.zero_mul, List.drop_zero] at this
theorem flat_take {α : Type} (enc : α → List Value) (sz : Nat) (henc : ∀ x, (enc x).length = sz) : ∀ (xs : List α) (i : Nat), (xs.flatMap enc).take (i * sz) = (xs.take i).flatMap enc
  | [], i => by simp
  | x :: xs, 0 => by simp
  | x :: xs, i + 1 => by
    rw [List.flatMap_cons, List.take_succ_cons, List.flatMap_cons, List.take_append, henc, List.take_of_length_le (by rw [henc, Nat.add_mul]; omega), show (i + 1) * sz - sz = i * sz by rw [Nat.add_mul]; omega, flat_take enc sz henc xs i]
theorem flat_drop {α : Type} (enc : α → List Value) (sz : Nat) (henc : ∀ x, (enc x).length = sz) : ∀ (xs : List α) (i : Nat), (xs.flatMap enc).drop (i * sz) = (xs.drop i).flatMap enc
  | [], i => by simp
  | x :: xs, 0 => by simp
  | x :: xs, i + 1 => by
    rw [List.flatMap_cons, List.drop_succ_cons, List.drop_append, henc, List.drop_of_length_le (by rw [henc, Nat.add_mul]; omega), List.nil_append, show (i + 1) * sz - sz = i * sz by rw [Nat.add_mul]; omega, flat_drop enc sz henc xs i]
theorem flat_set {α : Type} (enc : α → List Value) (sz : Nat) (henc : ∀ x, (enc x).length = sz) : ∀ (xs : List α) (i : Nat) (y : α), i < xs.length → ∀ (cs : List Value), cs.length = (xs.flatMap enc).length → (∀ j, j / sz ≠ i ∨ sz = 0 → cs[j]? = (xs.flatMap enc)[j]?) → (∀ j v, j < sz → (enc y)[j]? = some v → cs[i * sz + j]? = some v) → cs = (xs.set i y).flatMap enc := by
  intro xs i y hi cs hl h1 h2
  apply List.ext_getElem?
  intro j
  by_cases hsz : sz = 0
  · rw [h1 j (.inr hsz)]
    have e1 : ∀ zs : List α, zs.flatMap enc = [] := fun zs => by
      have := flat_len enc sz henc zs; rw [hsz, Nat.mul_zero] at this; exact List.eq_nil_of_length_eq_zero this
    rw [e1, e1]
  have hpos : 0 < sz := by omega
  by_cases hj : j / sz = i
  · have hjm : j = i * sz + j % sz := by rw [← hj, Nat.mul_comm]; exact (Nat.div_add_mod j sz).symm
    have hm := Nat.mod_lt j hpos
    have hy : (enc y)[j % sz]? = some ((enc y)[j % sz]'(by rw [henc]; exact hm)) := List.getElem?_eq_getElem _
    have a := h2 _ _ hm hy
    have b := flat_at enc sz henc (xs.set i y) i y (by simp [hi]) _ _ hy
    rw [← hjm] at a b
    rw [a, b]
  · rw [h1 j (.inl hj)]
    by_cases hjl : j / sz < xs.length
    · have hjm : j = (j / sz) * sz + j % sz := by rw [Nat.mul_comm]; exact (Nat.div_add_mod j sz).symm
      have hm := Nat.mod_lt j hpos
      have hx : xs[j / sz]? = some (xs[j / sz]) := List.getElem?_eq_getElem hjl
      have hx' : (xs.set i y)[j / sz]? = some (xs[j / sz]) := by rw [List.getElem?_set, if_neg (fun e => hj e.symm)]; exact hx
      have hy : (enc xs[j / sz])[j % sz]? = some ((enc xs[j / sz])[j % sz]'(by rw [henc]; exact hm)) := List.getElem?_eq_getElem _
      have a := flat_at enc sz henc xs _ _ hx _ _ hy
      have b := flat_at enc sz henc (xs.set i y) _ _ hx' _ _ hy
      rw [← hjm] at a b
      rw [a, b]
    · have hge : xs.length * sz ≤ j := by
        have := (Nat.le_div_iff_mul_le hpos).1 (Nat.le_of_not_lt hjl); exact this
      rw [List.getElem?_eq_none (by rw [flat_len enc sz henc]; exact hge), List.getElem?_eq_none (by rw [flat_len enc sz henc, List.length_set]; exact hge)]

section
variable {P : Program}
theorem den_clear {sT elem ty : TypeId} {sz bytes : Nat} {z : Value} {h : Heap} {p : Option Addr} {len cap i : Nat} {cs : List Value} {K : Value → Heap → Prop} (T : SlTy P sT elem sz bytes z) (hone : ∀ v ∈ z.cells.toList, oneCell v = true)
    (own : Own h p len cap sz cs) (hi : i ≤ len) (hk : ∀ h', Own h' p i cap sz (cs.take (i * sz)) → Fr (inBlk p) h h' → K (.tuple #[]) h') : denSem P (Builtin.clear_ #[sT] ty #[.slice (slBase p cap i sz) (len - i) (cap - i)]) h K := by
  have fin : K (.tuple #[]) h := hk h (own.pre hi) (Fr.refl _ _)
  obtain ⟨inf, hinf, hsz, _, hz⟩ := T.i
  unfold Builtin.clear_
  show denSem P (underlying sT >>= _) h K
  refine den_of_rd (s := underlying sT) (rd_underlying T.u) ?_
  cases own with
  | nil hp hl hc hcs =>
    subst hp
    have : slBase none cap i sz = none := by unfold slBase; split <;> rfl
    rw [this]
    exact fin
  | row b off c t hp hb hl hc hlen hcs =>
    subst hp
    by_cases hil : len - i = 0
    · rw [hil]
      cases hq : slBase (some ⟨b, off, none⟩) cap i sz with
      | none => exact fin
      | some a => exact fin
    · obtain ⟨n, hn⟩ : ∃ n, len - i = n + 1 := ⟨len - i - 1, by omega⟩
      have hci : cap ≠ i := by omega
      have hb0 : slBase (some ⟨b, off, none⟩) cap i sz = some ⟨b, off + i * sz, none⟩ := by
        unfold slBase; rw [if_neg hci]; show some ((⟨b, off, none⟩ : Addr).add (i * sz)) = _; rw [add_blk]
      rw [hb0, hn]
      show denSem P (zeroValue elem >>= fun z => storeCells ⟨b, off + i * sz, none⟩ (Builtin.zeroCells z.cells (n + 1)).toList >>= fun _ => pure (Value.tuple #[])) h K
      refine den_of_rd (s := zeroValue elem) (rd_zeroValue hinf hz) ?_
      rw [den_bind]
      have hzs := T.zs
      have hzl : (Builtin.zeroCells z.cells (n + 1)).toList.length = (n + 1) * sz := by simp [Builtin.zeroCells, hzs]
      have hin : off + i * sz + (n + 1) * sz ≤ off + cap * sz := by
        rw [← hn, Nat.sub_mul]
        have m1 : i * sz ≤ len * sz := Nat.mul_le_mul_right _ hi
        have m2 : len * sz ≤ cap * sz := Nat.mul_le_mul_right _ hl
        omega
      refine splice_set (c := c) (off := off + i * sz) _ 0 h b t _ ?_ hb (by rw [hzl]; omega) ?_
      · intro v hv
        simp only [Builtin.zeroCells, Array.toList_map, List.mem_map] at hv
        obtain ⟨k, hk1, rfl⟩ := hv
        have hpos : 0 < z.cells.size := by
          rcases Nat.eq_zero_or_pos z.cells.size with e | e
          · simp [e] at hk1
          · exact e
        have hm := Nat.mod_lt k hpos
        rw [getElem!_pos z.cells _ hm]
        exact hone _ (by simp)
      · intro h' c' hb' hs' ho' hn' hsz' hoth
        refine hk h' (.row b off c' t rfl hb' (by omega) (by omega) ?_ ?_) (Fr.of_eq hsz' fun x hx => hoth x (fun e => hx ⟨_, rfl, e.symm⟩))
        · rw [List.length_take, hlen]
          have m1 : i * sz ≤ len * sz := Nat.mul_le_mul_right _ hi
          omega
        · intro j v hj
          rw [List.getElem?_take] at hj
          split at hj
          · rename_i hji
            rw [ho' (off + j) (by omega)]
            exact hcs j v hj
          · cases hj
/-- a clone of a slice: 'append' to an empty one -/
theorem den_clone {sT xT ty elem eT t : TypeId} {sz bytes : Nat} {z : Value} {h : Heap} {q : Option Addr} {n cq : Nat} {ds : List Value} {K : Value → Heap → Prop}
    (T : SlTy P sT elem sz bytes z) (hx : P.underlying xT = some (.slice eT)) (hq : Row h q ds) (hd : ds.length = n * sz) (hone : ∀ v ∈ ds, oneCell v = true) (hb : n * bytes ≤ 70368744177664) (hb2 : n ≤ 9223372036854775807)
    (hk : ∀ p' cap' h', Own h' p' n cap' sz ds → Fr (fun _ => False) h h' → (∀ c, inBlk p' c → h.size ≤ c) → K (.slice p' n cap') h') :
    NewP h (.cells #[] t) fun b h1 => denSem P (Builtin.append_ #[sT, xT] ty #[.slice (some ⟨b, 0, none⟩) 0 0, .slice q n cq]) h1 K := by
  refine newP_of ?_
  have f1 : Fr (fun _ => False) h (h.push (.cells #[] t)) := Fr.push _ _
  refine den_append (cs := []) T hx (.row h.size 0 #[] t rfl push_new (Nat.le_refl _) (by simp) (by simp) (fun j v hj => by cases hj)) (hq.frame f1 (fun _ _ => id)) hd hone (by simpa using hb) (by omega) ?_
  intro p' c' h' o1 _ f2 g
  rw [Nat.zero_add, List.nil_append] at o1
  rw [Nat.zero_add]
  refine hk p' c' h' o1 (f1.step f2 (fun c hc ⟨a, e, e2⟩ => by cases e; simp at e2; omega)) (fun x hx => ?_)
  rcases g x hx with ⟨a, e, rfl⟩ | h2
  · cases e; exact Nat.le_refl _
  · simp at h2; omega
end
theorem flat_set2 {α : Type} {enc : α → List Value} (henc : ∀ x, (enc x).length = 2) {xs : List α} {i : Nat} {y : α} {v0 v1 : Value} (hi : i < xs.length) (hy : enc y = [v0, v1]) : ((xs.flatMap enc).set (i * 2) v0).set (i * 2 + 1) v1 = (xs.set i y).flatMap enc := by
  have hl := flat_len enc 2 henc xs
  refine flat_set enc 2 henc xs i y hi _ (by simp) (fun j hj => ?_) (fun j v hj hv => ?_)
  · have hj : j / 2 ≠ i := by omega
    rw [List.getElem?_set, List.getElem?_set, if_neg (by omega), if_neg (by omega)]
  · rw [hy] at hv
    match j, hj with
    | 0, _ =>
      simp only [List.getElem?_cons_zero, Option.some.injEq] at hv
      rw [List.getElem?_set, if_neg (by omega), List.getElem?_set, if_pos (by omega), if_pos (by omega), hv]
    | 1, _ =>
      simp only [List.getElem?_cons_succ, List.getElem?_cons_zero, Option.some.injEq] at hv
      rw [List.getElem?_set, if_pos rfl, if_pos (by rw [List.length_set]; omega), hv]
theorem flat_one {α : Type} (f : α → Value) (xs : List α) : xs.flatMap (fun x => [f x]) = xs.map f := by
  induction xs with
  | nil => rfl
  | cons x xs ih => rw [List.flatMap_cons, ih]; rfl
/-- a slice of slices of bytes that a law is handed -/
theorem RokV.bytess {P : Program} {h : Heap} {t e e8 : TypeId} {p : Option Addr} {len cap : Nat} (he : P.cellsOf e = 1) (he8 : P.cellsOf e8 = 1) (h8 : P.underlying e8 = some (.int .u8)) (hes : P.underlying e = some (.slice e8)) (ht : P.underlying t = some (.slice e)) (hv : RokV P h t (.slice p len cap)) :
    ∃ xs : List BV, xs.length = len ∧ Row h p (xs.flatMap fun x => [x.val]) ∧ ∀ x ∈ xs, Row h x.p (bc x.b) := by
  obtain ⟨xs, h1, _, _, h2, h3⟩ := RokV.slice (e := e) (fun x : BV => [x.val]) 1 (fun x => Row h x.p (bc x.b)) he (fun _ => rfl) (fun n cs hl hr => by
    match cs, hl with
    | [v], _ =>
      obtain ⟨p, c, bs, rfl, hrow⟩ := Rok.bytes he8 h8 hes hr
      exact ⟨⟨p, c, bs⟩, rfl, hrow⟩) ht hv
  exact ⟨xs, h1, h2, h3⟩
end Go.Den

/-
  Printed by a program of this work (vc.py): the verification conditions of functions, and that each is enough for the call. No condition.
-/
set_option maxRecDepth 100000
set_option maxHeartbeats 4000000
namespace Go.Proofs.YtgccegnmggjkjaaGreatDoor
open Go.Den
def regs_New.vc  (h : Heap) (R : Value → Heap → Prop) : Prop :=
 NewP h (.map #[] 0) fun b h_1 =>
 NewP h_1 (.cells #[.map (some b)] T.regs_Table) fun b_1 h_2 =>
 R (.pointer (some ⟨b_1, 0, none⟩)) h_2
theorem regs_New.walk  {h : Heap} {R : Value → Heap → Prop} (hv : regs_New.vc h R) : CallsH Tryz.prog F.regs_New #[] h R :=
 callsH_of_body (.seq .leaf (.seq .leaf .leaf)) Tryz.func29 rfl rfl (Eq.mp (by kernel_rfl) hv)

def regs_Table_made.vc (t : Nat) (h : Heap) (R : Value → Heap → Prop) : Prop :=
 ∃ (t9 : Option Nat), hcell h ⟨t, 0, none⟩ = some (.map t9) ∧
 R (.bool (!t9.isNone)) h
theorem regs_Table_made.walk {t : Nat} {h : Heap} {R : Value → Heap → Prop} (hv : regs_Table_made.vc t h R) : CallsH Tryz.prog F.regs_Table_made #[.pointer (some ⟨t, 0, none⟩)] h R :=
 callsH_of_body (.seq .leaf (.seq .leaf .leaf)) Tryz.func89 rfl rfl (Eq.mp (by kernel_rfl) hv)

def regs_Table_made.nil.vc  (h : Heap) (R : Value → Heap → Prop) : Prop :=
 R (.bool false) h
theorem regs_Table_made.nil.walk  {h : Heap} {R : Value → Heap → Prop} (hv : regs_Table_made.nil.vc h R) : CallsH Tryz.prog F.regs_Table_made #[.pointer none] h R :=
 callsH_of_body (.seq .leaf (.seq .leaf .leaf)) Tryz.func89 rfl rfl (Eq.mp (by kernel_rfl) hv)

def regs_isPolicy.vc (n : Int) (h : Heap) (R : Value → Heap → Prop) : Prop :=
 if (decide (n ≥ 0)) = true then
 R (.bool (decide (n ≤ 2))) h
 else
 R (.bool false) h
theorem regs_isPolicy.walk {n : Int} {h : Heap} {R : Value → Heap → Prop} (hv : regs_isPolicy.vc n h R) : CallsH Tryz.prog F.regs_isPolicy #[.int .i64 n] h R :=
 callsH_of_body (.seq .leaf (.seq .leaf .leaf)) Tryz.func92 rfl rfl (Eq.mp (by kernel_rfl) hv)

def regs_right.vc (r_0 : Bool) (r_1 : Int) (r_2 : Int) (r_3 : ByteArray) (r_4 : ByteArray) (r_5 : Int) (r_6 : Int) (h : Heap) (R : Value → Heap → Prop) : Prop :=
 NewP h (.cells #[.bool r_0, .int .u64 r_1, .int .u64 r_2, .string r_3, .string r_4, .int .i64 r_5, .int .i64 r_6] T.regs_Reg) fun b h_1 =>
 eid_Eid.LD h_1 ⟨b, 0, none⟩ fun t4_0 t4_1 t4_2 t4_3 t4_4 =>
 CallsH Tryz.prog F.eid_Right #[.agg #[.bool t4_0, .int .u64 t4_1, .int .u64 t4_2, .string t4_3, .string t4_4]] h_1 fun v h_2 =>
 ∃ (t5 : Bool), v = .bool t5 ∧
 if t5 = true then
 eid_Eid.LD h_2 ⟨b, 0, none⟩ fun t8_0 t8_1 t8_2 t8_3 t8_4 =>
 ∃ (eq : Bool), EqV Tryz.prog T.eid_Eid (.agg #[.bool t8_0, .int .u64 t8_1, .int .u64 t8_2, .string t8_3, .string t8_4]) (.agg #[.bool false, .int .u64 0, .int .u64 0, .string (⟨#[]⟩ : ByteArray), .string (⟨#[]⟩ : ByteArray)]) eq ∧
 if (!eq) = true then
 ∃ (t14 : Int), hcell h_2 ⟨b, 5, none⟩ = some (.int .i64 t14) ∧
 CallsH Tryz.prog F.regs_isPolicy #[.int .i64 t14] h_2 fun v_1 h_3 =>
 ∃ (t15 : Bool), v_1 = .bool t15 ∧
 if t15 = true then
 ∃ (t19 : Int), hcell h_3 ⟨b, 6, none⟩ = some (.int .i64 t19) ∧
 if (decide (t19 ≥ 1)) = true then
 ∃ (t24 : Int), hcell h_3 ⟨b, 6, none⟩ = some (.int .i64 t24) ∧
 R (.bool (decide (t24 ≤ 1099511627776))) h_3
 else
 R (.bool false) h_3
 else
 R (.bool false) h_3
 else
 R (.bool false) h_2
 else
 R (.bool false) h_2
theorem regs_right.walk {r_0 : Bool} {r_1 : Int} {r_2 : Int} {r_3 : ByteArray} {r_4 : ByteArray} {r_5 : Int} {r_6 : Int} {h : Heap} {R : Value → Heap → Prop} (hv : regs_right.vc r_0 r_1 r_2 r_3 r_4 r_5 r_6 h R) : CallsH Tryz.prog F.regs_right #[.agg #[.bool r_0, .int .u64 r_1, .int .u64 r_2, .string r_3, .string r_4, .int .i64 r_5, .int .i64 r_6]] h R :=
 callsH_of_body (.seq .leaf (.seq .leaf .leaf)) Tryz.func90 rfl rfl (Eq.mp (by kernel_rfl) hv)

def regs_Table_Add.vc (t : Nat) (r_0 : Bool) (r_1 : Int) (r_2 : Int) (r_3 : ByteArray) (r_4 : ByteArray) (r_5 : Int) (r_6 : Int) (h : Heap) (R : Value → Heap → Prop) : Prop :=
 NewP h (.cells #[.bool r_0, .int .u64 r_1, .int .u64 r_2, .string r_3, .string r_4, .int .i64 r_5, .int .i64 r_6] T.regs_Reg) fun b h_1 =>
 CallsH Tryz.prog F.regs_Table_made #[.pointer (some ⟨t, 0, none⟩)] h_1 fun v h_2 =>
 ∃ (t8 : Bool), v = .bool t8 ∧
 if (!t8) = true then
 R (.int .i64 6) h_2
 else
 ∃ (t14 : Option Nat), hcell h_2 ⟨t, 0, none⟩ = some (.map t14) ∧
 eid_Eid.LD h_2 ⟨b, 0, none⟩ fun t16_0 t16_1 t16_2 t16_3 t16_4 =>
 ∃ (t17_0_0 : Bool), ∃ (t17_0_1 : Int), ∃ (t17_0_2 : Int), ∃ (t17_0_3 : ByteArray), ∃ (t17_0_4 : ByteArray), ∃ (t17_0_5 : Int), ∃ (t17_0_6 : Int), ∃ (t17_1 : Bool), LookV Tryz.prog T.m_eid_Eid_regs_Reg (.map t14) (.agg #[.bool t16_0, .int .u64 t16_1, .int .u64 t16_2, .string t16_3, .string t16_4]) true h_2 (.tuple #[.agg #[.bool t17_0_0, .int .u64 t17_0_1, .int .u64 t17_0_2, .string t17_0_3, .string t17_0_4, .int .i64 t17_0_5, .int .i64 t17_0_6], .bool t17_1]) ∧
 NewP h_2 (.cells #[.bool false, .int .u64 0, .int .u64 0, .string (⟨#[]⟩ : ByteArray), .string (⟨#[]⟩ : ByteArray), .int .i64 0, .int .i64 0] T.regs_Reg) fun b_1 h_3 =>
 mapSame (.map t14) h_2 h_3 ∧
 heldL ⟨b, 0, none⟩ [.bool t16_0, .int .u64 t16_1, .int .u64 t16_2, .string t16_3, .string t16_4] 0 h_3 ∧
 hcell h_3 ⟨t, 0, none⟩ = some (.map t14) ∧
 regs_Reg.ST h_3 ⟨b_1, 0, none⟩ t17_0_0 t17_0_1 t17_0_2 t17_0_3 t17_0_4 t17_0_5 t17_0_6 fun h_4 =>
 regs_Reg.LD h_4 ⟨b, 0, none⟩ fun t21_0 t21_1 t21_2 t21_3 t21_4 t21_5 t21_6 =>
 CallsH Tryz.prog F.regs_right #[.agg #[.bool t21_0, .int .u64 t21_1, .int .u64 t21_2, .string t21_3, .string t21_4, .int .i64 t21_5, .int .i64 t21_6]] h_4 fun v_1 h_5 =>
 ∃ (t22 : Bool), v_1 = .bool t22 ∧
 if (!t22) = true then
 R (.int .i64 1) h_5
 else
 if t17_1 = true then
 R (.int .i64 11) h_5
 else
 ∃ (t30 : Option Nat), hcell h_5 ⟨t, 0, none⟩ = some (.map t30) ∧
 ∃ t31 : Int, LenV Tryz.prog #[T.m_eid_Eid_regs_Reg] T.int (.map t30) h_5 (.int .i64 t31) ∧
 if (decide (t31 ≥ 8)) = true then
 R (.int .i64 15) h_5
 else
 ∃ (t36 : Option Nat), hcell h_5 ⟨t, 0, none⟩ = some (.map t36) ∧
 eid_Eid.LD h_5 ⟨b, 0, none⟩ fun t38_0 t38_1 t38_2 t38_3 t38_4 =>
 regs_Reg.LD h_5 ⟨b, 0, none⟩ fun t39_0 t39_1 t39_2 t39_3 t39_4 t39_5 t39_6 =>
 denSem Tryz.prog (Instr.mapUpdate T.m_eid_Eid_regs_Reg (.map t36) (.agg #[.bool t38_0, .int .u64 t38_1, .int .u64 t38_2, .string t38_3, .string t38_4]) (.agg #[.bool t39_0, .int .u64 t39_1, .int .u64 t39_2, .string t39_3, .string t39_4, .int .i64 t39_5, .int .i64 t39_6])) h_5 fun _ h_6 =>
 R (.int .i64 0) h_6
theorem regs_Table_Add.walk {t : Nat} {r_0 : Bool} {r_1 : Int} {r_2 : Int} {r_3 : ByteArray} {r_4 : ByteArray} {r_5 : Int} {r_6 : Int} {h : Heap} {R : Value → Heap → Prop} (hv : regs_Table_Add.vc t r_0 r_1 r_2 r_3 r_4 r_5 r_6 h R) : CallsH Tryz.prog F.regs_Table_Add #[.pointer (some ⟨t, 0, none⟩), .agg #[.bool r_0, .int .u64 r_1, .int .u64 r_2, .string r_3, .string r_4, .int .i64 r_5, .int .i64 r_6]] h R :=
 callsH_of_body (.seq .leaf (.seq (.seq .leaf (.cond (.seq .leaf .leaf) .leaf)) (.seq (.plan (.op 0 (.op 1 (.op 2 (.op 3 (.op 4 (.op 5 (.op 6 (.op 7 (.op 8 (.op 9 (.op 10 (.op 11 (.op 12 .done)))))))))))))) (.seq (.block (.seq .leaf (.cond (.seq .leaf .leaf) (.seq .leaf (.cond (.seq .leaf .leaf) (.seq .leaf (.cond (.seq .leaf .leaf) .leaf))))))) (.seq (.plan (.op 0 (.op 1 (.op 2 (.op 3 (.op 4 (.op 5 (.op 6 (.op 7 .done))))))))) (.seq .leaf .leaf)))))) Tryz.func32 rfl rfl (Eq.mp (by kernel_rfl) hv)

def regs_Table_Add.nil.vc (r_0 : Bool) (r_1 : Int) (r_2 : Int) (r_3 : ByteArray) (r_4 : ByteArray) (r_5 : Int) (r_6 : Int) (h : Heap) (R : Value → Heap → Prop) : Prop :=
 NewP h (.cells #[.bool r_0, .int .u64 r_1, .int .u64 r_2, .string r_3, .string r_4, .int .i64 r_5, .int .i64 r_6] T.regs_Reg) fun b h_1 =>
 CallsH Tryz.prog F.regs_Table_made #[.pointer none] h_1 fun v h_2 =>
 ∃ (t8 : Bool), v = .bool t8 ∧
 if (!t8) = true then
 R (.int .i64 6) h_2
 else
 False
theorem regs_Table_Add.nil.walk {r_0 : Bool} {r_1 : Int} {r_2 : Int} {r_3 : ByteArray} {r_4 : ByteArray} {r_5 : Int} {r_6 : Int} {h : Heap} {R : Value → Heap → Prop} (hv : regs_Table_Add.nil.vc r_0 r_1 r_2 r_3 r_4 r_5 r_6 h R) : CallsH Tryz.prog F.regs_Table_Add #[.pointer none, .agg #[.bool r_0, .int .u64 r_1, .int .u64 r_2, .string r_3, .string r_4, .int .i64 r_5, .int .i64 r_6]] h R :=
 callsH_of_body (.seq .leaf (.seq (.seq .leaf (.cond (.seq .leaf .leaf) .leaf)) (.seq (.plan (.op 0 (.op 1 (.op 2 (.op 3 (.op 4 (.op 5 (.op 6 (.op 7 (.op 8 (.op 9 (.op 10 (.op 11 (.op 12 .done)))))))))))))) (.seq (.block (.seq .leaf (.cond (.seq .leaf .leaf) (.seq .leaf (.cond (.seq .leaf .leaf) (.seq .leaf (.cond (.seq .leaf .leaf) .leaf))))))) (.seq (.plan (.op 0 (.op 1 (.op 2 (.op 3 (.op 4 (.op 5 (.op 6 (.op 7 .done))))))))) (.seq .leaf .leaf)))))) Tryz.func32 rfl rfl (Eq.mp (by kernel_rfl) hv)

def regs_Table_ask.vc (t : Nat) (endpoint_0 : Bool) (endpoint_1 : Int) (endpoint_2 : Int) (endpoint_3 : ByteArray) (endpoint_4 : ByteArray) (owner : Int) (h : Heap) (R : Value → Heap → Prop) : Prop :=
 NewP h (.cells #[.bool endpoint_0, .int .u64 endpoint_1, .int .u64 endpoint_2, .string endpoint_3, .string endpoint_4] T.eid_Eid) fun b h_1 =>
 NewP h_1 (.cells #[.bool false, .int .u64 0, .int .u64 0, .string (⟨#[]⟩ : ByteArray), .string (⟨#[]⟩ : ByteArray), .int .i64 0, .int .i64 0] T.regs_Reg) fun b_1 h_2 =>
 CallsH Tryz.prog F.regs_Table_made #[.pointer (some ⟨t, 0, none⟩)] h_2 fun v h_3 =>
 ∃ (t11 : Bool), v = .bool t11 ∧
 if (!t11) = true then
 regs_Reg.ST h_3 ⟨b_1, 0, none⟩ false 0 0 (⟨#[]⟩ : ByteArray) (⟨#[]⟩ : ByteArray) 0 0 fun h_4 =>
 regs_Reg.LD h_4 ⟨b_1, 0, none⟩ fun r_0 r_1 r_2 r_3 r_4 r_5 r_6 =>
 R (.tuple #[.agg #[.bool r_0, .int .u64 r_1, .int .u64 r_2, .string r_3, .string r_4, .int .i64 r_5, .int .i64 r_6], .int .i64 6]) h_4
 else
 ∃ (t18 : Option Nat), hcell h_3 ⟨t, 0, none⟩ = some (.map t18) ∧
 eid_Eid.LD h_3 ⟨b, 0, none⟩ fun t19_0 t19_1 t19_2 t19_3 t19_4 =>
 ∃ (t20_0_0 : Bool), ∃ (t20_0_1 : Int), ∃ (t20_0_2 : Int), ∃ (t20_0_3 : ByteArray), ∃ (t20_0_4 : ByteArray), ∃ (t20_0_5 : Int), ∃ (t20_0_6 : Int), ∃ (t20_1 : Bool), LookV Tryz.prog T.m_eid_Eid_regs_Reg (.map t18) (.agg #[.bool t19_0, .int .u64 t19_1, .int .u64 t19_2, .string t19_3, .string t19_4]) true h_3 (.tuple #[.agg #[.bool t20_0_0, .int .u64 t20_0_1, .int .u64 t20_0_2, .string t20_0_3, .string t20_0_4, .int .i64 t20_0_5, .int .i64 t20_0_6], .bool t20_1]) ∧
 NewP h_3 (.cells #[.bool false, .int .u64 0, .int .u64 0, .string (⟨#[]⟩ : ByteArray), .string (⟨#[]⟩ : ByteArray), .int .i64 0, .int .i64 0] T.regs_Reg) fun b_2 h_5 =>
 mapSame (.map t18) h_3 h_5 ∧
 heldL ⟨b, 0, none⟩ [.bool t19_0, .int .u64 t19_1, .int .u64 t19_2, .string t19_3, .string t19_4] 0 h_5 ∧
 hcell h_5 ⟨t, 0, none⟩ = some (.map t18) ∧
 regs_Reg.ST h_5 ⟨b_2, 0, none⟩ t20_0_0 t20_0_1 t20_0_2 t20_0_3 t20_0_4 t20_0_5 t20_0_6 fun h_6 =>
 if (!t20_1) = true then
 regs_Reg.ST h_6 ⟨b_1, 0, none⟩ false 0 0 (⟨#[]⟩ : ByteArray) (⟨#[]⟩ : ByteArray) 0 0 fun h_7 =>
 regs_Reg.LD h_7 ⟨b_1, 0, none⟩ fun r_0_1 r_1_1 r_2_1 r_3_1 r_4_1 r_5_1 r_6_1 =>
 R (.tuple #[.agg #[.bool r_0_1, .int .u64 r_1_1, .int .u64 r_2_1, .string r_3_1, .string r_4_1, .int .i64 r_5_1, .int .i64 r_6_1], .int .i64 4]) h_7
 else
 ∃ (t29 : Int), hcell h_6 ⟨b_2, 6, none⟩ = some (.int .i64 t29) ∧
 if (t29 != owner) = true then
 regs_Reg.ST h_6 ⟨b_1, 0, none⟩ false 0 0 (⟨#[]⟩ : ByteArray) (⟨#[]⟩ : ByteArray) 0 0 fun h_8 =>
 regs_Reg.LD h_8 ⟨b_1, 0, none⟩ fun r_0_2 r_1_2 r_2_2 r_3_2 r_4_2 r_5_2 r_6_2 =>
 R (.tuple #[.agg #[.bool r_0_2, .int .u64 r_1_2, .int .u64 r_2_2, .string r_3_2, .string r_4_2, .int .i64 r_5_2, .int .i64 r_6_2], .int .i64 13]) h_8
 else
 regs_Reg.LD h_6 ⟨b_2, 0, none⟩ fun t33_0 t33_1 t33_2 t33_3 t33_4 t33_5 t33_6 =>
 regs_Reg.ST h_6 ⟨b_1, 0, none⟩ t33_0 t33_1 t33_2 t33_3 t33_4 t33_5 t33_6 fun h_9 =>
 regs_Reg.LD h_9 ⟨b_1, 0, none⟩ fun r_0_3 r_1_3 r_2_3 r_3_3 r_4_3 r_5_3 r_6_3 =>
 R (.tuple #[.agg #[.bool r_0_3, .int .u64 r_1_3, .int .u64 r_2_3, .string r_3_3, .string r_4_3, .int .i64 r_5_3, .int .i64 r_6_3], .int .i64 0]) h_9
theorem regs_Table_ask.walk {t : Nat} {endpoint_0 : Bool} {endpoint_1 : Int} {endpoint_2 : Int} {endpoint_3 : ByteArray} {endpoint_4 : ByteArray} {owner : Int} {h : Heap} {R : Value → Heap → Prop} (hv : regs_Table_ask.vc t endpoint_0 endpoint_1 endpoint_2 endpoint_3 endpoint_4 owner h R) : CallsH Tryz.prog F.regs_Table_ask #[.pointer (some ⟨t, 0, none⟩), .agg #[.bool endpoint_0, .int .u64 endpoint_1, .int .u64 endpoint_2, .string endpoint_3, .string endpoint_4], .int .i64 owner] h R :=
 callsH_of_body (.seq .leaf (.seq (.seq .leaf (.cond (.seq .leaf .leaf) .leaf)) (.seq (.plan (.op 0 (.op 1 (.op 2 (.op 3 (.op 4 (.op 5 (.op 6 (.op 7 (.op 8 (.op 9 (.op 10 (.op 11 .done))))))))))))) (.seq (.block (.seq .leaf (.cond (.seq .leaf .leaf) (.seq .leaf (.cond (.seq .leaf .leaf) .leaf))))) (.seq .leaf .leaf))))) Tryz.func91 rfl rfl (Eq.mp (by kernel_rfl) hv)

def regs_Table_ask.nil.vc (endpoint_0 : Bool) (endpoint_1 : Int) (endpoint_2 : Int) (endpoint_3 : ByteArray) (endpoint_4 : ByteArray) (owner : Int) (h : Heap) (R : Value → Heap → Prop) : Prop :=
 NewP h (.cells #[.bool endpoint_0, .int .u64 endpoint_1, .int .u64 endpoint_2, .string endpoint_3, .string endpoint_4] T.eid_Eid) fun b h_1 =>
 NewP h_1 (.cells #[.bool false, .int .u64 0, .int .u64 0, .string (⟨#[]⟩ : ByteArray), .string (⟨#[]⟩ : ByteArray), .int .i64 0, .int .i64 0] T.regs_Reg) fun b_1 h_2 =>
 CallsH Tryz.prog F.regs_Table_made #[.pointer none] h_2 fun v h_3 =>
 ∃ (t11 : Bool), v = .bool t11 ∧
 if (!t11) = true then
 regs_Reg.ST h_3 ⟨b_1, 0, none⟩ false 0 0 (⟨#[]⟩ : ByteArray) (⟨#[]⟩ : ByteArray) 0 0 fun h_4 =>
 regs_Reg.LD h_4 ⟨b_1, 0, none⟩ fun r_0 r_1 r_2 r_3 r_4 r_5 r_6 =>
 R (.tuple #[.agg #[.bool r_0, .int .u64 r_1, .int .u64 r_2, .string r_3, .string r_4, .int .i64 r_5, .int .i64 r_6], .int .i64 6]) h_4
 else
 False
theorem regs_Table_ask.nil.walk {endpoint_0 : Bool} {endpoint_1 : Int} {endpoint_2 : Int} {endpoint_3 : ByteArray} {endpoint_4 : ByteArray} {owner : Int} {h : Heap} {R : Value → Heap → Prop} (hv : regs_Table_ask.nil.vc endpoint_0 endpoint_1 endpoint_2 endpoint_3 endpoint_4 owner h R) : CallsH Tryz.prog F.regs_Table_ask #[.pointer none, .agg #[.bool endpoint_0, .int .u64 endpoint_1, .int .u64 endpoint_2, .string endpoint_3, .string endpoint_4], .int .i64 owner] h R :=
 callsH_of_body (.seq .leaf (.seq (.seq .leaf (.cond (.seq .leaf .leaf) .leaf)) (.seq (.plan (.op 0 (.op 1 (.op 2 (.op 3 (.op 4 (.op 5 (.op 6 (.op 7 (.op 8 (.op 9 (.op 10 (.op 11 .done))))))))))))) (.seq (.block (.seq .leaf (.cond (.seq .leaf .leaf) (.seq .leaf (.cond (.seq .leaf .leaf) .leaf))))) (.seq .leaf .leaf))))) Tryz.func91 rfl rfl (Eq.mp (by kernel_rfl) hv)

def regs_Table_Remove.vc (t : Nat) (endpoint_0 : Bool) (endpoint_1 : Int) (endpoint_2 : Int) (endpoint_3 : ByteArray) (endpoint_4 : ByteArray) (owner : Int) (h : Heap) (R : Value → Heap → Prop) : Prop :=
 NewP h (.cells #[.bool endpoint_0, .int .u64 endpoint_1, .int .u64 endpoint_2, .string endpoint_3, .string endpoint_4] T.eid_Eid) fun b h_1 =>
 eid_Eid.LD h_1 ⟨b, 0, none⟩ fun t11_0 t11_1 t11_2 t11_3 t11_4 =>
 CallsH Tryz.prog F.regs_Table_ask #[.pointer (some ⟨t, 0, none⟩), .agg #[.bool t11_0, .int .u64 t11_1, .int .u64 t11_2, .string t11_3, .string t11_4], .int .i64 owner] h_1 fun v h_2 =>
 ∃ (t13_0_0 : Bool), ∃ (t13_0_1 : Int), ∃ (t13_0_2 : Int), ∃ (t13_0_3 : ByteArray), ∃ (t13_0_4 : ByteArray), ∃ (t13_0_5 : Int), ∃ (t13_0_6 : Int), ∃ (t13_1 : Int), v = .tuple #[.agg #[.bool t13_0_0, .int .u64 t13_0_1, .int .u64 t13_0_2, .string t13_0_3, .string t13_0_4, .int .i64 t13_0_5, .int .i64 t13_0_6], .int .i64 t13_1] ∧
 NewP h_2 (.cells #[.bool false, .int .u64 0, .int .u64 0, .string (⟨#[]⟩ : ByteArray), .string (⟨#[]⟩ : ByteArray), .int .i64 0, .int .i64 0] T.regs_Reg) fun b_1 h_3 =>
 regs_Reg.ST h_3 ⟨b_1, 0, none⟩ t13_0_0 t13_0_1 t13_0_2 t13_0_3 t13_0_4 t13_0_5 t13_0_6 fun h_4 =>
 JoinP (fun (h_5 : Heap) =>
 R (.int .i64 t13_1) h_5)
 (fun J =>
 if (t13_1 == 0) = true then
 ∃ (t21 : Option Nat), hcell h_4 ⟨t, 0, none⟩ = some (.map t21) ∧
 eid_Eid.LD h_4 ⟨b, 0, none⟩ fun t22_0 t22_1 t22_2 t22_3 t22_4 =>
 denSem Tryz.prog (Builtin.delete_ #[T.m_eid_Eid_regs_Reg, T.eid_Eid] T.tup_ #[.map t21, .agg #[.bool t22_0, .int .u64 t22_1, .int .u64 t22_2, .string t22_3, .string t22_4]]) h_4 fun v_1 h_6 =>
 v_1 = .tuple #[] ∧
 J h_6
 else
 J h_4)
theorem regs_Table_Remove.walk {t : Nat} {endpoint_0 : Bool} {endpoint_1 : Int} {endpoint_2 : Int} {endpoint_3 : ByteArray} {endpoint_4 : ByteArray} {owner : Int} {h : Heap} {R : Value → Heap → Prop} (hv : regs_Table_Remove.vc t endpoint_0 endpoint_1 endpoint_2 endpoint_3 endpoint_4 owner h R) : CallsH Tryz.prog F.regs_Table_Remove #[.pointer (some ⟨t, 0, none⟩), .agg #[.bool endpoint_0, .int .u64 endpoint_1, .int .u64 endpoint_2, .string endpoint_3, .string endpoint_4], .int .i64 owner] h R :=
 callsH_of_body (.seq .leaf (.seq .leaf (.seq (.seq .leaf (.join [] (.cond (.plan (.op 0 (.op 1 (.op 2 (.op 3 (.op 4 (.op 5 .done))))))) .leaf))) (.seq .leaf .leaf)))) Tryz.func33 rfl rfl (Eq.mp (by kernel_rfl) hv)

def regs_Table_Remove.nil.vc (endpoint_0 : Bool) (endpoint_1 : Int) (endpoint_2 : Int) (endpoint_3 : ByteArray) (endpoint_4 : ByteArray) (owner : Int) (h : Heap) (R : Value → Heap → Prop) : Prop :=
 NewP h (.cells #[.bool endpoint_0, .int .u64 endpoint_1, .int .u64 endpoint_2, .string endpoint_3, .string endpoint_4] T.eid_Eid) fun b h_1 =>
 eid_Eid.LD h_1 ⟨b, 0, none⟩ fun t11_0 t11_1 t11_2 t11_3 t11_4 =>
 CallsH Tryz.prog F.regs_Table_ask #[.pointer none, .agg #[.bool t11_0, .int .u64 t11_1, .int .u64 t11_2, .string t11_3, .string t11_4], .int .i64 owner] h_1 fun v h_2 =>
 ∃ (t13_0_0 : Bool), ∃ (t13_0_1 : Int), ∃ (t13_0_2 : Int), ∃ (t13_0_3 : ByteArray), ∃ (t13_0_4 : ByteArray), ∃ (t13_0_5 : Int), ∃ (t13_0_6 : Int), ∃ (t13_1 : Int), v = .tuple #[.agg #[.bool t13_0_0, .int .u64 t13_0_1, .int .u64 t13_0_2, .string t13_0_3, .string t13_0_4, .int .i64 t13_0_5, .int .i64 t13_0_6], .int .i64 t13_1] ∧
 NewP h_2 (.cells #[.bool false, .int .u64 0, .int .u64 0, .string (⟨#[]⟩ : ByteArray), .string (⟨#[]⟩ : ByteArray), .int .i64 0, .int .i64 0] T.regs_Reg) fun b_1 h_3 =>
 regs_Reg.ST h_3 ⟨b_1, 0, none⟩ t13_0_0 t13_0_1 t13_0_2 t13_0_3 t13_0_4 t13_0_5 t13_0_6 fun h_4 =>
 JoinP (fun (h_5 : Heap) =>
 R (.int .i64 t13_1) h_5)
 (fun J =>
 if (t13_1 == 0) = true then
 False
 else
 J h_4)
theorem regs_Table_Remove.nil.walk {endpoint_0 : Bool} {endpoint_1 : Int} {endpoint_2 : Int} {endpoint_3 : ByteArray} {endpoint_4 : ByteArray} {owner : Int} {h : Heap} {R : Value → Heap → Prop} (hv : regs_Table_Remove.nil.vc endpoint_0 endpoint_1 endpoint_2 endpoint_3 endpoint_4 owner h R) : CallsH Tryz.prog F.regs_Table_Remove #[.pointer none, .agg #[.bool endpoint_0, .int .u64 endpoint_1, .int .u64 endpoint_2, .string endpoint_3, .string endpoint_4], .int .i64 owner] h R :=
 callsH_of_body (.seq .leaf (.seq .leaf (.seq (.seq .leaf (.join [] (.cond (.plan (.op 0 (.op 1 (.op 2 (.op 3 (.op 4 (.op 5 .done))))))) .leaf))) (.seq .leaf .leaf)))) Tryz.func33 rfl rfl (Eq.mp (by kernel_rfl) hv)

def regs_Table_Policy.vc (t : Nat) (endpoint_0 : Bool) (endpoint_1 : Int) (endpoint_2 : Int) (endpoint_3 : ByteArray) (endpoint_4 : ByteArray) (owner : Int) (policy : Int) (h : Heap) (R : Value → Heap → Prop) : Prop :=
 NewP h (.cells #[.bool endpoint_0, .int .u64 endpoint_1, .int .u64 endpoint_2, .string endpoint_3, .string endpoint_4] T.eid_Eid) fun b h_1 =>
 JoinP (fun (t17 : Bool) (h_2 : Heap) =>
 if t17 = true then
 R (.int .i64 1) h_2
 else
 eid_Eid.LD h_2 ⟨b, 0, none⟩ fun t20_0 t20_1 t20_2 t20_3 t20_4 =>
 CallsH Tryz.prog F.regs_Table_ask #[.pointer (some ⟨t, 0, none⟩), .agg #[.bool t20_0, .int .u64 t20_1, .int .u64 t20_2, .string t20_3, .string t20_4], .int .i64 owner] h_2 fun v h_3 =>
 ∃ (t22_0_0 : Bool), ∃ (t22_0_1 : Int), ∃ (t22_0_2 : Int), ∃ (t22_0_3 : ByteArray), ∃ (t22_0_4 : ByteArray), ∃ (t22_0_5 : Int), ∃ (t22_0_6 : Int), ∃ (t22_1 : Int), v = .tuple #[.agg #[.bool t22_0_0, .int .u64 t22_0_1, .int .u64 t22_0_2, .string t22_0_3, .string t22_0_4, .int .i64 t22_0_5, .int .i64 t22_0_6], .int .i64 t22_1] ∧
 NewP h_3 (.cells #[.bool false, .int .u64 0, .int .u64 0, .string (⟨#[]⟩ : ByteArray), .string (⟨#[]⟩ : ByteArray), .int .i64 0, .int .i64 0] T.regs_Reg) fun b_1 h_4 =>
 regs_Reg.ST h_4 ⟨b_1, 0, none⟩ t22_0_0 t22_0_1 t22_0_2 t22_0_3 t22_0_4 t22_0_5 t22_0_6 fun h_5 =>
 JoinP (fun (h_6 : Heap) =>
 R (.int .i64 t22_1) h_6)
 (fun J_1 =>
 if (t22_1 == 0) = true then
 StoreP h_5 ⟨b_1, 5, none⟩ (.int .i64 policy) fun h_7 =>
 ∃ (t32 : Option Nat), hcell h_7 ⟨t, 0, none⟩ = some (.map t32) ∧
 eid_Eid.LD h_7 ⟨b, 0, none⟩ fun t33_0 t33_1 t33_2 t33_3 t33_4 =>
 regs_Reg.LD h_7 ⟨b_1, 0, none⟩ fun t34_0 t34_1 t34_2 t34_3 t34_4 t34_5 t34_6 =>
 denSem Tryz.prog (Instr.mapUpdate T.m_eid_Eid_regs_Reg (.map t32) (.agg #[.bool t33_0, .int .u64 t33_1, .int .u64 t33_2, .string t33_3, .string t33_4]) (.agg #[.bool t34_0, .int .u64 t34_1, .int .u64 t34_2, .string t34_3, .string t34_4, .int .i64 t34_5, .int .i64 t34_6])) h_7 fun _ h_8 =>
 J_1 h_8
 else
 J_1 h_5))
 (fun J =>
 CallsH Tryz.prog F.regs_Table_made #[.pointer (some ⟨t, 0, none⟩)] h_1 fun v_1 h_9 =>
 ∃ (t12 : Bool), v_1 = .bool t12 ∧
 if t12 = true then
 CallsH Tryz.prog F.regs_isPolicy #[.int .i64 policy] h_9 fun v_2 h_10 =>
 ∃ (t15 : Bool), v_2 = .bool t15 ∧
 J (!t15) h_10
 else
 J false h_9)
theorem regs_Table_Policy.walk {t : Nat} {endpoint_0 : Bool} {endpoint_1 : Int} {endpoint_2 : Int} {endpoint_3 : ByteArray} {endpoint_4 : ByteArray} {owner : Int} {policy : Int} {h : Heap} {R : Value → Heap → Prop} (hv : regs_Table_Policy.vc t endpoint_0 endpoint_1 endpoint_2 endpoint_3 endpoint_4 owner policy h R) : CallsH Tryz.prog F.regs_Table_Policy #[.pointer (some ⟨t, 0, none⟩), .agg #[.bool endpoint_0, .int .u64 endpoint_1, .int .u64 endpoint_2, .string endpoint_3, .string endpoint_4], .int .i64 owner, .int .i64 policy] h R :=
 callsH_of_body (.seq .leaf (.seq (.seq (.join [(17, .one (.bool))] .leaf) (.cond (.seq .leaf .leaf) .leaf)) (.seq .leaf (.seq (.seq .leaf (.join [] (.cond (.seq .leaf (.plan (.op 0 (.op 1 (.op 2 (.op 3 (.op 4 (.op 5 (.op 6 .done))))))))) .leaf))) (.seq .leaf .leaf))))) Tryz.func34 rfl rfl (Eq.mp (by kernel_rfl) hv)

def regs_Table_Policy.nil.vc (endpoint_0 : Bool) (endpoint_1 : Int) (endpoint_2 : Int) (endpoint_3 : ByteArray) (endpoint_4 : ByteArray) (owner : Int) (policy : Int) (h : Heap) (R : Value → Heap → Prop) : Prop :=
 NewP h (.cells #[.bool endpoint_0, .int .u64 endpoint_1, .int .u64 endpoint_2, .string endpoint_3, .string endpoint_4] T.eid_Eid) fun b h_1 =>
 JoinP (fun (t17 : Bool) (h_2 : Heap) =>
 if t17 = true then
 R (.int .i64 1) h_2
 else
 eid_Eid.LD h_2 ⟨b, 0, none⟩ fun t20_0 t20_1 t20_2 t20_3 t20_4 =>
 CallsH Tryz.prog F.regs_Table_ask #[.pointer none, .agg #[.bool t20_0, .int .u64 t20_1, .int .u64 t20_2, .string t20_3, .string t20_4], .int .i64 owner] h_2 fun v h_3 =>
 ∃ (t22_0_0 : Bool), ∃ (t22_0_1 : Int), ∃ (t22_0_2 : Int), ∃ (t22_0_3 : ByteArray), ∃ (t22_0_4 : ByteArray), ∃ (t22_0_5 : Int), ∃ (t22_0_6 : Int), ∃ (t22_1 : Int), v = .tuple #[.agg #[.bool t22_0_0, .int .u64 t22_0_1, .int .u64 t22_0_2, .string t22_0_3, .string t22_0_4, .int .i64 t22_0_5, .int .i64 t22_0_6], .int .i64 t22_1] ∧
 NewP h_3 (.cells #[.bool false, .int .u64 0, .int .u64 0, .string (⟨#[]⟩ : ByteArray), .string (⟨#[]⟩ : ByteArray), .int .i64 0, .int .i64 0] T.regs_Reg) fun b_1 h_4 =>
 regs_Reg.ST h_4 ⟨b_1, 0, none⟩ t22_0_0 t22_0_1 t22_0_2 t22_0_3 t22_0_4 t22_0_5 t22_0_6 fun h_5 =>
 JoinP (fun (h_6 : Heap) =>
 R (.int .i64 t22_1) h_6)
 (fun J_1 =>
 if (t22_1 == 0) = true then
 StoreP h_5 ⟨b_1, 5, none⟩ (.int .i64 policy) fun h_7 =>
 False
 else
 J_1 h_5))
 (fun J =>
 CallsH Tryz.prog F.regs_Table_made #[.pointer none] h_1 fun v_1 h_8 =>
 ∃ (t12 : Bool), v_1 = .bool t12 ∧
 if t12 = true then
 CallsH Tryz.prog F.regs_isPolicy #[.int .i64 policy] h_8 fun v_2 h_9 =>
 ∃ (t15 : Bool), v_2 = .bool t15 ∧
 J (!t15) h_9
 else
 J false h_8)
theorem regs_Table_Policy.nil.walk {endpoint_0 : Bool} {endpoint_1 : Int} {endpoint_2 : Int} {endpoint_3 : ByteArray} {endpoint_4 : ByteArray} {owner : Int} {policy : Int} {h : Heap} {R : Value → Heap → Prop} (hv : regs_Table_Policy.nil.vc endpoint_0 endpoint_1 endpoint_2 endpoint_3 endpoint_4 owner policy h R) : CallsH Tryz.prog F.regs_Table_Policy #[.pointer none, .agg #[.bool endpoint_0, .int .u64 endpoint_1, .int .u64 endpoint_2, .string endpoint_3, .string endpoint_4], .int .i64 owner, .int .i64 policy] h R :=
 callsH_of_body (.seq .leaf (.seq (.seq (.join [(17, .one (.bool))] .leaf) (.cond (.seq .leaf .leaf) .leaf)) (.seq .leaf (.seq (.seq .leaf (.join [] (.cond (.seq .leaf (.plan (.op 0 (.op 1 (.op 2 (.op 3 (.op 4 (.op 5 (.op 6 .done))))))))) .leaf))) (.seq .leaf .leaf))))) Tryz.func34 rfl rfl (Eq.mp (by kernel_rfl) hv)

def regs_Table_Find.vc (t : Nat) (endpoint_0 : Bool) (endpoint_1 : Int) (endpoint_2 : Int) (endpoint_3 : ByteArray) (endpoint_4 : ByteArray) (h : Heap) (R : Value → Heap → Prop) : Prop :=
 NewP h (.cells #[.bool endpoint_0, .int .u64 endpoint_1, .int .u64 endpoint_2, .string endpoint_3, .string endpoint_4] T.eid_Eid) fun b h_1 =>
 NewP h_1 (.cells #[.bool false, .int .u64 0, .int .u64 0, .string (⟨#[]⟩ : ByteArray), .string (⟨#[]⟩ : ByteArray), .int .i64 0, .int .i64 0] T.regs_Reg) fun b_1 h_2 =>
 CallsH Tryz.prog F.regs_Table_made #[.pointer (some ⟨t, 0, none⟩)] h_2 fun v h_3 =>
 ∃ (t9 : Bool), v = .bool t9 ∧
 if (!t9) = true then
 regs_Reg.ST h_3 ⟨b_1, 0, none⟩ false 0 0 (⟨#[]⟩ : ByteArray) (⟨#[]⟩ : ByteArray) 0 0 fun h_4 =>
 regs_Reg.LD h_4 ⟨b_1, 0, none⟩ fun r_0 r_1 r_2 r_3 r_4 r_5 r_6 =>
 R (.tuple #[.agg #[.bool r_0, .int .u64 r_1, .int .u64 r_2, .string r_3, .string r_4, .int .i64 r_5, .int .i64 r_6], .bool false]) h_4
 else
 ∃ (t16 : Option Nat), hcell h_3 ⟨t, 0, none⟩ = some (.map t16) ∧
 eid_Eid.LD h_3 ⟨b, 0, none⟩ fun t17_0 t17_1 t17_2 t17_3 t17_4 =>
 ∃ (t18_0_0 : Bool), ∃ (t18_0_1 : Int), ∃ (t18_0_2 : Int), ∃ (t18_0_3 : ByteArray), ∃ (t18_0_4 : ByteArray), ∃ (t18_0_5 : Int), ∃ (t18_0_6 : Int), ∃ (t18_1 : Bool), LookV Tryz.prog T.m_eid_Eid_regs_Reg (.map t16) (.agg #[.bool t17_0, .int .u64 t17_1, .int .u64 t17_2, .string t17_3, .string t17_4]) true h_3 (.tuple #[.agg #[.bool t18_0_0, .int .u64 t18_0_1, .int .u64 t18_0_2, .string t18_0_3, .string t18_0_4, .int .i64 t18_0_5, .int .i64 t18_0_6], .bool t18_1]) ∧
 NewP h_3 (.cells #[.bool false, .int .u64 0, .int .u64 0, .string (⟨#[]⟩ : ByteArray), .string (⟨#[]⟩ : ByteArray), .int .i64 0, .int .i64 0] T.regs_Reg) fun b_2 h_5 =>
 mapSame (.map t16) h_3 h_5 ∧
 heldL ⟨b, 0, none⟩ [.bool t17_0, .int .u64 t17_1, .int .u64 t17_2, .string t17_3, .string t17_4] 0 h_5 ∧
 hcell h_5 ⟨t, 0, none⟩ = some (.map t16) ∧
 regs_Reg.ST h_5 ⟨b_2, 0, none⟩ t18_0_0 t18_0_1 t18_0_2 t18_0_3 t18_0_4 t18_0_5 t18_0_6 fun h_6 =>
 regs_Reg.LD h_6 ⟨b_2, 0, none⟩ fun t21_0 t21_1 t21_2 t21_3 t21_4 t21_5 t21_6 =>
 regs_Reg.ST h_6 ⟨b_1, 0, none⟩ t21_0 t21_1 t21_2 t21_3 t21_4 t21_5 t21_6 fun h_7 =>
 regs_Reg.LD h_7 ⟨b_1, 0, none⟩ fun r_0_1 r_1_1 r_2_1 r_3_1 r_4_1 r_5_1 r_6_1 =>
 R (.tuple #[.agg #[.bool r_0_1, .int .u64 r_1_1, .int .u64 r_2_1, .string r_3_1, .string r_4_1, .int .i64 r_5_1, .int .i64 r_6_1], .bool t18_1]) h_7
theorem regs_Table_Find.walk {t : Nat} {endpoint_0 : Bool} {endpoint_1 : Int} {endpoint_2 : Int} {endpoint_3 : ByteArray} {endpoint_4 : ByteArray} {h : Heap} {R : Value → Heap → Prop} (hv : regs_Table_Find.vc t endpoint_0 endpoint_1 endpoint_2 endpoint_3 endpoint_4 h R) : CallsH Tryz.prog F.regs_Table_Find #[.pointer (some ⟨t, 0, none⟩), .agg #[.bool endpoint_0, .int .u64 endpoint_1, .int .u64 endpoint_2, .string endpoint_3, .string endpoint_4]] h R :=
 callsH_of_body (.seq .leaf (.seq (.seq .leaf (.cond (.seq .leaf .leaf) .leaf)) (.seq (.plan (.op 0 (.op 1 (.op 2 (.op 3 (.op 4 (.op 5 (.op 6 (.op 7 (.op 8 (.op 9 (.op 10 (.op 11 .done))))))))))))) (.seq .leaf .leaf)))) Tryz.func31 rfl rfl (Eq.mp (by kernel_rfl) hv)

def regs_Table_Find.nil.vc (endpoint_0 : Bool) (endpoint_1 : Int) (endpoint_2 : Int) (endpoint_3 : ByteArray) (endpoint_4 : ByteArray) (h : Heap) (R : Value → Heap → Prop) : Prop :=
 NewP h (.cells #[.bool endpoint_0, .int .u64 endpoint_1, .int .u64 endpoint_2, .string endpoint_3, .string endpoint_4] T.eid_Eid) fun b h_1 =>
 NewP h_1 (.cells #[.bool false, .int .u64 0, .int .u64 0, .string (⟨#[]⟩ : ByteArray), .string (⟨#[]⟩ : ByteArray), .int .i64 0, .int .i64 0] T.regs_Reg) fun b_1 h_2 =>
 CallsH Tryz.prog F.regs_Table_made #[.pointer none] h_2 fun v h_3 =>
 ∃ (t9 : Bool), v = .bool t9 ∧
 if (!t9) = true then
 regs_Reg.ST h_3 ⟨b_1, 0, none⟩ false 0 0 (⟨#[]⟩ : ByteArray) (⟨#[]⟩ : ByteArray) 0 0 fun h_4 =>
 regs_Reg.LD h_4 ⟨b_1, 0, none⟩ fun r_0 r_1 r_2 r_3 r_4 r_5 r_6 =>
 R (.tuple #[.agg #[.bool r_0, .int .u64 r_1, .int .u64 r_2, .string r_3, .string r_4, .int .i64 r_5, .int .i64 r_6], .bool false]) h_4
 else
 False
theorem regs_Table_Find.nil.walk {endpoint_0 : Bool} {endpoint_1 : Int} {endpoint_2 : Int} {endpoint_3 : ByteArray} {endpoint_4 : ByteArray} {h : Heap} {R : Value → Heap → Prop} (hv : regs_Table_Find.nil.vc endpoint_0 endpoint_1 endpoint_2 endpoint_3 endpoint_4 h R) : CallsH Tryz.prog F.regs_Table_Find #[.pointer none, .agg #[.bool endpoint_0, .int .u64 endpoint_1, .int .u64 endpoint_2, .string endpoint_3, .string endpoint_4]] h R :=
 callsH_of_body (.seq .leaf (.seq (.seq .leaf (.cond (.seq .leaf .leaf) .leaf)) (.seq (.plan (.op 0 (.op 1 (.op 2 (.op 3 (.op 4 (.op 5 (.op 6 (.op 7 (.op 8 (.op 9 (.op 10 (.op 11 .done))))))))))))) (.seq .leaf .leaf)))) Tryz.func31 rfl rfl (Eq.mp (by kernel_rfl) hv)

def regs_Table_All.vc (t : Nat) (h : Heap) (R : Value → Heap → Prop) : Prop :=
 CallsH Tryz.prog F.regs_Table_made #[.pointer (some ⟨t, 0, none⟩)] h fun v h_1 =>
 ∃ (t7 : Bool), v = .bool t7 ∧
 JoinP (fun (out_p : Option Addr) (out_l out_c : Nat) (h_2 : Heap) =>
 CallsH Tryz.prog F.slices_SortFunc_s_regs_Reg_regs_Reg #[.slice out_p out_l out_c, .func (.func F.regs_Table_All_1) #[] #[]] h_2 fun v_1 h_3 =>
 v_1 = .tuple #[] ∧
 R (.slice out_p out_l out_c) h_3)
 (fun J =>
 if t7 = true then
 ∃ (t11 : Option Nat), hcell h_1 ⟨t, 0, none⟩ = some (.map t11) ∧
 denSem Tryz.prog (Instr.range T.m_eid_Eid_regs_Reg (.map t11)) h_1 fun v_2 h_4 =>
 ∃ (it : Nat), v_2 = .pointer (some ⟨it, 0, none⟩) ∧
 ∃ (I : Option Addr → Nat → Nat → Heap → Prop) (mu : Option Addr → Nat → Nat → Heap → Nat), I none 0 0 h_4 ∧ ∀ (out_p_1 : Option Addr) (out_l_1 out_c_1 : Nat) (h_5 : Heap), I out_p_1 out_l_1 out_c_1 h_5 →
 denSem Tryz.prog (Instr.next (.pointer (some ⟨it, 0, none⟩)) false T.tup_) h_5 fun v_3 h_6 =>
 (v_3 = .tuple #[.bool false] ∧
 J out_p_1 out_l_1 out_c_1 h_6) ∨
 (  ∃ (t13_k t13_v : Value), v_3 = .tuple #[.bool true, t13_k, t13_v] ∧
 denSem Tryz.prog (Instr.entry (.pointer (some ⟨it, 0, none⟩))) h_6 fun v_4 h_7 =>
 ∃ (t15_k t15_v : Value), v_4 = .tuple #[t15_k, t15_v] ∧
 ∃ (t16_0 : Bool), ∃ (t16_1 : Int), ∃ (t16_2 : Int), ∃ (t16_3 : ByteArray), ∃ (t16_4 : ByteArray), ∃ (t16_5 : Int), ∃ (t16_6 : Int), t15_v = .agg #[.bool t16_0, .int .u64 t16_1, .int .u64 t16_2, .string t16_3, .string t16_4, .int .i64 t16_5, .int .i64 t16_6] ∧
 NewP h_7 (.cells #[.bool false, .int .u64 0, .int .u64 0, .string (⟨#[]⟩ : ByteArray), .string (⟨#[]⟩ : ByteArray), .int .i64 0, .int .i64 0] T.regs_Reg) fun b h_8 =>
 regs_Reg.ST h_8 ⟨b, 0, none⟩ t16_0 t16_1 t16_2 t16_3 t16_4 t16_5 t16_6 fun h_9 =>
 regs_Reg.LD h_9 ⟨b, 0, none⟩ fun t18_0 t18_1 t18_2 t18_3 t18_4 t18_5 t18_6 =>
 NewP h_9 (.cells #[.bool t18_0, .int .u64 t18_1, .int .u64 t18_2, .string t18_3, .string t18_4, .int .i64 t18_5, .int .i64 t18_6] T.regs_Reg) fun b_1 h_10 =>
 denSem Tryz.prog (Builtin.append_ #[T.s_regs_Reg, T.s_regs_Reg] T.s_regs_Reg #[.slice out_p_1 out_l_1 out_c_1, .slice (some ⟨b_1, 0, none⟩) 1 1]) h_10 fun v_5 h_11 =>
 ∃ (t20_p : Option Addr) (t20_l t20_c : Nat), v_5 = .slice t20_p t20_l t20_c ∧
 (I t20_p t20_l t20_c h_11 ∧ mu t20_p t20_l t20_c h_11 < mu out_p_1 out_l_1 out_c_1 h_5))
 else
 J none 0 0 h_1)
theorem regs_Table_All.walk {t : Nat} {h : Heap} {R : Value → Heap → Prop} (hv : regs_Table_All.vc t h R) : CallsH Tryz.prog F.regs_Table_All #[.pointer (some ⟨t, 0, none⟩)] h R :=
 callsH_of_body (.seq .leaf (.seq .leaf (.seq (.seq .leaf (.join [(3, .one (.slice))] (.cond (.seq .leaf (.block (.loop [(3, .one (.slice))] (.seq .leaf (.seq (.cond .leaf .leaf) (.block (.seq (.typed [(16, .agg [.bool, .int .u64, .int .u64, .str, .str, .int .i64, .int .i64])]) .leaf))))))) .leaf))) (.seq .leaf (.seq .leaf .leaf))))) Tryz.func93 rfl rfl (Eq.mp (by kernel_rfl) hv)

def regs_Table_All.nil.vc  (h : Heap) (R : Value → Heap → Prop) : Prop :=
 CallsH Tryz.prog F.regs_Table_made #[.pointer none] h fun v h_1 =>
 ∃ (t7 : Bool), v = .bool t7 ∧
 JoinP (fun (out_p : Option Addr) (out_l out_c : Nat) (h_2 : Heap) =>
 CallsH Tryz.prog F.slices_SortFunc_s_regs_Reg_regs_Reg #[.slice out_p out_l out_c, .func (.func F.regs_Table_All_1) #[] #[]] h_2 fun v_1 h_3 =>
 v_1 = .tuple #[] ∧
 R (.slice out_p out_l out_c) h_3)
 (fun J =>
 if t7 = true then
 False
 else
 J none 0 0 h_1)
theorem regs_Table_All.nil.walk  {h : Heap} {R : Value → Heap → Prop} (hv : regs_Table_All.nil.vc h R) : CallsH Tryz.prog F.regs_Table_All #[.pointer none] h R :=
 callsH_of_body (.seq .leaf (.seq .leaf (.seq (.seq .leaf (.join [(3, .one (.slice))] (.cond (.seq .leaf (.block (.loop [(3, .one (.slice))] (.seq .leaf (.seq (.cond .leaf .leaf) (.block (.seq (.typed [(16, .agg [.bool, .int .u64, .int .u64, .str, .str, .int .i64, .int .i64])]) .leaf))))))) .leaf))) (.seq .leaf (.seq .leaf .leaf))))) Tryz.func93 rfl rfl (Eq.mp (by kernel_rfl) hv)

def regs_Table_All_1.vc (a_0 : Bool) (a_1 : Int) (a_2 : Int) (a_3 : ByteArray) (a_4 : ByteArray) (a_5 : Int) (a_6 : Int) (b_0 : Bool) (b_1 : Int) (b_2 : Int) (b_3 : ByteArray) (b_4 : ByteArray) (b_5 : Int) (b_6 : Int) (h : Heap) (R : Value → Heap → Prop) : Prop :=
 NewP h (.cells #[.bool a_0, .int .u64 a_1, .int .u64 a_2, .string a_3, .string a_4, .int .i64 a_5, .int .i64 a_6] T.regs_Reg) fun b h_1 =>
 NewP h_1 (.cells #[.bool b_0, .int .u64 b_1, .int .u64 b_2, .string b_3, .string b_4, .int .i64 b_5, .int .i64 b_6] T.regs_Reg) fun b_1 h_2 =>
 eid_Eid.LD h_2 ⟨b, 0, none⟩ fun t6_0 t6_1 t6_2 t6_3 t6_4 =>
 eid_Eid.LD h_2 ⟨b_1, 0, none⟩ fun t8_0 t8_1 t8_2 t8_3 t8_4 =>
 CallsH Tryz.prog F.eid_Less #[.agg #[.bool t6_0, .int .u64 t6_1, .int .u64 t6_2, .string t6_3, .string t6_4], .agg #[.bool t8_0, .int .u64 t8_1, .int .u64 t8_2, .string t8_3, .string t8_4]] h_2 fun v h_3 =>
 ∃ (t9 : Bool), v = .bool t9 ∧
 if t9 = true then
 R (.int .i64 (-1)) h_3
 else
 R (.int .i64 1) h_3
theorem regs_Table_All_1.walk {a_0 : Bool} {a_1 : Int} {a_2 : Int} {a_3 : ByteArray} {a_4 : ByteArray} {a_5 : Int} {a_6 : Int} {b_0 : Bool} {b_1 : Int} {b_2 : Int} {b_3 : ByteArray} {b_4 : ByteArray} {b_5 : Int} {b_6 : Int} {h : Heap} {R : Value → Heap → Prop} (hv : regs_Table_All_1.vc a_0 a_1 a_2 a_3 a_4 a_5 a_6 b_0 b_1 b_2 b_3 b_4 b_5 b_6 h R) : CallsH Tryz.prog F.regs_Table_All_1 #[.agg #[.bool a_0, .int .u64 a_1, .int .u64 a_2, .string a_3, .string a_4, .int .i64 a_5, .int .i64 a_6], .agg #[.bool b_0, .int .u64 b_1, .int .u64 b_2, .string b_3, .string b_4, .int .i64 b_5, .int .i64 b_6]] h R :=
 callsH_of_body (.seq .leaf (.seq (.seq .leaf (.cond (.seq .leaf .leaf) .leaf)) (.seq .leaf .leaf))) Tryz.func154 rfl rfl (Eq.mp (by kernel_rfl) hv)

def slices_SortFunc_s_regs_Reg_regs_Reg.reg.vc (x_p : Option Addr) (x_l x_c : Nat) (h : Heap) (R : Value → Heap → Prop) : Prop :=
 CallsH Tryz.prog F.math_bits_Len #[.int .u64 (IntKind.wrap .u64 ((x_l : Nat) : Int))] h fun v h_1 =>
 ∃ (t11 : Int), v = .int .i64 t11 ∧
 CallsH Tryz.prog F.slices_pdqsortCmpFunc_regs_Reg #[.slice x_p x_l x_c, .int .i64 0, .int .i64 ((x_l : Nat) : Int), .int .i64 t11, .func (.func F.regs_Table_All_1) #[] #[]] h_1 fun v_1 h_2 =>
 v_1 = .tuple #[] ∧
 R (.tuple #[]) h_2
theorem slices_SortFunc_s_regs_Reg_regs_Reg.reg.walk {x_p : Option Addr} {x_l x_c : Nat} {h : Heap} {R : Value → Heap → Prop} (hv : slices_SortFunc_s_regs_Reg_regs_Reg.reg.vc x_p x_l x_c h R) : CallsH Tryz.prog F.slices_SortFunc_s_regs_Reg_regs_Reg #[.slice x_p x_l x_c, .func (.func F.regs_Table_All_1) #[] #[]] h R :=
 callsH_of_body (.seq .leaf .leaf) Tryz.func153 rfl rfl (Eq.mp (by kernel_rfl) hv)

def slices_pdqsortCmpFunc_regs_Reg.reg.vc (data_p : Option Addr) (data_l data_c : Nat) (a : Int) (b : Int) (limit : Int) (h : Heap) (R : Value → Heap → Prop) : Prop :=
 ∃ (I : Int → Int → Int → Bool → Bool → Heap → Prop) (mu : Int → Int → Int → Bool → Bool → Heap → Nat), I a b limit true true h ∧ ∀ (a_1 : Int) (b_1 : Int) (limit_1 : Int) (wasBalanced : Bool) (wasPartitioned : Bool) (h_1 : Heap), I a_1 b_1 limit_1 wasBalanced wasPartitioned h_1 →
 JoinP (fun (a_2 : Int) (b_2 : Int) (limit_2 : Int) (wasBalanced_1 : Bool) (wasPartitioned_1 : Bool) (h_2 : Heap) =>
 (I a_2 b_2 limit_2 wasBalanced_1 wasPartitioned_1 h_2 ∧ mu a_2 b_2 limit_2 wasBalanced_1 wasPartitioned_1 h_2 < mu a_1 b_1 limit_1 wasBalanced wasPartitioned h_1))
 (fun J =>
 if (decide ((IntKind.wrap .i64 (b_1 - a_1)) ≤ 12)) = true then
 CallsH Tryz.prog F.slices_insertionSortCmpFunc_regs_Reg #[.slice data_p data_l data_c, .int .i64 a_1, .int .i64 b_1, .func (.func F.regs_Table_All_1) #[] #[]] h_1 fun v h_3 =>
 v = .tuple #[] ∧
 R (.tuple #[]) h_3
 else
 if (limit_1 == 0) = true then
 CallsH Tryz.prog F.slices_heapSortCmpFunc_regs_Reg #[.slice data_p data_l data_c, .int .i64 a_1, .int .i64 b_1, .func (.func F.regs_Table_All_1) #[] #[]] h_1 fun v_1 h_4 =>
 v_1 = .tuple #[] ∧
 R (.tuple #[]) h_4
 else
 JoinP (fun (limit_3 : Int) (h_5 : Heap) =>
 CallsH Tryz.prog F.slices_choosePivotCmpFunc_regs_Reg #[.slice data_p data_l data_c, .int .i64 a_1, .int .i64 b_1, .func (.func F.regs_Table_All_1) #[] #[]] h_5 fun v_2 h_6 =>
 ∃ (t52_0 : Int), ∃ (t52_1 : Int), v_2 = .tuple #[.int .i64 t52_0, .int .i64 t52_1] ∧
 JoinP (fun (pivot : Int) (hint : Int) (h_7 : Heap) =>
 JoinP (fun (t75 : Bool) (h_8 : Heap) =>
 JoinP (fun (h_9 : Heap) =>
 JoinP (fun (t97 : Bool) (h_10 : Heap) =>
 if t97 = true then
 CallsH Tryz.prog F.slices_partitionEqualCmpFunc_regs_Reg #[.slice data_p data_l data_c, .int .i64 a_1, .int .i64 b_1, .int .i64 pivot, .func (.func F.regs_Table_All_1) #[] #[]] h_10 fun v_3 h_11 =>
 ∃ (t103 : Int), v_3 = .int .i64 t103 ∧
 J t103 b_1 limit_3 wasBalanced wasPartitioned h_11
 else
 CallsH Tryz.prog F.slices_partitionCmpFunc_regs_Reg #[.slice data_p data_l data_c, .int .i64 a_1, .int .i64 b_1, .int .i64 pivot, .func (.func F.regs_Table_All_1) #[] #[]] h_10 fun v_4 h_12 =>
 ∃ (t111_0 : Int), ∃ (t111_1 : Bool), v_4 = .tuple #[.int .i64 t111_0, .bool t111_1] ∧
 JoinP (fun (a_3 : Int) (b_3 : Int) (wasBalanced_2 : Bool) (h_13 : Heap) =>
 J a_3 b_3 limit_3 wasBalanced_2 t111_1 h_13)
 (fun J_6 =>
 if (decide ((IntKind.wrap .i64 (t111_0 - a_1)) < (IntKind.wrap .i64 (b_1 - t111_0)))) = true then
 CallsH Tryz.prog F.slices_pdqsortCmpFunc_regs_Reg #[.slice data_p data_l data_c, .int .i64 a_1, .int .i64 t111_0, .int .i64 limit_3, .func (.func F.regs_Table_All_1) #[] #[]] h_12 fun v_5 h_14 =>
 v_5 = .tuple #[] ∧
 J_6 (IntKind.wrap .i64 (t111_0 + 1)) b_1 (decide ((IntKind.wrap .i64 (t111_0 - a_1)) ≥ (IntKind.wrap .i64 (Int.tdiv (IntKind.wrap .i64 (b_1 - a_1)) 8)))) h_14
 else
 CallsH Tryz.prog F.slices_pdqsortCmpFunc_regs_Reg #[.slice data_p data_l data_c, .int .i64 (IntKind.wrap .i64 (t111_0 + 1)), .int .i64 b_1, .int .i64 limit_3, .func (.func F.regs_Table_All_1) #[] #[]] h_12 fun v_6 h_15 =>
 v_6 = .tuple #[] ∧
 J_6 a_1 t111_0 (decide ((IntKind.wrap .i64 (b_1 - t111_0)) ≥ (IntKind.wrap .i64 (Int.tdiv (IntKind.wrap .i64 (b_1 - a_1)) 8)))) h_15))
 (fun J_5 =>
 if (decide (a_1 > 0)) = true then
 ((0 : Int) ≤ IntKind.wrap .i64 (a_1 - 1) ∧ IntKind.wrap .i64 (a_1 - 1) < ((data_l : Nat) : Int)) ∧
 onSome data_p fun a_4 =>
 regs_Reg.LD h_9 (a_4.add (Int.toNat (IntKind.wrap .i64 (a_1 - 1)) * 7)) fun t89_0 t89_1 t89_2 t89_3 t89_4 t89_5 t89_6 =>
 ((0 : Int) ≤ pivot ∧ pivot < ((data_l : Nat) : Int)) ∧
 onSome data_p fun a_5 =>
 regs_Reg.LD h_9 (a_5.add (Int.toNat pivot * 7)) fun t93_0 t93_1 t93_2 t93_3 t93_4 t93_5 t93_6 =>
 CallsH Tryz.prog F.regs_Table_All_1 #[.agg #[.bool t89_0, .int .u64 t89_1, .int .u64 t89_2, .string t89_3, .string t89_4, .int .i64 t89_5, .int .i64 t89_6], .agg #[.bool t93_0, .int .u64 t93_1, .int .u64 t93_2, .string t93_3, .string t93_4, .int .i64 t93_5, .int .i64 t93_6]] h_9 fun v_7 h_16 =>
 ∃ (t94 : Int), v_7 = .int .i64 t94 ∧
 J_5 (!(decide (t94 < 0))) h_16
 else
 J_5 false h_9))
 (fun J_4 =>
 if t75 = true then
 CallsH Tryz.prog F.slices_partialInsertionSortCmpFunc_regs_Reg #[.slice data_p data_l data_c, .int .i64 a_1, .int .i64 b_1, .func (.func F.regs_Table_All_1) #[] #[]] h_8 fun v_8 h_17 =>
 ∃ (t80 : Bool), v_8 = .bool t80 ∧
 if t80 = true then
 R (.tuple #[]) h_17
 else
 J_4 h_17
 else
 J_4 h_8))
 (fun J_3 =>
 if wasBalanced = true then
 if wasPartitioned = true then
 J_3 (hint == 1) h_7
 else
 J_3 false h_7
 else
 J_3 false h_7))
 (fun J_2 =>
 if (t52_1 == 2) = true then
 CallsH Tryz.prog F.slices_reverseRangeCmpFunc_regs_Reg #[.slice data_p data_l data_c, .int .i64 a_1, .int .i64 b_1, .func (.func F.regs_Table_All_1) #[] #[]] h_6 fun v_9 h_18 =>
 v_9 = .tuple #[] ∧
 J_2 (IntKind.wrap .i64 ((IntKind.wrap .i64 (b_1 - 1)) - (IntKind.wrap .i64 (t52_0 - a_1)))) 1 h_18
 else
 J_2 t52_0 t52_1 h_6))
 (fun J_1 =>
 if (!wasBalanced) = true then
 CallsH Tryz.prog F.slices_breakPatternsCmpFunc_regs_Reg #[.slice data_p data_l data_c, .int .i64 a_1, .int .i64 b_1, .func (.func F.regs_Table_All_1) #[] #[]] h_1 fun v_10 h_19 =>
 v_10 = .tuple #[] ∧
 J_1 (IntKind.wrap .i64 (limit_1 - 1)) h_19
 else
 J_1 limit_1 h_1))
theorem slices_pdqsortCmpFunc_regs_Reg.reg.walk {data_p : Option Addr} {data_l data_c : Nat} {a : Int} {b : Int} {limit : Int} {h : Heap} {R : Value → Heap → Prop} (hv : slices_pdqsortCmpFunc_regs_Reg.reg.vc data_p data_l data_c a b limit h R) : CallsH Tryz.prog F.slices_pdqsortCmpFunc_regs_Reg #[.slice data_p data_l data_c, .int .i64 a, .int .i64 b, .int .i64 limit, .func (.func F.regs_Table_All_1) #[] #[]] h R :=
 callsH_of_body (.seq .leaf (.seq .leaf (.block (.loop [(1, .one (.int .i64)), (2, .one (.int .i64)), (3, .one (.int .i64)), (10, .one (.bool)), (11, .one (.bool))] (.join [(1, .one (.int .i64)), (2, .one (.int .i64)), (3, .one (.int .i64)), (10, .one (.bool)), (11, .one (.bool))] (.block (.seq .leaf (.seq (.seq .leaf (.cond (.seq .leaf .leaf) .leaf)) (.seq (.seq .leaf (.cond (.seq .leaf .leaf) .leaf)) (.seq (.seq .leaf (.join [(3, .one (.int .i64))] (.cond (.seq .leaf .leaf) .leaf))) (.seq .leaf (.seq (.seq .leaf (.join [(13, .one (.int .i64)), (14, .one (.int .i64))] (.cond (.seq .leaf (.seq .leaf .leaf)) .leaf))) (.seq (.seq (.join [(75, .one (.bool))] .leaf) (.join [] (.cond (.seq .leaf (.cond .leaf .leaf)) .leaf))) (.seq (.seq (.join [(97, .one (.bool))] (.plan (.op 0 (.op 1 (.op 2 (.op 3 (.op 4 (.op 5 (.op 6 (.op 7 (.op 8 (.op 9 (.op 10 (.op 11 (.op 12 (.op 13 (.op 14 (.op 15 (.op 16 .done))))))))))))))))))) (.cond (.seq .leaf (.seq .leaf .leaf)) .leaf)) (.seq .leaf (.seq .leaf (.seq .leaf (.seq .leaf (.seq .leaf (.join [(1, .one (.int .i64)), (2, .one (.int .i64)), (10, .one (.bool))] (.cond (.seq .leaf (.seq .leaf .leaf)) (.seq .leaf (.seq .leaf .leaf))))))))))))))))))))))) Tryz.func192 rfl rfl (Eq.mp (by kernel_rfl) hv)

def slices_insertionSortCmpFunc_regs_Reg.reg.vc (data_p : Option Addr) (data_l data_c : Nat) (a : Int) (b : Int) (h : Heap) (R : Value → Heap → Prop) : Prop :=
 ∃ (I : Int → Heap → Prop) (mu : Int → Heap → Nat), I (IntKind.wrap .i64 (a + 1)) h ∧ ∀ (i : Int) (h_1 : Heap), I i h_1 →
 if (decide (i < b)) = true then
 ∃ (I_1 : Int → Heap → Prop) (mu_1 : Int → Heap → Nat), I_1 i h_1 ∧ ∀ (j : Int) (h_2 : Heap), I_1 j h_2 →
 JoinP (fun (t34 : Bool) (h_3 : Heap) =>
 if t34 = true then
 ((0 : Int) ≤ IntKind.wrap .i64 (j - 1) ∧ IntKind.wrap .i64 (j - 1) < ((data_l : Nat) : Int)) ∧
 onSome data_p fun a_1 =>
 regs_Reg.LD h_3 (a_1.add (Int.toNat (IntKind.wrap .i64 (j - 1)) * 7)) fun t46_0 t46_1 t46_2 t46_3 t46_4 t46_5 t46_6 =>
 ((0 : Int) ≤ j ∧ j < ((data_l : Nat) : Int)) ∧
 onSome data_p fun a_2 =>
 regs_Reg.LD h_3 (a_2.add (Int.toNat j * 7)) fun t50_0 t50_1 t50_2 t50_3 t50_4 t50_5 t50_6 =>
 ((0 : Int) ≤ j ∧ j < ((data_l : Nat) : Int)) ∧
 onSome data_p fun a_3 =>
 regs_Reg.ST h_3 (a_3.add (Int.toNat j * 7)) t46_0 t46_1 t46_2 t46_3 t46_4 t46_5 t46_6 fun h_4 =>
 ((0 : Int) ≤ IntKind.wrap .i64 (j - 1) ∧ IntKind.wrap .i64 (j - 1) < ((data_l : Nat) : Int)) ∧
 onSome data_p fun a_4 =>
 regs_Reg.ST h_4 (a_4.add (Int.toNat (IntKind.wrap .i64 (j - 1)) * 7)) t50_0 t50_1 t50_2 t50_3 t50_4 t50_5 t50_6 fun h_5 =>
 (I_1 (IntKind.wrap .i64 (j - 1)) h_5 ∧ mu_1 (IntKind.wrap .i64 (j - 1)) h_5 < mu_1 j h_2)
 else
 (I (IntKind.wrap .i64 (i + 1)) h_3 ∧ mu (IntKind.wrap .i64 (i + 1)) h_3 < mu i h_1))
 (fun J =>
 if (decide (j > a)) = true then
 ((0 : Int) ≤ j ∧ j < ((data_l : Nat) : Int)) ∧
 onSome data_p fun a_5 =>
 regs_Reg.LD h_2 (a_5.add (Int.toNat j * 7)) fun t26_0 t26_1 t26_2 t26_3 t26_4 t26_5 t26_6 =>
 ((0 : Int) ≤ IntKind.wrap .i64 (j - 1) ∧ IntKind.wrap .i64 (j - 1) < ((data_l : Nat) : Int)) ∧
 onSome data_p fun a_6 =>
 regs_Reg.LD h_2 (a_6.add (Int.toNat (IntKind.wrap .i64 (j - 1)) * 7)) fun t31_0 t31_1 t31_2 t31_3 t31_4 t31_5 t31_6 =>
 CallsH Tryz.prog F.regs_Table_All_1 #[.agg #[.bool t26_0, .int .u64 t26_1, .int .u64 t26_2, .string t26_3, .string t26_4, .int .i64 t26_5, .int .i64 t26_6], .agg #[.bool t31_0, .int .u64 t31_1, .int .u64 t31_2, .string t31_3, .string t31_4, .int .i64 t31_5, .int .i64 t31_6]] h_2 fun v h_6 =>
 ∃ (t32 : Int), v = .int .i64 t32 ∧
 J (decide (t32 < 0)) h_6
 else
 J false h_2)
 else
 R (.tuple #[]) h_1
theorem slices_insertionSortCmpFunc_regs_Reg.reg.walk {data_p : Option Addr} {data_l data_c : Nat} {a : Int} {b : Int} {h : Heap} {R : Value → Heap → Prop} (hv : slices_insertionSortCmpFunc_regs_Reg.reg.vc data_p data_l data_c a b h R) : CallsH Tryz.prog F.slices_insertionSortCmpFunc_regs_Reg #[.slice data_p data_l data_c, .int .i64 a, .int .i64 b, .func (.func F.regs_Table_All_1) #[] #[]] h R :=
 callsH_of_body (.seq .leaf (.block (.loop [(8, .one (.int .i64))] (.seq (.seq .leaf (.cond .leaf .leaf)) (.seq (.block (.seq .leaf (.block (.loop [(9, .one (.int .i64))] (.seq (.seq (.join [(34, .one (.bool))] (.plan (.op 0 (.op 1 (.op 2 (.op 3 (.op 4 (.op 5 (.op 6 (.op 7 (.op 8 (.op 9 (.op 10 (.op 11 (.op 12 (.op 13 (.op 14 (.op 15 (.op 16 .done))))))))))))))))))) (.cond .leaf .leaf)) (.seq (.block (.plan (.op 0 (.op 1 (.op 2 (.op 3 (.op 4 (.op 5 (.op 6 (.op 7 (.op 8 (.op 9 (.op 10 (.op 11 (.op 12 (.op 13 (.op 14 (.op 15 (.op 16 (.op 17 .done)))))))))))))))))))) .leaf)))))) .leaf))))) Tryz.func215 rfl rfl (Eq.mp (by kernel_rfl) hv)

end Go.Proofs.YtgccegnmggjkjaaGreatDoor

/-
  What is proved here: a table of registrations in memory, and what the calls of package regs do with it. No condition.
-/
set_option maxRecDepth 100000
namespace Go.Proofs.YtgccegnmggjkjaaGreatDoor
open Go.Den
namespace Regs
open Eid
variable {h h' : Heap} {R : Value → Heap → Prop} {b : Nat} {X : Ft}

structure Rg where
  e : Ev
  pol : Int
  own : Int
abbrev Rg.zero : Rg := ⟨.zero, 0, 0⟩
abbrev Rg.val (r : Rg) : Value := .agg #[.bool r.e.ipn, .int .u64 r.e.node, .int .u64 r.e.svc, .string r.e.host, .string r.e.dem, .int .i64 r.pol, .int .i64 r.own]
abbrev Rg.at (h : Heap) (b : Nat) (r : Rg) : Prop := regs_Reg.at h b r.e.ipn r.e.node r.e.svc r.e.host r.e.dem r.pol r.own
abbrev genc (r : Rg) : List Value := [.bool r.e.ipn, .int .u64 r.e.node, .int .u64 r.e.svc, .string r.e.host, .string r.e.dem, .int .i64 r.pol, .int .i64 r.own]
theorem genc_len (r : Rg) : (genc r).length = 7 := rfl
abbrev Rg.pair (r : Rg) : Ev × Value := (r.e, r.val)
abbrev rless (x y : Rg) : Prop := lessE x.e y.e = true
theorem mapTy : MapKy Tryz.prog T.m_eid_Eid_regs_Reg ev5 Rg.zero.val := MapKy.of T.eid_Eid T.regs_Reg (by kernel_rfl) key (by kernel_rfl)
structure Tbm (h : Heap) (b : Nat) (X : Ft) (L : List Rg) (m : Nat) : Prop where
  blk : h[b]? = some (.cells #[.map (some m)] T.regs_Table (0, 0))
  map : MapP h m ev5 (L.map Rg.pair)
  fm : ∀ c, X.M c ↔ c = b ∨ c = m
  d : ∀ c, ¬ X.D c
  ne : b ≠ m
  so : L.Pairwise rless
def Tb (h : Heap) (b : Nat) (X : Ft) (L : List Rg) : Prop := ∃ m, Tbm h b X L m
variable {L : List Rg} {m : Nat}
theorem Tbm.frame {Q : Nat → Prop} (H : Tbm h b X L m) (f : Fr Q h h') (hq : ∀ y, X.M y ∨ X.D y → ¬ Q y) : Tbm h' b X L m :=
  ⟨f.get H.blk (hq b (.inl ((H.fm b).2 (.inl rfl)))), H.map.frame f (hq m (.inl ((H.fm m).2 (.inr rfl)))), H.fm, H.d, H.ne, H.so⟩
theorem Tbm.on (H : Tbm h b X L m) (f : Fr (fun _ => False) h h') : Tbm h' b X L m := H.frame f (fun _ _ => id)
theorem Tb.frame {Q : Nat → Prop} (H : Tb h b X L) (f : Fr Q h h') (hq : ∀ y, X.M y ∨ X.D y → ¬ Q y) : Tb h' b X L := by
  obtain ⟨m, H⟩ := H; exact ⟨m, H.frame f hq⟩
theorem Tb.on (H : Tb h b X L) (f : Fr (fun _ => False) h h') : Tb h' b X L := H.frame f (fun _ _ => id)
theorem Tb.lt (H : Tb h b X L) (y : Nat) (hy : X.M y ∨ X.D y) : y < h.size := by
  obtain ⟨m, H⟩ := H
  rcases hy with hy | hy
  · rcases (H.fm y).1 hy with rfl | rfl
    · exact lt_of_get H.blk
    · exact H.map.lt
  · exact absurd hy (H.d y)

/-! ### plain -/
def findR (L : List Rg) (x : Ev) : Option Rg := L.find? (fun r => decide (r.e = x))
theorem findR_some {x : Ev} {r : Rg} (h : findR L x = some r) : r ∈ L ∧ r.e = x := ⟨List.mem_of_find?_eq_some h, by simpa using List.find?_some h⟩
theorem findR_none {x : Ev} : findR L x = none ↔ ∀ r ∈ L, r.e ≠ x := by unfold findR; simp
theorem gget_find (L : List Rg) (x : Ev) : gget (L.map Rg.pair) x = (findR L x).map Rg.val := by
  unfold gget findR
  rw [List.find?_map]
  cases h : L.find? ((fun e : Ev × Value => decide (e.1 = x)) ∘ Rg.pair) with
  | none => have : L.find? (fun r => decide (r.e = x)) = none := h; rw [this]; rfl
  | some r => have : L.find? (fun r => decide (r.e = x)) = some r := h; rw [this]; rfl
def insR (r : Rg) : List Rg → List Rg
  | [] => [r]
  | x :: l => if lessE x.e r.e = true then x :: insR r l else r :: x :: l
theorem insR_perm (r : Rg) : ∀ L : List Rg, (insR r L).Perm (r :: L)
  | [] => .refl _
  | x :: l => by
    unfold insR
    split
    · exact ((insR_perm r l).cons x).trans (List.Perm.swap r x l)
    · exact .refl _
theorem insR_mem {r x : Rg} : x ∈ insR r L ↔ x = r ∨ x ∈ L := by rw [(insR_perm r L).mem_iff, List.mem_cons]
theorem insR_len (r : Rg) (L : List Rg) : (insR r L).length = L.length + 1 := by rw [(insR_perm r L).length_eq]; rfl
theorem insR_so {r : Rg} : ∀ {L : List Rg}, L.Pairwise rless → (∀ x ∈ L, x.e ≠ r.e) → (insR r L).Pairwise rless
  | [], _, _ => List.pairwise_singleton _ _
  | x :: l, h, hn => by
    obtain ⟨h1, h2⟩ := List.pairwise_cons.1 h
    unfold insR
    split
    · rename_i hx
      refine List.pairwise_cons.2 ⟨fun y hy => ?_, insR_so h2 (fun y hy => hn y (List.mem_cons_of_mem _ hy))⟩
      rcases insR_mem.1 hy with rfl | hy
      · exact hx
      · exact h1 y hy
    · rename_i hx
      have hrx : lessE r.e x.e = true := (less_total (hn x (by simp))).resolve_left hx
      refine List.pairwise_cons.2 ⟨fun y hy => ?_, h⟩
      rcases List.mem_cons.1 hy with rfl | hy
      · exact hrx
      · exact less_trans hrx (h1 y hy)
def remR (L : List Rg) (x : Ev) : List Rg := L.filter (fun r => !decide (r.e = x))
def polR (L : List Rg) (x : Ev) (p : Int) : List Rg := L.map (fun r => if r.e = x then { r with pol := p } else r)
def rightR (r : Rg) : Bool := rightE r.e && (!decide (r.e = Ev.zero) && (decide (r.pol ≥ 0) && decide (r.pol ≤ 2) && (decide (r.own ≥ 1) && decide (r.own ≤ 1099511627776))))
def addE (L : List Rg) (r : Rg) : Int := if rightR r = false then 1 else if (findR L r.e).isSome = true then 11 else if L.length ≥ 8 then 15 else 0
def addL (L : List Rg) (r : Rg) : List Rg := if addE L r = 0 then insR r L else L
def askE (L : List Rg) (x : Ev) (owner : Int) : Int := match findR L x with | none => 4 | some r => if r.own = owner then 0 else 13
def remL (L : List Rg) (x : Ev) (owner : Int) : List Rg := if askE L x owner = 0 then remR L x else L
def polE (L : List Rg) (x : Ev) (owner p : Int) : Int := if 0 ≤ p ∧ p ≤ 2 then askE L x owner else 1
def polL (L : List Rg) (x : Ev) (owner p : Int) : List Rg := if polE L x owner p = 0 then polR L x p else L
theorem addE_cases (L : List Rg) (r : Rg) : (rightR r = false ∧ addE L r = 1) ∨ (rightR r = true ∧ (findR L r.e).isSome = true ∧ addE L r = 11) ∨ (rightR r = true ∧ findR L r.e = none ∧ L.length ≥ 8 ∧ addE L r = 15) ∨ (rightR r = true ∧ findR L r.e = none ∧ L.length < 8 ∧ addE L r = 0) := by
  unfold addE
  cases h1 : rightR r with
  | false => exact .inl ⟨rfl, by simp⟩
  | true =>
    cases h2 : findR L r.e with
    | some x => exact .inr (.inl ⟨rfl, rfl, by simp⟩)
    | none =>
      by_cases h3 : L.length ≥ 8
      · exact .inr (.inr (.inl ⟨rfl, rfl, h3, by simp [h3]⟩))
      · exact .inr (.inr (.inr ⟨rfl, rfl, by omega, by simp [h3]⟩))

/-! ### the calls -/
theorem made_ok (H : Tbm h b X L m) (hk : R (.bool true) h) : CallsH Tryz.prog F.regs_Table_made #[.pointer (some ⟨b, 0, none⟩)] h R := regs_Table_made.walk ⟨_, cell_at H.blk rfl, hk⟩
theorem new_ok (hk : ∀ h' b X, Tb h' b X [] → UpF h X h' → R (.pointer (some ⟨b, 0, none⟩)) h') : CallsH Tryz.prog F.regs_New #[] h R := by
  refine regs_New.walk (newP_of (newP_of ?_))
  have f1 : Fr (fun _ => False) h (h.push (.map #[] 0)) := Fr.push _ _
  have M1 := MapP.push (α := Ev) h ev5
  have z1 : (h.push (.map #[] 0)).size = h.size + 1 := Array.size_push _
  generalize h.push (.map #[] 0) = h1 at f1 M1 z1 ⊢
  have f2 : Fr (fun _ => False) h1 (h1.push (.cells #[.map (some h.size)] T.regs_Table)) := Fr.push _ _
  refine hk _ h1.size ⟨fun c => c = h1.size ∨ c = h.size, fun _ => False⟩ ⟨h.size, push_new, M1.frame f2 id, fun c => Iff.rfl, fun _ => id, by omega, .nil⟩ ⟨f1.tt f2, fun c hc => ?_⟩
  rcases hc with hc | hc
  · rcases hc with rfl | rfl <;> omega
  · exact hc.elim
theorem isPolicy_ok {n : Int} (hk : R (.bool (decide (n ≥ 0) && decide (n ≤ 2))) h) : CallsH Tryz.prog F.regs_isPolicy #[.int .i64 n] h R := by
  refine regs_isPolicy.walk ?_
  unfold regs_isPolicy.vc
  by_cases q : n ≥ 0
  · simp only [q, decide_true, if_true, Bool.true_and] at hk ⊢; exact hk
  · simp only [q, decide_false, Bool.false_eq_true, if_false, Bool.false_and] at hk ⊢; exact hk
theorem right_ok (r : Rg) (hk : ∀ h', Fr (fun _ => False) h h' → R (.bool (rightR r)) h') : CallsH Tryz.prog F.regs_right #[r.val] h R := by
  refine regs_right.walk (regs_Reg.box fun b h1 eb hb f1 => ?_)
  have lde : ∀ {g : Heap} {K : Bool → Int → Int → ByteArray → ByteArray → Prop}, r.at g b → K r.e.ipn r.e.node r.e.svc r.e.host r.e.dem → eid_Eid.LD g ⟨b, 0, none⟩ K := fun hg hk => ⟨_, cell_at hg rfl, _, cell_at hg rfl, _, cell_at hg rfl, _, cell_at hg rfl, _, cell_at hg rfl, hk⟩
  refine lde hb (Eid.right_ok r.e fun h2 f2 => ⟨_, rfl, ?_⟩)
  have hb2 := f2.get hb id
  have K := hk h2 (f1.tt f2)
  unfold rightR at K
  by_cases q0 : rightE r.e = true
  · rw [if_pos q0]
    rw [q0, Bool.true_and] at K
    refine lde hb2 ⟨_, eqv' (y := .zero) (x := r.e) rfl rfl, ?_⟩
    by_cases q1 : r.e = .zero
    · rw [decide_eq_true q1, if_neg (by decide)]
      rw [decide_eq_true q1] at K; exact K
    · rw [decide_eq_false q1, if_pos (by decide)]
      rw [decide_eq_false q1, Bool.not_false, Bool.true_and] at K
      refine ⟨_, cell_at hb2 rfl, isPolicy_ok ⟨_, rfl, ?_⟩⟩
      by_cases q2 : (decide (r.pol ≥ 0) && decide (r.pol ≤ 2)) = true
      · rw [if_pos q2]
        rw [q2, Bool.true_and] at K
        refine ⟨_, cell_at hb2 rfl, ?_⟩
        by_cases q3 : r.own ≥ 1
        · rw [if_pos (decide_eq_true q3)]
          rw [decide_eq_true q3, Bool.true_and] at K
          exact ⟨_, cell_at hb2 rfl, K⟩
        · rw [if_neg (by simpa using q3)]
          rw [decide_eq_false q3, Bool.false_and] at K; exact K
      · rw [if_neg q2]
        have q2 : (decide (r.pol ≥ 0) && decide (r.pol ≤ 2)) = false := by simpa using q2
        rw [q2, Bool.false_and] at K; exact K
  · rw [if_neg q0]
    have q0 : rightE r.e = false := by simpa using q0
    rw [q0, Bool.false_and] at K; exact K
theorem ld_e {g : Heap} {b : Nat} {r : Rg} {K : Bool → Int → Int → ByteArray → ByteArray → Prop} (hg : r.at g b) (hk : K r.e.ipn r.e.node r.e.svc r.e.host r.e.dem) : eid_Eid.LD g ⟨b, 0, none⟩ K :=
  ⟨_, cell_at hg rfl, _, cell_at hg rfl, _, cell_at hg rfl, _, cell_at hg rfl, _, cell_at hg rfl, hk⟩
theorem look (H : Tbm h b X L m) (x : Ev) : LookV Tryz.prog T.m_eid_Eid_regs_Reg (.map (some m)) (ev5 x) true h (.tuple #[((findR L x).getD .zero).val, .bool (findR L x).isSome]) := by
  have := lookV_Pok mapTy H.map x
  rw [gget_find] at this
  cases hf : findR L x with
  | none => rw [hf] at this; exact this
  | some r => rw [hf] at this; exact this
theorem Fr.put {h0 h1 h2 : Heap} {c : Nat} (f : Fr (fun _ => False) h0 h1) (hs : h2.size = h1.size) (ho : ∀ x, x ≠ c → h2[x]? = h1[x]?) (hc : h0.size ≤ c) : Fr (fun _ => False) h0 h2 :=
  f.fresh (S := fun y => y = c) ⟨by omega, fun y _ hn => ho y hn⟩ (fun y e => by omega)
theorem find_ok (H : Tb h b X L) (x : Ev) (hk : ∀ h', Fr (fun _ => False) h h' → R (.tuple #[((findR L x).getD .zero).val, .bool (findR L x).isSome]) h') :
    CallsH Tryz.prog F.regs_Table_Find #[.pointer (some ⟨b, 0, none⟩), ev5 x] h R := by
  obtain ⟨m, H⟩ := H
  refine regs_Table_Find.walk (eid_Eid.box fun b1 h1 e1 hb1 f1 => regs_Reg.box fun b2 h2 e2 hb2 f2 => ?_)
  have f12 := f1.tt f2
  have hb1 := f2.get hb1 id
  have H2 := H.on f12
  refine made_ok H2 ⟨_, rfl, ?_⟩
  rw [if_neg (by decide)]
  refine ⟨_, cell_at H2.blk rfl, eid_Eid.ld hb1 ⟨_, _, _, _, _, _, _, _, look H2 x, regs_Reg.box fun b3 h3 e3 hb3 f3 => ?_⟩⟩
  refine ⟨f3.2 m H2.map.lt id, eid_Eid.held (f3.get hb1 id), cell_at (f3.get H2.blk id) rfl, regs_Reg.set hb3 fun h4 a4 s4 o4 => regs_Reg.ld a4 ?_⟩
  have hb24 : (Rg.zero).at h4 b2 := by
    have := f3.get hb2 id
    have hne : b2 ≠ b3 := by have := lt_of_get hb2; omega
    unfold Rg.at regs_Reg.at
    rw [o4 b2 hne]; exact this
  have z1 := f12.1
  have z3 := f3.1
  refine regs_Reg.set hb24 fun h5 a5 s5 o5 => regs_Reg.ld a5 (hk h5 ?_)
  exact Fr.put (Fr.put (f12.tt f3) s4 o4 (by omega)) s5 o5 (by have := f1.1; omega)
theorem ask_ok (H : Tb h b X L) (x : Ev) (owner : Int) (hk : ∀ h', Fr (fun _ => False) h h' → R (.tuple #[(if askE L x owner = 0 then (findR L x).getD .zero else .zero).val, .int .i64 (askE L x owner)]) h') :
    CallsH Tryz.prog F.regs_Table_ask #[.pointer (some ⟨b, 0, none⟩), ev5 x, .int .i64 owner] h R := by
  obtain ⟨m, H⟩ := H
  refine regs_Table_ask.walk (eid_Eid.box fun b1 h1 e1 hb1 f1 => regs_Reg.box fun b2 h2 e2 hb2 f2 => ?_)
  have f12 := f1.tt f2
  have hb1 := f2.get hb1 id
  have H2 := H.on f12
  refine made_ok H2 ⟨_, rfl, ?_⟩
  rw [if_neg (by decide)]
  refine ⟨_, cell_at H2.blk rfl, eid_Eid.ld hb1 ⟨_, _, _, _, _, _, _, _, look H2 x, regs_Reg.box fun b3 h3 e3 hb3 f3 => ?_⟩⟩
  refine ⟨f3.2 m H2.map.lt id, eid_Eid.held (f3.get hb1 id), cell_at (f3.get H2.blk id) rfl, regs_Reg.set hb3 fun h4 a4 s4 o4 => ?_⟩
  have hb24 : (Rg.zero).at h4 b2 := by
    have := f3.get hb2 id
    have hne : b2 ≠ b3 := by have := lt_of_get hb2; omega
    unfold Rg.at regs_Reg.at
    rw [o4 b2 hne]; exact this
  have z1 := f1.1
  have z2 := f2.1
  have F4 := Fr.put (f12.tt f3) s4 o4 (by omega)
  have fin : ∀ (r : Rg) (e : Int), (if askE L x owner = 0 then (findR L x).getD .zero else .zero) = r → askE L x owner = e → ∀ h5, r.at h5 b2 → h5.size = h4.size → (∀ y, y ≠ b2 → h5[y]? = h4[y]?) → R (.tuple #[r.val, .int .i64 e]) h5 := by
    intro r e e1 e2 h5 _ s5 o5
    rw [← e1, ← e2]
    exact hk h5 (Fr.put F4 s5 o5 (by omega))
  cases hf : findR L x with
  | none =>
    have ea : askE L x owner = 4 := by unfold askE; rw [hf]
    rw [if_pos (by rfl)]
    exact regs_Reg.set hb24 fun h5 a5 s5 o5 => regs_Reg.ld a5 (fin .zero 4 (by rw [ea, if_neg (by decide)]) ea h5 a5 s5 o5)
  | some r =>
    rw [hf] at a4
    rw [if_neg (by simp)]
    refine ⟨_, cell_at a4 rfl, ?_⟩
    by_cases ho : r.own = owner
    · have ea : askE L x owner = 0 := by unfold askE; rw [hf]; exact if_pos ho
      rw [if_neg (by simpa using ho)]
      exact regs_Reg.ld a4 (regs_Reg.set hb24 fun h5 a5 s5 o5 => regs_Reg.ld a5 (fin r 0 (by rw [ea, if_pos rfl, hf]; rfl) ea h5 a5 s5 o5))
    · have ea : askE L x owner = 13 := by unfold askE; rw [hf]; exact if_neg ho
      rw [if_pos (by simpa using ho)]
      exact regs_Reg.set hb24 fun h5 a5 s5 o5 => regs_Reg.ld a5 (fin .zero 13 (by rw [ea, if_neg (by decide)]) ea h5 a5 s5 o5)

/-! ### what changes a table -/
theorem Tbm.put {L' : List Rg} {h1 : Heap} (H : Tbm h b X L m) (M : MapP h1 m ev5 (L'.map Rg.pair)) (hs : h1.size = h.size) (ho : ∀ c, c ≠ m → h1[c]? = h[c]?) (so : L'.Pairwise rless) : Tbm h1 b X L' m ∧ StepF X h X h1 := by
  have f : Fr X.M h h1 := ⟨by omega, fun c _ hn => ho c (fun e => hn ((H.fm c).2 (.inr e)))⟩
  refine ⟨⟨?_, M, H.fm, H.d, H.ne, so⟩, StepF.of_fr f⟩
  rw [ho b H.ne]; exact H.blk
theorem keys_nodup {L : List Rg} (so : L.Pairwise rless) : (L.map Rg.e).Nodup := by
  unfold List.Nodup
  rw [List.pairwise_map]
  refine so.imp fun {x y} hxy e => ?_
  rw [rless, e, less_irrefl] at hxy; cases hxy
theorem gdel_rem (L : List Rg) (x : Ev) : gdel (L.map Rg.pair) x = (remR L x).map Rg.pair := by
  unfold gdel remR
  rw [List.filter_map]; rfl
theorem remR_so {x : Ev} (so : L.Pairwise rless) : (remR L x).Pairwise rless := so.sublist List.filter_sublist
theorem polR_so {x : Ev} {p : Int} (so : L.Pairwise rless) : (polR L x p).Pairwise rless := by
  unfold polR
  rw [List.pairwise_map]
  refine so.imp fun {u v} huv => ?_
  have e : ∀ r : Rg, (if r.e = x then { r with pol := p } else r : Rg).e = r.e := fun r => by split <;> rfl
  show lessE _ _ = true
  rw [e, e]; exact huv
theorem pol_perm {x : Ev} {p : Int} {r : Rg} : ∀ {L : List Rg}, L.Pairwise rless → r ∈ L → r.e = x → (polR L x p).Perm ({ r with pol := p } :: remR L x)
  | [], _, h, _ => by cases h
  | y :: l, so, h, e => by
    obtain ⟨h1, h2⟩ := List.pairwise_cons.1 so
    unfold polR remR
    rw [List.map_cons, List.filter_cons]
    rcases List.mem_cons.1 h with rfl | h
    · rw [if_pos e, if_neg (by simp [e])]
      refine List.Perm.cons _ ?_
      have hne : ∀ z ∈ l, z.e ≠ x := fun z hz e2 => by
        have := h1 z hz
        rw [rless, e, e2, less_irrefl] at this; cases this
      have e1 : l.map (fun r => if r.e = x then ({ r with pol := p } : Rg) else r) = l := by
        conv => rhs; rw [← List.map_id l]
        exact List.map_congr_left (fun z hz => if_neg (hne z hz))
      have e2 : l.filter (fun r => !decide (r.e = x)) = l := by
        rw [List.filter_eq_self]; intro z hz; simp [hne z hz]
      rw [e1, e2]
    · have hy : y.e ≠ x := fun e2 => by
        have := h1 r h
        rw [rless, e, e2, less_irrefl] at this; cases this
      rw [if_neg hy, if_pos (by simp [hy])]
      exact ((pol_perm h2 h e).cons y).trans (List.Perm.swap _ _ _)
theorem add_ok (H : Tb h b X L) (r : Rg) (hl : L.length ≤ 8) (hk : ∀ h', Tb h' b X (addL L r) → StepF X h X h' → R (.int .i64 (addE L r)) h') :
    CallsH Tryz.prog F.regs_Table_Add #[.pointer (some ⟨b, 0, none⟩), r.val] h R := by
  obtain ⟨m, H⟩ := H
  refine regs_Table_Add.walk (regs_Reg.box fun b1 h1 e1 hb1 f1 => ?_)
  have H1 := H.on f1
  refine made_ok H1 ⟨_, rfl, ?_⟩
  rw [if_neg (by decide)]
  refine ⟨_, cell_at H1.blk rfl, ld_e (r := r) hb1 ⟨_, _, _, _, _, _, _, _, look H1 r.e, regs_Reg.box fun b3 h3 e3 hb3 f3 => ?_⟩⟩
  have hb13 := f3.get hb1 id
  refine ⟨f3.2 m H1.map.lt id, heldL_blk hb13 (fun j v hj => ?_), cell_at (f3.get H1.blk id) rfl, regs_Reg.set hb3 fun h4 a4 s4 o4 => ?_⟩
  · rw [Nat.zero_add]
    match j, hj with
    | 0, hj => simpa using hj
    | 1, hj => simpa using hj
    | 2, hj => simpa using hj
    | 3, hj => simpa using hj
    | 4, hj => simpa using hj
  have z1 := f1.1
  have F4 := Fr.put (f1.tt f3) s4 o4 (by omega)
  have hb14 : r.at h4 b1 := by
    have hne : b1 ≠ b3 := by have := lt_of_get hb1; omega
    unfold Rg.at regs_Reg.at
    rw [o4 b1 hne]; exact hb13
  refine regs_Reg.ld hb14 (right_ok r fun h5 f5 => ⟨_, rfl, ?_⟩)
  have F5 := F4.tt f5
  have H5 := H.on F5
  have hb15 := f5.get hb14 id
  have keep : addL L r = L → R (.int .i64 (addE L r)) h5 := fun e => hk h5 (by rw [e]; exact ⟨m, H5⟩) (StepF.of_no F5)
  rcases addE_cases L r with ⟨q1, q2⟩ | ⟨q1, q3, q2⟩ | ⟨q1, q3, q4, q2⟩ | ⟨q1, q3, q4, q2⟩
  · rw [q1, if_pos (by decide)]
    rw [q2] at keep
    exact keep (by unfold addL; rw [q2]; rfl)
  · rw [q1, if_neg (by decide), if_pos q3]
    rw [q2] at keep
    exact keep (by unfold addL; rw [q2]; rfl)
  · rw [q1, if_neg (by decide), if_neg (by rw [q3]; simp)]
    refine ⟨_, cell_at H5.blk rfl, _, lenV_P mapTy H5.map, ?_⟩
    rw [List.length_map, if_pos (decide_eq_true (by omega))]
    rw [q2] at keep
    exact keep (by unfold addL; rw [q2]; rfl)
  · rw [q1, if_neg (by decide), if_neg (by rw [q3]; simp)]
    refine ⟨_, cell_at H5.blk rfl, _, lenV_P mapTy H5.map, ?_⟩
    rw [List.length_map, if_neg (by simp; omega)]
    refine ⟨_, cell_at H5.blk rfl, ld_e (r := r) hb15 (regs_Reg.ld hb15 (den_putP mapTy H5.map (k := r.e) fun h6 M6 s6 o6 => ?_))⟩
    have eL : addL L r = insR r L := if_pos q2
    have hno := findR_none.1 q3
    have M6 : MapP h6 m ev5 ((insR r L).map Rg.pair) := by
      refine M6.perm ?_
      unfold gput
      rw [gdel_none (fun e he => by obtain ⟨y, hy, rfl⟩ := List.mem_map.1 he; exact hno y hy)]
      exact ((insR_perm r L).map Rg.pair).symm
    obtain ⟨H6, st⟩ := H5.put M6 s6 o6 (insR_so H5.so hno)
    rw [eL, q2] at hk
    exact hk h6 ⟨m, H6⟩ (StepF.no F5 st)
theorem remove_ok (H : Tb h b X L) (x : Ev) (owner : Int) (hk : ∀ h', Tb h' b X (remL L x owner) → StepF X h X h' → R (.int .i64 (askE L x owner)) h') :
    CallsH Tryz.prog F.regs_Table_Remove #[.pointer (some ⟨b, 0, none⟩), ev5 x, .int .i64 owner] h R := by
  refine regs_Table_Remove.walk (eid_Eid.box fun b1 h1 e1 hb1 f1 => eid_Eid.ld hb1 (ask_ok (H.on f1) x owner fun h2 f2 => ⟨_, _, _, _, _, _, _, _, rfl, regs_Reg.new fun b3 h3 e3 hb3 f3 => JoinP.of fun J hJ => ?_⟩))
  have F3 := f1.tt (f2.tt f3)
  have hb13 := (f2.tt f3).get hb1 id
  obtain ⟨m, H⟩ := H
  have H3 := H.on F3
  by_cases q : askE L x owner = 0
  · rw [if_pos (by simpa using q)]
    refine ⟨_, cell_at H3.blk rfl, eid_Eid.ld hb13 (den_delP mapTy H3.map (k := x) fun h4 M4 s4 o4 => ⟨rfl, ?_⟩)⟩
    subst hJ
    rw [gdel_rem] at M4
    obtain ⟨H4, st⟩ := H3.put M4 s4 o4 (remR_so H3.so)
    exact hk h4 (by unfold remL; rw [if_pos q]; exact ⟨m, H4⟩) (StepF.no F3 st)
  · rw [if_neg (by simpa using q)]
    subst hJ
    exact hk h3 (by unfold remL; rw [if_neg q]; exact ⟨m, H3⟩) (StepF.of_no F3)
theorem policy_ok (H : Tb h b X L) (x : Ev) (owner p : Int) (hk : ∀ h', Tb h' b X (polL L x owner p) → StepF X h X h' → R (.int .i64 (polE L x owner p)) h') :
    CallsH Tryz.prog F.regs_Table_Policy #[.pointer (some ⟨b, 0, none⟩), ev5 x, .int .i64 owner, .int .i64 p] h R := by
  refine regs_Table_Policy.walk (eid_Eid.box fun b1 h1 e1 hb1 f1 => JoinP.of fun J hJ => ?_)
  have H0 := H
  obtain ⟨m, H⟩ := H
  have H1 := H.on f1
  refine made_ok H1 ⟨_, rfl, ?_⟩
  rw [if_pos rfl]
  refine isPolicy_ok ⟨_, rfl, ?_⟩
  subst hJ
  by_cases q0 : 0 ≤ p ∧ p ≤ 2
  · have e0 : (decide (p ≥ 0) && decide (p ≤ 2)) = true := by simp [q0.1, q0.2]
    have eE : polE L x owner p = askE L x owner := if_pos q0
    rw [e0]
    dsimp only
    rw [if_neg (by decide)]
    refine eid_Eid.ld hb1 (ask_ok (H0.on f1) x owner fun h2 f2 => ⟨_, _, _, _, _, _, _, _, rfl, regs_Reg.new fun b3 h3 e3 hb3 f3 => JoinP.of fun J hJ => ?_⟩)
    have F3 := f1.tt (f2.tt f3)
    have hb13 := (f2.tt f3).get hb1 id
    have H3 := H.on F3
    rw [eE] at hk
    by_cases q : askE L x owner = 0
    · rw [if_pos (by simpa using q)]
      obtain ⟨r, hr⟩ : ∃ r, findR L x = some r := by
        cases hf : findR L x with
        | none => unfold askE at q; rw [hf] at q; cases q
        | some r => exact ⟨r, rfl⟩
      rw [if_pos q, hr] at hb3
      obtain ⟨hrm, hre⟩ := findR_some hr
      refine storeP_blk hb3 (by simp) fun h4 a4 s4 o4 => ?_
      have z1 := f1.1
      have z2 := f2.1
      have F4 := Fr.put F3 s4 o4 (by omega)
      have H4 := H.on F4
      have hb14 : Ev.at h4 b1 x := by
        have hne : b1 ≠ b3 := by have := lt_of_get hb1; omega
        unfold Ev.at eid_Eid.at
        rw [o4 b1 hne]; exact hb13
      have a4 : ({ r with pol := p } : Rg).at h4 b3 := a4
      refine ⟨_, cell_at H4.blk rfl, eid_Eid.ld hb14 (regs_Reg.ld a4 (den_putP mapTy H4.map (k := x) fun h5 M5 s5 o5 => ?_))⟩
      have M5 : MapP h5 m ev5 ((polR L x p).map Rg.pair) := by
        refine M5.perm ?_
        unfold gput
        rw [gdel_rem]
        have := ((pol_perm (p := p) H.so hrm hre).map Rg.pair).symm
        rw [List.map_cons] at this
        have e2 : (x, ({ r with pol := p } : Rg).val) = ({ r with pol := p } : Rg).pair := by rw [← hre]
        rw [show ((x, Value.agg #[.bool r.e.ipn, .int .u64 r.e.node, .int .u64 r.e.svc, .string r.e.host, .string r.e.dem, .int .i64 p, .int .i64 r.own]) : Ev × Value) = ({ r with pol := p } : Rg).pair from e2]
        exact this
      obtain ⟨H5, st⟩ := H4.put M5 s5 o5 (polR_so H.so)
      subst hJ
      exact hk h5 (by unfold polL; rw [eE, if_pos q]; exact ⟨m, H5⟩) (StepF.no F4 st)
    · rw [if_neg (by simpa using q)]
      subst hJ
      exact hk h3 (by unfold polL; rw [eE, if_neg q]; exact ⟨m, H3⟩) (StepF.of_no F3)
  · have e0 : (decide (p ≥ 0) && decide (p ≤ 2)) = false := by
      rw [Bool.and_eq_false_iff]
      by_cases h1 : p ≥ 0
      · exact .inr (decide_eq_false (fun h2 => q0 ⟨h1, h2⟩))
      · exact .inl (decide_eq_false h1)
    have eE : polE L x owner p = 1 := if_neg q0
    rw [e0]
    dsimp only
    rw [if_pos (by decide)]
    rw [eE] at hk
    exact hk h1 (by unfold polL; rw [eE, if_neg (by decide)]; exact ⟨m, H1⟩) (StepF.of_no f1)
end Regs
end Go.Proofs.YtgccegnmggjkjaaGreatDoor

/-
  What is proved here: a row of a slice of structs is stored as a whole; lists that change at two places. No condition.
-/
namespace Go.Den
def writeAt : List Value → Nat → List Value → List Value
  | cs, _, [] => cs
  | cs, p, v :: vs => writeAt (cs.set p v) (p + 1) vs
theorem writeAt_len : ∀ (vs cs : List Value) (p : Nat), (writeAt cs p vs).length = cs.length
  | [], cs, p => rfl
  | v :: vs, cs, p => by unfold writeAt; rw [writeAt_len vs, List.length_set]
theorem writeAt_at : ∀ (vs cs : List Value) (p : Nat), p + vs.length ≤ cs.length → ∀ j, (writeAt cs p vs)[j]? = if p ≤ j ∧ j < p + vs.length then vs[j - p]? else cs[j]?
  | [], cs, p, _, j => by unfold writeAt; rw [if_neg (by rw [List.length_nil]; omega)]
  | v :: vs, cs, p, hl, j => by
    unfold writeAt
    rw [List.length_cons] at hl ⊢
    rw [writeAt_at vs _ (p + 1) (by rw [List.length_set]; omega) j, List.getElem?_set]
    by_cases h1 : p + 1 ≤ j ∧ j < p + 1 + vs.length
    · rw [if_pos h1, if_pos (by omega), show j - p = (j - (p + 1)) + 1 by omega, List.getElem?_cons_succ]
    · rw [if_neg h1]
      by_cases h2 : p = j
      · subst h2
        rw [if_pos rfl, if_pos (by omega), if_pos (by omega), Nat.sub_self]; rfl
      · rw [if_neg h2, if_neg (by omega)]
theorem Own.storeL {a : Addr} {len cap sz p : Nat} {K : Heap → Prop} : ∀ (vs : List Value) (k : Nat) (h : Heap) (cs : List Value), Own h (.some a) len cap sz cs → (∀ v ∈ vs, oneCell v = true) → p + k + vs.length ≤ cs.length →
    (∀ h', Own h' (.some a) len cap sz (writeAt cs (p + k) vs) → h'.size = h.size → (∀ x, ¬ inBlk (.some a) x → h'[x]? = h[x]?) → K h') → Den.storeL (a.add p) vs k h K
  | [], k, h, cs, o, _, _, hk => hk h o rfl (fun _ _ => rfl)
  | v :: vs, k, h, cs, o, hv, hl, hk => by
    rw [List.length_cons] at hl
    unfold Den.storeL
    rw [hv v List.mem_cons_self]
    dsimp only
    rw [add_add]
    refine o.store (by omega) fun h1 o1 s1 q1 => ?_
    refine Own.storeL vs (k + 1) h1 _ o1 (fun u hu => hv u (List.mem_cons_of_mem _ hu)) (by rw [List.length_set]; omega) fun h2 o2 s2 q2 => hk h2 ?_ (by omega) (fun x hx => by rw [q2 x hx, q1 x hx])
    unfold writeAt
    rw [show p + k + 1 = p + (k + 1) by omega]
    exact o2
theorem Own.storeRow {h : Heap} {a : Addr} {len cap sz : Nat} {α : Type} {enc : α → List Value} {xs : List α} {i : Nat} {y : α} {K : Heap → Prop} (o : Own h (.some a) len cap sz (xs.flatMap enc)) (henc : ∀ x, (enc x).length = sz) (hone : ∀ v ∈ enc y, oneCell v = true) (hi : i < xs.length)
    (hk : ∀ h', Own h' (.some a) len cap sz ((xs.set i y).flatMap enc) → h'.size = h.size → (∀ x, ¬ inBlk (.some a) x → h'[x]? = h[x]?) → K h') : Den.storeL (a.add (i * sz)) (enc y) 0 h K := by
  have hl := flat_len enc sz henc xs
  have hb : i * sz + sz ≤ xs.length * sz := by
    have := Nat.mul_le_mul_right sz (show i + 1 ≤ xs.length by omega)
    rwa [Nat.add_mul, Nat.one_mul] at this
  refine Own.storeL (enc y) 0 h _ o hone (by rw [henc, hl]; omega) fun h' o' s' q' => hk h' ?_ s' q'
  have e : writeAt (xs.flatMap enc) (i * sz + 0) (enc y) = (xs.set i y).flatMap enc := by
    refine flat_set enc sz henc xs i y hi _ (writeAt_len _ _ _) ?_ ?_
    · intro j hj
      rw [writeAt_at _ _ _ (by rw [henc, hl]; omega), henc]
      rw [if_neg]
      rintro ⟨h1, h2⟩
      rcases hj with hj | hj
      · apply hj
        have hz : 0 < sz := by omega
        rw [Nat.div_eq_iff hz]
        constructor
        · omega
        · omega
      · omega
    · intro j v hj hv
      rw [writeAt_at _ _ _ (by rw [henc, hl]; omega), henc, if_pos (by omega), show i * sz + j - (i * sz + 0) = j by omega]
      exact hv
  rw [e] at o'
  exact o'

/-! two places of a list -/
def swp {α : Type} (xs : List α) (i j : Nat) : List α :=
  match xs[i]?, xs[j]? with
  | some x, some y => (xs.set i y).set j x
  | _, _ => xs
theorem swp_eq {α : Type} {xs : List α} {i j : Nat} {x y : α} (hx : xs[i]? = some x) (hy : xs[j]? = some y) : (xs.set i y).set j x = swp xs i j := by unfold swp; rw [hx, hy]
theorem swp_len {α : Type} (xs : List α) (i j : Nat) : (swp xs i j).length = xs.length := by
  unfold swp; split
  · rw [List.length_set, List.length_set]
  · rfl
theorem swp_at {α : Type} {xs : List α} {i j : Nat} (hi : i < xs.length) (hj : j < xs.length) (k : Nat) : (swp xs i j)[k]? = if k = j then xs[i]? else if k = i then xs[j]? else xs[k]? := by
  have e1 : xs[i]? = some xs[i] := List.getElem?_eq_getElem hi
  have e2 : xs[j]? = some xs[j] := List.getElem?_eq_getElem hj
  unfold swp
  rw [e1, e2]
  dsimp only
  rw [List.getElem?_set, List.getElem?_set, List.length_set]
  by_cases h1 : j = k
  · subst h1; rw [if_pos rfl, if_pos hj, if_pos rfl]
  · rw [if_neg h1, if_neg (Ne.symm h1)]
    by_cases h2 : i = k
    · subst h2; rw [if_pos rfl, if_pos hi, if_pos rfl]
    · rw [if_neg h2, if_neg (Ne.symm h2)]
theorem swp_perm {α : Type} {xs : List α} {i j : Nat} (hi : i < xs.length) (hj : j < xs.length) : (swp xs i j).Perm xs := by
  unfold swp
  rw [List.getElem?_eq_getElem hi, List.getElem?_eq_getElem hj]
  dsimp only
  exact List.set_set_perm hi hj
end Go.Den
