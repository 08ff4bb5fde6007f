/-
  What is proved here: what a reading of an argument says of the heap ('Rok'); how a law's call on heaps becomes the row's own. No condition.
-/
import Derived.Test.YtjjmbohnchngcaaSlice
import Derived.ProofKit
import Derived.ChangeOld
import Derived.Below
import Derived.Carry
import Derived.OpenShut
namespace Go.Den
open Go.RowKit

/-- cs are the cells of a value of type t, and what it leads to lies in h -/
def Rok (P : Program) (h : Heap) : Nat → TypeId → List Value → Prop
  | 0, _, _ => False
  | n + 1, t, cs =>
    match P.underlying t with
    | some .bool => ∃ b, cs = [.bool b]
    | some (.int k) => ∃ a, cs = [.int k a] ∧ (Lit.int k a).wf = true
    | some .string => ∃ s, cs = [.string s] ∧ s.size ≤ maxLen
    | some (.pointer e) => cs = [.pointer none] ∨ ∃ a cs', cs = [.pointer (some a)] ∧ cs'.length = P.cellsOf e ∧ heldL a cs' 0 h ∧ Rok P h n e cs'
    | some (.slice e) => cs = [.slice none 0 0] ∨ ∃ a len cap, cs = [.slice (some a) len cap] ∧ len ≤ cap ∧ cap ≤ maxLen ∧ ∀ i, i < len → ∃ cs', cs'.length = P.cellsOf e ∧ heldL (a.add (i * P.cellsOf e)) cs' 0 h ∧ Rok P h n e cs'
    | some (.struct fs) => cs.length = P.cellsOf t ∧ ∀ f ∈ fs.toList, Rok P h n f.type ((cs.drop f.offset).take (P.cellsOf f.type))
    | some (.array m e) => cs.length = P.cellsOf t ∧ ∀ i, i < m → Rok P h n e ((cs.drop (i * P.cellsOf e)).take (P.cellsOf e))
    | _ => True

theorem cells_held {w : World} {base : Nat} {a : Addr} {n : Nat} {cs : List Value} (h : w.cells? base a n = some cs) : cs.length = n ∧ heldL a cs 0 w.heap := by
  obtain ⟨_, hl, hc⟩ := World.cells?_some h
  refine ⟨hl, heldL_at.2 fun j v hj => ?_⟩
  have hjl : j < cs.length := (List.getElem?_eq_some_iff.1 hj).1
  have := hc j (by omega)
  rw [cell_eq, hj] at this
  rw [Nat.zero_add]; exact this

theorem mapM_some {α β : Type} {f : α → Option β} : ∀ {l : List α} {r : List β}, l.mapM f = some r → ∀ x ∈ l, ∃ y, f x = some y
  | [], _, _, x, hx => by cases hx
  | a :: l, r, h, x, hx => by
    rw [List.mapM_cons] at h
    cases ha : f a with
    | none => rw [ha] at h; simp at h
    | some y =>
      rw [ha] at h
      cases hl : l.mapM f with
      | none => rw [hl] at h; simp at h
      | some ys =>
        rcases List.mem_cons.1 hx with rfl | hx
        · exact ⟨y, ha⟩
        · exact mapM_some hl x hx

theorem rok_of_trod {H : Type} {enc : TypeId × Value → H} {P : Program} {w : World} {base : Nat} {spare : Nat → Bool} {held : Bool} :
    ∀ (fuel : Nat) (t : TypeId) (cs : List Value) (x : DataW H × List MemPlace), DataW.trod enc P w base spare held fuel t cs = some x → Rok P w.heap fuel t cs
  | 0, _, _, _, h => by simp [DataW.trod] at h
  | fuel + 1, t, cs, x, h => by
    unfold Rok
    cases hd : P.underlying t with
    | none => trivial
    | some d =>
      cases d <;> simp only <;> first | trivial | skip
      case bool => obtain ⟨b, hc, _⟩ := DataW.trod_bool hd h; exact ⟨b, hc⟩
      case int k => obtain ⟨n, hc, _, hw⟩ := DataW.trod_int hd h; exact ⟨n, hc, hw⟩
      case string => obtain ⟨s, hc, _, hw⟩ := DataW.trod_string hd h; exact ⟨s, hc, hw⟩
      case pointer e =>
        rcases DataW.trod_pointer hd h with ⟨hc, _⟩ | ⟨a, cs', y, n, hn, hc, _, hcell, hy⟩
        · exact .inl hc
        · obtain ⟨hl, hh⟩ := cells_held hcell
          obtain rfl : n = fuel := by omega
          exact .inr ⟨a, cs', hc, hl, hh, rok_of_trod n e cs' y hy⟩
      case slice e =>
        rcases DataW.trod_slice hd h with ⟨hc, _⟩ | ⟨a, len, cap, elems, rest, n, hn, hc, _, _, hl, hm, hlen, hel, _⟩
        · exact .inl hc
        · obtain rfl : n = fuel := by omega
          refine .inr ⟨a, len, cap, hc, hl, hm, fun i hi => ?_⟩
          have h1 := hel i hi
          rw [List.getElem?_eq_getElem (by omega)] at h1
          cases hcell : w.cells? base (a.add (i * P.cellsOf e)) (P.cellsOf e) with
          | none => rw [hcell] at h1; cases h1
          | some cs' =>
            rw [hcell] at h1
            obtain ⟨hl', hh⟩ := cells_held hcell
            exact ⟨cs', hl', hh, rok_of_trod n e cs' _ h1⟩
      case struct fs =>
        obtain ⟨xs, n, hn, _, hl, hxs, hf⟩ := DataW.trod_struct hd h
        obtain rfl : n = fuel := by omega
        refine ⟨hl, fun f hm => ?_⟩
        obtain ⟨i, hi⟩ := List.getElem?_of_mem hm
        have hi' : fs[i]? = some f := by simpa using hi
        have h1 := hf i f hi'
        have hlt : i < xs.length := by rw [hxs]; exact (Array.getElem?_eq_some_iff.1 hi').1
        rw [List.getElem?_eq_getElem hlt] at h1
        exact rok_of_trod n _ _ _ h1
      case array m e =>
        obtain ⟨xs, n, hn, _, hl, hxs, hf⟩ := DataW.trod_array hd h
        obtain rfl : n = fuel := by omega
        refine ⟨hl, fun i hi => ?_⟩
        have h1 := hf i hi
        rw [List.getElem?_eq_getElem (by omega)] at h1
        exact rok_of_trod n _ _ _ h1

/-- a value of type t -/
def RokV (P : Program) (h : Heap) (t : TypeId) (v : Value) : Prop := ∃ n, Rok P h n t v.cells.toList
theorem RokV.of {H : Type} {enc : TypeId × Value → H} {P : Program} {w : World} {base : Nat} {spare : Nat → Bool} {held : Bool} {t : TypeId} {v : Value} {d : DataW H} {ps : List MemPlace}
    (h : DataW.Trod enc P w base spare held t v d ps) : RokV P w.heap t v := by
  obtain ⟨n, hn⟩ := h
  exact ⟨n, rok_of_trod n _ _ _ hn⟩

theorem below_of {w w' : World} (hf : Fr (fun _ => False) w.heap w'.heap) (hs : Same w w') : Below w.heap.size w w' :=
  ⟨hs.1, hs.2.2, hs.2.1, hf.1, fun k hk => hf.2 k hk id⟩

/-- a law's call -/
def LawH (P : Program) (f : FuncId) (args : Array Value) (h : Heap) : Prop := CallsH P f args h (fun v h' => v = .bool true ∧ Fr (fun _ => False) h h')
theorem LawH.calls {P : Program} {f : FuncId} {args : Array Value} {w : World} (hl : LawH P f args w.heap) : Calls P f args w fun e w' => e = .returned (.bool true) ∧ Below w.heap.size w w' :=
  (hl w rfl).mono fun _ _ ⟨_, he, ⟨hv, hf⟩, hs⟩ => ⟨by rw [he, hv], below_of hf hs⟩

theorem wf_i64 {a : Int} (h : (Lit.int .i64 a).wf = true) : -9223372036854775808 ≤ a ∧ a ≤ 9223372036854775807 := by
  simpa [Lit.wf, IntKind.min, IntKind.max, IntKind.bits, IntKind.signed] using h
theorem wf_u64 {a : Int} (h : (Lit.int .u64 a).wf = true) : 0 ≤ a ∧ a ≤ 18446744073709551615 := by
  simpa [Lit.wf, IntKind.min, IntKind.max, IntKind.bits, IntKind.signed] using h
theorem wf_u8 {a : Int} (h : (Lit.int .u8 a).wf = true) : 0 ≤ a ∧ a ≤ 255 := by
  simpa [Lit.wf, IntKind.min, IntKind.max, IntKind.bits, IntKind.signed] using h

section
variable {P : Program} {h : Heap} {t : TypeId} {v : Value}
theorem RokV.int {k : IntKind} (ht : P.underlying t = some (.int k)) (hv : RokV P h t v) (hc : ∀ a, v.cells.toList = [.int k a] → v = .int k a) : ∃ a, v = .int k a ∧ (Lit.int k a).wf = true := by
  obtain ⟨n, hn⟩ := hv
  cases n with
  | zero => exact hn.elim
  | succ n =>
    unfold Rok at hn
    rw [ht] at hn
    obtain ⟨a, ha, hw⟩ := hn
    exact ⟨a, hc a ha, hw⟩
end
end Go.Den
