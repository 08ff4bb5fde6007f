/-
  What is proved here: the document's box (package ref23) in memory: There, Take, Cancel. No condition.
-/
import Derived.Test.YtlonfpolnmiglaaBoxSave
import Derived.Test.YtlonfpolnmiglaaVcJ
set_option maxRecDepth 100000
namespace Go.Proofs.Ytlonfpolnmiglaa
open Go.Den Go.Fields
namespace Rbx
open Fld Obx
variable {h h' h0 : Heap} {x : Nat} {X : Ft} {R : Value → Heap → Prop} {p q : Option Addr} {c d i : Nat}

/-- an item, and what became of it -/
structure RI where
  it : It
  fate : Nat
structure RV where
  num : Nat
  owner : Int
  v : BV
  till : Nat
  fate : Nat
def RV.abs (y : RV) : RI := ⟨⟨y.num, y.owner, y.v.b, y.till⟩, y.fate⟩
abbrev renc (y : RV) : List Value := [.int .i64 (y.num : Int), .int .i64 y.owner, y.v.val, .int .u64 (y.till : Int), .int .i64 (y.fate : Int)]
theorem renc_len (y : RV) : (renc y).length = 5 := rfl
theorem renc_one (xs : List RV) : ∀ v ∈ xs.flatMap renc, oneCell v = true := by
  intro v hv
  obtain ⟨a, _, ha⟩ := List.mem_flatMap.1 hv
  simp at ha
  rcases ha with rfl | rfl | rfl | rfl | rfl <;> rfl
theorem tR : SlTy Try.prog T.s_ref23_Item T.ref23_Item 5 56 (.agg #[.int .i64 0, .int .i64 0, .slice none 0 0, .int .u64 0, .int .i64 0]) := ⟨by kernel_rfl, by kernel_rfl, rfl⟩
theorem uR : Try.prog.underlying T.s_ref23_Item = some (.slice T.ref23_Item) := by kernel_rfl
structure Rm (h : Heap) (x : Nat) (X : Ft) (Ls : List RI) (lp : Option Addr) (lc : Nat) (xs : List RV) : Prop where
  blk : h[x]? = some (.cells #[.slice lp xs.length lc] T.ref23_Box (0, 0))
  own : Own h lp xs.length lc 5 (xs.flatMap renc)
  abs : xs.map RV.abs = Ls
  dat : ∀ y ∈ xs, y.v.ok h X.D
  m : ∀ c, X.M c ↔ c = x ∨ inBlk lp c
  bl : ¬ inBlk lp x
  dis : ∀ c, X.M c → ¬ X.D c
  dlt : ∀ c, X.D c → c < h.size
def Rb (h : Heap) (x : Nat) (X : Ft) (Ls : List RI) : Prop := ∃ lp lc xs, Rm h x X Ls lp lc xs
variable {Ls : List RI} {lp : Option Addr} {lc : Nat} {xs : List RV}
theorem Rm.lt (H : Rm h x X Ls lp lc xs) (y : Nat) (hy : X.M y ∨ X.D y) : y < h.size := by
  rcases hy with hy | hy
  · rcases (H.m y).1 hy with rfl | h1
    · exact lt_of_get H.blk
    · exact H.own.blk_lt h1
  · exact H.dlt y hy
theorem Rb.lt (H : Rb h x X Ls) (y : Nat) (hy : X.M y ∨ X.D y) : y < h.size := by
  obtain ⟨lp, lc, xs, H⟩ := H
  exact H.lt y hy
theorem Rm.frame {Q : Nat → Prop} (H : Rm h x X Ls lp lc xs) (f : Fr Q h h') (hq : ∀ y, X.M y ∨ X.D y → ¬ Q y) : Rm h' x X Ls lp lc xs :=
  have hm : ∀ y, X.M y → ¬ Q y := fun y hy => hq y (.inl hy)
  ⟨f.get H.blk (hm x ((H.m x).2 (.inl rfl))), H.own.frame f (fun y hy => hm y ((H.m y).2 (.inr hy))), H.abs, fun y hy => (H.dat y hy).frame f (fun z hz => hq z (.inr hz)), H.m, H.bl, H.dis, fun y hy => Nat.lt_of_lt_of_le (H.dlt y hy) f.1⟩
theorem Rb.frame {Q : Nat → Prop} (H : Rb h x X Ls) (f : Fr Q h h') (hq : ∀ y, X.M y ∨ X.D y → ¬ Q y) : Rb h' x X Ls := by
  obtain ⟨lp, lc, xs, H⟩ := H
  exact ⟨lp, lc, xs, H.frame f hq⟩
theorem Rm.on (H : Rm h x X Ls lp lc xs) (f : Fr (fun _ => False) h h') : Rm h' x X Ls lp lc xs := H.frame f (fun _ _ => id)
theorem Rm.len (H : Rm h x X Ls lp lc xs) : xs.length = Ls.length := by rw [← H.abs, List.length_map]
theorem Rm.get (H : Rm h x X Ls lp lc xs) {y : RI} (hy : Ls[i]? = some y) : ∃ v, xs[i]? = some v ∧ v.abs = y := by
  rw [← H.abs, List.getElem?_map] at hy
  cases hv : xs[i]? with
  | none => rw [hv] at hy; cases hy
  | some v => rw [hv] at hy; exact ⟨v, rfl, Option.some.inj hy⟩
/-- what became of one changes -/
theorem Rm.fate {K : Heap → Prop} {a : Addr} {y : RI} (H : Rm h x X Ls (some a) lc xs) (hy : Ls[i]? = some y) (f : Nat)
    (hk : ∀ h', Rb h' x X (Ls.set i { y with fate := f }) → StepF X h X h' → K h') : StoreP h ((a.add (i * 5)).add 4) (.int .i64 (f : Int)) K := by
  obtain ⟨v, hv, hva⟩ := H.get hy
  have hi := (List.getElem?_eq_some_iff.1 hv).1
  rw [add_add]
  have hl : (xs.flatMap renc).length = xs.length * 5 := flat_len renc 5 renc_len xs
  refine H.own.store (by omega) ?_
  intro h' o' hs hoth
  have e : (xs.flatMap renc).set (i * 5 + 4) (.int .i64 (f : Int)) = (xs.set i { v with fate := f }).flatMap renc := by
    refine flat_set renc 5 renc_len xs i { v with fate := f } hi _ (by rw [List.length_set]) ?_ ?_
    · intro j hj
      rw [List.getElem?_set_ne]
      intro e0
      subst e0
      rcases hj with hj | hj <;> omega
    · intro j w hj hw
      match j, hj with
      | 4, _ => simp at hw; subst hw; rw [List.getElem?_set_self (by omega)]
      | 0, _ => rw [List.getElem?_set_ne (by omega)]; exact flat_at renc 5 renc_len xs i v hv 0 w hw
      | 1, _ => rw [List.getElem?_set_ne (by omega)]; exact flat_at renc 5 renc_len xs i v hv 1 w hw
      | 2, _ => rw [List.getElem?_set_ne (by omega)]; exact flat_at renc 5 renc_len xs i v hv 2 w hw
      | 3, _ => rw [List.getElem?_set_ne (by omega)]; exact flat_at renc 5 renc_len xs i v hv 3 w hw
  rw [e] at o'
  have fr : Fr (inBlk (some a)) h h' := ⟨by omega, fun y _ hn => hoth y hn⟩
  have hD : ∀ y, X.D y → ¬ inBlk (some a) y := fun y hd hb => H.dis y ((H.m y).2 (.inr hb)) hd
  refine hk h' ⟨some a, lc, xs.set i { v with fate := f }, ⟨by rw [List.length_set]; exact fr.get H.blk H.bl, by rw [List.length_set]; exact o', ?_, ?_, H.m, H.bl, H.dis, fun y hy => Nat.lt_of_lt_of_le (H.dlt y hy) fr.1⟩⟩ (StepF.of_fr (fr.mono (fun y _ hb => (H.m y).2 (.inr hb))))
  · rw [List.map_set, H.abs, ← hva]; rfl
  · intro y hy
    rcases List.mem_or_eq_of_mem_set hy with hy | rfl
    · exact (H.dat y hy).frame fr hD
    · exact (H.dat v (List.mem_of_getElem? hv)).frame fr hD
theorem there_ok (H : Rb h x X Ls) (hl : Ls.length ≤ 1000000)
    (hk : ∀ h' p' c' (ys : List RV), Own h' p' ys.length c' 5 (ys.flatMap renc) → (∀ y, inBlk p' y → h.size ≤ y) → ys.map RV.abs = Ls.filter (fun y => decide (y.fate = 1)) → (∀ y ∈ ys, y.v.ok h' X.D) → Fr (fun _ => False) h h' → R (.slice p' ys.length c') h') :
    CallsH Try.prog F.ref23_Box_There #[.pointer (some ⟨x, 0, none⟩)] h R := by
  obtain ⟨lp, lc, xs, H⟩ := H
  have hlen := H.len
  refine ref23_Box_There.walk ?_
  refine ⟨fun op ol oc t g => ∃ (k : Nat) (ys : List RV), t = (k : Int) ∧ k ≤ xs.length ∧ ol = ys.length ∧ ys.length ≤ k ∧ Own g op ol oc 5 (ys.flatMap renc) ∧ (∀ y, inBlk op y → h.size ≤ y) ∧ ys.map RV.abs = (Ls.take k).filter (fun y => decide (y.fate = 1)) ∧ (∀ y ∈ ys, y ∈ xs) ∧ Fr (fun _ => False) h g, fun _ _ _ t _ => xs.length - t.toNat,
    ⟨0, [], rfl, by omega, rfl, by simp, .nil rfl rfl rfl rfl, (fun y ⟨a, e, _⟩ => by cases e), by simp, (fun y hy => by cases hy), Fr.refl _ _⟩, ?_⟩
  rintro op ol oc _ g ⟨k, ys, rfl, hkn, rfl, hyk, o, hop, hab, hsub, fg⟩
  have Mg := H.on fg
  refine ⟨_, _, _, cell_at Mg.blk rfl, ?_⟩
  by_cases hlt : k < xs.length
  · have q1 : (k : Int) < ((xs.length : Nat) : Int) := by omega
    simp only [q1, decide_true, if_true, Int.toNat_natCast]
    have hx : xs[k]? = some xs[k] := List.getElem?_eq_getElem hlt
    generalize xs[k] = v at hx
    have hLk : Ls[k]? = some v.abs := by rw [← H.abs, List.getElem?_map, hx]; rfl
    obtain ⟨ab, aoff, rfl⟩ := Mg.own.addr (by omega)
    have held := Mg.own.heldAt renc_len hx
    refine JoinP.of fun J hJ => ⟨_, _, _, cell_at Mg.blk rfl, ⟨by first | trivial | omega, by first | trivial | omega⟩, onSome_some.2 ⟨(v.fate : Int), held.2.2.2.2.1, JoinP.of fun J1 hJ1 => ?_⟩⟩
    subst hJ1; subst hJ
    have wr : IntKind.wrap .i64 ((k : Int) + 1) = (k : Int) + 1 := wrap_id (by omega) (by omega)
    by_cases hf : v.fate = 1
    · rw [if_pos (by rw [hf]; rfl)]
      refine ⟨_, _, _, cell_at Mg.blk rfl, ⟨by first | trivial | omega, by first | trivial | omega⟩, onSome_some.2 (ref23_Item.ldA held ?_)⟩
      refine den_append1 tR uR o rfl (fun w hw => by simp at hw; rcases hw with rfl | rfl | rfl | rfl | rfl <;> rfl) (by omega) (by omega) fun p5 c5 h5 o5 f5 g5 => ⟨_, _, _, rfl, ?_⟩
      have zg := fg.1
      have cat : ys.flatMap renc ++ ([.int .i64 (v.num : Int), .int .i64 v.owner, .slice v.v.p v.v.b.length v.v.c, .int .u64 (v.till : Int), .int .i64 (v.fate : Int)] : List Value) = (ys ++ [v]).flatMap renc := by rw [List.flatMap_append]; simp
      have ln : (ys ++ [v]).length = ys.length + 1 := by rw [List.length_append]; rfl
      dsimp only
      rw [wr]
      refine ⟨⟨k + 1, ys ++ [v], by omega, by omega, ln.symm, by omega, by rw [← cat]; exact o5, fun y hy => (g5 y hy).elim (hop y) (fun h2 => by omega), ?_, fun y hy => ?_, fg.fresh f5 hop⟩, by show xs.length - Int.toNat ((k : Int) + 1) < xs.length - k; omega⟩
      · rw [List.map_append, hab, List.take_add_one, hLk, List.filter_append]
        have : decide (v.abs.fate = 1) = true := decide_eq_true hf
        simp [List.filter_cons, this]
      · rcases List.mem_append.1 hy with hy | hy
        · exact hsub y hy
        · obtain rfl := List.mem_singleton.1 hy
          exact List.mem_of_getElem? hx
    · have hfi : ¬ ((v.fate : Int) == 1) = true := by simp only [beq_iff_eq]; omega
      rw [if_neg hfi]
      rw [wr]
      refine ⟨⟨k + 1, ys, by omega, by omega, rfl, by omega, o, hop, ?_, hsub, fg⟩, by show xs.length - Int.toNat ((k : Int) + 1) < xs.length - k; omega⟩
      rw [hab, List.take_add_one, hLk, List.filter_append]
      have : decide (v.abs.fate = 1) = false := decide_eq_false hf
      simp [List.filter_cons, this]
  · have q1 : ¬ (k : Int) < ((xs.length : Nat) : Int) := by omega
    simp only [q1, decide_false, Bool.false_eq_true, if_false]
    rw [List.take_of_length_le (by omega)] at hab
    exact hk g op oc ys o hop hab (fun y hy => Mg.dat y (hsub y hy)) fg

theorem take_ok (H : Rb h x X Ls) (hl : Ls.length ≤ 1000000)
    (k1 : ∀ i y, Ls[i]? = some y → y.fate = 1 → (∀ j z, j < i → Ls[j]? = some z → z.fate ≠ 1) → ∀ h', Rb h' x X (Ls.set i { y with fate := 2 }) → StepF X h X h' → R (.int .i64 (i : Int)) h')
    (k2 : (∀ z ∈ Ls, z.fate ≠ 1) → R (.int .i64 (-1)) h) : CallsH Try.prog F.ref23_Box_Take #[.pointer (some ⟨x, 0, none⟩)] h R := by
  obtain ⟨lp, lc, xs, H⟩ := H
  have hlen := H.len
  refine ref23_Box_Take.walk ?_
  refine ⟨fun t g => g = h ∧ ∃ k : Nat, t = (k : Int) ∧ k ≤ xs.length ∧ ∀ j z, j < k → Ls[j]? = some z → z.fate ≠ 1, fun t _ => xs.length - t.toNat, ⟨rfl, 0, rfl, by omega, fun j z hj => by omega⟩, ?_⟩
  rintro _ g ⟨rfl, k, rfl, hkn, hno⟩
  refine ⟨_, _, _, cell_at H.blk rfl, ?_⟩
  by_cases hlt : k < xs.length
  · have q1 : (k : Int) < ((xs.length : Nat) : Int) := by omega
    simp only [q1, decide_true, if_true, Int.toNat_natCast]
    have hx : xs[k]? = some xs[k] := List.getElem?_eq_getElem hlt
    generalize xs[k] = v at hx
    have hLk : Ls[k]? = some v.abs := by rw [← H.abs, List.getElem?_map, hx]; rfl
    obtain ⟨ab, aoff, rfl⟩ := H.own.addr (by omega)
    have held := H.own.heldAt renc_len hx
    refine ⟨_, _, _, cell_at H.blk rfl, ⟨by first | trivial | omega, by first | trivial | omega⟩, onSome_some.2 ⟨(v.fate : Int), held.2.2.2.2.1, ?_⟩⟩
    by_cases hf : v.fate = 1
    · rw [if_pos (by rw [hf]; rfl)]
      refine ⟨_, _, _, cell_at H.blk rfl, ⟨by first | trivial | omega, by first | trivial | omega⟩, onSome_some.2 (H.fate hLk 2 fun h' B st => ?_)⟩
      exact k1 k _ hLk hf hno h' B st
    · have hfi : ¬ ((v.fate : Int) == 1) = true := by simp only [beq_iff_eq]; omega
      rw [if_neg hfi, wrap_id (by omega) (by omega)]
      refine ⟨⟨by first | trivial | rfl, k + 1, by omega, by omega, fun j z hj hz => ?_⟩, by show xs.length - Int.toNat ((k : Int) + 1) < xs.length - k; omega⟩
      by_cases e : j = k
      · subst e; rw [hLk] at hz; obtain rfl := Option.some.inj hz; exact hf
      · exact hno j z (by omega) hz
  · have q1 : ¬ (k : Int) < ((xs.length : Nat) : Int) := by omega
    simp only [q1, decide_false, Bool.false_eq_true, if_false]
    refine k2 fun z hz => ?_
    obtain ⟨j, hj⟩ := List.getElem?_of_mem hz
    exact hno j z (by have := (List.getElem?_eq_some_iff.1 hj).1; omega) hj
theorem cancel_ok {num owner : Int} (H : Rb h x X Ls) (hl : Ls.length ≤ 1000000)
    (k1 : ∀ (i : Nat) y, num = (i : Int) + 1 → Ls[i]? = some y → y.fate = 1 → y.it.owner = owner → ∀ h', Rb h' x X (Ls.set i { y with fate := 3 }) → StepF X h X h' → R (.int .i64 0) h')
    (k2 : (∀ (i : Nat) y, num = (i : Int) + 1 → Ls[i]? = some y → y.fate ≠ 1) → R (.int .i64 4) h)
    (k3 : ∀ (i : Nat) y, num = (i : Int) + 1 → Ls[i]? = some y → y.fate = 1 → y.it.owner ≠ owner → R (.int .i64 13) h) : CallsH Try.prog F.ref23_Box_Cancel #[.pointer (some ⟨x, 0, none⟩), .int .i64 num, .int .i64 owner] h R := by
  obtain ⟨lp, lc, xs, H⟩ := H
  have hlen := H.len
  refine ref23_Box_Cancel.walk (JoinP.of fun J hJ => ?_)
  have no : (∀ (i : Nat) y, num = (i : Int) + 1 → Ls[i]? = some y → y.fate ≠ 1) → J true h := fun hh => by
    subst hJ
    exact k2 hh
  by_cases h1 : num < 1
  · simp only [h1, decide_true, if_true]
    exact no (fun i y e _ => by omega)
  simp only [h1, decide_false, Bool.false_eq_true, if_false]
  refine ⟨_, _, _, cell_at H.blk rfl, ?_⟩
  by_cases h2 : num > ((xs.length : Nat) : Int)
  · simp only [h2, decide_true, if_true]
    exact no (fun i y e hy => by have := (List.getElem?_eq_some_iff.1 hy).1; omega)
  simp only [h2, decide_false, Bool.false_eq_true, if_false]
  obtain ⟨i, hi⟩ := Int.eq_ofNat_of_zero_le (a := num - 1) (by omega)
  have wi : IntKind.wrap .i64 (num - 1) = (i : Int) := by rw [wrap_id (by omega) (by omega)]; exact hi
  rw [wi]
  rw [wi] at hJ
  simp only [Int.toNat_natCast] at hJ ⊢
  have hix : i < xs.length := by omega
  have hx : xs[i]? = some xs[i] := List.getElem?_eq_getElem hix
  generalize xs[i] = v at hx
  have hLi : Ls[i]? = some v.abs := by rw [← H.abs, List.getElem?_map, hx]; rfl
  obtain ⟨ab, aoff, rfl⟩ := H.own.addr (by omega)
  have held := H.own.heldAt renc_len hx
  refine ⟨_, _, _, cell_at H.blk rfl, ⟨by first | trivial | omega, by first | trivial | omega⟩, onSome_some.2 ⟨(v.fate : Int), held.2.2.2.2.1, ?_⟩⟩
  by_cases hf : v.fate = 1
  · have : ((v.fate : Int) != 1) = false := by rw [hf]; rfl
    rw [this]
    subst hJ
    simp only [Bool.false_eq_true, if_false]
    refine ⟨_, _, _, cell_at H.blk rfl, ⟨by first | trivial | omega, by first | trivial | omega⟩, onSome_some.2 ⟨v.owner, held.2.1, ?_⟩⟩
    by_cases ho : v.owner = owner
    · rw [if_neg (by rw [ho]; simp)]
      refine ⟨_, _, _, cell_at H.blk rfl, ⟨by first | trivial | omega, by first | trivial | omega⟩, onSome_some.2 (H.fate hLi 3 fun h' B st => ?_)⟩
      exact k1 i _ (by omega) hLi hf ho h' B st
    · rw [if_pos (by simpa using ho)]
      exact k3 i _ (by omega) hLi hf ho
  · have : ((v.fate : Int) != 1) = true := by simp only [bne_iff_ne, ne_eq]; omega
    rw [this]
    refine no (fun j y e hy => ?_)
    obtain rfl : j = i := by omega
    rw [hLi] at hy
    obtain rfl := Option.some.inj hy
    exact hf
end Rbx
end Go.Proofs.Ytlonfpolnmiglaa
