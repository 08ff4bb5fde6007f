/-
  What is proved here: the document's table of registrations (package ref22) in memory: Find, Add, Remove, Policy. No condition.
-/
import Derived.Test.YtgccegnmggjkjaaDoorRegsAll
import Derived.Test.YtgccegnmggjkjaaDoorText
import Derived.Test.YtgccegnmggjkjaaDoorSep
import Derived.Test.YtgccegnmggjkjaaDoorVcW
set_option maxRecDepth 100000
namespace Go.Proofs.YtgccegnmggjkjaaDoor
open Go.Den
namespace Regs
open Eid
variable {h h' : Heap} {R : Value → Heap → Prop} {x : Nat} {Y : Ft} {L L' : List Rg} {p : Option Addr} {c n i : Nat} {r : Rg}
structure Rtm (h : Heap) (x : Nat) (Y : Ft) (L : List Rg) (p : Option Addr) (c : Nat) : Prop where
  blk : h[x]? = some (.cells #[.slice p L.length c] T.ref22_Table (0, 0))
  own : Own h p L.length c 7 (L.flatMap genc)
  m : ∀ y, Y.M y ↔ y = x ∨ inBlk p y
  d : ∀ y, ¬ Y.D y
  bl : ¬ inBlk p x
def Rt (h : Heap) (x : Nat) (Y : Ft) (L : List Rg) : Prop := ∃ p c, Rtm h x Y L p c
theorem Rtm.frame {Q : Nat → Prop} (H : Rtm h x Y L p c) (f : Fr Q h h') (hq : ∀ y, Y.M y ∨ Y.D y → ¬ Q y) : Rtm h' x Y L p c :=
  have hm : ∀ y, Y.M y → ¬ Q y := fun y hy => hq y (.inl hy)
  ⟨f.get H.blk (hm x ((H.m x).2 (.inl rfl))), H.own.frame f (fun y hy => hm y ((H.m y).2 (.inr hy))), H.m, H.d, H.bl⟩
theorem Rtm.on (H : Rtm h x Y L p c) (f : Fr (fun _ => False) h h') : Rtm h' x Y L p c := H.frame f (fun _ _ => id)
theorem Rt.frame {Q : Nat → Prop} (H : Rt h x Y L) (f : Fr Q h h') (hq : ∀ y, Y.M y ∨ Y.D y → ¬ Q y) : Rt h' x Y L := by
  obtain ⟨p, c, H⟩ := H
  exact ⟨p, c, H.frame f hq⟩
theorem Rt.on (H : Rt h x Y L) (f : Fr (fun _ => False) h h') : Rt h' x Y L := H.frame f (fun _ _ => id)
theorem Rt.lt (H : Rt h x Y L) (y : Nat) (hy : Y.M y ∨ Y.D y) : y < h.size := by
  obtain ⟨p, c, H⟩ := H
  rcases hy with hy | hy
  · rcases (H.m y).1 hy with rfl | h1
    · exact lt_of_get H.blk
    · exact H.own.blk_lt h1
  · exact absurd hy (H.d y)
theorem uR : Tryd.prog.underlying T.s_ref22_Reg = some (.slice T.ref22_Reg) := by kernel_rfl
theorem tR : SlTy Tryd.prog T.s_ref22_Reg T.ref22_Reg 7 72 (Rg.zero).val := ⟨by kernel_rfl, by kernel_rfl, rfl⟩
abbrev Rg.rat (h : Heap) (b : Nat) (r : Rg) : Prop := ref22_Reg.at h b r.e.ipn r.e.node r.e.svc r.e.host r.e.dem r.pol r.own
theorem lde {g : Heap} {a : Addr} {K : Bool → Int → Int → ByteArray → ByteArray → Prop} (hh : heldL a (genc r) 0 g) (hk : K r.e.ipn r.e.node r.e.svc r.e.host r.e.dem) : ref04_Eid.LD g a K :=
  ref04_Eid.ldA ⟨hh.1, hh.2.1, hh.2.2.1, hh.2.2.2.1, hh.2.2.2.2.1, trivial⟩ hk
theorem lde0 {g : Heap} {b : Nat} {K : Bool → Int → Int → ByteArray → ByteArray → Prop} (hg : r.rat g b) (hk : K r.e.ipn r.e.node r.e.svc r.e.host r.e.dem) : ref04_Eid.LD g ⟨b, 0, none⟩ K :=
  ⟨_, cell_at hg rfl, _, cell_at hg rfl, _, cell_at hg rfl, _, cell_at hg rfl, _, cell_at hg rfl, hk⟩
/-- another slice is stored -/
theorem Rtm.put {g : Heap} {p' : Option Addr} {c' : Nat} {K : Heap → Prop} (H : Rtm h x Y L p c) (f : Fr (fun _ => False) h g) (hn : n = L'.length) (o : Own g p' n c' 7 (L'.flatMap genc)) (hp : ∀ y, inBlk p' y → h.size ≤ y)
    (hk : ∀ h' Y', Rt h' x Y' L' → StepF Y h Y' h' → K h') : StoreP g ⟨x, 0, none⟩ (.slice p' n c') K := by
  subst hn
  have xl := lt_of_get H.blk
  refine storeP_blk (f.get H.blk id) (by simp) fun h2 a2 s2 o2 => ?_
  have f2 : Fr (fun y => y = x) g h2 := ⟨by omega, fun y _ hn => o2 y hn⟩
  have hx : ¬ inBlk p' x := fun hb => by have := hp x hb; omega
  refine hk h2 ⟨fun y => y = x ∨ inBlk p' y, fun _ => False⟩ ⟨p', c', ⟨a2, o.frame f2 (fun y hy e => hx (e ▸ hy)), fun y => Iff.rfl, fun y => id, hx⟩⟩ ⟨(f.no f2).mono (fun y _ e => (H.m y).2 (.inl e)), ?_, fun y hy => hy.elim, fun y hy => absurd hy (H.d y)⟩
  rintro y (rfl | hy)
  · exact .inl ((H.m _).2 (.inl rfl))
  · exact .inr (hp y hy)
/-! ### plain -/
theorem findR_at (hi : L[i]? = some r) (hno : ∀ j z, j < i → L[j]? = some z → z.e ≠ r.e) : findR L r.e = some r := by
  induction L generalizing i with
  | nil => simp at hi
  | cons y l ih =>
    unfold findR
    cases i with
    | zero => simp at hi; subst hi; simp
    | succ i =>
      have hy : y.e ≠ r.e := hno 0 y (by omega) rfl
      rw [List.find?_cons, decide_eq_false hy]
      exact ih (i := i) (by simpa using hi) (fun j z hj hz => hno (j + 1) z (by omega) (by simpa using hz))
theorem insR_split (r : Rg) : ∀ (L : List Rg) (k : Nat), k ≤ L.length → (∀ z ∈ L.take k, lessE z.e r.e = true) → (∀ z, L[k]? = some z → ¬ lessE z.e r.e = true) → insR r L = L.take k ++ [r] ++ L.drop k
  | [], 0, _, _, _ => rfl
  | [], k + 1, h, _, _ => by simp at h
  | x :: l, 0, _, _, h2 => by
    unfold insR
    rw [if_neg (h2 x rfl)]; rfl
  | x :: l, k + 1, h, h1, h2 => by
    unfold insR
    rw [if_pos (h1 x (by simp)), insR_split r l k (by simpa using h) (fun z hz => h1 z (by simp [hz])) (fun z hz => h2 z (by simpa using hz))]
    simp
theorem rem_split (so : L.Pairwise rless) (hi : L[i]? = some r) : remR L r.e = L.take i ++ L.drop (i + 1) := by
  induction L generalizing i with
  | nil => simp at hi
  | cons y l ih =>
    obtain ⟨h1, h2⟩ := List.pairwise_cons.1 so
    unfold remR
    rw [List.filter_cons]
    cases i with
    | zero =>
      simp at hi
      subst hi
      rw [if_neg (by simp), List.filter_eq_self.2]
      · rfl
      · intro z hz
        have := h1 z hz
        have hne : z.e ≠ y.e := fun e => by rw [rless, e, less_irrefl] at this; cases this
        simp [hne]
    | succ i =>
      have hi' : l[i]? = some r := by simpa using hi
      have := h1 r (List.mem_of_getElem? hi')
      have hne : y.e ≠ r.e := fun e => by rw [rless, e, less_irrefl] at this; cases this
      rw [if_pos (by simp [hne])]
      have e := ih h2 hi'
      unfold remR at e
      rw [e]; rfl
theorem pol_set (so : L.Pairwise rless) (hi : L[i]? = some r) (q : Int) : polR L r.e q = L.set i { r with pol := q } := by
  induction L generalizing i with
  | nil => simp at hi
  | cons y l ih =>
    obtain ⟨h1, h2⟩ := List.pairwise_cons.1 so
    unfold polR
    rw [List.map_cons]
    cases i with
    | zero =>
      simp at hi
      subst hi
      rw [if_pos rfl]
      have : l.map (fun z => if z.e = y.e then ({ z with pol := q } : Rg) else z) = l := by
        conv => rhs; rw [← List.map_id l]
        refine List.map_congr_left fun z hz => ?_
        have := h1 z hz
        have hne : z.e ≠ y.e := fun e => by rw [rless, e, less_irrefl] at this; cases this
        rw [if_neg hne]; rfl
      rw [this]; rfl
    | succ i =>
      have hi' : l[i]? = some r := by simpa using hi
      have := h1 r (List.mem_of_getElem? hi')
      have hne : y.e ≠ r.e := fun e => by rw [rless, e, less_irrefl] at this; cases this
      rw [if_neg hne]
      have e := ih h2 hi'
      unfold polR at e
      rw [e]; rfl
theorem genc_flat_set (hi : L[i]? = some r) (q : Int) : (L.flatMap genc).set (i * 7 + 5) (.int .i64 q) = (L.set i { r with pol := q }).flatMap genc := by
  have hil := (List.getElem?_eq_some_iff.1 hi).1
  have hl : (L.flatMap genc).length = L.length * 7 := flat_len genc 7 genc_len L
  refine flat_set genc 7 genc_len L i { r with pol := q } hil _ (by rw [List.length_set]) ?_ ?_
  · intro j hj
    rw [List.getElem?_set_ne]
    intro e0
    subst e0
    rcases hj with hj | hj <;> omega
  · intro j w hj hw
    by_cases e : j = 5
    · subst e
      have hw : some (Value.int .i64 q) = some w := hw
      rw [List.getElem?_set_self (by omega)]; exact hw
    · rw [List.getElem?_set_ne (by omega)]
      refine flat_at genc 7 genc_len L i r hi j w ?_
      match j, hj, e with
      | 0, _, _ => exact hw
      | 1, _, _ => exact hw
      | 2, _, _ => exact hw
      | 3, _, _ => exact hw
      | 4, _, _ => exact hw
      | 6, _, _ => exact hw
/-! ### the calls -/
theorem rfind_ok (H : Rt h x Y L) (e : Ev) (hl : L.length ≤ 1000)
    (k1 : ∀ (i : Nat) r, L[i]? = some r → r.e = e → findR L e = some r → ∀ h', Fr (fun _ => False) h h' → R (.int .i64 (i : Int)) h')
    (k2 : findR L e = none → ∀ h', Fr (fun _ => False) h h' → R (.int .i64 (-1)) h') : CallsH Tryd.prog F.ref22_Table_Find #[.pointer (some ⟨x, 0, none⟩), ev5 e] h R := by
  obtain ⟨p, c, H⟩ := H
  refine ref22_Table_Find.walk (ref04_Eid.box fun b h1 eb hb f1 => ?_)
  have H1 := H.on f1
  refine ⟨fun t g => g = h1 ∧ ∃ k : Nat, t = (k : Int) ∧ k ≤ L.length ∧ ∀ j z, j < k → L[j]? = some z → z.e ≠ e, fun t _ => L.length - t.toNat, ⟨rfl, 0, rfl, by omega, fun j z hj => by omega⟩, ?_⟩
  rintro _ g ⟨rfl, k, rfl, hkn, hno⟩
  refine ⟨_, _, _, cell_at H1.blk rfl, ?_⟩
  by_cases hlt : k < L.length
  · have q1 : (k : Int) < ((L.length : Nat) : Int) := by omega
    simp only [q1, decide_true, if_true, Int.toNat_natCast]
    have hx : L[k]? = some L[k] := List.getElem?_eq_getElem hlt
    generalize L[k] = v at hx
    obtain ⟨ab, aoff, rfl⟩ := H1.own.addr (by omega)
    refine ⟨_, _, _, cell_at H1.blk rfl, ⟨by first | trivial | omega, by first | trivial | omega⟩, onSome_some.2 (lde (H1.own.heldAt genc_len hx) (ref04_Eid.ld hb ⟨_, eqv04' (x := v.e) (y := e) rfl rfl, ?_⟩))⟩
    by_cases hv : v.e = e
    · rw [if_pos (decide_eq_true hv)]
      refine k1 k v hx hv ?_ g f1
      subst hv
      exact findR_at hx hno
    · rw [if_neg (by simpa using hv), wrap_id (by omega) (by omega)]
      refine ⟨⟨by first | trivial | rfl, k + 1, by omega, by omega, fun j z hj hz => ?_⟩, by show L.length - Int.toNat ((k : Int) + 1) < L.length - k; omega⟩
      by_cases ej : j = k
      · subst ej; rw [hx] at hz; obtain rfl := Option.some.inj hz; exact hv
      · exact hno j z (by omega) hz
  · have q1 : ¬ (k : Int) < ((L.length : Nat) : Int) := by omega
    simp only [q1, decide_false, Bool.false_eq_true, if_false]
    refine k2 (findR_none.2 fun z hz => ?_) g f1
    obtain ⟨j, hj⟩ := List.getElem?_of_mem hz
    exact hno j z (by have := (List.getElem?_eq_some_iff.1 hj).1; omega) hj
theorem rask_ok (H : Rt h x Y L) (e : Ev) (owner : Int) (hl : L.length ≤ 1000) (hk : ∀ h', Fr (fun _ => False) h h' → R (.int .i64 (askE L e owner)) h') : CallsH Tryd.prog F.ref22_Table_ask #[.pointer (some ⟨x, 0, none⟩), ev5 e, .int .i64 owner] h R := by
  refine ref22_Table_ask.walk (ref04_Eid.box fun b h1 eb hb f1 => ref04_Eid.ld hb (rfind_ok (H.on f1) e hl (fun i r hi _ hf h2 f2 => ⟨_, rfl, ?_⟩) (fun hf h2 f2 => ⟨_, rfl, ?_⟩)))
  · have K := hk h2 (f1.tt f2)
    unfold askE at K
    rw [hf] at K
    obtain ⟨p, c, H⟩ := H
    have H2 := H.on (f1.tt f2)
    have hil := (List.getElem?_eq_some_iff.1 hi).1
    obtain ⟨ab, aoff, rfl⟩ := H2.own.addr (by omega)
    have held := H2.own.heldAt genc_len hi
    rw [if_neg (by simp)]
    simp only [Int.toNat_natCast]
    refine ⟨_, _, _, cell_at H2.blk rfl, ⟨by omega, by omega⟩, onSome_some.2 ⟨_, held.2.2.2.2.2.2.1, ?_⟩⟩
    by_cases ho : r.own = owner
    · rw [if_neg (by simpa using ho)]
      simp only [ho, if_true] at K; exact K
    · rw [if_pos (by simpa using ho)]
      simp only [ho, if_false] at K; exact K
  · have K := hk h2 (f1.tt f2)
    unfold askE at K
    rw [hf] at K
    rw [if_pos (by decide)]; exact K
theorem rpolicy_ok (H : Rt h x Y L) (so : L.Pairwise rless) (e : Ev) (owner q : Int) (hl : L.length ≤ 1000) (hk : ∀ h', Rt h' x Y (polL L e owner q) → StepF Y h Y h' → R (.int .i64 (polE L e owner q)) h') : CallsH Tryd.prog F.ref22_Table_Policy #[.pointer (some ⟨x, 0, none⟩), ev5 e, .int .i64 owner, .int .i64 q] h R := by
  refine ref22_Table_Policy.walk (ref04_Eid.box fun b h1 eb hb f1 => JoinP.of fun J hJ => ?_)
  have bad : ¬ (0 ≤ q ∧ q ≤ 2) → J true h1 := fun hn => by
    subst hJ
    have e1 : polE L e owner q = 1 := if_neg hn
    have K := hk h1 (by unfold polL; rw [if_neg (by rw [e1]; decide)]; exact H.on f1) (StepF.of_no f1)
    rw [e1] at K
    exact K
  by_cases q1 : q < 0
  · rw [if_pos (decide_eq_true q1)]; exact bad (fun hh => by omega)
  rw [if_neg (by simpa using q1)]
  by_cases q2 : q > 2
  · rw [decide_eq_true q2]; exact bad (fun hh => by omega)
  rw [decide_eq_false q2]
  clear bad
  subst hJ
  dsimp only
  rw [if_neg (by decide)]
  have e1 : polE L e owner q = askE L e owner := if_pos ⟨by omega, by omega⟩
  refine ref04_Eid.ld hb (rask_ok (H.on f1) e owner hl fun h2 f2 => ⟨_, rfl, JoinP.of fun J hJ => ?_⟩)
  have F2 := f1.tt f2
  by_cases ha : askE L e owner = 0
  · rw [if_pos (by rw [ha]; rfl)]
    obtain ⟨p, c, H⟩ := H
    have H2 := H.on F2
    refine ⟨_, _, _, cell_at H2.blk rfl, ref04_Eid.ld (f2.get hb id) (rfind_ok ⟨p, c, H2⟩ e hl (fun i r hi hre hf h3 f3 => ⟨_, rfl, ?_⟩) (fun hf => ?_))⟩
    · have H3 := H2.on f3
      have F3 := F2.tt f3
      have hil := (List.getElem?_eq_some_iff.1 hi).1
      obtain ⟨ab, aoff, rfl⟩ := H3.own.addr (by omega)
      have hln : (L.flatMap genc).length = L.length * 7 := flat_len genc 7 genc_len L
      refine ⟨cell_at H3.blk rfl, ⟨by omega, by omega⟩, onSome_some.2 ?_⟩
      simp only [Int.toNat_natCast]
      rw [add_add]
      refine H3.own.store (by omega) fun h4 o4 s4 ot4 => ?_
      rw [genc_flat_set hi q] at o4
      subst hre
      rw [← pol_set so hi q] at o4
      have fr4 : Fr (inBlk (some ⟨ab, aoff, none⟩)) h3 h4 := ⟨by omega, fun y _ hn => ot4 y hn⟩
      have lp : (polR L r.e q).length = L.length := by unfold polR; rw [List.length_map]
      have K := hk h4 (by
        unfold polL
        rw [if_pos (by rw [e1]; exact ha)]
        exact ⟨_, c, ⟨by rw [lp]; exact fr4.get H3.blk H3.bl, by rw [lp]; exact o4, H3.m, H3.d, H3.bl⟩⟩) ⟨(F3.no fr4).mono (fun y _ hy => (H3.m y).2 (.inr hy)), fun y => .inl, fun y => .inl, fun y => id⟩
      rw [e1] at K
      subst hJ
      exact K
    · unfold askE at ha
      rw [hf] at ha
      cases ha
  · rw [if_neg (by simpa using ha)]
    have K := hk h2 (by unfold polL; rw [if_neg (by rw [e1]; exact ha)]; exact H.on F2) (StepF.of_no F2)
    rw [e1] at K
    subst hJ
    exact K
theorem rremove_ok (H : Rt h x Y L) (so : L.Pairwise rless) (e : Ev) (owner : Int) (hl : L.length ≤ 1000) (hk : ∀ h' Y', Rt h' x Y' (remL L e owner) → StepF Y h Y' h' → R (.int .i64 (askE L e owner)) h') : CallsH Tryd.prog F.ref22_Table_Remove #[.pointer (some ⟨x, 0, none⟩), ev5 e, .int .i64 owner] h R := by
  refine ref22_Table_Remove.walk (ref04_Eid.box fun b h1 eb hb f1 => ref04_Eid.ld hb (rask_ok (H.on f1) e owner hl fun h2 f2 => ⟨_, rfl, ?_⟩))
  have F2 := f1.tt f2
  by_cases ha : askE L e owner = 0
  · rw [if_neg (by simpa using ha)]
    refine ref04_Eid.ld (f2.get hb id) (rfind_ok (H.on F2) e hl (fun i r hi hre hf h3 f3 => ⟨_, rfl, ?_⟩) (fun hf => ?_))
    · obtain ⟨p, c, H⟩ := H
      have F3 := F2.tt f3
      have H3 := H.on F3
      have hil := (List.getElem?_eq_some_iff.1 hi).1
      have hln : (L.flatMap genc).length = L.length * 7 := flat_len genc 7 genc_len L
      have hcap := H3.own.le
      have hw : IntKind.wrap .i64 ((i : Int) + 1) = ((i + 1 : Nat) : Int) := by rw [wrap_id (by omega) (by omega)]; omega
      rw [hw]
      simp only [Int.toNat_natCast]
      refine ⟨_, _, _, cell_at H3.blk rfl, ⟨by omega, by omega⟩, ?_⟩
      have s1 : Row h3 (slBase p c 0 7) ((L.take i).flatMap genc) := by
        have := H3.own.row'.sub (cap := c) (l := 0) (u := i) (sz := 7) (by omega) (by omega)
        rw [Nat.zero_mul, List.drop_zero, flat_take genc 7 genc_len] at this
        exact this
      have l1 : ((L.take i).flatMap genc).length = (i - 0) * 7 := by rw [flat_len genc 7 genc_len, List.length_take]; congr 1; omega
      refine den_append (cs := []) tR uR (.nil rfl rfl rfl rfl) s1 l1 (genc_ones _) (by omega) (by omega) fun p4 c4 h4 o4 _ f4 g4 => ⟨_, _, _, rfl, ?_⟩
      have f4 : Fr (fun _ => False) h3 h4 := f4.mono (fun y _ ⟨a, ea, _⟩ => by cases ea)
      have F4 := F3.tt f4
      have H4 := H.on F4
      refine ⟨_, _, _, cell_at H4.blk rfl, ⟨by omega, by omega⟩, ?_⟩
      have s2 : Row h4 (slBase p c (i + 1) 7) ((L.drop (i + 1)).flatMap genc) := by
        have := H4.own.row'.sub (cap := c) (l := i + 1) (u := L.length) (sz := 7) (by omega) (by omega)
        rw [List.take_of_length_le (by omega), flat_drop genc 7 genc_len] at this
        exact this
      have l2 : ((L.drop (i + 1)).flatMap genc).length = (L.length - (i + 1)) * 7 := by rw [flat_len genc 7 genc_len, List.length_drop]
      have new4 : ∀ y, inBlk p4 y → h3.size ≤ y := fun y hy => (g4 y hy).elim (fun ⟨a, ea, _⟩ => by cases ea) id
      refine den_append tR uR o4 s2 l2 (genc_ones _) (by omega) (by omega) fun p5 c5 h5 o5 _ f5 g5 => ⟨_, _, _, rfl, ?_⟩
      have z3 := F3.1
      have z4 := F4.1
      have F5 : Fr (fun _ => False) h h5 := F4.fresh f5 (fun y hy => by have := new4 y hy; omega)
      rw [List.nil_append, ← List.flatMap_append] at o5
      subst hre
      rw [← rem_split so hi] at o5
      have ln : (0 + (i - 0) + (L.length - (i + 1))) = (remR L r.e).length := by rw [rem_split so hi, List.length_append, List.length_take, List.length_drop]; omega
      refine H.put F5 ln o5 (fun y hy => (g5 y hy).elim (fun h1 => by have := new4 y h1; omega) (fun h1 => by omega)) fun h6 Y' H6 st => ?_
      refine hk h6 Y' ?_ st
      unfold remL
      rw [if_pos ha]; exact H6
    · unfold askE at ha
      rw [hf] at ha
      cases ha
  · rw [if_pos (by simpa using ha)]
    exact hk h2 Y (by unfold remL; rw [if_neg ha]; exact H.on F2) (StepF.of_no F2)
theorem radd_ok (H : Rt h x Y L) (r : Rg) (hl : L.length ≤ 8) (hk : ∀ h' Y', Rt h' x Y' (addL L r) → StepF Y h Y' h' → R (.int .i64 (addE L r)) h') : CallsH Tryd.prog F.ref22_Table_Add #[.pointer (some ⟨x, 0, none⟩), r.val] h R := by
  refine ref22_Table_Add.walk (ref22_Reg.box fun b h1 eb hb f1 => JoinP.of fun J hJ => lde0 hb (rkind_ok r.e fun h2 f2 => ⟨_, rfl, ?_⟩))
  have F2 := f1.tt f2
  have hb2 : r.rat h2 b := f2.get hb id
  have bad : rightR r = false → J true h2 := fun hn => by
    subst hJ
    have e1 : addE L r = 1 := by unfold addE; rw [if_pos hn]
    have K := hk h2 Y (by unfold addL; rw [if_neg (by rw [e1]; decide)]; exact H.on F2) (StepF.of_no F2)
    rw [e1] at K
    exact K
  have rr : rightR r = true ↔ (rightE r.e = true ∧ r.e ≠ .zero) ∧ 0 ≤ r.pol ∧ r.pol ≤ 2 ∧ 1 ≤ r.own ∧ r.own ≤ 1099511627776 := by
    unfold rightR
    simp only [Bool.and_eq_true, Bool.not_eq_true', decide_eq_true_eq, decide_eq_false_iff_not]
    constructor
    · rintro ⟨h1, h2, ⟨h3, h4⟩, h5, h6⟩; exact ⟨⟨h1, h2⟩, h3, h4, h5, h6⟩
    · rintro ⟨⟨h1, h2⟩, h3, h4, h5, h6⟩; exact ⟨h1, h2, ⟨h3, h4⟩, h5, h6⟩
  have bad' : ¬ ((rightE r.e = true ∧ r.e ≠ .zero) ∧ 0 ≤ r.pol ∧ r.pol ≤ 2 ∧ 1 ≤ r.own ∧ r.own ≤ 1099511627776) → J true h2 := fun hn => bad (by
    cases hq : rightR r with
    | false => rfl
    | true => exact absurd (rr.1 hq) hn)
  by_cases q0 : kindE r.e < 1
  · rw [if_pos (decide_eq_true q0)]; exact bad' (fun hh => kind_lt.1 q0 hh.1)
  rw [if_neg (by simpa using q0)]
  have q0' : rightE r.e = true ∧ r.e ≠ .zero := Classical.byContradiction fun hn => q0 (kind_lt.2 hn)
  refine ⟨_, cell_at hb2 rfl, ?_⟩
  by_cases q1 : r.pol < 0
  · rw [if_pos (decide_eq_true q1)]; exact bad' (fun hh => by have := hh.2; omega)
  rw [if_neg (by simpa using q1)]
  refine ⟨_, cell_at hb2 rfl, ?_⟩
  by_cases q2 : r.pol > 2
  · rw [if_pos (decide_eq_true q2)]; exact bad' (fun hh => by have := hh.2; omega)
  rw [if_neg (by simpa using q2)]
  refine ⟨_, cell_at hb2 rfl, ?_⟩
  by_cases q3 : r.own < 1
  · rw [if_pos (decide_eq_true q3)]; exact bad' (fun hh => by have := hh.2; omega)
  rw [if_neg (by simpa using q3)]
  refine ⟨_, cell_at hb2 rfl, ?_⟩
  by_cases q4 : r.own > 1099511627776
  · rw [decide_eq_true q4]; exact bad' (fun hh => by have := hh.2; omega)
  rw [decide_eq_false q4]
  clear bad bad'
  subst hJ
  dsimp only
  rw [if_neg (by decide)]
  have hright : rightR r = true := rr.2 ⟨q0', by omega, by omega, by omega, by omega⟩
  refine lde0 hb2 (rfind_ok (H.on F2) r.e (by omega) (fun i z hi hze hf h3 f3 => ⟨_, rfl, ?_⟩) (fun hf h3 f3 => ⟨_, rfl, ?_⟩))
  · rw [if_pos (by simp)]
    have e1 : addE L r = 11 := by unfold addE; rw [hright, hf]; simp
    have K := hk h3 Y (by unfold addL; rw [if_neg (by rw [e1]; decide)]; exact H.on (F2.tt f3)) (StepF.of_no (F2.tt f3))
    rw [e1] at K; exact K
  rw [if_neg (by decide)]
  have F3 := F2.tt f3
  obtain ⟨p, c, H⟩ := H
  have H3 := H.on F3
  have hb3 : r.rat h3 b := f3.get hb2 id
  refine ⟨_, _, _, cell_at H3.blk rfl, ?_⟩
  by_cases q5 : L.length ≥ 8
  · have : ((L.length : Nat) : Int) ≥ 8 := by omega
    rw [if_pos (decide_eq_true this)]
    have e1 : addE L r = 15 := by unfold addE; rw [hright, hf]; simp [q5]
    have K := hk h3 Y (by unfold addL; rw [if_neg (by rw [e1]; decide)]; exact ⟨p, c, H3⟩) (StepF.of_no F3)
    rw [e1] at K; exact K
  have : ¬ ((L.length : Nat) : Int) ≥ 8 := by omega
  rw [if_neg (by simpa using this)]
  have e1 : addE L r = 0 := by unfold addE; rw [hright, hf]; simp [q5]
  have eL : addL L r = insR r L := by unfold addL; rw [if_pos e1]
  rw [e1, eL] at hk
  have hcap := H3.own.le
  have hln : (L.flatMap genc).length = L.length * 7 := flat_len genc 7 genc_len L
  refine ⟨fun lp ll lc t g => ∃ k : Nat, t = (k : Int) ∧ k ≤ L.length ∧ k = ll ∧ Own g lp ll lc 7 ((L.take k).flatMap genc) ∧ (∀ y, inBlk lp y → h3.size ≤ y) ∧ Fr (fun _ => False) h3 g ∧ ∀ z ∈ L.take k, lessE z.e r.e = true, fun _ _ _ t _ => L.length - t.toNat, ⟨0, rfl, by omega, rfl, .nil rfl rfl rfl rfl, (fun y ⟨a, e, _⟩ => by cases e), Fr.refl _ _, by simp⟩, ?_⟩
  rintro lp ll lc _ g ⟨k, rfl, hkn, rfl, o, hop, fg, hall⟩
  have Hg := H3.on fg
  have hbg : r.rat g b := fg.get hb3 id
  refine JoinP.of fun J hJ => ⟨_, _, _, cell_at Hg.blk rfl, ?_⟩
  have stop : (∀ z, L[k]? = some z → ¬ lessE z.e r.e = true) → ∀ g', Fr (fun _ => False) g g' → J false g' := fun hst g' fg' => by
    subst hJ
    dsimp only
    rw [if_neg (by decide)]
    have o' := o.frame fg' (fun _ _ => id)
    refine ref22_Reg.ld (fg'.get hbg id) (den_append1 tR uR o' rfl (fun v hv => genc_one r v (by simpa using hv)) (by omega) (by omega) fun p5 c5 h5 o5 f5 g5 => ⟨_, _, _, rfl, ?_⟩)
    have Fg' := fg.tt fg'
    have z1 := Fg'.1
    have F5 : Fr (fun _ => False) h3 h5 := Fg'.fresh f5 hop
    have new5 : ∀ y, inBlk p5 y → h3.size ≤ y := fun y hy => (g5 y hy).elim (hop y) (fun h1 => by omega)
    have H5 := H3.on F5
    refine ⟨_, _, _, cell_at H5.blk rfl, ⟨by omega, by omega⟩, ?_⟩
    simp only [Int.toNat_natCast]
    have s2 : Row h5 (slBase p c k 7) ((L.drop k).flatMap genc) := by
      have := H5.own.row'.sub (cap := c) (l := k) (u := L.length) (sz := 7) (by omega) (by omega)
      rw [List.take_of_length_le (by omega), flat_drop genc 7 genc_len] at this
      exact this
    have l2 : ((L.drop k).flatMap genc).length = (L.length - k) * 7 := by rw [flat_len genc 7 genc_len, List.length_drop]
    refine den_append tR uR o5 s2 l2 (genc_ones _) (by omega) (by omega) fun p6 c6 h6 o6 _ f6 g6 => ⟨_, _, _, rfl, ?_⟩
    have z5 := F5.1
    have F6 : Fr (fun _ => False) h3 h6 := F5.fresh f6 new5
    have cat : (L.take k).flatMap genc ++ ([.bool r.e.ipn, .int .u64 r.e.node, .int .u64 r.e.svc, .string r.e.host, .string r.e.dem, .int .i64 r.pol, .int .i64 r.own] : List Value) ++ (L.drop k).flatMap genc = (insR r L).flatMap genc := by
      rw [insR_split r L k hkn hall hst, List.flatMap_append, List.flatMap_append]; simp
    have o6 : Own h6 p6 _ c6 7 ((L.take k).flatMap genc ++ ([.bool r.e.ipn, .int .u64 r.e.node, .int .u64 r.e.svc, .string r.e.host, .string r.e.dem, .int .i64 r.pol, .int .i64 r.own] : List Value) ++ (L.drop k).flatMap genc) := o6
    rw [cat] at o6
    have z3 := F3.1
    refine H.put (F3.tt F6) (by rw [insR_len]; omega) o6 (fun y hy => by
      rcases g6 y hy with h1 | h1
      · have := new5 y h1; omega
      · omega) fun h7 Y' H7 st => hk h7 Y' H7 st
  by_cases hlt : k < L.length
  · have q6 : (k : Int) < ((L.length : Nat) : Int) := by omega
    simp only [q6, decide_true, if_true, Int.toNat_natCast]
    have hx : L[k]? = some L[k] := List.getElem?_eq_getElem hlt
    generalize L[k] = v at hx
    obtain ⟨ab, aoff, rfl⟩ := Hg.own.addr (by omega)
    refine ⟨_, _, _, cell_at Hg.blk rfl, ⟨by first | trivial | omega, by first | trivial | omega⟩, onSome_some.2 (lde (Hg.own.heldAt genc_len hx) (lde0 hbg (rless_ok v.e r.e fun g2 f2' => ⟨_, rfl, cell_at (Hg.on f2').blk rfl, cell_at (Hg.on f2').blk rfl, ?_⟩)))⟩
    by_cases hv : lessE v.e r.e = true
    · rw [hv]
      clear stop
      subst hJ
      dsimp only
      rw [if_pos rfl]
      have Hg2 := Hg.on f2'
      simp only [Int.toNat_natCast]
      refine ⟨_, _, _, cell_at Hg2.blk rfl, ⟨by first | trivial | omega, by first | trivial | omega⟩, onSome_some.2 (ref22_Reg.ldA (Hg2.own.heldAt genc_len hx) ?_)⟩
      refine den_append1 tR uR (o.frame f2' (fun _ _ => id)) rfl (fun w hw => genc_one v w (by simpa using hw)) (by omega) (by omega) fun p5 c5 h5 o5 f5 g5 => ⟨_, _, _, rfl, ?_⟩
      have Fg2 := fg.tt f2'
      have z1 := Fg2.1
      rw [wrap_id (by omega) (by omega)]
      refine ⟨⟨k + 1, by omega, by omega, rfl, ?_, fun y hy => (g5 y hy).elim (hop y) (fun h1 => by omega), Fg2.fresh f5 hop, ?_⟩, by show L.length - Int.toNat ((k : Int) + 1) < L.length - k; omega⟩
      · rw [List.take_add_one, hx, List.flatMap_append]
        simpa using o5
      · intro z hz
        rw [List.take_add_one, hx] at hz
        rcases List.mem_append.1 hz with hz | hz
        · exact hall z hz
        · simp at hz; subst hz; exact hv
    · have hv' : lessE v.e r.e = false := by simpa using hv
      rw [hv']
      refine stop (fun z hz => ?_) g2 f2'
      rw [hx] at hz
      obtain rfl := Option.some.inj hz
      exact hv
  · have q6 : ¬ (k : Int) < ((L.length : Nat) : Int) := by omega
    simp only [q6, decide_false, Bool.false_eq_true, if_false]
    refine stop (fun z hz => ?_) g (Fr.refl _ _)
    have := (List.getElem?_eq_some_iff.1 hz).1
    omega
end Regs
end Go.Proofs.YtgccegnmggjkjaaDoor
