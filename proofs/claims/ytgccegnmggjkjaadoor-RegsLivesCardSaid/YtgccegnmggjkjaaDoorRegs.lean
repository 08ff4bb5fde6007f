/-
  What is proved here: a table of registrations in memory, and what the calls of package regs do with it. No condition.
-/
import Derived.Test.YtgccegnmggjkjaaDoorEidC
import Derived.Test.YtgccegnmggjkjaaDoorSep
import Derived.Test.YtgccegnmggjkjaaDoorVcR
set_option maxRecDepth 100000
namespace Go.Proofs.YtgccegnmggjkjaaDoor
open Go.Den
namespace Regs
open Eid
variable {h h' : Heap} {R : Value → Heap → Prop} {b : Nat} {X : Ft}

structure Rg where
  e : Ev
  pol : Int
  own : Int
abbrev Rg.zero : Rg := ⟨.zero, 0, 0⟩
abbrev Rg.val (r : Rg) : Value := .agg #[.bool r.e.ipn, .int .u64 r.e.node, .int .u64 r.e.svc, .string r.e.host, .string r.e.dem, .int .i64 r.pol, .int .i64 r.own]
abbrev Rg.at (h : Heap) (b : Nat) (r : Rg) : Prop := regs_Reg.at h b r.e.ipn r.e.node r.e.svc r.e.host r.e.dem r.pol r.own
abbrev genc (r : Rg) : List Value := [.bool r.e.ipn, .int .u64 r.e.node, .int .u64 r.e.svc, .string r.e.host, .string r.e.dem, .int .i64 r.pol, .int .i64 r.own]
theorem genc_len (r : Rg) : (genc r).length = 7 := rfl
abbrev Rg.pair (r : Rg) : Ev × Value := (r.e, r.val)
abbrev rless (x y : Rg) : Prop := lessE x.e y.e = true
theorem mapTy : MapKy Tryd.prog T.m_eid_Eid_regs_Reg ev5 Rg.zero.val := MapKy.of T.eid_Eid T.regs_Reg (by kernel_rfl) key (by kernel_rfl)
structure Tbm (h : Heap) (b : Nat) (X : Ft) (L : List Rg) (m : Nat) : Prop where
  blk : h[b]? = some (.cells #[.map (some m)] T.regs_Table (0, 0))
  map : MapP h m ev5 (L.map Rg.pair)
  fm : ∀ c, X.M c ↔ c = b ∨ c = m
  d : ∀ c, ¬ X.D c
  ne : b ≠ m
  so : L.Pairwise rless
def Tb (h : Heap) (b : Nat) (X : Ft) (L : List Rg) : Prop := ∃ m, Tbm h b X L m
variable {L : List Rg} {m : Nat}
theorem Tbm.frame {Q : Nat → Prop} (H : Tbm h b X L m) (f : Fr Q h h') (hq : ∀ y, X.M y ∨ X.D y → ¬ Q y) : Tbm h' b X L m :=
  ⟨f.get H.blk (hq b (.inl ((H.fm b).2 (.inl rfl)))), H.map.frame f (hq m (.inl ((H.fm m).2 (.inr rfl)))), H.fm, H.d, H.ne, H.so⟩
theorem Tbm.on (H : Tbm h b X L m) (f : Fr (fun _ => False) h h') : Tbm h' b X L m := H.frame f (fun _ _ => id)
theorem Tb.frame {Q : Nat → Prop} (H : Tb h b X L) (f : Fr Q h h') (hq : ∀ y, X.M y ∨ X.D y → ¬ Q y) : Tb h' b X L := by
  obtain ⟨m, H⟩ := H; exact ⟨m, H.frame f hq⟩
theorem Tb.on (H : Tb h b X L) (f : Fr (fun _ => False) h h') : Tb h' b X L := H.frame f (fun _ _ => id)
theorem Tb.lt (H : Tb h b X L) (y : Nat) (hy : X.M y ∨ X.D y) : y < h.size := by
  obtain ⟨m, H⟩ := H
  rcases hy with hy | hy
  · rcases (H.fm y).1 hy with rfl | rfl
    · exact lt_of_get H.blk
    · exact H.map.lt
  · exact absurd hy (H.d y)

/-! ### plain -/
def findR (L : List Rg) (x : Ev) : Option Rg := L.find? (fun r => decide (r.e = x))
theorem findR_some {x : Ev} {r : Rg} (h : findR L x = some r) : r ∈ L ∧ r.e = x := ⟨List.mem_of_find?_eq_some h, by simpa using List.find?_some h⟩
theorem findR_none {x : Ev} : findR L x = none ↔ ∀ r ∈ L, r.e ≠ x := by unfold findR; simp
theorem gget_find (L : List Rg) (x : Ev) : gget (L.map Rg.pair) x = (findR L x).map Rg.val := by
  unfold gget findR
  rw [List.find?_map]
  cases h : L.find? ((fun e : Ev × Value => decide (e.1 = x)) ∘ Rg.pair) with
  | none => have : L.find? (fun r => decide (r.e = x)) = none := h; rw [this]; rfl
  | some r => have : L.find? (fun r => decide (r.e = x)) = some r := h; rw [this]; rfl
def insR (r : Rg) : List Rg → List Rg
  | [] => [r]
  | x :: l => if lessE x.e r.e = true then x :: insR r l else r :: x :: l
theorem insR_perm (r : Rg) : ∀ L : List Rg, (insR r L).Perm (r :: L)
  | [] => .refl _
  | x :: l => by
    unfold insR
    split
    · exact ((insR_perm r l).cons x).trans (List.Perm.swap r x l)
    · exact .refl _
theorem insR_mem {r x : Rg} : x ∈ insR r L ↔ x = r ∨ x ∈ L := by rw [(insR_perm r L).mem_iff, List.mem_cons]
theorem insR_len (r : Rg) (L : List Rg) : (insR r L).length = L.length + 1 := by rw [(insR_perm r L).length_eq]; rfl
theorem insR_so {r : Rg} : ∀ {L : List Rg}, L.Pairwise rless → (∀ x ∈ L, x.e ≠ r.e) → (insR r L).Pairwise rless
  | [], _, _ => List.pairwise_singleton _ _
  | x :: l, h, hn => by
    obtain ⟨h1, h2⟩ := List.pairwise_cons.1 h
    unfold insR
    split
    · rename_i hx
      refine List.pairwise_cons.2 ⟨fun y hy => ?_, insR_so h2 (fun y hy => hn y (List.mem_cons_of_mem _ hy))⟩
      rcases insR_mem.1 hy with rfl | hy
      · exact hx
      · exact h1 y hy
    · rename_i hx
      have hrx : lessE r.e x.e = true := (less_total (hn x (by simp))).resolve_left hx
      refine List.pairwise_cons.2 ⟨fun y hy => ?_, h⟩
      rcases List.mem_cons.1 hy with rfl | hy
      · exact hrx
      · exact less_trans hrx (h1 y hy)
def remR (L : List Rg) (x : Ev) : List Rg := L.filter (fun r => !decide (r.e = x))
def polR (L : List Rg) (x : Ev) (p : Int) : List Rg := L.map (fun r => if r.e = x then { r with pol := p } else r)
def rightR (r : Rg) : Bool := rightE r.e && (!decide (r.e = Ev.zero) && (decide (r.pol ≥ 0) && decide (r.pol ≤ 2) && (decide (r.own ≥ 1) && decide (r.own ≤ 1099511627776))))
def addE (L : List Rg) (r : Rg) : Int := if rightR r = false then 1 else if (findR L r.e).isSome = true then 11 else if L.length ≥ 8 then 15 else 0
def addL (L : List Rg) (r : Rg) : List Rg := if addE L r = 0 then insR r L else L
def askE (L : List Rg) (x : Ev) (owner : Int) : Int := match findR L x with | none => 4 | some r => if r.own = owner then 0 else 13
def remL (L : List Rg) (x : Ev) (owner : Int) : List Rg := if askE L x owner = 0 then remR L x else L
def polE (L : List Rg) (x : Ev) (owner p : Int) : Int := if 0 ≤ p ∧ p ≤ 2 then askE L x owner else 1
def polL (L : List Rg) (x : Ev) (owner p : Int) : List Rg := if polE L x owner p = 0 then polR L x p else L
theorem addE_cases (L : List Rg) (r : Rg) : (rightR r = false ∧ addE L r = 1) ∨ (rightR r = true ∧ (findR L r.e).isSome = true ∧ addE L r = 11) ∨ (rightR r = true ∧ findR L r.e = none ∧ L.length ≥ 8 ∧ addE L r = 15) ∨ (rightR r = true ∧ findR L r.e = none ∧ L.length < 8 ∧ addE L r = 0) := by
  unfold addE
  cases h1 : rightR r with
  | false => exact .inl ⟨rfl, by simp⟩
  | true =>
    cases h2 : findR L r.e with
    | some x => exact .inr (.inl ⟨rfl, rfl, by simp⟩)
    | none =>
      by_cases h3 : L.length ≥ 8
      · exact .inr (.inr (.inl ⟨rfl, rfl, h3, by simp [h3]⟩))
      · exact .inr (.inr (.inr ⟨rfl, rfl, by omega, by simp [h3]⟩))

/-! ### the calls -/
theorem made_ok (H : Tbm h b X L m) (hk : R (.bool true) h) : CallsH Tryd.prog F.regs_Table_made #[.pointer (some ⟨b, 0, none⟩)] h R := regs_Table_made.walk ⟨_, cell_at H.blk rfl, hk⟩
theorem new_ok (hk : ∀ h' b X, Tb h' b X [] → UpF h X h' → R (.pointer (some ⟨b, 0, none⟩)) h') : CallsH Tryd.prog F.regs_New #[] h R := by
  refine regs_New.walk (newP_of (newP_of ?_))
  have f1 : Fr (fun _ => False) h (h.push (.map #[] 0)) := Fr.push _ _
  have M1 := MapP.push (α := Ev) h ev5
  have z1 : (h.push (.map #[] 0)).size = h.size + 1 := Array.size_push _
  generalize h.push (.map #[] 0) = h1 at f1 M1 z1 ⊢
  have f2 : Fr (fun _ => False) h1 (h1.push (.cells #[.map (some h.size)] T.regs_Table)) := Fr.push _ _
  refine hk _ h1.size ⟨fun c => c = h1.size ∨ c = h.size, fun _ => False⟩ ⟨h.size, push_new, M1.frame f2 id, fun c => Iff.rfl, fun _ => id, by omega, .nil⟩ ⟨f1.tt f2, fun c hc => ?_⟩
  rcases hc with hc | hc
  · rcases hc with rfl | rfl <;> omega
  · exact hc.elim
theorem isPolicy_ok {n : Int} (hk : R (.bool (decide (n ≥ 0) && decide (n ≤ 2))) h) : CallsH Tryd.prog F.regs_isPolicy #[.int .i64 n] h R := by
  refine regs_isPolicy.walk ?_
  unfold regs_isPolicy.vc
  by_cases q : n ≥ 0
  · simp only [q, decide_true, if_true, Bool.true_and] at hk ⊢; exact hk
  · simp only [q, decide_false, Bool.false_eq_true, if_false, Bool.false_and] at hk ⊢; exact hk
theorem right_ok (r : Rg) (hk : ∀ h', Fr (fun _ => False) h h' → R (.bool (rightR r)) h') : CallsH Tryd.prog F.regs_right #[r.val] h R := by
  refine regs_right.walk (regs_Reg.box fun b h1 eb hb f1 => ?_)
  have lde : ∀ {g : Heap} {K : Bool → Int → Int → ByteArray → ByteArray → Prop}, r.at g b → K r.e.ipn r.e.node r.e.svc r.e.host r.e.dem → eid_Eid.LD g ⟨b, 0, none⟩ K := fun hg hk => ⟨_, cell_at hg rfl, _, cell_at hg rfl, _, cell_at hg rfl, _, cell_at hg rfl, _, cell_at hg rfl, hk⟩
  refine lde hb (Eid.right_ok r.e fun h2 f2 => ⟨_, rfl, ?_⟩)
  have hb2 := f2.get hb id
  have K := hk h2 (f1.tt f2)
  unfold rightR at K
  by_cases q0 : rightE r.e = true
  · rw [if_pos q0]
    rw [q0, Bool.true_and] at K
    refine lde hb2 ⟨_, eqv' (y := .zero) (x := r.e) rfl rfl, ?_⟩
    by_cases q1 : r.e = .zero
    · rw [decide_eq_true q1, if_neg (by decide)]
      rw [decide_eq_true q1] at K; exact K
    · rw [decide_eq_false q1, if_pos (by decide)]
      rw [decide_eq_false q1, Bool.not_false, Bool.true_and] at K
      refine ⟨_, cell_at hb2 rfl, isPolicy_ok ⟨_, rfl, ?_⟩⟩
      by_cases q2 : (decide (r.pol ≥ 0) && decide (r.pol ≤ 2)) = true
      · rw [if_pos q2]
        rw [q2, Bool.true_and] at K
        refine ⟨_, cell_at hb2 rfl, ?_⟩
        by_cases q3 : r.own ≥ 1
        · rw [if_pos (decide_eq_true q3)]
          rw [decide_eq_true q3, Bool.true_and] at K
          exact ⟨_, cell_at hb2 rfl, K⟩
        · rw [if_neg (by simpa using q3)]
          rw [decide_eq_false q3, Bool.false_and] at K; exact K
      · rw [if_neg q2]
        have q2 : (decide (r.pol ≥ 0) && decide (r.pol ≤ 2)) = false := by simpa using q2
        rw [q2, Bool.false_and] at K; exact K
  · rw [if_neg q0]
    have q0 : rightE r.e = false := by simpa using q0
    rw [q0, Bool.false_and] at K; exact K
theorem ld_e {g : Heap} {b : Nat} {r : Rg} {K : Bool → Int → Int → ByteArray → ByteArray → Prop} (hg : r.at g b) (hk : K r.e.ipn r.e.node r.e.svc r.e.host r.e.dem) : eid_Eid.LD g ⟨b, 0, none⟩ K :=
  ⟨_, cell_at hg rfl, _, cell_at hg rfl, _, cell_at hg rfl, _, cell_at hg rfl, _, cell_at hg rfl, hk⟩
theorem look (H : Tbm h b X L m) (x : Ev) : LookV Tryd.prog T.m_eid_Eid_regs_Reg (.map (some m)) (ev5 x) true h (.tuple #[((findR L x).getD .zero).val, .bool (findR L x).isSome]) := by
  have := lookV_Pok mapTy H.map x
  rw [gget_find] at this
  cases hf : findR L x with
  | none => rw [hf] at this; exact this
  | some r => rw [hf] at this; exact this
theorem Fr.put {h0 h1 h2 : Heap} {c : Nat} (f : Fr (fun _ => False) h0 h1) (hs : h2.size = h1.size) (ho : ∀ x, x ≠ c → h2[x]? = h1[x]?) (hc : h0.size ≤ c) : Fr (fun _ => False) h0 h2 :=
  f.fresh (S := fun y => y = c) ⟨by omega, fun y _ hn => ho y hn⟩ (fun y e => by omega)
theorem find_ok (H : Tb h b X L) (x : Ev) (hk : ∀ h', Fr (fun _ => False) h h' → R (.tuple #[((findR L x).getD .zero).val, .bool (findR L x).isSome]) h') :
    CallsH Tryd.prog F.regs_Table_Find #[.pointer (some ⟨b, 0, none⟩), ev5 x] h R := by
  obtain ⟨m, H⟩ := H
  refine regs_Table_Find.walk (eid_Eid.box fun b1 h1 e1 hb1 f1 => regs_Reg.box fun b2 h2 e2 hb2 f2 => ?_)
  have f12 := f1.tt f2
  have hb1 := f2.get hb1 id
  have H2 := H.on f12
  refine made_ok H2 ⟨_, rfl, ?_⟩
  rw [if_neg (by decide)]
  refine ⟨_, cell_at H2.blk rfl, eid_Eid.ld hb1 ⟨_, _, _, _, _, _, _, _, look H2 x, regs_Reg.box fun b3 h3 e3 hb3 f3 => ?_⟩⟩
  refine ⟨f3.2 m H2.map.lt id, eid_Eid.held (f3.get hb1 id), cell_at (f3.get H2.blk id) rfl, regs_Reg.set hb3 fun h4 a4 s4 o4 => regs_Reg.ld a4 ?_⟩
  have hb24 : (Rg.zero).at h4 b2 := by
    have := f3.get hb2 id
    have hne : b2 ≠ b3 := by have := lt_of_get hb2; omega
    unfold Rg.at regs_Reg.at
    rw [o4 b2 hne]; exact this
  have z1 := f12.1
  have z3 := f3.1
  refine regs_Reg.set hb24 fun h5 a5 s5 o5 => regs_Reg.ld a5 (hk h5 ?_)
  exact Fr.put (Fr.put (f12.tt f3) s4 o4 (by omega)) s5 o5 (by have := f1.1; omega)
theorem ask_ok (H : Tb h b X L) (x : Ev) (owner : Int) (hk : ∀ h', Fr (fun _ => False) h h' → R (.tuple #[(if askE L x owner = 0 then (findR L x).getD .zero else .zero).val, .int .i64 (askE L x owner)]) h') :
    CallsH Tryd.prog F.regs_Table_ask #[.pointer (some ⟨b, 0, none⟩), ev5 x, .int .i64 owner] h R := by
  obtain ⟨m, H⟩ := H
  refine regs_Table_ask.walk (eid_Eid.box fun b1 h1 e1 hb1 f1 => regs_Reg.box fun b2 h2 e2 hb2 f2 => ?_)
  have f12 := f1.tt f2
  have hb1 := f2.get hb1 id
  have H2 := H.on f12
  refine made_ok H2 ⟨_, rfl, ?_⟩
  rw [if_neg (by decide)]
  refine ⟨_, cell_at H2.blk rfl, eid_Eid.ld hb1 ⟨_, _, _, _, _, _, _, _, look H2 x, regs_Reg.box fun b3 h3 e3 hb3 f3 => ?_⟩⟩
  refine ⟨f3.2 m H2.map.lt id, eid_Eid.held (f3.get hb1 id), cell_at (f3.get H2.blk id) rfl, regs_Reg.set hb3 fun h4 a4 s4 o4 => ?_⟩
  have hb24 : (Rg.zero).at h4 b2 := by
    have := f3.get hb2 id
    have hne : b2 ≠ b3 := by have := lt_of_get hb2; omega
    unfold Rg.at regs_Reg.at
    rw [o4 b2 hne]; exact this
  have z1 := f1.1
  have z2 := f2.1
  have F4 := Fr.put (f12.tt f3) s4 o4 (by omega)
  have fin : ∀ (r : Rg) (e : Int), (if askE L x owner = 0 then (findR L x).getD .zero else .zero) = r → askE L x owner = e → ∀ h5, r.at h5 b2 → h5.size = h4.size → (∀ y, y ≠ b2 → h5[y]? = h4[y]?) → R (.tuple #[r.val, .int .i64 e]) h5 := by
    intro r e e1 e2 h5 _ s5 o5
    rw [← e1, ← e2]
    exact hk h5 (Fr.put F4 s5 o5 (by omega))
  cases hf : findR L x with
  | none =>
    have ea : askE L x owner = 4 := by unfold askE; rw [hf]
    rw [if_pos (by rfl)]
    exact regs_Reg.set hb24 fun h5 a5 s5 o5 => regs_Reg.ld a5 (fin .zero 4 (by rw [ea, if_neg (by decide)]) ea h5 a5 s5 o5)
  | some r =>
    rw [hf] at a4
    rw [if_neg (by simp)]
    refine ⟨_, cell_at a4 rfl, ?_⟩
    by_cases ho : r.own = owner
    · have ea : askE L x owner = 0 := by unfold askE; rw [hf]; exact if_pos ho
      rw [if_neg (by simpa using ho)]
      exact regs_Reg.ld a4 (regs_Reg.set hb24 fun h5 a5 s5 o5 => regs_Reg.ld a5 (fin r 0 (by rw [ea, if_pos rfl, hf]; rfl) ea h5 a5 s5 o5))
    · have ea : askE L x owner = 13 := by unfold askE; rw [hf]; exact if_neg ho
      rw [if_pos (by simpa using ho)]
      exact regs_Reg.set hb24 fun h5 a5 s5 o5 => regs_Reg.ld a5 (fin .zero 13 (by rw [ea, if_neg (by decide)]) ea h5 a5 s5 o5)

/-! ### what changes a table -/
theorem Tbm.put {L' : List Rg} {h1 : Heap} (H : Tbm h b X L m) (M : MapP h1 m ev5 (L'.map Rg.pair)) (hs : h1.size = h.size) (ho : ∀ c, c ≠ m → h1[c]? = h[c]?) (so : L'.Pairwise rless) : Tbm h1 b X L' m ∧ StepF X h X h1 := by
  have f : Fr X.M h h1 := ⟨by omega, fun c _ hn => ho c (fun e => hn ((H.fm c).2 (.inr e)))⟩
  refine ⟨⟨?_, M, H.fm, H.d, H.ne, so⟩, StepF.of_fr f⟩
  rw [ho b H.ne]; exact H.blk
theorem keys_nodup {L : List Rg} (so : L.Pairwise rless) : (L.map Rg.e).Nodup := by
  unfold List.Nodup
  rw [List.pairwise_map]
  refine so.imp fun {x y} hxy e => ?_
  rw [rless, e, less_irrefl] at hxy; cases hxy
theorem gdel_rem (L : List Rg) (x : Ev) : gdel (L.map Rg.pair) x = (remR L x).map Rg.pair := by
  unfold gdel remR
  rw [List.filter_map]; rfl
theorem remR_so {x : Ev} (so : L.Pairwise rless) : (remR L x).Pairwise rless := so.sublist List.filter_sublist
theorem polR_so {x : Ev} {p : Int} (so : L.Pairwise rless) : (polR L x p).Pairwise rless := by
  unfold polR
  rw [List.pairwise_map]
  refine so.imp fun {u v} huv => ?_
  have e : ∀ r : Rg, (if r.e = x then { r with pol := p } else r : Rg).e = r.e := fun r => by split <;> rfl
  show lessE _ _ = true
  rw [e, e]; exact huv
theorem pol_perm {x : Ev} {p : Int} {r : Rg} : ∀ {L : List Rg}, L.Pairwise rless → r ∈ L → r.e = x → (polR L x p).Perm ({ r with pol := p } :: remR L x)
  | [], _, h, _ => by cases h
  | y :: l, so, h, e => by
    obtain ⟨h1, h2⟩ := List.pairwise_cons.1 so
    unfold polR remR
    rw [List.map_cons, List.filter_cons]
    rcases List.mem_cons.1 h with rfl | h
    · rw [if_pos e, if_neg (by simp [e])]
      refine List.Perm.cons _ ?_
      have hne : ∀ z ∈ l, z.e ≠ x := fun z hz e2 => by
        have := h1 z hz
        rw [rless, e, e2, less_irrefl] at this; cases this
      have e1 : l.map (fun r => if r.e = x then ({ r with pol := p } : Rg) else r) = l := by
        conv => rhs; rw [← List.map_id l]
        exact List.map_congr_left (fun z hz => if_neg (hne z hz))
      have e2 : l.filter (fun r => !decide (r.e = x)) = l := by
        rw [List.filter_eq_self]; intro z hz; simp [hne z hz]
      rw [e1, e2]
    · have hy : y.e ≠ x := fun e2 => by
        have := h1 r h
        rw [rless, e, e2, less_irrefl] at this; cases this
      rw [if_neg hy, if_pos (by simp [hy])]
      exact ((pol_perm h2 h e).cons y).trans (List.Perm.swap _ _ _)
theorem add_ok (H : Tb h b X L) (r : Rg) (hl : L.length ≤ 8) (hk : ∀ h', Tb h' b X (addL L r) → StepF X h X h' → R (.int .i64 (addE L r)) h') :
    CallsH Tryd.prog F.regs_Table_Add #[.pointer (some ⟨b, 0, none⟩), r.val] h R := by
  obtain ⟨m, H⟩ := H
  refine regs_Table_Add.walk (regs_Reg.box fun b1 h1 e1 hb1 f1 => ?_)
  have H1 := H.on f1
  refine made_ok H1 ⟨_, rfl, ?_⟩
  rw [if_neg (by decide)]
  refine ⟨_, cell_at H1.blk rfl, ld_e (r := r) hb1 ⟨_, _, _, _, _, _, _, _, look H1 r.e, regs_Reg.box fun b3 h3 e3 hb3 f3 => ?_⟩⟩
  have hb13 := f3.get hb1 id
  refine ⟨f3.2 m H1.map.lt id, heldL_blk hb13 (fun j v hj => ?_), cell_at (f3.get H1.blk id) rfl, regs_Reg.set hb3 fun h4 a4 s4 o4 => ?_⟩
  · rw [Nat.zero_add]
    match j, hj with
    | 0, hj => simpa using hj
    | 1, hj => simpa using hj
    | 2, hj => simpa using hj
    | 3, hj => simpa using hj
    | 4, hj => simpa using hj
  have z1 := f1.1
  have F4 := Fr.put (f1.tt f3) s4 o4 (by omega)
  have hb14 : r.at h4 b1 := by
    have hne : b1 ≠ b3 := by have := lt_of_get hb1; omega
    unfold Rg.at regs_Reg.at
    rw [o4 b1 hne]; exact hb13
  refine regs_Reg.ld hb14 (right_ok r fun h5 f5 => ⟨_, rfl, ?_⟩)
  have F5 := F4.tt f5
  have H5 := H.on F5
  have hb15 := f5.get hb14 id
  have keep : addL L r = L → R (.int .i64 (addE L r)) h5 := fun e => hk h5 (by rw [e]; exact ⟨m, H5⟩) (StepF.of_no F5)
  rcases addE_cases L r with ⟨q1, q2⟩ | ⟨q1, q3, q2⟩ | ⟨q1, q3, q4, q2⟩ | ⟨q1, q3, q4, q2⟩
  · rw [q1, if_pos (by decide)]
    rw [q2] at keep
    exact keep (by unfold addL; rw [q2]; rfl)
  · rw [q1, if_neg (by decide), if_pos q3]
    rw [q2] at keep
    exact keep (by unfold addL; rw [q2]; rfl)
  · rw [q1, if_neg (by decide), if_neg (by rw [q3]; simp)]
    refine ⟨_, cell_at H5.blk rfl, _, lenV_P mapTy H5.map, ?_⟩
    rw [List.length_map, if_pos (decide_eq_true (by omega))]
    rw [q2] at keep
    exact keep (by unfold addL; rw [q2]; rfl)
  · rw [q1, if_neg (by decide), if_neg (by rw [q3]; simp)]
    refine ⟨_, cell_at H5.blk rfl, _, lenV_P mapTy H5.map, ?_⟩
    rw [List.length_map, if_neg (by simp; omega)]
    refine ⟨_, cell_at H5.blk rfl, ld_e (r := r) hb15 (regs_Reg.ld hb15 (den_putP mapTy H5.map (k := r.e) fun h6 M6 s6 o6 => ?_))⟩
    have eL : addL L r = insR r L := if_pos q2
    have hno := findR_none.1 q3
    have M6 : MapP h6 m ev5 ((insR r L).map Rg.pair) := by
      refine M6.perm ?_
      unfold gput
      rw [gdel_none (fun e he => by obtain ⟨y, hy, rfl⟩ := List.mem_map.1 he; exact hno y hy)]
      exact ((insR_perm r L).map Rg.pair).symm
    obtain ⟨H6, st⟩ := H5.put M6 s6 o6 (insR_so H5.so hno)
    rw [eL, q2] at hk
    exact hk h6 ⟨m, H6⟩ (StepF.no F5 st)
theorem remove_ok (H : Tb h b X L) (x : Ev) (owner : Int) (hk : ∀ h', Tb h' b X (remL L x owner) → StepF X h X h' → R (.int .i64 (askE L x owner)) h') :
    CallsH Tryd.prog F.regs_Table_Remove #[.pointer (some ⟨b, 0, none⟩), ev5 x, .int .i64 owner] h R := by
  refine regs_Table_Remove.walk (eid_Eid.box fun b1 h1 e1 hb1 f1 => eid_Eid.ld hb1 (ask_ok (H.on f1) x owner fun h2 f2 => ⟨_, _, _, _, _, _, _, _, rfl, regs_Reg.new fun b3 h3 e3 hb3 f3 => JoinP.of fun J hJ => ?_⟩))
  have F3 := f1.tt (f2.tt f3)
  have hb13 := (f2.tt f3).get hb1 id
  obtain ⟨m, H⟩ := H
  have H3 := H.on F3
  by_cases q : askE L x owner = 0
  · rw [if_pos (by simpa using q)]
    refine ⟨_, cell_at H3.blk rfl, eid_Eid.ld hb13 (den_delP mapTy H3.map (k := x) fun h4 M4 s4 o4 => ⟨rfl, ?_⟩)⟩
    subst hJ
    rw [gdel_rem] at M4
    obtain ⟨H4, st⟩ := H3.put M4 s4 o4 (remR_so H3.so)
    exact hk h4 (by unfold remL; rw [if_pos q]; exact ⟨m, H4⟩) (StepF.no F3 st)
  · rw [if_neg (by simpa using q)]
    subst hJ
    exact hk h3 (by unfold remL; rw [if_neg q]; exact ⟨m, H3⟩) (StepF.of_no F3)
theorem policy_ok (H : Tb h b X L) (x : Ev) (owner p : Int) (hk : ∀ h', Tb h' b X (polL L x owner p) → StepF X h X h' → R (.int .i64 (polE L x owner p)) h') :
    CallsH Tryd.prog F.regs_Table_Policy #[.pointer (some ⟨b, 0, none⟩), ev5 x, .int .i64 owner, .int .i64 p] h R := by
  refine regs_Table_Policy.walk (eid_Eid.box fun b1 h1 e1 hb1 f1 => JoinP.of fun J hJ => ?_)
  have H0 := H
  obtain ⟨m, H⟩ := H
  have H1 := H.on f1
  refine made_ok H1 ⟨_, rfl, ?_⟩
  rw [if_pos rfl]
  refine isPolicy_ok ⟨_, rfl, ?_⟩
  subst hJ
  by_cases q0 : 0 ≤ p ∧ p ≤ 2
  · have e0 : (decide (p ≥ 0) && decide (p ≤ 2)) = true := by simp [q0.1, q0.2]
    have eE : polE L x owner p = askE L x owner := if_pos q0
    rw [e0]
    dsimp only
    rw [if_neg (by decide)]
    refine eid_Eid.ld hb1 (ask_ok (H0.on f1) x owner fun h2 f2 => ⟨_, _, _, _, _, _, _, _, rfl, regs_Reg.new fun b3 h3 e3 hb3 f3 => JoinP.of fun J hJ => ?_⟩)
    have F3 := f1.tt (f2.tt f3)
    have hb13 := (f2.tt f3).get hb1 id
    have H3 := H.on F3
    rw [eE] at hk
    by_cases q : askE L x owner = 0
    · rw [if_pos (by simpa using q)]
      obtain ⟨r, hr⟩ : ∃ r, findR L x = some r := by
        cases hf : findR L x with
        | none => unfold askE at q; rw [hf] at q; cases q
        | some r => exact ⟨r, rfl⟩
      rw [if_pos q, hr] at hb3
      obtain ⟨hrm, hre⟩ := findR_some hr
      refine storeP_blk hb3 (by simp) fun h4 a4 s4 o4 => ?_
      have z1 := f1.1
      have z2 := f2.1
      have F4 := Fr.put F3 s4 o4 (by omega)
      have H4 := H.on F4
      have hb14 : Ev.at h4 b1 x := by
        have hne : b1 ≠ b3 := by have := lt_of_get hb1; omega
        unfold Ev.at eid_Eid.at
        rw [o4 b1 hne]; exact hb13
      have a4 : ({ r with pol := p } : Rg).at h4 b3 := a4
      refine ⟨_, cell_at H4.blk rfl, eid_Eid.ld hb14 (regs_Reg.ld a4 (den_putP mapTy H4.map (k := x) fun h5 M5 s5 o5 => ?_))⟩
      have M5 : MapP h5 m ev5 ((polR L x p).map Rg.pair) := by
        refine M5.perm ?_
        unfold gput
        rw [gdel_rem]
        have := ((pol_perm (p := p) H.so hrm hre).map Rg.pair).symm
        rw [List.map_cons] at this
        have e2 : (x, ({ r with pol := p } : Rg).val) = ({ r with pol := p } : Rg).pair := by rw [← hre]
        rw [show ((x, Value.agg #[.bool r.e.ipn, .int .u64 r.e.node, .int .u64 r.e.svc, .string r.e.host, .string r.e.dem, .int .i64 p, .int .i64 r.own]) : Ev × Value) = ({ r with pol := p } : Rg).pair from e2]
        exact this
      obtain ⟨H5, st⟩ := H4.put M5 s5 o5 (polR_so H.so)
      subst hJ
      exact hk h5 (by unfold polL; rw [eE, if_pos q]; exact ⟨m, H5⟩) (StepF.no F4 st)
    · rw [if_neg (by simpa using q)]
      subst hJ
      exact hk h3 (by unfold polL; rw [eE, if_neg q]; exact ⟨m, H3⟩) (StepF.of_no F3)
  · have e0 : (decide (p ≥ 0) && decide (p ≤ 2)) = false := by
      rw [Bool.and_eq_false_iff]
      by_cases h1 : p ≥ 0
      · exact .inr (decide_eq_false (fun h2 => q0 ⟨h1, h2⟩))
      · exact .inl (decide_eq_false h1)
    have eE : polE L x owner p = 1 := if_neg q0
    rw [e0]
    dsimp only
    rw [if_pos (by decide)]
    rw [eE] at hk
    exact hk h1 (by unfold polL; rw [eE, if_neg (by decide)]; exact ⟨m, H1⟩) (StepF.of_no f1)
end Regs
end Go.Proofs.YtgccegnmggjkjaaDoor
