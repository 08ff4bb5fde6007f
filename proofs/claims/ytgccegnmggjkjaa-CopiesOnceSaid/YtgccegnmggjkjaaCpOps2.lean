/-
  What is proved here: what Add, Lease, Pass, Drop and Counts of package copies do with a table. No condition.
-/
import Derived.Test.YtgccegnmggjkjaaCpOps
set_option maxRecDepth 100000
namespace Go.Proofs.Ytgccegnmggjkjaa
open Go.Den Go.Heapq
namespace Cps
open Eid Alarm Fld
variable {h h' : Heap} {R : Value → Heap → Prop} {t : Nat} {X : Ft} {s s' : CF} {m a1 a2 : Nat} {xs : List CV} {S1 S2 S1' S2' : Nat → Prop} {lab : Nat → Option Nat} {p : Option Addr} {n c : Nat}

def mayC (x : Ev) (len : Nat) (till : Int) : Bool := rightE x && (!decide (x = Ev.zero) && (decide (1 ≤ len) && (decide (len ≤ 600) && decide (till ≤ 1099511627776))))
theorem isCopy_ok (x : Ev) {k : Int} (hk : ∀ h', Fr (fun _ => False) h h' → R (.bool (mayC x n k)) h') : CallsH Try.prog F.copies_isCopy #[ev5 x, .slice p n c, .int .u64 k] h R := by
  refine copies_isCopy.walk (eid_Eid.box fun b h1 eb hb f1 => eid_Eid.ld hb (Eid.right_ok x fun h2 f2 => ⟨_, rfl, ?_⟩))
  have K := hk h2 (f1.tt f2)
  unfold mayC at K
  by_cases q0 : rightE x = true
  · rw [if_pos q0]
    rw [q0, Bool.true_and] at K
    refine eid_Eid.ld (f2.get hb id) ⟨_, eqv' (y := .zero) (x := x) rfl rfl, ?_⟩
    by_cases q1 : x = .zero
    · rw [decide_eq_true q1, if_neg (by decide)]
      rw [decide_eq_true q1] at K; exact K
    · rw [decide_eq_false q1, if_pos (by decide)]
      rw [decide_eq_false q1, Bool.not_false, Bool.true_and] at K
      by_cases q2 : 1 ≤ n
      · rw [if_pos (decide_eq_true (by omega))]
        rw [decide_eq_true q2, Bool.true_and] at K
        by_cases q3 : n ≤ 600
        · rw [if_pos (decide_eq_true (by omega))]
          rw [decide_eq_true q3, Bool.true_and] at K; exact K
        · rw [if_neg (by simp; omega)]
          rw [decide_eq_false q3] at K; exact K
      · rw [if_neg (by simp; omega)]
        rw [decide_eq_false q2] at K; exact K
  · rw [if_neg q0]
    have q0 : rightE x = false := by simpa using q0
    rw [q0] at K; exact K
def ofL (L : List Cp) (x : Ev) : List Cp := L.filter (fun y => decide (y.e = x))
theorem of_len (H : Cm h t X s m xs a1 S1 a2 S2 lab) (x : Ev) : (xs.filter (fun y => decide (y.e = x))).length = (ofL s.L x).length := by
  unfold ofL
  rw [← H.abs, List.filter_map, List.length_map]; rfl
def addE (s : CF) (x : Ev) (d : List UInt8) (till : Nat) : Int := if mayC x d.length (till : Int) = true then (if (ofL s.L x).length ≥ 16 then 15 else 0) else 1
def addN (s : CF) (x : Ev) (d : List UInt8) (till : Nat) : Int := if addE s x d till = 0 then (s.next : Int) else 0
def addF (s : CF) (x : Ev) (d : List UInt8) (till : Nat) : CF := if addE s x d till = 0 then { s with L := s.L ++ [⟨s.next, x, d, till, 0, 0⟩], next := s.next + 1, E1 := setL s.E1 (s.next : Int) (till : Int) } else s
theorem add_ok (H : Ct h t X s) (sm : Small s) (hlt : ∀ z ∈ s.L, z.num < s.next) (hpos : 1 ≤ s.next) (x : Ev) {d : List UInt8} (till : Nat) {k : Int} (hk0 : k = (till : Int)) (hr : Row h p (bc d)) (hn : n = d.length) (hpm : d ≠ [] → ∀ a, p = some a → ¬ X.M a.block)
    (hk : ∀ h' X', Ct h' t X' (addF s x d till) → StepF X h X' h' → R (.tuple #[.int .i64 (addN s x d till), .int .i64 (addE s x d till)]) h') :
    CallsH Try.prog F.copies_Table_Add #[.pointer (some ⟨t, 0, none⟩), ev5 x, .slice p n c, .int .u64 k] h R := by
  subst hk0 hn
  obtain ⟨m, xs, a1, S1, a2, S2, lab, H⟩ := H
  have sn := sm.n
  have sl := sm.l
  have se := sm.e1
  have xl := H.len
  refine copies_Table_Add.walk (eid_Eid.box fun b h1 eb hb f1 => ?_)
  have H1 := H.on f1
  refine made_ok H1 ⟨_, rfl, ?_⟩
  rw [if_neg (by decide)]
  refine eid_Eid.ld hb (isCopy_ok x fun h3 f3 => ⟨_, rfl, ?_⟩)
  have F3 := f1.tt f3
  by_cases q0 : mayC x d.length (till : Int) = true
  · rw [q0, if_neg (by decide)]
    refine eid_Eid.ld (f3.get hb id) (of_ok (H.on F3) x (by omega) fun h4 p4 c4 o4 g4 f4 => ⟨_, _, _, rfl, ?_⟩)
    have F4 := F3.tt f4
    have H4 := H.on F4
    have hb4 := (f3.tt f4).get hb id
    rw [of_len H x]
    by_cases q1 : (ofL s.L x).length ≥ 16
    · rw [if_pos (decide_eq_true (by omega))]
      have e : addE s x d till = 15 := by unfold addE; rw [if_pos q0, if_pos q1]
      have e2 : addN s x d till = 0 := if_neg (by rw [e]; decide)
      have e3 : addF s x d till = s := if_neg (by rw [e]; decide)
      rw [e, e2, e3] at hk
      exact hk h4 X ⟨_, _, _, _, _, _, _, H4⟩ (StepF.of_no F4)
    · rw [if_neg (by simp; omega)]
      have e : addE s x d till = 0 := by unfold addE; rw [if_pos q0, if_neg q1]
      have e2 : addN s x d till = (s.next : Int) := if_pos e
      have e3 : addF s x d till = { s with L := s.L ++ [⟨s.next, x, d, till, 0, 0⟩], next := s.next + 1, E1 := setL s.E1 (s.next : Int) (till : Int) } := if_pos e
      rw [e, e2, e3] at hk
      have lb : b < h4.size := lt_of_get hb4
      have nb : ∀ {c}, lab c ≠ none → c ≠ b := fun {c} hc ec => by have := H.lsz c hc; omega
      refine ⟨_, cell_at H4.blk rfl, _, cell_at H4.blk rfl, storeP_blk H4.blk (by simp) fun h5 c5 s5 o5 => ?_⟩
      rw [wrap_id (by omega) (by omega)] at c5
      obtain ⟨H5, st5⟩ := H4.field (s' := { s with next := s.next + 1 }) rfl rfl rfl c5 s5 o5
      have hb5 : Ev.at h5 b x := by
        unfold Ev.at eid_Eid.at
        rw [o5 b (Ne.symm (nb (by rw [H.l0]; simp)))]; exact hb4
      have r5 : Row h5 p (bc d) := (hr.frame F4 (fun _ _ => id)).frame st5.fr (fun a ea => hpm (by rintro rfl; simp [mayC] at q0) a ea)
      refine ⟨_, cell_at H5.blk rfl, eid_Eid.ld hb5 (clone_ok r5 rfl (by
        unfold mayC at q0
        simp only [Bool.and_eq_true, decide_eq_true_eq] at q0
        omega) fun p6 c6 h6 o6 f6 g6 => ⟨_, _, _, rfl, ?_⟩)⟩
      refine ⟨eid_Eid.held (f6.get hb5 id), cell_at (f6.get H5.blk id) rfl, copies_Copy.box fun b7 h7 e7 hb7 f7 => ?_⟩
      have F7 := f6.tt f7
      have z5 : h5.size ≤ h6.size := f6.1
      refine ⟨eid_Eid.held (F7.get hb5 id), cell_at (F7.get H5.blk id) rfl, den_putP mapTy (H5.on F7).map (k := (s.next : Int)) fun h8 M8 s8 o8 => ?_⟩
      obtain ⟨X8, lab8, H8, st8⟩ := H5.add (s' := { s with L := s.L ++ [⟨s.next, x, d, till, 0, 0⟩], next := s.next + 1 }) (y := ⟨s.next, b7, x, ⟨p6, c6, d⟩, till, 0, 0⟩) F7 hb7 (by show h5.size ≤ b7; omega) ((o6.row').frame f7 (fun _ _ => id)) o6.le (fun c hc => ⟨g6 c hc, by have := o6.blk_lt hc; show c ≠ b7; omega, by have := o6.blk_lt hc; have := f7.1; omega⟩)
        (fun u hu => by
          have : u.abs ∈ s.L := by rw [← H.abs]; exact List.mem_map_of_mem hu
          exact hlt _ this) M8 s8 o8 rfl rfl rfl ⟨rfl, rfl, rfl, rfl⟩
      have hmay : may (s.next : Int) (till : Int) = true := by
        unfold mayC at q0
        simp only [Bool.and_eq_true, decide_eq_true_eq] at q0
        exact may_iff.2 ⟨by omega, by omega, by omega⟩
      refine ⟨_, cell_at H8.blk rfl, Alarm.set_ok H8.al1 (by show s.E1.length < _; omega) (s.next : Int) (till : Int) (by omega) (fun hm h9 S9 A9 g9 f9 => ⟨_, rfl, ?_⟩) (fun hm => absurd hmay (by rw [hm]; simp))⟩
      obtain ⟨X9, lab9, H9, st9, _⟩ := H8.alarm1 (s' := { s with L := s.L ++ [⟨s.next, x, d, till, 0, 0⟩], next := s.next + 1, E1 := setL s.E1 (s.next : Int) (till : Int) }) A9 g9 f9 rfl rfl rfl ⟨rfl, rfl, rfl, rfl⟩
      exact hk h9 X9 ⟨_, _, _, _, _, _, _, H9⟩ (StepF.no F4 (st5.trans (st8.trans st9)))
  · have q0 : mayC x d.length (till : Int) = false := by simpa using q0
    rw [q0, if_pos (by decide)]
    have e : addE s x d till = 1 := by unfold addE; rw [q0]; rfl
    have e2 : addN s x d till = 0 := if_neg (by rw [e]; decide)
    have e3 : addF s x d till = s := if_neg (by rw [e]; decide)
    rw [e, e2, e3] at hk
    exact hk h3 X ⟨_, _, _, _, _, _, _, H.on F3⟩ (StepF.of_no F3)
theorem counts_ok (H : Ct h t X s) (sm : Small s) (hk : ∀ h', Fr (fun _ => False) h h' → R (.agg #[.int .i64 ((s.next : Int) - 1), .int .i64 ((s.L.length : Int) - (s.E2.length : Int)), .int .i64 (s.E2.length : Int), .int .i64 (s.acked : Int), .int .i64 (s.over : Int), .int .i64 (s.gone : Int)]) h') :
    CallsH Try.prog F.copies_Table_Counts #[.pointer (some ⟨t, 0, none⟩)] h R := by
  obtain ⟨m, xs, a1, S1, a2, S2, lab, H⟩ := H
  have sn := sm.n
  have sl := sm.l
  have se := sm.e2
  have xl := H.len
  refine copies_Table_Counts.walk (a6_int.box fun b h1 eb hb f1 => ?_)
  have H1 := H.on f1
  refine made_ok H1 ⟨_, rfl, ?_⟩
  rw [if_neg (by decide)]
  refine ⟨_, cell_at H1.blk rfl, Alarm.len_ok H1.al2 ⟨_, rfl, _, cell_at H1.blk rfl, _, cell_at H1.blk rfl, _, lenV_P mapTy H1.map, _, cell_at H1.blk rfl, _, cell_at H1.blk rfl, _, cell_at H1.blk rfl, ?_⟩⟩
  refine a6_int.set hb fun g6 a6 s6 o6 => a6_int.ld a6 ?_
  have F6 : Fr (fun _ => False) h g6 := f1.fresh (S := fun y => y = b) ⟨by omega, fun y _ hn => o6 y hn⟩ (fun y e => by omega)
  have K := hk g6 F6
  rw [List.length_map, wrap_id (n := (s.next : Int) - 1) (by omega) (by omega), wrap_id (by omega) (by omega), xl]
  exact K

/-! ### many go -/
def remOver (s : CF) (k : Int) : CF := { remF s k with over := s.over + 1 }
def remGone (s : CF) (k : Int) : CF := { remF s k with gone := s.gone + 1 }
theorem Small.rem (sm : Small s) (k : Int) : Small (remF s k) :=
  ⟨sm.n, Nat.le_trans (List.length_filter_le _ _) sm.l, Nat.le_trans (dropK_len _ _) sm.e1, Nat.le_trans (dropK_len _ _) sm.e2⟩
theorem Small.free (sm : Small s) (k : Nat) : Small (freeF s k) :=
  ⟨sm.n, by show (setC s.L k 0 0).length ≤ _; unfold setC; rw [List.length_map]; exact sm.l, sm.e1, Nat.le_trans (dropK_len _ _) sm.e2⟩
def Held (s : CF) : Prop := ∀ k ∈ keys s.E2, ∃ z ∈ s.L, (z.num : Int) = k
theorem Held.rem (H : Held s) (k : Int) : Held (remF s k) := fun j hj => by
  unfold keys at hj
  obtain ⟨e, he, rfl⟩ := List.mem_map.1 hj
  obtain ⟨h1, h2⟩ := List.mem_filter.1 he
  have hne : e.1 ≠ k := by simpa using h2
  obtain ⟨z, hz, e2⟩ := H e.1 (List.mem_map_of_mem h1)
  exact ⟨z, List.mem_filter.2 ⟨hz, by simp [e2, hne]⟩, e2⟩
theorem setC_nums (L : List Cp) (n : Nat) (a : Int) (b : Nat) {z : Cp} (hz : z ∈ L) : ∃ y ∈ setC L n a b, y.num = z.num := by
  unfold setC
  refine ⟨_, List.mem_map_of_mem hz, ?_⟩
  split <;> rfl
theorem Ct.ring1 (H : Ct h t X s) (sm : Small s) (now : Int) (hk : ∀ h' X' p' c', Ct h' t X' { s with E1 := Alarm.rest s.E1 now } → StepF X h X' h' → Own h' p' (Alarm.due s.E1 now).length c' 1 (kc (Alarm.due s.E1 now)) → (∀ y, inBlk p' y → h.size ≤ y ∧ ¬ X'.M y) → R (.slice p' (Alarm.due s.E1 now).length c') h') :
    ∃ (u : Option Addr), hcell h ⟨t, 5, none⟩ = some (.pointer u) ∧ CallsH Try.prog F.alarm_Alarm_Ring #[.pointer u, .int .u64 now] h R := by
  obtain ⟨m, xs, a1, S1, a2, S2, lab, H⟩ := H
  have := sm.e1
  refine ⟨_, cell_at H.blk rfl, Alarm.ring_ok H.al1 (by omega) now fun h1 p1 c1 A1 o1 g1 f1 => ?_⟩
  obtain ⟨X', lab', H', st, hM⟩ := H.alarm1 (s' := { s with E1 := Alarm.rest s.E1 now }) A1 (fun c hc => .inl hc) f1 rfl rfl rfl ⟨rfl, rfl, rfl, rfl⟩
  refine hk h1 X' p1 c1 ⟨_, _, _, _, _, _, _, H'⟩ st o1 (fun y hy => ⟨g1 y hy, fun hm => ?_⟩)
  have hy := g1 y hy
  rcases hM y hm with h2 | h2
  · have := H.lsz y ((H.mm y).1 h2); omega
  · have := H.al1.lt h2; omega
theorem Ct.ring2 (H : Ct h t X s) (sm : Small s) (now : Int) (hk : ∀ h' X' p' c', Ct h' t X' { s with E2 := Alarm.rest s.E2 now } → StepF X h X' h' → Own h' p' (Alarm.due s.E2 now).length c' 1 (kc (Alarm.due s.E2 now)) → (∀ y, inBlk p' y → h.size ≤ y ∧ ¬ X'.M y) → R (.slice p' (Alarm.due s.E2 now).length c') h') :
    ∃ (u : Option Addr), hcell h ⟨t, 6, none⟩ = some (.pointer u) ∧ CallsH Try.prog F.alarm_Alarm_Ring #[.pointer u, .int .u64 now] h R := by
  obtain ⟨m, xs, a1, S1, a2, S2, lab, H⟩ := H
  have := sm.e2
  refine ⟨_, cell_at H.blk rfl, Alarm.ring_ok H.al2 (by omega) now fun h1 p1 c1 A1 o1 g1 f1 => ?_⟩
  obtain ⟨X', lab', H', st, hM⟩ := H.alarm2 (s' := { s with E2 := Alarm.rest s.E2 now }) A1 (fun c hc => .inl hc) f1 rfl rfl rfl ⟨rfl, rfl, rfl, rfl⟩
  refine hk h1 X' p1 c1 ⟨_, _, _, _, _, _, _, H'⟩ st o1 (fun y hy => ⟨g1 y hy, fun hm => ?_⟩)
  have hy := g1 y hy
  rcases hM y hm with h2 | h2
  · have := H.lsz y ((H.mm y).1 h2); omega
  · have := H.al2.lt h2; omega
/-- a slice of numbers that a table's calls leave alone -/
structure Nums (h : Heap) (X : Ft) (p : Option Addr) (n c : Nat) (ks : List Int) : Prop where
  own : Own h p n c 1 (ks.map ienc)
  len : n = ks.length
  ap : ∀ y, inBlk p y → ¬ X.M y
theorem Nums.step {X' : Ft} {ks : List Int} (N : Nums h X p n c ks) (st : StepF X h X' h') : Nums h' X' p n c ks :=
  ⟨N.own.frame st.fr N.ap, N.len, fun y hy hm => by
    rcases st.newM y hm with h1 | h1
    · exact N.ap y hy h1
    · have := N.own.blk_lt hy; omega⟩
theorem Nums.at {K : Int → Prop} {ks : List Int} {i : Nat} {k : Int} (N : Nums h X p n c ks) (hi : ks[i]? = some k) (hk : K k) :
    ((0 : Int) ≤ (i : Int) ∧ (i : Int) < ((n : Nat) : Int)) ∧ onSome p fun a => ∃ t : Int, hcell h (a.add (Int.toNat (i : Int) * 1)) = some (.int .i64 t) ∧ K t := by
  have hl := (List.getElem?_eq_some_iff.1 hi).1
  have hn := N.len
  obtain ⟨ab, ao, e⟩ := N.own.addr (by omega)
  subst e
  refine ⟨⟨by omega, by omega⟩, onSome_some.2 ⟨k, ?_, hk⟩⟩
  rw [Int.toNat_natCast, Nat.mul_one]
  exact N.own.cell (by rw [List.getElem?_map, hi]; rfl)
theorem foldl_small {f : CF → Int → CF} (hf : ∀ s k, Small s → Small (f s k)) : ∀ (ks : List Int) (s : CF), Small s → Small (ks.foldl f s)
  | [], _, h => h
  | k :: ks, s, h => foldl_small hf ks (f s k) (hf s k h)
theorem over_fold : ∀ (ks : List Int) (s : CF), (ks.foldl remOver s).over = s.over + ks.length
  | [], _ => rfl
  | k :: ks, s => by rw [List.foldl_cons, over_fold ks, List.length_cons]; show s.over + 1 + ks.length = _; omega
theorem gone_fold : ∀ (ks : List Int) (s : CF), (ks.foldl remGone s).gone = s.gone + ks.length
  | [], _ => rfl
  | k :: ks, s => by rw [List.foldl_cons, gone_fold ks, List.length_cons]; show s.gone + 1 + ks.length = _; omega
theorem held_fold : ∀ (ks : List Int) (s : CF), Held s → Held (ks.foldl remOver s)
  | [], _, h => h
  | k :: ks, s, h => held_fold ks (remOver s k) (h.rem k)
theorem take_foldl {f : CF → Int → CF} {ks : List Int} {i : Nat} {k : Int} (hi : ks[i]? = some k) (s : CF) : (ks.take (i + 1)).foldl f s = f ((ks.take i).foldl f s) k := by
  rw [List.take_add_one, hi, List.foldl_append]; rfl
def passF (s : CF) (now : Int) : CF :=
  let s1 := (keys (Alarm.due s.E1 now)).foldl remOver { s with E1 := Alarm.rest s.E1 now }
  (keys (Alarm.due s1.E2 now)).foldl (fun s k => freeF s k.toNat) { s1 with E2 := Alarm.rest s1.E2 now }
theorem free_nums : ∀ (ks : List Int) (s : CF) (z : Cp), z ∈ s.L → ∃ y ∈ (ks.foldl (fun s k => freeF s k.toNat) s).L, y.num = z.num
  | [], s, z, hz => ⟨z, hz, rfl⟩
  | k :: ks, s, z, hz => by
    obtain ⟨y, hy, e⟩ := setC_nums s.L k.toNat 0 0 hz
    obtain ⟨u, hu, e2⟩ := free_nums ks (freeF s k.toNat) y hy
    exact ⟨u, hu, e2.trans e⟩
theorem rest_len (L : List E) (now : Int) : (Alarm.rest L now).length ≤ L.length := (List.dropWhile_sublist _).length_le
theorem pass_ok (H : Ct h t X s) (sm : Small s) (ho : s.over ≤ 40000) (hE : Held s) (now : Int)
    (hk : ∀ h' X' p' c', Ct h' t X' (passF s now) → StepF X h X' h' → Nums h' X' p' (Alarm.due s.E1 now).length c' (keys (Alarm.due s.E1 now)) → (∀ y, inBlk p' y → h.size ≤ y) → R (.slice p' (Alarm.due s.E1 now).length c') h') :
    CallsH Try.prog F.copies_Table_Pass #[.pointer (some ⟨t, 0, none⟩), .int .u64 now] h R := by
  have hdl : (Alarm.due s.E1 now).length ≤ s.E1.length := (List.takeWhile_sublist _).length_le
  have e1b := sm.e1
  have hm : ∀ {R : Value → Heap → Prop}, R (.bool true) h → CallsH Try.prog F.copies_Table_made #[.pointer (some ⟨t, 0, none⟩)] h R := fun hk => by
    obtain ⟨m, xs, a1, S1, a2, S2, lab, H⟩ := H
    exact made_ok H hk
  refine copies_Table_Pass.walk (hm ⟨_, rfl, ?_⟩)
  rw [if_neg (by decide)]
  refine H.ring1 sm now fun h2 X2 p2 c2 H2 st2 o2 g2 => ⟨_, _, _, rfl, ?_⟩
  have sm2 : Small { s with E1 := Alarm.rest s.E1 now } := ⟨sm.n, sm.l, Nat.le_trans (rest_len _ _) sm.e1, sm.e2⟩
  have kl : (keys (Alarm.due s.E1 now)).length = (Alarm.due s.E1 now).length := by unfold keys; rw [List.length_map]
  have N2 : Nums h2 X2 p2 (Alarm.due s.E1 now).length c2 (keys (Alarm.due s.E1 now)) := ⟨o2, kl.symm, fun y hy => (g2 y hy).2⟩
  have smR : ∀ (s : CF) k, Small s → Small (remOver s k) := fun s k h => ⟨(h.rem k).n, (h.rem k).l, (h.rem k).e1, (h.rem k).e2⟩
  refine ⟨fun u g => ∃ (i : Nat) (Xg : Ft), u = (i : Int) ∧ i ≤ (Alarm.due s.E1 now).length ∧ Ct g t Xg (((keys (Alarm.due s.E1 now)).take i).foldl remOver { s with E1 := Alarm.rest s.E1 now }) ∧ StepF X h Xg g ∧ Nums g Xg p2 (Alarm.due s.E1 now).length c2 (keys (Alarm.due s.E1 now)), fun u _ => (Alarm.due s.E1 now).length - u.toNat, ⟨0, X2, rfl, Nat.zero_le _, H2, st2, N2⟩, ?_⟩
  rintro _ g ⟨i, Xg, rfl, hi, Hg, stg, Ng⟩
  have smg := foldl_small smR ((keys (Alarm.due s.E1 now)).take i) _ sm2
  by_cases hlt : i < (Alarm.due s.E1 now).length
  · rw [if_pos (decide_eq_true (by omega))]
    have hki : (keys (Alarm.due s.E1 now))[i]? = some ((keys (Alarm.due s.E1 now))[i]'(by omega)) := List.getElem?_eq_getElem _
    generalize (keys (Alarm.due s.E1 now))[i]'(by omega) = k at hki
    refine Ng.at hki (remove_ok Hg smg k fun g3 X3 H3 st3 => ⟨rfl, H3.bump3 ?_ fun g4 H4 st4 => ?_⟩)
    · show (((keys (Alarm.due s.E1 now)).take i).foldl remOver { s with E1 := Alarm.rest s.E1 now }).over ≤ 100000
      rw [over_fold, List.length_take]
      show s.over + _ ≤ 100000
      omega
    · rw [wrap_id (by omega) (by omega)]
      refine ⟨⟨i + 1, X3, by omega, by omega, ?_, stg.trans (st3.trans st4), (Ng.step st3).step st4⟩, by show (Alarm.due s.E1 now).length - Int.toNat ((i : Int) + 1) < (Alarm.due s.E1 now).length - i; omega⟩
      rw [take_foldl hki]
      exact H4
  · rw [if_neg (by simp; omega)]
    obtain rfl : i = (Alarm.due s.E1 now).length := by omega
    have ta : (keys (Alarm.due s.E1 now)).take (Alarm.due s.E1 now).length = keys (Alarm.due s.E1 now) := List.take_of_length_le (by omega)
    rw [ta] at Hg smg
    have hE1 : Held ((keys (Alarm.due s.E1 now)).foldl remOver { s with E1 := Alarm.rest s.E1 now }) := held_fold _ _ hE
    generalize hs1 : (keys (Alarm.due s.E1 now)).foldl remOver { s with E1 := Alarm.rest s.E1 now } = s1 at Hg smg hE1
    refine Hg.ring2 smg now fun h6 X6 p6 c6 H6 st6 o6 g6 => ⟨_, _, _, rfl, ?_⟩
    have kl6 : (keys (Alarm.due s1.E2 now)).length = (Alarm.due s1.E2 now).length := by unfold keys; rw [List.length_map]
    have sm6 : Small { s1 with E2 := Alarm.rest s1.E2 now } := ⟨smg.n, smg.l, smg.e1, Nat.le_trans (rest_len _ _) smg.e2⟩
    have N6 : Nums h6 X6 p6 (Alarm.due s1.E2 now).length c6 (keys (Alarm.due s1.E2 now)) := ⟨o6, kl6.symm, fun y hy => (g6 y hy).2⟩
    have hd6 := smg.e2
    have hdl6 : (Alarm.due s1.E2 now).length ≤ s1.E2.length := (List.takeWhile_sublist _).length_le
    refine ⟨fun u g => ∃ (i : Nat) (Xg : Ft), u = (i : Int) ∧ i ≤ (Alarm.due s1.E2 now).length ∧ Ct g t Xg (((keys (Alarm.due s1.E2 now)).take i).foldl (fun s k => freeF s k.toNat) { s1 with E2 := Alarm.rest s1.E2 now }) ∧ StepF X h Xg g ∧ Nums g Xg p6 (Alarm.due s1.E2 now).length c6 (keys (Alarm.due s1.E2 now)) ∧ Nums g Xg p2 (Alarm.due s.E1 now).length c2 (keys (Alarm.due s.E1 now)), fun u _ => (Alarm.due s1.E2 now).length - u.toNat, ⟨0, X6, rfl, Nat.zero_le _, H6, stg.trans st6, N6, Ng.step st6⟩, ?_⟩
    rintro _ g7 ⟨j, X7, rfl, hj, H7, st7, N7, M7⟩
    have sm7 := foldl_small (f := fun s k => freeF s k.toNat) (fun s k h => h.free k.toNat) ((keys (Alarm.due s1.E2 now)).take j) _ sm6
    by_cases hlt : j < (Alarm.due s1.E2 now).length
    · rw [if_pos (decide_eq_true (by omega))]
      have hki : (keys (Alarm.due s1.E2 now))[j]? = some ((keys (Alarm.due s1.E2 now))[j]'(by omega)) := List.getElem?_eq_getElem _
      generalize (keys (Alarm.due s1.E2 now))[j]'(by omega) = k at hki
      have hkm : k ∈ keys s1.E2 := by
        have h1 := List.mem_of_getElem? hki
        unfold keys at h1 ⊢
        obtain ⟨e, he, rfl⟩ := List.mem_map.1 h1
        exact List.mem_map_of_mem ((List.takeWhile_sublist _).subset he)
      obtain ⟨z, hz, ez⟩ := hE1 k hkm
      obtain ⟨y, hy, ey⟩ := free_nums ((keys (Alarm.due s1.E2 now)).take j) { s1 with E2 := Alarm.rest s1.E2 now } z hz
      have eyk : k = (y.num : Int) := by rw [ey]; exact ez.symm
      refine N7.at hki ?_
      rw [eyk]
      refine free_ok H7 sm7 hy fun g8 X8 H8 st8 => ⟨rfl, ?_⟩
      rw [wrap_id (by omega) (by omega)]
      refine ⟨⟨j + 1, X8, by omega, by omega, ?_, st7.trans st8, N7.step st8, M7.step st8⟩, by show (Alarm.due s1.E2 now).length - Int.toNat ((j : Int) + 1) < (Alarm.due s1.E2 now).length - j; omega⟩
      rw [take_foldl hki, eyk, Int.toNat_natCast]
      exact H8
    · rw [if_neg (by simp; omega)]
      obtain rfl : j = (Alarm.due s1.E2 now).length := by omega
      rw [List.take_of_length_le (by omega)] at H7
      refine hk g7 X7 p2 c2 ?_ st7 M7 (fun y hy => (g2 y hy).1)
      unfold passF
      rw [hs1]
      exact H7
def dropF (s : CF) (x : Ev) : CF := ((ofL s.L x).map (fun z => (z.num : Int))).foldl remGone s
theorem of_nums (H : Cm h t X s m xs a1 S1 a2 S2 lab) (x : Ev) : nums (xs.filter (fun y => decide (y.e = x))) = (ofL s.L x).map (fun z => (z.num : Int)) := by
  unfold ofL nums
  rw [← H.abs, List.filter_map, List.map_map]; rfl
theorem drop_ok (H : Ct h t X s) (sm : Small s) (ho : s.gone ≤ 40000) (x : Ev)
    (hk : ∀ h' X' p' c', Ct h' t X' (dropF s x) → StepF X h X' h' → Nums h' X' p' (ofL s.L x).length c' ((ofL s.L x).map (fun z => (z.num : Int))) → (∀ y, inBlk p' y → h.size ≤ y) → R (.slice p' (ofL s.L x).length c') h') :
    CallsH Try.prog F.copies_Table_Drop #[.pointer (some ⟨t, 0, none⟩), ev5 x] h R := by
  have H0 := H
  obtain ⟨m, xs, a1, S1, a2, S2, lab, H⟩ := H
  have sl := sm.l
  have xl := H.len
  refine copies_Table_Drop.walk (eid_Eid.box fun b h1 eb hb f1 => eid_Eid.ld hb (of_ok (H.on f1) x (by omega) fun h2 p2 c2 o2 g2 f2 => ⟨_, _, _, rfl, ?_⟩))
  have F2 := f1.tt f2
  have z1 := f1.1
  rw [of_len H x, of_nums H x] at o2
  rw [of_len H x]
  have ol : (ofL s.L x).length ≤ s.L.length := List.length_filter_le _ _
  have kl : ((ofL s.L x).map (fun z => (z.num : Int))).length = (ofL s.L x).length := List.length_map _
  have N2 : Nums h2 X p2 (ofL s.L x).length c2 ((ofL s.L x).map (fun z => (z.num : Int))) := ⟨o2, kl.symm, fun y hy hm => by
    have h1 := g2 y hy
    have := H.lsz y ((H.mm y).1 hm)
    omega⟩
  have smR : ∀ (s : CF) k, Small s → Small (remGone s k) := fun s k h => ⟨(h.rem k).n, (h.rem k).l, (h.rem k).e1, (h.rem k).e2⟩
  refine ⟨fun u g => ∃ (i : Nat) (Xg : Ft), u = (i : Int) ∧ i ≤ (ofL s.L x).length ∧ Ct g t Xg ((((ofL s.L x).map (fun z => (z.num : Int))).take i).foldl remGone s) ∧ StepF X h Xg g ∧ Nums g Xg p2 (ofL s.L x).length c2 ((ofL s.L x).map (fun z => (z.num : Int))), fun u _ => (ofL s.L x).length - u.toNat, ⟨0, X, rfl, Nat.zero_le _, H0.on F2, StepF.of_no F2, N2⟩, ?_⟩
  rintro _ g ⟨i, Xg, rfl, hi, Hg, stg, Ng⟩
  have smg := foldl_small smR (((ofL s.L x).map (fun z => (z.num : Int))).take i) _ sm
  by_cases hlt : i < (ofL s.L x).length
  · rw [if_pos (decide_eq_true (by omega))]
    have hki : ((ofL s.L x).map (fun z => (z.num : Int)))[i]? = some (((ofL s.L x).map (fun z => (z.num : Int)))[i]'(by omega)) := List.getElem?_eq_getElem _
    generalize ((ofL s.L x).map (fun z => (z.num : Int)))[i]'(by omega) = k at hki
    refine Ng.at hki (remove_ok Hg smg k fun g3 X3 H3 st3 => ⟨rfl, H3.bump4 ?_ fun g4 H4 st4 => ?_⟩)
    · show ((((ofL s.L x).map (fun z => (z.num : Int))).take i).foldl remGone s).gone ≤ 100000
      rw [gone_fold, List.length_take]
      omega
    · rw [wrap_id (by omega) (by omega)]
      refine ⟨⟨i + 1, X3, by omega, by omega, ?_, stg.trans (st3.trans st4), (Ng.step st3).step st4⟩, by show (ofL s.L x).length - Int.toNat ((i : Int) + 1) < (ofL s.L x).length - i; omega⟩
      rw [take_foldl hki]
      exact H4
  · rw [if_neg (by simp; omega)]
    obtain rfl : i = (ofL s.L x).length := by omega
    rw [List.take_of_length_le (by omega)] at Hg
    exact hk g Xg p2 c2 Hg stg Ng (fun y hy => by have := g2 y hy; omega)
end Cps
end Go.Proofs.Ytgccegnmggjkjaa
