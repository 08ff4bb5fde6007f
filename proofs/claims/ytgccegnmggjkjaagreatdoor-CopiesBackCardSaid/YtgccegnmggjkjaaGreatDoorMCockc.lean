/-
  What is proved here: parts of the proof, one behind the other (texts of this work, merged by a program; what the theorem does not use is left out). No condition.
-/
import Derived.Test.YtgccegnmggjkjaaGreatDoorProg
import Derived.Shelf.Strconv.Itoa4
import Derived.Ground.NamesProg
import Derived.Shelf.Strings.Cut
import Derived.Shelf.Small.Wraps
import Derived.Shelf.Pu.ParseUintPublic10
import Derived.Ground.MpProg
import Derived.Test.YtgccegnmggjkjaaGreatDoorMCockb
set_option maxRecDepth 100000
namespace Go.Proofs.YtgccegnmggjkjaaGreatDoor
open Go.Den Go.Heapq
namespace Cps
open Eid Alarm Fld
variable {h h' : Heap} {R : Value → Heap → Prop} {t : Nat} {X : Ft} {s s' : CF} {m a1 a2 : Nat} {xs : List CV} {S1 S2 S1' S2' : Nat → Prop} {lab : Nat → Option Nat} {p : Option Addr} {n c : Nat}
def delL (L : List Cp) (n : Int) : List Cp := L.filter (fun x => !decide ((x.num : Int) = n))
def setC (L : List Cp) (n : Nat) (ses : Int) (dl : Nat) : List Cp := L.map (fun x => if x.num = n then { x with ses := ses, dl := dl } else x)
def remF (s : CF) (n : Int) : CF := { s with L := delL s.L n, E1 := dropK s.E1 n, E2 := dropK s.E2 n }
def freeF (s : CF) (n : Nat) : CF := { s with L := setC s.L n 0 0, E2 := dropK s.E2 (n : Int) }
theorem dropK_len (L : List E) (k : Int) : (dropK L k).length ≤ L.length := List.length_filter_le _ _
structure Small (s : CF) : Prop where
  n : s.next ≤ 50000
  l : s.L.length ≤ 50000
  e1 : s.E1.length ≤ 50000
  e2 : s.E2.length ≤ 50000
theorem Cm.len (H : Cm h t X s m xs a1 S1 a2 S2 lab) : xs.length = s.L.length := by rw [← H.abs, List.length_map]
theorem new_ok (hk : ∀ h' t X, Ct h' t X ⟨[], 1, 0, 0, 0, [], []⟩ → UpF h X h' → R (.pointer (some ⟨t, 0, none⟩)) h') : CallsH Tryz.prog F.copies_New #[] h R := by
  classical
  refine copies_New.walk (newP_of ?_)
  have f1 : Fr (fun _ => False) h (h.push (.map #[] 0)) := Fr.push _ _
  have M1 := MapP.push (α := Int) h ienc
  have z1 : (h.push (.map #[] 0)).size = h.size + 1 := Array.size_push _
  generalize h.push (.map #[] 0) = h1 at f1 M1 z1 ⊢
  refine Alarm.new_ok fun a1 S1 h2 A1 g1 f2 => ⟨_, rfl, Alarm.new_ok fun a2 S2 h3 A2 g2 f3 => ⟨_, rfl, newP_of ?_⟩⟩
  have f4 : Fr (fun _ => False) h3 (h3.push (.cells #[.map (some h.size), .int .i64 1, .int .i64 0, .int .i64 0, .int .i64 0, .pointer (some ⟨a1, 0, none⟩), .pointer (some ⟨a2, 0, none⟩)] T.copies_Table)) := Fr.push _ _
  have z2 := f2.1
  have z3 := f3.1
  have z4 : (h3.push (.cells #[.map (some h.size), .int .i64 1, .int .i64 0, .int .i64 0, .int .i64 0, .pointer (some ⟨a1, 0, none⟩), .pointer (some ⟨a2, 0, none⟩)] T.copies_Table)).size = h3.size + 1 := Array.size_push _
  have b4 : (h3.push (.cells #[.map (some h.size), .int .i64 1, .int .i64 0, .int .i64 0, .int .i64 0, .pointer (some ⟨a1, 0, none⟩), .pointer (some ⟨a2, 0, none⟩)] T.copies_Table))[h3.size]? = some (.cells #[.map (some h.size), .int .i64 1, .int .i64 0, .int .i64 0, .int .i64 0, .pointer (some ⟨a1, 0, none⟩), .pointer (some ⟨a2, 0, none⟩)] T.copies_Table (0, 0)) := push_new
  generalize h3.push (.cells #[.map (some h.size), .int .i64 1, .int .i64 0, .int .i64 0, .int .i64 0, .pointer (some ⟨a1, 0, none⟩), .pointer (some ⟨a2, 0, none⟩)] T.copies_Table) = h4 at f4 z4 b4 ⊢
  have l1 : ∀ c, S1 c → h1.size ≤ c ∧ c < h2.size := fun c hc => ⟨g1 c hc, A1.lt hc⟩
  have l2 : ∀ c, S2 c → h2.size ≤ c ∧ c < h3.size := fun c hc => ⟨g2 c hc, A2.lt hc⟩
  let lab : Nat → Option Nat := fun c => if c = h3.size then some 0 else if c = h.size then some 1 else if S1 c then some 2 else if S2 c then some 3 else none
  have lab1 : ∀ c, S1 c → lab c = some 2 := fun c hc => by
    have := l1 c hc
    show (if c = h3.size then some 0 else if c = h.size then some 1 else if S1 c then some 2 else if S2 c then some 3 else none) = _
    rw [if_neg (by omega), if_neg (by omega), if_pos hc]
  have lab2 : ∀ c, S2 c → lab c = some 3 := fun c hc => by
    have h5 := l2 c hc
    show (if c = h3.size then some 0 else if c = h.size then some 1 else if S1 c then some 2 else if S2 c then some 3 else none) = _
    rw [if_neg (by omega), if_neg (by omega), if_neg (fun h6 => by have := l1 c h6; omega), if_pos hc]
  have labs : ∀ c, lab c ≠ none → h.size ≤ c ∧ c < h4.size := fun c hc => by
    by_cases c1 : c = h3.size
    · omega
    by_cases c2 : c = h.size
    · omega
    by_cases c3 : S1 c
    · have := l1 c c3; omega
    by_cases c4 : S2 c
    · have := l2 c c4; omega
    exact absurd (show (if c = h3.size then some 0 else if c = h.size then some 1 else if S1 c then some 2 else if S2 c then some 3 else none) = none by rw [if_neg c1, if_neg c2, if_neg c3, if_neg c4]) hc
  refine hk h4 h3.size ⟨fun c => lab c ≠ none, fun _ => False⟩ ⟨h.size, [], a1, S1, a2, S2, lab, ⟨b4, (M1.frame (f2.tt f3) id).frame f4 id, (fun x hx => by cases hx), rfl, (fun x hx => by cases hx), A1.frame (f3.tt f4) (fun _ _ => id), A2.frame f4 (fun _ _ => id), if_pos rfl, ?_, lab1, lab2, (fun x hx => by cases hx), fun c => Iff.rfl, fun c hc => hc.elim, fun c hc => (labs c hc).2, .nil⟩⟩ ⟨f1.tt (f2.tt (f3.tt f4)), fun c hc => ?_⟩
  · show (if h.size = h3.size then some 0 else if h.size = h.size then some 1 else if S1 h.size then some 2 else if S2 h.size then some 3 else none) = some 1
    rw [if_neg (by omega), if_pos rfl]
  · rcases hc with hc | hc
    · exact (labs c hc).1
    · exact hc.elim
theorem drop2 (H : Cm h t X s m xs a1 S1 a2 S2 lab) (hn : s.E2.length < 1000000) (k : Int) (hk : ∀ h' X' lab' (e : Int), Cm h' t X' { s with E2 := dropK s.E2 k } m xs a1 S1 a2 S2 lab' → StepF X h X' h' → R (.int .i64 e) h') :
    CallsH Tryz.prog F.alarm_Alarm_Drop #[.pointer (some ⟨a2, 0, none⟩), .int .i64 k] h R := by
  refine Alarm.drop_ok H.al2 hn k (fun _ h1 A1 f1 => ?_) (fun hno => ?_)
  · obtain ⟨X', lab', H', st, _⟩ := H.alarm2 (s' := { s with E2 := dropK s.E2 k }) A1 (fun c hc => .inl hc) f1 rfl rfl rfl ⟨rfl, rfl, rfl, rfl⟩
    exact hk h1 X' lab' 0 H' st
  · have e : ({ s with E2 := dropK s.E2 k } : CF) = s := by rw [dropK_none hno]
    exact hk h X lab 4 (by rw [e]; exact H) (StepF.refl _ _)
theorem drop1 (H : Cm h t X s m xs a1 S1 a2 S2 lab) (hn : s.E1.length < 1000000) (k : Int) (hk : ∀ h' X' lab' (e : Int), Cm h' t X' { s with E1 := dropK s.E1 k } m xs a1 S1 a2 S2 lab' → StepF X h X' h' → R (.int .i64 e) h') :
    CallsH Tryz.prog F.alarm_Alarm_Drop #[.pointer (some ⟨a1, 0, none⟩), .int .i64 k] h R := by
  refine Alarm.drop_ok H.al1 hn k (fun _ h1 A1 f1 => ?_) (fun hno => ?_)
  · obtain ⟨X', lab', H', st, _⟩ := H.alarm1 (s' := { s with E1 := dropK s.E1 k }) A1 (fun c hc => .inl hc) f1 rfl rfl rfl ⟨rfl, rfl, rfl, rfl⟩
    exact hk h1 X' lab' 0 H' st
  · have e : ({ s with E1 := dropK s.E1 k } : CF) = s := by rw [dropK_none hno]
    exact hk h X lab 4 (by rw [e]; exact H) (StepF.refl _ _)
theorem remove_ok (H : Ct h t X s) (sm : Small s) (k : Int) (hk : ∀ h' X', Ct h' t X' (remF s k) → StepF X h X' h' → R (.tuple #[]) h') :
    CallsH Tryz.prog F.copies_Table_remove #[.pointer (some ⟨t, 0, none⟩), .int .i64 k] h R := by
  obtain ⟨m, xs, a1, S1, a2, S2, lab, H⟩ := H
  have := sm.e1
  have := sm.e2
  refine copies_Table_remove.walk ⟨_, cell_at H.blk rfl, drop2 H (by omega) k fun h1 X1 lab1 _ H1 st1 => ⟨_, rfl, _, cell_at H1.blk rfl, drop1 H1 (by show s.E1.length < _; omega) k fun h2 X2 lab2 _ H2 st2 => ⟨_, rfl, _, cell_at H2.blk rfl, den_delP mapTy H2.map (k := k) fun h3 M3 s3 o3 => ⟨rfl, ?_⟩⟩⟩⟩
  obtain ⟨H3, st3⟩ := H2.del (s' := remF s k) M3 s3 o3 rfl rfl rfl ⟨rfl, rfl, rfl, rfl⟩
  exact hk h3 X2 ⟨_, _, _, _, _, _, _, H3⟩ (st1.trans (st2.trans st3))
theorem mem_of_num (H : Cm h t X s m xs a1 S1 a2 S2 lab) {z : Cp} (hz : z ∈ s.L) : ∃ x ∈ xs, x.abs = z := by
  rw [← H.abs] at hz
  obtain ⟨x, hx, e⟩ := List.mem_map.1 hz
  exact ⟨x, hx, e⟩
theorem Cm.lease {x : CV} {ses : Int} {dl : Nat} {K : Heap → Prop} (H : Cm h t X s m xs a1 S1 a2 S2 lab) (hx : x ∈ xs)
    (hk : ∀ h', Cm h' t X { s with L := setC s.L x.num ses dl } m (xs.map (fun z => if z.num = x.num then { x with ses := ses, dl := dl } else z)) a1 S1 a2 S2 lab → StepF X h X h' → K h') :
    StoreP h ((⟨x.b, 0, none⟩ : Addr).add 8) (.int .i64 ses) fun h1 => StoreP h1 ((⟨x.b, 0, none⟩ : Addr).add 9) (.int .u64 (dl : Int)) K := by
  rw [add_blk, add_blk]
  have hb := H.cps x hx
  refine storeP_blk hb (by simp) fun h1 c1 s1 o1 => storeP_blk c1 (by simp) fun h2 c2 s2 o2 => ?_
  have hy : ({ x with ses := ses, dl := dl } : CV).at h2 x.b := c2
  obtain ⟨H2, st⟩ := H.change (s' := { s with L := setC s.L x.num ses dl }) (y := { x with ses := ses, dl := dl }) hx rfl rfl rfl hy (by omega) (fun c hc => by rw [o2 c hc, o1 c hc]) (by
    show setC s.L x.num ses dl = _
    unfold setC
    refine List.map_congr_left fun z hz => ?_
    by_cases e : z.num = x.num
    · rw [if_pos e, if_pos e]
      obtain ⟨u, hu, rfl⟩ := mem_of_num H hz
      have e : u.num = x.num := e
      have : u = x := by
        obtain ⟨i, hi⟩ := List.getElem?_of_mem hu
        obtain ⟨j, hj⟩ := List.getElem?_of_mem hx
        have hnd : (xs.map CV.num).Nodup := H.so.imp (fun h => Nat.ne_of_lt h)
        have hil := (List.getElem?_eq_some_iff.1 hi).1
        have := (List.getElem?_inj (l := xs.map CV.num) (i := i) (j := j) (by simpa using hil) hnd).1 (by rw [List.getElem?_map, List.getElem?_map, hi, hj]; simp [e])
        subst this
        rw [hi] at hj; exact Option.some.inj hj
      rw [this]; rfl
    · rw [if_neg e, if_neg e]) rfl rfl ⟨rfl, rfl, rfl, rfl⟩
  exact hk h2 H2 st
theorem free_ok (H : Ct h t X s) (sm : Small s) {z : Cp} (hz : z ∈ s.L) (hk : ∀ h' X', Ct h' t X' (freeF s z.num) → StepF X h X' h' → R (.tuple #[]) h') :
    CallsH Tryz.prog F.copies_Table_free #[.pointer (some ⟨t, 0, none⟩), .int .i64 (z.num : Int)] h R := by
  obtain ⟨m, xs, a1, S1, a2, S2, lab, H⟩ := H
  obtain ⟨x, hx, rfl⟩ := mem_of_num H hz
  have := sm.e2
  refine copies_Table_free.walk ⟨_, cell_at H.blk rfl, drop2 H (by omega) _ fun h1 X1 lab1 _ H1 st1 => ⟨_, rfl, _, cell_at H1.blk rfl, _, look H1 hx, _, cell_at H1.blk rfl, _, look H1 hx, ?_⟩⟩
  refine onSome_some.2 (H1.lease (ses := 0) (dl := 0) hx fun h2 H2 st2 => hk h2 X1 ⟨_, _, _, _, _, _, _, H2⟩ (st1.trans st2))
def getC (L : List Cp) (n : Int) : Option Cp := L.find? (fun x => decide ((x.num : Int) = n))
theorem getC_some {L : List Cp} {n : Int} {z : Cp} (h : getC L n = some z) : z ∈ L ∧ (z.num : Int) = n := ⟨List.mem_of_find?_eq_some h, by simpa using List.find?_some h⟩
theorem getC_none {L : List Cp} {n : Int} : getC L n = none ↔ ∀ z ∈ L, (z.num : Int) ≠ n := by unfold getC; simp
def findE (L : List Cp) (n ses : Int) : Int := match getC L n with | none => 4 | some z => if z.ses = 0 ∨ z.ses ≠ ses then 14 else 0
theorem find_ok (H : Ct h t X s) (num ses : Int) (hk : ∀ q, R (.tuple #[.pointer q, .int .i64 (findE s.L num ses)]) h) :
    CallsH Tryz.prog F.copies_Table_find #[.pointer (some ⟨t, 0, none⟩), .int .i64 num, .int .i64 ses] h R := by
  obtain ⟨m, xs, a1, S1, a2, S2, lab, H⟩ := H
  refine copies_Table_find.walk (made_ok H ⟨_, rfl, ?_⟩)
  rw [if_neg (by decide)]
  unfold findE at hk
  cases hg : getC s.L num with
  | none =>
    rw [hg] at hk
    have hno : ∀ x ∈ xs, (x.num : Int) ≠ num := fun x hx => getC_none.1 hg x.abs (by rw [← H.abs]; exact List.mem_map_of_mem hx)
    refine ⟨_, cell_at H.blk rfl, _, look_no H hno, ?_⟩
    rw [if_pos (by rfl)]
    exact hk none
  | some z =>
    rw [hg] at hk
    dsimp only at hk
    obtain ⟨hz, rfl⟩ := getC_some hg
    obtain ⟨x, hx, rfl⟩ := mem_of_num H hz
    have L := look H hx
    have ca := H.cps x hx
    refine ⟨_, cell_at H.blk rfl, _, L, ?_⟩
    rw [if_neg (by simp)]
    refine JoinP.of fun J hJ => ⟨_, cell_at H.blk rfl, _, L, onSome_some.2 ⟨_, cell_at ca rfl, ?_⟩⟩
    have bad : (x.ses = 0 ∨ x.ses ≠ ses) → J true h := fun hb => by
      subst hJ
      simp only [if_true]
      have := hk none
      have e : (if x.abs.ses = 0 ∨ x.abs.ses ≠ ses then (14 : Int) else 0) = 14 := if_pos hb
      rwa [e] at this
    by_cases h0 : x.ses = 0
    · rw [if_pos (by simpa using h0)]
      exact bad (.inl h0)
    · rw [if_neg (by simpa using h0)]
      refine ⟨_, cell_at H.blk rfl, _, L, onSome_some.2 ⟨_, cell_at ca rfl, ?_⟩⟩
      by_cases h1 : x.ses = ses
      · have e : (x.ses != ses) = false := by simp [h1]
        rw [e]
        subst hJ
        simp only [Bool.false_eq_true, if_false]
        refine ⟨_, cell_at H.blk rfl, _, L, ?_⟩
        have e2 : (if x.abs.ses = 0 ∨ x.abs.ses ≠ ses then (14 : Int) else 0) = 0 := if_neg (fun hb => by
          rcases hb with hb | hb
          · exact h0 hb
          · exact hb h1)
        have := hk (some ⟨x.b, 0, none⟩)
        rwa [e2] at this
      · have e : (x.ses != ses) = true := by simpa using h1
        rw [e]
        exact bad (.inr h1)
def ackF (s : CF) (n ses : Int) : CF := if findE s.L n ses = 0 then { remF s n with acked := s.acked + 1 } else s
theorem Ct.bump (H : Ct h t X s) {K : Heap → Prop} (hs : s.acked ≤ 100000) (hk : ∀ h', Ct h' t X { s with acked := s.acked + 1 } → StepF X h X h' → K h') :
    ∃ (u : Int), hcell h ⟨t, 2, none⟩ = some (.int .i64 u) ∧ StoreP h ⟨t, 2, none⟩ (.int .i64 (IntKind.wrap .i64 (u + 1))) K := by
  obtain ⟨m, xs, a1, S1, a2, S2, lab, H⟩ := H
  refine ⟨_, cell_at H.blk rfl, storeP_blk H.blk (by simp) fun h1 c1 s1 o1 => ?_⟩
  rw [wrap_id (by omega) (by omega)] at c1
  obtain ⟨H1, st⟩ := H.field (s' := { s with acked := s.acked + 1 }) rfl rfl rfl c1 s1 o1
  exact hk h1 ⟨_, _, _, _, _, _, _, H1⟩ st
theorem Ct.bump3 (H : Ct h t X s) {K : Heap → Prop} (hs : s.over ≤ 100000) (hk : ∀ h', Ct h' t X { s with over := s.over + 1 } → StepF X h X h' → K h') :
    ∃ (u : Int), hcell h ⟨t, 3, none⟩ = some (.int .i64 u) ∧ StoreP h ⟨t, 3, none⟩ (.int .i64 (IntKind.wrap .i64 (u + 1))) K := by
  obtain ⟨m, xs, a1, S1, a2, S2, lab, H⟩ := H
  refine ⟨_, cell_at H.blk rfl, storeP_blk H.blk (by simp) fun h1 c1 s1 o1 => ?_⟩
  rw [wrap_id (by omega) (by omega)] at c1
  obtain ⟨H1, st⟩ := H.field (s' := { s with over := s.over + 1 }) rfl rfl rfl c1 s1 o1
  exact hk h1 ⟨_, _, _, _, _, _, _, H1⟩ st
theorem Ct.bump4 (H : Ct h t X s) {K : Heap → Prop} (hs : s.gone ≤ 100000) (hk : ∀ h', Ct h' t X { s with gone := s.gone + 1 } → StepF X h X h' → K h') :
    ∃ (u : Int), hcell h ⟨t, 4, none⟩ = some (.int .i64 u) ∧ StoreP h ⟨t, 4, none⟩ (.int .i64 (IntKind.wrap .i64 (u + 1))) K := by
  obtain ⟨m, xs, a1, S1, a2, S2, lab, H⟩ := H
  refine ⟨_, cell_at H.blk rfl, storeP_blk H.blk (by simp) fun h1 c1 s1 o1 => ?_⟩
  rw [wrap_id (by omega) (by omega)] at c1
  obtain ⟨H1, st⟩ := H.field (s' := { s with gone := s.gone + 1 }) rfl rfl rfl c1 s1 o1
  exact hk h1 ⟨_, _, _, _, _, _, _, H1⟩ st
theorem ack_ok (H : Ct h t X s) (sm : Small s) (ha : s.acked ≤ 100000) (num ses : Int) (hk : ∀ h' X', Ct h' t X' (ackF s num ses) → StepF X h X' h' → R (.int .i64 (findE s.L num ses)) h') :
    CallsH Tryz.prog F.copies_Table_Ack #[.pointer (some ⟨t, 0, none⟩), .int .i64 num, .int .i64 ses] h R := by
  refine copies_Table_Ack.walk (find_ok H num ses fun q => ⟨_, _, rfl, JoinP.of fun J hJ => ?_⟩)
  by_cases e : findE s.L num ses = 0
  · rw [if_pos (by simpa using e)]
    refine remove_ok H sm num fun h1 X1 H1 st1 => ⟨rfl, H1.bump ha fun h2 H2 st2 => ?_⟩
    subst hJ
    exact hk h2 X1 (by unfold ackF; rw [if_pos e]; exact H2) (st1.trans st2)
  · rw [if_neg (by simpa using e)]
    subst hJ
    exact hk h X (by unfold ackF; rw [if_neg e]; exact H) (StepF.refl _ _)
def relF (s : CF) (n ses : Int) : CF := if findE s.L n ses = 0 then freeF s n.toNat else s
theorem release_ok (H : Ct h t X s) (sm : Small s) (num ses : Int) (hk : ∀ h' X', Ct h' t X' (relF s num ses) → StepF X h X' h' → R (.int .i64 (findE s.L num ses)) h') :
    CallsH Tryz.prog F.copies_Table_Release #[.pointer (some ⟨t, 0, none⟩), .int .i64 num, .int .i64 ses] h R := by
  refine copies_Table_Release.walk (find_ok H num ses fun q => ⟨_, _, rfl, JoinP.of fun J hJ => ?_⟩)
  by_cases e : findE s.L num ses = 0
  · rw [if_pos (by simpa using e)]
    obtain ⟨z, hz⟩ : ∃ z, getC s.L num = some z := by
      cases hg : getC s.L num with
      | none => unfold findE at e; rw [hg] at e; cases e
      | some z => exact ⟨z, rfl⟩
    obtain ⟨hzm, rfl⟩ := getC_some hz
    refine free_ok H sm hzm fun h1 X1 H1 st1 => ⟨rfl, ?_⟩
    subst hJ
    exact hk h1 X1 (by unfold relF; rw [if_pos e, Int.toNat_natCast]; exact H1) st1
  · rw [if_neg (by simpa using e)]
    subst hJ
    exact hk h X (by unfold relF; rw [if_neg e]; exact H) (StepF.refl _ _)
end Cps
end Go.Proofs.YtgccegnmggjkjaaGreatDoor
set_option maxRecDepth 100000
namespace Go.Proofs.YtgccegnmggjkjaaGreatDoor
open Go.Den Go.Heapq
namespace Cps
open Eid Alarm Fld
variable {h h' : Heap} {R : Value → Heap → Prop} {t : Nat} {X : Ft} {s s' : CF} {m a1 a2 : Nat} {xs : List CV} {S1 S2 S1' S2' : Nat → Prop} {lab : Nat → Option Nat} {p : Option Addr} {n c : Nat}
def mayC (x : Ev) (len : Nat) (till : Int) : Bool := rightE x && (!decide (x = Ev.zero) && (decide (1 ≤ len) && (decide (len ≤ 600) && decide (till ≤ 1099511627776))))
theorem isCopy_ok (x : Ev) {k : Int} (hk : ∀ h', Fr (fun _ => False) h h' → R (.bool (mayC x n k)) h') : CallsH Tryz.prog F.copies_isCopy #[ev5 x, .slice p n c, .int .u64 k] h R := by
  refine copies_isCopy.walk (eid_Eid.box fun b h1 eb hb f1 => eid_Eid.ld hb (Eid.right_ok x fun h2 f2 => ⟨_, rfl, ?_⟩))
  have K := hk h2 (f1.tt f2)
  unfold mayC at K
  by_cases q0 : rightE x = true
  · rw [if_pos q0]
    rw [q0, Bool.true_and] at K
    refine eid_Eid.ld (f2.get hb id) ⟨_, eqv' (y := .zero) (x := x) rfl rfl, ?_⟩
    by_cases q1 : x = .zero
    · rw [decide_eq_true q1, if_neg (by decide)]
      rw [decide_eq_true q1] at K; exact K
    · rw [decide_eq_false q1, if_pos (by decide)]
      rw [decide_eq_false q1, Bool.not_false, Bool.true_and] at K
      by_cases q2 : 1 ≤ n
      · rw [if_pos (decide_eq_true (by omega))]
        rw [decide_eq_true q2, Bool.true_and] at K
        by_cases q3 : n ≤ 600
        · rw [if_pos (decide_eq_true (by omega))]
          rw [decide_eq_true q3, Bool.true_and] at K; exact K
        · rw [if_neg (by simp; omega)]
          rw [decide_eq_false q3] at K; exact K
      · rw [if_neg (by simp; omega)]
        rw [decide_eq_false q2] at K; exact K
  · rw [if_neg q0]
    have q0 : rightE x = false := by simpa using q0
    rw [q0] at K; exact K
def ofL (L : List Cp) (x : Ev) : List Cp := L.filter (fun y => decide (y.e = x))
theorem of_len (H : Cm h t X s m xs a1 S1 a2 S2 lab) (x : Ev) : (xs.filter (fun y => decide (y.e = x))).length = (ofL s.L x).length := by
  unfold ofL
  rw [← H.abs, List.filter_map, List.length_map]; rfl
def addE (s : CF) (x : Ev) (d : List UInt8) (till : Nat) : Int := if mayC x d.length (till : Int) = true then (if (ofL s.L x).length ≥ 16 then 15 else 0) else 1
def addN (s : CF) (x : Ev) (d : List UInt8) (till : Nat) : Int := if addE s x d till = 0 then (s.next : Int) else 0
def addF (s : CF) (x : Ev) (d : List UInt8) (till : Nat) : CF := if addE s x d till = 0 then { s with L := s.L ++ [⟨s.next, x, d, till, 0, 0⟩], next := s.next + 1, E1 := setL s.E1 (s.next : Int) (till : Int) } else s
theorem add_ok (H : Ct h t X s) (sm : Small s) (hlt : ∀ z ∈ s.L, z.num < s.next) (hpos : 1 ≤ s.next) (x : Ev) {d : List UInt8} (till : Nat) {k : Int} (hk0 : k = (till : Int)) (hr : Row h p (bc d)) (hn : n = d.length) (hpm : d ≠ [] → ∀ a, p = some a → ¬ X.M a.block)
    (hk : ∀ h' X', Ct h' t X' (addF s x d till) → StepF X h X' h' → R (.tuple #[.int .i64 (addN s x d till), .int .i64 (addE s x d till)]) h') :
    CallsH Tryz.prog F.copies_Table_Add #[.pointer (some ⟨t, 0, none⟩), ev5 x, .slice p n c, .int .u64 k] h R := by
  subst hk0 hn
  obtain ⟨m, xs, a1, S1, a2, S2, lab, H⟩ := H
  have sn := sm.n
  have sl := sm.l
  have se := sm.e1
  have xl := H.len
  refine copies_Table_Add.walk (eid_Eid.box fun b h1 eb hb f1 => ?_)
  have H1 := H.on f1
  refine made_ok H1 ⟨_, rfl, ?_⟩
  rw [if_neg (by decide)]
  refine eid_Eid.ld hb (isCopy_ok x fun h3 f3 => ⟨_, rfl, ?_⟩)
  have F3 := f1.tt f3
  by_cases q0 : mayC x d.length (till : Int) = true
  · rw [q0, if_neg (by decide)]
    refine eid_Eid.ld (f3.get hb id) (of_ok (H.on F3) x (by omega) fun h4 p4 c4 o4 g4 f4 => ⟨_, _, _, rfl, ?_⟩)
    have F4 := F3.tt f4
    have H4 := H.on F4
    have hb4 := (f3.tt f4).get hb id
    rw [of_len H x]
    by_cases q1 : (ofL s.L x).length ≥ 16
    · rw [if_pos (decide_eq_true (by omega))]
      have e : addE s x d till = 15 := by unfold addE; rw [if_pos q0, if_pos q1]
      have e2 : addN s x d till = 0 := if_neg (by rw [e]; decide)
      have e3 : addF s x d till = s := if_neg (by rw [e]; decide)
      rw [e, e2, e3] at hk
      exact hk h4 X ⟨_, _, _, _, _, _, _, H4⟩ (StepF.of_no F4)
    · rw [if_neg (by simp; omega)]
      have e : addE s x d till = 0 := by unfold addE; rw [if_pos q0, if_neg q1]
      have e2 : addN s x d till = (s.next : Int) := if_pos e
      have e3 : addF s x d till = { s with L := s.L ++ [⟨s.next, x, d, till, 0, 0⟩], next := s.next + 1, E1 := setL s.E1 (s.next : Int) (till : Int) } := if_pos e
      rw [e, e2, e3] at hk
      have lb : b < h4.size := lt_of_get hb4
      have nb : ∀ {c}, lab c ≠ none → c ≠ b := fun {c} hc ec => by have := H.lsz c hc; omega
      refine ⟨_, cell_at H4.blk rfl, _, cell_at H4.blk rfl, storeP_blk H4.blk (by simp) fun h5 c5 s5 o5 => ?_⟩
      rw [wrap_id (by omega) (by omega)] at c5
      obtain ⟨H5, st5⟩ := H4.field (s' := { s with next := s.next + 1 }) rfl rfl rfl c5 s5 o5
      have hb5 : Ev.at h5 b x := by
        unfold Ev.at eid_Eid.at
        rw [o5 b (Ne.symm (nb (by rw [H.l0]; simp)))]; exact hb4
      have r5 : Row h5 p (bc d) := (hr.frame F4 (fun _ _ => id)).frame st5.fr (fun a ea => hpm (by rintro rfl; simp [mayC] at q0) a ea)
      refine ⟨_, cell_at H5.blk rfl, eid_Eid.ld hb5 (clone_ok r5 rfl (by
        unfold mayC at q0
        simp only [Bool.and_eq_true, decide_eq_true_eq] at q0
        omega) fun p6 c6 h6 o6 f6 g6 => ⟨_, _, _, rfl, ?_⟩)⟩
      refine ⟨eid_Eid.held (f6.get hb5 id), cell_at (f6.get H5.blk id) rfl, copies_Copy.box fun b7 h7 e7 hb7 f7 => ?_⟩
      have F7 := f6.tt f7
      have z5 : h5.size ≤ h6.size := f6.1
      refine ⟨eid_Eid.held (F7.get hb5 id), cell_at (F7.get H5.blk id) rfl, den_putP mapTy (H5.on F7).map (k := (s.next : Int)) fun h8 M8 s8 o8 => ?_⟩
      obtain ⟨X8, lab8, H8, st8⟩ := H5.add (s' := { s with L := s.L ++ [⟨s.next, x, d, till, 0, 0⟩], next := s.next + 1 }) (y := ⟨s.next, b7, x, ⟨p6, c6, d⟩, till, 0, 0⟩) F7 hb7 (by show h5.size ≤ b7; omega) ((o6.row').frame f7 (fun _ _ => id)) o6.le (fun c hc => ⟨g6 c hc, by have := o6.blk_lt hc; show c ≠ b7; omega, by have := o6.blk_lt hc; have := f7.1; omega⟩)
        (fun u hu => by
          have : u.abs ∈ s.L := by rw [← H.abs]; exact List.mem_map_of_mem hu
          exact hlt _ this) M8 s8 o8 rfl rfl rfl ⟨rfl, rfl, rfl, rfl⟩
      have hmay : may (s.next : Int) (till : Int) = true := by
        unfold mayC at q0
        simp only [Bool.and_eq_true, decide_eq_true_eq] at q0
        exact may_iff.2 ⟨by omega, by omega, by omega⟩
      refine ⟨_, cell_at H8.blk rfl, Alarm.set_ok H8.al1 (by show s.E1.length < _; omega) (s.next : Int) (till : Int) (by omega) (fun hm h9 S9 A9 g9 f9 => ⟨_, rfl, ?_⟩) (fun hm => absurd hmay (by rw [hm]; simp))⟩
      obtain ⟨X9, lab9, H9, st9, _⟩ := H8.alarm1 (s' := { s with L := s.L ++ [⟨s.next, x, d, till, 0, 0⟩], next := s.next + 1, E1 := setL s.E1 (s.next : Int) (till : Int) }) A9 g9 f9 rfl rfl rfl ⟨rfl, rfl, rfl, rfl⟩
      exact hk h9 X9 ⟨_, _, _, _, _, _, _, H9⟩ (StepF.no F4 (st5.trans (st8.trans st9)))
  · have q0 : mayC x d.length (till : Int) = false := by simpa using q0
    rw [q0, if_pos (by decide)]
    have e : addE s x d till = 1 := by unfold addE; rw [q0]; rfl
    have e2 : addN s x d till = 0 := if_neg (by rw [e]; decide)
    have e3 : addF s x d till = s := if_neg (by rw [e]; decide)
    rw [e, e2, e3] at hk
    exact hk h3 X ⟨_, _, _, _, _, _, _, H.on F3⟩ (StepF.of_no F3)
theorem counts_ok (H : Ct h t X s) (sm : Small s) (hk : ∀ h', Fr (fun _ => False) h h' → R (.agg #[.int .i64 ((s.next : Int) - 1), .int .i64 ((s.L.length : Int) - (s.E2.length : Int)), .int .i64 (s.E2.length : Int), .int .i64 (s.acked : Int), .int .i64 (s.over : Int), .int .i64 (s.gone : Int)]) h') :
    CallsH Tryz.prog F.copies_Table_Counts #[.pointer (some ⟨t, 0, none⟩)] h R := by
  obtain ⟨m, xs, a1, S1, a2, S2, lab, H⟩ := H
  have sn := sm.n
  have sl := sm.l
  have se := sm.e2
  have xl := H.len
  refine copies_Table_Counts.walk (a6_int.box fun b h1 eb hb f1 => ?_)
  have H1 := H.on f1
  refine made_ok H1 ⟨_, rfl, ?_⟩
  rw [if_neg (by decide)]
  refine ⟨_, cell_at H1.blk rfl, Alarm.len_ok H1.al2 ⟨_, rfl, _, cell_at H1.blk rfl, _, cell_at H1.blk rfl, _, lenV_P mapTy H1.map, _, cell_at H1.blk rfl, _, cell_at H1.blk rfl, _, cell_at H1.blk rfl, ?_⟩⟩
  refine a6_int.set hb fun g6 a6 s6 o6 => a6_int.ld a6 ?_
  have F6 : Fr (fun _ => False) h g6 := f1.fresh (S := fun y => y = b) ⟨by omega, fun y _ hn => o6 y hn⟩ (fun y e => by omega)
  have K := hk g6 F6
  rw [List.length_map, wrap_id (n := (s.next : Int) - 1) (by omega) (by omega), wrap_id (by omega) (by omega), xl]
  exact K
def remOver (s : CF) (k : Int) : CF := { remF s k with over := s.over + 1 }
def remGone (s : CF) (k : Int) : CF := { remF s k with gone := s.gone + 1 }
theorem Small.rem (sm : Small s) (k : Int) : Small (remF s k) :=
  ⟨sm.n, Nat.le_trans (List.length_filter_le _ _) sm.l, Nat.le_trans (dropK_len _ _) sm.e1, Nat.le_trans (dropK_len _ _) sm.e2⟩
theorem Small.free (sm : Small s) (k : Nat) : Small (freeF s k) :=
  ⟨sm.n, by show (setC s.L k 0 0).length ≤ _; unfold setC; rw [List.length_map]; exact sm.l, sm.e1, Nat.le_trans (dropK_len _ _) sm.e2⟩
def Held (s : CF) : Prop := ∀ k ∈ keys s.E2, ∃ z ∈ s.L, (z.num : Int) = k
theorem Held.rem (H : Held s) (k : Int) : Held (remF s k) := fun j hj => by
  unfold keys at hj
  obtain ⟨e, he, rfl⟩ := List.mem_map.1 hj
  obtain ⟨h1, h2⟩ := List.mem_filter.1 he
  have hne : e.1 ≠ k := by simpa using h2
  obtain ⟨z, hz, e2⟩ := H e.1 (List.mem_map_of_mem h1)
  exact ⟨z, List.mem_filter.2 ⟨hz, by simp [e2, hne]⟩, e2⟩
theorem setC_nums (L : List Cp) (n : Nat) (a : Int) (b : Nat) {z : Cp} (hz : z ∈ L) : ∃ y ∈ setC L n a b, y.num = z.num := by
  unfold setC
  refine ⟨_, List.mem_map_of_mem hz, ?_⟩
  split <;> rfl
theorem Ct.ring1 (H : Ct h t X s) (sm : Small s) (now : Int) (hk : ∀ h' X' p' c', Ct h' t X' { s with E1 := Alarm.rest s.E1 now } → StepF X h X' h' → Own h' p' (Alarm.due s.E1 now).length c' 1 (kc (Alarm.due s.E1 now)) → (∀ y, inBlk p' y → h.size ≤ y ∧ ¬ X'.M y) → R (.slice p' (Alarm.due s.E1 now).length c') h') :
    ∃ (u : Option Addr), hcell h ⟨t, 5, none⟩ = some (.pointer u) ∧ CallsH Tryz.prog F.alarm_Alarm_Ring #[.pointer u, .int .u64 now] h R := by
  obtain ⟨m, xs, a1, S1, a2, S2, lab, H⟩ := H
  have := sm.e1
  refine ⟨_, cell_at H.blk rfl, Alarm.ring_ok H.al1 (by omega) now fun h1 p1 c1 A1 o1 g1 f1 => ?_⟩
  obtain ⟨X', lab', H', st, hM⟩ := H.alarm1 (s' := { s with E1 := Alarm.rest s.E1 now }) A1 (fun c hc => .inl hc) f1 rfl rfl rfl ⟨rfl, rfl, rfl, rfl⟩
  refine hk h1 X' p1 c1 ⟨_, _, _, _, _, _, _, H'⟩ st o1 (fun y hy => ⟨g1 y hy, fun hm => ?_⟩)
  have hy := g1 y hy
  rcases hM y hm with h2 | h2
  · have := H.lsz y ((H.mm y).1 h2); omega
  · have := H.al1.lt h2; omega
theorem Ct.ring2 (H : Ct h t X s) (sm : Small s) (now : Int) (hk : ∀ h' X' p' c', Ct h' t X' { s with E2 := Alarm.rest s.E2 now } → StepF X h X' h' → Own h' p' (Alarm.due s.E2 now).length c' 1 (kc (Alarm.due s.E2 now)) → (∀ y, inBlk p' y → h.size ≤ y ∧ ¬ X'.M y) → R (.slice p' (Alarm.due s.E2 now).length c') h') :
    ∃ (u : Option Addr), hcell h ⟨t, 6, none⟩ = some (.pointer u) ∧ CallsH Tryz.prog F.alarm_Alarm_Ring #[.pointer u, .int .u64 now] h R := by
  obtain ⟨m, xs, a1, S1, a2, S2, lab, H⟩ := H
  have := sm.e2
  refine ⟨_, cell_at H.blk rfl, Alarm.ring_ok H.al2 (by omega) now fun h1 p1 c1 A1 o1 g1 f1 => ?_⟩
  obtain ⟨X', lab', H', st, hM⟩ := H.alarm2 (s' := { s with E2 := Alarm.rest s.E2 now }) A1 (fun c hc => .inl hc) f1 rfl rfl rfl ⟨rfl, rfl, rfl, rfl⟩
  refine hk h1 X' p1 c1 ⟨_, _, _, _, _, _, _, H'⟩ st o1 (fun y hy => ⟨g1 y hy, fun hm => ?_⟩)
  have hy := g1 y hy
  rcases hM y hm with h2 | h2
  · have := H.lsz y ((H.mm y).1 h2); omega
  · have := H.al2.lt h2; omega
structure Nums (h : Heap) (X : Ft) (p : Option Addr) (n c : Nat) (ks : List Int) : Prop where
  own : Own h p n c 1 (ks.map ienc)
  len : n = ks.length
  ap : ∀ y, inBlk p y → ¬ X.M y
theorem Nums.step {X' : Ft} {ks : List Int} (N : Nums h X p n c ks) (st : StepF X h X' h') : Nums h' X' p n c ks :=
  ⟨N.own.frame st.fr N.ap, N.len, fun y hy hm => by
    rcases st.newM y hm with h1 | h1
    · exact N.ap y hy h1
    · have := N.own.blk_lt hy; omega⟩
theorem Nums.at {K : Int → Prop} {ks : List Int} {i : Nat} {k : Int} (N : Nums h X p n c ks) (hi : ks[i]? = some k) (hk : K k) :
    ((0 : Int) ≤ (i : Int) ∧ (i : Int) < ((n : Nat) : Int)) ∧ onSome p fun a => ∃ t : Int, hcell h (a.add (Int.toNat (i : Int) * 1)) = some (.int .i64 t) ∧ K t := by
  have hl := (List.getElem?_eq_some_iff.1 hi).1
  have hn := N.len
  obtain ⟨ab, ao, e⟩ := N.own.addr (by omega)
  subst e
  refine ⟨⟨by omega, by omega⟩, onSome_some.2 ⟨k, ?_, hk⟩⟩
  rw [Int.toNat_natCast, Nat.mul_one]
  exact N.own.cell (by rw [List.getElem?_map, hi]; rfl)
theorem foldl_small {f : CF → Int → CF} (hf : ∀ s k, Small s → Small (f s k)) : ∀ (ks : List Int) (s : CF), Small s → Small (ks.foldl f s)
  | [], _, h => h
  | k :: ks, s, h => foldl_small hf ks (f s k) (hf s k h)
theorem over_fold : ∀ (ks : List Int) (s : CF), (ks.foldl remOver s).over = s.over + ks.length
  | [], _ => rfl
  | k :: ks, s => by rw [List.foldl_cons, over_fold ks, List.length_cons]; show s.over + 1 + ks.length = _; omega
theorem gone_fold : ∀ (ks : List Int) (s : CF), (ks.foldl remGone s).gone = s.gone + ks.length
  | [], _ => rfl
  | k :: ks, s => by rw [List.foldl_cons, gone_fold ks, List.length_cons]; show s.gone + 1 + ks.length = _; omega
theorem held_fold : ∀ (ks : List Int) (s : CF), Held s → Held (ks.foldl remOver s)
  | [], _, h => h
  | k :: ks, s, h => held_fold ks (remOver s k) (h.rem k)
theorem take_foldl {f : CF → Int → CF} {ks : List Int} {i : Nat} {k : Int} (hi : ks[i]? = some k) (s : CF) : (ks.take (i + 1)).foldl f s = f ((ks.take i).foldl f s) k := by
  rw [List.take_add_one, hi, List.foldl_append]; rfl
def passF (s : CF) (now : Int) : CF :=
  let s1 := (keys (Alarm.due s.E1 now)).foldl remOver { s with E1 := Alarm.rest s.E1 now }
  (keys (Alarm.due s1.E2 now)).foldl (fun s k => freeF s k.toNat) { s1 with E2 := Alarm.rest s1.E2 now }
theorem free_nums : ∀ (ks : List Int) (s : CF) (z : Cp), z ∈ s.L → ∃ y ∈ (ks.foldl (fun s k => freeF s k.toNat) s).L, y.num = z.num
  | [], s, z, hz => ⟨z, hz, rfl⟩
  | k :: ks, s, z, hz => by
    obtain ⟨y, hy, e⟩ := setC_nums s.L k.toNat 0 0 hz
    obtain ⟨u, hu, e2⟩ := free_nums ks (freeF s k.toNat) y hy
    exact ⟨u, hu, e2.trans e⟩
theorem rest_len (L : List E) (now : Int) : (Alarm.rest L now).length ≤ L.length := (List.dropWhile_sublist _).length_le
theorem pass_ok (H : Ct h t X s) (sm : Small s) (ho : s.over ≤ 40000) (hE : Held s) (now : Int)
    (hk : ∀ h' X' p' c', Ct h' t X' (passF s now) → StepF X h X' h' → Nums h' X' p' (Alarm.due s.E1 now).length c' (keys (Alarm.due s.E1 now)) → (∀ y, inBlk p' y → h.size ≤ y) → R (.slice p' (Alarm.due s.E1 now).length c') h') :
    CallsH Tryz.prog F.copies_Table_Pass #[.pointer (some ⟨t, 0, none⟩), .int .u64 now] h R := by
  have hdl : (Alarm.due s.E1 now).length ≤ s.E1.length := (List.takeWhile_sublist _).length_le
  have e1b := sm.e1
  have hm : ∀ {R : Value → Heap → Prop}, R (.bool true) h → CallsH Tryz.prog F.copies_Table_made #[.pointer (some ⟨t, 0, none⟩)] h R := fun hk => by
    obtain ⟨m, xs, a1, S1, a2, S2, lab, H⟩ := H
    exact made_ok H hk
  refine copies_Table_Pass.walk (hm ⟨_, rfl, ?_⟩)
  rw [if_neg (by decide)]
  refine H.ring1 sm now fun h2 X2 p2 c2 H2 st2 o2 g2 => ⟨_, _, _, rfl, ?_⟩
  have sm2 : Small { s with E1 := Alarm.rest s.E1 now } := ⟨sm.n, sm.l, Nat.le_trans (rest_len _ _) sm.e1, sm.e2⟩
  have kl : (keys (Alarm.due s.E1 now)).length = (Alarm.due s.E1 now).length := by unfold keys; rw [List.length_map]
  have N2 : Nums h2 X2 p2 (Alarm.due s.E1 now).length c2 (keys (Alarm.due s.E1 now)) := ⟨o2, kl.symm, fun y hy => (g2 y hy).2⟩
  have smR : ∀ (s : CF) k, Small s → Small (remOver s k) := fun s k h => ⟨(h.rem k).n, (h.rem k).l, (h.rem k).e1, (h.rem k).e2⟩
  refine ⟨fun u g => ∃ (i : Nat) (Xg : Ft), u = (i : Int) ∧ i ≤ (Alarm.due s.E1 now).length ∧ Ct g t Xg (((keys (Alarm.due s.E1 now)).take i).foldl remOver { s with E1 := Alarm.rest s.E1 now }) ∧ StepF X h Xg g ∧ Nums g Xg p2 (Alarm.due s.E1 now).length c2 (keys (Alarm.due s.E1 now)), fun u _ => (Alarm.due s.E1 now).length - u.toNat, ⟨0, X2, rfl, Nat.zero_le _, H2, st2, N2⟩, ?_⟩
  rintro _ g ⟨i, Xg, rfl, hi, Hg, stg, Ng⟩
  have smg := foldl_small smR ((keys (Alarm.due s.E1 now)).take i) _ sm2
  by_cases hlt : i < (Alarm.due s.E1 now).length
  · rw [if_pos (decide_eq_true (by omega))]
    have hki : (keys (Alarm.due s.E1 now))[i]? = some ((keys (Alarm.due s.E1 now))[i]'(by omega)) := List.getElem?_eq_getElem _
    generalize (keys (Alarm.due s.E1 now))[i]'(by omega) = k at hki
    refine Ng.at hki (remove_ok Hg smg k fun g3 X3 H3 st3 => ⟨rfl, H3.bump3 ?_ fun g4 H4 st4 => ?_⟩)
    · show (((keys (Alarm.due s.E1 now)).take i).foldl remOver { s with E1 := Alarm.rest s.E1 now }).over ≤ 100000
      rw [over_fold, List.length_take]
      show s.over + _ ≤ 100000
      omega
    · rw [wrap_id (by omega) (by omega)]
      refine ⟨⟨i + 1, X3, by omega, by omega, ?_, stg.trans (st3.trans st4), (Ng.step st3).step st4⟩, by show (Alarm.due s.E1 now).length - Int.toNat ((i : Int) + 1) < (Alarm.due s.E1 now).length - i; omega⟩
      rw [take_foldl hki]
      exact H4
  · rw [if_neg (by simp; omega)]
    obtain rfl : i = (Alarm.due s.E1 now).length := by omega
    have ta : (keys (Alarm.due s.E1 now)).take (Alarm.due s.E1 now).length = keys (Alarm.due s.E1 now) := List.take_of_length_le (by omega)
    rw [ta] at Hg smg
    have hE1 : Held ((keys (Alarm.due s.E1 now)).foldl remOver { s with E1 := Alarm.rest s.E1 now }) := held_fold _ _ hE
    generalize hs1 : (keys (Alarm.due s.E1 now)).foldl remOver { s with E1 := Alarm.rest s.E1 now } = s1 at Hg smg hE1
    refine Hg.ring2 smg now fun h6 X6 p6 c6 H6 st6 o6 g6 => ⟨_, _, _, rfl, ?_⟩
    have kl6 : (keys (Alarm.due s1.E2 now)).length = (Alarm.due s1.E2 now).length := by unfold keys; rw [List.length_map]
    have sm6 : Small { s1 with E2 := Alarm.rest s1.E2 now } := ⟨smg.n, smg.l, smg.e1, Nat.le_trans (rest_len _ _) smg.e2⟩
    have N6 : Nums h6 X6 p6 (Alarm.due s1.E2 now).length c6 (keys (Alarm.due s1.E2 now)) := ⟨o6, kl6.symm, fun y hy => (g6 y hy).2⟩
    have hd6 := smg.e2
    have hdl6 : (Alarm.due s1.E2 now).length ≤ s1.E2.length := (List.takeWhile_sublist _).length_le
    refine ⟨fun u g => ∃ (i : Nat) (Xg : Ft), u = (i : Int) ∧ i ≤ (Alarm.due s1.E2 now).length ∧ Ct g t Xg (((keys (Alarm.due s1.E2 now)).take i).foldl (fun s k => freeF s k.toNat) { s1 with E2 := Alarm.rest s1.E2 now }) ∧ StepF X h Xg g ∧ Nums g Xg p6 (Alarm.due s1.E2 now).length c6 (keys (Alarm.due s1.E2 now)) ∧ Nums g Xg p2 (Alarm.due s.E1 now).length c2 (keys (Alarm.due s.E1 now)), fun u _ => (Alarm.due s1.E2 now).length - u.toNat, ⟨0, X6, rfl, Nat.zero_le _, H6, stg.trans st6, N6, Ng.step st6⟩, ?_⟩
    rintro _ g7 ⟨j, X7, rfl, hj, H7, st7, N7, M7⟩
    have sm7 := foldl_small (f := fun s k => freeF s k.toNat) (fun s k h => h.free k.toNat) ((keys (Alarm.due s1.E2 now)).take j) _ sm6
    by_cases hlt : j < (Alarm.due s1.E2 now).length
    · rw [if_pos (decide_eq_true (by omega))]
      have hki : (keys (Alarm.due s1.E2 now))[j]? = some ((keys (Alarm.due s1.E2 now))[j]'(by omega)) := List.getElem?_eq_getElem _
      generalize (keys (Alarm.due s1.E2 now))[j]'(by omega) = k at hki
      have hkm : k ∈ keys s1.E2 := by
        have h1 := List.mem_of_getElem? hki
        unfold keys at h1 ⊢
        obtain ⟨e, he, rfl⟩ := List.mem_map.1 h1
        exact List.mem_map_of_mem ((List.takeWhile_sublist _).subset he)
      obtain ⟨z, hz, ez⟩ := hE1 k hkm
      obtain ⟨y, hy, ey⟩ := free_nums ((keys (Alarm.due s1.E2 now)).take j) { s1 with E2 := Alarm.rest s1.E2 now } z hz
      have eyk : k = (y.num : Int) := by rw [ey]; exact ez.symm
      refine N7.at hki ?_
      rw [eyk]
      refine free_ok H7 sm7 hy fun g8 X8 H8 st8 => ⟨rfl, ?_⟩
      rw [wrap_id (by omega) (by omega)]
      refine ⟨⟨j + 1, X8, by omega, by omega, ?_, st7.trans st8, N7.step st8, M7.step st8⟩, by show (Alarm.due s1.E2 now).length - Int.toNat ((j : Int) + 1) < (Alarm.due s1.E2 now).length - j; omega⟩
      rw [take_foldl hki, eyk, Int.toNat_natCast]
      exact H8
    · rw [if_neg (by simp; omega)]
      obtain rfl : j = (Alarm.due s1.E2 now).length := by omega
      rw [List.take_of_length_le (by omega)] at H7
      refine hk g7 X7 p2 c2 ?_ st7 M7 (fun y hy => (g2 y hy).1)
      unfold passF
      rw [hs1]
      exact H7
def dropF (s : CF) (x : Ev) : CF := ((ofL s.L x).map (fun z => (z.num : Int))).foldl remGone s
theorem of_nums (H : Cm h t X s m xs a1 S1 a2 S2 lab) (x : Ev) : nums (xs.filter (fun y => decide (y.e = x))) = (ofL s.L x).map (fun z => (z.num : Int)) := by
  unfold ofL nums
  rw [← H.abs, List.filter_map, List.map_map]; rfl
theorem drop_ok (H : Ct h t X s) (sm : Small s) (ho : s.gone ≤ 40000) (x : Ev)
    (hk : ∀ h' X' p' c', Ct h' t X' (dropF s x) → StepF X h X' h' → Nums h' X' p' (ofL s.L x).length c' ((ofL s.L x).map (fun z => (z.num : Int))) → (∀ y, inBlk p' y → h.size ≤ y) → R (.slice p' (ofL s.L x).length c') h') :
    CallsH Tryz.prog F.copies_Table_Drop #[.pointer (some ⟨t, 0, none⟩), ev5 x] h R := by
  have H0 := H
  obtain ⟨m, xs, a1, S1, a2, S2, lab, H⟩ := H
  have sl := sm.l
  have xl := H.len
  refine copies_Table_Drop.walk (eid_Eid.box fun b h1 eb hb f1 => eid_Eid.ld hb (of_ok (H.on f1) x (by omega) fun h2 p2 c2 o2 g2 f2 => ⟨_, _, _, rfl, ?_⟩))
  have F2 := f1.tt f2
  have z1 := f1.1
  rw [of_len H x, of_nums H x] at o2
  rw [of_len H x]
  have ol : (ofL s.L x).length ≤ s.L.length := List.length_filter_le _ _
  have kl : ((ofL s.L x).map (fun z => (z.num : Int))).length = (ofL s.L x).length := List.length_map _
  have N2 : Nums h2 X p2 (ofL s.L x).length c2 ((ofL s.L x).map (fun z => (z.num : Int))) := ⟨o2, kl.symm, fun y hy hm => by
    have h1 := g2 y hy
    have := H.lsz y ((H.mm y).1 hm)
    omega⟩
  have smR : ∀ (s : CF) k, Small s → Small (remGone s k) := fun s k h => ⟨(h.rem k).n, (h.rem k).l, (h.rem k).e1, (h.rem k).e2⟩
  refine ⟨fun u g => ∃ (i : Nat) (Xg : Ft), u = (i : Int) ∧ i ≤ (ofL s.L x).length ∧ Ct g t Xg ((((ofL s.L x).map (fun z => (z.num : Int))).take i).foldl remGone s) ∧ StepF X h Xg g ∧ Nums g Xg p2 (ofL s.L x).length c2 ((ofL s.L x).map (fun z => (z.num : Int))), fun u _ => (ofL s.L x).length - u.toNat, ⟨0, X, rfl, Nat.zero_le _, H0.on F2, StepF.of_no F2, N2⟩, ?_⟩
  rintro _ g ⟨i, Xg, rfl, hi, Hg, stg, Ng⟩
  have smg := foldl_small smR (((ofL s.L x).map (fun z => (z.num : Int))).take i) _ sm
  by_cases hlt : i < (ofL s.L x).length
  · rw [if_pos (decide_eq_true (by omega))]
    have hki : ((ofL s.L x).map (fun z => (z.num : Int)))[i]? = some (((ofL s.L x).map (fun z => (z.num : Int)))[i]'(by omega)) := List.getElem?_eq_getElem _
    generalize ((ofL s.L x).map (fun z => (z.num : Int)))[i]'(by omega) = k at hki
    refine Ng.at hki (remove_ok Hg smg k fun g3 X3 H3 st3 => ⟨rfl, H3.bump4 ?_ fun g4 H4 st4 => ?_⟩)
    · show ((((ofL s.L x).map (fun z => (z.num : Int))).take i).foldl remGone s).gone ≤ 100000
      rw [gone_fold, List.length_take]
      omega
    · rw [wrap_id (by omega) (by omega)]
      refine ⟨⟨i + 1, X3, by omega, by omega, ?_, stg.trans (st3.trans st4), (Ng.step st3).step st4⟩, by show (ofL s.L x).length - Int.toNat ((i : Int) + 1) < (ofL s.L x).length - i; omega⟩
      rw [take_foldl hki]
      exact H4
  · rw [if_neg (by simp; omega)]
    obtain rfl : i = (ofL s.L x).length := by omega
    rw [List.take_of_length_le (by omega)] at Hg
    exact hk g Xg p2 c2 Hg stg Ng (fun y hy => by have := g2 y hy; omega)
end Cps
end Go.Proofs.YtgccegnmggjkjaaGreatDoor
set_option maxRecDepth 100000
namespace Go.Proofs.YtgccegnmggjkjaaGreatDoor
open Go.Den Go.Heapq
namespace Cps
open Eid Alarm Fld
variable {h h' : Heap} {R : Value → Heap → Prop} {t : Nat} {X : Ft} {s s' : CF} {m a1 a2 : Nat} {xs : List CV} {S1 S2 S1' S2' : Nat → Prop} {lab : Nat → Option Nat} {p : Option Addr} {n c : Nat}
abbrev zeroC : Value := .agg #[.int .i64 0, .bool false, .int .u64 0, .int .u64 0, .string ⟨#[]⟩, .string ⟨#[]⟩, .slice none 0 0, .int .u64 0, .int .i64 0, .int .u64 0]
abbrev Cp.val (z : Cp) (p : Option Addr) (c : Nat) : Value := .agg #[.int .i64 (z.num : Int), .bool z.e.ipn, .int .u64 z.e.node, .int .u64 z.e.svc, .string z.e.host, .string z.e.dem, .slice p z.d.length c, .int .u64 (z.till : Int), .int .i64 z.ses, .int .u64 (z.dl : Int)]
def mayS (ses : Int) (dl : Nat) : Prop := 1 ≤ ses ∧ ses ≤ 1099511627776 ∧ dl ≤ 1099511627776
def leaseC (L : List Cp) (x : Ev) : Option Cp := (ofL L x).find? (fun z => decide (z.ses = 0))
def leaseF (s : CF) (z : Cp) (ses : Int) (dl : Nat) : CF := { s with L := setC s.L z.num ses dl, E2 := setL s.E2 (z.num : Int) (dl : Int) }
theorem session_ok {k : Int} (hk : R (.bool (decide (1 ≤ k ∧ k ≤ 1099511627776))) h) : CallsH Tryz.prog F.copies_isSession #[.int .i64 k] h R := by
  refine copies_isSession.walk ?_
  by_cases q : 1 ≤ k
  · have q' : k ≥ 1 := q
    simp only [q', decide_true, if_true]
    simp only [q, true_and] at hk
    exact hk
  · have q' : ¬ k ≥ 1 := q
    simp only [q', decide_false, Bool.false_eq_true, if_false]
    simp only [q, false_and, decide_false] at hk
    exact hk
theorem lease_ok (H : Ct h t X s) (sm : Small s) (hb : ∀ z ∈ s.L, 1 ≤ z.num ∧ z.num < s.next ∧ z.d.length ≤ 600) (x : Ev) (ses : Int) (dl : Nat) {k : Int} (hk0 : k = (dl : Int))
    (k1 : ¬ mayS ses dl → ∀ h', Fr (fun _ => False) h h' → R (.tuple #[zeroC, .int .i64 1]) h')
    (k2 : mayS ses dl → leaseC s.L x = none → ∀ h', Fr (fun _ => False) h h' → R (.tuple #[zeroC, .int .i64 4]) h')
    (k3 : mayS ses dl → ∀ z, leaseC s.L x = some z → ∀ h' X' p' c', Ct h' t X' (leaseF s z ses dl) → StepF X h X' h' → Row h' p' (bc z.d) → (∀ y, inBlk p' y → h.size ≤ y ∧ ¬ X'.M y) → R (.tuple #[({ z with ses := ses, dl := dl } : Cp).val p' c', .int .i64 0]) h') :
    CallsH Tryz.prog F.copies_Table_Lease #[.pointer (some ⟨t, 0, none⟩), ev5 x, .int .i64 ses, .int .u64 k] h R := by
  subst hk0
  obtain ⟨m, xs, a1, S1, a2, S2, lab, H⟩ := H
  have sn := sm.n
  have sl := sm.l
  have se := sm.e2
  have xl := H.len
  refine copies_Table_Lease.walk (eid_Eid.box fun b h1 e1 hb1 f1 => copies_Copy.box fun b2 h2 e2 hb2 f2 => ?_)
  have z1 := lt_of_get hb1
  have z2 := lt_of_get hb2
  have f12 := f1.tt f2
  have hb1 := f2.get hb1 id
  refine made_ok (H.on f12) ⟨_, rfl, ?_⟩
  rw [if_neg (by decide)]
  have hs1 := f1.1
  have fin : ∀ g (e : Int), Fr (fun _ => False) h2 g → (∀ h', Fr (fun _ => False) h h' → R (.tuple #[zeroC, .int .i64 e]) h') → copies_Copy.ST g ⟨b2, 0, none⟩ 0 false 0 0 (⟨#[]⟩ : ByteArray) (⟨#[]⟩ : ByteArray) none 0 0 0 0 0 fun g2 => copies_Copy.LD g2 ⟨b2, 0, none⟩ fun r_0 r_1 r_2 r_3 r_4 r_5 r_6_p r_6_l r_6_c r_7 r_8 r_9 =>
      R (.tuple #[.agg #[.int .i64 r_0, .bool r_1, .int .u64 r_2, .int .u64 r_3, .string r_4, .string r_5, .slice r_6_p r_6_l r_6_c, .int .u64 r_7, .int .i64 r_8, .int .u64 r_9], .int .i64 e]) g2 := fun g e fg hk =>
    copies_Copy.set (fg.get hb2 id) fun g2 a2 s2 o2 => copies_Copy.ld a2 (hk g2 ((f12.tt fg).fresh (S := fun y => y = b2) ⟨by omega, fun y _ hn => o2 y hn⟩ (fun y e => by omega)))
  refine JoinP.of fun J hJ => session_ok ⟨_, rfl, ?_⟩
  have bad : ¬ mayS ses dl → J true h2 := fun hn => by
    subst hJ
    simp only [if_true]
    exact fin h2 1 (Fr.refl _ _) (k1 hn)
  by_cases q1 : 1 ≤ ses ∧ ses ≤ 1099511627776
  · rw [decide_eq_true q1, if_neg (by decide)]
    by_cases q2 : (dl : Int) > 1099511627776
    · rw [decide_eq_true q2]
      exact bad (fun hm => by have := hm.2.2; omega)
    · rw [decide_eq_false q2]
      clear bad
      subst hJ
      simp only [Bool.false_eq_true, if_false]
      have hm : mayS ses dl := ⟨q1.1, q1.2, by omega⟩
      refine eid_Eid.ld hb1 (of_ok (H.on f12) x (by omega) fun h7 p7 c7 o7 g7 f7 => ⟨_, _, _, rfl, ?_⟩)
      have F7 := f12.tt f7
      have H7 := H.on F7
      have hb27 := f7.get hb2 id
      have hF : (xs.filter (fun y => decide (y.e = x))).map CV.abs = ofL s.L x := by unfold ofL; rw [← H.abs, List.filter_map]; rfl
      generalize hxf : xs.filter (fun y => decide (y.e = x)) = xf at o7 hF
      have nl : (nums xf).length = xf.length := by unfold nums; rw [List.length_map]
      have fl : xf.length ≤ xs.length := by rw [← hxf]; exact List.length_filter_le _ _
      refine ⟨fun u g => g = h7 ∧ ∃ i : Nat, u = (i : Int) ∧ i ≤ xf.length ∧ ∀ j y, j < i → xf[j]? = some y → y.ses ≠ 0, fun u _ => xf.length - u.toNat, ⟨rfl, 0, rfl, Nat.zero_le _, fun j y hj => by omega⟩, ?_⟩
      rintro _ h7 ⟨rfl, i, rfl, hi, hall⟩
      by_cases hlt : i < xf.length
      · rw [if_pos (decide_eq_true (by omega))]
        have hy : xf[i]? = some xf[i] := List.getElem?_eq_getElem hlt
        generalize xf[i] = y at hy
        have hym : y ∈ xs := by
          have := List.mem_of_getElem? hy
          rw [← hxf] at this
          exact (List.mem_filter.1 this).1
        obtain ⟨ab, ao, rfl⟩ := o7.addr (by omega)
        have cc := o7.cell (j := i) (v := ienc (y.num : Int)) (by rw [List.getElem?_map]; unfold nums; rw [List.getElem?_map, hy]; rfl)
        have L7 := look H7 hym
        have ca := H7.cps y hym
        simp only [Int.toNat_natCast, Nat.mul_one]
        refine ⟨⟨by omega, by omega⟩, onSome_some.2 ⟨_, cc, _, cell_at H7.blk rfl, _, L7, onSome_some.2 ⟨_, cell_at ca rfl, ?_⟩⟩⟩
        by_cases hs0 : y.ses = 0
        · rw [if_pos (by simpa using hs0)]
          have hpick : leaseC s.L x = some y.abs := by
            unfold leaseC
            rw [← hF, List.find?_map]
            have : xf.find? ((fun z : Cp => decide (z.ses = 0)) ∘ CV.abs) = some y := by
              rw [List.find?_eq_some_iff_getElem]
              refine ⟨by simp [CV.abs, hs0], i, hlt, (List.getElem?_eq_some_iff.1 hy).2, fun j hj => ?_⟩
              have hz := hall j (xf[j]'(by omega)) hj (List.getElem?_eq_getElem (by omega))
              have hz' : decide ((xf[j]'(by omega)).abs.ses = 0) = false := decide_eq_false hz
              show (!decide ((xf[j]'(by omega)).abs.ses = 0)) = true
              rw [hz']; rfl
            rw [this]; rfl
          have hbnd := hb y.abs (by rw [← H.abs]; exact List.mem_map_of_mem hym)
          have hn1 : 1 ≤ y.num := hbnd.1
          have hn2 : y.num < s.next := hbnd.2.1
          have hn3 : y.v.b.length ≤ 600 := hbnd.2.2
          refine onSome_some.2 (H7.lease (ses := ses) (dl := dl) hym fun h10 H10 st10 => ⟨_, cell_at H10.blk rfl, ?_⟩)
          have hmay : may (y.num : Int) (dl : Int) = true := may_iff.2 ⟨by omega, by omega, by omega⟩
          refine Alarm.set_ok H10.al2 (by show s.E2.length < _; omega) (y.num : Int) (dl : Int) (by omega) (fun _ h11 S11 A11 g11 f11 => ⟨_, rfl, ?_⟩) (fun hx => absurd hmay (by rw [hx]; simp))
          obtain ⟨X11, lab11, H11, st11, _⟩ := H10.alarm2 (s' := leaseF s y.abs ses dl) A11 g11 f11 rfl rfl rfl ⟨rfl, rfl, rfl, rfl⟩
          have hy' : ({ y with ses := ses, dl := dl } : CV) ∈ xs.map (fun z => if z.num = y.num then ({ y with ses := ses, dl := dl } : CV) else z) := List.mem_map.2 ⟨y, hym, if_pos rfl⟩
          have ca11 := H11.cps _ hy'
          have da11 := H11.dat _ hy'
          refine onSome_some.2 (copies_Copy.ld ca11 (copies_Copy.new fun b3 h13 e13 hb13 f13 => onSome_some.2 ⟨_, _, _, cell_at (f13.get ca11 id) rfl, clone_ok ((da11.row).frame f13 (fun _ _ => id)) rfl (by show y.v.b.length ≤ _; omega) fun p14 c14 h14 o14 f14 g14 => ⟨_, _, _, rfl, ?_⟩⟩))
          have stA := st10.trans st11
          have z11 : h7.size ≤ h11.size := stA.fr.1
          have z13 := f13.1
          refine storeP_blk (f14.get hb13 id) (by simp) fun h15 c15 s15 o15 => ?_
          have hb15 : copies_Copy.at h15 b3 (y.num : Int) y.e.ipn y.e.node y.e.svc y.e.host y.e.dem p14 y.v.b.length c14 (y.till : Int) ses (dl : Int) := c15
          refine copies_Copy.ld hb15 ?_
          have nM : ∀ y, y < h7.size → h.size ≤ y → ¬ X11.M y := fun y y1 y2 hm => by
            rcases stA.newM y hm with h3 | h3
            · have := H.lsz y ((H.mm y).1 h3); omega
            · omega
          have zb2 : b2 < h7.size := lt_of_get hb27
          have b2x : ¬ X.M b2 := fun hm => by have := H.lsz b2 ((H.mm b2).1 hm); omega
          have hb215 : copies_Copy.at h15 b2 0 false 0 0 ⟨#[]⟩ ⟨#[]⟩ none 0 0 0 0 0 := by
            have h3 := stA.fr.get hb27 b2x
            have h4 := (f13.tt f14).get h3 id
            have : b2 ≠ b3 := by omega
            unfold copies_Copy.at
            rw [o15 b2 this]; exact h4
          refine copies_Copy.set hb215 fun h16 c16 s16 o16 => copies_Copy.ld c16 ?_
          have o14p : ∀ y, inBlk p14 y → h13.size ≤ y := g14
          have fA : Fr (fun y => y = b3) h14 h15 := ⟨by omega, fun y _ hn => o15 y hn⟩
          have fB : Fr (fun y => y = b2) h15 h16 := ⟨by omega, fun y _ hn => o16 y hn⟩
          have b3lt : b3 < h13.size := lt_of_get hb13
          have row16 : Row h16 p14 (bc y.v.b) := ((o14.row').frame fA (fun a ea hm => by have := g14 a.block ⟨a, ea, rfl⟩; have hm : a.block = b3 := hm; omega)).frame fB (fun a ea hm => by have := g14 a.block ⟨a, ea, rfl⟩; have hm : a.block = b2 := hm; omega)
          have T11 : Ct h11 t X11 (leaseF s y.abs ses dl) := ⟨_, _, _, _, _, _, _, H11⟩
          have lt11 := fun y (hy : X11.M y ∨ X11.D y) => T11.lt y hy
          have T14 := T11.on (f13.tt f14)
          have T15 := T14.frame fA (fun y hy e => by have := lt11 y hy; omega)
          have d2 : ¬ (X11.M b2 ∨ X11.D b2) := fun hm => by
            rcases hm with hm | hm
            · exact nM b2 zb2 (by omega) hm
            · rcases stA.newD b2 hm with h3 | h3
              · have := (H.dd b2 h3).2; omega
              · omega
          have T16 := T15.frame fB (fun y hy e => d2 (e ▸ hy))
          have stC := StepF.no F7 stA
          have stB : StepF X h X11 h16 := by
            refine ⟨⟨by have := f14.1; have := stC.fr.1; omega, fun y hy hn => ?_⟩, stC.newM, stC.newD, stC.oldD⟩
            have := stC.fr.1
            rw [o16 y (by omega), o15 y (by omega), (f13.tt f14).2 y (by omega) id]
            exact stC.fr.2 y hy hn
          exact k3 hm y.abs hpick h16 X11 p14 c14 T16 stB row16 (fun y hy => ⟨by have := g14 y hy; have := F7.1; omega, fun hx => by have := lt11 y (.inl hx); have := g14 y hy; omega⟩)
        · rw [if_neg (by simpa using hs0), wrap_id (by omega) (by omega)]
          refine ⟨⟨by first | trivial | rfl, i + 1, by omega, by omega, fun j z hj hz => ?_⟩, by show xf.length - Int.toNat ((i : Int) + 1) < xf.length - i; omega⟩
          by_cases ej : j = i
          · subst ej; rw [hy] at hz; cases hz; exact hs0
          · exact hall j z (by omega) hz
      · rw [if_neg (by simp; omega)]
        refine fin h7 4 f7 (k2 hm ?_)
        unfold leaseC
        rw [← hF, List.find?_map]
        have : xf.find? ((fun z : Cp => decide (z.ses = 0)) ∘ CV.abs) = none := by
          rw [List.find?_eq_none]
          intro y hy
          obtain ⟨j, hj⟩ := List.getElem?_of_mem hy
          have := hall j y (by have := (List.getElem?_eq_some_iff.1 hj).1; omega) hj
          have h2 : decide (y.abs.ses = 0) = false := decide_eq_false this
          show ¬(decide (y.abs.ses = 0) = true)
          rw [h2]; decide
        rw [this]; rfl
  · rw [decide_eq_false q1, if_pos (by decide)]
    exact bad (fun hm => q1 ⟨hm.1, hm.2.1⟩)
end Cps
end Go.Proofs.YtgccegnmggjkjaaGreatDoor
set_option maxRecDepth 100000
namespace Go.Proofs.YtgccegnmggjkjaaGreatDoor
open Go.Den Go.Heapq
namespace Cps
open Eid Alarm Fld
variable {h h' : Heap} {t : Nat} {X X' : Ft} {s s' : CF} {p : Option Addr} {n c : Nat} {now : Int}
structure Ord (s : CF) : Prop where
  nd : (s.L.map Cp.num).Nodup
  o1 : Sorted s.E1
  o2 : Sorted s.E2
  n1 : (keys s.E1).Nodup
  n2 : (keys s.E2).Nodup
theorem Ct.ord (H : Ct h t X s) : Ord s := by
  obtain ⟨m, xs, a1, S1, a2, S2, lab, H⟩ := H
  refine ⟨?_, H.al1.sorted, H.al2.sorted, H.al1.nodup, H.al2.nodup⟩
  rw [← H.abs, List.map_map]
  exact H.so.imp (fun h => Nat.ne_of_lt h)
structure okC (s : CF) : Prop where
  bd : ∀ z ∈ s.L, 1 ≤ z.num ∧ z.num < s.next ∧ z.d.length ≤ 600
  sp : ∀ z ∈ s.L, 0 ≤ z.ses
  e1 : ∀ e, e ∈ s.E1 ↔ ∃ z ∈ s.L, e = ((z.num : Int), (z.till : Int))
  e2 : ∀ e, e ∈ s.E2 ↔ ∃ z ∈ s.L, z.ses ≠ 0 ∧ e = ((z.num : Int), (z.dl : Int))
  cnt : s.next = 1 + s.L.length + s.acked + s.over + s.gone
theorem Ord.inj (O : Ord s) {z y : Cp} (hz : z ∈ s.L) (hy : y ∈ s.L) (e : z.num = y.num) : z = y := by
  obtain ⟨i, hi⟩ := List.getElem?_of_mem hz
  obtain ⟨j, hj⟩ := List.getElem?_of_mem hy
  have li := (List.getElem?_eq_some_iff.1 hi).1
  by_cases hij : i = j
  · subst hij; rw [hi] at hj; exact Option.some.inj hj
  · exfalso
    have h1 : (s.L.map Cp.num)[i]? = some z.num := by rw [List.getElem?_map, hi]; rfl
    have h2 : (s.L.map Cp.num)[j]? = some y.num := by rw [List.getElem?_map, hj]; rfl
    have : i = j := (List.getElem?_inj (by rw [List.length_map]; exact li) O.nd).1 (h1.trans ((congrArg some e).trans h2.symm))
    exact hij this
theorem dropK_mem {L : List E} {k : Int} {e : E} : e ∈ dropK L k ↔ e ∈ L ∧ e.1 ≠ k := by unfold dropK; simp [List.mem_filter]
theorem setL_mem {L : List E} {k v : Int} {e : E} : e ∈ setL L k v ↔ e = (k, v) ∨ (e ∈ L ∧ e.1 ≠ k) := by
  unfold setL
  rw [(insertS_perm _ _).mem_iff, List.mem_cons, dropK_mem]
theorem delL_mem {L : List Cp} {k : Int} {z : Cp} : z ∈ delL L k ↔ z ∈ L ∧ (z.num : Int) ≠ k := by unfold delL; simp [List.mem_filter]
theorem setC_mem {L : List Cp} {n : Nat} {a : Int} {b : Nat} {z : Cp} : z ∈ setC L n a b ↔ ∃ y ∈ L, z = if y.num = n then { y with ses := a, dl := b } else y := by
  unfold setC; rw [List.mem_map]
  exact ⟨fun ⟨y, h1, h2⟩ => ⟨y, h1, h2.symm⟩, fun ⟨y, h1, h2⟩ => ⟨y, h1, h2.symm⟩⟩
theorem setC_len (L : List Cp) (n : Nat) (a : Int) (b : Nat) : (setC L n a b).length = L.length := by unfold setC; rw [List.length_map]
theorem del_len : ∀ {L : List Cp}, (L.map Cp.num).Nodup → ∀ {z : Cp}, z ∈ L → (delL L (z.num : Int)).length + 1 = L.length
  | [], _, z, hz => by cases hz
  | y :: l, nd, z, hz => by
    rw [List.map_cons, List.nodup_cons] at nd
    unfold delL
    rw [List.filter_cons]
    rcases List.mem_cons.1 hz with rfl | hz
    · rw [if_neg (by simp), List.filter_eq_self.2 (fun x hx => ?_), List.length_cons]
      have : x.num ≠ z.num := fun e => nd.1 (by rw [← e]; exact List.mem_map_of_mem hx)
      simp; omega
    · have hne : y.num ≠ z.num := fun e => nd.1 (by rw [e]; exact List.mem_map_of_mem hz)
      rw [if_pos (by simp; omega), List.length_cons, List.length_cons]
      have := del_len nd.2 hz
      unfold delL at this
      omega
theorem okC.add (ok : okC s) (x : Ev) (d : List UInt8) (till : Nat) : okC (addF s x d till) := by
  unfold addF
  by_cases he : addE s x d till = 0
  · rw [if_pos he]
    have hd : d.length ≤ 600 := by
      unfold addE at he
      split at he
      · rename_i hm
        unfold mayC at hm
        simp only [Bool.and_eq_true, decide_eq_true_eq] at hm
        exact hm.2.2.2.1
      · cases he
    refine ⟨fun z hz => ?_, fun z hz => ?_, fun e => ?_, fun e => ?_, ?_⟩
    · rcases List.mem_append.1 hz with hz | hz
      · have := ok.bd z hz; exact ⟨this.1, Nat.lt_succ_of_lt this.2.1, this.2.2⟩
      · obtain rfl := List.mem_singleton.1 hz
        exact ⟨by have := ok.cnt; show 1 ≤ s.next; omega, Nat.lt_succ_self _, hd⟩
    · rcases List.mem_append.1 hz with hz | hz
      · exact ok.sp z hz
      · obtain rfl := List.mem_singleton.1 hz
        exact Int.le_refl _
    · show e ∈ setL s.E1 _ _ ↔ ∃ z ∈ s.L ++ [_], _
      rw [setL_mem, ok.e1]
      constructor
      · rintro (rfl | ⟨⟨z, hz, rfl⟩, _⟩)
        · exact ⟨_, List.mem_append.2 (.inr (List.mem_singleton.2 rfl)), rfl⟩
        · exact ⟨z, List.mem_append.2 (.inl hz), rfl⟩
      · rintro ⟨z, hz, rfl⟩
        rcases List.mem_append.1 hz with hz | hz
        · exact .inr ⟨⟨z, hz, rfl⟩, by have := (ok.bd z hz).2.1; show (z.num : Int) ≠ _; omega⟩
        · obtain rfl := List.mem_singleton.1 hz; exact .inl rfl
    · show e ∈ s.E2 ↔ ∃ z ∈ s.L ++ [_], _
      rw [ok.e2]
      constructor
      · rintro ⟨z, hz, h2⟩; exact ⟨z, List.mem_append.2 (.inl hz), h2⟩
      · rintro ⟨z, hz, h2⟩
        rcases List.mem_append.1 hz with hz | hz
        · exact ⟨z, hz, h2⟩
        · obtain rfl := List.mem_singleton.1 hz; exact absurd rfl h2.1
    · have := ok.cnt
      show s.next + 1 = 1 + (s.L ++ [_]).length + s.acked + s.over + s.gone
      rw [List.length_append, List.length_singleton]; omega
  · rw [if_neg he]; exact ok
theorem okC.rem (ok : okC s) (O : Ord s) {z : Cp} (hz : z ∈ s.L) (hL : s'.L = delL s.L (z.num : Int)) (h1 : s'.E1 = dropK s.E1 (z.num : Int)) (h2 : s'.E2 = dropK s.E2 (z.num : Int)) (hn : s'.next = s.next) (hc : s'.acked + s'.over + s'.gone = s.acked + s.over + s.gone + 1) : okC s' := by
  refine ⟨fun y hy => ?_, fun y hy => ?_, fun e => ?_, fun e => ?_, ?_⟩
  · rw [hL, delL_mem] at hy; rw [hn]; exact ok.bd y hy.1
  · rw [hL, delL_mem] at hy; exact ok.sp y hy.1
  · rw [h1, dropK_mem, ok.e1, hL]
    constructor
    · rintro ⟨⟨y, hy, rfl⟩, hne⟩; exact ⟨y, delL_mem.2 ⟨hy, hne⟩, rfl⟩
    · rintro ⟨y, hy, rfl⟩; have := delL_mem.1 hy; exact ⟨⟨y, this.1, rfl⟩, this.2⟩
  · rw [h2, dropK_mem, ok.e2, hL]
    constructor
    · rintro ⟨⟨y, hy, hs, rfl⟩, hne⟩; exact ⟨y, delL_mem.2 ⟨hy, hne⟩, hs, rfl⟩
    · rintro ⟨y, hy, hs, rfl⟩; have := delL_mem.1 hy; exact ⟨⟨y, this.1, hs, rfl⟩, this.2⟩
  · have := del_len O.nd hz
    have := ok.cnt
    rw [hn, hL]; omega
theorem findE_ok {L : List Cp} {k ses : Int} (h : findE L k ses = 0) : ∃ z ∈ L, (z.num : Int) = k ∧ z.ses = ses ∧ ses ≠ 0 := by
  unfold findE at h
  cases hg : getC L k with
  | none => rw [hg] at h; cases h
  | some z =>
    rw [hg] at h
    dsimp only at h
    split at h
    · cases h
    · rename_i hn
      obtain ⟨h1, h2⟩ := getC_some hg
      refine ⟨z, h1, h2, ?_, ?_⟩ <;> (simp only [not_or, Decidable.not_not] at hn)
      · exact hn.2
      · rw [← hn.2]; exact hn.1
theorem okC.ack (ok : okC s) (O : Ord s) (k ses : Int) : okC (ackF s k ses) := by
  unfold ackF
  by_cases he : findE s.L k ses = 0
  · rw [if_pos he]
    obtain ⟨z, hz, rfl, _, _⟩ := findE_ok he
    exact ok.rem O hz rfl rfl rfl rfl (by show s.acked + 1 + s.over + s.gone = _; omega)
  · rw [if_neg he]; exact ok
theorem okC.set (ok : okC s) (O : Ord s) {z : Cp} (hz : z ∈ s.L) {a : Int} {b : Nat} (ha : 0 ≤ a) (hL : s'.L = setC s.L z.num a b) (h1 : s'.E1 = s.E1) (h2 : ∀ e, e ∈ s'.E2 ↔ (a ≠ 0 ∧ e = ((z.num : Int), (b : Int))) ∨ (e ∈ s.E2 ∧ e.1 ≠ (z.num : Int))) (hn : s'.next = s.next) (hc : s'.acked + s'.over + s'.gone = s.acked + s.over + s.gone) : okC s' := by
  refine ⟨fun y hy => ?_, fun y hy => ?_, fun e => ?_, fun e => ?_, ?_⟩
  · rw [hL, setC_mem] at hy
    obtain ⟨u, hu, rfl⟩ := hy
    rw [hn]
    have := ok.bd u hu
    split <;> exact this
  · rw [hL, setC_mem] at hy
    obtain ⟨u, hu, rfl⟩ := hy
    split
    · exact ha
    · exact ok.sp u hu
  · rw [h1, ok.e1, hL]
    constructor
    · rintro ⟨y, hy, rfl⟩
      refine ⟨_, setC_mem.2 ⟨y, hy, rfl⟩, ?_⟩
      split <;> rfl
    · rintro ⟨y, hy, rfl⟩
      obtain ⟨u, hu, rfl⟩ := setC_mem.1 hy
      refine ⟨u, hu, ?_⟩
      split <;> rfl
  · rw [h2, ok.e2, hL]
    constructor
    · rintro (⟨h3, rfl⟩ | ⟨⟨y, hy, h4, rfl⟩, h5⟩)
      · refine ⟨_, setC_mem.2 ⟨z, hz, rfl⟩, ?_⟩
        rw [if_pos rfl]; exact ⟨h3, rfl⟩
      · refine ⟨_, setC_mem.2 ⟨y, hy, rfl⟩, ?_⟩
        rw [if_neg (fun e => h5 (by rw [e]))]; exact ⟨h4, rfl⟩
    · rintro ⟨y, hy, h4, rfl⟩
      obtain ⟨u, hu, rfl⟩ := setC_mem.1 hy
      by_cases e : u.num = z.num
      · rw [if_pos e] at h4 ⊢
        exact .inl ⟨h4, by rw [← e]⟩
      · rw [if_neg e] at h4 ⊢
        exact .inr ⟨⟨u, hu, h4, rfl⟩, by show (u.num : Int) ≠ _; omega⟩
  · have := ok.cnt
    rw [hn, hL, setC_len]; omega
theorem okC.rel (ok : okC s) (O : Ord s) (k ses : Int) : okC (relF s k ses) := by
  unfold relF
  by_cases he : findE s.L k ses = 0
  · rw [if_pos he]
    obtain ⟨z, hz, rfl, _, _⟩ := findE_ok he
    rw [Int.toNat_natCast]
    refine ok.set O hz (Int.le_refl 0) rfl rfl (fun e => ?_) rfl rfl
    show e ∈ dropK _ _ ↔ _
    rw [dropK_mem]
    simp
  · rw [if_neg he]; exact ok
theorem leaseC_mem {L : List Cp} {x : Ev} {z : Cp} (h : leaseC L x = some z) : z ∈ L ∧ z.e = x ∧ z.ses = 0 := by
  unfold leaseC ofL at h
  have h1 := List.mem_of_find?_eq_some h
  have h2 := List.find?_some h
  rw [List.mem_filter] at h1
  exact ⟨h1.1, by simpa using h1.2, by simpa using h2⟩
theorem okC.lease (ok : okC s) (O : Ord s) {z : Cp} (hz : z ∈ s.L) {ses : Int} {dl : Nat} (hm : mayS ses dl) : okC (leaseF s z ses dl) := by
  have h1 := hm.1
  refine ok.set O hz (by omega) rfl rfl (fun e => ?_) rfl rfl
  show e ∈ setL _ _ _ ↔ _
  rw [setL_mem]
  have : ses ≠ 0 := by omega
  simp [this]
end Cps
end Go.Proofs.YtgccegnmggjkjaaGreatDoor
set_option maxRecDepth 100000
namespace Go.Proofs.YtgccegnmggjkjaaGreatDoor
open Go.Den Go.Heapq
namespace Cps
open Eid Alarm Fld
variable {h h' : Heap} {t : Nat} {X X' : Ft} {s s' : CF} {p : Option Addr} {n c : Nat} {now : Int}
theorem sorted_split : ∀ {L : List E}, Sorted L → Alarm.due L now = L.filter (isDue now) ∧ Alarm.rest L now = L.filter (fun e => !isDue now e)
  | [], _ => ⟨rfl, rfl⟩
  | e :: r, hs => by
    have hs' := List.pairwise_cons.1 hs
    obtain ⟨i1, i2⟩ := sorted_split (L := r) hs'.2
    unfold Alarm.due at i1 ⊢
    unfold Alarm.rest at i2 ⊢
    by_cases he : isDue now e = true
    · rw [List.takeWhile_cons, List.dropWhile_cons, List.filter_cons, List.filter_cons, he]
      simp only [if_true, Bool.not_true, Bool.false_eq_true, if_false]
      rw [i1, i2]
      exact ⟨rfl, rfl⟩
    · have he' : isDue now e = false := by simpa using he
      have all : ∀ x ∈ r, isDue now x = false := by
        intro x hx
        have h1 := hs'.1 x hx
        unfold isDue at he' ⊢
        have h2 := of_decide_eq_false he'
        apply decide_eq_false
        rcases h1 with h1 | h1 <;> omega
      rw [List.takeWhile_cons, List.dropWhile_cons, List.filter_cons, List.filter_cons, he']
      simp only [Bool.false_eq_true, if_false, Bool.not_false, if_true]
      refine ⟨?_, ?_⟩
      · symm; rw [List.filter_eq_nil_iff]; intro x hx; rw [all x hx]; simp
      · congr 1; symm; rw [List.filter_eq_self]; intro x hx; rw [all x hx]; rfl
def outC (L : List Cp) (ks : List Int) : List Cp := L.filter (fun z => !decide ((z.num : Int) ∈ ks))
def outE (L : List E) (ks : List Int) : List E := L.filter (fun e => !decide (e.1 ∈ ks))
theorem outC_nil (L : List Cp) : outC L [] = L := by unfold outC; exact List.filter_eq_self.2 (fun _ _ => by simp)
theorem outE_nil (L : List E) : outE L [] = L := by unfold outE; exact List.filter_eq_self.2 (fun _ _ => by simp)
theorem outC_cons (L : List Cp) (k : Int) (ks : List Int) : outC (delL L k) ks = outC L (k :: ks) := by
  unfold outC delL
  rw [List.filter_filter]
  apply List.filter_congr
  intro x _
  by_cases h1 : (x.num : Int) = k
  · simp [h1]
  · by_cases h2 : (x.num : Int) ∈ ks <;> simp [h1, h2]
theorem outE_cons (L : List E) (k : Int) (ks : List Int) : outE (dropK L k) ks = outE L (k :: ks) := by
  unfold outE dropK
  rw [List.filter_filter]
  apply List.filter_congr
  intro x _
  by_cases h1 : x.1 = k
  · simp [h1]
  · by_cases h2 : x.1 ∈ ks <;> simp [h1, h2]
theorem fold_over : ∀ (ks : List Int) (s : CF), ks.foldl remOver s = { s with L := outC s.L ks, E1 := outE s.E1 ks, E2 := outE s.E2 ks, over := s.over + ks.length }
  | [], s => by rw [outC_nil, outE_nil, outE_nil]; rfl
  | k :: ks, s => by
    rw [List.foldl_cons, fold_over ks]
    unfold remOver remF
    dsimp only
    rw [outC_cons, outE_cons, outE_cons, List.length_cons]
    congr 1; omega
theorem fold_gone : ∀ (ks : List Int) (s : CF), ks.foldl remGone s = { s with L := outC s.L ks, E1 := outE s.E1 ks, E2 := outE s.E2 ks, gone := s.gone + ks.length }
  | [], s => by rw [outC_nil, outE_nil, outE_nil]; rfl
  | k :: ks, s => by
    rw [List.foldl_cons, fold_gone ks]
    unfold remGone remF
    dsimp only
    rw [outC_cons, outE_cons, outE_cons, List.length_cons]
    congr 1; omega
def freeC (L : List Cp) (ks : List Int) : List Cp := L.map (fun z => if (z.num : Int) ∈ ks then { z with ses := 0, dl := 0 } else z)
theorem fold_free : ∀ (ks : List Int) (s : CF), (∀ k ∈ ks, 0 ≤ k) → ks.foldl (fun s k => freeF s k.toNat) s = { s with L := freeC s.L ks, E2 := outE s.E2 ks }
  | [], s, _ => by
    rw [outE_nil]
    have : freeC s.L [] = s.L := by unfold freeC; simp
    rw [this]; rfl
  | k :: ks, s, hp => by
    rw [List.foldl_cons, fold_free ks _ (fun j hj => hp j (List.mem_cons_of_mem _ hj))]
    have hk := hp k (by simp)
    unfold freeF
    dsimp only
    have e : ((k.toNat : Nat) : Int) = k := by omega
    rw [e, outE_cons]
    have : freeC (setC s.L k.toNat 0 0) ks = freeC s.L (k :: ks) := by
      unfold freeC setC
      rw [List.map_map]
      apply List.map_congr_left
      intro x _
      show (fun z : Cp => if (z.num : Int) ∈ ks then ({ z with ses := 0, dl := 0 } : Cp) else z) (if x.num = k.toNat then ({ x with ses := 0, dl := 0 } : Cp) else x) = _
      by_cases h1 : x.num = k.toNat
      · have h1' : (x.num : Int) = k := by omega
        rw [if_pos h1, if_pos (show (x.num : Int) ∈ k :: ks by rw [h1']; simp)]
        dsimp only
        split <;> rfl
      · have h1' : (x.num : Int) ≠ k := by omega
        rw [if_neg h1]
        dsimp only
        by_cases h2 : (x.num : Int) ∈ ks
        · rw [if_pos h2, if_pos (List.mem_cons_of_mem _ h2)]
        · rw [if_neg h2, if_neg (by simp [h1', h2])]
    rw [this]
theorem out_len : ∀ (ks : List Int) (L : List Cp), (L.map Cp.num).Nodup → ks.Nodup → (∀ k ∈ ks, ∃ z ∈ L, (z.num : Int) = k) → (outC L ks).length + ks.length = L.length
  | [], L, _, _, _ => by rw [outC_nil]; rfl
  | k :: ks, L, nd, nk, hk => by
    obtain ⟨z, hz, rfl⟩ := hk k (by simp)
    rw [← outC_cons, List.length_cons]
    have h1 := del_len nd hz
    have nk' := List.nodup_cons.1 nk
    have h2 := out_len ks (delL L (z.num : Int)) (List.Pairwise.sublist (List.Sublist.map _ List.filter_sublist) nd) nk'.2 (fun j hj => by
      obtain ⟨y, hy, e⟩ := hk j (List.mem_cons_of_mem _ hj)
      exact ⟨y, delL_mem.2 ⟨hy, fun e2 => nk'.1 (by rw [← e2, e]; exact hj)⟩, e⟩)
    omega
theorem outC_mem {L : List Cp} {ks : List Int} {z : Cp} : z ∈ outC L ks ↔ z ∈ L ∧ (z.num : Int) ∉ ks := by unfold outC; simp [List.mem_filter]
theorem outE_mem {L : List E} {ks : List Int} {e : E} : e ∈ outE L ks ↔ e ∈ L ∧ e.1 ∉ ks := by unfold outE; simp [List.mem_filter]
theorem freeC_mem {L : List Cp} {ks : List Int} {z : Cp} : z ∈ freeC L ks ↔ ∃ y ∈ L, z = if (y.num : Int) ∈ ks then { y with ses := 0, dl := 0 } else y := by
  unfold freeC; rw [List.mem_map]
  exact ⟨fun ⟨y, h1, h2⟩ => ⟨y, h1, h2.symm⟩, fun ⟨y, h1, h2⟩ => ⟨y, h1, h2.symm⟩⟩
theorem of_nodup (O : Ord s) (x : Ev) : ((ofL s.L x).map (fun z => (z.num : Int))).Nodup := by
  have : ((ofL s.L x).map Cp.num).Nodup := List.Pairwise.sublist (List.Sublist.map _ List.filter_sublist) O.nd
  have e : (ofL s.L x).map (fun z => (z.num : Int)) = ((ofL s.L x).map Cp.num).map (fun n : Nat => (n : Int)) := by rw [List.map_map]; rfl
  rw [e]
  exact List.Pairwise.map _ (fun a b h => by omega) this
theorem okC.outs (ok : okC s) (O : Ord s) {ks : List Int} (nk : ks.Nodup) (hk : ∀ k ∈ ks, ∃ z ∈ s.L, (z.num : Int) = k) (hL : s'.L = outC s.L ks) (h1 : s'.E1 = outE s.E1 ks) (h2 : s'.E2 = outE s.E2 ks) (hn : s'.next = s.next) (hc : s'.acked + s'.over + s'.gone = s.acked + s.over + s.gone + ks.length) : okC s' := by
  refine ⟨fun y hy => ?_, fun y hy => ?_, fun e => ?_, fun e => ?_, ?_⟩
  · rw [hL, outC_mem] at hy; rw [hn]; exact ok.bd y hy.1
  · rw [hL, outC_mem] at hy; exact ok.sp y hy.1
  · rw [h1, outE_mem, ok.e1, hL]
    constructor
    · rintro ⟨⟨y, hy, rfl⟩, hne⟩; exact ⟨y, outC_mem.2 ⟨hy, hne⟩, rfl⟩
    · rintro ⟨y, hy, rfl⟩; have := outC_mem.1 hy; exact ⟨⟨y, this.1, rfl⟩, this.2⟩
  · rw [h2, outE_mem, ok.e2, hL]
    constructor
    · rintro ⟨⟨y, hy, hs, rfl⟩, hne⟩; exact ⟨y, outC_mem.2 ⟨hy, hne⟩, hs, rfl⟩
    · rintro ⟨y, hy, hs, rfl⟩; have := outC_mem.1 hy; exact ⟨⟨y, this.1, hs, rfl⟩, this.2⟩
  · have := out_len ks s.L O.nd nk hk
    have := ok.cnt
    rw [hn, hL]; omega
theorem okC.drop (ok : okC s) (O : Ord s) (x : Ev) : okC (dropF s x) := by
  unfold dropF
  rw [fold_gone]
  refine ok.outs O (of_nodup O x) (fun k hk => ?_) rfl rfl rfl rfl (by show s.acked + s.over + (s.gone + _) = _; omega)
  obtain ⟨z, hz, e⟩ := List.mem_map.1 hk
  exact ⟨z, (List.mem_filter.1 hz).1, e⟩
theorem due_mem (O : Ord s) {e : E} : e ∈ Alarm.due s.E1 now ↔ e ∈ s.E1 ∧ e.2 ≤ now := by
  rw [(sorted_split O.o1).1, List.mem_filter]
  unfold isDue
  simp
theorem due_nodup (O : Ord s) (now : Int) : (keys (Alarm.due s.E1 now)).Nodup := by
  unfold keys
  exact List.Pairwise.sublist (List.Sublist.map _ (List.takeWhile_sublist _)) O.n1
theorem due_num (ok : okC s) (O : Ord s) {z : Cp} (hz : z ∈ s.L) : (z.num : Int) ∈ keys (Alarm.due s.E1 now) ↔ (z.till : Int) ≤ now := by
  unfold keys
  rw [List.mem_map]
  constructor
  · rintro ⟨e, he, e1⟩
    obtain ⟨h1, h2⟩ := (due_mem O).1 he
    obtain ⟨y, hy, rfl⟩ := (ok.e1 e).1 h1
    obtain rfl := O.inj hy hz (Int.ofNat.inj e1)
    exact h2
  · intro h; exact ⟨(z.num, z.till), (due_mem O).2 ⟨(ok.e1 _).2 ⟨z, hz, rfl⟩, h⟩, rfl⟩
theorem due_in (ok : okC s) (O : Ord s) {k : Int} (hk : k ∈ keys (Alarm.due s.E1 now)) : ∃ z ∈ s.L, (z.num : Int) = k := by
  unfold keys at hk
  obtain ⟨e, he, rfl⟩ := List.mem_map.1 hk
  obtain ⟨z, hz, rfl⟩ := (ok.e1 e).1 ((due_mem O).1 he).1
  exact ⟨z, hz, rfl⟩
theorem outE_rest (O : Ord s) : outE (Alarm.rest s.E1 now) (keys (Alarm.due s.E1 now)) = outE s.E1 (keys (Alarm.due s.E1 now)) := by
  rw [(sorted_split O.o1).1, (sorted_split O.o1).2]
  unfold outE keys
  rw [List.filter_filter]
  apply List.filter_congr
  intro e he
  by_cases hd : isDue now e = true
  · have : e.1 ∈ (s.E1.filter (isDue now)).map (·.1) := List.mem_map_of_mem (List.mem_filter.2 ⟨he, hd⟩)
    simp only [this, decide_true, Bool.not_true, Bool.false_and]
  · simp [hd]
def freeZ (now : Int) (z : Cp) : Cp := if z.ses ≠ 0 ∧ (z.dl : Int) ≤ now then { z with ses := 0, dl := 0 } else z
def overF (s : CF) (now : Int) : CF := { L := outC s.L (keys (Alarm.due s.E1 now)), next := s.next, acked := s.acked, over := s.over + (keys (Alarm.due s.E1 now)).length, gone := s.gone, E1 := outE s.E1 (keys (Alarm.due s.E1 now)), E2 := outE s.E2 (keys (Alarm.due s.E1 now)) }
def freeG (s1 : CF) (now : Int) : CF := (keys (Alarm.due s1.E2 now)).foldl (fun s k => freeF s k.toNat) { s1 with E2 := Alarm.rest s1.E2 now }
theorem passF_eq (O : Ord s) : passF s now = freeG (overF s now) now := by
  unfold passF freeG overF
  dsimp only
  rw [fold_over]
  dsimp only
  rw [outE_rest O]
theorem pass_all2 (ok : okC s) (O : Ord s) (now : Int) : okC (passF s now) ∧ (∀ z, z ∈ (passF s now).L ↔ ∃ y ∈ s.L, now < (y.till : Int) ∧ z = freeZ now y) ∧ (passF s now).next = s.next ∧ (passF s now).E1.length ≤ s.E1.length ∧ (passF s now).E2.length ≤ s.E2.length ∧ (passF s now).L = (s.L.filter (fun y => decide (now < (y.till : Int)))).map (freeZ now) ∧ (passF s now).acked = s.acked ∧ (passF s now).over = s.over + (Alarm.due s.E1 now).length ∧ (passF s now).gone = s.gone := by
  rw [passF_eq O]
  generalize hs1 : overF s now = s1
  have ok1 : okC s1 := by
    subst hs1
    exact ok.outs O (due_nodup O now) (fun k hk => due_in ok O hk) rfl rfl rfl rfl (by show s.acked + (s.over + _) + s.gone = _; omega)
  have O1 : Ord s1 := by
    subst hs1
    exact ⟨List.Pairwise.sublist (List.Sublist.map _ List.filter_sublist) O.nd, List.Pairwise.filter _ O.o1, List.Pairwise.filter _ O.o2, List.Pairwise.sublist (List.Sublist.map _ List.filter_sublist) O.n1, List.Pairwise.sublist (List.Sublist.map _ List.filter_sublist) O.n2⟩
  have m1 : ∀ z, z ∈ s1.L ↔ z ∈ s.L ∧ now < (z.till : Int) := fun z => by
    subst hs1
    show z ∈ outC _ _ ↔ _
    rw [outC_mem]
    constructor
    · rintro ⟨h1, h2⟩; exact ⟨h1, Int.not_le.1 (fun e => h2 ((due_num ok O h1).2 e))⟩
    · rintro ⟨h1, h2⟩; exact ⟨h1, fun e => absurd ((due_num ok O h1).1 e) (Int.not_le.2 h2)⟩
  have n1 : s1.next = s.next := by subst hs1; rfl
  have l1 : s1.E1.length ≤ s.E1.length := by subst hs1; exact List.length_filter_le _ _
  have l2 : s1.E2.length ≤ s.E2.length := by subst hs1; exact List.length_filter_le _ _
  have c1 : s1.acked = s.acked ∧ s1.over = s.over + (Alarm.due s.E1 now).length ∧ s1.gone = s.gone := by subst hs1; exact ⟨rfl, by show s.over + (keys _).length = _; unfold keys; rw [List.length_map], rfl⟩
  have L1 : s1.L = s.L.filter (fun y => decide (now < (y.till : Int))) := by
    subst hs1
    show outC _ _ = _
    unfold outC
    refine List.filter_congr fun z hz => ?_
    have := due_num (now := now) ok O hz
    by_cases hd : (z.till : Int) ≤ now
    · rw [decide_eq_true (this.2 hd), decide_eq_false (Int.not_lt.2 hd)]; rfl
    · rw [decide_eq_false (fun e => hd (this.1 e)), decide_eq_true (Int.not_le.1 hd)]; rfl
  clear hs1
  have dm : ∀ e, e ∈ Alarm.due s1.E2 now ↔ e ∈ s1.E2 ∧ e.2 ≤ now := fun e => by
    rw [(sorted_split O1.o2).1, List.mem_filter]; unfold isDue; simp
  have dn : ∀ z ∈ s1.L, ((z.num : Int) ∈ keys (Alarm.due s1.E2 now) ↔ z.ses ≠ 0 ∧ (z.dl : Int) ≤ now) := fun z hz => by
    unfold keys
    rw [List.mem_map]
    constructor
    · rintro ⟨e, he, e1⟩
      obtain ⟨h1, h2⟩ := (dm e).1 he
      obtain ⟨y, hy, hs, rfl⟩ := (ok1.e2 e).1 h1
      obtain rfl := O1.inj hy hz (Int.ofNat.inj e1)
      exact ⟨hs, h2⟩
    · rintro ⟨h1, h2⟩; exact ⟨(z.num, z.dl), (dm _).2 ⟨(ok1.e2 _).2 ⟨z, hz, h1, rfl⟩, h2⟩, rfl⟩
  have dp : ∀ k ∈ keys (Alarm.due s1.E2 now), 0 ≤ k := fun k hk => by
    unfold keys at hk
    obtain ⟨e, he, rfl⟩ := List.mem_map.1 hk
    obtain ⟨z, hz, _, rfl⟩ := (ok1.e2 e).1 ((dm e).1 he).1
    show (0 : Int) ≤ (z.num : Int); omega
  unfold freeG
  rw [fold_free _ _ dp]
  have fz : ∀ z ∈ s1.L, (if (z.num : Int) ∈ keys (Alarm.due s1.E2 now) then ({ z with ses := 0, dl := 0 } : Cp) else z) = freeZ now z := fun z hz => by
    unfold freeZ
    by_cases hd : z.ses ≠ 0 ∧ (z.dl : Int) ≤ now
    · rw [if_pos hd, if_pos ((dn z hz).2 hd)]
    · rw [if_neg hd, if_neg (fun e => hd ((dn z hz).1 e))]
  have fm : ∀ z, z ∈ freeC s1.L (keys (Alarm.due s1.E2 now)) ↔ ∃ y ∈ s1.L, z = freeZ now y := fun z => by
    rw [freeC_mem]
    constructor
    · rintro ⟨y, hy, rfl⟩; exact ⟨y, hy, fz y hy⟩
    · rintro ⟨y, hy, rfl⟩; exact ⟨y, hy, (fz y hy).symm⟩
  have fnum : ∀ y, (freeZ now y).num = y.num := fun y => by unfold freeZ; split <;> rfl
  have ftill : ∀ y, (freeZ now y).till = y.till := fun y => by unfold freeZ; split <;> rfl
  have fd : ∀ y, (freeZ now y).d = y.d := fun y => by unfold freeZ; split <;> rfl
  refine ⟨⟨fun z hz => ?_, fun z hz => ?_, fun e => ?_, fun e => ?_, ?_⟩, fun z => ?_, n1, l1, ?_, ?_, c1⟩
  · obtain ⟨y, hy, rfl⟩ := (fm z).1 hz
    rw [fnum, fd]; exact ok1.bd y hy
  · obtain ⟨y, hy, rfl⟩ := (fm z).1 hz
    unfold freeZ
    split
    · exact Int.le_refl _
    · exact ok1.sp y hy
  · show e ∈ s1.E1 ↔ ∃ z ∈ freeC _ _, _
    rw [ok1.e1]
    constructor
    · rintro ⟨y, hy, rfl⟩; exact ⟨_, (fm _).2 ⟨y, hy, rfl⟩, by rw [fnum, ftill]⟩
    · rintro ⟨z, hz, rfl⟩
      obtain ⟨y, hy, rfl⟩ := (fm z).1 hz
      exact ⟨y, hy, by rw [fnum, ftill]⟩
  · show e ∈ outE (Alarm.rest s1.E2 now) _ ↔ ∃ z ∈ freeC _ _, _
    rw [outE_mem, (sorted_split O1.o2).2, List.mem_filter]
    constructor
    · rintro ⟨⟨h1, h2⟩, h3⟩
      obtain ⟨y, hy, hs, rfl⟩ := (ok1.e2 e).1 h1
      have hd : ¬ (y.ses ≠ 0 ∧ (y.dl : Int) ≤ now) := fun hd => h3 ((dn y hy).2 hd)
      refine ⟨_, (fm _).2 ⟨y, hy, rfl⟩, ?_⟩
      unfold freeZ
      rw [if_neg hd]
      exact ⟨hs, rfl⟩
    · rintro ⟨z, hz, hs, rfl⟩
      obtain ⟨y, hy, rfl⟩ := (fm z).1 hz
      unfold freeZ at hs ⊢
      by_cases hd : y.ses ≠ 0 ∧ (y.dl : Int) ≤ now
      · rw [if_pos hd] at hs; exact absurd rfl hs
      · rw [if_neg hd] at hs ⊢
        refine ⟨⟨(ok1.e2 _).2 ⟨y, hy, hs, rfl⟩, ?_⟩, fun hk => hd ((dn y hy).1 hk)⟩
        have : ¬ (y.dl : Int) ≤ now := fun e => hd ⟨hs, e⟩
        unfold isDue
        simpa using this
  · have := ok1.cnt
    show s1.next = 1 + (freeC _ _).length + _ + _ + _
    unfold freeC
    rw [List.length_map]; exact this
  · show z ∈ freeC _ _ ↔ _
    rw [fm]
    constructor
    · rintro ⟨y, hy, rfl⟩; have := (m1 y).1 hy; exact ⟨y, this.1, this.2, rfl⟩
    · rintro ⟨y, hy, hn, rfl⟩; exact ⟨y, (m1 y).2 ⟨hy, hn⟩, rfl⟩
  · refine Nat.le_trans (List.length_filter_le _ _) (Nat.le_trans (rest_len _ _) l2)
  · show freeC _ _ = _
    rw [← L1]
    exact List.map_congr_left fz
end Cps
end Go.Proofs.YtgccegnmggjkjaaGreatDoor
set_option maxRecDepth 100000
set_option maxHeartbeats 4000000
namespace Go.Proofs.YtgccegnmggjkjaaGreatDoor
open Go.Den
variable {h : Heap} {R : Value → Heap → Prop}
theorem eid_Text.walk {x_0 : Bool} {x_1 : Int} {x_2 : Int} {x_3 : ByteArray} {x_4 : ByteArray} (hv :
 NewP h (.cells #[.bool x_0, .int .u64 x_1, .int .u64 x_2, .string x_3, .string x_4] T.eid_Eid) fun b h_1 =>
 eid_Eid.LD h_1 ⟨b, 0, none⟩ fun t5_0 t5_1 t5_2 t5_3 t5_4 =>
 Cl F.eid_Right #[.agg #[.bool t5_0, .int .u64 t5_1, .int .u64 t5_2, .string t5_3, .string t5_4]] h_1 fun v h_2 =>
 ∃ t6, v = .bool t6 ∧
 if (!t6) = true then
 R (.tuple #[.string (⟨#[]⟩ : ByteArray), .int .i64 3]) h_2
 else
 eid_Eid.LD h_2 ⟨b, 0, none⟩ fun t9_0 t9_1 t9_2 t9_3 t9_4 =>
 ∃ (eq : Bool), EqV Tryz.prog T.eid_Eid (.agg #[.bool t9_0, .int .u64 t9_1, .int .u64 t9_2, .string t9_3, .string t9_4]) (.agg #[.bool false, .int .u64 0, .int .u64 0, .string (⟨#[]⟩ : ByteArray), .string (⟨#[]⟩ : ByteArray)]) eq ∧
 if eq = true then
 R (.tuple #[.string (⟨#[100, 116, 110, 58, 110, 111, 110, 101]⟩ : ByteArray), .int .i64 0]) h_2
 else
 ∃ t14, hcell h_2 ⟨b, 0, none⟩ = some (.bool t14) ∧
 if t14 = true then
 ∃ t16, hcell h_2 ⟨b, 1, none⟩ = some (.int .u64 t16) ∧
 ∃ t21, hcell h_2 ⟨b, 2, none⟩ = some (.int .u64 t21) ∧
 Cl F.strconv_FormatUint #[.int .u64 t16, .int .i64 10] h_2 fun v_1 h_3 =>
 ∃ t17, v_1 = .string t17 ∧
 hcell h_3 ⟨b, 2, none⟩ = some (.int .u64 t21) ∧
 (((⟨#[105, 112, 110, 58]⟩ : ByteArray).size + t17.size : Nat) : Int) ≤ IntKind.max .i64 ∧
 ((((⟨#[105, 112, 110, 58]⟩ : ByteArray) ++ t17).size + (⟨#[46]⟩ : ByteArray).size : Nat) : Int) ≤ IntKind.max .i64 ∧
 Cl F.strconv_FormatUint #[.int .u64 t21, .int .i64 10] h_3 fun v_2 h_4 =>
 ∃ t22, v_2 = .string t22 ∧
 (((((⟨#[105, 112, 110, 58]⟩ : ByteArray) ++ t17) ++ (⟨#[46]⟩ : ByteArray)).size + t22.size : Nat) : Int) ≤ IntKind.max .i64 ∧
 R (.tuple #[.string ((((⟨#[105, 112, 110, 58]⟩ : ByteArray) ++ t17) ++ (⟨#[46]⟩ : ByteArray)) ++ t22), .int .i64 0]) h_4
 else
 eid_Eid.LD h_2 ⟨b, 0, none⟩ fun t24_0 t24_1 t24_2 t24_3 t24_4 =>
 Cl F.eid_path #[.agg #[.bool t24_0, .int .u64 t24_1, .int .u64 t24_2, .string t24_3, .string t24_4]] h_2 fun v_3 h_5 =>
 ∃ t25, v_3 = .string t25 ∧
 (((⟨#[100, 116, 110, 58]⟩ : ByteArray).size + t25.size : Nat) : Int) ≤ IntKind.max .i64 ∧
 R (.tuple #[.string ((⟨#[100, 116, 110, 58]⟩ : ByteArray) ++ t25), .int .i64 0]) h_5) : CallsH Tryz.prog F.eid_Text #[.agg #[.bool x_0, .int .u64 x_1, .int .u64 x_2, .string x_3, .string x_4]] h R :=
 callsH_of_body (.seq .leaf (.seq (.block (.seq .leaf (.cond (.seq .leaf .leaf) (.seq .leaf (.cond (.seq .leaf .leaf) (.seq .leaf (.cond (.seq (.plan (.op 0 (.op 1 (.op 5 (.op 6 (.op 2 (.op 3 (.op 4 (.op 7 (.op 8 (.op 9 (.op 10 .done)))))))))))) .leaf) .leaf))))))) (.seq .leaf .leaf))) Tryz.func130 rfl rfl (Eq.mp (by kernel_rfl) hv)
theorem eid_path.walk {x_0 : Bool} {x_1 : Int} {x_2 : Int} {x_3 : ByteArray} {x_4 : ByteArray} (hv :
 NewP h (.cells #[.bool x_0, .int .u64 x_1, .int .u64 x_2, .string x_3, .string x_4] T.eid_Eid) fun b h_1 =>
 ∃ t4, hcell h_1 ⟨b, 3, none⟩ = some (.string t4) ∧
 (((⟨#[47, 47]⟩ : ByteArray).size + t4.size : Nat) : Int) ≤ IntKind.max .i64 ∧
 ((((⟨#[47, 47]⟩ : ByteArray) ++ t4).size + (⟨#[47]⟩ : ByteArray).size : Nat) : Int) ≤ IntKind.max .i64 ∧
 ∃ t8, hcell h_1 ⟨b, 4, none⟩ = some (.string t8) ∧
 (((((⟨#[47, 47]⟩ : ByteArray) ++ t4) ++ (⟨#[47]⟩ : ByteArray)).size + t8.size : Nat) : Int) ≤ IntKind.max .i64 ∧
 R (.string ((((⟨#[47, 47]⟩ : ByteArray) ++ t4) ++ (⟨#[47]⟩ : ByteArray)) ++ t8)) h_1) : CallsH Tryz.prog F.eid_path #[.agg #[.bool x_0, .int .u64 x_1, .int .u64 x_2, .string x_3, .string x_4]] h R :=
 callsH_of_body (.seq .leaf (.seq .leaf .leaf)) Tryz.func177 rfl rfl (Eq.mp (by kernel_rfl) hv)
end Go.Proofs.YtgccegnmggjkjaaGreatDoor
set_option maxRecDepth 100000
namespace Go.Proofs.YtgccegnmggjkjaaGreatDoor
open Go.Den
namespace Eid
variable {h h' : Heap} {R : Value → Heap → Prop}
theorem nil_eq (s : ByteArray) : (s.toList == (⟨#[]⟩ : ByteArray).toList) = decide (s = ⟨#[]⟩) := by
  by_cases e : s = ⟨#[]⟩
  · rw [decide_eq_true e]; exact bytes_eq.2 e
  · rw [decide_eq_false e]
    cases q : s.toList == (⟨#[]⟩ : ByteArray).toList
    · rfl
    · exact absurd (bytes_eq.1 q) e
end Eid
end Go.Proofs.YtgccegnmggjkjaaGreatDoor
set_option maxRecDepth 100000
namespace Go.Proofs
open Go.Shelf
def Tryz.lays284_ren : Go.Shelf.Ren := ⟨fun | 284 => 229 | 129 => 214 | 317 => 254 | 318 => 255 | n => n, fun | 53 => 23 | 3 => 3 | 212 => 350 | 0 => 0 | 4 => 4 | 46 => 271 | 5 => 5 | 9 => 9 | n => n, fun | 17 => 0 | n => n⟩
theorem Tryz.lays284 : Go.Proofs.LaysM.n284 Tryz.prog Tryz.lays284_ren := {
  mixed := by kernel_rfl
  f129 := Tryz.func214.trans (congrArg some (by kernel_rfl))
  f284 := Tryz.func229.trans (congrArg some (by kernel_rfl))
  f317 := Tryz.func254.trans (congrArg some (by kernel_rfl))
  f318 := Tryz.func255.trans (congrArg some (by kernel_rfl))
  t0 := Tryz.underlying0
  a0 := Tryz.isAgg0
  z0 := Tryz.sizeOf0
  v0 := Tryz.zeroValue0
  t3 := Tryz.underlying3
  a3 := Tryz.isAgg3
  z3 := Tryz.sizeOf3
  v3 := Tryz.zeroValue3
  t4 := Tryz.underlying4
  a4 := Tryz.isAgg4
  z4 := Tryz.sizeOf4
  v4 := Tryz.zeroValue4
  t5 := Tryz.underlying5
  a5 := Tryz.isAgg5
  z5 := Tryz.sizeOf5
  v5 := Tryz.zeroValue5
  t9 := Tryz.underlying9
  a9 := Tryz.isAgg9
  z9 := Tryz.sizeOf9
  v9 := Tryz.zeroValue9
  t46 := Tryz.underlying271
  a46 := Tryz.isAgg271
  z46 := Tryz.sizeOf271
  v46 := Tryz.zeroValue271
  t53 := Tryz.underlying23
  a53 := Tryz.isAgg23
  z53 := Tryz.sizeOf23
  v53 := Tryz.zeroValue23
  t212 := Tryz.underlying350
  a212 := Tryz.isAgg350
  z212 := Tryz.sizeOf350
  v212 := Tryz.zeroValue350
  g17 := by kernel_rfl
  i0 := by kernel_rfl
  i3 := by kernel_rfl
  i4 := by kernel_rfl
  i5 := by kernel_rfl
  i9 := by kernel_rfl
  i46 := by kernel_rfl
  i53 := by kernel_rfl
  i212 := by kernel_rfl
  m17 := by kernel_rfl }
def Tryz.lays285_ren : Go.Shelf.Ren := ⟨fun | 285 => 230 | n => n, fun | 37 => 34 | 53 => 23 | 3 => 3 | 4 => 4 | 51 => 314 | 9 => 9 | 5 => 5 | 0 => 0 | n => n, fun | n => n⟩
theorem Tryz.lays285 : Go.Proofs.Lays.n285 Tryz.prog Tryz.lays285_ren := {
  mixed := by kernel_rfl
  f285 := Tryz.func230.trans (congrArg some (by kernel_rfl))
  t0 := Tryz.underlying0
  a0 := Tryz.isAgg0
  z0 := Tryz.sizeOf0
  v0 := Tryz.zeroValue0
  t3 := Tryz.underlying3
  a3 := Tryz.isAgg3
  z3 := Tryz.sizeOf3
  v3 := Tryz.zeroValue3
  t4 := Tryz.underlying4
  a4 := Tryz.isAgg4
  z4 := Tryz.sizeOf4
  v4 := Tryz.zeroValue4
  t5 := Tryz.underlying5
  a5 := Tryz.isAgg5
  z5 := Tryz.sizeOf5
  v5 := Tryz.zeroValue5
  t9 := Tryz.underlying9
  a9 := Tryz.isAgg9
  z9 := Tryz.sizeOf9
  v9 := Tryz.zeroValue9
  t37 := Tryz.underlying34
  a37 := Tryz.isAgg34
  z37 := Tryz.sizeOf34
  v37 := Tryz.zeroValue34
  t51 := Tryz.underlying314
  a51 := Tryz.isAgg314
  z51 := Tryz.sizeOf314
  v51 := Tryz.zeroValue314
  t53 := Tryz.underlying23
  a53 := Tryz.isAgg23
  z53 := Tryz.sizeOf23
  v53 := Tryz.zeroValue23 }
def Tryz.lays283_ren : Go.Shelf.Ren := ⟨fun | 283 => 228 | n => n, fun | 3 => 3 | 9 => 9 | 4 => 4 | n => n, fun | n => n⟩
theorem Tryz.lays283 : Go.Proofs.Lays.n283 Tryz.prog Tryz.lays283_ren := {
  mixed := by kernel_rfl
  f283 := Tryz.func228.trans (congrArg some (by kernel_rfl))
  t3 := Tryz.underlying3
  a3 := Tryz.isAgg3
  z3 := Tryz.sizeOf3
  v3 := Tryz.zeroValue3
  t4 := Tryz.underlying4
  a4 := Tryz.isAgg4
  z4 := Tryz.sizeOf4
  v4 := Tryz.zeroValue4
  t9 := Tryz.underlying9
  a9 := Tryz.isAgg9
  z9 := Tryz.sizeOf9
  v9 := Tryz.zeroValue9 }
end Go.Proofs
set_option maxRecDepth 100000
namespace Go.Proofs.YtgccegnmggjkjaaGreatDoor
open Go.Den
namespace Num
variable {h h' : Heap} {R : Value → Heap → Prop}
def Tab (h : Heap) : Prop := ∃ t f, h[(0 : Nat)]? = some (.cells (Lib.pow10Tab.map fun z => Value.int .u64 z).toArray t f)
theorem Tab.frame {S : Nat → Prop} (T : Tab h) (f : Fr S h h') (hn : ∀ c, c < h.size → ¬ S c) : Tab h' := by
  obtain ⟨t, fr, h2⟩ := T
  exact ⟨t, fr, f.get h2 (hn _ (lt_of_get h2))⟩
theorem Tab.on (T : Tab h) (f : Fr (fun _ => False) h h') : Tab h' := T.frame f (fun _ _ => id)
theorem Tab.is {w : World} {s : String} (hs : Tryz.prog.globalNamed s = some 0) (T : Tab w.heap) : Lib.TabIs Tryz.prog w s .u64 Lib.pow10Tab := by
  obtain ⟨t, fr, h2⟩ := T
  unfold Lib.TabIs World.var?
  rw [hs]
  show (match w.heap[(0 : Nat)]? with | some (.cells cs _ _) => some cs | _ => none) = _
  rw [h2]
theorem small_ok {i : Nat} (hi : i < 100) (hk : R (.string ⟨(Lib.decDigits i).toArray⟩) h) : CallsH Tryz.prog F.internal_strconv_small #[.int .i64 i] h R := fun w hw =>
  (Any.internal_strconv_small Tryz.lays283 i hi w).mono fun e w' ⟨he, hw'⟩ => ⟨_, he, by rw [hw', hw]; exact hk, by rw [hw']; exact Same.refl _⟩
theorem digits_ok {u : Nat} (T : Tab h) (h1 : 1 ≤ u) (h2 : u < 18446744073709551616) (hk : R (.int .i64 (Lib.nDigits u)) h) : CallsH Tryz.prog F.internal_strconv_numDigits #[.int .u64 u] h R := fun w hw =>
  (Any.internal_strconv_numDigits Tryz.lays284 u h1 h2 w (by rw [← hw] at T; exact T.is (by kernel_rfl))).mono fun e w' ⟨he, hw'⟩ => ⟨_, he, by rw [hw', hw]; exact hk, by rw [hw']; exact Same.refl _⟩
end Num
end Go.Proofs.YtgccegnmggjkjaaGreatDoor
set_option maxRecDepth 100000
set_option maxHeartbeats 4000000
namespace Go.Proofs.YtgccegnmggjkjaaGreatDoor
open Go.Den
variable {h : Heap} {R : Value → Heap → Prop}
theorem internal_strconv_FormatUint.walk {i : Int} {base : Int} (hv :
 if (base == 10) = true then
 if (decide (i < 100)) = true then
 Cl F.internal_strconv_small #[.int .i64 (IntKind.wrap .i64 i)] h fun v h_1 =>
 ∃ t15, v = .string t15 ∧
 R (.string t15) h_1
 else
 NewP h (.cells #[.int .u8 0, .int .u8 0, .int .u8 0, .int .u8 0, .int .u8 0, .int .u8 0, .int .u8 0, .int .u8 0, .int .u8 0, .int .u8 0, .int .u8 0, .int .u8 0, .int .u8 0, .int .u8 0, .int .u8 0, .int .u8 0, .int .u8 0, .int .u8 0, .int .u8 0, .int .u8 0, .int .u8 0, .int .u8 0, .int .u8 0, .int .u8 0] T.a24_uint8) fun b h_2 =>
 Cl F.internal_strconv_numDigits #[.int .u64 i] h_2 fun v_1 h_3 =>
 ∃ t17, v_1 = .int .i64 t17 ∧
 ((0 : Int) ≤ t17 ∧ t17 ≤ ((24 : Nat) : Int)) ∧
 Cl F.internal_strconv_formatBase10 #[.slice (slBase (some ⟨b, 0, none⟩) 24 0 1) ((Int.toNat t17) - 0) (24 - 0), .int .u64 i] h_3 fun v_2 h_4 =>
 v_2 = .tuple #[] ∧
 ((0 : Int) ≤ t17 ∧ t17 ≤ ((24 : Nat) : Int)) ∧
 ∃ (t24 : ByteArray), ConvV Tryz.prog T.s_uint8 T.string (.slice (slBase (some ⟨b, 0, none⟩) 24 0 1) ((Int.toNat t17) - 0) (24 - 0)) h_4 t24 ∧
 R (.string t24) h_4
 else
 Cl F.internal_strconv_formatBits #[.slice none 0 0, .int .u64 i, .int .i64 base, .bool false, .bool false] h fun v_3 h_5 =>
 ∃ t28_0_p t28_0_l t28_0_c t28_1, v_3 = .tuple #[.slice t28_0_p t28_0_l t28_0_c, .string t28_1] ∧
 R (.string t28_1) h_5) : CallsH Tryz.prog F.internal_strconv_FormatUint #[.int .u64 i, .int .i64 base] h R :=
 callsH_of_body (.seq .leaf (.seq (.seq .leaf (.cond (.seq (.seq .leaf (.cond (.seq .leaf .leaf) .leaf)) (.seq .leaf (.seq .leaf (.seq .leaf (.seq .leaf .leaf))))) .leaf)) (.seq .leaf (.seq .leaf .leaf)))) Tryz.func201 rfl rfl (Eq.mp (by kernel_rfl) hv)
theorem strconv_FormatUint.walk {i : Int} {base : Int} (hv :
 Cl F.internal_strconv_FormatUint #[.int .u64 i, .int .i64 base] h fun v h_1 =>
 ∃ t7, v = .string t7 ∧
 R (.string t7) h_1) : CallsH Tryz.prog F.strconv_FormatUint #[.int .u64 i, .int .i64 base] h R :=
 callsH_of_body (.seq .leaf (.seq .leaf .leaf)) Tryz.func176 rfl rfl (Eq.mp (by kernel_rfl) hv)
end Go.Proofs.YtgccegnmggjkjaaGreatDoor
set_option maxRecDepth 100000
namespace Go.Proofs.YtgccegnmggjkjaaGreatDoor
open Go.Den
namespace Num
variable {h h' : Heap} {R : Value → Heap → Prop}
theorem base10_ok {blk n u cap : Nat} {c : Array Value} {t : TypeId} (hb : h[blk]? = some (.cells c t (0, 0))) (hz : ∀ j, j < n → c[j]? = some (.int .u8 0)) (hu : u < 10 ^ n) (hu64 : u < 18446744073709551616) (hn : n < 100)
    (hk : ∀ h' c' dk v', h'[blk]? = some (.cells c' t (0, 0)) → Lib.FmtInv n u 0 v' dk → (∀ j, j < n → c'[j]? = some (.int .u8 ((dk[j]!).toNat : Int))) → h'.size = h.size → (∀ x, x ≠ blk → h'[x]? = h[x]?) → R (.tuple #[]) h') :
    CallsH Tryz.prog F.internal_strconv_formatBase10 #[.slice (some ⟨blk, 0, none⟩) n cap, .int .u64 u] h R := fun w hw => by
  subst hw
  have hH : Sort.Holds (fun (b : UInt8) => Value.int .u8 (b.toNat : Int)) w blk 0 (Array.replicate n 0) := fun j hj => by
    rw [Array.size_replicate] at hj
    refine ⟨?_, ?_⟩
    · rw [cell_eq, hcell_blk hb, Nat.zero_add, hz j hj]
      have : (Array.replicate n (0 : UInt8))[j]! = 0 := by simp [hj]
      rw [this]; rfl
    · rw [frozen_eq]; exact hfrozen_blk hb
  have key := Any.internal_strconv_formatBase10 Tryz.lays285 blk 0 cap u (Array.replicate n 0) w hH (by rw [Array.size_replicate]; exact hu) hu64 (by rw [Array.size_replicate]; omega)
  rw [Array.size_replicate] at key
  refine Calls.mono key fun e w' ⟨he, k, v', dk, hw', hF⟩ => ⟨_, he, ?_, ?_⟩
  · subst hw'
    have hh : ((Sort.putRow (fun (b : UInt8) => Value.int .u8 (b.toNat : Int)) w blk 0 dk).drewN k).heap = w.heap.modify blk (Sort.onCells (Sort.putCells (fun (b : UInt8) => Value.int .u8 (b.toNat : Int)) 0 dk)) := rfl
    rw [hh]
    refine hk _ (Sort.putCells (fun (b : UInt8) => Value.int .u8 (b.toNat : Int)) 0 dk c) dk v' ?_ hF (fun j hj => ?_) (by simp) (fun x hx => by rw [Array.getElem?_modify, if_neg (fun e => hx e.symm)])
    · rw [Array.getElem?_modify, if_pos rfl, hb]; rfl
    · unfold Sort.putCells
      rw [Array.getElem?_mapIdx, hz j hj, Option.map_some, if_pos ⟨Nat.zero_le _, by rw [hF.size]; omega⟩, Nat.sub_zero]
  · subst hw'; exact ⟨rfl, rfl, rfl⟩
theorem tS : Tryz.prog.underlying T.s_uint8 = some (.slice T.uint8) := by kernel_rfl
theorem t8 : Tryz.prog.underlying T.uint8 = some (.int .u8) := by kernel_rfl
theorem tT : Tryz.prog.underlying T.string = some .string := by kernel_rfl
theorem format_ok {u : Nat} (tb : Tab h) (hu : u < 18446744073709551616) (hk : ∀ h', Fr (fun _ => False) h h' → R (.string ⟨(Lib.decDigits u).toArray⟩) h') : CallsH Tryz.prog F.internal_strconv_FormatUint #[.int .u64 u, .int .i64 10] h R := by
  refine internal_strconv_FormatUint.walk ?_
  rw [if_pos (by rfl)]
  by_cases h1 : u < 100
  · rw [if_pos (decide_eq_true (by omega)), wrap_id (by omega) (by omega)]
    exact small_ok h1 ⟨_, rfl, hk h (Fr.refl _ _)⟩
  · rw [if_neg (by simp; omega)]
    refine newP_of ?_
    generalize hcs : (#[.int .u8 0, .int .u8 0, .int .u8 0, .int .u8 0, .int .u8 0, .int .u8 0, .int .u8 0, .int .u8 0, .int .u8 0, .int .u8 0, .int .u8 0, .int .u8 0, .int .u8 0, .int .u8 0, .int .u8 0, .int .u8 0, .int .u8 0, .int .u8 0, .int .u8 0, .int .u8 0, .int .u8 0, .int .u8 0, .int .u8 0, .int .u8 0] : Array Value) = cs
    have hc0 : ∀ j, j < 24 → cs[j]? = some (.int .u8 0) := by
      have : cs = Array.replicate 24 (.int .u8 0) := by rw [← hcs]; rfl
      intro j hj
      rw [this]; simp [hj]
    have f1 : Fr (fun _ => False) h (h.push (.cells cs T.a24_uint8)) := Fr.push _ _
    have hb1 : (h.push (.cells cs T.a24_uint8))[h.size]? = some (.cells cs T.a24_uint8 (0, 0)) := push_new
    have hnd : Lib.nDigits u ≤ 20 := by have := Lib.numDigits_eq u (by omega) hu; split at this <;> omega
    refine digits_ok (tb.on f1) (by omega) hu ⟨_, rfl, ⟨by omega, by omega⟩, ?_⟩
    have es : slBase (some (⟨h.size, 0, none⟩ : Addr)) 24 0 1 = some ⟨h.size, 0, none⟩ := rfl
    rw [es, Int.toNat_natCast, Nat.sub_zero]
    refine base10_ok hb1 (fun j hj => hc0 j (by omega)) (Lib.lt_pow_nDigits u) hu (by omega) fun h2 c2 dk v2 hb2 hF hc2 s2 o2 => ⟨rfl, ⟨by omega, by omega⟩, str (Lib.decDigits u), ?_, ?_⟩
    · refine conv_str tS t8 tT (.inr ⟨_, rfl, heldL_blk hb2 (fun j v hj => ?_)⟩) (Lib.decDigits_length u).symm
      rw [Nat.zero_add]
      have hjl : j < (Lib.decDigits u).length := by have := (List.getElem?_eq_some_iff.1 hj).1; rwa [bc_len] at this
      have hjn : j < Lib.nDigits u := by rwa [Lib.decDigits_length] at hjl
      rw [hc2 j hjn, ← Lib.row_is_numeral hF j hjl, ← hj]
      unfold bc
      rw [List.getElem?_map, List.getElem?_eq_getElem hjl]; rfl
    · exact hk h2 (f1.fresh (S := fun y => y = h.size) ⟨by omega, fun y _ hn => o2 y hn⟩ (fun y e => Nat.le_of_eq e.symm))
theorem formatUint_ok {u : Nat} (tb : Tab h) (hu : u < 18446744073709551616) (hk : ∀ h', Fr (fun _ => False) h h' → R (.string ⟨(Lib.decDigits u).toArray⟩) h') : CallsH Tryz.prog F.strconv_FormatUint #[.int .u64 u, .int .i64 10] h R :=
  strconv_FormatUint.walk (format_ok tb hu fun h1 f1 => ⟨_, rfl, hk h1 f1⟩)
end Num
end Go.Proofs.YtgccegnmggjkjaaGreatDoor
set_option maxRecDepth 100000
namespace Go.Proofs.YtgccegnmggjkjaaGreatDoor
open Go.Den
namespace Eid
variable {h h' : Heap} {R : Value → Heap → Prop}
theorem str_app (a b : List UInt8) : str a ++ str b = str (a ++ b) := by
  unfold str
  apply ByteArray.ext
  rw [ByteArray.data_append]
  simp
theorem str_size (a : List UInt8) : (str a).size = a.length := by unfold str; rfl
theorem str_self (s : ByteArray) : s = str s.data.toList := (str_data s).symm
theorem data_len (s : ByteArray) : s.data.toList.length = s.size := by rw [Array.length_toList]; rfl
def textE (x : Ev) : List UInt8 :=
  if x = .zero then [100, 116, 110, 58, 110, 111, 110, 101]
  else if x.ipn = true then [105, 112, 110, 58] ++ Lib.decDigits x.node.toNat ++ [46] ++ Lib.decDigits x.svc.toNat
  else [100, 116, 110, 58] ++ ([47, 47] ++ x.host.data.toList ++ [47] ++ x.dem.data.toList)
theorem maxi : IntKind.max .i64 = 9223372036854775807 := rfl
theorem dec_len {u : Nat} (hu : u < 18446744073709551616) : (Lib.decDigits u).length ≤ 20 := by
  rw [Lib.decDigits_length]
  by_cases h0 : u < 10
  · rw [Lib.nDigits_small h0]; omega
  · have := Lib.numDigits_eq u (by omega) hu
    split at this <;> omega
theorem text_len {x : Ev} (hr : rightE x = true) (h1 : 0 ≤ x.svc) : (textE x).length ≤ 100 := by
  unfold textE
  unfold rightE at hr
  by_cases z : x = .zero
  · rw [if_pos z]; simp
  rw [if_neg z] at hr ⊢
  by_cases hi : x.ipn = true
  · rw [if_pos hi] at hr ⊢
    have hr := of_decide_eq_true hr
    have l1 := dec_len (u := x.node.toNat) (by omega)
    have l2 := dec_len (u := x.svc.toNat) (by omega)
    simp only [List.length_append, List.length_cons, List.length_nil]; omega
  · rw [if_neg hi] at hr ⊢
    simp only [Bool.and_eq_true, decide_eq_true_eq] at hr
    simp only [List.length_append, List.length_cons, List.length_nil, data_len]; omega
theorem path_ok (x : Ev) (h1 : x.host.size ≤ 1000) (h2 : x.dem.size ≤ 1000) (hk : ∀ h', Fr (fun _ => False) h h' → R (.string (str ([47, 47] ++ x.host.data.toList ++ [47] ++ x.dem.data.toList))) h') : CallsH Tryz.prog F.eid_path #[ev5 x] h R := by
  refine eid_path.walk (eid_Eid.box fun b h3 eb hb f3 => ⟨_, cell_at hb rfl, ?_⟩)
  have e1 : (⟨#[47, 47]⟩ : ByteArray) = str [47, 47] := rfl
  have e2 : (⟨#[47]⟩ : ByteArray) = str [47] := rfl
  have l1 := data_len x.host
  have l2 := data_len x.dem
  have K := hk h3 f3
  rw [e1, e2, maxi]
  refine ⟨?_, ?_, _, cell_at hb rfl, ?_, ?_⟩
  · rw [str_size]; simp; omega
  · rw [str_self x.host, str_app, str_size, str_size]; simp; omega
  · rw [str_self x.host, str_app, str_app, str_size]; simp; omega
  · rw [str_self x.host, str_self x.dem, str_app, str_app, str_app]; exact K
theorem text_ok (x : Ev) (tb : Num.Tab h) (w1 : 0 ≤ x.svc) (hk : ∀ h', Fr (fun _ => False) h h' → R (.tuple #[.string (if rightE x = true then str (textE x) else ⟨#[]⟩), .int .i64 (if rightE x = true then 0 else 3)]) h') : CallsH Tryz.prog F.eid_Text #[ev5 x] h R := by
  refine eid_Text.walk (eid_Eid.box fun b h1 eb hb f1 => eid_Eid.ld hb (right_ok x fun h2 f2 => ⟨_, rfl, ?_⟩))
  by_cases hr : rightE x = true
  · simp only [hr, if_true] at hk
    rw [if_neg (by simpa using hr)]
    have hb2 := f2.get hb id
    have F2 := f1.tt f2
    have tb2 := tb.on F2
    refine eid_Eid.ld hb2 ⟨_, eqv' (y := .zero) (x := x) rfl rfl, ?_⟩
    unfold textE at hk
    unfold rightE at hr
    by_cases z : x = .zero
    · rw [if_pos (decide_eq_true z)]
      rw [if_pos z] at hk
      exact hk h2 F2
    rw [if_neg (by simpa using z)]
    rw [if_neg z] at hr
    simp only [if_neg z] at hk
    refine ⟨_, cell_at hb2 rfl, ?_⟩
    have e1 : (⟨#[105, 112, 110, 58]⟩ : ByteArray) = str [105, 112, 110, 58] := rfl
    have e2 : (⟨#[46]⟩ : ByteArray) = str [46] := rfl
    have e3 : (⟨#[100, 116, 110, 58]⟩ : ByteArray) = str [100, 116, 110, 58] := rfl
    by_cases hi : x.ipn = true
    · rw [if_pos hi] at hr ⊢
      simp only [if_pos hi] at hk
      have hr := of_decide_eq_true hr
      have l1 := dec_len (u := x.node.toNat) (by omega)
      have l2 := dec_len (u := x.svc.toNat) (by omega)
      have n1 : x.node = ((x.node.toNat : Nat) : Int) := by omega
      have n2 : x.svc = ((x.svc.toNat : Nat) : Int) := by omega
      rw [e1, e2, maxi]
      refine ⟨_, cell_at hb2 rfl, _, cell_at hb2 rfl, ?_⟩
      rw [n1]
      refine Num.formatUint_ok tb2 (by omega) fun h3 f3 => ⟨_, rfl, cell_at (f3.get hb2 id) rfl, ?_⟩
      have c1 : (⟨(Lib.decDigits x.node.toNat).toArray⟩ : ByteArray) = str (Lib.decDigits x.node.toNat) := rfl
      have c2 : (⟨(Lib.decDigits x.svc.toNat).toArray⟩ : ByteArray) = str (Lib.decDigits x.svc.toNat) := rfl
      rw [c1]
      refine ⟨?_, ?_, ?_⟩
      · rw [str_size, str_size]; simp; omega
      · rw [str_app, str_size, str_size]; simp; omega
      rw [n2]
      refine Num.formatUint_ok (tb2.on f3) (by omega) fun h4 f4 => ⟨_, rfl, ?_⟩
      rw [c2]
      refine ⟨?_, ?_⟩
      · rw [str_app, str_app, str_size, str_size]; simp; omega
      · rw [str_app, str_app, str_app]; exact hk h4 (F2.tt (f3.tt f4))
    · rw [if_neg hi] at hr ⊢
      simp only [if_neg hi] at hk
      simp only [Bool.and_eq_true, decide_eq_true_eq] at hr
      refine eid_Eid.ld hb2 (path_ok x (by omega) (by omega) fun h3 f3 => ⟨_, rfl, ?_⟩)
      have l1 := data_len x.host
      have l2 := data_len x.dem
      rw [e3, maxi]
      refine ⟨?_, ?_⟩
      · rw [str_size, str_size]; simp; omega
      · rw [str_app]; exact hk h3 (F2.tt f3)
  · simp only [hr, Bool.false_eq_true, if_false] at hk
    rw [if_pos (by simpa using hr)]
    exact hk h2 (f1.tt f2)
end Eid
end Go.Proofs.YtgccegnmggjkjaaGreatDoor
set_option maxRecDepth 100000
namespace Go.Fields
def encN : Nat → Nat → List UInt8
  | 0, n => [UInt8.ofNat n]
  | f + 1, n => if n > 127 then UInt8.ofNat (n % 128 + 128) :: encN f (n / 128) else [UInt8.ofNat n]
def encNum (n : Nat) : List UInt8 := encN 9 n
theorem encN_mono : ∀ (f n : Nat), n < 128 ^ (f + 1) → encN (f + 1) n = encN f n
  | 0, n, h => by
    unfold encN
    rw [if_neg (by omega)]
  | f + 1, n, h => by
    rw [show encN (f + 1 + 1) n = if n > 127 then UInt8.ofNat (n % 128 + 128) :: encN (f + 1) (n / 128) else [UInt8.ofNat n] from rfl,
      show encN (f + 1) n = if n > 127 then UInt8.ofNat (n % 128 + 128) :: encN f (n / 128) else [UInt8.ofNat n] from rfl]
    split
    · rw [encN_mono f (n / 128) (by rw [Nat.pow_succ] at h; omega)]
    · rfl
theorem encNum_step {n : Nat} (h : n < 18446744073709551616) : encNum n = if n > 127 then UInt8.ofNat (n % 128 + 128) :: encNum (n / 128) else [UInt8.ofNat n] := by
  unfold encNum
  rw [encN]
  split
  · rw [← encN_mono 8 (n / 128) (by omega)]
  · rfl
theorem encN_len : ∀ (f n : Nat), 1 ≤ (encN f n).length ∧ (encN f n).length ≤ f + 1
  | 0, n => by simp [encN]
  | f + 1, n => by
    have := encN_len f (n / 128)
    rw [encN]; split
    · simp only [List.length_cons]; omega
    · simp
theorem encNum_len (n : Nat) : 1 ≤ (encNum n).length ∧ (encNum n).length ≤ 10 := encN_len 9 n
def rdN : Nat → Nat → List UInt8 → Nat × Int × List UInt8
  | _, _, [] => (0, 8, [])
  | i, n, c :: bs =>
    if i = 10 ∨ (i = 9 ∧ c.toNat > 1) ∨ (c.toNat = 0 ∧ i > 0) then (0, 3, bs)
    else if c.toNat < 128 then (n + c.toNat % 128 * 2 ^ (7 * i), 0, bs)
    else rdN (i + 1) (n + c.toNat % 128 * 2 ^ (7 * i)) bs
def readNum (e : Int) (bs : List UInt8) : Nat × Int × List UInt8 := if e = 0 then rdN 0 0 bs else (0, e, bs)
theorem rdN_lt : ∀ (bs : List UInt8) (i n : Nat), i ≤ 10 → n < 2 ^ (7 * i) → n < 18446744073709551616 → (rdN i n bs).1 < 18446744073709551616
  | [], _, _, _, _, _ => by simp [rdN]
  | c :: bs, i, n, hi, hn, hn2 => by
    rw [rdN]
    split
    · simp
    · rename_i hno
      have hc : c.toNat % 128 < 128 := Nat.mod_lt _ (by omega)
      have hsum : n + c.toNat % 128 * 2 ^ (7 * i) < 18446744073709551616 ∧ n + c.toNat % 128 * 2 ^ (7 * i) < 2 ^ (7 * (i + 1)) := by
        have hp : (2 : Nat) ^ (7 * (i + 1)) = 128 * 2 ^ (7 * i) := by rw [Nat.mul_add, Nat.pow_add, Nat.mul_comm]
        have h1 : (c.toNat % 128 + 1) * 2 ^ (7 * i) ≤ 128 * 2 ^ (7 * i) := Nat.mul_le_mul_right _ (by omega)
        rw [Nat.add_mul] at h1
        refine ⟨?_, by omega⟩
        by_cases h9 : i = 9
        · subst h9
          have : c.toNat ≤ 1 := by omega
          have : c.toNat % 128 ≤ 1 := by omega
          omega
        · have : (2 : Nat) ^ (7 * (i + 1)) ≤ 2 ^ 63 := Nat.pow_le_pow_right (by omega) (by omega)
          omega
      split
      · exact hsum.1
      · exact rdN_lt bs (i + 1) _ (by omega) hsum.2 hsum.1
theorem readNum_lt (e : Int) (bs : List UInt8) : (readNum e bs).1 < 18446744073709551616 := by
  unfold readNum
  split
  · exact rdN_lt bs 0 0 (by omega) (by simp) (by omega)
  · simp
theorem rdN_len : ∀ (bs : List UInt8) (i n : Nat), (rdN i n bs).2.2.length ≤ bs.length
  | [], _, _ => by simp [rdN]
  | c :: bs, i, n => by
    rw [rdN]
    split
    · simp
    · split
      · simp
      · have := rdN_len bs (i + 1) (n + c.toNat % 128 * 2 ^ (7 * i)); simp only [List.length_cons]; omega
theorem rdN_enc : ∀ (f n i acc : Nat) (rest : List UInt8), i + f = 9 → n * 2 ^ (7 * i) < 18446744073709551616 → (n = 0 → i = 0) → rdN i acc (encN f n ++ rest) = (acc + n * 2 ^ (7 * i), 0, rest)
  | 0, n, i, acc, rest, hf, hn, h0 => by
    have hi : i = 9 := by omega
    subst hi
    have hn2 : n < 2 := by
      have : n * 2 ^ 63 < 2 * 2 ^ 63 := hn
      exact Nat.lt_of_mul_lt_mul_right this
    have hne : n ≠ 0 := fun e => by have := h0 e; omega
    obtain rfl : n = 1 := by omega
    simp [encN, rdN]
  | f + 1, n, i, acc, rest, hf, hn, h0 => by
    have hp : (2 : Nat) ^ (7 * (i + 1)) = 128 * 2 ^ (7 * i) := by rw [Nat.mul_add, Nat.pow_add, Nat.mul_comm]
    have hn' : n < 18446744073709551616 := by
      have : n * 1 ≤ n * 2 ^ (7 * i) := Nat.mul_le_mul_left _ (Nat.two_pow_pos _)
      omega
    rw [encN]
    split
    · rename_i hgt
      rw [List.cons_append, rdN]
      have hc : (UInt8.ofNat (n % 128 + 128)).toNat = n % 128 + 128 := by rw [UInt8.toNat_ofNat']; omega
      rw [hc, if_neg (by omega), if_neg (by omega)]
      have e1 : (n % 128 + 128) % 128 = n % 128 := by omega
      have hdm : n = 128 * (n / 128) + n % 128 := (Nat.div_add_mod n 128).symm
      rw [rdN_enc f (n / 128) (i + 1) _ rest (by omega) ?_ (fun e => by omega), e1]
      · refine Prod.ext ?_ rfl
        simp only
        rw [hp]
        have : n / 128 * (128 * 2 ^ (7 * i)) = (128 * (n / 128)) * 2 ^ (7 * i) := by rw [Nat.mul_comm 128 (n / 128), Nat.mul_assoc]
        rw [this, Nat.add_assoc, ← Nat.add_mul, Nat.add_comm (n % 128), ← hdm]
      · rw [hp]
        have : n / 128 * (128 * 2 ^ (7 * i)) = (128 * (n / 128)) * 2 ^ (7 * i) := by rw [Nat.mul_comm 128 (n / 128), Nat.mul_assoc]
        rw [this]
        refine Nat.lt_of_le_of_lt (Nat.mul_le_mul_right _ ?_) hn
        omega
    · rename_i hle
      rw [List.cons_append, List.nil_append, rdN]
      have hc : (UInt8.ofNat n).toNat = n := by rw [UInt8.toNat_ofNat']; omega
      rw [hc, if_neg (by omega), if_pos (by omega), Nat.mod_eq_of_lt (by omega)]
theorem readNum_enc {n : Nat} (hn : n < 18446744073709551616) (rest : List UInt8) : readNum 0 (encNum n ++ rest) = (n, 0, rest) := by
  unfold readNum encNum
  rw [if_pos rfl, rdN_enc 9 n 0 0 rest (by omega) (by simpa using hn) (fun _ => rfl)]
  simp
end Go.Fields
set_option maxRecDepth 100000
namespace Go.Fields
def natOf (n : Int) : Nat := n.toNat
def encText (t : List UInt8) : List UInt8 := encNum t.length ++ t
def failE (e e' : Int) : Int := if e = 0 then e' else e
def readMost (top : Nat) (e : Int) (bs : List UInt8) : Nat × Int × List UInt8 :=
  if (readNum e bs).1 > top then (0, failE (readNum e bs).2.1 3, (readNum e bs).2.2) else readNum e bs
theorem readMost_le (top : Nat) (e : Int) (bs : List UInt8) : (readMost top e bs).1 ≤ top := by
  unfold readMost
  split
  · exact Nat.zero_le _
  · rename_i h; exact Nat.le_of_not_lt h
def readInt (e : Int) (bs : List UInt8) : Nat × Int × List UInt8 := readMost 1099511627776 e bs
def readText (e : Int) (bs : List UInt8) : List UInt8 × Int × List UInt8 :=
  if (readNum e bs).2.1 = 0 then
    (if (readNum e bs).1 > (readNum e bs).2.2.length then ([], 8, (readNum e bs).2.2)
    else ((readNum e bs).2.2.take (readNum e bs).1, 0, (readNum e bs).2.2.drop (readNum e bs).1))
  else ([], (readNum e bs).2.1, (readNum e bs).2.2)
def readEnd (e : Int) (bs : List UInt8) : Int := if e = 0 then (if bs = [] then 0 else 2) else e
theorem readMost_enc {top n : Nat} (hn : n ≤ top) (ht : top < 18446744073709551616) (y : List UInt8) : readMost top 0 (encNum n ++ y) = (n, 0, y) := by
  unfold readMost
  rw [readNum_enc (by omega)]
  rw [if_neg (by show ¬ n > top; omega)]
theorem readText_enc {t : List UInt8} (ht : t.length < 18446744073709551616) (y : List UInt8) : readText 0 (encText t ++ y) = (t, 0, y) := by
  unfold readText encText
  rw [List.append_assoc, readNum_enc ht]
  dsimp only
  rw [if_pos rfl, if_neg (by rw [List.length_append]; omega)]
  simp
end Go.Fields
set_option maxRecDepth 100000
namespace Go.Proofs.YtgccegnmggjkjaaGreatDoor
open Go.Den Go.Fields
namespace Fld
variable {h h0 : Heap} {w r : Nat} {S : Nat → Prop} {bs : List UInt8} {e : Int} {R : Value → Heap → Prop}
def Wr (h : Heap) (w : Nat) (S : Nat → Prop) (bs : List UInt8) : Prop :=
  ∃ p c, h[w]? = some (.cells #[.bool true, .slice p bs.length c] T.fields_Writer (0, 0)) ∧ Own h p bs.length c 1 (bc bs) ∧ ¬ inBlk p w ∧ ∀ x, S x ↔ x = w ∨ inBlk p x
theorem Wr.lt (H : Wr h w S bs) : ∀ x, S x → x < h.size := by
  obtain ⟨p, c, hb, o, _, hs⟩ := H
  intro x hx
  rcases (hs x).1 hx with rfl | hx
  · exact lt_of_get hb
  · exact o.blk_lt hx
theorem Wr.frame {Q : Nat → Prop} {h' : Heap} (H : Wr h w S bs) (hf : Fr Q h h') (hn : ∀ x, S x → ¬ Q x) : Wr h' w S bs := by
  obtain ⟨p, c, hb, o, hw, hs⟩ := H
  exact ⟨p, c, hf.get hb (hn w ((hs w).2 (.inl rfl))), o.frame hf (fun x hx => hn x ((hs x).2 (.inr hx))), hw, hs⟩
theorem new_ok (hk : ∀ h' w S, Wr h' w S [] → Fr (fun _ => False) h h' → (∀ x, S x → h.size ≤ x) → R (.pointer (some ⟨w, 0, none⟩)) h') : CallsH Tryz.prog F.fields_New #[] h R := by
  refine fields_New.walk (newP_of ?_)
  refine hk _ _ (fun x => x = h.size) ⟨none, 0, push_new, .nil rfl rfl rfl rfl, (fun ⟨a, e, _⟩ => by cases e), fun x => ?_⟩ (Fr.push _ _) (fun x hx => by omega)
  constructor
  · exact .inl
  · rintro (hx | ⟨a, e, _⟩)
    · exact hx
    · cases e
theorem Wr.store {p p' : Option Addr} {c c' n : Nat} {h1 : Heap} {cs : List UInt8} {K : Heap → Prop} (hb : h[w]? = some (.cells #[.bool true, .slice p bs.length c] T.fields_Writer (0, 0))) (hw : ¬ inBlk p w) (hs : ∀ x, S x ↔ x = w ∨ inBlk p x)
    (o : Own h1 p' (bs.length + n) c' 1 (bc bs ++ bc cs)) (f : Fr (inBlk p) h h1) (g : ∀ x, inBlk p' x → inBlk p x ∨ h.size ≤ x) (hn : n = cs.length)
    (hk : ∀ h' S', Wr h' w S' (bs ++ cs) → Step S h S' h' → K h') : StoreP h1 ⟨w, 1, none⟩ (.slice p' (bs.length + n) c') K := by
  subst hn
  have hb1 := f.get hb hw
  have hlt := lt_of_get hb
  have hw' : ¬ inBlk p' w := fun hx => (g w hx).elim hw (fun h2 => by omega)
  refine storeP_blk hb1 (by simp) fun h' k1 k2 k3 => ?_
  have f2 : Fr (fun x => x = w) h1 h' := Fr.of_eq k2 k3
  refine hk h' (fun x => x = w ∨ inBlk p' x) ⟨p', c', ?_, ?_, hw', fun x => Iff.rfl⟩ ⟨?_, ?_⟩
  · rw [k1, List.length_append]; rfl
  · rw [List.length_append, bc_append]
    exact o.frame f2 (fun x hx e => hw' (e ▸ hx))
  · exact f.trans f2 (fun x _ hx => (hs x).2 (.inr hx)) (fun x _ hx => (hs x).2 (.inl hx))
  · rintro x (hx | hx)
    · exact .inl ((hs x).2 (.inl hx))
    · exact (g x hx).imp (fun h2 => (hs x).2 (.inr h2)) id
theorem Wr.push {x : Int} {b : UInt8} {K : Heap → Prop} (H : Wr h w S bs) (hl : bs.length ≤ 1099511627786) (hx : x = (b.toNat : Int)) (hk : ∀ h' S', Wr h' w S' (bs ++ [b]) → Step S h S' h' → K h') :
    ∃ (p : Option Addr) (l c : Nat), hcell h ⟨w, 1, none⟩ = some (.slice p l c) ∧
    NewP h (.cells #[.int .u8 x] T.uint8) fun b h_1 =>
    denSem Tryz.prog (Builtin.append_ #[T.s_uint8, T.s_uint8] T.s_uint8 #[.slice p l c, .slice (some ⟨b, 0, none⟩) 1 1]) h_1 fun v h_2 =>
    ∃ (q : Option Addr) (m d : Nat), v = .slice q m d ∧ StoreP h_2 ⟨w, 1, none⟩ (.slice q m d) K := by
  obtain ⟨p, c, hb, o, hw, hs⟩ := H
  refine ⟨p, bs.length, c, cell_at hb rfl, ?_⟩
  refine den_append1 tU uU o rfl (fun v hv => by simp at hv; subst hv; rfl) (by omega) (by omega) ?_
  intro p' c' h1 o1 f1 g1
  subst hx
  exact ⟨_, _, _, rfl, Wr.store (cs := [b]) hb hw hs o1 f1 g1 rfl hk⟩
def numI (h0 : Heap) (w : Nat) (S0 : Nat → Prop) (bs : List UInt8) (n0 : Nat) (n : Int) (h : Heap) : Prop :=
  ∃ (m : Nat) (S : Nat → Prop) (d : List UInt8), n = (m : Int) ∧ m < 18446744073709551616 ∧ Wr h w S (bs ++ d) ∧ d ++ encNum m = encNum n0 ∧ Step S0 h0 S h
theorem num_ok {n : Int} (k : Nat) (H : Wr h w S bs) (hl : bs.length ≤ 1099511627776) (e : n = (k : Int)) (hn : k < 18446744073709551616)
    (hk : ∀ h' S', Wr h' w S' (bs ++ encNum k) → Step S h S' h' → R (.pointer (some ⟨w, 0, none⟩)) h') : CallsH Tryz.prog F.fields_Writer_Num #[.pointer (some ⟨w, 0, none⟩), .int .u64 n] h R := by
  subst e
  refine fields_Writer_Num.walk ?_
  obtain ⟨p, c, hb, _⟩ := id H
  refine JoinP.of fun J hJ => ⟨true, cell_at hb rfl, ?_⟩
  subst hJ
  simp only [Bool.not_true, Bool.false_eq_true, if_false]
  clear hb
  refine ⟨numI h w S bs k, fun n _ => n.toNat, ⟨k, S, [], rfl, hn, by simpa using H, rfl, Step.refl _ _⟩, ?_⟩
  rintro _ h2 ⟨m, S2, d, rfl, hm, H2, hd, st⟩
  have hdl : d.length ≤ 10 := by
    have := congrArg List.length hd
    rw [List.length_append] at this
    have := (encNum_len k).2
    omega
  by_cases hgt : (m : Int) > 127
  · simp only [hgt, decide_true, if_true]
    refine H2.push (by rw [List.length_append]; omega) (or128 m) fun h5 S5 H5 st5 => ?_
    rw [shr7]
    refine ⟨⟨m / 128, S5, d ++ [UInt8.ofNat (m % 128 + 128)], rfl, by omega, by rwa [List.append_assoc] at H5, ?_, st.trans st5⟩, ?_⟩
    · rw [← hd, encNum_step hm, if_pos (by omega)]; simp
    · show Int.toNat ((m / 128 : Nat) : Int) < Int.toNat (m : Int)
      omega
  · simp only [hgt, decide_false, Bool.false_eq_true, if_false]
    refine H2.push (by rw [List.length_append]; omega) (b := UInt8.ofNat m) (by rw [wrap_u8_nat, UInt8.toNat_ofNat']) fun h5 S5 H5 st5 => ?_
    refine hk h5 S5 ?_ (st.trans st5)
    rwa [← hd, encNum_step hm, if_neg (by omega), ← List.append_assoc]
theorem max0 (n : Int) (h2 : n ≤ 9223372036854775807) : IntKind.wrap .u64 (if 0 > n then 0 else n) = ((natOf n : Nat) : Int) := by
  unfold natOf
  split
  · rw [wrap_u64 (by omega) (by omega)]; omega
  · rw [wrap_u64 (by omega) (by omega)]; omega
theorem int_ok {n : Int} (H : Wr h w S bs) (hl : bs.length ≤ 1099511627776) (hn : n ≤ 9223372036854775807)
    (hk : ∀ h' S', Wr h' w S' (bs ++ encNum (natOf n)) → Step S h S' h' → R (.pointer (some ⟨w, 0, none⟩)) h') : CallsH Tryz.prog F.fields_Writer_Int #[.pointer (some ⟨w, 0, none⟩), .int .i64 n] h R :=
  fields_Writer_Int.walk (num_ok (natOf n) H hl (max0 n hn) (by unfold natOf; omega) fun h' S' H' st => ⟨_, rfl, hk h' S' H' st⟩)
theorem text_ok' {p : Option Addr} {n c : Nat} {t : List UInt8} (H : Wr h w S bs) (hl : bs.length ≤ 1099511627776) (hr : Row h p (bc t)) (hn : n = t.length) (ht : t.length ≤ 1099511627776) (hp : ∀ x, inBlk p x → t ≠ [] → ¬ S x)
    (hk : ∀ h' S', Wr h' w S' (bs ++ encText t) → Step S h S' h' → R (.pointer (some ⟨w, 0, none⟩)) h') : CallsH Tryz.prog F.fields_Writer_Text #[.pointer (some ⟨w, 0, none⟩), .slice p n c] h R := by
  subst hn
  refine fields_Writer_Text.walk (num_ok t.length H hl (wrap_u64 (by omega) (by omega)) (by omega) fun h1 S1 H1 st1 => ⟨_, rfl, ?_⟩)
  obtain ⟨q, d, hb, o, hw, hs⟩ := H1
  refine JoinP.of fun J hJ => ⟨true, cell_at hb rfl, ?_⟩
  subst hJ
  refine JoinP.of fun J hJ => ?_
  simp only [if_true]
  subst hJ
  refine ⟨q, _, d, cell_at hb rfl, ?_⟩
  have hlen := (encNum_len t.length).2
  rw [List.length_append]
  rw [List.length_append] at o
  refine den_append tU uU o (by
    by_cases hne : t = []
    · rw [hne]; exact .inl rfl
    · exact hr.frame st1.fr (fun a e hx => hp _ ⟨a, e, rfl⟩ hne hx)) (by rw [bc_len, Nat.mul_one]) (bc_one t) (by omega) (by omega) ?_
  intro p' c' h' o1 _ f2 g
  refine ⟨_, _, _, rfl, ?_⟩
  rw [List.length_append] at hb
  have := Wr.store (n := t.length) (cs := t) (K := fun h_5 => R (Value.pointer (some { block := w, off := 0 })) h_5) (bs := bs ++ encNum t.length) (by rw [List.length_append]; exact hb) hw hs (by rw [List.length_append]; exact o1) f2 g rfl fun h2 S2 H2 st2 => ?_
  · rw [List.length_append] at this
    exact this
  · exact hk h2 S2 (by unfold encText; rwa [List.append_assoc] at H2) (st1.trans st2)
theorem text_ok {p : Option Addr} {n c : Nat} {t : List UInt8} (H : Wr h w S bs) (hl : bs.length ≤ 1099511627776) (hr : Row h p (bc t)) (hn : n = t.length) (ht : t.length ≤ 1099511627776) (hp : ∀ x, inBlk p x → ¬ S x)
    (hk : ∀ h' S', Wr h' w S' (bs ++ encText t) → Step S h S' h' → R (.pointer (some ⟨w, 0, none⟩)) h') : CallsH Tryz.prog F.fields_Writer_Text #[.pointer (some ⟨w, 0, none⟩), .slice p n c] h R :=
  text_ok' H hl hr hn ht (fun x hx _ => hp x hx) hk
theorem bytes_ok (H : Wr h w S bs) (hl : bs.length ≤ 70368744177664)
    (hk : ∀ p' c' h', Own h' p' bs.length c' 1 (bc bs) → Fr (fun _ => False) h h' → (∀ x, inBlk p' x → h.size ≤ x) → R (.slice p' bs.length c') h') : CallsH Tryz.prog F.fields_Writer_Bytes #[.pointer (some ⟨w, 0, none⟩)] h R := by
  obtain ⟨p, c, hb, o, hw, hs⟩ := H
  exact fields_Writer_Bytes.walk ⟨p, _, c, cell_at hb rfl, clone_ok o.row' rfl hl fun p' c' h' o1 f1 g1 => ⟨_, _, _, rfl, hk p' c' h' o1 f1 g1⟩⟩
def Rd (h : Heap) (r : Nat) (S : Nat → Prop) (e : Int) (bs : List UInt8) : Prop :=
  ∃ p c, h[r]? = some (.cells #[.int .i64 e, .bool true, .slice p bs.length c] T.fields_Reader (0, 0)) ∧ Own h p bs.length c 1 (bc bs) ∧ ¬ inBlk p r ∧ S r ∧ (∀ x, inBlk p x → S x) ∧ ∀ x, S x → x < h.size
theorem Rd.lt (H : Rd h r S e bs) : ∀ x, S x → x < h.size := by
  obtain ⟨p, c, _, _, _, _, _, hs⟩ := H; exact hs
theorem Rd.self (H : Rd h r S e bs) : S r := by
  obtain ⟨p, c, _, _, _, hs, _, _⟩ := H; exact hs
theorem Rd.frame {Q : Nat → Prop} {h' : Heap} (H : Rd h r S e bs) (hf : Fr Q h h') (hn : ∀ x, S x → ¬ Q x) : Rd h' r S e bs := by
  obtain ⟨p, c, hb, o, hr, h1, h2, h3⟩ := H
  exact ⟨p, c, hf.get hb (hn r h1), o.frame hf (fun x hx => hn x (h2 x hx)), hr, h1, h2, fun x hx => Nat.lt_of_lt_of_le (h3 x hx) hf.1⟩
theorem read_ok {p : Option Addr} {n c : Nat} (hr : Row h p (bc bs)) (hn : n = bs.length) (hl : bs.length ≤ 70368744177664)
    (hk : ∀ h' r S, Rd h' r S 0 bs → Fr (fun _ => False) h h' → (∀ x, S x → h.size ≤ x) → R (.pointer (some ⟨r, 0, none⟩)) h') : CallsH Tryz.prog F.fields_Read #[.slice p n c] h R := by
  refine fields_Read.walk (clone_ok hr hn hl fun p' c' h1 o1 f1 g1 => ⟨_, _, _, rfl, newP_of ?_⟩)
  refine hk _ _ (fun x => h.size ≤ x ∧ x ≤ h1.size) ⟨p', c', push_new, o1.frame (Fr.push (S := fun _ => False) _ _) (fun _ _ => id), ?_, ⟨f1.1, Nat.le_refl _⟩, ?_, ?_⟩ (Fr.on f1 (Fr.push _ _)) (fun x hx => hx.1)
  · intro hx; have := o1.blk_lt hx; omega
  · intro x hx; have := o1.blk_lt hx; exact ⟨g1 x hx, by omega⟩
  · intro x hx; rw [Array.size_push]; omega
theorem fail_ok {e' : Int} (H : Rd h r S e bs) (hk : ∀ h', Rd h' r S (failE e e') bs → Fr (fun x => x = r) h h' → R (.tuple #[]) h') : CallsH Tryz.prog F.fields_fault_fail #[.pointer (some ⟨r, 0, none⟩), .int .i64 e'] h R := by
  obtain ⟨p, c, hb, o, hr, h1, h2, h3⟩ := id H
  refine fields_fault_fail.walk ⟨e, cell_at hb rfl, ?_⟩
  unfold failE at hk
  by_cases h0 : e = 0
  · subst h0
    simp only [beq_self_eq_true, if_true]
    refine storeP_blk hb (by simp) fun h' k1 k2 k3 => ?_
    have f : Fr (fun x => x = r) h h' := Fr.of_eq k2 k3
    exact hk h' ⟨p, c, k1, o.frame f (fun x hx e => hr (e ▸ hx)), hr, h1, h2, fun x hx => by rw [k2]; exact h3 x hx⟩ f
  · simp only [beq_iff_eq, h0, if_false]
    simp only [h0, if_false] at hk
    exact hk h H (Fr.refl _ _)
theorem fine_ok (H : Rd h r S e bs) (hk : R (.bool (e == 0)) h) : CallsH Tryz.prog F.fields_Reader_fine #[.pointer (some ⟨r, 0, none⟩)] h R := by
  obtain ⟨p, c, hb, o, hr, h1, h2, h3⟩ := H
  exact fields_Reader_fine.walk ⟨true, cell_at hb rfl, e, cell_at hb rfl, hk⟩
def rnumI (h0 : Heap) (r : Nat) (S : Nat → Prop) (bs : List UInt8) (n i : Int) (h : Heap) : Prop :=
  ∃ (k a : Nat) (rest : List UInt8), i = (k : Int) ∧ n = (a : Int) ∧ k ≤ 10 ∧ a < 2 ^ (7 * k) ∧ a < 18446744073709551616 ∧ Rd h r S 0 rest ∧ Fr (fun x => x = r) h0 h ∧ rdN k a rest = rdN 0 0 bs
theorem rnum_ok (H : Rd h r S e bs) (hk : ∀ h', Rd h' r S (readNum e bs).2.1 (readNum e bs).2.2 → Fr (fun x => x = r) h h' → R (.int .u64 ((readNum e bs).1 : Int)) h') :
    CallsH Tryz.prog F.fields_Reader_Num #[.pointer (some ⟨r, 0, none⟩)] h R := by
  refine fields_Reader_Num.walk (JoinP.of fun J hJ => ?_)
  by_cases he : e = 0
  · subst he
    unfold readNum at hk
    rw [if_pos rfl] at hk
    refine ⟨rnumI h r S bs, fun _ i _ => 11 - i.toNat, ⟨0, 0, bs, rfl, rfl, by omega, by simp, by omega, H, Fr.refl _ _, rfl⟩, ?_⟩
    rintro _ _ h2 ⟨k, a, rest, rfl, rfl, hk10, ha, ha2, H2, f2, hrd⟩
    refine fine_ok H2 ⟨_, rfl, ?_⟩
    simp only [beq_self_eq_true, if_true]
    obtain ⟨p, c, hb, o, hr, h1, hsub, h3⟩ := id H2
    refine ⟨p, _, c, cell_at hb rfl, ?_⟩
    cases rest with
    | nil =>
      simp only [List.length_nil, Int.natCast_zero, beq_self_eq_true, if_true]
      refine fail_ok H2 fun h4 H4 f4 => ⟨rfl, ?_⟩
      subst hJ
      rw [rdN] at hrd
      rw [← hrd] at hk
      exact hk h4 H4 (f2.tt f4)
    | cons b rest =>
      have hne : ((((b :: rest).length : Nat) : Int) == 0) = false := by simp only [List.length_cons, beq_eq_false_iff_ne, ne_eq]; omega
      simp only [hne, Bool.false_eq_true, if_false]
      refine ⟨p, _, c, cell_at hb rfl, ⟨by omega, by simp only [List.length_cons]; omega⟩, ?_⟩
      obtain ⟨ab, aoff, rfl⟩ := o.some (by rw [bc_len]; simp)
      refine onSome_some.2 ⟨(b.toNat : Int), o.cell rfl, some ⟨ab, aoff, none⟩, _, c, cell_at hb rfl, ⟨by omega, by simp only [List.length_cons]; omega⟩, ?_⟩
      have o2 := o.sub (l := 1) (u := (b :: rest).length) (by simp) (Nat.le_refl _)
      have er : ((bc (b :: rest)).take ((b :: rest).length * 1)).drop (1 * 1) = bc rest := by
        simp only [Nat.mul_one]
        rw [List.take_of_length_le (by rw [bc_len]; exact Nat.le_refl _)]; rfl
      rw [er] at o2
      have el : (b :: rest).length - Int.toNat 1 = rest.length := by simp
      rw [el]
      have el2 : (b :: rest).length - 1 = rest.length := by simp
      rw [el2] at o2
      refine storeP_blk hb (by simp) fun h5 k1 k2 k3 => ?_
      have f5 : Fr (fun x => x = r) h2 h5 := Fr.of_eq k2 k3
      have H5 : Rd h5 r S 0 rest := ⟨_, _, k1, o2.frame f5 (fun x hx e => hr (e ▸ inBlk_sub hx)), fun hx => hr (inBlk_sub hx), h1, fun x hx => hsub x (inBlk_sub hx), fun x hx => by rw [k2]; exact h3 x hx⟩
      have f25 := f2.tt f5
      clear o2 k1 k2 k3 f5 er el el2 hne o hb hsub h3 hr
      have w1 : IntKind.wrap .i64 ((k : Int) * 7) = ((7 * k : Nat) : Int) := by rw [wrap_id (by omega) (by omega)]; omega
      have w2 : IntKind.wrap .i64 (7 * (k : Int)) = ((7 * k : Nat) : Int) := by rw [wrap_id (by omega) (by omega)]; omega
      have w3 : IntKind.wrap .i64 ((k : Int) + 1) = ((k + 1 : Nat) : Int) := by rw [wrap_id (by omega) (by omega)]; omega
      have hb := b.toNat_lt
      rw [rdN] at hrd
      refine JoinP.of fun J1 hJ1 => ?_
      have fin : J1 (decide (k = 10 ∨ (k = 9 ∧ b.toNat > 1) ∨ (b.toNat = 0 ∧ k > 0))) h5 := by
        subst hJ1
        by_cases hbad : k = 10 ∨ (k = 9 ∧ b.toNat > 1) ∨ (b.toNat = 0 ∧ k > 0)
        · simp only [hbad, decide_true, if_true]
          rw [if_pos hbad] at hrd
          refine fail_ok H5 fun h7 H7 f7 => ⟨rfl, ?_⟩
          subst hJ
          rw [← hrd] at hk
          exact hk h7 H7 (f25.tt f7)
        · simp only [hbad, decide_false, Bool.false_eq_true, if_false]
          rw [if_neg hbad] at hrd
          rw [w2, w3, if_neg (by omega), and128, and127]
          have hd : b.toNat % 128 * 2 ^ (7 * k) < 18446744073709551616 := by
            by_cases h9 : k = 9
            · subst h9
              have : b.toNat % 128 ≤ 1 := by omega
              have := Nat.mul_le_mul_right (2 ^ (7 * 9)) this
              omega
            · have h8 : k ≤ 8 := by omega
              have p1 : (2 : Nat) ^ (7 * k) ≤ 2 ^ 56 := Nat.pow_le_pow_right (by omega) (by omega)
              have p2 : b.toNat % 128 ≤ 127 := by omega
              have := Nat.mul_le_mul p2 p1
              omega
          have key : IntKind.wrap .u64 ((b.toNat % 128 : Nat) : Int) = ((b.toNat % 128 : Nat) : Int) := wrap_u64_nat (by omega)
          have k64 : 7 * k ≤ 64 := by omega
          rw [key, or_shl ha hd k64]
          by_cases hlt : b.toNat < 128
          · simp only [hlt, decide_true, if_true]
            rw [if_pos hlt] at hrd
            rw [← hrd] at hk
            exact hk h5 H5 f25
          · simp only [hlt, decide_false, Bool.false_eq_true, if_false]
            rw [if_neg hlt] at hrd
            have h9 : k ≤ 8 := by omega
            have p3 : (2 : Nat) ^ (7 * (k + 1)) = 128 * 2 ^ (7 * k) := by rw [Nat.mul_add, Nat.pow_add, Nat.mul_comm]
            have p4 : b.toNat % 128 + 1 ≤ 128 := by omega
            have p5 := Nat.mul_le_mul_right (2 ^ (7 * k)) p4
            rw [Nat.add_mul] at p5
            have p6 : (2 : Nat) ^ (7 * (k + 1)) ≤ 2 ^ 63 := Nat.pow_le_pow_right (by omega) (by omega)
            refine ⟨⟨k + 1, _, rest, rfl, rfl, by omega, by omega, by omega, H5, f25, hrd⟩, ?_⟩
            show 11 - Int.toNat ((k + 1 : Nat) : Int) < 11 - Int.toNat (k : Int)
            omega
      rw [w1]
      by_cases c1 : k = 10
      · subst c1; simpa using fin
      · have c1' : ((k : Int) == 10) = false := by simp only [beq_eq_false_iff_ne, ne_eq]; omega
        simp only [c1', Bool.false_eq_true, if_false]
        by_cases c2 : k = 9
        · subst c2
          by_cases c3 : b.toNat > 1
          · have c3' : (b.toNat : Int) > 1 := by omega
            have c4 : ¬ b.toNat = 0 := by omega
            simpa [c3, c3', c4] using fin
          · have c3' : ¬ (b.toNat : Int) > 1 := by omega
            by_cases c4 : b.toNat = 0
            · simpa [c3, c3', c4] using fin
            · simpa [c3, c3', c4] using fin
        · have c2' : (((7 * k : Nat) : Int) == 63) = false := by simp only [beq_eq_false_iff_ne, ne_eq]; omega
          simp only [c2', Bool.false_eq_true, if_false]
          by_cases c4 : b.toNat = 0
          · have c5 : decide ((k : Int) > 0) = decide (k > 0) := by simp
            simp only [c4, Int.natCast_zero, beq_self_eq_true, if_true, c5]
            simpa [c1, c2, c4] using fin
          · have c4' : ((b.toNat : Int) == 0) = false := by simp only [beq_eq_false_iff_ne, ne_eq]; omega
            simp only [c4', Bool.false_eq_true, if_false]
            simpa [c1, c2, c4] using fin
  · refine ⟨fun _ _ h2 => h2 = h, fun _ _ _ => 0, rfl, ?_⟩
    rintro _ _ h2 rfl
    refine fine_ok H ⟨_, rfl, ?_⟩
    have : (e == 0) = false := by simpa using he
    simp only [this, Bool.false_eq_true, if_false]
    subst hJ
    unfold readNum at hk
    rw [if_neg he] at hk
    exact hk _ H (Fr.refl _ _)
theorem most_ok (top : Nat) {t : Int} (ht : t = (top : Int)) (H : Rd h r S e bs) (hk : ∀ h', Rd h' r S (readMost top e bs).2.1 (readMost top e bs).2.2 → Fr (fun x => x = r) h h' → R (.int .u64 ((readMost top e bs).1 : Int)) h') :
    CallsH Tryz.prog F.fields_Reader_atMost #[.pointer (some ⟨r, 0, none⟩), .int .u64 t] h R := by
  subst ht
  refine fields_Reader_atMost.walk (rnum_ok H fun h1 H1 f1 => ⟨_, rfl, ?_⟩)
  unfold readMost at hk
  by_cases hgt : (readNum e bs).1 > top
  · have : ((readNum e bs).1 : Int) > (top : Int) := by omega
    simp only [this, decide_true, if_true]
    rw [if_pos hgt] at hk
    exact fail_ok H1 fun h2 H2 f2 => ⟨rfl, hk h2 H2 (f1.tt f2)⟩
  · have : ¬ ((readNum e bs).1 : Int) > (top : Int) := by omega
    simp only [this, decide_false, Bool.false_eq_true, if_false]
    rw [if_neg hgt] at hk
    exact hk h1 H1 f1
theorem rint_ok (H : Rd h r S e bs) (hk : ∀ h', Rd h' r S (readInt e bs).2.1 (readInt e bs).2.2 → Fr (fun x => x = r) h h' → R (.int .i64 ((readInt e bs).1 : Int)) h') :
    CallsH Tryz.prog F.fields_Reader_Int #[.pointer (some ⟨r, 0, none⟩)] h R :=
  fields_Reader_Int.walk (most_ok 1099511627776 rfl H fun h1 H1 f1 => ⟨_, rfl, by
    have := readMost_le 1099511627776 e bs
    rw [wrap_id (by omega) (by omega)]
    exact hk h1 H1 f1⟩)
theorem rtext_ok (H : Rd h r S e bs) (hl : bs.length ≤ 70368744177664)
    (hk : ∀ h' p c, Rd h' r S (readText e bs).2.1 (readText e bs).2.2 → Own h' p (readText e bs).1.length c 1 (bc (readText e bs).1) → (∀ x, inBlk p x → h.size ≤ x) → Fr (fun x => x = r) h h' → R (.slice p (readText e bs).1.length c) h') :
    CallsH Tryz.prog F.fields_Reader_Text #[.pointer (some ⟨r, 0, none⟩)] h R := by
  refine fields_Reader_Text.walk (rnum_ok H fun h1 H1 f1 => ⟨_, rfl, fine_ok H1 ⟨_, rfl, ?_⟩⟩)
  unfold readText at hk
  have hlt := readNum_lt e bs
  have hlen : (readNum e bs).2.2.length ≤ bs.length := by
    unfold readNum; split
    · exact rdN_len bs 0 0
    · exact Nat.le_refl _
  generalize readNum e bs = N at *
  obtain ⟨n, e', rest⟩ := N
  dsimp only at *
  by_cases h0 : e' = 0
  · subst h0
    simp only [beq_self_eq_true, Bool.not_true, Bool.false_eq_true, if_false]
    obtain ⟨p, c, hb, o, hr, k1, k2, k3⟩ := id H1
    refine ⟨p, _, c, cell_at hb rfl, ?_⟩
    rw [if_pos rfl] at hk
    rw [wrap_u64 (n := ((rest.length : Nat) : Int)) (by omega) (by omega)]
    by_cases hgt : n > rest.length
    · have : (n : Int) > (rest.length : Int) := by omega
      simp only [this, decide_true, if_true]
      rw [if_pos hgt] at hk
      exact fail_ok H1 fun h2 H2 f2 => ⟨rfl, hk h2 none 0 H2 (.nil rfl rfl rfl rfl) (fun x ⟨a, e, _⟩ => by cases e) (f1.tt f2)⟩
    · have : ¬ (n : Int) > (rest.length : Int) := by omega
      simp only [this, decide_false, Bool.false_eq_true, if_false]
      rw [if_neg hgt] at hk
      have hc := o.le
      refine ⟨p, _, c, cell_at hb rfl, ⟨by omega, by omega⟩, ?_⟩
      have oc := o.sub (l := 0) (u := n) (by omega) (by omega)
      simp only [Nat.mul_one, List.drop_zero, bc_take] at oc
      have etl : (rest.take n).length = n := by rw [List.length_take]; omega
      refine clone_ok oc.row' (by rw [etl]; omega) (by omega) fun p' c' h4 o4 f4 g4 => ⟨_, _, _, rfl, ?_⟩
      have H4 := H1.frame f4 (fun _ _ => id)
      obtain ⟨p2, c2, hb2, o2, hr2, k1', k2', k3'⟩ := H4
      refine ⟨p2, _, c2, cell_at hb2 rfl, ⟨by omega, by omega⟩, ?_⟩
      refine storeP_blk hb2 (by simp) fun h5 q1 q2 q3 => ?_
      have f5 : Fr (fun x => x = r) h4 h5 := Fr.of_eq q2 q3
      have os := o2.sub (l := n) (u := rest.length) (by omega) (Nat.le_refl _)
      rw [Nat.mul_one, Nat.mul_one, ← bc_len rest, List.take_length, bc_len, bc_drop] at os
      have edl : (rest.drop n).length = rest.length - n := by simp
      refine hk h5 p' c' ⟨slBase p2 c2 n 1, c2 - n, ?_, ?_, fun hx => hr2 (inBlk_sub hx), k1', fun x hx => k2' x (inBlk_sub hx), fun x hx => by rw [q2]; exact k3' x hx⟩ (o4.frame f5 (fun x hx e => ?_)) (fun x hx => ?_) (f1.tt ((f4.mono fun _ _ => False.elim).tt f5))
      · rw [edl]
        simpa using q1
      · rw [edl]
        exact os.frame f5 (fun x hx e => hr2 (e ▸ inBlk_sub hx))
      · have := g4 x hx; have := lt_of_get hb; omega
      · have := g4 x hx; have := f1.1; omega
  · have : (e' == 0) = false := by simpa using h0
    simp only [this, Bool.not_false, if_true]
    rw [if_neg h0] at hk
    exact hk h1 none 0 H1 (.nil rfl rfl rfl rfl) (fun x ⟨a, e, _⟩ => by cases e) f1
theorem rend_ok (H : Rd h r S e bs) (hk : R (.int .i64 (readEnd e bs)) h) : CallsH Tryz.prog F.fields_Reader_End #[.pointer (some ⟨r, 0, none⟩)] h R := by
  obtain ⟨p, c, hb, o, hr, k1, k2, k3⟩ := H
  refine fields_Reader_End.walk (JoinP.of fun J hJ => ⟨true, cell_at hb rfl, ?_⟩)
  subst hJ
  simp only [Bool.not_true, Bool.false_eq_true, if_false]
  refine ⟨e, cell_at hb rfl, ?_⟩
  unfold readEnd at hk
  by_cases h0 : e = 0
  · subst h0
    simp only [bne_self_eq_false, Bool.false_eq_true, if_false]
    refine ⟨p, _, c, cell_at hb rfl, ?_⟩
    rw [if_pos rfl] at hk
    cases bs with
    | nil => exact hk
    | cons b bs =>
      have : (((b :: bs).length : Nat) : Int) > 0 := by simp only [List.length_cons]; omega
      simp only [this, decide_true, if_true]
      rwa [if_neg (by simp)] at hk
  · have : (e != 0) = true := by simpa using h0
    simp only [this, if_true]
    rw [if_neg h0] at hk
    exact ⟨e, cell_at hb rfl, hk⟩
end Fld
end Go.Proofs.YtgccegnmggjkjaaGreatDoor
set_option maxRecDepth 100000
namespace Go.Den
theorem den_s2b {P : Program} {sT dT e : TypeId} {h : Heap} {s : ByteArray} {K : Value → Heap → Prop} (hs : P.underlying sT = some .string) (hd : P.underlying dT = some (.slice e)) (he : P.underlying e = some (.int .u8))
    (hk : ∀ p c h', Row h' p (bc s.data.toList) → s.size ≤ c → Fr (fun _ => False) h h' → (∀ y, inBlk p y → h.size ≤ y) → K (.slice p s.size c) h') : denSem P (convert sT dT (.string s)) h K := by
  unfold convert
  refine den_of_rd (s := underlying sT) (rd_underlying hs) ?_
  refine den_of_rd (s := underlying dT) (rd_underlying hd) ?_
  show denSem P (underlying e >>= _) h K
  refine den_of_rd (s := underlying e) (rd_underlying he) ?_
  show denSem P (Conv.stringToBytes e s) h K
  unfold Conv.stringToBytes
  rw [den_bind]
  unfold choose
  simp only [denSem, Question.forced, Bool.false_eq_true, if_false, Question.cut]
  intro tq
  generalize hcap : s.size + tq % (2 ^ 63 - s.size) = cap
  have hle : s.size ≤ cap := by omega
  generalize hcs : (s.data.map fun b => Value.int .u8 (b.toNat : Int)) ++ Array.replicate (cap - s.size) (Value.int .u8 0) = cs
  have hrow : ∀ j v, (bc s.data.toList)[j]? = some v → cs[0 + j]? = some v := fun j v hj => by
    have hjl := (List.getElem?_eq_some_iff.1 hj).1
    rw [bc_len, Array.length_toList] at hjl
    rw [← hcs, Nat.zero_add, Array.getElem?_append_left (by simpa using hjl), Array.getElem?_map, ← hj]
    unfold bc
    rw [List.getElem?_map, Array.getElem?_toList]
  show denSem P (newRow e cs >>= _) h K
  rw [den_bind]
  show denSem P (markStringish ⟨h.size, 0, none⟩ >>= fun _ => pure (.slice (some ⟨h.size, 0, none⟩) s.size cap)) (h.push (.cells cs e)) K
  rw [den_bind]
  unfold markStringish shape
  have hsh : hshape (h.push (.cells cs e)) h.size = some (e, cs.size) := by simp [hshape]
  show denSem P (match hshape (h.push (.cells cs e)) h.size with | some (_, n) => freeze { block := h.size, off := n } 1 | _ => pure ()) (h.push (.cells cs e)) _
  rw [hsh]
  show K (.slice (some ⟨h.size, 0, none⟩) s.size cap) (hfreeze (h.push (.cells cs e)) { block := h.size, off := cs.size } 1)
  unfold hfreeze
  rw [if_neg (by omega)]
  refine hk _ _ _ (.inr ⟨_, rfl, heldL_blk (c := cs) (t := e) (f := if (0 : Nat) == 0 then (cs.size, cs.size + 1) else (min 0 cs.size, max 0 (cs.size + 1))) ?_ hrow⟩) hle ⟨by simp, fun c hc _ => ?_⟩ (fun y ⟨a, ea, ey⟩ => by cases ea; exact Nat.le_of_eq ey)
  · rw [Array.getElem?_modify, if_pos rfl, push_new]; rfl
  · rw [Array.getElem?_modify, if_neg (by simp; omega), Array.getElem?_push, if_neg (by omega)]
end Go.Den
namespace Go.Proofs.YtgccegnmggjkjaaGreatDoor
open Go.Den Go.Fields
namespace Fld
variable {h h' h0 : Heap} {R : Value → Heap → Prop} {p q : Option Addr} {l c : Nat} {bs : List (List UInt8)}
theorem s2b {s : ByteArray} {K : Value → Heap → Prop} (hk : ∀ p c h', Row h' p (bc s.data.toList) → s.size ≤ c → Fr (fun _ => False) h h' → (∀ y, inBlk p y → h.size ≤ y) → K (.slice p s.size c) h') : denSem Tryz.prog (convert T.string T.s_uint8 (.string s)) h K := den_s2b uS uU u8 hk
abbrev nenc (n : BV) : List Value := [n.val]
theorem tN : SlTy Tryz.prog T.s_s_uint8 T.s_uint8 1 24 (.slice none 0 0) := ⟨by kernel_rfl, by kernel_rfl, rfl⟩
theorem uN : Tryz.prog.underlying T.s_s_uint8 = some (.slice T.s_uint8) := by kernel_rfl
theorem nenc_len (n : BV) : (nenc n).length = 1 := rfl
theorem nenc_one (xs : List BV) : ∀ v ∈ xs.flatMap nenc, oneCell v = true := by
  intro v hv
  obtain ⟨a, _, ha⟩ := List.mem_flatMap.1 hv
  simp at ha
  subst ha; rfl
def BL (h0 h : Heap) (p : Option Addr) (l c : Nat) (bs : List (List UInt8)) : Prop :=
  ∃ (xs : List BV) (D : Nat → Prop), l = xs.length ∧ Own h p l c 1 (xs.flatMap nenc) ∧ xs.map BV.b = bs ∧ (∀ x ∈ xs, x.ok h D) ∧ (∀ y, D y → h0.size ≤ y ∧ y < h.size ∧ ¬ inBlk p y) ∧ ∀ y, inBlk p y → h0.size ≤ y
theorem BL.nil : BL h0 h none 0 0 [] := ⟨[], fun _ => False, rfl, .nil rfl rfl rfl rfl, rfl, (fun x hx => by cases hx), (fun y hy => hy.elim), fun y ⟨a, e, _⟩ => by cases e⟩
theorem BL.on (H : BL h0 h p l c bs) (f : Fr (fun _ => False) h h') : BL h0 h' p l c bs := by
  obtain ⟨xs, D, h1, h2, h3, h4, h5, h6⟩ := H
  exact ⟨xs, D, h1, h2.frame f (fun _ _ => id), h3, fun x hx => (h4 x hx).frame f (fun _ _ => id), fun y hy => ⟨(h5 y hy).1, Nat.lt_of_lt_of_le (h5 y hy).2.1 f.1, (h5 y hy).2.2⟩, h6⟩
theorem BL.len (H : BL h0 h p l c bs) : l = bs.length := by
  obtain ⟨xs, D, h1, _, h3, _⟩ := H
  rw [h1, ← h3, List.length_map]
theorem BL.lt (H : BL h0 h p l c bs) {y : Nat} (hy : inBlk p y) : y < h.size := by
  obtain ⟨xs, D, _, h2, _⟩ := H
  exact h2.blk_lt hy
theorem BL.push {b : List UInt8} {q' : Option Addr} {d : Nat} {K : Value → Heap → Prop} (H : BL h0 h p l c bs) (up : h0.size ≤ h.size) (o : Own h q' b.length d 1 (bc b)) (hq : ∀ y, inBlk q' y → h0.size ≤ y ∧ ¬ inBlk p y) (hl : l ≤ 1000000)
    (hk : ∀ p' c' h', BL h0 h' p' (l + 1) c' (bs ++ [b]) → Fr (inBlk p) h h' → (∀ y, inBlk p' y → inBlk p y ∨ h.size ≤ y) → K (.slice p' (l + 1) c') h') :
    NewP h (.cells #[.slice q' b.length d] T.s_uint8) fun b' h1 => denSem Tryz.prog (Builtin.append_ #[T.s_s_uint8, T.s_s_uint8] T.s_s_uint8 #[.slice p l c, .slice (some ⟨b', 0, none⟩) 1 1]) h1 K := by
  obtain ⟨xs, D, h1, h2, h3, h4, h5, h6⟩ := H
  refine den_append1 tN uN h2 rfl (fun v hv => by simp at hv; subst hv; rfl) (by omega) (by omega) ?_
  intro p' c' h' o' f' g'
  have lt : ∀ y, inBlk q' y → y < h.size := fun y hy => o.blk_lt hy
  refine hk p' c' h' ⟨xs ++ [⟨q', d, b⟩], fun y => D y ∨ inBlk q' y, by rw [List.length_append, h1]; rfl, ?_, ?_, ?_, ?_, ?_⟩ f' g'
  · rw [List.flatMap_append]; simpa using o'
  · rw [List.map_append, h3]; rfl
  · intro x hx
    rcases List.mem_append.1 hx with hx | hx
    · exact ((h4 x hx).frame f' (fun y hy => (h5 y hy).2.2)).mono (fun y => .inl)
    · simp at hx; subst hx
      exact BV.of_own (o.frame f' (fun y hy => (hq y hy).2)) (fun y => .inr)
  · have z := f'.1
    rintro y (hy | hy)
    · exact ⟨(h5 y hy).1, by have := (h5 y hy).2.1; omega, fun hx => (g' y hx).elim (h5 y hy).2.2 (fun h2 => by have := (h5 y hy).2.1; omega)⟩
    · exact ⟨(hq y hy).1, by have := lt y hy; omega, fun hx => (g' y hx).elim (hq y hy).2 (fun h2 => by have := lt y hy; omega)⟩
  · intro y hy
    rcases g' y hy with h2 | h2
    · exact h6 y h2
    · omega
theorem BL.rows (H : BL h0 h p l c bs) : ∃ xs : List BV, l = xs.length ∧ Row h p (xs.flatMap nenc) ∧ xs.map BV.b = bs ∧ l ≤ c ∧ ∀ x ∈ xs, Row h x.p (bc x.b) := by
  obtain ⟨xs, D, h1, h2, h3, h4, h5, h6⟩ := H
  exact ⟨xs, h1, h2.row', h3, h2.le, fun x hx => (h4 x hx).row⟩
end Fld
end Go.Proofs.YtgccegnmggjkjaaGreatDoor
set_option maxRecDepth 100000
set_option maxHeartbeats 4000000
namespace Go.Proofs.YtgccegnmggjkjaaGreatDoor
open Go.Den
variable {h : Heap} {R : Value → Heap → Prop}
theorem law19_Same.walk {a_p : Option Addr} {a_l a_c : Nat} {b_p : Option Addr} {b_l b_c : Nat} (hv :
 if (((a_l : Nat) : Int) != ((b_l : Nat) : Int)) = true then
 R (.bool false) h
 else
 ∃ (I : Int → Heap → Prop) (mu : Int → Heap → Nat), I 0 h ∧ ∀ (i : Int) (h_1 : Heap), I i h_1 →
 if (decide (i < ((a_l : Nat) : Int))) = true then
 ((0 : Int) ≤ i ∧ i < ((a_l : Nat) : Int)) ∧
 onSome a_p fun a =>
 ∃ t20_p t20_l t20_c, hcell h_1 (a.add (Int.toNat i * 1)) = some (.slice t20_p t20_l t20_c) ∧
 ∃ (t21 : ByteArray), ConvV Tryz.prog T.s_uint8 T.string (.slice t20_p t20_l t20_c) h_1 t21 ∧
 ((0 : Int) ≤ i ∧ i < ((b_l : Nat) : Int)) ∧
 onSome b_p fun a_1 =>
 ∃ t25_p t25_l t25_c, hcell h_1 (a_1.add (Int.toNat i * 1)) = some (.slice t25_p t25_l t25_c) ∧
 ∃ (t26 : ByteArray), ConvV Tryz.prog T.s_uint8 T.string (.slice t25_p t25_l t25_c) h_1 t26 ∧
 if (!(t21.toList == t26.toList)) = true then
 R (.bool false) h_1
 else
 (I (IntKind.wrap .i64 (i + 1)) h_1 ∧ mu (IntKind.wrap .i64 (i + 1)) h_1 < mu i h_1)
 else
 R (.bool true) h_1) : CallsH Tryz.prog F.law19_Same #[.slice a_p a_l a_c, .slice b_p b_l b_c] h R :=
 callsH_of_body (.seq .leaf (.seq (.seq .leaf (.cond (.seq .leaf .leaf) .leaf)) (.seq (.seq .leaf (.block (.loop [(5, .one (.int .i64))] (.seq (.seq .leaf (.cond .leaf .leaf)) (.seq (.block (.seq (.plan (.op 0 (.op 1 (.op 2 (.op 3 (.op 4 (.op 5 (.op 6 (.op 7 (.op 8 (.op 9 (.op 10 .done)))))))))))) (.cond (.seq .leaf .leaf) .leaf))) .leaf))))) (.seq .leaf .leaf)))) Tryz.func20 rfl rfl (Eq.mp (by kernel_rfl) hv)
end Go.Proofs.YtgccegnmggjkjaaGreatDoor
set_option maxRecDepth 100000
namespace Go.Proofs.YtgccegnmggjkjaaGreatDoor
open Go.Den Go.Fields
namespace Fld
variable {h h' h0 : Heap} {R : Value → Heap → Prop} {p q : Option Addr} {c d i : Nat}
structure Rows (h : Heap) (p : Option Addr) (l c : Nat) (xs : List BV) : Prop where
  len : l = xs.length
  row : Row h p (xs.flatMap nenc)
  cap : l ≤ c
  each : ∀ x ∈ xs, Row h x.p (bc x.b)
theorem Rows.on {l c : Nat} {xs : List BV} (H : Rows h p l c xs) (f : Fr (fun _ => False) h h') : Rows h' p l c xs :=
  ⟨H.len, H.row.frame f (fun _ _ => id), H.cap, fun x hx => (H.each x hx).frame f (fun _ _ => id)⟩
theorem BL.to_rows {h0 : Heap} {l c : Nat} {bs : List (List UInt8)} (H : BL h0 h p l c bs) : ∃ xs, Rows h p l c xs ∧ xs.map BV.b = bs := by
  obtain ⟨xs, e1, e2, e3, e4, e5⟩ := H.rows
  exact ⟨xs, ⟨e1, e2, e4, e5⟩, e3⟩
theorem same_ok {l c m d : Nat} {xs ys : List BV} (H1 : Rows h p l c xs) (H2 : Rows h q m d ys) (hm : l ≤ 1000000000) (hk : R (.bool (decide (xs.map BV.b = ys.map BV.b))) h) : CallsH Tryz.prog F.law19_Same #[.slice p l c, .slice q m d] h R := by
  obtain ⟨rfl, r1, _, e1⟩ := H1
  obtain ⟨rfl, r2, _, e2⟩ := H2
  refine law19_Same.walk ?_
  by_cases hl : xs.length = ys.length
  · have : (((xs.length : Nat) : Int) != ((ys.length : Nat) : Int)) = false := by rw [hl]; simp
    rw [this]
    simp only [Bool.false_eq_true, if_false]
    refine ⟨fun i g => g = h ∧ ∃ k : Nat, i = (k : Int) ∧ k ≤ xs.length ∧ (xs.take k).map BV.b = (ys.take k).map BV.b, fun i _ => xs.length - i.toNat, ⟨rfl, 0, rfl, by omega, by simp⟩, ?_⟩
    rintro _ _ ⟨rfl, k, rfl, hk1, hk2⟩
    by_cases hlt : k < xs.length
    · have q1 : (k : Int) < ((xs.length : Nat) : Int) := by omega
      simp only [q1, decide_true, if_true, Int.toNat_natCast]
      have gx : xs[k]? = some xs[k] := List.getElem?_eq_getElem hlt
      have gy : ys[k]? = some (ys[k]'(by omega)) := List.getElem?_eq_getElem _
      generalize xs[k] = x at gx
      generalize ys[k]'(by omega) = y at gy
      obtain ⟨a, rfl⟩ := r1.some (by intro e; cases xs with | nil => simp at hlt | cons => simp at e)
      obtain ⟨b, rfl⟩ := r2.some (by intro e; cases ys with | nil => simp at gy | cons => simp at e)
      have cx := (r1.heldAt nenc_len gx).1
      have cy := (r2.heldAt nenc_len gy).1
      rw [add_zero_addr] at cx cy
      refine ⟨⟨by first | trivial | omega, by first | trivial | omega⟩, onSome_some.2 ⟨_, _, _, cx, _, conv (e1 x (List.mem_of_getElem? gx)) rfl, ⟨by first | trivial | omega, by first | trivial | omega⟩, onSome_some.2 ⟨_, _, _, cy, _, conv (e2 y (List.mem_of_getElem? gy)) rfl, ?_⟩⟩⟩
      rw [str_list, str_list]
      by_cases hxy : x.b = y.b
      · rw [hxy]
        simp only [beq_self_eq_true, Bool.not_true, Bool.false_eq_true, if_false]
        rw [wrap_id (by omega) (by omega)]
        refine ⟨⟨by first | trivial | rfl, k + 1, by omega, by omega, ?_⟩, by show _ - Int.toNat ((k : Int) + 1) < _; omega⟩
        rw [List.take_add_one, List.take_add_one, gx, gy, List.map_append, List.map_append, hk2]
        simp [hxy]
      · have : (x.b == y.b) = false := by simpa using hxy
        simp only [this, Bool.not_false, if_true]
        have hne : xs.map BV.b ≠ ys.map BV.b := fun e => by
          have h1 : (xs.map BV.b)[k]? = (ys.map BV.b)[k]? := by rw [e]
          rw [List.getElem?_map, List.getElem?_map, gx, gy] at h1
          exact hxy (Option.some.inj h1)
        rw [decide_eq_false hne] at hk
        exact hk
    · have q1 : ¬ (k : Int) < ((xs.length : Nat) : Int) := by omega
      simp only [q1, decide_false, Bool.false_eq_true, if_false]
      obtain rfl : k = xs.length := by omega
      rw [List.take_length, hl, List.take_length] at hk2
      rw [decide_eq_true hk2] at hk
      exact hk
  · have : (((xs.length : Nat) : Int) != ((ys.length : Nat) : Int)) = true := by simp; omega
    rw [if_pos this]
    have hne : xs.map BV.b ≠ ys.map BV.b := fun e => hl (by have := congrArg List.length e; simpa using this)
    rw [decide_eq_false hne] at hk
    exact hk
end Fld
end Go.Proofs.YtgccegnmggjkjaaGreatDoor
set_option maxRecDepth 100000
set_option maxHeartbeats 4000000
namespace Go.Proofs.YtgccegnmggjkjaaGreatDoor
open Go.Den
variable {h : Heap} {R : Value → Heap → Prop}
theorem copies_record.walk {c : Nat} (hv :
 eid_Eid.LD h ⟨c, 1, none⟩ fun t9_0 t9_1 t9_2 t9_3 t9_4 =>
 Cl F.eid_Text #[.agg #[.bool t9_0, .int .u64 t9_1, .int .u64 t9_2, .string t9_3, .string t9_4]] h fun v h_1 =>
 ∃ t10_0 t10_1, v = .tuple #[.string t10_0, .int .i64 t10_1] ∧
 ∃ t17, hcell h_1 ⟨c, 0, none⟩ = some (.int .i64 t17) ∧
 ∃ t25_p t25_l t25_c, hcell h_1 ⟨c, 6, none⟩ = some (.slice t25_p t25_l t25_c) ∧
 ∃ t30, hcell h_1 ⟨c, 7, none⟩ = some (.int .u64 t30) ∧
 ∃ t35, hcell h_1 ⟨c, 8, none⟩ = some (.int .i64 t35) ∧
 ∃ t40, hcell h_1 ⟨c, 9, none⟩ = some (.int .u64 t40) ∧
 (Cl F.fields_New #[] h_1 fun v_1 h_2 =>
 ∃ t13, v_1 = .pointer t13 ∧
 hcell h_2 ⟨c, 9, none⟩ = some (.int .u64 t40) ∧
 hcell h_2 ⟨c, 8, none⟩ = some (.int .i64 t35) ∧
 hcell h_2 ⟨c, 7, none⟩ = some (.int .u64 t30) ∧
 hcell h_2 ⟨c, 6, none⟩ = some (.slice t25_p t25_l t25_c) ∧
 hcell h_2 ⟨c, 0, none⟩ = some (.int .i64 t17) ∧
 (Cl F.fields_Writer_Int #[.pointer t13, .int .i64 t17] h_2 fun v_2 h_3 =>
 ∃ t18, v_2 = .pointer t18 ∧
 hcell h_3 ⟨c, 9, none⟩ = some (.int .u64 t40) ∧
 hcell h_3 ⟨c, 8, none⟩ = some (.int .i64 t35) ∧
 hcell h_3 ⟨c, 7, none⟩ = some (.int .u64 t30) ∧
 hcell h_3 ⟨c, 6, none⟩ = some (.slice t25_p t25_l t25_c) ∧
 denSem Tryz.prog (convert T.string T.s_uint8 (.string t10_0)) h_3 fun v_3 h_4 =>
 ∃ t20_p t20_l t20_c, v_3 = .slice t20_p t20_l t20_c ∧
 hcell h_4 ⟨c, 9, none⟩ = some (.int .u64 t40) ∧
 hcell h_4 ⟨c, 8, none⟩ = some (.int .i64 t35) ∧
 hcell h_4 ⟨c, 7, none⟩ = some (.int .u64 t30) ∧
 hcell h_4 ⟨c, 6, none⟩ = some (.slice t25_p t25_l t25_c) ∧
 Cl F.fields_Writer_Text #[.pointer t18, .slice t20_p t20_l t20_c] h_4 fun v_4 h_5 =>
 ∃ t21, v_4 = .pointer t21 ∧
 hcell h_5 ⟨c, 9, none⟩ = some (.int .u64 t40) ∧
 hcell h_5 ⟨c, 8, none⟩ = some (.int .i64 t35) ∧
 hcell h_5 ⟨c, 7, none⟩ = some (.int .u64 t30) ∧
 hcell h_5 ⟨c, 6, none⟩ = some (.slice t25_p t25_l t25_c) ∧
 Cl F.fields_Writer_Text #[.pointer t21, .slice t25_p t25_l t25_c] h_5 fun v_5 h_6 =>
 ∃ t26, v_5 = .pointer t26 ∧
 hcell h_6 ⟨c, 9, none⟩ = some (.int .u64 t40) ∧
 hcell h_6 ⟨c, 8, none⟩ = some (.int .i64 t35) ∧
 hcell h_6 ⟨c, 7, none⟩ = some (.int .u64 t30) ∧
 Cl F.fields_Writer_Num #[.pointer t26, .int .u64 t30] h_6 fun v_6 h_7 =>
 ∃ t31, v_6 = .pointer t31 ∧
 hcell h_7 ⟨c, 9, none⟩ = some (.int .u64 t40) ∧
 hcell h_7 ⟨c, 8, none⟩ = some (.int .i64 t35) ∧
 Cl F.fields_Writer_Int #[.pointer t31, .int .i64 t35] h_7 fun v_7 h_8 =>
 ∃ t36, v_7 = .pointer t36 ∧
 hcell h_8 ⟨c, 9, none⟩ = some (.int .u64 t40) ∧
 Cl F.fields_Writer_Num #[.pointer t36, .int .u64 t40] h_8 fun v_8 h_9 =>
 ∃ t41, v_8 = .pointer t41 ∧
 Cl F.fields_Writer_Bytes #[.pointer t41] h_9 fun v_9 h_10 =>
 ∃ t42_p t42_l t42_c, v_9 = .slice t42_p t42_l t42_c ∧
 R (.slice t42_p t42_l t42_c) h_10) ∧
 (denSem Tryz.prog (convert T.string T.s_uint8 (.string t10_0)) h_2 fun v_10 h_11 =>
 ∃ t20_p_1 t20_l_1 t20_c_1, v_10 = .slice t20_p_1 t20_l_1 t20_c_1 ∧
 hcell h_11 ⟨c, 9, none⟩ = some (.int .u64 t40) ∧
 hcell h_11 ⟨c, 8, none⟩ = some (.int .i64 t35) ∧
 hcell h_11 ⟨c, 7, none⟩ = some (.int .u64 t30) ∧
 hcell h_11 ⟨c, 6, none⟩ = some (.slice t25_p t25_l t25_c) ∧
 hcell h_11 ⟨c, 0, none⟩ = some (.int .i64 t17) ∧
 Cl F.fields_Writer_Int #[.pointer t13, .int .i64 t17] h_11 fun v_11 h_12 =>
 ∃ t18_1, v_11 = .pointer t18_1 ∧
 hcell h_12 ⟨c, 9, none⟩ = some (.int .u64 t40) ∧
 hcell h_12 ⟨c, 8, none⟩ = some (.int .i64 t35) ∧
 hcell h_12 ⟨c, 7, none⟩ = some (.int .u64 t30) ∧
 hcell h_12 ⟨c, 6, none⟩ = some (.slice t25_p t25_l t25_c) ∧
 Cl F.fields_Writer_Text #[.pointer t18_1, .slice t20_p_1 t20_l_1 t20_c_1] h_12 fun v_12 h_13 =>
 ∃ t21_1, v_12 = .pointer t21_1 ∧
 hcell h_13 ⟨c, 9, none⟩ = some (.int .u64 t40) ∧
 hcell h_13 ⟨c, 8, none⟩ = some (.int .i64 t35) ∧
 hcell h_13 ⟨c, 7, none⟩ = some (.int .u64 t30) ∧
 hcell h_13 ⟨c, 6, none⟩ = some (.slice t25_p t25_l t25_c) ∧
 Cl F.fields_Writer_Text #[.pointer t21_1, .slice t25_p t25_l t25_c] h_13 fun v_13 h_14 =>
 ∃ t26_1, v_13 = .pointer t26_1 ∧
 hcell h_14 ⟨c, 9, none⟩ = some (.int .u64 t40) ∧
 hcell h_14 ⟨c, 8, none⟩ = some (.int .i64 t35) ∧
 hcell h_14 ⟨c, 7, none⟩ = some (.int .u64 t30) ∧
 Cl F.fields_Writer_Num #[.pointer t26_1, .int .u64 t30] h_14 fun v_14 h_15 =>
 ∃ t31_1, v_14 = .pointer t31_1 ∧
 hcell h_15 ⟨c, 9, none⟩ = some (.int .u64 t40) ∧
 hcell h_15 ⟨c, 8, none⟩ = some (.int .i64 t35) ∧
 Cl F.fields_Writer_Int #[.pointer t31_1, .int .i64 t35] h_15 fun v_15 h_16 =>
 ∃ t36_1, v_15 = .pointer t36_1 ∧
 hcell h_16 ⟨c, 9, none⟩ = some (.int .u64 t40) ∧
 Cl F.fields_Writer_Num #[.pointer t36_1, .int .u64 t40] h_16 fun v_16 h_17 =>
 ∃ t41_1, v_16 = .pointer t41_1 ∧
 Cl F.fields_Writer_Bytes #[.pointer t41_1] h_17 fun v_17 h_18 =>
 ∃ t42_p_1 t42_l_1 t42_c_1, v_17 = .slice t42_p_1 t42_l_1 t42_c_1 ∧
 R (.slice t42_p_1 t42_l_1 t42_c_1) h_18) ∧
 True) ∧
 (denSem Tryz.prog (convert T.string T.s_uint8 (.string t10_0)) h_1 fun v_18 h_19 =>
 ∃ t20_p_2 t20_l_2 t20_c_2, v_18 = .slice t20_p_2 t20_l_2 t20_c_2 ∧
 hcell h_19 ⟨c, 9, none⟩ = some (.int .u64 t40) ∧
 hcell h_19 ⟨c, 8, none⟩ = some (.int .i64 t35) ∧
 hcell h_19 ⟨c, 7, none⟩ = some (.int .u64 t30) ∧
 hcell h_19 ⟨c, 6, none⟩ = some (.slice t25_p t25_l t25_c) ∧
 hcell h_19 ⟨c, 0, none⟩ = some (.int .i64 t17) ∧
 Cl F.fields_New #[] h_19 fun v_19 h_20 =>
 ∃ t13_1, v_19 = .pointer t13_1 ∧
 hcell h_20 ⟨c, 9, none⟩ = some (.int .u64 t40) ∧
 hcell h_20 ⟨c, 8, none⟩ = some (.int .i64 t35) ∧
 hcell h_20 ⟨c, 7, none⟩ = some (.int .u64 t30) ∧
 hcell h_20 ⟨c, 6, none⟩ = some (.slice t25_p t25_l t25_c) ∧
 hcell h_20 ⟨c, 0, none⟩ = some (.int .i64 t17) ∧
 Cl F.fields_Writer_Int #[.pointer t13_1, .int .i64 t17] h_20 fun v_20 h_21 =>
 ∃ t18_2, v_20 = .pointer t18_2 ∧
 hcell h_21 ⟨c, 9, none⟩ = some (.int .u64 t40) ∧
 hcell h_21 ⟨c, 8, none⟩ = some (.int .i64 t35) ∧
 hcell h_21 ⟨c, 7, none⟩ = some (.int .u64 t30) ∧
 hcell h_21 ⟨c, 6, none⟩ = some (.slice t25_p t25_l t25_c) ∧
 Cl F.fields_Writer_Text #[.pointer t18_2, .slice t20_p_2 t20_l_2 t20_c_2] h_21 fun v_21 h_22 =>
 ∃ t21_2, v_21 = .pointer t21_2 ∧
 hcell h_22 ⟨c, 9, none⟩ = some (.int .u64 t40) ∧
 hcell h_22 ⟨c, 8, none⟩ = some (.int .i64 t35) ∧
 hcell h_22 ⟨c, 7, none⟩ = some (.int .u64 t30) ∧
 hcell h_22 ⟨c, 6, none⟩ = some (.slice t25_p t25_l t25_c) ∧
 Cl F.fields_Writer_Text #[.pointer t21_2, .slice t25_p t25_l t25_c] h_22 fun v_22 h_23 =>
 ∃ t26_2, v_22 = .pointer t26_2 ∧
 hcell h_23 ⟨c, 9, none⟩ = some (.int .u64 t40) ∧
 hcell h_23 ⟨c, 8, none⟩ = some (.int .i64 t35) ∧
 hcell h_23 ⟨c, 7, none⟩ = some (.int .u64 t30) ∧
 Cl F.fields_Writer_Num #[.pointer t26_2, .int .u64 t30] h_23 fun v_23 h_24 =>
 ∃ t31_2, v_23 = .pointer t31_2 ∧
 hcell h_24 ⟨c, 9, none⟩ = some (.int .u64 t40) ∧
 hcell h_24 ⟨c, 8, none⟩ = some (.int .i64 t35) ∧
 Cl F.fields_Writer_Int #[.pointer t31_2, .int .i64 t35] h_24 fun v_24 h_25 =>
 ∃ t36_2, v_24 = .pointer t36_2 ∧
 hcell h_25 ⟨c, 9, none⟩ = some (.int .u64 t40) ∧
 Cl F.fields_Writer_Num #[.pointer t36_2, .int .u64 t40] h_25 fun v_25 h_26 =>
 ∃ t41_2, v_25 = .pointer t41_2 ∧
 Cl F.fields_Writer_Bytes #[.pointer t41_2] h_26 fun v_26 h_27 =>
 ∃ t42_p_2 t42_l_2 t42_c_2, v_26 = .slice t42_p_2 t42_l_2 t42_c_2 ∧
 R (.slice t42_p_2 t42_l_2 t42_c_2) h_27) ∧
 True) : CallsH Tryz.prog F.copies_record #[.pointer (some ⟨c, 0, none⟩)] h R :=
 callsH_of_body (.seq .leaf (.seq .leaf (.seq (.plan (.op 1 (.op 2 (.op 3 (.op 4 (.op 6 (.op 9 (.op 10 (.op 11 (.op 12 (.op 14 (.op 15 (.op 16 (.op 17 (.op 19 (.op 20 (.op 21 (.op 22 (.op 24 (.op 25 (.op 26 (.op 27 (.alts (.fork 0 (.alts (.fork 5 (.op 7 (.op 8 (.op 13 (.op 18 (.op 23 (.op 28 (.op 29 (.op 30 .done)))))))) (.fork 7 (.op 5 (.op 8 (.op 13 (.op 18 (.op 23 (.op 28 (.op 29 (.op 30 .done)))))))) .noalt))) (.fork 7 (.op 0 (.op 5 (.op 8 (.op 13 (.op 18 (.op 23 (.op 28 (.op 29 (.op 30 .done))))))))) .noalt))))))))))))))))))))))))) .leaf))) Tryz.func78 rfl rfl (Eq.mp (by kernel_rfl) hv)
theorem copies_Table_Save.walk {t : Nat} (hv :
 Cl F.copies_Table_made #[.pointer (some ⟨t, 0, none⟩)] h fun v h_1 =>
 ∃ t7, v = .bool t7 ∧
 if (!t7) = true then
 R (.slice none 0 0) h_1
 else
 ∃ t13, hcell h_1 ⟨t, 1, none⟩ = some (.int .i64 t13) ∧
 ∃ t18, hcell h_1 ⟨t, 2, none⟩ = some (.int .i64 t18) ∧
 ∃ t23, hcell h_1 ⟨t, 3, none⟩ = some (.int .i64 t23) ∧
 ∃ t28, hcell h_1 ⟨t, 4, none⟩ = some (.int .i64 t28) ∧
 ∃ t33, hcell h_1 ⟨t, 0, none⟩ = some (.map t33) ∧
 Cl F.fields_New #[] h_1 fun v_1 h_2 =>
 ∃ t9, v_1 = .pointer t9 ∧
 hcell h_2 ⟨t, 0, none⟩ = some (.map t33) ∧
 hcell h_2 ⟨t, 4, none⟩ = some (.int .i64 t28) ∧
 hcell h_2 ⟨t, 3, none⟩ = some (.int .i64 t23) ∧
 hcell h_2 ⟨t, 2, none⟩ = some (.int .i64 t18) ∧
 hcell h_2 ⟨t, 1, none⟩ = some (.int .i64 t13) ∧
 Cl F.fields_Writer_Int #[.pointer t9, .int .i64 t13] h_2 fun v_2 h_3 =>
 ∃ t14, v_2 = .pointer t14 ∧
 hcell h_3 ⟨t, 0, none⟩ = some (.map t33) ∧
 hcell h_3 ⟨t, 4, none⟩ = some (.int .i64 t28) ∧
 hcell h_3 ⟨t, 3, none⟩ = some (.int .i64 t23) ∧
 hcell h_3 ⟨t, 2, none⟩ = some (.int .i64 t18) ∧
 Cl F.fields_Writer_Int #[.pointer t14, .int .i64 t18] h_3 fun v_3 h_4 =>
 ∃ t19, v_3 = .pointer t19 ∧
 hcell h_4 ⟨t, 0, none⟩ = some (.map t33) ∧
 hcell h_4 ⟨t, 4, none⟩ = some (.int .i64 t28) ∧
 hcell h_4 ⟨t, 3, none⟩ = some (.int .i64 t23) ∧
 Cl F.fields_Writer_Int #[.pointer t19, .int .i64 t23] h_4 fun v_4 h_5 =>
 ∃ t24, v_4 = .pointer t24 ∧
 hcell h_5 ⟨t, 0, none⟩ = some (.map t33) ∧
 hcell h_5 ⟨t, 4, none⟩ = some (.int .i64 t28) ∧
 Cl F.fields_Writer_Int #[.pointer t24, .int .i64 t28] h_5 fun v_5 h_6 =>
 ∃ t29, v_5 = .pointer t29 ∧
 hcell h_6 ⟨t, 0, none⟩ = some (.map t33) ∧
 ∃ t34 : Int, LenV Tryz.prog #[T.m_int_p_copies_Copy] T.int (.map t33) h_6 (.int .i64 t34) ∧
 Cl F.fields_Writer_Int #[.pointer t29, .int .i64 t34] h_6 fun v_6 h_7 =>
 ∃ t35, v_6 = .pointer t35 ∧
 hcell h_7 ⟨t, 0, none⟩ = some (.map t33) ∧
 Cl F.fields_Writer_Bytes #[.pointer t35] h_7 fun v_7 h_8 =>
 ∃ t36_p t36_l t36_c, v_7 = .slice t36_p t36_l t36_c ∧
 hcell h_8 ⟨t, 0, none⟩ = some (.map t33) ∧
 NewP h_8 (.cells #[.slice t36_p t36_l t36_c] T.s_uint8) fun b h_9 =>
 hcell h_9 ⟨t, 0, none⟩ = some (.map t33) ∧
 Cl F.copies_Table_numbers #[.pointer (some ⟨t, 0, none⟩)] h_9 fun v_8 h_10 =>
 ∃ t39_p t39_l t39_c, v_8 = .slice t39_p t39_l t39_c ∧
 ∃ (I : Option Addr → Nat → Nat → Int → Heap → Prop) (mu : Option Addr → Nat → Nat → Int → Heap → Nat), I (some ⟨b, 0, none⟩) 1 1 0 h_10 ∧ ∀ (out_p : Option Addr) (out_l out_c : Nat) (t41 : Int) (h_11 : Heap), I out_p out_l out_c t41 h_11 →
 if (decide (t41 < ((t39_l : Nat) : Int))) = true then
 ((0 : Int) ≤ t41 ∧ t41 < ((t39_l : Nat) : Int)) ∧
 onSome t39_p fun a =>
 ∃ t44, hcell h_11 (a.add (Int.toNat t41 * 1)) = some (.int .i64 t44) ∧
 ∃ t49, hcell h_11 ⟨t, 0, none⟩ = some (.map t49) ∧
 ∃ t51, LookV Tryz.prog T.m_int_p_copies_Copy (.map t49) (.int .i64 t44) false h_11 (.pointer t51) ∧
 Cl F.copies_record #[.pointer t51] h_11 fun v_9 h_12 =>
 ∃ t52_p t52_l t52_c, v_9 = .slice t52_p t52_l t52_c ∧
 NewP h_12 (.cells #[.slice t52_p t52_l t52_c] T.s_uint8) fun b_1 h_13 =>
 denSem Tryz.prog (Builtin.append_ #[T.s_s_uint8, T.s_s_uint8] T.s_s_uint8 #[.slice out_p out_l out_c, .slice (some ⟨b_1, 0, none⟩) 1 1]) h_13 fun v_10 h_14 =>
 ∃ t54_p t54_l t54_c, v_10 = .slice t54_p t54_l t54_c ∧
 (I t54_p t54_l t54_c (IntKind.wrap .i64 (t41 + 1)) h_14 ∧ mu t54_p t54_l t54_c (IntKind.wrap .i64 (t41 + 1)) h_14 < mu out_p out_l out_c t41 h_11)
 else
 R (.slice out_p out_l out_c) h_11) : CallsH Tryz.prog F.copies_Table_Save #[.pointer (some ⟨t, 0, none⟩)] h R :=
 callsH_of_body (.seq .leaf (.seq (.seq .leaf (.cond (.seq .leaf .leaf) .leaf)) (.seq (.plan (.op 1 (.op 2 (.op 3 (.op 4 (.op 6 (.op 7 (.op 8 (.op 9 (.op 11 (.op 12 (.op 13 (.op 14 (.op 16 (.op 17 (.op 18 (.op 19 (.op 21 (.op 22 (.op 23 (.op 24 (.op 0 (.op 5 (.op 10 (.op 15 (.op 20 (.op 25 (.op 26 (.op 27 (.op 28 (.op 29 .done))))))))))))))))))))))))))))))) (.seq (.seq .leaf (.block (.loop [(3, .one (.slice)), (41, .one (.int .i64))] (.seq .leaf (.seq (.cond .leaf .leaf) (.seq (.block (.seq .leaf .leaf)) .leaf)))))) (.seq .leaf .leaf))))) Tryz.func21 rfl rfl (Eq.mp (by kernel_rfl) hv)
end Go.Proofs.YtgccegnmggjkjaaGreatDoor
set_option maxRecDepth 100000
namespace Go.Proofs.YtgccegnmggjkjaaGreatDoor
open Go.Den Go.Fields Go.Heapq
namespace Cps
open Eid Alarm Fld
variable {h h' : Heap} {R : Value → Heap → Prop} {t : Nat} {X : Ft} {s s' : CF} {m a1 a2 : Nat} {xs : List CV} {S1 S2 S1' S2' : Nat → Prop} {lab : Nat → Option Nat} {p : Option Addr} {n c : Nat}
def recC (z : Cp) : List UInt8 := encNum z.num ++ encText (textE z.e) ++ encText z.d ++ encNum z.till ++ encNum (natOf z.ses) ++ encNum z.dl
structure okZ (z : Cp) : Prop where
  r : rightE z.e = true
  v : 0 ≤ z.e.svc
  d : z.d.length ≤ 600
  n : z.num ≤ 1000000
  t : z.till ≤ 1099511627776
  s0 : 0 ≤ z.ses
  s1 : z.ses ≤ 1099511627776
  l : z.dl ≤ 1099511627776
theorem encText_len (t : List UInt8) : (encText t).length ≤ t.length + 10 := by
  have := (encNum_len t.length).2
  unfold encText
  rw [List.length_append]; omega
theorem recC_len {z : Cp} (k : okZ z) : (recC z).length ≤ 1000 := by
  have l0 := text_len k.r k.v
  have l1 := encText_len (textE z.e)
  have l2 := encText_len z.d
  have l3 := k.d
  have e1 := (encNum_len z.num).2
  have e2 := (encNum_len z.till).2
  have e3 := (encNum_len (natOf z.ses)).2
  have e4 := (encNum_len z.dl).2
  unfold recC
  simp only [List.length_append]; omega
theorem ld_e {g : Heap} {b : Nat} {x : CV} {K : Bool → Int → Int → ByteArray → ByteArray → Prop} (hg : x.at g b) (hk : K x.e.ipn x.e.node x.e.svc x.e.host x.e.dem) : eid_Eid.LD g ⟨b, 1, none⟩ K :=
  ⟨_, cell_at hg rfl, _, cell_at hg rfl, _, cell_at hg rfl, _, cell_at hg rfl, _, cell_at hg rfl, hk⟩
theorem rec_tail {z : CV} {b : Nat} {g h1 : Heap} {w : Nat} {S : Nat → Prop} {q : Option Addr} {dq : Nat} (k : okZ z.abs) (hb1 : z.at h1 b) (hrow : Row h1 z.v.p (bc z.v.b)) (fg : Fr (fun _ => False) h1 g) (W : Wr g w S (encNum z.num)) (hS : ∀ y, S y → h1.size ≤ y) (row : Row g q (bc (textE z.e))) (hq : ∀ y, inBlk q y → ¬ S y)
    (hk : ∀ p' c' h', Own h' p' (recC z.abs).length c' 1 (bc (recC z.abs)) → Fr (fun _ => False) h1 h' → (∀ y, inBlk p' y → h1.size ≤ y) → R (.slice p' (recC z.abs).length c') h') :
    hcell g ⟨b, 9, none⟩ = some (.int .u64 (z.dl : Int)) ∧ hcell g ⟨b, 8, none⟩ = some (.int .i64 z.ses) ∧ hcell g ⟨b, 7, none⟩ = some (.int .u64 (z.till : Int)) ∧ hcell g ⟨b, 6, none⟩ = some (.slice z.v.p z.v.b.length z.v.c) ∧
    CallsH Tryz.prog F.fields_Writer_Text #[.pointer (some ⟨w, 0, none⟩), .slice q (str (textE z.e)).size dq] g fun v_4 h_5 =>
    ∃ (t21 : Option Addr), v_4 = .pointer t21 ∧
    hcell h_5 ⟨b, 9, none⟩ = some (.int .u64 (z.dl : Int)) ∧
    hcell h_5 ⟨b, 8, none⟩ = some (.int .i64 z.ses) ∧
    hcell h_5 ⟨b, 7, none⟩ = some (.int .u64 (z.till : Int)) ∧
    hcell h_5 ⟨b, 6, none⟩ = some (.slice z.v.p z.v.b.length z.v.c) ∧
    CallsH Tryz.prog F.fields_Writer_Text #[.pointer t21, .slice z.v.p z.v.b.length z.v.c] h_5 fun v_5 h_6 =>
    ∃ (t26 : Option Addr), v_5 = .pointer t26 ∧
    hcell h_6 ⟨b, 9, none⟩ = some (.int .u64 (z.dl : Int)) ∧
    hcell h_6 ⟨b, 8, none⟩ = some (.int .i64 z.ses) ∧
    hcell h_6 ⟨b, 7, none⟩ = some (.int .u64 (z.till : Int)) ∧
    CallsH Tryz.prog F.fields_Writer_Num #[.pointer t26, .int .u64 (z.till : Int)] h_6 fun v_6 h_7 =>
    ∃ (t31 : Option Addr), v_6 = .pointer t31 ∧
    hcell h_7 ⟨b, 9, none⟩ = some (.int .u64 (z.dl : Int)) ∧
    hcell h_7 ⟨b, 8, none⟩ = some (.int .i64 z.ses) ∧
    CallsH Tryz.prog F.fields_Writer_Int #[.pointer t31, .int .i64 z.ses] h_7 fun v_7 h_8 =>
    ∃ (t36 : Option Addr), v_7 = .pointer t36 ∧
    hcell h_8 ⟨b, 9, none⟩ = some (.int .u64 (z.dl : Int)) ∧
    CallsH Tryz.prog F.fields_Writer_Num #[.pointer t36, .int .u64 (z.dl : Int)] h_8 fun v_8 h_9 =>
    ∃ (t41 : Option Addr), v_8 = .pointer t41 ∧
    CallsH Tryz.prog F.fields_Writer_Bytes #[.pointer t41] h_9 fun v_9 h_10 =>
    ∃ (t42_p : Option Addr) (t42_l t42_c : Nat), v_9 = .slice t42_p t42_l t42_c ∧
    R (.slice t42_p t42_l t42_c) h_10 := by
  have kr : rightE z.e = true := k.r
  have kv : 0 ≤ z.e.svc := k.v
  have kd : z.v.b.length ≤ 600 := k.d
  have kt : z.till ≤ 1099511627776 := k.t
  have k0 : 0 ≤ z.ses := k.s0
  have k1 : z.ses ≤ 1099511627776 := k.s1
  have kl : z.dl ≤ 1099511627776 := k.l
  have lb := lt_of_get hb1
  have bS : ∀ {S' : Nat → Prop}, (∀ y, S' y → h1.size ≤ y) → ¬ S' b := fun hh hn => by have := hh b hn; omega
  have l0 := text_len kr kv
  have lt1 := encText_len (textE z.e)
  have lt2 := encText_len z.v.b
  have e1 := (encNum_len z.num).2
  have e2 := (encNum_len z.till).2
  have e3 := (encNum_len (natOf z.ses)).2
  have hbg : z.at g b := fg.get hb1 id
  have zg := fg.1
  refine ⟨cell_at hbg rfl, cell_at hbg rfl, cell_at hbg rfl, cell_at hbg rfl, Fld.text_ok W (by omega) row (str_size _) (by omega) hq fun g1 S1 W1 st1 => ?_⟩
  have hS1 : ∀ y, S1 y → h1.size ≤ y := fun y hy => (st1.new y hy).elim (hS y) (fun h1 => by omega)
  have F1 := fg.fresh st1.fr hS
  have b1 : z.at g1 b := F1.get hb1 id
  have z1 := F1.1
  refine ⟨_, rfl, cell_at b1 rfl, cell_at b1 rfl, cell_at b1 rfl, cell_at b1 rfl, Fld.text_ok' W1 (by simp only [List.length_append]; omega) (hrow.frame F1 (fun _ _ => id)) rfl (by omega) (fun y hy hne hs => by have := row_lt hrow (by intro e; apply hne; have := congrArg List.length e; rw [bc_len] at this; exact List.length_eq_zero_iff.1 this) hy; have := hS1 y hs; omega) fun g2 S2 W2 st2 => ?_⟩
  have hS2 : ∀ y, S2 y → h1.size ≤ y := fun y hy => (st2.new y hy).elim (hS1 y) (fun h1 => by omega)
  have F2 := F1.fresh st2.fr hS1
  have b2 : z.at g2 b := F2.get hb1 id
  have z2 := F2.1
  refine ⟨_, rfl, cell_at b2 rfl, cell_at b2 rfl, cell_at b2 rfl, Fld.num_ok z.till W2 (by simp only [List.length_append]; omega) rfl (by omega) fun g3 S3 W3 st3 => ?_⟩
  have hS3 : ∀ y, S3 y → h1.size ≤ y := fun y hy => (st3.new y hy).elim (hS2 y) (fun h1 => by omega)
  have F3 := F2.fresh st3.fr hS2
  have b3 : z.at g3 b := F3.get hb1 id
  have z3 := F3.1
  refine ⟨_, rfl, cell_at b3 rfl, cell_at b3 rfl, Fld.int_ok W3 (by simp only [List.length_append]; omega) (by omega) fun g4 S4 W4 st4 => ?_⟩
  have hS4 : ∀ y, S4 y → h1.size ≤ y := fun y hy => (st4.new y hy).elim (hS3 y) (fun h1 => by omega)
  have F4 := F3.fresh st4.fr hS3
  have b4 : z.at g4 b := F4.get hb1 id
  have z4 := F4.1
  refine ⟨_, rfl, cell_at b4 rfl, Fld.num_ok z.dl W4 (by simp only [List.length_append]; omega) rfl (by omega) fun g5 S5 W5 st5 => ?_⟩
  have F5 := F4.fresh st5.fr hS4
  have er : encNum z.num ++ encText (textE z.e) ++ encText z.v.b ++ encNum z.till ++ encNum (natOf z.ses) ++ encNum z.dl = recC z.abs := rfl
  rw [er] at W5
  have lr := recC_len k
  refine ⟨_, rfl, Fld.bytes_ok W5 (by omega) fun p6 c6 g6 o6 f6 n6 => ⟨_, _, _, rfl, ?_⟩⟩
  have z5 := F5.1
  exact hk p6 c6 g6 o6 (F5.tt f6) (fun y hy => by have := n6 y hy; omega)
theorem record_ok {z : CV} {b : Nat} (hb : z.at h b) (hrow : Row h z.v.p (bc z.v.b)) (k : okZ z.abs) (tb : Num.Tab h) (hk : ∀ p' c' h', Own h' p' (recC z.abs).length c' 1 (bc (recC z.abs)) → Fr (fun _ => False) h h' → (∀ y, inBlk p' y → h.size ≤ y) → R (.slice p' (recC z.abs).length c') h') : CallsH Tryz.prog F.copies_record #[.pointer (some ⟨b, 0, none⟩)] h R := by
  have kr : rightE z.e = true := k.r
  have kn : z.num ≤ 1000000 := k.n
  refine copies_record.walk (ld_e hb (Eid.text_ok z.e tb k.v fun h1 f1 => ?_))
  simp only [kr, if_true]
  have hb1 : z.at h1 b := f1.get hb id
  have z0 := f1.1
  have hrow1 := hrow.frame f1 (fun _ _ => id)
  have hk1 : ∀ p' c' h', Own h' p' (recC z.abs).length c' 1 (bc (recC z.abs)) → Fr (fun _ => False) h1 h' → (∀ y, inBlk p' y → h1.size ≤ y) → R (.slice p' (recC z.abs).length c') h' := fun p' c' h' o f g => hk p' c' h' o (f1.tt f) (fun y hy => by have := g y hy; omega)
  clear hk
  have dt : (str (textE z.e)).data.toList = textE z.e := by unfold str; simp
  have tne : bc (textE z.e) ≠ [] := by
    intro e
    have := congrArg List.length e
    rw [bc_len] at this
    revert this
    unfold textE
    split <;> (try split) <;> simp
  have nz : encNum (natOf (z.num : Int)) = encNum z.num := by unfold natOf; rw [Int.toNat_natCast]
  refine ⟨_, _, rfl, _, cell_at hb1 rfl, _, _, _, cell_at hb1 rfl, _, cell_at hb1 rfl, _, cell_at hb1 rfl, _, cell_at hb1 rfl, ?_, ?_, trivial⟩
  · refine Fld.new_ok fun h2 w S W f2 n2 => ?_
    have b2 : z.at h2 b := f2.get hb1 id
    refine ⟨_, rfl, cell_at b2 rfl, cell_at b2 rfl, cell_at b2 rfl, cell_at b2 rfl, cell_at b2 rfl, ?_, ?_, trivial⟩
    · refine Fld.int_ok W (by simp) (by omega) fun h3 S3 W3 st3 => ?_
      rw [nz, List.nil_append] at W3
      have z2 := f2.1
      have F3 := f2.fresh st3.fr n2
      have b3 : z.at h3 b := F3.get hb1 id
      have n3 : ∀ y, S3 y → h1.size ≤ y := fun y hy => (st3.new y hy).elim (n2 y) (fun h1 => by omega)
      refine ⟨_, rfl, cell_at b3 rfl, cell_at b3 rfl, cell_at b3 rfl, cell_at b3 rfl, s2b fun q d h4 row cq f4 n4 => ⟨_, _, _, rfl, ?_⟩⟩
      rw [dt] at row
      exact rec_tail k hb1 hrow1 (F3.tt f4) (W3.frame f4 (fun _ _ => id)) n3 row (fun y hy hs => by have := n4 y hy; have := W3.lt y hs; omega) hk1
    · refine s2b fun q d h3 row cq f3 n3 => ⟨_, _, _, rfl, ?_⟩
      have b3 : z.at h3 b := (f2.tt f3).get hb1 id
      have W3 := W.frame f3 (fun _ _ => id)
      refine ⟨cell_at b3 rfl, cell_at b3 rfl, cell_at b3 rfl, cell_at b3 rfl, cell_at b3 rfl, Fld.int_ok W3 (by simp) (by omega) fun h4 S4 W4 st4 => ⟨_, rfl, ?_⟩⟩
      rw [nz, List.nil_append] at W4
      have z2 := (f2.tt f3).1
      have n4 : ∀ y, S4 y → h1.size ≤ y := fun y hy => (st4.new y hy).elim (n2 y) (fun h1 => by omega)
      rw [dt] at row
      refine rec_tail k hb1 hrow1 ((f2.tt f3).fresh st4.fr n2) W4 n4 (row.frame st4.fr (fun a ea hs => by have := n3 a.block ⟨a, ea, rfl⟩; have := W.lt _ hs; omega)) (fun y hy hs => ?_) hk1
      have h1 := row_lt row tne hy
      have h2 := n3 y hy
      rcases st4.new y hs with h3 | h3
      · have := W.lt y h3; omega
      · omega
  · refine s2b fun q d h2 row cq f2 n2 => ⟨_, _, _, rfl, ?_⟩
    have b2 : z.at h2 b := f2.get hb1 id
    refine ⟨cell_at b2 rfl, cell_at b2 rfl, cell_at b2 rfl, cell_at b2 rfl, cell_at b2 rfl, Fld.new_ok fun h3 w S W f3 n3 => ?_⟩
    have b3 : z.at h3 b := (f2.tt f3).get hb1 id
    have z2 := f2.1
    have z3 := f3.1
    refine ⟨_, rfl, cell_at b3 rfl, cell_at b3 rfl, cell_at b3 rfl, cell_at b3 rfl, cell_at b3 rfl, Fld.int_ok W (by simp) (by omega) fun h4 S4 W4 st4 => ⟨_, rfl, ?_⟩⟩
    rw [nz, List.nil_append] at W4
    rw [dt] at row
    have hrl : ∀ y, inBlk q y → y < h2.size := fun y hy => row_lt row tne hy
    refine rec_tail k hb1 hrow1 ((f2.tt f3).fresh st4.fr (fun y hy => by have := n3 y hy; omega)) W4 (fun y hy => (st4.new y hy).elim (fun h1 => by have := n3 y h1; omega) (fun h1 => by omega)) ((row.frame f3 (fun _ _ => id)).frame st4.fr (fun a ea hs => by have := hrl a.block ⟨a, ea, rfl⟩; have := n3 _ hs; omega)) (fun y hy hs => ?_) hk1
    have h1 := hrl y hy
    rcases st4.new y hs with h3 | h3
    · have := n3 y h3; omega
    · omega
def headC (s : CF) : List UInt8 := encNum s.next ++ encNum s.acked ++ encNum s.over ++ encNum s.gone ++ encNum s.L.length
def recsC (s : CF) : List (List UInt8) := headC s :: s.L.map recC
theorem save_ok (H : Ct h t X s) (sm : Small s) (hc : s.acked ≤ 50000 ∧ s.over ≤ 50000 ∧ s.gone ≤ 50000) (ok : ∀ z ∈ s.L, okZ z) (tb : Num.Tab h) (hk : ∀ h' p' l' c', BL h h' p' l' c' (recsC s) → Fr (fun _ => False) h h' → R (.slice p' l' c') h') : CallsH Tryz.prog F.copies_Table_Save #[.pointer (some ⟨t, 0, none⟩)] h R := by
  obtain ⟨m, xs, a1, S1, a2, S2, lab, H⟩ := H
  have sn := sm.n
  have sl := sm.l
  have xl := H.len
  refine copies_Table_Save.walk (made_ok H ⟨_, rfl, ?_⟩)
  rw [if_neg (by decide)]
  refine ⟨_, cell_at H.blk rfl, _, cell_at H.blk rfl, _, cell_at H.blk rfl, _, cell_at H.blk rfl, _, cell_at H.blk rfl, Fld.new_ok fun h1 w S W f1 n1 => ?_⟩
  have nn : ∀ k : Nat, natOf (k : Int) = k := fun k => by unfold natOf; rw [Int.toNat_natCast]
  have l1 := (encNum_len s.next).2
  have l2 := (encNum_len s.acked).2
  have l3 := (encNum_len s.over).2
  have l4 := (encNum_len s.gone).2
  have l5 := (encNum_len s.L.length).2
  have G1 := H.on f1
  refine ⟨_, rfl, cell_at G1.blk rfl, cell_at G1.blk rfl, cell_at G1.blk rfl, cell_at G1.blk rfl, cell_at G1.blk rfl, Fld.int_ok W (by simp) (by omega) fun h2 S2 W2 st2 => ?_⟩
  rw [nn, List.nil_append] at W2
  have z1 := f1.1
  have F2 := f1.fresh st2.fr n1
  have n2 : ∀ y, S2 y → h.size ≤ y := fun y hy => (st2.new y hy).elim (n1 y) (fun h1 => by omega)
  have G2 := H.on F2
  have z2 := F2.1
  refine ⟨_, rfl, cell_at G2.blk rfl, cell_at G2.blk rfl, cell_at G2.blk rfl, cell_at G2.blk rfl, Fld.int_ok W2 (by omega) (by omega) fun h3 S3 W3 st3 => ?_⟩
  rw [nn] at W3
  have F3 := F2.fresh st3.fr n2
  have n3 : ∀ y, S3 y → h.size ≤ y := fun y hy => (st3.new y hy).elim (n2 y) (fun h1 => by omega)
  have G3 := H.on F3
  have z3 := F3.1
  refine ⟨_, rfl, cell_at G3.blk rfl, cell_at G3.blk rfl, cell_at G3.blk rfl, Fld.int_ok W3 (by simp only [List.length_append]; omega) (by omega) fun h4 S4 W4 st4 => ?_⟩
  rw [nn] at W4
  have F4 := F3.fresh st4.fr n3
  have n4 : ∀ y, S4 y → h.size ≤ y := fun y hy => (st4.new y hy).elim (n3 y) (fun h1 => by omega)
  have G4 := H.on F4
  have z4 := F4.1
  refine ⟨_, rfl, cell_at G4.blk rfl, cell_at G4.blk rfl, Fld.int_ok W4 (by simp only [List.length_append]; omega) (by omega) fun h5 S5 W5 st5 => ?_⟩
  rw [nn] at W5
  have F5 := F4.fresh st5.fr n4
  have n5 : ∀ y, S5 y → h.size ≤ y := fun y hy => (st5.new y hy).elim (n4 y) (fun h1 => by omega)
  have G5 := H.on F5
  have z5 := F5.1
  refine ⟨_, rfl, cell_at G5.blk rfl, _, lenV_P mapTy G5.map, ?_⟩
  rw [List.length_map, xl]
  refine Fld.int_ok W5 (by simp only [List.length_append]; omega) (by omega) fun h6 S6 W6 st6 => ?_
  rw [nn] at W6
  have F6 := F5.fresh st6.fr n5
  have G6 := H.on F6
  have z6 := F6.1
  have er : encNum s.next ++ encNum s.acked ++ encNum s.over ++ encNum s.gone ++ encNum s.L.length = headC s := rfl
  rw [er] at W6
  have lh : (headC s).length ≤ 50 := by unfold headC; simp only [List.length_append]; omega
  refine ⟨_, rfl, cell_at G6.blk rfl, Fld.bytes_ok W6 (by omega) fun p7 c7 h7 o7 f7 n7 => ⟨_, _, _, rfl, ?_⟩⟩
  have F7 := F6.tt f7
  have z7 := F7.1
  have B7 : BL h h7 none 0 0 [] := BL.nil
  refine ⟨cell_at (H.on F7).blk rfl, newP_of ?_⟩
  have f8 : Fr (fun _ => False) h7 (h7.push (.cells #[.slice p7 (headC s).length c7] T.s_uint8)) := Fr.push _ _
  have o8 : Own (h7.push (.cells #[.slice p7 (headC s).length c7] T.s_uint8)) (some ⟨h7.size, 0, none⟩) 1 1 1 (nenc ⟨p7, c7, headC s⟩) := .row h7.size 0 _ _ rfl push_new (Nat.le_refl _) (by simp) rfl (fun j v hj => by rw [Nat.zero_add]; simpa using hj)
  have B8 : BL h (h7.push (.cells #[.slice p7 (headC s).length c7] T.s_uint8)) (some ⟨h7.size, 0, none⟩) 1 1 [headC s] := by
    refine ⟨[⟨p7, c7, headC s⟩], inBlk p7, rfl, by simpa using o8, rfl, ?_, ?_, fun y ⟨a, e, e2⟩ => by cases e; rw [← e2]; exact z7⟩
    · intro v hv
      obtain rfl := List.mem_singleton.1 hv
      exact BV.of_own (o7.frame f8 (fun _ _ => id)) (fun _ => id)
    · intro y hy
      have h1 := n7 y hy
      have h2 := o7.blk_lt hy
      exact ⟨by omega, by rw [Array.size_push]; omega, fun ⟨a, e, e2⟩ => by cases e; have e2 : h7.size = y := e2; omega⟩
  generalize h7.push (.cells #[.slice p7 (headC s).length c7] T.s_uint8) = h8 at f8 B8 ⊢
  generalize (some ⟨h7.size, 0, none⟩ : Option Addr) = p8 at B8 ⊢
  clear o8
  have F8 := F7.tt f8
  have G8 := H.on F8
  refine ⟨cell_at G8.blk rfl, numbers_ok G8 (by omega) fun h9 p9 c9 o9 n9 f9 => ⟨_, _, _, rfl, ?_⟩⟩
  have F9 := F8.tt f9
  have z8 := F8.1
  refine ⟨fun op ol oc q g => ∃ k : Nat, q = (k : Int) ∧ k ≤ xs.length ∧ BL h g op ol oc (headC s :: (s.L.take k).map recC) ∧ Fr (fun _ => False) h g ∧ Own g p9 xs.length c9 1 ((nums xs).map ienc) ∧ (∀ y, inBlk op y → ¬ inBlk p9 y), fun _ _ _ q _ => xs.length - q.toNat, ⟨0, rfl, by omega, by simpa using B8.on f9, F9, o9, fun y hy hq => by have := B8.lt hy; have := n9 y hq; omega⟩, ?_⟩
  rintro op ol oc _ g ⟨k, rfl, hkn, B, fg, og, hdis⟩
  by_cases hlt : k < xs.length
  · have q1 : (k : Int) < ((xs.length : Nat) : Int) := by omega
    simp only [q1, decide_true, if_true, Int.toNat_natCast]
    have hx : xs[k]? = some xs[k] := List.getElem?_eq_getElem hlt
    generalize xs[k] = v at hx
    have hLk : s.L[k]? = some v.abs := by rw [← H.abs, List.getElem?_map, hx]; rfl
    have hv := List.mem_of_getElem? hx
    have Gg := H.on fg
    obtain ⟨ab, aoff, rfl⟩ := og.addr (by omega)
    have cn := og.cell (j := k) (v := ienc (v.num : Int)) (by unfold nums; rw [List.map_map, List.getElem?_map, hx]; rfl)
    refine ⟨⟨by first | trivial | omega, by first | trivial | omega⟩, onSome_some.2 ⟨_, by rw [Nat.mul_one]; exact cn, _, cell_at Gg.blk rfl, _, look Gg hv, record_ok (Gg.cps v hv) (Gg.dat v hv).row (ok v.abs (List.mem_of_getElem? hLk)) (tb.on fg) fun p10 c10 h10 o10 f10 n10 => ⟨_, _, _, rfl, ?_⟩⟩⟩
    have zg := fg.1
    have bl := B.len
    rw [List.length_cons, List.length_map, List.length_take] at bl
    have ogl : ∀ y, inBlk (some (⟨ab, aoff, none⟩ : Addr)) y → y < g.size := fun y hy => og.blk_lt hy
    have bbl : ∀ y, inBlk op y → y < g.size := fun y hy => B.lt hy
    have z10 := f10.1
    refine (B.on f10).push (by omega) o10 (fun y hy => ⟨by have := n10 y hy; omega, fun ho => by have := bbl y ho; have := n10 y hy; omega⟩) (by omega) fun p11 c11 h11 B11 f11 g11 => ⟨_, _, _, rfl, ?_⟩
    rw [wrap_id (by omega) (by omega)]
    refine ⟨⟨k + 1, by omega, by omega, ?_, ?_, (og.frame f10 (fun _ _ => id)).frame f11 (fun y hy hq => hdis y hq hy), fun y hy hq => (g11 y hy).elim (fun h1 => hdis y h1 hq) (fun h1 => by have := ogl y hq; omega)⟩, by show xs.length - Int.toNat ((k : Int) + 1) < xs.length - k; omega⟩
    · rw [List.take_add_one, hLk, List.map_append]
      rw [List.cons_append] at B11
      exact B11
    · obtain ⟨_, _, _, _, _, _, _, h6'⟩ := B
      exact (fg.tt f10).fresh f11 h6'
  · have q1 : ¬ (k : Int) < ((xs.length : Nat) : Int) := by omega
    simp only [q1, decide_false, Bool.false_eq_true, if_false]
    rw [List.take_of_length_le (by omega)] at B
    exact hk g op ol oc B fg
def readyN (L : List Cp) (x : Ev) : Nat := ((ofL L x).filter (fun z => decide (z.ses = 0))).length
theorem ready_ok (H : Ct h t X s) (sm : Small s) (x : Ev) (hk : ∀ h', Fr (fun _ => False) h h' → R (.int .i64 (readyN s.L x : Int)) h') : CallsH Tryz.prog F.copies_Table_Ready #[.pointer (some ⟨t, 0, none⟩), ev5 x] h R := by
  obtain ⟨m, xs, a1, S1, a2, S2, lab, H⟩ := H
  have sl := sm.l
  have xl := H.len
  refine copies_Table_Ready.walk (eid_Eid.box fun b h1 eb hb f1 => eid_Eid.ld hb (of_ok (H.on f1) x (by omega) fun h2 p2 c2 o2 n2 f2 => ⟨_, _, _, rfl, ?_⟩))
  have F2 := f1.tt f2
  generalize hys : xs.filter (fun y => decide (y.e = x)) = ys at o2 ⊢
  have hsub : ∀ y ∈ ys, y ∈ xs := fun y hy => by rw [← hys] at hy; exact (List.mem_filter.1 hy).1
  have hab : ys.map CV.abs = ofL s.L x := by unfold ofL; rw [← H.abs, List.filter_map, ← hys]; rfl
  have yl : ys.length ≤ 50000 := by rw [← hys]; exact Nat.le_trans (List.length_filter_le _ _) (by omega)
  refine ⟨fun n q g => ∃ k : Nat, q = (k : Int) ∧ k ≤ ys.length ∧ n = ((((ys.take k).map CV.abs).filter (fun z => decide (z.ses = 0))).length : Int) ∧ g = h2, fun _ q _ => ys.length - q.toNat, ⟨0, rfl, by omega, by simp, rfl⟩, ?_⟩
  rintro _ _ _ ⟨k, rfl, hkn, rfl, rfl⟩
  have hle : (((ys.take k).map CV.abs).filter (fun z => decide (z.ses = 0))).length ≤ k := Nat.le_trans (List.length_filter_le _ _) (by rw [List.length_map, List.length_take]; omega)
  have Gg := H.on F2
  by_cases hlt : k < ys.length
  · have q1 : (k : Int) < ((ys.length : Nat) : Int) := by omega
    simp only [q1, decide_true, if_true, Int.toNat_natCast]
    have hx : ys[k]? = some ys[k] := List.getElem?_eq_getElem hlt
    generalize ys[k] = v at hx
    have hv := hsub v (List.mem_of_getElem? hx)
    obtain ⟨ab, aoff, rfl⟩ := o2.addr (by omega)
    have cn := o2.cell (j := k) (v := ienc (v.num : Int)) (by unfold nums; rw [List.map_map, List.getElem?_map, hx]; rfl)
    have e1 : (((ys.take (k + 1)).map CV.abs).filter (fun z => decide (z.ses = 0))).length = (((ys.take k).map CV.abs).filter (fun z => decide (z.ses = 0))).length + if v.ses = 0 then 1 else 0 := by
      rw [List.take_add_one, hx, List.map_append, List.filter_append, List.length_append]
      congr 1
      by_cases hs : v.ses = 0
      · have : v.abs.ses = 0 := hs
        simp [hs, this]
      · have : ¬ v.abs.ses = 0 := hs
        simp [hs, this]
    refine JoinP.of fun J hJ => ⟨⟨by first | trivial | omega, by first | trivial | omega⟩, onSome_some.2 ⟨_, by rw [Nat.mul_one]; exact cn, _, cell_at Gg.blk rfl, _, look Gg hv, onSome_some.2 ⟨_, cell_at (Gg.cps v hv) rfl, JoinP.of fun J1 hJ1 => ?_⟩⟩⟩
    subst hJ1; subst hJ
    dsimp only
    rw [wrap_id (n := (k : Int) + 1) (by omega) (by omega)]
    by_cases hs : v.ses = 0
    · rw [if_pos (by simpa using hs), wrap_id (by omega) (by omega)]
      rw [if_pos hs] at e1
      exact ⟨⟨k + 1, by omega, by omega, by omega, rfl⟩, by show ys.length - Int.toNat ((k : Int) + 1) < ys.length - k; omega⟩
    · rw [if_neg (by simpa using hs)]
      rw [if_neg hs] at e1
      exact ⟨⟨k + 1, by omega, by omega, by omega, rfl⟩, by show ys.length - Int.toNat ((k : Int) + 1) < ys.length - k; omega⟩
  · have q1 : ¬ (k : Int) < ((ys.length : Nat) : Int) := by omega
    simp only [q1, decide_false, Bool.false_eq_true, if_false]
    rw [List.take_of_length_le (by omega), hab]
    exact hk _ F2
end Cps
end Go.Proofs.YtgccegnmggjkjaaGreatDoor
set_option maxRecDepth 100000
namespace Go.Proofs.YtgccegnmggjkjaaGreatDoor
open Go.Den Go.Heapq
namespace Cps
open Eid
structure OP where
  kind : Int
  num : Int
  ses : Int
  e : Ev
  p : Option Addr
  c : Nat
  b : List UInt8
  till : Nat
abbrev oenc (f : OP) : List Value := [.int .i64 f.kind, .int .i64 f.num, .int .i64 f.ses, .bool f.e.ipn, .int .u64 f.e.node, .int .u64 f.e.svc, .string f.e.host, .string f.e.dem, .slice f.p f.b.length f.c, .int .u64 (f.till : Int)]
theorem oenc_len (f : OP) : (oenc f).length = 10 := rfl
end Cps
end Go.Proofs.YtgccegnmggjkjaaGreatDoor
set_option maxRecDepth 100000
namespace Go.Proofs.YtgccegnmggjkjaaGreatDoor
open Go.Den Go.Fields Go.Heapq
namespace Cps
open Eid Alarm Fld
variable {s s' : CF} {k : Nat} {f : OP}
theorem nd_le {α : Type} [DecidableEq α] : ∀ {l1 l2 : List α}, l1.Nodup → (∀ a ∈ l1, a ∈ l2) → l1.length ≤ l2.length
  | [], _, _, _ => Nat.zero_le _
  | a :: l, l2, h, hs => by
    obtain ⟨h1, h2⟩ := List.nodup_cons.1 h
    have := nd_le (l1 := l) (l2 := l2.erase a) h2 (fun b hb => (List.mem_erase_of_ne (fun e => h1 (by rw [← e]; exact hb))).2 (hs b (List.mem_cons_of_mem _ hb)))
    have h3 := List.length_erase_of_mem (hs a (by simp))
    have h4 : 0 < l2.length := List.length_pos_of_mem (hs a (by simp))
    rw [List.length_cons]; omega
theorem nd_len {α : Type} [DecidableEq α] {l1 l2 : List α} (h1 : l1.Nodup) (h2 : l2.Nodup) (hs : ∀ a, a ∈ l1 ↔ a ∈ l2) : l1.length = l2.length :=
  Nat.le_antisymm (nd_le h1 (fun a ha => (hs a).1 ha)) (nd_le h2 (fun a ha => (hs a).2 ha))
theorem leased_len (ok : okC s) (O : Ord s) : s.E2.length = (s.L.filter (fun z => decide (z.ses ≠ 0))).length := by
  have e : ((s.L.filter (fun z => decide (z.ses ≠ 0))).map (fun z => (((z.num : Int), (z.dl : Int)) : E))).length = (s.L.filter (fun z => decide (z.ses ≠ 0))).length := List.length_map ..
  rw [← e]
  refine nd_len ?_ ?_ fun a => ?_
  · have := O.n2
    unfold keys at this
    exact (List.pairwise_map.1 this).imp (fun h e => h (congrArg _ e))
  · have h1 : ((s.L.filter (fun z => decide (z.ses ≠ 0))).map Cp.num).Nodup := List.Pairwise.sublist (List.Sublist.map _ List.filter_sublist) O.nd
    exact List.pairwise_map.2 ((List.pairwise_map.1 h1).imp (fun h e => h (Int.ofNat.inj (congrArg Prod.fst e))))
  · rw [ok.e2, List.mem_map]
    constructor
    · rintro ⟨z, hz, hs, rfl⟩; exact ⟨z, List.mem_filter.2 ⟨hz, decide_eq_true hs⟩, rfl⟩
    · rintro ⟨z, hz, rfl⟩
      obtain ⟨h1, h2⟩ := List.mem_filter.1 hz
      exact ⟨z, h1, of_decide_eq_true h2, rfl⟩
theorem sorted_ext : ∀ {l l' : List E}, Sorted l → Sorted l' → (∀ e, e ∈ l ↔ e ∈ l') → l = l'
  | [], [], _, _, _ => rfl
  | [], a :: _, _, _, hm => by have := (hm a).2 (by simp); cases this
  | a :: _, [], _, _, hm => by have := (hm a).1 (by simp); cases this
  | a :: l, b :: l', h, h', hm => by
    obtain ⟨h1, h2⟩ := List.pairwise_cons.1 h
    obtain ⟨g1, g2⟩ := List.pairwise_cons.1 h'
    have e : a = b := by
      rcases List.mem_cons.1 ((hm a).1 (by simp)) with e | e
      · exact e
      · rcases List.mem_cons.1 ((hm b).2 (by simp)) with e2 | e2
        · exact e2.symm
        · exact absurd (Heapq.lt_trans (h1 b e2) (g1 a e)) (Heapq.lt_irrefl a)
    subst e
    rw [sorted_ext h2 g2 fun x => ⟨fun hx => ?_, fun hx => ?_⟩]
    · rcases List.mem_cons.1 ((hm x).1 (List.mem_cons_of_mem _ hx)) with e | e
      · subst e; exact absurd (h1 x hx) (Heapq.lt_irrefl x)
      · exact e
    · rcases List.mem_cons.1 ((hm x).2 (List.mem_cons_of_mem _ hx)) with e | e
      · subst e; exact absurd (g1 x hx) (Heapq.lt_irrefl x)
      · exact e
theorem okZ.free {z : Cp} (k : okZ z) : okZ { z with ses := 0, dl := 0 } := ⟨k.r, k.v, k.d, k.n, k.t, by show (0 : Int) ≤ 0; omega, by show (0 : Int) ≤ 1099511627776; omega, by show 0 ≤ 1099511627776; omega⟩
theorem okZ.lease {z : Cp} (k : okZ z) {ses : Int} {dl : Nat} (hm : mayS ses dl) : okZ { z with ses := ses, dl := dl } := ⟨k.r, k.v, k.d, k.n, k.t, by have := hm.1; show 0 ≤ ses; omega, hm.2.1, hm.2.2⟩
theorem state_ext (ok : okC s) (O : Ord s) (ok' : okC s') (O' : Ord s') (hL : s'.L = s.L) (h1 : s'.next = s.next) (h2 : s'.acked = s.acked) (h3 : s'.over = s.over) (h4 : s'.gone = s.gone) : s' = s := by
  have e1 : s'.E1 = s.E1 := sorted_ext O'.o1 O.o1 fun e => by rw [ok'.e1, ok.e1, hL]
  have e2 : s'.E2 = s.E2 := sorted_ext O'.o2 O.o2 fun e => by rw [ok'.e2, ok.e2, hL]
  cases s; cases s'
  simp only at hL h1 h2 h3 h4 e1 e2
  subst hL h1 h2 h3 h4 e1 e2
  rfl
structure Good (s : CF) (k : Nat) : Prop where
  ok : okC s
  all : ∀ z ∈ s.L, okZ z
  may : ∀ z ∈ s.L, mayC z.e z.d.length (z.till : Int) = true
  fr : ∀ z ∈ s.L, z.ses = 0 → z.dl = 0
  full : ∀ e, (ofL s.L e).length ≤ 16
  len : s.next ≤ k + 1
theorem Good.nil : Good ⟨[], 1, 0, 0, 0, [], []⟩ 0 := ⟨⟨(fun z hz => by cases hz), (fun z hz => by cases hz), (fun e => by simp), (fun e => by simp), rfl⟩, (fun z hz => by cases hz), (fun z hz => by cases hz), (fun z hz => by cases hz), fun _ => Nat.zero_le _, Nat.le_refl _⟩
theorem Good.L (G : Good s k) : s.L.length ≤ k ∧ s.acked ≤ k ∧ s.over ≤ k ∧ s.gone ≤ k := by
  have := G.ok.cnt
  have := G.len
  omega
theorem Good.small (G : Good s k) (O : Ord s) (hk : k ≤ 40000) : Small s := by
  have h1 := G.L
  have h2 := G.len
  have nd : ∀ {l : List E}, (keys l).Nodup → l.Nodup := fun {l} hn => (List.pairwise_map.1 hn).imp (fun h e => h (congrArg _ e))
  have e1 : s.E1.length ≤ s.L.length := by
    have := nd_le (l2 := s.L.map (fun z => (((z.num : Int), (z.till : Int)) : E))) (nd O.n1) (fun e he => by
      obtain ⟨z, hz, rfl⟩ := (G.ok.e1 e).1 he
      exact List.mem_map.2 ⟨z, hz, rfl⟩)
    rwa [List.length_map] at this
  have e2 : s.E2.length ≤ s.L.length := by
    rw [leased_len G.ok O]; exact List.length_filter_le _ _
  exact ⟨by omega, by omega, by omega, by omega⟩
theorem Good.held (G : Good s k) : Held s := fun j hj => by
  unfold keys at hj
  obtain ⟨e, he, rfl⟩ := List.mem_map.1 hj
  obtain ⟨z, hz, _, rfl⟩ := (G.ok.e2 e).1 he
  exact ⟨z, hz, rfl⟩
theorem Good.more (G : Good s k) : Good s (k + 1) := ⟨G.ok, G.all, G.may, G.fr, G.full, by have := G.len; omega⟩
theorem Good.sub (G : Good s k) (ok' : okC s') (P : Cp → Bool) (g : Cp → Cp) (hg : ∀ z, (g z).e = z.e ∧ (g z).d = z.d ∧ (g z).till = z.till) (hz : ∀ z ∈ s.L, okZ (g z) ∧ ((g z).ses = 0 → (g z).dl = 0)) (hL : s'.L = (s.L.filter P).map g) (hn : s'.next = s.next) : Good s' (k + 1) := by
  have mem : ∀ z ∈ s'.L, ∃ y ∈ s.L, z = g y := fun z hz => by
    rw [hL] at hz
    obtain ⟨y, hy, rfl⟩ := List.mem_map.1 hz
    exact ⟨y, (List.mem_filter.1 hy).1, rfl⟩
  refine ⟨ok', fun z h => ?_, fun z h => ?_, fun z h => ?_, fun e => ?_, by have := G.len; omega⟩
  · obtain ⟨y, hy, rfl⟩ := mem z h; exact (hz y hy).1
  · obtain ⟨y, hy, rfl⟩ := mem z h
    rw [(hg y).1, (hg y).2.1, (hg y).2.2]; exact G.may y hy
  · obtain ⟨y, hy, rfl⟩ := mem z h; exact (hz y hy).2
  · have h1 : ofL s'.L e = (ofL (s.L.filter P) e).map g := by
      rw [hL]; unfold ofL
      rw [List.filter_map]
      congr 1
      refine List.filter_congr fun z _ => ?_
      show decide ((g z).e = e) = decide (z.e = e)
      rw [(hg z).1]
    rw [h1, List.length_map]
    exact Nat.le_trans ((List.Sublist.filter _ List.filter_sublist).length_le) (G.full e)
theorem filter_tt (L : List Cp) : L.filter (fun _ => true) = L := List.filter_eq_self.2 fun _ _ => rfl
theorem Good.set (G : Good s k) (ok' : okC s') {n : Nat} {ses : Int} {dl : Nat} (h0 : mayS ses dl ∨ (ses = 0 ∧ dl = 0)) (hL : s'.L = setC s.L n ses dl) (hn : s'.next = s.next) : Good s' (k + 1) := by
  refine G.sub ok' (fun _ => true) (fun x => if x.num = n then { x with ses := ses, dl := dl } else x) (fun z => by split <;> exact ⟨rfl, rfl, rfl⟩) (fun z hz => ?_) (by rw [filter_tt]; exact hL) hn
  split
  · rcases h0 with h0 | ⟨rfl, rfl⟩
    · exact ⟨(G.all z hz).lease h0, fun e => by have := h0.1; dsimp only at e; omega⟩
    · exact ⟨(G.all z hz).free, fun _ => rfl⟩
  · exact ⟨G.all z hz, G.fr z hz⟩
theorem Good.out (G : Good s k) (ok' : okC s') {P : Cp → Bool} (hL : s'.L = s.L.filter P) (hn : s'.next = s.next) : Good s' (k + 1) :=
  G.sub ok' P id (fun _ => ⟨rfl, rfl, rfl⟩) (fun z hz => ⟨G.all z hz, G.fr z hz⟩) (by rw [List.map_id]; exact hL) hn
instance (ses : Int) (dl : Nat) : Decidable (mayS ses dl) := by unfold mayS; infer_instance
def doS (f : OP) (s : CF) : CF :=
  if f.kind = 0 then addF s f.e f.b f.till
  else if f.kind = 1 then (if mayS f.ses f.till then (match leaseC s.L f.e with | none => s | some z => leaseF s z f.ses f.till) else s)
  else if f.kind = 2 then ackF s f.num f.ses
  else if f.kind = 3 then relF s f.num f.ses
  else if f.kind = 4 then passF s (f.till : Int)
  else if f.kind = 5 then dropF s f.e
  else s
def doE (f : OP) (s : CF) : Int × Int :=
  if f.kind = 0 then (addE s f.e f.b f.till, addN s f.e f.b f.till)
  else if f.kind = 1 then (if mayS f.ses f.till then (match leaseC s.L f.e with | none => (4, 0) | some z => (0, (z.num : Int))) else (1, 0))
  else if f.kind = 2 then (findE s.L f.num f.ses, 0)
  else if f.kind = 3 then (findE s.L f.num f.ses, 0)
  else if f.kind = 4 then (0, ((Alarm.due s.E1 (f.till : Int)).length : Int))
  else if f.kind = 5 then (0, ((ofL s.L f.e).length : Int))
  else (0, 0)
theorem Good.do (G : Good s k) (O : Ord s) (hsv : 0 ≤ f.e.svc) (hk : k ≤ 30000) : Good (doS f s) (k + 1) := by
  unfold doS
  split
  ·
    have ok' := G.ok.add f.e f.b f.till
    by_cases h0 : addE s f.e f.b f.till = 0
    · have eF : addF s f.e f.b f.till = { s with L := s.L ++ [⟨s.next, f.e, f.b, f.till, 0, 0⟩], next := s.next + 1, E1 := setL s.E1 (s.next : Int) (f.till : Int) } := if_pos h0
      have hm : mayC f.e f.b.length (f.till : Int) = true ∧ (ofL s.L f.e).length < 16 := by
        unfold addE at h0
        split at h0
        · rename_i hm
          refine ⟨hm, ?_⟩
          split at h0
          · cases h0
          · omega
        · cases h0
      have hp : rightE f.e = true ∧ f.b.length ≤ 600 ∧ f.till ≤ 1099511627776 := by
        have := hm.1
        unfold mayC at this
        simp only [Bool.and_eq_true, Bool.not_eq_true', decide_eq_true_eq, decide_eq_false_iff_not] at this
        exact ⟨this.1, by omega, by omega⟩
      have ln := G.len
      rw [eF] at ok' ⊢
      have mem : ∀ {Q : Cp → Prop}, (∀ z ∈ s.L, Q z) → Q ⟨s.next, f.e, f.b, f.till, 0, 0⟩ → ∀ z ∈ s.L ++ [⟨s.next, f.e, f.b, f.till, 0, 0⟩], Q z := fun h1 h2 z hz => by
        rcases List.mem_append.1 hz with hz | hz
        · exact h1 z hz
        · obtain rfl := List.mem_singleton.1 hz; exact h2
      refine ⟨ok', mem G.all ⟨hp.1, hsv, hp.2.1, by show s.next ≤ 1000000; omega, hp.2.2, by show (0 : Int) ≤ 0; omega, by show (0 : Int) ≤ 1099511627776; omega, by show 0 ≤ 1099511627776; omega⟩, mem G.may hm.1, mem G.fr (fun _ => rfl), fun e => ?_, by show s.next + 1 ≤ _; omega⟩
      show (ofL (s.L ++ [⟨s.next, f.e, f.b, f.till, 0, 0⟩]) e).length ≤ 16
      unfold ofL
      rw [List.filter_append, List.length_append]
      have g1 := G.full e
      have g2 := hm.2
      unfold ofL at g1 g2
      by_cases he : f.e = e
      · subst he
        simp
        omega
      · simp [he]
        exact g1
    · have eF : addF s f.e f.b f.till = s := if_neg h0
      rw [eF]; exact G.more
  split
  ·
    split
    · rename_i hm
      cases hl : leaseC s.L f.e with
      | none => exact G.more
      | some z => exact G.set (G.ok.lease O (leaseC_mem hl).1 hm) (.inl hm) rfl rfl
    · exact G.more
  split
  ·
    have ok' := G.ok.ack O f.num f.ses
    unfold ackF at ok' ⊢
    split
    · rename_i h0
      rw [if_pos h0] at ok'
      exact G.out ok' (P := fun x => !decide ((x.num : Int) = f.num)) rfl rfl
    · exact G.more
  split
  ·
    have ok' := G.ok.rel O f.num f.ses
    unfold relF at ok' ⊢
    split
    · rename_i h0
      rw [if_pos h0] at ok'
      exact G.set ok' (.inr ⟨rfl, rfl⟩) rfl rfl
    · exact G.more
  split
  ·
    obtain ⟨h1, _, h3, _, _, h6, _⟩ := pass_all2 G.ok O (f.till : Int)
    refine G.sub h1 _ (freeZ (f.till : Int)) (fun z => by unfold freeZ; split <;> exact ⟨rfl, rfl, rfl⟩) (fun z hz => ?_) h6 h3
    unfold freeZ
    split
    · exact ⟨(G.all z hz).free, fun _ => rfl⟩
    · exact ⟨G.all z hz, G.fr z hz⟩
  split
  ·
    have e := fold_gone ((ofL s.L f.e).map (fun z => (z.num : Int))) s
    refine G.out (G.ok.drop O f.e) (P := fun z => !decide ((z.num : Int) ∈ (ofL s.L f.e).map (fun z => (z.num : Int)))) ?_ ?_
    · unfold dropF; rw [e]; rfl
    · unfold dropF; rw [e]
  · exact G.more
end Cps
end Go.Proofs.YtgccegnmggjkjaaGreatDoor
set_option maxRecDepth 100000
set_option maxHeartbeats 4000000
namespace Go.Proofs.YtgccegnmggjkjaaGreatDoor
open Go.Den
variable {h : Heap} {R : Value → Heap → Prop}
theorem bytes_Equal.walk {a_p : Option Addr} {a_l a_c : Nat} {b_p : Option Addr} {b_l b_c : Nat} (hv :
 ∃ (t6 : ByteArray), ConvV Tryz.prog T.s_uint8 T.string (.slice a_p a_l a_c) h t6 ∧
 ∃ (t8 : ByteArray), ConvV Tryz.prog T.s_uint8 T.string (.slice b_p b_l b_c) h t8 ∧
 R (.bool (t6.toList == t8.toList)) h) : CallsH Tryz.prog F.bytes_Equal #[.slice a_p a_l a_c, .slice b_p b_l b_c] h R :=
 callsH_of_body (.seq .leaf (.seq .leaf .leaf)) Tryz.func100 rfl rfl (Eq.mp (by kernel_rfl) hv)
end Go.Proofs.YtgccegnmggjkjaaGreatDoor
set_option maxRecDepth 100000
namespace Go.Proofs.YtgccegnmggjkjaaGreatDoor
open Go.Den Go.Fields
namespace Fld
variable {h h' h0 : Heap} {R : Value → Heap → Prop} {p q : Option Addr} {n m c d i : Nat}
theorem equal_ok {a b : List UInt8} (ra : Row h p (bc a)) (hn : n = a.length) (rb : Row h q (bc b)) (hm : m = b.length) (hk : R (.bool (decide (a = b))) h) : CallsH Tryz.prog F.bytes_Equal #[.slice p n c, .slice q m d] h R := by
  refine bytes_Equal.walk ⟨_, conv ra hn, _, conv rb hm, ?_⟩
  rw [str_list, str_list]
  have e : (a == b) = decide (a = b) := by rw [Bool.eq_iff_iff]; simp
  rw [e]; exact hk
end Fld
end Go.Proofs.YtgccegnmggjkjaaGreatDoor
set_option maxRecDepth 100000
namespace Go.Proofs
open Go.Shelf
def Tryz.lays145_ren : Go.Shelf.Ren := ⟨fun | 145 => 195 | 220 => 224 | 219 => 247 | 217 => 266 | 225 => 267 | 224 => 268 | 267 => 269 | 266 => 275 | 314 => 276 | n => n, fun | 9 => 9 | 4 => 4 | 59 => 288 | 3 => 3 | 5 => 5 | 46 => 271 | 146 => 367 | 51 => 314 | n => n, fun | 1 => 1 | n => n⟩
theorem Tryz.lays145 : Go.Proofs.Lays.n145 Tryz.prog Tryz.lays145_ren := {
  mixed := by kernel_rfl
  f145 := Tryz.func195.trans (congrArg some (by kernel_rfl))
  f217 := Tryz.func266.trans (congrArg some (by kernel_rfl))
  f219 := Tryz.func247.trans (congrArg some (by kernel_rfl))
  f220 := Tryz.func224.trans (congrArg some (by kernel_rfl))
  f224 := Tryz.func268.trans (congrArg some (by kernel_rfl))
  f225 := Tryz.func267.trans (congrArg some (by kernel_rfl))
  f266 := Tryz.func275.trans (congrArg some (by kernel_rfl))
  f267 := Tryz.func269.trans (congrArg some (by kernel_rfl))
  f314 := Tryz.func276.trans (congrArg some (by kernel_rfl))
  t3 := Tryz.underlying3
  a3 := Tryz.isAgg3
  z3 := Tryz.sizeOf3
  v3 := Tryz.zeroValue3
  t4 := Tryz.underlying4
  a4 := Tryz.isAgg4
  z4 := Tryz.sizeOf4
  v4 := Tryz.zeroValue4
  t5 := Tryz.underlying5
  a5 := Tryz.isAgg5
  z5 := Tryz.sizeOf5
  v5 := Tryz.zeroValue5
  t9 := Tryz.underlying9
  a9 := Tryz.isAgg9
  z9 := Tryz.sizeOf9
  v9 := Tryz.zeroValue9
  t46 := Tryz.underlying271
  a46 := Tryz.isAgg271
  z46 := Tryz.sizeOf271
  v46 := Tryz.zeroValue271
  t51 := Tryz.underlying314
  a51 := Tryz.isAgg314
  z51 := Tryz.sizeOf314
  v51 := Tryz.zeroValue314
  t59 := Tryz.underlying288
  a59 := Tryz.isAgg288
  z59 := Tryz.sizeOf288
  v59 := Tryz.zeroValue288
  t146 := Tryz.underlying367
  a146 := Tryz.isAgg367
  z146 := Tryz.sizeOf367
  v146 := Tryz.zeroValue367
  g1 := by kernel_rfl }
def Tryz.lays103_ren : Go.Shelf.Ren := ⟨fun | 103 => 156 | 210 => 194 | 206 => 223 | n => n, fun | 9 => 9 | 4 => 4 | 24 => 240 | 3 => 3 | n => n, fun | n => n⟩
theorem Tryz.lays103 : Go.Proofs.Lays.n103 Tryz.prog Tryz.lays103_ren := {
  mixed := by kernel_rfl
  f103 := Tryz.func156.trans (congrArg some (by kernel_rfl))
  f206 := Tryz.func223.trans (congrArg some (by kernel_rfl))
  f210 := Tryz.func194.trans (congrArg some (by kernel_rfl))
  t3 := Tryz.underlying3
  a3 := Tryz.isAgg3
  z3 := Tryz.sizeOf3
  v3 := Tryz.zeroValue3
  t4 := Tryz.underlying4
  a4 := Tryz.isAgg4
  z4 := Tryz.sizeOf4
  v4 := Tryz.zeroValue4
  t9 := Tryz.underlying9
  a9 := Tryz.isAgg9
  z9 := Tryz.sizeOf9
  v9 := Tryz.zeroValue9
  t24 := Tryz.underlying240
  a24 := Tryz.isAgg240
  z24 := Tryz.sizeOf240
  v24 := Tryz.zeroValue240 }
def Tryz.lays14_ren : Go.Shelf.Ren := ⟨fun | 14 => 196 | 16 => 225 | 17 => 226 | 19 => 248 | 20 => 249 | 21 => 250 | 22 => 251 | 23 => 252 | 24 => 253 | 25 => 270 | 27 => 272 | 26 => 271 | 28 => 277 | 29 => 278 | 30 => 228 | 31 => 229 | 32 => 230 | 33 => 231 | 35 => 214 | 34 => 254 | 36 => 255 | 37 => 256 | 38 => 257 | 39 => 273 | 40 => 274 | n => n, fun | 9 => 9 | 3 => 3 | 22 => 23 | 24 => 291 | 25 => 292 | 4 => 4 | 34 => 343 | 5 => 5 | 36 => 271 | 37 => 34 | 0 => 0 | 39 => 346 | 21 => 21 | 44 => 365 | 47 => 369 | 50 => 372 | 48 => 370 | 2 => 2 | 52 => 325 | 55 => 327 | 59 => 350 | 60 => 314 | 20 => 20 | 61 => 351 | 65 => 373 | 66 => 374 | 67 => 376 | n => n, fun | 0 => 2 | 1 => 3 | 2 => 0 | 3 => 4 | 4 => 5 | n => n⟩
theorem Tryz.lays14 : Go.Proofs.LaysPu.n14 Tryz.prog Tryz.lays14_ren := {
  mixed := by kernel_rfl
  f14 := Tryz.func196.trans (congrArg some (by kernel_rfl))
  f16 := Tryz.func225.trans (congrArg some (by kernel_rfl))
  f17 := Tryz.func226.trans (congrArg some (by kernel_rfl))
  f19 := Tryz.func248.trans (congrArg some (by kernel_rfl))
  f20 := Tryz.func249.trans (congrArg some (by kernel_rfl))
  f21 := Tryz.func250.trans (congrArg some (by kernel_rfl))
  f22 := Tryz.func251.trans (congrArg some (by kernel_rfl))
  f23 := Tryz.func252.trans (congrArg some (by kernel_rfl))
  f24 := Tryz.func253.trans (congrArg some (by kernel_rfl))
  f25 := Tryz.func270.trans (congrArg some (by kernel_rfl))
  f26 := Tryz.func271.trans (congrArg some (by kernel_rfl))
  f27 := Tryz.func272.trans (congrArg some (by kernel_rfl))
  f28 := Tryz.func277.trans (congrArg some (by kernel_rfl))
  f29 := Tryz.func278.trans (congrArg some (by kernel_rfl))
  f30 := Tryz.func228.trans (congrArg some (by kernel_rfl))
  f31 := Tryz.func229.trans (congrArg some (by kernel_rfl))
  f32 := Tryz.func230.trans (congrArg some (by kernel_rfl))
  f33 := Tryz.func231.trans (congrArg some (by kernel_rfl))
  f34 := Tryz.func254.trans (congrArg some (by kernel_rfl))
  f35 := Tryz.func214.trans (congrArg some (by kernel_rfl))
  f36 := Tryz.func255.trans (congrArg some (by kernel_rfl))
  f37 := Tryz.func256.trans (congrArg some (by kernel_rfl))
  f38 := Tryz.func257.trans (congrArg some (by kernel_rfl))
  f39 := Tryz.func273.trans (congrArg some (by kernel_rfl))
  f40 := Tryz.func274.trans (congrArg some (by kernel_rfl))
  t0 := Tryz.underlying0
  a0 := Tryz.isAgg0
  z0 := Tryz.sizeOf0
  v0 := Tryz.zeroValue0
  i0 := by kernel_rfl
  t2 := Tryz.underlying2
  a2 := Tryz.isAgg2
  z2 := Tryz.sizeOf2
  v2 := Tryz.zeroValue2
  i2 := by kernel_rfl
  t3 := Tryz.underlying3
  a3 := Tryz.isAgg3
  z3 := Tryz.sizeOf3
  v3 := Tryz.zeroValue3
  i3 := by kernel_rfl
  t4 := Tryz.underlying4
  a4 := Tryz.isAgg4
  z4 := Tryz.sizeOf4
  v4 := Tryz.zeroValue4
  i4 := by kernel_rfl
  t5 := Tryz.underlying5
  a5 := Tryz.isAgg5
  z5 := Tryz.sizeOf5
  v5 := Tryz.zeroValue5
  i5 := by kernel_rfl
  t9 := Tryz.underlying9
  a9 := Tryz.isAgg9
  z9 := Tryz.sizeOf9
  v9 := Tryz.zeroValue9
  i9 := by kernel_rfl
  t20 := Tryz.underlying20
  a20 := Tryz.isAgg20
  z20 := Tryz.sizeOf20
  v20 := Tryz.zeroValue20
  i20 := by kernel_rfl
  t21 := Tryz.underlying21
  a21 := Tryz.isAgg21
  z21 := Tryz.sizeOf21
  v21 := Tryz.zeroValue21
  i21 := by kernel_rfl
  t22 := Tryz.underlying23
  a22 := Tryz.isAgg23
  z22 := Tryz.sizeOf23
  v22 := Tryz.zeroValue23
  i22 := by kernel_rfl
  t24 := Tryz.underlying291
  a24 := Tryz.isAgg291
  z24 := Tryz.sizeOf291
  v24 := Tryz.zeroValue291
  i24 := by kernel_rfl
  t25 := Tryz.underlying292
  a25 := Tryz.isAgg292
  z25 := Tryz.sizeOf292
  v25 := Tryz.zeroValue292
  i25 := by kernel_rfl
  t34 := Tryz.underlying343
  a34 := Tryz.isAgg343
  z34 := Tryz.sizeOf343
  v34 := Tryz.zeroValue343
  i34 := by kernel_rfl
  c34 := by kernel_rfl
  t36 := Tryz.underlying271
  a36 := Tryz.isAgg271
  z36 := Tryz.sizeOf271
  v36 := Tryz.zeroValue271
  i36 := by kernel_rfl
  t37 := Tryz.underlying34
  a37 := Tryz.isAgg34
  z37 := Tryz.sizeOf34
  v37 := Tryz.zeroValue34
  i37 := by kernel_rfl
  t39 := Tryz.underlying346
  a39 := Tryz.isAgg346
  z39 := Tryz.sizeOf346
  v39 := Tryz.zeroValue346
  i39 := by kernel_rfl
  t44 := Tryz.underlying365
  a44 := Tryz.isAgg365
  z44 := Tryz.sizeOf365
  v44 := Tryz.zeroValue365
  i44 := by kernel_rfl
  t47 := Tryz.underlying369
  a47 := Tryz.isAgg369
  z47 := Tryz.sizeOf369
  v47 := Tryz.zeroValue369
  i47 := by kernel_rfl
  t48 := Tryz.underlying370
  a48 := Tryz.isAgg370
  z48 := Tryz.sizeOf370
  v48 := Tryz.zeroValue370
  i48 := by kernel_rfl
  t50 := Tryz.underlying372
  a50 := Tryz.isAgg372
  z50 := Tryz.sizeOf372
  v50 := Tryz.zeroValue372
  i50 := by kernel_rfl
  t52 := Tryz.underlying325
  a52 := Tryz.isAgg325
  z52 := Tryz.sizeOf325
  v52 := Tryz.zeroValue325
  i52 := by kernel_rfl
  t55 := Tryz.underlying327
  a55 := Tryz.isAgg327
  z55 := Tryz.sizeOf327
  v55 := Tryz.zeroValue327
  i55 := by kernel_rfl
  t59 := Tryz.underlying350
  a59 := Tryz.isAgg350
  z59 := Tryz.sizeOf350
  v59 := Tryz.zeroValue350
  i59 := by kernel_rfl
  t60 := Tryz.underlying314
  a60 := Tryz.isAgg314
  z60 := Tryz.sizeOf314
  v60 := Tryz.zeroValue314
  i60 := by kernel_rfl
  t61 := Tryz.underlying351
  a61 := Tryz.isAgg351
  z61 := Tryz.sizeOf351
  t65 := Tryz.underlying373
  a65 := Tryz.isAgg373
  z65 := Tryz.sizeOf373
  v65 := Tryz.zeroValue373
  i65 := by kernel_rfl
  t66 := Tryz.underlying374
  a66 := Tryz.isAgg374
  z66 := Tryz.sizeOf374
  v66 := Tryz.zeroValue374
  i66 := by kernel_rfl
  t67 := Tryz.underlying376
  a67 := Tryz.isAgg376
  z67 := Tryz.sizeOf376
  v67 := Tryz.zeroValue376
  i67 := by kernel_rfl
  g0 := by kernel_rfl
  m0 := by kernel_rfl
  g1 := by kernel_rfl
  m1 := by kernel_rfl
  g2 := by kernel_rfl
  m2 := by kernel_rfl
  g3 := by kernel_rfl
  m3 := by kernel_rfl
  g4 := by kernel_rfl
  m4 := by kernel_rfl }
end Go.Proofs
set_option maxRecDepth 100000
namespace Go.Proofs.YtgccegnmggjkjaaGreatDoor
open Go.Den
namespace Num
variable {h h' : Heap} {R : Value → Heap → Prop}
def Mx (h : Heap) : Prop := ∃ m, hcell h ⟨1, 0, none⟩ = some (.int .i64 m)
theorem Mx.on (M : Mx h) (f : Fr (fun _ => False) h h') : Mx h' := by
  obtain ⟨m, hm⟩ := M
  exact ⟨m, f.cell hm id⟩
theorem cut_ok {s sep : ByteArray} (M : Mx h) (hs : s.size < 4294967281) (hk : R (.tuple #[.string ⟨(Lib.cut s.data.toList sep.data.toList).1.toArray⟩, .string ⟨(Lib.cut s.data.toList sep.data.toList).2.1.toArray⟩, .bool (Lib.cut s.data.toList sep.data.toList).2.2]) h) : CallsH Tryz.prog F.strings_Cut #[.string s, .string sep] h R := fun w hw => by
  subst hw
  obtain ⟨m, hm⟩ := M
  refine (Any.strings_Cut Tryz.lays145 s sep m w hs (by rw [cell_eq]; exact hm)).mono fun e w' ⟨he, n, hw'⟩ => ⟨_, he, ?_, ?_⟩
  · rw [hw']; exact hk
  · rw [hw']; exact ⟨rfl, rfl, rfl⟩
theorem prefix_ok {s p : ByteArray} (hk : R (.tuple #[.string ⟨(Lib.trimPrefix s.data.toList p.data.toList).toArray⟩, .bool (Lib.hasPrefix s.data.toList p.data.toList)]) h) : CallsH Tryz.prog F.strings_CutPrefix #[.string s, .string p] h R := fun w hw =>
  (Any.strings_CutPrefix Tryz.lays103 s p w).mono fun e w' ⟨he, hw'⟩ => ⟨_, he, by rw [hw', hw]; exact hk, by rw [hw']; exact Same.refl _⟩
theorem parse_ok {s : ByteArray} {u : Nat} (hs : s.size ≤ 1000) (hu : Lib.parseUintB 32 s.data.toList = .ok u) (hk : ∀ h', Fr (fun _ => False) h h' → R (.tuple #[.int .u64 (u : Int), .nilIface]) h') : CallsH Tryz.prog F.strconv_ParseUint #[.string s, .int .i64 10, .int .i64 32] h R := fun w hw => by
  subst hw
  refine (Any.strconv_ParseUint_10_at32_ok Tryz.lays14 s (by omega) u hu w).mono fun e w' ⟨he, hw'⟩ => ⟨_, he, ?_, ?_⟩
  · rcases hw' with rfl | rfl
    · exact hk _ (Fr.refl _ _)
    · refine hk _ ?_
      unfold Lib.bytesWorld
      rw [freeze_eq]
      have e1 : (w.drew.alloc (.cells (Lib.bytesCells w (Tryz.lays14_ren.t 5) s) (Tryz.lays14_ren.t 5))).heap = w.heap.push (.cells (Lib.bytesCells w (Tryz.lays14_ren.t 5) s) (Tryz.lays14_ren.t 5)) := rfl
      rw [e1]
      unfold hfreeze
      rw [if_neg (by omega)]
      refine ⟨by simp, fun c hc _ => ?_⟩
      rw [Array.getElem?_modify, if_neg (by simp; omega), Array.getElem?_push, if_neg (by omega)]
  · rcases hw' with rfl | rfl
    · exact Same.refl _
    · unfold Lib.bytesWorld World.freeze; split <;> exact ⟨rfl, rfl, rfl⟩
end Num
end Go.Proofs.YtgccegnmggjkjaaGreatDoor
set_option maxRecDepth 100000
set_option maxHeartbeats 4000000
namespace Go.Proofs.YtgccegnmggjkjaaGreatDoor
open Go.Den
variable {h : Heap} {R : Value → Heap → Prop}
theorem eid_Parse.walk {s : ByteArray} (hv :
 NewP h (.cells #[.bool false, .int .u64 0, .int .u64 0, .string (⟨#[]⟩ : ByteArray), .string (⟨#[]⟩ : ByteArray)] T.eid_Eid) fun b h_1 =>
 if (s.toList == (⟨#[100, 116, 110, 58, 110, 111, 110, 101]⟩ : ByteArray).toList) = true then
 eid_Eid.ST h_1 ⟨b, 0, none⟩ false 0 0 (⟨#[]⟩ : ByteArray) (⟨#[]⟩ : ByteArray) fun h_2 =>
 eid_Eid.LD h_2 ⟨b, 0, none⟩ fun r_0 r_1 r_2 r_3 r_4 =>
 R (.tuple #[.agg #[.bool r_0, .int .u64 r_1, .int .u64 r_2, .string r_3, .string r_4], .int .i64 0]) h_2
 else
 NewP h_1 (.cells #[.bool false, .int .u64 0, .int .u64 0, .string (⟨#[]⟩ : ByteArray), .string (⟨#[]⟩ : ByteArray)] T.eid_Eid) fun b_1 h_3 =>
 Cl F.strings_CutPrefix #[.string s, .string (⟨#[105, 112, 110, 58]⟩ : ByteArray)] h_3 fun v h_4 =>
 ∃ t15_0 t15_1, v = .tuple #[.string t15_0, .bool t15_1] ∧
 JoinP (fun (ok : Bool) (h_5 : Heap) =>
 if (!ok) = true then
 eid_Eid.ST h_5 ⟨b, 0, none⟩ false 0 0 (⟨#[]⟩ : ByteArray) (⟨#[]⟩ : ByteArray) fun h_6 =>
 eid_Eid.LD h_6 ⟨b, 0, none⟩ fun r_0_1 r_1_1 r_2_1 r_3_1 r_4_1 =>
 R (.tuple #[.agg #[.bool r_0_1, .int .u64 r_1_1, .int .u64 r_2_1, .string r_3_1, .string r_4_1], .int .i64 3]) h_6
 else
 eid_Eid.LD h_5 ⟨b_1, 0, none⟩ fun t38_0 t38_1 t38_2 t38_3 t38_4 =>
 eid_Eid.ST h_5 ⟨b, 0, none⟩ t38_0 t38_1 t38_2 t38_3 t38_4 fun h_7 =>
 eid_Eid.LD h_7 ⟨b, 0, none⟩ fun r_0_2 r_1_2 r_2_2 r_3_2 r_4_2 =>
 R (.tuple #[.agg #[.bool r_0_2, .int .u64 r_1_2, .int .u64 r_2_2, .string r_3_2, .string r_4_2], .int .i64 0]) h_7)
 (fun J =>
 if t15_1 = true then
 Cl F.eid_parseNumbers #[.string t15_0] h_4 fun v_1 h_8 =>
 ∃ t21_0_0 t21_0_1 t21_0_2 t21_0_3 t21_0_4 t21_1, v_1 = .tuple #[.agg #[.bool t21_0_0, .int .u64 t21_0_1, .int .u64 t21_0_2, .string t21_0_3, .string t21_0_4], .bool t21_1] ∧
 eid_Eid.ST h_8 ⟨b_1, 0, none⟩ t21_0_0 t21_0_1 t21_0_2 t21_0_3 t21_0_4 fun h_9 =>
 J t21_1 h_9
 else
 Cl F.strings_CutPrefix #[.string s, .string (⟨#[100, 116, 110, 58]⟩ : ByteArray)] h_4 fun v_2 h_10 =>
 ∃ t26_0 t26_1, v_2 = .tuple #[.string t26_0, .bool t26_1] ∧
 JoinP (fun (ok_1 : Bool) (h_11 : Heap) =>
 J ok_1 h_11)
 (fun J_1 =>
 if t26_1 = true then
 Cl F.eid_parsePath #[.string t26_0] h_10 fun v_3 h_12 =>
 ∃ t32_0_0 t32_0_1 t32_0_2 t32_0_3 t32_0_4 t32_1, v_3 = .tuple #[.agg #[.bool t32_0_0, .int .u64 t32_0_1, .int .u64 t32_0_2, .string t32_0_3, .string t32_0_4], .bool t32_1] ∧
 eid_Eid.ST h_12 ⟨b_1, 0, none⟩ t32_0_0 t32_0_1 t32_0_2 t32_0_3 t32_0_4 fun h_13 =>
 J_1 t32_1 h_13
 else
 J_1 false h_10))) : CallsH Tryz.prog F.eid_Parse #[.string s] h R :=
 callsH_of_body (.seq .leaf (.seq (.seq .leaf (.cond (.seq .leaf .leaf) .leaf)) (.seq .leaf (.seq .leaf (.seq (.seq .leaf (.seq .leaf (.join [(5, .one (.bool))] (.cond .leaf (.seq .leaf (.seq .leaf (.join [(5, .one (.bool))] (.cond .leaf .leaf)))))))) (.seq (.seq .leaf (.cond (.seq .leaf .leaf) .leaf)) (.seq .leaf .leaf))))))) Tryz.func96 rfl rfl (Eq.mp (by kernel_rfl) hv)
theorem eid_parseNumbers.walk {s : ByteArray} (hv :
 NewP h (.cells #[.bool false, .int .u64 0, .int .u64 0, .string (⟨#[]⟩ : ByteArray), .string (⟨#[]⟩ : ByteArray)] T.eid_Eid) fun b h_1 =>
 Cl F.strings_Cut #[.string s, .string (⟨#[46]⟩ : ByteArray)] h_1 fun v h_2 =>
 ∃ t14_0 t14_1 t14_2, v = .tuple #[.string t14_0, .string t14_1, .bool t14_2] ∧
 Cl F.strconv_ParseUint #[.string t14_0, .int .i64 10, .int .i64 32] h_2 fun v_1 h_3 =>
 ∃ t20_0 t20_1, v_1 = .tuple #[.int .u64 t20_0, t20_1] ∧
 Cl F.strconv_ParseUint #[.string t14_1, .int .i64 10, .int .i64 32] h_3 fun v_2 h_4 =>
 ∃ t25_0 t25_1, v_2 = .tuple #[.int .u64 t25_0, t25_1] ∧
 NewP h_4 (.cells #[.bool false, .int .u64 0, .int .u64 0, .string (⟨#[]⟩ : ByteArray), .string (⟨#[]⟩ : ByteArray)] T.eid_Eid) fun b_1 h_5 =>
 eid_Eid.ST h_5 ⟨b_1, 0, none⟩ true t20_0 t25_0 (⟨#[]⟩ : ByteArray) (⟨#[]⟩ : ByteArray) fun h_6 =>
 eid_Eid.LD h_6 ⟨b_1, 0, none⟩ fun t31_0 t31_1 t31_2 t31_3 t31_4 =>
 if t14_2 = true then
 ∃ (eq : Bool), EqV Tryz.prog T.error (t20_1) (.nilIface) eq ∧
 if eq = true then
 ∃ (eq_1 : Bool), EqV Tryz.prog T.error (t25_1) (.nilIface) eq_1 ∧
 if eq_1 = true then
 eid_Eid.LD h_6 ⟨b_1, 0, none⟩ fun t42_0 t42_1 t42_2 t42_3 t42_4 =>
 Cl F.eid_Right #[.agg #[.bool t42_0, .int .u64 t42_1, .int .u64 t42_2, .string t42_3, .string t42_4]] h_6 fun v_3 h_7 =>
 ∃ t43, v_3 = .bool t43 ∧
 heldL ⟨b_1, 0, none⟩ [.bool t31_0, .int .u64 t31_1, .int .u64 t31_2, .string t31_3, .string t31_4] 0 h_7 ∧
 if t43 = true then
 Cl F.strconv_FormatUint #[.int .u64 t20_0, .int .i64 10] h_7 fun v_4 h_8 =>
 ∃ t47, v_4 = .string t47 ∧
 heldL ⟨b_1, 0, none⟩ [.bool t31_0, .int .u64 t31_1, .int .u64 t31_2, .string t31_3, .string t31_4] 0 h_8 ∧
 if (t47.toList == t14_0.toList) = true then
 Cl F.strconv_FormatUint #[.int .u64 t25_0, .int .i64 10] h_8 fun v_5 h_9 =>
 ∃ t53, v_5 = .string t53 ∧
 heldL ⟨b_1, 0, none⟩ [.bool t31_0, .int .u64 t31_1, .int .u64 t31_2, .string t31_3, .string t31_4] 0 h_9 ∧
 eid_Eid.ST h_9 ⟨b, 0, none⟩ t31_0 t31_1 t31_2 t31_3 t31_4 fun h_10 =>
 eid_Eid.LD h_10 ⟨b, 0, none⟩ fun r_0 r_1 r_2 r_3 r_4 =>
 R (.tuple #[.agg #[.bool r_0, .int .u64 r_1, .int .u64 r_2, .string r_3, .string r_4], .bool (t53.toList == t14_1.toList)]) h_10
 else
 eid_Eid.ST h_8 ⟨b, 0, none⟩ t31_0 t31_1 t31_2 t31_3 t31_4 fun h_11 =>
 eid_Eid.LD h_11 ⟨b, 0, none⟩ fun r_0_1 r_1_1 r_2_1 r_3_1 r_4_1 =>
 R (.tuple #[.agg #[.bool r_0_1, .int .u64 r_1_1, .int .u64 r_2_1, .string r_3_1, .string r_4_1], .bool false]) h_11
 else
 eid_Eid.ST h_7 ⟨b, 0, none⟩ t31_0 t31_1 t31_2 t31_3 t31_4 fun h_12 =>
 eid_Eid.LD h_12 ⟨b, 0, none⟩ fun r_0_2 r_1_2 r_2_2 r_3_2 r_4_2 =>
 R (.tuple #[.agg #[.bool r_0_2, .int .u64 r_1_2, .int .u64 r_2_2, .string r_3_2, .string r_4_2], .bool false]) h_12
 else
 eid_Eid.ST h_6 ⟨b, 0, none⟩ t31_0 t31_1 t31_2 t31_3 t31_4 fun h_13 =>
 eid_Eid.LD h_13 ⟨b, 0, none⟩ fun r_0_3 r_1_3 r_2_3 r_3_3 r_4_3 =>
 R (.tuple #[.agg #[.bool r_0_3, .int .u64 r_1_3, .int .u64 r_2_3, .string r_3_3, .string r_4_3], .bool false]) h_13
 else
 eid_Eid.ST h_6 ⟨b, 0, none⟩ t31_0 t31_1 t31_2 t31_3 t31_4 fun h_14 =>
 eid_Eid.LD h_14 ⟨b, 0, none⟩ fun r_0_4 r_1_4 r_2_4 r_3_4 r_4_4 =>
 R (.tuple #[.agg #[.bool r_0_4, .int .u64 r_1_4, .int .u64 r_2_4, .string r_3_4, .string r_4_4], .bool false]) h_14
 else
 eid_Eid.ST h_6 ⟨b, 0, none⟩ t31_0 t31_1 t31_2 t31_3 t31_4 fun h_15 =>
 eid_Eid.LD h_15 ⟨b, 0, none⟩ fun r_0_5 r_1_5 r_2_5 r_3_5 r_4_5 =>
 R (.tuple #[.agg #[.bool r_0_5, .int .u64 r_1_5, .int .u64 r_2_5, .string r_3_5, .string r_4_5], .bool false]) h_15) : CallsH Tryz.prog F.eid_parseNumbers #[.string s] h R :=
 callsH_of_body (.seq .leaf (.seq .leaf (.seq .leaf (.seq .leaf (.seq .leaf (.seq (.plan (.op 0 (.op 1 (.op 2 (.op 3 (.op 4 (.op 5 (.op 6 (.op 7 (.op 8 (.op 9 (.op 10 (.op 11 (.op 12 (.op 13 (.op 14 (.op 15 (.op 17 (.op 16 (.op 18 (.op 19 (.op 20 (.op 21 (.op 23 (.op 22 (.op 24 (.op 25 (.op 26 (.op 27 .done))))))))))))))))))))))))))))) .leaf)))))) Tryz.func157 rfl rfl (Eq.mp (by kernel_rfl) hv)
theorem eid_parsePath.walk {s : ByteArray} (hv :
 NewP h (.cells #[.bool false, .int .u64 0, .int .u64 0, .string (⟨#[]⟩ : ByteArray), .string (⟨#[]⟩ : ByteArray)] T.eid_Eid) fun b h_1 =>
 Cl F.strings_CutPrefix #[.string s, .string (⟨#[47, 47]⟩ : ByteArray)] h_1 fun v h_2 =>
 ∃ t12_0 t12_1, v = .tuple #[.string t12_0, .bool t12_1] ∧
 Cl F.strings_Cut #[.string t12_0, .string (⟨#[47]⟩ : ByteArray)] h_2 fun v_1 h_3 =>
 ∃ t17_0 t17_1 t17_2, v_1 = .tuple #[.string t17_0, .string t17_1, .bool t17_2] ∧
 NewP h_3 (.cells #[.bool false, .int .u64 0, .int .u64 0, .string (⟨#[]⟩ : ByteArray), .string (⟨#[]⟩ : ByteArray)] T.eid_Eid) fun b_1 h_4 =>
 eid_Eid.ST h_4 ⟨b_1, 0, none⟩ false 0 0 t17_0 t17_1 fun h_5 =>
 eid_Eid.LD h_5 ⟨b_1, 0, none⟩ fun t24_0 t24_1 t24_2 t24_3 t24_4 =>
 if t12_1 = true then
 if t17_2 = true then
 if (!(t17_0.toList == (⟨#[]⟩ : ByteArray).toList)) = true then
 eid_Eid.LD h_5 ⟨b_1, 0, none⟩ fun t34_0 t34_1 t34_2 t34_3 t34_4 =>
 Cl F.eid_Right #[.agg #[.bool t34_0, .int .u64 t34_1, .int .u64 t34_2, .string t34_3, .string t34_4]] h_5 fun v_2 h_6 =>
 ∃ t35, v_2 = .bool t35 ∧
 heldL ⟨b_1, 0, none⟩ [.bool t24_0, .int .u64 t24_1, .int .u64 t24_2, .string t24_3, .string t24_4] 0 h_6 ∧
 eid_Eid.ST h_6 ⟨b, 0, none⟩ t24_0 t24_1 t24_2 t24_3 t24_4 fun h_7 =>
 eid_Eid.LD h_7 ⟨b, 0, none⟩ fun r_0 r_1 r_2 r_3 r_4 =>
 R (.tuple #[.agg #[.bool r_0, .int .u64 r_1, .int .u64 r_2, .string r_3, .string r_4], .bool t35]) h_7
 else
 eid_Eid.ST h_5 ⟨b, 0, none⟩ t24_0 t24_1 t24_2 t24_3 t24_4 fun h_8 =>
 eid_Eid.LD h_8 ⟨b, 0, none⟩ fun r_0_1 r_1_1 r_2_1 r_3_1 r_4_1 =>
 R (.tuple #[.agg #[.bool r_0_1, .int .u64 r_1_1, .int .u64 r_2_1, .string r_3_1, .string r_4_1], .bool false]) h_8
 else
 eid_Eid.ST h_5 ⟨b, 0, none⟩ t24_0 t24_1 t24_2 t24_3 t24_4 fun h_9 =>
 eid_Eid.LD h_9 ⟨b, 0, none⟩ fun r_0_2 r_1_2 r_2_2 r_3_2 r_4_2 =>
 R (.tuple #[.agg #[.bool r_0_2, .int .u64 r_1_2, .int .u64 r_2_2, .string r_3_2, .string r_4_2], .bool false]) h_9
 else
 eid_Eid.ST h_5 ⟨b, 0, none⟩ t24_0 t24_1 t24_2 t24_3 t24_4 fun h_10 =>
 eid_Eid.LD h_10 ⟨b, 0, none⟩ fun r_0_3 r_1_3 r_2_3 r_3_3 r_4_3 =>
 R (.tuple #[.agg #[.bool r_0_3, .int .u64 r_1_3, .int .u64 r_2_3, .string r_3_3, .string r_4_3], .bool false]) h_10) : CallsH Tryz.prog F.eid_parsePath #[.string s] h R :=
 callsH_of_body (.seq .leaf (.seq .leaf (.seq .leaf (.seq .leaf (.seq (.plan (.op 0 (.op 1 (.op 2 (.op 3 (.op 4 (.op 5 (.op 6 (.op 7 (.op 8 (.op 9 (.op 10 (.op 11 (.op 12 (.op 13 (.op 14 .done)))))))))))))))) .leaf))))) Tryz.func158 rfl rfl (Eq.mp (by kernel_rfl) hv)
end Go.Proofs.YtgccegnmggjkjaaGreatDoor
set_option maxRecDepth 100000
namespace Go.Proofs.YtgccegnmggjkjaaGreatDoor
open Go.Den
namespace Eid
variable {h h' : Heap} {R : Value → Heap → Prop}
theorem index_one (c : UInt8) (b : List UInt8) : ∀ a : List UInt8, c ∉ a → Lib.index (a ++ c :: b) [c] = (a.length : Int)
  | [], _ => by
    show Lib.index (c :: b) [c] = 0
    unfold Lib.index
    simp [List.isPrefixOf]
  | x :: a, h => by
    have hx : ¬ c = x := fun e => h (by rw [e]; simp)
    have ih := index_one c b a (fun hh => h (List.mem_cons_of_mem _ hh))
    show Lib.index (x :: (a ++ c :: b)) [c] = _
    unfold Lib.index
    rw [ih]
    have h1 : [c].isPrefixOf (x :: (a ++ c :: b)) = false := by simp [List.isPrefixOf, hx]
    rw [h1]
    simp only [Bool.false_eq_true, if_false]
    rw [if_neg (by simp only [beq_iff_eq]; omega), List.length_cons]; omega
theorem cut_one (c : UInt8) (a b : List UInt8) (h : c ∉ a) : Lib.cut (a ++ c :: b) [c] = (a, b, true) := by
  unfold Lib.cut
  rw [index_one c b a h, if_pos (by omega), Int.toNat_natCast, List.take_left]
  congr 2
  show (a ++ c :: b).drop (a.length + 1) = b
  rw [← List.drop_drop, List.drop_left]; rfl
theorem dec_digits : ∀ (u : Nat), ∀ c ∈ Lib.decDigits u, 48 ≤ c.toNat ∧ c.toNat ≤ 57 := by
  intro u
  induction u using Nat.strongRecOn with
  | _ u ih =>
    intro c hc
    rw [Lib.decDigits] at hc
    split at hc
    · rw [List.mem_singleton] at hc
      subst hc
      rw [UInt8.toNat_ofNat']; omega
    · rcases List.mem_append.1 hc with hc | hc
      · exact ih (u / 10) (by omega) c hc
      · rw [List.mem_singleton] at hc
        subst hc
        rw [UInt8.toNat_ofNat']; omega
theorem parse_snoc {M a : Nat} {c : UInt8} : ∀ (l : List UInt8) (acc : Nat), Lib.parseUintM M acc l = .ok a → Lib.parseUintM M acc (l ++ [c]) = Lib.parseUintM M a [c]
  | [], acc, h => by
    unfold Lib.parseUintM at h
    cases h; rfl
  | x :: l, acc, h => by
    rw [List.cons_append]
    unfold Lib.parseUintM at h
    conv => lhs; unfold Lib.parseUintM
    split at h
    · rename_i hx
      rw [if_pos hx]
      split at h
      · cases h
      · rename_i h1
        rw [if_neg h1]
        split at h
        · cases h
        · rename_i h2
          rw [if_neg h2]
          exact parse_snoc l _ h
    · cases h
theorem parse_dec {M : Nat} (hM : M ≤ 4294967295) : ∀ u, u ≤ M → Lib.parseUintM M 0 (Lib.decDigits u) = .ok u := by
  intro u
  induction u using Nat.strongRecOn with
  | _ u ih =>
    intro hu
    have one : ∀ (a d : Nat), d < 10 → a * 10 + d ≤ M → Lib.parseUintM M a [UInt8.ofNat (48 + d)] = .ok (a * 10 + d) := fun a d hd ha => by
      have e : (UInt8.ofNat (48 + d)).toNat = 48 + d := by rw [UInt8.toNat_ofNat']; omega
      unfold Lib.parseUintM
      rw [e, if_pos (by omega), if_neg (by omega), if_neg (by omega)]
      unfold Lib.parseUintM
      congr 1
      omega
    rw [Lib.decDigits]
    split
    · rename_i h
      have := one 0 u h (by omega)
      simpa using this
    · rw [parse_snoc _ 0 (ih (u / 10) (by omega) (by omega)), one (u / 10) (u % 10) (by omega) (by omega)]
      congr 1
      omega
theorem parseB_dec {u : Nat} (hu : u ≤ 4294967295) : Lib.parseUintB 32 (Lib.decDigits u) = .ok u := by
  unfold Lib.parseUintB
  rw [if_neg (by intro e; have := congrArg List.length e; rw [Lib.decDigits_length] at this; have := Lib.nDigits_pos u; simp at *; omega)]
  exact parse_dec (by decide) u hu
theorem data_str (l : List UInt8) : (str l).data.toList = l := by unfold str; simp
theorem eta_str (l : List UInt8) : (⟨l.toArray⟩ : ByteArray) = str l := rfl
theorem dec_str (u : Nat) : (⟨(Lib.decDigits u).toArray⟩ : ByteArray) = str (Lib.decDigits u) := rfl
theorem nilI : EqV Tryz.prog T.error .nilIface .nilIface true := fun h => by kernel_rfl
theorem trim_app (p r : List UInt8) : Lib.trimPrefix (p ++ r) p = r ∧ Lib.hasPrefix (p ++ r) p = true := by
  have h1 : Lib.hasPrefix (p ++ r) p = true := by
    unfold Lib.hasPrefix
    rw [List.isPrefixOf_iff_prefix]; exact List.prefix_append p r
  refine ⟨?_, h1⟩
  unfold Lib.trimPrefix
  rw [if_pos h1, List.drop_left]
theorem numbers_ok {x : Ev} (hi : x.ipn = true) (hr : rightE x = true) (w1 : 0 ≤ x.svc) (tb : Num.Tab h) (mx : Num.Mx h) (hk : ∀ h', Fr (fun _ => False) h h' → R (.tuple #[ev5 x, .bool true]) h') : CallsH Tryz.prog F.eid_parseNumbers #[.string (str (Lib.decDigits x.node.toNat ++ [46] ++ Lib.decDigits x.svc.toNat))] h R := by
  have hz : x ≠ .zero := fun e => by rw [e] at hi; cases hi
  have hr' := hr
  unfold rightE at hr'
  rw [if_neg hz, if_pos hi] at hr'
  have hr' := of_decide_eq_true hr'
  have l1 := dec_len (u := x.node.toNat) (by omega)
  have l2 := dec_len (u := x.svc.toNat) (by omega)
  have hd : (46 : UInt8) ∉ Lib.decDigits x.node.toNat := fun hm => by
    have := dec_digits _ _ hm
    have e : (46 : UInt8).toNat = 46 := rfl
    omega
  have ec : Lib.cut (str (Lib.decDigits x.node.toNat ++ [46] ++ Lib.decDigits x.svc.toNat)).data.toList (⟨#[46]⟩ : ByteArray).data.toList = (Lib.decDigits x.node.toNat, Lib.decDigits x.svc.toNat, true) := by
    rw [data_str, List.append_assoc]
    exact cut_one 46 _ _ hd
  refine eid_parseNumbers.walk (newP_of ?_)
  have f1 : Fr (fun _ => False) h (h.push (.cells #[.bool false, .int .u64 0, .int .u64 0, .string ⟨#[]⟩, .string ⟨#[]⟩] T.eid_Eid)) := Fr.push _ _
  have hb1 : eid_Eid.at (h.push (.cells #[.bool false, .int .u64 0, .int .u64 0, .string ⟨#[]⟩, .string ⟨#[]⟩] T.eid_Eid)) h.size false 0 0 ⟨#[]⟩ ⟨#[]⟩ := push_new
  generalize h.push (.cells #[.bool false, .int .u64 0, .int .u64 0, .string ⟨#[]⟩, .string ⟨#[]⟩] T.eid_Eid) = h1 at f1 hb1 ⊢
  refine Num.cut_ok (mx.on f1) (by rw [str_size]; simp; omega) ⟨_, _, _, rfl, ?_⟩
  rw [ec]
  dsimp only
  rw [dec_str, dec_str]
  refine Num.parse_ok (u := x.node.toNat) (by rw [str_size]; omega) (by rw [data_str]; exact parseB_dec (by omega)) fun h2 f2 => ⟨_, _, rfl, Num.parse_ok (u := x.svc.toNat) (by rw [str_size]; omega) (by rw [data_str]; exact parseB_dec (by omega)) fun h3 f3 => ⟨_, _, rfl, eid_Eid.new fun b4 h4 e4 hb4 f4 => eid_Eid.ld hb4 ?_⟩⟩
  have n1 : ((x.node.toNat : Nat) : Int) = x.node := by omega
  have n2 : ((x.svc.toNat : Nat) : Int) = x.svc := by omega
  rw [n1, n2] at hb4
  rw [n1, n2, if_pos rfl]
  refine ⟨true, nilI, ?_⟩
  rw [if_pos rfl]
  refine ⟨true, nilI, ?_⟩
  rw [if_pos rfl]
  have ex : (⟨true, x.node, x.svc, ⟨#[]⟩, ⟨#[]⟩⟩ : Ev) = x := Ev.ext' hi.symm rfl rfl hr'.1.symm hr'.2.1.symm
  have F3 := f1.tt (f2.tt (f3.tt f4))
  refine eid_Eid.ld hb4 (right_ok ⟨true, x.node, x.svc, ⟨#[]⟩, ⟨#[]⟩⟩ fun h5 f5 => ⟨_, rfl, eid_Eid.held (f5.get hb4 id), ?_⟩)
  rw [ex, if_pos hr]
  have fm := Num.formatUint_ok (R := fun v_4 h_8 => ∃ (t47 : ByteArray), v_4 = .string t47 ∧
    heldL ⟨b4, 0, none⟩ [.bool true, .int .u64 x.node, .int .u64 x.svc, .string ⟨#[]⟩, .string ⟨#[]⟩] 0 h_8 ∧
    if (t47.toList == (str (Lib.decDigits x.node.toNat)).toList) = true then
      CallsH Tryz.prog F.strconv_FormatUint #[.int .u64 x.svc, .int .i64 10] h_8 fun v_5 h_9 =>
      ∃ (t53 : ByteArray), v_5 = .string t53 ∧
      heldL ⟨b4, 0, none⟩ [.bool true, .int .u64 x.node, .int .u64 x.svc, .string ⟨#[]⟩, .string ⟨#[]⟩] 0 h_9 ∧
      eid_Eid.ST h_9 ⟨h.size, 0, none⟩ true x.node x.svc ⟨#[]⟩ ⟨#[]⟩ fun h_10 =>
      eid_Eid.LD h_10 ⟨h.size, 0, none⟩ fun r_0 r_1 r_2 r_3 r_4 =>
      R (.tuple #[.agg #[.bool r_0, .int .u64 r_1, .int .u64 r_2, .string r_3, .string r_4], .bool (t53.toList == (str (Lib.decDigits x.svc.toNat)).toList)]) h_10
    else
      eid_Eid.ST h_8 ⟨h.size, 0, none⟩ true x.node x.svc ⟨#[]⟩ ⟨#[]⟩ fun h_11 =>
      eid_Eid.LD h_11 ⟨h.size, 0, none⟩ fun r_0_1 r_1_1 r_2_1 r_3_1 r_4_1 =>
      R (.tuple #[.agg #[.bool r_0_1, .int .u64 r_1_1, .int .u64 r_2_1, .string r_3_1, .string r_4_1], .bool false]) h_11) (h := h5) (u := x.node.toNat) (tb.on (F3.tt f5)) (by omega) fun h6 f6 => by
    refine ⟨_, rfl, eid_Eid.held ((f5.tt f6).get hb4 id), ?_⟩
    rw [dec_str, if_pos (by simp)]
    have hb6 := ((f2.tt (f3.tt f4)).tt (f5.tt f6)).get hb1 id
    have fm2 := Num.formatUint_ok (R := fun v_5 h_9 => ∃ (t53 : ByteArray), v_5 = .string t53 ∧
      heldL ⟨b4, 0, none⟩ [.bool true, .int .u64 x.node, .int .u64 x.svc, .string ⟨#[]⟩, .string ⟨#[]⟩] 0 h_9 ∧
      eid_Eid.ST h_9 ⟨h.size, 0, none⟩ true x.node x.svc ⟨#[]⟩ ⟨#[]⟩ fun h_10 =>
      eid_Eid.LD h_10 ⟨h.size, 0, none⟩ fun r_0 r_1 r_2 r_3 r_4 =>
      R (.tuple #[.agg #[.bool r_0, .int .u64 r_1, .int .u64 r_2, .string r_3, .string r_4], .bool (t53.toList == (str (Lib.decDigits x.svc.toNat)).toList)]) h_10) (h := h6) (u := x.svc.toNat) (tb.on (F3.tt (f5.tt f6))) (by omega) fun h7 f7 => by
      refine ⟨_, rfl, eid_Eid.held ((f5.tt (f6.tt f7)).get hb4 id), eid_Eid.set (f7.get hb6 id) fun h8 a8 s8 o8 => eid_Eid.ld a8 ?_⟩
      rw [dec_str]
      have eb : ((str (Lib.decDigits x.svc.toNat)).toList == (str (Lib.decDigits x.svc.toNat)).toList) = true := by simp
      rw [eb]
      have K := hk h8 ((F3.tt (f5.tt (f6.tt f7))).fresh (S := fun y => y = h.size) ⟨by omega, fun y _ hn => o8 y hn⟩ (fun y e => Nat.le_of_eq e.symm))
      unfold ev5 at K
      rw [← ex] at K
      exact K
    rw [n2] at fm2
    exact fm2
  rw [n1] at fm
  exact fm
theorem plain_no {s : ByteArray} (hp : plainB 45 s = true) : (47 : UInt8) ∉ s.data.toList := fun hm => by
  have := List.all_eq_true.1 hp _ hm
  revert this
  decide
theorem parsePath_ok {x : Ev} (hi : x.ipn = false) (hz : x ≠ .zero) (hr : rightE x = true) (mx : Num.Mx h) (hk : ∀ h', Fr (fun _ => False) h h' → R (.tuple #[ev5 x, .bool true]) h') : CallsH Tryz.prog F.eid_parsePath #[.string (str ([47, 47] ++ x.host.data.toList ++ [47] ++ x.dem.data.toList))] h R := by
  have hr' := hr
  unfold rightE at hr'
  rw [if_neg hz, if_neg (by rw [hi]; decide)] at hr'
  simp only [Bool.and_eq_true, decide_eq_true_eq] at hr'
  obtain ⟨⟨n0, s0, q1, q2, q3⟩, p1, p2⟩ := hr'
  have l1 := data_len x.host
  have l2 := data_len x.dem
  have et : Lib.trimPrefix (str ([47, 47] ++ x.host.data.toList ++ [47] ++ x.dem.data.toList)).data.toList (⟨#[47, 47]⟩ : ByteArray).data.toList = x.host.data.toList ++ [47] ++ x.dem.data.toList ∧ Lib.hasPrefix (str ([47, 47] ++ x.host.data.toList ++ [47] ++ x.dem.data.toList)).data.toList (⟨#[47, 47]⟩ : ByteArray).data.toList = true := by
    rw [data_str, List.append_assoc, List.append_assoc]
    have := trim_app [47, 47] (x.host.data.toList ++ ([47] ++ x.dem.data.toList))
    rw [← List.append_assoc x.host.data.toList] at this ⊢
    exact this
  have ec : Lib.cut (x.host.data.toList ++ [47] ++ x.dem.data.toList) (⟨#[47]⟩ : ByteArray).data.toList = (x.host.data.toList, x.dem.data.toList, true) := by
    rw [List.append_assoc]; exact cut_one 47 _ _ (plain_no p1)
  refine eid_parsePath.walk (newP_of ?_)
  have f1 : Fr (fun _ => False) h (h.push (.cells #[.bool false, .int .u64 0, .int .u64 0, .string ⟨#[]⟩, .string ⟨#[]⟩] T.eid_Eid)) := Fr.push _ _
  have hb1 : eid_Eid.at (h.push (.cells #[.bool false, .int .u64 0, .int .u64 0, .string ⟨#[]⟩, .string ⟨#[]⟩] T.eid_Eid)) h.size false 0 0 ⟨#[]⟩ ⟨#[]⟩ := push_new
  generalize h.push (.cells #[.bool false, .int .u64 0, .int .u64 0, .string ⟨#[]⟩, .string ⟨#[]⟩] T.eid_Eid) = h1 at f1 hb1 ⊢
  refine Num.prefix_ok ⟨_, _, rfl, ?_⟩
  rw [et.1, et.2, eta_str]
  refine Num.cut_ok (mx.on f1) (by rw [str_size]; simp; omega) ⟨_, _, _, rfl, ?_⟩
  rw [data_str, ec]
  dsimp only
  have ea : (⟨x.host.data.toList.toArray⟩ : ByteArray) = x.host := rfl
  have ed : (⟨x.dem.data.toList.toArray⟩ : ByteArray) = x.dem := rfl
  rw [ea, ed]
  refine eid_Eid.new fun b4 h4 e4 hb4 f4 => eid_Eid.ld hb4 ?_
  have hne : ¬ x.host = ⟨#[]⟩ := fun e => by rw [e] at q1; revert q1; decide
  rw [if_pos rfl, if_pos rfl, nil_eq, if_pos (by simpa using hne)]
  have ex : (⟨false, 0, 0, x.host, x.dem⟩ : Ev) = x := Ev.ext' hi.symm n0.symm s0.symm rfl rfl
  refine eid_Eid.ld hb4 (right_ok ⟨false, 0, 0, x.host, x.dem⟩ fun h5 f5 => ⟨_, rfl, eid_Eid.held (f5.get hb4 id), eid_Eid.set ((f4.tt f5).get hb1 id) fun h8 a8 s8 o8 => eid_Eid.ld a8 ?_⟩)
  rw [ex, hr]
  have K := hk h8 ((f1.tt (f4.tt f5)).fresh (S := fun y => y = h.size) ⟨by omega, fun y _ hn => o8 y hn⟩ (fun y e => Nat.le_of_eq e.symm))
  unfold ev5 at K
  rw [← ex] at K
  exact K
theorem parse_ok {x : Ev} (hr : rightE x = true) (w1 : 0 ≤ x.svc) (hz : x ≠ .zero) (tb : Num.Tab h) (mx : Num.Mx h) (hk : ∀ h', Fr (fun _ => False) h h' → R (.tuple #[ev5 x, .int .i64 0]) h') : CallsH Tryz.prog F.eid_Parse #[.string (str (textE x))] h R := by
  refine eid_Parse.walk (newP_of ?_)
  have f1 : Fr (fun _ => False) h (h.push (.cells #[.bool false, .int .u64 0, .int .u64 0, .string ⟨#[]⟩, .string ⟨#[]⟩] T.eid_Eid)) := Fr.push _ _
  have hb1 : eid_Eid.at (h.push (.cells #[.bool false, .int .u64 0, .int .u64 0, .string ⟨#[]⟩, .string ⟨#[]⟩] T.eid_Eid)) h.size false 0 0 ⟨#[]⟩ ⟨#[]⟩ := push_new
  generalize h.push (.cells #[.bool false, .int .u64 0, .int .u64 0, .string ⟨#[]⟩, .string ⟨#[]⟩] T.eid_Eid) = h1 at f1 hb1 ⊢
  have lb1 := lt_of_get hb1
  have tne : ¬ ((str (textE x)).toList == (⟨#[100, 116, 110, 58, 110, 111, 110, 101]⟩ : ByteArray).toList) = true := by
    rw [beq_iff_eq, str_list, toList_data]
    unfold textE
    rw [if_neg hz]
    split
    · intro e; simp at e
    · intro e; simp at e
  rw [if_neg tne]
  refine newP_of ?_
  have f2 : Fr (fun _ => False) h1 (h1.push (.cells #[.bool false, .int .u64 0, .int .u64 0, .string ⟨#[]⟩, .string ⟨#[]⟩] T.eid_Eid)) := Fr.push _ _
  have hb2 : eid_Eid.at (h1.push (.cells #[.bool false, .int .u64 0, .int .u64 0, .string ⟨#[]⟩, .string ⟨#[]⟩] T.eid_Eid)) h1.size false 0 0 ⟨#[]⟩ ⟨#[]⟩ := push_new
  generalize h1.push (.cells #[.bool false, .int .u64 0, .int .u64 0, .string ⟨#[]⟩, .string ⟨#[]⟩] T.eid_Eid) = h2 at f2 hb2 ⊢
  have lb2 := lt_of_get hb2
  have F2 := f1.tt f2
  have hb12 := f2.get hb1 id
  refine Num.prefix_ok ⟨_, _, rfl, JoinP.of fun J hJ => ?_⟩
  have done : ∀ g, Fr (fun _ => False) h2 g → ∀ g', eid_Eid.at g' h1.size x.ipn x.node x.svc x.host x.dem → g'.size = g.size → (∀ y, y ≠ h1.size → g'[y]? = g[y]?) → J true g' := fun g fg g' ag sg og => by
    subst hJ
    dsimp only
    rw [if_neg (by decide)]
    have z1 := f1.1
    have Fg : Fr (fun _ => False) h g' := (F2.tt fg).fresh (S := fun y => y = h1.size) ⟨by omega, fun y _ hn => og y hn⟩ (fun y e => by omega)
    have hbg : eid_Eid.at g' h.size false 0 0 ⟨#[]⟩ ⟨#[]⟩ := by
      have := fg.get hb12 id
      show g'[h.size]? = _
      rw [og h.size (by omega)]; exact this
    refine eid_Eid.ld ag (eid_Eid.set hbg fun h8 a8 s8 o8 => eid_Eid.ld a8 ?_)
    exact hk h8 (Fg.fresh (S := fun y => y = h.size) ⟨by omega, fun y _ hn => o8 y hn⟩ (fun y e => Nat.le_of_eq e.symm))
  rw [data_str]
  by_cases hi : x.ipn = true
  · have ht : textE x = [105, 112, 110, 58] ++ (Lib.decDigits x.node.toNat ++ [46] ++ Lib.decDigits x.svc.toNat) := by
      unfold textE; rw [if_neg hz, if_pos hi]; simp
    have tr := trim_app [105, 112, 110, 58] (Lib.decDigits x.node.toNat ++ [46] ++ Lib.decDigits x.svc.toNat)
    rw [← ht] at tr
    have e1 : (⟨#[105, 112, 110, 58]⟩ : ByteArray).data.toList = [105, 112, 110, 58] := rfl
    rw [e1, tr.1, tr.2, if_pos rfl, eta_str]
    refine numbers_ok hi hr w1 (tb.on F2) (mx.on F2) fun h3 f3 => ⟨_, _, _, _, _, _, rfl, eid_Eid.set (f3.get hb2 id) fun h4 a4 s4 o4 => ?_⟩
    exact done h3 f3 h4 a4 s4 o4
  · have hi' : x.ipn = false := by simpa using hi
    have ht : textE x = [100, 116, 110, 58] ++ ([47, 47] ++ x.host.data.toList ++ [47] ++ x.dem.data.toList) := by
      unfold textE; rw [if_neg hz, if_neg hi]
    have hp : Lib.hasPrefix (textE x) (⟨#[105, 112, 110, 58]⟩ : ByteArray).data.toList = false := by
      rw [ht]; unfold Lib.hasPrefix; rfl
    rw [hp, if_neg (by decide)]
    refine Num.prefix_ok ⟨_, _, rfl, JoinP.of fun J1 hJ1 => ?_⟩
    have tr := trim_app [100, 116, 110, 58] ([47, 47] ++ x.host.data.toList ++ [47] ++ x.dem.data.toList)
    rw [← ht] at tr
    have e1 : (⟨#[100, 116, 110, 58]⟩ : ByteArray).data.toList = [100, 116, 110, 58] := rfl
    rw [data_str, e1, tr.1, tr.2, if_pos rfl, eta_str]
    refine parsePath_ok hi' hz hr (mx.on F2) fun h3 f3 => ⟨_, _, _, _, _, _, rfl, eid_Eid.set (f3.get hb2 id) fun h4 a4 s4 o4 => ?_⟩
    subst hJ1
    exact done h3 f3 h4 a4 s4 o4
end Eid
end Go.Proofs.YtgccegnmggjkjaaGreatDoor
set_option maxRecDepth 100000
set_option maxHeartbeats 4000000
namespace Go.Proofs.YtgccegnmggjkjaaGreatDoor
open Go.Den
variable {h : Heap} {R : Value → Heap → Prop}
theorem copies_Load.walk {l_p : Option Addr} {l_l l_c : Nat} (hv :
 if (((l_l : Nat) : Int) == 0) = true then
 R (.tuple #[.pointer none, .int .i64 3]) h
 else
 Cl F.copies_New #[] h fun v h_1 =>
 ∃ t15, v = .pointer t15 ∧
 ((0 : Int) ≤ 0 ∧ 0 < ((l_l : Nat) : Int)) ∧
 onSome l_p fun a =>
 ∃ t18_p t18_l t18_c, hcell h_1 (a.add (Int.toNat 0 * 1)) = some (.slice t18_p t18_l t18_c) ∧
 Cl F.fields_Read #[.slice t18_p t18_l t18_c] h_1 fun v_1 h_2 =>
 ∃ t19, v_1 = .pointer t19 ∧
 Cl F.fields_Reader_Int #[.pointer t19] h_2 fun v_2 h_3 =>
 ∃ t25, v_2 = .int .i64 t25 ∧
 Cl F.fields_Reader_Int #[.pointer t19] h_3 fun v_3 h_4 =>
 ∃ t27, v_3 = .int .i64 t27 ∧
 Cl F.fields_Reader_Int #[.pointer t19] h_4 fun v_4 h_5 =>
 ∃ t29, v_4 = .int .i64 t29 ∧
 Cl F.fields_Reader_Int #[.pointer t19] h_5 fun v_5 h_6 =>
 ∃ t31, v_5 = .int .i64 t31 ∧
 onSome t15 fun a_1 =>
 StoreP h_6 (a_1.add 1) (.int .i64 t25) fun h_7 =>
 onSome t15 fun a_2 =>
 StoreP h_7 (a_2.add 2) (.int .i64 t27) fun h_8 =>
 onSome t15 fun a_3 =>
 StoreP h_8 (a_3.add 3) (.int .i64 t29) fun h_9 =>
 onSome t15 fun a_4 =>
 StoreP h_9 (a_4.add 4) (.int .i64 t31) fun h_10 =>
 Cl F.fields_Reader_Int #[.pointer t19] h_10 fun v_6 h_11 =>
 ∃ t41, v_6 = .int .i64 t41 ∧
 JoinP (fun (t82 : Bool) (h_12 : Heap) =>
 if t82 = true then
 R (.tuple #[.pointer none, .int .i64 3]) h_12
 else
 ((0 : Int) ≤ 1 ∧ 1 ≤ ((l_l : Nat) : Int)) ∧
 ∃ (I : Int → Int → Heap → Prop) (mu : Int → Int → Heap → Nat), I 0 0 h_12 ∧ ∀ (last : Int) (t86 : Int) (h_13 : Heap), I last t86 h_13 →
 if (decide (t86 < ((l_l - (Int.toNat 1) : Nat) : Int))) = true then
 ((0 : Int) ≤ t86 ∧ t86 < ((l_l - (Int.toNat 1) : Nat) : Int)) ∧
 onSome (slBase l_p l_c (Int.toNat 1) 1) fun a_5 =>
 ∃ t89_p t89_l t89_c, hcell h_13 (a_5.add (Int.toNat t86 * 1)) = some (.slice t89_p t89_l t89_c) ∧
 Cl F.copies_Table_load #[.pointer t15, .slice t89_p t89_l t89_c, .int .i64 last] h_13 fun v_7 h_14 =>
 ∃ t94_0 t94_1, v_7 = .tuple #[.int .i64 t94_0, .bool t94_1] ∧
 if (!t94_1) = true then
 R (.tuple #[.pointer none, .int .i64 3]) h_14
 else
 (I t94_0 (IntKind.wrap .i64 (t86 + 1)) h_14 ∧ mu t94_0 (IntKind.wrap .i64 (t86 + 1)) h_14 < mu last t86 h_13)
 else
 R (.tuple #[.pointer t15, .int .i64 0]) h_13)
 (fun J =>
 Cl F.fields_Reader_End #[.pointer t19] h_11 fun v_8 h_15 =>
 ∃ t43, v_8 = .int .i64 t43 ∧
 if (t43 != 0) = true then
 J true h_15
 else
 if (t41 != (IntKind.wrap .i64 (((l_l : Nat) : Int) - 1))) = true then
 J true h_15
 else
 onSome t15 fun a_6 =>
 ∃ t56, hcell h_15 (a_6.add 1) = some (.int .i64 t56) ∧
 if (decide (t56 < 1)) = true then
 J true h_15
 else
 onSome t15 fun a_7 =>
 ∃ t63, hcell h_15 (a_7.add 1) = some (.int .i64 t63) ∧
 onSome t15 fun a_8 =>
 ∃ t68, hcell h_15 (a_8.add 2) = some (.int .i64 t68) ∧
 onSome t15 fun a_9 =>
 ∃ t72, hcell h_15 (a_9.add 3) = some (.int .i64 t72) ∧
 onSome t15 fun a_10 =>
 ∃ t77, hcell h_15 (a_10.add 4) = some (.int .i64 t77) ∧
 J ((IntKind.wrap .i64 (t63 - 1)) != (IntKind.wrap .i64 ((IntKind.wrap .i64 ((IntKind.wrap .i64 (t68 + t72)) + t77)) + t41))) h_15)) : CallsH Tryz.prog F.copies_Load #[.slice l_p l_l l_c] h R :=
 callsH_of_body (.seq .leaf (.seq (.seq .leaf (.cond (.seq .leaf .leaf) .leaf)) (.seq .leaf (.seq .leaf (.seq .leaf (.seq .leaf (.seq (.seq (.join [(82, .one (.bool))] (.plan (.op 0 (.op 1 (.op 2 (.op 3 (.op 4 (.op 5 (.op 6 (.op 7 (.op 8 (.op 9 (.op 10 (.op 11 (.op 12 (.op 13 (.op 14 (.op 15 (.op 16 (.op 17 (.op 18 (.op 19 (.op 20 (.op 21 (.op 22 (.op 23 (.op 24 (.op 25 (.op 26 (.op 27 (.op 28 (.op 29 (.op 30 (.op 31 (.op 32 (.op 33 (.op 34 (.op 35 (.op 36 (.op 37 (.op 38 (.op 39 (.op 40 .done))))))))))))))))))))))))))))))))))))))))))) (.cond (.seq .leaf .leaf) .leaf)) (.seq .leaf (.seq (.seq .leaf (.block (.loop [(7, .one (.int .i64)), (86, .one (.int .i64))] (.seq .leaf (.seq (.cond .leaf .leaf) (.seq (.block (.seq .leaf (.seq .leaf (.seq (.seq .leaf (.cond (.seq .leaf .leaf) .leaf)) .leaf)))) .leaf)))))) (.seq .leaf .leaf)))))))))) Tryz.func38 rfl rfl (Eq.mp (by kernel_rfl) hv)
theorem copies_Table_load.walk {t : Nat} {b_p : Option Addr} {b_l b_c : Nat} {last : Int} (hv :
 Cl F.fields_Read #[.slice b_p b_l b_c] h fun v h_1 =>
 ∃ t12, v = .pointer t12 ∧
 Cl F.fields_Reader_Int #[.pointer t12] h_1 fun v_1 h_2 =>
 ∃ t14, v_1 = .int .i64 t14 ∧
 NewP h_2 (.cells #[.int .i64 t14, .bool false, .int .u64 0, .int .u64 0, .string (⟨#[]⟩ : ByteArray), .string (⟨#[]⟩ : ByteArray), .slice none 0 0, .int .u64 0, .int .i64 0, .int .u64 0] T.copies_Copy) fun b h_3 =>
 Cl F.fields_Reader_Text #[.pointer t12] h_3 fun v_2 h_4 =>
 ∃ t20_p t20_l t20_c, v_2 = .slice t20_p t20_l t20_c ∧
 ∃ (t21 : ByteArray), ConvV Tryz.prog T.s_uint8 T.string (.slice t20_p t20_l t20_c) h_4 t21 ∧
 Cl F.eid_Parse #[.string t21] h_4 fun v_3 h_5 =>
 ∃ t22_0_0 t22_0_1 t22_0_2 t22_0_3 t22_0_4 t22_1, v_3 = .tuple #[.agg #[.bool t22_0_0, .int .u64 t22_0_1, .int .u64 t22_0_2, .string t22_0_3, .string t22_0_4], .int .i64 t22_1] ∧
 eid_Eid.ST h_5 ⟨b, 1, none⟩ t22_0_0 t22_0_1 t22_0_2 t22_0_3 t22_0_4 fun h_6 =>
 Cl F.fields_Reader_Text #[.pointer t12] h_6 fun v_4 h_7 =>
 ∃ t32_p t32_l t32_c, v_4 = .slice t32_p t32_l t32_c ∧
 Cl F.fields_Reader_Num #[.pointer t12] h_7 fun v_5 h_8 =>
 ∃ t34, v_5 = .int .u64 t34 ∧
 Cl F.fields_Reader_Int #[.pointer t12] h_8 fun v_6 h_9 =>
 ∃ t36, v_6 = .int .i64 t36 ∧
 Cl F.fields_Reader_Num #[.pointer t12] h_9 fun v_7 h_10 =>
 ∃ t38, v_7 = .int .u64 t38 ∧
 StoreP h_10 ⟨b, 6, none⟩ (.slice t32_p t32_l t32_c) fun h_11 =>
 StoreP h_11 ⟨b, 7, none⟩ (.int .u64 t34) fun h_12 =>
 StoreP h_12 ⟨b, 8, none⟩ (.int .i64 t36) fun h_13 =>
 StoreP h_13 ⟨b, 9, none⟩ (.int .u64 t38) fun h_14 =>
 ∃ t50, hcell h_14 ⟨b, 8, none⟩ = some (.int .i64 t50) ∧
 JoinP (fun (t124 : Bool) (h_15 : Heap) =>
 if t124 = true then
 R (.tuple #[.int .i64 0, .bool false]) h_15
 else
 ∃ t128, hcell h_15 ⟨t, 0, none⟩ = some (.map t128) ∧
 ∃ t132, hcell h_15 ⟨b, 0, none⟩ = some (.int .i64 t132) ∧
 denSem Tryz.prog (Instr.mapUpdate T.m_int_p_copies_Copy (.map t128) (.int .i64 t132) (.pointer (some ⟨b, 0, none⟩))) h_15 fun _ h_16 =>
 ∃ t137, hcell h_16 ⟨t, 5, none⟩ = some (.pointer t137) ∧
 ∃ t141, hcell h_16 ⟨b, 0, none⟩ = some (.int .i64 t141) ∧
 ∃ t145, hcell h_16 ⟨b, 7, none⟩ = some (.int .u64 t145) ∧
 Cl F.alarm_Alarm_Set #[.pointer t137, .int .i64 t141, .int .u64 t145] h_16 fun v_8 h_17 =>
 ∃ t146, v_8 = .int .i64 t146 ∧
 JoinP (fun (h_18 : Heap) =>
 ∃ t164, hcell h_18 ⟨b, 0, none⟩ = some (.int .i64 t164) ∧
 R (.tuple #[.int .i64 t164, .bool true]) h_18)
 (fun J_1 =>
 if (decide (t50 > 0)) = true then
 ∃ t151, hcell h_17 ⟨t, 6, none⟩ = some (.pointer t151) ∧
 ∃ t155, hcell h_17 ⟨b, 0, none⟩ = some (.int .i64 t155) ∧
 ∃ t159, hcell h_17 ⟨b, 9, none⟩ = some (.int .u64 t159) ∧
 Cl F.alarm_Alarm_Set #[.pointer t151, .int .i64 t155, .int .u64 t159] h_17 fun v_9 h_19 =>
 ∃ t160, v_9 = .int .i64 t160 ∧
 J_1 h_19
 else
 J_1 h_17))
 (fun J =>
 Cl F.fields_Reader_End #[.pointer t12] h_14 fun v_10 h_20 =>
 ∃ t53, v_10 = .int .i64 t53 ∧
 if (t53 != 0) = true then
 J true h_20
 else
 ∃ t59, hcell h_20 ⟨b, 0, none⟩ = some (.int .i64 t59) ∧
 if (decide (t59 ≤ last)) = true then
 J true h_20
 else
 ∃ t67, hcell h_20 ⟨b, 0, none⟩ = some (.int .i64 t67) ∧
 ∃ t71, hcell h_20 ⟨t, 1, none⟩ = some (.int .i64 t71) ∧
 if (decide (t67 ≥ t71)) = true then
 J true h_20
 else
 eid_Eid.LD h_20 ⟨b, 1, none⟩ fun t78_0 t78_1 t78_2 t78_3 t78_4 =>
 ∃ t82_p t82_l t82_c, hcell h_20 ⟨b, 6, none⟩ = some (.slice t82_p t82_l t82_c) ∧
 ∃ t86, hcell h_20 ⟨b, 7, none⟩ = some (.int .u64 t86) ∧
 Cl F.copies_isCopy #[.agg #[.bool t78_0, .int .u64 t78_1, .int .u64 t78_2, .string t78_3, .string t78_4], .slice t82_p t82_l t82_c, .int .u64 t86] h_20 fun v_11 h_21 =>
 ∃ t87, v_11 = .bool t87 ∧
 hcell h_21 ⟨t, 1, none⟩ = some (.int .i64 t71) ∧
 hcell h_21 ⟨b, 0, none⟩ = some (.int .i64 t67) ∧
 hcell h_21 ⟨b, 0, none⟩ = some (.int .i64 t59) ∧
 if (!t87) = true then
 J true h_21
 else
 ∃ t94, hcell h_21 ⟨b, 9, none⟩ = some (.int .u64 t94) ∧
 if (decide (t94 > 1099511627776)) = true then
 J true h_21
 else
 if (!(decide (t50 > 0))) = true then
 ∃ t104, hcell h_21 ⟨b, 9, none⟩ = some (.int .u64 t104) ∧
 if (decide (t104 > 0)) = true then
 J true h_21
 else
 eid_Eid.LD h_21 ⟨b, 1, none⟩ fun t113_0 t113_1 t113_2 t113_3 t113_4 =>
 Cl F.copies_Table_of #[.pointer (some ⟨t, 0, none⟩), .agg #[.bool t113_0, .int .u64 t113_1, .int .u64 t113_2, .string t113_3, .string t113_4]] h_21 fun v_12 h_22 =>
 ∃ t114_p t114_l t114_c, v_12 = .slice t114_p t114_l t114_c ∧
 hcell h_22 ⟨b, 9, none⟩ = some (.int .u64 t104) ∧
 hcell h_22 ⟨b, 9, none⟩ = some (.int .u64 t94) ∧
 hcell h_22 ⟨t, 1, none⟩ = some (.int .i64 t71) ∧
 hcell h_22 ⟨b, 0, none⟩ = some (.int .i64 t67) ∧
 hcell h_22 ⟨b, 0, none⟩ = some (.int .i64 t59) ∧
 if (decide (((t114_l : Nat) : Int) ≥ 16)) = true then
 J true h_22
 else
 Cl F.copies_record #[.pointer (some ⟨b, 0, none⟩)] h_22 fun v_13 h_23 =>
 ∃ t120_p t120_l t120_c, v_13 = .slice t120_p t120_l t120_c ∧
 hcell h_23 ⟨b, 9, none⟩ = some (.int .u64 t104) ∧
 hcell h_23 ⟨b, 9, none⟩ = some (.int .u64 t94) ∧
 hcell h_23 ⟨t, 1, none⟩ = some (.int .i64 t71) ∧
 hcell h_23 ⟨b, 0, none⟩ = some (.int .i64 t67) ∧
 hcell h_23 ⟨b, 0, none⟩ = some (.int .i64 t59) ∧
 Cl F.bytes_Equal #[.slice t120_p t120_l t120_c, .slice b_p b_l b_c] h_23 fun v_14 h_24 =>
 ∃ t122, v_14 = .bool t122 ∧
 hcell h_24 ⟨b, 9, none⟩ = some (.int .u64 t104) ∧
 hcell h_24 ⟨b, 9, none⟩ = some (.int .u64 t94) ∧
 hcell h_24 ⟨t, 1, none⟩ = some (.int .i64 t71) ∧
 hcell h_24 ⟨b, 0, none⟩ = some (.int .i64 t67) ∧
 hcell h_24 ⟨b, 0, none⟩ = some (.int .i64 t59) ∧
 J (!t122) h_24
 else
 eid_Eid.LD h_21 ⟨b, 1, none⟩ fun t113_0_1 t113_1_1 t113_2_1 t113_3_1 t113_4_1 =>
 Cl F.copies_Table_of #[.pointer (some ⟨t, 0, none⟩), .agg #[.bool t113_0_1, .int .u64 t113_1_1, .int .u64 t113_2_1, .string t113_3_1, .string t113_4_1]] h_21 fun v_15 h_25 =>
 ∃ t114_p_1 t114_l_1 t114_c_1, v_15 = .slice t114_p_1 t114_l_1 t114_c_1 ∧
 hcell h_25 ⟨b, 9, none⟩ = some (.int .u64 t94) ∧
 hcell h_25 ⟨t, 1, none⟩ = some (.int .i64 t71) ∧
 hcell h_25 ⟨b, 0, none⟩ = some (.int .i64 t67) ∧
 hcell h_25 ⟨b, 0, none⟩ = some (.int .i64 t59) ∧
 if (decide (((t114_l_1 : Nat) : Int) ≥ 16)) = true then
 J true h_25
 else
 Cl F.copies_record #[.pointer (some ⟨b, 0, none⟩)] h_25 fun v_16 h_26 =>
 ∃ t120_p_1 t120_l_1 t120_c_1, v_16 = .slice t120_p_1 t120_l_1 t120_c_1 ∧
 hcell h_26 ⟨b, 9, none⟩ = some (.int .u64 t94) ∧
 hcell h_26 ⟨t, 1, none⟩ = some (.int .i64 t71) ∧
 hcell h_26 ⟨b, 0, none⟩ = some (.int .i64 t67) ∧
 hcell h_26 ⟨b, 0, none⟩ = some (.int .i64 t59) ∧
 Cl F.bytes_Equal #[.slice t120_p_1 t120_l_1 t120_c_1, .slice b_p b_l b_c] h_26 fun v_17 h_27 =>
 ∃ t122_1, v_17 = .bool t122_1 ∧
 hcell h_27 ⟨b, 9, none⟩ = some (.int .u64 t94) ∧
 hcell h_27 ⟨t, 1, none⟩ = some (.int .i64 t71) ∧
 hcell h_27 ⟨b, 0, none⟩ = some (.int .i64 t67) ∧
 hcell h_27 ⟨b, 0, none⟩ = some (.int .i64 t59) ∧
 J (!t122_1) h_27)) : CallsH Tryz.prog F.copies_Table_load #[.pointer (some ⟨t, 0, none⟩), .slice b_p b_l b_c, .int .i64 last] h R :=
 callsH_of_body (.seq .leaf (.seq .leaf (.seq .leaf (.seq .leaf (.seq .leaf (.seq .leaf (.seq (.seq (.join [(124, .one (.bool))] (.plan (.op 0 (.op 1 (.op 2 (.op 3 (.op 4 (.op 5 (.op 6 (.op 7 (.op 8 (.op 9 (.op 10 (.op 11 (.op 12 (.op 13 (.op 14 (.op 15 (.op 16 (.op 17 (.op 18 (.op 19 (.op 20 (.op 21 (.op 22 (.op 23 (.op 24 (.op 25 (.op 26 (.op 27 (.op 28 (.op 29 (.op 30 (.op 31 (.op 32 (.op 33 (.op 34 (.op 35 (.op 36 (.op 37 (.op 38 (.op 39 (.op 40 (.op 41 (.op 42 (.op 43 (.op 44 (.op 45 (.op 46 (.op 47 (.op 48 (.op 49 (.op 50 (.op 51 (.op 52 (.op 53 (.op 54 (.op 55 (.op 56 (.op 57 (.op 58 (.op 59 (.op 60 (.op 61 (.op 62 (.op 63 (.op 64 (.op 65 (.op 66 (.op 67 (.op 69 (.op 68 (.op 70 (.op 71 (.op 72 .done))))))))))))))))))))))))))))))))))))))))))))))))))))))))))))))))))))))))))) (.cond (.seq .leaf .leaf) .leaf)) (.seq (.plan (.op 0 (.op 1 (.op 2 (.op 3 (.op 4 (.op 5 (.op 6 (.op 7 (.op 8 (.op 9 .done))))))))))) (.seq (.plan (.op 0 (.op 1 (.op 2 (.op 3 (.op 4 (.op 5 (.op 6 (.op 7 (.op 8 (.op 9 (.op 10 (.op 11 (.op 12 .done)))))))))))))) (.seq (.seq .leaf (.join [] (.cond (.plan (.op 0 (.op 1 (.op 2 (.op 3 (.op 4 (.op 5 (.op 6 (.op 7 (.op 8 (.op 9 (.op 10 (.op 11 (.op 12 .done)))))))))))))) .leaf))) (.seq .leaf .leaf))))))))))) Tryz.func102 rfl rfl (Eq.mp (by kernel_rfl) hv)
end Go.Proofs.YtgccegnmggjkjaaGreatDoor
