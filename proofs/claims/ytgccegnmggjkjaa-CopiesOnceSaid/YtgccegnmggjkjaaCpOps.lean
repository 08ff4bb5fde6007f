/-
  What is proved here: what the calls of package copies do with a table. No condition.
-/
import Derived.Test.YtgccegnmggjkjaaCpOf
import Derived.Test.YtgccegnmggjkjaaClone
set_option maxRecDepth 100000
namespace Go.Proofs.Ytgccegnmggjkjaa
open Go.Den Go.Heapq
namespace Cps
open Eid Alarm Fld
variable {h h' : Heap} {R : Value → Heap → Prop} {t : Nat} {X : Ft} {s s' : CF} {m a1 a2 : Nat} {xs : List CV} {S1 S2 S1' S2' : Nat → Prop} {lab : Nat → Option Nat} {p : Option Addr} {n c : Nat}

def delL (L : List Cp) (n : Int) : List Cp := L.filter (fun x => !decide ((x.num : Int) = n))
def setC (L : List Cp) (n : Nat) (ses : Int) (dl : Nat) : List Cp := L.map (fun x => if x.num = n then { x with ses := ses, dl := dl } else x)
def remF (s : CF) (n : Int) : CF := { s with L := delL s.L n, E1 := dropK s.E1 n, E2 := dropK s.E2 n }
def freeF (s : CF) (n : Nat) : CF := { s with L := setC s.L n 0 0, E2 := dropK s.E2 (n : Int) }
theorem dropK_len (L : List E) (k : Int) : (dropK L k).length ≤ L.length := List.length_filter_le _ _
/-- few enough for all calls -/
structure Small (s : CF) : Prop where
  n : s.next ≤ 50000
  l : s.L.length ≤ 50000
  e1 : s.E1.length ≤ 50000
  e2 : s.E2.length ≤ 50000
theorem Cm.len (H : Cm h t X s m xs a1 S1 a2 S2 lab) : xs.length = s.L.length := by rw [← H.abs, List.length_map]
theorem new_ok (hk : ∀ h' t X, Ct h' t X ⟨[], 1, 0, 0, 0, [], []⟩ → UpF h X h' → R (.pointer (some ⟨t, 0, none⟩)) h') : CallsH Try.prog F.copies_New #[] h R := by
  classical
  refine copies_New.walk (newP_of ?_)
  have f1 : Fr (fun _ => False) h (h.push (.map #[] 0)) := Fr.push _ _
  have M1 := MapP.push (α := Int) h ienc
  have z1 : (h.push (.map #[] 0)).size = h.size + 1 := Array.size_push _
  generalize h.push (.map #[] 0) = h1 at f1 M1 z1 ⊢
  refine Alarm.new_ok fun a1 S1 h2 A1 g1 f2 => ⟨_, rfl, Alarm.new_ok fun a2 S2 h3 A2 g2 f3 => ⟨_, rfl, newP_of ?_⟩⟩
  have f4 : Fr (fun _ => False) h3 (h3.push (.cells #[.map (some h.size), .int .i64 1, .int .i64 0, .int .i64 0, .int .i64 0, .pointer (some ⟨a1, 0, none⟩), .pointer (some ⟨a2, 0, none⟩)] T.copies_Table)) := Fr.push _ _
  have z2 := f2.1
  have z3 := f3.1
  have z4 : (h3.push (.cells #[.map (some h.size), .int .i64 1, .int .i64 0, .int .i64 0, .int .i64 0, .pointer (some ⟨a1, 0, none⟩), .pointer (some ⟨a2, 0, none⟩)] T.copies_Table)).size = h3.size + 1 := Array.size_push _
  have b4 : (h3.push (.cells #[.map (some h.size), .int .i64 1, .int .i64 0, .int .i64 0, .int .i64 0, .pointer (some ⟨a1, 0, none⟩), .pointer (some ⟨a2, 0, none⟩)] T.copies_Table))[h3.size]? = some (.cells #[.map (some h.size), .int .i64 1, .int .i64 0, .int .i64 0, .int .i64 0, .pointer (some ⟨a1, 0, none⟩), .pointer (some ⟨a2, 0, none⟩)] T.copies_Table (0, 0)) := push_new
  generalize h3.push (.cells #[.map (some h.size), .int .i64 1, .int .i64 0, .int .i64 0, .int .i64 0, .pointer (some ⟨a1, 0, none⟩), .pointer (some ⟨a2, 0, none⟩)] T.copies_Table) = h4 at f4 z4 b4 ⊢
  have l1 : ∀ c, S1 c → h1.size ≤ c ∧ c < h2.size := fun c hc => ⟨g1 c hc, A1.lt hc⟩
  have l2 : ∀ c, S2 c → h2.size ≤ c ∧ c < h3.size := fun c hc => ⟨g2 c hc, A2.lt hc⟩
  let lab : Nat → Option Nat := fun c => if c = h3.size then some 0 else if c = h.size then some 1 else if S1 c then some 2 else if S2 c then some 3 else none
  have lab1 : ∀ c, S1 c → lab c = some 2 := fun c hc => by
    have := l1 c hc
    show (if c = h3.size then some 0 else if c = h.size then some 1 else if S1 c then some 2 else if S2 c then some 3 else none) = _
    rw [if_neg (by omega), if_neg (by omega), if_pos hc]
  have lab2 : ∀ c, S2 c → lab c = some 3 := fun c hc => by
    have h5 := l2 c hc
    show (if c = h3.size then some 0 else if c = h.size then some 1 else if S1 c then some 2 else if S2 c then some 3 else none) = _
    rw [if_neg (by omega), if_neg (by omega), if_neg (fun h6 => by have := l1 c h6; omega), if_pos hc]
  have labs : ∀ c, lab c ≠ none → h.size ≤ c ∧ c < h4.size := fun c hc => by
    by_cases c1 : c = h3.size
    · omega
    by_cases c2 : c = h.size
    · omega
    by_cases c3 : S1 c
    · have := l1 c c3; omega
    by_cases c4 : S2 c
    · have := l2 c c4; omega
    exact absurd (show (if c = h3.size then some 0 else if c = h.size then some 1 else if S1 c then some 2 else if S2 c then some 3 else none) = none by rw [if_neg c1, if_neg c2, if_neg c3, if_neg c4]) hc
  refine hk h4 h3.size ⟨fun c => lab c ≠ none, fun _ => False⟩ ⟨h.size, [], a1, S1, a2, S2, lab, ⟨b4, (M1.frame (f2.tt f3) id).frame f4 id, (fun x hx => by cases hx), rfl, (fun x hx => by cases hx), A1.frame (f3.tt f4) (fun _ _ => id), A2.frame f4 (fun _ _ => id), if_pos rfl, ?_, lab1, lab2, (fun x hx => by cases hx), fun c => Iff.rfl, fun c hc => hc.elim, fun c hc => (labs c hc).2, .nil⟩⟩ ⟨f1.tt (f2.tt (f3.tt f4)), fun c hc => ?_⟩
  · show (if h.size = h3.size then some 0 else if h.size = h.size then some 1 else if S1 h.size then some 2 else if S2 h.size then some 3 else none) = some 1
    rw [if_neg (by omega), if_pos rfl]
  · rcases hc with hc | hc
    · exact (labs c hc).1
    · exact hc.elim
/-! ### parts -/
theorem drop2 (H : Cm h t X s m xs a1 S1 a2 S2 lab) (hn : s.E2.length < 1000000) (k : Int) (hk : ∀ h' X' lab' (e : Int), Cm h' t X' { s with E2 := dropK s.E2 k } m xs a1 S1 a2 S2 lab' → StepF X h X' h' → R (.int .i64 e) h') :
    CallsH Try.prog F.alarm_Alarm_Drop #[.pointer (some ⟨a2, 0, none⟩), .int .i64 k] h R := by
  refine Alarm.drop_ok H.al2 hn k (fun _ h1 A1 f1 => ?_) (fun hno => ?_)
  · obtain ⟨X', lab', H', st, _⟩ := H.alarm2 (s' := { s with E2 := dropK s.E2 k }) A1 (fun c hc => .inl hc) f1 rfl rfl rfl ⟨rfl, rfl, rfl, rfl⟩
    exact hk h1 X' lab' 0 H' st
  · have e : ({ s with E2 := dropK s.E2 k } : CF) = s := by rw [dropK_none hno]
    exact hk h X lab 4 (by rw [e]; exact H) (StepF.refl _ _)
theorem drop1 (H : Cm h t X s m xs a1 S1 a2 S2 lab) (hn : s.E1.length < 1000000) (k : Int) (hk : ∀ h' X' lab' (e : Int), Cm h' t X' { s with E1 := dropK s.E1 k } m xs a1 S1 a2 S2 lab' → StepF X h X' h' → R (.int .i64 e) h') :
    CallsH Try.prog F.alarm_Alarm_Drop #[.pointer (some ⟨a1, 0, none⟩), .int .i64 k] h R := by
  refine Alarm.drop_ok H.al1 hn k (fun _ h1 A1 f1 => ?_) (fun hno => ?_)
  · obtain ⟨X', lab', H', st, _⟩ := H.alarm1 (s' := { s with E1 := dropK s.E1 k }) A1 (fun c hc => .inl hc) f1 rfl rfl rfl ⟨rfl, rfl, rfl, rfl⟩
    exact hk h1 X' lab' 0 H' st
  · have e : ({ s with E1 := dropK s.E1 k } : CF) = s := by rw [dropK_none hno]
    exact hk h X lab 4 (by rw [e]; exact H) (StepF.refl _ _)
theorem remove_ok (H : Ct h t X s) (sm : Small s) (k : Int) (hk : ∀ h' X', Ct h' t X' (remF s k) → StepF X h X' h' → R (.tuple #[]) h') :
    CallsH Try.prog F.copies_Table_remove #[.pointer (some ⟨t, 0, none⟩), .int .i64 k] h R := by
  obtain ⟨m, xs, a1, S1, a2, S2, lab, H⟩ := H
  have := sm.e1
  have := sm.e2
  refine copies_Table_remove.walk ⟨_, cell_at H.blk rfl, drop2 H (by omega) k fun h1 X1 lab1 _ H1 st1 => ⟨_, rfl, _, cell_at H1.blk rfl, drop1 H1 (by show s.E1.length < _; omega) k fun h2 X2 lab2 _ H2 st2 => ⟨_, rfl, _, cell_at H2.blk rfl, den_delP mapTy H2.map (k := k) fun h3 M3 s3 o3 => ⟨rfl, ?_⟩⟩⟩⟩
  obtain ⟨H3, st3⟩ := H2.del (s' := remF s k) M3 s3 o3 rfl rfl rfl ⟨rfl, rfl, rfl, rfl⟩
  exact hk h3 X2 ⟨_, _, _, _, _, _, _, H3⟩ (st1.trans (st2.trans st3))
theorem mem_of_num (H : Cm h t X s m xs a1 S1 a2 S2 lab) {z : Cp} (hz : z ∈ s.L) : ∃ x ∈ xs, x.abs = z := by
  rw [← H.abs] at hz
  obtain ⟨x, hx, e⟩ := List.mem_map.1 hz
  exact ⟨x, hx, e⟩
/-- two numbers of a copy are stored -/
theorem Cm.lease {x : CV} {ses : Int} {dl : Nat} {K : Heap → Prop} (H : Cm h t X s m xs a1 S1 a2 S2 lab) (hx : x ∈ xs)
    (hk : ∀ h', Cm h' t X { s with L := setC s.L x.num ses dl } m (xs.map (fun z => if z.num = x.num then { x with ses := ses, dl := dl } else z)) a1 S1 a2 S2 lab → StepF X h X h' → K h') :
    StoreP h ((⟨x.b, 0, none⟩ : Addr).add 8) (.int .i64 ses) fun h1 => StoreP h1 ((⟨x.b, 0, none⟩ : Addr).add 9) (.int .u64 (dl : Int)) K := by
  rw [add_blk, add_blk]
  have hb := H.cps x hx
  refine storeP_blk hb (by simp) fun h1 c1 s1 o1 => storeP_blk c1 (by simp) fun h2 c2 s2 o2 => ?_
  have hy : ({ x with ses := ses, dl := dl } : CV).at h2 x.b := c2
  obtain ⟨H2, st⟩ := H.change (s' := { s with L := setC s.L x.num ses dl }) (y := { x with ses := ses, dl := dl }) hx rfl rfl rfl hy (by omega) (fun c hc => by rw [o2 c hc, o1 c hc]) (by
    show setC s.L x.num ses dl = _
    unfold setC
    refine List.map_congr_left fun z hz => ?_
    by_cases e : z.num = x.num
    · rw [if_pos e, if_pos e]
      obtain ⟨u, hu, rfl⟩ := mem_of_num H hz
      have e : u.num = x.num := e
      have : u = x := by
        obtain ⟨i, hi⟩ := List.getElem?_of_mem hu
        obtain ⟨j, hj⟩ := List.getElem?_of_mem hx
        have hnd : (xs.map CV.num).Nodup := H.so.imp (fun h => Nat.ne_of_lt h)
        have hil := (List.getElem?_eq_some_iff.1 hi).1
        have := (List.getElem?_inj (l := xs.map CV.num) (i := i) (j := j) (by simpa using hil) hnd).1 (by rw [List.getElem?_map, List.getElem?_map, hi, hj]; simp [e])
        subst this
        rw [hi] at hj; exact Option.some.inj hj
      rw [this]; rfl
    · rw [if_neg e, if_neg e]) rfl rfl ⟨rfl, rfl, rfl, rfl⟩
  exact hk h2 H2 st
theorem free_ok (H : Ct h t X s) (sm : Small s) {z : Cp} (hz : z ∈ s.L) (hk : ∀ h' X', Ct h' t X' (freeF s z.num) → StepF X h X' h' → R (.tuple #[]) h') :
    CallsH Try.prog F.copies_Table_free #[.pointer (some ⟨t, 0, none⟩), .int .i64 (z.num : Int)] h R := by
  obtain ⟨m, xs, a1, S1, a2, S2, lab, H⟩ := H
  obtain ⟨x, hx, rfl⟩ := mem_of_num H hz
  have := sm.e2
  refine copies_Table_free.walk ⟨_, cell_at H.blk rfl, drop2 H (by omega) _ fun h1 X1 lab1 _ H1 st1 => ⟨_, rfl, _, cell_at H1.blk rfl, _, look H1 hx, _, cell_at H1.blk rfl, _, look H1 hx, ?_⟩⟩
  refine onSome_some.2 (H1.lease (ses := 0) (dl := 0) hx fun h2 H2 st2 => hk h2 X1 ⟨_, _, _, _, _, _, _, H2⟩ (st1.trans st2))

/-! ### a copy that a session leased -/
def getC (L : List Cp) (n : Int) : Option Cp := L.find? (fun x => decide ((x.num : Int) = n))
theorem getC_some {L : List Cp} {n : Int} {z : Cp} (h : getC L n = some z) : z ∈ L ∧ (z.num : Int) = n := ⟨List.mem_of_find?_eq_some h, by simpa using List.find?_some h⟩
theorem getC_none {L : List Cp} {n : Int} : getC L n = none ↔ ∀ z ∈ L, (z.num : Int) ≠ n := by unfold getC; simp
def findE (L : List Cp) (n ses : Int) : Int := match getC L n with | none => 4 | some z => if z.ses = 0 ∨ z.ses ≠ ses then 14 else 0
theorem find_ok (H : Ct h t X s) (num ses : Int) (hk : ∀ q, R (.tuple #[.pointer q, .int .i64 (findE s.L num ses)]) h) :
    CallsH Try.prog F.copies_Table_find #[.pointer (some ⟨t, 0, none⟩), .int .i64 num, .int .i64 ses] h R := by
  obtain ⟨m, xs, a1, S1, a2, S2, lab, H⟩ := H
  refine copies_Table_find.walk (made_ok H ⟨_, rfl, ?_⟩)
  rw [if_neg (by decide)]
  unfold findE at hk
  cases hg : getC s.L num with
  | none =>
    rw [hg] at hk
    have hno : ∀ x ∈ xs, (x.num : Int) ≠ num := fun x hx => getC_none.1 hg x.abs (by rw [← H.abs]; exact List.mem_map_of_mem hx)
    refine ⟨_, cell_at H.blk rfl, _, look_no H hno, ?_⟩
    rw [if_pos (by rfl)]
    exact hk none
  | some z =>
    rw [hg] at hk
    dsimp only at hk
    obtain ⟨hz, rfl⟩ := getC_some hg
    obtain ⟨x, hx, rfl⟩ := mem_of_num H hz
    have L := look H hx
    have ca := H.cps x hx
    refine ⟨_, cell_at H.blk rfl, _, L, ?_⟩
    rw [if_neg (by simp)]
    refine JoinP.of fun J hJ => ⟨_, cell_at H.blk rfl, _, L, onSome_some.2 ⟨_, cell_at ca rfl, ?_⟩⟩
    have bad : (x.ses = 0 ∨ x.ses ≠ ses) → J true h := fun hb => by
      subst hJ
      simp only [if_true]
      have := hk none
      have e : (if x.abs.ses = 0 ∨ x.abs.ses ≠ ses then (14 : Int) else 0) = 14 := if_pos hb
      rwa [e] at this
    by_cases h0 : x.ses = 0
    · rw [if_pos (by simpa using h0)]
      exact bad (.inl h0)
    · rw [if_neg (by simpa using h0)]
      refine ⟨_, cell_at H.blk rfl, _, L, onSome_some.2 ⟨_, cell_at ca rfl, ?_⟩⟩
      by_cases h1 : x.ses = ses
      · have e : (x.ses != ses) = false := by simp [h1]
        rw [e]
        subst hJ
        simp only [Bool.false_eq_true, if_false]
        refine ⟨_, cell_at H.blk rfl, _, L, ?_⟩
        have e2 : (if x.abs.ses = 0 ∨ x.abs.ses ≠ ses then (14 : Int) else 0) = 0 := if_neg (fun hb => by
          rcases hb with hb | hb
          · exact h0 hb
          · exact hb h1)
        have := hk (some ⟨x.b, 0, none⟩)
        rwa [e2] at this
      · have e : (x.ses != ses) = true := by simpa using h1
        rw [e]
        exact bad (.inr h1)
def ackF (s : CF) (n ses : Int) : CF := if findE s.L n ses = 0 then { remF s n with acked := s.acked + 1 } else s
theorem Ct.bump (H : Ct h t X s) {K : Heap → Prop} (hs : s.acked ≤ 100000) (hk : ∀ h', Ct h' t X { s with acked := s.acked + 1 } → StepF X h X h' → K h') :
    ∃ (u : Int), hcell h ⟨t, 2, none⟩ = some (.int .i64 u) ∧ StoreP h ⟨t, 2, none⟩ (.int .i64 (IntKind.wrap .i64 (u + 1))) K := by
  obtain ⟨m, xs, a1, S1, a2, S2, lab, H⟩ := H
  refine ⟨_, cell_at H.blk rfl, storeP_blk H.blk (by simp) fun h1 c1 s1 o1 => ?_⟩
  rw [wrap_id (by omega) (by omega)] at c1
  obtain ⟨H1, st⟩ := H.field (s' := { s with acked := s.acked + 1 }) rfl rfl rfl c1 s1 o1
  exact hk h1 ⟨_, _, _, _, _, _, _, H1⟩ st
theorem Ct.bump3 (H : Ct h t X s) {K : Heap → Prop} (hs : s.over ≤ 100000) (hk : ∀ h', Ct h' t X { s with over := s.over + 1 } → StepF X h X h' → K h') :
    ∃ (u : Int), hcell h ⟨t, 3, none⟩ = some (.int .i64 u) ∧ StoreP h ⟨t, 3, none⟩ (.int .i64 (IntKind.wrap .i64 (u + 1))) K := by
  obtain ⟨m, xs, a1, S1, a2, S2, lab, H⟩ := H
  refine ⟨_, cell_at H.blk rfl, storeP_blk H.blk (by simp) fun h1 c1 s1 o1 => ?_⟩
  rw [wrap_id (by omega) (by omega)] at c1
  obtain ⟨H1, st⟩ := H.field (s' := { s with over := s.over + 1 }) rfl rfl rfl c1 s1 o1
  exact hk h1 ⟨_, _, _, _, _, _, _, H1⟩ st
theorem Ct.bump4 (H : Ct h t X s) {K : Heap → Prop} (hs : s.gone ≤ 100000) (hk : ∀ h', Ct h' t X { s with gone := s.gone + 1 } → StepF X h X h' → K h') :
    ∃ (u : Int), hcell h ⟨t, 4, none⟩ = some (.int .i64 u) ∧ StoreP h ⟨t, 4, none⟩ (.int .i64 (IntKind.wrap .i64 (u + 1))) K := by
  obtain ⟨m, xs, a1, S1, a2, S2, lab, H⟩ := H
  refine ⟨_, cell_at H.blk rfl, storeP_blk H.blk (by simp) fun h1 c1 s1 o1 => ?_⟩
  rw [wrap_id (by omega) (by omega)] at c1
  obtain ⟨H1, st⟩ := H.field (s' := { s with gone := s.gone + 1 }) rfl rfl rfl c1 s1 o1
  exact hk h1 ⟨_, _, _, _, _, _, _, H1⟩ st
theorem ack_ok (H : Ct h t X s) (sm : Small s) (ha : s.acked ≤ 100000) (num ses : Int) (hk : ∀ h' X', Ct h' t X' (ackF s num ses) → StepF X h X' h' → R (.int .i64 (findE s.L num ses)) h') :
    CallsH Try.prog F.copies_Table_Ack #[.pointer (some ⟨t, 0, none⟩), .int .i64 num, .int .i64 ses] h R := by
  refine copies_Table_Ack.walk (find_ok H num ses fun q => ⟨_, _, rfl, JoinP.of fun J hJ => ?_⟩)
  by_cases e : findE s.L num ses = 0
  · rw [if_pos (by simpa using e)]
    refine remove_ok H sm num fun h1 X1 H1 st1 => ⟨rfl, H1.bump ha fun h2 H2 st2 => ?_⟩
    subst hJ
    exact hk h2 X1 (by unfold ackF; rw [if_pos e]; exact H2) (st1.trans st2)
  · rw [if_neg (by simpa using e)]
    subst hJ
    exact hk h X (by unfold ackF; rw [if_neg e]; exact H) (StepF.refl _ _)
def relF (s : CF) (n ses : Int) : CF := if findE s.L n ses = 0 then freeF s n.toNat else s
theorem release_ok (H : Ct h t X s) (sm : Small s) (num ses : Int) (hk : ∀ h' X', Ct h' t X' (relF s num ses) → StepF X h X' h' → R (.int .i64 (findE s.L num ses)) h') :
    CallsH Try.prog F.copies_Table_Release #[.pointer (some ⟨t, 0, none⟩), .int .i64 num, .int .i64 ses] h R := by
  refine copies_Table_Release.walk (find_ok H num ses fun q => ⟨_, _, rfl, JoinP.of fun J hJ => ?_⟩)
  by_cases e : findE s.L num ses = 0
  · rw [if_pos (by simpa using e)]
    obtain ⟨z, hz⟩ : ∃ z, getC s.L num = some z := by
      cases hg : getC s.L num with
      | none => unfold findE at e; rw [hg] at e; cases e
      | some z => exact ⟨z, rfl⟩
    obtain ⟨hzm, rfl⟩ := getC_some hz
    refine free_ok H sm hzm fun h1 X1 H1 st1 => ⟨rfl, ?_⟩
    subst hJ
    exact hk h1 X1 (by unfold relF; rw [if_pos e, Int.toNat_natCast]; exact H1) st1
  · rw [if_neg (by simpa using e)]
    subst hJ
    exact hk h X (by unfold relF; rw [if_neg e]; exact H) (StepF.refl _ _)
end Cps
end Go.Proofs.Ytgccegnmggjkjaa
