/-
  What is proved here: the law SessionsKeep on heaps ('sessionsKeep_ok'). No condition.
-/
import Derived.Test.YtlnofnmdiddmkaaLaw24
namespace Go.Proofs.Ytlnofnmdiddmkaa
open Go.Den Go.Fields
namespace Ses
open Fld
variable {h h' h0 : Heap} {t : Nat} {X : Ft} {R : Value → Heap → Prop} {p q : Option Addr} {c d i : Nat} {A : List Ses}

/-! ### plain facts: what is kept, the newest first -/
abbrev Ans := Nat × List UInt8
def dedup : List Ans → List Ans
  | [] => []
  | x :: l => x :: (dedup l).filter (fun y => decide (y.1 ≠ x.1))
def inIds (l : List Ans) (n : Nat) : Bool := l.any fun y => decide (y.1 = n)
theorem inIds_iff {l : List Ans} {n : Nat} : inIds l n = true ↔ n ∈ l.map (·.1) := by
  unfold inIds
  rw [List.any_eq_true]
  constructor
  · rintro ⟨y, hy, e⟩; exact List.mem_map.2 ⟨y, hy, by simpa using e⟩
  · intro hn; obtain ⟨y, hy, e⟩ := List.mem_map.1 hn; exact ⟨y, hy, by simpa using e⟩
theorem dedup_nodup : ∀ l : List Ans, ((dedup l).map (·.1)).Nodup
  | [] => by simp [dedup]
  | x :: l => by
    rw [dedup, List.map_cons, List.nodup_cons]
    refine ⟨fun hm => ?_, (List.filter_sublist.map _).nodup (dedup_nodup l)⟩
    obtain ⟨y, hy, e⟩ := List.mem_map.1 hm
    have := (List.mem_filter.1 hy).2
    simp at this
    exact this e
theorem dedup_ids : ∀ (l : List Ans) (n : Nat), n ∈ (dedup l).map (·.1) ↔ n ∈ l.map (·.1)
  | [], n => by simp [dedup]
  | x :: l, n => by
    rw [dedup, List.map_cons, List.mem_cons, List.map_cons, List.mem_cons]
    by_cases e : n = x.1
    · simp [e]
    · simp only [e, false_or]
      rw [← dedup_ids l n]
      constructor
      · intro hm
        obtain ⟨y, hy, e2⟩ := List.mem_map.1 hm
        exact List.mem_map.2 ⟨y, (List.mem_filter.1 hy).1, e2⟩
      · intro hm
        obtain ⟨y, hy, e2⟩ := List.mem_map.1 hm
        exact List.mem_map.2 ⟨y, List.mem_filter.2 ⟨hy, by simp; rw [e2]; exact e⟩, e2⟩
theorem dedup_append : ∀ (P Q : List Ans), dedup (P ++ Q) = dedup P ++ (dedup Q).filter (fun y => !inIds P y.1)
  | [], Q => by
    rw [List.nil_append]
    show dedup Q = [] ++ (dedup Q).filter (fun y => !inIds [] y.1)
    rw [List.nil_append]
    symm
    rw [List.filter_eq_self]
    intro a _
    rfl
  | x :: P, Q => by
    rw [List.cons_append, dedup, dedup, dedup_append P Q, List.filter_append, List.filter_filter, List.cons_append]
    congr 2
    apply List.filter_congr
    intro y _
    unfold inIds
    rw [List.any_cons]
    by_cases e : y.1 = x.1
    · simp [e]
    · simp [e, Ne.symm e]
theorem filter_notin {l : List Ans} {n : Nat} (hn : n ∉ l.map (·.1)) : l.filter (fun y => decide (y.1 ≠ n)) = l := by
  rw [List.filter_eq_self]
  intro a ha
  have : a.1 ≠ n := fun e => hn (e ▸ List.mem_map_of_mem ha)
  simp [this]
theorem filter_in {l : List Ans} {n : Nat} (hd : (l.map (·.1)).Nodup) (hn : n ∈ l.map (·.1)) : (l.filter (fun y => decide (y.1 ≠ n))).length + 1 = l.length := by
  induction l with
  | nil => simp at hn
  | cons x l ih =>
    rw [List.map_cons, List.nodup_cons] at hd
    rw [List.map_cons, List.mem_cons] at hn
    by_cases e : x.1 = n
    · rw [List.filter_cons, if_neg (by simp [e]), filter_notin (by rw [← e]; exact hd.1), List.length_cons]
    · rw [List.filter_cons, if_pos (by simp [e]), List.length_cons, List.length_cons, ih hd.2 (hn.resolve_left (fun h => e h.symm))]
/-- all but one number's -/
def fl (l : List Ans) (id : Nat) : List Ans := l.filter (fun y => decide (y.1 ≠ id))
theorem fl_notin {l : List Ans} {n : Nat} (hn : n ∉ l.map (·.1)) : fl l n = l := filter_notin hn
theorem fl_in {l : List Ans} {n : Nat} (hd : (l.map (·.1)).Nodup) (hn : n ∈ l.map (·.1)) : (fl l n).length + 1 = l.length := filter_in hd hn
theorem fl_append (l m : List Ans) (n : Nat) : fl (l ++ m) n = fl l n ++ fl m n := by unfold fl; rw [List.filter_append]
theorem keepL_eq (k : List Ans) (id : Nat) (b : List UInt8) : keepL k id b = if (fl k id ++ [(id, b)]).length > 6 then (fl k id ++ [(id, b)]).drop 1 else fl k id ++ [(id, b)] := rfl
theorem fl_reverse (l : List Ans) (n : Nat) : fl l.reverse n = (fl l n).reverse := by unfold fl; rw [List.filter_reverse]
/-- one more is kept -/
theorem keepL_dedup (D : List Ans) (hD : (D.map (·.1)).Nodup) (id : Nat) (b : List UInt8) : keepL (D.take 6).reverse id b = (((id, b) :: fl D id).take 6).reverse := by
  have hf : fl (D.take 6).reverse id ++ [(id, b)] = ((id, b) :: fl (D.take 6) id).reverse := by rw [fl_reverse, List.reverse_cons]
  rw [keepL_eq, hf]
  have hsplit : fl D id = fl (D.take 6) id ++ fl (D.drop 6) id := by rw [← fl_append, List.take_append_drop]
  have ht : ((D.take 6).map (·.1)).Nodup := ((List.take_sublist _ _).map _).nodup hD
  rw [List.length_reverse, List.length_cons]
  by_cases hin : id ∈ (D.take 6).map (·.1)
  · have hl := fl_in ht hin
    have hl6 : (D.take 6).length ≤ 6 := by rw [List.length_take]; omega
    rw [if_neg (by omega), hsplit]
    by_cases hshort : D.length ≤ 6
    · have e0 : D.drop 6 = [] := List.drop_of_length_le hshort
      have e9 : (((id, b) : Ans) :: fl (D.take 6) id).length ≤ 6 := by rw [List.length_cons]; omega
      have e8 : fl ([] : List Ans) id = [] := rfl
      rw [e0, e8, List.append_nil, List.take_of_length_le e9]
    · have h6 : (D.take 6).length = 6 := by rw [List.length_take]; omega
      have e1 : (((id, b) : Ans) :: (fl (D.take 6) id ++ fl (D.drop 6) id)) = ((id, b) :: fl (D.take 6) id) ++ fl (D.drop 6) id := rfl
      have e9 : (((id, b) : Ans) :: fl (D.take 6) id).length = 6 := by rw [List.length_cons]; omega
      rw [e1, List.take_append_of_le_length (by omega), List.take_of_length_le (l := ((id, b) : Ans) :: fl (D.take 6) id) (by omega)]
  · rw [fl_notin hin]
    by_cases hshort : D.length < 6
    · have e0 : D.take 6 = D := List.take_of_length_le (by omega)
      rw [e0] at hin ⊢
      have e9 : (((id, b) : Ans) :: D).length ≤ 6 := by rw [List.length_cons]; omega
      rw [if_neg (by omega), fl_notin hin, List.take_of_length_le e9]
    · have h6 : (D.take 6).length = 6 := by rw [List.length_take]; omega
      have e1 : (((id, b) : Ans) :: (D.take 6 ++ fl (D.drop 6) id)) = ((id, b) :: D.take 6) ++ fl (D.drop 6) id := rfl
      have e9 : (((id, b) : Ans) :: D.take 6).length = 7 := by rw [List.length_cons]; omega
      rw [if_pos (by omega), hsplit, fl_notin hin, e1, List.take_append_of_le_length (by omega), List.drop_reverse, e9]
theorem keptL_rev {D : List Ans} (hD : (D.map (·.1)).Nodup) {j : Nat} {x : Ans} (hx : D[j]? = some x) : keptL (D.take 6).reverse x.1 = if j < 6 then some x.2 else none := by
  unfold keptL
  by_cases hj : j < 6
  · rw [if_pos hj]
    have hmem : x ∈ (D.take 6).reverse := by
      rw [List.mem_reverse]
      exact List.mem_of_getElem? (by rw [List.getElem?_take, if_pos hj]; exact hx)
    have hnd : (((D.take 6).reverse).map (·.1)).Nodup := by
      rw [List.map_reverse]; exact (List.reverse_perm _).nodup_iff.2 (((List.take_sublist _ _).map _).nodup hD)
    generalize (D.take 6).reverse = E at *
    induction E with
    | nil => cases hmem
    | cons y E ih =>
      rw [List.map_cons, List.nodup_cons] at hnd
      by_cases e : y.1 = x.1
      · rw [List.find?_cons_of_pos (by simpa using e)]
        rcases List.mem_cons.1 hmem with rfl | hm
        · rfl
        · exact absurd (e ▸ List.mem_map_of_mem hm) hnd.1
      · rw [List.find?_cons_of_neg (by simpa using e)]
        rcases List.mem_cons.1 hmem with rfl | hm
        · exact absurd rfl e
        · exact ih hm hnd.2
  · rw [if_neg hj]
    have : (D.take 6).reverse.find? (fun a => decide (a.1 = x.1)) = none := by
      rw [List.find?_eq_none]
      intro y hy
      rw [List.mem_reverse] at hy
      obtain ⟨m, hm⟩ := List.getElem?_of_mem hy
      rw [List.getElem?_take] at hm
      split at hm
      · rename_i hm6
        intro e
        have e : y.1 = x.1 := by simpa using e
        have hml : m < (D.map (·.1)).length := by rw [List.length_map]; exact (List.getElem?_eq_some_iff.1 hm).1
        have e1 : (D.map (·.1))[m]? = some x.1 := by rw [List.getElem?_map, hm, ← e]; rfl
        have e2 : (D.map (·.1))[j]? = some x.1 := by rw [List.getElem?_map, hx]; rfl
        have := (List.getElem?_inj hml hD).1 (e1.trans e2.symm)
        omega
      · cases hm
    rw [this]; rfl
/-- what was kept, the newest first -/
def hist (ids : List UInt8) (ds : List BV) : Nat → List Ans
  | 0 => []
  | k + 1 => ((ids.getD k 0).toNat, (ds[k]?.map BV.b).getD []) :: hist ids ds k
theorem hist_len (ids : List UInt8) (ds : List BV) : ∀ k, (hist ids ds k).length = k
  | 0 => rfl
  | k + 1 => by rw [hist, List.length_cons, hist_len ids ds k]
theorem hist_at (ids : List UInt8) (ds : List BV) : ∀ k m, m < k → (hist ids ds k)[m]? = some ((ids.getD (k - 1 - m) 0).toNat, (ds[k - 1 - m]?.map BV.b).getD [])
  | k + 1, 0, _ => by rw [hist]; rfl
  | k + 1, m + 1, hm => by
    rw [hist, List.getElem?_cons_succ, hist_at ids ds k m (by omega)]
    rw [show k + 1 - 1 - (m + 1) = k - 1 - m by omega]

def ansA (ids : List UInt8) (ds : List BV) (k : Nat) : List Ses := [⟨1, 7, true, false, ((dedup (hist ids ds k)).take 6).reverse, []⟩]
theorem ansA_keep (ids : List UInt8) (ds : List BV) (k : Nat) (hb : ((ds[k]?.map BV.b).getD []).length ≤ 1000) : keepA (ansA ids ds k) 1 (ids.getD k 0).toNat ((ds[k]?.map BV.b).getD []) = ansA ids ds (k + 1) ∧ keepE (ansA ids ds k) 1 (ids.getD k 0).toNat ((ds[k]?.map BV.b).getD []) = 0 := by
  have hid := (ids.getD k 0).toNat_lt
  have hno : ¬ ((ids.getD k 0).toNat > 1099511627776 ∨ ((ds[k]?.map BV.b).getD []).length > 1000) := by omega
  have hg : getA (ansA ids ds k) 1 = some ⟨1, 7, true, false, ((dedup (hist ids ds k)).take 6).reverse, []⟩ := rfl
  constructor
  · unfold keepA
    rw [hg]
    dsimp only
    rw [if_neg hno]
    show [_] = _
    unfold ansA
    congr 2
    rw [keepL_dedup _ (dedup_nodup _), hist, dedup]; rfl
  · unfold keepE
    rw [hg]
    dsimp only
    rw [if_neg hno]

/-- the inner search -/
def seenB (seen : List UInt8) (m : Nat) (x : UInt8) : Bool := (seen.take m).any fun y => decide (y = x)

structure KS (h0 h : Heap) (t : Nat) (X : Ft) (ids : List UInt8) (ds : List BV) (n : Nat) (sp : Option Addr) (sl sc : Nat) (seen : List UInt8) (m : Nat) : Prop where
  has : Has h t X (ansA ids ds n)
  up : UpF h0 X h
  own : Own h sp sl sc 1 (bc seen)
  len : sl = seen.length
  ids : seen.map (·.toNat) = (dedup ((hist ids ds n).take m)).map (·.1)
  ge : ∀ x, inBlk sp x → h0.size ≤ x
  ap : ∀ x, inBlk sp x → ¬ (X.M x ∨ X.D x)

theorem _root_.Go.Proofs.Ytlnofnmdiddmkaa.sessionsKeep_ok (ip : Option Addr) (il ic : Nat) (dp : Option Addr) (dl dc : Nat) (hi : RokV Try.prog h T.s_uint8 (.slice ip il ic)) (hd : RokV Try.prog h T.s_s_uint8 (.slice dp dl dc)) : LawH Try.prog F.law24_SessionsKeep #[.slice ip il ic, .slice dp dl dc] h := by
  obtain ⟨ids, rfl, irow⟩ := RokV.bytes (by kernel_rfl) u8 uU hi
  obtain ⟨ds, rfl, drow, dok⟩ := RokV.bytess (by kernel_rfl) (by kernel_rfl) u8 uU uN hd
  clear hi hd
  unfold LawH
  generalize hR : (fun (v : Value) h' => v = .bool true ∧ Fr (fun _ => False) h h') = R
  have hk : ∀ h', Fr (fun _ => False) h h' → R (.bool true) h' := fun h' hf => by rw [← hR]; exact ⟨rfl, hf⟩
  clear hR
  have iat : ∀ {h' : Heap} {k : Nat}, Fr (fun _ => False) h h' → k < ids.length → ∃ a, ip = some a ∧ hcell h' (a.add (k * 1)) = some (.int .u8 ((ids.getD k 0).toNat : Int)) := by
    intro h' k f hk
    have hc : ids[k]? = some (ids.getD k 0) := by rw [List.getD_eq_getElem?_getD, List.getElem?_eq_getElem hk]; rfl
    obtain ⟨a, rfl⟩ := irow.some (fun e => by have := congrArg List.length e; rw [bc_len, List.length_nil] at this; omega)
    exact ⟨a, rfl, by rw [Nat.mul_one]; exact (irow.frame f (fun _ _ => id)).cell (bc_at hc)⟩
  have dat : ∀ {h' : Heap} {k : Nat}, Fr (fun _ => False) h h' → k < ds.length → ∃ a x, dp = some a ∧ ds[k]? = some x ∧ hcell h' (a.add (k * 1)) = some x.val ∧ Row h' x.p (bc x.b) := by
    intro h' k f hk
    have hc : ds[k]? = some ds[k] := List.getElem?_eq_getElem hk
    obtain ⟨a, rfl⟩ := drow.some (fun e => by have := congrArg List.length e; rw [flat_len (fun x : BV => [x.val]) 1 (fun _ => rfl), List.length_nil] at this; omega)
    have := (drow.frame f (fun _ _ => id)).heldAt (fun _ => rfl) hc
    refine ⟨a, ds[k], rfl, hc, ?_, (dok _ (List.mem_of_getElem? hc)).frame f (fun _ _ => id)⟩
    have := this.1
    rwa [add_zero_addr] at this
  refine law24_SessionsKeep.walk (new_ok fun h1 t X1 H1 f1 g1 => ⟨_, rfl, ?_⟩)
  refine open_ok 7 rfl H1 okA.nil fun h2 X2 H2 s2 => ⟨_, _, rfl, ?_⟩
  have u2 := (⟨f1, g1⟩ : UpF h X1 h1).step s2
  have e2 : openA [] 7 = ansA ids ds 0 := rfl
  have k2 : okA (ansA ids ds 0) := e2 ▸ okA.nil.open 7
  rw [e2] at H2
  refine JoinP.of fun J hJ => ?_
  rw [if_neg (by simp [openE, hasTk])]
  have e3 : (openN [] 7 != 1) = false := rfl
  rw [e3]
  subst hJ
  simp only [Bool.false_eq_true, if_false]
  refine ⟨fun i h' => ∃ (k : Nat) (X : Ft), i = (k : Int) ∧ k ≤ ids.length ∧ k ≤ ds.length ∧ k ≤ 60 ∧ Has h' t X (ansA ids ds k) ∧ okA (ansA ids ds k) ∧ UpF h X h', fun i _ => 60 - i.toNat, ⟨0, X2, rfl, by omega, by omega, by omega, H2, k2, u2⟩, ?_⟩
  clear H1 f1 g1 H2 s2 u2 e2 k2 e3
  rintro _ h4 ⟨k, X4, rfl, hki, hkd, hk60, H4, ok4, u4⟩
  refine JoinP.of fun J hJ => ?_
  have jend : J false h4 := by
    subst hJ
    simp only [Bool.false_eq_true, if_false]
    exact alive_ok fun h17 f17 => ⟨_, rfl, hk h17 (u4.fr.tt f17)⟩
  by_cases hgo : k < ids.length ∧ k < ds.length ∧ k < 60
  · obtain ⟨g1, g2, g3⟩ := hgo
    have q1 : (k : Int) < (ids.length : Int) := by omega
    have q2 : (k : Int) < (ds.length : Int) := by omega
    have q3 : (k : Int) < 60 := by omega
    simp only [q1, q2, q3, decide_true, if_true]
    clear jend
    subst hJ
    simp only [if_true, Int.toNat_natCast]
    obtain ⟨da, dx, rfl, hdx, dcell, drow4⟩ := dat u4.fr g2
    obtain ⟨ia, rfl, icell⟩ := iat u4.fr g1
    refine ⟨⟨by first | trivial | omega, by first | trivial | omega⟩, onSome_some.2 ⟨_, _, _, dcell, ?_⟩⟩
    by_cases hlong : ((dx.b.length : Nat) : Int) > 500
    · simp only [hlong, decide_true, if_true]
      exact alive_ok fun h6 f6 => ⟨_, rfl, hk h6 (u4.fr.tt f6)⟩
    simp only [hlong, decide_false, Bool.false_eq_true, if_false]
    refine ⟨⟨by first | trivial | omega, by first | trivial | omega⟩, onSome_some.2 ⟨_, icell, ⟨by first | trivial | omega, by first | trivial | omega⟩, onSome_some.2 ⟨_, _, _, dcell, ?_⟩⟩⟩
    have idlt := (ids.getD k 0).toNat_lt
    have edx : (ds[k]?.map BV.b).getD [] = dx.b := by rw [hdx]; rfl
    have hko := ansA_keep ids ds k (by rw [edx]; omega)
    rw [edx] at hko
    refine keep_ok (ids.getD k 0).toNat (wrap_u64_nat (by omega)) H4 ok4 drow4 rfl (fun hne x hx hM => ?_) fun h7 X7 H7 s7 => ⟨_, rfl, ?_⟩
    · have := row_lt (dok dx (List.mem_of_getElem? hdx)) (fun e => hne (List.map_eq_nil_iff.1 e)) hx
      have := u4.ge x (.inl hM)
      omega
    have u7 := u4.step s7
    have ok7 := ok4.keep 1 (ids.getD k 0).toNat dx.b
    rw [hko.1] at H7 ok7
    rw [hko.2]
    obtain ⟨ia', e', icell7⟩ := iat u7.fr g1
    cases e'
    refine ⟨icell7, ?_⟩
    rw [if_neg (by simp)]
    -- the inner loop
    refine ⟨fun sp sl sc kk h' => ∃ (m : Nat) (seen : List UInt8), kk = (k : Int) - m ∧ m ≤ k + 1 ∧ KS h h' t X7 ids ds (k + 1) sp sl sc seen m, fun _ _ _ kk _ => (kk + 1).toNat, ⟨0, [], by omega, by omega, H7, u7, .nil rfl rfl rfl rfl, rfl, rfl, (fun x ⟨a, e, _⟩ => by cases e), (fun x ⟨a, e, _⟩ => by cases e)⟩, ?_⟩
    rintro sp sl sc kk h8 ⟨m, seen, rfl, hm, K⟩
    have hlh := hist_len ids ds (k + 1)
    have seenle : seen.length ≤ m := by
      have h1 := congrArg List.length K.ids
      rw [List.length_map, List.length_map] at h1
      have h2 : ∀ l : List Ans, (dedup l).length ≤ l.length := by
        intro l
        induction l with
        | nil => simp [dedup]
        | cons x l ih =>
          rw [dedup, List.length_cons, List.length_cons]
          have := List.length_filter_le (fun y : Ans => decide (y.1 ≠ x.1)) (dedup l)
          omega
      have := h2 ((hist ids ds (k + 1)).take m)
      rw [List.length_take] at this
      omega
    by_cases hge : m < k + 1
    · have q : (k : Int) - (m : Int) ≥ 0 := by omega
      simp only [q, decide_true, if_true]
      have ekk : ((k : Int) - (m : Int)) = ((k - m : Nat) : Int) := by omega
      rw [ekk]
      have hkm : k - m < ids.length := by omega
      have hkmd : k - m < ds.length := by omega
      have hx := hist_at ids ds (k + 1) m hge
      rw [show k + 1 - 1 - m = k - m by omega] at hx
      have htk : (hist ids ds (k + 1)).take (m + 1) = (hist ids ds (k + 1)).take m ++ [((ids.getD (k - m) 0).toNat, (ds[k - m]?.map BV.b).getD [])] := by rw [List.take_add_one, hx]; rfl
      generalize hxv : ids.getD (k - m) 0 = x at *
      refine JoinP.of fun J2 hJ2 => ?_
      -- what the search tells
      refine ⟨fun is mm h' => h' = h8 ∧ ∃ j : Nat, mm = (j : Int) ∧ j ≤ seen.length ∧ is = seenB seen j x, fun _ mm _ => seen.length - mm.toNat, ⟨rfl, 0, rfl, by omega, rfl⟩, ?_⟩
      rintro _ _ h10 ⟨rfl, j, rfl, hj, rfl⟩
      obtain ⟨ia', e', icellx⟩ := iat K.up.fr hkm
      cases e'
      rw [hxv] at icellx
      have hlen := K.len
      by_cases hjl : j < seen.length
      · have q : (j : Int) < (sl : Int) := by omega
        simp only [q, decide_true, if_true, Int.toNat_natCast]
        have hsj : seen[j]? = some seen[j] := List.getElem?_eq_getElem hjl
        have hstep : seenB seen (j + 1) x = (seenB seen j x || decide (seen[j] = x)) := by
          unfold seenB
          rw [List.take_add_one, hsj, List.any_append]; simp
        refine JoinP.of fun J3 hJ3 => JoinP.of fun J4 hJ4 => ?_
        subst hJ4
        have fin : J3 (seenB seen (j + 1) x) h10 := by
          subst hJ3
          rw [wrap_id (by omega) (by omega)]
          refine ⟨⟨by first | trivial | rfl, j + 1, by omega, by omega, rfl⟩, ?_⟩
          show seen.length - Int.toNat ((j : Int) + 1) < seen.length - Int.toNat (j : Int); omega
        cases hsb : seenB seen j x with
        | true =>
          simp only [if_true]
          rw [hstep, hsb, Bool.true_or] at fin
          exact fin
        | false =>
          simp only [Bool.false_eq_true, if_false]
          obtain ⟨sb, soff, rfl⟩ := K.own.addr (by omega)
          have scell : hcell h10 ((⟨sb, soff, none⟩ : Addr).add (j * 1)) = some (.int .u8 (seen[j].toNat : Int)) := by
            rw [Nat.mul_one]; exact K.own.cell (bc_at hsj)
          refine ⟨⟨by first | trivial | omega, by first | trivial | omega⟩, onSome_some.2 ⟨_, scell, ⟨by first | trivial | omega, by first | trivial | omega⟩, onSome_some.2 ⟨_, icellx, ?_⟩⟩⟩
          have e : (((seen[j].toNat : Nat) : Int) == ((x.toNat : Nat) : Int)) = decide (seen[j] = x) := by
            by_cases q : seen[j] = x
            · simp [q]
            · have : ¬ ((seen[j].toNat : Nat) : Int) = ((x.toNat : Nat) : Int) := fun e => q (UInt8.toNat_inj.1 (by omega))
              rw [beq_eq_false_iff_ne.2 this, decide_eq_false q]
          rw [hstep, hsb, Bool.false_or] at fin
          rw [e]; exact fin
      · have q : ¬ (j : Int) < (sl : Int) := by omega
        simp only [q, decide_false, Bool.false_eq_true, if_false]
        have hall : seenB seen j x = decide (x.toNat ∈ (dedup ((hist ids ds (k + 1)).take m)).map (·.1)) := by
          unfold seenB
          rw [List.take_of_length_le (by omega), ← K.ids]
          by_cases hin : x ∈ seen
          · rw [decide_eq_true (List.mem_map_of_mem hin), List.any_eq_true]
            exact ⟨x, hin, by simp⟩
          · rw [decide_eq_false, List.any_eq_false]
            · intro y hy e
              exact hin (by have : y = x := by simpa using e
                            exact this ▸ hy)
            · intro hm
              obtain ⟨y, hy, e⟩ := List.mem_map.1 hm
              exact hin ((UInt8.toNat_inj.1 e) ▸ hy)
        have goJ2 : ∀ sp' sl' sc' h' seen', KS h h' t X7 ids ds (k + 1) sp' sl' sc' seen' (m + 1) → J2 sp' sl' sc' h' := by
          intro sp' sl' sc' h' seen' K'
          subst hJ2
          rw [wrap_id (by omega) (by omega)]
          refine ⟨⟨m + 1, seen', by omega, by omega, K'⟩, ?_⟩
          show (((k - m : Nat) : Int) - 1 + 1).toNat < (((k - m : Nat) : Int) + 1).toNat; omega
        clear hJ2
        have dnodup := dedup_nodup (hist ids ds (k + 1))
        cases hsb : seenB seen j x with
        | true =>
          simp only [if_true]
          rw [hsb] at hall
          have hin := of_decide_eq_true hall.symm
          refine goJ2 _ _ _ _ seen ⟨K.has, K.up, K.own, K.len, ?_, K.ge, K.ap⟩
          rw [htk, dedup_append]
          rw [dedup_ids, ← inIds_iff] at hin
          simp only [dedup, List.filter_nil, List.filter_cons, hin, Bool.not_true, Bool.false_eq_true, if_false, List.append_nil]
          exact K.ids
        | false =>
          simp only [Bool.false_eq_true, if_false]
          rw [hsb] at hall
          have hnin := of_decide_eq_false hall.symm
          have hnin2 : inIds ((hist ids ds (k + 1)).take m) x.toNat = false := by
            rw [dedup_ids, ← inIds_iff] at hnin
            simpa using hnin
          have hnew : dedup ((hist ids ds (k + 1)).take (m + 1)) = dedup ((hist ids ds (k + 1)).take m) ++ [(x.toNat, (ds[k - m]?.map BV.b).getD [])] := by
            rw [htk, dedup_append]
            simp only [dedup, List.filter_nil, List.filter_cons, hnin2, Bool.not_false, if_true]
          simp only [Int.toNat_natCast]
          refine ⟨⟨by first | trivial | omega, by first | trivial | omega⟩, onSome_some.2 ⟨_, icellx, ?_⟩⟩
          refine den_append1 tU uU K.own rfl (fun v hv => by simp at hv; subst hv; rfl) (by omega) (by omega) ?_
          intro p14 c14 h14 o14 f14 g14
          refine ⟨_, _, _, rfl, ⟨by first | trivial | omega, by first | trivial | omega⟩, ?_⟩
          have st14 : Step (inBlk sp) h10 (inBlk p14) h14 := ⟨f14, g14⟩
          have up14 := (⟨K.up.fr, K.ge⟩ : Up h (inBlk sp) h10).step st14
          have H14 := K.has.frame f14 (fun x hx hb => K.ap x hb hx)
          have ap14 : ∀ y, inBlk p14 y → ¬ (X7.M y ∨ X7.D y) := st14.apart K.ap (fun y hy => K.has.lt y hy)
          obtain ⟨ia', e', icell14⟩ := iat up14.fr hkm
          cases e'
          rw [hxv] at icell14
          refine onSome_some.2 ⟨_, icell14, ?_⟩
          have xlt := x.toNat_lt
          rw [wrap_u64_nat (n := x.toNat) (by omega)]
          have sl1 : (seen ++ [x]).length = sl + 1 := by rw [List.length_append, hlen]; rfl
          -- the place among all
          have hD : (dedup (hist ids ds (k + 1)))[seen.length]? = some (x.toNat, (ds[k - m]?.map BV.b).getD []) := by
            have hsl : seen.length = (dedup ((hist ids ds (k + 1)).take m)).length := by
              have := congrArg List.length K.ids; rwa [List.length_map, List.length_map] at this
            have : hist ids ds (k + 1) = (hist ids ds (k + 1)).take (m + 1) ++ (hist ids ds (k + 1)).drop (m + 1) := (List.take_append_drop _ _).symm
            rw [this, dedup_append, hnew, List.append_assoc, hsl]
            simp
          have hkept : keptA (ansA ids ds (k + 1)) 1 x.toNat = if seen.length < 6 then some ((ds[k - m]?.map BV.b).getD []) else none := keptL_rev dnodup hD
          have fin : ∀ h16, Fr (fun _ => False) h14 h16 → J2 p14 (sl + 1) c14 h16 := by
            intro h16 f16
            refine goJ2 _ _ _ _ (seen ++ [x]) ⟨H14.frame f16 (fun _ _ => id), ⟨up14.fr.tt f16, K.up.ge⟩, ?_, sl1.symm, ?_, up14.ge, ap14⟩
            · rw [bc_append]; exact o14.frame f16 (fun _ _ => id)
            · rw [hnew, List.map_append, List.map_append, K.ids]; rfl
          refine kept_ok x.toNat rfl H14 ok7 (fun b hb h15 p15 c15 o15 f15 g15 => ⟨_, _, _, _, rfl, JoinP.of fun J5 hJ5 => ?_⟩) (fun hn h15 f15 => ⟨_, _, _, _, rfl, JoinP.of fun J5 hJ5 => ?_⟩)
          · rw [hkept] at hb
            by_cases h6 : seen.length < 6
            · rw [if_pos h6] at hb
              have hb := Option.some.inj hb
              have q6 : ((sl + 1 : Nat) : Int) ≤ 6 := by omega
              simp only [q6, decide_true, beq_self_eq_true, Bool.not_true, Bool.false_eq_true, if_false, if_true]
              obtain ⟨da', dx', e', hdx', dcell', drow'⟩ := dat (up14.fr.tt f15) hkmd
              cases e'
              refine ⟨_, conv o15.row' rfl, ⟨by first | trivial | omega, by first | trivial | omega⟩, onSome_some.2 ⟨_, _, _, dcell', _, conv drow' rfl, ?_⟩⟩
              have : b = dx'.b := by rw [← hb, hdx']; rfl
              rw [this, beq_self_eq_true]
              subst hJ5
              simp only [Bool.not_true, Bool.false_eq_true, if_false]
              exact fin h15 f15
            · rw [if_neg h6] at hb; cases hb
          · rw [hkept] at hn
            by_cases h6 : seen.length < 6
            · rw [if_pos h6] at hn; cases hn
            · have q6 : ¬ ((sl + 1 : Nat) : Int) ≤ 6 := by omega
              simp only [q6, decide_false, beq_self_eq_true, Bool.not_true, Bool.false_eq_true, if_false]
              subst hJ5
              simp only [Bool.false_eq_true, if_false]
              exact fin h15 f15
    · have q : ¬ (k : Int) - (m : Int) ≥ 0 := by omega
      simp only [q, decide_false, Bool.false_eq_true, if_false]
      rw [wrap_id (by omega) (by omega)]
      refine ⟨⟨k + 1, X7, by omega, by omega, by omega, by omega, K.has, ok7, K.up⟩, ?_⟩
      show 60 - Int.toNat ((k : Int) + 1) < 60 - Int.toNat (k : Int); omega
  · by_cases q1 : (k : Int) < (ids.length : Int)
    · simp only [q1, decide_true, if_true]
      by_cases q2 : (k : Int) < (ds.length : Int)
      · have q3 : ¬ (k : Int) < 60 := by omega
        simp only [q2, q3, decide_true, decide_false, if_true]
        exact jend
      · simp only [q2, decide_false, Bool.false_eq_true, if_false]
        exact jend
    · simp only [q1, decide_false, Bool.false_eq_true, if_false]
      exact jend
end Ses
end Go.Proofs.Ytlnofnmdiddmkaa
