/-
  What is proved here: what the functions of package pigeonloftref25 do to a purse in memory, for purses of at most a million deals of at most 2^20 bytes.
-/
import Derived.Test.YtjjmbohnchngcaaVcB
import Derived.Test.YtjjmbohnchngcaaSlice
import Derived.Test.YtjjmbohnchngcaaQuota
namespace Go.Proofs.Ytjjmbohnchngcaa
open Go.Den
namespace Ref25
open Quota (may may_iff)

/-- a list of deals, as cells -/
def cellsD : List (Int × Int) → List Value
  | [] => []
  | d :: l => .int .i64 d.1 :: .int .i64 d.2 :: cellsD l
theorem cellsD_len : ∀ l, (cellsD l).length = l.length * 2
  | [] => rfl
  | d :: l => by simp [cellsD, cellsD_len l]; omega
theorem cellsD_app : ∀ l l', cellsD (l ++ l') = cellsD l ++ cellsD l'
  | [], _ => rfl
  | d :: l, l' => by simp [cellsD, cellsD_app l l']
theorem cellsD_at : ∀ (l : List (Int × Int)) (i : Nat) (d : Int × Int), l[i]? = some d → (cellsD l)[i * 2]? = some (.int .i64 d.1) ∧ (cellsD l)[i * 2 + 1]? = some (.int .i64 d.2)
  | [], i, d, h => by simp at h
  | e :: l, 0, d, h => by simp at h; subst h; exact ⟨rfl, rfl⟩
  | e :: l, i + 1, d, h => by
    have := cellsD_at l i d (by simpa using h)
    rw [show (i + 1) * 2 = i * 2 + 1 + 1 by omega]
    simpa [cellsD] using this

/-- what is taken of an owner (0: of all) -/
def part (o : Int) (d : Int × Int) : Int := if o = 0 ∨ d.1 = o then d.2 else 0
def usedOf (l : List (Int × Int)) (o : Int) : Int := (l.map (part o)).sum
theorem usedOf_snoc (l : List (Int × Int)) (d : Int × Int) (o : Int) : usedOf (l ++ [d]) o = usedOf l o + part o d := by
  simp [usedOf]
def Small (l : List (Int × Int)) : Prop := l.length ≤ 1000000 ∧ ∀ d ∈ l, -1048576 ≤ d.2 ∧ d.2 ≤ 1048576
theorem part_small {o : Int} {d : Int × Int} (h : -1048576 ≤ d.2 ∧ d.2 ≤ 1048576) : -1048576 ≤ part o d ∧ part o d ≤ 1048576 := by
  unfold part; split <;> omega
theorem used_small (o : Int) : ∀ (l : List (Int × Int)), (∀ d ∈ l, -1048576 ≤ d.2 ∧ d.2 ≤ 1048576) → -(1048576 * (l.length : Int)) ≤ usedOf l o ∧ usedOf l o ≤ 1048576 * (l.length : Int)
  | [], _ => by simp [usedOf]
  | d :: l, h => by
    have h1 := used_small o l (fun e he => h e (List.mem_cons_of_mem _ he))
    have h2 := part_small (o := o) (h d List.mem_cons_self)
    have : usedOf (d :: l) o = part o d + usedOf l o := by simp [usedOf]
    rw [this, List.length_cons]
    omega
theorem Small.used {l : List (Int × Int)} (h : Small l) (o : Int) (j : Nat) : -1048576000000 ≤ usedOf (l.take j) o ∧ usedOf (l.take j) o ≤ 1048576000000 := by
  have h1 := used_small o (l.take j) (fun d hd => h.2 d (List.mem_of_mem_take hd))
  have h2 : (l.take j).length ≤ l.length := List.length_take_le' _ _
  have := h.1
  omega

/-- x is a purse of the reference -/
structure RefAt (h : Heap) (x : Nat) (pL : Option Addr) (cap : Nat) (W S : Int) (l : List (Int × Int)) : Prop where
  blk : h[x]? = some (.cells #[.int .i64 W, .int .i64 S, .slice pL l.length cap] T.ref25_Purse (0, 0))
  own : Own h pL l.length cap 2 (cellsD l)
  ne : ∀ c, inBlk pL c → c ≠ x

variable {h : Heap} {x : Nat} {pL : Option Addr} {cap : Nat} {W S : Int} {l : List (Int × Int)} {R : Value → Heap → Prop}

theorem RefAt.frame {Q : Nat → Prop} {h' : Heap} (hx : RefAt h x pL cap W S l) (hf : Fr Q h h') (h1 : ¬ Q x) (h2 : ∀ c, inBlk pL c → ¬ Q c) : RefAt h' x pL cap W S l :=
  ⟨hf.get hx.blk h1, hx.own.frame hf h2, hx.ne⟩

theorem deal_at (hx : RefAt h x pL cap W S l) {i : Nat} {d : Int × Int} (hd : l[i]? = some d) : ∃ a, pL = some a ∧ hcell h (a.add (i * 2)) = some (.int .i64 d.1) ∧ hcell h ((a.add (i * 2)).add 1) = some (.int .i64 d.2) := by
  obtain ⟨h1, h2⟩ := cellsD_at l i d hd
  have hr := hx.own.row'
  obtain ⟨a, rfl⟩ := hr.some (fun e => by rw [e] at h1; simp at h1)
  refine ⟨a, rfl, hr.cell h1, ?_⟩
  rw [add_add]
  exact hr.cell h2

/-- the loop of Used -/
def UsedI (h : Heap) (l : List (Int × Int)) (o : Int) (n i : Int) (h' : Heap) : Prop := h = h' ∧ ∃ j : Nat, i = (j : Int) ∧ j ≤ l.length ∧ n = usedOf (l.take j) o
theorem used_ok (hx : RefAt h x pL cap W S l) (hs : Small l) (o : Int) (hk : R (.int .i64 (usedOf l o)) h) : CallsH Try.prog F.ref25_Purse_Used #[.pointer (some ⟨x, 0, none⟩), .int .i64 o] h R := by
  refine ref25_Purse_Used.walk ?_
  refine ⟨UsedI h l o, fun _ i _ => l.length - i.toNat, ⟨rfl, 0, rfl, Nat.zero_le _, rfl⟩, ?_⟩
  rintro n i h' ⟨rfl, j, rfl, hj, rfl⟩
  have hl := hs.1
  refine ⟨pL, l.length, cap, cell_at hx.blk rfl, ?_⟩
  by_cases hlt : j < l.length
  · have hd : l[j]? = some l[j] := List.getElem?_eq_getElem hlt
    obtain ⟨a, rfl, c1, c2⟩ := deal_at hx hd
    have hd2 := hs.2 _ (List.getElem_mem hlt)
    have hu := hs.used o j
    have hstep : usedOf (l.take (j + 1)) o = usedOf (l.take j) o + part o l[j] := by
      rw [List.take_succ_eq_append_getElem hlt, usedOf_snoc]
    have hw : IntKind.wrap .i64 ((j : Int) + 1) = ((j + 1 : Nat) : Int) := by rw [wrap_id (by omega) (by omega)]; omega
    have next : ∀ n', n' = usedOf (l.take (j + 1)) o → (UsedI h l o n' (IntKind.wrap .i64 ((j : Int) + 1)) h ∧ l.length - (IntKind.wrap .i64 ((j : Int) + 1)).toNat < l.length - ((j : Int)).toNat) := by
      intro n' hn'
      rw [hw]
      exact ⟨⟨rfl, j + 1, rfl, hlt, hn'⟩, by simp; omega⟩
    rw [if_pos (by simpa using hlt)]
    simp only [JoinP]
    by_cases ho : o = 0
    · subst ho
      simp only [beq_self_eq_true, if_true]
      refine ⟨some a, l.length, cap, cell_at hx.blk rfl, ⟨by omega, by omega⟩, l[j].2, by simpa using c2, ?_⟩
      refine next _ ?_
      rw [hstep, wrap_id (by omega) (by omega)]
      simp [part]
    · have hob : (o == 0) = false := by simpa using ho
      simp only [hob, Bool.false_eq_true, if_false]
      refine ⟨some a, l.length, cap, cell_at hx.blk rfl, ⟨by omega, by omega⟩, l[j].1, by simpa using c1, ?_⟩
      by_cases he : l[j].1 = o
      · simp only [he, beq_self_eq_true, if_true]
        refine ⟨some a, l.length, cap, cell_at hx.blk rfl, ⟨by omega, by omega⟩, l[j].2, by simpa using c2, ?_⟩
        refine next _ ?_
        rw [hstep, wrap_id (by omega) (by omega)]
        simp [part, he]
      · have heb : (l[j].1 == o) = false := by simpa using he
        simp only [heb, Bool.false_eq_true, if_false]
        refine next _ ?_
        rw [hstep]
        simp [part, he, ho]
  · have : j = l.length := by omega
    subst this
    rw [if_neg (by simp)]
    rw [List.take_length]
    exact hk

def takeE (W S : Int) (l : List (Int × Int)) (o n : Int) : Int :=
  if may o n = true then (if n ≤ S - usedOf l o ∧ n ≤ W - usedOf l 0 then 0 else 15) else 1
def giveE (l : List (Int × Int)) (o n : Int) : Int :=
  if may o n = true then (if n ≤ usedOf l o then 0 else 7) else 1

theorem slD : SlTy Try.prog T.s_ref25_Deal T.ref25_Deal 2 16 (.agg #[.int .i64 0, .int .i64 0]) := ⟨by kernel_rfl, by kernel_rfl, rfl⟩

/-- a deal is appended -/
theorem push_deal (hx : RefAt h x pL cap W S l) (hs : Small l) (o n : Int) {K : Value → Heap → Prop}
    (hk : ∀ h' pL' cap', RefAt h' x pL' cap' W S (l ++ [(o, n)]) → Own h' pL l.length cap 2 (cellsD l) → Fr (fun c => c = x ∨ inBlk pL c) h h' → (∀ c, inBlk pL' c → inBlk pL c ∨ h.size ≤ c) → K (.int .i64 0) h') :
    NewP h (.cells #[.int .i64 o, .int .i64 n] T.ref25_Deal) fun b h1 =>
      denSem Try.prog (Builtin.append_ #[T.s_ref25_Deal, T.s_ref25_Deal] T.s_ref25_Deal #[.slice pL l.length cap, .slice (some ⟨b, 0, none⟩) 1 1]) h1 fun v h2 =>
        ∃ (p : Option Addr) (a c : Nat), v = .slice p a c ∧ StoreP h2 ⟨x, 2, none⟩ (.slice p a c) fun h3 => K (.int .i64 0) h3 := by
  rintro b h1 rfl rfl
  have hfr1 : Fr (fun _ => False) h (h.push (.cells #[.int .i64 o, .int .i64 n] T.ref25_Deal)) := Fr.push _ _
  have own1 := hx.own.frame hfr1 (fun _ _ => id)
  have hl := hs.1
  refine den_append (n := 1) (cq := 1) (ds := [.int .i64 o, .int .i64 n]) slD (eT := T.ref25_Deal) (by kernel_rfl) own1 (.inr ⟨_, rfl, heldL_blk push_new (fun j v hj => by simpa using hj)⟩) rfl (by simp [oneCell]) (by omega) (by omega) ?_
  intro p' cap' h' own' ownL hfr hnew
  have hxblk : h'[x]? = some (.cells #[.int .i64 W, .int .i64 S, .slice pL l.length cap] T.ref25_Purse (0, 0)) := hfr.get (hfr1.get hx.blk id) (fun hc => hx.ne x hc rfl)
  refine ⟨p', _, cap', rfl, storeP_blk hxblk (by simp) ?_⟩
  intro h3 hb3 hs3 ho3
  have hxlt : x < h.size := lt_of_get hx.blk
  have hne' : ∀ c, inBlk p' c → c ≠ x := fun c hc e => by
    rcases hnew c hc with hc' | hc'
    · exact hx.ne c hc' e
    · simp at hc'; omega
  have hfr3 : Fr (fun c => c = x) h' h3 := Fr.of_eq hs3 fun c hc => ho3 c hc
  refine hk h3 p' cap' ⟨by simpa using hb3, ?_, hne'⟩ (ownL.frame hfr3 (fun c hc => hx.ne c hc)) ?_ ?_
  · have := own'.frame hfr3 (fun c hc => hne' c hc)
    rw [cellsD_app, List.length_append]
    exact this
  · exact (hfr1.trans hfr (S'' := fun c => c = x ∨ inBlk pL c) (fun _ _ hc => hc.elim) (fun c _ hc => .inr hc)).trans hfr3 (fun _ _ hc => hc) (fun _ _ hc => .inl hc)
  · intro c hc
    rcases hnew c hc with hc' | hc'
    · exact .inl hc'
    · exact .inr (by simp at hc'; omega)

theorem take_ok (hx : RefAt h x pL cap W S l) (hs : Small l) (hW : 0 ≤ W ∧ W ≤ 1048576) (hS : 0 ≤ S ∧ S ≤ 1048576) (o n : Int)
    (k1 : takeE W S l o n = 0 → ∀ h' pL' cap', RefAt h' x pL' cap' W S (l ++ [(o, n)]) → Own h' pL l.length cap 2 (cellsD l) → Fr (fun c => c = x ∨ inBlk pL c) h h' → (∀ c, inBlk pL' c → inBlk pL c ∨ h.size ≤ c) → R (.int .i64 0) h')
    (k2 : takeE W S l o n ≠ 0 → R (.int .i64 (takeE W S l o n)) h) : CallsH Try.prog F.ref25_Purse_Take #[.pointer (some ⟨x, 0, none⟩), .int .i64 o, .int .i64 n] h R := by
  have hu := hs.used o l.length
  have hu0 := hs.used 0 l.length
  rw [List.take_length] at hu hu0
  refine ref25_Purse_Take.walk ?_
  unfold ref25_Purse_Take.vc
  simp only [JoinP]
  unfold takeE at k1 k2
  have bad : may o n = false → R (.int .i64 1) h := fun hm => by
    have := k2 (by simp [hm]); simpa [hm] using this
  by_cases h1 : o < 1
  · simpa [h1] using bad (by simp [may, show ¬ 1 ≤ o by omega])
  · simp only [h1, decide_false, Bool.false_eq_true, if_false]
    by_cases h2 : o > 1099511627776
    · simpa [h2] using bad (by simp [may, show ¬ o ≤ 1099511627776 by omega])
    · simp only [h2, decide_false, Bool.false_eq_true, if_false]
      by_cases h3 : n < 0
      · simpa [h3] using bad (by simp [may, show ¬ 0 ≤ n by omega])
      · simp only [h3, decide_false, Bool.false_eq_true, if_false]
        have hm : may o n = true := may_iff.2 (by omega)
        simp only [hm, if_true] at k1 k2
        refine ⟨S, cell_at hx.blk rfl, used_ok hx hs o ⟨_, rfl, cell_at hx.blk rfl, ?_⟩⟩
        rw [wrap_id (by omega) (by omega)]
        by_cases h4 : n > S - usedOf l o
        · have hc : ¬ (n ≤ S - usedOf l o ∧ n ≤ W - usedOf l 0) := by omega
          have := k2 (by rw [if_neg hc]; simp)
          rw [if_neg hc] at this
          simpa [h4] using this
        · simp only [h4, decide_false, Bool.false_eq_true, if_false]
          refine ⟨W, cell_at hx.blk rfl, used_ok hx hs 0 ⟨_, rfl, cell_at hx.blk rfl, cell_at hx.blk rfl, ?_⟩⟩
          rw [wrap_id (by omega) (by omega)]
          by_cases h5 : n > W - usedOf l 0
          · have hc : ¬ (n ≤ S - usedOf l o ∧ n ≤ W - usedOf l 0) := by omega
            have := k2 (by rw [if_neg hc]; simp)
            rw [if_neg hc] at this
            simpa [h5] using this
          · simp only [h5, decide_false, Bool.false_eq_true, if_false]
            have hc : n ≤ S - usedOf l o ∧ n ≤ W - usedOf l 0 := by omega
            exact ⟨pL, l.length, cap, cell_at hx.blk rfl, push_deal hx hs o n (k1 (if_pos hc))⟩

theorem give_ok (hx : RefAt h x pL cap W S l) (hs : Small l) (o n : Int)
    (k1 : giveE l o n = 0 → ∀ h' pL' cap', RefAt h' x pL' cap' W S (l ++ [(o, -n)]) → Own h' pL l.length cap 2 (cellsD l) → Fr (fun c => c = x ∨ inBlk pL c) h h' → (∀ c, inBlk pL' c → inBlk pL c ∨ h.size ≤ c) → R (.int .i64 0) h')
    (k2 : giveE l o n ≠ 0 → R (.int .i64 (giveE l o n)) h) : CallsH Try.prog F.ref25_Purse_Give #[.pointer (some ⟨x, 0, none⟩), .int .i64 o, .int .i64 n] h R := by
  have hu := hs.used o l.length
  rw [List.take_length] at hu
  refine ref25_Purse_Give.walk ?_
  unfold ref25_Purse_Give.vc
  simp only [JoinP]
  unfold giveE at k1 k2
  have bad : may o n = false → R (.int .i64 1) h := fun hm => by
    have := k2 (by simp [hm]); simpa [hm] using this
  by_cases h1 : o < 1
  · simpa [h1] using bad (by simp [may, show ¬ 1 ≤ o by omega])
  · simp only [h1, decide_false, Bool.false_eq_true, if_false]
    by_cases h2 : o > 1099511627776
    · simpa [h2] using bad (by simp [may, show ¬ o ≤ 1099511627776 by omega])
    · simp only [h2, decide_false, Bool.false_eq_true, if_false]
      by_cases h3 : n < 0
      · simpa [h3] using bad (by simp [may, show ¬ 0 ≤ n by omega])
      · simp only [h3, decide_false, Bool.false_eq_true, if_false]
        have hm : may o n = true := may_iff.2 (by omega)
        simp only [hm, if_true] at k1 k2
        refine used_ok hx hs o ⟨_, rfl, ?_⟩
        by_cases h4 : n > usedOf l o
        · have hc : ¬ (n ≤ usedOf l o) := by omega
          have := k2 (by rw [if_neg hc]; simp)
          rw [if_neg hc] at this
          simpa [h4] using this
        · simp only [h4, decide_false, Bool.false_eq_true, if_false]
          have hc : n ≤ usedOf l o := by omega
          rw [wrap_id (by omega) (by omega), show (0 : Int) - n = -n by omega]
          exact ⟨pL, l.length, cap, cell_at hx.blk rfl, push_deal hx hs o (-n) (k1 (if_pos hc))⟩

end Ref25
end Go.Proofs.Ytjjmbohnchngcaa
