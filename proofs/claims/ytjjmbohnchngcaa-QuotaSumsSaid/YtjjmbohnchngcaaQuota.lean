/-
  What is proved here: what the functions of package quota do to a purse in memory, for every argument. No condition.
-/
import Derived.Test.YtjjmbohnchngcaaVcA
import Derived.Test.YtjjmbohnchngcaaHeap
namespace Go.Proofs.Ytjjmbohnchngcaa
open Go.Den
namespace Quota

theorem tm : MapTy Try.prog T.m_int_int (.int .i64 0) := .of T.int T.int .i64 (by kernel_rfl) (by kernel_rfl) (by kernel_rfl)

/-- p is a purse; what is taken of k is f k -/
def PurseAt (h : Heap) (p m : Nat) (W S A : Int) (f : Int → Int) : Prop :=
  h[p]? = some (.cells #[.int .i64 W, .int .i64 S, .map (some m), .int .i64 A] T.quota_Purse (0, 0)) ∧
  ∃ g : Int → Option Value, MapF h m g ∧ ∀ k, (g k).getD (.int .i64 0) = .int .i64 (f k)
/-- p is a purse that no call made -/
def PurseZero (h : Heap) (p : Nat) : Prop := ∃ W S A : Int, h[p]? = some (.cells #[.int .i64 W, .int .i64 S, .map none, .int .i64 A] T.quota_Purse (0, 0))

/-- the numbers are small -/
def Ok (W S A : Int) (f : Int → Int) : Prop := 1 ≤ S ∧ S ≤ W ∧ W ≤ 1048576 ∧ -2000000000000 ≤ A ∧ A ≤ W ∧ ∀ k, 0 ≤ f k ∧ f k ≤ S

variable {h : Heap} {p m : Nat} {W S A : Int} {f : Int → Int} {R : Value → Heap → Prop}

theorem PurseAt.frame {Q : Nat → Prop} {h' : Heap} (hp : PurseAt h p m W S A f) (hf : Fr Q h h') (h1 : ¬ Q p) (h2 : ¬ Q m) : PurseAt h' p m W S A f := by
  obtain ⟨hb, g, hg, hgf⟩ := hp
  exact ⟨hf.get hb h1, g, hg.frame hf h2, hgf⟩
theorem PurseAt.ne (hp : PurseAt h p m W S A f) : p ≠ m := by
  obtain ⟨hb, g, hg, _⟩ := hp
  obtain ⟨es, c, hm⟩ := hg.map
  rintro rfl
  rw [hb] at hm; cases hm
theorem PurseAt.lt (hp : PurseAt h p m W S A f) : p < h.size ∧ m < h.size := ⟨lt_of_get hp.1, by obtain ⟨_, g, hg, _⟩ := hp; exact hg.lt⟩
theorem PurseAt.ext {f' : Int → Int} (hp : PurseAt h p m W S A f) (he : ∀ k, f' k = f k) : PurseAt h p m W S A f' := by
  obtain ⟨hb, g, hg, hgf⟩ := hp
  exact ⟨hb, g, hg, fun k => by rw [he]; exact hgf k⟩
theorem PurseZero.frame {Q : Nat → Prop} {h' : Heap} (hp : PurseZero h p) (hf : Fr Q h h') (h1 : ¬ Q p) : PurseZero h' p := by
  obtain ⟨W, S, A, hb⟩ := hp
  exact ⟨W, S, A, hf.get hb h1⟩

theorem made_ok (hp : PurseAt h p m W S A f) (hk : R (.bool true) h) : CallsH Try.prog F.quota_Purse_made #[.pointer (some ⟨p, 0, none⟩)] h R :=
  quota_Purse_made.walk ⟨some m, cell_at hp.1 rfl, hk⟩
theorem made_zero (hp : PurseZero h p) (hk : R (.bool false) h) : CallsH Try.prog F.quota_Purse_made #[.pointer (some ⟨p, 0, none⟩)] h R := by
  obtain ⟨W, S, A, hb⟩ := hp
  exact quota_Purse_made.walk ⟨none, cell_at hb rfl, hk⟩
theorem made_nil (hk : R (.bool false) h) : CallsH Try.prog F.quota_Purse_made #[.pointer none] h R := quota_Purse_made.nil.walk hk

theorem look (hp : PurseAt h p m W S A f) (o : Int) : LookV Try.prog T.m_int_int (.map (some m)) (.int .i64 o) false h (.int .i64 (f o)) := by
  obtain ⟨_, g, hg, hgf⟩ := hp
  have := lookV_map tm hg o
  rw [hgf] at this
  exact this

theorem used_ok (hp : PurseAt h p m W S A f) (o : Int) (hk : R (.int .i64 (f o)) h) : CallsH Try.prog F.quota_Purse_Used #[.pointer (some ⟨p, 0, none⟩), .int .i64 o] h R :=
  quota_Purse_Used.walk (made_ok hp ⟨true, rfl, some m, cell_at hp.1 rfl, f o, look hp o, hk⟩)
theorem used_zero (hp : PurseZero h p) (o : Int) (hk : R (.int .i64 0) h) : CallsH Try.prog F.quota_Purse_Used #[.pointer (some ⟨p, 0, none⟩), .int .i64 o] h R :=
  quota_Purse_Used.walk (made_zero hp ⟨false, rfl, hk⟩)
theorem used_nil (o : Int) (hk : R (.int .i64 0) h) : CallsH Try.prog F.quota_Purse_Used #[.pointer none, .int .i64 o] h R :=
  quota_Purse_Used.nil.walk (made_nil ⟨false, rfl, hk⟩)
theorem all_ok (hp : PurseAt h p m W S A f) (hk : R (.int .i64 A) h) : CallsH Try.prog F.quota_Purse_All #[.pointer (some ⟨p, 0, none⟩)] h R :=
  quota_Purse_All.walk (made_ok hp ⟨true, rfl, A, cell_at hp.1 rfl, hk⟩)
theorem all_zero (hp : PurseZero h p) (hk : R (.int .i64 0) h) : CallsH Try.prog F.quota_Purse_All #[.pointer (some ⟨p, 0, none⟩)] h R :=
  quota_Purse_All.walk (made_zero hp ⟨false, rfl, hk⟩)

/-- owner and number may be -/
def may (o n : Int) : Bool := decide (1 ≤ o) && decide (o ≤ 1099511627776) && decide (0 ≤ n)
def askE (o n : Int) : Int := if may o n = true then 0 else 1
theorem may_iff {o n : Int} : may o n = true ↔ 1 ≤ o ∧ o ≤ 1099511627776 ∧ 0 ≤ n := by simp [may, and_assoc]

theorem ask_ok (hp : PurseAt h p m W S A f) (o n : Int) (hk : R (.int .i64 (askE o n)) h) : CallsH Try.prog F.quota_Purse_ask #[.pointer (some ⟨p, 0, none⟩), .int .i64 o, .int .i64 n] h R := by
  refine quota_Purse_ask.walk (made_ok hp ⟨true, rfl, ?_⟩)
  simp only [JoinP]
  unfold askE may at hk
  by_cases h1 : o < 1
  · simpa [h1, show ¬ 1 ≤ o by omega] using hk
  · by_cases h2 : o > 1099511627776
    · simpa [h1, h2, show ¬ o ≤ 1099511627776 by omega] using hk
    · by_cases h3 : n < 0
      · simpa [h1, h2, h3, show ¬ 0 ≤ n by omega] using hk
      · simpa [h1, h2, h3, show 1 ≤ o by omega, show o ≤ 1099511627776 by omega, show 0 ≤ n by omega] using hk
theorem ask_zero (hp : PurseZero h p) (o n : Int) (hk : R (.int .i64 6) h) : CallsH Try.prog F.quota_Purse_ask #[.pointer (some ⟨p, 0, none⟩), .int .i64 o, .int .i64 n] h R :=
  quota_Purse_ask.walk (made_zero hp ⟨false, rfl, hk⟩)
theorem ask_nil (o n : Int) (hk : R (.int .i64 6) h) : CallsH Try.prog F.quota_Purse_ask #[.pointer none, .int .i64 o, .int .i64 n] h R :=
  quota_Purse_ask.nil.walk (made_nil ⟨false, rfl, hk⟩)

/-- can n be taken by o? -/
def fits (W S A : Int) (f : Int → Int) (o n : Int) : Bool := may o n && decide (n ≤ S - f o) && decide (n ≤ W - A)
def takeE (W S A : Int) (f : Int → Int) (o n : Int) : Int := if may o n = true then (if fits W S A f o n = true then 0 else 15) else 1
def addF (f : Int → Int) (o n : Int) : Int → Int := fun k => if k = o then f k + n else f k

theorem fits_iff {o n : Int} : fits W S A f o n = true ↔ (1 ≤ o ∧ o ≤ 1099511627776 ∧ 0 ≤ n) ∧ n ≤ S - f o ∧ n ≤ W - A := by
  simp [fits, may_iff, and_assoc]
theorem takeE_ok {o n : Int} (hf : fits W S A f o n = true) : takeE W S A f o n = 0 := by
  have : may o n = true := may_iff.2 (fits_iff.1 hf).1
  simp [takeE, hf, this]
theorem takeE_zero {o n : Int} : takeE W S A f o n = 0 ↔ fits W S A f o n = true := by
  refine ⟨fun h => ?_, takeE_ok⟩
  unfold takeE at h
  split at h
  · split at h
    · assumption
    · cases h
  · cases h
theorem Ok.take {o n : Int} (ok : Ok W S A f) (hf : fits W S A f o n = true) : Ok W S (A + n) (addF f o n) := by
  obtain ⟨o1, o2, o3, o4, o5, o6⟩ := ok
  obtain ⟨⟨h1, h2, h3⟩, h4, h5⟩ := fits_iff.1 hf
  refine ⟨o1, o2, o3, by omega, by omega, fun k => ?_⟩
  have := o6 k
  unfold addF
  split
  · rename_i e; subst e; omega
  · exact this

theorem take_ok (hp : PurseAt h p m W S A f) (ok : Ok W S A f) (o n : Int)
    (k1 : fits W S A f o n = true → ∀ h', PurseAt h' p m W S (A + n) (addF f o n) → Fr (fun c => c = p ∨ c = m) h h' → R (.int .i64 0) h')
    (k2 : fits W S A f o n = false → R (.int .i64 (takeE W S A f o n)) h) :
    CallsH Try.prog F.quota_Purse_Take #[.pointer (some ⟨p, 0, none⟩), .int .i64 o, .int .i64 n] h R := by
  obtain ⟨o1, o2, o3, o4, o5, o6⟩ := ok
  have of := o6 o
  refine quota_Purse_Take.walk (ask_ok hp o n ⟨_, rfl, ?_⟩)
  unfold takeE at k2
  unfold askE
  cases hm : may o n with
  | false =>
    have := k2 (by simp [fits, hm])
    simpa [hm] using this
  | true =>
    have hm' := may_iff.1 hm
    simp only [if_true, bne_self_eq_false, Bool.false_eq_true, if_false, JoinP]
    refine ⟨S, cell_at hp.1 rfl, some m, cell_at hp.1 rfl, f o, look hp o, ?_⟩
    rw [wrap_id (by omega) (by omega)]
    by_cases h1 : n > S - f o
    · have hf : fits W S A f o n = false := by simp [fits, show ¬ n ≤ S - f o by omega]
      have := k2 hf
      simpa [h1, hm, hf] using this
    · simp only [h1, decide_false, Bool.false_eq_true, if_false]
      refine ⟨W, cell_at hp.1 rfl, A, cell_at hp.1 rfl, ?_⟩
      rw [wrap_id (by omega) (by omega)]
      by_cases h2 : n > W - A
      · have hf : fits W S A f o n = false := by simp [fits, show ¬ n ≤ W - A by omega]
        have := k2 hf
        simpa [h2, hm, hf] using this
      · have hf : fits W S A f o n = true := by simp [fits, hm, show n ≤ S - f o by omega, show n ≤ W - A by omega]
        simp only [h2, decide_false, Bool.false_eq_true, if_false]
        by_cases h3 : n > 0
        · simp only [h3, decide_true, if_true]
          refine ⟨some m, cell_at hp.1 rfl, f o, look hp o, ?_⟩
          rw [wrap_id (by omega) (by omega)]
          have hne := hp.ne
          obtain ⟨hb, g, hg, hgf⟩ := hp
          refine den_mapUpdateF tm hg ?_
          intro h4 hg4 hs4 ho4
          have hb4 := (ho4 p hne).trans hb
          refine ⟨A, cell_at hb4 rfl, ?_⟩
          rw [wrap_id (by omega) (by omega)]
          refine storeP_blk hb4 (by simp) ?_
          intro h5 hb5 hs5 ho5
          refine k1 hf h5 ⟨hb5, _, hg4.of_get (ho5 m (Ne.symm hne)), fun k => ?_⟩ (Fr.of_eq (by omega) fun c hc => ?_)
          · unfold addF
            by_cases hk : k = o
            · simp [hk]
            · simp [hk, hgf]
          · rw [ho5 c (fun e => hc (.inl e)), ho4 c (fun e => hc (.inr e))]
        · have hn0 : n = 0 := by omega
          simp only [h3, decide_false, Bool.false_eq_true, if_false]
          refine k1 hf h ?_ (Fr.refl _ _)
          subst hn0
          rw [Int.add_zero]
          exact hp.ext fun k => by unfold addF; split <;> omega
theorem take_zero (hp : PurseZero h p) (o n : Int) (hk : R (.int .i64 6) h) : CallsH Try.prog F.quota_Purse_Take #[.pointer (some ⟨p, 0, none⟩), .int .i64 o, .int .i64 n] h R :=
  quota_Purse_Take.walk (ask_zero hp o n ⟨6, rfl, hk⟩)
theorem take_nil (o n : Int) (hk : R (.int .i64 6) h) : CallsH Try.prog F.quota_Purse_Take #[.pointer none, .int .i64 o, .int .i64 n] h R :=
  quota_Purse_Take.nil.walk (ask_nil o n ⟨6, rfl, hk⟩)

theorem fits_ok (hp : PurseAt h p m W S A f) (ok : Ok W S A f) (o n : Int) (hk : R (.bool (fits W S A f o n)) h) : CallsH Try.prog F.quota_Purse_Fits #[.pointer (some ⟨p, 0, none⟩), .int .i64 o, .int .i64 n] h R := by
  obtain ⟨o1, o2, o3, o4, o5, o6⟩ := ok
  have of := o6 o
  refine quota_Purse_Fits.walk (ask_ok hp o n ⟨_, rfl, ?_⟩)
  unfold askE
  unfold fits at hk
  cases hm : may o n with
  | false => simpa [hm] using hk
  | true =>
    simp only [if_true, beq_self_eq_true]
    refine ⟨S, cell_at hp.1 rfl, some m, cell_at hp.1 rfl, f o, look hp o, ?_⟩
    rw [wrap_id (by omega) (by omega)]
    by_cases h1 : n ≤ S - f o
    · simp only [h1, decide_true, if_true]
      refine ⟨W, cell_at hp.1 rfl, A, cell_at hp.1 rfl, ?_⟩
      rw [wrap_id (by omega) (by omega)]
      simpa [hm, h1] using hk
    · simpa [hm, h1] using hk
theorem fits_zero (hp : PurseZero h p) (o n : Int) (hk : R (.bool false) h) : CallsH Try.prog F.quota_Purse_Fits #[.pointer (some ⟨p, 0, none⟩), .int .i64 o, .int .i64 n] h R :=
  quota_Purse_Fits.walk (ask_zero hp o n ⟨6, rfl, hk⟩)
theorem fits_nil (o n : Int) (hk : R (.bool false) h) : CallsH Try.prog F.quota_Purse_Fits #[.pointer none, .int .i64 o, .int .i64 n] h R :=
  quota_Purse_Fits.nil.walk (ask_nil o n ⟨6, rfl, hk⟩)

def gives (f : Int → Int) (o n : Int) : Bool := may o n && decide (n ≤ f o)
def giveE (f : Int → Int) (o n : Int) : Int := if may o n = true then (if gives f o n = true then 0 else 7) else 1
theorem gives_iff {o n : Int} : gives f o n = true ↔ (1 ≤ o ∧ o ≤ 1099511627776 ∧ 0 ≤ n) ∧ n ≤ f o := by simp [gives, may_iff, and_assoc]

theorem give_ok (hp : PurseAt h p m W S A f) (ok : Ok W S A f) (o n : Int)
    (k1 : gives f o n = true → ∀ h', PurseAt h' p m W S (A - n) (addF f o (-n)) → Fr (fun c => c = p ∨ c = m) h h' → R (.int .i64 0) h')
    (k2 : gives f o n = false → R (.int .i64 (giveE f o n)) h) :
    CallsH Try.prog F.quota_Purse_Give #[.pointer (some ⟨p, 0, none⟩), .int .i64 o, .int .i64 n] h R := by
  obtain ⟨o1, o2, o3, o4, o5, o6⟩ := ok
  have of := o6 o
  refine quota_Purse_Give.walk (ask_ok hp o n ⟨_, rfl, ?_⟩)
  unfold giveE at k2
  unfold askE
  cases hm : may o n with
  | false =>
    have := k2 (by simp [gives, hm])
    simpa [hm] using this
  | true =>
    have hm' := may_iff.1 hm
    simp only [if_true, bne_self_eq_false, Bool.false_eq_true, if_false]
    refine ⟨some m, cell_at hp.1 rfl, f o, look hp o, ?_⟩
    by_cases h1 : n > f o
    · have hf : gives f o n = false := by simp [gives, show ¬ n ≤ f o by omega]
      have := k2 hf
      simpa [h1, hm, hf] using this
    · have hf : gives f o n = true := by simp [gives, hm, show n ≤ f o by omega]
      simp only [h1, decide_false, Bool.false_eq_true, if_false]
      have hne := hp.ne
      obtain ⟨hb, g, hg, hgf⟩ := hp
      refine ⟨A, cell_at hb rfl, ?_⟩
      rw [wrap_id (by omega) (by omega)]
      refine storeP_blk hb (by simp) ?_
      intro h2 hb2 hs2 ho2
      have hg2 := hg.of_get (ho2 m (Ne.symm hne))
      have hp2 : PurseAt h2 p m W S (A - n) f := ⟨hb2, g, hg2, hgf⟩
      refine ⟨some m, cell_at hb2 rfl, f o, look hp2 o, ?_⟩
      rw [wrap_id (by omega) (by omega)]
      refine den_mapUpdateF tm hg2 ?_
      intro h3 hg3 hs3 ho3
      have hb3 := (ho3 p hne).trans hb2
      have hp3 : PurseAt h3 p m W S (A - n) (addF f o (-n)) := ⟨hb3, _, hg3, fun k => by
        unfold addF
        by_cases hk : k = o
        · simp [hk, Int.sub_eq_add_neg]
        · simp [hk, hgf]⟩
      have hfr3 : Fr (fun c => c = p ∨ c = m) h h3 := Fr.of_eq (by omega) fun c hc => by rw [ho3 c (fun e => hc (.inr e)), ho2 c (fun e => hc (.inl e))]
      have hl := look hp3 o
      refine ⟨some m, cell_at hb3 rfl, addF f o (-n) o, hl, ?_⟩
      simp only [JoinP]
      by_cases hz : addF f o (-n) o = 0
      · simp only [hz, beq_self_eq_true, if_true]
        refine ⟨some m, cell_at hb3 rfl, ?_⟩
        refine den_deleteF tm hg3 ?_
        intro h5 hg5 hs5 ho5
        refine ⟨rfl, k1 hf h5 ⟨(ho5 p hne).trans hb3, _, hg5, fun k => ?_⟩ (Fr.of_eq (by omega) fun c hc => ?_)⟩
        · by_cases hk : k = o
          · subst hk; simp [hz]
          · simp [hk, hgf, addF]
        · rw [ho5 c (fun e => hc (.inr e)), ho3 c (fun e => hc (.inr e)), ho2 c (fun e => hc (.inl e))]
      · have hz' : (addF f o (-n) o == 0) = false := by simpa using hz
        simp only [hz', Bool.false_eq_true, if_false]
        exact k1 hf h3 hp3 hfr3
theorem give_zero (hp : PurseZero h p) (o n : Int) (hk : R (.int .i64 6) h) : CallsH Try.prog F.quota_Purse_Give #[.pointer (some ⟨p, 0, none⟩), .int .i64 o, .int .i64 n] h R :=
  quota_Purse_Give.walk (ask_zero hp o n ⟨6, rfl, hk⟩)
theorem give_nil (o n : Int) (hk : R (.int .i64 6) h) : CallsH Try.prog F.quota_Purse_Give #[.pointer none, .int .i64 o, .int .i64 n] h R :=
  quota_Purse_Give.nil.walk (ask_nil o n ⟨6, rfl, hk⟩)

/-- may a purse be made? -/
def newOk (W S : Int) : Bool := decide (1 ≤ W) && decide (W ≤ 1048576) && decide (1 ≤ S) && decide (S ≤ W)
theorem newOk_iff : newOk W S = true ↔ 1 ≤ W ∧ W ≤ 1048576 ∧ 1 ≤ S ∧ S ≤ W := by simp [newOk, and_assoc]
theorem new_ok (W S : Int) {h : Heap}
    (k1 : newOk W S = true → ∀ h' p m, PurseAt h' p m W S 0 (fun _ => 0) → h.size ≤ p → h.size ≤ m → Fr (fun _ => False) h h' → R (.tuple #[.pointer (some ⟨p, 0, none⟩), .int .i64 0]) h')
    (k2 : newOk W S = false → R (.tuple #[.pointer none, .int .i64 1]) h) : CallsH Try.prog F.quota_New #[.int .i64 W, .int .i64 S] h R := by
  refine quota_New.walk ?_
  unfold quota_New.vc
  simp only [JoinP]
  by_cases h1 : W < 1
  · simpa only [h1, decide_true, if_true] using k2 (by simp [newOk, show ¬ 1 ≤ W by omega])
  · simp only [h1, decide_false, Bool.false_eq_true, if_false]
    by_cases h2 : W > 1048576
    · simpa only [h2, decide_true, if_true] using k2 (by simp [newOk, show ¬ W ≤ 1048576 by omega])
    · simp only [h2, decide_false, Bool.false_eq_true, if_false]
      by_cases h3 : S < 1
      · simpa only [h3, decide_true, if_true] using k2 (by simp [newOk, show ¬ 1 ≤ S by omega])
      · simp only [h3, decide_false, Bool.false_eq_true, if_false]
        by_cases h4 : S > W
        · simpa only [h4, decide_true, if_true] using k2 (by simp [newOk, show ¬ S ≤ W by omega])
        · simp only [h4, decide_false, Bool.false_eq_true, if_false]
          rintro b h2' rfl rfl b1 h3' rfl rfl
          refine k1 (newOk_iff.2 (by omega)) _ _ h.size ⟨push_new, fun _ => none, ?_, fun _ => rfl⟩ (by simp) (by simp) ?_
          · exact (MapF.push h).frame (Fr.push (S := fun _ => False) _ _) (by simp)
          · exact (Fr.push (S := fun _ => False) h _).trans (Fr.push (S := fun _ => False) _ _) (fun _ _ hx => hx) (fun _ _ hx => hx)
theorem Ok.new (hn : newOk W S = true) : Ok W S 0 (fun _ => 0) := by
  have := newOk_iff.1 hn
  exact ⟨by omega, by omega, by omega, by omega, by omega, fun _ => ⟨Int.le_refl 0, by show (0 : Int) ≤ S; omega⟩⟩

end Quota
end Go.Proofs.Ytjjmbohnchngcaa
