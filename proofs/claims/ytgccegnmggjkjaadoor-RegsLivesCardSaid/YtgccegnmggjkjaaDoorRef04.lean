/-
  What is proved here: the document's endpoints (package ref04): Plain, Class, Kind, Less, Digits, Text. No condition.
-/
import Derived.Test.YtgccegnmggjkjaaDoorEidC
import Derived.Test.YtgccegnmggjkjaaDoorVcT
set_option maxRecDepth 100000
namespace Go.Proofs.YtgccegnmggjkjaaDoor
open Go.Den
namespace Eid
variable {h h' : Heap} {R : Value → Heap → Prop}
theorem pl_nat (more c : UInt8) : pl more c = ((decide ((97 : Int) ≤ (c.toNat : Int)) && decide ((c.toNat : Int) ≤ 122)) || (decide ((48 : Int) ≤ (c.toNat : Int)) && decide ((c.toNat : Int) ≤ 57)) || decide ((c.toNat : Int) = 45) || decide ((c.toNat : Int) = (more.toNat : Int))) := by
  have e : ∀ a : UInt8, decide (a ≤ c) = decide ((a.toNat : Int) ≤ (c.toNat : Int)) := fun a => decide_eq_decide.2 ⟨fun h => by have := UInt8.le_iff_toNat_le.1 h; omega, fun h => UInt8.le_iff_toNat_le.2 (by omega)⟩
  have e' : ∀ a : UInt8, decide (c ≤ a) = decide ((c.toNat : Int) ≤ (a.toNat : Int)) := fun a => decide_eq_decide.2 ⟨fun h => by have := UInt8.le_iff_toNat_le.1 h; omega, fun h => UInt8.le_iff_toNat_le.2 (by omega)⟩
  have e2 : ∀ a : UInt8, (c == a) = decide ((c.toNat : Int) = (a.toNat : Int)) := fun a => by
    rw [Bool.eq_iff_iff]
    simp only [beq_iff_eq, decide_eq_true_eq]
    exact ⟨fun h => by rw [h], fun h => UInt8.toNat_inj.1 (by omega)⟩
  unfold pl
  rw [e, e, e', e', e2, e2]
  rfl
theorem rplain_ok {s : ByteArray} (slash : Bool) (hs : s.size ≤ 1000000) (hk : R (.bool (plainB (if slash then 47 else 45) s)) h) : CallsH Tryd.prog F.ref04_Plain #[.string s, .bool slash] h R := by
  refine ref04_Plain.walk ⟨fun i g => g = h ∧ ∃ j : Nat, i = (j : Int) ∧ j ≤ s.size ∧ (s.data.toList.take j).all (pl (if slash then 47 else 45)) = true, fun i _ => s.size - i.toNat, ⟨rfl, 0, rfl, Nat.zero_le _, by simp⟩, ?_⟩
  rintro _ g ⟨rfl, j, rfl, hj, hall⟩
  have hsz : s.data.toList.length = s.size := by rw [Array.length_toList]; rfl
  by_cases hlt : j < s.size
  · rw [if_pos (decide_eq_true (by omega))]
    refine ⟨⟨by omega, by omega⟩, JoinP.of fun J hJ => ?_⟩
    rw [Int.toNat_natCast]
    obtain ⟨c, hc⟩ : ∃ c, s.data.toList[j]? = some c := ⟨_, List.getElem?_eq_getElem (by omega)⟩
    have hd : s.data.toList.getD j 0 = c := by rw [List.getD_eq_getElem?_getD, hc]; rfl
    rw [hd]
    have good : pl (if slash then 47 else 45) c = true → J false g := fun hp => by
      subst hJ
      dsimp only
      rw [if_neg (by decide), wrap_id (by omega) (by omega)]
      refine ⟨⟨rfl, j + 1, by omega, by omega, ?_⟩, by show s.size - Int.toNat ((j : Int) + 1) < s.size - j; omega⟩
      rw [List.take_add_one, hc, List.all_append, hall]
      simp [hp]
    have bad : pl (if slash then 47 else 45) c = false → J true g := fun hp => by
      subst hJ
      dsimp only
      rw [if_pos rfl]
      have : plainB (if slash then 47 else 45) s = false := by
        unfold plainB
        rw [List.all_eq_false]
        exact ⟨c, List.mem_of_getElem? hc, by rw [hp]; decide⟩
      rw [this] at hk
      exact hk
    clear hJ
    rw [pl_nat] at good bad
    generalize (c.toNat : Int) = x at good bad
    have dec : ∀ b : Bool, (((decide ((97 : Int) ≤ x) && decide (x ≤ 122)) || (decide ((48 : Int) ≤ x) && decide (x ≤ 57)) || decide (x = 45) || decide (x = (((if slash then (47 : UInt8) else 45).toNat : Nat) : Int))) = !b) → J b g := fun b hb => by
      cases b with
      | false => exact good hb
      | true => exact bad hb
    clear good bad
    cases slash <;> (repeat' split) <;> refine dec _ ?_ <;> simp_all <;> first | omega | (rw [Bool.eq_iff_iff]; simp only [Bool.or_eq_true, Bool.and_eq_true, decide_eq_true_eq, beq_iff_eq]; omega)
  · rw [if_neg (by simp; omega)]
    obtain rfl : j = s.size := by omega
    rw [List.take_of_length_le (by omega)] at hall
    unfold plainB at hk
    rw [hall] at hk
    exact hk
theorem as_ok (x : Ev) (hk : ∀ h', Fr (fun _ => False) h h' → R (ev5 x) h') : CallsH Tryd.prog F.law04_As #[ev5 x] h R := by
  refine law04_As.walk (eid_Eid.box fun b h1 e1 hb1 f1 => ref04_Eid.box fun b2 h2 e2 hb2 f2 => ?_)
  have hb := f2.get hb1 id
  refine ⟨_, cell_at hb rfl, _, cell_at hb rfl, _, cell_at hb rfl, _, cell_at hb rfl, _, cell_at hb rfl, ref04_Eid.set hb2 fun h3 a3 s3 o3 => ref04_Eid.ld a3 ?_⟩
  have z := f1.1
  exact hk h3 ((f1.tt f2).fresh (S := fun y => y = b2) ⟨by omega, fun y _ hn => o3 y hn⟩ (fun y e => by omega))
theorem nil_eq (s : ByteArray) : (s.toList == (⟨#[]⟩ : ByteArray).toList) = decide (s = ⟨#[]⟩) := by
  by_cases e : s = ⟨#[]⟩
  · rw [decide_eq_true e]; exact bytes_eq.2 e
  · rw [decide_eq_false e]
    cases q : s.toList == (⟨#[]⟩ : ByteArray).toList
    · rfl
    · exact absurd (bytes_eq.1 q) e
theorem eqv04 (x y : Ev) : EqV Tryd.prog T.ref04_Eid (ev5 x) (ev5 y) (decide (x = y)) := by
  rw [← eqB_dec]
  exact EqV.of (by unfold eqB; kernel_rfl)
theorem eqv04' {x y : Ev} {a b : Value} (ha : a = ev5 x) (hb : b = ev5 y) : EqV Tryd.prog T.ref04_Eid a b (decide (x = y)) := by subst ha hb; exact eqv04 x y
theorem class_alt (x : Ev) : classE x = if x.ipn = true then 1 else if x.node = 0 ∧ x.svc = 0 ∧ x.host = ⟨#[]⟩ ∧ x.dem = ⟨#[]⟩ then 0 else 2 := by
  unfold classE
  by_cases hi : x.ipn = true
  · rw [if_neg (fun e => by rw [e] at hi; cases hi)]; simp [hi]
  · have hi' : x.ipn = false := by simpa using hi
    by_cases hz : x.node = 0 ∧ x.svc = 0 ∧ x.host = ⟨#[]⟩ ∧ x.dem = ⟨#[]⟩
    · have : x = .zero := Ev.ext' hi' hz.1 hz.2.1 hz.2.2.1 hz.2.2.2
      rw [if_pos this, if_neg hi, if_pos hz]
    · rw [if_neg (fun e => hz (by rw [e]; exact ⟨rfl, rfl, rfl, rfl⟩))]; simp only [hi, hz, Bool.false_eq_true, if_false]
theorem rclass_ok (x : Ev) (hk : ∀ h', Fr (fun _ => False) h h' → R (.int .i64 (classE x)) h') : CallsH Tryd.prog F.ref04_Class #[ev5 x] h R := by
  refine ref04_Class.walk (ref04_Eid.box fun b h1 eb hb f1 => ⟨_, cell_at hb rfl, ?_⟩)
  have K := hk h1 f1
  rw [class_alt] at K
  simp only [nil_eq]
  by_cases hi : x.ipn = true
  · rw [if_pos hi]; rw [if_pos hi] at K; exact K
  rw [if_neg hi]; rw [if_neg hi] at K
  refine JoinP.of fun J hJ => ⟨_, cell_at hb rfl, ?_⟩
  have bad : ¬ (x.node = 0 ∧ x.svc = 0 ∧ x.host = ⟨#[]⟩ ∧ x.dem = ⟨#[]⟩) → J false h1 := fun hn => by
    subst hJ; rw [if_neg hn] at K; exact K
  by_cases q1 : x.node = 0
  · rw [if_pos (by simpa using q1)]
    refine ⟨_, cell_at hb rfl, ?_⟩
    by_cases q2 : x.svc = 0
    · rw [if_pos (by simpa using q2)]
      refine ⟨_, cell_at hb rfl, ?_⟩
      by_cases q3 : x.host = ⟨#[]⟩
      · rw [if_pos (decide_eq_true q3)]
        refine ⟨_, cell_at hb rfl, ?_⟩
        by_cases q4 : x.dem = ⟨#[]⟩
        · rw [decide_eq_true q4]; subst hJ; rw [if_pos ⟨q1, q2, q3, q4⟩] at K; exact K
        · rw [decide_eq_false q4]; exact bad (fun e => q4 e.2.2.2)
      · rw [if_neg (by simpa using q3)]; exact bad (fun e => q3 e.2.2.1)
    · rw [if_neg (by simpa using q2)]; exact bad (fun e => q2 e.2.1)
  · rw [if_neg (by simpa using q1)]; exact bad (fun e => q1 e.1)
/-- which kind a name is of; -1: it may not be -/
def kindE (x : Ev) : Int := if rightE x = true then classE x else -1
theorem kind_lt {x : Ev} : kindE x < 1 ↔ ¬ (rightE x = true ∧ x ≠ .zero) := by
  unfold kindE classE
  by_cases q : rightE x = true
  · rw [if_pos q]
    by_cases z : x = .zero
    · simp [z]
    · rw [if_neg z]; simp only [q, z]; split <;> simp [z]
  · rw [if_neg q]; simp [q]
theorem rkind_ok (x : Ev) (hk : ∀ h', Fr (fun _ => False) h h' → R (.int .i64 (kindE x)) h') : CallsH Tryd.prog F.ref04_Kind #[ev5 x] h R := by
  refine ref04_Kind.walk (ref04_Eid.box fun b h1 eb hb f1 => ⟨_, cell_at hb rfl, ?_⟩)
  have K := hk h1 f1
  clear hk
  simp only [nil_eq]
  by_cases hi : x.ipn = true
  · have hz : x ≠ .zero := fun e => by rw [e] at hi; cases hi
    have e : kindE x = if (x.host = ⟨#[]⟩ ∧ x.dem = ⟨#[]⟩ ∧ 1 ≤ x.node ∧ x.node ≤ 4294967295 ∧ x.svc ≤ 4294967295) then 1 else -1 := by
      unfold kindE rightE classE
      rw [if_neg hz, if_pos hi, if_neg hz, if_pos hi]; simp only [decide_eq_true_eq]
    rw [e] at K
    rw [if_pos hi]
    refine JoinP.of fun J hJ => ⟨_, cell_at hb rfl, ?_⟩
    have bad : ¬ (x.host = ⟨#[]⟩ ∧ x.dem = ⟨#[]⟩ ∧ 1 ≤ x.node ∧ x.node ≤ 4294967295 ∧ x.svc ≤ 4294967295) → J true h1 := fun hn => by
      subst hJ; rw [if_neg hn] at K; exact K
    by_cases q1 : x.host = ⟨#[]⟩
    · rw [if_neg (by simpa using q1)]
      refine ⟨_, cell_at hb rfl, ?_⟩
      by_cases q2 : x.dem = ⟨#[]⟩
      · rw [if_neg (by simpa using q2)]
        refine ⟨_, cell_at hb rfl, ?_⟩
        by_cases q3 : x.node < 1
        · rw [if_pos (decide_eq_true q3)]; exact bad (fun e => by have := e.2.2.1; omega)
        rw [if_neg (by simpa using q3)]
        refine ⟨_, cell_at hb rfl, ?_⟩
        by_cases q4 : x.node > 4294967295
        · rw [if_pos (decide_eq_true q4)]; exact bad (fun e => by have := e.2.2.2.1; omega)
        rw [if_neg (by simpa using q4)]
        refine ⟨_, cell_at hb rfl, ?_⟩
        by_cases q5 : x.svc > 4294967295
        · rw [decide_eq_true q5]; exact bad (fun e => by have := e.2.2.2.2; omega)
        rw [decide_eq_false q5]
        subst hJ
        rw [if_pos ⟨q1, q2, by omega, by omega, by omega⟩] at K
        exact K
      · rw [if_pos (by simpa using q2)]; exact bad (fun e => q2 e.2.1)
    · rw [if_pos (by simpa using q1)]; exact bad (fun e => q1 e.1)
  · have hi' : x.ipn = false := by simpa using hi
    rw [if_neg hi]
    refine JoinP.of fun J hJ => ⟨_, cell_at hb rfl, ?_⟩
    have bad : ¬ (x.node = 0 ∧ x.svc = 0) → J true h1 := fun hn => by
      have e : kindE x = -1 := by
        unfold kindE rightE
        have hz : x ≠ .zero := fun e => by subst e; exact hn ⟨rfl, rfl⟩
        rw [if_neg hz, if_neg hi, if_neg]
        simp only [Bool.and_eq_true, decide_eq_true_eq]
        exact fun e => hn ⟨e.1.1, e.1.2.1⟩
      rw [e] at K
      subst hJ; exact K
    by_cases q1 : x.node = 0
    · rw [if_neg (by simpa using q1)]
      refine ⟨_, cell_at hb rfl, ?_⟩
      by_cases q2 : x.svc = 0
      · have : (x.svc != 0) = false := by simpa using q2
        rw [this]
        clear bad
        subst hJ
        dsimp only
        rw [if_neg (by decide)]
        refine JoinP.of fun J hJ => ⟨_, cell_at hb rfl, ?_⟩
        have go : ¬ (x.host = ⟨#[]⟩ ∧ x.dem = ⟨#[]⟩) → J false h1 := fun hn => by
          have hz : x ≠ .zero := fun e => by subst e; exact hn ⟨rfl, rfl⟩
          have e : kindE x = if (1 ≤ x.host.size ∧ x.host.size ≤ 16 ∧ x.dem.size ≤ 24) ∧ plainB 45 x.host = true ∧ plainB 47 x.dem = true then 2 else -1 := by
            unfold kindE rightE classE
            rw [if_neg hz, if_neg hi, if_neg hz, if_neg hi]
            simp only [q1, q2, true_and, Bool.and_eq_true, decide_eq_true_eq]
          rw [e] at K
          subst hJ
          dsimp only
          rw [if_neg (by decide)]
          refine JoinP.of fun J hJ => ⟨_, cell_at hb rfl, ?_⟩
          have bad : ¬ ((1 ≤ x.host.size ∧ x.host.size ≤ 16 ∧ x.dem.size ≤ 24) ∧ plainB 45 x.host = true ∧ plainB 47 x.dem = true) → J true h1 := fun hn => by
            subst hJ; rw [if_neg hn] at K; exact K
          by_cases q3 : x.host.size < 1
          · rw [if_pos (decide_eq_true (by omega))]; exact bad (fun e => by have := e.1; omega)
          rw [if_neg (by simp; omega)]
          refine ⟨_, cell_at hb rfl, ?_⟩
          by_cases q4 : x.host.size > 16
          · rw [if_pos (decide_eq_true (by omega))]; exact bad (fun e => by have := e.1; omega)
          rw [if_neg (by simp; omega)]
          refine ⟨_, cell_at hb rfl, ?_⟩
          by_cases q5 : x.dem.size > 24
          · rw [if_pos (decide_eq_true (by omega))]; exact bad (fun e => by have := e.1; omega)
          rw [if_neg (by simp; omega)]
          refine ⟨_, cell_at hb rfl, rplain_ok false (by omega) ⟨_, rfl, ?_⟩⟩
          have e1 : plainB (if false = true then 47 else 45) x.host = plainB 45 x.host := rfl
          have e2 : plainB (if true = true then 47 else 45) x.dem = plainB 47 x.dem := rfl
          rw [e1]
          by_cases q6 : plainB 45 x.host = true
          · rw [if_neg (by simpa using q6)]
            refine ⟨_, cell_at hb rfl, rplain_ok true (by omega) ⟨_, rfl, ?_⟩⟩
            rw [e2]
            by_cases q7 : plainB 47 x.dem = true
            · rw [q7]
              subst hJ
              rw [if_pos ⟨⟨by omega, by omega, by omega⟩, q6, q7⟩] at K
              exact K
            · have : (!plainB 47 x.dem) = true := by simpa using q7
              rw [this]; exact bad (fun e => q7 e.2.2)
          · rw [if_pos (by simpa using q6)]; exact bad (fun e => q6 e.2.1)
        by_cases q3 : x.host = ⟨#[]⟩
        · rw [if_pos (decide_eq_true q3)]
          refine ⟨_, cell_at hb rfl, ?_⟩
          by_cases q4 : x.dem = ⟨#[]⟩
          · rw [decide_eq_true q4]
            clear go
            have hz : x = .zero := Ev.ext' hi' q1 q2 q3 q4
            have e : kindE x = 0 := by
              unfold kindE rightE classE
              rw [if_pos hz, if_pos hz]; rfl
            rw [e] at K
            subst hJ; exact K
          · rw [decide_eq_false q4]; exact go (fun e => q4 e.2)
        · rw [if_neg (by simpa using q3)]; exact go (fun e => q3 e.1)
      · have : (x.svc != 0) = true := by simpa using q2
        rw [this]; exact bad (fun e => q2 e.2)
    · rw [if_pos (by simpa using q1)]; exact bad (fun e => q1 e.1)
theorem rless_ok (x y : Ev) (hk : ∀ h', Fr (fun _ => False) h h' → R (.bool (lessE x y)) h') : CallsH Tryd.prog F.ref04_Less #[ev5 x, ev5 y] h R := by
  refine ref04_Less.walk (ref04_Eid.box fun b h1 eb hb f1 => ref04_Eid.box fun c h2 ec hc f2 => ?_)
  have hb2 := f2.get hb id
  refine ref04_Eid.ld hb2 (ref04_Eid.ld hc (rclass_ok x fun h3 f3 => ⟨_, rfl, ref04_Eid.held (f3.get hc id), rclass_ok y fun h4 f4 => ⟨_, rfl, ?_⟩⟩))
  have F4 := f3.tt f4
  have hb4 := F4.get hb2 id
  have hc4 := F4.get hc id
  have K := hk h4 (f1.tt (f2.tt F4))
  unfold lessE at K
  by_cases q0 : classE x = classE y
  · rw [if_neg (by simpa using q0)]
    rw [if_neg (by simpa using q0)] at K
    refine ⟨_, cell_at hb4 rfl, _, cell_at hc4 rfl, ?_⟩
    by_cases q1 : x.node = y.node
    · rw [if_neg (by simpa using q1)]
      rw [if_neg (by simpa using q1)] at K
      refine ⟨_, cell_at hb4 rfl, _, cell_at hc4 rfl, ?_⟩
      by_cases q2 : x.svc = y.svc
      · rw [if_neg (by simpa using q2)]
        rw [if_neg (by simpa using q2)] at K
        refine ⟨_, cell_at hb4 rfl, _, cell_at hc4 rfl, ?_⟩
        by_cases q3 : x.host = y.host
        · rw [if_neg (by simp [bytes_eq.2 q3])]
          rw [if_neg (by simpa using q3)] at K
          exact ⟨_, cell_at hb4 rfl, _, cell_at hc4 rfl, K⟩
        · have : (x.host.toList == y.host.toList) = false := by
            cases e : x.host.toList == y.host.toList
            · rfl
            · exact absurd (bytes_eq.1 e) q3
          rw [if_pos (by simp [this])]
          rw [if_pos q3] at K
          exact ⟨_, cell_at hb4 rfl, _, cell_at hc4 rfl, K⟩
      · rw [if_pos (by simpa using q2)]
        rw [if_pos q2] at K
        exact ⟨_, cell_at hb4 rfl, _, cell_at hc4 rfl, K⟩
    · rw [if_pos (by simpa using q1)]
      rw [if_pos q1] at K
      exact ⟨_, cell_at hb4 rfl, _, cell_at hc4 rfl, K⟩
  · rw [if_pos (by simpa using q0)]
    rw [if_pos q0] at K; exact K
end Eid
end Go.Proofs.YtgccegnmggjkjaaDoor
