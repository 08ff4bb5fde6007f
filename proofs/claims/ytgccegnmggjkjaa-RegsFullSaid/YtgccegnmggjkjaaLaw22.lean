/-
  What is proved here: law22's alive, and plain facts on tables of registrations. No condition.
-/
import Derived.Test.YtgccegnmggjkjaaRegsAll
import Derived.Test.YtgccegnmggjkjaaVcL22
set_option maxRecDepth 100000
namespace Go.Proofs.Ytgccegnmggjkjaa
open Go.Den
namespace Regs
open Eid
variable {h h' : Heap} {R : Value → Heap → Prop} {b : Nat} {X : Ft} {L : List Rg}

/-- a name of two numbers -/
abbrev ip (n s : Int) : Ev := ⟨true, n, s, ⟨#[]⟩, ⟨#[]⟩⟩
theorem ip_class (n s : Int) : classE (ip n s) = 1 := by
  unfold classE
  rw [if_neg (fun e => by have := congrArg Ev.ipn e; cases this), if_pos rfl]
theorem ip_less {n n' s s' : Int} (h : n < n') : lessE (ip n s) (ip n' s') = true := less_iff.2 (.inr ⟨by rw [ip_class, ip_class], .inl h⟩)
theorem ip_right {n s : Int} (h1 : 1 ≤ n) (h2 : n ≤ 4294967295) (h3 : s ≤ 4294967295) : rightE (ip n s) = true := by
  unfold rightE
  rw [if_neg (fun e => by have := congrArg Ev.ipn e; cases this), if_pos rfl]
  simp [h1, h2, h3]
theorem ip_rightR {n s p o : Int} (h1 : 1 ≤ n) (h2 : n ≤ 4294967295) (h3 : s ≤ 4294967295) (h4 : 0 ≤ p) (h5 : p ≤ 2) (h6 : 1 ≤ o) (h7 : o ≤ 1099511627776) : rightR ⟨ip n s, p, o⟩ = true := by
  unfold rightR
  have e : (ip n s) ≠ Ev.zero := fun e => by have := congrArg Ev.ipn e; cases this
  have h4' : p ≥ 0 := h4
  have h6' : o ≥ 1 := h6
  simp only [ip_right h1 h2 h3, e, decide_false, Bool.not_false, h4', h5, h6', h7, decide_true, Bool.and_self]
theorem home_ok (hk : ∀ h', Fr (fun _ => False) h h' → R (ev5 (ip 7 1)) h') : CallsH Try.prog F.law22_home #[] h R :=
  law22_home.walk (eid_Eid.new fun b1 h1 e1 hb1 f1 => eid_Eid.ld hb1 (hk h1 f1))
theorem alive_ok (hk : ∀ h', Fr (fun _ => False) h h' → R (.bool true) h') : CallsH Try.prog F.law22_alive #[] h R := by
  have q1 : addE [] ⟨ip 7 1, 1, 3⟩ = 0 := by kernel_rfl
  have q1' : addL [] ⟨ip 7 1, 1, 3⟩ = [⟨ip 7 1, 1, 3⟩] := by kernel_rfl
  have q2 : addE [⟨ip 7 1, 1, 3⟩] ⟨ip 7 1, 0, 4⟩ = 11 := by kernel_rfl
  have q2' : addL [⟨ip 7 1, 1, 3⟩] ⟨ip 7 1, 0, 4⟩ = [⟨ip 7 1, 1, 3⟩] := by kernel_rfl
  have q3 : polE [⟨ip 7 1, 1, 3⟩] (ip 7 1) 4 2 = 13 := by kernel_rfl
  have q3' : polL [⟨ip 7 1, 1, 3⟩] (ip 7 1) 4 2 = [⟨ip 7 1, 1, 3⟩] := by kernel_rfl
  have q4 : polE [⟨ip 7 1, 1, 3⟩] (ip 7 1) 3 2 = 0 := by kernel_rfl
  have q4' : polL [⟨ip 7 1, 1, 3⟩] (ip 7 1) 3 2 = [⟨ip 7 1, 2, 3⟩] := by kernel_rfl
  have q5 : findR [⟨ip 7 1, 2, 3⟩] (ip 7 1) = some ⟨ip 7 1, 2, 3⟩ := by kernel_rfl
  have q6 : askE [⟨ip 7 1, 2, 3⟩] (ip 7 1) 3 = 0 := by kernel_rfl
  have q6' : remL [⟨ip 7 1, 2, 3⟩] (ip 7 1) 3 = [] := by kernel_rfl
  have q7 : askE [] (ip 7 1) 3 = 4 := by kernel_rfl
  have q7' : remL [] (ip 7 1) 3 = [] := by kernel_rfl
  have q8 : addE [] .zero = 1 := by kernel_rfl
  refine law22_alive.walk (new_ok fun h1 b X H1 u1 => ⟨_, rfl, home_ok fun h2 f2 => ⟨_, _, _, _, _, rfl, add_ok (H1.on f2) ⟨ip 7 1, 1, 3⟩ (by simp) fun h3 H3 s3 => ⟨_, rfl, ?_⟩⟩⟩)
  rw [q1'] at H3
  have u3 := (u1.on f2).step s3
  refine home_ok fun h4 f4 => ⟨_, _, _, _, _, rfl, add_ok (H3.on f4) ⟨ip 7 1, 0, 4⟩ (by simp) fun h5 H5 s5 => ⟨_, rfl, ?_⟩⟩
  rw [q2'] at H5
  have u5 := (u3.on f4).step s5
  refine home_ok fun h6 f6 => ⟨_, _, _, _, _, rfl, policy_ok (H5.on f6) (ip 7 1) 4 2 fun h7 H7 s7 => ⟨_, rfl, ?_⟩⟩
  rw [q3'] at H7
  have u7 := (u5.on f6).step s7
  refine home_ok fun h8 f8 => ⟨_, _, _, _, _, rfl, policy_ok (H7.on f8) (ip 7 1) 3 2 fun h9 H9 s9 => ⟨_, rfl, ?_⟩⟩
  rw [q4'] at H9
  have u9 := (u7.on f8).step s9
  refine home_ok fun h10 f10 => ⟨_, _, _, _, _, rfl, find_ok (H9.on f10) (ip 7 1) fun h11 f11 => ⟨_, _, _, _, _, _, _, _, rfl, regs_Reg.new fun b2 h12 e12 hb12 f12 => ?_⟩⟩
  rw [q5] at hb12
  have F12 := f10.tt (f11.tt f12)
  have H12 := H9.on F12
  have lt12 := lt_of_get hb12
  refine home_ok fun h13 f13 => ⟨_, _, _, _, _, rfl, remove_ok (H12.on f13) (ip 7 1) 3 fun h14 H14 s14 => ⟨_, rfl, ?_⟩⟩
  rw [q6'] at H14
  have u14 := ((u9.on F12).on f13).step s14
  have hb14 := s14.fr.get (f13.get hb12 id) (fun hm => by
    have := (H9.on (f10.tt f11)).lt b2 (.inl hm)
    omega)
  rw [q1, if_pos (by rfl), q2, if_pos (by rfl), q3, if_pos (by rfl), q4, if_pos (by rfl)]
  refine ⟨_, cell_at hb14 rfl, ?_⟩
  rw [if_pos (by rfl), q5, if_pos (by rfl), q6, if_pos (by rfl)]
  refine home_ok fun h15 f15 => ⟨_, _, _, _, _, rfl, remove_ok (H14.on f15) (ip 7 1) 3 fun h16 H16 s16 => ⟨_, rfl, ?_⟩⟩
  rw [q7'] at H16
  have u16 := (u14.on f15).step s16
  rw [q7, if_pos (by rfl)]
  refine add_ok H16 .zero (by simp) fun h17 H17 s17 => ⟨_, rfl, ?_⟩
  rw [q8]
  exact hk h17 (u16.step s17).fr

/-! ### plain -/
theorem find_mem {r : Rg} (so : L.Pairwise rless) (hr : r ∈ L) : findR L r.e = some r := by
  cases hf : findR L r.e with
  | none => exact absurd rfl (findR_none.1 hf r hr)
  | some y =>
    obtain ⟨h1, h2⟩ := findR_some hf
    obtain ⟨i, hi⟩ := List.getElem?_of_mem hr
    obtain ⟨j, hj⟩ := List.getElem?_of_mem h1
    by_cases hij : j = i
    · subst hij; rw [hi] at hj; exact hj.symm
    · exact absurd h2 (KeysNd.ne (keys_nodup so) hj hi hij)
theorem find_pol (L : List Rg) (x : Ev) (p : Int) : findR (polR L x p) x = (findR L x).map (fun r => { r with pol := p }) := by
  induction L with
  | nil => rfl
  | cons y l ih =>
    unfold findR polR at ih ⊢
    rw [List.map_cons, List.find?_cons, List.find?_cons]
    by_cases e : y.e = x
    · simp [e]
    · simp only [e, if_false, decide_false]; exact ih
theorem rem_pol (L : List Rg) (x : Ev) (p : Int) : remR (polR L x p) x = remR L x := by
  induction L with
  | nil => rfl
  | cons y l ih =>
    unfold remR polR at ih ⊢
    rw [List.map_cons, List.filter_cons, List.filter_cons, ih]
    by_cases e : y.e = x
    · simp [e]
    · simp only [e, if_false, decide_false]
theorem rem_len {r : Rg} (so : L.Pairwise rless) (hr : r ∈ L) : (remR L r.e).length + 1 = L.length := by
  have := (pol_perm (p := 0) so hr rfl).length_eq
  unfold polR at this
  rw [List.length_map, List.length_cons] at this
  omega
theorem insR_end {r : Rg} : ∀ {L : List Rg}, (∀ x ∈ L, lessE x.e r.e = true) → insR r L = L ++ [r]
  | [], _ => rfl
  | x :: l, h => by
    unfold insR
    rw [if_pos (h x (by simp)), insR_end (fun y hy => h y (List.mem_cons_of_mem _ hy))]; rfl
def full (owner : Int) (k : Nat) : List Rg := (List.range k).map (fun (i : Nat) => ⟨ip (10 + (i : Int)) 0, 0, owner⟩)
theorem full_mem {owner : Int} {k : Nat} {r : Rg} : r ∈ full owner k ↔ ∃ i : Nat, i < k ∧ r = ⟨ip (10 + (i : Int)) 0, 0, owner⟩ := by
  unfold full
  rw [List.mem_map]
  constructor
  · rintro ⟨i, hi, rfl⟩; exact ⟨i, List.mem_range.1 hi, rfl⟩
  · rintro ⟨i, hi, rfl⟩; exact ⟨i, List.mem_range.2 hi, rfl⟩
theorem full_no {owner n s : Int} {k : Nat} (h : 10 + (k : Int) ≤ n) : findR (full owner k) (ip n s) = none := by
  rw [findR_none]
  intro r hr e
  obtain ⟨i, hi, rfl⟩ := full_mem.1 hr
  have : 10 + (i : Int) = n := congrArg Ev.node e
  omega
theorem full_add {owner : Int} {k : Nat} (h1 : 1 ≤ owner) (h2 : owner ≤ 1099511627776) (hk : k < 8) : addE (full owner k) ⟨ip (10 + (k : Int)) 0, 0, owner⟩ = 0 ∧ addL (full owner k) ⟨ip (10 + (k : Int)) 0, 0, owner⟩ = full owner (k + 1) := by
  have e : addE (full owner k) ⟨ip (10 + (k : Int)) 0, 0, owner⟩ = 0 := by
    unfold addE
    rw [ip_rightR (by omega) (by omega) (by omega) (by omega) (by omega) h1 h2, full_no (Int.le_refl _)]
    have : ¬ (full owner k).length ≥ 8 := by unfold full; rw [List.length_map, List.length_range]; omega
    simp [this]
  refine ⟨e, ?_⟩
  unfold addL
  rw [if_pos e, insR_end]
  · unfold full; rw [List.range_succ, List.map_append]; rfl
  · intro x hx
    obtain ⟨i, hi, rfl⟩ := full_mem.1 hx
    exact ip_less (by omega)
set_option maxHeartbeats 4000000 in
theorem _root_.Go.Proofs.Ytgccegnmggjkjaa.regsFull_ok (owner drop : Int) (_ : (Lit.int .i64 owner).wf = true) (wd : (Lit.int .u8 drop).wf = true) : LawH Try.prog F.law22_RegsFull #[.int .i64 owner, .int .u8 drop] h := by
  have wd := wf_u8 wd
  unfold LawH
  generalize hR : (fun (v : Value) h' => v = .bool true ∧ Fr (fun _ => False) h h') = R
  have hk : ∀ h', Fr (fun _ => False) h h' → R (.bool true) h' := fun h' hf => by rw [← hR]; exact ⟨rfl, hf⟩
  clear hR
  refine law22_RegsFull.walk (new_ok fun h1 b X H1 u1 => ⟨_, rfl, JoinP.of fun J hJ => ?_⟩)
  have bad : J true h1 := by
    subst hJ
    simp only [if_true]
    exact alive_ok fun h2 f2 => ⟨_, rfl, hk h2 (u1.fr.tt f2)⟩
  by_cases o1 : owner < 1
  · rw [if_pos (decide_eq_true o1)]; exact bad
  rw [if_neg (by simpa using o1)]
  by_cases o2 : owner > 1099511627776
  · rw [decide_eq_true o2]; exact bad
  rw [decide_eq_false o2]
  clear bad
  subst hJ
  simp only [Bool.false_eq_true, if_false]
  refine ⟨fun t g => ∃ k : Nat, t = (k : Int) ∧ k ≤ 8 ∧ Tb g b X (full owner k) ∧ UpF h X g, fun t _ => 8 - t.toNat, ⟨0, rfl, by omega, H1, u1⟩, ?_⟩
  rintro _ g ⟨k, rfl, hk8, H, u⟩
  by_cases hlt : k < 8
  · have q1 : (k : Int) < 8 := by omega
    simp only [q1, decide_true, if_true]
    obtain ⟨a1, a2⟩ := full_add (owner := owner) (k := k) (by omega) (by omega) hlt
    have e1 : IntKind.wrap .u64 (IntKind.wrap .i64 (10 + (k : Int))) = 10 + (k : Int) := by rw [wrap_id (by omega) (by omega), wrap_u64 (by omega) (by omega)]
    rw [e1]
    refine add_ok H ⟨ip (10 + (k : Int)) 0, 0, owner⟩ (by unfold full; rw [List.length_map, List.length_range]; omega) fun g2 H2 s2 => ⟨_, rfl, ?_⟩
    rw [a2] at H2
    rw [a1, if_neg (by decide), wrap_id (by omega) (by omega)]
    exact ⟨⟨k + 1, by omega, by omega, H2, u.step s2⟩, by show 8 - Int.toNat ((k : Int) + 1) < 8 - k; omega⟩
  · obtain rfl : k = 8 := by omega
    have q1 : ¬ ((8 : Nat) : Int) < 8 := by omega
    simp only [q1, decide_false, Bool.false_eq_true, if_false]
    obtain ⟨d, hd⟩ : ∃ d : Nat, drop = (d : Int) := Int.eq_ofNat_of_zero_le wd.1
    have e2 : IntKind.wrap .u64 (10 + (Int.tmod (IntKind.wrap .u64 drop) 8)) = 10 + ((d % 8 : Nat) : Int) := by
      rw [wrap_u64 (n := drop) (by omega) (by omega), hd]
      have : Int.tmod ((d : Nat) : Int) 8 = ((d % 8 : Nat) : Int) := by rw [Int.tmod_eq_emod_of_nonneg (by omega)]; omega
      rw [this, wrap_u64 (by omega) (by omega)]
    rw [e2]
    have hd8 : d % 8 < 8 := Nat.mod_lt _ (by omega)
    generalize d % 8 = j at hd8 ⊢
    have so : (full owner 8).Pairwise rless := by obtain ⟨m, H⟩ := H; exact H.so
    have hl8 : (full owner 8).length = 8 := by unfold full; rw [List.length_map, List.length_range]
    have hr : (⟨ip (10 + (j : Int)) 0, 0, owner⟩ : Rg) ∈ full owner 8 := full_mem.2 ⟨j, hd8, rfl⟩
    have hf : findR (full owner 8) (ip (10 + (j : Int)) 0) = some ⟨ip (10 + (j : Int)) 0, 0, owner⟩ := find_mem so hr
    have ry : rightR ⟨ip 99 0, 0, owner⟩ = true := ip_rightR (by omega) (by omega) (by omega) (by omega) (by omega) (by omega) (by omega)
    have a1 : addE (full owner 8) ⟨ip 99 0, 0, owner⟩ = 15 := by
      unfold addE
      rw [ry, full_no (by omega)]
      simp [hl8]
    have a1' : addL (full owner 8) ⟨ip 99 0, 0, owner⟩ = full owner 8 := by unfold addL; rw [a1]; rfl
    have a2 : askE (full owner 8) (ip (10 + (j : Int)) 0) owner = 0 := by unfold askE; rw [hf]; exact if_pos rfl
    have a2' : polE (full owner 8) (ip (10 + (j : Int)) 0) owner 2 = 0 := by unfold polE; rw [if_pos (by omega), a2]
    have a2'' : polL (full owner 8) (ip (10 + (j : Int)) 0) owner 2 = polR (full owner 8) (ip (10 + (j : Int)) 0) 2 := by unfold polL; rw [if_pos a2']
    have a3 : findR (polR (full owner 8) (ip (10 + (j : Int)) 0) 2) (ip (10 + (j : Int)) 0) = some ⟨ip (10 + (j : Int)) 0, 2, owner⟩ := by rw [find_pol, hf]; rfl
    have a4 : askE (polR (full owner 8) (ip (10 + (j : Int)) 0) 2) (ip (10 + (j : Int)) 0) owner = 0 := by unfold askE; rw [a3]; exact if_pos rfl
    have a4' : remL (polR (full owner 8) (ip (10 + (j : Int)) 0) 2) (ip (10 + (j : Int)) 0) owner = remR (full owner 8) (ip (10 + (j : Int)) 0) := by unfold remL; rw [if_pos a4, rem_pol]
    have l7 := rem_len so hr
    have a5 : addE (remR (full owner 8) (ip (10 + (j : Int)) 0)) ⟨ip 99 0, 0, owner⟩ = 0 := by
      unfold addE
      have hno : findR (remR (full owner 8) (ip (10 + (j : Int)) 0)) (ip 99 0) = none := by
        rw [findR_none]
        intro r hm
        exact findR_none.1 (full_no (owner := owner) (s := 0) (k := 8) (n := 99) (by omega)) r (List.mem_filter.1 hm).1
      have : ¬ (remR (full owner 8) (ip (10 + (j : Int)) 0)).length ≥ 8 := by have l7 : (remR (full owner 8) (ip (10 + (j : Int)) 0)).length + 1 = _ := l7; omega
      rw [ry, hno]; simp [this]
    refine eid_Eid.new fun b1 h7 e7 hb1 f7 => eid_Eid.new fun b2 h9 e9 hb2 f9 => eid_Eid.ld hb2 (add_ok (H.on (f7.tt f9)) ⟨ip 99 0, 0, owner⟩ (by omega) fun h10 H10 s10 => ⟨_, rfl, ?_⟩)
    have n1 : ¬ X.M b1 := fun hm => by have := H.lt b1 (.inl hm); omega
    have n2 : ¬ X.M b2 := fun hm => by have := H.lt b2 (.inl hm); have := f7.1; omega
    have u10 := (u.on (f7.tt f9)).step s10
    have hb1 := s10.fr.get (f9.get hb1 id) n1
    have hb2 := s10.fr.get hb2 n2
    rw [a1'] at H10
    refine eid_Eid.ld hb1 (policy_ok H10 (ip (10 + (j : Int)) 0) owner 2 fun h11 H11 s11 => ⟨_, rfl, ?_⟩)
    rw [a2''] at H11
    have u11 := u10.step s11
    have hb1 := s11.fr.get hb1 n1
    have hb2 := s11.fr.get hb2 n2
    refine eid_Eid.ld hb1 (find_ok H11 (ip (10 + (j : Int)) 0) fun h12 f12 => ⟨_, _, _, _, _, _, _, _, rfl, regs_Reg.new fun b3 h14 e14 hb3 f14 => ?_⟩)
    rw [a3] at hb3
    have F14 := f12.tt f14
    have n3 : ¬ X.M b3 := fun hm => by have := (H11.on f12).lt b3 (.inl hm); omega
    have hb1 := F14.get hb1 id
    have hb2 := F14.get hb2 id
    refine eid_Eid.ld hb1 (remove_ok (H11.on F14) (ip (10 + (j : Int)) 0) owner fun h15 H15 s15 => ⟨_, rfl, ?_⟩)
    rw [a4'] at H15
    have u15 := (u11.on F14).step s15
    have hb2 := s15.fr.get hb2 n2
    have hb3 := s15.fr.get hb3 n3
    have l7' : (remR (full owner 8) (ip (10 + (j : Int)) 0)).length + 1 = 8 := by rw [← hl8]; exact l7
    refine eid_Eid.ld hb2 (add_ok H15 ⟨ip 99 0, 0, owner⟩ (by omega) fun h16 H16 s16 => ⟨_, rfl, alive_ok fun h17 f17 => ⟨_, rfl, ?_⟩⟩)
    have u16 := u15.step s16
    have hb3 := f17.get (s16.fr.get hb3 n3) id
    have lL : (addL (remR (full owner 8) (ip (10 + (j : Int)) 0)) ⟨ip 99 0, 0, owner⟩).length = 8 := by unfold addL; rw [if_pos a5, insR_len]; exact l7'
    rw [if_pos rfl, a1, if_pos (by rfl), a2', if_pos (by rfl)]
    refine ⟨_, cell_at hb3 rfl, ?_⟩
    rw [if_pos (by rfl), a4, if_pos (by rfl), a5, if_pos (by rfl)]
    refine all_ok (H16.on f17) (by omega) fun h18 p18 c18 _ _ f18 => ⟨_, _, _, rfl, ?_⟩
    rw [lL]
    exact hk h18 (u16.fr.tt (f17.tt f18))
end Regs
end Go.Proofs.Ytgccegnmggjkjaa
