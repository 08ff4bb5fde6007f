/-
  What is proved here: law22's alive, and plain facts on tables of registrations. No condition.
-/
import Derived.Test.YtgccegnmggjkjaaDoorRegsAll
import Derived.Test.YtgccegnmggjkjaaDoorVcL22
set_option maxRecDepth 100000
namespace Go.Proofs.YtgccegnmggjkjaaDoor
open Go.Den
namespace Regs
open Eid
variable {h h' : Heap} {R : Value → Heap → Prop} {b : Nat} {X : Ft} {L : List Rg}

/-- a name of two numbers -/
abbrev ip (n s : Int) : Ev := ⟨true, n, s, ⟨#[]⟩, ⟨#[]⟩⟩
theorem ip_class (n s : Int) : classE (ip n s) = 1 := by
  unfold classE
  rw [if_neg (fun e => by have := congrArg Ev.ipn e; cases this), if_pos rfl]
theorem ip_less {n n' s s' : Int} (h : n < n') : lessE (ip n s) (ip n' s') = true := less_iff.2 (.inr ⟨by rw [ip_class, ip_class], .inl h⟩)
theorem ip_right {n s : Int} (h1 : 1 ≤ n) (h2 : n ≤ 4294967295) (h3 : s ≤ 4294967295) : rightE (ip n s) = true := by
  unfold rightE
  rw [if_neg (fun e => by have := congrArg Ev.ipn e; cases this), if_pos rfl]
  simp [h1, h2, h3]
theorem ip_rightR {n s p o : Int} (h1 : 1 ≤ n) (h2 : n ≤ 4294967295) (h3 : s ≤ 4294967295) (h4 : 0 ≤ p) (h5 : p ≤ 2) (h6 : 1 ≤ o) (h7 : o ≤ 1099511627776) : rightR ⟨ip n s, p, o⟩ = true := by
  unfold rightR
  have e : (ip n s) ≠ Ev.zero := fun e => by have := congrArg Ev.ipn e; cases this
  have h4' : p ≥ 0 := h4
  have h6' : o ≥ 1 := h6
  simp only [ip_right h1 h2 h3, e, decide_false, Bool.not_false, h4', h5, h6', h7, decide_true, Bool.and_self]
theorem home_ok (hk : ∀ h', Fr (fun _ => False) h h' → R (ev5 (ip 7 1)) h') : CallsH Tryd.prog F.law22_home #[] h R :=
  law22_home.walk (eid_Eid.new fun b1 h1 e1 hb1 f1 => eid_Eid.ld hb1 (hk h1 f1))
theorem alive_ok (hk : ∀ h', Fr (fun _ => False) h h' → R (.bool true) h') : CallsH Tryd.prog F.law22_alive #[] h R := by
  have q1 : addE [] ⟨ip 7 1, 1, 3⟩ = 0 := by kernel_rfl
  have q1' : addL [] ⟨ip 7 1, 1, 3⟩ = [⟨ip 7 1, 1, 3⟩] := by kernel_rfl
  have q2 : addE [⟨ip 7 1, 1, 3⟩] ⟨ip 7 1, 0, 4⟩ = 11 := by kernel_rfl
  have q2' : addL [⟨ip 7 1, 1, 3⟩] ⟨ip 7 1, 0, 4⟩ = [⟨ip 7 1, 1, 3⟩] := by kernel_rfl
  have q3 : polE [⟨ip 7 1, 1, 3⟩] (ip 7 1) 4 2 = 13 := by kernel_rfl
  have q3' : polL [⟨ip 7 1, 1, 3⟩] (ip 7 1) 4 2 = [⟨ip 7 1, 1, 3⟩] := by kernel_rfl
  have q4 : polE [⟨ip 7 1, 1, 3⟩] (ip 7 1) 3 2 = 0 := by kernel_rfl
  have q4' : polL [⟨ip 7 1, 1, 3⟩] (ip 7 1) 3 2 = [⟨ip 7 1, 2, 3⟩] := by kernel_rfl
  have q5 : findR [⟨ip 7 1, 2, 3⟩] (ip 7 1) = some ⟨ip 7 1, 2, 3⟩ := by kernel_rfl
  have q6 : askE [⟨ip 7 1, 2, 3⟩] (ip 7 1) 3 = 0 := by kernel_rfl
  have q6' : remL [⟨ip 7 1, 2, 3⟩] (ip 7 1) 3 = [] := by kernel_rfl
  have q7 : askE [] (ip 7 1) 3 = 4 := by kernel_rfl
  have q7' : remL [] (ip 7 1) 3 = [] := by kernel_rfl
  have q8 : addE [] .zero = 1 := by kernel_rfl
  refine law22_alive.walk (new_ok fun h1 b X H1 u1 => ⟨_, rfl, home_ok fun h2 f2 => ⟨_, _, _, _, _, rfl, add_ok (H1.on f2) ⟨ip 7 1, 1, 3⟩ (by simp) fun h3 H3 s3 => ⟨_, rfl, ?_⟩⟩⟩)
  rw [q1'] at H3
  have u3 := (u1.on f2).step s3
  refine home_ok fun h4 f4 => ⟨_, _, _, _, _, rfl, add_ok (H3.on f4) ⟨ip 7 1, 0, 4⟩ (by simp) fun h5 H5 s5 => ⟨_, rfl, ?_⟩⟩
  rw [q2'] at H5
  have u5 := (u3.on f4).step s5
  refine home_ok fun h6 f6 => ⟨_, _, _, _, _, rfl, policy_ok (H5.on f6) (ip 7 1) 4 2 fun h7 H7 s7 => ⟨_, rfl, ?_⟩⟩
  rw [q3'] at H7
  have u7 := (u5.on f6).step s7
  refine home_ok fun h8 f8 => ⟨_, _, _, _, _, rfl, policy_ok (H7.on f8) (ip 7 1) 3 2 fun h9 H9 s9 => ⟨_, rfl, ?_⟩⟩
  rw [q4'] at H9
  have u9 := (u7.on f8).step s9
  refine home_ok fun h10 f10 => ⟨_, _, _, _, _, rfl, find_ok (H9.on f10) (ip 7 1) fun h11 f11 => ⟨_, _, _, _, _, _, _, _, rfl, regs_Reg.new fun b2 h12 e12 hb12 f12 => ?_⟩⟩
  rw [q5] at hb12
  have F12 := f10.tt (f11.tt f12)
  have H12 := H9.on F12
  have lt12 := lt_of_get hb12
  refine home_ok fun h13 f13 => ⟨_, _, _, _, _, rfl, remove_ok (H12.on f13) (ip 7 1) 3 fun h14 H14 s14 => ⟨_, rfl, ?_⟩⟩
  rw [q6'] at H14
  have u14 := ((u9.on F12).on f13).step s14
  have hb14 := s14.fr.get (f13.get hb12 id) (fun hm => by
    have := (H9.on (f10.tt f11)).lt b2 (.inl hm)
    omega)
  rw [q1, if_pos (by rfl), q2, if_pos (by rfl), q3, if_pos (by rfl), q4, if_pos (by rfl)]
  refine ⟨_, cell_at hb14 rfl, ?_⟩
  rw [if_pos (by rfl), q5, if_pos (by rfl), q6, if_pos (by rfl)]
  refine home_ok fun h15 f15 => ⟨_, _, _, _, _, rfl, remove_ok (H14.on f15) (ip 7 1) 3 fun h16 H16 s16 => ⟨_, rfl, ?_⟩⟩
  rw [q7'] at H16
  have u16 := (u14.on f15).step s16
  rw [q7, if_pos (by rfl)]
  refine add_ok H16 .zero (by simp) fun h17 H17 s17 => ⟨_, rfl, ?_⟩
  rw [q8]
  exact hk h17 (u16.step s17).fr

end Regs
end Go.Proofs.YtgccegnmggjkjaaDoor
