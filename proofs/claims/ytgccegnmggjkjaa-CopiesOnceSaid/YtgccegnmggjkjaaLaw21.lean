/-
  What is proved here: law21's home, Great and alive. No condition.
-/
import Derived.Test.YtgccegnmggjkjaaCpLease
import Derived.Test.YtgccegnmggjkjaaVcL21
import Derived.Test.YtgccegnmggjkjaaEqT
set_option maxRecDepth 100000
namespace Go.Proofs.Ytgccegnmggjkjaa
open Go.Den Go.Heapq
namespace Cps
open Eid Alarm Fld
variable {h h' : Heap} {R : Value → Heap → Prop} {t : Nat} {X X' : Ft} {s s' : CF} {p : Option Addr} {n c : Nat}

/-- blocks that a table's calls leave alone -/
def Out (X : Ft) (h : Heap) (Q : Nat → Prop) : Prop := ∀ c, Q c → c < h.size ∧ ¬ X.M c
theorem Out.step {Q : Nat → Prop} (o : Out X h Q) (st : StepF X h X' h') : Out X' h' Q := fun c hc =>
  ⟨Nat.lt_of_lt_of_le (o c hc).1 st.fr.1, fun hm => by
    rcases st.newM c hm with h1 | h1
    · exact (o c hc).2 h1
    · have := (o c hc).1; omega⟩
theorem Out.on {Q : Nat → Prop} (o : Out X h Q) (f : Fr (fun _ => False) h h') : Out X h' Q := fun c hc => ⟨Nat.lt_of_lt_of_le (o c hc).1 f.1, (o c hc).2⟩
theorem Out.fr {Q : Nat → Prop} (o : Out X h Q) (st : StepF X h X' h') : ∀ c, Q c → ¬ X.M c := fun c hc => (o c hc).2

abbrev hm : Ev := ⟨true, 7, 1, ⟨#[]⟩, ⟨#[]⟩⟩
theorem home_ok (hk : ∀ h', Fr (fun _ => False) h h' → R (ev5 hm) h') : CallsH Try.prog F.law21_home #[] h R :=
  law21_home.walk (eid_Eid.new fun b1 h1 e1 hb1 f1 => eid_Eid.ld hb1 (hk h1 f1))

def a0 : CF := ⟨[], 1, 0, 0, 0, [], []⟩
def a1 : CF := ⟨[⟨1, hm, [97], 50, 0, 0⟩], 2, 0, 0, 0, [(1, 50)], []⟩
def a2 : CF := ⟨[⟨1, hm, [97], 50, 0, 0⟩, ⟨2, hm, [98], 9, 0, 0⟩], 3, 0, 0, 0, [(2, 9), (1, 50)], []⟩
def a3 : CF := ⟨[⟨1, hm, [97], 50, 3, 20⟩, ⟨2, hm, [98], 9, 0, 0⟩], 3, 0, 0, 0, [(2, 9), (1, 50)], [(1, 20)]⟩
def a5 : CF := ⟨[⟨1, hm, [97], 50, 4, 5⟩, ⟨2, hm, [98], 9, 0, 0⟩], 3, 0, 0, 0, [(2, 9), (1, 50)], [(1, 5)]⟩
def a6 : CF := ⟨[⟨1, hm, [97], 50, 0, 0⟩], 3, 0, 1, 0, [(1, 50)], []⟩
theorem alive_ok (hk : ∀ h', Fr (fun _ => False) h h' → R (.bool true) h') : CallsH Try.prog F.law21_alive #[] h R := by
  have q1 : addF a0 hm [97] 50 = a1 := by kernel_rfl
  have q1e : addE a0 hm [97] 50 = 0 := by kernel_rfl
  have q1n : addN a0 hm [97] 50 = 1 := by kernel_rfl
  have q2 : addF a1 hm [98] 9 = a2 := by kernel_rfl
  have q3 : leaseC a2.L hm = some ⟨1, hm, [97], 50, 0, 0⟩ := by kernel_rfl
  have q3' : leaseF a2 ⟨1, hm, [97], 50, 0, 0⟩ 3 20 = a3 := by kernel_rfl
  have q4 : findE a3.L 1 4 = 14 := by kernel_rfl
  have q4' : ackF a3 1 4 = a3 := by kernel_rfl
  have q5 : findE a3.L 1 3 = 0 := by kernel_rfl
  have q5' : relF a3 1 3 = a2 := by kernel_rfl
  have q6' : leaseF a2 ⟨1, hm, [97], 50, 0, 0⟩ 4 5 = a5 := by kernel_rfl
  have q7 : Alarm.due a5.E1 9 = [(2, 9)] := by kernel_rfl
  have q7' : passF a5 9 = a6 := by kernel_rfl
  have q8 : findE a6.L 1 4 = 14 := by kernel_rfl
  have q8' : ackF a6 1 4 = a6 := by kernel_rfl
  have eqC : eqT Try.prog 10000 T.a6_int (.agg #[.int .i64 ((a6.next : Int) - 1), .int .i64 ((a6.L.length : Int) - (a6.E2.length : Int)), .int .i64 (a6.E2.length : Int), .int .i64 (a6.acked : Int), .int .i64 (a6.over : Int), .int .i64 (a6.gone : Int)]) (.agg #[.int .i64 2, .int .i64 1, .int .i64 0, .int .i64 0, .int .i64 1, .int .i64 0]) = some true := by kernel_rfl
  have m1 : Small a0 := ⟨by decide, by decide, by decide, by decide⟩
  have m2 : Small a1 := ⟨by decide, by decide, by decide, by decide⟩
  have m3 : Small a2 := ⟨by decide, by decide, by decide, by decide⟩
  have m4 : Small a3 := ⟨by decide, by decide, by decide, by decide⟩
  have m5 : Small a5 := ⟨by decide, by decide, by decide, by decide⟩
  have m6 : Small a6 := ⟨by decide, by decide, by decide, by decide⟩
  have bz : ∀ z ∈ a2.L, 1 ≤ z.num ∧ z.num < a2.next ∧ z.d.length ≤ 600 := by simp [Cps.a2]
  refine law21_alive.walk (new_ok fun h1 t X1 H1 u1 => ⟨_, rfl, home_ok fun h2 f2 => ⟨_, _, _, _, _, rfl, lit_ok (bs := [97]) rfl fun h3 r3 f3 => ?_⟩⟩)
  have lt1 := (H1.on f2).lt
  refine add_ok (s := a0) ((H1.on f2).on f3) m1 (by simp [a0]) (by decide) hm 50 rfl r3 rfl (fun _ a e hm => by cases e; exact absurd (lt1 _ (.inl hm)) (Nat.lt_irrefl _)) fun h4 X4 H4 s4 => ⟨_, _, rfl, ?_⟩
  rw [q1] at H4
  rw [q1e, q1n]
  have u4 := ((u1.on f2).on f3).step s4
  refine home_ok fun h5 f5 => ⟨_, _, _, _, _, rfl, lit_ok (bs := [98]) rfl fun h6 r6 f6 => ?_⟩
  have lt4 := (H4.on f5).lt
  refine add_ok (s := a1) ((H4.on f5).on f6) m2 (by simp [Cps.a1]) (by decide) hm 9 rfl r6 rfl (fun _ a e hm => by cases e; exact absurd (lt4 _ (.inl hm)) (Nat.lt_irrefl _)) fun h7 X7 H7 s7 => ⟨_, _, rfl, ?_⟩
  rw [q2] at H7
  have u7 := ((u4.on f5).on f6).step s7
  refine home_ok fun h8 f8 => ⟨_, _, _, _, _, rfl, lease_ok (H7.on f8) m3 bz hm 3 20 rfl (fun hn => absurd ⟨by omega, by omega, by omega⟩ hn) (fun _ hn => by rw [q3] at hn; cases hn) fun _ z hz h9 X9 p9 c9 H9 s9 r9 g9 => ?_⟩
  rw [q3] at hz; cases hz
  rw [q3'] at H9
  have u9 := (u7.on f8).step s9
  refine ⟨_, _, _, _, _, _, _, _, _, _, _, _, _, rfl, copies_Copy.new fun b2 h11 e11 hb11 f11 => ?_⟩
  have H11 := H9.on f11
  have o11 : Out X9 h11 (fun c => c = b2 ∨ inBlk p9 c) := fun c hc => by
    rcases hc with rfl | hc
    · exact ⟨lt_of_get hb11, fun hm => by have := H9.lt _ (.inl hm); omega⟩
    · refine ⟨?_, (g9 c hc).2⟩
      have := row_lt r9 (by simp [bc]) hc
      have := f11.1
      omega
  refine ack_ok H11 m4 (by decide) 1 4 fun h13 X13 H13 s13 => ⟨_, rfl, ?_⟩
  rw [q4'] at H13
  rw [q4]
  refine release_ok H13 m4 1 3 fun h14 X14 H14 s14 => ⟨_, rfl, ?_⟩
  rw [q5'] at H14
  rw [q5]
  refine home_ok fun h15 f15 => ⟨_, _, _, _, _, rfl, lease_ok (H14.on f15) m3 bz hm 4 5 rfl (fun hn => absurd ⟨by omega, by omega, by omega⟩ hn) (fun _ hn => by rw [q3] at hn; cases hn) fun _ z hz h16 X16 p16 c16 H16 s16 r16 g16 => ?_⟩
  rw [q3] at hz; cases hz
  rw [q6'] at H16
  refine ⟨_, _, _, _, _, _, _, _, _, _, _, _, _, rfl, copies_Copy.new fun b3 h18 e18 hb18 f18 => ?_⟩
  have S18 : StepF X9 h11 X16 h18 := (((s13.trans s14).on f15).trans s16).on f18
  have o18 : Out X16 h18 (fun c => c = b3) := fun c hc => by
    subst hc
    exact ⟨lt_of_get hb18, fun hm => by have := H16.lt _ (.inl hm); omega⟩
  refine pass_ok (H16.on f18) m5 (by decide) (by unfold Held; simp [a5, keys]) 9 fun h19 X19 p19 c19 H19 s19 N19 g19 => ⟨_, _, _, rfl, ?_⟩
  rw [q7'] at H19
  rw [q7] at N19 ⊢
  refine ack_ok H19 m6 (by decide) 1 4 fun h20 X20 H20 s20 => ⟨_, rfl, ?_⟩
  rw [q8'] at H20
  rw [q8]
  have S20 : StepF X9 h11 X20 h20 := (S18.trans s19).trans s20
  have T20 : StepF X16 h18 X20 h20 := s19.trans s20
  have hb2 := S20.fr.get hb11 (o11 _ (.inl rfl)).2
  have hb3 := T20.fr.get hb18 (o18 _ rfl).2
  have r20 := (r9.frame f11 (fun _ _ => id)).frame S20.fr (fun a e => (o11 _ (.inr ⟨a, e, rfl⟩)).2)
  rw [if_pos (by rfl), if_pos (by rfl)]
  refine ⟨_, _, _, cell_at hb2 rfl, _, conv r20 rfl, ?_⟩
  rw [str_list]
  rw [if_pos (by rw [toList_data]; decide), if_pos (by rfl), if_pos (by rfl), if_pos (by rfl)]
  refine ⟨_, cell_at hb3 rfl, ?_⟩
  rw [if_pos (by rfl), if_pos (by rfl), if_pos (by rfl)]
  refine (N19.step s20).at (i := 0) (k := 2) rfl ?_
  rw [if_pos (by rfl), if_pos (by rfl)]
  refine counts_ok H20 m6 fun h21 f21 => ⟨_, _, _, _, _, _, rfl, true, EqV.of eqC, ?_⟩
  exact hk h21 (((u9.on f11).step S20).fr.tt f21)
end Cps
end Go.Proofs.Ytgccegnmggjkjaa
