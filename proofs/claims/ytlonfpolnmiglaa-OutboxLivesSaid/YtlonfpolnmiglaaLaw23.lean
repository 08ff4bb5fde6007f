/-
  What is proved here: the law OutboxOrder on heaps ('outboxOrder_ok'). No condition.
-/
import Derived.Test.YtlonfpolnmiglaaBoxOps2
import Derived.Test.YtlonfpolnmiglaaVcD
set_option maxRecDepth 100000
namespace Go.Proofs.Ytlonfpolnmiglaa
open Go.Den Go.Fields Go.Heapq
namespace Obx
open Fld
variable {h h' h0 : Heap} {b : Nat} {X : Ft} {R : Value → Heap → Prop} {p q : Option Addr} {c d i : Nat} {L : List E} {s : BS}

theorem new_box (hk : ∀ h' b X, Box h' b X ⟨[], 1, 0, 0, 0⟩ → UpF h X h' → R (.pointer (some ⟨b, 0, none⟩)) h') : CallsH Try.prog F.outbox_New #[] h R :=
  new_ok fun h' b X H f g => hk h' b X ⟨[], H, okB.nil⟩ ⟨f, g⟩
theorem eq_alive : EqV Try.prog T.a5_int (.agg #[.int .i64 2, .int .i64 0, .int .i64 1, .int .i64 0, .int .i64 1]) (.agg #[.int .i64 2, .int .i64 0, .int .i64 1, .int .i64 0, .int .i64 1]) true := fun g => by kernel_rfl
theorem alive_ok (hk : ∀ h', Fr (fun _ => False) h h' → R (.bool true) h') : CallsH Try.prog F.law23_alive #[] h R := by
  refine law23_alive.walk (new_box fun h1 b X1 H1 u1 => ⟨_, rfl, ?_⟩)
  refine lit_ok (bs := [97]) rfl fun h3 r3 f3 => ?_
  refine add_ok 50 rfl (H1.on f3) r3 rfl (by simp) (by show 1 ≤ _; omega) fun h4 X4 H4 s4 => ⟨_, _, rfl, ?_⟩
  have e1 : addS ⟨[], 1, 0, 0, 0⟩ 3 [97] 50 = ⟨[⟨1, 3, [97], 50⟩], 2, 0, 0, 0⟩ := by simp [addS, addE, rightB]
  have e2 : addE ⟨[], 1, 0, 0, 0⟩ 3 [97] 50 = 0 := by simp [addE, rightB]
  have e3 : addN ⟨[], 1, 0, 0, 0⟩ 3 [97] 50 = 1 := by simp [addN, addE, rightB]
  rw [e1] at H4
  rw [e2, e3]
  have u4 := (u1.on f3).step s4
  refine lit_ok (bs := [98]) rfl fun h6 r6 f6 => ?_
  refine add_ok 9 rfl (H4.on f6) r6 rfl (by simp) (by show 2 ≤ _; omega) fun h7 X7 H7 s7 => ⟨_, _, rfl, ?_⟩
  have e4 : addS ⟨[⟨1, 3, [97], 50⟩], 2, 0, 0, 0⟩ 4 [98] 9 = ⟨[⟨1, 3, [97], 50⟩, ⟨2, 4, [98], 9⟩], 3, 0, 0, 0⟩ := by simp [addS, addE, rightB]
  rw [e4] at H7
  have u7 := (u4.on f6).step s7
  refine cancel_ok H7 (by show 3 ≤ _; omega) fun h8 X8 H8 s8 => ⟨_, rfl, ?_⟩
  have e5 : cancE ⟨[⟨1, 3, [97], 50⟩, ⟨2, 4, [98], 9⟩], 3, 0, 0, 0⟩ 1 4 = 13 := by simp [cancE, idxI, List.findIdx?_cons]
  have e6 : cancS ⟨[⟨1, 3, [97], 50⟩, ⟨2, 4, [98], 9⟩], 3, 0, 0, 0⟩ 1 4 = ⟨[⟨1, 3, [97], 50⟩, ⟨2, 4, [98], 9⟩], 3, 0, 0, 0⟩ := by unfold cancS; rw [e5]; rfl
  rw [e6] at H8
  rw [e5]
  have u8' := u7.step s8
  refine pass_ok 9 rfl H8 (by show 3 ≤ _; omega) fun h9 X9 p9 c9 ys D H9 s9 o9 d9 g9 kv9 so9 pm9 sub9 => ⟨_, _, _, rfl, ?_⟩
  have e7 : ([⟨1, 3, [97], 50⟩, ⟨2, 4, [98], 9⟩] : List It).filter (fun x => decide (((9 : Nat) : Int) < (x.till : Int))) = [⟨1, 3, [97], 50⟩] := by simp [List.filter_cons]
  have e8 : ([⟨1, 3, [97], 50⟩, ⟨2, 4, [98], 9⟩] : List It).filter (fun x => decide ((x.till : Int) ≤ ((9 : Nat) : Int))) = [⟨2, 4, [98], 9⟩] := by simp [List.filter_cons]
  have pm9 : D.Perm (([⟨1, 3, [97], 50⟩, ⟨2, 4, [98], 9⟩] : List It).filter (fun x => decide ((x.till : Int) ≤ ((9 : Nat) : Int))) |>.map It.kv) := pm9
  rw [e8] at pm9
  have hD : D = [((2 : Int), (9 : Int))] := List.perm_singleton.1 pm9
  rw [hD] at kv9
  obtain ⟨v9, hv9⟩ : ∃ v, ys = [v] := by
    have := congrArg List.length kv9
    rw [List.length_map, List.length_map] at this
    exact List.length_eq_one_iff.1 this
  subst hv9
  have hn9 : (v9.num : Int) = 2 := by
    have : v9.abs.kv = ((2 : Int), (9 : Int)) := by simpa using kv9
    exact congrArg Prod.fst this
  have H9 : Box h9 b X9 ⟨([⟨1, 3, [97], 50⟩, ⟨2, 4, [98], 9⟩] : List It).filter (fun x => decide (((9 : Nat) : Int) < (x.till : Int))), 3, 0, 0, 1⟩ := H9
  rw [e7] at H9
  have u9 := u8'.step s9
  refine take_ok H9 (by show 3 ≤ _; omega) (fun hn => by cases hn) fun x r hxr h10 X10 v hva H10 s10 v10 => ⟨_, _, _, _, _, _, _, rfl, ?_⟩
  obtain ⟨rfl, rfl⟩ := List.cons.inj hxr
  have u10 := u9.step s10
  refine outbox_Item.new fun b2 h15 eb2 hb2 f15 => ?_
  refine take_ok (H10.on f15) (by show 3 ≤ _; omega) (fun _ h16 H16 f16 => ⟨_, _, _, _, _, _, _, rfl, ?_⟩) (fun x r hn => by cases hn)
  refine outbox_Item.new fun b3 h21 eb3 hb3 f21 => ?_
  rw [if_pos (by decide), if_pos (by decide), if_pos (by decide), if_pos (by rfl)]
  obtain ⟨pa, poff, rfl⟩ := o9.addr (by simp)
  have o21 := (((o9.frame s10.fr (fun y hy hm => (g9 y hy).2 (.inl hm))).frame f15 (fun _ _ => id)).frame f16 (fun _ _ => id)).frame f21 (fun _ _ => id)
  have c0 := (o21.heldAt ienc_len (i := 0) (x := v9) rfl).1
  have hb21 := (f16.tt f21).get hb2 id
  have v21 := ((v10.frame f15 (fun _ _ => id)).frame f16 (fun _ _ => id)).frame f21 (fun _ _ => id)
  have hvb : v.v.b = [97] := congrArg It.d hva
  refine ⟨⟨by omega, by simp⟩, onSome_some.2 ⟨(v9.num : Int), c0, ?_⟩⟩
  rw [if_pos (by rw [hn9]; rfl)]
  refine ⟨_, _, _, cell_at hb21 rfl, _, conv v21.row rfl, ?_⟩
  rw [str_list, hvb]
  rw [if_pos (by rw [toList_data]; decide), if_pos (by decide), if_pos (by decide)]
  refine counts_ok (H16.on f21) (by show 3 ≤ _; omega) fun h22 f22 => ⟨_, _, _, _, _, rfl, true, ?_, ?_⟩
  · exact eq_alive
  · exact hk h22 (u10.fr.tt (f15.tt (f16.tt (f21.tt f22))))
end Obx
end Go.Proofs.Ytlonfpolnmiglaa
