/-
  What is proved here: parts of the proof, one behind the other (texts of this work, merged by a program; what the theorem does not use is left out). No condition.
-/
import Derived.Test.YticlajoleibdnaaGreatDoorProg
import Derived.Shelf.SortM.Plain
import Derived.Shelf.SortM.SortNone
import Derived.Ground.SlgmProg
import Derived.Lib.LaidU8
import Derived.Lib.LaidTab
import Derived.Handed
import Derived.Shelf.Vars
import Derived.Test.YticlajoleibdnaaGreatDoorRows
import Derived.LaidByTextLater
import Derived.SevenTiedAt
import Derived.LaidLaws
import Derived.Test.YticlajoleibdnaaGreatDoorChecked
import Derived.KernelRfl
import Derived.Test.YticlajoleibdnaaGreatDoorMAudyb
set_option linter.defProp false
set_option maxRecDepth 100000
set_option maxHeartbeats 4000000
namespace Go.Proofs.YticlajoleibdnaaGreatDoor
open Go.Den
open IntKind (wrap)
open Int (toNat)
section
variable {h:Heap} {R:TyP}
variable {K:Nat→Heap→Prop} {a:Addr} {b w d s l l_l l_c:Nat} {l_p:TyO}
theorem history_History.ex {K : history_History.S → Prop} (x : history_History.S) (hk : K x) : history_History.EX K := ⟨_, _, _, _, _, hk⟩
abbrev daemon_Deed.atp (h : Heap) (b : Nat) (x : daemon_Deed.S) : Prop := h[b]? = some (.cells x.arr 189 (0, 0))
theorem daemon_Deed.ex {K : daemon_Deed.S → Prop} (x : daemon_Deed.S) (hk : K x) : daemon_Deed.EX K := ⟨_, _, _, _, _, _, _, _, _, _, _, _, _, _, _, _, _, _, _, _, _, _, _, _, _, _, _, _, _, _, _, _, _, _, _, _, _, _, _, _, _, _, _, _, _, _, _, _, _, _, _, _, _, _, _, _, _, _, _, hk⟩
theorem daemon_Deed.ldAp {x : daemon_Deed.S} {K : daemon_Deed.S → Prop} (hb : heldL a x.l 0 h) (hk : K x) : daemon_Deed.LDp h a K := by
  obtain ⟨q0, q1, q2, q3, q4, q5, q6, q7, q8, q9, q10, q11, q12, q13, q14, q15, q16, q17, q18, q19, q20, q21, q22, q23, q24, q25, q26, q27, q28, q29, q30, q31, q32, q33, q34, q35, q36, q37, q38, q39, q40, q41, q42, q43, q44, q45, q46, q47, q48, q49, q50, _⟩ := hb
  rw [add_zero_addr] at q0
  exact ⟨_, q0, _, q1, _, q2, _, q3, _, q4, _, q5, _, q6, _, q7, _, q8, _, q9, _, q10, _, q11, _, q12, _, q13, _, q14, _, q15, _, _, _, q16, _, q17, _, q18, _, q19, _, q20, _, q21, _, q22, _, q23, _, q24, _, q25, _, q26, _, q27, _, q28, _, q29, _, q30, _, q31, _, q32, _, q33, _, q34, _, q35, _, q36, _, q37, _, q38, _, _, _, q39, _, q40, _, q41, _, q42, _, _, _, q43, _, q44, _, q45, _, q46, _, q47, _, q48, _, _, _, q49, _, q50, hk⟩
theorem daemon_Deed.heldp {x : daemon_Deed.S} (hb : daemon_Deed.atp h b x) : heldL ⟨b, 0, none⟩ x.l 0 h :=
  heldL_blk hb (fun j v hj => by rw [Nat.zero_add]; simpa using hj)
theorem daemon_Deed.ldp {x : daemon_Deed.S} {K : daemon_Deed.S → Prop} (hb : daemon_Deed.atp h b x) (hk : K x) : daemon_Deed.LDp h ⟨b, 0, none⟩ K := ldAp (heldp hb) hk
theorem daemon_Deed.newp {x : daemon_Deed.S} (hk : ∀ b h', b = h.size → daemon_Deed.atp h' b x → Fr No h h' → K b h') : NewP h (.cells daemon_Deed.S.z.arr 189) fun b h_0 => daemon_Deed.STp h_0 ⟨b, 0, none⟩ x (K b) :=
  new_full (vs := x.l) rfl rfl hk
theorem daemon_Deed.boxp {x : daemon_Deed.S} (hk : ∀ b h', b = h.size → daemon_Deed.atp h' b x → Fr No h h' → K b h') : NewP h (.cells x.arr 189) fun b h_0 => K b h_0 :=
  newP_of (hk _ _ rfl push_new (Fr.push _ _))
theorem daemon_Deed.setp {y x : daemon_Deed.S} {K : Heap → Prop} (a0 : daemon_Deed.atp h b y) (hk : ∀ h', daemon_Deed.atp h' b x → Fr (fun y => y = b) h h' → h'.size = h.size → K h') : daemon_Deed.STp h ⟨b, 0, none⟩ x K :=
  (show storeL ⟨b, 0, none⟩ x.l 0 h K from storeL_full a0 rfl rfl fun h1 d1 d2 d3 => hk h1 d1 (Fr.of_eq d2 fun c hc => d3 c hc) d2)
variable {x:daemon_Deed.S}
theorem history_New.walk  (hv :
 NewP h (.cells #[.bool true, .slice none 0 0, .int .i64 0] 181) fun b h_1 =>
 R (.pointer (some ⟨b, 0, none⟩)) h_1) : Cl 44 #[] h R :=
 callsN [] hv
theorem world_World_daemon.walk (hv :
 ∃ t9, hcell h ⟨w, 0, none⟩ = some (.pointer t9) ∧
 R (.pointer t9) h) : Cl 96 #[.pointer (some ⟨w, 0, none⟩)] h R :=
 callsN [] hv
theorem world_World_Connect.walk (hv :
 Cl 96 #[.pointer (some ⟨w, 0, none⟩)] h fun v h_1 =>
 ∃ t5, v = .pointer t5 ∧
 Cl 97 #[.pointer t5] h_1 fun v_1 h_2 =>
 ∃ t6_0 t6_1, v_1 = .tuple #[.int .i64 t6_0, .int .i64 t6_1] ∧
 R (.tuple #[.int .i64 t6_0, .int .i64 t6_1]) h_2) : Cl 50 #[.pointer (some ⟨w, 0, none⟩)] h R :=
 callsN [] hv
theorem world_World_Tick.walk {k : Int} (hv :
 Cl 96 #[.pointer (some ⟨w, 0, none⟩)] h fun v h_1 =>
 ∃ t6, v = .pointer t6 ∧
 Cl 118 #[.pointer t6, .int .u64 k] h_1 fun v_1 h_2 =>
 ∃ t8, v_1 = .int .i64 t8 ∧
 R (.int .i64 t8) h_2) : Cl 62 #[.pointer (some ⟨w, 0, none⟩), .int .u64 k] h R :=
 callsN [] hv
theorem world_World_Run.walk {n : Int} {draw : Int} (hv :
 NewP h (.cells reply_Reply.S.z.arr 110) fun b h_1 =>
 Cl 96 #[.pointer (some ⟨w, 0, none⟩)] h_1 fun v h_2 =>
 ∃ t13, v = .pointer t13 ∧
 Cl 102 #[.pointer t13, .int .i64 n, .int .u64 draw] h_2 fun v_1 h_3 =>
 daemon_Deed.EX fun t16_0 =>
 ∃ t16_1, v_1 = .tuple #[t16_0.agg, .int .i64 t16_1] ∧
 NewP h_3 (.cells daemon_Deed.S.z.arr 189) fun b_1 h_4 =>
 daemon_Deed.STp h_4 ⟨b_1, 0, none⟩ t16_0 fun h_5 =>
 ite (t16_1 != 0)
 (  reply_Reply.STp h_5 ⟨b, 0, none⟩ reply_Reply.S.z fun h_6 =>
 reply_Reply.LDp h_6 ⟨b, 0, none⟩ fun r0 =>
 R (.tuple #[r0.agg, .int .i64 t16_1]) h_6)
 (  daemon_Deed.LDp h_5 ⟨b_1, 0, none⟩ fun t24 =>
 Cl 100 #[.pointer (some ⟨w, 0, none⟩), t24.agg] h_5 fun v_2 h_7 =>
 ∃ t25, v_2 = .int .i64 t25 ∧
 ∃ t29_p t29_l t29_c, hcell h_7 ⟨w, 9, none⟩ = some (.slice t29_p t29_l t29_c) ∧
 JoinP (fun h_8 =>
 reply_Reply.LDp h_8 ⟨b_1, 44, none⟩ fun t47 =>
 reply_Reply.STp h_8 ⟨b, 0, none⟩ t47 fun h_9 =>
 reply_Reply.LDp h_9 ⟨b, 0, none⟩ fun r0_1 =>
 R (.tuple #[r0_1.agg, .int .i64 0]) h_9)
 (fun J =>
 ite (decide (((t29_l : Nat) : Int) < 64))
 (  ∃ t36_p t36_l t36_c, hcell h_7 ⟨w, 9, none⟩ = some (.slice t36_p t36_l t36_c) ∧
 ∃ t40, hcell h_7 ⟨b_1, 50, none⟩ = some (.int .i64 t40) ∧
 NewP h_7 (.cells #[.int .i64 n, .int .i64 t25, .int .i64 t40] 196) fun b_2 h_10 =>
 Kp h_7 h_10 [(some ⟨b_1, 50, none⟩), (some ⟨w, 9, none⟩)] ∧
 Dsz (Builtin.append_ #[92, 92] 92 #[.slice t36_p t36_l t36_c, .slice (some ⟨b_2, 0, none⟩) 1 1]) h_10 fun v_3 h_11 =>
 ∃ t43_p t43_l t43_c, v_3 = .slice t43_p t43_l t43_c ∧
 Kp h_10 h_11 [(some ⟨b_1, 50, none⟩)] ∧
 StoreP h_11 ⟨w, 9, none⟩ (.slice t43_p t43_l t43_c) fun h_12 =>
 J h_12)
 (  J h_7)))) : Cl 54 #[.pointer (some ⟨w, 0, none⟩), .int .i64 n, .int .u64 draw] h R :=
 callsN [(17, .join []), (18, fun _ => .planK (runP 15 0 .done))] hv
theorem world_World_Daemon.walk (hv :
 Cl 96 #[.pointer (some ⟨w, 0, none⟩)] h fun v h_1 =>
 ∃ t4, v = .pointer t4 ∧
 R (.pointer t4) h_1) : Cl 126 #[.pointer (some ⟨w, 0, none⟩)] h R :=
 callsN [] hv
theorem world_New.walk {sectors : Int} {self : eid_Eid.S} (hv :
 NewP h (.cells self.arr 64) fun b h_1 =>
 Cl 42 #[.int .i64 sectors] h_1 fun v h_2 =>
 ∃ t11_0 t11_1, v = .tuple #[.pointer t11_0, .int .i64 t11_1] ∧
 ite (t11_1 != 0)
 (  R (.tuple #[.pointer none, .int .i64 t11_1]) h_2)
 (  eid_Eid.LDp h_2 ⟨b, 0, none⟩ fun t19 =>
 Cl 43 #[.pointer t11_0, t19.agg, .int .u64 0] h_2 fun v_1 h_3 =>
 ∃ t20_0 t20_1, v_1 = .tuple #[.pointer t20_0, .int .i64 t20_1] ∧
 ite (t20_1 != 0)
 (  R (.tuple #[.pointer none, .int .i64 t20_1]) h_3)
 (  eid_Eid.LDp h_3 ⟨b, 0, none⟩ fun t29 =>
 Cl 44 #[] h_3 fun v_2 h_4 =>
 ∃ t30, v_2 = .pointer t30 ∧
 Kp h_3 h_4 [(some ⟨b, 0, none⟩)] ∧
 NewP h_4 (.cells #[.pointer t20_0, .pointer t11_0, .bool t29.f0, .int .u64 t29.f1, .int .u64 t29.f2, .string t29.f3, .string t29.f4, .pointer t30, .int .i64 0, .slice none 0 0] 94) fun b_1 h_5 =>
 Kp h_4 h_5 [(some ⟨b, 0, none⟩)] ∧
 R (.tuple #[.pointer (some ⟨b_1, 0, none⟩), .int .i64 0]) h_5))) : Cl 29 #[.int .i64 sectors, self.agg] h R :=
 callsN [(23, fun _ => .planK (runP 9 0 .done))] hv
theorem desk_New.walk  (hv :
 Cl 30 #[] h fun v h_1 =>
 eid_Eid.EX fun t4 =>
 v = t4.agg ∧
 Cl 29 #[.int .i64 100, t4.agg] h_1 fun v_1 h_2 =>
 ∃ t5_0 t5_1, v_1 = .tuple #[.pointer t5_0, .int .i64 t5_1] ∧
 NewP h_2 (.cells #[.pointer t5_0] 67) fun b h_3 =>
 R (.pointer (some ⟨b, 0, none⟩)) h_3) : Cl 17 #[] h R :=
 callsN [] hv
theorem desk_said.walk {r : reply_Reply.S} {e : Int} (hv :
 NewP h (.cells r.arr 110) fun b h_1 =>
 ∃ t7, hcell h_1 ⟨b, 0, none⟩ = some (.int .u64 t7) ∧
 ∃ t10, hcell h_1 ⟨b, 1, none⟩ = some (.int .i64 t10) ∧
 ∃ t13, hcell h_1 ⟨b, 2, none⟩ = some (.int .i64 t13) ∧
 ∃ t16, hcell h_1 ⟨b, 3, none⟩ = some (.int .i64 t16) ∧
 ∃ t19, hcell h_1 ⟨b, 4, none⟩ = some (.int .u64 t19) ∧
 ∃ t22_p t22_l t22_c, hcell h_1 ⟨b, 5, none⟩ = some (.slice t22_p t22_l t22_c) ∧
 Cl 94 #[.int .u64 t7, .int .i64 10] h_1 fun v h_2 =>
 ∃ t8, v = .string t8 ∧
 Kp h_1 h_2 [(some ⟨b, 5, none⟩), (some ⟨b, 4, none⟩), (some ⟨b, 3, none⟩), (some ⟨b, 2, none⟩), (some ⟨b, 1, none⟩)] ∧
 Cl 24 #[.int .i64 t10] h_2 fun v_1 h_3 =>
 ∃ t11, v_1 = .string t11 ∧
 Kp h_2 h_3 [(some ⟨b, 5, none⟩), (some ⟨b, 4, none⟩), (some ⟨b, 3, none⟩), (some ⟨b, 2, none⟩)] ∧
 Cl 24 #[.int .i64 t13] h_3 fun v_2 h_4 =>
 ∃ t14, v_2 = .string t14 ∧
 Kp h_3 h_4 [(some ⟨b, 5, none⟩), (some ⟨b, 4, none⟩), (some ⟨b, 3, none⟩)] ∧
 Cl 24 #[.int .i64 t16] h_4 fun v_3 h_5 =>
 ∃ t17, v_3 = .string t17 ∧
 Kp h_4 h_5 [(some ⟨b, 5, none⟩), (some ⟨b, 4, none⟩)] ∧
 Cl 94 #[.int .u64 t19, .int .i64 10] h_5 fun v_4 h_6 =>
 ∃ t20, v_4 = .string t20 ∧
 Kp h_5 h_6 [(some ⟨b, 5, none⟩)] ∧
 Cl 59 #[.slice t22_p t22_l t22_c] h_6 fun v_5 h_7 =>
 ∃ t23, v_5 = .string t23 ∧
 NewP h_7 (.cells #[.string t8, .string t11, .string t14, .string t17, .string t20, .string t23] 9) fun b_1 h_8 =>
 Cl 51 #[.int .i64 e, .slice (some ⟨b_1, 0, none⟩) 6 6] h_8 fun v_6 h_9 =>
 ∃ t25, v_6 = .string t25 ∧
 R (.string t25) h_9) : Cl 53 #[r.agg, .int .i64 e] h R :=
 callsN [(3, fun _ => .planK (runP 3 0 (opL [4,5,7,8,10,11,13,14,16,17,3,6,9,12,15] (runP 4 18 .done))))] hv
theorem desk_Desk_look.walk {a : desk_ask.S} (hv :
 NewP h (.cells a.arr 72) fun b h_1 =>
 ∃ t6, hcell h_1 ⟨b, 0, none⟩ = some (.string t6) ∧
 ite (t6.toList == (⟨#[119, 97, 105, 116, 115]⟩ : ByteArray).toList)
 (  ∃ t12, hcell h_1 ⟨d, 0, none⟩ = some (.pointer t12) ∧
 ∃ t15_p t15_l t15_c, hcell h_1 ⟨b, 1, none⟩ = some (.slice t15_p t15_l t15_c) ∧
 ((0 : Int) ≤ 0 ∧ 0 < ((t15_l : Nat) : Int)) ∧
 onSome t15_p fun a_1 =>
 ∃ t17, hcell h_1 (a_1.add (Int.toNat 0 * 1)) = some (.int .u64 t17) ∧
 Cl 126 #[.pointer t12] h_1 fun v h_2 =>
 ∃ t13, v = .pointer t13 ∧
 Kp h_1 h_2 [(some (a_1.add (Int.toNat 0 * 1))), (some ⟨b, 1, none⟩)] ∧
 Cl 127 #[.pointer t13, .int .i64 (IntKind.wrap .i64 t17)] h_2 fun v_1 h_3 =>
 ∃ t19, v_1 = .int .i64 t19 ∧
 Kp h_2 h_3 [(some (a_1.add (Int.toNat 0 * 1))), (some ⟨b, 1, none⟩)] ∧
 Cl 49 #[.int .i64 t19, .int .i64 0] h_3 fun v_2 h_4 =>
 ∃ t20, v_2 = .string t20 ∧
 Kp h_3 h_4 [(some (a_1.add (Int.toNat 0 * 1))), (some ⟨b, 1, none⟩)] ∧
 R (.string t20) h_4)
 (  ite (t6.toList == (⟨#[110, 111, 119]⟩ : ByteArray).toList)
 (  ∃ t26, hcell h_1 ⟨d, 0, none⟩ = some (.pointer t26) ∧
 Cl 126 #[.pointer t26] h_1 fun v_3 h_5 =>
 ∃ t27, v_3 = .pointer t27 ∧
 Cl 128 #[.pointer t27] h_5 fun v_4 h_6 =>
 ∃ t28, v_4 = .int .u64 t28 ∧
 Cl 94 #[.int .u64 t28, .int .i64 10] h_6 fun v_5 h_7 =>
 ∃ t29, v_5 = .string t29 ∧
 NewP h_7 (.cells #[.string t29] 9) fun b_1 h_8 =>
 Cl 51 #[.int .i64 0, .slice (some ⟨b_1, 0, none⟩) 1 1] h_8 fun v_6 h_9 =>
 ∃ t31, v_6 = .string t31 ∧
 R (.string t31) h_9)
 (  ite (t6.toList == (⟨#[108, 105, 110, 101, 115]⟩ : ByteArray).toList)
 (  Cl 129 #[.pointer (some ⟨d, 0, none⟩)] h_1 fun v_7 h_10 =>
 ∃ t35, v_7 = .string t35 ∧
 R (.string t35) h_10)
 (  ∃ t40, hcell h_1 ⟨d, 0, none⟩ = some (.pointer t40) ∧
 Cl 30 #[] h_1 fun v_8 h_11 =>
 eid_Eid.EX fun t36 =>
 v_8 = t36.agg ∧
 Kp h_1 h_11 [(some ⟨d, 0, none⟩)] ∧
 Cl 131 #[.pointer t40] h_11 fun v_9 h_12 =>
 ∃ t41, v_9 = .pointer t41 ∧
 Cl 132 #[.pointer t41] h_12 fun v_10 h_13 =>
 ∃ t42_p t42_l t42_c, v_10 = .slice t42_p t42_l t42_c ∧
 Cl 130 #[t36.agg, .slice t42_p t42_l t42_c] h_13 fun v_11 h_14 =>
 ∃ t43_0 t43_1, v_11 = .tuple #[.int .i64 t43_0, .int .i64 t43_1] ∧
 Cl 49 #[.int .i64 t43_0, .int .i64 t43_1] h_14 fun v_12 h_15 =>
 ∃ t46, v_12 = .string t46 ∧
 R (.string t46) h_15)))) : Cl 64 #[.pointer (some ⟨d, 0, none⟩), a.agg] h R :=
 callsN [(10, fun _ => .planK (runP 4 0 (runP 5 5 (.op 4 (runP 3 10 .done))))), (26, fun _ => .planK (runP 4 1 (.op 0 (runP 7 5 .done))))] hv
theorem desk_Desk_do.walk {a : desk_ask.S} (hv :
 NewP h (.cells a.arr 72) fun b h_1 =>
 ∃ t8, hcell h_1 ⟨b, 0, none⟩ = some (.string t8) ∧
 ite (t8.toList == (⟨#[99, 111, 110, 110, 101, 99, 116]⟩ : ByteArray).toList)
 (  ∃ t14, hcell h_1 ⟨d, 0, none⟩ = some (.pointer t14) ∧
 Cl 50 #[.pointer t14] h_1 fun v h_2 =>
 ∃ t15_0 t15_1, v = .tuple #[.int .i64 t15_0, .int .i64 t15_1] ∧
 Cl 49 #[.int .i64 t15_0, .int .i64 t15_1] h_2 fun v_1 h_3 =>
 ∃ t18, v_1 = .string t18 ∧
 R (.string t18) h_3)
 (  ite (t8.toList == (⟨#[102, 101, 101, 100]⟩ : ByteArray).toList)
 (  ∃ t24, hcell h_1 ⟨d, 0, none⟩ = some (.pointer t24) ∧
 ∃ t26_p t26_l t26_c, hcell h_1 ⟨b, 1, none⟩ = some (.slice t26_p t26_l t26_c) ∧
 ((0 : Int) ≤ 0 ∧ 0 < ((t26_l : Nat) : Int)) ∧
 onSome t26_p fun a_1 =>
 ∃ t28, hcell h_1 (a_1.add (Int.toNat 0 * 1)) = some (.int .u64 t28) ∧
 ∃ t31_p t31_l t31_c, hcell h_1 ⟨b, 2, none⟩ = some (.slice t31_p t31_l t31_c) ∧
 Cl 52 #[.pointer t24, .int .i64 (IntKind.wrap .i64 t28), .slice t31_p t31_l t31_c] h_1 fun v_2 h_4 =>
 ∃ t32, v_2 = .int .i64 t32 ∧
 Kp h_1 h_4 [(some (a_1.add (Int.toNat 0 * 1))), (some ⟨b, 1, none⟩)] ∧
 Cl 51 #[.int .i64 t32, .slice none 0 0] h_4 fun v_3 h_5 =>
 ∃ t33, v_3 = .string t33 ∧
 Kp h_4 h_5 [(some (a_1.add (Int.toNat 0 * 1))), (some ⟨b, 1, none⟩)] ∧
 R (.string t33) h_5)
 (  ite (t8.toList == (⟨#[114, 117, 110]⟩ : ByteArray).toList)
 (  ∃ t39, hcell h_1 ⟨d, 0, none⟩ = some (.pointer t39) ∧
 ∃ t41_p t41_l t41_c, hcell h_1 ⟨b, 1, none⟩ = some (.slice t41_p t41_l t41_c) ∧
 ((0 : Int) ≤ 0 ∧ 0 < ((t41_l : Nat) : Int)) ∧
 onSome t41_p fun a_2 =>
 ∃ t43, hcell h_1 (a_2.add (Int.toNat 0 * 1)) = some (.int .u64 t43) ∧
 ∃ t46_p t46_l t46_c, hcell h_1 ⟨b, 1, none⟩ = some (.slice t46_p t46_l t46_c) ∧
 ((0 : Int) ≤ 1 ∧ 1 < ((t46_l : Nat) : Int)) ∧
 onSome t46_p fun a_3 =>
 ∃ t48, hcell h_1 (a_3.add (Int.toNat 1 * 1)) = some (.int .u64 t48) ∧
 Cl 54 #[.pointer t39, .int .i64 (IntKind.wrap .i64 t43), .int .u64 t48] h_1 fun v_4 h_6 =>
 reply_Reply.EX fun t49_0 =>
 ∃ t49_1, v_4 = .tuple #[t49_0.agg, .int .i64 t49_1] ∧
 Kp h_1 h_6 [(some ⟨b, 1, none⟩), (some (a_2.add (Int.toNat 0 * 1))), (some ⟨b, 1, none⟩)] ∧
 Cl 53 #[t49_0.agg, .int .i64 t49_1] h_6 fun v_5 h_7 =>
 ∃ t52, v_5 = .string t52 ∧
 Kp h_6 h_7 [(some ⟨b, 1, none⟩), (some (a_2.add (Int.toNat 0 * 1))), (some ⟨b, 1, none⟩)] ∧
 R (.string t52) h_7)
 (  ite (t8.toList == (⟨#[99, 108, 111, 115, 101]⟩ : ByteArray).toList)
 (  ∃ t58, hcell h_1 ⟨d, 0, none⟩ = some (.pointer t58) ∧
 ∃ t60_p t60_l t60_c, hcell h_1 ⟨b, 1, none⟩ = some (.slice t60_p t60_l t60_c) ∧
 ((0 : Int) ≤ 0 ∧ 0 < ((t60_l : Nat) : Int)) ∧
 onSome t60_p fun a_4 =>
 ∃ t62, hcell h_1 (a_4.add (Int.toNat 0 * 1)) = some (.int .u64 t62) ∧
 Cl 55 #[.pointer t58, .int .i64 (IntKind.wrap .i64 t62)] h_1 fun v_6 h_8 =>
 ∃ t64, v_6 = .int .i64 t64 ∧
 Kp h_1 h_8 [(some (a_4.add (Int.toNat 0 * 1))), (some ⟨b, 1, none⟩)] ∧
 Cl 51 #[.int .i64 t64, .slice none 0 0] h_8 fun v_7 h_9 =>
 ∃ t65, v_7 = .string t65 ∧
 Kp h_8 h_9 [(some (a_4.add (Int.toNat 0 * 1))), (some ⟨b, 1, none⟩)] ∧
 R (.string t65) h_9)
 (  ite (t8.toList == (⟨#[115, 116, 101, 112]⟩ : ByteArray).toList)
 (  ∃ t71, hcell h_1 ⟨d, 0, none⟩ = some (.pointer t71) ∧
 Cl 56 #[.pointer t71] h_1 fun v_8 h_10 =>
 ∃ t72_0 t72_1, v_8 = .tuple #[.int .i64 t72_0, .int .i64 t72_1] ∧
 Cl 49 #[.int .i64 t72_0, .int .i64 t72_1] h_10 fun v_9 h_11 =>
 ∃ t75, v_9 = .string t75 ∧
 R (.string t75) h_11)
 (  ite (t8.toList == (⟨#[97, 110, 115, 119, 101, 114]⟩ : ByteArray).toList)
 (  ∃ t81, hcell h_1 ⟨d, 0, none⟩ = some (.pointer t81) ∧
 Cl 57 #[.pointer t81] h_1 fun v_10 h_12 =>
 ∃ t82_0 t82_1, v_10 = .tuple #[.int .i64 t82_0, .int .i64 t82_1] ∧
 Cl 49 #[.int .i64 t82_0, .int .i64 t82_1] h_12 fun v_11 h_13 =>
 ∃ t85, v_11 = .string t85 ∧
 R (.string t85) h_13)
 (  ite (t8.toList == (⟨#[111, 117, 116]⟩ : ByteArray).toList)
 (  ∃ t92, hcell h_1 ⟨d, 0, none⟩ = some (.pointer t92) ∧
 ∃ t94_p t94_l t94_c, hcell h_1 ⟨b, 1, none⟩ = some (.slice t94_p t94_l t94_c) ∧
 ((0 : Int) ≤ 0 ∧ 0 < ((t94_l : Nat) : Int)) ∧
 onSome t94_p fun a_5 =>
 ∃ t96, hcell h_1 (a_5.add (Int.toNat 0 * 1)) = some (.int .u64 t96) ∧
 Cl 58 #[.pointer t92, .int .i64 (IntKind.wrap .i64 t96)] h_1 fun v_12 h_14 =>
 ∃ t98_0_p t98_0_l t98_0_c t98_1, v_12 = .tuple #[.slice t98_0_p t98_0_l t98_0_c, .int .i64 t98_1] ∧
 Kp h_1 h_14 [(some (a_5.add (Int.toNat 0 * 1))), (some ⟨b, 1, none⟩)] ∧
 Cl 59 #[.slice t98_0_p t98_0_l t98_0_c] h_14 fun v_13 h_15 =>
 ∃ t103, v_13 = .string t103 ∧
 NewP h_15 (.cells #[.string t103] 9) fun b_1 h_16 =>
 Cl 51 #[.int .i64 t98_1, .slice (some ⟨b_1, 0, none⟩) 1 1] h_16 fun v_14 h_17 =>
 ∃ t105, v_14 = .string t105 ∧
 R (.string t105) h_17)
 (  ite (t8.toList == (⟨#[97, 114, 114, 105, 118, 101]⟩ : ByteArray).toList)
 (  ∃ t111, hcell h_1 ⟨d, 0, none⟩ = some (.pointer t111) ∧
 ∃ t113_p t113_l t113_c, hcell h_1 ⟨b, 2, none⟩ = some (.slice t113_p t113_l t113_c) ∧
 Cl 60 #[.pointer t111, .slice t113_p t113_l t113_c] h_1 fun v_15 h_18 =>
 reply_Reply.EX fun t114_0 =>
 ∃ t114_1, v_15 = .tuple #[t114_0.agg, .int .i64 t114_1] ∧
 Cl 53 #[t114_0.agg, .int .i64 t114_1] h_18 fun v_16 h_19 =>
 ∃ t117, v_16 = .string t117 ∧
 R (.string t117) h_19)
 (  ite (t8.toList == (⟨#[116, 97, 107, 101]⟩ : ByteArray).toList)
 (  ∃ t123, hcell h_1 ⟨d, 0, none⟩ = some (.pointer t123) ∧
 Cl 61 #[.pointer t123] h_1 fun v_17 h_20 =>
 reply_Reply.EX fun t124_0 =>
 ∃ t124_1, v_17 = .tuple #[t124_0.agg, .int .i64 t124_1] ∧
 Cl 53 #[t124_0.agg, .int .i64 t124_1] h_20 fun v_18 h_21 =>
 ∃ t127, v_18 = .string t127 ∧
 R (.string t127) h_21)
 (  ite (t8.toList == (⟨#[116, 105, 99, 107]⟩ : ByteArray).toList)
 (  ∃ t133, hcell h_1 ⟨d, 0, none⟩ = some (.pointer t133) ∧
 ∃ t135_p t135_l t135_c, hcell h_1 ⟨b, 1, none⟩ = some (.slice t135_p t135_l t135_c) ∧
 ((0 : Int) ≤ 0 ∧ 0 < ((t135_l : Nat) : Int)) ∧
 onSome t135_p fun a_6 =>
 ∃ t137, hcell h_1 (a_6.add (Int.toNat 0 * 1)) = some (.int .u64 t137) ∧
 Cl 62 #[.pointer t133, .int .u64 t137] h_1 fun v_19 h_22 =>
 ∃ t138, v_19 = .int .i64 t138 ∧
 Kp h_1 h_22 [(some ⟨b, 1, none⟩)] ∧
 Cl 51 #[.int .i64 t138, .slice none 0 0] h_22 fun v_20 h_23 =>
 ∃ t139, v_20 = .string t139 ∧
 Kp h_22 h_23 [(some ⟨b, 1, none⟩)] ∧
 R (.string t139) h_23)
 (  ite (t8.toList == (⟨#[99, 114, 97, 115, 104]⟩ : ByteArray).toList)
 (  ∃ t145, hcell h_1 ⟨d, 0, none⟩ = some (.pointer t145) ∧
 ∃ t147_p t147_l t147_c, hcell h_1 ⟨b, 3, none⟩ = some (.slice t147_p t147_l t147_c) ∧
 Cl 63 #[.pointer t145, .slice t147_p t147_l t147_c] h_1 fun v_21 h_24 =>
 ∃ t148_0 t148_1, v_21 = .tuple #[.int .i64 t148_0, .int .i64 t148_1] ∧
 Cl 49 #[.int .i64 t148_0, .int .i64 t148_1] h_24 fun v_22 h_25 =>
 ∃ t151, v_22 = .string t151 ∧
 R (.string t151) h_25)
 (  desk_ask.LDp h_1 ⟨b, 0, none⟩ fun t153 =>
 Cl 64 #[.pointer (some ⟨d, 0, none⟩), t153.agg] h_1 fun v_23 h_26 =>
 ∃ t154, v_23 = .string t154 ∧
 R (.string t154) h_26)))))))))))) : Cl 32 #[.pointer (some ⟨d, 0, none⟩), a.agg] h R :=
 callsN [(16, fun _ => .planK (runP 14 0 .done)), (22, fun _ => .planK (runP 18 0 .done)), (28, fun _ => .planK (runP 12 0 .done)), (46, fun _ => .planK (runP 15 0 .done)), (54, fun _ => .planK (runP 11 0 .done)), (66, fun _ => .planK (runP 11 0 .done)), (72, fun _ => .planK (runP 11 0 .done))] hv
theorem desk_Desk_Line.walk {s : ByteArray} (hv :
 JoinP (fun (t8 : Bool) h_1 =>
 ite t8
 (  R (.tuple #[.string (⟨#[]⟩ : ByteArray), .int .i64 6]) h_1)
 (  ite (decide (((s.size : Nat) : Int) > 4096))
 (  R (.tuple #[.string (⟨#[]⟩ : ByteArray), .int .i64 2]) h_1)
 (  Cl 31 #[.string s] h_1 fun v h_2 =>
 desk_ask.EX fun t24_0 =>
 ∃ t24_1, v = .tuple #[t24_0.agg, .bool t24_1] ∧
 NewP h_2 (.cells desk_ask.S.z.arr 72) fun b h_3 =>
 desk_ask.STp h_3 ⟨b, 0, none⟩ t24_0 fun h_4 =>
 ite (!t24_1)
 (  R (.tuple #[.string (⟨#[]⟩ : ByteArray), .int .i64 17]) h_4)
 (  desk_ask.LDp h_4 ⟨b, 0, none⟩ fun t30 =>
 Cl 32 #[.pointer (some ⟨d, 0, none⟩), t30.agg] h_4 fun v_1 h_5 =>
 ∃ t31, v_1 = .string t31 ∧
 R (.tuple #[.string t31, .int .i64 0]) h_5))))
 (fun J =>
 ∃ t15, hcell h ⟨d, 0, none⟩ = some (.pointer t15) ∧
 J t15.isNone h)) : Cl 18 #[.pointer (some ⟨d, 0, none⟩), .string s] h R :=
 callsN [(5, .join [(8, sB)])] hv
abbrev eid_Eid.atp (h : Heap) (b : Nat) (x : eid_Eid.S) : Prop := h[b]? = some (.cells x.arr 64 (0, 0))
theorem eid_Eid.ex {K : eid_Eid.S → Prop} (x : eid_Eid.S) (hk : K x) : eid_Eid.EX K := ⟨_, _, _, _, _, hk⟩
theorem eid_Eid.ldAp {x : eid_Eid.S} {K : eid_Eid.S → Prop} (hb : heldL a x.l 0 h) (hk : K x) : eid_Eid.LDp h a K := by
  obtain ⟨q0, q1, q2, q3, q4, _⟩ := hb
  rw [add_zero_addr] at q0
  exact ⟨_, q0, _, q1, _, q2, _, q3, _, q4, hk⟩
theorem eid_Eid.heldp {x : eid_Eid.S} (hb : eid_Eid.atp h b x) : heldL ⟨b, 0, none⟩ x.l 0 h :=
  heldL_blk hb (fun j v hj => by rw [Nat.zero_add]; simpa using hj)
theorem eid_Eid.ldp {x : eid_Eid.S} {K : eid_Eid.S → Prop} (hb : eid_Eid.atp h b x) (hk : K x) : eid_Eid.LDp h ⟨b, 0, none⟩ K := ldAp (heldp hb) hk
theorem eid_Eid.newp {x : eid_Eid.S} (hk : ∀ b h', b = h.size → eid_Eid.atp h' b x → Fr No h h' → K b h') : NewP h (.cells eid_Eid.S.z.arr 64) fun b h_0 => eid_Eid.STp h_0 ⟨b, 0, none⟩ x (K b) :=
  new_full (vs := x.l) rfl rfl hk
theorem eid_Eid.boxp {x : eid_Eid.S} (hk : ∀ b h', b = h.size → eid_Eid.atp h' b x → Fr No h h' → K b h') : NewP h (.cells x.arr 64) fun b h_0 => K b h_0 :=
  newP_of (hk _ _ rfl push_new (Fr.push _ _))
variable {self:eid_Eid.S}
theorem request_Request.ex {K : request_Request.S → Prop} (x : request_Request.S) (hk : K x) : request_Request.EX K := ⟨_, _, _, _, _, _, _, _, _, _, _, _, _, _, _, _, _, _, _, _, _, hk⟩
abbrev reply_Reply.atp (h : Heap) (b : Nat) (x : reply_Reply.S) : Prop := h[b]? = some (.cells x.arr 110 (0, 0))
theorem reply_Reply.ex {K : reply_Reply.S → Prop} (x : reply_Reply.S) (hk : K x) : reply_Reply.EX K := ⟨_, _, _, _, _, _, _, _, hk⟩
theorem reply_Reply.ldAp {x : reply_Reply.S} {K : reply_Reply.S → Prop} (hb : heldL a x.l 0 h) (hk : K x) : reply_Reply.LDp h a K := by
  obtain ⟨q0, q1, q2, q3, q4, q5, _⟩ := hb
  rw [add_zero_addr] at q0
  exact ⟨_, q0, _, q1, _, q2, _, q3, _, q4, _, _, _, q5, hk⟩
theorem reply_Reply.heldp {x : reply_Reply.S} (hb : reply_Reply.atp h b x) : heldL ⟨b, 0, none⟩ x.l 0 h :=
  heldL_blk hb (fun j v hj => by rw [Nat.zero_add]; simpa using hj)
theorem reply_Reply.ldp {x : reply_Reply.S} {K : reply_Reply.S → Prop} (hb : reply_Reply.atp h b x) (hk : K x) : reply_Reply.LDp h ⟨b, 0, none⟩ K := ldAp (heldp hb) hk
theorem reply_Reply.boxp {x : reply_Reply.S} (hk : ∀ b h', b = h.size → reply_Reply.atp h' b x → Fr No h h' → K b h') : NewP h (.cells x.arr 110) fun b h_0 => K b h_0 :=
  newP_of (hk _ _ rfl push_new (Fr.push _ _))
theorem reply_Reply.setp {y x : reply_Reply.S} {K : Heap → Prop} (a0 : reply_Reply.atp h b y) (hk : ∀ h', reply_Reply.atp h' b x → Fr (fun y => y = b) h h' → h'.size = h.size → K h') : reply_Reply.STp h ⟨b, 0, none⟩ x K :=
  (show storeL ⟨b, 0, none⟩ x.l 0 h K from storeL_full a0 rfl rfl fun h1 d1 d2 d3 => hk h1 d1 (Fr.of_eq d2 fun c hc => d3 c hc) d2)
theorem event_Event.ex {K : event_Event.S → Prop} (x : event_Event.S) (hk : K x) : event_Event.EX K := ⟨_, _, _, _, _, _, _, _, _, _, _, _, _, _, _, _, _, _, _, _, _, _, _, _, _, _, _, _, hk⟩
theorem flush_Log.ex {K : flush_Log.S → Prop} (x : flush_Log.S) (hk : K x) : flush_Log.EX K := ⟨_, _, _, hk⟩
theorem flush_half.walk (hv :
 Cl 294 #[.pointer (some ⟨d, 0, none⟩)] h fun v h_1 =>
 area_Area.EX fun t8_0 =>
 area_Area.EX fun t8_1 =>
 ∃ t8_2, v = .tuple #[t8_0.agg, t8_1.agg, .int .i64 t8_2] ∧
 NewP h_1 (.cells area_Area.S.z.arr 334) fun b h_2 =>
 NewP h_2 (.cells area_Area.S.z.arr 334) fun b_1 h_3 =>
 area_Area.STp h_3 ⟨b, 0, none⟩ t8_0 fun h_4 =>
 area_Area.STp h_4 ⟨b_1, 0, none⟩ t8_1 fun h_5 =>
 area_Area.LDp h_5 ⟨b, 0, none⟩ fun t12 =>
 Cl 295 #[t12.agg] h_5 fun v_1 h_6 =>
 ∃ t13, v_1 = .int .i64 t13 ∧
 R (.int .i64 t13) h_6) : Cl 215 #[.pointer (some ⟨d, 0, none⟩)] h R :=
 callsN [] hv
theorem flush_Format.walk (hv :
 NewP h (.cells self.arr 64) fun b h_1 =>
 eid_Eid.LDp h_1 ⟨b, 0, none⟩ fun t10 =>
 Cl 198 #[t10.agg] h_1 fun v h_2 =>
 ∃ t11_0 t11_1, v = .tuple #[.pointer t11_0, .int .i64 t11_1] ∧
 ite (t11_1 != 0)
 (  R (.tuple #[.pointer none, .int .i64 t11_1]) h_2)
 (  Cl 216 #[.pointer (some ⟨d, 0, none⟩)] h_2 fun v_1 h_3 =>
 ∃ t19_0 t19_1, v_1 = .tuple #[.pointer t19_0, .int .i64 t19_1] ∧
 ite (t19_1 != 0)
 (  R (.tuple #[.pointer none, .int .i64 t19_1]) h_3)
 (  Cl 215 #[.pointer (some ⟨d, 0, none⟩)] h_3 fun v_2 h_4 =>
 ∃ t28, v_2 = .int .i64 t28 ∧
 NewP h_4 (.cells #[.pointer t19_0, .pointer t11_0, .int .i64 t28] 233) fun b_1 h_5 =>
 R (.tuple #[.pointer (some ⟨b_1, 0, none⟩), .int .i64 0]) h_5))) : Cl 150 #[.pointer (some ⟨d, 0, none⟩), self.agg] h R :=
 callsN [] hv
theorem flush_Log_made.walk (hv :
 ∃ t9, hcell h ⟨l, 1, none⟩ = some (.pointer t9) ∧
 R (.bool (!t9.isNone)) h) : Cl 153 #[.pointer (some ⟨l, 0, none⟩)] h R :=
 callsN [] hv
theorem flush_Log_State.walk (hv :
 ∃ t8, hcell h ⟨l, 1, none⟩ = some (.pointer t8) ∧
 R (.pointer t8) h) : Cl 86 #[.pointer (some ⟨l, 0, none⟩)] h R :=
 callsN [] hv
theorem flush_Log_Done.walk (hv :
 Cl 153 #[.pointer (some ⟨l, 0, none⟩)] h fun v h_1 =>
 ∃ t4, v = .bool t4 ∧
 ite (!t4)
 (  R (.int .i64 0) h_1)
 (  ∃ t9, hcell h_1 ⟨l, 0, none⟩ = some (.pointer t9) ∧
 Cl 180 #[.pointer t9] h_1 fun v_1 h_2 =>
 ∃ t10, v_1 = .int .i64 t10 ∧
 R (.int .i64 t10) h_2)) : Cl 108 #[.pointer (some ⟨l, 0, none⟩)] h R :=
 callsN [] hv
theorem flush_Log_All.walk (hv :
 Cl 153 #[.pointer (some ⟨l, 0, none⟩)] h fun v h_1 =>
 ∃ t4, v = .bool t4 ∧
 ite (!t4)
 (  R (.int .i64 0) h_1)
 (  ∃ t9, hcell h_1 ⟨l, 0, none⟩ = some (.pointer t9) ∧
 Cl 232 #[.pointer t9] h_1 fun v_1 h_2 =>
 ∃ t10, v_1 = .int .i64 t10 ∧
 R (.int .i64 t10) h_2)) : Cl 158 #[.pointer (some ⟨l, 0, none⟩)] h R :=
 callsN [] hv
theorem slices_IndexFunc_s_s_byte_s_byte.other.walk {s_p : Option Addr} {s_l s_c : Nat} (hv :
 ∃ (I : Int → Heap → Prop) (mu : Int → Heap → Nat), I 0 h ∧ ∀ t8 h_1, I t8 h_1 →
 ite (decide (t8 < ((s_l : Nat) : Int)))
 (  ((0 : Int) ≤ t8 ∧ t8 < ((s_l : Nat) : Int)) ∧
 onSome s_p fun a =>
 ∃ t15_p t15_l t15_c, hcell h_1 (a.add (Int.toNat t8 * 1)) = some (.slice t15_p t15_l t15_c) ∧
 Cl 289 #[.slice t15_p t15_l t15_c] h_1 fun v h_2 =>
 ∃ t16, v = .bool t16 ∧
 ite t16
 (  R (.int .i64 t8) h_2)
 (  (I (IntKind.wrap .i64 (t8 + 1)) h_2 ∧ mu (IntKind.wrap .i64 (t8 + 1)) h_2 < mu t8 h_1)))
 (  R (.int .i64 (-1)) h_1)) : Cl 290 #[.slice s_p s_l s_c, .func (.func 289) #[] #[]] h R :=
 callsN [(6, .loop [(8, sI)])] hv
theorem flush_events.walk (hv :
 ∃ (I : Option Addr → Nat → Nat → Int → Heap → Prop) (mu : Option Addr → Nat → Nat → Int → Heap → Nat), I none 0 0 0 h ∧ ∀ out_p out_l out_c t11 h_1, I out_p out_l out_c t11 h_1 →
 ite (decide (t11 < ((l_l : Nat) : Int)))
 (  ((0 : Int) ≤ t11 ∧ t11 < ((l_l : Nat) : Int)) ∧
 onSome l_p fun a =>
 ∃ t14_p t14_l t14_c, hcell h_1 (a.add (Int.toNat t11 * 1)) = some (.slice t14_p t14_l t14_c) ∧
 ((0 : Int) ≤ 1 ∧ 1 ≤ ((t14_l : Nat) : Int)) ∧
 Cl 357 #[.slice (slBase t14_p t14_c (Int.toNat 1) 1) (t14_l - (Int.toNat 1)) (t14_c - (Int.toNat 1))] h_1 fun v h_2 =>
 event_Event.EX fun t18_0 =>
 ∃ t18_1, v = .tuple #[t18_0.agg, .int .i64 t18_1] ∧
 NewP h_2 (.cells event_Event.S.z.arr 176) fun b h_3 =>
 event_Event.STp h_3 ⟨b, 0, none⟩ t18_0 fun h_4 =>
 JoinP (fun (t28 : Bool) h_5 =>
 ite t28
 (  R (.tuple #[.slice none 0 0, .bool false]) h_5)
 (  event_Event.LDp h_5 ⟨b, 0, none⟩ fun t30 =>
 NewP h_5 (.cells t30.arr 176) fun b_1 h_6 =>
 Dsz (Builtin.append_ #[414, 414] 414 #[.slice out_p out_l out_c, .slice (some ⟨b_1, 0, none⟩) 1 1]) h_6 fun v_1 h_7 =>
 ∃ t32_p t32_l t32_c, v_1 = .slice t32_p t32_l t32_c ∧
 (I t32_p t32_l t32_c (IntKind.wrap .i64 (t11 + 1)) h_7 ∧ mu t32_p t32_l t32_c (IntKind.wrap .i64 (t11 + 1)) h_7 < mu out_p out_l out_c t11 h_1)))
 (fun J =>
 ite (t18_1 != 0)
 (  J true h_4)
 (  ((0 : Int) ≤ 0 ∧ 0 < ((t14_l : Nat) : Int)) ∧
 onSome t14_p fun a_1 =>
 ∃ t26, hcell h_4 (a_1.add (Int.toNat 0 * 1)) = some (.int .u8 t26) ∧
 J (t26 != 69) h_4)))
 (  R (.tuple #[.slice out_p out_l out_c, .bool true]) h_1)) : Cl 292 #[.slice l_p l_l l_c] h R :=
 callsN [(8, .loop [(4, sS), (11, sI)]), (23, .join [(28, sB)])] hv
theorem flush_said.walk (hv :
 Cl 290 #[.slice l_p l_l l_c, .func (.func 289) #[] #[]] h fun v h_1 =>
 ∃ t19, v = .int .i64 t19 ∧
 JoinP (fun (n : Int) h_2 =>
 JoinP (fun (s_1 : Option Addr) h_3 =>
 ((0 : Int) ≤ n ∧ n ≤ ((l_l : Nat) : Int)) ∧
 Cl 292 #[.slice (slBase l_p l_c (Int.toNat n) 1) (l_l - (Int.toNat n)) (l_c - (Int.toNat n))] h_3 fun v_1 h_4 =>
 ∃ t52_0_p t52_0_l t52_0_c t52_1, v_1 = .tuple #[.slice t52_0_p t52_0_l t52_0_c, .bool t52_1] ∧
 ite (!t52_1)
 (  R (.tuple #[.pointer none, .int .i64 3]) h_4)
 (  Cl 293 #[.pointer s_1, .slice t52_0_p t52_0_l t52_0_c] h_4 fun v_2 h_5 =>
 ∃ t60_0 t60_1, v_2 = .tuple #[.int .i64 t60_0, .int .i64 t60_1] ∧
 ite (t60_1 != 0)
 (  R (.tuple #[.pointer none, .int .i64 3]) h_5)
 (  R (.tuple #[.pointer s_1, .int .i64 0]) h_5)))
 (fun J_1 =>
 ite (decide (n > 0))
 (  ((0 : Int) ≤ n ∧ n ≤ ((l_c : Nat) : Int)) ∧
 ∃ (I : Option Addr → Nat → Nat → Int → Heap → Prop) (mu : Option Addr → Nat → Nat → Int → Heap → Nat), I none 0 0 0 h_2 ∧ ∀ first_p first_l first_c t30 h_6, I first_p first_l first_c t30 h_6 →
 ite (decide (t30 < (((Int.toNat n) - 0 : Nat) : Int)))
 (  ((0 : Int) ≤ t30 ∧ t30 < (((Int.toNat n) - 0 : Nat) : Int)) ∧
 onSome (slBase l_p l_c 0 1) fun a =>
 ∃ t33_p t33_l t33_c, hcell h_6 (a.add (Int.toNat t30 * 1)) = some (.slice t33_p t33_l t33_c) ∧
 ((0 : Int) ≤ 1 ∧ 1 ≤ ((t33_l : Nat) : Int)) ∧
 NewP h_6 (.cells #[.slice (slBase t33_p t33_c (Int.toNat 1) 1) (t33_l - (Int.toNat 1)) (t33_c - (Int.toNat 1))] 69) fun b h_7 =>
 Dsz (Builtin.append_ #[164, 164] 164 #[.slice first_p first_l first_c, .slice (some ⟨b, 0, none⟩) 1 1]) h_7 fun v_3 h_8 =>
 ∃ t38_p t38_l t38_c, v_3 = .slice t38_p t38_l t38_c ∧
 (I t38_p t38_l t38_c (IntKind.wrap .i64 (t30 + 1)) h_8 ∧ mu t38_p t38_l t38_c (IntKind.wrap .i64 (t30 + 1)) h_8 < mu first_p first_l first_c t30 h_6))
 (  Cl 291 #[.slice first_p first_l first_c] h_6 fun v_4 h_9 =>
 ∃ t42_0 t42_1, v_4 = .tuple #[.pointer t42_0, .int .i64 t42_1] ∧
 ite (t42_1 != 0)
 (  R (.tuple #[.pointer none, .int .i64 3]) h_9)
 (  J_1 t42_0 h_9)))
 (  J_1 (some ⟨s, 0, none⟩) h_2)))
 (fun J =>
 ite (decide (t19 < 0))
 (  J ((l_l : Nat) : Int) h_1)
 (  J t19 h_1))) : Cl 214 #[.slice l_p l_l l_c, .pointer (some ⟨s, 0, none⟩)] h R :=
 callsN [(9, .join [(7, sI)]), (15, .join [(1, sP)]), (22, .loop [(8, sS), (30, sI)])] hv
theorem flush_Open.walk (hv :
 NewP h (.cells self.arr 64) fun b h_1 =>
 eid_Eid.LDp h_1 ⟨b, 0, none⟩ fun t11 =>
 Cl 198 #[t11.agg] h_1 fun v h_2 =>
 ∃ t12_0 t12_1, v = .tuple #[.pointer t12_0, .int .i64 t12_1] ∧
 ite (t12_1 != 0)
 (  R (.tuple #[.pointer none, .int .i64 t12_1]) h_2)
 (  Cl 213 #[.pointer (some ⟨d, 0, none⟩)] h_2 fun v_1 h_3 =>
 ∃ t20_0 t20_1_p t20_1_l t20_1_c t20_2, v_1 = .tuple #[.pointer t20_0, .slice t20_1_p t20_1_l t20_1_c, .int .i64 t20_2] ∧
 ite (t20_2 != 0)
 (  R (.tuple #[.pointer none, .int .i64 t20_2]) h_3)
 (  Cl 214 #[.slice t20_1_p t20_1_l t20_1_c, .pointer t12_0] h_3 fun v_2 h_4 =>
 ∃ t30_0 t30_1, v_2 = .tuple #[.pointer t30_0, .int .i64 t30_1] ∧
 ite (t30_1 != 0)
 (  R (.tuple #[.pointer none, .int .i64 t30_1]) h_4)
 (  Cl 215 #[.pointer (some ⟨d, 0, none⟩)] h_4 fun v_3 h_5 =>
 ∃ t39, v_3 = .int .i64 t39 ∧
 NewP h_5 (.cells #[.pointer t20_0, .pointer t30_0, .int .i64 t39] 233) fun b_1 h_6 =>
 R (.tuple #[.pointer (some ⟨b_1, 0, none⟩), .int .i64 0]) h_6)))) : Cl 149 #[.pointer (some ⟨d, 0, none⟩), self.agg] h R :=
 callsN [] hv
theorem arrive_Replay.walk (hv :
 ∃ (I : Int → Heap → Prop) (mu : Int → Heap → Nat), I 0 h ∧ ∀ t12 h_1, I t12 h_1 →
 ite (decide (t12 < ((l_l : Nat) : Int)))
 (  ((0 : Int) ≤ t12 ∧ t12 < ((l_l : Nat) : Int)) ∧
 onSome l_p fun a =>
 event_Event.LDp h_1 (a.add (Int.toNat t12 * 24)) fun t16 =>
 NewP h_1 (.cells event_Event.S.z.arr 176) fun b h_2 =>
 event_Event.STp h_2 ⟨b, 0, none⟩ t16 fun h_3 =>
 event_Event.LDp h_3 ⟨b, 0, none⟩ fun t19 =>
 Cl 157 #[.pointer (some ⟨s, 0, none⟩), t19.agg] h_3 fun v h_4 =>
 reply_Reply.EX fun t20_0 =>
 ∃ t20_1, v = .tuple #[t20_0.agg, .int .i64 t20_1] ∧
 NewP h_4 (.cells reply_Reply.S.z.arr 110) fun b_1 h_5 =>
 reply_Reply.STp h_5 ⟨b_1, 0, none⟩ t20_0 fun h_6 =>
 ite (t20_1 != 0)
 (  R (.tuple #[.int .i64 t12, .int .i64 t20_1]) h_6)
 (  (I (IntKind.wrap .i64 (t12 + 1)) h_6 ∧ mu (IntKind.wrap .i64 (t12 + 1)) h_6 < mu t12 h_1)))
 (  R (.tuple #[.int .i64 ((l_l : Nat) : Int), .int .i64 0]) h_1)) : Cl 293 #[.pointer (some ⟨s, 0, none⟩), .slice l_p l_l l_c] h R :=
 callsN [(6, .loop [(12, sI)])] hv

end
section
namespace Flu
open Dsk Area Sup Jnl
variable {h:Heap} {R:TyP} {d n:Nat} {X:Ft} {s:DS}
theorem half_ok (H : Dk h d X n s) (h4 : 4 ≤ n) (h5 : n ≤ 4096) (hk : ∀ g, Fr No h g → R (.int .i64 (room n : Int)) g) : Cl 215 #[.pointer (some ⟨d, 0, none⟩)] h R := by
  refine flush_half.walk (halves_call H h4 h5 fun h2 f2 => area_Area.ex (halves n).1.S (area_Area.ex (halves n).2.S ⟨_, rfl, newP_of (newP_of ?_)⟩))
  have f3 : Fr No h2 (h2.push (.cells area_Area.S.z.arr 334)) := Fr.push _ _
  generalize hg3 : h2.push (.cells area_Area.S.z.arr 334) = g3 at f3 ⊢
  have a3 : area_Area.atp g3 h2.size area_Area.S.z := hg3 ▸ push_new
  have f4 : Fr No g3 (g3.push (.cells area_Area.S.z.arr 334)) := Fr.push _ _
  generalize hg4 : g3.push (.cells area_Area.S.z.arr 334) = g4 at f4 ⊢
  have a4 : area_Area.atp g4 g3.size area_Area.S.z := hg4 ▸ push_new
  have ne : h2.size < g3.size := by rw [← hg3]; simp
  have z2 := f2.1
  refine area_Area.setp (x := (halves n).1.S) (f4.get a3 id) fun g5 a5 f5 z5 => ?_
  refine area_Area.setp (x := (halves n).2.S) (f5.get a4 (by omega)) fun g6 a6 f6 z6 => ?_
  have F6 : Fr No h g6 := ((((f2.tt f3).tt f4).fresh (S := fun y => y = h2.size) f5 (fun y hy => by omega)).fresh f6 fun y hy => by omega)
  have hh := (halves_ok h4).1
  refine area_Area.ldp (f6.get a5 (by omega)) (room_ok hh.2.2.1 (by have := hh.2.2.2; omega) fun g7 f7 => ⟨_, rfl, ?_⟩)
  exact hk g7 (F6.tt f7)

end Flu
end
section
open Go.Fields
namespace Fld
abbrev nenc (n : BV) : List Value := [n.val]
theorem tN : SlTy Tryz.prog 164 69 1 24 (.slice none 0 0) := ⟨by kernel_rfl, by kernel_rfl, rfl⟩
theorem uN : Tryz.prog.underlying 164 = some (.slice 69) := by kernel_rfl
theorem nenc_len (n : BV) : (nenc n).length = 1 := rfl

end Fld
end
section
variable {h:Heap} {R:TyP}
theorem alarm_New.walk  (hv :
 NewP h (.map #[] 0) fun b h_1 =>
 NewP h_1 (.cells #[.slice none 0 0, .map (some b)] 563) fun b_1 h_2 =>
 R (.pointer (some ⟨b_1, 0, none⟩)) h_2) : Cl 346 #[] h R :=
 callsN [] hv

end
section
open Go.Heapq
namespace Alarm
def enc (es : List E) : List Value := es.flatMap fun e => [.int .i64 e.1, .int .u64 e.2]
theorem enc_cons (e : E) (es : List E) : enc (e :: es) = .int .i64 e.1 :: .int .u64 e.2 :: enc es := rfl
theorem enc_len : ∀ es : List E, (enc es).length = es.length * 2
  | [] => rfl
  | e :: es => by rw [enc_cons]; simp only [List.length_cons, enc_len es]; omega
theorem enc_0 : ∀ {es : List E} {i : Nat}, i < es.length → (enc es)[i * 2]? = some (.int .i64 (at_ es i).1)
  | [], _, h => by simp at h
  | e :: es, 0, _ => rfl
  | e :: es, i + 1, h => by
    rw [enc_cons, show (i + 1) * 2 = i * 2 + 1 + 1 by omega, List.getElem?_cons_succ, List.getElem?_cons_succ, enc_0 (by grind)]
    rfl
theorem enc_1 : ∀ {es : List E} {i : Nat}, i < es.length → (enc es)[i * 2 + 1]? = some (.int .u64 (at_ es i).2)
  | [], _, h => by simp at h
  | e :: es, 0, _ => rfl
  | e :: es, i + 1, h => by
    rw [enc_cons, show (i + 1) * 2 + 1 = i * 2 + 1 + 1 + 1 by omega, List.getElem?_cons_succ, List.getElem?_cons_succ, enc_1 (by grind)]
    rfl
structure Mem (h : Heap) (a : Nat) (p : Option Addr) (cap m : Nat) (es : List E) (g : Int → Option Value) : Prop where
  blk : h[a]? = some (.cells #[.slice p es.length cap, .map (some m)] 563 (0, 0))
  own : Own h p es.length cap 2 (enc es)
  map : MapF h m g
  ne : ¬ inBlk p a
def foot (a : Nat) (p : Option Addr) (m : Nat) (c : Nat) : Prop := c = a ∨ c = m ∨ inBlk p c
variable {h : Heap} {a m cap : Nat} {p : Option Addr} {es : List E} {g : Int → Option Value} {R : Value → Heap → Prop}
theorem Mem.lt (M : Mem h a p cap m es g) {c : Nat} (hc : foot a p m c) : c < h.size := by
  rcases hc with rfl | rfl | hc
  · exact lt_of_get M.blk
  · exact M.map.lt
  · exact M.own.blk_lt hc
theorem Mem.frame {S : Nat → Prop} {h' : Heap} (M : Mem h a p cap m es g) (hf : Fr S h h') (hn : ∀ c, foot a p m c → ¬ S c) : Mem h' a p cap m es g :=
  ⟨hf.get M.blk (hn a (.inl rfl)), M.own.frame hf fun c hc => hn c (.inr (.inr hc)), M.map.frame hf (hn m (.inr (.inl rfl))), M.ne⟩
theorem Mem.hd (M : Mem h a p cap m es g) : hcell h ⟨a, 0, none⟩ = some (.slice p es.length cap) := cell_at M.blk rfl
theorem Mem.some (M : Mem h a p cap m es g) (hn : 0 < es.length) : ∃ ad, p = some ad := by
  have ⟨b, off, hp⟩ := M.own.some (by rw [enc_len]; omega)
  exact ⟨_, hp⟩
theorem Mem.c0 {ad : Addr} (M : Mem h a (.some ad) cap m es g) {i : Nat} (hi : i < es.length) : hcell h (ad.add (i * 2)) = .some (.int .i64 (at_ es i).1) := M.own.cell (enc_0 hi)
theorem Mem.c1 {ad : Addr} (M : Mem h a (.some ad) cap m es g) {i : Nat} (hi : i < es.length) : hcell h ((ad.add (i * 2)).add 1) = .some (.int .u64 (at_ es i).2) := by
  rw [add_add]; exact M.own.cell (enc_1 hi)
end Alarm
end
section
open Go.Heapq
namespace Alarm
variable {h:Heap} {a m cap:Nat} {p:TyO} {es:List E} {g:Int→Option Value} {R:TyP} {S:Nat→Prop} {L:List E}
def Good (L : List E) : Prop := ∀ e ∈ L, 1 ≤ e.1 ∧ e.1 ≤ 1099511627776 ∧ 0 ≤ e.2 ∧ e.2 ≤ 1099511627776
def Al (h : Heap) (a : Nat) (S : Nat → Prop) (L : List E) : Prop :=
  ∃ p cap m es g, Mem h a p cap m es g ∧ PlaceOk es g ∧ HeapO (at_ es) es.length ∧ es.Perm L ∧ Sorted L ∧ Good L ∧ ∀ c, S c ↔ foot a p m c
theorem Al.lt (A : Al h a S L) {c : Nat} (hc : S c) : c < h.size := by
  have ⟨p, cap, m, es, g, M, _, _, _, _, _, hS⟩ := A
  exact M.lt ((hS c).1 hc)
theorem Al.frame {Q : Nat → Prop} {h' : Heap} (A : Al h a S L) (hf : Fr Q h h') (hn : ∀ c, S c → ¬ Q c) : Al h' a S L := by
  have ⟨p, cap, m, es, g, M, P, H, pm, so, gd, hS⟩ := A
  exact ⟨p, cap, m, es, g, M.frame hf fun c hc => hn c ((hS c).2 hc), P, H, pm, so, gd, hS⟩
theorem new_ok (hk : ∀ a S h', Al h' a S [] → (∀ c, S c → h.size ≤ c) → Fr No h h' → R (.pointer (some ⟨a, 0, none⟩)) h') : Cl 346 #[] h R := by
  refine alarm_New.walk ?_
  rintro b h1 rfl rfl b1 h2 rfl rfl
  have f : Fr No (h.push (.map #[] 0)) ((h.push (.map #[] 0)).push (.cells #[.slice none 0 0, .map (some h.size)] 563)) := Fr.push _ _
  refine hk _ (foot (h.push (.map #[] 0)).size none h.size) _ ⟨none, 0, h.size, [], fun _ => none, ⟨push_new, .nil rfl rfl rfl rfl, (MapF.push h).frame f id, ?_⟩, ⟨.nil, ?_, fun _ _ => rfl⟩, ?_, .refl _, .nil, ?_, fun _ => Iff.rfl⟩ ?_ (Fr.tt (Fr.push _ _) f)
  · rintro ⟨_, e, _⟩; cases e
  · simp
  · intro j _ hj; simp at hj
  · intro e he; cases he
  · rintro c (rfl | rfl | ⟨_, e, _⟩)
    · simp
    · omega
    · cases e
def hd (L : List E) : E := L.headD (0, 0)
def may (key t : Int) : Bool := decide (1 ≤ key) && decide (key ≤ 1099511627776) && decide (t ≤ 1099511627776)
theorem may_iff {key t : Int} : may key t = true ↔ 1 ≤ key ∧ key ≤ 1099511627776 ∧ t ≤ 1099511627776 := by simp [may, and_assoc]
def setL (L : List E) (key t : Int) : List E := insertS (dropK L key) (key, t)
def isDue (now : Int) (e : E) : Bool := decide (e.2 ≤ now)

end Alarm
end
section
variable {h:Heap} {R:TyP}
theorem outbox_New.walk  (hv :
 Cl 346 #[] h fun v h_1 =>
 ∃ t1, v = .pointer t1 ∧
 NewP h_1 (.cells #[.slice none 0 0, .int .i64 1, .int .i64 0, .int .i64 0, .int .i64 0, .pointer t1] 489) fun b h_2 =>
 R (.pointer (some ⟨b, 0, none⟩)) h_2) : Cl 278 #[] h R :=
 callsN [] hv

end
section
open Go.Fields Go.Heapq
namespace Obx
open Fld
variable {h h':Heap} {b:Nat} {X:Ft} {R:TyP} {c d i:Nat} {L:List E}
structure It where
  num : Nat
  owner : Int
  d : List UInt8
  till : Nat
structure IV where
  num : Nat
  owner : Int
  v : BV
  till : Nat
def IV.abs (x : IV) : It := ⟨x.num, x.owner, x.v.b, x.till⟩
abbrev ienc (x : IV) : List Value := [.int .i64 (x.num : Int), .int .i64 x.owner, x.v.val, .int .u64 (x.till : Int)]
abbrev IV.agg (x : IV) : Value := .agg #[.int .i64 (x.num : Int), .int .i64 x.owner, x.v.val, .int .u64 (x.till : Int)]
structure BS where
  items : List It
  next : Nat
  taken : Nat
  canc : Nat
  over : Nat
structure Mm (h : Heap) (b : Nat) (X : Ft) (s : BS) (L : List E) (lp : Option Addr) (lc : Nat) (xs : List IV) (a : Nat) (S : Nat → Prop) : Prop where
  blk : h[b]? = some (.cells #[.slice lp xs.length lc, .int .i64 (s.next : Int), .int .i64 (s.taken : Int), .int .i64 (s.canc : Int), .int .i64 (s.over : Int), .pointer (some ⟨a, 0, none⟩)] 489 (0, 0))
  own : Own h lp xs.length lc 4 (xs.flatMap ienc)
  al : Alarm.Al h a S L
  abs : xs.map IV.abs = s.items
  dat : ∀ x ∈ xs, x.v.ok h X.D
  m : ∀ c, X.M c ↔ c = b ∨ inBlk lp c ∨ S c
  bl : ¬ inBlk lp b
  bs : ¬ S b
  ls : ∀ c, inBlk lp c → ¬ S c
  dis : ∀ c, X.M c → ¬ X.D c
  dlt : ∀ c, X.D c → c < h.size
def Bx (h : Heap) (b : Nat) (X : Ft) (s : BS) (L : List E) : Prop := ∃ lp lc xs a S, Mm h b X s L lp lc xs a S
variable {s : BS} {lp : Option Addr} {lc a : Nat} {xs : List IV} {S : Nat → Prop}
theorem Mm.lt (H : Mm h b X s L lp lc xs a S) (y : Nat) (hy : X.M y ∨ X.D y) : y < h.size := by
  rcases hy with hy | hy
  · rcases (H.m y).1 hy with rfl | h1 | h1
    · exact lt_of_get H.blk
    · exact H.own.blk_lt h1
    · exact H.al.lt h1
  · exact H.dlt y hy
theorem Bx.lt (H : Bx h b X s L) (y : Nat) (hy : X.M y ∨ X.D y) : y < h.size := by
  have ⟨lp, lc, xs, a, S, H⟩ := H
  exact H.lt y hy
theorem Mm.frame {Q : Nat → Prop} (H : Mm h b X s L lp lc xs a S) (f : Fr Q h h') (hq : ∀ y, X.M y ∨ X.D y → ¬ Q y) : Mm h' b X s L lp lc xs a S :=
  have hm  := fun y hy => hq y (.inl hy)
  ⟨f.get H.blk (hm b ((H.m b).2 (.inl rfl))), H.own.frame f (fun y hy => hm y ((H.m y).2 (.inr (.inl hy)))), H.al.frame f (fun y hy => hm y ((H.m y).2 (.inr (.inr hy)))), H.abs, fun x hx => (H.dat x hx).frame f (fun y hy => hq y (.inr hy)), H.m, H.bl, H.bs, H.ls, H.dis, fun y hy => Nat.lt_of_lt_of_le (H.dlt y hy) f.1⟩
theorem Bx.frame {Q : Nat → Prop} (H : Bx h b X s L) (f : Fr Q h h') (hq : ∀ y, X.M y ∨ X.D y → ¬ Q y) : Bx h' b X s L := by
  have ⟨lp, lc, xs, a, S, H⟩ := H
  exact ⟨lp, lc, xs, a, S, H.frame f hq⟩
theorem Mm.len (H : Mm h b X s L lp lc xs a S) : xs.length = s.items.length := by rw [← H.abs, List.length_map]
theorem new_ok (hk : ∀ h' b X, Bx h' b X ⟨[], 1, 0, 0, 0⟩ [] → Fr No h h' → (∀ y, X.M y ∨ X.D y → h.size ≤ y) → R (.pointer (some ⟨b, 0, none⟩)) h') : Cl 278 #[] h R := by
  refine outbox_New.walk (Alarm.new_ok fun a S h1 A1 g1 f1 => ⟨_, rfl, newP_of ?_⟩)
  have f2 : Fr No h1 (h1.push (.cells #[.slice none 0 0, .int .i64 1, .int .i64 0, .int .i64 0, .int .i64 0, .pointer (some ⟨a, 0, none⟩)] 489)) := Fr.push _ _
  refine hk _ h1.size ⟨fun y => y = h1.size ∨ inBlk none y ∨ S y, fun _ => False⟩ ⟨none, 0, [], a, S, ⟨push_new, .nil rfl rfl rfl rfl, A1.frame f2 (fun _ _ => id), rfl, (fun x hx => by cases hx), fun _ => Iff.rfl, (fun ⟨a, e, _⟩ => by cases e), fun hs => ?_, (fun y ⟨a, e, _⟩ => by cases e), fun _ _ => id, fun _ hy => hy.elim⟩⟩ (f1.tt f2) ?_
  · have := A1.lt hs; omega
  · rintro y ((rfl | ⟨a, e, _⟩ | hs) | hy)
    · exact f1.1
    · cases e
    · grind
    · grind
def rightB (owner : Int) (n : Nat) (till : Int) : Bool := decide (1 ≤ owner) && decide (owner ≤ 1099511627776) && decide (1 ≤ n) && decide (n ≤ 600) && decide (till ≤ 1099511627776)
def cutI (xs : List It) (i : Nat) : List It := xs.take i ++ xs.drop (i + 1)
end Obx
end
section
open Go.Fields Go.Heapq
namespace Obx
open Alarm (isDue)
variable {L:List E} {s:BS} {items:List It}
def It.kv (x : It) : E := ((x.num : Int), (x.till : Int))
structure okB (s : BS) (L : List E) : Prop where
  le : s.items.length ≤ 16
  pm : L.Perm (s.items.map It.kv)
  it : ∀ x ∈ s.items, 1 ≤ x.num ∧ x.num < s.next ∧ 1 ≤ x.d.length ∧ x.d.length ≤ 600 ∧ 1 ≤ x.owner ∧ x.owner ≤ 1099511627776 ∧ x.till ≤ 1099511627776
  inc : (s.items.map It.num).Pairwise (· < ·)
  cnt : s.next = 1 + s.items.length + s.taken + s.canc + s.over
theorem okB.nil : okB ⟨[], 1, 0, 0, 0⟩ [] := ⟨by simp, .refl _, by simp, .nil, rfl⟩
def delI (items : List It) (num : Int) : List It := items.filter (fun y => !decide ((y.num : Int) = num))
theorem cutI_del : ∀ {items : List It} {i : Nat} {x : It}, (items.map It.num).Pairwise (· < ·) → items[i]? = some x → cutI items i = delI items (x.num : Int)
  | [], i, x, _, h => by simp at h
  | y :: r, 0, x, hp, h => by
    simp at h
    subst h
    rw [List.map_cons, List.pairwise_cons] at hp
    unfold cutI delI
    rw [List.filter_cons]
    simp only [decide_true, Bool.not_true, Bool.false_eq_true, if_false, List.take_zero, List.nil_append, List.drop_succ_cons, List.drop_zero]
    symm
    rw [List.filter_eq_self]
    intro z hz
    have := hp.1 z.num (List.mem_map_of_mem hz)
    have : ¬ (z.num) = (y.num : Int) := by omega
    simp [this]
  | y :: r, i + 1, x, hp, h => by
    rw [List.map_cons, List.pairwise_cons] at hp
    have ih := cutI_del hp.2 h
    have hx := hp.1 x.num (List.mem_map_of_mem (List.mem_of_getElem? h))
    have hne : ¬ (y.num) = (x.num : Int) := by omega
    unfold cutI delI at ih ⊢
    rw [List.filter_cons]
    simp only [hne, decide_false, Bool.not_false, if_true, List.take_succ_cons, List.drop_succ_cons, List.cons_append]
    rw [ih]

end Obx
end
section
variable {h:Heap} {R:TyP}
theorem quota_New.walk {whole : Int} {share : Int} (hv :
 JoinP (fun (t20 : Bool) h_1 =>
 ite t20
 (  R (.tuple #[.pointer none, .int .i64 1]) h_1)
 (  NewP h_1 (.map #[] 0) fun b h_2 =>
 NewP h_2 (.cells #[.int .i64 whole, .int .i64 share, .map (some b), .int .i64 0] 494) fun b_1 h_3 =>
 R (.tuple #[.pointer (some ⟨b_1, 0, none⟩), .int .i64 0]) h_3))
 (fun J =>
 ite (decide (whole < 1))
 (  J true h)
 (  ite (decide (whole > 1048576))
 (  J true h)
 (  ite (decide (share < 1))
 (  J true h)
 (  J (decide (share > whole)) h))))) : Cl 274 #[.int .i64 whole, .int .i64 share] h R :=
 callsN [(4, .join [(20, sB)])] hv

end
section
namespace Quota
def PurseAt (h : Heap) (p m : Nat) (W S A : Int) (f : Int → Int) : Prop :=
  h[p]? = some (.cells #[.int .i64 W, .int .i64 S, .map (some m), .int .i64 A] 494 (0, 0)) ∧
  ∃ g : Int → Option Value, MapF h m g ∧ ∀ k, (g k).getD (.int .i64 0) = .int .i64 (f k)
def Ok (W S A : Int) (f : Int → Int) : Prop := 1 ≤ S ∧ S ≤ W ∧ W ≤ 1048576 ∧ -2000000000000 ≤ A ∧ A ≤ W ∧ ∀ k, 0 ≤ f k ∧ f k ≤ S
variable {h : Heap} {p m : Nat} {W S A : Int} {f : Int → Int} {R : Value → Heap → Prop}
theorem PurseAt.frame {Q : Nat → Prop} {h' : Heap} (hp : PurseAt h p m W S A f) (hf : Fr Q h h') (h1 : ¬ Q p) (h2 : ¬ Q m) : PurseAt h' p m W S A f := by
  have ⟨hb, g, hg, hgf⟩ := hp
  exact ⟨hf.get hb h1, g, hg.frame hf h2, hgf⟩
theorem PurseAt.lt (hp : PurseAt h p m W S A f) : p < h.size ∧ m < h.size := ⟨lt_of_get hp.1, by have ⟨_, g, hg, _⟩ := hp; exact hg.lt⟩
def may (o n : Int) : Bool := decide (1 ≤ o) && decide (o ≤ 1099511627776) && decide (0 ≤ n)
theorem may_iff {o n : Int} : may o n = true ↔ 1 ≤ o ∧ o ≤ 1099511627776 ∧ 0 ≤ n := by simp [may, and_assoc]
def fits (W S A : Int) (f : Int → Int) (o n : Int) : Bool := may o n && decide (n ≤ S - f o) && decide (n ≤ W - A)
theorem fits_iff {o n : Int} : fits W S A f o n = true ↔ (1 ≤ o ∧ o ≤ 1099511627776 ∧ 0 ≤ n) ∧ n ≤ S - f o ∧ n ≤ W - A := by
  simp [fits, may_iff, and_assoc]
def newOk (W S : Int) : Bool := decide (1 ≤ W) && decide (W ≤ 1048576) && decide (1 ≤ S) && decide (S ≤ W)
theorem newOk_iff : newOk W S = true ↔ 1 ≤ W ∧ W ≤ 1048576 ∧ 1 ≤ S ∧ S ≤ W := by simp [newOk, and_assoc]
theorem new_ok (W S : Int) {h : Heap}
    (k1 : newOk W S = true → ∀ h' p m, PurseAt h' p m W S 0 (fun _ => 0) → h.size ≤ p → h.size ≤ m → Fr No h h' → R (.tuple #[.pointer (some ⟨p, 0, none⟩), .int .i64 0]) h')
    (k2 : newOk W S = false → R (.tuple #[.pointer none, .int .i64 1]) h) : Cl 274 #[.int .i64 W, .int .i64 S] h R := by
  refine quota_New.walk ?_
  simp only [JoinP]
  by_cases h1 : W < 1
  · simpa only [h1, decide_true, if_true] using k2 (by simp [newOk, show ¬ 1 ≤ W by omega])
  · rw [if_neg (by simp only [decide_eq_true_eq]; omega)]
    by_cases h2 : W > 1048576
    · simpa only [h2, decide_true, if_true] using k2 (by simp [newOk, show ¬ W ≤ 1048576 by omega])
    · rw [if_neg (by simp only [decide_eq_true_eq]; omega)]
      by_cases h3 : S < 1
      · simpa only [h3, decide_true, if_true] using k2 (by simp [newOk, show ¬ 1 ≤ S by omega])
      · rw [if_neg (by simp only [decide_eq_true_eq]; omega)]
        by_cases h4 : S > W
        · simpa only [h4, decide_true, if_true] using k2 (by simp [newOk, show ¬ S ≤ W by omega])
        · rw [if_neg (by simp only [decide_eq_true_eq]; omega)]
          rintro b h2' rfl rfl b1 h3' rfl rfl
          refine k1 (newOk_iff.2 (by omega)) _ _ h.size ⟨push_new, fun _ => none, ?_, fun _ => rfl⟩ (by simp) (by simp) ?_
          · exact (MapF.push h).frame (Fr.push (S := fun _ => False) _ _) (by simp)
          · exact (Fr.push h _).trans (Fr.push _ _) (fun _ _ hx => hx) (fun _ _ hx => hx)
end Quota
end
section
namespace Stt
open Obx (It)
variable {l:List It} {x:It} {o:Int}
def tot (l : List It) : Int := (l.map (fun x => (x.d.length : Int))).sum
def own (l : List It) (o : Int) : Int := tot (l.filter (fun x => decide (x.owner = o)))
abbrev okQ (l : List It) : Prop := Quota.Ok 4800 1600 (tot l) (own l)
section
variable {h h' : Heap} {R : Value → Heap → Prop} {p m : Nat}
abbrev Pu (h : Heap) (p m : Nat) (l : List It) : Prop := Quota.PurseAt h p m 4800 1600 (tot l) (own l)
end
end Stt
end
section
variable {h:Heap} {R:TyP}
theorem sessions_New.walk  (hv :
 NewP h (.cells #[.bool true, .slice none 0 0] 237) fun b h_1 =>
 R (.pointer (some ⟨b, 0, none⟩)) h_1) : Cl 275 #[] h R :=
 callsN [] hv

end
section
open Go.Fields
namespace Ses
open Fld
variable {h h' h0:Heap} {t:Nat} {X:Ft} {p:TyO} {c i:Nat}
structure AV where
  id : Nat
  v : BV
abbrev AV.enc (a : AV) : List Value := [.int .u64 (a.id : Int), a.v.val]
structure SC where
  b : Nat
  num : Nat
  token : Nat
  up : Bool
  watch : Bool
  kept : List AV
  kp : Option Addr
  kc : Nat
  notes : List BV
  np : Option Addr
  nc : Nat
structure Ses where
  num : Nat
  token : Nat
  up : Bool
  watch : Bool
  kept : List (Nat × List UInt8)
  notes : List (List UInt8)
def AV.abs (a : AV) : Nat × List UInt8 := (a.id, a.v.b)
def SC.abs (s : SC) : Ses := ⟨s.num, s.token, s.up, s.watch, s.kept.map AV.abs, s.notes.map BV.b⟩
theorem set_same {α : Type} {l : List α} {i : Nat} {v : α} (h : l[i]? = some v) : l.set i v = l := by
  apply List.ext_getElem?
  intro j
  rw [List.getElem?_set]
  split
  · grind
  · rfl
abbrev Lab := Nat → Option Nat
abbrev At (h : Heap) (s : SC) : Prop := sessions_Session.at h s.b (s.num : Int) (s.token : Int) s.up s.watch s.kp s.kept.length s.kc s.np s.notes.length s.nc
structure SesAt (h : Heap) (lab : Lab) (D : Nat → Prop) (i : Nat) (s : SC) : Prop where
  blk : At h s
  lb : lab s.b = some (2 + 3 * i)
  kown : Own h s.kp s.kept.length s.kc 2 (s.kept.flatMap AV.enc)
  kl : ∀ c, inBlk s.kp c → lab c = some (3 + 3 * i)
  nown : Own h s.np s.notes.length s.nc 1 (s.notes.flatMap nenc)
  nl : ∀ c, inBlk s.np c → lab c = some (4 + 3 * i)
  kd : ∀ a ∈ s.kept, a.v.ok h D
  nd : ∀ n ∈ s.notes, n.ok h D
structure Tab (h : Heap) (t : Nat) (lab : Lab) (D : Nat → Prop) (L : List SC) : Prop where
  blk : ∃ p c, h[t]? = some (.cells #[.bool true, .slice p L.length c] 237 (0, 0)) ∧ Own h p L.length c 1 (L.map fun s => .pointer (some ⟨s.b, 0, none⟩)) ∧ ∀ x, inBlk p x → lab x = some 1
  lt0 : lab t = some 0
  ses : ∀ i s, L[i]? = some s → SesAt h lab D i s
  llt : ∀ c r, lab c = some r → c < h.size
  dlt : ∀ c, D c → c < h.size
  ap : ∀ c r, lab c = some r → ¬ D c
def HasB (h : Heap) (t : Nat) (X : Ft) (A : List Ses) (B : List Nat) : Prop :=
  ∃ lab L, Tab h t lab X.D L ∧ L.map SC.abs = A ∧ L.map SC.b = B ∧ ∀ c, X.M c ↔ ∃ r, lab c = some r
def Has (h : Heap) (t : Nat) (X : Ft) (A : List Ses) : Prop := ∃ B, HasB h t X A B
variable {lab : Lab} {D : Nat → Prop} {L : List SC} {A : List Ses}
theorem SesAt.frame {Q : Nat → Prop} {s : SC} (H : SesAt h lab D i s) (f : Fr Q h h') (hq : ∀ c r, lab c = some r → 2 + 3 * i ≤ r → r ≤ 4 + 3 * i → ¬ Q c) (hd : ∀ c, D c → ¬ Q c) : SesAt h' lab D i s :=
  ⟨f.get H.blk (hq _ _ H.lb (by omega) (by omega)), H.lb, H.kown.frame f (fun c hc => hq c _ (H.kl c hc) (by omega) (by omega)), H.kl, H.nown.frame f (fun c hc => hq c _ (H.nl c hc) (by omega) (by omega)), H.nl, fun a ha => (H.kd a ha).frame f hd, fun n hn => (H.nd n hn).frame f hd⟩
theorem HasB.lt {B : List Nat} (H : HasB h t X A B) : ∀ x, X.M x ∨ X.D x → x < h.size := by
  have ⟨lab, L, T, _, _, hS⟩ := H
  rintro x (hx | hd)
  · have ⟨r, hr⟩ := (hS x).1 hx
    exact T.llt x r hr
  · exact T.dlt x hd
theorem HasB.dis {B : List Nat} (H : HasB h t X A B) : ∀ x, X.M x → ¬ X.D x := by
  have ⟨lab, L, T, _, _, hS⟩ := H
  intro x hx
  have ⟨r, hr⟩ := (hS x).1 hx
  exact T.ap x r hr
theorem HasB.frame {B : List Nat} {Q : Nat → Prop} (H : HasB h t X A B) (f : Fr Q h h') (hq : ∀ x, X.M x ∨ X.D x → ¬ Q x) : HasB h' t X A B := by
  have ⟨lab, L, T, e, eB, hS⟩ := H
  have ⟨p, c, hb, own, hp⟩ := T.blk
  have hl  := fun c r hr => hq c (.inl ((hS c).2 ⟨r, hr⟩))
  refine ⟨lab, L, ⟨⟨p, c, f.get hb (hl t _ T.lt0), own.frame f (fun x hx => hl x _ (hp x hx)), hp⟩, T.lt0, fun i s hs => (T.ses i s hs).frame f (fun c r hr _ _ => hl c r hr) (fun c hd => hq c (.inr hd)), ?_, ?_, T.ap⟩, e, eB, hS⟩
  · intro c r hr; exact Nat.lt_of_lt_of_le (T.llt c r hr) f.1
  · intro c hd; exact Nat.lt_of_lt_of_le (T.dlt c hd) f.1
theorem Has.lt (H : Has h t X A) : ∀ x, X.M x ∨ X.D x → x < h.size := by have ⟨B, H⟩ := H; exact H.lt
theorem Has.dis (H : Has h t X A) : ∀ x, X.M x → ¬ X.D x := by have ⟨B, H⟩ := H; exact H.dis
theorem Has.frame {Q : Nat → Prop} (H : Has h t X A) (f : Fr Q h h') (hq : ∀ x, X.M x ∨ X.D x → ¬ Q x) : Has h' t X A := by have ⟨B, H⟩ := H; exact ⟨B, H.frame f hq⟩
open Classical in
open Classical in
theorem tA : SlTy Tryz.prog 163 240 2 32 (.agg #[.int .u64 0, .slice none 0 0]) := ⟨by kernel_rfl, by kernel_rfl, rfl⟩
theorem uA : Tryz.prog.underlying 163 = some (.slice 240) := by kernel_rfl
theorem aenc_len (a : AV) : a.enc.length = 2 := rfl
abbrev IdAt (h : Heap) (b : Nat) (id : Nat) : Prop := h[b]? = some (.cells #[.int .u64 (id : Int)] 62 (0, 0))
def delI (h0 : Heap) (p : Option Addr) (cap b id : Nat) (xs : List AV) (i j : Int) (h : Heap) : Prop :=
  ∃ (a k : Nat) (zs : List AV), i = (a : Int) ∧ j = (k : Int) ∧ a < k ∧ k ≤ xs.length ∧ zs.length = xs.length ∧ zs.take a = (xs.take k).filter (fun x => decide (x.id ≠ id)) ∧ zs.drop k = xs.drop k ∧ Own h p xs.length cap 2 (zs.flatMap AV.enc) ∧ Fr (inBlk p) h0 h ∧ IdAt h b id
end Ses
end
section
namespace Ses
variable {A:List Ses} {s:Ses}
structure okS (i : Nat) (s : Ses) : Prop where
  num : s.num = i + 1
  tk : 1 ≤ s.token ∧ s.token ≤ 2147483648
  kl : s.kept.length ≤ 6
  nl : s.notes.length ≤ 6
  kd : ∀ a ∈ s.kept, a.1 ≤ 1099511627776 ∧ a.2.length ≤ 1000
  nd : ∀ n ∈ s.notes, 1 ≤ n.length ∧ n.length ≤ 600
  ki : (s.kept.map (·.1)).Nodup
structure okA (A : List Ses) : Prop where
  le : A.length ≤ 8
  at_ : ∀ i s, A[i]? = some s → okS i s
  tk : (A.map (·.token)).Nodup
def getA (A : List Ses) (num : Int) : Option Ses := if 1 ≤ num then A[(num - 1).toNat]? else none
theorem getA_some {num : Int} (h : getA A num = some s) : ∃ i : Nat, num = (i : Int) + 1 ∧ A[i]? = some s := by
  unfold getA at h
  split at h
  · exact ⟨(num - 1).toNat, by omega, h⟩
  · cases h
theorem okA.set {i : Nat} {s':Ses} (ok : okA A) (hs : A[i]? = some s) (ht : s'.token = s.token) (h' : okS i s') : okA (A.set i s') := by
  refine ⟨by rw [List.length_set]; exact ok.le, fun j u hj => ?_, ?_⟩
  · rw [List.getElem?_set] at hj
    by_cases e : i = j
    · grind
    · rw [if_neg e] at hj
      exact ok.at_ j u hj
  · rw [List.map_set, ht, set_same (by grind)]
    exact ok.tk
theorem okA.nil : okA [] := ⟨by simp, by simp, by simp⟩

end Ses
end
section
open Go.Fields
namespace Ses
open Fld
variable {h h':Heap} {t:Nat} {X:Ft} {R:TyP} {i:Nat} {D:Nat→Prop} {L:List SC}
theorem new_ok (hk : ∀ h' t X, Has h' t X [] → Fr No h h' → (∀ x, X.M x ∨ X.D x → h.size ≤ x) → R (.pointer (some ⟨t, 0, none⟩)) h') : Cl 275 #[] h R := by
  refine sessions_New.walk (newP_of (hk _ _ ⟨fun x => x = h.size, fun _ => False⟩ ⟨[], fun x => if x = h.size then some 0 else none, [], ⟨⟨none, 0, push_new, .nil rfl rfl rfl rfl, fun x ⟨a, e, _⟩ => by cases e⟩, by simp, fun i s hs => by simp at hs, ?_, fun _ h => h.elim, fun _ _ _ h => h⟩, rfl, rfl, ?_⟩ (Fr.push _ _) (fun x hx => hx.elim (fun e => by omega) False.elim)))
  · grind
  · simp
theorem abs_at {s : SC} (hs : L[i]? = some s) : (L.map SC.abs)[i]? = some s.abs := by grind

end Ses
end
section
open Go.Fields Go.Heapq
namespace Obx
open Fld
variable {h h':Heap} {b:Nat} {X:Ft} {d i:Nat} {L:List E} {s:BS}
def Box (h : Heap) (b : Nat) (X : Ft) (s : BS) : Prop := ∃ L, Bx h b X s L ∧ okB s L
theorem Box.frame {Q : Nat → Prop} (H : Box h b X s) (f : Fr Q h h') (hq : ∀ y, X.M y ∨ X.D y → ¬ Q y) : Box h' b X s := by
  have ⟨L, H, ok⟩ := H
  exact ⟨L, H.frame f hq, ok⟩
theorem Box.on (H : Box h b X s) (f : Fr No h h') : Box h' b X s := H.frame f (fun _ _ => id)
theorem Box.lt (H : Box h b X s) (y : Nat) (hy : X.M y ∨ X.D y) : y < h.size := by
  have ⟨L, H, ok⟩ := H
  exact H.lt y hy
def addE (s : BS) (owner : Int) (d : List UInt8) (till : Nat) : Int := if rightB owner d.length (till : Int) = true then (if s.items.length ≥ 16 then 15 else 0) else 1
theorem del_len {items : List It} {x : It} (hp : (items.map It.num).Pairwise (· < ·)) (hx : items[i]? = some x) : (delI items (x.num : Int)).length + 1 = items.length := by
  have hi := (List.getElem?_eq_some_iff.1 hx).1
  rw [← cutI_del hp hx]
  unfold cutI
  rw [List.length_append, List.length_take, List.length_drop]
  omega

end Obx
end
section
variable {h:Heap} {R:TyP}
theorem regs_New.walk  (hv :
 NewP h (.map #[] 0) fun b h_1 =>
 NewP h_1 (.cells #[.map (some b)] 497) fun b_1 h_2 =>
 R (.pointer (some ⟨b_1, 0, none⟩)) h_2) : Cl 276 #[] h R :=
 callsN [] hv

end
section
namespace Regs
open Eid
variable {h h':Heap} {R:TyP} {b:Nat} {X:Ft}
structure Rg where
  e : Ev
  pol : Int
  own : Int
abbrev Rg.zero : Rg := ⟨.zero, 0, 0⟩
abbrev Rg.val (r : Rg) : Value := .agg #[.bool r.e.ipn, .int .u64 r.e.node, .int .u64 r.e.svc, .string r.e.host, .string r.e.dem, .int .i64 r.pol, .int .i64 r.own]
abbrev Rg.pair (r : Rg) : Ev × Value := (r.e, r.val)
abbrev rless (x y : Rg) : Prop := lessE x.e y.e = true
structure Tbm (h : Heap) (b : Nat) (X : Ft) (L : List Rg) (m : Nat) : Prop where
  blk : h[b]? = some (.cells #[.map (some m)] 497 (0, 0))
  map : MapP h m ev5 (L.map Rg.pair)
  fm : ∀ c, X.M c ↔ c = b ∨ c = m
  d : ∀ c, ¬ X.D c
  ne : b ≠ m
  so : L.Pairwise rless
def Tb (h : Heap) (b : Nat) (X : Ft) (L : List Rg) : Prop := ∃ m, Tbm h b X L m
variable {L : List Rg} {m : Nat}
theorem Tbm.frame {Q : Nat → Prop} (H : Tbm h b X L m) (f : Fr Q h h') (hq : ∀ y, X.M y ∨ X.D y → ¬ Q y) : Tbm h' b X L m :=
  ⟨f.get H.blk (hq b (.inl ((H.fm b).2 (.inl rfl)))), H.map.frame f (hq m (.inl ((H.fm m).2 (.inr rfl)))), H.fm, H.d, H.ne, H.so⟩
theorem Tb.frame {Q : Nat → Prop} (H : Tb h b X L) (f : Fr Q h h') (hq : ∀ y, X.M y ∨ X.D y → ¬ Q y) : Tb h' b X L := by
  have ⟨m, H⟩ := H; exact ⟨m, H.frame f hq⟩
theorem Tb.on (H : Tb h b X L) (f : Fr No h h') : Tb h' b X L := H.frame f (fun _ _ => id)
theorem Tb.lt (H : Tb h b X L) (y : Nat) (hy : X.M y ∨ X.D y) : y < h.size := by
  have ⟨m, H⟩ := H
  rcases hy with hy | hy
  · rcases (H.fm y).1 hy with rfl | rfl
    · exact lt_of_get H.blk
    · exact H.map.lt
  · exact absurd hy (H.d y)
def findR (L : List Rg) (x : Ev) : Option Rg := L.find? (fun r => decide (r.e = x))
def rightR (r : Rg) : Bool := rightE r.e && (!decide (r.e = Ev.zero) && (decide (r.pol ≥ 0) && decide (r.pol ≤ 2) && (decide (r.own ≥ 1) && decide (r.own ≤ 1099511627776))))
def addE (L : List Rg) (r : Rg) : Int := if rightR r = false then 1 else if (findR L r.e).isSome = true then 11 else if L.length ≥ 8 then 15 else 0
theorem new_ok (hk : ∀ h' b X, Tb h' b X [] → UpF h X h' → R (.pointer (some ⟨b, 0, none⟩)) h') : Cl 276 #[] h R := by
  refine regs_New.walk (newP_of (newP_of ?_))
  have f1 : Fr No h (h.push (.map #[] 0)) := Fr.push _ _
  have M1 := MapP.push h ev5
  have z1 : (h.push (.map #[] 0)).size = h.size + 1 := Array.size_push _
  generalize h.push (.map #[] 0) = h1 at f1 M1 z1 ⊢
  have f2 : Fr No h1 (h1.push (.cells #[.map (some h.size)] 497)) := Fr.push _ _
  refine hk _ h1.size ⟨fun c => c = h1.size ∨ c = h.size, fun _ => False⟩ ⟨h.size, push_new, M1.frame f2 id, fun c => Iff.rfl, fun _ => id, by omega, .nil⟩ ⟨f1.tt f2, fun c hc => ?_⟩
  rcases hc with hc | hc
  · omega
  · grind
end Regs
end
section
variable {h:Heap} {R:TyP}
theorem copies_New.walk  (hv :
 NewP h (.map #[] 0) fun b h_1 =>
 Cl 346 #[] h_1 fun v h_2 =>
 ∃ t2, v = .pointer t2 ∧
 Cl 346 #[] h_2 fun v_1 h_3 =>
 ∃ t3, v_1 = .pointer t3 ∧
 NewP h_3 (.cells #[.map (some b), .int .i64 1, .int .i64 0, .int .i64 0, .int .i64 0, .pointer t2, .pointer t3] 484) fun b_1 h_4 =>
 R (.pointer (some ⟨b_1, 0, none⟩)) h_4) : Cl 277 #[] h R :=
 callsN [] hv

end
section
open Go.Heapq
namespace Cps
open Eid Alarm
variable {h h':Heap} {t:Nat} {X:Ft}
structure Cp where
  num : Nat
  e : Ev
  d : List UInt8
  till : Nat
  ses : Int
  dl : Nat
structure CV where
  num : Nat
  b : Nat
  e : Ev
  v : BV
  till : Nat
  ses : Int
  dl : Nat
def CV.abs (x : CV) : Cp := ⟨x.num, x.e, x.v.b, x.till, x.ses, x.dl⟩
abbrev CV.at (h : Heap) (b : Nat) (x : CV) : Prop := copies_Copy.at h b (x.num : Int) x.e.ipn x.e.node x.e.svc x.e.host x.e.dem x.v.p x.v.b.length x.v.c (x.till : Int) x.ses (x.dl : Int)
structure CF where
  L : List Cp
  next : Nat
  acked : Nat
  over : Nat
  gone : Nat
  E1 : List E
  E2 : List E
abbrev ienc (n : Int) : Value := .int .i64 n
theorem ikey : KeyOk Tryz.prog 3 ienc := ⟨fun a b h => by kernel_rfl, fun e a h => by kernel_rfl, by
  have hu : Tryz.prog.underlying 3 = some (.int .i64) := by kernel_rfl
  exact ⟨_, hu, fun a b => .inr rfl⟩, fun a => by simp [Instr.sameBits]⟩
abbrev CV.pair (x : CV) : Int × Value := ((x.num : Int), .pointer (some ⟨x.b, 0, none⟩))
structure Cm (h : Heap) (t : Nat) (X : Ft) (s : CF) (m : Nat) (xs : List CV) (a1 : Nat) (S1 : Nat → Prop) (a2 : Nat) (S2 : Nat → Prop) (lab : Nat → Option Nat) : Prop where
  blk : h[t]? = some (.cells #[.map (some m), .int .i64 (s.next : Int), .int .i64 (s.acked : Int), .int .i64 (s.over : Int), .int .i64 (s.gone : Int), .pointer (some ⟨a1, 0, none⟩), .pointer (some ⟨a2, 0, none⟩)] 484 (0, 0))
  map : MapP h m ienc (xs.map CV.pair)
  cps : ∀ x ∈ xs, x.at h x.b
  abs : xs.map CV.abs = s.L
  dat : ∀ x ∈ xs, x.v.ok h X.D
  al1 : Al h a1 S1 s.E1
  al2 : Al h a2 S2 s.E2
  l0 : lab t = some 0
  l1 : lab m = some 1
  l2 : ∀ c, S1 c → lab c = some 2
  l3 : ∀ c, S2 c → lab c = some 3
  l4 : ∀ x ∈ xs, lab x.b = some (4 + x.num)
  mm : ∀ c, X.M c ↔ lab c ≠ none
  dd : ∀ c, X.D c → lab c = none ∧ c < h.size
  lsz : ∀ c, lab c ≠ none → c < h.size
  so : (xs.map CV.num).Pairwise (· < ·)
def Ct (h : Heap) (t : Nat) (X : Ft) (s : CF) : Prop := ∃ m xs a1 S1 a2 S2 lab, Cm h t X s m xs a1 S1 a2 S2 lab
variable {s s' : CF} {m a1 a2 : Nat} {xs : List CV} {S1 S2 S1' S2' : Nat → Prop} {lab : Nat → Option Nat}
theorem Cm.frame {Q : Nat → Prop} (H : Cm h t X s m xs a1 S1 a2 S2 lab) (f : Fr Q h h') (hq : ∀ y, X.M y ∨ X.D y → ¬ Q y) : Cm h' t X s m xs a1 S1 a2 S2 lab := by
  have no : ∀ {c j : Nat}, lab c = some j → ¬ Q c := fun hl => hq _ (.inl ((H.mm _).2 (by grind)))
  exact ⟨f.get H.blk (no H.l0), H.map.frame f (no H.l1), fun x hx => f.get (H.cps x hx) (no (H.l4 x hx)), H.abs, fun x hx => (H.dat x hx).frame f (fun c hc => hq c (.inr hc)),
    H.al1.frame f (fun c hc => no (H.l2 c hc)), H.al2.frame f (fun c hc => no (H.l3 c hc)), H.l0, H.l1, H.l2, H.l3, H.l4, H.mm, fun c hc => ⟨(H.dd c hc).1, Nat.lt_of_lt_of_le (H.dd c hc).2 f.1⟩, fun c hc => Nat.lt_of_lt_of_le (H.lsz c hc) f.1, H.so⟩
theorem Ct.frame {Q : Nat → Prop} (H : Ct h t X s) (f : Fr Q h h') (hq : ∀ y, X.M y ∨ X.D y → ¬ Q y) : Ct h' t X s := by
  have ⟨m, xs, a1, S1, a2, S2, lab, H⟩ := H; exact ⟨m, xs, a1, S1, a2, S2, lab, H.frame f hq⟩
theorem Ct.on (H : Ct h t X s) (f : Fr No h h') : Ct h' t X s := H.frame f (fun _ _ => id)
theorem Ct.lt (H : Ct h t X s) (y : Nat) (hy : X.M y ∨ X.D y) : y < h.size := by
  have ⟨m, xs, a1, S1, a2, S2, lab, H⟩ := H
  rcases hy with hy | hy
  · exact H.lsz y ((H.mm y).1 hy)
  · exact (H.dd y hy).2
end Cps
end
section
open Go.Heapq
namespace Cps
open Eid Alarm Fld
variable {h h':Heap} {R:TyP} {t:Nat} {X:Ft} {s:CF} {m a1 a2:Nat} {xs:List CV} {S1 S2:Nat→Prop} {lab:Nat→Option Nat} {n c:Nat}
def delL (L : List Cp) (n : Int) : List Cp := L.filter (fun x => !decide ((x.num : Int) = n))
theorem Cm.len (H : Cm h t X s m xs a1 S1 a2 S2 lab) : xs.length = s.L.length := by rw [← H.abs, List.length_map]
theorem new_ok (hk : ∀ h' t X, Ct h' t X ⟨[], 1, 0, 0, 0, [], []⟩ → UpF h X h' → R (.pointer (some ⟨t, 0, none⟩)) h') : Cl 277 #[] h R := by
  classical
  refine copies_New.walk (newP_of ?_)
  have f1 : Fr No h (h.push (.map #[] 0)) := Fr.push _ _
  have M1 := MapP.push h ienc
  have z1 : (h.push (.map #[] 0)).size = h.size + 1 := Array.size_push _
  generalize h.push (.map #[] 0) = h1 at f1 M1 z1 ⊢
  refine Alarm.new_ok fun a1 S1 h2 A1 g1 f2 => ⟨_, rfl, Alarm.new_ok fun a2 S2 h3 A2 g2 f3 => ⟨_, rfl, newP_of ?_⟩⟩
  have f4 : Fr No h3 (h3.push (.cells #[.map (some h.size), .int .i64 1, .int .i64 0, .int .i64 0, .int .i64 0, .pointer (some ⟨a1, 0, none⟩), .pointer (some ⟨a2, 0, none⟩)] 484)) := Fr.push _ _
  have z2 := f2.1
  have z3 := f3.1
  have z4 : (h3.push (.cells #[.map (some h.size), .int .i64 1, .int .i64 0, .int .i64 0, .int .i64 0, .pointer (some ⟨a1, 0, none⟩), .pointer (some ⟨a2, 0, none⟩)] 484)).size = h3.size + 1 := Array.size_push _
  have b4 : (h3.push (.cells #[.map (some h.size), .int .i64 1, .int .i64 0, .int .i64 0, .int .i64 0, .pointer (some ⟨a1, 0, none⟩), .pointer (some ⟨a2, 0, none⟩)] 484))[h3.size]? = some (.cells #[.map (some h.size), .int .i64 1, .int .i64 0, .int .i64 0, .int .i64 0, .pointer (some ⟨a1, 0, none⟩), .pointer (some ⟨a2, 0, none⟩)] 484 (0, 0)) := push_new
  generalize h3.push (.cells #[.map (some h.size), .int .i64 1, .int .i64 0, .int .i64 0, .int .i64 0, .pointer (some ⟨a1, 0, none⟩), .pointer (some ⟨a2, 0, none⟩)] 484) = h4 at f4 z4 b4 ⊢
  have l1 : ∀ c, S1 c → h1.size ≤ c ∧ c < h2.size := fun c hc => ⟨g1 c hc, A1.lt hc⟩
  have l2 : ∀ c, S2 c → h2.size ≤ c ∧ c < h3.size := fun c hc => ⟨g2 c hc, A2.lt hc⟩
  let lab  := fun c => if c = h3.size then some 0 else if c = h.size then some 1 else if S1 c then some 2 else if S2 c then some 3 else none
  have lab1 : ∀ c, S1 c → lab c = some 2 := fun c hc => by
    grind
  have lab2 : ∀ c, S2 c → lab c = some 3 := fun c hc => by
    grind
  have labs : ∀ c, lab c ≠ none → h.size ≤ c ∧ c < h4.size := fun c hc => by
    grind
  refine hk h4 h3.size ⟨fun c => lab c ≠ none, fun _ => False⟩ ⟨h.size, [], a1, S1, a2, S2, lab, ⟨b4, (M1.frame (f2.tt f3) id).frame f4 id, (fun x hx => by cases hx), rfl, (fun x hx => by cases hx), A1.frame (f3.tt f4) (fun _ _ => id), A2.frame f4 (fun _ _ => id), if_pos rfl, ?_, lab1, lab2, (fun x hx => by cases hx), fun c => Iff.rfl, fun c hc => hc.elim, fun c hc => (labs c hc).2, .nil⟩⟩ ⟨f1.tt (f2.tt (f3.tt f4)), fun c hc => ?_⟩
  · grind
  · grind

end Cps
end
section
namespace Stt
open Obx (It)
open Eid (Ev)
variable {h h':Heap} {s:Nat} {X:Ft}
structure SS where
  A : List Ses.Ses
  G : List Regs.Rg
  C : Cps.CF
  B : Obx.BS
  Q : List It
  e : Ev
  tm : Nat
  sq : Nat
  now : Nat
  rf : Nat
structure Ids where
  t : Nat
  r : Nat
  c : Nat
  o : Nat
  p : Nat
  k : Nat
abbrev Mk (h : Heap) (k : Nat) (e : Ev) (tm sq : Nat) : Prop := h[k]? = some (.cells #[.bool e.ipn, .int .u64 e.node, .int .u64 e.svc, .string e.host, .string e.dem, .int .u64 (tm : Int), .int .u64 (sq : Int), .bool true] 474 (0, 0))
abbrev Bk (h : Heap) (s : Nat) (I : Ids) (now rf : Nat) : Prop := h[s]? = some (.cells #[pt I.t, pt I.r, pt I.c, pt I.o, pt I.p, pt I.k, .int .u64 (now : Int), .int .i64 (rf : Int)] 160 (0, 0))
def part (σ : SS) (I : Ids) (s : Nat) (i : Nat) (h : Heap) (X : Ft) : Prop := match i with
  | 0 => Ses.Has h I.t X σ.A
  | 1 => Regs.Tb h I.r X σ.G
  | 2 => Cps.Ct h I.c X σ.C
  | 3 => Obx.Box h I.o X σ.B
  | 4 => ∃ m, Pu h I.p m σ.Q ∧ only X fun y => y = I.p ∨ y = m
  | 5 => Mk h I.k σ.e σ.tm σ.sq ∧ only X fun y => y = I.k
  | 6 => Bk h s I σ.now σ.rf ∧ only X fun y => y = s
  | _ => ∀ y, ¬ In X y
theorem part.lt {σ : SS} {I : Ids} {i : Nat} (H : part σ I s i h X) (y : Nat) (hy : In X y) : y < h.size := by
  rcases i with _ | _ | _ | _ | _ | _ | _ | i
  · exact Ses.Has.lt H y hy
  · exact Regs.Tb.lt H y hy
  · exact Cps.Ct.lt H y hy
  · exact Obx.Box.lt H y hy
  · have ⟨m, P, o⟩ := H
    rcases hy with hy | hy
    · rcases (o y).1.1 hy with rfl | rfl
      · exact P.lt.1
      · exact P.lt.2
    · exact absurd hy (o y).2
  · have ⟨P, o⟩ := H
    rcases hy with hy | hy
    · grind
    · grind
  · have ⟨P, o⟩ := H
    rcases hy with hy | hy
    · rw [(o y).1.1 hy]; exact lt_of_get P
    · exact absurd hy (o y).2
  · exact absurd hy (H y)
theorem part.frame {σ : SS} {I : Ids} {i : Nat} {Q : Nat → Prop} (H : part σ I s i h X) (f : Fr Q h h') (hq : ∀ y, In X y → ¬ Q y) : part σ I s i h' X := by
  rcases i with _ | _ | _ | _ | _ | _ | _ | i
  · exact Ses.Has.frame H f hq
  · exact Regs.Tb.frame H f hq
  · exact Cps.Ct.frame H f hq
  · exact Obx.Box.frame H f hq
  · have ⟨m, P, o⟩ := H
    exact ⟨m, P.frame f (hq _ (.inl ((o _).1.2 (.inl rfl)))) (hq _ (.inl ((o _).1.2 (.inr rfl)))), o⟩
  · have ⟨P, o⟩ := H
    exact ⟨f.get P (hq _ (.inl ((o _).1.2 rfl))), o⟩
  · have ⟨P, o⟩ := H
    exact ⟨f.get P (hq _ (.inl ((o _).1.2 rfl))), o⟩
  · exact H
theorem part.dis {σ : SS} {I : Ids} {i : Nat} (H : part σ I s i h X) (y : Nat) (hm : X.M y) (hd : X.D y) : False := by
  rcases i with _ | _ | _ | _ | _ | _ | _ | i
  · exact Ses.Has.dis H y hm hd
  · have ⟨m, H⟩ := H; exact H.d y hd
  · have ⟨m, xs, a1, S1, a2, S2, lab, H⟩ := H; exact (H.mm y).1 hm (H.dd y hd).1
  · have ⟨L, ⟨lp, lc, xs, a, S, H⟩, _⟩ := H; exact H.dis y hm hd
  · have ⟨m, P, o⟩ := H; exact (o y).2 hd
  · exact (H.2 y).2 hd
  · exact (H.2 y).2 hd
  · exact H y (.inl hm)
theorem part.st (σ : SS) (I : Ids) (s : Nat) : Stable (part σ I s) := ⟨part.lt, part.frame, part.dis⟩
def Pt (h : Heap) (s : Nat) (X : Ft) (I : Ids) (σ : SS) : Prop := Fam (part σ I s) h X
variable {I : Ids} {σ : SS}
theorem Pt.lt (H : Pt h s X I σ) (y : Nat) (hy : X.M y ∨ X.D y) : y < h.size := Fam.lt (part.st _ _ _) H y hy
theorem Pt.frame {Q : Nat → Prop} (H : Pt h s X I σ) (f : Fr Q h h') (hq : ∀ y, X.M y ∨ X.D y → ¬ Q y) : Pt h' s X I σ := Fam.frame (part.st _ _ _) H f hq
theorem Pt.on (H : Pt h s X I σ) (f : Fr No h h') : Pt h' s X I σ := H.frame f (fun _ _ => id)
theorem Pt.blk (H : Pt h s X I σ) : Bk h s I σ.now σ.rf := by have ⟨Y, hp, _⟩ := H; exact (hp 6).1
end Stt
end
section
open Go.Heapq
namespace Cps
open Eid Alarm Fld
variable {s:CF} {p:TyO} {c:Nat}
def mayC (x : Ev) (len : Nat) (till : Int) : Bool := rightE x && (!decide (x = Ev.zero) && (decide (1 ≤ len) && (decide (len ≤ 600) && decide (till ≤ 1099511627776))))
def ofL (L : List Cp) (x : Ev) : List Cp := L.filter (fun y => decide (y.e = x))
def addE (s : CF) (x : Ev) (d : List UInt8) (till : Nat) : Int := if mayC x d.length (till : Int) = true then (if (ofL s.L x).length ≥ 16 then 15 else 0) else 1
abbrev Cp.val (z : Cp) (p : Option Addr) (c : Nat) : Value := .agg #[.int .i64 (z.num : Int), .bool z.e.ipn, .int .u64 z.e.node, .int .u64 z.e.svc, .string z.e.host, .string z.e.dem, .slice p z.d.length c, .int .u64 (z.till : Int), .int .i64 z.ses, .int .u64 (z.dl : Int)]
def mayS (ses : Int) (dl : Nat) : Prop := 1 ≤ ses ∧ ses ≤ 1099511627776 ∧ dl ≤ 1099511627776

end Cps
end
section
open Go.Heapq
namespace Cps
open Eid Alarm Fld
variable {h:Heap} {s s':CF} {n:Nat}
variable {L:List Cp} {z:Cp} {ks:List Int}
structure Ord (s : CF) : Prop where
  nd : (s.L.map Cp.num).Nodup
  o1 : Sorted s.E1
  o2 : Sorted s.E2
  n1 : (keys s.E1).Nodup
  n2 : (keys s.E2).Nodup
structure okC (s : CF) : Prop where
  bd : ∀ z ∈ s.L, 1 ≤ z.num ∧ z.num < s.next ∧ z.d.length ≤ 600
  sp : ∀ z ∈ s.L, 0 ≤ z.ses
  e1 : ∀ e, e ∈ s.E1 ↔ ∃ z ∈ s.L, e = ((z.num : Int), (z.till : Int))
  e2 : ∀ e, e ∈ s.E2 ↔ ∃ z ∈ s.L, z.ses ≠ 0 ∧ e = ((z.num : Int), (z.dl : Int))
  cnt : s.next = 1 + s.L.length + s.acked + s.over + s.gone
theorem delL_mem {k : Int} : z ∈ delL L k ↔ z ∈ L ∧ (z.num : Int) ≠ k := by unfold delL; simp [List.mem_filter]
theorem del_len : ∀ {L : List Cp}, (L.map Cp.num).Nodup → ∀ {z : Cp}, z ∈ L → (delL L (z.num : Int)).length + 1 = L.length
  | [], _, z, hz => by cases hz
  | y :: l, nd, z, hz => by
    rw [List.map_cons, List.nodup_cons] at nd
    unfold delL
    rw [List.filter_cons]
    rcases List.mem_cons.1 hz with rfl | hz
    · rw [if_neg (by simp), List.filter_eq_self.2 (fun x hx => ?_), List.length_cons]
      have : x.num ≠ z.num := fun e => nd.1 (by grind)
      simp; omega
    · rw [if_pos (by grind), List.length_cons, List.length_cons]
      have := del_len nd.2 hz
      unfold delL at this
      omega
def outC (L : List Cp) (ks : List Int) : List Cp := L.filter (fun z => !decide ((z.num : Int) ∈ ks))
def outE (L : List E) (ks : List Int) : List E := L.filter (fun e => !decide (e.1 ∈ ks))
theorem outC_nil (L : List Cp) : outC L [] = L := by exact List.filter_eq_self.2 (fun _ _ => by simp)
theorem outC_cons (L : List Cp) (k : Int) (ks : List Int) : outC (delL L k) ks = outC L (k :: ks) := by
  unfold outC delL
  rw [List.filter_filter]
  apply List.filter_congr
  intro x _
  by_cases h1 : (x.num) = k
  · simp [h1]
  · grind
theorem out_len : ∀ (ks : List Int) (L : List Cp), (L.map Cp.num).Nodup → ks.Nodup → (∀ k ∈ ks, ∃ z ∈ L, (z.num : Int) = k) → (outC L ks).length + ks.length = L.length
  | [], L, _, _, _ => by rw [outC_nil]; rfl
  | k :: ks, L, nd, nk, hk => by
    obtain ⟨z, hz, rfl⟩ := hk k (by simp)
    rw [← outC_cons, List.length_cons]
    have h1 := del_len nd hz
    have nk' := List.nodup_cons.1 nk
    have h2 := out_len ks (delL L (z.num)) (List.Pairwise.sublist (List.Sublist.map _ List.filter_sublist) nd) nk'.2 (fun j hj => by
      have ⟨y, hy, e⟩ := hk j (List.mem_cons_of_mem _ hj)
      exact ⟨y, delL_mem.2 ⟨hy, fun e2 => nk'.1 (by grind)⟩, e⟩)
    omega
theorem outC_mem : z ∈ outC L ks ↔ z ∈ L ∧ (z.num : Int) ∉ ks := by unfold outC; simp [List.mem_filter]
theorem outE_mem {L : List E} {e : E} : e ∈ outE L ks ↔ e ∈ L ∧ e.1 ∉ ks := by unfold outE; simp [List.mem_filter]
theorem of_nodup (O : Ord s) (x : Ev) : ((ofL s.L x).map (fun z => (z.num : Int))).Nodup := by
  have : ((ofL s.L x).map Cp.num).Nodup := List.Pairwise.sublist (List.Sublist.map _ List.filter_sublist) O.nd
  have e : (ofL s.L x).map (fun z => (z.num : Int)) = ((ofL s.L x).map Cp.num).map (fun n : Nat => (n : Int)) := by simp
  rw [e]
  exact List.Pairwise.map _ (fun a b h => by omega) this
theorem okC.outs (ok : okC s) (O : Ord s) {ks : List Int} (nk : ks.Nodup) (hk : ∀ k ∈ ks, ∃ z ∈ s.L, (z.num : Int) = k) (hL : s'.L = outC s.L ks) (h1 : s'.E1 = outE s.E1 ks) (h2 : s'.E2 = outE s.E2 ks) (hn : s'.next = s.next) (hc : s'.acked + s'.over + s'.gone = s.acked + s.over + s.gone + ks.length) : okC s' := by
  refine ⟨fun y hy => ?_, fun y hy => ?_, fun e => ?_, fun e => ?_, ?_⟩
  · rw [hL, outC_mem] at hy; rw [hn]; exact ok.bd y hy.1
  · rw [hL, outC_mem] at hy; exact ok.sp y hy.1
  · rw [h1, outE_mem, ok.e1, hL]
    constructor
    · rintro ⟨⟨y, hy, rfl⟩, hne⟩; exact ⟨y, outC_mem.2 ⟨hy, hne⟩, rfl⟩
    · rintro ⟨y, hy, rfl⟩; have := outC_mem.1 hy; exact ⟨⟨y, this.1, rfl⟩, this.2⟩
  · rw [h2, outE_mem, ok.e2, hL]
    constructor
    · rintro ⟨⟨y, hy, hs, rfl⟩, hne⟩; exact ⟨y, outC_mem.2 ⟨hy, hne⟩, hs, rfl⟩
    · rintro ⟨y, hy, hs, rfl⟩; have := outC_mem.1 hy; exact ⟨⟨y, this.1, hs, rfl⟩, this.2⟩
  · have := out_len ks s.L O.nd nk hk
    have := ok.cnt
    rw [hn, hL]; omega

end Cps
end
section
open Go.Fields Go.Heapq
namespace Cps
open Eid Alarm Fld
variable {t:Nat} {n:Nat}
structure okZ (z : Cp) : Prop where
  r : rightE z.e = true
  v : 0 ≤ z.e.svc
  d : z.d.length ≤ 600
  n : z.num ≤ 1000000
  t : z.till ≤ 1099511627776
  s0 : 0 ≤ z.ses
  s1 : z.ses ≤ 1099511627776
  l : z.dl ≤ 1099511627776

end Cps
end
section
open Go.Fields Go.Heapq
namespace Cps
open Eid Alarm Fld
variable {s:CF} {k:Nat}
structure Good (s : CF) (k : Nat) : Prop where
  ok : okC s
  all : ∀ z ∈ s.L, okZ z
  may : ∀ z ∈ s.L, mayC z.e z.d.length (z.till : Int) = true
  fr : ∀ z ∈ s.L, z.ses = 0 → z.dl = 0
  full : ∀ e, (ofL s.L e).length ≤ 16
  len : s.next ≤ k + 1
theorem Good.L (G : Good s k) : s.L.length ≤ k ∧ s.acked ≤ k ∧ s.over ≤ k ∧ s.gone ≤ k := by
  have := G.ok.cnt
  have := G.len
  omega
theorem Good.more (G : Good s k) : Good s (k + 1) := ⟨G.ok, G.all, G.may, G.fr, G.full, by have := G.len; omega⟩
instance (ses : Int) (dl : Nat) : Decidable (mayS ses dl) := by unfold mayS; infer_instance

end Cps
end
section
open Go.Fields
namespace Regs
open Eid Fld
variable {r:Rg}
structure okR (r : Rg) : Prop where
  rt : rightR r = true
  sv : 0 ≤ r.e.svc
theorem okR.e (k : okR r) : rightE r.e = true ∧ 0 ≤ r.pol ∧ r.pol ≤ 2 ∧ 1 ≤ r.own ∧ r.own ≤ 1099511627776 := by
  have := k.rt
  unfold rightR at this
  simp only [Bool.and_eq_true, Bool.not_eq_true', decide_eq_true_eq, decide_eq_false_iff_not] at this
  exact ⟨this.1, this.2.2.1.1, this.2.2.1.2, this.2.2.2.1, this.2.2.2.2⟩

end Regs
end
section
open Go.Fields
namespace Regs
open Eid Fld
variable {L:List Rg}
structure okL (L : List Rg) : Prop where
  len : L.length ≤ 8
  all : ∀ r ∈ L, okR r

end Regs
end
section
namespace Stt
open Obx (It)
open Eid (Ev rightE)
variable {σ:SS} {k:Nat}
structure Good (σ : SS) (k : Nat) : Prop where
  a : Ses.okA σ.A
  g : Regs.okL σ.G
  c : Cps.Good σ.C k
  b : σ.B.next ≤ k + 1
  v : σ.B.over ≤ k
  q : σ.Q = σ.B.items
  ok : okQ σ.Q
  n : σ.now ≤ 1099511627776
  e : rightE σ.e = true ∧ σ.e ≠ Ev.zero ∧ 0 ≤ σ.e.svc
  t : σ.tm ≤ 1099511627776 ∧ σ.sq ≤ 1099511627776
  r : σ.rf ≤ k
def newS (e : Ev) : SS := ⟨[], [], ⟨[], 1, 0, 0, 0, [], []⟩, ⟨[], 1, 0, 0, 0⟩, [], e, 0, 0, 0, 0⟩
theorem Good.more (G : Good σ k) : Good σ (k + 1) := ⟨G.a, G.g, G.c.more, by have := G.b; omega, by have := G.v; omega, G.q, G.ok, G.n, G.e, G.t, by have := G.r; omega⟩
abbrev fitsQ (l : List It) (owner : Int) (n : Nat) : Bool := Quota.fits 4800 1600 (tot l) (own l) owner (n : Int)

end Stt
end
section
variable {h:Heap} {R:TyP}
theorem state_New.walk {self_0 : Bool} {self_1 : Int} {self_2 : Int} {self_3 : ByteArray} {self_4 : ByteArray} (hv :
 NewP h (.cells #[.bool self_0, .int .u64 self_1, .int .u64 self_2, .string self_3, .string self_4] 64) fun b h_1 =>
 eid_Eid.LD h_1 ⟨b, 0, none⟩ fun t8_0 t8_1 t8_2 t8_3 t8_4 =>
 Cl 273 #[.agg #[.bool t8_0, .int .u64 t8_1, .int .u64 t8_2, .string t8_3, .string t8_4]] h_1 fun v h_2 =>
 ∃ t9_0 t9_1, v = .tuple #[.pointer t9_0, .int .i64 t9_1] ∧
 ite (t9_1 != 0)
 (  R (.tuple #[.pointer none, .int .i64 t9_1]) h_2)
 (  Cl 274 #[.int .i64 4800, .int .i64 1600] h_2 fun v_1 h_3 =>
 ∃ t16_0 t16_1, v_1 = .tuple #[.pointer t16_0, .int .i64 t16_1] ∧
 ite (t16_1 != 0)
 (  R (.tuple #[.pointer none, .int .i64 t16_1]) h_3)
 (  Cl 275 #[] h_3 fun v_2 h_4 =>
 ∃ t22, v_2 = .pointer t22 ∧
 Cl 276 #[] h_4 fun v_3 h_5 =>
 ∃ t23, v_3 = .pointer t23 ∧
 Cl 277 #[] h_5 fun v_4 h_6 =>
 ∃ t24, v_4 = .pointer t24 ∧
 Cl 278 #[] h_6 fun v_5 h_7 =>
 ∃ t25, v_5 = .pointer t25 ∧
 NewP h_7 (.cells #[.pointer t22, .pointer t23, .pointer t24, .pointer t25, .pointer t16_0, .pointer t9_0, .int .u64 0, .int .i64 0] 160) fun b_1 h_8 =>
 R (.tuple #[.pointer (some ⟨b_1, 0, none⟩), .int .i64 0]) h_8))) : Cl 198 #[.agg #[.bool self_0, .int .u64 self_1, .int .u64 self_2, .string self_3, .string self_4]] h R :=
 callsN [] hv
theorem ident_New.walk {source_0 : Bool} {source_1 : Int} {source_2 : Int} {source_3 : ByteArray} {source_4 : ByteArray} (hv :
 NewP h (.cells #[.bool source_0, .int .u64 source_1, .int .u64 source_2, .string source_3, .string source_4] 64) fun b h_1 =>
 JoinP (fun (t11 : Bool) h_2 =>
 ite t11
 (  R (.tuple #[.pointer none, .int .i64 3]) h_2)
 (  eid_Eid.LD h_2 ⟨b, 0, none⟩ fun t12_0 t12_1 t12_2 t12_3 t12_4 =>
 NewP h_2 (.cells #[.bool t12_0, .int .u64 t12_1, .int .u64 t12_2, .string t12_3, .string t12_4, .int .u64 0, .int .u64 0, .bool true] 474) fun b_1 h_3 =>
 R (.tuple #[.pointer (some ⟨b_1, 0, none⟩), .int .i64 0]) h_3))
 (fun J =>
 eid_Eid.LD h_1 ⟨b, 0, none⟩ fun t4_0 t4_1 t4_2 t4_3 t4_4 =>
 Cl 84 #[.agg #[.bool t4_0, .int .u64 t4_1, .int .u64 t4_2, .string t4_3, .string t4_4]] h_1 fun v h_4 =>
 ∃ t5, v = .bool t5 ∧
 ite (!t5)
 (  J true h_4)
 (  eid_Eid.LD h_4 ⟨b, 0, none⟩ fun t8_0 t8_1 t8_2 t8_3 t8_4 =>
 ∃ (eq : Bool), Eqz 64 (.agg #[.bool t8_0, .int .u64 t8_1, .int .u64 t8_2, .string t8_3, .string t8_4]) (.agg #[.bool false, .int .u64 0, .int .u64 0, .string (⟨#[]⟩ : ByteArray), .string (⟨#[]⟩ : ByteArray)]) eq ∧
 J eq h_4))) : Cl 273 #[.agg #[.bool source_0, .int .u64 source_1, .int .u64 source_2, .string source_3, .string source_4]] h R :=
 callsN [(4, .join [(11, sB)])] hv

end
section
namespace Stt
open Eid (Ev rightE ev5)
variable {h h':Heap} {R:TyP} {s k:Nat} {X:Ft} {I:Ids}
def mayE (x : Ev) : Prop := rightE x = true ∧ x ≠ Ev.zero
instance (x : Ev) : Decidable (mayE x) := by unfold mayE; infer_instance
theorem identNew_ok (x : Ev) (k1 : mayE x → ∀ h' b, Mk h' b x 0 0 → h.size ≤ b → Fr No h h' → R (.tuple #[pt b, .int .i64 0]) h')
    (k2 : ¬ mayE x → ∀ h', Fr No h h' → R (.tuple #[.pointer none, .int .i64 3]) h') : Cl 273 #[ev5 x] h R := by
  refine ident_New.walk (eid_Eid.box fun b h1 eb hb f1 => JoinP.of fun J hJ => eid_Eid.ld hb (Eid.right_ok x fun h2 f2 => ⟨_, rfl, ?_⟩))
  have hb2 := f2.get hb id
  cases hr : rightE x with
  | false =>
    subst hJ
    exact k2 (fun m => by rw [m.1] at hr; cases hr) h2 (f1.tt f2)
  | true =>
    refine eid_Eid.ld hb2 ⟨_, Eid.eqv' (y := Ev.zero) rfl rfl, ?_⟩
    subst hJ
    by_cases hz : x = Ev.zero
    · rw [decide_eq_true hz]
      dsimp only
      exact k2 (fun m => m.2 hz) h2 (f1.tt f2)
    · rw [decide_eq_false hz]
      dsimp only
      refine eid_Eid.ld hb2 (newP_of (k1 ⟨hr, hz⟩ _ _ push_new (Nat.le_trans f1.1 f2.1) ((f1.tt f2).tt (Fr.push _ _))))
theorem new_ok (x : Ev) (k1 : mayE x → ∀ h' s X I, Pt h' s X I (newS x) → UpF h X h' → R (.tuple #[pt s, .int .i64 0]) h')
    (k2 : ¬ mayE x → ∀ h', Fr No h h' → R (.tuple #[.pointer none, .int .i64 3]) h') : Cl 198 #[ev5 x] h R := by
  refine state_New.walk (eid_Eid.box fun b h1 eb hb f1 => eid_Eid.ld hb (identNew_ok x (fun hm h2 k M2 g2 f2 => ⟨_, _, rfl, ?_⟩) (fun hm h2 f2 => ⟨_, _, rfl, ?_⟩)))
  · rw [if_neg (by decide)]
    refine Quota.new_ok 4800 1600 (fun _ h3 p m P3 g3 g3' f3 => ⟨_, _, rfl, ?_⟩) (fun e => absurd e (by decide))
    rw [if_neg (by decide)]
    refine Ses.new_ok fun h4 t X0 H4 f4 u4 => ⟨_, rfl, Regs.new_ok fun h5 r X1 H5 u5 => ⟨_, rfl, Cps.new_ok fun h6 c X2 H6 u6 => ⟨_, rfl, Obx.new_ok fun h7 o X3 H7 f7 u7 => ⟨_, rfl, newP_of ?_⟩⟩⟩⟩
    have f8 : Fr No h7 (h7.push (.cells #[.pointer (some ⟨t, 0, none⟩), .pointer (some ⟨r, 0, none⟩), .pointer (some ⟨c, 0, none⟩), .pointer (some ⟨o, 0, none⟩), .pointer (some ⟨p, 0, none⟩), .pointer (some ⟨k, 0, none⟩), .int .u64 0, .int .i64 0] 160)) := Fr.push _ _
    have B8 : (h7.push (.cells #[.pointer (some ⟨t, 0, none⟩), .pointer (some ⟨r, 0, none⟩), .pointer (some ⟨c, 0, none⟩), .pointer (some ⟨o, 0, none⟩), .pointer (some ⟨p, 0, none⟩), .pointer (some ⟨k, 0, none⟩), .int .u64 0, .int .i64 0] 160))[h7.size]? = _ := push_new
    have z8 : (h7.push (.cells #[.pointer (some ⟨t, 0, none⟩), .pointer (some ⟨r, 0, none⟩), .pointer (some ⟨c, 0, none⟩), .pointer (some ⟨o, 0, none⟩), .pointer (some ⟨p, 0, none⟩), .pointer (some ⟨k, 0, none⟩), .int .u64 0, .int .i64 0] 160)).size = h7.size + 1 := Array.size_push _
    generalize h7.push (.cells #[.pointer (some ⟨t, 0, none⟩), .pointer (some ⟨r, 0, none⟩), .pointer (some ⟨c, 0, none⟩), .pointer (some ⟨o, 0, none⟩), .pointer (some ⟨p, 0, none⟩), .pointer (some ⟨k, 0, none⟩), .int .u64 0, .int .i64 0] 160) = h8 at f8 B8 z8 ⊢
    have F7 := f7.tt f8
    have F6 := u6.fr.tt F7
    have F5 := u5.fr.tt F6
    have F4 := f4.tt F5
    have F3 := f3.tt F4
    have F8 := f1.tt (f2.tt F3)
    have z1 := f1.1
    have z2 := f2.1
    have z3 := f3.1
    have z4 := f4.1
    have z5 := u5.fr.1
    have z6 := u6.fr.1
    have z7 := f7.1
    have lp := P3.lt
    have lk := lt_of_get M2
    let Y : Nat → Ft := fun i => match i with
      | 0 => X0 | 1 => X1 | 2 => X2 | 3 => X3
      | 4 => ⟨fun y => y = p ∨ y = m, fun _ => False⟩
      | 5 => ⟨fun y => y = k, fun _ => False⟩
      | 6 => ⟨fun y => y = h7.size, fun _ => False⟩
      | _ => ⟨fun _ => False, fun _ => False⟩
    let lo : Nat → Nat := fun i => [h3.size, h4.size, h5.size, h6.size, h2.size, h1.size].getD i h7.size
    let hi : Nat → Nat := fun i => [h4.size, h5.size, h6.size, h7.size, h3.size, h2.size].getD i h8.size
    have bd : ∀ i y, In (Y i) y → lo i ≤ y ∧ y < hi i := fun i y hy => by
      rcases i with _ | _ | _ | _ | _ | _ | _ | i
      · exact ⟨u4 y hy, H4.lt y hy⟩
      · exact ⟨u5.ge y hy, H5.lt y hy⟩
      · exact ⟨u6.ge y hy, H6.lt y hy⟩
      · exact ⟨u7 y hy, H7.lt y hy⟩
      · rcases hy with hy | hy
        · grind
        · exact hy.elim
      · rcases hy with hy | hy
        · have hy : y = k := hy
          exact ⟨hy ▸ g2, hy ▸ lk⟩
        · exact hy.elim
      · rcases hy with hy | hy
        · grind
        · exact hy.elim
      · rcases hy with hy | hy <;> exact hy.elim
    refine k1 hm h8 h7.size ⟨fun y => ∃ i, (Y i).M y, fun y => ∃ i, (Y i).D y⟩ ⟨t, r, c, o, p, k⟩ ⟨Y, fun i => ?_, fun i j y hij hy hz => ?_, fun _ => Iff.rfl, fun _ => Iff.rfl⟩ ⟨F8, fun y hy => ?_⟩
    · rcases i with _ | _ | _ | _ | _ | _ | _ | i
      · exact H4.frame F5 (fun _ _ => id)
      · exact H5.on F6
      · exact H6.on F7
      · exact Obx.Box.on ⟨[], H7, Obx.okB.nil⟩ f8
      · exact ⟨m, P3.frame F4 id id, fun y => ⟨Iff.rfl, id⟩⟩
      · exact ⟨F3.get M2 id, fun y => ⟨Iff.rfl, id⟩⟩
      · exact ⟨B8, fun y => ⟨Iff.rfl, id⟩⟩
      · exact fun y hy => hy.elim id id
    · have h1 := bd i y hy
      have h2 := bd j y hz
      have e7 : ∀ i, ¬ In (Y (i + 7)) y := fun i hy => hy.elim id id
      rcases i with _ | _ | _ | _ | _ | _ | _ | i <;> first | exact e7 i hy | (rcases j with _ | _ | _ | _ | _ | _ | _ | j <;> first | exact e7 j hz | exact hij rfl | (simp only [lo, hi, List.getD_cons_zero, List.getD_cons_succ, List.getD_nil] at h1 h2; omega))
    · have key : ∀ i, In (Y i) y → h.size ≤ y := fun i a => by
        have h1 := (bd i y a).1
        rcases i with _ | _ | _ | _ | _ | _ | _ | i <;> (simp only [lo, List.getD_cons_zero, List.getD_cons_succ, List.getD_nil] at h1; omega)
      rcases hy with ⟨i, a⟩ | ⟨i, a⟩
      · exact key i (.inl a)
      · exact key i (.inr a)
  · rw [if_pos (by decide)]
    exact k2 hm h2 (f1.tt f2)

end Stt
end
section
variable {h:Heap} {R:TyP}
variable {d l s_l s_c:Nat} {self:eid_Eid.S} {s_p:TyO} {now:Int}
theorem pend_Queue.ex {K : pend_Queue.S → Prop} (x : pend_Queue.S) (hk : K x) : pend_Queue.EX K := ⟨_, _, _, _, hk⟩
theorem daemon_Daemon.ex {K : daemon_Daemon.S → Prop} (x : daemon_Daemon.S) (hk : K x) : daemon_Daemon.EX K := ⟨_, _, _, _, _, hk⟩
theorem boot_log.walk (hv :
 NewP h (.cells self.arr 64) fun b h_1 =>
 eid_Eid.LDp h_1 ⟨b, 0, none⟩ fun t10 =>
 Cl 149 #[.pointer (some ⟨d, 0, none⟩), t10.agg] h_1 fun v h_2 =>
 ∃ t11_0 t11_1, v = .tuple #[.pointer t11_0, .int .i64 t11_1] ∧
 ite (t11_1 == 4)
 (  eid_Eid.LDp h_2 ⟨b, 0, none⟩ fun t17 =>
 Cl 150 #[.pointer (some ⟨d, 0, none⟩), t17.agg] h_2 fun v_1 h_3 =>
 ∃ t18_0 t18_1, v_1 = .tuple #[.pointer t18_0, .int .i64 t18_1] ∧
 R (.tuple #[.pointer t18_0, .int .i64 t18_1]) h_3)
 (  R (.tuple #[.pointer t11_0, .int .i64 t11_1]) h_2)) : Cl 85 #[.pointer (some ⟨d, 0, none⟩), self.agg] h R :=
 callsN [] hv
theorem boot_sure.walk (hv :
 ∃ (I : Heap → Prop) (mu : Heap → Nat), (
 I h) ∧ ∀ h_1, I h_1 →
 Cl 108 #[.pointer (some ⟨l, 0, none⟩)] h_1 fun v h_2 =>
 ∃ t6, v = .int .i64 t6 ∧
 Cl 158 #[.pointer (some ⟨l, 0, none⟩)] h_2 fun v_1 h_3 =>
 ∃ t8, v_1 = .int .i64 t8 ∧
 ite (decide (t6 < t8))
 (  Cl 159 #[.pointer (some ⟨l, 0, none⟩)] h_3 fun v_2 h_4 =>
 ∃ t12_0 t12_1, v_2 = .tuple #[.int .i64 t12_0, .int .i64 t12_1] ∧
 ite (t12_1 != 0)
 (  R (.int .i64 t12_1) h_4)
 (  (I h_4 ∧ mu h_4 < mu h_1)))
 (  R (.int .i64 0) h_3)) : Cl 91 #[.pointer (some ⟨l, 0, none⟩)] h R :=
 callsN [(2, fun _ => .scope 0 [] ll (lq (sq (lq (cq (sq (lq (lq (cq ll lf))) lf) lf)) ll)))] hv
theorem slices_IndexFunc_s_sessions_Session_sessions_Session.up.walk (hv :
 ∃ (I : Int → Heap → Prop) (mu : Int → Heap → Nat), I 0 h ∧ ∀ t8 h_1, I t8 h_1 →
 ite (decide (t8 < ((s_l : Nat) : Int)))
 (  ((0 : Int) ≤ t8 ∧ t8 < ((s_l : Nat) : Int)) ∧
 onSome s_p fun a =>
 sessions_Session.LD h_1 (a.add (Int.toNat t8 * 6)) fun t15_0 t15_1 t15_2 t15_3 t15_4_p t15_4_l t15_4_c t15_5_p t15_5_l t15_5_c =>
 Cl 87 #[.agg #[.int .i64 t15_0, .int .u64 t15_1, .bool t15_2, .bool t15_3, .slice t15_4_p t15_4_l t15_4_c, .slice t15_5_p t15_5_l t15_5_c]] h_1 fun v h_2 =>
 ∃ t16, v = .bool t16 ∧
 ite t16
 (  R (.int .i64 t8) h_2)
 (  (I (IntKind.wrap .i64 (t8 + 1)) h_2 ∧ mu (IntKind.wrap .i64 (t8 + 1)) h_2 < mu t8 h_1)))
 (  R (.int .i64 (-1)) h_1)) : Cl 151 #[.slice s_p s_l s_c, .func (.func 87) #[] #[]] h R :=
 callsN [(6, .loop [(8, sI)])] hv
theorem slices_ContainsFunc_s_sessions_Session_sessions_Session.up.walk (hv :
 Cl 151 #[.slice s_p s_l s_c, .func (.func 87) #[] #[]] h fun v h_1 =>
 ∃ t7, v = .int .i64 t7 ∧
 R (.bool (decide (t7 ≥ 0))) h_1) : Cl 88 #[.slice s_p s_l s_c, .func (.func 87) #[] #[]] h R :=
 callsN [] hv
theorem boot_Start.walk (hv :
 NewP h (.cells self.arr 64) fun b h_1 =>
 Cl 83 #[.pointer (some ⟨d, 0, none⟩)] h_1 fun v h_2 =>
 ∃ t17, v = .int .i64 t17 ∧
 ite (t17 == 0)
 (  R (.tuple #[.pointer none, .int .i64 6]) h_2)
 (  JoinP (fun (t19 : Bool) h_3 =>
 ite t19
 (  R (.tuple #[.pointer none, .int .i64 3]) h_3)
 (  ite (decide (now > 1099511627776))
 (  R (.tuple #[.pointer none, .int .i64 1]) h_3)
 (  eid_Eid.LDp h_3 ⟨b, 0, none⟩ fun t33 =>
 Cl 85 #[.pointer (some ⟨d, 0, none⟩), t33.agg] h_3 fun v_1 h_4 =>
 ∃ t34_0 t34_1, v_1 = .tuple #[.pointer t34_0, .int .i64 t34_1] ∧
 ite (t34_1 != 0)
 (  R (.tuple #[.pointer none, .int .i64 t34_1]) h_4)
 (  Cl 86 #[.pointer t34_0] h_4 fun v_2 h_5 =>
 ∃ t42, v_2 = .pointer t42 ∧
 onSome t42 fun a =>
 ∃ t45, hcell h_5 (a.add 6) = some (.int .u64 t45) ∧
 Cl 86 #[.pointer t34_0] h_5 fun v_3 h_6 =>
 ∃ t48, v_3 = .pointer t48 ∧
 onSome t48 fun a_1 =>
 ∃ t51, hcell h_6 a_1 = some (.pointer t51) ∧
 Cl 89 #[.pointer t51] h_6 fun v_4 h_7 =>
 ∃ t52_p t52_l t52_c, v_4 = .slice t52_p t52_l t52_c ∧
 Cl 88 #[.slice t52_p t52_l t52_c, .func (.func 87) #[] #[]] h_7 fun v_5 h_8 =>
 ∃ t54, v_5 = .bool t54 ∧
 JoinP (fun h_9 =>
 Cl 91 #[.pointer t34_0] h_9 fun v_6 h_10 =>
 ∃ t67, v_6 = .int .i64 t67 ∧
 ite (t67 != 0)
 (  R (.tuple #[.pointer none, .int .i64 t67]) h_10)
 (  Cl 92 #[.pointer t34_0, .int .u64 (if t45 > now then t45 else now)] h_10 fun v_7 h_11 =>
 ∃ t73_0 t73_1, v_7 = .tuple #[.pointer t73_0, .int .i64 t73_1] ∧
 R (.tuple #[.pointer t73_0, .int .i64 t73_1]) h_11))
 (fun J_1 =>
 ite t54
 (  Cl 90 #[.pointer t34_0, .agg #[.int .u64 (if t45 > now then t45 else now), .int .i64 8, .int .u64 0, .int .i64 0, .int .u64 0, .int .i64 0, .bool false, .int .u64 0, .int .u64 0, .string (⟨#[]⟩ : ByteArray), .string (⟨#[]⟩ : ByteArray), .bool false, .int .u64 0, .int .u64 0, .string (⟨#[]⟩ : ByteArray), .string (⟨#[]⟩ : ByteArray), .int .i64 0, .int .i64 0, .int .i64 0, .slice none 0 0, .int .u64 0, .int .u64 0, .bool false, .slice none 0 0]] h_8 fun v_8 h_12 =>
 reply_Reply.EX fun t59_0 =>
 ∃ t59_1 t59_2, v_8 = .tuple #[t59_0.agg, .int .i64 t59_1, .int .i64 t59_2] ∧
 NewP h_12 (.cells reply_Reply.S.z.arr 110) fun b_1 h_13 =>
 reply_Reply.STp h_13 ⟨b_1, 0, none⟩ t59_0 fun h_14 =>
 ite (t59_2 != 0)
 (  R (.tuple #[.pointer none, .int .i64 t59_2]) h_14)
 (  J_1 h_14))
 (  J_1 h_8))))))
 (fun J =>
 eid_Eid.LDp h_2 ⟨b, 0, none⟩ fun t20 =>
 Cl 84 #[t20.agg] h_2 fun v_9 h_15 =>
 ∃ t21, v_9 = .bool t21 ∧
 ite (!t21)
 (  J true h_15)
 (  eid_Eid.LDp h_15 ⟨b, 0, none⟩ fun t24 =>
 ∃ (eq : Bool), Eqz 64 (t24.agg) (eid_Eid.S.z.agg) eq ∧
 J eq h_15)))) : Cl 43 #[.pointer (some ⟨d, 0, none⟩), self.agg, .int .u64 now] h R :=
 callsN [(11, .join [(19, sB)]), (40, .join [])] hv
theorem pend_New.walk  (hv :
 NewP h (.cells #[.bool true, .slice none 0 0] 346) fun b h_1 =>
 R (.pointer (some ⟨b, 0, none⟩)) h_1) : Cl 160 #[] h R :=
 callsN [] hv
theorem daemon_New.walk (hv :
 Cl 86 #[.pointer (some ⟨l, 0, none⟩)] h fun v h_1 =>
 ∃ t8, v = .pointer t8 ∧
 ite t8.isNone
 (  R (.tuple #[.pointer none, .int .i64 6]) h_1)
 (  JoinP (fun (t12 : Bool) h_2 =>
 ite t12
 (  R (.tuple #[.pointer none, .int .i64 1]) h_2)
 (  NewP h_2 (.map #[] 0) fun b h_3 =>
 Cl 160 #[] h_3 fun v_1 h_4 =>
 ∃ t25, v_1 = .pointer t25 ∧
 NewP h_4 (.cells #[.pointer (some ⟨l, 0, none⟩), .map (some b), .int .i64 1, .pointer t25, .int .u64 now] 249) fun b_1 h_5 =>
 R (.tuple #[.pointer (some ⟨b_1, 0, none⟩), .int .i64 0]) h_5))
 (fun J =>
 ite (decide (now > 1099511627776))
 (  J true h_1)
 (  onSome t8 fun a =>
 ∃ t20, hcell h_1 (a.add 6) = some (.int .u64 t20) ∧
 J (decide (now < t20)) h_1)))) : Cl 92 #[.pointer (some ⟨l, 0, none⟩), .int .u64 now] h R :=
 callsN [(13, .join [(12, sB)])] hv
theorem daemon_Daemon_made.walk (hv :
 ∃ t9, hcell h ⟨d, 1, none⟩ = some (.map t9) ∧
 R (.bool (!t9.isNone)) h) : Cl 162 #[.pointer (some ⟨d, 0, none⟩)] h R :=
 callsN [] hv
theorem daemon_Daemon_Now.walk (hv :
 ∃ t8, hcell h ⟨d, 4, none⟩ = some (.int .u64 t8) ∧
 R (.int .u64 t8) h) : Cl 128 #[.pointer (some ⟨d, 0, none⟩)] h R :=
 callsN [] hv

end
section
open Go.Fields
namespace Ses
open Fld
variable {h h':Heap} {t:Nat} {p:TyO} {c i:Nat} {lab:Lab} {D:Nat→Prop} {L:List SC}
theorem Tab.on (TB : Tab h t lab D L) (f : Fr No h h') : Tab h' t lab D L := by
  have ⟨p, c, hb, own, hp⟩ := TB.blk
  refine ⟨⟨p, c, f.get hb id, own.frame f (fun _ _ => id), hp⟩, TB.lt0, fun i s hs => (TB.ses i s hs).frame f (fun _ _ _ _ _ => id) (fun _ _ => id), ?_, ?_, TB.ap⟩
  · intro c r hr; exact Nat.lt_of_lt_of_le (TB.llt c r hr) f.1
  · intro c hd; exact Nat.lt_of_lt_of_le (TB.dlt c hd) f.1

end Ses
end
section
variable {h:Heap} {R:TyP}
theorem sessions_Table_All.walk {t : Nat} (hv :
 ∃ t16_p t16_l t16_c, hcell h ⟨t, 1, none⟩ = some (.slice t16_p t16_l t16_c) ∧
 ∃ (I : Option Addr → Nat → Nat → Int → Heap → Prop) (mu : Option Addr → Nat → Nat → Int → Heap → Nat), I none 0 0 0 h ∧ ∀ out_p out_l out_c t18 h_1, I out_p out_l out_c t18 h_1 →
 ite (decide (t18 < ((t16_l : Nat) : Int)))
 (  ((0 : Int) ≤ t18 ∧ t18 < ((t16_l : Nat) : Int)) ∧
 onSome t16_p fun a =>
 ∃ t21, hcell h_1 (a.add (Int.toNat t18 * 1)) = some (.pointer t21) ∧
 onSome t21 fun a_1 =>
 sessions_Session.LD h_1 a_1 fun t24_0 t24_1 t24_2 t24_3 t24_4_p t24_4_l t24_4_c t24_5_p t24_5_l t24_5_c =>
 NewP h_1 (.cells #[.int .i64 0, .int .u64 0, .bool false, .bool false, .slice none 0 0, .slice none 0 0] 166) fun b h_2 =>
 sessions_Session.ST h_2 ⟨b, 0, none⟩ t24_0 t24_1 t24_2 t24_3 t24_4_p t24_4_l t24_4_c t24_5_p t24_5_l t24_5_c fun h_3 =>
 StoreP h_3 ⟨b, 4, none⟩ (.slice none 0 0) fun h_4 =>
 StoreP h_4 ⟨b, 5, none⟩ (.slice none 0 0) fun h_5 =>
 onSome t21 fun a_2 =>
 ∃ t30_p t30_l t30_c, hcell h_5 (a_2.add 4) = some (.slice t30_p t30_l t30_c) ∧
 ∃ (I_1 : Int → Heap → Prop) (mu_1 : Int → Heap → Nat), I_1 0 h_5 ∧ ∀ t32 h_6, I_1 t32 h_6 →
 ite (decide (t32 < ((t30_l : Nat) : Int)))
 (  ((0 : Int) ≤ t32 ∧ t32 < ((t30_l : Nat) : Int)) ∧
 onSome t30_p fun a_3 =>
 sessions_Answer.LD h_6 (a_3.add (Int.toNat t32 * 2)) fun t35_0 t35_1_p t35_1_l t35_1_c =>
 NewP h_6 (.cells #[.int .u64 0, .slice none 0 0] 240) fun b_1 h_7 =>
 sessions_Answer.ST h_7 ⟨b_1, 0, none⟩ t35_0 t35_1_p t35_1_l t35_1_c fun h_8 =>
 ∃ t37_p t37_l t37_c, hcell h_8 ⟨b, 4, none⟩ = some (.slice t37_p t37_l t37_c) ∧
 ∃ t39, hcell h_8 ⟨b_1, 0, none⟩ = some (.int .u64 t39) ∧
 ∃ t41_p t41_l t41_c, hcell h_8 ⟨b_1, 1, none⟩ = some (.slice t41_p t41_l t41_c) ∧
 Cl 152 #[.slice t41_p t41_l t41_c] h_8 fun v h_9 =>
 ∃ t42_p t42_l t42_c, v = .slice t42_p t42_l t42_c ∧
 hcell h_9 ⟨b_1, 0, none⟩ = some (.int .u64 t39) ∧
 hcell h_9 ⟨b, 4, none⟩ = some (.slice t37_p t37_l t37_c) ∧
 NewP h_9 (.cells #[.int .u64 t39, .slice t42_p t42_l t42_c] 240) fun b_2 h_10 =>
 hcell h_10 ⟨b_1, 0, none⟩ = some (.int .u64 t39) ∧
 hcell h_10 ⟨b, 4, none⟩ = some (.slice t37_p t37_l t37_c) ∧
 Dsz (Builtin.append_ #[163, 163] 163 #[.slice t37_p t37_l t37_c, .slice (some ⟨b_2, 0, none⟩) 1 1]) h_10 fun v_1 h_11 =>
 ∃ t45_p t45_l t45_c, v_1 = .slice t45_p t45_l t45_c ∧
 hcell h_11 ⟨b_1, 0, none⟩ = some (.int .u64 t39) ∧
 StoreP h_11 ⟨b, 4, none⟩ (.slice t45_p t45_l t45_c) fun h_12 =>
 (I_1 (IntKind.wrap .i64 (t32 + 1)) h_12 ∧ mu_1 (IntKind.wrap .i64 (t32 + 1)) h_12 < mu_1 t32 h_6))
 (  onSome t21 fun a_4 =>
 ∃ t51_p t51_l t51_c, hcell h_6 (a_4.add 5) = some (.slice t51_p t51_l t51_c) ∧
 ∃ (I_2 : Int → Heap → Prop) (mu_2 : Int → Heap → Nat), I_2 0 h_6 ∧ ∀ t53 h_13, I_2 t53 h_13 →
 ite (decide (t53 < ((t51_l : Nat) : Int)))
 (  ((0 : Int) ≤ t53 ∧ t53 < ((t51_l : Nat) : Int)) ∧
 onSome t51_p fun a_5 =>
 ∃ t56_p t56_l t56_c, hcell h_13 (a_5.add (Int.toNat t53 * 1)) = some (.slice t56_p t56_l t56_c) ∧
 ∃ t58_p t58_l t58_c, hcell h_13 ⟨b, 5, none⟩ = some (.slice t58_p t58_l t58_c) ∧
 Cl 152 #[.slice t56_p t56_l t56_c] h_13 fun v_2 h_14 =>
 ∃ t60_p t60_l t60_c, v_2 = .slice t60_p t60_l t60_c ∧
 hcell h_14 ⟨b, 5, none⟩ = some (.slice t58_p t58_l t58_c) ∧
 NewP h_14 (.cells #[.slice t60_p t60_l t60_c] 69) fun b_3 h_15 =>
 hcell h_15 ⟨b, 5, none⟩ = some (.slice t58_p t58_l t58_c) ∧
 Dsz (Builtin.append_ #[164, 164] 164 #[.slice t58_p t58_l t58_c, .slice (some ⟨b_3, 0, none⟩) 1 1]) h_15 fun v_3 h_16 =>
 ∃ t62_p t62_l t62_c, v_3 = .slice t62_p t62_l t62_c ∧
 StoreP h_16 ⟨b, 5, none⟩ (.slice t62_p t62_l t62_c) fun h_17 =>
 (I_2 (IntKind.wrap .i64 (t53 + 1)) h_17 ∧ mu_2 (IntKind.wrap .i64 (t53 + 1)) h_17 < mu_2 t53 h_13))
 (  sessions_Session.LD h_13 ⟨b, 0, none⟩ fun t66_0 t66_1 t66_2 t66_3 t66_4_p t66_4_l t66_4_c t66_5_p t66_5_l t66_5_c =>
 NewP h_13 (.cells #[.int .i64 t66_0, .int .u64 t66_1, .bool t66_2, .bool t66_3, .slice t66_4_p t66_4_l t66_4_c, .slice t66_5_p t66_5_l t66_5_c] 166) fun b_4 h_18 =>
 Dsz (Builtin.append_ #[169, 169] 169 #[.slice out_p out_l out_c, .slice (some ⟨b_4, 0, none⟩) 1 1]) h_18 fun v_4 h_19 =>
 ∃ t68_p t68_l t68_c, v_4 = .slice t68_p t68_l t68_c ∧
 (I t68_p t68_l t68_c (IntKind.wrap .i64 (t18 + 1)) h_19 ∧ mu t68_p t68_l t68_c (IntKind.wrap .i64 (t18 + 1)) h_19 < mu out_p out_l out_c t18 h_1))))
 (  R (.slice out_p out_l out_c) h_1)) : Cl 89 #[.pointer (some ⟨t, 0, none⟩)] h R :=
 callsN [(16, .loop [(3, sS), (18, sI)]), (35, .loop [(32, sI)]), (46, fun _ => .plan (opL [0,1,2,3,4,5,6,7,8,9,10,11] .done)), (52, .loop [(53, sI)]), (63, fun _ => .plan (opL [0,1,2,3,4,5,6,7] .done))] hv

end
section
open Go.Fields
namespace Ses
open Fld
variable {h h' h0:Heap} {t:Nat} {X:Ft} {R:TyP} {p:TyO} {c i:Nat} {lab:Lab} {D:Nat→Prop} {L:List SC} {A:List Ses}
variable {s:SC} {g:Heap} {b:Nat} {E:Nat→Prop} {K:Heap→Prop}
abbrev senc (s : SC) : List Value := [.int .i64 (s.num : Int), .int .u64 (s.token : Int), .bool s.up, .bool s.watch, .slice s.kp s.kept.length s.kc, .slice s.np s.notes.length s.nc]
theorem tS : SlTy Tryz.prog 169 166 6 72 (.agg #[.int .i64 0, .int .u64 0, .bool false, .bool false, .slice none 0 0, .slice none 0 0]) := ⟨by kernel_rfl, by kernel_rfl, rfl⟩
theorem uSe : Tryz.prog.underlying 169 = some (.slice 166) := by kernel_rfl
structure SRow (h : Heap) (D : Nat → Prop) (s : SC) : Prop where
  k : Row h s.kp (s.kept.flatMap AV.enc)
  kD : s.kept ≠ [] → ∀ y, inBlk s.kp y → D y
  kd : ∀ a ∈ s.kept, a.v.ok h D
  n : Row h s.np (s.notes.flatMap nenc)
  nD : s.notes ≠ [] → ∀ y, inBlk s.np y → D y
  nd : ∀ n ∈ s.notes, n.ok h D
theorem SRow.frame {Q : Nat → Prop} (H : SRow h D s) (f : Fr Q h h') (hq : ∀ y, D y → ¬ Q y) : SRow h' D s := by
  refine ⟨?_, H.kD, fun a ha => (H.kd a ha).frame f hq, ?_, H.nD, fun a ha => (H.nd a ha).frame f hq⟩
  · by_cases e : s.kept = []
    · rw [e]; exact .inl rfl
    · exact H.k.frame f (fun a ea => hq _ (H.kD e _ ⟨a, ea, rfl⟩))
  · by_cases e : s.notes = []
    · rw [e]; exact .inl rfl
    · exact H.n.frame f (fun a ea => hq _ (H.nD e _ ⟨a, ea, rfl⟩))
theorem SRow.mono {D' : Nat → Prop} (H : SRow h D s) (hd : ∀ y, D y → D' y) : SRow h D' s :=
  ⟨H.k, fun e y hy => hd y (H.kD e y hy), fun a ha => (H.kd a ha).mono hd, H.n, fun e y hy => hd y (H.nD e y hy), fun a ha => (H.nd a ha).mono hd⟩
def SL (h0 h : Heap) (p : Option Addr) (l c : Nat) (A : List Ses) : Prop :=
  ∃ (xs : List SC) (D : Nat → Prop), l = xs.length ∧ Own h p l c 6 (xs.flatMap senc) ∧ xs.map SC.abs = A ∧ (∀ x ∈ xs, SRow h D x) ∧ (∀ y, D y → h0.size ≤ y ∧ y < h.size ∧ ¬ inBlk p y) ∧ ∀ y, inBlk p y → h0.size ≤ y
theorem SL.len {l : Nat} (H : SL h0 h p l c A) : l = A.length := by
  have ⟨xs, D, h1, _, h3, _⟩ := H
  rw [h1, ← h3, List.length_map]
structure Cp (g h : Heap) (b : Nat) (s : SC) (E : Nat → Prop) : Prop where
  fr : Fr No g h
  blk : sessions_Session.at h b (s.num : Int) (s.token : Int) s.up s.watch s.kp s.kept.length s.kc s.np s.notes.length s.nc
  gb : g.size ≤ b
  ko : Own h s.kp s.kept.length s.kc 2 (s.kept.flatMap AV.enc)
  kg : ∀ y, inBlk s.kp y → g.size ≤ y ∧ y ≠ b ∧ ¬ E y
  no : Own h s.np s.notes.length s.nc 1 (s.notes.flatMap nenc)
  ng : ∀ y, inBlk s.np y → g.size ≤ y ∧ y ≠ b ∧ ¬ E y ∧ ¬ inBlk s.kp y
  kd : ∀ a ∈ s.kept, a.v.ok h E
  nd : ∀ n ∈ s.notes, n.ok h E
  eg : ∀ y, E y → g.size ≤ y ∧ y < h.size ∧ y ≠ b
theorem Cp.answer {a : AV} (C : Cp g h b s E) (hr : Row h a.v.p (bc a.v.b)) (hlb : a.v.b.length ≤ 1000) (hkl : s.kept.length ≤ 1000)
    (hk : ∀ h' s' E', Cp g h' b s' E' → s'.abs = { s.abs with kept := s.abs.kept ++ [a.abs] } → K h') :
    NewP h (.cells #[.int .u64 0, .slice none 0 0] 240) fun b_1 h_12 =>
          StoreP h_12 ⟨b_1, 0, none⟩ (.int .u64 (a.id : Int)) fun h_13 =>
          StoreP h_13 ⟨b_1, 1, none⟩ (.slice a.v.p a.v.b.length a.v.c) fun h_14 =>
          ∃ (t37_p : Option Addr) (t37_l t37_c : Nat), hcell h_14 ⟨b, 4, none⟩ = some (.slice t37_p t37_l t37_c) ∧
          ∃ (t39 : Int), hcell h_14 ⟨b_1, 0, none⟩ = some (.int .u64 t39) ∧
          ∃ (t41_p : Option Addr) (t41_l t41_c : Nat), hcell h_14 ⟨b_1, 1, none⟩ = some (.slice t41_p t41_l t41_c) ∧
          Cl 152 #[.slice t41_p t41_l t41_c] h_14 fun v h_15 =>
          ∃ (t42_p : Option Addr) (t42_l t42_c : Nat), v = .slice t42_p t42_l t42_c ∧
          hcell h_15 ⟨b_1, 0, none⟩ = some (.int .u64 t39) ∧
          hcell h_15 ⟨b, 4, none⟩ = some (.slice t37_p t37_l t37_c) ∧
          NewP h_15 (.cells #[.int .u64 t39, .slice t42_p t42_l t42_c] 240) fun b_2 h_16 =>
          hcell h_16 ⟨b_1, 0, none⟩ = some (.int .u64 t39) ∧
          hcell h_16 ⟨b, 4, none⟩ = some (.slice t37_p t37_l t37_c) ∧
          denSem Tryz.prog (Builtin.append_ #[163, 163] 163 #[.slice t37_p t37_l t37_c, .slice (some ⟨b_2, 0, none⟩) 1 1]) h_16 fun v_1 h_17 =>
          ∃ (t45_p : Option Addr) (t45_l t45_c : Nat), v_1 = .slice t45_p t45_l t45_c ∧
          hcell h_17 ⟨b_1, 0, none⟩ = some (.int .u64 t39) ∧
          StoreP h_17 ⟨b, 4, none⟩ (.slice t45_p t45_l t45_c) fun h_18 => K h_18 := by
  refine sessions_Answer.new fun b1 h14 eb1 hb1 f14 => ?_
  have k14 := f14.get C.blk id
  have zb : b < h.size := lt_of_get C.blk
  refine ⟨_, _, _, cell_at k14 rfl, _, cell_at hb1 rfl, _, _, _, cell_at hb1 rfl, clone_ok (hr.frame f14 (fun _ _ => id)) rfl (by omega) fun p15 c15 h15 o15 f15 g15 => ⟨_, _, _, rfl, cell_at (f15.get hb1 id) rfl, cell_at (f15.get k14 id) rfl, newP_of ?_⟩⟩
  have f16 : Fr No h15 (h15.push (.cells #[.int .u64 (a.id : Int), .slice p15 a.v.b.length c15] 240)) := Fr.push _ _
  have row16 : Row (h15.push (.cells #[.int .u64 (a.id : Int), .slice p15 a.v.b.length c15] 240)) (some ⟨h15.size, 0, none⟩) (AV.enc ⟨a.id, ⟨p15, c15, a.v.b⟩⟩) := row_new (cs := AV.enc ⟨a.id, ⟨p15, c15, a.v.b⟩⟩)
  have sz16 : (h15.push (.cells #[.int .u64 (a.id : Int), .slice p15 a.v.b.length c15] 240)).size = h15.size + 1 := Array.size_push _
  generalize h15.push (.cells #[.int .u64 (a.id : Int), .slice p15 a.v.b.length c15] 240) = h16 at f16 row16 sz16 ⊢
  have f1416 := f15.tt f16
  have f016 := f14.tt f1416
  have k16 := f1416.get k14 id
  have b116 := f1416.get hb1 id
  refine ⟨cell_at b116 rfl, cell_at k16 rfl, ?_⟩
  have zh14 := f14.1
  have zh15 := f15.1
  have zg := C.fr.1
  have nkb : ∀ y, inBlk s.kp y → y ≠ b := fun y hy => (C.kg y hy).2.1
  have lk : ∀ y, inBlk s.kp y → y < h.size := fun y hy => C.ko.blk_lt hy
  refine den_append tA uA (C.ko.frame f016 (fun _ _ => id)) row16 rfl (fun v hv => by simp at hv; rcases hv with rfl | rfl <;> rfl) (by omega) (by omega) ?_
  intro p17 c17 h17 o17 _ f17 g17
  have b117 := f17.get b116 (fun hx => by have := lk _ hx; omega)
  refine ⟨_, _, _, rfl, cell_at b117 rfl, ?_⟩
  have k17 := f17.get k16 (fun hx => nkb _ hx rfl)
  refine storeP_blk k17 (by simp) fun h18 q1 q2 q3 => ?_
  have f18 : Fr (fun x => x = b) h17 h18 := Fr.of_eq q2 q3
  have F18 : Fr (fun x => x = b ∨ inBlk s.kp x) h h18 := (f016.mono (fun _ _ => False.elim)).tt ((f17.mono (fun _ _ hx => .inr hx)).tt (f18.mono (fun _ _ hx => .inl hx)))
  have z17 := f17.1
  have z18 := f18.1
  have n17 : ∀ y, inBlk p17 y → inBlk s.kp y ∨ h16.size ≤ y := g17
  have b15 : ∀ y, inBlk p15 y → h.size ≤ y ∧ y < h15.size := fun y hy => ⟨by have := g15 y hy; omega, o15.blk_lt hy⟩
  have o1518 : Own h18 p15 a.v.b.length c15 1 (bc a.v.b) := ((o15.frame f16 (fun _ _ => id)).frame f17 (fun y hy hx => by have := b15 y hy; have := lk y hx; omega)).frame f18 (fun y hy e => by have := b15 y hy; omega)
  have eQ : ∀ y, E y → ¬ (y = b ∨ inBlk s.kp y) := fun y hy hx => hx.elim (C.eg y hy).2.2 (fun hx => (C.kg y hx).2.2 hy)
  have o18 := o17.frame f18 (fun y hy e => (n17 y hy).elim (fun hx => nkb y hx e) (fun hx => by omega))
  refine hk h18 { s with kept := s.kept ++ [⟨a.id, ⟨p15, c15, a.v.b⟩⟩], kp := p17, kc := c17 } (fun y => E y ∨ inBlk p15 y) ⟨?_, ?_, C.gb, ?_, ?_, ?_, ?_, ?_, ?_, ?_⟩ ?_
  · exact C.fr.step F18 (fun y hy hx => hx.elim (fun e => by have := C.gb; omega) (fun hx => by have := (C.kg y hx).1; omega))
  · show h18[b]? = _
    rw [q1]
    dsimp only
    rw [List.length_append]; rfl
  · show Own h18 p17 (s.kept ++ [_]).length c17 2 ((s.kept ++ [_]).flatMap AV.enc)
    rw [List.length_append, List.flatMap_append]
    simpa using o18
  · intro y hy
    rcases n17 y hy with hx | hx
    · exact ⟨(C.kg y hx).1, (C.kg y hx).2.1, fun he => he.elim (C.kg y hx).2.2 (fun h2 => by have := b15 y h2; have := lk y hx; omega)⟩
    · exact ⟨by omega, by omega, fun he => he.elim (fun h2 => by have := (C.eg y h2).2.1; omega) (fun h2 => by have := b15 y h2; omega)⟩
  · exact C.no.frame F18 (fun y hy hx => hx.elim (C.ng y hy).2.1 (C.ng y hy).2.2.2)
  · intro y hy
    have hy' := C.ng y hy
    have ly : y < h.size := C.no.blk_lt hy
    exact ⟨hy'.1, hy'.2.1, fun he => he.elim hy'.2.2.1 (fun h2 => by have := b15 y h2; omega), fun hx => (n17 y hx).elim hy'.2.2.2 (fun h2 => by omega)⟩
  · intro x hx
    rcases List.mem_append.1 hx with hx | hx
    · exact ((C.kd x hx).frame F18 eQ).mono (fun y => .inl)
    · simp at hx; subst hx; exact BV.of_own o1518 (fun y => .inr)
  · intro x hx
    exact ((C.nd x hx).frame F18 eQ).mono (fun y => .inl)
  · rintro y (hy | hy)
    · exact ⟨(C.eg y hy).1, by have := (C.eg y hy).2.1; omega, (C.eg y hy).2.2⟩
    · exact ⟨by have := b15 y hy; omega, by have := b15 y hy; omega, by have := b15 y hy; omega⟩
  · unfold SC.abs
    dsimp only
    rw [List.map_append]; rfl
theorem Cp.note {n : BV} (C : Cp g h b s E) (hr : Row h n.p (bc n.b)) (hlb : n.b.length ≤ 1000) (hkl : s.notes.length ≤ 1000)
    (hk : ∀ h' s' E', Cp g h' b s' E' → s'.abs = { s.abs with notes := s.abs.notes ++ [n.b] } → K h') :
    ∃ (t58_p : Option Addr) (t58_l t58_c : Nat), hcell h ⟨b, 5, none⟩ = some (.slice t58_p t58_l t58_c) ∧
              Cl 152 #[.slice n.p n.b.length n.c] h fun v_2 h_20 =>
              ∃ (t60_p : Option Addr) (t60_l t60_c : Nat), v_2 = .slice t60_p t60_l t60_c ∧
              hcell h_20 ⟨b, 5, none⟩ = some (.slice t58_p t58_l t58_c) ∧
              NewP h_20 (.cells #[.slice t60_p t60_l t60_c] 69) fun b_3 h_21 =>
              hcell h_21 ⟨b, 5, none⟩ = some (.slice t58_p t58_l t58_c) ∧
              denSem Tryz.prog (Builtin.append_ #[164, 164] 164 #[.slice t58_p t58_l t58_c, .slice (some ⟨b_3, 0, none⟩) 1 1]) h_21 fun v_3 h_22 =>
              ∃ (t62_p : Option Addr) (t62_l t62_c : Nat), v_3 = .slice t62_p t62_l t62_c ∧
              StoreP h_22 ⟨b, 5, none⟩ (.slice t62_p t62_l t62_c) fun h_23 => K h_23 := by
  have zb : b < h.size := lt_of_get C.blk
  refine ⟨_, _, _, cell_at C.blk rfl, clone_ok hr rfl (by omega) fun p15 c15 h15 o15 f15 g15 => ⟨_, _, _, rfl, cell_at (f15.get C.blk id) rfl, newP_of ?_⟩⟩
  have f16 : Fr No h15 (h15.push (.cells #[.slice p15 n.b.length c15] 69)) := Fr.push _ _
  have row16 : Row (h15.push (.cells #[.slice p15 n.b.length c15] 69)) (some ⟨h15.size, 0, none⟩) (nenc ⟨p15, c15, n.b⟩) := row_new (cs := nenc ⟨p15, c15, n.b⟩)
  have sz16 : (h15.push (.cells #[.slice p15 n.b.length c15] 69)).size = h15.size + 1 := Array.size_push _
  generalize h15.push (.cells #[.slice p15 n.b.length c15] 69) = h16 at f16 row16 sz16 ⊢
  have f016 := f15.tt f16
  have k16 := f016.get C.blk id
  refine ⟨cell_at k16 rfl, ?_⟩
  have zh15 := f15.1
  have zg := C.fr.1
  have nkb : ∀ y, inBlk s.np y → y ≠ b := fun y hy => (C.ng y hy).2.1
  have lk : ∀ y, inBlk s.np y → y < h.size := fun y hy => C.no.blk_lt hy
  refine den_append tN uN (C.no.frame f016 (fun _ _ => id)) row16 rfl (fun v hv => by simp at hv; subst hv; rfl) (by omega) (by omega) ?_
  intro p17 c17 h17 o17 _ f17 g17
  refine ⟨_, _, _, rfl, ?_⟩
  have k17 := f17.get k16 (fun hx => nkb _ hx rfl)
  refine storeP_blk k17 (by simp) fun h18 q1 q2 q3 => ?_
  have f18 : Fr (fun x => x = b) h17 h18 := Fr.of_eq q2 q3
  have F18 : Fr (fun x => x = b ∨ inBlk s.np x) h h18 := (f016.mono (fun _ _ => False.elim)).tt ((f17.mono (fun _ _ hx => .inr hx)).tt (f18.mono (fun _ _ hx => .inl hx)))
  have z17 := f17.1
  have z18 := f18.1
  have n17 : ∀ y, inBlk p17 y → inBlk s.np y ∨ h16.size ≤ y := g17
  have b15 : ∀ y, inBlk p15 y → h.size ≤ y ∧ y < h15.size := fun y hy => ⟨g15 y hy, o15.blk_lt hy⟩
  have o1518 : Own h18 p15 n.b.length c15 1 (bc n.b) := ((o15.frame f16 (fun _ _ => id)).frame f17 (fun y hy hx => by have := b15 y hy; have := lk y hx; omega)).frame f18 (fun y hy e => by have := b15 y hy; omega)
  have eQ : ∀ y, E y → ¬ (y = b ∨ inBlk s.np y) := fun y hy hx => hx.elim (C.eg y hy).2.2 (fun hx => (C.ng y hx).2.2.1 hy)
  have o18 := o17.frame f18 (fun y hy e => (n17 y hy).elim (fun hx => nkb y hx e) (fun hx => by omega))
  refine hk h18 { s with notes := s.notes ++ [⟨p15, c15, n.b⟩], np := p17, nc := c17 } (fun y => E y ∨ inBlk p15 y) ⟨?_, ?_, C.gb, ?_, ?_, ?_, ?_, ?_, ?_, ?_⟩ ?_
  · exact C.fr.step F18 (fun y hy hx => hx.elim (fun e => by have := C.gb; omega) (fun hx => by have := (C.ng y hx).1; omega))
  · show h18[b]? = _
    rw [q1]
    dsimp only
    rw [List.length_append]; rfl
  · exact C.ko.frame F18 (fun y hy hx => hx.elim (C.kg y hy).2.1 (fun h2 => (C.ng y h2).2.2.2 hy))
  · intro y hy
    have hy' := C.kg y hy
    have ly : y < h.size := C.ko.blk_lt hy
    exact ⟨hy'.1, hy'.2.1, fun he => he.elim hy'.2.2 (fun h2 => by have := b15 y h2; omega)⟩
  · show Own h18 p17 (s.notes ++ [_]).length c17 1 ((s.notes ++ [_]).flatMap nenc)
    rw [List.length_append, List.flatMap_append]
    simpa using o18
  · intro y hy
    rcases n17 y hy with hx | hx
    · exact ⟨(C.ng y hx).1, (C.ng y hx).2.1, fun he => he.elim (C.ng y hx).2.2.1 (fun h2 => by have := b15 y h2; have := lk y hx; omega), (C.ng y hx).2.2.2⟩
    · exact ⟨by omega, by omega, fun he => he.elim (fun h2 => by have := (C.eg y h2).2.1; omega) (fun h2 => by have := b15 y h2; omega), fun h2 => by have := C.ko.blk_lt h2; omega⟩
  · intro x hx
    exact ((C.kd x hx).frame F18 eQ).mono (fun y => .inl)
  · intro x hx
    rcases List.mem_append.1 hx with hx | hx
    · exact ((C.nd x hx).frame F18 eQ).mono (fun y => .inl)
    · simp at hx; subst hx; exact BV.of_own o1518 (fun y => .inr)
  · rintro y (hy | hy)
    · exact ⟨(C.eg y hy).1, by have := (C.eg y hy).2.1; omega, (C.eg y hy).2.2⟩
    · exact ⟨by have := b15 y hy; omega, by have := b15 y hy; omega, by have := b15 y hy; omega⟩
  · unfold SC.abs
    dsimp only
    rw [List.map_append]; rfl
theorem all_ok (H : Has h t X A) (ok : okA A) (hk : ∀ h' p' l' c', SL h h' p' l' c' A → Fr No h h' → R (.slice p' l' c') h') : Cl 89 #[.pointer (some ⟨t, 0, none⟩)] h R := by
  obtain ⟨_, lab, L, TB, rfl, _, hS⟩ := H
  have hl := ok.le
  rw [List.length_map] at hl
  obtain ⟨tp, tc, htb, town, _⟩ := TB.blk
  refine sessions_Table_All.walk ⟨_, _, _, cell_at htb rfl, ?_⟩
  refine ⟨fun op ol oc i h1 => ∃ k : Nat, i = (k : Int) ∧ k ≤ L.length ∧ SL h h1 op ol oc ((L.map SC.abs).take k) ∧ Fr No h h1, fun _ _ _ i _ => L.length - i.toNat, ⟨0, rfl, by omega, ⟨[], fun _ => False, rfl, .nil rfl rfl rfl rfl, rfl, (fun x hx => by cases hx), (fun y hy => hy.elim), fun y ⟨a, e, _⟩ => by cases e⟩, Fr.refl _ _⟩, ?_⟩
  rintro op ol oc _ g ⟨k, rfl, hkn, O, fg⟩
  have TBg := TB.on fg
  have htg := fg.get htb id
  have owng := town.frame fg (fun _ _ => id)
  have olen := O.len
  rw [List.length_take, List.length_map] at olen
  by_cases hlt : k < L.length
  · rw [if_pos (decide_eq_true (by omega)), Int.toNat_natCast]
    have ⟨s, hs⟩ := getAt hlt
    have SA := TBg.ses k s hs
    have okS := ok.at_ k _ (abs_at hs)
    have kl : s.kept.length ≤ 6 := by have := okS.kl; rwa [show s.abs.kept.length = s.kept.length from List.length_map _] at this
    have nl : s.notes.length ≤ 6 := by have := okS.nl; rwa [show s.abs.notes.length = s.notes.length from List.length_map _] at this
    have kb : ∀ a ∈ s.kept, a.v.b.length ≤ 1000 := fun a ha => (okS.kd a.abs (List.mem_map_of_mem ha)).2
    have nb : ∀ a ∈ s.notes, a.b.length ≤ 1000 := fun a ha => by have := (okS.nd a.b (List.mem_map_of_mem ha)).2; omega
    obtain ⟨ab, aoff, rfl⟩ := owng.addr (by omega)
    refine ⟨⟨by first | trivial | omega, by first | trivial | omega⟩, onSome_some.2 ⟨some ⟨s.b, 0, none⟩, ?_, onSome_some.2 ?_⟩⟩
    · rw [Nat.mul_one]; exact owng.cell (by rw [List.getElem?_map, hs]; rfl)
    refine sessions_Session.ld SA.blk (sessions_Session.new fun b h8 eb hb8 f8 => ?_)
    refine storeP_blk hb8 (by simp) fun h9 a1 a2 a3 => storeP_blk a1 (by simp) fun h10 b1 b2 b3 => onSome_some.2 ?_
    have f10 : Fr No g h10 := f8.step ((Fr.of_eq (S := fun x => x = b) a2 a3).tt (Fr.of_eq b2 b3)) (fun y hy e => by omega)
    have SA10 := SA.frame f10 (fun _ _ _ _ _ => id) (fun _ _ => id)
    refine ⟨_, _, _, cell_at SA10.blk rfl, ?_⟩
    have C10 : Cp g h10 b ⟨b, s.num, s.token, s.up, s.watch, [], none, 0, [], none, 0⟩ (fun _ => False) :=
      ⟨f10, b1, by omega, .nil rfl rfl rfl rfl, (fun y ⟨a, e, _⟩ => by cases e), .nil rfl rfl rfl rfl, (fun y ⟨a, e, _⟩ => by cases e), (fun a ha => by cases ha), (fun a ha => by cases ha), fun y hy => hy.elim⟩
    refine ⟨fun i h' => ∃ (j : Nat) (s' : SC) (E : Nat → Prop), i = (j : Int) ∧ j ≤ s.kept.length ∧ Cp g h' b s' E ∧ s'.abs = ⟨s.num, s.token, s.up, s.watch, s.abs.kept.take j, []⟩, fun i _ => s.kept.length - i.toNat, ⟨0, _, _, rfl, by omega, C10, rfl⟩, ?_⟩
    clear C10 SA10 f10 b1 b2 b3 a1 a2 a3 hb8 f8
    rintro _ h11 ⟨j, s', E, rfl, hj, C, hab⟩
    have SA11 := SA.frame C.fr (fun _ _ _ _ _ => id) (fun _ _ => id)
    by_cases hjl : j < s.kept.length
    · rw [if_pos (decide_eq_true (by omega)), Int.toNat_natCast]
      have ⟨a, ha⟩ := getAt hjl
      have own11 := SA11.kown
      obtain ⟨kb', koff, hkp⟩ := own11.addr (by omega)
      rw [hkp] at own11
      refine ⟨⟨by first | trivial | omega, by first | trivial | omega⟩, ?_⟩
      rw [hkp]
      refine onSome_some.2 (sessions_Answer.ldA (own11.heldAt aenc_len ha) ?_)
      have s'l : s'.kept.length = j := by
        have := congrArg (fun x => x.kept.length) hab
        have e1 : s'.abs.kept.length = s'.kept.length := List.length_map _
        dsimp only at this
        rw [e1, List.length_take] at this
        have e2 : s.abs.kept.length = s.kept.length := List.length_map _
        omega
      refine C.answer (SA11.kd a (List.mem_of_getElem? ha)).row (kb a (List.mem_of_getElem? ha)) (by omega) fun h18 s18 E18 C18 hab18 => ?_
      rw [wrap_id (by omega) (by omega)]
      refine ⟨⟨j + 1, s18, E18, by omega, by omega, C18, ?_⟩, ?_⟩
      · rw [hab18, hab]
        dsimp only
        congr 1
        rw [List.take_add_one, show s.abs.kept[j]? = some a.abs by show (s.kept.map AV.abs)[j]? = _; rw [List.getElem?_map, ha]; rfl]; rfl
      · show s.kept.length - Int.toNat ((j : Int) + 1) < s.kept.length - Int.toNat (j : Int); omega
    · have q2 : ¬ (j : Int) < (s.kept.length : Int) := by omega
      simp only [q2, decide_false, Bool.false_eq_true, if_false]
      refine onSome_some.2 ⟨_, _, _, cell_at SA11.blk rfl, ?_⟩
      have hab0 : s'.abs = ⟨s.num, s.token, s.up, s.watch, s.abs.kept, s.abs.notes.take 0⟩ := by
        rw [hab, List.take_of_length_le (by have : s.abs.kept.length = s.kept.length := List.length_map _; omega)]; rfl
      refine ⟨fun i h' => ∃ (j : Nat) (s' : SC) (E : Nat → Prop), i = (j : Int) ∧ j ≤ s.notes.length ∧ Cp g h' b s' E ∧ s'.abs = ⟨s.num, s.token, s.up, s.watch, s.abs.kept, s.abs.notes.take j⟩, fun i _ => s.notes.length - i.toNat, ⟨0, s', E, rfl, by omega, C, hab0⟩, ?_⟩
      clear C SA11 hab hab0 hj hjl q2
      rintro _ h19 ⟨j, s', E, rfl, hj, C, hab⟩
      have SA19 := SA.frame C.fr (fun _ _ _ _ _ => id) (fun _ _ => id)
      by_cases hjl : j < s.notes.length
      · rw [if_pos (decide_eq_true (by omega)), Int.toNat_natCast]
        have ⟨a, ha⟩ := getAt hjl
        have own19 := SA19.nown
        obtain ⟨nb', noff, hnp⟩ := own19.addr (by omega)
        rw [hnp] at own19
        refine ⟨⟨by first | trivial | omega, by first | trivial | omega⟩, ?_⟩
        rw [hnp]
        refine onSome_some.2 ⟨a.p, a.b.length, a.c, ?_, ?_⟩
        · have := (own19.heldAt nenc_len ha).1
          rwa [add_zero_addr] at this
        have s'l : s'.notes.length = j := by
          have := congrArg (fun x => x.notes.length) hab
          have e1 : s'.abs.notes.length = s'.notes.length := List.length_map _
          dsimp only at this
          rw [e1, List.length_take] at this
          have e2 : s.abs.notes.length = s.notes.length := List.length_map _
          omega
        refine C.note (SA19.nd a (List.mem_of_getElem? ha)).row (nb a (List.mem_of_getElem? ha)) (by omega) fun h18 s18 E18 C18 hab18 => ?_
        rw [wrap_id (by omega) (by omega)]
        refine ⟨⟨j + 1, s18, E18, by omega, by omega, C18, ?_⟩, ?_⟩
        · rw [hab18, hab]
          dsimp only
          congr 1
          rw [List.take_add_one, show s.abs.notes[j]? = some a.b by show (s.notes.map BV.b)[j]? = _; rw [List.getElem?_map, ha]; rfl]; rfl
        · show s.notes.length - Int.toNat ((j : Int) + 1) < s.notes.length - Int.toNat (j : Int); omega
      · rw [if_neg (by simp only [decide_eq_true_eq]; omega)]
        have hab1 : s'.abs = s.abs := by
          rw [hab, List.take_of_length_le (by have : s.abs.notes.length = s.notes.length := List.length_map _; omega)]; rfl
        refine sessions_Session.ld C.blk ?_
        obtain ⟨xs, D, hx1, hx2, hx3, hx4, hx5, hx6⟩ := O
        have own19 := hx2.frame C.fr (fun _ _ => id)
        refine den_append1 tS uSe own19 rfl (fun v hv => by simp at hv; rcases hv with rfl | rfl | rfl | rfl | rfl | rfl <;> rfl) (by omega) (by omega) ?_
        intro p25 c25 h25 o25 f25 g25
        refine ⟨_, _, _, rfl, ?_⟩
        rw [wrap_id (by omega) (by omega)]
        have z19 := C.fr.1
        have zg := fg.1
        have opg : ∀ y, inBlk op y → y < g.size := fun y hy => hx2.blk_lt hy
        refine ⟨⟨k + 1, by omega, by omega, ⟨xs ++ [s'], fun y => D y ∨ E y ∨ inBlk s'.kp y ∨ inBlk s'.np y, by rw [List.length_append, hx1]; rfl, ?_, ?_, ?_, ?_, ?_⟩, ?_⟩, ?_⟩
        · rw [List.flatMap_append]; simpa using o25
        · rw [List.map_append, hx3, List.take_add_one, List.getElem?_map, hs]
          show _ ++ [s'.abs] = _ ++ [s.abs]
          rw [hab1]
        · intro x hx
          rcases List.mem_append.1 hx with hx | hx
          · refine (((hx4 x hx).frame C.fr (fun _ _ => id)).frame f25 (fun y hy => (hx5 y hy).2.2)).mono (fun y => .inl)
          · simp at hx; subst hx
            refine SRow.frame (h := h19) ⟨C.ko.row', fun _ y hy => .inr (.inr (.inl hy)), fun a ha => (C.kd a ha).mono (fun y hy => .inr (.inl hy)), C.no.row', fun _ y hy => .inr (.inr (.inr hy)), fun a ha => (C.nd a ha).mono (fun y hy => .inr (.inl hy))⟩ f25 ?_
            rintro y (hy | hy | hy | hy) ho
            · exact (hx5 y hy).2.2 ho
            · have := opg y ho; have := (C.eg y hy).1; omega
            · have := opg y ho; have := (C.kg y hy).1; omega
            · have := opg y ho; have := (C.ng y hy).1; omega
        · have z25 := f25.1
          rintro y (hy | hy | hy | hy)
          · grind
          · have a := C.eg y hy
            exact ⟨by omega, by omega, fun ho => (g25 y ho).elim (fun h2 => by have := opg y h2; omega) (fun h2 => by omega)⟩
          · have a := C.kg y hy
            have b := C.ko.blk_lt hy
            exact ⟨by omega, by omega, fun ho => (g25 y ho).elim (fun h2 => by have := opg y h2; omega) (fun h2 => by omega)⟩
          · have a := C.ng y hy
            have b := C.no.blk_lt hy
            exact ⟨by omega, by omega, fun ho => (g25 y ho).elim (fun h2 => by have := opg y h2; omega) (fun h2 => by omega)⟩
        · intro y hy
          rcases g25 y hy with h2 | h2
          · exact hx6 y h2
          · omega
        · exact (fg.tt C.fr).step f25 (fun y hy ho => by have := hx6 y ho; omega)
        · show L.length - Int.toNat ((k : Int) + 1) < L.length - Int.toNat (k : Int); omega
  · rw [if_neg (by simp only [decide_eq_true_eq]; omega)]
    rw [List.take_of_length_le (by rw [List.length_map]; omega)] at O
    exact hk g op ol oc O fg

end Ses
end
section
variable {h:Heap} {R:TyP}
variable {d:Nat} {n:Int}
theorem conn_Conn.ex {K : conn_Conn.S → Prop} (x : conn_Conn.S) (hk : K x) : conn_Conn.EX K := ⟨_, _, _, _, _, _, _, _, _, hk⟩
theorem frame_Decoder.ex {K : frame_Decoder.S → Prop} (x : frame_Decoder.S) (hk : K x) : frame_Decoder.EX K := ⟨_, _, _, _, _, hk⟩
theorem daemon_Daemon_find.walk (hv :
 Cl 162 #[.pointer (some ⟨d, 0, none⟩)] h fun v h_1 =>
 ∃ t8, v = .bool t8 ∧
 ite (!t8)
 (  R (.tuple #[.pointer none, .int .i64 6]) h_1)
 (  ∃ t14, hcell h_1 ⟨d, 1, none⟩ = some (.map t14) ∧
 ∃ t16, Lkz 245 (.map t14) (.int .i64 n) false h_1 (.pointer t16) ∧
 ite t16.isNone
 (  R (.tuple #[.pointer none, .int .i64 4]) h_1)
 (  ∃ t21, hcell h_1 ⟨d, 1, none⟩ = some (.map t21) ∧
 ∃ t23, Lkz 245 (.map t21) (.int .i64 n) false h_1 (.pointer t23) ∧
 R (.tuple #[.pointer t23, .int .i64 0]) h_1))) : Cl 166 #[.pointer (some ⟨d, 0, none⟩), .int .i64 n] h R :=
 callsN [] hv
theorem daemon_Daemon_Connect.walk (hv :
 Cl 162 #[.pointer (some ⟨d, 0, none⟩)] h fun v h_1 =>
 ∃ t7, v = .bool t7 ∧
 ite (!t7)
 (  R (.tuple #[.int .i64 0, .int .i64 6]) h_1)
 (  ∃ t13, hcell h_1 ⟨d, 1, none⟩ = some (.map t13) ∧
 ∃ t14 : Int, LenV Tryz.prog #[245] 3 (.map t13) h_1 (.int .i64 t14) ∧
 ite (decide (t14 ≥ 8))
 (  R (.tuple #[.int .i64 0, .int .i64 5]) h_1)
 (  ∃ t19, hcell h_1 ⟨d, 2, none⟩ = some (.int .i64 t19) ∧
 ∃ t23, hcell h_1 ⟨d, 2, none⟩ = some (.int .i64 t23) ∧
 StoreP h_1 ⟨d, 2, none⟩ (.int .i64 (IntKind.wrap .i64 (t23 + 1))) fun h_2 =>
 ∃ t30, hcell h_2 ⟨d, 1, none⟩ = some (.map t30) ∧
 Cl 163 #[] h_2 fun v_1 h_3 =>
 ∃ t32, v_1 = .pointer t32 ∧
 Kp h_2 h_3 [(some ⟨d, 1, none⟩)] ∧
 Dsz (Instr.mapUpdate 245 (.map t30) (.int .i64 t19) (.pointer t32)) h_3 fun _ h_4 =>
 R (.tuple #[.int .i64 t19, .int .i64 0]) h_4))) : Cl 97 #[.pointer (some ⟨d, 0, none⟩)] h R :=
 callsN [(22, fun _ => .planK (runP 7 0 .done))] hv
theorem daemon_Daemon_Tick.walk {k : Int} (hv :
 Cl 162 #[.pointer (some ⟨d, 0, none⟩)] h fun v h_1 =>
 ∃ t7, v = .bool t7 ∧
 ite (!t7)
 (  R (.int .i64 6) h_1)
 (  ∃ t14, hcell h_1 ⟨d, 4, none⟩ = some (.int .u64 t14) ∧
 ite (decide (k > (IntKind.wrap .u64 (1099511627776 - t14))))
 (  R (.int .i64 1) h_1)
 (  ∃ t20, hcell h_1 ⟨d, 4, none⟩ = some (.int .u64 t20) ∧
 StoreP h_1 ⟨d, 4, none⟩ (.int .u64 (IntKind.wrap .u64 (t20 + k))) fun h_2 =>
 R (.int .i64 0) h_2))) : Cl 118 #[.pointer (some ⟨d, 0, none⟩), .int .u64 k] h R :=
 callsN [] hv
theorem daemon_Daemon_Run.walk {draw : Int} (hv :
 NewP h (.cells daemon_Deed.S.z.arr 189) fun b h_1 =>
 Cl 166 #[.pointer (some ⟨d, 0, none⟩), .int .i64 n] h_1 fun v h_2 =>
 ∃ t18_0 t18_1, v = .tuple #[.pointer t18_0, .int .i64 t18_1] ∧
 ite (t18_1 != 0)
 (  daemon_Deed.STp h_2 ⟨b, 0, none⟩ daemon_Deed.S.z fun h_3 =>
 daemon_Deed.LDp h_3 ⟨b, 0, none⟩ fun r0 =>
 R (.tuple #[r0.agg, .int .i64 t18_1]) h_3)
 (  Cl 169 #[.pointer t18_0] h_2 fun v_1 h_4 =>
 request_Request.EX fun t27_0 =>
 ∃ t27_1, v_1 = .tuple #[t27_0.agg, .bool t27_1] ∧
 NewP h_4 (.cells request_Request.S.z.arr 174) fun b_1 h_5 =>
 request_Request.STp h_5 ⟨b_1, 0, none⟩ t27_0 fun h_6 =>
 ite (!t27_1)
 (  daemon_Deed.STp h_6 ⟨b, 0, none⟩ daemon_Deed.S.z fun h_7 =>
 daemon_Deed.LDp h_7 ⟨b, 0, none⟩ fun r0_1 =>
 R (.tuple #[r0_1.agg, .int .i64 4]) h_7)
 (  request_Request.LDp h_6 ⟨b_1, 0, none⟩ fun t34 =>
 NewP h_6 (.cells daemon_Deed.S.z.arr 189) fun b_2 h_8 =>
 daemon_Deed.STp h_8 ⟨b_2, 0, none⟩ ⟨n, t34.f0, t34.f1, t34.f2, t34.f3, t34.f4, t34.f5, t34.f6, t34.f7, t34.f8, t34.f9, t34.f10, t34.f11, t34.f12, t34.f13, t34.f14, t34.f15p, t34.f15l, t34.f15c, t34.f16, t34.f17, t34.f18, 0, 0, 0, 0, 0, 0, false, 0, 0, (⟨#[]⟩ : ByteArray), (⟨#[]⟩ : ByteArray), false, 0, 0, (⟨#[]⟩ : ByteArray), (⟨#[]⟩ : ByteArray), 0, 0, 0, none, 0, 0, 0, 0, false, none, 0, 0, 0, 0, 0, 0, 0, none, 0, 0, 0⟩ fun h_9 =>
 Cl 170 #[.pointer (some ⟨d, 0, none⟩), .pointer t18_0, .pointer (some ⟨b_2, 0, none⟩), .int .u64 draw] h_9 fun v_2 h_10 =>
 v_2 = .tuple #[] ∧
 reply_Reply.LDp h_10 ⟨b_2, 44, none⟩ fun t42 =>
 Cl 171 #[t42.agg] h_10 fun v_3 h_11 =>
 ∃ t43_0_p t43_0_l t43_0_c t43_1, v_3 = .tuple #[.slice t43_0_p t43_0_l t43_0_c, .int .i64 t43_1] ∧
 JoinP (fun h_12 =>
 daemon_Deed.LDp h_12 ⟨b_2, 0, none⟩ fun t58 =>
 daemon_Deed.STp h_12 ⟨b, 0, none⟩ t58 fun h_13 =>
 daemon_Deed.LDp h_13 ⟨b, 0, none⟩ fun r0_2 =>
 R (.tuple #[r0_2.agg, .int .i64 0]) h_13)
 (fun J =>
 ite (t43_1 == 0)
 (  ∃ t51, hcell h_11 ⟨d, 3, none⟩ = some (.pointer t51) ∧
 ∃ t55, hcell h_11 ⟨b_2, 50, none⟩ = some (.int .i64 t55) ∧
 Cl 172 #[.pointer t51, .agg #[.int .i64 n, .slice t43_0_p t43_0_l t43_0_c, .int .i64 t55]] h_11 fun v_4 h_14 =>
 ∃ t57, v_4 = .int .i64 t57 ∧
 Kp h_11 h_14 [(some ⟨b_2, 50, none⟩)] ∧
 J h_14)
 (  J h_11))))) : Cl 102 #[.pointer (some ⟨d, 0, none⟩), .int .i64 n, .int .u64 draw] h R :=
 callsN [(31, .join []), (32, fun _ => .planK (runP 10 0 .done))] hv
theorem conn_New.walk  (hv :
 Cl 234 #[] h fun v h_1 =>
 ∃ t1, v = .pointer t1 ∧
 NewP h_1 (.cells #[.pointer t1, .slice none 0 0, .int .i64 0, .slice none 0 0, .int .i64 0] 353) fun b h_2 =>
 R (.pointer (some ⟨b, 0, none⟩)) h_2) : Cl 163 #[] h R :=
 callsN [] hv
theorem frame_New.walk  (hv :
 NewP h (.cells #[.bool true, .slice none 0 0, .int .i64 0] 442) fun b h_1 =>
 R (.pointer (some ⟨b, 0, none⟩)) h_1) : Cl 234 #[] h R :=
 callsN [] hv

end
section
namespace Num
theorem Tab.of_laid {W : World} {l : List (String × DataW Unit)} {s : String} (hs : Tryz.prog.globalNamed s = some 5) (h : laidMet Tryz.prog l W) (hm : (s, Lib.tabData .u64 Lib.pow10Tab) ∈ l) : Tab W.heap := by
  obtain ⟨g, t, cs, fuel, p, hg, ht, hv, hd⟩ := Lib.laidMet.reads h hm
  have hg : Tryz.prog.globalNamed s = some g := hg
  unfold World.var? at hv
  rw [hg] at hv
  have hv' : (match W.heap[g]? with | some (.cells cs _ _) => some cs | _ => none) = some cs := hv
  cases hh : W.heap[g]? with
  | none => rw [hh] at hv'; cases hv'
  | some o =>
    rw [hh] at hv'
    cases o with
    | cells c ty fz =>
      obtain rfl : c = cs := Option.some.inj hv'
      have eg : g = 5 := Option.some.inj (hg.symm.trans hs)
      subst eg
      refine ⟨ty, fz, ?_⟩
      have htt : t = 314 := by
        have e : (Tryz.prog.globals[(5 : Nat)]?).map (·.type) = some 314 := by kernel_rfl
        exact Option.some.inj (ht.symm.trans e)
      subst htt
      have := Lib.cells_of_tab (n := 20) (e := 62) (by kernel_rfl) (by kernel_rfl) (by kernel_rfl) (by kernel_rfl) hd
      rw [hh, ← this]
    | _ => cases hv'

end Num
end
theorem handed_shaped {H : Type} {enc : TypeId × Value → H} {C : Checked} {os : Os} {f : FuncId} {fn : Func} {s : ChangeSpec} {conds : List PathCond} {apart fresh handsOn again : Bool} {a : Assume} {X : World → Array Value → Prop}
    (hX : ∀ (w w' : World) (args : Array Value), w.heap = w'.heap → X w args → X w' args) (own : ownKnob C.prog.godebug = none) (started : os.Started) (noInit : C.prog.inits.idxOf? f = none) (hfn : C.prog.funcs[f]? = some fn)
    (witness : ∃ (w : World) (tape : Tape) (i : Input), w.os = os ∧ (w.forCall tape i).Shaped C.prog ∧ i.vars = [] ∧ Input.okWide C.prog (w.forCall tape i) .any w.heap.size f i ∧
      ((s.pre enc C.prog fn conds apart (w.forCall tape i).memory i.args ∧ X (w.forCall tape i).memory i.args) ∧ sizedMet enc C.prog fn (OpenSpec.ofChange s) apart (w.forCall tape i).memory i.args) ∧ a.holds C.prog (lone (Frame.enter C.prog f i.args .normal) [] (w.forCall tape i)))
    (con : ∀ (W : World) (base : Nat) (args : Array Value) (ds gs : List (DataW H)) (before : List MemPlace), W.ShapedOpen C.prog → (∀ (j : Nat) t v, fn.params[j]? = some t → args[j]? = some v → Value.okWide C.prog W .any base t v) →
      DataW.Whole enc C.prog fn.params.toList s.vars apart W args.toList ds gs before → X W args → Calls C.prog f args W fun e W' => ∃ v, e = .returned v ∧ s.post enc C.prog fn apart fresh handsOn again W args v W') :
    ReturnsInHanded a C os f .any (fun w args => (s.pre enc C.prog fn conds apart w args ∧ X w args) ∧ sizedMet enc C.prog fn (OpenSpec.ofChange s) apart w args) (s.post enc C.prog fn apart fresh handsOn again) :=
  returnsInHanded_of_calls own started noInit witness fun w tape i _ sh _ ok pre _ => by
    have ⟨_, _, _, g, hg, _, _, _, _, val⟩ := ok
    cases Option.some.inj (hg.symm.trans hfn)
    have ⟨⟨⟨ds, gs, before, hw, _⟩, hx⟩, _⟩ := pre
    refine (con (w.forCall tape i) w.heap.size i.args ds gs before sh val (DataW.Whole.of_heap (by rfl) hw) (hX _ _ _ (by rfl) hx)).mono fun e W' hp => ?_
    obtain ⟨v, rfl, hp⟩ := hp
    exact ChangeSpec.post_blind hp
theorem Num.Mx.of_shaped {W : World} (h : W.ShapedOpen Tryz.prog) : Num.Mx W.heap := by
  obtain ⟨m, hm⟩ := cell_of_shapedOpen_int (g := 0) (t := 3) (zero := #[.int .i64 0]) (k := .i64) h (of_decide_eq_true (by kernel_rfl)) (by kernel_rfl) rfl (by kernel_rfl) (by kernel_rfl) (by kernel_rfl)
  rw [cell_eq] at hm
  exact ⟨m, hm⟩

section
open Go
theorem pin_laid_unicode_utf8_first : Tryz.pinned.checked.prog.pinnedFits "unicode/utf8.first" = true := by kernel_rfl
theorem noOwnUnsafe : Tryz.pinned.checked.prog.headLifts.contains "ownunsafe" = false := by kernel_rfl
theorem fits1 : Tryz.pinned.checked.prog.listedFits [("strconv.ErrSyntax", Rows.laid_strconv_ErrSyntax), ("strconv.ErrRange", Rows.laid_strconv_ErrRange), ("internal/strconv.uint64pow10", Rows.laid_internal_strconv_uint64pow10), ("math/bits.deBruijn32tab", Rows.laid_math_bits_deBruijn32tab), ("math/bits.deBruijn64tab", Rows.laid_math_bits_deBruijn64tab), ("unicode/utf8.first", Rows.laid_unicode_utf8_first), ("unicode/utf8.acceptRanges", Rows.laid_unicode_utf8_acceptRanges)] = true := by
  unfold Program.listedFits
  rw [noOwnUnsafe]
  kernel_rfl
abbrev tieL : List (String × DataW Unit) := [("strconv.ErrSyntax", Rows.laid_strconv_ErrSyntax), ("strconv.ErrRange", Rows.laid_strconv_ErrRange), ("internal/strconv.uint64pow10", Rows.laid_internal_strconv_uint64pow10), ("math/bits.deBruijn32tab", Rows.laid_math_bits_deBruijn32tab), ("math/bits.deBruijn64tab", Rows.laid_math_bits_deBruijn64tab), ("unicode/utf8.acceptRanges", Rows.laid_unicode_utf8_acceptRanges)]
theorem tie1 : Tryz.prog.worded (varsWordLater true) = true := by kernel_rfl
theorem tie2 : Tryz.prog.worded (varsWordLater !true) = false := by kernel_rfl
theorem tie3 : Tryz.prog.worded rootWordLater = true := by kernel_rfl
theorem tie4 : tieL.map (fun x => Tryz.prog.kindOfLater x.1) = ([.sentinel, .sentinel, .data, .data, .data, .data] : List LaidKind).map some := by kernel_rfl
theorem tie5 : (Tryz.prog.funcNamed "gosem.cut.vars").isSome = true := by kernel_rfl
theorem tie6 : varsNamedLaterB Tryz.prog (varsId Tryz.prog) tieL = true := by kernel_rfl
theorem tie7 : ∀ os tape, varsDone Tryz.prog 400 (varsId Tryz.prog) os tape = true := fun _ _ => by kernel_rfl
theorem tie8 : ∀ os tape, (DataW.laidRun Tryz.prog (varsWorld Tryz.prog 400 (varsId Tryz.prog) os tape).memory 8 (tieL.map (·.1))).map (·.1) = some tieL := fun _ _ => by kernel_rfl
theorem tie9 : ∀ os tape, (DataW.laidRun Tryz.prog (varsWorld Tryz.prog 400 (varsId Tryz.prog) os tape).memory 8 (tieL.map (·.1))).map (fun x => decide x.2.Nodup && laidRowsB Tryz.prog (varsWorld Tryz.prog 400 (varsId Tryz.prog) os tape).memory x.2) = some true := fun _ _ => by kernel_rfl
theorem tie : Tryz.prog.laidByTextLater tieL [.sentinel, .sentinel, .data, .data, .data, .data] true :=
  Program.laidByTextLater_by_run 400 8 tie1 tie2 tie3 tie4 tie5 tie6 tie7 tie8 tie9
theorem auditNobody_row_tie : Rows.auditNobodyRow.laidByTextAt .later Tryz.pinned [.sentinel, .sentinel, .data, .data, .data, .pinned, .data] true :=
  OpenClaim.laidByTextAt_pinned rfl rfl tie rfl rfl rfl rfl (fun y hy _e => by
    simp only [Rows.auditNobodyRow, List.zip_cons_cons, List.zip_nil_right, List.mem_cons, List.mem_nil_iff, or_false] at hy
    rcases hy with rfl | rfl | rfl | rfl | rfl | rfl | rfl
    · cases _e
    · cases _e
    · cases _e
    · cases _e
    · cases _e
    · exact ⟨pin_laid_unicode_utf8_first, by kernel_rfl⟩
    · cases _e) fits1

end
section
namespace Num
variable {W:World}
theorem err_of_laid {l : List (String × DataW Unit)} {s nm : String} {d : DataW Unit} {g : Nat} (hs : Tryz.prog.globalNamed s = some g) (ht : (Tryz.prog.globals[g]?).map (·.type) = some 54) (h : laidMet Tryz.prog l W) (hm : (s, .iface nm d) ∈ l) : ∃ v, hcell W.heap ⟨g, 0, none⟩ = some v ∧ isErr v := by
  obtain ⟨g', t, cs, fuel, p, hg, ht', hv, hd⟩ := Lib.laidMet.reads h hm
  obtain rfl : g' = g := Option.some.inj (hg.symm.trans hs)
  have et : t = 54 := Option.some.inj (ht'.symm.trans ht)
  subst et
  have ui : Tryz.prog.underlying 54 = some (.interface ((match Tryz.prog.underlying 54 with | some (.interface ms) => ms | _ => #[]))) := by kernel_rfl
  obtain ⟨fuel', u, v, ec, _, _⟩ := iface_of_trod ui hd
  have c0 := World.var?_cell hg hv 0
  have : cs[0]? = some (.iface u v) := by rw [← Array.getElem?_toList, ec]; rfl
  rw [this] at c0
  exact ⟨_, c0, .inr ⟨u, v, rfl⟩⟩
theorem Er.of (a : ∃ v, hcell W.heap ⟨1, 0, none⟩ = some v ∧ isErr v) (b : ∃ v, hcell W.heap ⟨2, 0, none⟩ = some v ∧ isErr v) : Er W.heap := ⟨a, b⟩

end Num
end
theorem nmAuditNobody_cl : Tryz.checked.prog.closure 4 = (([4,5,6,7,8,9,11,12,17,30,29,42,43,83,84,148,85,149,198,273,274,275,276,277,346,278,213,285,347,408,348,409,358,421,422,423,480,544,567,194] ++ ([349,286,294,287,350,410,295,288,351,227,152,214,289,290,291,245,248,246,319,320,352,411,474,540,412,460,515,68,134,202,135,136,137,203,93,138,204,205,37,70] ++ ([139,71,72,24,38,74,141,142,207,206,208,143,144,209,210,282,283,140,73,94,161,391,247,321,262,353,413,414,406,472,249,354,415,475,416,476,541,380,542,306] ++ ([370,373,371,433,432,375,447,446,448,543,417,434,403,487,490,336,263,334,217,221,218,219,222,265,335,404,471,530,470,522,523,558,524,559,560,525,561,562,575,526] ++ ([527,528,529,405,192,418,477,511,489,338,337,407,473,531,537,566,532,563,533,534,564,565,576,535,536,538,539,547,546,82,339,479,482,427,483,484,545,485,419,478] ++ ([261,355,340,420,356,369,431,193,264,89,300,266,267,268,341,292,357,318,379,220,298,361,425,362,342,299,195,270,269,271,343,344,184,253,322,323,381,454,512,382] ++ ([383,455,384,456,513,556,254,324,385,457,514,386,390,329,398,327,394,387,388,389,458,333,402,469,519,520,521,459,325,392,326,393,396,461,328,395,397,462,463,516] ++ ([255,330,331,400,464,517,465,401,466,518,557,467,468,399,256,185,257,332,258,293,157,229,230,303,364,426,481,365,366,304,368,430,429,367,428,486,305,231,307,308] ++ ([309,176,372,178,196,272,41,345,201,374,435,488,436,437,438,441,449,491,548,492,496,549,568,569,439,493,494,440,442,495,550,497,443,498,499,503,501,500,502,551] ++ ([553,570,571,444,445,504,505,552,171,310,376,450,506,451,507,452,508,510,554,572,573,555,574,509,453,311,377,312,215,150,216,296,359,360,424,297,86,87,88,151] ++ ([90,153,154,155,223,226,301,224,225,228,233,302,363,313,156,91,108,180,158,232,159,92,160,44,18,31,13,19,33,65,66,133,34,67,35,45,46,47,95,48] ++ ([32,50,96,97,162,163,234,49,51,98,164,183,252,235,314,165,114,52,99,166,167,236,250,237,315,316,378,317,238,174,103,173,243,242,175,100,123,189,101,168] ++ ([109,181,54,102,169,197,239,170,240,241,172,53,59,113,55,56,104,105,107,124,125,57,106,177,244,179,251,110,111,58,112,182,60,116,186,115,61,117,62,118] ++ ([63,119,187,128,120,188,259,121,190,200,281,191,260,122,64,126,127,129,131,132,130,199,279,280,14,20,23,36,69,15,16,21,22,25,39,76,75,77,79,145] ++ ([78,81,147,212,146,211,284,80,26,40,27,28,10]))))))))))))))) : List Nat) := by kernel_rfl
theorem nmAuditNobody_0 : ([4,5,6,7,8,9,11,12,17,30,29,42,43,83,84,148,85,149,198,273,274,275,276,277,346,278,213,285,347,408,348,409,358,421,422,423,480,544,567,194] : List Nat).flatMap (fun g => ((Tryz.checked.prog.funcs[g]?).bind (·.body)).elim [] Code.globalsNamed) = [] := by kernel_rfl
theorem nmAuditNobody_1 : ([349,286,294,287,350,410,295,288,351,227,152,214,289,290,291,245,248,246,319,320,352,411,474,540,412,460,515,68,134,202,135,136,137,203,93,138,204,205,37,70] : List Nat).flatMap (fun g => ((Tryz.checked.prog.funcs[g]?).bind (·.body)).elim [] Code.globalsNamed) = [0,0,0,1] := by kernel_rfl
theorem nmAuditNobody_2 : ([139,71,72,24,38,74,141,142,207,206,208,143,144,209,210,282,283,140,73,94,161,391,247,321,262,353,413,414,406,472,249,354,415,475,416,476,541,380,542,306] : List Nat).flatMap (fun g => ((Tryz.checked.prog.funcs[g]?).bind (·.body)).elim [] Code.globalsNamed) = [2,5,6,7] := by kernel_rfl
theorem nmAuditNobody_3 : ([370,373,371,433,432,375,447,446,448,543,417,434,403,487,490,336,263,334,217,221,218,219,222,265,335,404,471,530,470,522,523,558,524,559,560,525,561,562,575,526] : List Nat).flatMap (fun g => ((Tryz.checked.prog.funcs[g]?).bind (·.body)).elim [] Code.globalsNamed) = [] := by kernel_rfl
theorem nmAuditNobody_4 : ([527,528,529,405,192,418,477,511,489,338,337,407,473,531,537,566,532,563,533,534,564,565,576,535,536,538,539,547,546,82,339,479,482,427,483,484,545,485,419,478] : List Nat).flatMap (fun g => ((Tryz.checked.prog.funcs[g]?).bind (·.body)).elim [] Code.globalsNamed) = [] := by kernel_rfl
theorem nmAuditNobody_5 : ([261,355,340,420,356,369,431,193,264,89,300,266,267,268,341,292,357,318,379,220,298,361,425,362,342,299,195,270,269,271,343,344,184,253,322,323,381,454,512,382] : List Nat).flatMap (fun g => ((Tryz.checked.prog.funcs[g]?).bind (·.body)).elim [] Code.globalsNamed) = [] := by kernel_rfl
theorem nmAuditNobody_6 : ([383,455,384,456,513,556,254,324,385,457,514,386,390,329,398,327,394,387,388,389,458,333,402,469,519,520,521,459,325,392,326,393,396,461,328,395,397,462,463,516] : List Nat).flatMap (fun g => ((Tryz.checked.prog.funcs[g]?).bind (·.body)).elim [] Code.globalsNamed) = [3,4] := by kernel_rfl
theorem nmAuditNobody_7 : ([255,330,331,400,464,517,465,401,466,518,557,467,468,399,256,185,257,332,258,293,157,229,230,303,364,426,481,365,366,304,368,430,429,367,428,486,305,231,307,308] : List Nat).flatMap (fun g => ((Tryz.checked.prog.funcs[g]?).bind (·.body)).elim [] Code.globalsNamed) = [] := by kernel_rfl
theorem nmAuditNobody_8 : ([309,176,372,178,196,272,41,345,201,374,435,488,436,437,438,441,449,491,548,492,496,549,568,569,439,493,494,440,442,495,550,497,443,498,499,503,501,500,502,551] : List Nat).flatMap (fun g => ((Tryz.checked.prog.funcs[g]?).bind (·.body)).elim [] Code.globalsNamed) = [] := by kernel_rfl
theorem nmAuditNobody_9 : ([553,570,571,444,445,504,505,552,171,310,376,450,506,451,507,452,508,510,554,572,573,555,574,509,453,311,377,312,215,150,216,296,359,360,424,297,86,87,88,151] : List Nat).flatMap (fun g => ((Tryz.checked.prog.funcs[g]?).bind (·.body)).elim [] Code.globalsNamed) = [] := by kernel_rfl
theorem nmAuditNobody_10 : ([90,153,154,155,223,226,301,224,225,228,233,302,363,313,156,91,108,180,158,232,159,92,160,44,18,31,13,19,33,65,66,133,34,67,35,45,46,47,95,48] : List Nat).flatMap (fun g => ((Tryz.checked.prog.funcs[g]?).bind (·.body)).elim [] Code.globalsNamed) = [3,4] := by kernel_rfl
theorem nmAuditNobody_11 : ([32,50,96,97,162,163,234,49,51,98,164,183,252,235,314,165,114,52,99,166,167,236,250,237,315,316,378,317,238,174,103,173,243,242,175,100,123,189,101,168] : List Nat).flatMap (fun g => ((Tryz.checked.prog.funcs[g]?).bind (·.body)).elim [] Code.globalsNamed) = [] := by kernel_rfl
theorem nmAuditNobody_12 : ([109,181,54,102,169,197,239,170,240,241,172,53,59,113,55,56,104,105,107,124,125,57,106,177,244,179,251,110,111,58,112,182,60,116,186,115,61,117,62,118] : List Nat).flatMap (fun g => ((Tryz.checked.prog.funcs[g]?).bind (·.body)).elim [] Code.globalsNamed) = [] := by kernel_rfl
theorem nmAuditNobody_13 : ([63,119,187,128,120,188,259,121,190,200,281,191,260,122,64,126,127,129,131,132,130,199,279,280,14,20,23,36,69,15,16,21,22,25,39,76,75,77,79,145] : List Nat).flatMap (fun g => ((Tryz.checked.prog.funcs[g]?).bind (·.body)).elim [] Code.globalsNamed) = [] := by kernel_rfl
theorem nmAuditNobody_14 : ([78,81,147,212,146,211,284,80,26,40,27,28,10] : List Nat).flatMap (fun g => ((Tryz.checked.prog.funcs[g]?).bind (·.body)).elim [] Code.globalsNamed) = [] := by kernel_rfl
theorem nmAuditNobody_e : (([4,5,6,7,8,9,11,12,17,30,29,42,43,83,84,148,85,149,198,273,274,275,276,277,346,278,213,285,347,408,348,409,358,421,422,423,480,544,567,194] ++ ([349,286,294,287,350,410,295,288,351,227,152,214,289,290,291,245,248,246,319,320,352,411,474,540,412,460,515,68,134,202,135,136,137,203,93,138,204,205,37,70] ++ ([139,71,72,24,38,74,141,142,207,206,208,143,144,209,210,282,283,140,73,94,161,391,247,321,262,353,413,414,406,472,249,354,415,475,416,476,541,380,542,306] ++ ([370,373,371,433,432,375,447,446,448,543,417,434,403,487,490,336,263,334,217,221,218,219,222,265,335,404,471,530,470,522,523,558,524,559,560,525,561,562,575,526] ++ ([527,528,529,405,192,418,477,511,489,338,337,407,473,531,537,566,532,563,533,534,564,565,576,535,536,538,539,547,546,82,339,479,482,427,483,484,545,485,419,478] ++ ([261,355,340,420,356,369,431,193,264,89,300,266,267,268,341,292,357,318,379,220,298,361,425,362,342,299,195,270,269,271,343,344,184,253,322,323,381,454,512,382] ++ ([383,455,384,456,513,556,254,324,385,457,514,386,390,329,398,327,394,387,388,389,458,333,402,469,519,520,521,459,325,392,326,393,396,461,328,395,397,462,463,516] ++ ([255,330,331,400,464,517,465,401,466,518,557,467,468,399,256,185,257,332,258,293,157,229,230,303,364,426,481,365,366,304,368,430,429,367,428,486,305,231,307,308] ++ ([309,176,372,178,196,272,41,345,201,374,435,488,436,437,438,441,449,491,548,492,496,549,568,569,439,493,494,440,442,495,550,497,443,498,499,503,501,500,502,551] ++ ([553,570,571,444,445,504,505,552,171,310,376,450,506,451,507,452,508,510,554,572,573,555,574,509,453,311,377,312,215,150,216,296,359,360,424,297,86,87,88,151] ++ ([90,153,154,155,223,226,301,224,225,228,233,302,363,313,156,91,108,180,158,232,159,92,160,44,18,31,13,19,33,65,66,133,34,67,35,45,46,47,95,48] ++ ([32,50,96,97,162,163,234,49,51,98,164,183,252,235,314,165,114,52,99,166,167,236,250,237,315,316,378,317,238,174,103,173,243,242,175,100,123,189,101,168] ++ ([109,181,54,102,169,197,239,170,240,241,172,53,59,113,55,56,104,105,107,124,125,57,106,177,244,179,251,110,111,58,112,182,60,116,186,115,61,117,62,118] ++ ([63,119,187,128,120,188,259,121,190,200,281,191,260,122,64,126,127,129,131,132,130,199,279,280,14,20,23,36,69,15,16,21,22,25,39,76,75,77,79,145] ++ ([78,81,147,212,146,211,284,80,26,40,27,28,10]))))))))))))))) : List Nat).filterMap (fun g => (Tryz.checked.prog.funcs[g]?).bind fun fn => if fn.body.isNone then entryReads.lookup fn.name else none) = ["internal/bytealg.MaxLen"] := by kernel_rfl
theorem nmAuditNobody_n : ((([] ++ ([0,0,0,1] ++ ([2,5,6,7] ++ ([] ++ ([] ++ ([] ++ ([3,4] ++ ([] ++ ([] ++ ([] ++ ([3,4] ++ ([] ++ ([] ++ ([] ++ ([]))))))))))))))) : List Nat).eraseDups.filterMap (fun g => (Tryz.checked.prog.globals[g]?).map (·.name)) ++ (["internal/bytealg.MaxLen"] : List String)).eraseDups = Rows.auditNobodyRow.named := by kernel_rfl
theorem cl_named_AuditNobody : (Rows.auditNobodyRow.named == Tryz.checked.prog.varsNamed 4) = true := by
  rw [beq_iff_eq]
  unfold Program.varsNamed
  rw [nmAuditNobody_cl]
  have a : (([4,5,6,7,8,9,11,12,17,30,29,42,43,83,84,148,85,149,198,273,274,275,276,277,346,278,213,285,347,408,348,409,358,421,422,423,480,544,567,194] ++ ([349,286,294,287,350,410,295,288,351,227,152,214,289,290,291,245,248,246,319,320,352,411,474,540,412,460,515,68,134,202,135,136,137,203,93,138,204,205,37,70] ++ ([139,71,72,24,38,74,141,142,207,206,208,143,144,209,210,282,283,140,73,94,161,391,247,321,262,353,413,414,406,472,249,354,415,475,416,476,541,380,542,306] ++ ([370,373,371,433,432,375,447,446,448,543,417,434,403,487,490,336,263,334,217,221,218,219,222,265,335,404,471,530,470,522,523,558,524,559,560,525,561,562,575,526] ++ ([527,528,529,405,192,418,477,511,489,338,337,407,473,531,537,566,532,563,533,534,564,565,576,535,536,538,539,547,546,82,339,479,482,427,483,484,545,485,419,478] ++ ([261,355,340,420,356,369,431,193,264,89,300,266,267,268,341,292,357,318,379,220,298,361,425,362,342,299,195,270,269,271,343,344,184,253,322,323,381,454,512,382] ++ ([383,455,384,456,513,556,254,324,385,457,514,386,390,329,398,327,394,387,388,389,458,333,402,469,519,520,521,459,325,392,326,393,396,461,328,395,397,462,463,516] ++ ([255,330,331,400,464,517,465,401,466,518,557,467,468,399,256,185,257,332,258,293,157,229,230,303,364,426,481,365,366,304,368,430,429,367,428,486,305,231,307,308] ++ ([309,176,372,178,196,272,41,345,201,374,435,488,436,437,438,441,449,491,548,492,496,549,568,569,439,493,494,440,442,495,550,497,443,498,499,503,501,500,502,551] ++ ([553,570,571,444,445,504,505,552,171,310,376,450,506,451,507,452,508,510,554,572,573,555,574,509,453,311,377,312,215,150,216,296,359,360,424,297,86,87,88,151] ++ ([90,153,154,155,223,226,301,224,225,228,233,302,363,313,156,91,108,180,158,232,159,92,160,44,18,31,13,19,33,65,66,133,34,67,35,45,46,47,95,48] ++ ([32,50,96,97,162,163,234,49,51,98,164,183,252,235,314,165,114,52,99,166,167,236,250,237,315,316,378,317,238,174,103,173,243,242,175,100,123,189,101,168] ++ ([109,181,54,102,169,197,239,170,240,241,172,53,59,113,55,56,104,105,107,124,125,57,106,177,244,179,251,110,111,58,112,182,60,116,186,115,61,117,62,118] ++ ([63,119,187,128,120,188,259,121,190,200,281,191,260,122,64,126,127,129,131,132,130,199,279,280,14,20,23,36,69,15,16,21,22,25,39,76,75,77,79,145] ++ ([78,81,147,212,146,211,284,80,26,40,27,28,10]))))))))))))))) : List Nat).flatMap (fun g => ((Tryz.checked.prog.funcs[g]?).bind (·.body)).elim [] Code.globalsNamed) = (([] ++ ([0,0,0,1] ++ ([2,5,6,7] ++ ([] ++ ([] ++ ([] ++ ([3,4] ++ ([] ++ ([] ++ ([] ++ ([3,4] ++ ([] ++ ([] ++ ([] ++ ([]))))))))))))))) : List Nat) := by
    simp only [List.flatMap_append, nmAuditNobody_0, nmAuditNobody_1, nmAuditNobody_2, nmAuditNobody_3, nmAuditNobody_4, nmAuditNobody_5, nmAuditNobody_6, nmAuditNobody_7, nmAuditNobody_8, nmAuditNobody_9, nmAuditNobody_10, nmAuditNobody_11, nmAuditNobody_12, nmAuditNobody_13, nmAuditNobody_14]
  exact ((congrArg (fun l : List Nat => (l.eraseDups.filterMap (fun g => (Tryz.checked.prog.globals[g]?).map (·.name)) ++ _).eraseDups) a).trans ((congrArg (fun l : List String => (_ ++ l).eraseDups) nmAuditNobody_e).trans nmAuditNobody_n)).symm

end Go.Proofs.YticlajoleibdnaaGreatDoor
