/-
  What is proved here: parts of the proof, one behind the other (texts of this work, merged by a program; what the theorem does not use is left out). No condition.
-/
import Derived.Test.YtmoafceggjgecaaGreatDoorProg
import Derived.Shelf.SortM.Plain
import Derived.Shelf.SortM.SortNone
import Derived.Ground.SlgmProg
import Derived.Shelf.Strconv.Itoa4
import Derived.Ground.NamesProg
import Derived.Test.YtmoafceggjgecaaGreatDoorMBoceb
set_option linter.defProp false
set_option maxRecDepth 100000
set_option maxHeartbeats 4000000
namespace Go.Proofs.YtmoafceggjgecaaGreatDoor
open Go.Den
open IntKind (wrap)
open Int (toNat)
section
variable {h:Heap} {R:TyP}
variable {t data_l data_c:Nat} {data_p:TyO} {a b:Int}
theorem regs_New.walk  (hv :
 NewP h (.map #[] 0) fun b h_1 =>
 NewP h_1 (.cells #[.map (some b)] 205) fun b_1 h_2 =>
 R (.pointer (some ⟨b_1, 0, none⟩)) h_2) : Cl 105 #[] h R :=
 callsN [] hv
theorem regs_Table_made.walk (hv :
 ∃ t9, hcell h ⟨t, 0, none⟩ = some (.map t9) ∧
 R (.bool (!t9.isNone)) h) : Cl 98 #[.pointer (some ⟨t, 0, none⟩)] h R :=
 callsN [] hv
theorem regs_Table_All.walk (hv :
 Cl 98 #[.pointer (some ⟨t, 0, none⟩)] h fun v h_1 =>
 ∃ t7, v = .bool t7 ∧
 JoinP (fun (out_p : Option Addr) (out_l out_c : Nat) h_2 =>
 Cl 99 #[.slice out_p out_l out_c, .func (.func 100) #[] #[]] h_2 fun v_1 h_3 =>
 v_1 = .tuple #[] ∧
 R (.slice out_p out_l out_c) h_3)
 (fun J =>
 ite t7
 (  ∃ t11, hcell h_1 ⟨t, 0, none⟩ = some (.map t11) ∧
 Dsz (Instr.range 203 (.map t11)) h_1 fun v_2 h_4 =>
 ∃ (it : Nat), v_2 = .pointer (some ⟨it, 0, none⟩) ∧
 ∃ (I : Option Addr → Nat → Nat → Heap → Prop) (mu : Option Addr → Nat → Nat → Heap → Nat), I none 0 0 h_4 ∧ ∀ out_p_1 out_l_1 out_c_1 h_5, I out_p_1 out_l_1 out_c_1 h_5 →
 Dsz (Instr.next (.pointer (some ⟨it, 0, none⟩)) false 0) h_5 fun v_3 h_6 =>
 (v_3 = .tuple #[.bool false] ∧
 J out_p_1 out_l_1 out_c_1 h_6) ∨
 (  ∃ (t13_k t13_v : Value), v_3 = .tuple #[.bool true, t13_k, t13_v] ∧
 Dsz (Instr.entry (.pointer (some ⟨it, 0, none⟩))) h_6 fun v_4 h_7 =>
 ∃ (t15_k t15_v : Value), v_4 = .tuple #[t15_k, t15_v] ∧
 ∃ t16_0 t16_1 t16_2 t16_3 t16_4 t16_5 t16_6, t15_v = .agg #[.bool t16_0, .int .u64 t16_1, .int .u64 t16_2, .string t16_3, .string t16_4, .int .i64 t16_5, .int .i64 t16_6] ∧
 NewP h_7 (.cells #[.bool false, .int .u64 0, .int .u64 0, .string (⟨#[]⟩ : ByteArray), .string (⟨#[]⟩ : ByteArray), .int .i64 0, .int .i64 0] 153) fun b h_8 =>
 regs_Reg.ST h_8 ⟨b, 0, none⟩ t16_0 t16_1 t16_2 t16_3 t16_4 t16_5 t16_6 fun h_9 =>
 regs_Reg.LD h_9 ⟨b, 0, none⟩ fun t18_0 t18_1 t18_2 t18_3 t18_4 t18_5 t18_6 =>
 NewP h_9 (.cells #[.bool t18_0, .int .u64 t18_1, .int .u64 t18_2, .string t18_3, .string t18_4, .int .i64 t18_5, .int .i64 t18_6] 153) fun b_1 h_10 =>
 Dsz (Builtin.append_ #[150, 150] 150 #[.slice out_p_1 out_l_1 out_c_1, .slice (some ⟨b_1, 0, none⟩) 1 1]) h_10 fun v_5 h_11 =>
 ∃ t20_p t20_l t20_c, v_5 = .slice t20_p t20_l t20_c ∧
 (I t20_p t20_l t20_c h_11 ∧ mu t20_p t20_l t20_c h_11 < mu out_p_1 out_l_1 out_c_1 h_5)))
 (  J none 0 0 h_1))) : Cl 61 #[.pointer (some ⟨t, 0, none⟩)] h R :=
 callsN [(7, .join [(3, sS)]), (11, .loop [(3, sS)]), (20, fun _ => .typed [(16, .agg [.bool, .int .u64, .int .u64, .str, .str, .int .i64, .int .i64])])] hv
theorem regs_Table_All_1.walk {a_0 : Bool} {a_1 : Int} {a_2 : Int} {a_3 : ByteArray} {a_4 : ByteArray} {a_5 : Int} {a_6 : Int} {b_0 : Bool} {b_1 : Int} {b_2 : Int} {b_3 : ByteArray} {b_4 : ByteArray} {b_5 : Int} {b_6 : Int} (hv :
 NewP h (.cells #[.bool a_0, .int .u64 a_1, .int .u64 a_2, .string a_3, .string a_4, .int .i64 a_5, .int .i64 a_6] 153) fun b h_1 =>
 NewP h_1 (.cells #[.bool b_0, .int .u64 b_1, .int .u64 b_2, .string b_3, .string b_4, .int .i64 b_5, .int .i64 b_6] 153) fun b_1 h_2 =>
 eid_Eid.LD h_2 ⟨b, 0, none⟩ fun t6_0 t6_1 t6_2 t6_3 t6_4 =>
 eid_Eid.LD h_2 ⟨b_1, 0, none⟩ fun t8_0 t8_1 t8_2 t8_3 t8_4 =>
 Cl 101 #[.agg #[.bool t6_0, .int .u64 t6_1, .int .u64 t6_2, .string t6_3, .string t6_4], .agg #[.bool t8_0, .int .u64 t8_1, .int .u64 t8_2, .string t8_3, .string t8_4]] h_2 fun v h_3 =>
 ∃ t9, v = .bool t9 ∧
 ite t9
 (  R (.int .i64 (-1)) h_3)
 (  R (.int .i64 1) h_3)) : Cl 100 #[.agg #[.bool a_0, .int .u64 a_1, .int .u64 a_2, .string a_3, .string a_4, .int .i64 a_5, .int .i64 a_6], .agg #[.bool b_0, .int .u64 b_1, .int .u64 b_2, .string b_3, .string b_4, .int .i64 b_5, .int .i64 b_6]] h R :=
 callsN [] hv
theorem slices_SortFunc_s_regs_Reg_regs_Reg.reg.walk {x_p : Option Addr} {x_l x_c : Nat} (hv :
 Cl 56 #[.int .u64 (IntKind.wrap .u64 ((x_l : Nat) : Int))] h fun v h_1 =>
 ∃ t11, v = .int .i64 t11 ∧
 Cl 149 #[.slice x_p x_l x_c, .int .i64 0, .int .i64 ((x_l : Nat) : Int), .int .i64 t11, .func (.func 100) #[] #[]] h_1 fun v_1 h_2 =>
 v_1 = .tuple #[] ∧
 R (.tuple #[]) h_2) : Cl 99 #[.slice x_p x_l x_c, .func (.func 100) #[] #[]] h R :=
 callsN [] hv
theorem slices_pdqsortCmpFunc_regs_Reg.reg.walk {limit : Int} (hv :
 ∃ (I : Int → Int → Int → Bool → Bool → Heap → Prop) (mu : Int → Int → Int → Bool → Bool → Heap → Nat), I a b limit true true h ∧ ∀ a_1 b_1 limit_1 wasBalanced wasPartitioned h_1, I a_1 b_1 limit_1 wasBalanced wasPartitioned h_1 →
 JoinP (fun (a_2 : Int) (b_2 : Int) (limit_2 : Int) (wasBalanced_1 : Bool) (wasPartitioned_1 : Bool) h_2 =>
 (I a_2 b_2 limit_2 wasBalanced_1 wasPartitioned_1 h_2 ∧ mu a_2 b_2 limit_2 wasBalanced_1 wasPartitioned_1 h_2 < mu a_1 b_1 limit_1 wasBalanced wasPartitioned h_1))
 (fun J =>
 ite (decide ((IntKind.wrap .i64 (b_1 - a_1)) ≤ 12))
 (  Cl 201 #[.slice data_p data_l data_c, .int .i64 a_1, .int .i64 b_1, .func (.func 100) #[] #[]] h_1 fun v h_3 =>
 v = .tuple #[] ∧
 R (.tuple #[]) h_3)
 (  ite (limit_1 == 0)
 (  Cl 202 #[.slice data_p data_l data_c, .int .i64 a_1, .int .i64 b_1, .func (.func 100) #[] #[]] h_1 fun v_1 h_4 =>
 v_1 = .tuple #[] ∧
 R (.tuple #[]) h_4)
 (  JoinP (fun (limit_3 : Int) h_5 =>
 Cl 204 #[.slice data_p data_l data_c, .int .i64 a_1, .int .i64 b_1, .func (.func 100) #[] #[]] h_5 fun v_2 h_6 =>
 ∃ t52_0 t52_1, v_2 = .tuple #[.int .i64 t52_0, .int .i64 t52_1] ∧
 JoinP (fun (pivot : Int) (hint : Int) h_7 =>
 JoinP (fun (t75 : Bool) h_8 =>
 JoinP (fun h_9 =>
 JoinP (fun (t97 : Bool) h_10 =>
 ite t97
 (  Cl 207 #[.slice data_p data_l data_c, .int .i64 a_1, .int .i64 b_1, .int .i64 pivot, .func (.func 100) #[] #[]] h_10 fun v_3 h_11 =>
 ∃ t103, v_3 = .int .i64 t103 ∧
 J t103 b_1 limit_3 wasBalanced wasPartitioned h_11)
 (  Cl 208 #[.slice data_p data_l data_c, .int .i64 a_1, .int .i64 b_1, .int .i64 pivot, .func (.func 100) #[] #[]] h_10 fun v_4 h_12 =>
 ∃ t111_0 t111_1, v_4 = .tuple #[.int .i64 t111_0, .bool t111_1] ∧
 JoinP (fun (a_3 : Int) (b_3 : Int) (wasBalanced_2 : Bool) h_13 =>
 J a_3 b_3 limit_3 wasBalanced_2 t111_1 h_13)
 (fun J_6 =>
 ite (decide ((IntKind.wrap .i64 (t111_0 - a_1)) < (IntKind.wrap .i64 (b_1 - t111_0))))
 (  Cl 149 #[.slice data_p data_l data_c, .int .i64 a_1, .int .i64 t111_0, .int .i64 limit_3, .func (.func 100) #[] #[]] h_12 fun v_5 h_14 =>
 v_5 = .tuple #[] ∧
 J_6 (IntKind.wrap .i64 (t111_0 + 1)) b_1 (decide ((IntKind.wrap .i64 (t111_0 - a_1)) ≥ (IntKind.wrap .i64 (Int.tdiv (IntKind.wrap .i64 (b_1 - a_1)) 8)))) h_14)
 (  Cl 149 #[.slice data_p data_l data_c, .int .i64 (IntKind.wrap .i64 (t111_0 + 1)), .int .i64 b_1, .int .i64 limit_3, .func (.func 100) #[] #[]] h_12 fun v_6 h_15 =>
 v_6 = .tuple #[] ∧
 J_6 a_1 t111_0 (decide ((IntKind.wrap .i64 (b_1 - t111_0)) ≥ (IntKind.wrap .i64 (Int.tdiv (IntKind.wrap .i64 (b_1 - a_1)) 8)))) h_15))))
 (fun J_5 =>
 ite (decide (a_1 > 0))
 (  ((0 : Int) ≤ IntKind.wrap .i64 (a_1 - 1) ∧ IntKind.wrap .i64 (a_1 - 1) < ((data_l : Nat) : Int)) ∧
 onSome data_p fun a_4 =>
 regs_Reg.LD h_9 (a_4.add (Int.toNat (IntKind.wrap .i64 (a_1 - 1)) * 7)) fun t89_0 t89_1 t89_2 t89_3 t89_4 t89_5 t89_6 =>
 ((0 : Int) ≤ pivot ∧ pivot < ((data_l : Nat) : Int)) ∧
 onSome data_p fun a_5 =>
 regs_Reg.LD h_9 (a_5.add (Int.toNat pivot * 7)) fun t93_0 t93_1 t93_2 t93_3 t93_4 t93_5 t93_6 =>
 Cl 100 #[.agg #[.bool t89_0, .int .u64 t89_1, .int .u64 t89_2, .string t89_3, .string t89_4, .int .i64 t89_5, .int .i64 t89_6], .agg #[.bool t93_0, .int .u64 t93_1, .int .u64 t93_2, .string t93_3, .string t93_4, .int .i64 t93_5, .int .i64 t93_6]] h_9 fun v_7 h_16 =>
 ∃ t94, v_7 = .int .i64 t94 ∧
 J_5 (!(decide (t94 < 0))) h_16)
 (  J_5 false h_9)))
 (fun J_4 =>
 ite t75
 (  Cl 206 #[.slice data_p data_l data_c, .int .i64 a_1, .int .i64 b_1, .func (.func 100) #[] #[]] h_8 fun v_8 h_17 =>
 ∃ t80, v_8 = .bool t80 ∧
 ite t80
 (  R (.tuple #[]) h_17)
 (  J_4 h_17))
 (  J_4 h_8)))
 (fun J_3 =>
 ite wasBalanced
 (  ite wasPartitioned
 (  J_3 (hint == 1) h_7)
 (  J_3 false h_7))
 (  J_3 false h_7)))
 (fun J_2 =>
 ite (t52_1 == 2)
 (  Cl 205 #[.slice data_p data_l data_c, .int .i64 a_1, .int .i64 b_1, .func (.func 100) #[] #[]] h_6 fun v_9 h_18 =>
 v_9 = .tuple #[] ∧
 J_2 (IntKind.wrap .i64 ((IntKind.wrap .i64 (b_1 - 1)) - (IntKind.wrap .i64 (t52_0 - a_1)))) 1 h_18)
 (  J_2 t52_0 t52_1 h_6)))
 (fun J_1 =>
 ite (!wasBalanced)
 (  Cl 203 #[.slice data_p data_l data_c, .int .i64 a_1, .int .i64 b_1, .func (.func 100) #[] #[]] h_1 fun v_10 h_19 =>
 v_10 = .tuple #[] ∧
 J_1 (IntKind.wrap .i64 (limit_1 - 1)) h_19)
 (  J_1 limit_1 h_1)))))) : Cl 149 #[.slice data_p data_l data_c, .int .i64 a, .int .i64 b, .int .i64 limit, .func (.func 100) #[] #[]] h R :=
 callsN [(5, .loop [(1, sI), (2, sI), (3, sI), (10, sB), (11, sB)]), (6, .join [(1, sI), (2, sI), (3, sI), (10, sB), (11, sB)]), (28, .join [(3, sI)]), (38, .join [(13, sI), (14, sI)]), (47, .join [(75, sB)]), (48, .join []), (57, .join [(97, sB)]), (57, fun _ => .plan (opL [0,1,2,3,4,5,6,7,8,9,10,11,12,13,14,15,16] .done)), (75, .join [(1, sI), (2, sI), (10, sB)])] hv
theorem slices_insertionSortCmpFunc_regs_Reg.reg.walk (hv :
 ∃ (I : Int → Heap → Prop) (mu : Int → Heap → Nat), I (IntKind.wrap .i64 (a + 1)) h ∧ ∀ i h_1, I i h_1 →
 ite (decide (i < b))
 (  ∃ (I_1 : Int → Heap → Prop) (mu_1 : Int → Heap → Nat), I_1 i h_1 ∧ ∀ j h_2, I_1 j h_2 →
 JoinP (fun (t34 : Bool) h_3 =>
 ite t34
 (  ((0 : Int) ≤ IntKind.wrap .i64 (j - 1) ∧ IntKind.wrap .i64 (j - 1) < ((data_l : Nat) : Int)) ∧
 onSome data_p fun a_1 =>
 regs_Reg.LD h_3 (a_1.add (Int.toNat (IntKind.wrap .i64 (j - 1)) * 7)) fun t46_0 t46_1 t46_2 t46_3 t46_4 t46_5 t46_6 =>
 ((0 : Int) ≤ j ∧ j < ((data_l : Nat) : Int)) ∧
 onSome data_p fun a_2 =>
 regs_Reg.LD h_3 (a_2.add (Int.toNat j * 7)) fun t50_0 t50_1 t50_2 t50_3 t50_4 t50_5 t50_6 =>
 ((0 : Int) ≤ j ∧ j < ((data_l : Nat) : Int)) ∧
 onSome data_p fun a_3 =>
 regs_Reg.ST h_3 (a_3.add (Int.toNat j * 7)) t46_0 t46_1 t46_2 t46_3 t46_4 t46_5 t46_6 fun h_4 =>
 ((0 : Int) ≤ IntKind.wrap .i64 (j - 1) ∧ IntKind.wrap .i64 (j - 1) < ((data_l : Nat) : Int)) ∧
 onSome data_p fun a_4 =>
 regs_Reg.ST h_4 (a_4.add (Int.toNat (IntKind.wrap .i64 (j - 1)) * 7)) t50_0 t50_1 t50_2 t50_3 t50_4 t50_5 t50_6 fun h_5 =>
 (I_1 (IntKind.wrap .i64 (j - 1)) h_5 ∧ mu_1 (IntKind.wrap .i64 (j - 1)) h_5 < mu_1 j h_2))
 (  (I (IntKind.wrap .i64 (i + 1)) h_3 ∧ mu (IntKind.wrap .i64 (i + 1)) h_3 < mu i h_1)))
 (fun J =>
 ite (decide (j > a))
 (  ((0 : Int) ≤ j ∧ j < ((data_l : Nat) : Int)) ∧
 onSome data_p fun a_5 =>
 regs_Reg.LD h_2 (a_5.add (Int.toNat j * 7)) fun t26_0 t26_1 t26_2 t26_3 t26_4 t26_5 t26_6 =>
 ((0 : Int) ≤ IntKind.wrap .i64 (j - 1) ∧ IntKind.wrap .i64 (j - 1) < ((data_l : Nat) : Int)) ∧
 onSome data_p fun a_6 =>
 regs_Reg.LD h_2 (a_6.add (Int.toNat (IntKind.wrap .i64 (j - 1)) * 7)) fun t31_0 t31_1 t31_2 t31_3 t31_4 t31_5 t31_6 =>
 Cl 100 #[.agg #[.bool t26_0, .int .u64 t26_1, .int .u64 t26_2, .string t26_3, .string t26_4, .int .i64 t26_5, .int .i64 t26_6], .agg #[.bool t31_0, .int .u64 t31_1, .int .u64 t31_2, .string t31_3, .string t31_4, .int .i64 t31_5, .int .i64 t31_6]] h_2 fun v h_6 =>
 ∃ t32, v = .int .i64 t32 ∧
 J (decide (t32 < 0)) h_6)
 (  J false h_2)))
 (  R (.tuple #[]) h_1)) : Cl 201 #[.slice data_p data_l data_c, .int .i64 a, .int .i64 b, .func (.func 100) #[] #[]] h R :=
 callsN [(3, .loop [(8, sI)]), (15, .loop [(9, sI)]), (18, .join [(34, sB)]), (18, fun _ => .plan (opL [0,1,2,3,4,5,6,7,8,9,10,11,12,13,14,15,16] .done)), (24, fun _ => .plan (opL [0,1,2,3,4,5,6,7,8,9,10,11,12,13,14,15,16,17] .done))] hv

end
section
namespace Regs
open Eid
variable {h h':Heap} {R:TyP} {b:Nat} {X:Ft}
structure Rg where
  e : Ev
  pol : Int
  own : Int
abbrev Rg.zero : Rg := ⟨.zero, 0, 0⟩
abbrev Rg.val (r : Rg) : Value := .agg #[.bool r.e.ipn, .int .u64 r.e.node, .int .u64 r.e.svc, .string r.e.host, .string r.e.dem, .int .i64 r.pol, .int .i64 r.own]
abbrev Rg.at (h : Heap) (b : Nat) (r : Rg) : Prop := regs_Reg.at h b r.e.ipn r.e.node r.e.svc r.e.host r.e.dem r.pol r.own
abbrev genc (r : Rg) : List Value := [.bool r.e.ipn, .int .u64 r.e.node, .int .u64 r.e.svc, .string r.e.host, .string r.e.dem, .int .i64 r.pol, .int .i64 r.own]
theorem genc_len (r : Rg) : (genc r).length = 7 := rfl
abbrev Rg.pair (r : Rg) : Ev × Value := (r.e, r.val)
abbrev rless (x y : Rg) : Prop := lessE x.e y.e = true
theorem mapTy : MapKy Tryz.prog 203 ev5 Rg.zero.val := MapKy.of 34 153 (by kernel_rfl) key (by kernel_rfl)
structure Tbm (h : Heap) (b : Nat) (X : Ft) (L : List Rg) (m : Nat) : Prop where
  blk : h[b]? = some (.cells #[.map (some m)] 205 (0, 0))
  map : MapP h m ev5 (L.map Rg.pair)
  fm : ∀ c, X.M c ↔ c = b ∨ c = m
  d : ∀ c, ¬ X.D c
  ne : b ≠ m
  so : L.Pairwise rless
def Tb (h : Heap) (b : Nat) (X : Ft) (L : List Rg) : Prop := ∃ m, Tbm h b X L m
variable {L : List Rg} {m : Nat}
theorem Tbm.frame {Q : Nat → Prop} (H : Tbm h b X L m) (f : Fr Q h h') (hq : ∀ y, X.M y ∨ X.D y → ¬ Q y) : Tbm h' b X L m :=
  ⟨f.get H.blk (hq b (.inl ((H.fm b).2 (.inl rfl)))), H.map.frame f (hq m (.inl ((H.fm m).2 (.inr rfl)))), H.fm, H.d, H.ne, H.so⟩
theorem Tb.frame {Q : Nat → Prop} (H : Tb h b X L) (f : Fr Q h h') (hq : ∀ y, X.M y ∨ X.D y → ¬ Q y) : Tb h' b X L := by
  have ⟨m, H⟩ := H; exact ⟨m, H.frame f hq⟩
theorem Tb.on (H : Tb h b X L) (f : Fr No h h') : Tb h' b X L := H.frame f (fun _ _ => id)
theorem Tb.lt (H : Tb h b X L) (y : Nat) (hy : X.M y ∨ X.D y) : y < h.size := by
  have ⟨m, H⟩ := H
  rcases hy with hy | hy
  · rcases (H.fm y).1 hy with rfl | rfl
    · exact lt_of_get H.blk
    · exact H.map.lt
  · exact absurd hy (H.d y)
def findR (L : List Rg) (x : Ev) : Option Rg := L.find? (fun r => decide (r.e = x))
def rightR (r : Rg) : Bool := rightE r.e && (!decide (r.e = Ev.zero) && (decide (r.pol ≥ 0) && decide (r.pol ≤ 2) && (decide (r.own ≥ 1) && decide (r.own ≤ 1099511627776))))
def addE (L : List Rg) (r : Rg) : Int := if rightR r = false then 1 else if (findR L r.e).isSome = true then 11 else if L.length ≥ 8 then 15 else 0
theorem made_ok (H : Tbm h b X L m) (hk : R (.bool true) h) : Cl 98 #[.pointer (some ⟨b, 0, none⟩)] h R := regs_Table_made.walk ⟨_, cell_at H.blk rfl, hk⟩
theorem new_ok (hk : ∀ h' b X, Tb h' b X [] → UpF h X h' → R (.pointer (some ⟨b, 0, none⟩)) h') : Cl 105 #[] h R := by
  refine regs_New.walk (newP_of (newP_of ?_))
  have f1 : Fr No h (h.push (.map #[] 0)) := Fr.push _ _
  have M1 := MapP.push h ev5
  have z1 : (h.push (.map #[] 0)).size = h.size + 1 := Array.size_push _
  generalize h.push (.map #[] 0) = h1 at f1 M1 z1 ⊢
  have f2 : Fr No h1 (h1.push (.cells #[.map (some h.size)] 205)) := Fr.push _ _
  refine hk _ h1.size ⟨fun c => c = h1.size ∨ c = h.size, fun _ => False⟩ ⟨h.size, push_new, M1.frame f2 id, fun c => Iff.rfl, fun _ => id, by omega, .nil⟩ ⟨f1.tt f2, fun c hc => ?_⟩
  rcases hc with hc | hc
  · omega
  · grind
theorem ld_e {g : Heap} {b : Nat} {r : Rg} {K : Bool → Int → Int → ByteArray → ByteArray → Prop} (hg : r.at g b) (hk : K r.e.ipn r.e.node r.e.svc r.e.host r.e.dem) : eid_Eid.LD g ⟨b, 0, none⟩ K :=
  ⟨_, cell_at hg rfl, _, cell_at hg rfl, _, cell_at hg rfl, _, cell_at hg rfl, _, cell_at hg rfl, hk⟩
theorem keys_nodup {L : List Rg} (so : L.Pairwise rless) : (L.map Rg.e).Nodup := by
  unfold List.Nodup
  rw [List.pairwise_map]
  refine so.imp fun {x y} hxy e => ?_
  rw [rless, e, less_irrefl] at hxy; cases hxy
end Regs
end
section
variable {h:Heap} {R:TyP}
variable {t:Nat}
theorem copies_New.walk  (hv :
 NewP h (.map #[] 0) fun b h_1 =>
 Cl 151 #[] h_1 fun v h_2 =>
 ∃ t2, v = .pointer t2 ∧
 Cl 151 #[] h_2 fun v_1 h_3 =>
 ∃ t3, v_1 = .pointer t3 ∧
 NewP h_3 (.cells #[.map (some b), .int .i64 1, .int .i64 0, .int .i64 0, .int .i64 0, .pointer t2, .pointer t3] 158) fun b_1 h_4 =>
 R (.pointer (some ⟨b_1, 0, none⟩)) h_4) : Cl 106 #[] h R :=
 callsN [] hv
theorem copies_Table_made.walk (hv :
 ∃ t9, hcell h ⟨t, 0, none⟩ = some (.map t9) ∧
 R (.bool (!t9.isNone)) h) : Cl 63 #[.pointer (some ⟨t, 0, none⟩)] h R :=
 callsN [] hv
theorem copies_Table_numbers.walk (hv :
 Cl 63 #[.pointer (some ⟨t, 0, none⟩)] h fun v h_1 =>
 ∃ t6, v = .bool t6 ∧
 JoinP (fun (out_p : Option Addr) (out_l out_c : Nat) h_2 =>
 Cl 27 #[.slice out_p out_l out_c] h_2 fun v_1 h_3 =>
 v_1 = .tuple #[] ∧
 R (.slice out_p out_l out_c) h_3)
 (fun J =>
 ite t6
 (  ∃ t10, hcell h_1 ⟨t, 0, none⟩ = some (.map t10) ∧
 Dsz (Instr.range 155 (.map t10)) h_1 fun v_2 h_4 =>
 ∃ (it : Nat), v_2 = .pointer (some ⟨it, 0, none⟩) ∧
 ∃ (I : Option Addr → Nat → Nat → Heap → Prop) (mu : Option Addr → Nat → Nat → Heap → Nat), I none 0 0 h_4 ∧ ∀ out_p_1 out_l_1 out_c_1 h_5, I out_p_1 out_l_1 out_c_1 h_5 →
 Dsz (Instr.next (.pointer (some ⟨it, 0, none⟩)) false 0) h_5 fun v_3 h_6 =>
 (v_3 = .tuple #[.bool false] ∧
 J out_p_1 out_l_1 out_c_1 h_6) ∨
 (  ∃ (t12_k t12_v : Value), v_3 = .tuple #[.bool true, t12_k, t12_v] ∧
 Dsz (Instr.entry (.pointer (some ⟨it, 0, none⟩))) h_6 fun v_4 h_7 =>
 ∃ (t14_k t14_v : Value), v_4 = .tuple #[t14_k, t14_v] ∧
 ∃ t15, t14_k = .int .i64 t15 ∧
 NewP h_7 (.cells #[.int .i64 t15] 3) fun b h_8 =>
 Dsz (Builtin.append_ #[39, 39] 39 #[.slice out_p_1 out_l_1 out_c_1, .slice (some ⟨b, 0, none⟩) 1 1]) h_8 fun v_5 h_9 =>
 ∃ t19_p t19_l t19_c, v_5 = .slice t19_p t19_l t19_c ∧
 (I t19_p t19_l t19_c h_9 ∧ mu t19_p t19_l t19_c h_9 < mu out_p_1 out_l_1 out_c_1 h_5)))
 (  J none 0 0 h_1))) : Cl 64 #[.pointer (some ⟨t, 0, none⟩)] h R :=
 callsN [(7, .join [(3, sS)]), (11, .loop [(3, sS)]), (20, fun _ => .typed [(15, sI)])] hv

end
section
open Go.Heapq
namespace Cps
open Eid Alarm
variable {h h':Heap} {t:Nat} {X:Ft}
structure Cp where
  num : Nat
  e : Ev
  d : List UInt8
  till : Nat
  ses : Int
  dl : Nat
structure CV where
  num : Nat
  b : Nat
  e : Ev
  v : BV
  till : Nat
  ses : Int
  dl : Nat
def CV.abs (x : CV) : Cp := ⟨x.num, x.e, x.v.b, x.till, x.ses, x.dl⟩
abbrev CV.at (h : Heap) (b : Nat) (x : CV) : Prop := copies_Copy.at h b (x.num : Int) x.e.ipn x.e.node x.e.svc x.e.host x.e.dem x.v.p x.v.b.length x.v.c (x.till : Int) x.ses (x.dl : Int)
structure CF where
  L : List Cp
  next : Nat
  acked : Nat
  over : Nat
  gone : Nat
  E1 : List E
  E2 : List E
abbrev ienc (n : Int) : Value := .int .i64 n
theorem ikey : KeyOk Tryz.prog 3 ienc := ⟨fun a b h => by kernel_rfl, fun e a h => by kernel_rfl, by
  have hu : Tryz.prog.underlying 3 = some (.int .i64) := by kernel_rfl
  exact ⟨_, hu, fun a b => .inr rfl⟩, fun a => by simp [Instr.sameBits]⟩
theorem mapTy : MapKy Tryz.prog 155 ienc (.pointer none) := MapKy.of 3 160 (by kernel_rfl) ikey (by kernel_rfl)
abbrev CV.pair (x : CV) : Int × Value := ((x.num : Int), .pointer (some ⟨x.b, 0, none⟩))
structure Cm (h : Heap) (t : Nat) (X : Ft) (s : CF) (m : Nat) (xs : List CV) (a1 : Nat) (S1 : Nat → Prop) (a2 : Nat) (S2 : Nat → Prop) (lab : Nat → Option Nat) : Prop where
  blk : h[t]? = some (.cells #[.map (some m), .int .i64 (s.next : Int), .int .i64 (s.acked : Int), .int .i64 (s.over : Int), .int .i64 (s.gone : Int), .pointer (some ⟨a1, 0, none⟩), .pointer (some ⟨a2, 0, none⟩)] 158 (0, 0))
  map : MapP h m ienc (xs.map CV.pair)
  cps : ∀ x ∈ xs, x.at h x.b
  abs : xs.map CV.abs = s.L
  dat : ∀ x ∈ xs, x.v.ok h X.D
  al1 : Al h a1 S1 s.E1
  al2 : Al h a2 S2 s.E2
  l0 : lab t = some 0
  l1 : lab m = some 1
  l2 : ∀ c, S1 c → lab c = some 2
  l3 : ∀ c, S2 c → lab c = some 3
  l4 : ∀ x ∈ xs, lab x.b = some (4 + x.num)
  mm : ∀ c, X.M c ↔ lab c ≠ none
  dd : ∀ c, X.D c → lab c = none ∧ c < h.size
  lsz : ∀ c, lab c ≠ none → c < h.size
  so : (xs.map CV.num).Pairwise (· < ·)
def Ct (h : Heap) (t : Nat) (X : Ft) (s : CF) : Prop := ∃ m xs a1 S1 a2 S2 lab, Cm h t X s m xs a1 S1 a2 S2 lab
variable {s s' : CF} {m a1 a2 : Nat} {xs : List CV} {S1 S2 S1' S2' : Nat → Prop} {lab : Nat → Option Nat}
theorem Cm.frame {Q : Nat → Prop} (H : Cm h t X s m xs a1 S1 a2 S2 lab) (f : Fr Q h h') (hq : ∀ y, X.M y ∨ X.D y → ¬ Q y) : Cm h' t X s m xs a1 S1 a2 S2 lab := by
  have no : ∀ {c j : Nat}, lab c = some j → ¬ Q c := fun hl => hq _ (.inl ((H.mm _).2 (by grind)))
  exact ⟨f.get H.blk (no H.l0), H.map.frame f (no H.l1), fun x hx => f.get (H.cps x hx) (no (H.l4 x hx)), H.abs, fun x hx => (H.dat x hx).frame f (fun c hc => hq c (.inr hc)),
    H.al1.frame f (fun c hc => no (H.l2 c hc)), H.al2.frame f (fun c hc => no (H.l3 c hc)), H.l0, H.l1, H.l2, H.l3, H.l4, H.mm, fun c hc => ⟨(H.dd c hc).1, Nat.lt_of_lt_of_le (H.dd c hc).2 f.1⟩, fun c hc => Nat.lt_of_lt_of_le (H.lsz c hc) f.1, H.so⟩
theorem Cm.on (H : Cm h t X s m xs a1 S1 a2 S2 lab) (f : Fr No h h') : Cm h' t X s m xs a1 S1 a2 S2 lab := H.frame f (fun _ _ => id)
theorem Ct.frame {Q : Nat → Prop} (H : Ct h t X s) (f : Fr Q h h') (hq : ∀ y, X.M y ∨ X.D y → ¬ Q y) : Ct h' t X s := by
  have ⟨m, xs, a1, S1, a2, S2, lab, H⟩ := H; exact ⟨m, xs, a1, S1, a2, S2, lab, H.frame f hq⟩
theorem Ct.on (H : Ct h t X s) (f : Fr No h h') : Ct h' t X s := H.frame f (fun _ _ => id)
theorem Ct.lt (H : Ct h t X s) (y : Nat) (hy : X.M y ∨ X.D y) : y < h.size := by
  have ⟨m, xs, a1, S1, a2, S2, lab, H⟩ := H
  rcases hy with hy | hy
  · exact H.lsz y ((H.mm y).1 hy)
  · exact (H.dd y hy).2
end Cps
end
end Go.Proofs.YtmoafceggjgecaaGreatDoor
namespace Go.Proofs
open Go.Den
open IntKind (wrap)
open Int (toNat)
section
open Go.Shelf
def Tryz.laysS_ren : Go.Shelf.Ren := ⟨fun | 5 => 27 | 8 => 56 | 7 => 55 | 19 => 95 | 20 => 96 | 10 => 86 | 11 => 87 | 12 => 88 | 13 => 89 | 14 => 90 | 15 => 91 | 16 => 92 | 17 => 93 | 18 => 94 | 30 => 139 | 31 => 140 | 32 => 141 | 33 => 142 | 34 => 143 | 35 => 144 | 40 => 196 | n => n, fun | 23 => 39 | 25 => 3 | 3 => 3 | 32 => 135 | 22 => 39 | 0 => 0 | 44 => 201 | 46 => 32 | 4 => 4 | 36 => 193 | 35 => 192 | 41 => 198 | 5 => 5 | 9 => 9 | 53 => 252 | 57 => 255 | 63 => 314 | 64 => 241 | n => n, fun | n => n⟩
theorem Tryz.laysS : Go.Proofs.SlLaysM.n5 Tryz.prog Tryz.laysS_ren := by
  constructor; kernel_rfl; exact ⟨Tryz.f27.name, by decide, by kernel_rfl⟩; exact ⟨Tryz.f55.name, by decide, by kernel_rfl⟩; kernel_rfl; exact ⟨Tryz.f86.name, by decide, by kernel_rfl⟩; exact ⟨Tryz.f87.name, by decide, by kernel_rfl⟩; exact ⟨Tryz.f88.name, by decide, by kernel_rfl⟩; exact ⟨Tryz.f89.name, by decide, by kernel_rfl⟩; exact ⟨Tryz.f90.name, by decide, by kernel_rfl⟩; exact ⟨Tryz.f91.name, by decide, by kernel_rfl⟩; exact ⟨Tryz.f92.name, by decide, by kernel_rfl⟩; exact ⟨Tryz.f93.name, by decide, by kernel_rfl⟩; exact ⟨Tryz.f94.name, by decide, by kernel_rfl⟩; kernel_rfl; kernel_rfl; exact ⟨Tryz.f139.name, by decide, by kernel_rfl⟩; kernel_rfl; kernel_rfl; exact ⟨Tryz.f142.name, by decide, by kernel_rfl⟩; exact ⟨Tryz.f143.name, by decide, by kernel_rfl⟩; exact ⟨Tryz.f144.name, by decide, by kernel_rfl⟩; exact ⟨Tryz.f196.name, by decide, by kernel_rfl⟩; all_goals first | kernel_rfl | (intro _; kernel_rfl)

end
end Go.Proofs
namespace Go.Proofs.YtmoafceggjgecaaGreatDoor
open Go.Den
open IntKind (wrap)
open Int (toNat)
section
open Go.Sort
namespace Srt
variable {h:Heap} {R:TyP} {p:TyO} {n c:Nat} {xs:List Int}
abbrev iv (x : Int) : Value := .int .i64 x
theorem sort_ok (o : Own h p n c 1 (xs.map iv)) (hl : n = xs.length) (nd : xs.Nodup) (hn : n ≤ 60000) (hk : ∀ h' (zs : List Int), Own h' p n c 1 (zs.map iv) → zs.Perm xs → zs.Pairwise (· < ·) → Fr (inBlk p) h h' → R (.tuple #[]) h') :
    Cl 27 #[.slice p n c] h R := by
  subst hl
  intro w hw
  cases o with
  | nil hp h0 hc hcs =>
    obtain rfl := List.eq_nil_of_length_eq_zero h0
    refine (AnyM.slices_Sort_int_none Tryz.laysS p c w).mono ?_
    rintro e w' ⟨rfl, rfl⟩
    exact ⟨_, rfl, hk _ [] (by rw [hw]; exact .nil hp rfl hc rfl) (.refl _) .nil (by rw [hw]; exact Fr.refl _ _), Same.refl _⟩
  | row b off ca t hp hb h1 hc h2 hcs =>
    subst hp; subst hw
    have hat : ∀ (zs : List Int) (j : Nat), j < zs.length → zs.toArray[j]! = zs.getD j 0 := fun zs j hj => by
      simp [getElem!_pos, hj]
    refine (AnyM.slices_Sort_int Tryz.laysS b off c xs w (fun j hj => ?_) (lt_of_get hb) (by omega)).mono ?_
    · have hj : j < xs.length := by simpa using hj
      refine ⟨?_, by rw [frozen_eq]; exact hfrozen_blk hb⟩
      rw [cell_eq, hcell_blk hb, hat xs j hj]
      exact hcs j _ (by grind)
    · rintro e w' ⟨rfl, k, os, rfl⟩
      have pm := List.mergeSort_perm xs fun x y => decide (x ≤ y)
      have so : (xs.mergeSort fun x y => decide (x ≤ y)).Pairwise (· < ·) := by
        have s1 := List.pairwise_mergeSort (le := fun (x y : Int) => decide (x ≤ y)) (fun a b c h1 h2 => by simp at h1 h2 ⊢; omega) (fun a b => by simp; omega) xs
        have s2 : (xs.mergeSort fun x y => decide (x ≤ y)).Nodup := pm.nodup_iff.2 nd
        exact (s1.and s2).imp fun {a b} h => by grind
      generalize (xs.mergeSort fun x y => decide (x ≤ y)) = zs at pm so ⊢
      have hz : zs.length = xs.length := pm.length_eq
      have hold : ∀ x, x < w.heap.size → x ≠ b → (w.heap.modify b (onCells (putCells (Value.int .i64) off zs.toArray)) ++ os)[x]? = w.heap[x]? := fun x hx hne => by
        grind
      have hnew : (w.heap.modify b (onCells (putCells (Value.int .i64) off zs.toArray)) ++ os)[b]? = some (.cells (putCells (Value.int .i64) off zs.toArray ca) t (0, 0)) := by
        rw [Array.getElem?_append_left (by simpa using lt_of_get hb), Array.getElem?_modify, if_pos rfl, hb]; rfl
      refine ⟨_, rfl, hk _ zs (.row b off _ t rfl hnew h1 (by unfold putCells; rw [Array.size_mapIdx]; exact hc) (by simp [hz]) fun j v hj => ?_) pm so ?_, ⟨rfl, rfl, rfl⟩⟩
      · rw [List.getElem?_map] at hj
        have hjl : j < zs.length := by
          grind
        rw [List.getElem?_eq_getElem hjl] at hj
        obtain rfl := Option.some.inj hj
        unfold putCells
        have hs : off + j < ca.size := by omega
        rw [Array.getElem?_mapIdx, Array.getElem?_eq_getElem hs, Option.map_some, if_pos ⟨by omega, by simp; omega⟩, show off + j - off = j by omega, hat zs j hjl, List.getD_eq_getElem?_getD, List.getElem?_eq_getElem hjl]; rfl
      · refine ⟨by simp, fun x hx hn => hold x hx (fun e => hn ⟨_, rfl, e.symm⟩)⟩

end Srt
end
section
open Go.Heapq
namespace Cps
open Eid Alarm
variable {h h':Heap} {R:TyP} {t:Nat} {X:Ft} {s:CF} {m a1 a2:Nat} {xs:List CV} {S1 S2:Nat→Prop} {lab:Nat→Option Nat}
theorem uSI : Tryz.prog.underlying 39 = some (.slice 3) := by kernel_rfl
theorem made_ok (H : Cm h t X s m xs a1 S1 a2 S2 lab) (hk : R (.bool true) h) : Cl 63 #[.pointer (some ⟨t, 0, none⟩)] h R := copies_Table_made.walk ⟨_, cell_at H.blk rfl, hk⟩
def nums (xs : List CV) : List Int := xs.map (fun x => (x.num : Int))
theorem nums_so (H : Cm h t X s m xs a1 S1 a2 S2 lab) : (nums xs).Pairwise (· < ·) := by
  have := H.so
  rw [List.pairwise_map] at this
  unfold nums
  rw [List.pairwise_map]
  exact this.imp (fun h => by omega)
theorem numbers_ok (H : Cm h t X s m xs a1 S1 a2 S2 lab) (hl : xs.length ≤ 60000) (hk : ∀ h' p' c', Own h' p' xs.length c' 1 ((nums xs).map ienc) → (∀ y, inBlk p' y → h.size ≤ y) → Fr No h h' → R (.slice p' xs.length c') h') :
    Cl 64 #[.pointer (some ⟨t, 0, none⟩)] h R := by
  refine copies_Table_numbers.walk (made_ok H ⟨_, rfl, JoinP.of fun J hJ => ?_⟩)
  rw [if_pos rfl]
  refine ⟨_, cell_at H.blk rfl, den_rangeP mapTy H.map fun it h1 e1 I1 f1 => ⟨_, rfl, ?_⟩⟩
  refine ⟨fun op ol oc g => ∃ ds : List (Int × Value), ol = ds.length ∧ Own g op ol oc 1 ((ds.map (·.1)).map ienc) ∧ (∀ y, inBlk op y → h.size ≤ y ∧ y ≠ it) ∧ Iter g it m ienc (xs.map CV.pair) ds ∧ Fr No h g, fun _ ol _ _ => xs.length - ol,
    ⟨[], rfl, .nil rfl rfl rfl rfl, (fun y ⟨a, e, _⟩ => by cases e), I1, f1⟩, ?_⟩
  rintro op ol oc g ⟨ds, rfl, oy, gy, Iy, fy⟩
  have hle := Iy.le
  rw [List.length_map] at hle
  refine den_nextP Iy (fun hp => .inl ⟨rfl, ?_⟩) (fun a v g1 hm hnm I1 s1 o1 => .inr ⟨_, _, rfl, ?_⟩)
  · subst hJ
    have hperm  := by
      have := hp.map (·.1)
      rw [List.map_map] at this
      exact this
    have so := nums_so H
    have nd  := hperm.nodup_iff.2 (so.imp (fun h => by omega))
    have hlen : ds.length = xs.length := by rw [hp.length_eq, List.length_map]
    refine Srt.sort_ok oy (by simp) nd (by omega) fun h3 zs o3 p3 s3 f3 => ⟨rfl, ?_⟩
    have  := List.Perm.eq_of_pairwise (fun a b _ _ h1 h2 => by omega) s3 so (p3.trans hperm)
    subst this
    rw [hlen] at o3 ⊢
    exact hk h3 op oc o3 (fun y hy => (gy y hy).1) (fy.fresh f3 (fun y hy => (gy y hy).1))
  · refine den_entryP I1 ⟨_, _, rfl, _, rfl, newP_of ?_⟩
    have f3 : Fr No g1 (g1.push (.cells #[.int .i64 a] 3)) := Fr.push _ _
    have r3 : Row (g1.push (.cells #[.int .i64 a] 3)) (some ⟨g1.size, 0, none⟩) [ienc a] := row_new
    have z3 : (g1.push (.cells #[.int .i64 a] 3)).size = g1.size + 1 := Array.size_push _
    generalize g1.push (.cells #[.int .i64 a] 3) = g3 at f3 r3 z3 ⊢
    have fit : Fr (fun y => y = it) g g1 := ⟨by omega, fun y _ hn => o1 y hn⟩
    have oy1 := (oy.frame fit (fun y hy e => (gy y hy).2 e)).frame f3 (fun _ _ => id)
    have zf := f1.1
    have F1  := fy.fresh fit (fun y e => by omega)
    have F3 := F1.tt f3
    have itlt : it < g1.size := by
      have ⟨_, _, _, _, _, _, hr, _⟩ := I1
      exact lt_of_get hr
    refine den_append tI uSI oy1 r3 rfl (fun v hv => by simp at hv; subst hv; rfl) (by omega) (by omega) fun p4 c4 g4 o4 _ f4 k4 => ⟨_, _, _, rfl, ?_⟩
    have hp4 : ∀ y, inBlk p4 y → h.size ≤ y ∧ y ≠ it := by
      grind
    refine ⟨⟨ds ++ [(a, v)], by simp, ?_, hp4, ?_, F3.fresh f4 (fun y hy => (gy y hy).1)⟩, ?_⟩
    · grind
    · have hmb  := H.map.lt
      exact (I1.frame f3 id id).frame f4 (fun hy => (gy it hy).2 rfl) (fun hy => by grind)
    · have := I1.le
      rw [List.length_append, List.length_map, List.length_singleton] at this
      show xs.length - (ds.length + 1) < xs.length - ds.length
      omega
theorem look (H : Cm h t X s m xs a1 S1 a2 S2 lab) {x : CV} (hx : x ∈ xs) : LookV Tryz.prog 155 (.map (some m)) (.int .i64 (x.num : Int)) false h (.pointer (some ⟨x.b, 0, none⟩)) := by
  have := lookV_P mapTy H.map (x.num)
  rw [((gget_some H.map.nodup).2 (List.mem_map.2 ⟨x, hx, rfl⟩))] at this
  exact this
variable {c0 c1 : Nat} {x : Ev}
end Cps
end
section
open Go.Heapq
namespace Cps
open Eid Alarm Fld
variable {h h':Heap} {R:TyP} {t:Nat} {X:Ft} {s:CF} {m a1 a2:Nat} {xs:List CV} {S1 S2:Nat→Prop} {lab:Nat→Option Nat} {n c:Nat}
def delL (L : List Cp) (n : Int) : List Cp := L.filter (fun x => !decide ((x.num : Int) = n))
structure Small (s : CF) : Prop where
  n : s.next ≤ 50000
  l : s.L.length ≤ 50000
  e1 : s.E1.length ≤ 50000
  e2 : s.E2.length ≤ 50000
theorem Cm.len (H : Cm h t X s m xs a1 S1 a2 S2 lab) : xs.length = s.L.length := by rw [← H.abs, List.length_map]
theorem new_ok (hk : ∀ h' t X, Ct h' t X ⟨[], 1, 0, 0, 0, [], []⟩ → UpF h X h' → R (.pointer (some ⟨t, 0, none⟩)) h') : Cl 106 #[] h R := by
  classical
  refine copies_New.walk (newP_of ?_)
  have f1 : Fr No h (h.push (.map #[] 0)) := Fr.push _ _
  have M1 := MapP.push h ienc
  have z1 : (h.push (.map #[] 0)).size = h.size + 1 := Array.size_push _
  generalize h.push (.map #[] 0) = h1 at f1 M1 z1 ⊢
  refine Alarm.new_ok fun a1 S1 h2 A1 g1 f2 => ⟨_, rfl, Alarm.new_ok fun a2 S2 h3 A2 g2 f3 => ⟨_, rfl, newP_of ?_⟩⟩
  have f4 : Fr No h3 (h3.push (.cells #[.map (some h.size), .int .i64 1, .int .i64 0, .int .i64 0, .int .i64 0, .pointer (some ⟨a1, 0, none⟩), .pointer (some ⟨a2, 0, none⟩)] 158)) := Fr.push _ _
  have z2 := f2.1
  have z3 := f3.1
  have z4 : (h3.push (.cells #[.map (some h.size), .int .i64 1, .int .i64 0, .int .i64 0, .int .i64 0, .pointer (some ⟨a1, 0, none⟩), .pointer (some ⟨a2, 0, none⟩)] 158)).size = h3.size + 1 := Array.size_push _
  have b4 : (h3.push (.cells #[.map (some h.size), .int .i64 1, .int .i64 0, .int .i64 0, .int .i64 0, .pointer (some ⟨a1, 0, none⟩), .pointer (some ⟨a2, 0, none⟩)] 158))[h3.size]? = some (.cells #[.map (some h.size), .int .i64 1, .int .i64 0, .int .i64 0, .int .i64 0, .pointer (some ⟨a1, 0, none⟩), .pointer (some ⟨a2, 0, none⟩)] 158 (0, 0)) := push_new
  generalize h3.push (.cells #[.map (some h.size), .int .i64 1, .int .i64 0, .int .i64 0, .int .i64 0, .pointer (some ⟨a1, 0, none⟩), .pointer (some ⟨a2, 0, none⟩)] 158) = h4 at f4 z4 b4 ⊢
  have l1 : ∀ c, S1 c → h1.size ≤ c ∧ c < h2.size := fun c hc => ⟨g1 c hc, A1.lt hc⟩
  have l2 : ∀ c, S2 c → h2.size ≤ c ∧ c < h3.size := fun c hc => ⟨g2 c hc, A2.lt hc⟩
  let lab  := fun c => if c = h3.size then some 0 else if c = h.size then some 1 else if S1 c then some 2 else if S2 c then some 3 else none
  have lab1 : ∀ c, S1 c → lab c = some 2 := fun c hc => by
    grind
  have lab2 : ∀ c, S2 c → lab c = some 3 := fun c hc => by
    grind
  have labs : ∀ c, lab c ≠ none → h.size ≤ c ∧ c < h4.size := fun c hc => by
    grind
  refine hk h4 h3.size ⟨fun c => lab c ≠ none, fun _ => False⟩ ⟨h.size, [], a1, S1, a2, S2, lab, ⟨b4, (M1.frame (f2.tt f3) id).frame f4 id, (fun x hx => by cases hx), rfl, (fun x hx => by cases hx), A1.frame (f3.tt f4) (fun _ _ => id), A2.frame f4 (fun _ _ => id), if_pos rfl, ?_, lab1, lab2, (fun x hx => by cases hx), fun c => Iff.rfl, fun c hc => hc.elim, fun c hc => (labs c hc).2, .nil⟩⟩ ⟨f1.tt (f2.tt (f3.tt f4)), fun c hc => ?_⟩
  · grind
  · grind

end Cps
end
section
namespace Stt
open Obx (It)
open Eid (Ev)
variable {h h':Heap} {s:Nat} {X:Ft}
structure SS where
  A : List Ses.Ses
  G : List Regs.Rg
  C : Cps.CF
  B : Obx.BS
  Q : List It
  e : Ev
  tm : Nat
  sq : Nat
  now : Nat
  rf : Nat
structure Ids where
  t : Nat
  r : Nat
  c : Nat
  o : Nat
  p : Nat
  k : Nat
abbrev Mk (h : Heap) (k : Nat) (e : Ev) (tm sq : Nat) : Prop := h[k]? = some (.cells #[.bool e.ipn, .int .u64 e.node, .int .u64 e.svc, .string e.host, .string e.dem, .int .u64 (tm : Int), .int .u64 (sq : Int), .bool true] 146 (0, 0))
abbrev Bk (h : Heap) (s : Nat) (I : Ids) (now rf : Nat) : Prop := h[s]? = some (.cells #[pt I.t, pt I.r, pt I.c, pt I.o, pt I.p, pt I.k, .int .u64 (now : Int), .int .i64 (rf : Int)] 68 (0, 0))
def part (σ : SS) (I : Ids) (s : Nat) (i : Nat) (h : Heap) (X : Ft) : Prop := match i with
  | 0 => Ses.Has h I.t X σ.A
  | 1 => Regs.Tb h I.r X σ.G
  | 2 => Cps.Ct h I.c X σ.C
  | 3 => Obx.Box h I.o X σ.B
  | 4 => ∃ m, Pu h I.p m σ.Q ∧ only X fun y => y = I.p ∨ y = m
  | 5 => Mk h I.k σ.e σ.tm σ.sq ∧ only X fun y => y = I.k
  | 6 => Bk h s I σ.now σ.rf ∧ only X fun y => y = s
  | _ => ∀ y, ¬ In X y
theorem part.lt {σ : SS} {I : Ids} {i : Nat} (H : part σ I s i h X) (y : Nat) (hy : In X y) : y < h.size := by
  rcases i with _ | _ | _ | _ | _ | _ | _ | i
  · exact Ses.Has.lt H y hy
  · exact Regs.Tb.lt H y hy
  · exact Cps.Ct.lt H y hy
  · exact Obx.Box.lt H y hy
  · have ⟨m, P, o⟩ := H
    rcases hy with hy | hy
    · rcases (o y).1.1 hy with rfl | rfl
      · exact P.lt.1
      · exact P.lt.2
    · exact absurd hy (o y).2
  · have ⟨P, o⟩ := H
    rcases hy with hy | hy
    · grind
    · grind
  · have ⟨P, o⟩ := H
    rcases hy with hy | hy
    · rw [(o y).1.1 hy]; exact lt_of_get P
    · exact absurd hy (o y).2
  · exact absurd hy (H y)
theorem part.frame {σ : SS} {I : Ids} {i : Nat} {Q : Nat → Prop} (H : part σ I s i h X) (f : Fr Q h h') (hq : ∀ y, In X y → ¬ Q y) : part σ I s i h' X := by
  rcases i with _ | _ | _ | _ | _ | _ | _ | i
  · exact Ses.Has.frame H f hq
  · exact Regs.Tb.frame H f hq
  · exact Cps.Ct.frame H f hq
  · exact Obx.Box.frame H f hq
  · have ⟨m, P, o⟩ := H
    exact ⟨m, P.frame f (hq _ (.inl ((o _).1.2 (.inl rfl)))) (hq _ (.inl ((o _).1.2 (.inr rfl)))), o⟩
  · have ⟨P, o⟩ := H
    exact ⟨f.get P (hq _ (.inl ((o _).1.2 rfl))), o⟩
  · have ⟨P, o⟩ := H
    exact ⟨f.get P (hq _ (.inl ((o _).1.2 rfl))), o⟩
  · exact H
theorem part.dis {σ : SS} {I : Ids} {i : Nat} (H : part σ I s i h X) (y : Nat) (hm : X.M y) (hd : X.D y) : False := by
  rcases i with _ | _ | _ | _ | _ | _ | _ | i
  · exact Ses.Has.dis H y hm hd
  · have ⟨m, H⟩ := H; exact H.d y hd
  · have ⟨m, xs, a1, S1, a2, S2, lab, H⟩ := H; exact (H.mm y).1 hm (H.dd y hd).1
  · have ⟨L, ⟨lp, lc, xs, a, S, H⟩, _⟩ := H; exact H.dis y hm hd
  · have ⟨m, P, o⟩ := H; exact (o y).2 hd
  · exact (H.2 y).2 hd
  · exact (H.2 y).2 hd
  · exact H y (.inl hm)
theorem part.st (σ : SS) (I : Ids) (s : Nat) : Stable (part σ I s) := ⟨part.lt, part.frame, part.dis⟩
def Pt (h : Heap) (s : Nat) (X : Ft) (I : Ids) (σ : SS) : Prop := Fam (part σ I s) h X
variable {I : Ids} {σ : SS}
theorem Pt.lt (H : Pt h s X I σ) (y : Nat) (hy : X.M y ∨ X.D y) : y < h.size := Fam.lt (part.st _ _ _) H y hy
theorem Pt.frame {Q : Nat → Prop} (H : Pt h s X I σ) (f : Fr Q h h') (hq : ∀ y, X.M y ∨ X.D y → ¬ Q y) : Pt h' s X I σ := Fam.frame (part.st _ _ _) H f hq
theorem Pt.on (H : Pt h s X I σ) (f : Fr No h h') : Pt h' s X I σ := H.frame f (fun _ _ => id)
theorem Pt.blk (H : Pt h s X I σ) : Bk h s I σ.now σ.rf := by have ⟨Y, hp, _⟩ := H; exact (hp 6).1
theorem Pt.box (H : Pt h s X I σ) : ∃ Z, Obx.Box h I.o Z σ.B := by have ⟨Y, hp, _⟩ := H; exact ⟨_, hp 3⟩
end Stt
end
section
open Go.Heapq
namespace Cps
open Eid Alarm Fld
variable {s:CF} {p:TyO} {c:Nat}
def mayC (x : Ev) (len : Nat) (till : Int) : Bool := rightE x && (!decide (x = Ev.zero) && (decide (1 ≤ len) && (decide (len ≤ 600) && decide (till ≤ 1099511627776))))
def ofL (L : List Cp) (x : Ev) : List Cp := L.filter (fun y => decide (y.e = x))
def addE (s : CF) (x : Ev) (d : List UInt8) (till : Nat) : Int := if mayC x d.length (till : Int) = true then (if (ofL s.L x).length ≥ 16 then 15 else 0) else 1
abbrev Cp.val (z : Cp) (p : Option Addr) (c : Nat) : Value := .agg #[.int .i64 (z.num : Int), .bool z.e.ipn, .int .u64 z.e.node, .int .u64 z.e.svc, .string z.e.host, .string z.e.dem, .slice p z.d.length c, .int .u64 (z.till : Int), .int .i64 z.ses, .int .u64 (z.dl : Int)]
def mayS (ses : Int) (dl : Nat) : Prop := 1 ≤ ses ∧ ses ≤ 1099511627776 ∧ dl ≤ 1099511627776

end Cps
end
section
open Go.Heapq
namespace Cps
open Eid Alarm Fld
variable {h:Heap} {t:Nat} {X:Ft} {s s':CF} {n:Nat}
variable {L:List Cp} {z:Cp} {ks:List Int}
structure Ord (s : CF) : Prop where
  nd : (s.L.map Cp.num).Nodup
  o1 : Sorted s.E1
  o2 : Sorted s.E2
  n1 : (keys s.E1).Nodup
  n2 : (keys s.E2).Nodup
theorem Ct.ord (H : Ct h t X s) : Ord s := by
  have ⟨m, xs, a1, S1, a2, S2, lab, H⟩ := H
  refine ⟨?_, H.al1.sorted, H.al2.sorted, H.al1.nodup, H.al2.nodup⟩
  rw [← H.abs, List.map_map]
  exact H.so.imp (fun h => Nat.ne_of_lt h)
structure okC (s : CF) : Prop where
  bd : ∀ z ∈ s.L, 1 ≤ z.num ∧ z.num < s.next ∧ z.d.length ≤ 600
  sp : ∀ z ∈ s.L, 0 ≤ z.ses
  e1 : ∀ e, e ∈ s.E1 ↔ ∃ z ∈ s.L, e = ((z.num : Int), (z.till : Int))
  e2 : ∀ e, e ∈ s.E2 ↔ ∃ z ∈ s.L, z.ses ≠ 0 ∧ e = ((z.num : Int), (z.dl : Int))
  cnt : s.next = 1 + s.L.length + s.acked + s.over + s.gone
theorem delL_mem {k : Int} : z ∈ delL L k ↔ z ∈ L ∧ (z.num : Int) ≠ k := by unfold delL; simp [List.mem_filter]
theorem del_len : ∀ {L : List Cp}, (L.map Cp.num).Nodup → ∀ {z : Cp}, z ∈ L → (delL L (z.num : Int)).length + 1 = L.length
  | [], _, z, hz => by cases hz
  | y :: l, nd, z, hz => by
    rw [List.map_cons, List.nodup_cons] at nd
    unfold delL
    rw [List.filter_cons]
    rcases List.mem_cons.1 hz with rfl | hz
    · rw [if_neg (by simp), List.filter_eq_self.2 (fun x hx => ?_), List.length_cons]
      have : x.num ≠ z.num := fun e => nd.1 (by grind)
      simp; omega
    · rw [if_pos (by grind), List.length_cons, List.length_cons]
      have := del_len nd.2 hz
      unfold delL at this
      omega
def outC (L : List Cp) (ks : List Int) : List Cp := L.filter (fun z => !decide ((z.num : Int) ∈ ks))
def outE (L : List E) (ks : List Int) : List E := L.filter (fun e => !decide (e.1 ∈ ks))
theorem outC_nil (L : List Cp) : outC L [] = L := by exact List.filter_eq_self.2 (fun _ _ => by simp)
theorem outC_cons (L : List Cp) (k : Int) (ks : List Int) : outC (delL L k) ks = outC L (k :: ks) := by
  unfold outC delL
  rw [List.filter_filter]
  apply List.filter_congr
  intro x _
  by_cases h1 : (x.num) = k
  · simp [h1]
  · grind
theorem out_len : ∀ (ks : List Int) (L : List Cp), (L.map Cp.num).Nodup → ks.Nodup → (∀ k ∈ ks, ∃ z ∈ L, (z.num : Int) = k) → (outC L ks).length + ks.length = L.length
  | [], L, _, _, _ => by rw [outC_nil]; rfl
  | k :: ks, L, nd, nk, hk => by
    obtain ⟨z, hz, rfl⟩ := hk k (by simp)
    rw [← outC_cons, List.length_cons]
    have h1 := del_len nd hz
    have nk' := List.nodup_cons.1 nk
    have h2 := out_len ks (delL L (z.num)) (List.Pairwise.sublist (List.Sublist.map _ List.filter_sublist) nd) nk'.2 (fun j hj => by
      have ⟨y, hy, e⟩ := hk j (List.mem_cons_of_mem _ hj)
      exact ⟨y, delL_mem.2 ⟨hy, fun e2 => nk'.1 (by grind)⟩, e⟩)
    omega
theorem outC_mem : z ∈ outC L ks ↔ z ∈ L ∧ (z.num : Int) ∉ ks := by unfold outC; simp [List.mem_filter]
theorem outE_mem {L : List E} {e : E} : e ∈ outE L ks ↔ e ∈ L ∧ e.1 ∉ ks := by unfold outE; simp [List.mem_filter]
theorem of_nodup (O : Ord s) (x : Ev) : ((ofL s.L x).map (fun z => (z.num : Int))).Nodup := by
  have : ((ofL s.L x).map Cp.num).Nodup := List.Pairwise.sublist (List.Sublist.map _ List.filter_sublist) O.nd
  have e : (ofL s.L x).map (fun z => (z.num : Int)) = ((ofL s.L x).map Cp.num).map (fun n : Nat => (n : Int)) := by simp
  rw [e]
  exact List.Pairwise.map _ (fun a b h => by omega) this
theorem okC.outs (ok : okC s) (O : Ord s) (nk : ks.Nodup) (hk : ∀ k ∈ ks, ∃ z ∈ s.L, (z.num : Int) = k) (hL : s'.L = outC s.L ks) (h1 : s'.E1 = outE s.E1 ks) (h2 : s'.E2 = outE s.E2 ks) (hn : s'.next = s.next) (hc : s'.acked + s'.over + s'.gone = s.acked + s.over + s.gone + ks.length) : okC s' := by
  refine ⟨fun y hy => ?_, fun y hy => ?_, fun e => ?_, fun e => ?_, ?_⟩
  · rw [hL, outC_mem] at hy; rw [hn]; exact ok.bd y hy.1
  · rw [hL, outC_mem] at hy; exact ok.sp y hy.1
  · rw [h1, outE_mem, ok.e1, hL]
    constructor
    · rintro ⟨⟨y, hy, rfl⟩, hne⟩; exact ⟨y, outC_mem.2 ⟨hy, hne⟩, rfl⟩
    · rintro ⟨y, hy, rfl⟩; have := outC_mem.1 hy; exact ⟨⟨y, this.1, rfl⟩, this.2⟩
  · rw [h2, outE_mem, ok.e2, hL]
    constructor
    · rintro ⟨⟨y, hy, hs, rfl⟩, hne⟩; exact ⟨y, outC_mem.2 ⟨hy, hne⟩, hs, rfl⟩
    · rintro ⟨y, hy, hs, rfl⟩; have := outC_mem.1 hy; exact ⟨⟨y, this.1, hs, rfl⟩, this.2⟩
  · have := out_len ks s.L O.nd nk hk
    have := ok.cnt
    rw [hn, hL]; omega

end Cps
end
section
variable {h:Heap} {R:TyP}
variable {x_0:Bool} {x_1 x_2:Int} {x_3 x_4:ByteArray}
theorem eid_Text.walk (hv :
 NewP h (.cells #[.bool x_0, .int .u64 x_1, .int .u64 x_2, .string x_3, .string x_4] 34) fun b h_1 =>
 eid_Eid.LD h_1 ⟨b, 0, none⟩ fun t5_0 t5_1 t5_2 t5_3 t5_4 =>
 Cl 18 #[.agg #[.bool t5_0, .int .u64 t5_1, .int .u64 t5_2, .string t5_3, .string t5_4]] h_1 fun v h_2 =>
 ∃ t6, v = .bool t6 ∧
 ite (!t6)
 (  R (.tuple #[.string (⟨#[]⟩ : ByteArray), .int .i64 3]) h_2)
 (  eid_Eid.LD h_2 ⟨b, 0, none⟩ fun t9_0 t9_1 t9_2 t9_3 t9_4 =>
 ∃ (eq : Bool), Eqz 34 (.agg #[.bool t9_0, .int .u64 t9_1, .int .u64 t9_2, .string t9_3, .string t9_4]) (.agg #[.bool false, .int .u64 0, .int .u64 0, .string (⟨#[]⟩ : ByteArray), .string (⟨#[]⟩ : ByteArray)]) eq ∧
 ite eq
 (  R (.tuple #[.string (⟨#[100, 116, 110, 58, 110, 111, 110, 101]⟩ : ByteArray), .int .i64 0]) h_2)
 (  ∃ t14, hcell h_2 ⟨b, 0, none⟩ = some (.bool t14) ∧
 ite t14
 (  ∃ t16, hcell h_2 ⟨b, 1, none⟩ = some (.int .u64 t16) ∧
 ∃ t21, hcell h_2 ⟨b, 2, none⟩ = some (.int .u64 t21) ∧
 Cl 58 #[.int .u64 t16, .int .i64 10] h_2 fun v_1 h_3 =>
 ∃ t17, v_1 = .string t17 ∧
 hcell h_3 ⟨b, 2, none⟩ = some (.int .u64 t21) ∧
 (((⟨#[105, 112, 110, 58]⟩ : ByteArray).size + t17.size : Nat) : Int) ≤ IntKind.max .i64 ∧
 ((((⟨#[105, 112, 110, 58]⟩ : ByteArray) ++ t17).size + (⟨#[46]⟩ : ByteArray).size : Nat) : Int) ≤ IntKind.max .i64 ∧
 Cl 58 #[.int .u64 t21, .int .i64 10] h_3 fun v_2 h_4 =>
 ∃ t22, v_2 = .string t22 ∧
 (((((⟨#[105, 112, 110, 58]⟩ : ByteArray) ++ t17) ++ (⟨#[46]⟩ : ByteArray)).size + t22.size : Nat) : Int) ≤ IntKind.max .i64 ∧
 R (.tuple #[.string ((((⟨#[105, 112, 110, 58]⟩ : ByteArray) ++ t17) ++ (⟨#[46]⟩ : ByteArray)) ++ t22), .int .i64 0]) h_4)
 (  eid_Eid.LD h_2 ⟨b, 0, none⟩ fun t24_0 t24_1 t24_2 t24_3 t24_4 =>
 Cl 59 #[.agg #[.bool t24_0, .int .u64 t24_1, .int .u64 t24_2, .string t24_3, .string t24_4]] h_2 fun v_3 h_5 =>
 ∃ t25, v_3 = .string t25 ∧
 (((⟨#[100, 116, 110, 58]⟩ : ByteArray).size + t25.size : Nat) : Int) ≤ IntKind.max .i64 ∧
 R (.tuple #[.string ((⟨#[100, 116, 110, 58]⟩ : ByteArray) ++ t25), .int .i64 0]) h_5)))) : Cl 32 #[.agg #[.bool x_0, .int .u64 x_1, .int .u64 x_2, .string x_3, .string x_4]] h R :=
 callsN [(20, fun _ => .plan (opL [0,1,5,6,2,3,4,7,8,9,10] .done))] hv
theorem eid_path.walk (hv :
 NewP h (.cells #[.bool x_0, .int .u64 x_1, .int .u64 x_2, .string x_3, .string x_4] 34) fun b h_1 =>
 ∃ t4, hcell h_1 ⟨b, 3, none⟩ = some (.string t4) ∧
 (((⟨#[47, 47]⟩ : ByteArray).size + t4.size : Nat) : Int) ≤ IntKind.max .i64 ∧
 ((((⟨#[47, 47]⟩ : ByteArray) ++ t4).size + (⟨#[47]⟩ : ByteArray).size : Nat) : Int) ≤ IntKind.max .i64 ∧
 ∃ t8, hcell h_1 ⟨b, 4, none⟩ = some (.string t8) ∧
 (((((⟨#[47, 47]⟩ : ByteArray) ++ t4) ++ (⟨#[47]⟩ : ByteArray)).size + t8.size : Nat) : Int) ≤ IntKind.max .i64 ∧
 R (.string ((((⟨#[47, 47]⟩ : ByteArray) ++ t4) ++ (⟨#[47]⟩ : ByteArray)) ++ t8)) h_1) : Cl 59 #[.agg #[.bool x_0, .int .u64 x_1, .int .u64 x_2, .string x_3, .string x_4]] h R :=
 callsN [] hv

end
section
namespace Eid
variable {h h':Heap} {R:TyP}
theorem str_app (a b : List UInt8) : str a ++ str b = str (a ++ b) := by
  rfl
theorem str_size (a : List UInt8) : (str a).size = a.length := by unfold str; rfl
theorem str_self (s : ByteArray) : s = str s.data.toList := (str_data s).symm
theorem data_len (s : ByteArray) : s.data.toList.length = s.size := by rfl
theorem maxi : IntKind.max .i64 = 9223372036854775807 := rfl
theorem path_ok (x : Ev) (h1 : x.host.size ≤ 1000) (h2 : x.dem.size ≤ 1000) (hk : ∀ h', Fr No h h' → R (.string (str ([47, 47] ++ x.host.data.toList ++ [47] ++ x.dem.data.toList))) h') : Cl 59 #[ev5 x] h R := by
  refine eid_path.walk (eid_Eid.box fun b h3 eb hb f3 => ⟨_, cell_at hb rfl, ?_⟩)
  have e1 : (⟨#[47, 47]⟩) = str [47, 47] := rfl
  have e2 : (⟨#[47]⟩) = str [47] := rfl
  have l2 := data_len x.dem
  rw [e1, e2, maxi]
  refine ⟨?_, ?_, _, cell_at hb rfl, ?_, ?_⟩
  · rw [str_size]; simp; omega
  · rw [str_self x.host, str_app, str_size, str_size]; simp; omega
  · rw [str_self x.host, str_app, str_app, str_size]; simp; omega
  · exact (hk h3 f3)

end Eid
end
end Go.Proofs.YtmoafceggjgecaaGreatDoor
namespace Go.Proofs
open Go.Den
open IntKind (wrap)
open Int (toNat)
section
open Go.Shelf
def Tryz.lays284_ren : Go.Shelf.Ren := ⟨fun | 284 => 146 | 129 => 96 | 317 => 197 | 318 => 198 | n => n, fun | 53 => 32 | 3 => 3 | 212 => 317 | 0 => 0 | 4 => 4 | 46 => 135 | 5 => 5 | 9 => 9 | n => n, fun | 17 => 0 | n => n⟩
theorem Tryz.lays284 : Go.Proofs.LaysM.n284 Tryz.prog Tryz.lays284_ren := by
  constructor; constructor; all_goals first | kernel_rfl | (intro _; kernel_rfl)
def Tryz.lays285_ren : Go.Shelf.Ren := ⟨fun | 285 => 147 | n => n, fun | 37 => 48 | 53 => 32 | 3 => 3 | 4 => 4 | 51 => 201 | 9 => 9 | 5 => 5 | 0 => 0 | n => n, fun | n => n⟩
theorem Tryz.lays285 : Go.Proofs.Lays.n285 Tryz.prog Tryz.lays285_ren := by
  constructor; all_goals first | kernel_rfl | (intro _; kernel_rfl)
def Tryz.lays283_ren : Go.Shelf.Ren := ⟨fun | 283 => 145 | n => n, fun | 3 => 3 | 9 => 9 | 4 => 4 | n => n, fun | n => n⟩
theorem Tryz.lays283 : Go.Proofs.Lays.n283 Tryz.prog Tryz.lays283_ren := by
  constructor; all_goals first | kernel_rfl | (intro _; kernel_rfl)

end
end Go.Proofs
namespace Go.Proofs.YtmoafceggjgecaaGreatDoor
open Go.Den
open IntKind (wrap)
open Int (toNat)
section
namespace Num
variable {h h':Heap} {R:TyP}
def Tab (h : Heap) : Prop := ∃ t f, h[(0 : Nat)]? = some (.cells (Lib.pow10Tab.map fun z => Value.int .u64 z).toArray t f)
theorem Tab.frame {S : Nat → Prop} (T : Tab h) (f : Fr S h h') (hn : ∀ c, c < h.size → ¬ S c) : Tab h' := by
  obtain ⟨t, fr, h2⟩ := T
  exact ⟨t, fr, f.get h2 (hn _ (lt_of_get h2))⟩
theorem Tab.on (T : Tab h) (f : Fr No h h') : Tab h' := T.frame f (fun _ _ => id)
theorem Tab.is {w : World} {s : String} (hs : Tryz.prog.globalNamed s = some 0) (T : Tab w.heap) : Lib.TabIs Tryz.prog w s .u64 Lib.pow10Tab := by
  obtain ⟨t, fr, h2⟩ := T
  unfold Lib.TabIs World.var?
  rw [hs]
  show (match w.heap[(0 : Nat)]? with | some (.cells cs _ _) => some cs | _ => none) = _
  rw [h2]
theorem small_ok {i : Nat} (hi : i < 100) (hk : R (.string ⟨(Lib.decDigits i).toArray⟩) h) : Cl 145 #[.int .i64 i] h R := fun w hw =>
  (Any.internal_strconv_small Tryz.lays283 i hi w).mono fun e w' ⟨he, hw'⟩ => ⟨_, he, by rw [hw', hw]; exact hk, by rw [hw']; exact Same.refl _⟩
theorem digits_ok {u : Nat} (T : Tab h) (h1 : 1 ≤ u) (h2 : u < 18446744073709551616) (hk : R (.int .i64 (Lib.nDigits u)) h) : Cl 146 #[.int .u64 u] h R := fun w hw =>
  (Any.internal_strconv_numDigits Tryz.lays284 u h1 h2 w (by rw [← hw] at T; exact T.is (by kernel_rfl))).mono fun e w' ⟨he, hw'⟩ => ⟨_, he, by rw [hw', hw]; exact hk, by rw [hw']; exact Same.refl _⟩

end Num
end
section
variable {h:Heap} {R:TyP}
variable {i base:Int}
theorem internal_strconv_FormatUint.walk (hv :
 ite (base == 10)
 (  ite (decide (i < 100))
 (  Cl 145 #[.int .i64 (IntKind.wrap .i64 i)] h fun v h_1 =>
 ∃ t15, v = .string t15 ∧
 R (.string t15) h_1)
 (  NewP h (.cells #[.int .u8 0, .int .u8 0, .int .u8 0, .int .u8 0, .int .u8 0, .int .u8 0, .int .u8 0, .int .u8 0, .int .u8 0, .int .u8 0, .int .u8 0, .int .u8 0, .int .u8 0, .int .u8 0, .int .u8 0, .int .u8 0, .int .u8 0, .int .u8 0, .int .u8 0, .int .u8 0, .int .u8 0, .int .u8 0, .int .u8 0, .int .u8 0] 258) fun b h_2 =>
 Cl 146 #[.int .u64 i] h_2 fun v_1 h_3 =>
 ∃ t17, v_1 = .int .i64 t17 ∧
 ((0 : Int) ≤ t17 ∧ t17 ≤ ((24 : Nat) : Int)) ∧
 Cl 147 #[.slice (slBase (some ⟨b, 0, none⟩) 24 0 1) ((Int.toNat t17) - 0) (24 - 0), .int .u64 i] h_3 fun v_2 h_4 =>
 v_2 = .tuple #[] ∧
 ((0 : Int) ≤ t17 ∧ t17 ≤ ((24 : Nat) : Int)) ∧
 ∃ (t24 : ByteArray), ConvV Tryz.prog 48 9 (.slice (slBase (some ⟨b, 0, none⟩) 24 0 1) ((Int.toNat t17) - 0) (24 - 0)) h_4 t24 ∧
 R (.string t24) h_4))
 (  Cl 148 #[.slice none 0 0, .int .u64 i, .int .i64 base, .bool false, .bool false] h fun v_3 h_5 =>
 ∃ t28_0_p t28_0_l t28_0_c t28_1, v_3 = .tuple #[.slice t28_0_p t28_0_l t28_0_c, .string t28_1] ∧
 R (.string t28_1) h_5)) : Cl 97 #[.int .u64 i, .int .i64 base] h R :=
 callsN [] hv
theorem strconv_FormatUint.walk (hv :
 Cl 97 #[.int .u64 i, .int .i64 base] h fun v h_1 =>
 ∃ t7, v = .string t7 ∧
 R (.string t7) h_1) : Cl 58 #[.int .u64 i, .int .i64 base] h R :=
 callsN [] hv

end
section
namespace Num
variable {h h':Heap} {R:TyP}
variable {u:Nat}
theorem base10_ok {blk n cap:Nat} {c : Array Value} {t : TypeId} (hb : h[blk]? = some (.cells c t (0, 0))) (hz : ∀ j, j < n → c[j]? = some (.int .u8 0)) (hu : u < 10 ^ n) (hu64 : u < 18446744073709551616) (hn : n < 100)
    (hk : ∀ h' c' dk v', h'[blk]? = some (.cells c' t (0, 0)) → Lib.FmtInv n u 0 v' dk → (∀ j, j < n → c'[j]? = some (.int .u8 ((dk[j]!).toNat : Int))) → h'.size = h.size → (∀ x, x ≠ blk → h'[x]? = h[x]?) → R (.tuple #[]) h') :
    Cl 147 #[.slice (some ⟨blk, 0, none⟩) n cap, .int .u64 u] h R := fun w hw => by
  subst hw
  have hH : Sort.Holds (fun (b : UInt8) => Value.int .u8 (b.toNat : Int)) w blk 0 (Array.replicate n 0) := fun j hj => by
    rw [Array.size_replicate] at hj
    refine ⟨?_, ?_⟩
    · rw [cell_eq, hcell_blk hb, Nat.zero_add, hz j hj]
      have : (Array.replicate n (0 : UInt8))[j]! = 0 := by simp [hj]
      rw [this]; rfl
    · rw [frozen_eq]; exact hfrozen_blk hb
  have key := Any.internal_strconv_formatBase10 Tryz.lays285 blk 0 cap u (Array.replicate n 0) w hH (by rw [Array.size_replicate]; exact hu) hu64 (by rw [Array.size_replicate]; omega)
  rw [Array.size_replicate] at key
  refine Calls.mono key fun e w' ⟨he, k, v', dk, hw', hF⟩ => ⟨_, he, ?_, ?_⟩
  · subst hw'
    have hh : ((Sort.putRow (fun (b : UInt8) => Value.int .u8 (b.toNat : Int)) w blk 0 dk).drewN k).heap = w.heap.modify blk (Sort.onCells (Sort.putCells (fun (b : UInt8) => Value.int .u8 (b.toNat : Int)) 0 dk)) := rfl
    rw [hh]
    refine hk _ (Sort.putCells (fun (b : UInt8) => Value.int .u8 (b.toNat : Int)) 0 dk c) dk v' ?_ hF (fun j hj => ?_) (by simp) (fun x hx => by rw [Array.getElem?_modify, if_neg (fun e => hx e.symm)])
    · rw [Array.getElem?_modify, if_pos rfl, hb]; rfl
    · unfold Sort.putCells
      rw [Array.getElem?_mapIdx, hz j hj, Option.map_some, if_pos ⟨Nat.zero_le _, by rw [hF.size]; omega⟩, Nat.sub_zero]
  · subst hw'; exact ⟨rfl, rfl, rfl⟩
theorem tS : Tryz.prog.underlying 48 = some (.slice 5) := by kernel_rfl
theorem t8 : Tryz.prog.underlying 5 = some (.int .u8) := by kernel_rfl
theorem tT : Tryz.prog.underlying 9 = some .string := by kernel_rfl
theorem format_ok (tb : Tab h) (hu : u < 18446744073709551616) (hk : ∀ h', Fr No h h' → R (.string ⟨(Lib.decDigits u).toArray⟩) h') : Cl 97 #[.int .u64 u, .int .i64 10] h R := by
  refine internal_strconv_FormatUint.walk ?_
  rw [if_pos (by rfl)]
  by_cases h1 : u < 100
  · rw [if_pos (decide_eq_true (by omega)), wrap_id (by omega) (by omega)]
    exact small_ok h1 ⟨_, rfl, hk h (Fr.refl _ _)⟩
  · rw [if_neg (by simp; omega)]
    refine newP_of ?_
    generalize hcs : (#[.int .u8 0, .int .u8 0, .int .u8 0, .int .u8 0, .int .u8 0, .int .u8 0, .int .u8 0, .int .u8 0, .int .u8 0, .int .u8 0, .int .u8 0, .int .u8 0, .int .u8 0, .int .u8 0, .int .u8 0, .int .u8 0, .int .u8 0, .int .u8 0, .int .u8 0, .int .u8 0, .int .u8 0, .int .u8 0, .int .u8 0, .int .u8 0] : Array Value) = cs
    have hc0 : ∀ j, j < 24 → cs[j]? = some (.int .u8 0) := by
      have : cs = Array.replicate 24 (.int .u8 0) := by rw [← hcs]; rfl
      intro j hj
      rw [this]; simp [hj]
    have f1 : Fr No h (h.push (.cells cs 258)) := Fr.push _ _
    have hb1 : (h.push (.cells cs 258))[h.size]? = some (.cells cs 258 (0, 0)) := push_new
    have hnd : Lib.nDigits u ≤ 20 := by have := Lib.numDigits_eq u (by omega) hu; split at this <;> omega
    refine digits_ok (tb.on f1) (by omega) hu ⟨_, rfl, ⟨by omega, by omega⟩, ?_⟩
    have es : slBase (some (⟨h.size, 0, none⟩ : Addr)) 24 0 1 = some ⟨h.size, 0, none⟩ := rfl
    rw [es, Int.toNat_natCast, Nat.sub_zero]
    refine base10_ok hb1 (fun j hj => hc0 j (by omega)) (Lib.lt_pow_nDigits u) hu (by omega) fun h2 c2 dk v2 hb2 hF hc2 s2 o2 => ⟨rfl, ⟨by omega, by omega⟩, str (Lib.decDigits u), ?_, ?_⟩
    · refine conv_str tS t8 tT (.inr ⟨_, rfl, heldL_blk hb2 (fun j v hj => ?_)⟩) (Lib.decDigits_length u).symm
      rw [Nat.zero_add]
      have hjl : j < (Lib.decDigits u).length := by have := (List.getElem?_eq_some_iff.1 hj).1; rwa [bc_len] at this
      have hjn : j < Lib.nDigits u := by rwa [Lib.decDigits_length] at hjl
      rw [hc2 j hjn, ← Lib.row_is_numeral hF j hjl, ← hj]
      unfold bc
      rw [List.getElem?_map, List.getElem?_eq_getElem hjl]; rfl
    · exact hk h2 (f1.fresh (S := fun y => y = h.size) ⟨by omega, fun y _ hn => o2 y hn⟩ (fun y e => Nat.le_of_eq e.symm))
theorem formatUint_ok (tb : Tab h) (hu : u < 18446744073709551616) (hk : ∀ h', Fr No h h' → R (.string ⟨(Lib.decDigits u).toArray⟩) h') : Cl 58 #[.int .u64 u, .int .i64 10] h R :=
  strconv_FormatUint.walk (format_ok tb hu fun h1 f1 => ⟨_, rfl, hk h1 f1⟩)

end Num
end
section
namespace Eid
variable {h h':Heap} {R:TyP}
def textE (x : Ev) : List UInt8 :=
  if x = .zero then [100, 116, 110, 58, 110, 111, 110, 101]
  else if x.ipn = true then [105, 112, 110, 58] ++ Lib.decDigits x.node.toNat ++ [46] ++ Lib.decDigits x.svc.toNat
  else [100, 116, 110, 58] ++ ([47, 47] ++ x.host.data.toList ++ [47] ++ x.dem.data.toList)
theorem dec_len {u : Nat} (hu : u < 18446744073709551616) : (Lib.decDigits u).length ≤ 20 := by
  rw [Lib.decDigits_length]
  by_cases h0 : u < 10
  · rw [Lib.nDigits_small h0]; omega
  · have := Lib.numDigits_eq u (by omega) hu
    split at this <;> omega
theorem text_len {x : Ev} (hr : rightE x = true) (h1 : 0 ≤ x.svc) : (textE x).length ≤ 100 := by
  unfold textE
  unfold rightE at hr
  by_cases z : x = .zero
  · simp_all
  rw [if_neg z] at hr ⊢
  by_cases hi : x.ipn = true
  · rw [if_pos hi] at hr ⊢
    have hr := of_decide_eq_true hr
    have l1 := dec_len (u := x.node.toNat) (by omega)
    have l2 := dec_len (u := x.svc.toNat) (by omega)
    simp only [List.length_append, List.length_cons, List.length_nil]; omega
  · rw [if_neg hi] at hr ⊢
    simp only [Bool.and_eq_true, decide_eq_true_eq] at hr
    simp only [List.length_append, List.length_cons, List.length_nil, data_len]; omega
theorem text_ok (x : Ev) (tb : Num.Tab h) (w1 : 0 ≤ x.svc) (hk : ∀ h', Fr No h h' → R (.tuple #[.string (if rightE x = true then str (textE x) else ⟨#[]⟩), .int .i64 (if rightE x = true then 0 else 3)]) h') : Cl 32 #[ev5 x] h R := by
  refine eid_Text.walk (eid_Eid.box fun b h1 eb hb f1 => eid_Eid.ld hb (right_ok x fun h2 f2 => ⟨_, rfl, ?_⟩))
  by_cases hr : rightE x = true
  · simp only [hr, if_true] at hk
    rw [if_neg (by grind)]
    have hb2 := f2.get hb id
    have F2 := f1.tt f2
    have tb2 := tb.on F2
    refine eid_Eid.ld hb2 ⟨_, eqv' (y := .zero) rfl rfl, ?_⟩
    unfold textE at hk
    unfold rightE at hr
    by_cases z : x = .zero
    · rw [if_pos (decide_eq_true z)]
      rw [if_pos z] at hk
      exact hk h2 F2
    rw [if_neg (by grind)]
    rw [if_neg z] at hr
    simp only [if_neg z] at hk
    refine ⟨_, cell_at hb2 rfl, ?_⟩
    have e1 : (⟨#[105, 112, 110, 58]⟩) = str [105, 112, 110, 58] := rfl
    have e2 : (⟨#[46]⟩) = str [46] := rfl
    have e3 : (⟨#[100, 116, 110, 58]⟩) = str [100, 116, 110, 58] := rfl
    by_cases hi : x.ipn = true
    · rw [if_pos hi] at hr ⊢
      simp only [if_pos hi] at hk
      have hr := of_decide_eq_true hr
      have l1 := dec_len (u := x.node.toNat) (by omega)
      have l2 := dec_len (u := x.svc.toNat) (by omega)
      have n1 : x.node = ((x.node.toNat : Nat)) := by omega
      have n2 : x.svc = ((x.svc.toNat : Nat)) := by omega
      rw [e1, e2, maxi]
      refine ⟨_, cell_at hb2 rfl, _, cell_at hb2 rfl, ?_⟩
      rw [n1]
      refine Num.formatUint_ok tb2 (by omega) fun h3 f3 => ⟨_, rfl, cell_at (f3.get hb2 id) rfl, ?_⟩
      have c1 : (⟨(Lib.decDigits x.node.toNat).toArray⟩) = str (Lib.decDigits x.node.toNat) := rfl
      have c2 : (⟨(Lib.decDigits x.svc.toNat).toArray⟩) = str (Lib.decDigits x.svc.toNat) := rfl
      rw [c1]
      refine ⟨?_, ?_, ?_⟩
      · rw [str_size, str_size]; simp; omega
      · rw [str_app, str_size, str_size]; simp; omega
      rw [n2]
      refine Num.formatUint_ok (tb2.on f3) (by omega) fun h4 f4 => ⟨_, rfl, ?_⟩
      rw [c2]
      refine ⟨?_, ?_⟩
      · rw [str_app, str_app, str_size, str_size]; simp; omega
      · rw [str_app, str_app, str_app]; exact hk h4 (F2.tt (f3.tt f4))
    · rw [if_neg hi] at hr ⊢
      simp only [if_neg hi] at hk
      simp only [Bool.and_eq_true, decide_eq_true_eq] at hr
      refine eid_Eid.ld hb2 (path_ok x (by omega) (by omega) fun h3 f3 => ⟨_, rfl, ?_⟩)
      have l1 := data_len x.host
      have l2 := data_len x.dem
      rw [e3, maxi]
      refine ⟨?_, ?_⟩
      · rw [str_size, str_size]; simp; omega
      · rw [str_app]; exact hk h3 (F2.tt f3)
  · simp only [hr, Bool.false_eq_true, if_false] at hk
    rw [if_pos (by simpa using hr)]
    exact hk h2 (f1.tt f2)

end Eid
end
section
variable {h:Heap} {R:TyP}
theorem copies_record.walk {c : Nat} (hv :
 eid_Eid.LD h ⟨c, 1, none⟩ fun t9_0 t9_1 t9_2 t9_3 t9_4 =>
 Cl 32 #[.agg #[.bool t9_0, .int .u64 t9_1, .int .u64 t9_2, .string t9_3, .string t9_4]] h fun v h_1 =>
 ∃ t10_0 t10_1, v = .tuple #[.string t10_0, .int .i64 t10_1] ∧
 ∃ t17, hcell h_1 ⟨c, 0, none⟩ = some (.int .i64 t17) ∧
 ∃ t25_p t25_l t25_c, hcell h_1 ⟨c, 6, none⟩ = some (.slice t25_p t25_l t25_c) ∧
 ∃ t30, hcell h_1 ⟨c, 7, none⟩ = some (.int .u64 t30) ∧
 ∃ t35, hcell h_1 ⟨c, 8, none⟩ = some (.int .i64 t35) ∧
 ∃ t40, hcell h_1 ⟨c, 9, none⟩ = some (.int .u64 t40) ∧
 (Cl 37 #[] h_1 fun v_1 h_2 =>
 ∃ t13, v_1 = .pointer t13 ∧
 hcell h_2 ⟨c, 9, none⟩ = some (.int .u64 t40) ∧
 hcell h_2 ⟨c, 8, none⟩ = some (.int .i64 t35) ∧
 hcell h_2 ⟨c, 7, none⟩ = some (.int .u64 t30) ∧
 hcell h_2 ⟨c, 6, none⟩ = some (.slice t25_p t25_l t25_c) ∧
 hcell h_2 ⟨c, 0, none⟩ = some (.int .i64 t17) ∧
 (Cl 40 #[.pointer t13, .int .i64 t17] h_2 fun v_2 h_3 =>
 ∃ t18, v_2 = .pointer t18 ∧
 hcell h_3 ⟨c, 9, none⟩ = some (.int .u64 t40) ∧
 hcell h_3 ⟨c, 8, none⟩ = some (.int .i64 t35) ∧
 hcell h_3 ⟨c, 7, none⟩ = some (.int .u64 t30) ∧
 hcell h_3 ⟨c, 6, none⟩ = some (.slice t25_p t25_l t25_c) ∧
 Dsz (convert 9 48 (.string t10_0)) h_3 fun v_3 h_4 =>
 ∃ t20_p t20_l t20_c, v_3 = .slice t20_p t20_l t20_c ∧
 hcell h_4 ⟨c, 9, none⟩ = some (.int .u64 t40) ∧
 hcell h_4 ⟨c, 8, none⟩ = some (.int .i64 t35) ∧
 hcell h_4 ⟨c, 7, none⟩ = some (.int .u64 t30) ∧
 hcell h_4 ⟨c, 6, none⟩ = some (.slice t25_p t25_l t25_c) ∧
 Cl 38 #[.pointer t18, .slice t20_p t20_l t20_c] h_4 fun v_4 h_5 =>
 ∃ t21, v_4 = .pointer t21 ∧
 hcell h_5 ⟨c, 9, none⟩ = some (.int .u64 t40) ∧
 hcell h_5 ⟨c, 8, none⟩ = some (.int .i64 t35) ∧
 hcell h_5 ⟨c, 7, none⟩ = some (.int .u64 t30) ∧
 hcell h_5 ⟨c, 6, none⟩ = some (.slice t25_p t25_l t25_c) ∧
 Cl 38 #[.pointer t21, .slice t25_p t25_l t25_c] h_5 fun v_5 h_6 =>
 ∃ t26, v_5 = .pointer t26 ∧
 hcell h_6 ⟨c, 9, none⟩ = some (.int .u64 t40) ∧
 hcell h_6 ⟨c, 8, none⟩ = some (.int .i64 t35) ∧
 hcell h_6 ⟨c, 7, none⟩ = some (.int .u64 t30) ∧
 Cl 39 #[.pointer t26, .int .u64 t30] h_6 fun v_6 h_7 =>
 ∃ t31, v_6 = .pointer t31 ∧
 hcell h_7 ⟨c, 9, none⟩ = some (.int .u64 t40) ∧
 hcell h_7 ⟨c, 8, none⟩ = some (.int .i64 t35) ∧
 Cl 40 #[.pointer t31, .int .i64 t35] h_7 fun v_7 h_8 =>
 ∃ t36, v_7 = .pointer t36 ∧
 hcell h_8 ⟨c, 9, none⟩ = some (.int .u64 t40) ∧
 Cl 39 #[.pointer t36, .int .u64 t40] h_8 fun v_8 h_9 =>
 ∃ t41, v_8 = .pointer t41 ∧
 Cl 41 #[.pointer t41] h_9 fun v_9 h_10 =>
 ∃ t42_p t42_l t42_c, v_9 = .slice t42_p t42_l t42_c ∧
 R (.slice t42_p t42_l t42_c) h_10) ∧
 (Dsz (convert 9 48 (.string t10_0)) h_2 fun v_10 h_11 =>
 ∃ t20_p_1 t20_l_1 t20_c_1, v_10 = .slice t20_p_1 t20_l_1 t20_c_1 ∧
 hcell h_11 ⟨c, 9, none⟩ = some (.int .u64 t40) ∧
 hcell h_11 ⟨c, 8, none⟩ = some (.int .i64 t35) ∧
 hcell h_11 ⟨c, 7, none⟩ = some (.int .u64 t30) ∧
 hcell h_11 ⟨c, 6, none⟩ = some (.slice t25_p t25_l t25_c) ∧
 hcell h_11 ⟨c, 0, none⟩ = some (.int .i64 t17) ∧
 Cl 40 #[.pointer t13, .int .i64 t17] h_11 fun v_11 h_12 =>
 ∃ t18_1, v_11 = .pointer t18_1 ∧
 hcell h_12 ⟨c, 9, none⟩ = some (.int .u64 t40) ∧
 hcell h_12 ⟨c, 8, none⟩ = some (.int .i64 t35) ∧
 hcell h_12 ⟨c, 7, none⟩ = some (.int .u64 t30) ∧
 hcell h_12 ⟨c, 6, none⟩ = some (.slice t25_p t25_l t25_c) ∧
 Cl 38 #[.pointer t18_1, .slice t20_p_1 t20_l_1 t20_c_1] h_12 fun v_12 h_13 =>
 ∃ t21_1, v_12 = .pointer t21_1 ∧
 hcell h_13 ⟨c, 9, none⟩ = some (.int .u64 t40) ∧
 hcell h_13 ⟨c, 8, none⟩ = some (.int .i64 t35) ∧
 hcell h_13 ⟨c, 7, none⟩ = some (.int .u64 t30) ∧
 hcell h_13 ⟨c, 6, none⟩ = some (.slice t25_p t25_l t25_c) ∧
 Cl 38 #[.pointer t21_1, .slice t25_p t25_l t25_c] h_13 fun v_13 h_14 =>
 ∃ t26_1, v_13 = .pointer t26_1 ∧
 hcell h_14 ⟨c, 9, none⟩ = some (.int .u64 t40) ∧
 hcell h_14 ⟨c, 8, none⟩ = some (.int .i64 t35) ∧
 hcell h_14 ⟨c, 7, none⟩ = some (.int .u64 t30) ∧
 Cl 39 #[.pointer t26_1, .int .u64 t30] h_14 fun v_14 h_15 =>
 ∃ t31_1, v_14 = .pointer t31_1 ∧
 hcell h_15 ⟨c, 9, none⟩ = some (.int .u64 t40) ∧
 hcell h_15 ⟨c, 8, none⟩ = some (.int .i64 t35) ∧
 Cl 40 #[.pointer t31_1, .int .i64 t35] h_15 fun v_15 h_16 =>
 ∃ t36_1, v_15 = .pointer t36_1 ∧
 hcell h_16 ⟨c, 9, none⟩ = some (.int .u64 t40) ∧
 Cl 39 #[.pointer t36_1, .int .u64 t40] h_16 fun v_16 h_17 =>
 ∃ t41_1, v_16 = .pointer t41_1 ∧
 Cl 41 #[.pointer t41_1] h_17 fun v_17 h_18 =>
 ∃ t42_p_1 t42_l_1 t42_c_1, v_17 = .slice t42_p_1 t42_l_1 t42_c_1 ∧
 R (.slice t42_p_1 t42_l_1 t42_c_1) h_18) ∧
 True) ∧
 (Dsz (convert 9 48 (.string t10_0)) h_1 fun v_18 h_19 =>
 ∃ t20_p_2 t20_l_2 t20_c_2, v_18 = .slice t20_p_2 t20_l_2 t20_c_2 ∧
 hcell h_19 ⟨c, 9, none⟩ = some (.int .u64 t40) ∧
 hcell h_19 ⟨c, 8, none⟩ = some (.int .i64 t35) ∧
 hcell h_19 ⟨c, 7, none⟩ = some (.int .u64 t30) ∧
 hcell h_19 ⟨c, 6, none⟩ = some (.slice t25_p t25_l t25_c) ∧
 hcell h_19 ⟨c, 0, none⟩ = some (.int .i64 t17) ∧
 Cl 37 #[] h_19 fun v_19 h_20 =>
 ∃ t13_1, v_19 = .pointer t13_1 ∧
 hcell h_20 ⟨c, 9, none⟩ = some (.int .u64 t40) ∧
 hcell h_20 ⟨c, 8, none⟩ = some (.int .i64 t35) ∧
 hcell h_20 ⟨c, 7, none⟩ = some (.int .u64 t30) ∧
 hcell h_20 ⟨c, 6, none⟩ = some (.slice t25_p t25_l t25_c) ∧
 hcell h_20 ⟨c, 0, none⟩ = some (.int .i64 t17) ∧
 Cl 40 #[.pointer t13_1, .int .i64 t17] h_20 fun v_20 h_21 =>
 ∃ t18_2, v_20 = .pointer t18_2 ∧
 hcell h_21 ⟨c, 9, none⟩ = some (.int .u64 t40) ∧
 hcell h_21 ⟨c, 8, none⟩ = some (.int .i64 t35) ∧
 hcell h_21 ⟨c, 7, none⟩ = some (.int .u64 t30) ∧
 hcell h_21 ⟨c, 6, none⟩ = some (.slice t25_p t25_l t25_c) ∧
 Cl 38 #[.pointer t18_2, .slice t20_p_2 t20_l_2 t20_c_2] h_21 fun v_21 h_22 =>
 ∃ t21_2, v_21 = .pointer t21_2 ∧
 hcell h_22 ⟨c, 9, none⟩ = some (.int .u64 t40) ∧
 hcell h_22 ⟨c, 8, none⟩ = some (.int .i64 t35) ∧
 hcell h_22 ⟨c, 7, none⟩ = some (.int .u64 t30) ∧
 hcell h_22 ⟨c, 6, none⟩ = some (.slice t25_p t25_l t25_c) ∧
 Cl 38 #[.pointer t21_2, .slice t25_p t25_l t25_c] h_22 fun v_22 h_23 =>
 ∃ t26_2, v_22 = .pointer t26_2 ∧
 hcell h_23 ⟨c, 9, none⟩ = some (.int .u64 t40) ∧
 hcell h_23 ⟨c, 8, none⟩ = some (.int .i64 t35) ∧
 hcell h_23 ⟨c, 7, none⟩ = some (.int .u64 t30) ∧
 Cl 39 #[.pointer t26_2, .int .u64 t30] h_23 fun v_23 h_24 =>
 ∃ t31_2, v_23 = .pointer t31_2 ∧
 hcell h_24 ⟨c, 9, none⟩ = some (.int .u64 t40) ∧
 hcell h_24 ⟨c, 8, none⟩ = some (.int .i64 t35) ∧
 Cl 40 #[.pointer t31_2, .int .i64 t35] h_24 fun v_24 h_25 =>
 ∃ t36_2, v_24 = .pointer t36_2 ∧
 hcell h_25 ⟨c, 9, none⟩ = some (.int .u64 t40) ∧
 Cl 39 #[.pointer t36_2, .int .u64 t40] h_25 fun v_25 h_26 =>
 ∃ t41_2, v_25 = .pointer t41_2 ∧
 Cl 41 #[.pointer t41_2] h_26 fun v_26 h_27 =>
 ∃ t42_p_2 t42_l_2 t42_c_2, v_26 = .slice t42_p_2 t42_l_2 t42_c_2 ∧
 R (.slice t42_p_2 t42_l_2 t42_c_2) h_27) ∧
 True) : Cl 65 #[.pointer (some ⟨c, 0, none⟩)] h R :=
 callsN [(5, fun _ => .plan (opL [1,2,3,4,6,9,10,11,12,14,15,16,17,19,20,21,22,24,25,26,27] (.alts (.fork 0 (.alts (.fork 5 (opL [7,8,13,18,23,28,29,30] .done) (.fork 7 (opL [5,8,13,18,23,28,29,30] .done) .noalt))) (.fork 7 (opL [0,5,8,13,18,23,28,29,30] .done) .noalt)))))] hv
theorem copies_Table_Save.walk {t : Nat} (hv :
 Cl 63 #[.pointer (some ⟨t, 0, none⟩)] h fun v h_1 =>
 ∃ t7, v = .bool t7 ∧
 ite (!t7)
 (  R (.slice none 0 0) h_1)
 (  ∃ t13, hcell h_1 ⟨t, 1, none⟩ = some (.int .i64 t13) ∧
 ∃ t18, hcell h_1 ⟨t, 2, none⟩ = some (.int .i64 t18) ∧
 ∃ t23, hcell h_1 ⟨t, 3, none⟩ = some (.int .i64 t23) ∧
 ∃ t28, hcell h_1 ⟨t, 4, none⟩ = some (.int .i64 t28) ∧
 ∃ t33, hcell h_1 ⟨t, 0, none⟩ = some (.map t33) ∧
 Cl 37 #[] h_1 fun v_1 h_2 =>
 ∃ t9, v_1 = .pointer t9 ∧
 hcell h_2 ⟨t, 0, none⟩ = some (.map t33) ∧
 hcell h_2 ⟨t, 4, none⟩ = some (.int .i64 t28) ∧
 hcell h_2 ⟨t, 3, none⟩ = some (.int .i64 t23) ∧
 hcell h_2 ⟨t, 2, none⟩ = some (.int .i64 t18) ∧
 hcell h_2 ⟨t, 1, none⟩ = some (.int .i64 t13) ∧
 Cl 40 #[.pointer t9, .int .i64 t13] h_2 fun v_2 h_3 =>
 ∃ t14, v_2 = .pointer t14 ∧
 hcell h_3 ⟨t, 0, none⟩ = some (.map t33) ∧
 hcell h_3 ⟨t, 4, none⟩ = some (.int .i64 t28) ∧
 hcell h_3 ⟨t, 3, none⟩ = some (.int .i64 t23) ∧
 hcell h_3 ⟨t, 2, none⟩ = some (.int .i64 t18) ∧
 Cl 40 #[.pointer t14, .int .i64 t18] h_3 fun v_3 h_4 =>
 ∃ t19, v_3 = .pointer t19 ∧
 hcell h_4 ⟨t, 0, none⟩ = some (.map t33) ∧
 hcell h_4 ⟨t, 4, none⟩ = some (.int .i64 t28) ∧
 hcell h_4 ⟨t, 3, none⟩ = some (.int .i64 t23) ∧
 Cl 40 #[.pointer t19, .int .i64 t23] h_4 fun v_4 h_5 =>
 ∃ t24, v_4 = .pointer t24 ∧
 hcell h_5 ⟨t, 0, none⟩ = some (.map t33) ∧
 hcell h_5 ⟨t, 4, none⟩ = some (.int .i64 t28) ∧
 Cl 40 #[.pointer t24, .int .i64 t28] h_5 fun v_5 h_6 =>
 ∃ t29, v_5 = .pointer t29 ∧
 hcell h_6 ⟨t, 0, none⟩ = some (.map t33) ∧
 ∃ t34 : Int, LenV Tryz.prog #[155] 3 (.map t33) h_6 (.int .i64 t34) ∧
 Cl 40 #[.pointer t29, .int .i64 t34] h_6 fun v_6 h_7 =>
 ∃ t35, v_6 = .pointer t35 ∧
 hcell h_7 ⟨t, 0, none⟩ = some (.map t33) ∧
 Cl 41 #[.pointer t35] h_7 fun v_7 h_8 =>
 ∃ t36_p t36_l t36_c, v_7 = .slice t36_p t36_l t36_c ∧
 hcell h_8 ⟨t, 0, none⟩ = some (.map t33) ∧
 NewP h_8 (.cells #[.slice t36_p t36_l t36_c] 48) fun b h_9 =>
 hcell h_9 ⟨t, 0, none⟩ = some (.map t33) ∧
 Cl 64 #[.pointer (some ⟨t, 0, none⟩)] h_9 fun v_8 h_10 =>
 ∃ t39_p t39_l t39_c, v_8 = .slice t39_p t39_l t39_c ∧
 ∃ (I : Option Addr → Nat → Nat → Int → Heap → Prop) (mu : Option Addr → Nat → Nat → Int → Heap → Nat), I (some ⟨b, 0, none⟩) 1 1 0 h_10 ∧ ∀ out_p out_l out_c t41 h_11, I out_p out_l out_c t41 h_11 →
 ite (decide (t41 < ((t39_l : Nat) : Int)))
 (  ((0 : Int) ≤ t41 ∧ t41 < ((t39_l : Nat) : Int)) ∧
 onSome t39_p fun a =>
 ∃ t44, hcell h_11 (a.add (Int.toNat t41 * 1)) = some (.int .i64 t44) ∧
 ∃ t49, hcell h_11 ⟨t, 0, none⟩ = some (.map t49) ∧
 ∃ t51, Lkz 155 (.map t49) (.int .i64 t44) false h_11 (.pointer t51) ∧
 Cl 65 #[.pointer t51] h_11 fun v_9 h_12 =>
 ∃ t52_p t52_l t52_c, v_9 = .slice t52_p t52_l t52_c ∧
 NewP h_12 (.cells #[.slice t52_p t52_l t52_c] 48) fun b_1 h_13 =>
 Dsz (Builtin.append_ #[44, 44] 44 #[.slice out_p out_l out_c, .slice (some ⟨b_1, 0, none⟩) 1 1]) h_13 fun v_10 h_14 =>
 ∃ t54_p t54_l t54_c, v_10 = .slice t54_p t54_l t54_c ∧
 (I t54_p t54_l t54_c (IntKind.wrap .i64 (t41 + 1)) h_14 ∧ mu t54_p t54_l t54_c (IntKind.wrap .i64 (t41 + 1)) h_14 < mu out_p out_l out_c t41 h_11))
 (  R (.slice out_p out_l out_c) h_11))) : Cl 35 #[.pointer (some ⟨t, 0, none⟩)] h R :=
 callsN [(11, fun _ => .plan (opL [1,2,3,4,6,7,8,9,11,12,13,14,16,17,18,19,21,22,23,24,0,5,10,15,20,25,26,27,28,29] .done)), (16, .loop [(3, sS), (41, sI)])] hv

end
section
open Go.Fields Go.Heapq
namespace Cps
open Eid Alarm Fld
variable {h h':Heap} {R:TyP} {t:Nat} {X:Ft} {s:CF} {m a1 a2:Nat} {xs:List CV} {S1 S2:Nat→Prop} {lab:Nat→Option Nat} {p:TyO} {n c:Nat}
variable {z:CV} {g:Heap} {b:Nat}
def recC (z : Cp) : List UInt8 := encNum z.num ++ encText (textE z.e) ++ encText z.d ++ encNum z.till ++ encNum (natOf z.ses) ++ encNum z.dl
structure okZ (z : Cp) : Prop where
  r : rightE z.e = true
  v : 0 ≤ z.e.svc
  d : z.d.length ≤ 600
  n : z.num ≤ 1000000
  t : z.till ≤ 1099511627776
  s0 : 0 ≤ z.ses
  s1 : z.ses ≤ 1099511627776
  l : z.dl ≤ 1099511627776
theorem encText_len (t : List UInt8) : (encText t).length ≤ t.length + 10 := by
  have := (encNum_len t.length).2
  unfold encText
  rw [List.length_append]; omega
theorem recC_len {z : Cp} (k : okZ z) : (recC z).length ≤ 1000 := by
  have l0 := text_len k.r k.v
  have l1 := encText_len (textE z.e)
  have l2 := encText_len z.d
  have l3 := k.d
  have e1 := (encNum_len z.num).2
  have e2 := (encNum_len z.till).2
  have e3 := (encNum_len (natOf z.ses)).2
  have e4 := (encNum_len z.dl).2
  unfold recC
  simp only [List.length_append]; omega
theorem ld_e {x : CV} {K : Bool → Int → Int → ByteArray → ByteArray → Prop} (hg : x.at g b) (hk : K x.e.ipn x.e.node x.e.svc x.e.host x.e.dem) : eid_Eid.LD g ⟨b, 1, none⟩ K :=
  ⟨_, cell_at hg rfl, _, cell_at hg rfl, _, cell_at hg rfl, _, cell_at hg rfl, _, cell_at hg rfl, hk⟩
theorem rec_tail {h1:Heap} {w : Nat} {S : Nat → Prop} {q : Option Addr} {dq : Nat} (k : okZ z.abs) (hb1 : z.at h1 b) (hrow : Row h1 z.v.p (bc z.v.b)) (fg : Fr No h1 g) (W : Wr g w S (encNum z.num)) (hS : ∀ y, S y → h1.size ≤ y) (row : Row g q (bc (textE z.e))) (hq : ∀ y, inBlk q y → ¬ S y)
    (hk : ∀ p' c' h', Own h' p' (recC z.abs).length c' 1 (bc (recC z.abs)) → Fr No h1 h' → (∀ y, inBlk p' y → h1.size ≤ y) → R (.slice p' (recC z.abs).length c') h') :
    hcell g ⟨b, 9, none⟩ = some (.int .u64 (z.dl : Int)) ∧ hcell g ⟨b, 8, none⟩ = some (.int .i64 z.ses) ∧ hcell g ⟨b, 7, none⟩ = some (.int .u64 (z.till : Int)) ∧ hcell g ⟨b, 6, none⟩ = some (.slice z.v.p z.v.b.length z.v.c) ∧
    Cl 38 #[.pointer (some ⟨w, 0, none⟩), .slice q (str (textE z.e)).size dq] g fun v_4 h_5 =>
    ∃ (t21 : Option Addr), v_4 = .pointer t21 ∧
    hcell h_5 ⟨b, 9, none⟩ = some (.int .u64 (z.dl : Int)) ∧
    hcell h_5 ⟨b, 8, none⟩ = some (.int .i64 z.ses) ∧
    hcell h_5 ⟨b, 7, none⟩ = some (.int .u64 (z.till : Int)) ∧
    hcell h_5 ⟨b, 6, none⟩ = some (.slice z.v.p z.v.b.length z.v.c) ∧
    Cl 38 #[.pointer t21, .slice z.v.p z.v.b.length z.v.c] h_5 fun v_5 h_6 =>
    ∃ (t26 : Option Addr), v_5 = .pointer t26 ∧
    hcell h_6 ⟨b, 9, none⟩ = some (.int .u64 (z.dl : Int)) ∧
    hcell h_6 ⟨b, 8, none⟩ = some (.int .i64 z.ses) ∧
    hcell h_6 ⟨b, 7, none⟩ = some (.int .u64 (z.till : Int)) ∧
    Cl 39 #[.pointer t26, .int .u64 (z.till : Int)] h_6 fun v_6 h_7 =>
    ∃ (t31 : Option Addr), v_6 = .pointer t31 ∧
    hcell h_7 ⟨b, 9, none⟩ = some (.int .u64 (z.dl : Int)) ∧
    hcell h_7 ⟨b, 8, none⟩ = some (.int .i64 z.ses) ∧
    Cl 40 #[.pointer t31, .int .i64 z.ses] h_7 fun v_7 h_8 =>
    ∃ (t36 : Option Addr), v_7 = .pointer t36 ∧
    hcell h_8 ⟨b, 9, none⟩ = some (.int .u64 (z.dl : Int)) ∧
    Cl 39 #[.pointer t36, .int .u64 (z.dl : Int)] h_8 fun v_8 h_9 =>
    ∃ (t41 : Option Addr), v_8 = .pointer t41 ∧
    Cl 41 #[.pointer t41] h_9 fun v_9 h_10 =>
    ∃ (t42_p : Option Addr) (t42_l t42_c : Nat), v_9 = .slice t42_p t42_l t42_c ∧
    R (.slice t42_p t42_l t42_c) h_10 := by
  have kr : rightE z.e = true := k.r
  have kv : 0 ≤ z.e.svc := k.v
  have kd : z.v.b.length ≤ 600 := k.d
  have kt : z.till ≤ 1099511627776 := k.t
  have k0 : 0 ≤ z.ses := k.s0
  have k1 : z.ses ≤ 1099511627776 := k.s1
  have kl : z.dl ≤ 1099511627776 := k.l
  have lb := lt_of_get hb1
  have bS : ∀ {S' : Nat → Prop}, (∀ y, S' y → h1.size ≤ y) → ¬ S' b := fun hh hn => by have := hh b hn; omega
  have l0 := text_len kr kv
  have lt1 := encText_len (textE z.e)
  have lt2 := encText_len z.v.b
  have e1 := (encNum_len z.num).2
  have e2 := (encNum_len z.till).2
  have e3 := (encNum_len (natOf z.ses)).2
  have hbg : z.at g b := fg.get hb1 id
  have zg := fg.1
  refine ⟨cell_at hbg rfl, cell_at hbg rfl, cell_at hbg rfl, cell_at hbg rfl, Fld.text_ok W (by omega) row (str_size _) (by omega) hq fun g1 S1 W1 st1 => ?_⟩
  have hS1 : ∀ y, S1 y → h1.size ≤ y := fun y hy => (st1.new y hy).elim (hS y) (fun h1 => by omega)
  have F1 := fg.fresh st1.fr hS
  have b1 : z.at g1 b := F1.get hb1 id
  have z1 := F1.1
  refine ⟨_, rfl, cell_at b1 rfl, cell_at b1 rfl, cell_at b1 rfl, cell_at b1 rfl, Fld.text_ok' W1 (by simp only [List.length_append]; omega) (hrow.frame F1 (fun _ _ => id)) rfl (by omega) (fun y hy hne hs => by have := row_lt hrow (by intro e; apply hne; have := congrArg List.length e; rw [bc_len] at this; exact List.length_eq_zero_iff.1 this) hy; have := hS1 y hs; omega) fun g2 S2 W2 st2 => ?_⟩
  have hS2 : ∀ y, S2 y → h1.size ≤ y := fun y hy => (st2.new y hy).elim (hS1 y) (fun h1 => by omega)
  have F2 := F1.fresh st2.fr hS1
  have b2 : z.at g2 b := F2.get hb1 id
  have z2 := F2.1
  refine ⟨_, rfl, cell_at b2 rfl, cell_at b2 rfl, cell_at b2 rfl, Fld.num_ok z.till W2 (by simp only [List.length_append]; omega) rfl (by omega) fun g3 S3 W3 st3 => ?_⟩
  have hS3 : ∀ y, S3 y → h1.size ≤ y := fun y hy => (st3.new y hy).elim (hS2 y) (fun h1 => by omega)
  have F3 := F2.fresh st3.fr hS2
  have b3 : z.at g3 b := F3.get hb1 id
  have z3 := F3.1
  refine ⟨_, rfl, cell_at b3 rfl, cell_at b3 rfl, Fld.int_ok W3 (by simp only [List.length_append]; omega) (by omega) fun g4 S4 W4 st4 => ?_⟩
  have hS4 : ∀ y, S4 y → h1.size ≤ y := fun y hy => (st4.new y hy).elim (hS3 y) (fun h1 => by omega)
  have F4 := F3.fresh st4.fr hS3
  have b4 : z.at g4 b := F4.get hb1 id
  have z4 := F4.1
  refine ⟨_, rfl, cell_at b4 rfl, Fld.num_ok z.dl W4 (by simp only [List.length_append]; omega) rfl (by omega) fun g5 S5 W5 st5 => ?_⟩
  have F5 := F4.fresh st5.fr hS4
  have er : encNum z.num ++ encText (textE z.e) ++ encText z.v.b ++ encNum z.till ++ encNum (natOf z.ses) ++ encNum z.dl = recC z.abs := rfl
  rw [er] at W5
  have lr := recC_len k
  refine ⟨_, rfl, Fld.bytes_ok W5 (by omega) fun p6 c6 g6 o6 f6 n6 => ⟨_, _, _, rfl, ?_⟩⟩
  have z5 := F5.1
  exact hk p6 c6 g6 o6 (F5.tt f6) (fun y hy => by have := n6 y hy; omega)
theorem record_ok (hb : z.at h b) (hrow : Row h z.v.p (bc z.v.b)) (k : okZ z.abs) (tb : Num.Tab h) (hk : ∀ p' c' h', Own h' p' (recC z.abs).length c' 1 (bc (recC z.abs)) → Fr No h h' → (∀ y, inBlk p' y → h.size ≤ y) → R (.slice p' (recC z.abs).length c') h') : Cl 65 #[.pointer (some ⟨b, 0, none⟩)] h R := by
  have kr : rightE z.e = true := k.r
  have kn : z.num ≤ 1000000 := k.n
  refine copies_record.walk (ld_e hb (Eid.text_ok z.e tb k.v fun h1 f1 => ?_))
  simp only [kr, if_true]
  have hb1  := f1.get hb id
  have z0 := f1.1
  have hrow1 := hrow.frame f1 (fun _ _ => id)
  have hk1 : ∀ p' c' h', Own h' p' (recC z.abs).length c' 1 (bc (recC z.abs)) → Fr No h1 h' → (∀ y, inBlk p' y → h1.size ≤ y) → R (.slice p' (recC z.abs).length c') h' := fun p' c' h' o f g => hk p' c' h' o (f1.tt f) (fun y hy => by grind)
  have tne : bc (textE z.e) ≠ [] := by
    intro e
    have := congrArg List.length e
    rw [bc_len] at this
    revert this
    unfold textE
    split <;> (try split) <;> simp
  refine ⟨_, _, rfl, _, cell_at hb1 rfl, _, _, _, cell_at hb1 rfl, _, cell_at hb1 rfl, _, cell_at hb1 rfl, _, cell_at hb1 rfl, ?_, ?_, trivial⟩
  · refine Fld.new_ok fun h2 w S W f2 n2 => ?_
    have b2  := f2.get hb1 id
    refine ⟨_, rfl, cell_at b2 rfl, cell_at b2 rfl, cell_at b2 rfl, cell_at b2 rfl, cell_at b2 rfl, ?_, ?_, trivial⟩
    · refine Fld.int_ok W (by simp) (by omega) fun h3 S3 W3 st3 => ?_
      have z2 := f2.1
      have F3 := f2.fresh st3.fr n2
      have b3  := F3.get hb1 id
      refine ⟨_, rfl, cell_at b3 rfl, cell_at b3 rfl, cell_at b3 rfl, cell_at b3 rfl, s2b fun q d h4 row cq f4 n4 => ⟨_, _, _, rfl, (rec_tail k hb1 hrow1 (F3.tt f4) (W3.frame f4 (fun _ _ => id)) (fun y hy => (st3.new y hy).elim (n2 y) (fun h1 => by omega)) row (fun y hy hs => by have := n4 y hy; have := W3.lt y hs; omega) hk1)⟩⟩
    · refine s2b fun q d h3 row cq f3 n3 => ⟨_, _, _, rfl, ?_⟩
      have b3  := (f2.tt f3).get hb1 id
      refine ⟨cell_at b3 rfl, cell_at b3 rfl, cell_at b3 rfl, cell_at b3 rfl, cell_at b3 rfl, Fld.int_ok (W.frame f3 (fun _ _ => id)) (by simp) (by omega) fun h4 S4 W4 st4 => ⟨_, rfl, ?_⟩⟩
      have z2 := (f2.tt f3).1
      refine rec_tail k hb1 hrow1 ((f2.tt f3).fresh st4.fr n2) W4 (fun y hy => (st4.new y hy).elim (n2 y) (fun h1 => by omega)) (row.frame st4.fr (fun a ea hs => by have := n3 a.block ⟨a, ea, rfl⟩; have := W.lt _ hs; omega)) (fun y hy hs => ?_) hk1
      have h1 := row_lt row tne hy
      have h2 := n3 y hy
      rcases st4.new y hs with h3 | h3
      · have := W.lt y h3; omega
      · omega
  · refine s2b fun q d h2 row cq f2 n2 => ⟨_, _, _, rfl, ?_⟩
    have b2  := f2.get hb1 id
    refine ⟨cell_at b2 rfl, cell_at b2 rfl, cell_at b2 rfl, cell_at b2 rfl, cell_at b2 rfl, Fld.new_ok fun h3 w S W f3 n3 => ?_⟩
    have b3  := (f2.tt f3).get hb1 id
    have z2 := f2.1
    have z3 := f3.1
    refine ⟨_, rfl, cell_at b3 rfl, cell_at b3 rfl, cell_at b3 rfl, cell_at b3 rfl, cell_at b3 rfl, Fld.int_ok W (by simp) (by omega) fun h4 S4 W4 st4 => ⟨_, rfl, ?_⟩⟩
    have hrl : ∀ y, inBlk q y → y < h2.size := fun y hy => row_lt row tne hy
    refine rec_tail k hb1 hrow1 ((f2.tt f3).fresh st4.fr (fun y hy => by grind)) W4 (fun y hy => (st4.new y hy).elim (fun h1 => by grind) (fun h1 => by omega)) ((row.frame f3 (fun _ _ => id)).frame st4.fr (fun a ea hs => by have := hrl a.block ⟨a, ea, rfl⟩; have := n3 _ hs; omega)) (fun y hy hs => ?_) hk1
    have h1 := hrl y hy
    rcases st4.new y hs with h3 | h3
    · grind
    · omega
def headC (s : CF) : List UInt8 := encNum s.next ++ encNum s.acked ++ encNum s.over ++ encNum s.gone ++ encNum s.L.length
def recsC (s : CF) : List (List UInt8) := headC s :: s.L.map recC
theorem save_ok (H : Ct h t X s) (sm : Small s) (hc : s.acked ≤ 50000 ∧ s.over ≤ 50000 ∧ s.gone ≤ 50000) (ok : ∀ z ∈ s.L, okZ z) (tb : Num.Tab h) (hk : ∀ h' p' l' c', BL h h' p' l' c' (recsC s) → Fr No h h' → R (.slice p' l' c') h') : Cl 35 #[.pointer (some ⟨t, 0, none⟩)] h R := by
  obtain ⟨m, xs, a1, S1, a2, S2, lab, H⟩ := H
  have sn := sm.n
  have sl := sm.l
  have xl := H.len
  refine copies_Table_Save.walk (made_ok H ⟨_, rfl, ?_⟩)
  rw [if_neg (by decide)]
  refine ⟨_, cell_at H.blk rfl, _, cell_at H.blk rfl, _, cell_at H.blk rfl, _, cell_at H.blk rfl, _, cell_at H.blk rfl, Fld.new_ok fun h1 w S W f1 n1 => ?_⟩
  have nn : ∀ k : Nat, natOf (k : Int) = k := fun k => by rfl
  have l1 := (encNum_len s.next).2
  have l2 := (encNum_len s.acked).2
  have l3 := (encNum_len s.over).2
  have l4 := (encNum_len s.gone).2
  have l5 := (encNum_len s.L.length).2
  have G1 := H.on f1
  refine ⟨_, rfl, cell_at G1.blk rfl, cell_at G1.blk rfl, cell_at G1.blk rfl, cell_at G1.blk rfl, cell_at G1.blk rfl, Fld.int_ok W (by simp) (by omega) fun h2 S2 W2 st2 => ?_⟩
  rw [nn, List.nil_append] at W2
  have z1 := f1.1
  have F2 := f1.fresh st2.fr n1
  have n2 : ∀ y, S2 y → h.size ≤ y := fun y hy => (st2.new y hy).elim (n1 y) (fun h1 => by omega)
  have G2 := H.on F2
  have z2 := F2.1
  refine ⟨_, rfl, cell_at G2.blk rfl, cell_at G2.blk rfl, cell_at G2.blk rfl, cell_at G2.blk rfl, Fld.int_ok W2 (by omega) (by omega) fun h3 S3 W3 st3 => ?_⟩
  rw [nn] at W3
  have F3 := F2.fresh st3.fr n2
  have n3 : ∀ y, S3 y → h.size ≤ y := fun y hy => (st3.new y hy).elim (n2 y) (fun h1 => by omega)
  have G3 := H.on F3
  have z3 := F3.1
  refine ⟨_, rfl, cell_at G3.blk rfl, cell_at G3.blk rfl, cell_at G3.blk rfl, Fld.int_ok W3 (by grind) (by omega) fun h4 S4 W4 st4 => ?_⟩
  rw [nn] at W4
  have F4 := F3.fresh st4.fr n3
  have n4 : ∀ y, S4 y → h.size ≤ y := fun y hy => (st4.new y hy).elim (n3 y) (fun h1 => by omega)
  have G4 := H.on F4
  have z4 := F4.1
  refine ⟨_, rfl, cell_at G4.blk rfl, cell_at G4.blk rfl, Fld.int_ok W4 (by grind) (by omega) fun h5 S5 W5 st5 => ?_⟩
  rw [nn] at W5
  have F5 := F4.fresh st5.fr n4
  have n5 : ∀ y, S5 y → h.size ≤ y := fun y hy => (st5.new y hy).elim (n4 y) (fun h1 => by omega)
  have G5 := H.on F5
  have z5 := F5.1
  refine ⟨_, rfl, cell_at G5.blk rfl, _, lenV_P mapTy G5.map, ?_⟩
  rw [List.length_map, xl]
  refine Fld.int_ok W5 (by simp only [List.length_append]; omega) (by omega) fun h6 S6 W6 st6 => ?_
  rw [nn] at W6
  have F6 := F5.fresh st6.fr n5
  have G6 := H.on F6
  have z6 := F6.1
  have er : encNum s.next ++ encNum s.acked ++ encNum s.over ++ encNum s.gone ++ encNum s.L.length = headC s := rfl
  rw [er] at W6
  have lh : (headC s).length ≤ 50 := by grind
  refine ⟨_, rfl, cell_at G6.blk rfl, Fld.bytes_ok W6 (by omega) fun p7 c7 h7 o7 f7 n7 => ⟨_, _, _, rfl, ?_⟩⟩
  have F7 := F6.tt f7
  have z7 := F7.1
  have B7 : BL h h7 none 0 0 [] := BL.nil
  refine ⟨cell_at (H.on F7).blk rfl, newP_of ?_⟩
  have f8 : Fr No h7 (h7.push (.cells #[.slice p7 (headC s).length c7] 48)) := Fr.push _ _
  have o8 : Own (h7.push (.cells #[.slice p7 (headC s).length c7] 48)) (some ⟨h7.size, 0, none⟩) 1 1 1 (nenc ⟨p7, c7, headC s⟩) := .row h7.size 0 _ _ rfl push_new (Nat.le_refl _) (by simp) rfl (fun j v hj => by grind)
  have B8 : BL h (h7.push (.cells #[.slice p7 (headC s).length c7] 48)) (some ⟨h7.size, 0, none⟩) 1 1 [headC s] := by
    refine ⟨[⟨p7, c7, headC s⟩], inBlk p7, rfl, by simpa using o8, rfl, ?_, ?_, fun y ⟨a, e, e2⟩ => by grind⟩
    · intro v hv
      obtain rfl := List.mem_singleton.1 hv
      exact BV.of_own (o7.frame f8 (fun _ _ => id)) (fun _ => id)
    · intro y hy
      have h1 := n7 y hy
      have h2 := o7.blk_lt hy
      exact ⟨by omega, by rw [Array.size_push]; omega, fun ⟨a, e, e2⟩ => by grind⟩
  generalize h7.push (.cells #[.slice p7 (headC s).length c7] 48) = h8 at f8 B8 ⊢
  generalize (some ⟨h7.size, 0, none⟩ : Option Addr) = p8 at B8 ⊢
  clear o8
  have F8 := F7.tt f8
  have G8 := H.on F8
  refine ⟨cell_at G8.blk rfl, numbers_ok G8 (by omega) fun h9 p9 c9 o9 n9 f9 => ⟨_, _, _, rfl, ?_⟩⟩
  have F9 := F8.tt f9
  have z8 := F8.1
  refine ⟨fun op ol oc q g => ∃ k : Nat, q = (k : Int) ∧ k ≤ xs.length ∧ BL h g op ol oc (headC s :: (s.L.take k).map recC) ∧ Fr No h g ∧ Own g p9 xs.length c9 1 ((nums xs).map ienc) ∧ (∀ y, inBlk op y → ¬ inBlk p9 y), fun _ _ _ q _ => xs.length - q.toNat, ⟨0, rfl, by omega, by simpa using B8.on f9, F9, o9, fun y hy hq => by have := B8.lt hy; have := n9 y hq; omega⟩, ?_⟩
  rintro op ol oc _ g ⟨k, rfl, hkn, B, fg, og, hdis⟩
  by_cases hlt : k < xs.length
  · have q1 : (k : Int) < ((xs.length : Nat) : Int) := by omega
    simp only [q1, decide_true, if_true, Int.toNat_natCast]
    have ⟨v, hx⟩ := getAt hlt
    have hLk : s.L[k]? = some v.abs := by rw [← H.abs, List.getElem?_map, hx]; rfl
    have hv := List.mem_of_getElem? hx
    have Gg := H.on fg
    obtain ⟨ab, aoff, rfl⟩ := og.addr (by omega)
    have cn := og.cell (j := k) (v := ienc (v.num : Int)) (by unfold nums; rw [List.map_map, List.getElem?_map, hx]; rfl)
    refine ⟨⟨by first | trivial | omega, by first | trivial | omega⟩, onSome_some.2 ⟨_, by rw [Nat.mul_one]; exact cn, _, cell_at Gg.blk rfl, _, look Gg hv, record_ok (Gg.cps v hv) (Gg.dat v hv).row (ok v.abs (List.mem_of_getElem? hLk)) (tb.on fg) fun p10 c10 h10 o10 f10 n10 => ⟨_, _, _, rfl, ?_⟩⟩⟩
    have zg := fg.1
    have bl := B.len
    rw [List.length_cons, List.length_map, List.length_take] at bl
    have ogl : ∀ y, inBlk (some (⟨ab, aoff, none⟩ : Addr)) y → y < g.size := fun y hy => og.blk_lt hy
    have bbl : ∀ y, inBlk op y → y < g.size := fun y hy => B.lt hy
    have z10 := f10.1
    refine (B.on f10).push (by omega) o10 (fun y hy => ⟨by have := n10 y hy; omega, fun ho => by grind⟩) (by omega) fun p11 c11 h11 B11 f11 g11 => ⟨_, _, _, rfl, ?_⟩
    rw [wrap_id (by omega) (by omega)]
    refine ⟨⟨k + 1, by omega, by omega, ?_, ?_, (og.frame f10 (fun _ _ => id)).frame f11 (fun y hy hq => hdis y hq hy), fun y hy hq => (g11 y hy).elim (fun h1 => hdis y h1 hq) (fun h1 => by have := ogl y hq; omega)⟩, by omega⟩
    · rw [List.take_add_one, hLk, List.map_append]
      rw [List.cons_append] at B11
      exact B11
    · obtain ⟨_, _, _, _, _, _, _, h6'⟩ := B
      exact (fg.tt f10).fresh f11 h6'
  · have q1 : ¬ (k : Int) < ((xs.length : Nat) : Int) := by omega
    simp only [q1, decide_false, Bool.false_eq_true, if_false]
    rw [List.take_of_length_le (by omega)] at B
    exact hk g op ol oc B fg

end Cps
end
section
open Go.Fields Go.Heapq
namespace Cps
open Eid Alarm Fld
variable {s:CF} {k:Nat}
theorem nd_le {α : Type} [DecidableEq α] : ∀ {l1 l2 : List α}, l1.Nodup → (∀ a ∈ l1, a ∈ l2) → l1.length ≤ l2.length
  | [], _, _, _ => Nat.zero_le _
  | a :: l, l2, h, hs => by
    have ⟨h1, h2⟩ := List.nodup_cons.1 h
    have := nd_le (l2 := l2.erase a) h2 (fun b hb => (List.mem_erase_of_ne (fun e => h1 (by grind))).2 (hs b (List.mem_cons_of_mem _ hb)))
    have h3 := List.length_erase_of_mem (hs a (by simp))
    have h4  := List.length_pos_of_mem (hs a (by simp))
    rw [List.length_cons]; omega
theorem nd_len {α : Type} [DecidableEq α] {l1 l2 : List α} (h1 : l1.Nodup) (h2 : l2.Nodup) (hs : ∀ a, a ∈ l1 ↔ a ∈ l2) : l1.length = l2.length :=
  Nat.le_antisymm (nd_le h1 (fun a ha => (hs a).1 ha)) (nd_le h2 (fun a ha => (hs a).2 ha))
theorem leased_len (ok : okC s) (O : Ord s) : s.E2.length = (s.L.filter (fun z => decide (z.ses ≠ 0))).length := by
  have e : ((s.L.filter (fun z => decide (z.ses ≠ 0))).map (fun z => (((z.num : Int), (z.dl : Int))))).length = (s.L.filter (fun z => decide (z.ses ≠ 0))).length := List.length_map ..
  rw [← e]
  refine nd_len ?_ ?_ fun a => ?_
  · have := O.n2
    exact (List.pairwise_map.1 this).imp (fun h e => h (congrArg _ e))
  · have h1 : ((s.L.filter (fun z => decide (z.ses ≠ 0))).map Cp.num).Nodup := List.Pairwise.sublist (List.Sublist.map _ List.filter_sublist) O.nd
    exact List.pairwise_map.2 ((List.pairwise_map.1 h1).imp (fun h e => h (Int.ofNat.inj (congrArg Prod.fst e))))
  · rw [ok.e2, List.mem_map]
    constructor
    · grind
    · grind
structure Good (s : CF) (k : Nat) : Prop where
  ok : okC s
  all : ∀ z ∈ s.L, okZ z
  may : ∀ z ∈ s.L, mayC z.e z.d.length (z.till : Int) = true
  fr : ∀ z ∈ s.L, z.ses = 0 → z.dl = 0
  full : ∀ e, (ofL s.L e).length ≤ 16
  len : s.next ≤ k + 1
theorem Good.nil : Good ⟨[], 1, 0, 0, 0, [], []⟩ 0 := ⟨⟨(fun z hz => by cases hz), (fun z hz => by cases hz), (fun e => by simp), (fun e => by simp), rfl⟩, (fun z hz => by cases hz), (fun z hz => by cases hz), (fun z hz => by cases hz), fun _ => Nat.zero_le _, Nat.le_refl _⟩
theorem Good.L (G : Good s k) : s.L.length ≤ k ∧ s.acked ≤ k ∧ s.over ≤ k ∧ s.gone ≤ k := by
  have := G.ok.cnt
  have := G.len
  omega
theorem Good.small (G : Good s k) (O : Ord s) (hk : k ≤ 40000) : Small s := by
  have h1 := G.L
  have h2 := G.len
  have nd : ∀ {l : List E}, (keys l).Nodup → l.Nodup := fun {l} hn => (List.pairwise_map.1 hn).imp (fun h e => h (congrArg _ e))
  have e1  := by
    have := nd_le (nd O.n1) (fun e he => by
      obtain ⟨z, hz, rfl⟩ := (G.ok.e1 e).1 he
      exact List.mem_map.2 ⟨z, hz, rfl⟩)
    rwa [List.length_map] at this
  have e2 : s.E2.length ≤ s.L.length := by
    rw [leased_len G.ok O]; exact List.length_filter_le _ _
  exact ⟨by omega, by omega, by omega, by omega⟩
theorem Good.more (G : Good s k) : Good s (k + 1) := ⟨G.ok, G.all, G.may, G.fr, G.full, by have := G.len; omega⟩
instance (ses : Int) (dl : Nat) : Decidable (mayS ses dl) := by unfold mayS; infer_instance

end Cps
end
section
variable {h:Heap} {R:TyP}
variable {x:Int}
theorem math_bits_Len.walk (hv :
 Cl 96 #[.int .u64 x] h fun v h_1 =>
 ∃ t7, v = .int .i64 t7 ∧
 R (.int .i64 t7) h_1) : Cl 56 #[.int .u64 x] h R :=
 callsN [] hv
theorem math_bits_Len64.walk (hv :
 JoinP (fun (x_1 : Int) (n : Int) h_1 =>
 JoinP (fun (x_2 : Int) (n_1 : Int) h_2 =>
 JoinP (fun (x_3 : Int) (n_2 : Int) h_3 =>
 ((0 : Int) ≤ IntKind.wrap .u8 x_3 ∧ IntKind.wrap .u8 x_3 < (((⟨#[0, 1, 2, 2, 3, 3, 3, 3, 4, 4, 4, 4, 4, 4, 4, 4, 5, 5, 5, 5, 5, 5, 5, 5, 5, 5, 5, 5, 5, 5, 5, 5, 6, 6, 6, 6, 6, 6, 6, 6, 6, 6, 6, 6, 6, 6, 6, 6, 6, 6, 6, 6, 6, 6, 6, 6, 6, 6, 6, 6, 6, 6, 6, 6, 7, 7, 7, 7, 7, 7, 7, 7, 7, 7, 7, 7, 7, 7, 7, 7, 7, 7, 7, 7, 7, 7, 7, 7, 7, 7, 7, 7, 7, 7, 7, 7, 7, 7, 7, 7, 7, 7, 7, 7, 7, 7, 7, 7, 7, 7, 7, 7, 7, 7, 7, 7, 7, 7, 7, 7, 7, 7, 7, 7, 7, 7, 7, 7, 8, 8, 8, 8, 8, 8, 8, 8, 8, 8, 8, 8, 8, 8, 8, 8, 8, 8, 8, 8, 8, 8, 8, 8, 8, 8, 8, 8, 8, 8, 8, 8, 8, 8, 8, 8, 8, 8, 8, 8, 8, 8, 8, 8, 8, 8, 8, 8, 8, 8, 8, 8, 8, 8, 8, 8, 8, 8, 8, 8, 8, 8, 8, 8, 8, 8, 8, 8, 8, 8, 8, 8, 8, 8, 8, 8, 8, 8, 8, 8, 8, 8, 8, 8, 8, 8, 8, 8, 8, 8, 8, 8, 8, 8, 8, 8, 8, 8, 8, 8, 8, 8, 8, 8, 8, 8, 8, 8, 8, 8, 8, 8, 8, 8, 8, 8, 8, 8, 8, 8, 8, 8, 8, 8, 8, 8, 8, 8]⟩ : ByteArray).size : Nat) : Int)) ∧
 R (.int .i64 (IntKind.wrap .i64 (n_2 + (IntKind.wrap .i64 ((((⟨#[0, 1, 2, 2, 3, 3, 3, 3, 4, 4, 4, 4, 4, 4, 4, 4, 5, 5, 5, 5, 5, 5, 5, 5, 5, 5, 5, 5, 5, 5, 5, 5, 6, 6, 6, 6, 6, 6, 6, 6, 6, 6, 6, 6, 6, 6, 6, 6, 6, 6, 6, 6, 6, 6, 6, 6, 6, 6, 6, 6, 6, 6, 6, 6, 7, 7, 7, 7, 7, 7, 7, 7, 7, 7, 7, 7, 7, 7, 7, 7, 7, 7, 7, 7, 7, 7, 7, 7, 7, 7, 7, 7, 7, 7, 7, 7, 7, 7, 7, 7, 7, 7, 7, 7, 7, 7, 7, 7, 7, 7, 7, 7, 7, 7, 7, 7, 7, 7, 7, 7, 7, 7, 7, 7, 7, 7, 7, 7, 8, 8, 8, 8, 8, 8, 8, 8, 8, 8, 8, 8, 8, 8, 8, 8, 8, 8, 8, 8, 8, 8, 8, 8, 8, 8, 8, 8, 8, 8, 8, 8, 8, 8, 8, 8, 8, 8, 8, 8, 8, 8, 8, 8, 8, 8, 8, 8, 8, 8, 8, 8, 8, 8, 8, 8, 8, 8, 8, 8, 8, 8, 8, 8, 8, 8, 8, 8, 8, 8, 8, 8, 8, 8, 8, 8, 8, 8, 8, 8, 8, 8, 8, 8, 8, 8, 8, 8, 8, 8, 8, 8, 8, 8, 8, 8, 8, 8, 8, 8, 8, 8, 8, 8, 8, 8, 8, 8, 8, 8, 8, 8, 8, 8, 8, 8, 8, 8, 8, 8, 8, 8, 8, 8, 8, 8, 8, 8]⟩ : ByteArray).data.toList.getD (Int.toNat (IntKind.wrap .u8 x_3)) 0).toNat : Nat) : Int))))) h_3)
 (fun J_2 =>
 ite (decide (x_2 ≥ 256))
 (  J_2 (Int.fdiv x_2 (2 ^ min (Int.toNat 8) (IntKind.bits .u64))) (IntKind.wrap .i64 (n_1 + 8)) h_2)
 (  J_2 x_2 n_1 h_2)))
 (fun J_1 =>
 ite (decide (x_1 ≥ 65536))
 (  J_1 (Int.fdiv x_1 (2 ^ min (Int.toNat 16) (IntKind.bits .u64))) (IntKind.wrap .i64 (n + 16)) h_1)
 (  J_1 x_1 n h_1)))
 (fun J =>
 ite (decide (x ≥ 4294967296))
 (  J (Int.fdiv x (2 ^ min (Int.toNat 32) (IntKind.bits .u64))) 32 h)
 (  J x 0 h))) : Cl 96 #[.int .u64 x] h R :=
 callsN [(5, .join [(0, sU), (2, sI)]), (13, .join [(0, sU), (2, sI)]), (21, .join [(0, sU), (2, sI)])] hv

end
section
namespace Regs
open Eid
variable {h h':Heap} {R:TyP} {b:Nat} {X:Ft} {L xs:List Rg} {m n c:Nat} {p:TyO}
theorem genc_one (r : Rg) : ∀ v ∈ genc r, oneCell v = true := by
  intro v hv
  simp only [List.mem_cons, List.not_mem_nil, or_false] at hv
  rcases hv with rfl | rfl | rfl | rfl | rfl | rfl | rfl <;> rfl
theorem cmp_ok (x y : Rg) (hk : ∀ h', Fr No h h' → R (.int .i64 (if lessE x.e y.e = true then -1 else 1)) h') : Cl 100 #[x.val, y.val] h R := by
  refine regs_Table_All_1.walk (regs_Reg.box fun b1 h1 e1 hb1 f1 => regs_Reg.box fun b2 h2 e2 hb2 f2 => ld_e (f2.get hb1 id) (ld_e hb2 (less_ok x.e y.e fun h3 f3 => ⟨_, rfl, ?_⟩)))
  have K := hk h3 (f1.tt (f2.tt f3))
  by_cases q : lessE x.e y.e = true
  · grind
  · grind
theorem tG : SlTy Tryz.prog 150 153 7 72 (Rg.zero).val := ⟨by kernel_rfl, by kernel_rfl, rfl⟩
theorem uG : Tryz.prog.underlying 150 = some (.slice 153) := by kernel_rfl
def unp (x : Ev × Value) : Rg :=
  match x.2 with
  | .agg ⟨[_, _, _, _, _, .int _ a, .int _ b]⟩ => ⟨x.1, a, b⟩
  | _ => .zero
abbrev KeysNd (xs : List Rg) : Prop := (xs.map Rg.e).Nodup
theorem KeysNd.ne {i j : Nat} {x y : Rg} (hn : KeysNd xs) (hx : xs[i]? = some x) (hy : xs[j]? = some y) (hij : i ≠ j) : x.e ≠ y.e := fun e => by
  apply hij
  exact (List.getElem?_inj (by grind) hn).1 (by grind)
theorem insertion_ok (o : Own h p n c 7 (xs.flatMap genc)) (hn : n = xs.length) (hl : xs.length ≤ 1000) (nd : KeysNd xs)
    (hk : ∀ h' (ys : List Rg), Own h' p n c 7 (ys.flatMap genc) → ys.Perm xs → ys.Pairwise rless → Fr (inBlk p) h h' → R (.tuple #[]) h') :
    Cl 201 #[.slice p n c, .int .i64 0, .int .i64 (n : Int), .func (.func 100) #[] #[]] h R := by
  subst hn
  refine slices_insertionSortCmpFunc_regs_Reg.reg.walk ?_
  have plen : ∀ {ys : List Rg}, ys.Perm xs → ys.length = xs.length := fun hp => hp.length_eq
  refine ⟨fun t g => ∃ (i : Nat) (ys : List Rg), t = (i : Int) ∧ 1 ≤ i ∧ (i ≤ xs.length ∨ i = 1) ∧ Own g p xs.length c 7 (ys.flatMap genc) ∧ ys.Perm xs ∧ SortedOn rless ys 0 i ∧ Fr (inBlk p) h g, fun t _ => xs.length - t.toNat, ⟨1, xs, by rfl, by omega, .inr rfl, o, .refl _, SortedOn.small (by omega), Fr.refl _ _⟩, ?_⟩
  rintro _ g ⟨i, ys, rfl, h1, h2, oy, py, sy, fy⟩
  have ly := plen py
  by_cases hi : i < xs.length
  · rw [if_pos (decide_eq_true (by omega))]
    refine ⟨fun t g' => ∃ (j : Nat) (zs : List Rg), t = (j : Int) ∧ j ≤ i ∧ Own g' p xs.length c 7 (zs.flatMap genc) ∧ InsI rless ys zs 0 i j ∧ Fr (inBlk p) h g', fun t _ => t.toNat, ⟨i, ys, rfl, Nat.le_refl _, oy, InsI.start sy, fy⟩, ?_⟩
    rintro _ g2 ⟨j, zs, rfl, hj, oz, Iz, fz⟩
    have pz := Iz.perm.trans py
    have lz := plen pz
    have ndz : KeysNd zs := (pz.map Rg.e).nodup_iff.2 nd
    obtain ⟨ab, ao, rfl⟩ := oz.addr (by omega)
    refine JoinP.of fun J hJ => ?_
    have stop : (j = 0 ∨ ∀ x y, zs[j]? = some x → zs[j - 1]? = some y → rless y x) → ∀ g3, Fr No g2 g3 → J false g3 := by
      intro he g3 f3
      subst hJ
      simp only [Bool.false_eq_true, if_false]
      rw [wrap_id (by omega) (by omega)]
      refine ⟨⟨i + 1, zs, by omega, by omega, .inl (by omega), oz.frame f3 (fun _ _ => id), pz, Iz.stop less_trans (Nat.zero_le _) hj (by omega) he, fz.on f3⟩, by omega⟩
    by_cases hj0 : 0 < j
    · have q2 : (j : Int) > 0 := by omega
      have e1 : IntKind.wrap .i64 ((j : Int) - 1) = ((j - 1 : Nat) : Int) := by rw [wrap_id (by omega) (by omega)]; omega
      have hx : zs[j]? = some (zs[j]'(by omega)) := List.getElem?_eq_getElem _
      have hy : zs[j - 1]? = some (zs[j - 1]'(by omega)) := List.getElem?_eq_getElem _
      generalize zs[j]'(by omega) = x at hx
      generalize zs[j - 1]'(by omega) = y at hy
      simp only [q2, decide_true, if_true, e1, Int.toNat_natCast] at hJ ⊢
      refine ⟨⟨by omega, by omega⟩, onSome_some.2 (regs_Reg.ldA (oz.heldAt genc_len hx) ⟨⟨by omega, by omega⟩, onSome_some.2 (regs_Reg.ldA (oz.heldAt genc_len hy) (cmp_ok x y fun g3 f3 => ⟨_, rfl, ?_⟩))⟩)⟩
      by_cases hl : lessE x.e y.e = true
      · rw [if_pos hl, decide_eq_true (by omega)]
        have oz3 := oz.frame f3 (fun _ _ => id)
        subst hJ
        simp only [if_true]
        refine ⟨⟨by omega, by omega⟩, onSome_some.2 (regs_Reg.ldA (oz3.heldAt genc_len hy) ⟨⟨by omega, by omega⟩, onSome_some.2 (regs_Reg.ldA (oz3.heldAt genc_len hx) ⟨⟨by omega, by omega⟩, onSome_some.2 (regs_Reg.stA (oz3.storeRow genc_len (genc_one y) (by omega) fun g4 o4 s4 q4 => ⟨⟨by omega, by omega⟩, onSome_some.2 (regs_Reg.stA (o4.storeRow genc_len (genc_one x) (by rw [List.length_set]; omega) fun g5 o5 s5 q5 => ?_))⟩))⟩)⟩)⟩
        have e5 : (zs.set j y).set (j - 1) x = swp zs j (j - 1) := swp_eq hx hy
        rw [e5] at o5
        have f5 : Fr (inBlk (some ⟨ab, ao, none⟩)) g3 g5 := ⟨by omega, fun z _ hn => by rw [q5 z hn, q4 z hn]⟩
        exact ⟨⟨j - 1, _, rfl, by omega, o5, Iz.swap hj0 hj (by omega) hx hy hl, (fz.on f3).tt f5⟩, by omega⟩
      · rw [if_neg hl, decide_eq_false (by omega)]
        refine stop (.inr fun x' y' hx' hy' => ?_) g3 f3
        rw [hx] at hx'; rw [hy] at hy'
        cases hx'; cases hy'
        exact (less_total (ndz.ne hx hy (by omega))).resolve_left hl
    · rw [if_neg (by simp only [decide_eq_true_eq]; omega)]
      exact stop (.inl (by omega)) g2 (Fr.refl _ _)
  · rw [if_neg (by simp only [decide_eq_true_eq]; omega)]
    have : SortedOn rless ys 0 ys.length := by
      rcases h2 with h2 | h2
      · grind
      · exact SortedOn.small (by omega)
    exact hk g ys oy py this.pair fy
theorem len_ok {x : Int} (hk : ∀ n : Int, R (.int .i64 n) h) : Cl 56 #[.int .u64 x] h R := by
  refine math_bits_Len.walk (math_bits_Len64.walk (JoinP.of fun J hJ => ?_))
  have w8 : ∀ n , 0 ≤ IntKind.wrap .u8 n ∧ IntKind.wrap .u8 n < 256 := fun n => by rw [IntKind.wrap_u8]; omega
  have k1 : ∀ y n, J y n h := by
    intro y n
    subst hJ
    refine JoinP.of fun J hJ => ?_
    have k2 : ∀ y n, J y n h := by
      intro y n
      subst hJ
      refine JoinP.of fun J hJ => ?_
      have k3 : ∀ y n, J y n h := by
        intro y n
        subst hJ
        exact ⟨w8 y, _, rfl, hk _⟩
      split
      · grind
      · exact k3 _ _
    split
    · grind
    · exact k2 _ _
  split
  · exact k1 _ _
  · grind
theorem sort_ok (o : Own h p n c 7 (xs.flatMap genc)) (hn : n = xs.length) (hl : xs.length ≤ 12) (nd : KeysNd xs)
    (hk : ∀ h' (ys : List Rg), Own h' p n c 7 (ys.flatMap genc) → ys.Perm xs → ys.Pairwise rless → Fr (inBlk p) h h' → R (.tuple #[]) h') :
    Cl 99 #[.slice p n c, .func (.func 100) #[] #[]] h R := by
  subst hn
  refine slices_SortFunc_s_regs_Reg_regs_Reg.reg.walk (len_ok fun lim => ⟨_, rfl, slices_pdqsortCmpFunc_regs_Reg.reg.walk ⟨fun a b l _ _ g => a = 0 ∧ b = ((xs.length : Nat)) ∧ l = lim ∧ g = h, fun _ _ _ _ _ _ => 0, ⟨rfl, rfl, rfl, rfl⟩, ?_⟩⟩)
  rintro _ _ _ wb wp _ ⟨rfl, rfl, rfl, rfl⟩
  refine JoinP.of fun J hJ => ?_
  rw [wrap_id (by omega) (by omega), if_pos (by grind)]
  exact insertion_ok o rfl (by omega) nd fun h' ys o' p' s' f' => ⟨rfl, rfl, hk h' ys o' p' s' f'⟩
theorem all_ok (H : Tb h b X L) (hl : L.length ≤ 12) (hk : ∀ h' p' c', Own h' p' L.length c' 7 (L.flatMap genc) → (∀ y, inBlk p' y → h.size ≤ y) → Fr No h h' → R (.slice p' L.length c') h') :
    Cl 61 #[.pointer (some ⟨b, 0, none⟩)] h R := by
  have ⟨m, H⟩ := H
  refine regs_Table_All.walk (made_ok H ⟨_, rfl, JoinP.of fun J hJ => ?_⟩)
  rw [if_pos rfl]
  refine ⟨_, cell_at H.blk rfl, den_rangeP mapTy H.map fun it h1 e1 I1 f1 => ⟨_, rfl, ?_⟩⟩
  refine ⟨fun op ol oc g => ∃ ys : List Rg, ol = ys.length ∧ Own g op ol oc 7 (ys.flatMap genc) ∧ (∀ y, inBlk op y → h.size ≤ y ∧ y ≠ it) ∧ Iter g it m ev5 (L.map Rg.pair) (ys.map Rg.pair) ∧ Fr No h g, fun _ ol _ _ => L.length - ol,
    ⟨[], rfl, .nil rfl rfl rfl rfl, (fun y ⟨a, e, _⟩ => by cases e), I1, f1⟩, ?_⟩
  rintro op ol oc g ⟨ys, rfl, oy, gy, Iy, fy⟩
  have zy := fy.1
  have hle := Iy.le
  rw [List.length_map, List.length_map] at hle
  refine den_nextP Iy (fun hp => .inl ⟨rfl, ?_⟩) (fun a v g1 hm hnm I1 s1 o1 => .inr ⟨_, _, rfl, ?_⟩)
  · subst hJ
    have hperm  := by
      have e : ∀ l : List Rg, (l.map Rg.pair).map unp = l := fun l => by
        rw [List.map_map]
        conv => rhs; rw [← List.map_id l]
        exact List.map_congr_left (fun r _ => rfl)
      have := hp.map unp
      rwa [e, e] at this
    have nd  := (hperm.map Rg.e).nodup_iff.2 (keys_nodup H.so)
    have hlen := hperm.length_eq
    refine sort_ok oy rfl (by omega) nd fun h3 zs o3 p3 s3 f3 => ⟨rfl, ?_⟩
    have  := (List.Perm.eq_of_pairwise (fun a b _ _ h1 h2 => by have := less_trans h1 h2; rw [less_irrefl] at this; cases this) s3 H.so (p3.trans hperm))
    subst this
    rw [hlen] at o3 ⊢
    exact hk h3 op oc o3 (fun y hy => (gy y hy).1) (fy.fresh f3 (fun y hy => (gy y hy).1))
  · have ⟨r, hr, e⟩ := List.mem_map.1 hm
    have ea  := (congrArg Prod.fst e).symm
    have ev  := (congrArg Prod.snd e).symm
    subst ea ev
    refine den_entryP I1 ⟨_, _, rfl, _, _, _, _, _, _, _, rfl, regs_Reg.new fun b2 g2 e2 hb2 f2 => regs_Reg.ld hb2 (newP_of ?_)⟩
    have f3 : Fr No g2 (g2.push (.cells #[.bool r.e.ipn, .int .u64 r.e.node, .int .u64 r.e.svc, .string r.e.host, .string r.e.dem, .int .i64 r.pol, .int .i64 r.own] 153)) := Fr.push _ _
    have r3 : Row (g2.push (.cells #[.bool r.e.ipn, .int .u64 r.e.node, .int .u64 r.e.svc, .string r.e.host, .string r.e.dem, .int .i64 r.pol, .int .i64 r.own] 153)) (some ⟨g2.size, 0, none⟩) (genc r) := row_new
    generalize g2.push (.cells #[.bool r.e.ipn, .int .u64 r.e.node, .int .u64 r.e.svc, .string r.e.host, .string r.e.dem, .int .i64 r.pol, .int .i64 r.own] 153) = g3 at f3 r3 ⊢
    have fit : Fr (fun y => y = it) g g1 := ⟨by omega, fun y _ hn => o1 y hn⟩
    have oy1 := (oy.frame fit (fun y hy e => (gy y hy).2 e)).frame (f2.tt f3) (fun _ _ => id)
    have F1  := fy.fresh fit (fun y e => by omega)
    have F3 := F1.tt (f2.tt f3)
    have hsz  := (f2.tt f3).1
    have itlt : it < g1.size := by
      have ⟨_, _, _, _, _, _, hr, _⟩ := I1
      exact lt_of_get hr
    refine den_append tG uG oy1 r3 rfl (genc_one r) (by omega) (by omega) fun p4 c4 g4 o4 _ f4 k4 => ⟨_, _, _, rfl, ?_⟩
    have hp4 : ∀ y, inBlk p4 y → h.size ≤ y ∧ y ≠ it := by
      grind
    refine ⟨⟨ys ++ [r], by simp, ?_, hp4, ?_, F3.fresh f4 (fun y hy => (gy y hy).1)⟩, ?_⟩
    · grind
    · rw [List.map_append]
      have hmb : m < h.size := H.map.lt
      exact (I1.frame (f2.tt f3) id id).frame f4 (fun hy => (gy it hy).2 rfl) (fun hy => by grind)
    · have := I1.le
      rw [List.length_append, List.length_map, List.length_map, List.length_singleton] at this
      show L.length - (ys.length + 1) < L.length - ys.length
      omega

end Regs
end
section
variable {h:Heap} {R:TyP}
theorem regs_Table_Save.walk {t : Nat} (hv :
 Cl 61 #[.pointer (some ⟨t, 0, none⟩)] h fun v h_1 =>
 ∃ t7_p t7_l t7_c, v = .slice t7_p t7_l t7_c ∧
 ∃ (I : Option Addr → Nat → Nat → Int → Heap → Prop) (mu : Option Addr → Nat → Nat → Int → Heap → Nat), I none 0 0 0 h_1 ∧ ∀ out_p out_l out_c t9 h_2, I out_p out_l out_c t9 h_2 →
 ite (decide (t9 < ((t7_l : Nat) : Int)))
 (  ((0 : Int) ≤ t9 ∧ t9 < ((t7_l : Nat) : Int)) ∧
 onSome t7_p fun a =>
 regs_Reg.LD h_2 (a.add (Int.toNat t9 * 7)) fun t12_0 t12_1 t12_2 t12_3 t12_4 t12_5 t12_6 =>
 NewP h_2 (.cells #[.bool false, .int .u64 0, .int .u64 0, .string (⟨#[]⟩ : ByteArray), .string (⟨#[]⟩ : ByteArray), .int .i64 0, .int .i64 0] 153) fun b h_3 =>
 regs_Reg.ST h_3 ⟨b, 0, none⟩ t12_0 t12_1 t12_2 t12_3 t12_4 t12_5 t12_6 fun h_4 =>
 regs_Reg.LD h_4 ⟨b, 0, none⟩ fun t14_0 t14_1 t14_2 t14_3 t14_4 t14_5 t14_6 =>
 Cl 62 #[.agg #[.bool t14_0, .int .u64 t14_1, .int .u64 t14_2, .string t14_3, .string t14_4, .int .i64 t14_5, .int .i64 t14_6]] h_4 fun v_1 h_5 =>
 ∃ t15_p t15_l t15_c, v_1 = .slice t15_p t15_l t15_c ∧
 NewP h_5 (.cells #[.slice t15_p t15_l t15_c] 48) fun b_1 h_6 =>
 Dsz (Builtin.append_ #[44, 44] 44 #[.slice out_p out_l out_c, .slice (some ⟨b_1, 0, none⟩) 1 1]) h_6 fun v_2 h_7 =>
 ∃ t17_p t17_l t17_c, v_2 = .slice t17_p t17_l t17_c ∧
 (I t17_p t17_l t17_c (IntKind.wrap .i64 (t9 + 1)) h_7 ∧ mu t17_p t17_l t17_c (IntKind.wrap .i64 (t9 + 1)) h_7 < mu out_p out_l out_c t9 h_2))
 (  R (.slice out_p out_l out_c) h_2)) : Cl 34 #[.pointer (some ⟨t, 0, none⟩)] h R :=
 callsN [(8, .loop [(3, sS), (9, sI)])] hv
theorem regs_record.walk {r_0 : Bool} {r_1 : Int} {r_2 : Int} {r_3 : ByteArray} {r_4 : ByteArray} {r_5 : Int} {r_6 : Int} (hv :
 NewP h (.cells #[.bool r_0, .int .u64 r_1, .int .u64 r_2, .string r_3, .string r_4, .int .i64 r_5, .int .i64 r_6] 153) fun b h_1 =>
 eid_Eid.LD h_1 ⟨b, 0, none⟩ fun t7_0 t7_1 t7_2 t7_3 t7_4 =>
 Cl 32 #[.agg #[.bool t7_0, .int .u64 t7_1, .int .u64 t7_2, .string t7_3, .string t7_4]] h_1 fun v h_2 =>
 ∃ t8_0 t8_1, v = .tuple #[.string t8_0, .int .i64 t8_1] ∧
 ∃ t16, hcell h_2 ⟨b, 5, none⟩ = some (.int .i64 t16) ∧
 ∃ t19, hcell h_2 ⟨b, 6, none⟩ = some (.int .i64 t19) ∧
 (Cl 37 #[] h_2 fun v_1 h_3 =>
 ∃ t11, v_1 = .pointer t11 ∧
 hcell h_3 ⟨b, 6, none⟩ = some (.int .i64 t19) ∧
 hcell h_3 ⟨b, 5, none⟩ = some (.int .i64 t16) ∧
 Dsz (convert 9 48 (.string t8_0)) h_3 fun v_2 h_4 =>
 ∃ t13_p t13_l t13_c, v_2 = .slice t13_p t13_l t13_c ∧
 hcell h_4 ⟨b, 6, none⟩ = some (.int .i64 t19) ∧
 hcell h_4 ⟨b, 5, none⟩ = some (.int .i64 t16) ∧
 Cl 38 #[.pointer t11, .slice t13_p t13_l t13_c] h_4 fun v_3 h_5 =>
 ∃ t14, v_3 = .pointer t14 ∧
 hcell h_5 ⟨b, 6, none⟩ = some (.int .i64 t19) ∧
 hcell h_5 ⟨b, 5, none⟩ = some (.int .i64 t16) ∧
 Cl 40 #[.pointer t14, .int .i64 t16] h_5 fun v_4 h_6 =>
 ∃ t17, v_4 = .pointer t17 ∧
 hcell h_6 ⟨b, 6, none⟩ = some (.int .i64 t19) ∧
 Cl 40 #[.pointer t17, .int .i64 t19] h_6 fun v_5 h_7 =>
 ∃ t20, v_5 = .pointer t20 ∧
 Cl 41 #[.pointer t20] h_7 fun v_6 h_8 =>
 ∃ t21_p t21_l t21_c, v_6 = .slice t21_p t21_l t21_c ∧
 R (.slice t21_p t21_l t21_c) h_8) ∧
 (Dsz (convert 9 48 (.string t8_0)) h_2 fun v_7 h_9 =>
 ∃ t13_p_1 t13_l_1 t13_c_1, v_7 = .slice t13_p_1 t13_l_1 t13_c_1 ∧
 hcell h_9 ⟨b, 6, none⟩ = some (.int .i64 t19) ∧
 hcell h_9 ⟨b, 5, none⟩ = some (.int .i64 t16) ∧
 Cl 37 #[] h_9 fun v_8 h_10 =>
 ∃ t11_1, v_8 = .pointer t11_1 ∧
 hcell h_10 ⟨b, 6, none⟩ = some (.int .i64 t19) ∧
 hcell h_10 ⟨b, 5, none⟩ = some (.int .i64 t16) ∧
 Cl 38 #[.pointer t11_1, .slice t13_p_1 t13_l_1 t13_c_1] h_10 fun v_9 h_11 =>
 ∃ t14_1, v_9 = .pointer t14_1 ∧
 hcell h_11 ⟨b, 6, none⟩ = some (.int .i64 t19) ∧
 hcell h_11 ⟨b, 5, none⟩ = some (.int .i64 t16) ∧
 Cl 40 #[.pointer t14_1, .int .i64 t16] h_11 fun v_10 h_12 =>
 ∃ t17_1, v_10 = .pointer t17_1 ∧
 hcell h_12 ⟨b, 6, none⟩ = some (.int .i64 t19) ∧
 Cl 40 #[.pointer t17_1, .int .i64 t19] h_12 fun v_11 h_13 =>
 ∃ t20_1, v_11 = .pointer t20_1 ∧
 Cl 41 #[.pointer t20_1] h_13 fun v_12 h_14 =>
 ∃ t21_p_1 t21_l_1 t21_c_1, v_12 = .slice t21_p_1 t21_l_1 t21_c_1 ∧
 R (.slice t21_p_1 t21_l_1 t21_c_1) h_14) ∧
 True) : Cl 62 #[.agg #[.bool r_0, .int .u64 r_1, .int .u64 r_2, .string r_3, .string r_4, .int .i64 r_5, .int .i64 r_6]] h R :=
 callsN [(5, fun _ => .plan (opL [1,4,5,7,8] (.alts (.fork 0 (opL [2,3,6,9,10,11] .done) (.fork 2 (opL [0,3,6,9,10,11] .done) .noalt)))))] hv

end
section
open Go.Fields
namespace Regs
open Eid Fld
variable {h h':Heap} {R:TyP} {b:Nat} {X:Ft} {L:List Rg} {r:Rg}
def recR (r : Rg) : List UInt8 := encText (textE r.e) ++ encNum (natOf r.pol) ++ encNum (natOf r.own)
structure okR (r : Rg) : Prop where
  rt : rightR r = true
  sv : 0 ≤ r.e.svc
theorem okR.e (k : okR r) : rightE r.e = true ∧ 0 ≤ r.pol ∧ r.pol ≤ 2 ∧ 1 ≤ r.own ∧ r.own ≤ 1099511627776 := by
  have := k.rt
  unfold rightR at this
  simp only [Bool.and_eq_true, Bool.not_eq_true', decide_eq_true_eq, decide_eq_false_iff_not] at this
  exact ⟨this.1, this.2.2.1.1, this.2.2.1.2, this.2.2.2.1, this.2.2.2.2⟩
theorem recR_len (k : okR r) : (recR r).length ≤ 200 := by
  have l0 := text_len k.e.1 k.sv
  have l1 := (encNum_len (textE r.e).length).2
  have l2 := (encNum_len (natOf r.pol)).2
  have l3 := (encNum_len (natOf r.own)).2
  unfold recR encText
  simp only [List.length_append]; omega
theorem record_ok (k : okR r) (tb : Num.Tab h) (hk : ∀ p' c' h', Own h' p' (recR r).length c' 1 (bc (recR r)) → Fr No h h' → (∀ y, inBlk p' y → h.size ≤ y) → R (.slice p' (recR r).length c') h') : Cl 62 #[r.val] h R := by
  have ke := k.e
  refine regs_record.walk (regs_Reg.box fun b h1 eb hb f1 => ld_e hb (Eid.text_ok r.e (tb.on f1) k.sv fun h2 f2 => ?_))
  simp only [ke.1, if_true]
  refine ⟨_, _, rfl, ?_⟩
  have hb2  := f2.get hb id
  have F2 := f1.tt f2
  have l0 := text_len ke.1 k.sv
  have sz : (str (textE r.e)).size = (textE r.e).length := str_size _
  have dt : (str (textE r.e)).data.toList = textE r.e := by rfl
  have tail : ∀ g (w : Nat) (S : Nat → Prop) q d, Fr No h2 g → Wr g w S [] → (∀ y, S y → h2.size ≤ y) → Row g q (bc (textE r.e)) → (∀ y, inBlk q y → ¬ S y) → hcell g ⟨b, 6, none⟩ = some (.int .i64 r.own) ∧ hcell g ⟨b, 5, none⟩ = some (.int .i64 r.pol) ∧ Cl 38 #[.pointer (some ⟨w, 0, none⟩), .slice q (str (textE r.e)).size d] g fun v_3 h_5 =>
      ∃ (t14 : Option Addr), v_3 = .pointer t14 ∧
      hcell h_5 ⟨b, 6, none⟩ = some (.int .i64 r.own) ∧
      hcell h_5 ⟨b, 5, none⟩ = some (.int .i64 r.pol) ∧
      Cl 40 #[.pointer t14, .int .i64 r.pol] h_5 fun v_4 h_6 =>
      ∃ (t17 : Option Addr), v_4 = .pointer t17 ∧
      hcell h_6 ⟨b, 6, none⟩ = some (.int .i64 r.own) ∧
      Cl 40 #[.pointer t17, .int .i64 r.own] h_6 fun v_5 h_7 =>
      ∃ (t20 : Option Addr), v_5 = .pointer t20 ∧
      Cl 41 #[.pointer t20] h_7 fun v_6 h_8 =>
      ∃ (t21_p : Option Addr) (t21_l t21_c : Nat), v_6 = .slice t21_p t21_l t21_c ∧
      R (.slice t21_p t21_l t21_c) h_8 := by
    intro g w S q d fg W hS row hq
    have bS : ∀ {S' : Nat → Prop}, (∀ y, S' y → h2.size ≤ y) → ¬ S' b := fun hh hn => by have := hh b hn; have := lt_of_get hb2; omega
    have hbg  := fg.get hb2 id
    have zg := fg.1
    refine ⟨cell_at hbg rfl, cell_at hbg rfl, Fld.text_ok W (by simp) row sz (by omega) hq fun g1 S1 W1 st1 => ?_⟩
    have hS1  := fun y hy => (st1.new y hy).elim (hS y) (fun h1 => by omega)
    have hb1  := st1.fr.get hbg (bS hS)
    have z1 := st1.fr.1
    have lt := text_len ke.1 k.sv
    have l1 := (encNum_len (textE r.e).length).2
    have l2 := (encNum_len (natOf r.pol)).2
    have l3 := (encNum_len (natOf r.own)).2
    have el : (encText (textE r.e)).length = (encNum (textE r.e).length).length + (textE r.e).length := by unfold encText; rw [List.length_append]
    refine ⟨_, rfl, cell_at hb1 rfl, cell_at hb1 rfl, int_ok W1 (by grind) (by omega) fun g2 S2 W2 st2 => ⟨_, rfl, ?_⟩⟩
    have hS2  := fun y hy => (st2.new y hy).elim (hS1 y) (fun h1 => by omega)
    have hb2'  := st2.fr.get hb1 (bS hS1)
    have z2 := st2.fr.1
    refine ⟨cell_at hb2' rfl, int_ok W2 (by grind) (by omega) fun g3 S3 W3 st3 => ⟨_, rfl, ?_⟩⟩
    have hS3  := fun y hy => (st3.new y hy).elim (hS2 y) (fun h1 => by omega)
    have er : [] ++ encText (textE r.e) ++ encNum (natOf r.pol) ++ encNum (natOf r.own) = recR r := by rfl
    rw [er] at W3
    have lr := recR_len k
    refine bytes_ok W3 (by omega) fun p4 c4 g4 o4 f4 n4 => ⟨_, _, _, rfl, ?_⟩
    have F3  := ((fg.fresh st1.fr hS).fresh st2.fr hS1).fresh st3.fr hS2
    have z3 := F3.1
    have zz := F2.1
    exact hk p4 c4 g4 o4 (F2.tt (F3.tt f4)) (fun y hy => by have := n4 y hy; omega)
  refine ⟨_, cell_at hb2 rfl, _, cell_at hb2 rfl, Fld.new_ok fun h3 w S W f3 n3 => ⟨_, rfl, cell_at (f3.get hb2 id) rfl, cell_at (f3.get hb2 id) rfl, s2b fun q d h4 row cq f4 n4 => ⟨_, _, _, rfl, ?_⟩⟩, s2b fun q d h3 row cq f3 n3 => ⟨_, _, _, rfl, cell_at (f3.get hb2 id) rfl, cell_at (f3.get hb2 id) rfl, Fld.new_ok fun h4 w S W f4 n4 => ⟨_, rfl, ?_⟩⟩, trivial⟩
  · exact tail h4 w S q d (f3.tt f4) (W.frame f4 (fun _ _ => id)) n3 row (fun y hy hs => by have := n4 y hy; have := W.lt y hs; omega)
  · rw [dt] at row
    have z3 := f3.1
    refine tail h4 w S q d (f3.tt f4) W (fun y hy => by grind) (row.frame f4 (fun _ _ => id)) (fun y hy hs => ?_)
    have h1 := n4 y hs
    have h2 := row_lt row (by unfold textE; intro e; have := congrArg List.length e; rw [bc_len] at this; revert this; split <;> (try split) <;> simp) hy
    omega
theorem save_ok (H : Tb h b X L) (hl : L.length ≤ 12) (ok : ∀ r ∈ L, okR r) (tb : Num.Tab h) (hk : ∀ h' p' l' c', BL h h' p' l' c' (L.map recR) → Fr No h h' → R (.slice p' l' c') h') : Cl 34 #[.pointer (some ⟨b, 0, none⟩)] h R := by
  refine regs_Table_Save.walk (all_ok H hl fun h1 p1 c1 o1 n1 f1 => ⟨_, _, _, rfl, ?_⟩)
  refine ⟨fun op ol oc t g => ∃ k : Nat, t = (k) ∧ k ≤ L.length ∧ BL h1 g op ol oc ((L.take k).map recR) ∧ Fr No h1 g, fun _ _ _ t _ => L.length - t.toNat, ⟨0, rfl, by omega, by simpa using BL.nil, Fr.refl _ _⟩, ?_⟩
  rintro op ol oc _ g ⟨k, rfl, hkn, B, fg⟩
  by_cases hlt : k < L.length
  · have q1 : (k : Int) < ((L.length : Nat) : Int) := by omega
    simp only [q1, decide_true, if_true, Int.toNat_natCast]
    have hx  := List.getElem?_eq_getElem hlt
    generalize L[k] = v at hx
    have og := o1.frame fg (fun _ _ => id)
    obtain ⟨ab, aoff, rfl⟩ := og.addr (by omega)
    refine ⟨⟨by omega, by first | trivial | omega⟩, onSome_some.2 (regs_Reg.ldA (og.heldAt genc_len hx) (regs_Reg.new fun b2 h2 e2 hb2 f2 => regs_Reg.ld hb2 ?_))⟩
    have F2 := f1.tt (fg.tt f2)
    refine record_ok (r := v) (ok v (List.mem_of_getElem? hx)) (tb.on F2) fun p3 c3 h3 o3 f3 n3 => ⟨_, _, _, rfl, ?_⟩
    have z1 := fg.1
    have z2 := f2.1
    have bl := B.len
    rw [List.length_map, List.length_take] at bl
    have F3 := f2.tt f3
    refine (B.on F3).push (by have := F3.1; omega) o3 (fun y hy => ⟨by grind, fun ho => by have := B.lt ho; have := n3 y hy; omega⟩) (by omega) fun p4 c4 h4 B4 f4 g4 => ⟨_, _, _, rfl, ?_⟩
    rw [wrap_id (by omega) (by omega)]
    refine ⟨⟨k + 1, by omega, by omega, ?_, ?_⟩, by omega⟩
    · rw [List.take_add_one, hx, List.map_append]
      exact B4
    · obtain ⟨_, _, _, _, _, _, _, h6'⟩ := B
      exact (fg.tt F3).fresh f4 h6'
  · have q1 : ¬ (k : Int) < ((L.length : Nat) : Int) := by omega
    simp only [q1, decide_false, Bool.false_eq_true, if_false]
    rw [List.take_of_length_le (by omega)] at B
    exact hk g op ol oc (B.mono f1.1) (f1.tt fg)

end Regs
end
section
open Go.Fields
namespace Regs
open Eid Fld
variable {L:List Rg}
structure okL (L : List Rg) : Prop where
  len : L.length ≤ 8
  all : ∀ r ∈ L, okR r

end Regs
end
section
namespace Stt
open Obx (It)
open Eid (Ev rightE)
variable {σ:SS} {k:Nat}
structure Good (σ : SS) (k : Nat) : Prop where
  a : Ses.okA σ.A
  g : Regs.okL σ.G
  c : Cps.Good σ.C k
  b : σ.B.next ≤ k + 1
  v : σ.B.over ≤ k
  q : σ.Q = σ.B.items
  ok : okQ σ.Q
  n : σ.now ≤ 1099511627776
  e : rightE σ.e = true ∧ σ.e ≠ Ev.zero ∧ 0 ≤ σ.e.svc
  t : σ.tm ≤ 1099511627776 ∧ σ.sq ≤ 1099511627776
  r : σ.rf ≤ k
def newS (e : Ev) : SS := ⟨[], [], ⟨[], 1, 0, 0, 0, [], []⟩, ⟨[], 1, 0, 0, 0⟩, [], e, 0, 0, 0, 0⟩
theorem Good.new {e : Ev} (h1 : rightE e = true) (h2 : e ≠ Ev.zero) (h3 : 0 ≤ e.svc) : Good (newS e) 0 :=
  ⟨Ses.okA.nil, ⟨Nat.zero_le _, fun _ h => (by cases h)⟩, Cps.Good.nil, Nat.le_refl _, Nat.le_refl _, rfl, okQ.nil, Nat.zero_le _, ⟨h1, h2, h3⟩, ⟨Nat.zero_le _, Nat.zero_le _⟩, Nat.le_refl _⟩
theorem Good.more (G : Good σ k) : Good σ (k + 1) := ⟨G.a, G.g, G.c.more, by have := G.b; omega, by have := G.v; omega, G.q, G.ok, G.n, G.e, G.t, by have := G.r; omega⟩

end Stt
end
section
variable {h:Heap} {R:TyP}
theorem outbox_Box_Save.walk {b : Nat} (hv :
 Cl 66 #[.pointer (some ⟨b, 0, none⟩)] h fun v h_1 =>
 ∃ t7, v = .bool t7 ∧
 ite (!t7)
 (  R (.slice none 0 0) h_1)
 (  ∃ t13, hcell h_1 ⟨b, 1, none⟩ = some (.int .i64 t13) ∧
 ∃ t18, hcell h_1 ⟨b, 2, none⟩ = some (.int .i64 t18) ∧
 ∃ t23, hcell h_1 ⟨b, 3, none⟩ = some (.int .i64 t23) ∧
 ∃ t28, hcell h_1 ⟨b, 4, none⟩ = some (.int .i64 t28) ∧
 ∃ t33_p t33_l t33_c, hcell h_1 ⟨b, 0, none⟩ = some (.slice t33_p t33_l t33_c) ∧
 Cl 37 #[] h_1 fun v_1 h_2 =>
 ∃ t9, v_1 = .pointer t9 ∧
 hcell h_2 ⟨b, 0, none⟩ = some (.slice t33_p t33_l t33_c) ∧
 hcell h_2 ⟨b, 4, none⟩ = some (.int .i64 t28) ∧
 hcell h_2 ⟨b, 3, none⟩ = some (.int .i64 t23) ∧
 hcell h_2 ⟨b, 2, none⟩ = some (.int .i64 t18) ∧
 hcell h_2 ⟨b, 1, none⟩ = some (.int .i64 t13) ∧
 Cl 40 #[.pointer t9, .int .i64 t13] h_2 fun v_2 h_3 =>
 ∃ t14, v_2 = .pointer t14 ∧
 hcell h_3 ⟨b, 0, none⟩ = some (.slice t33_p t33_l t33_c) ∧
 hcell h_3 ⟨b, 4, none⟩ = some (.int .i64 t28) ∧
 hcell h_3 ⟨b, 3, none⟩ = some (.int .i64 t23) ∧
 hcell h_3 ⟨b, 2, none⟩ = some (.int .i64 t18) ∧
 Cl 40 #[.pointer t14, .int .i64 t18] h_3 fun v_3 h_4 =>
 ∃ t19, v_3 = .pointer t19 ∧
 hcell h_4 ⟨b, 0, none⟩ = some (.slice t33_p t33_l t33_c) ∧
 hcell h_4 ⟨b, 4, none⟩ = some (.int .i64 t28) ∧
 hcell h_4 ⟨b, 3, none⟩ = some (.int .i64 t23) ∧
 Cl 40 #[.pointer t19, .int .i64 t23] h_4 fun v_4 h_5 =>
 ∃ t24, v_4 = .pointer t24 ∧
 hcell h_5 ⟨b, 0, none⟩ = some (.slice t33_p t33_l t33_c) ∧
 hcell h_5 ⟨b, 4, none⟩ = some (.int .i64 t28) ∧
 Cl 40 #[.pointer t24, .int .i64 t28] h_5 fun v_5 h_6 =>
 ∃ t29, v_5 = .pointer t29 ∧
 hcell h_6 ⟨b, 0, none⟩ = some (.slice t33_p t33_l t33_c) ∧
 Cl 40 #[.pointer t29, .int .i64 ((t33_l : Nat) : Int)] h_6 fun v_6 h_7 =>
 ∃ t35, v_6 = .pointer t35 ∧
 hcell h_7 ⟨b, 0, none⟩ = some (.slice t33_p t33_l t33_c) ∧
 Cl 41 #[.pointer t35] h_7 fun v_7 h_8 =>
 ∃ t36_p t36_l t36_c, v_7 = .slice t36_p t36_l t36_c ∧
 hcell h_8 ⟨b, 0, none⟩ = some (.slice t33_p t33_l t33_c) ∧
 NewP h_8 (.cells #[.slice t36_p t36_l t36_c] 48) fun b_1 h_9 =>
 hcell h_9 ⟨b, 0, none⟩ = some (.slice t33_p t33_l t33_c) ∧
 ∃ t41_p t41_l t41_c, hcell h_9 ⟨b, 0, none⟩ = some (.slice t41_p t41_l t41_c) ∧
 ∃ (I : Option Addr → Nat → Nat → Int → Heap → Prop) (mu : Option Addr → Nat → Nat → Int → Heap → Nat), I (some ⟨b_1, 0, none⟩) 1 1 0 h_9 ∧ ∀ out_p out_l out_c t43 h_10, I out_p out_l out_c t43 h_10 →
 ite (decide (t43 < ((t41_l : Nat) : Int)))
 (  ((0 : Int) ≤ t43 ∧ t43 < ((t41_l : Nat) : Int)) ∧
 onSome t41_p fun a =>
 outbox_Item.LD h_10 (a.add (Int.toNat t43 * 4)) fun t46_0 t46_1 t46_2_p t46_2_l t46_2_c t46_3 =>
 NewP h_10 (.cells #[.int .i64 0, .int .i64 0, .slice none 0 0, .int .u64 0] 165) fun b_2 h_11 =>
 outbox_Item.ST h_11 ⟨b_2, 0, none⟩ t46_0 t46_1 t46_2_p t46_2_l t46_2_c t46_3 fun h_12 =>
 ∃ t50, hcell h_12 ⟨b_2, 0, none⟩ = some (.int .i64 t50) ∧
 ∃ t53, hcell h_12 ⟨b_2, 1, none⟩ = some (.int .i64 t53) ∧
 ∃ t56_p t56_l t56_c, hcell h_12 ⟨b_2, 2, none⟩ = some (.slice t56_p t56_l t56_c) ∧
 ∃ t59, hcell h_12 ⟨b_2, 3, none⟩ = some (.int .u64 t59) ∧
 Cl 37 #[] h_12 fun v_8 h_13 =>
 ∃ t48, v_8 = .pointer t48 ∧
 hcell h_13 ⟨b_2, 3, none⟩ = some (.int .u64 t59) ∧
 hcell h_13 ⟨b_2, 2, none⟩ = some (.slice t56_p t56_l t56_c) ∧
 hcell h_13 ⟨b_2, 1, none⟩ = some (.int .i64 t53) ∧
 hcell h_13 ⟨b_2, 0, none⟩ = some (.int .i64 t50) ∧
 Cl 40 #[.pointer t48, .int .i64 t50] h_13 fun v_9 h_14 =>
 ∃ t51, v_9 = .pointer t51 ∧
 hcell h_14 ⟨b_2, 3, none⟩ = some (.int .u64 t59) ∧
 hcell h_14 ⟨b_2, 2, none⟩ = some (.slice t56_p t56_l t56_c) ∧
 hcell h_14 ⟨b_2, 1, none⟩ = some (.int .i64 t53) ∧
 Cl 40 #[.pointer t51, .int .i64 t53] h_14 fun v_10 h_15 =>
 ∃ t54, v_10 = .pointer t54 ∧
 hcell h_15 ⟨b_2, 3, none⟩ = some (.int .u64 t59) ∧
 hcell h_15 ⟨b_2, 2, none⟩ = some (.slice t56_p t56_l t56_c) ∧
 Cl 38 #[.pointer t54, .slice t56_p t56_l t56_c] h_15 fun v_11 h_16 =>
 ∃ t57, v_11 = .pointer t57 ∧
 hcell h_16 ⟨b_2, 3, none⟩ = some (.int .u64 t59) ∧
 Cl 39 #[.pointer t57, .int .u64 t59] h_16 fun v_12 h_17 =>
 ∃ t60, v_12 = .pointer t60 ∧
 Cl 41 #[.pointer t60] h_17 fun v_13 h_18 =>
 ∃ t61_p t61_l t61_c, v_13 = .slice t61_p t61_l t61_c ∧
 NewP h_18 (.cells #[.slice t61_p t61_l t61_c] 48) fun b_3 h_19 =>
 Dsz (Builtin.append_ #[44, 44] 44 #[.slice out_p out_l out_c, .slice (some ⟨b_3, 0, none⟩) 1 1]) h_19 fun v_14 h_20 =>
 ∃ t63_p t63_l t63_c, v_14 = .slice t63_p t63_l t63_c ∧
 (I t63_p t63_l t63_c (IntKind.wrap .i64 (t43 + 1)) h_20 ∧ mu t63_p t63_l t63_c (IntKind.wrap .i64 (t43 + 1)) h_20 < mu out_p out_l out_c t43 h_10))
 (  R (.slice out_p out_l out_c) h_10))) : Cl 36 #[.pointer (some ⟨b, 0, none⟩)] h R :=
 callsN [(11, fun _ => .plan (opL [1,2,3,4,6,7,8,9,11,12,13,14,16,17,18,19,21,22,23,24,25,0,5,10,15,20,26,27,28,29] .done)), (16, .loop [(3, sS), (43, sI)]), (27, fun _ => .plan (opL [0,2,3,5,6,8,9,11,12,1,4,7,10,13,14,15,16,17] .done))] hv

end
section
open Go.Fields Go.Heapq
namespace Obx
open Fld
variable {h h':Heap} {b:Nat} {X:Ft} {R:TyP} {d:Nat} {L:List E} {s:BS}
def headB (s : BS) : List UInt8 := encNum s.next ++ encNum s.taken ++ encNum s.canc ++ encNum s.over ++ encNum s.items.length
def recI (x : It) : List UInt8 := encNum x.num ++ encNum x.owner.toNat ++ encText x.d ++ encNum x.till
def recsB (s : BS) : List (List UInt8) := headB s :: s.items.map recI
theorem headB_len (s : BS) : (headB s).length ≤ 60 := by
  unfold headB
  simp only [List.length_append]
  have a1 := (encNum_len s.next).2
  have a2 := (encNum_len s.taken).2
  have a3 := (encNum_len s.canc).2
  have a4 := (encNum_len s.over).2
  have a5 := (encNum_len s.items.length).2
  omega
theorem recI_len {x : It} (h : x.d.length ≤ 600) : (recI x).length ≤ 700 := by
  unfold recI encText
  simp only [List.length_append]
  have a1 := (encNum_len x.num).2
  have a2 := (encNum_len x.owner.toNat).2
  have a3 := (encNum_len x.d.length).2
  have a4 := (encNum_len x.till).2
  omega
theorem save_ok (H : Box h b X s) (hnx : s.next ≤ 1000000000) (hk : ∀ h' p' l' c', BL h h' p' l' c' (recsB s) → Fr No h h' → R (.slice p' l' c') h') : Cl 36 #[.pointer (some ⟨b, 0, none⟩)] h R := by
  obtain ⟨L, ⟨lp, lc, xs, a, S, H⟩, ok⟩ := H
  obtain ⟨hL, hxl⟩ := H.okL ok
  have hcnt := ok.cnt
  have hlen := H.len
  have nb : ∀ (n : Nat), natOf (n : Int) = n := fun n => by unfold natOf; omega
  refine outbox_Box_Save.walk (made_ok H ⟨_, rfl, ?_⟩)
  simp only [Bool.not_true, Bool.false_eq_true, if_false]
  refine ⟨_, cell_at H.blk rfl, _, cell_at H.blk rfl, _, cell_at H.blk rfl, _, cell_at H.blk rfl, _, _, _, cell_at H.blk rfl, ?_⟩
  refine Fld.new_ok fun h2 w S2 W2 f2 g2 => ⟨_, rfl, ?_⟩
  have u2 : Up h S2 h2 := ⟨f2, g2⟩
  have lb := lt_of_get H.blk
  have nbS : ∀ {S : Nat → Prop} {h' : Heap}, Up h S h' → ¬ S b := fun u hx => by have := u.ge b hx; omega
  have b2 := f2.get H.blk id
  refine ⟨cell_at b2 rfl, cell_at b2 rfl, cell_at b2 rfl, cell_at b2 rfl, cell_at b2 rfl, ?_⟩
  refine int_ok W2 (by simp) (by omega) fun h3 S3 W3 s3 => ⟨_, rfl, ?_⟩
  have b3 := s3.fr.get b2 (nbS u2)
  have u3 := u2.step s3
  rw [nb, List.nil_append] at W3
  have l1 := (encNum_len s.next).2
  refine ⟨cell_at b3 rfl, cell_at b3 rfl, cell_at b3 rfl, cell_at b3 rfl, ?_⟩
  refine int_ok W3 (by omega) (by omega) fun h4 S4 W4 s4 => ⟨_, rfl, ?_⟩
  have b4 := s4.fr.get b3 (nbS u3)
  have u4 := u3.step s4
  rw [nb] at W4
  have l2 := (encNum_len s.taken).2
  refine ⟨cell_at b4 rfl, cell_at b4 rfl, cell_at b4 rfl, ?_⟩
  refine int_ok W4 (by simp only [List.length_append]; omega) (by omega) fun h5 S5 W5 s5 => ⟨_, rfl, ?_⟩
  have b5 := s5.fr.get b4 (nbS u4)
  have u5 := u4.step s5
  rw [nb] at W5
  have l3 := (encNum_len s.canc).2
  refine ⟨cell_at b5 rfl, cell_at b5 rfl, ?_⟩
  refine int_ok W5 (by simp only [List.length_append]; omega) (by omega) fun h6 S6 W6 s6 => ⟨_, rfl, ?_⟩
  have b6 := s6.fr.get b5 (nbS u5)
  have u6 := u5.step s6
  rw [nb] at W6
  have l4 := (encNum_len s.over).2
  refine ⟨cell_at b6 rfl, ?_⟩
  refine int_ok W6 (by simp only [List.length_append]; omega) (by omega) fun h7 S7 W7 s7 => ⟨_, rfl, ?_⟩
  have b7 := s7.fr.get b6 (nbS u6)
  have u7 := u6.step s7
  rw [nb, hlen] at W7
  refine ⟨cell_at b7 rfl, ?_⟩
  have hh := headB_len s
  refine bytes_ok (bs := headB s) W7 (by omega) fun q8 d8 h8 o8 f8 g8 => ⟨_, _, _, rfl, ?_⟩
  have b8 := f8.get b7 id
  refine ⟨cell_at b8 rfl, newP_of ?_⟩
  have f9 : Fr No h8 (h8.push (.cells #[.slice q8 (headB s).length d8] 48)) := Fr.push _ _
  have o9 : Own (h8.push (.cells #[.slice q8 (headB s).length d8] 48)) (some ⟨h8.size, 0, none⟩) 1 1 1 (nenc ⟨q8, d8, headB s⟩) := .row h8.size 0 _ _ rfl push_new (Nat.le_refl _) (by simp) rfl (fun j v hj => by rw [Nat.zero_add]; simpa using hj)
  have F8 : Fr No h h8 := u7.fr.tt f8
  have z8 := F8.1
  have z7 := u7.fr.1
  have B9 : BL h (h8.push (.cells #[.slice q8 (headB s).length d8] 48)) (some ⟨h8.size, 0, none⟩) 1 1 [headB s] := by
    refine ⟨[⟨q8, d8, headB s⟩], inBlk q8, rfl, by simpa using o9, rfl, ?_, ?_, fun y ⟨a, e, e2⟩ => by cases e; rw [← e2]; exact z8⟩
    · intro x hx
      obtain rfl := List.mem_singleton.1 hx
      exact BV.of_own (o8.frame f9 (fun _ _ => id)) (fun _ => id)
    · intro y hy
      have h1 := g8 y hy
      have h2 := o8.blk_lt hy
      exact ⟨by omega, by rw [Array.size_push]; omega, fun ⟨a, e, e2⟩ => by grind⟩
  have F9 : Fr No h (h8.push (.cells #[.slice q8 (headB s).length d8] 48)) := F8.tt f9
  generalize h8.push (.cells #[.slice q8 (headB s).length d8] 48) = h9 at B9 F9 ⊢
  generalize (some ⟨h8.size, 0, none⟩ : Option Addr) = p9 at B9 ⊢
  have M9 := H.on F9
  refine ⟨cell_at M9.blk rfl, _, _, _, cell_at M9.blk rfl, ?_⟩
  refine ⟨fun op ol oc t g => ∃ k : Nat, t = (k : Int) ∧ k ≤ xs.length ∧ BL h g op ol oc (headB s :: (s.items.take k).map recI) ∧ Fr No h g, fun _ _ _ t _ => xs.length - t.toNat, ⟨0, rfl, by omega, by simpa using B9, F9⟩, ?_⟩
  rintro op ol oc _ g ⟨k, rfl, hkn, B, fg⟩
  have Mg := H.on fg
  by_cases hlt : k < xs.length
  · have q1 : (k : Int) < ((xs.length : Nat) : Int) := by omega
    simp only [q1, decide_true, if_true, Int.toNat_natCast]
    have ⟨x, hx⟩ := getAt hlt
    obtain ⟨ab, aoff, rfl⟩ := Mg.own.addr (by omega)
    refine ⟨⟨by first | trivial | omega, by first | trivial | omega⟩, onSome_some.2 (outbox_Item.ldA (Mg.own.heldAt ienc_len hx) (outbox_Item.new fun b1 h15 eb1 hb1 f15 => ?_))⟩
    have xit : s.items[k]? = some x.abs := by rw [← H.abs, List.getElem?_map, hx]; rfl
    have hxd := ok.it x.abs (List.mem_of_getElem? xit)
    have dl : x.v.b.length ≤ 600 := hxd.2.2.2.1
    have xo : 1 ≤ x.owner ∧ x.owner ≤ 1099511627776 := ⟨hxd.2.2.2.2.1, hxd.2.2.2.2.2.1⟩
    have xt : x.till ≤ 1099511627776 := hxd.2.2.2.2.2.2
    have xn : x.num < s.next := hxd.2.1
    refine ⟨_, cell_at hb1 rfl, _, cell_at hb1 rfl, _, _, _, cell_at hb1 rfl, _, cell_at hb1 rfl, ?_⟩
    refine Fld.new_ok fun h16 w S16 W16 f16 g16 => ⟨_, rfl, ?_⟩
    have u16 : Up h15 S16 h16 := ⟨f16, g16⟩
    have l1' := lt_of_get hb1
    have nbS' : ∀ {S : Nat → Prop} {h' : Heap}, Up h15 S h' → ¬ S b1 := fun u hx => by have := u.ge b1 hx; omega
    have c16 := f16.get hb1 id
    refine ⟨cell_at c16 rfl, cell_at c16 rfl, cell_at c16 rfl, cell_at c16 rfl, ?_⟩
    refine int_ok W16 (by simp) (by omega) fun h17 S17 W17 s17 => ⟨_, rfl, ?_⟩
    have c17 := s17.fr.get c16 (nbS' u16)
    have u17 := u16.step s17
    rw [nb, List.nil_append] at W17
    have l5 := (encNum_len x.num).2
    refine ⟨cell_at c17 rfl, cell_at c17 rfl, cell_at c17 rfl, ?_⟩
    refine int_ok W17 (by omega) (by omega) fun h18 S18 W18 s18 => ⟨_, rfl, ?_⟩
    have c18 := s18.fr.get c17 (nbS' u17)
    have u18 := u17.step s18
    have eo : natOf x.owner = x.owner.toNat := by unfold natOf; omega
    rw [eo] at W18
    have l6 := (encNum_len x.owner.toNat).2
    refine ⟨cell_at c18 rfl, cell_at c18 rfl, ?_⟩
    have row18 := ((Mg.dat x (List.mem_of_getElem? hx)).row).frame (f15.tt u18.fr) (fun _ _ => id)
    refine text_ok' W18 (by simp only [List.length_append]; omega) row18 rfl (by omega) (fun y hy hne hS => ?_) fun h19 S19 W19 s19 => ⟨_, rfl, ?_⟩
    · have a1 := (Mg.dat x (List.mem_of_getElem? hx)).own hne y hy
      have a2 := Mg.dlt y a1
      have a3 := u18.ge y hS
      have a4 := f15.1
      omega
    have c19 := s19.fr.get c18 (nbS' u18)
    have u19 := u18.step s19
    have el : (encText x.v.b).length = (encNum x.v.b.length).length + x.v.b.length := by unfold encText; rw [List.length_append]
    have l7 := (encNum_len x.v.b.length).2
    refine ⟨cell_at c19 rfl, ?_⟩
    refine num_ok x.till W19 (by simp only [List.length_append]; omega) rfl (by omega) fun h20 S20 W20 s20 => ⟨_, rfl, ?_⟩
    have u20 := u19.step s20
    have rl := recI_len (x := x.abs) dl
    refine bytes_ok (bs := recI x.abs) W20 (by omega) fun q21 d21 h21 o21 f21 g21 => ⟨_, _, _, rfl, ?_⟩
    have F21 : Fr No g h21 := f15.tt (u20.fr.tt f21)
    have z21 := F21.1
    have zg := fg.1
    have z20 := (f15.tt u20.fr).1
    have bl := B.len
    rw [List.length_cons, List.length_map, List.length_take] at bl
    refine (B.on F21).push (by omega) o21 (fun y hy => ⟨by have := g21 y hy; omega, fun ho => by have := B.lt ho; have := g21 y hy; omega⟩) (by omega) ?_
    intro p23 c23 h23 B23 f23 g23
    refine ⟨_, _, _, rfl, ?_⟩
    rw [wrap_id (by omega) (by omega)]
    refine ⟨⟨k + 1, by omega, by omega, ?_, ?_⟩, by omega⟩
    · rw [List.take_add_one, xit, List.map_append]
      rw [List.cons_append] at B23
      exact B23
    · obtain ⟨_, _, _, _, _, _, _, h6'⟩ := B
      exact (fg.tt F21).fresh f23 h6'
  · have q1 : ¬ (k : Int) < ((xs.length : Nat) : Int) := by omega
    simp only [q1, decide_false, Bool.false_eq_true, if_false]
    rw [List.take_of_length_le (by omega)] at B
    exact hk g op ol oc B fg

end Obx
end
section
variable {h:Heap} {R:TyP}
variable {s:Nat}
theorem state_New.walk {self_0 : Bool} {self_1 : Int} {self_2 : Int} {self_3 : ByteArray} {self_4 : ByteArray} (hv :
 NewP h (.cells #[.bool self_0, .int .u64 self_1, .int .u64 self_2, .string self_3, .string self_4] 34) fun b h_1 =>
 eid_Eid.LD h_1 ⟨b, 0, none⟩ fun t8_0 t8_1 t8_2 t8_3 t8_4 =>
 Cl 102 #[.agg #[.bool t8_0, .int .u64 t8_1, .int .u64 t8_2, .string t8_3, .string t8_4]] h_1 fun v h_2 =>
 ∃ t9_0 t9_1, v = .tuple #[.pointer t9_0, .int .i64 t9_1] ∧
 ite (t9_1 != 0)
 (  R (.tuple #[.pointer none, .int .i64 t9_1]) h_2)
 (  Cl 103 #[.int .i64 4800, .int .i64 1600] h_2 fun v_1 h_3 =>
 ∃ t16_0 t16_1, v_1 = .tuple #[.pointer t16_0, .int .i64 t16_1] ∧
 ite (t16_1 != 0)
 (  R (.tuple #[.pointer none, .int .i64 t16_1]) h_3)
 (  Cl 104 #[] h_3 fun v_2 h_4 =>
 ∃ t22, v_2 = .pointer t22 ∧
 Cl 105 #[] h_4 fun v_3 h_5 =>
 ∃ t23, v_3 = .pointer t23 ∧
 Cl 106 #[] h_5 fun v_4 h_6 =>
 ∃ t24, v_4 = .pointer t24 ∧
 Cl 107 #[] h_6 fun v_5 h_7 =>
 ∃ t25, v_5 = .pointer t25 ∧
 NewP h_7 (.cells #[.pointer t22, .pointer t23, .pointer t24, .pointer t25, .pointer t16_0, .pointer t9_0, .int .u64 0, .int .i64 0] 68) fun b_1 h_8 =>
 R (.tuple #[.pointer (some ⟨b_1, 0, none⟩), .int .i64 0]) h_8))) : Cl 68 #[.agg #[.bool self_0, .int .u64 self_1, .int .u64 self_2, .string self_3, .string self_4]] h R :=
 callsN [] hv
theorem state_State_made.walk (hv :
 ∃ t9, hcell h ⟨s, 0, none⟩ = some (.pointer t9) ∧
 ite (!t9.isNone)
 (  ∃ t16, hcell h ⟨s, 1, none⟩ = some (.pointer t16) ∧
 ite (!t16.isNone)
 (  ∃ t23, hcell h ⟨s, 2, none⟩ = some (.pointer t23) ∧
 ite (!t23.isNone)
 (  ∃ t30, hcell h ⟨s, 3, none⟩ = some (.pointer t30) ∧
 ite (!t30.isNone)
 (  ∃ t37, hcell h ⟨s, 4, none⟩ = some (.pointer t37) ∧
 ite (!t37.isNone)
 (  ∃ t44, hcell h ⟨s, 5, none⟩ = some (.pointer t44) ∧
 R (.bool (!t44.isNone)) h)
 (  R (.bool false) h))
 (  R (.bool false) h))
 (  R (.bool false) h))
 (  R (.bool false) h))
 (  R (.bool false) h)) : Cl 30 #[.pointer (some ⟨s, 0, none⟩)] h R :=
 callsN [] hv
theorem state_State_Save.walk (hv :
 Cl 30 #[.pointer (some ⟨s, 0, none⟩)] h fun v h_1 =>
 ∃ t11, v = .bool t11 ∧
 ite (!t11)
 (  R (.slice none 0 0) h_1)
 (  ∃ t16, hcell h_1 ⟨s, 5, none⟩ = some (.pointer t16) ∧
 Cl 31 #[.pointer t16] h_1 fun v_1 h_2 =>
 ∃ t17_0 t17_1 t17_2 t17_3 t17_4 t17_5 t17_6, v_1 = .agg #[.bool t17_0, .int .u64 t17_1, .int .u64 t17_2, .string t17_3, .string t17_4, .int .u64 t17_5, .int .u64 t17_6] ∧
 NewP h_2 (.cells #[.bool false, .int .u64 0, .int .u64 0, .string (⟨#[]⟩ : ByteArray), .string (⟨#[]⟩ : ByteArray), .int .u64 0, .int .u64 0] 98) fun b h_3 =>
 ident_Ident.ST h_3 ⟨b, 0, none⟩ t17_0 t17_1 t17_2 t17_3 t17_4 t17_5 t17_6 fun h_4 =>
 eid_Eid.LD h_4 ⟨b, 0, none⟩ fun t20_0 t20_1 t20_2 t20_3 t20_4 =>
 Cl 32 #[.agg #[.bool t20_0, .int .u64 t20_1, .int .u64 t20_2, .string t20_3, .string t20_4]] h_4 fun v_2 h_5 =>
 ∃ t21_0 t21_1, v_2 = .tuple #[.string t21_0, .int .i64 t21_1] ∧
 JoinP (fun (l : Option Addr) h_6 =>
 JoinP (fun (w : Option Addr) h_7 =>
 onSome l fun a =>
 a4_s_s_uint8.LD h_7 a fun _ t65_0_l _ _ t65_1_l _ _ t65_2_l _ _ t65_3_l _ =>
 ∃ (I : Int → Heap → Prop) (mu : Int → Heap → Nat), I 0 h_7 ∧ ∀ t66 h_8, I t66 h_8 →
 ite (decide (t66 < 4))
 (  ((0 : Int) ≤ t66 ∧ t66 < ((4 : Nat) : Int)) ∧
 (t66 = ((0 : Nat) : Int) →
 Cl 40 #[.pointer w, .int .i64 ((t65_0_l : Nat) : Int)] h_8 fun v_3 h_9 =>
 ∃ t72, v_3 = .pointer t72 ∧
 (I (IntKind.wrap .i64 (t66 + 1)) h_9 ∧ mu (IntKind.wrap .i64 (t66 + 1)) h_9 < mu t66 h_8)) ∧
 (t66 = ((1 : Nat) : Int) →
 Cl 40 #[.pointer w, .int .i64 ((t65_1_l : Nat) : Int)] h_8 fun v_4 h_10 =>
 ∃ t72_1, v_4 = .pointer t72_1 ∧
 (I (IntKind.wrap .i64 (t66 + 1)) h_10 ∧ mu (IntKind.wrap .i64 (t66 + 1)) h_10 < mu t66 h_8)) ∧
 (t66 = ((2 : Nat) : Int) →
 Cl 40 #[.pointer w, .int .i64 ((t65_2_l : Nat) : Int)] h_8 fun v_5 h_11 =>
 ∃ t72_2, v_5 = .pointer t72_2 ∧
 (I (IntKind.wrap .i64 (t66 + 1)) h_11 ∧ mu (IntKind.wrap .i64 (t66 + 1)) h_11 < mu t66 h_8)) ∧
 (t66 = ((3 : Nat) : Int) →
 Cl 40 #[.pointer w, .int .i64 ((t65_3_l : Nat) : Int)] h_8 fun v_6 h_12 =>
 ∃ t72_3, v_6 = .pointer t72_3 ∧
 (I (IntKind.wrap .i64 (t66 + 1)) h_12 ∧ mu (IntKind.wrap .i64 (t66 + 1)) h_12 < mu t66 h_8)) ∧
 True)
 (  onSome l fun a_1 =>
 Cl 41 #[.pointer w] h_8 fun v_7 h_13 =>
 ∃ t75_p t75_l t75_c, v_7 = .slice t75_p t75_l t75_c ∧
 (NewP h_13 (.cells #[.slice t75_p t75_l t75_c] 48) fun b_1 h_14 =>
 Cl 42 #[.slice (slBase (some a_1) 4 0 1) (4 - 0) (4 - 0)] h_14 fun v_8 h_15 =>
 ∃ t78_p t78_l t78_c, v_8 = .slice t78_p t78_l t78_c ∧
 Dsz (Builtin.append_ #[44, 44] 44 #[.slice (some ⟨b_1, 0, none⟩) 1 1, .slice t78_p t78_l t78_c]) h_15 fun v_9 h_16 =>
 ∃ t79_p t79_l t79_c, v_9 = .slice t79_p t79_l t79_c ∧
 R (.slice t79_p t79_l t79_c) h_16) ∧
 (Cl 42 #[.slice (slBase (some a_1) 4 0 1) (4 - 0) (4 - 0)] h_13 fun v_10 h_17 =>
 ∃ t78_p_1 t78_l_1 t78_c_1, v_10 = .slice t78_p_1 t78_l_1 t78_c_1 ∧
 NewP h_17 (.cells #[.slice t75_p t75_l t75_c] 48) fun b_2 h_18 =>
 Dsz (Builtin.append_ #[44, 44] 44 #[.slice (some ⟨b_2, 0, none⟩) 1 1, .slice t78_p_1 t78_l_1 t78_c_1]) h_18 fun v_11 h_19 =>
 ∃ t79_p_1 t79_l_1 t79_c_1, v_11 = .slice t79_p_1 t79_l_1 t79_c_1 ∧
 R (.slice t79_p_1 t79_l_1 t79_c_1) h_19) ∧
 True))
 (fun J_1 =>
 ∃ t52, hcell h_6 ⟨s, 6, none⟩ = some (.int .u64 t52) ∧
 ∃ t57, hcell h_6 ⟨s, 7, none⟩ = some (.int .i64 t57) ∧
 ∃ t60, hcell h_6 ⟨b, 5, none⟩ = some (.int .u64 t60) ∧
 ∃ t63, hcell h_6 ⟨b, 6, none⟩ = some (.int .u64 t63) ∧
 (Cl 37 #[] h_6 fun v_12 h_20 =>
 ∃ t45, v_12 = .pointer t45 ∧
 hcell h_20 ⟨b, 6, none⟩ = some (.int .u64 t63) ∧
 hcell h_20 ⟨b, 5, none⟩ = some (.int .u64 t60) ∧
 hcell h_20 ⟨s, 7, none⟩ = some (.int .i64 t57) ∧
 hcell h_20 ⟨s, 6, none⟩ = some (.int .u64 t52) ∧
 Dsz (convert 9 48 (.string t21_0)) h_20 fun v_13 h_21 =>
 ∃ t47_p t47_l t47_c, v_13 = .slice t47_p t47_l t47_c ∧
 hcell h_21 ⟨b, 6, none⟩ = some (.int .u64 t63) ∧
 hcell h_21 ⟨b, 5, none⟩ = some (.int .u64 t60) ∧
 hcell h_21 ⟨s, 7, none⟩ = some (.int .i64 t57) ∧
 hcell h_21 ⟨s, 6, none⟩ = some (.int .u64 t52) ∧
 Cl 38 #[.pointer t45, .slice t47_p t47_l t47_c] h_21 fun v_14 h_22 =>
 ∃ t48, v_14 = .pointer t48 ∧
 hcell h_22 ⟨b, 6, none⟩ = some (.int .u64 t63) ∧
 hcell h_22 ⟨b, 5, none⟩ = some (.int .u64 t60) ∧
 hcell h_22 ⟨s, 7, none⟩ = some (.int .i64 t57) ∧
 hcell h_22 ⟨s, 6, none⟩ = some (.int .u64 t52) ∧
 Cl 39 #[.pointer t48, .int .u64 t52] h_22 fun v_15 h_23 =>
 ∃ t53, v_15 = .pointer t53 ∧
 hcell h_23 ⟨b, 6, none⟩ = some (.int .u64 t63) ∧
 hcell h_23 ⟨b, 5, none⟩ = some (.int .u64 t60) ∧
 hcell h_23 ⟨s, 7, none⟩ = some (.int .i64 t57) ∧
 Cl 40 #[.pointer t53, .int .i64 t57] h_23 fun v_16 h_24 =>
 ∃ t58, v_16 = .pointer t58 ∧
 hcell h_24 ⟨b, 6, none⟩ = some (.int .u64 t63) ∧
 hcell h_24 ⟨b, 5, none⟩ = some (.int .u64 t60) ∧
 Cl 39 #[.pointer t58, .int .u64 t60] h_24 fun v_17 h_25 =>
 ∃ t61, v_17 = .pointer t61 ∧
 hcell h_25 ⟨b, 6, none⟩ = some (.int .u64 t63) ∧
 Cl 39 #[.pointer t61, .int .u64 t63] h_25 fun v_18 h_26 =>
 ∃ t64, v_18 = .pointer t64 ∧
 J_1 t64 h_26) ∧
 (Dsz (convert 9 48 (.string t21_0)) h_6 fun v_19 h_27 =>
 ∃ t47_p_1 t47_l_1 t47_c_1, v_19 = .slice t47_p_1 t47_l_1 t47_c_1 ∧
 hcell h_27 ⟨b, 6, none⟩ = some (.int .u64 t63) ∧
 hcell h_27 ⟨b, 5, none⟩ = some (.int .u64 t60) ∧
 hcell h_27 ⟨s, 7, none⟩ = some (.int .i64 t57) ∧
 hcell h_27 ⟨s, 6, none⟩ = some (.int .u64 t52) ∧
 Cl 37 #[] h_27 fun v_20 h_28 =>
 ∃ t45_1, v_20 = .pointer t45_1 ∧
 hcell h_28 ⟨b, 6, none⟩ = some (.int .u64 t63) ∧
 hcell h_28 ⟨b, 5, none⟩ = some (.int .u64 t60) ∧
 hcell h_28 ⟨s, 7, none⟩ = some (.int .i64 t57) ∧
 hcell h_28 ⟨s, 6, none⟩ = some (.int .u64 t52) ∧
 Cl 38 #[.pointer t45_1, .slice t47_p_1 t47_l_1 t47_c_1] h_28 fun v_21 h_29 =>
 ∃ t48_1, v_21 = .pointer t48_1 ∧
 hcell h_29 ⟨b, 6, none⟩ = some (.int .u64 t63) ∧
 hcell h_29 ⟨b, 5, none⟩ = some (.int .u64 t60) ∧
 hcell h_29 ⟨s, 7, none⟩ = some (.int .i64 t57) ∧
 hcell h_29 ⟨s, 6, none⟩ = some (.int .u64 t52) ∧
 Cl 39 #[.pointer t48_1, .int .u64 t52] h_29 fun v_22 h_30 =>
 ∃ t53_1, v_22 = .pointer t53_1 ∧
 hcell h_30 ⟨b, 6, none⟩ = some (.int .u64 t63) ∧
 hcell h_30 ⟨b, 5, none⟩ = some (.int .u64 t60) ∧
 hcell h_30 ⟨s, 7, none⟩ = some (.int .i64 t57) ∧
 Cl 40 #[.pointer t53_1, .int .i64 t57] h_30 fun v_23 h_31 =>
 ∃ t58_1, v_23 = .pointer t58_1 ∧
 hcell h_31 ⟨b, 6, none⟩ = some (.int .u64 t63) ∧
 hcell h_31 ⟨b, 5, none⟩ = some (.int .u64 t60) ∧
 Cl 39 #[.pointer t58_1, .int .u64 t60] h_31 fun v_24 h_32 =>
 ∃ t61_1, v_24 = .pointer t61_1 ∧
 hcell h_32 ⟨b, 6, none⟩ = some (.int .u64 t63) ∧
 Cl 39 #[.pointer t61_1, .int .u64 t63] h_32 fun v_25 h_33 =>
 ∃ t64_1, v_25 = .pointer t64_1 ∧
 J_1 t64_1 h_33) ∧
 True))
 (fun J =>
 ∃ t27, hcell h_5 ⟨s, 0, none⟩ = some (.pointer t27) ∧
 ∃ t32, hcell h_5 ⟨s, 1, none⟩ = some (.pointer t32) ∧
 ∃ t37, hcell h_5 ⟨s, 2, none⟩ = some (.pointer t37) ∧
 ∃ t42, hcell h_5 ⟨s, 3, none⟩ = some (.pointer t42) ∧
 (Cl 33 #[.pointer t27] h_5 fun v_26 h_34 =>
 ∃ t28_p t28_l t28_c, v_26 = .slice t28_p t28_l t28_c ∧
 hcell h_34 ⟨s, 3, none⟩ = some (.pointer t42) ∧
 hcell h_34 ⟨s, 2, none⟩ = some (.pointer t37) ∧
 hcell h_34 ⟨s, 1, none⟩ = some (.pointer t32) ∧
 (Cl 34 #[.pointer t32] h_34 fun v_27 h_35 =>
 ∃ t33_p t33_l t33_c, v_27 = .slice t33_p t33_l t33_c ∧
 hcell h_35 ⟨s, 3, none⟩ = some (.pointer t42) ∧
 hcell h_35 ⟨s, 2, none⟩ = some (.pointer t37) ∧
 (Cl 35 #[.pointer t37] h_35 fun v_28 h_36 =>
 ∃ t38_p t38_l t38_c, v_28 = .slice t38_p t38_l t38_c ∧
 hcell h_36 ⟨s, 3, none⟩ = some (.pointer t42) ∧
 (Cl 36 #[.pointer t42] h_36 fun v_29 h_37 =>
 ∃ t43_p t43_l t43_c, v_29 = .slice t43_p t43_l t43_c ∧
 NewP h_37 (.cells #[.slice none 0 0, .slice none 0 0, .slice none 0 0, .slice none 0 0] 102) fun b_3 h_38 =>
 a4_s_s_uint8.ST h_38 ⟨b_3, 0, none⟩ t28_p t28_l t28_c t33_p t33_l t33_c t38_p t38_l t38_c t43_p t43_l t43_c fun h_39 =>
 J (some ⟨b_3, 0, none⟩) h_39) ∧
 (NewP h_36 (.cells #[.slice none 0 0, .slice none 0 0, .slice none 0 0, .slice none 0 0] 102) fun b_4 h_40 =>
 hcell h_40 ⟨s, 3, none⟩ = some (.pointer t42) ∧
 Cl 36 #[.pointer t42] h_40 fun v_30 h_41 =>
 ∃ t43_p_1 t43_l_1 t43_c_1, v_30 = .slice t43_p_1 t43_l_1 t43_c_1 ∧
 a4_s_s_uint8.ST h_41 ⟨b_4, 0, none⟩ t28_p t28_l t28_c t33_p t33_l t33_c t38_p t38_l t38_c t43_p_1 t43_l_1 t43_c_1 fun h_42 =>
 J (some ⟨b_4, 0, none⟩) h_42) ∧
 True) ∧
 (NewP h_35 (.cells #[.slice none 0 0, .slice none 0 0, .slice none 0 0, .slice none 0 0] 102) fun b_5 h_43 =>
 hcell h_43 ⟨s, 3, none⟩ = some (.pointer t42) ∧
 hcell h_43 ⟨s, 2, none⟩ = some (.pointer t37) ∧
 Cl 35 #[.pointer t37] h_43 fun v_31 h_44 =>
 ∃ t38_p_1 t38_l_1 t38_c_1, v_31 = .slice t38_p_1 t38_l_1 t38_c_1 ∧
 hcell h_44 ⟨s, 3, none⟩ = some (.pointer t42) ∧
 Cl 36 #[.pointer t42] h_44 fun v_32 h_45 =>
 ∃ t43_p_2 t43_l_2 t43_c_2, v_32 = .slice t43_p_2 t43_l_2 t43_c_2 ∧
 a4_s_s_uint8.ST h_45 ⟨b_5, 0, none⟩ t28_p t28_l t28_c t33_p t33_l t33_c t38_p_1 t38_l_1 t38_c_1 t43_p_2 t43_l_2 t43_c_2 fun h_46 =>
 J (some ⟨b_5, 0, none⟩) h_46) ∧
 True) ∧
 (NewP h_34 (.cells #[.slice none 0 0, .slice none 0 0, .slice none 0 0, .slice none 0 0] 102) fun b_6 h_47 =>
 hcell h_47 ⟨s, 3, none⟩ = some (.pointer t42) ∧
 hcell h_47 ⟨s, 2, none⟩ = some (.pointer t37) ∧
 hcell h_47 ⟨s, 1, none⟩ = some (.pointer t32) ∧
 Cl 34 #[.pointer t32] h_47 fun v_33 h_48 =>
 ∃ t33_p_1 t33_l_1 t33_c_1, v_33 = .slice t33_p_1 t33_l_1 t33_c_1 ∧
 hcell h_48 ⟨s, 3, none⟩ = some (.pointer t42) ∧
 hcell h_48 ⟨s, 2, none⟩ = some (.pointer t37) ∧
 Cl 35 #[.pointer t37] h_48 fun v_34 h_49 =>
 ∃ t38_p_2 t38_l_2 t38_c_2, v_34 = .slice t38_p_2 t38_l_2 t38_c_2 ∧
 hcell h_49 ⟨s, 3, none⟩ = some (.pointer t42) ∧
 Cl 36 #[.pointer t42] h_49 fun v_35 h_50 =>
 ∃ t43_p_3 t43_l_3 t43_c_3, v_35 = .slice t43_p_3 t43_l_3 t43_c_3 ∧
 a4_s_s_uint8.ST h_50 ⟨b_6, 0, none⟩ t28_p t28_l t28_c t33_p_1 t33_l_1 t33_c_1 t38_p_2 t38_l_2 t38_c_2 t43_p_3 t43_l_3 t43_c_3 fun h_51 =>
 J (some ⟨b_6, 0, none⟩) h_51) ∧
 True) ∧
 (NewP h_5 (.cells #[.slice none 0 0, .slice none 0 0, .slice none 0 0, .slice none 0 0] 102) fun b_7 h_52 =>
 hcell h_52 ⟨s, 3, none⟩ = some (.pointer t42) ∧
 hcell h_52 ⟨s, 2, none⟩ = some (.pointer t37) ∧
 hcell h_52 ⟨s, 1, none⟩ = some (.pointer t32) ∧
 hcell h_52 ⟨s, 0, none⟩ = some (.pointer t27) ∧
 Cl 33 #[.pointer t27] h_52 fun v_36 h_53 =>
 ∃ t28_p_1 t28_l_1 t28_c_1, v_36 = .slice t28_p_1 t28_l_1 t28_c_1 ∧
 hcell h_53 ⟨s, 3, none⟩ = some (.pointer t42) ∧
 hcell h_53 ⟨s, 2, none⟩ = some (.pointer t37) ∧
 hcell h_53 ⟨s, 1, none⟩ = some (.pointer t32) ∧
 Cl 34 #[.pointer t32] h_53 fun v_37 h_54 =>
 ∃ t33_p_2 t33_l_2 t33_c_2, v_37 = .slice t33_p_2 t33_l_2 t33_c_2 ∧
 hcell h_54 ⟨s, 3, none⟩ = some (.pointer t42) ∧
 hcell h_54 ⟨s, 2, none⟩ = some (.pointer t37) ∧
 Cl 35 #[.pointer t37] h_54 fun v_38 h_55 =>
 ∃ t38_p_3 t38_l_3 t38_c_3, v_38 = .slice t38_p_3 t38_l_3 t38_c_3 ∧
 hcell h_55 ⟨s, 3, none⟩ = some (.pointer t42) ∧
 Cl 36 #[.pointer t42] h_55 fun v_39 h_56 =>
 ∃ t43_p_4 t43_l_4 t43_c_4, v_39 = .slice t43_p_4 t43_l_4 t43_c_4 ∧
 a4_s_s_uint8.ST h_56 ⟨b_7, 0, none⟩ t28_p_1 t28_l_1 t28_c_1 t33_p_2 t33_l_2 t33_c_2 t38_p_3 t38_l_3 t38_c_3 t43_p_4 t43_l_4 t43_c_4 fun h_57 =>
 J (some ⟨b_7, 0, none⟩) h_57) ∧
 True))) : Cl 14 #[.pointer (some ⟨s, 0, none⟩)] h R :=
 callsN [(15, .join [(6, sP)]), (15, fun _ => .plan (opL [0,1,2,3,5,6,7,8,10,11,12,13,15,16,17,18] (.alts (.fork 4 (.alts (.fork 9 (.alts (.fork 14 (.alts (.fork 19 (opL [20,21,22] .done) (.fork 21 (opL [19,20,22] .done) .noalt))) (.fork 21 (opL [14,19,20,22] .done) .noalt))) (.fork 21 (opL [9,14,19,20,22] .done) .noalt))) (.fork 21 (opL [4,9,14,19,20,22] .done) .noalt))))), (17, .join [(7, sP)]), (17, fun _ => .plan (opL [1,4,5,6,7,9,10,11,12,14,15,17,18] (.alts (.fork 0 (opL [2,3,8,13,16,19,20] .done) (.fork 2 (opL [0,3,8,13,16,19,20] .done) .noalt))))), (22, .loop [(66, sI)]), (36, fun _ => .plan (opL [0,3,1] (.alts (.fork 2 (opL [4,5,6] .done) (.fork 4 (opL [2,5,6] .done) .noalt)))))] hv
theorem ident_New.walk {source_0 : Bool} {source_1 : Int} {source_2 : Int} {source_3 : ByteArray} {source_4 : ByteArray} (hv :
 NewP h (.cells #[.bool source_0, .int .u64 source_1, .int .u64 source_2, .string source_3, .string source_4] 34) fun b h_1 =>
 JoinP (fun (t11 : Bool) h_2 =>
 ite t11
 (  R (.tuple #[.pointer none, .int .i64 3]) h_2)
 (  eid_Eid.LD h_2 ⟨b, 0, none⟩ fun t12_0 t12_1 t12_2 t12_3 t12_4 =>
 NewP h_2 (.cells #[.bool t12_0, .int .u64 t12_1, .int .u64 t12_2, .string t12_3, .string t12_4, .int .u64 0, .int .u64 0, .bool true] 146) fun b_1 h_3 =>
 R (.tuple #[.pointer (some ⟨b_1, 0, none⟩), .int .i64 0]) h_3))
 (fun J =>
 eid_Eid.LD h_1 ⟨b, 0, none⟩ fun t4_0 t4_1 t4_2 t4_3 t4_4 =>
 Cl 18 #[.agg #[.bool t4_0, .int .u64 t4_1, .int .u64 t4_2, .string t4_3, .string t4_4]] h_1 fun v h_4 =>
 ∃ t5, v = .bool t5 ∧
 ite (!t5)
 (  J true h_4)
 (  eid_Eid.LD h_4 ⟨b, 0, none⟩ fun t8_0 t8_1 t8_2 t8_3 t8_4 =>
 ∃ (eq : Bool), Eqz 34 (.agg #[.bool t8_0, .int .u64 t8_1, .int .u64 t8_2, .string t8_3, .string t8_4]) (.agg #[.bool false, .int .u64 0, .int .u64 0, .string (⟨#[]⟩ : ByteArray), .string (⟨#[]⟩ : ByteArray)]) eq ∧
 J eq h_4))) : Cl 102 #[.agg #[.bool source_0, .int .u64 source_1, .int .u64 source_2, .string source_3, .string source_4]] h R :=
 callsN [(4, .join [(11, sB)])] hv
theorem ident_Maker_Last.walk {m : Nat} (hv :
 NewP h (.cells #[.bool false, .int .u64 0, .int .u64 0, .string (⟨#[]⟩ : ByteArray), .string (⟨#[]⟩ : ByteArray), .int .u64 0, .int .u64 0] 98) fun b h_1 =>
 JoinP (fun (t11 : Bool) h_2 =>
 ite t11
 (  ident_Ident.ST h_2 ⟨b, 0, none⟩ false 0 0 (⟨#[]⟩ : ByteArray) (⟨#[]⟩ : ByteArray) 0 0 fun h_3 =>
 ident_Ident.LD h_3 ⟨b, 0, none⟩ fun r0_0 r0_1 r0_2 r0_3 r0_4 r0_5 r0_6 =>
 R (.agg #[.bool r0_0, .int .u64 r0_1, .int .u64 r0_2, .string r0_3, .string r0_4, .int .u64 r0_5, .int .u64 r0_6]) h_3)
 (  ident_Ident.LD h_2 ⟨m, 0, none⟩ fun t16_0 t16_1 t16_2 t16_3 t16_4 t16_5 t16_6 =>
 ident_Ident.ST h_2 ⟨b, 0, none⟩ t16_0 t16_1 t16_2 t16_3 t16_4 t16_5 t16_6 fun h_4 =>
 ident_Ident.LD h_4 ⟨b, 0, none⟩ fun r0_0_1 r0_1_1 r0_2_1 r0_3_1 r0_4_1 r0_5_1 r0_6_1 =>
 R (.agg #[.bool r0_0_1, .int .u64 r0_1_1, .int .u64 r0_2_1, .string r0_3_1, .string r0_4_1, .int .u64 r0_5_1, .int .u64 r0_6_1]) h_4))
 (fun J =>
 ∃ t9, hcell h_1 ⟨m, 7, none⟩ = some (.bool t9) ∧
 J (!t9) h_1)) : Cl 31 #[.pointer (some ⟨m, 0, none⟩)] h R :=
 callsN [(4, .join [(11, sB)])] hv
theorem slices_Concat_s_s_byte_s_byte.walk {slices_p : Option Addr} {slices_l slices_c : Nat} (hv :
 ∃ (I : Int → Int → Heap → Prop) (mu : Int → Int → Heap → Nat), I 0 0 h ∧ ∀ size t11 h_1, I size t11 h_1 →
 ite (decide (t11 < ((slices_l : Nat) : Int)))
 (  JoinP (fun (size_1 : Int) h_2 =>
 (I size_1 (IntKind.wrap .i64 (t11 + 1)) h_2 ∧ mu size_1 (IntKind.wrap .i64 (t11 + 1)) h_2 < mu size t11 h_1))
 (fun J =>
 ((0 : Int) ≤ t11 ∧ t11 < ((slices_l : Nat) : Int)) ∧
 onSome slices_p fun a =>
 ∃ t14_p t14_l t14_c, hcell h_1 (a.add (Int.toNat t11 * 1)) = some (.slice t14_p t14_l t14_c) ∧
 JoinP (fun h_3 =>
 J (IntKind.wrap .i64 (size + ((t14_l : Nat) : Int))) h_3)
 (fun J_1 =>
 ite (decide ((IntKind.wrap .i64 (size + ((t14_l : Nat) : Int))) < 0))
 (  False)
 (  J_1 h_1))))
 (  Cl 67 #[.slice none 0 0, .int .i64 size] h_1 fun v h_4 =>
 ∃ t24_p t24_l t24_c, v = .slice t24_p t24_l t24_c ∧
 ∃ (I_1 : Option Addr → Nat → Nat → Int → Heap → Prop) (mu_1 : Option Addr → Nat → Nat → Int → Heap → Nat), I_1 t24_p t24_l t24_c 0 h_4 ∧ ∀ newslice_p newslice_l newslice_c t27 h_5, I_1 newslice_p newslice_l newslice_c t27 h_5 →
 ite (decide (t27 < ((slices_l : Nat) : Int)))
 (  ((0 : Int) ≤ t27 ∧ t27 < ((slices_l : Nat) : Int)) ∧
 onSome slices_p fun a_1 =>
 ∃ t30_p t30_l t30_c, hcell h_5 (a_1.add (Int.toNat t27 * 1)) = some (.slice t30_p t30_l t30_c) ∧
 Dsz (Builtin.append_ #[44, 44] 44 #[.slice newslice_p newslice_l newslice_c, .slice t30_p t30_l t30_c]) h_5 fun v_1 h_6 =>
 ∃ t33_p t33_l t33_c, v_1 = .slice t33_p t33_l t33_c ∧
 (I_1 t33_p t33_l t33_c (IntKind.wrap .i64 (t27 + 1)) h_6 ∧ mu_1 t33_p t33_l t33_c (IntKind.wrap .i64 (t27 + 1)) h_6 < mu_1 newslice_p newslice_l newslice_c t27 h_5))
 (  R (.slice newslice_p newslice_l newslice_c) h_5))) : Cl 42 #[.slice slices_p slices_l slices_c] h R :=
 callsN [(8, .loop [(3, sI), (11, sI)]), (16, .join [(3, sI)]), (23, .join []), (33, .loop [(6, sS), (27, sI)])] hv
theorem slices_Grow_s_s_byte_s_byte.walk {s_p : Option Addr} {s_l s_c : Nat} {n : Int} (hv :
 JoinP (fun h_1 =>
 JoinP (fun (s_p_1 : Option Addr) (s_l_1 s_c_1 : Nat) h_2 =>
 R (.slice s_p_1 s_l_1 s_c_1) h_2)
 (fun J_1 =>
 ite (decide ((IntKind.wrap .i64 (n - (IntKind.wrap .i64 (((s_c : Nat) : Int) - ((s_l : Nat) : Int))))) > 0))
 (  ((0 : Int) ≤ ((s_c : Nat) : Int) ∧ ((s_c : Nat) : Int) ≤ ((s_c : Nat) : Int)) ∧
 Dsz (Builtin.append_ #[44, 3] 44 #[.slice (slBase s_p s_c 0 1) ((Int.toNat ((s_c : Nat) : Int)) - 0) (s_c - 0), .int .i64 (IntKind.wrap .i64 (n - (IntKind.wrap .i64 (((s_c : Nat) : Int) - ((s_l : Nat) : Int)))))]) h_1 fun v h_3 =>
 ∃ t22_p t22_l t22_c, v = .slice t22_p t22_l t22_c ∧
 ((0 : Int) ≤ ((s_l : Nat) : Int) ∧ ((s_l : Nat) : Int) ≤ ((t22_c : Nat) : Int)) ∧
 J_1 (slBase t22_p t22_c 0 1) ((Int.toNat ((s_l : Nat) : Int)) - 0) (t22_c - 0) h_3)
 (  J_1 s_p s_l s_c h_1)))
 (fun J =>
 ite (decide (n < 0))
 (  False)
 (  J h))) : Cl 67 #[.slice s_p s_l s_c, .int .i64 n] h R :=
 callsN [(5, .join []), (13, .join [(0, sS)])] hv

end
section
namespace Stt
open Obx (It)
open Eid (Ev rightE ev5)
variable {h:Heap} {R:TyP} {s k:Nat} {X:Ft} {I:Ids} {σ:SS}
theorem made_ok {n r : Nat} (B : Bk h s I n r) (hk : R (.bool true) h) : Cl 30 #[pt s] h R := by
  refine state_State_made.walk ?_
  repeat (first | exact hk | refine ⟨_, cell_at B rfl, ?_⟩ | rfl)
theorem Pt.okB (H : Pt h s X I σ) : ∃ L, Obx.okB σ.B L := by
  have ⟨Z, L, B, ok⟩ := H.box
  exact ⟨L, ok⟩
theorem Pt.ord (H : Pt h s X I σ) : Cps.Ord σ.C := by
  have ⟨Y, hp, _⟩ := H
  exact Cps.Ct.ord (hp 2)
theorem Good.small (G : Good σ k) (O : Cps.Ord σ.C) (hk : k ≤ 40000) : Cps.Small σ.C := G.c.small O hk

end Stt
end
section
namespace Stt
open Eid (Ev rightE ev5)
variable {h h':Heap} {R:TyP} {s k:Nat} {X:Ft} {I:Ids}
def mayE (x : Ev) : Prop := rightE x = true ∧ x ≠ Ev.zero
instance (x : Ev) : Decidable (mayE x) := by unfold mayE; infer_instance
theorem identNew_ok (x : Ev) (k1 : mayE x → ∀ h' b, Mk h' b x 0 0 → h.size ≤ b → Fr No h h' → R (.tuple #[pt b, .int .i64 0]) h')
    (k2 : ¬ mayE x → ∀ h', Fr No h h' → R (.tuple #[.pointer none, .int .i64 3]) h') : Cl 102 #[ev5 x] h R := by
  refine ident_New.walk (eid_Eid.box fun b h1 eb hb f1 => JoinP.of fun J hJ => eid_Eid.ld hb (Eid.right_ok x fun h2 f2 => ⟨_, rfl, ?_⟩))
  have hb2 := f2.get hb id
  cases hr : rightE x with
  | false =>
    subst hJ
    exact k2 (fun m => by rw [m.1] at hr; cases hr) h2 (f1.tt f2)
  | true =>
    refine eid_Eid.ld hb2 ⟨_, Eid.eqv' (y := Ev.zero) rfl rfl, ?_⟩
    subst hJ
    by_cases hz : x = Ev.zero
    · rw [decide_eq_true hz]
      dsimp only
      exact k2 (fun m => m.2 hz) h2 (f1.tt f2)
    · rw [decide_eq_false hz]
      dsimp only
      refine eid_Eid.ld hb2 (newP_of (k1 ⟨hr, hz⟩ _ _ push_new (Nat.le_trans f1.1 f2.1) ((f1.tt f2).tt (Fr.push _ _))))
theorem new_ok (x : Ev) (k1 : mayE x → ∀ h' s X I, Pt h' s X I (newS x) → UpF h X h' → R (.tuple #[pt s, .int .i64 0]) h')
    (k2 : ¬ mayE x → ∀ h', Fr No h h' → R (.tuple #[.pointer none, .int .i64 3]) h') : Cl 68 #[ev5 x] h R := by
  refine state_New.walk (eid_Eid.box fun b h1 eb hb f1 => eid_Eid.ld hb (identNew_ok x (fun hm h2 k M2 g2 f2 => ⟨_, _, rfl, ?_⟩) (fun hm h2 f2 => ⟨_, _, rfl, ?_⟩)))
  · rw [if_neg (by decide)]
    refine Quota.new_ok 4800 1600 (fun _ h3 p m P3 g3 g3' f3 => ⟨_, _, rfl, ?_⟩) (fun e => absurd e (by decide))
    rw [if_neg (by decide)]
    refine Ses.new_ok fun h4 t X0 H4 f4 u4 => ⟨_, rfl, Regs.new_ok fun h5 r X1 H5 u5 => ⟨_, rfl, Cps.new_ok fun h6 c X2 H6 u6 => ⟨_, rfl, Obx.new_ok fun h7 o X3 H7 f7 u7 => ⟨_, rfl, newP_of ?_⟩⟩⟩⟩
    have f8 : Fr No h7 (h7.push (.cells #[.pointer (some ⟨t, 0, none⟩), .pointer (some ⟨r, 0, none⟩), .pointer (some ⟨c, 0, none⟩), .pointer (some ⟨o, 0, none⟩), .pointer (some ⟨p, 0, none⟩), .pointer (some ⟨k, 0, none⟩), .int .u64 0, .int .i64 0] 68)) := Fr.push _ _
    have B8 : (h7.push (.cells #[.pointer (some ⟨t, 0, none⟩), .pointer (some ⟨r, 0, none⟩), .pointer (some ⟨c, 0, none⟩), .pointer (some ⟨o, 0, none⟩), .pointer (some ⟨p, 0, none⟩), .pointer (some ⟨k, 0, none⟩), .int .u64 0, .int .i64 0] 68))[h7.size]? = _ := push_new
    have z8 : (h7.push (.cells #[.pointer (some ⟨t, 0, none⟩), .pointer (some ⟨r, 0, none⟩), .pointer (some ⟨c, 0, none⟩), .pointer (some ⟨o, 0, none⟩), .pointer (some ⟨p, 0, none⟩), .pointer (some ⟨k, 0, none⟩), .int .u64 0, .int .i64 0] 68)).size = h7.size + 1 := Array.size_push _
    generalize h7.push (.cells #[.pointer (some ⟨t, 0, none⟩), .pointer (some ⟨r, 0, none⟩), .pointer (some ⟨c, 0, none⟩), .pointer (some ⟨o, 0, none⟩), .pointer (some ⟨p, 0, none⟩), .pointer (some ⟨k, 0, none⟩), .int .u64 0, .int .i64 0] 68) = h8 at f8 B8 z8 ⊢
    have F7 := f7.tt f8
    have F6 := u6.fr.tt F7
    have F5 := u5.fr.tt F6
    have F4 := f4.tt F5
    have F3 := f3.tt F4
    have F8 := f1.tt (f2.tt F3)
    have z1 := f1.1
    have z2 := f2.1
    have z3 := f3.1
    have z4 := f4.1
    have z5 := u5.fr.1
    have z6 := u6.fr.1
    have z7 := f7.1
    have lp := P3.lt
    have lk := lt_of_get M2
    let Y : Nat → Ft := fun i => match i with
      | 0 => X0 | 1 => X1 | 2 => X2 | 3 => X3
      | 4 => ⟨fun y => y = p ∨ y = m, fun _ => False⟩
      | 5 => ⟨fun y => y = k, fun _ => False⟩
      | 6 => ⟨fun y => y = h7.size, fun _ => False⟩
      | _ => ⟨fun _ => False, fun _ => False⟩
    let lo : Nat → Nat := fun i => [h3.size, h4.size, h5.size, h6.size, h2.size, h1.size].getD i h7.size
    let hi : Nat → Nat := fun i => [h4.size, h5.size, h6.size, h7.size, h3.size, h2.size].getD i h8.size
    have bd : ∀ i y, In (Y i) y → lo i ≤ y ∧ y < hi i := fun i y hy => by
      rcases i with _ | _ | _ | _ | _ | _ | _ | i
      · exact ⟨u4 y hy, H4.lt y hy⟩
      · exact ⟨u5.ge y hy, H5.lt y hy⟩
      · exact ⟨u6.ge y hy, H6.lt y hy⟩
      · exact ⟨u7 y hy, H7.lt y hy⟩
      · rcases hy with hy | hy
        · grind
        · exact hy.elim
      · rcases hy with hy | hy
        · have hy : y = k := hy
          exact ⟨hy ▸ g2, hy ▸ lk⟩
        · exact hy.elim
      · rcases hy with hy | hy
        · grind
        · exact hy.elim
      · rcases hy with hy | hy <;> exact hy.elim
    refine k1 hm h8 h7.size ⟨fun y => ∃ i, (Y i).M y, fun y => ∃ i, (Y i).D y⟩ ⟨t, r, c, o, p, k⟩ ⟨Y, fun i => ?_, fun i j y hij hy hz => ?_, fun _ => Iff.rfl, fun _ => Iff.rfl⟩ ⟨F8, fun y hy => ?_⟩
    · rcases i with _ | _ | _ | _ | _ | _ | _ | i
      · exact H4.frame F5 (fun _ _ => id)
      · exact H5.on F6
      · exact H6.on F7
      · exact Obx.Box.on ⟨[], H7, Obx.okB.nil⟩ f8
      · exact ⟨m, P3.frame F4 id id, fun y => ⟨Iff.rfl, id⟩⟩
      · exact ⟨F3.get M2 id, fun y => ⟨Iff.rfl, id⟩⟩
      · exact ⟨B8, fun y => ⟨Iff.rfl, id⟩⟩
      · exact fun y hy => hy.elim id id
    · have h1 := bd i y hy
      have h2 := bd j y hz
      have e7 : ∀ i, ¬ In (Y (i + 7)) y := fun i hy => hy.elim id id
      rcases i with _ | _ | _ | _ | _ | _ | _ | i <;> first | exact e7 i hy | (rcases j with _ | _ | _ | _ | _ | _ | _ | j <;> first | exact e7 j hz | exact hij rfl | (simp only [lo, hi, List.getD_cons_zero, List.getD_cons_succ, List.getD_nil] at h1 h2; omega))
    · have key : ∀ i, In (Y i) y → h.size ≤ y := fun i a => by
        have h1 := (bd i y a).1
        rcases i with _ | _ | _ | _ | _ | _ | _ | i <;> (simp only [lo, List.getD_cons_zero, List.getD_cons_succ, List.getD_nil] at h1; omega)
      rcases hy with ⟨i, a⟩ | ⟨i, a⟩
      · exact key i (.inl a)
      · exact key i (.inr a)
  · rw [if_pos (by decide)]
    exact k2 hm h2 (f1.tt f2)

end Stt
end
section
variable {h:Heap} {R:TyP}
variable {b d l s_l s_c keep_l keep_c:Nat} {s_p keep_p:TyO} {now:Int}
abbrev eid_Eid.atp (h : Heap) (b : Nat) (x : eid_Eid.S) : Prop := h[b]? = some (.cells x.arr 34 (0, 0))
theorem eid_Eid.ex {K : eid_Eid.S → Prop} (x : eid_Eid.S) (hk : K x) : eid_Eid.EX K := ⟨_, _, _, _, _, hk⟩
theorem eid_Eid.ldAp {a : Addr} {x : eid_Eid.S} {K : eid_Eid.S → Prop} (hb : heldL a x.l 0 h) (hk : K x) : eid_Eid.LDp h a K := by
  obtain ⟨q0, q1, q2, q3, q4, _⟩ := hb
  rw [add_zero_addr] at q0
  exact ⟨_, q0, _, q1, _, q2, _, q3, _, q4, hk⟩
theorem eid_Eid.heldp {x : eid_Eid.S} (hb : eid_Eid.atp h b x) : heldL ⟨b, 0, none⟩ x.l 0 h :=
  heldL_blk hb (fun j v hj => by rw [Nat.zero_add]; simpa using hj)
theorem eid_Eid.ldp {x : eid_Eid.S} {K : eid_Eid.S → Prop} (hb : eid_Eid.atp h b x) (hk : K x) : eid_Eid.LDp h ⟨b, 0, none⟩ K := ldAp (heldp hb) hk
theorem eid_Eid.newp {x : eid_Eid.S} {K : Nat → Heap → Prop} (hk : ∀ b h', b = h.size → eid_Eid.atp h' b x → Fr No h h' → K b h') : NewP h (.cells eid_Eid.S.z.arr 34) fun b h_0 => eid_Eid.STp h_0 ⟨b, 0, none⟩ x (K b) :=
  new_full (vs := x.l) rfl rfl hk
theorem eid_Eid.boxp {x : eid_Eid.S} {K : Nat → Heap → Prop} (hk : ∀ b h', b = h.size → eid_Eid.atp h' b x → Fr No h h' → K b h') : NewP h (.cells x.arr 34) fun b h_0 => K b h_0 :=
  newP_of (hk _ _ rfl push_new (Fr.push _ _))
variable {K:eid_Eid.S→Prop} {x self:eid_Eid.S}
theorem boot_log.walk (hv :
 NewP h (.cells self.arr 34) fun b h_1 =>
 eid_Eid.LDp h_1 ⟨b, 0, none⟩ fun t10 =>
 Cl 44 #[.pointer (some ⟨d, 0, none⟩), t10.agg] h_1 fun v h_2 =>
 ∃ t11_0 t11_1, v = .tuple #[.pointer t11_0, .int .i64 t11_1] ∧
 ite (t11_1 == 4)
 (  eid_Eid.LDp h_2 ⟨b, 0, none⟩ fun t17 =>
 Cl 45 #[.pointer (some ⟨d, 0, none⟩), t17.agg] h_2 fun v_1 h_3 =>
 ∃ t18_0 t18_1, v_1 = .tuple #[.pointer t18_0, .int .i64 t18_1] ∧
 R (.tuple #[.pointer t18_0, .int .i64 t18_1]) h_3)
 (  R (.tuple #[.pointer t11_0, .int .i64 t11_1]) h_2)) : Cl 19 #[.pointer (some ⟨d, 0, none⟩), self.agg] h R :=
 callsN [] hv
theorem boot_sure.walk (hv :
 ∃ (I : Heap → Prop) (mu : Heap → Nat), (
 I h) ∧ ∀ h_1, I h_1 →
 Cl 52 #[.pointer (some ⟨l, 0, none⟩)] h_1 fun v h_2 =>
 ∃ t6, v = .int .i64 t6 ∧
 Cl 12 #[.pointer (some ⟨l, 0, none⟩)] h_2 fun v_1 h_3 =>
 ∃ t8, v_1 = .int .i64 t8 ∧
 ite (decide (t6 < t8))
 (  Cl 53 #[.pointer (some ⟨l, 0, none⟩)] h_3 fun v_2 h_4 =>
 ∃ t12_0 t12_1, v_2 = .tuple #[.int .i64 t12_0, .int .i64 t12_1] ∧
 ite (t12_1 != 0)
 (  R (.int .i64 t12_1) h_4)
 (  (I h_4 ∧ mu h_4 < mu h_1)))
 (  R (.int .i64 0) h_3)) : Cl 24 #[.pointer (some ⟨l, 0, none⟩)] h R :=
 callsN [(2, fun _ => .scope 0 [] ll (lq (sq (lq (cq (sq (lq (lq (cq ll lf))) lf) lf)) ll)))] hv
theorem slices_IndexFunc_s_sessions_Session_sessions_Session.up.walk (hv :
 ∃ (I : Int → Heap → Prop) (mu : Int → Heap → Nat), I 0 h ∧ ∀ t8 h_1, I t8 h_1 →
 ite (decide (t8 < ((s_l : Nat) : Int)))
 (  ((0 : Int) ≤ t8 ∧ t8 < ((s_l : Nat) : Int)) ∧
 onSome s_p fun a =>
 sessions_Session.LD h_1 (a.add (Int.toNat t8 * 6)) fun t15_0 t15_1 t15_2 t15_3 t15_4_p t15_4_l t15_4_c t15_5_p t15_5_l t15_5_c =>
 Cl 20 #[.agg #[.int .i64 t15_0, .int .u64 t15_1, .bool t15_2, .bool t15_3, .slice t15_4_p t15_4_l t15_4_c, .slice t15_5_p t15_5_l t15_5_c]] h_1 fun v h_2 =>
 ∃ t16, v = .bool t16 ∧
 ite t16
 (  R (.int .i64 t8) h_2)
 (  (I (IntKind.wrap .i64 (t8 + 1)) h_2 ∧ mu (IntKind.wrap .i64 (t8 + 1)) h_2 < mu t8 h_1)))
 (  R (.int .i64 (-1)) h_1)) : Cl 46 #[.slice s_p s_l s_c, .func (.func 20) #[] #[]] h R :=
 callsN [(6, .loop [(8, sI)])] hv
theorem slices_ContainsFunc_s_sessions_Session_sessions_Session.up.walk (hv :
 Cl 46 #[.slice s_p s_l s_c, .func (.func 20) #[] #[]] h fun v h_1 =>
 ∃ t7, v = .int .i64 t7 ∧
 R (.bool (decide (t7 ≥ 0))) h_1) : Cl 21 #[.slice s_p s_l s_c, .func (.func 20) #[] #[]] h R :=
 callsN [] hv
theorem boot_Start.walk (hv :
 NewP h (.cells self.arr 34) fun b h_1 =>
 Cl 17 #[.pointer (some ⟨d, 0, none⟩)] h_1 fun v h_2 =>
 ∃ t17, v = .int .i64 t17 ∧
 ite (t17 == 0)
 (  R (.tuple #[.pointer none, .int .i64 6]) h_2)
 (  JoinP (fun (t19 : Bool) h_3 =>
 ite t19
 (  R (.tuple #[.pointer none, .int .i64 3]) h_3)
 (  ite (decide (now > 1099511627776))
 (  R (.tuple #[.pointer none, .int .i64 1]) h_3)
 (  eid_Eid.LDp h_3 ⟨b, 0, none⟩ fun t33 =>
 Cl 19 #[.pointer (some ⟨d, 0, none⟩), t33.agg] h_3 fun v_1 h_4 =>
 ∃ t34_0 t34_1, v_1 = .tuple #[.pointer t34_0, .int .i64 t34_1] ∧
 ite (t34_1 != 0)
 (  R (.tuple #[.pointer none, .int .i64 t34_1]) h_4)
 (  Cl 13 #[.pointer t34_0] h_4 fun v_2 h_5 =>
 ∃ t42, v_2 = .pointer t42 ∧
 onSome t42 fun a =>
 ∃ t45, hcell h_5 (a.add 6) = some (.int .u64 t45) ∧
 Cl 13 #[.pointer t34_0] h_5 fun v_3 h_6 =>
 ∃ t48, v_3 = .pointer t48 ∧
 onSome t48 fun a_1 =>
 ∃ t51, hcell h_6 a_1 = some (.pointer t51) ∧
 Cl 22 #[.pointer t51] h_6 fun v_4 h_7 =>
 ∃ t52_p t52_l t52_c, v_4 = .slice t52_p t52_l t52_c ∧
 Cl 21 #[.slice t52_p t52_l t52_c, .func (.func 20) #[] #[]] h_7 fun v_5 h_8 =>
 ∃ t54, v_5 = .bool t54 ∧
 JoinP (fun h_9 =>
 Cl 24 #[.pointer t34_0] h_9 fun v_6 h_10 =>
 ∃ t67, v_6 = .int .i64 t67 ∧
 ite (t67 != 0)
 (  R (.tuple #[.pointer none, .int .i64 t67]) h_10)
 (  Cl 25 #[.pointer t34_0, .int .u64 (if t45 > now then t45 else now)] h_10 fun v_7 h_11 =>
 ∃ t73_0 t73_1, v_7 = .tuple #[.pointer t73_0, .int .i64 t73_1] ∧
 R (.tuple #[.pointer t73_0, .int .i64 t73_1]) h_11))
 (fun J_1 =>
 ite t54
 (  Cl 23 #[.pointer t34_0, .agg #[.int .u64 (if t45 > now then t45 else now), .int .i64 8, .int .u64 0, .int .i64 0, .int .u64 0, .int .i64 0, .bool false, .int .u64 0, .int .u64 0, .string (⟨#[]⟩ : ByteArray), .string (⟨#[]⟩ : ByteArray), .bool false, .int .u64 0, .int .u64 0, .string (⟨#[]⟩ : ByteArray), .string (⟨#[]⟩ : ByteArray), .int .i64 0, .int .i64 0, .int .i64 0, .slice none 0 0, .int .u64 0, .int .u64 0, .bool false, .slice none 0 0]] h_8 fun v_8 h_12 =>
 reply_Reply.EX fun t59_0 =>
 ∃ t59_1 t59_2, v_8 = .tuple #[t59_0.agg, .int .i64 t59_1, .int .i64 t59_2] ∧
 NewP h_12 (.cells reply_Reply.S.z.arr 80) fun b_1 h_13 =>
 reply_Reply.STp h_13 ⟨b_1, 0, none⟩ t59_0 fun h_14 =>
 ite (t59_2 != 0)
 (  R (.tuple #[.pointer none, .int .i64 t59_2]) h_14)
 (  J_1 h_14))
 (  J_1 h_8))))))
 (fun J =>
 eid_Eid.LDp h_2 ⟨b, 0, none⟩ fun t20 =>
 Cl 18 #[t20.agg] h_2 fun v_9 h_15 =>
 ∃ t21, v_9 = .bool t21 ∧
 ite (!t21)
 (  J true h_15)
 (  eid_Eid.LDp h_15 ⟨b, 0, none⟩ fun t24 =>
 ∃ (eq : Bool), Eqz 34 (t24.agg) (eid_Eid.S.z.agg) eq ∧
 J eq h_15)))) : Cl 6 #[.pointer (some ⟨d, 0, none⟩), self.agg, .int .u64 now] h R :=
 callsN [(11, .join [(19, sB)]), (40, .join [])] hv
theorem boot_Start.nil.walk (hv :
 NewP h (.cells self.arr 34) fun b h_1 =>
 Cl 17 #[.pointer none] h_1 fun v h_2 =>
 ∃ t17, v = .int .i64 t17 ∧
 ite (t17 == 0)
 (  R (.tuple #[.pointer none, .int .i64 6]) h_2)
 (  JoinP (fun (t19 : Bool) h_3 =>
 ite t19
 (  R (.tuple #[.pointer none, .int .i64 3]) h_3)
 (  ite (decide (now > 1099511627776))
 (  R (.tuple #[.pointer none, .int .i64 1]) h_3)
 (  eid_Eid.LDp h_3 ⟨b, 0, none⟩ fun t33 =>
 Cl 19 #[.pointer none, t33.agg] h_3 fun v_1 h_4 =>
 ∃ t34_0 t34_1, v_1 = .tuple #[.pointer t34_0, .int .i64 t34_1] ∧
 ite (t34_1 != 0)
 (  R (.tuple #[.pointer none, .int .i64 t34_1]) h_4)
 (  Cl 13 #[.pointer t34_0] h_4 fun v_2 h_5 =>
 ∃ t42, v_2 = .pointer t42 ∧
 onSome t42 fun a =>
 ∃ t45, hcell h_5 (a.add 6) = some (.int .u64 t45) ∧
 Cl 13 #[.pointer t34_0] h_5 fun v_3 h_6 =>
 ∃ t48, v_3 = .pointer t48 ∧
 onSome t48 fun a_1 =>
 ∃ t51, hcell h_6 a_1 = some (.pointer t51) ∧
 Cl 22 #[.pointer t51] h_6 fun v_4 h_7 =>
 ∃ t52_p t52_l t52_c, v_4 = .slice t52_p t52_l t52_c ∧
 Cl 21 #[.slice t52_p t52_l t52_c, .func (.func 20) #[] #[]] h_7 fun v_5 h_8 =>
 ∃ t54, v_5 = .bool t54 ∧
 JoinP (fun h_9 =>
 Cl 24 #[.pointer t34_0] h_9 fun v_6 h_10 =>
 ∃ t67, v_6 = .int .i64 t67 ∧
 ite (t67 != 0)
 (  R (.tuple #[.pointer none, .int .i64 t67]) h_10)
 (  Cl 25 #[.pointer t34_0, .int .u64 (if t45 > now then t45 else now)] h_10 fun v_7 h_11 =>
 ∃ t73_0 t73_1, v_7 = .tuple #[.pointer t73_0, .int .i64 t73_1] ∧
 R (.tuple #[.pointer t73_0, .int .i64 t73_1]) h_11))
 (fun J_1 =>
 ite t54
 (  Cl 23 #[.pointer t34_0, .agg #[.int .u64 (if t45 > now then t45 else now), .int .i64 8, .int .u64 0, .int .i64 0, .int .u64 0, .int .i64 0, .bool false, .int .u64 0, .int .u64 0, .string (⟨#[]⟩ : ByteArray), .string (⟨#[]⟩ : ByteArray), .bool false, .int .u64 0, .int .u64 0, .string (⟨#[]⟩ : ByteArray), .string (⟨#[]⟩ : ByteArray), .int .i64 0, .int .i64 0, .int .i64 0, .slice none 0 0, .int .u64 0, .int .u64 0, .bool false, .slice none 0 0]] h_8 fun v_8 h_12 =>
 reply_Reply.EX fun t59_0 =>
 ∃ t59_1 t59_2, v_8 = .tuple #[t59_0.agg, .int .i64 t59_1, .int .i64 t59_2] ∧
 NewP h_12 (.cells reply_Reply.S.z.arr 80) fun b_1 h_13 =>
 reply_Reply.STp h_13 ⟨b_1, 0, none⟩ t59_0 fun h_14 =>
 ite (t59_2 != 0)
 (  R (.tuple #[.pointer none, .int .i64 t59_2]) h_14)
 (  J_1 h_14))
 (  J_1 h_8))))))
 (fun J =>
 eid_Eid.LDp h_2 ⟨b, 0, none⟩ fun t20 =>
 Cl 18 #[t20.agg] h_2 fun v_9 h_15 =>
 ∃ t21, v_9 = .bool t21 ∧
 ite (!t21)
 (  J true h_15)
 (  eid_Eid.LDp h_15 ⟨b, 0, none⟩ fun t24 =>
 ∃ (eq : Bool), Eqz 34 (t24.agg) (eid_Eid.S.z.agg) eq ∧
 J eq h_15)))) : Cl 6 #[.pointer none, self.agg, .int .u64 now] h R :=
 callsN [(11, .join [(19, sB)]), (40, .join [])] hv
theorem boot_Crash.walk {x : Nat} (hv :
 NewP h (.cells self.arr 34) fun b h_1 =>
 Cl 11 #[.pointer (some ⟨x, 0, none⟩)] h_1 fun v h_2 =>
 ∃ t12, v = .pointer t12 ∧
 ite t12.isNone
 (  R (.tuple #[.pointer none, .int .i64 6]) h_2)
 (  Cl 15 #[.pointer (some ⟨d, 0, none⟩), .slice keep_p keep_l keep_c] h_2 fun v_1 h_3 =>
 ∃ t16, v_1 = .int .i64 t16 ∧
 ite (t16 != 0)
 (  R (.tuple #[.pointer none, .int .i64 t16]) h_3)
 (  eid_Eid.LDp h_3 ⟨b, 0, none⟩ fun t21 =>
 Cl 9 #[.pointer (some ⟨x, 0, none⟩)] h_3 fun v_2 h_4 =>
 ∃ t23, v_2 = .int .u64 t23 ∧
 Kp h_3 h_4 [(some ⟨b, 0, none⟩)] ∧
 Cl 6 #[.pointer (some ⟨d, 0, none⟩), t21.agg, .int .u64 t23] h_4 fun v_3 h_5 =>
 ∃ t24_0 t24_1, v_3 = .tuple #[.pointer t24_0, .int .i64 t24_1] ∧
 R (.tuple #[.pointer t24_0, .int .i64 t24_1]) h_5))) : Cl 16 #[.pointer (some ⟨x, 0, none⟩), .pointer (some ⟨d, 0, none⟩), .slice keep_p keep_l keep_c, self.agg] h R :=
 callsN [(21, fun _ => .planK (runP 9 0 .done))] hv
theorem boot_Crash.nil.walk (hv :
 NewP h (.cells self.arr 34) fun b h_1 =>
 Cl 11 #[.pointer none] h_1 fun v h_2 =>
 ∃ t12, v = .pointer t12 ∧
 ite t12.isNone
 (  R (.tuple #[.pointer none, .int .i64 6]) h_2)
 (  Cl 15 #[.pointer (some ⟨d, 0, none⟩), .slice keep_p keep_l keep_c] h_2 fun v_1 h_3 =>
 ∃ t16, v_1 = .int .i64 t16 ∧
 ite (t16 != 0)
 (  R (.tuple #[.pointer none, .int .i64 t16]) h_3)
 (  eid_Eid.LDp h_3 ⟨b, 0, none⟩ fun t21 =>
 Cl 9 #[.pointer none] h_3 fun v_2 h_4 =>
 ∃ t23, v_2 = .int .u64 t23 ∧
 Kp h_3 h_4 [(some ⟨b, 0, none⟩)] ∧
 Cl 6 #[.pointer (some ⟨d, 0, none⟩), t21.agg, .int .u64 t23] h_4 fun v_3 h_5 =>
 ∃ t24_0 t24_1, v_3 = .tuple #[.pointer t24_0, .int .i64 t24_1] ∧
 R (.tuple #[.pointer t24_0, .int .i64 t24_1]) h_5))) : Cl 16 #[.pointer none, .pointer (some ⟨d, 0, none⟩), .slice keep_p keep_l keep_c, self.agg] h R :=
 callsN [(21, fun _ => .planK (runP 9 0 .done))] hv
theorem pend_New.walk  (hv :
 NewP h (.cells #[.bool true, .slice none 0 0] 190) fun b h_1 =>
 R (.pointer (some ⟨b, 0, none⟩)) h_1) : Cl 54 #[] h R :=
 callsN [] hv
theorem daemon_New.walk (hv :
 Cl 13 #[.pointer (some ⟨l, 0, none⟩)] h fun v h_1 =>
 ∃ t8, v = .pointer t8 ∧
 ite t8.isNone
 (  R (.tuple #[.pointer none, .int .i64 6]) h_1)
 (  JoinP (fun (t12 : Bool) h_2 =>
 ite t12
 (  R (.tuple #[.pointer none, .int .i64 1]) h_2)
 (  NewP h_2 (.map #[] 0) fun b h_3 =>
 Cl 54 #[] h_3 fun v_1 h_4 =>
 ∃ t25, v_1 = .pointer t25 ∧
 NewP h_4 (.cells #[.pointer (some ⟨l, 0, none⟩), .map (some b), .int .i64 1, .pointer t25, .int .u64 now] 92) fun b_1 h_5 =>
 R (.tuple #[.pointer (some ⟨b_1, 0, none⟩), .int .i64 0]) h_5))
 (fun J =>
 ite (decide (now > 1099511627776))
 (  J true h_1)
 (  onSome t8 fun a =>
 ∃ t20, hcell h_1 (a.add 6) = some (.int .u64 t20) ∧
 J (decide (now < t20)) h_1)))) : Cl 25 #[.pointer (some ⟨l, 0, none⟩), .int .u64 now] h R :=
 callsN [(13, .join [(12, sB)])] hv
theorem daemon_Daemon_made.walk (hv :
 ∃ t9, hcell h ⟨d, 1, none⟩ = some (.map t9) ∧
 R (.bool (!t9.isNone)) h) : Cl 26 #[.pointer (some ⟨d, 0, none⟩)] h R :=
 callsN [] hv
theorem daemon_Daemon_Now.walk (hv :
 ∃ t8, hcell h ⟨d, 4, none⟩ = some (.int .u64 t8) ∧
 R (.int .u64 t8) h) : Cl 9 #[.pointer (some ⟨d, 0, none⟩)] h R :=
 callsN [] hv
theorem daemon_Daemon_Log.walk (hv :
 ∃ t8, hcell h ⟨d, 0, none⟩ = some (.pointer t8) ∧
 R (.pointer t8) h) : Cl 11 #[.pointer (some ⟨d, 0, none⟩)] h R :=
 callsN [] hv
theorem daemon_Daemon_Log.nil.walk  (hv :
 R (.pointer none) h) : Cl 11 #[.pointer none] h R :=
 callsN [] hv
theorem daemon_Daemon_Conns.walk (hv :
 Cl 26 #[.pointer (some ⟨d, 0, none⟩)] h fun v h_1 =>
 ∃ t6, v = .bool t6 ∧
 JoinP (fun (out_p : Option Addr) (out_l out_c : Nat) h_2 =>
 Cl 27 #[.slice out_p out_l out_c] h_2 fun v_1 h_3 =>
 v_1 = .tuple #[] ∧
 R (.slice out_p out_l out_c) h_3)
 (fun J =>
 ite t6
 (  ∃ t10, hcell h_1 ⟨d, 1, none⟩ = some (.map t10) ∧
 Dsz (Instr.range 89 (.map t10)) h_1 fun v_2 h_4 =>
 ∃ (it : Nat), v_2 = .pointer (some ⟨it, 0, none⟩) ∧
 ∃ (I : Option Addr → Nat → Nat → Heap → Prop) (mu : Option Addr → Nat → Nat → Heap → Nat), I none 0 0 h_4 ∧ ∀ out_p_1 out_l_1 out_c_1 h_5, I out_p_1 out_l_1 out_c_1 h_5 →
 Dsz (Instr.next (.pointer (some ⟨it, 0, none⟩)) false 0) h_5 fun v_3 h_6 =>
 (v_3 = .tuple #[.bool false] ∧
 J out_p_1 out_l_1 out_c_1 h_6) ∨
 (  ∃ (t12_k t12_v : Value), v_3 = .tuple #[.bool true, t12_k, t12_v] ∧
 Dsz (Instr.entry (.pointer (some ⟨it, 0, none⟩))) h_6 fun v_4 h_7 =>
 ∃ (t14_k t14_v : Value), v_4 = .tuple #[t14_k, t14_v] ∧
 ∃ t15, t14_k = .int .i64 t15 ∧
 NewP h_7 (.cells #[.int .i64 t15] 3) fun b h_8 =>
 Dsz (Builtin.append_ #[39, 39] 39 #[.slice out_p_1 out_l_1 out_c_1, .slice (some ⟨b, 0, none⟩) 1 1]) h_8 fun v_5 h_9 =>
 ∃ t19_p t19_l t19_c, v_5 = .slice t19_p t19_l t19_c ∧
 (I t19_p t19_l t19_c h_9 ∧ mu t19_p t19_l t19_c h_9 < mu out_p_1 out_l_1 out_c_1 h_5)))
 (  J none 0 0 h_1))) : Cl 10 #[.pointer (some ⟨d, 0, none⟩)] h R :=
 callsN [(7, .join [(3, sS)]), (11, .loop [(3, sS)]), (20, fun _ => .typed [(15, sI)])] hv
theorem law26_Self.walk  (hv :
 NewP h (.cells eid_Eid.S.z.arr 34) fun b h_1 =>
 eid_Eid.STp h_1 ⟨b, 0, none⟩ ⟨true, 7, 0, (⟨#[]⟩ : ByteArray), (⟨#[]⟩ : ByteArray)⟩ fun h_2 =>
 eid_Eid.LDp h_2 ⟨b, 0, none⟩ fun r0 =>
 R (r0.agg) h_2) : Cl 7 #[] h R :=
 callsN [] hv
theorem law33_made.walk {x : Nat} (hv :
 Cl 11 #[.pointer (some ⟨x, 0, none⟩)] h fun v h_1 =>
 ∃ t7, v = .pointer t7 ∧
 ite (!t7.isNone)
 (  Cl 11 #[.pointer (some ⟨x, 0, none⟩)] h_1 fun v_1 h_2 =>
 ∃ t12, v_1 = .pointer t12 ∧
 Cl 13 #[.pointer t12] h_2 fun v_2 h_3 =>
 ∃ t13, v_2 = .pointer t13 ∧
 R (.bool (!t13.isNone)) h_3)
 (  R (.bool false) h_1)) : Cl 8 #[.pointer (some ⟨x, 0, none⟩)] h R :=
 callsN [] hv
theorem law33_alive.walk  (hv :
 Cl 4 #[.int .i64 40] h fun v h_1 =>
 ∃ t14_0 t14_1, v = .tuple #[.pointer t14_0, .int .i64 t14_1] ∧
 JoinP (fun (t22 : Bool) h_2 =>
 ite t22
 (  R (.bool false) h_2)
 (  Cl 7 #[] h_2 fun v_1 h_3 =>
 eid_Eid.EX fun t25 =>
 v_1 = t25.agg ∧
 Cl 6 #[.pointer t14_0, t25.agg, .int .u64 5] h_3 fun v_2 h_4 =>
 ∃ t26_0 t26_1, v_2 = .tuple #[.pointer t26_0, .int .i64 t26_1] ∧
 JoinP (fun (t45 : Bool) h_5 =>
 ite t45
 (  R (.bool false) h_5)
 (  Cl 7 #[] h_5 fun v_3 h_6 =>
 eid_Eid.EX fun t49 =>
 v_3 = t49.agg ∧
 Cl 16 #[.pointer t26_0, .pointer t14_0, .slice none 0 0, t49.agg] h_6 fun v_4 h_7 =>
 ∃ t50_0 t50_1, v_4 = .tuple #[.pointer t50_0, .int .i64 t50_1] ∧
 Cl 7 #[] h_7 fun v_5 h_8 =>
 eid_Eid.EX fun t54 =>
 v_5 = t54.agg ∧
 Cl 6 #[.pointer none, t54.agg, .int .u64 5] h_8 fun v_6 h_9 =>
 ∃ t55_0 t55_1, v_6 = .tuple #[.pointer t55_0, .int .i64 t55_1] ∧
 Cl 6 #[.pointer t14_0, eid_Eid.S.z.agg, .int .u64 5] h_9 fun v_7 h_10 =>
 ∃ t61_0 t61_1, v_7 = .tuple #[.pointer t61_0, .int .i64 t61_1] ∧
 Cl 7 #[] h_10 fun v_8 h_11 =>
 eid_Eid.EX fun t66 =>
 v_8 = t66.agg ∧
 Cl 16 #[.pointer none, .pointer t14_0, .slice none 0 0, t66.agg] h_11 fun v_9 h_12 =>
 ∃ t67_0 t67_1, v_9 = .tuple #[.pointer t67_0, .int .i64 t67_1] ∧
 Cl 9 #[.pointer t26_0] h_12 fun v_10 h_13 =>
 ∃ t71, v_10 = .int .u64 t71 ∧
 ite (t71 == 5)
 (  Cl 11 #[.pointer t26_0] h_13 fun v_11 h_14 =>
 ∃ t75, v_11 = .pointer t75 ∧
 Cl 13 #[.pointer t75] h_14 fun v_12 h_15 =>
 ∃ t76, v_12 = .pointer t76 ∧
 onSome t76 fun a =>
 ∃ t79, hcell h_15 (a.add 6) = some (.int .u64 t79) ∧
 ite (t79 == 0)
 (  ite (t50_1 == 0)
 (  ite (!t50_0.isNone)
 (  Cl 9 #[.pointer t50_0] h_15 fun v_13 h_16 =>
 ∃ t92, v_13 = .int .u64 t92 ∧
 ite (t92 == 5)
 (  ite (t55_1 == 6)
 (  ite (t61_1 == 3)
 (  R (.bool (t67_1 == 6)) h_16)
 (  R (.bool false) h_16))
 (  R (.bool false) h_16))
 (  R (.bool false) h_16))
 (  R (.bool false) h_15))
 (  R (.bool false) h_15))
 (  R (.bool false) h_15))
 (  R (.bool false) h_13)))
 (fun J_1 =>
 ite (t26_1 != 0)
 (  J_1 true h_4)
 (  ite t26_0.isNone
 (  J_1 true h_4)
 (  Cl 11 #[.pointer t26_0] h_4 fun v_14 h_17 =>
 ∃ t37, v_14 = .pointer t37 ∧
 ite t37.isNone
 (  J_1 true h_17)
 (  Cl 11 #[.pointer t26_0] h_17 fun v_15 h_18 =>
 ∃ t42, v_15 = .pointer t42 ∧
 Cl 13 #[.pointer t42] h_18 fun v_16 h_19 =>
 ∃ t43, v_16 = .pointer t43 ∧
 J_1 t43.isNone h_19))))))
 (fun J =>
 ite (t14_1 != 0)
 (  J true h_1)
 (  J t14_0.isNone h_1))) : Cl 5 #[] h R :=
 callsN [(6, .join [(22, sB)]), (16, .join [(45, sB)])] hv
theorem law33_BootTwice.walk {n : Int} {times_p : Option Addr} {times_l times_c : Nat} (hv :
 Cl 4 #[.int .i64 n] h fun v h_1 =>
 ∃ t18_0 t18_1, v = .tuple #[.pointer t18_0, .int .i64 t18_1] ∧
 JoinP (fun (t30 : Bool) h_2 =>
 ite t30
 (  Cl 5 #[] h_2 fun v_1 h_3 =>
 ∃ t31, v_1 = .bool t31 ∧
 ite t31
 (  ite (decide (n ≥ 4))
 (  R (.bool ((t18_1 == 0) == (decide (n ≤ 4096)))) h_3)
 (  R (.bool ((t18_1 == 0) == false)) h_3))
 (  R (.bool false) h_3))
 (  ∃ (I : ByteArray → Int → Heap → Prop) (mu : ByteArray → Int → Heap → Nat), I (⟨#[]⟩ : ByteArray) 0 h_2 ∧ ∀ first i h_4, I first i h_4 →
 JoinP (fun (t50 : Bool) h_5 =>
 ite t50
 (  ((0 : Int) ≤ i ∧ i < ((times_l : Nat) : Int)) ∧
 onSome times_p fun a =>
 ∃ t59, hcell h_5 (a.add (Int.toNat i * 1)) = some (.int .u16 t59) ∧
 Cl 7 #[] h_5 fun v_2 h_6 =>
 eid_Eid.EX fun t55 =>
 v_2 = t55.agg ∧
 Kp h_5 h_6 [(some (a.add (Int.toNat i * 1)))] ∧
 Cl 6 #[.pointer t18_0, t55.agg, .int .u64 (IntKind.wrap .u64 t59)] h_6 fun v_3 h_7 =>
 ∃ t61_0 t61_1, v_3 = .tuple #[.pointer t61_0, .int .i64 t61_1] ∧
 Kp h_6 h_7 [(some (a.add (Int.toNat i * 1)))] ∧
 JoinP (fun (t92 : Bool) h_8 =>
 ite t92
 (  R (.bool false) h_8)
 (  Cl 11 #[.pointer t61_0] h_8 fun v_4 h_9 =>
 ∃ t94, v_4 = .pointer t94 ∧
 Cl 13 #[.pointer t94] h_9 fun v_5 h_10 =>
 ∃ t95, v_5 = .pointer t95 ∧
 Cl 14 #[.pointer t95] h_10 fun v_6 h_11 =>
 ∃ t96_p t96_l t96_c, v_6 = .slice t96_p t96_l t96_c ∧
 ∃ (I_1 : ByteArray → Int → Heap → Prop) (mu_1 : ByteArray → Int → Heap → Nat), I_1 (⟨#[]⟩ : ByteArray) 0 h_11 ∧ ∀ all k h_12, I_1 all k h_12 →
 ite (decide (k < ((t96_l : Nat) : Int)))
 (  ((0 : Int) ≤ k ∧ k < ((t96_l : Nat) : Int)) ∧
 onSome t96_p fun a_1 =>
 ∃ t107_p t107_l t107_c, hcell h_12 (a_1.add (Int.toNat k * 1)) = some (.slice t107_p t107_l t107_c) ∧
 ∃ (t108 : ByteArray), ConvV Tryz.prog 48 9 (.slice t107_p t107_l t107_c) h_12 t108 ∧
 ((all.size + t108.size : Nat) : Int) ≤ IntKind.max .i64 ∧
 (((all ++ t108).size + (⟨#[124]⟩ : ByteArray).size : Nat) : Int) ≤ IntKind.max .i64 ∧
 (I_1 ((all ++ t108) ++ (⟨#[124]⟩ : ByteArray)) (IntKind.wrap .i64 (k + 1)) h_12 ∧ mu_1 ((all ++ t108) ++ (⟨#[124]⟩ : ByteArray)) (IntKind.wrap .i64 (k + 1)) h_12 < mu_1 all k h_12))
 (  JoinP (fun (first_1 : ByteArray) h_13 =>
 ite (!(all.toList == first_1.toList))
 (  R (.bool false) h_13)
 (  Cl 15 #[.pointer t18_0, .slice keep_p keep_l keep_c] h_13 fun v_7 h_14 =>
 ∃ t119, v_7 = .int .i64 t119 ∧
 (I first_1 (IntKind.wrap .i64 (i + 1)) h_14 ∧ mu first_1 (IntKind.wrap .i64 (i + 1)) h_14 < mu first i h_4)))
 (fun J_3 =>
 ite (i == 0)
 (  J_3 all h_12)
 (  J_3 first h_12)))))
 (fun J_2 =>
 ite (t61_1 != 0)
 (  J_2 true h_7)
 (  Cl 8 #[.pointer t61_0] h_7 fun v_8 h_15 =>
 ∃ t68, v_8 = .bool t68 ∧
 ite (!t68)
 (  J_2 true h_15)
 (  ((0 : Int) ≤ i ∧ i < ((times_l : Nat) : Int)) ∧
 onSome times_p fun a_2 =>
 ∃ t77, hcell h_15 (a_2.add (Int.toNat i * 1)) = some (.int .u16 t77) ∧
 Cl 9 #[.pointer t61_0] h_15 fun v_9 h_16 =>
 ∃ t73, v_9 = .int .u64 t73 ∧
 Kp h_15 h_16 [(some (a_2.add (Int.toNat i * 1)))] ∧
 ite (t73 != (IntKind.wrap .u64 t77))
 (  J_2 true h_16)
 (  Cl 10 #[.pointer t61_0] h_16 fun v_10 h_17 =>
 ∃ t83_p t83_l t83_c, v_10 = .slice t83_p t83_l t83_c ∧
 Kp h_16 h_17 [(some (a_2.add (Int.toNat i * 1)))] ∧
 ite (((t83_l : Nat) : Int) != 0)
 (  J_2 true h_17)
 (  Cl 11 #[.pointer t61_0] h_17 fun v_11 h_18 =>
 ∃ t89, v_11 = .pointer t89 ∧
 Kp h_17 h_18 [(some (a_2.add (Int.toNat i * 1)))] ∧
 Cl 12 #[.pointer t89] h_18 fun v_12 h_19 =>
 ∃ t90, v_12 = .int .i64 t90 ∧
 Kp h_18 h_19 [(some (a_2.add (Int.toNat i * 1)))] ∧
 J_2 (t90 != 0) h_19))))))
 (  Cl 5 #[] h_5 fun v_13 h_20 =>
 ∃ t120, v_13 = .bool t120 ∧
 R (.bool t120) h_20))
 (fun J_1 =>
 ite (decide (i < ((times_l : Nat) : Int)))
 (  J_1 (decide (i < 10)) h_4)
 (  J_1 false h_4))))
 (fun J =>
 ite (t18_1 != 0)
 (  J true h_1)
 (  ite t18_0.isNone
 (  J true h_1)
 (  J (decide (n > 80)) h_1)))) : Cl 3 #[.int .i64 n, .slice times_p times_l times_c, .slice keep_p keep_l keep_c] h R :=
 callsN [(6, .join [(30, sB)]), (18, .loop [(9, .one (.str)), (10, sI)]), (21, .join [(50, sB)]), (28, fun _ => .planK (.op 0 (runP 5 2 (.op 1 (runP 6 7 .done))))), (31, .join [(92, sB)]), (31, fun _ => .planK (runP 9 0 (runP 5 10 (.op 9 (runP 14 15 .done))))), (45, .loop [(14, .one (.str)), (15, sI)]), (59, .join [(9, .one (.str))])] hv

end
section
open Go.Fields
namespace Ses
open Fld
variable {h h':Heap} {t:Nat} {p:TyO} {c i:Nat} {lab:Lab} {D:Nat→Prop} {L:List SC}
theorem Tab.on (TB : Tab h t lab D L) (f : Fr No h h') : Tab h' t lab D L := by
  have ⟨p, c, hb, own, hp⟩ := TB.blk
  refine ⟨⟨p, c, f.get hb id, own.frame f (fun _ _ => id), hp⟩, TB.lt0, fun i s hs => (TB.ses i s hs).frame f (fun _ _ _ _ _ => id) (fun _ _ => id), ?_, ?_, TB.ap⟩
  · intro c r hr; exact Nat.lt_of_lt_of_le (TB.llt c r hr) f.1
  · intro c hd; exact Nat.lt_of_lt_of_le (TB.dlt c hd) f.1

end Ses
end
section
variable {h:Heap} {R:TyP}
variable {t:Nat}
theorem sessions_Table_All.walk (hv :
 ∃ t16_p t16_l t16_c, hcell h ⟨t, 1, none⟩ = some (.slice t16_p t16_l t16_c) ∧
 ∃ (I : Option Addr → Nat → Nat → Int → Heap → Prop) (mu : Option Addr → Nat → Nat → Int → Heap → Nat), I none 0 0 0 h ∧ ∀ out_p out_l out_c t18 h_1, I out_p out_l out_c t18 h_1 →
 ite (decide (t18 < ((t16_l : Nat) : Int)))
 (  ((0 : Int) ≤ t18 ∧ t18 < ((t16_l : Nat) : Int)) ∧
 onSome t16_p fun a =>
 ∃ t21, hcell h_1 (a.add (Int.toNat t18 * 1)) = some (.pointer t21) ∧
 onSome t21 fun a_1 =>
 sessions_Session.LD h_1 a_1 fun t24_0 t24_1 t24_2 t24_3 t24_4_p t24_4_l t24_4_c t24_5_p t24_5_l t24_5_c =>
 NewP h_1 (.cells #[.int .i64 0, .int .u64 0, .bool false, .bool false, .slice none 0 0, .slice none 0 0] 74) fun b h_2 =>
 sessions_Session.ST h_2 ⟨b, 0, none⟩ t24_0 t24_1 t24_2 t24_3 t24_4_p t24_4_l t24_4_c t24_5_p t24_5_l t24_5_c fun h_3 =>
 StoreP h_3 ⟨b, 4, none⟩ (.slice none 0 0) fun h_4 =>
 StoreP h_4 ⟨b, 5, none⟩ (.slice none 0 0) fun h_5 =>
 onSome t21 fun a_2 =>
 ∃ t30_p t30_l t30_c, hcell h_5 (a_2.add 4) = some (.slice t30_p t30_l t30_c) ∧
 ∃ (I_1 : Int → Heap → Prop) (mu_1 : Int → Heap → Nat), I_1 0 h_5 ∧ ∀ t32 h_6, I_1 t32 h_6 →
 ite (decide (t32 < ((t30_l : Nat) : Int)))
 (  ((0 : Int) ≤ t32 ∧ t32 < ((t30_l : Nat) : Int)) ∧
 onSome t30_p fun a_3 =>
 sessions_Answer.LD h_6 (a_3.add (Int.toNat t32 * 2)) fun t35_0 t35_1_p t35_1_l t35_1_c =>
 NewP h_6 (.cells #[.int .u64 0, .slice none 0 0] 122) fun b_1 h_7 =>
 sessions_Answer.ST h_7 ⟨b_1, 0, none⟩ t35_0 t35_1_p t35_1_l t35_1_c fun h_8 =>
 ∃ t37_p t37_l t37_c, hcell h_8 ⟨b, 4, none⟩ = some (.slice t37_p t37_l t37_c) ∧
 ∃ t39, hcell h_8 ⟨b_1, 0, none⟩ = some (.int .u64 t39) ∧
 ∃ t41_p t41_l t41_c, hcell h_8 ⟨b_1, 1, none⟩ = some (.slice t41_p t41_l t41_c) ∧
 Cl 47 #[.slice t41_p t41_l t41_c] h_8 fun v h_9 =>
 ∃ t42_p t42_l t42_c, v = .slice t42_p t42_l t42_c ∧
 hcell h_9 ⟨b_1, 0, none⟩ = some (.int .u64 t39) ∧
 hcell h_9 ⟨b, 4, none⟩ = some (.slice t37_p t37_l t37_c) ∧
 NewP h_9 (.cells #[.int .u64 t39, .slice t42_p t42_l t42_c] 122) fun b_2 h_10 =>
 hcell h_10 ⟨b_1, 0, none⟩ = some (.int .u64 t39) ∧
 hcell h_10 ⟨b, 4, none⟩ = some (.slice t37_p t37_l t37_c) ∧
 Dsz (Builtin.append_ #[72, 72] 72 #[.slice t37_p t37_l t37_c, .slice (some ⟨b_2, 0, none⟩) 1 1]) h_10 fun v_1 h_11 =>
 ∃ t45_p t45_l t45_c, v_1 = .slice t45_p t45_l t45_c ∧
 hcell h_11 ⟨b_1, 0, none⟩ = some (.int .u64 t39) ∧
 StoreP h_11 ⟨b, 4, none⟩ (.slice t45_p t45_l t45_c) fun h_12 =>
 (I_1 (IntKind.wrap .i64 (t32 + 1)) h_12 ∧ mu_1 (IntKind.wrap .i64 (t32 + 1)) h_12 < mu_1 t32 h_6))
 (  onSome t21 fun a_4 =>
 ∃ t51_p t51_l t51_c, hcell h_6 (a_4.add 5) = some (.slice t51_p t51_l t51_c) ∧
 ∃ (I_2 : Int → Heap → Prop) (mu_2 : Int → Heap → Nat), I_2 0 h_6 ∧ ∀ t53 h_13, I_2 t53 h_13 →
 ite (decide (t53 < ((t51_l : Nat) : Int)))
 (  ((0 : Int) ≤ t53 ∧ t53 < ((t51_l : Nat) : Int)) ∧
 onSome t51_p fun a_5 =>
 ∃ t56_p t56_l t56_c, hcell h_13 (a_5.add (Int.toNat t53 * 1)) = some (.slice t56_p t56_l t56_c) ∧
 ∃ t58_p t58_l t58_c, hcell h_13 ⟨b, 5, none⟩ = some (.slice t58_p t58_l t58_c) ∧
 Cl 47 #[.slice t56_p t56_l t56_c] h_13 fun v_2 h_14 =>
 ∃ t60_p t60_l t60_c, v_2 = .slice t60_p t60_l t60_c ∧
 hcell h_14 ⟨b, 5, none⟩ = some (.slice t58_p t58_l t58_c) ∧
 NewP h_14 (.cells #[.slice t60_p t60_l t60_c] 48) fun b_3 h_15 =>
 hcell h_15 ⟨b, 5, none⟩ = some (.slice t58_p t58_l t58_c) ∧
 Dsz (Builtin.append_ #[44, 44] 44 #[.slice t58_p t58_l t58_c, .slice (some ⟨b_3, 0, none⟩) 1 1]) h_15 fun v_3 h_16 =>
 ∃ t62_p t62_l t62_c, v_3 = .slice t62_p t62_l t62_c ∧
 StoreP h_16 ⟨b, 5, none⟩ (.slice t62_p t62_l t62_c) fun h_17 =>
 (I_2 (IntKind.wrap .i64 (t53 + 1)) h_17 ∧ mu_2 (IntKind.wrap .i64 (t53 + 1)) h_17 < mu_2 t53 h_13))
 (  sessions_Session.LD h_13 ⟨b, 0, none⟩ fun t66_0 t66_1 t66_2 t66_3 t66_4_p t66_4_l t66_4_c t66_5_p t66_5_l t66_5_c =>
 NewP h_13 (.cells #[.int .i64 t66_0, .int .u64 t66_1, .bool t66_2, .bool t66_3, .slice t66_4_p t66_4_l t66_4_c, .slice t66_5_p t66_5_l t66_5_c] 74) fun b_4 h_18 =>
 Dsz (Builtin.append_ #[77, 77] 77 #[.slice out_p out_l out_c, .slice (some ⟨b_4, 0, none⟩) 1 1]) h_18 fun v_4 h_19 =>
 ∃ t68_p t68_l t68_c, v_4 = .slice t68_p t68_l t68_c ∧
 (I t68_p t68_l t68_c (IntKind.wrap .i64 (t18 + 1)) h_19 ∧ mu t68_p t68_l t68_c (IntKind.wrap .i64 (t18 + 1)) h_19 < mu out_p out_l out_c t18 h_1))))
 (  R (.slice out_p out_l out_c) h_1)) : Cl 22 #[.pointer (some ⟨t, 0, none⟩)] h R :=
 callsN [(16, .loop [(3, sS), (18, sI)]), (35, .loop [(32, sI)]), (46, fun _ => .plan (opL [0,1,2,3,4,5,6,7,8,9,10,11] .done)), (52, .loop [(53, sI)]), (63, fun _ => .plan (opL [0,1,2,3,4,5,6,7] .done))] hv
theorem sessions_Table_Save.walk (hv :
 Cl 22 #[.pointer (some ⟨t, 0, none⟩)] h fun v h_1 =>
 ∃ t11_p t11_l t11_c, v = .slice t11_p t11_l t11_c ∧
 ∃ (I : Option Addr → Nat → Nat → Int → Heap → Prop) (mu : Option Addr → Nat → Nat → Int → Heap → Nat), I none 0 0 0 h_1 ∧ ∀ out_p out_l out_c t13 h_2, I out_p out_l out_c t13 h_2 →
 ite (decide (t13 < ((t11_l : Nat) : Int)))
 (  ((0 : Int) ≤ t13 ∧ t13 < ((t11_l : Nat) : Int)) ∧
 onSome t11_p fun a =>
 sessions_Session.LD h_2 (a.add (Int.toNat t13 * 6)) fun t16_0 t16_1 t16_2 t16_3 t16_4_p t16_4_l t16_4_c t16_5_p t16_5_l t16_5_c =>
 NewP h_2 (.cells #[.int .i64 0, .int .u64 0, .bool false, .bool false, .slice none 0 0, .slice none 0 0] 74) fun b h_3 =>
 sessions_Session.ST h_3 ⟨b, 0, none⟩ t16_0 t16_1 t16_2 t16_3 t16_4_p t16_4_l t16_4_c t16_5_p t16_5_l t16_5_c fun h_4 =>
 ∃ t20, hcell h_4 ⟨b, 0, none⟩ = some (.int .i64 t20) ∧
 ∃ t23, hcell h_4 ⟨b, 1, none⟩ = some (.int .u64 t23) ∧
 ∃ t26, hcell h_4 ⟨b, 2, none⟩ = some (.bool t26) ∧
 ∃ t29, hcell h_4 ⟨b, 3, none⟩ = some (.bool t29) ∧
 ∃ t32_p t32_l t32_c, hcell h_4 ⟨b, 4, none⟩ = some (.slice t32_p t32_l t32_c) ∧
 ∃ t36_p t36_l t36_c, hcell h_4 ⟨b, 5, none⟩ = some (.slice t36_p t36_l t36_c) ∧
 Cl 37 #[] h_4 fun v_1 h_5 =>
 ∃ t18, v_1 = .pointer t18 ∧
 hcell h_5 ⟨b, 5, none⟩ = some (.slice t36_p t36_l t36_c) ∧
 hcell h_5 ⟨b, 4, none⟩ = some (.slice t32_p t32_l t32_c) ∧
 hcell h_5 ⟨b, 3, none⟩ = some (.bool t29) ∧
 hcell h_5 ⟨b, 2, none⟩ = some (.bool t26) ∧
 hcell h_5 ⟨b, 1, none⟩ = some (.int .u64 t23) ∧
 hcell h_5 ⟨b, 0, none⟩ = some (.int .i64 t20) ∧
 Cl 40 #[.pointer t18, .int .i64 t20] h_5 fun v_2 h_6 =>
 ∃ t21, v_2 = .pointer t21 ∧
 hcell h_6 ⟨b, 5, none⟩ = some (.slice t36_p t36_l t36_c) ∧
 hcell h_6 ⟨b, 4, none⟩ = some (.slice t32_p t32_l t32_c) ∧
 hcell h_6 ⟨b, 3, none⟩ = some (.bool t29) ∧
 hcell h_6 ⟨b, 2, none⟩ = some (.bool t26) ∧
 hcell h_6 ⟨b, 1, none⟩ = some (.int .u64 t23) ∧
 Cl 39 #[.pointer t21, .int .u64 t23] h_6 fun v_3 h_7 =>
 ∃ t24, v_3 = .pointer t24 ∧
 hcell h_7 ⟨b, 5, none⟩ = some (.slice t36_p t36_l t36_c) ∧
 hcell h_7 ⟨b, 4, none⟩ = some (.slice t32_p t32_l t32_c) ∧
 hcell h_7 ⟨b, 3, none⟩ = some (.bool t29) ∧
 hcell h_7 ⟨b, 2, none⟩ = some (.bool t26) ∧
 Cl 60 #[.pointer t24, .bool t26] h_7 fun v_4 h_8 =>
 ∃ t27, v_4 = .pointer t27 ∧
 hcell h_8 ⟨b, 5, none⟩ = some (.slice t36_p t36_l t36_c) ∧
 hcell h_8 ⟨b, 4, none⟩ = some (.slice t32_p t32_l t32_c) ∧
 hcell h_8 ⟨b, 3, none⟩ = some (.bool t29) ∧
 Cl 60 #[.pointer t27, .bool t29] h_8 fun v_5 h_9 =>
 ∃ t30, v_5 = .pointer t30 ∧
 hcell h_9 ⟨b, 5, none⟩ = some (.slice t36_p t36_l t36_c) ∧
 hcell h_9 ⟨b, 4, none⟩ = some (.slice t32_p t32_l t32_c) ∧
 Cl 40 #[.pointer t30, .int .i64 ((t32_l : Nat) : Int)] h_9 fun v_6 h_10 =>
 ∃ t34, v_6 = .pointer t34 ∧
 hcell h_10 ⟨b, 5, none⟩ = some (.slice t36_p t36_l t36_c) ∧
 hcell h_10 ⟨b, 4, none⟩ = some (.slice t32_p t32_l t32_c) ∧
 Cl 40 #[.pointer t34, .int .i64 ((t36_l : Nat) : Int)] h_10 fun v_7 h_11 =>
 ∃ t38, v_7 = .pointer t38 ∧
 hcell h_11 ⟨b, 5, none⟩ = some (.slice t36_p t36_l t36_c) ∧
 hcell h_11 ⟨b, 4, none⟩ = some (.slice t32_p t32_l t32_c) ∧
 Cl 41 #[.pointer t38] h_11 fun v_8 h_12 =>
 ∃ t39_p t39_l t39_c, v_8 = .slice t39_p t39_l t39_c ∧
 hcell h_12 ⟨b, 5, none⟩ = some (.slice t36_p t36_l t36_c) ∧
 hcell h_12 ⟨b, 4, none⟩ = some (.slice t32_p t32_l t32_c) ∧
 NewP h_12 (.cells #[.slice t39_p t39_l t39_c] 48) fun b_1 h_13 =>
 hcell h_13 ⟨b, 5, none⟩ = some (.slice t36_p t36_l t36_c) ∧
 hcell h_13 ⟨b, 4, none⟩ = some (.slice t32_p t32_l t32_c) ∧
 Dsz (Builtin.append_ #[44, 44] 44 #[.slice out_p out_l out_c, .slice (some ⟨b_1, 0, none⟩) 1 1]) h_13 fun v_9 h_14 =>
 ∃ t41_p t41_l t41_c, v_9 = .slice t41_p t41_l t41_c ∧
 hcell h_14 ⟨b, 5, none⟩ = some (.slice t36_p t36_l t36_c) ∧
 hcell h_14 ⟨b, 4, none⟩ = some (.slice t32_p t32_l t32_c) ∧
 ∃ t43_p t43_l t43_c, hcell h_14 ⟨b, 4, none⟩ = some (.slice t43_p t43_l t43_c) ∧
 ∃ (I_1 : Option Addr → Nat → Nat → Int → Heap → Prop) (mu_1 : Option Addr → Nat → Nat → Int → Heap → Nat), I_1 t41_p t41_l t41_c 0 h_14 ∧ ∀ out_p_1 out_l_1 out_c_1 t45 h_15, I_1 out_p_1 out_l_1 out_c_1 t45 h_15 →
 ite (decide (t45 < ((t43_l : Nat) : Int)))
 (  ((0 : Int) ≤ t45 ∧ t45 < ((t43_l : Nat) : Int)) ∧
 onSome t43_p fun a_1 =>
 sessions_Answer.LD h_15 (a_1.add (Int.toNat t45 * 2)) fun t48_0 t48_1_p t48_1_l t48_1_c =>
 NewP h_15 (.cells #[.int .u64 0, .slice none 0 0] 122) fun b_2 h_16 =>
 sessions_Answer.ST h_16 ⟨b_2, 0, none⟩ t48_0 t48_1_p t48_1_l t48_1_c fun h_17 =>
 ∃ t52, hcell h_17 ⟨b_2, 0, none⟩ = some (.int .u64 t52) ∧
 ∃ t55_p t55_l t55_c, hcell h_17 ⟨b_2, 1, none⟩ = some (.slice t55_p t55_l t55_c) ∧
 Cl 37 #[] h_17 fun v_10 h_18 =>
 ∃ t50, v_10 = .pointer t50 ∧
 hcell h_18 ⟨b_2, 1, none⟩ = some (.slice t55_p t55_l t55_c) ∧
 hcell h_18 ⟨b_2, 0, none⟩ = some (.int .u64 t52) ∧
 Cl 39 #[.pointer t50, .int .u64 t52] h_18 fun v_11 h_19 =>
 ∃ t53, v_11 = .pointer t53 ∧
 hcell h_19 ⟨b_2, 1, none⟩ = some (.slice t55_p t55_l t55_c) ∧
 Cl 38 #[.pointer t53, .slice t55_p t55_l t55_c] h_19 fun v_12 h_20 =>
 ∃ t56, v_12 = .pointer t56 ∧
 Cl 41 #[.pointer t56] h_20 fun v_13 h_21 =>
 ∃ t57_p t57_l t57_c, v_13 = .slice t57_p t57_l t57_c ∧
 NewP h_21 (.cells #[.slice t57_p t57_l t57_c] 48) fun b_3 h_22 =>
 Dsz (Builtin.append_ #[44, 44] 44 #[.slice out_p_1 out_l_1 out_c_1, .slice (some ⟨b_3, 0, none⟩) 1 1]) h_22 fun v_14 h_23 =>
 ∃ t59_p t59_l t59_c, v_14 = .slice t59_p t59_l t59_c ∧
 (I_1 t59_p t59_l t59_c (IntKind.wrap .i64 (t45 + 1)) h_23 ∧ mu_1 t59_p t59_l t59_c (IntKind.wrap .i64 (t45 + 1)) h_23 < mu_1 out_p_1 out_l_1 out_c_1 t45 h_15))
 (  ∃ t62_p t62_l t62_c, hcell h_15 ⟨b, 5, none⟩ = some (.slice t62_p t62_l t62_c) ∧
 ∃ (I_2 : Option Addr → Nat → Nat → Int → Heap → Prop) (mu_2 : Option Addr → Nat → Nat → Int → Heap → Nat), I_2 out_p_1 out_l_1 out_c_1 0 h_15 ∧ ∀ out_p_2 out_l_2 out_c_2 t64 h_24, I_2 out_p_2 out_l_2 out_c_2 t64 h_24 →
 ite (decide (t64 < ((t62_l : Nat) : Int)))
 (  ((0 : Int) ≤ t64 ∧ t64 < ((t62_l : Nat) : Int)) ∧
 onSome t62_p fun a_2 =>
 ∃ t67_p t67_l t67_c, hcell h_24 (a_2.add (Int.toNat t64 * 1)) = some (.slice t67_p t67_l t67_c) ∧
 Cl 37 #[] h_24 fun v_15 h_25 =>
 ∃ t69, v_15 = .pointer t69 ∧
 Cl 38 #[.pointer t69, .slice t67_p t67_l t67_c] h_25 fun v_16 h_26 =>
 ∃ t71, v_16 = .pointer t71 ∧
 Cl 41 #[.pointer t71] h_26 fun v_17 h_27 =>
 ∃ t72_p t72_l t72_c, v_17 = .slice t72_p t72_l t72_c ∧
 NewP h_27 (.cells #[.slice t72_p t72_l t72_c] 48) fun b_4 h_28 =>
 Dsz (Builtin.append_ #[44, 44] 44 #[.slice out_p_2 out_l_2 out_c_2, .slice (some ⟨b_4, 0, none⟩) 1 1]) h_28 fun v_18 h_29 =>
 ∃ t74_p t74_l t74_c, v_18 = .slice t74_p t74_l t74_c ∧
 (I_2 t74_p t74_l t74_c (IntKind.wrap .i64 (t64 + 1)) h_29 ∧ mu_2 t74_p t74_l t74_c (IntKind.wrap .i64 (t64 + 1)) h_29 < mu_2 out_p_2 out_l_2 out_c_2 t64 h_24))
 (  (I out_p_2 out_l_2 out_c_2 (IntKind.wrap .i64 (t13 + 1)) h_24 ∧ mu out_p_2 out_l_2 out_c_2 (IntKind.wrap .i64 (t13 + 1)) h_24 < mu out_p out_l out_c t13 h_2))))
 (  R (.slice out_p out_l out_c) h_2)) : Cl 33 #[.pointer (some ⟨t, 0, none⟩)] h R :=
 callsN [(8, .loop [(3, sS), (13, sI)]), (20, fun _ => .plan (opL [0,2,3,5,6,8,9,11,12,14,15,16,18,19,20,1,4,7,10,13,17,21,22,23,24,25] .done)), (25, .loop [(3, sS), (45, sI)]), (36, fun _ => .plan (opL [0,2,3,5,6,1,4,7,8,9,10,11] .done)), (41, .loop [(3, sS), (64, sI)])] hv

end
section
open Go.Fields
namespace Ses
open Fld
variable {h h' h0:Heap} {t:Nat} {X:Ft} {R:TyP} {p:TyO} {c i:Nat} {lab:Lab} {D:Nat→Prop} {L:List SC} {A:List Ses}
variable {s:SC} {g:Heap} {b:Nat} {E:Nat→Prop} {K:Heap→Prop}
abbrev senc (s : SC) : List Value := [.int .i64 (s.num : Int), .int .u64 (s.token : Int), .bool s.up, .bool s.watch, .slice s.kp s.kept.length s.kc, .slice s.np s.notes.length s.nc]
theorem senc_len (s : SC) : (senc s).length = 6 := rfl
theorem tS : SlTy Tryz.prog 77 74 6 72 (.agg #[.int .i64 0, .int .u64 0, .bool false, .bool false, .slice none 0 0, .slice none 0 0]) := ⟨by kernel_rfl, by kernel_rfl, rfl⟩
theorem uSe : Tryz.prog.underlying 77 = some (.slice 74) := by kernel_rfl
structure SRow (h : Heap) (D : Nat → Prop) (s : SC) : Prop where
  k : Row h s.kp (s.kept.flatMap AV.enc)
  kD : s.kept ≠ [] → ∀ y, inBlk s.kp y → D y
  kd : ∀ a ∈ s.kept, a.v.ok h D
  n : Row h s.np (s.notes.flatMap nenc)
  nD : s.notes ≠ [] → ∀ y, inBlk s.np y → D y
  nd : ∀ n ∈ s.notes, n.ok h D
theorem SRow.frame {Q : Nat → Prop} (H : SRow h D s) (f : Fr Q h h') (hq : ∀ y, D y → ¬ Q y) : SRow h' D s := by
  refine ⟨?_, H.kD, fun a ha => (H.kd a ha).frame f hq, ?_, H.nD, fun a ha => (H.nd a ha).frame f hq⟩
  · by_cases e : s.kept = []
    · rw [e]; exact .inl rfl
    · exact H.k.frame f (fun a ea => hq _ (H.kD e _ ⟨a, ea, rfl⟩))
  · by_cases e : s.notes = []
    · rw [e]; exact .inl rfl
    · exact H.n.frame f (fun a ea => hq _ (H.nD e _ ⟨a, ea, rfl⟩))
theorem SRow.mono {D' : Nat → Prop} (H : SRow h D s) (hd : ∀ y, D y → D' y) : SRow h D' s :=
  ⟨H.k, fun e y hy => hd y (H.kD e y hy), fun a ha => (H.kd a ha).mono hd, H.n, fun e y hy => hd y (H.nD e y hy), fun a ha => (H.nd a ha).mono hd⟩
def SL (h0 h : Heap) (p : Option Addr) (l c : Nat) (A : List Ses) : Prop :=
  ∃ (xs : List SC) (D : Nat → Prop), l = xs.length ∧ Own h p l c 6 (xs.flatMap senc) ∧ xs.map SC.abs = A ∧ (∀ x ∈ xs, SRow h D x) ∧ (∀ y, D y → h0.size ≤ y ∧ y < h.size ∧ ¬ inBlk p y) ∧ ∀ y, inBlk p y → h0.size ≤ y
theorem SL.len {l : Nat} (H : SL h0 h p l c A) : l = A.length := by
  have ⟨xs, D, h1, _, h3, _⟩ := H
  rw [h1, ← h3, List.length_map]
structure Cp (g h : Heap) (b : Nat) (s : SC) (E : Nat → Prop) : Prop where
  fr : Fr No g h
  blk : sessions_Session.at h b (s.num : Int) (s.token : Int) s.up s.watch s.kp s.kept.length s.kc s.np s.notes.length s.nc
  gb : g.size ≤ b
  ko : Own h s.kp s.kept.length s.kc 2 (s.kept.flatMap AV.enc)
  kg : ∀ y, inBlk s.kp y → g.size ≤ y ∧ y ≠ b ∧ ¬ E y
  no : Own h s.np s.notes.length s.nc 1 (s.notes.flatMap nenc)
  ng : ∀ y, inBlk s.np y → g.size ≤ y ∧ y ≠ b ∧ ¬ E y ∧ ¬ inBlk s.kp y
  kd : ∀ a ∈ s.kept, a.v.ok h E
  nd : ∀ n ∈ s.notes, n.ok h E
  eg : ∀ y, E y → g.size ≤ y ∧ y < h.size ∧ y ≠ b
theorem Cp.answer {a : AV} (C : Cp g h b s E) (hr : Row h a.v.p (bc a.v.b)) (hlb : a.v.b.length ≤ 1000) (hkl : s.kept.length ≤ 1000)
    (hk : ∀ h' s' E', Cp g h' b s' E' → s'.abs = { s.abs with kept := s.abs.kept ++ [a.abs] } → K h') :
    NewP h (.cells #[.int .u64 0, .slice none 0 0] 122) fun b_1 h_12 =>
          StoreP h_12 ⟨b_1, 0, none⟩ (.int .u64 (a.id : Int)) fun h_13 =>
          StoreP h_13 ⟨b_1, 1, none⟩ (.slice a.v.p a.v.b.length a.v.c) fun h_14 =>
          ∃ (t37_p : Option Addr) (t37_l t37_c : Nat), hcell h_14 ⟨b, 4, none⟩ = some (.slice t37_p t37_l t37_c) ∧
          ∃ (t39 : Int), hcell h_14 ⟨b_1, 0, none⟩ = some (.int .u64 t39) ∧
          ∃ (t41_p : Option Addr) (t41_l t41_c : Nat), hcell h_14 ⟨b_1, 1, none⟩ = some (.slice t41_p t41_l t41_c) ∧
          Cl 47 #[.slice t41_p t41_l t41_c] h_14 fun v h_15 =>
          ∃ (t42_p : Option Addr) (t42_l t42_c : Nat), v = .slice t42_p t42_l t42_c ∧
          hcell h_15 ⟨b_1, 0, none⟩ = some (.int .u64 t39) ∧
          hcell h_15 ⟨b, 4, none⟩ = some (.slice t37_p t37_l t37_c) ∧
          NewP h_15 (.cells #[.int .u64 t39, .slice t42_p t42_l t42_c] 122) fun b_2 h_16 =>
          hcell h_16 ⟨b_1, 0, none⟩ = some (.int .u64 t39) ∧
          hcell h_16 ⟨b, 4, none⟩ = some (.slice t37_p t37_l t37_c) ∧
          denSem Tryz.prog (Builtin.append_ #[72, 72] 72 #[.slice t37_p t37_l t37_c, .slice (some ⟨b_2, 0, none⟩) 1 1]) h_16 fun v_1 h_17 =>
          ∃ (t45_p : Option Addr) (t45_l t45_c : Nat), v_1 = .slice t45_p t45_l t45_c ∧
          hcell h_17 ⟨b_1, 0, none⟩ = some (.int .u64 t39) ∧
          StoreP h_17 ⟨b, 4, none⟩ (.slice t45_p t45_l t45_c) fun h_18 => K h_18 := by
  refine sessions_Answer.new fun b1 h14 eb1 hb1 f14 => ?_
  have k14 := f14.get C.blk id
  have zb : b < h.size := lt_of_get C.blk
  refine ⟨_, _, _, cell_at k14 rfl, _, cell_at hb1 rfl, _, _, _, cell_at hb1 rfl, clone_ok (hr.frame f14 (fun _ _ => id)) rfl (by omega) fun p15 c15 h15 o15 f15 g15 => ⟨_, _, _, rfl, cell_at (f15.get hb1 id) rfl, cell_at (f15.get k14 id) rfl, newP_of ?_⟩⟩
  have f16 : Fr No h15 (h15.push (.cells #[.int .u64 (a.id : Int), .slice p15 a.v.b.length c15] 122)) := Fr.push _ _
  have row16 : Row (h15.push (.cells #[.int .u64 (a.id : Int), .slice p15 a.v.b.length c15] 122)) (some ⟨h15.size, 0, none⟩) (AV.enc ⟨a.id, ⟨p15, c15, a.v.b⟩⟩) := row_new (cs := AV.enc ⟨a.id, ⟨p15, c15, a.v.b⟩⟩)
  have sz16 : (h15.push (.cells #[.int .u64 (a.id : Int), .slice p15 a.v.b.length c15] 122)).size = h15.size + 1 := Array.size_push _
  generalize h15.push (.cells #[.int .u64 (a.id : Int), .slice p15 a.v.b.length c15] 122) = h16 at f16 row16 sz16 ⊢
  have f1416 := f15.tt f16
  have f016 := f14.tt f1416
  have k16 := f1416.get k14 id
  have b116 := f1416.get hb1 id
  refine ⟨cell_at b116 rfl, cell_at k16 rfl, ?_⟩
  have zh14 := f14.1
  have zh15 := f15.1
  have zg := C.fr.1
  have nkb : ∀ y, inBlk s.kp y → y ≠ b := fun y hy => (C.kg y hy).2.1
  have lk : ∀ y, inBlk s.kp y → y < h.size := fun y hy => C.ko.blk_lt hy
  refine den_append tA uA (C.ko.frame f016 (fun _ _ => id)) row16 rfl (fun v hv => by simp at hv; rcases hv with rfl | rfl <;> rfl) (by omega) (by omega) ?_
  intro p17 c17 h17 o17 _ f17 g17
  have b117 := f17.get b116 (fun hx => by have := lk _ hx; omega)
  refine ⟨_, _, _, rfl, cell_at b117 rfl, ?_⟩
  have k17 := f17.get k16 (fun hx => nkb _ hx rfl)
  refine storeP_blk k17 (by simp) fun h18 q1 q2 q3 => ?_
  have f18 : Fr (fun x => x = b) h17 h18 := Fr.of_eq q2 q3
  have F18 : Fr (fun x => x = b ∨ inBlk s.kp x) h h18 := (f016.mono (fun _ _ => False.elim)).tt ((f17.mono (fun _ _ hx => .inr hx)).tt (f18.mono (fun _ _ hx => .inl hx)))
  have z17 := f17.1
  have z18 := f18.1
  have n17 : ∀ y, inBlk p17 y → inBlk s.kp y ∨ h16.size ≤ y := g17
  have b15 : ∀ y, inBlk p15 y → h.size ≤ y ∧ y < h15.size := fun y hy => ⟨by have := g15 y hy; omega, o15.blk_lt hy⟩
  have o1518 : Own h18 p15 a.v.b.length c15 1 (bc a.v.b) := ((o15.frame f16 (fun _ _ => id)).frame f17 (fun y hy hx => by have := b15 y hy; have := lk y hx; omega)).frame f18 (fun y hy e => by have := b15 y hy; omega)
  have eQ : ∀ y, E y → ¬ (y = b ∨ inBlk s.kp y) := fun y hy hx => hx.elim (C.eg y hy).2.2 (fun hx => (C.kg y hx).2.2 hy)
  have o18 := o17.frame f18 (fun y hy e => (n17 y hy).elim (fun hx => nkb y hx e) (fun hx => by omega))
  refine hk h18 { s with kept := s.kept ++ [⟨a.id, ⟨p15, c15, a.v.b⟩⟩], kp := p17, kc := c17 } (fun y => E y ∨ inBlk p15 y) ⟨?_, ?_, C.gb, ?_, ?_, ?_, ?_, ?_, ?_, ?_⟩ ?_
  · exact C.fr.step F18 (fun y hy hx => hx.elim (fun e => by have := C.gb; omega) (fun hx => by have := (C.kg y hx).1; omega))
  · show h18[b]? = _
    rw [q1]
    dsimp only
    rw [List.length_append]; rfl
  · show Own h18 p17 (s.kept ++ [_]).length c17 2 ((s.kept ++ [_]).flatMap AV.enc)
    rw [List.length_append, List.flatMap_append]
    simpa using o18
  · intro y hy
    rcases n17 y hy with hx | hx
    · exact ⟨(C.kg y hx).1, (C.kg y hx).2.1, fun he => he.elim (C.kg y hx).2.2 (fun h2 => by have := b15 y h2; have := lk y hx; omega)⟩
    · exact ⟨by omega, by omega, fun he => he.elim (fun h2 => by have := (C.eg y h2).2.1; omega) (fun h2 => by have := b15 y h2; omega)⟩
  · exact C.no.frame F18 (fun y hy hx => hx.elim (C.ng y hy).2.1 (C.ng y hy).2.2.2)
  · intro y hy
    have hy' := C.ng y hy
    have ly : y < h.size := C.no.blk_lt hy
    exact ⟨hy'.1, hy'.2.1, fun he => he.elim hy'.2.2.1 (fun h2 => by have := b15 y h2; omega), fun hx => (n17 y hx).elim hy'.2.2.2 (fun h2 => by omega)⟩
  · intro x hx
    rcases List.mem_append.1 hx with hx | hx
    · exact ((C.kd x hx).frame F18 eQ).mono (fun y => .inl)
    · simp at hx; subst hx; exact BV.of_own o1518 (fun y => .inr)
  · intro x hx
    exact ((C.nd x hx).frame F18 eQ).mono (fun y => .inl)
  · rintro y (hy | hy)
    · exact ⟨(C.eg y hy).1, by have := (C.eg y hy).2.1; omega, (C.eg y hy).2.2⟩
    · exact ⟨by have := b15 y hy; omega, by have := b15 y hy; omega, by have := b15 y hy; omega⟩
  · unfold SC.abs
    dsimp only
    rw [List.map_append]; rfl
theorem Cp.note {n : BV} (C : Cp g h b s E) (hr : Row h n.p (bc n.b)) (hlb : n.b.length ≤ 1000) (hkl : s.notes.length ≤ 1000)
    (hk : ∀ h' s' E', Cp g h' b s' E' → s'.abs = { s.abs with notes := s.abs.notes ++ [n.b] } → K h') :
    ∃ (t58_p : Option Addr) (t58_l t58_c : Nat), hcell h ⟨b, 5, none⟩ = some (.slice t58_p t58_l t58_c) ∧
              Cl 47 #[.slice n.p n.b.length n.c] h fun v_2 h_20 =>
              ∃ (t60_p : Option Addr) (t60_l t60_c : Nat), v_2 = .slice t60_p t60_l t60_c ∧
              hcell h_20 ⟨b, 5, none⟩ = some (.slice t58_p t58_l t58_c) ∧
              NewP h_20 (.cells #[.slice t60_p t60_l t60_c] 48) fun b_3 h_21 =>
              hcell h_21 ⟨b, 5, none⟩ = some (.slice t58_p t58_l t58_c) ∧
              denSem Tryz.prog (Builtin.append_ #[44, 44] 44 #[.slice t58_p t58_l t58_c, .slice (some ⟨b_3, 0, none⟩) 1 1]) h_21 fun v_3 h_22 =>
              ∃ (t62_p : Option Addr) (t62_l t62_c : Nat), v_3 = .slice t62_p t62_l t62_c ∧
              StoreP h_22 ⟨b, 5, none⟩ (.slice t62_p t62_l t62_c) fun h_23 => K h_23 := by
  have zb : b < h.size := lt_of_get C.blk
  refine ⟨_, _, _, cell_at C.blk rfl, clone_ok hr rfl (by omega) fun p15 c15 h15 o15 f15 g15 => ⟨_, _, _, rfl, cell_at (f15.get C.blk id) rfl, newP_of ?_⟩⟩
  have f16 : Fr No h15 (h15.push (.cells #[.slice p15 n.b.length c15] 48)) := Fr.push _ _
  have row16 : Row (h15.push (.cells #[.slice p15 n.b.length c15] 48)) (some ⟨h15.size, 0, none⟩) (nenc ⟨p15, c15, n.b⟩) := row_new (cs := nenc ⟨p15, c15, n.b⟩)
  have sz16 : (h15.push (.cells #[.slice p15 n.b.length c15] 48)).size = h15.size + 1 := Array.size_push _
  generalize h15.push (.cells #[.slice p15 n.b.length c15] 48) = h16 at f16 row16 sz16 ⊢
  have f016 := f15.tt f16
  have k16 := f016.get C.blk id
  refine ⟨cell_at k16 rfl, ?_⟩
  have zh15 := f15.1
  have zg := C.fr.1
  have nkb : ∀ y, inBlk s.np y → y ≠ b := fun y hy => (C.ng y hy).2.1
  have lk : ∀ y, inBlk s.np y → y < h.size := fun y hy => C.no.blk_lt hy
  refine den_append tN uN (C.no.frame f016 (fun _ _ => id)) row16 rfl (fun v hv => by simp at hv; subst hv; rfl) (by omega) (by omega) ?_
  intro p17 c17 h17 o17 _ f17 g17
  refine ⟨_, _, _, rfl, ?_⟩
  have k17 := f17.get k16 (fun hx => nkb _ hx rfl)
  refine storeP_blk k17 (by simp) fun h18 q1 q2 q3 => ?_
  have f18 : Fr (fun x => x = b) h17 h18 := Fr.of_eq q2 q3
  have F18 : Fr (fun x => x = b ∨ inBlk s.np x) h h18 := (f016.mono (fun _ _ => False.elim)).tt ((f17.mono (fun _ _ hx => .inr hx)).tt (f18.mono (fun _ _ hx => .inl hx)))
  have z17 := f17.1
  have z18 := f18.1
  have n17 : ∀ y, inBlk p17 y → inBlk s.np y ∨ h16.size ≤ y := g17
  have b15 : ∀ y, inBlk p15 y → h.size ≤ y ∧ y < h15.size := fun y hy => ⟨g15 y hy, o15.blk_lt hy⟩
  have o1518 : Own h18 p15 n.b.length c15 1 (bc n.b) := ((o15.frame f16 (fun _ _ => id)).frame f17 (fun y hy hx => by have := b15 y hy; have := lk y hx; omega)).frame f18 (fun y hy e => by have := b15 y hy; omega)
  have eQ : ∀ y, E y → ¬ (y = b ∨ inBlk s.np y) := fun y hy hx => hx.elim (C.eg y hy).2.2 (fun hx => (C.ng y hx).2.2.1 hy)
  have o18 := o17.frame f18 (fun y hy e => (n17 y hy).elim (fun hx => nkb y hx e) (fun hx => by omega))
  refine hk h18 { s with notes := s.notes ++ [⟨p15, c15, n.b⟩], np := p17, nc := c17 } (fun y => E y ∨ inBlk p15 y) ⟨?_, ?_, C.gb, ?_, ?_, ?_, ?_, ?_, ?_, ?_⟩ ?_
  · exact C.fr.step F18 (fun y hy hx => hx.elim (fun e => by have := C.gb; omega) (fun hx => by have := (C.ng y hx).1; omega))
  · show h18[b]? = _
    rw [q1]
    dsimp only
    rw [List.length_append]; rfl
  · exact C.ko.frame F18 (fun y hy hx => hx.elim (C.kg y hy).2.1 (fun h2 => (C.ng y h2).2.2.2 hy))
  · intro y hy
    have hy' := C.kg y hy
    have ly : y < h.size := C.ko.blk_lt hy
    exact ⟨hy'.1, hy'.2.1, fun he => he.elim hy'.2.2 (fun h2 => by have := b15 y h2; omega)⟩
  · show Own h18 p17 (s.notes ++ [_]).length c17 1 ((s.notes ++ [_]).flatMap nenc)
    rw [List.length_append, List.flatMap_append]
    simpa using o18
  · intro y hy
    rcases n17 y hy with hx | hx
    · exact ⟨(C.ng y hx).1, (C.ng y hx).2.1, fun he => he.elim (C.ng y hx).2.2.1 (fun h2 => by have := b15 y h2; have := lk y hx; omega), (C.ng y hx).2.2.2⟩
    · exact ⟨by omega, by omega, fun he => he.elim (fun h2 => by have := (C.eg y h2).2.1; omega) (fun h2 => by have := b15 y h2; omega), fun h2 => by have := C.ko.blk_lt h2; omega⟩
  · intro x hx
    exact ((C.kd x hx).frame F18 eQ).mono (fun y => .inl)
  · intro x hx
    rcases List.mem_append.1 hx with hx | hx
    · exact ((C.nd x hx).frame F18 eQ).mono (fun y => .inl)
    · simp at hx; subst hx; exact BV.of_own o1518 (fun y => .inr)
  · rintro y (hy | hy)
    · exact ⟨(C.eg y hy).1, by have := (C.eg y hy).2.1; omega, (C.eg y hy).2.2⟩
    · exact ⟨by have := b15 y hy; omega, by have := b15 y hy; omega, by have := b15 y hy; omega⟩
  · unfold SC.abs
    dsimp only
    rw [List.map_append]; rfl
theorem all_ok (H : Has h t X A) (ok : okA A) (hk : ∀ h' p' l' c', SL h h' p' l' c' A → Fr No h h' → R (.slice p' l' c') h') : Cl 22 #[.pointer (some ⟨t, 0, none⟩)] h R := by
  obtain ⟨_, lab, L, TB, rfl, _, hS⟩ := H
  have hl := ok.le
  rw [List.length_map] at hl
  obtain ⟨tp, tc, htb, town, _⟩ := TB.blk
  refine sessions_Table_All.walk ⟨_, _, _, cell_at htb rfl, ?_⟩
  refine ⟨fun op ol oc i h1 => ∃ k : Nat, i = (k : Int) ∧ k ≤ L.length ∧ SL h h1 op ol oc ((L.map SC.abs).take k) ∧ Fr No h h1, fun _ _ _ i _ => L.length - i.toNat, ⟨0, rfl, by omega, ⟨[], fun _ => False, rfl, .nil rfl rfl rfl rfl, rfl, (fun x hx => by cases hx), (fun y hy => hy.elim), fun y ⟨a, e, _⟩ => by cases e⟩, Fr.refl _ _⟩, ?_⟩
  rintro op ol oc _ g ⟨k, rfl, hkn, O, fg⟩
  have TBg := TB.on fg
  have htg := fg.get htb id
  have owng := town.frame fg (fun _ _ => id)
  have olen := O.len
  rw [List.length_take, List.length_map] at olen
  by_cases hlt : k < L.length
  · rw [if_pos (decide_eq_true (by omega)), Int.toNat_natCast]
    have ⟨s, hs⟩ := getAt hlt
    have SA := TBg.ses k s hs
    have okS := ok.at_ k _ (abs_at hs)
    have kl : s.kept.length ≤ 6 := by have := okS.kl; rwa [show s.abs.kept.length = s.kept.length from List.length_map _] at this
    have nl : s.notes.length ≤ 6 := by have := okS.nl; rwa [show s.abs.notes.length = s.notes.length from List.length_map _] at this
    have kb : ∀ a ∈ s.kept, a.v.b.length ≤ 1000 := fun a ha => (okS.kd a.abs (List.mem_map_of_mem ha)).2
    have nb : ∀ a ∈ s.notes, a.b.length ≤ 1000 := fun a ha => by have := (okS.nd a.b (List.mem_map_of_mem ha)).2; omega
    obtain ⟨ab, aoff, rfl⟩ := owng.addr (by omega)
    refine ⟨⟨by first | trivial | omega, by first | trivial | omega⟩, onSome_some.2 ⟨some ⟨s.b, 0, none⟩, ?_, onSome_some.2 ?_⟩⟩
    · rw [Nat.mul_one]; exact owng.cell (by rw [List.getElem?_map, hs]; rfl)
    refine sessions_Session.ld SA.blk (sessions_Session.new fun b h8 eb hb8 f8 => ?_)
    refine storeP_blk hb8 (by simp) fun h9 a1 a2 a3 => storeP_blk a1 (by simp) fun h10 b1 b2 b3 => onSome_some.2 ?_
    have f10 : Fr No g h10 := f8.step ((Fr.of_eq (S := fun x => x = b) a2 a3).tt (Fr.of_eq b2 b3)) (fun y hy e => by omega)
    have SA10 := SA.frame f10 (fun _ _ _ _ _ => id) (fun _ _ => id)
    refine ⟨_, _, _, cell_at SA10.blk rfl, ?_⟩
    have C10 : Cp g h10 b ⟨b, s.num, s.token, s.up, s.watch, [], none, 0, [], none, 0⟩ (fun _ => False) :=
      ⟨f10, b1, by omega, .nil rfl rfl rfl rfl, (fun y ⟨a, e, _⟩ => by cases e), .nil rfl rfl rfl rfl, (fun y ⟨a, e, _⟩ => by cases e), (fun a ha => by cases ha), (fun a ha => by cases ha), fun y hy => hy.elim⟩
    refine ⟨fun i h' => ∃ (j : Nat) (s' : SC) (E : Nat → Prop), i = (j : Int) ∧ j ≤ s.kept.length ∧ Cp g h' b s' E ∧ s'.abs = ⟨s.num, s.token, s.up, s.watch, s.abs.kept.take j, []⟩, fun i _ => s.kept.length - i.toNat, ⟨0, _, _, rfl, by omega, C10, rfl⟩, ?_⟩
    clear C10 SA10 f10 b1 b2 b3 a1 a2 a3 hb8 f8
    rintro _ h11 ⟨j, s', E, rfl, hj, C, hab⟩
    have SA11 := SA.frame C.fr (fun _ _ _ _ _ => id) (fun _ _ => id)
    by_cases hjl : j < s.kept.length
    · rw [if_pos (decide_eq_true (by omega)), Int.toNat_natCast]
      have ⟨a, ha⟩ := getAt hjl
      have own11 := SA11.kown
      obtain ⟨kb', koff, hkp⟩ := own11.addr (by omega)
      rw [hkp] at own11
      refine ⟨⟨by first | trivial | omega, by first | trivial | omega⟩, ?_⟩
      rw [hkp]
      refine onSome_some.2 (sessions_Answer.ldA (own11.heldAt aenc_len ha) ?_)
      have s'l : s'.kept.length = j := by
        have := congrArg (fun x => x.kept.length) hab
        have e1 : s'.abs.kept.length = s'.kept.length := List.length_map _
        dsimp only at this
        rw [e1, List.length_take] at this
        have e2 : s.abs.kept.length = s.kept.length := List.length_map _
        omega
      refine C.answer (SA11.kd a (List.mem_of_getElem? ha)).row (kb a (List.mem_of_getElem? ha)) (by omega) fun h18 s18 E18 C18 hab18 => ?_
      rw [wrap_id (by omega) (by omega)]
      refine ⟨⟨j + 1, s18, E18, by omega, by omega, C18, ?_⟩, ?_⟩
      · rw [hab18, hab]
        dsimp only
        congr 1
        rw [List.take_add_one, show s.abs.kept[j]? = some a.abs by show (s.kept.map AV.abs)[j]? = _; rw [List.getElem?_map, ha]; rfl]; rfl
      · show s.kept.length - Int.toNat ((j : Int) + 1) < s.kept.length - Int.toNat (j : Int); omega
    · have q2 : ¬ (j : Int) < (s.kept.length : Int) := by omega
      simp only [q2, decide_false, Bool.false_eq_true, if_false]
      refine onSome_some.2 ⟨_, _, _, cell_at SA11.blk rfl, ?_⟩
      have hab0 : s'.abs = ⟨s.num, s.token, s.up, s.watch, s.abs.kept, s.abs.notes.take 0⟩ := by
        rw [hab, List.take_of_length_le (by have : s.abs.kept.length = s.kept.length := List.length_map _; omega)]; rfl
      refine ⟨fun i h' => ∃ (j : Nat) (s' : SC) (E : Nat → Prop), i = (j : Int) ∧ j ≤ s.notes.length ∧ Cp g h' b s' E ∧ s'.abs = ⟨s.num, s.token, s.up, s.watch, s.abs.kept, s.abs.notes.take j⟩, fun i _ => s.notes.length - i.toNat, ⟨0, s', E, rfl, by omega, C, hab0⟩, ?_⟩
      clear C SA11 hab hab0 hj hjl q2
      rintro _ h19 ⟨j, s', E, rfl, hj, C, hab⟩
      have SA19 := SA.frame C.fr (fun _ _ _ _ _ => id) (fun _ _ => id)
      by_cases hjl : j < s.notes.length
      · rw [if_pos (decide_eq_true (by omega)), Int.toNat_natCast]
        have ⟨a, ha⟩ := getAt hjl
        have own19 := SA19.nown
        obtain ⟨nb', noff, hnp⟩ := own19.addr (by omega)
        rw [hnp] at own19
        refine ⟨⟨by first | trivial | omega, by first | trivial | omega⟩, ?_⟩
        rw [hnp]
        refine onSome_some.2 ⟨a.p, a.b.length, a.c, ?_, ?_⟩
        · have := (own19.heldAt nenc_len ha).1
          rwa [add_zero_addr] at this
        have s'l : s'.notes.length = j := by
          have := congrArg (fun x => x.notes.length) hab
          have e1 : s'.abs.notes.length = s'.notes.length := List.length_map _
          dsimp only at this
          rw [e1, List.length_take] at this
          have e2 : s.abs.notes.length = s.notes.length := List.length_map _
          omega
        refine C.note (SA19.nd a (List.mem_of_getElem? ha)).row (nb a (List.mem_of_getElem? ha)) (by omega) fun h18 s18 E18 C18 hab18 => ?_
        rw [wrap_id (by omega) (by omega)]
        refine ⟨⟨j + 1, s18, E18, by omega, by omega, C18, ?_⟩, ?_⟩
        · rw [hab18, hab]
          dsimp only
          congr 1
          rw [List.take_add_one, show s.abs.notes[j]? = some a.b by show (s.notes.map BV.b)[j]? = _; rw [List.getElem?_map, ha]; rfl]; rfl
        · show s.notes.length - Int.toNat ((j : Int) + 1) < s.notes.length - Int.toNat (j : Int); omega
      · rw [if_neg (by simp only [decide_eq_true_eq]; omega)]
        have hab1 : s'.abs = s.abs := by
          rw [hab, List.take_of_length_le (by have : s.abs.notes.length = s.notes.length := List.length_map _; omega)]; rfl
        refine sessions_Session.ld C.blk ?_
        obtain ⟨xs, D, hx1, hx2, hx3, hx4, hx5, hx6⟩ := O
        have own19 := hx2.frame C.fr (fun _ _ => id)
        refine den_append1 tS uSe own19 rfl (fun v hv => by simp at hv; rcases hv with rfl | rfl | rfl | rfl | rfl | rfl <;> rfl) (by omega) (by omega) ?_
        intro p25 c25 h25 o25 f25 g25
        refine ⟨_, _, _, rfl, ?_⟩
        rw [wrap_id (by omega) (by omega)]
        have z19 := C.fr.1
        have zg := fg.1
        have opg : ∀ y, inBlk op y → y < g.size := fun y hy => hx2.blk_lt hy
        refine ⟨⟨k + 1, by omega, by omega, ⟨xs ++ [s'], fun y => D y ∨ E y ∨ inBlk s'.kp y ∨ inBlk s'.np y, by rw [List.length_append, hx1]; rfl, ?_, ?_, ?_, ?_, ?_⟩, ?_⟩, ?_⟩
        · rw [List.flatMap_append]; simpa using o25
        · rw [List.map_append, hx3, List.take_add_one, List.getElem?_map, hs]
          show _ ++ [s'.abs] = _ ++ [s.abs]
          rw [hab1]
        · intro x hx
          rcases List.mem_append.1 hx with hx | hx
          · refine (((hx4 x hx).frame C.fr (fun _ _ => id)).frame f25 (fun y hy => (hx5 y hy).2.2)).mono (fun y => .inl)
          · simp at hx; subst hx
            refine SRow.frame (h := h19) ⟨C.ko.row', fun _ y hy => .inr (.inr (.inl hy)), fun a ha => (C.kd a ha).mono (fun y hy => .inr (.inl hy)), C.no.row', fun _ y hy => .inr (.inr (.inr hy)), fun a ha => (C.nd a ha).mono (fun y hy => .inr (.inl hy))⟩ f25 ?_
            rintro y (hy | hy | hy | hy) ho
            · exact (hx5 y hy).2.2 ho
            · have := opg y ho; have := (C.eg y hy).1; omega
            · have := opg y ho; have := (C.kg y hy).1; omega
            · have := opg y ho; have := (C.ng y hy).1; omega
        · have z25 := f25.1
          rintro y (hy | hy | hy | hy)
          · grind
          · have a := C.eg y hy
            exact ⟨by omega, by omega, fun ho => (g25 y ho).elim (fun h2 => by have := opg y h2; omega) (fun h2 => by omega)⟩
          · have a := C.kg y hy
            have b := C.ko.blk_lt hy
            exact ⟨by omega, by omega, fun ho => (g25 y ho).elim (fun h2 => by have := opg y h2; omega) (fun h2 => by omega)⟩
          · have a := C.ng y hy
            have b := C.no.blk_lt hy
            exact ⟨by omega, by omega, fun ho => (g25 y ho).elim (fun h2 => by have := opg y h2; omega) (fun h2 => by omega)⟩
        · intro y hy
          rcases g25 y hy with h2 | h2
          · exact hx6 y h2
          · omega
        · exact (fg.tt C.fr).step f25 (fun y hy ho => by have := hx6 y ho; omega)
        · show L.length - Int.toNat ((k : Int) + 1) < L.length - Int.toNat (k : Int); omega
  · rw [if_neg (by simp only [decide_eq_true_eq]; omega)]
    rw [List.take_of_length_le (by rw [List.length_map]; omega)] at O
    exact hk g op ol oc O fg

end Ses
end
section
open Go.Fields
namespace Ses
open Fld
variable {h h':Heap} {t:Nat} {X:Ft} {R:TyP} {p:TyO} {c i:Nat} {A:List Ses}
def headR (s : Ses) : List UInt8 := encNum s.num ++ encNum s.token ++ encNum (bit s.up) ++ encNum (bit s.watch) ++ encNum s.kept.length ++ encNum s.notes.length
def ansR (a : Nat × List UInt8) : List UInt8 := encNum a.1 ++ encText a.2
def recS (s : Ses) : List (List UInt8) := headR s :: (s.kept.map ansR ++ s.notes.map encText)
def recs (A : List Ses) : List (List UInt8) := A.flatMap recS
theorem recS_len (s : Ses) : (recS s).length = 1 + s.kept.length + s.notes.length := by unfold recS; simp; omega
theorem recs_le (ok : okA A) : (recs A).length ≤ 13 * A.length := by
  have key : ∀ B , (∀ s ∈ B, s.kept.length ≤ 6 ∧ s.notes.length ≤ 6) → (recs B).length ≤ 13 * B.length := by
    intro B
    induction B with
    | nil => decide
    | cons s B ih =>
      intro hB
      have h1 := hB s List.mem_cons_self
      have h2 := ih (fun x hx => hB x (List.mem_cons_of_mem _ hx))
      unfold recs at *
      rw [List.flatMap_cons, List.length_append, recS_len, List.length_cons]
      omega
  refine key A fun s hs => ?_
  have ⟨i, hi⟩ := List.getElem?_of_mem hs
  exact ⟨(ok.at_ i s hi).kl, (ok.at_ i s hi).nl⟩
theorem save_ok (H : Has h t X A) (ok : okA A) (hk : ∀ h' p' l' c', BL h h' p' l' c' (recs A) → Fr No h h' → R (.slice p' l' c') h') : Cl 33 #[.pointer (some ⟨t, 0, none⟩)] h R := by
  refine sessions_Table_Save.walk (all_ok H ok fun h1 p1 l1 c1 O1 f1 => ⟨_, _, _, rfl, ?_⟩)
  obtain ⟨xs, D, rfl, hx2, rfl, hx4, hx5, hx6⟩ := O1
  have hxl := ok.le
  rw [List.length_map] at hxl
  refine ⟨fun op ol oc i h2 => ∃ k : Nat, i = (k : Int) ∧ k ≤ xs.length ∧ BL h1 h2 op ol oc (recs ((xs.map SC.abs).take k)) ∧ ol ≤ 13 * k ∧ Fr No h1 h2, fun _ _ _ i _ => xs.length - i.toNat, ⟨0, rfl, by omega, BL.nil, by omega, Fr.refl _ _⟩, ?_⟩
  rintro op ol oc _ g ⟨k, rfl, hkn, B, hol, fg⟩
  by_cases hlt : k < xs.length
  · rw [if_pos (decide_eq_true (by omega)), Int.toNat_natCast]
    have ⟨s, hs⟩ := getAt hlt
    have hsA : (xs.map SC.abs)[k]? = some s.abs := by rw [List.getElem?_map, hs]; rfl
    have okS := ok.at_ k _ hsA
    have kl : s.kept.length ≤ 6 := by have := okS.kl; rwa [show s.abs.kept.length = s.kept.length from List.length_map _] at this
    have nl : s.notes.length ≤ 6 := by have := okS.nl; rwa [show s.abs.notes.length = s.notes.length from List.length_map _] at this
    have onum : s.num = k + 1 := okS.num
    have otk : s.token ≤ 2147483648 := okS.tk.2
    have kb : ∀ a ∈ s.kept, a.id ≤ 1099511627776 ∧ a.v.b.length ≤ 1000 := fun a ha => okS.kd a.abs (List.mem_map_of_mem ha)
    have nb : ∀ a ∈ s.notes, a.b.length ≤ 600 := fun a ha => (okS.nd a.b (List.mem_map_of_mem ha)).2
    have owng := hx2.frame fg (fun _ _ => id)
    have SRg : ∀ {h' : Heap}, Fr No g h' → SRow h' D s := fun f => (hx4 s (List.mem_of_getElem? hs)).frame (fg.tt f) (fun _ _ => id)
    obtain ⟨ab, aoff, rfl⟩ := owng.addr (by omega)
    have zg := fg.1
    have zh := f1.1
    refine ⟨⟨by first | trivial | omega, by first | trivial | omega⟩, onSome_some.2 (sessions_Session.ldA (owng.heldAt senc_len hs) (sessions_Session.new fun b h9 eb hb9 f9 => ?_))⟩
    refine ⟨_, cell_at hb9 rfl, _, cell_at hb9 rfl, _, cell_at hb9 rfl, _, cell_at hb9 rfl, _, _, _, cell_at hb9 rfl, _, _, _, cell_at hb9 rfl, ?_⟩
    refine Fld.new_ok fun h10 w S10 W10 f10 g10 => ⟨_, rfl, ?_⟩
    have u10 : Up h9 S10 h10 := ⟨f10, g10⟩
    have nbS : ∀ {S : Nat → Prop} {h' : Heap}, Up h9 S h' → ¬ S b := fun u hx => by have := u.ge b hx; have := lt_of_get hb9; omega
    have b10 := f10.get hb9 id
    refine ⟨cell_at b10 rfl, cell_at b10 rfl, cell_at b10 rfl, cell_at b10 rfl, cell_at b10 rfl, cell_at b10 rfl, ?_⟩
    refine int_ok W10 (by simp) (by omega) fun h11 S11 W11 s11 => ⟨_, rfl, ?_⟩
    have b11 := s11.fr.get b10 (nbS u10)
    have u11 := u10.step s11
    have e1 : natOf (s.num : Int) = s.num := by unfold natOf; omega
    rw [e1, List.nil_append] at W11
    have l1 := (encNum_len s.num).2
    refine ⟨cell_at b11 rfl, cell_at b11 rfl, cell_at b11 rfl, cell_at b11 rfl, cell_at b11 rfl, ?_⟩
    refine num_ok s.token W11 (by omega) rfl (by omega) fun h12 S12 W12 s12 => ⟨_, rfl, ?_⟩
    have b12 := s12.fr.get b11 (nbS u11)
    have u12 := u11.step s12
    have l2 := (encNum_len s.token).2
    refine ⟨cell_at b12 rfl, cell_at b12 rfl, cell_at b12 rfl, cell_at b12 rfl, ?_⟩
    refine bool_ok W12 (by rw [List.length_append]; omega) fun h13 S13 W13 s13 => ⟨_, rfl, ?_⟩
    have b13 := s13.fr.get b12 (nbS u12)
    have u13 := u12.step s13
    have l3 := (encNum_len (bit s.up)).2
    refine ⟨cell_at b13 rfl, cell_at b13 rfl, cell_at b13 rfl, ?_⟩
    refine bool_ok W13 (by simp only [List.length_append]; omega) fun h14 S14 W14 s14 => ⟨_, rfl, ?_⟩
    have b14 := s14.fr.get b13 (nbS u13)
    have u14 := u13.step s14
    have l4 := (encNum_len (bit s.watch)).2
    refine ⟨cell_at b14 rfl, cell_at b14 rfl, ?_⟩
    refine int_ok W14 (by simp only [List.length_append]; omega) (by omega) fun h15 S15 W15 s15 => ⟨_, rfl, ?_⟩
    have b15 := s15.fr.get b14 (nbS u14)
    have u15 := u14.step s15
    have e5 : natOf ((s.kept.length : Nat) : Int) = s.kept.length := by unfold natOf; omega
    rw [e5] at W15
    have l5 := (encNum_len s.kept.length).2
    refine ⟨cell_at b15 rfl, cell_at b15 rfl, ?_⟩
    refine int_ok W15 (by simp only [List.length_append]; omega) (by omega) fun h16 S16 W16 s16 => ⟨_, rfl, ?_⟩
    have b16 := s16.fr.get b15 (nbS u15)
    have u16 := u15.step s16
    have e6 : natOf ((s.notes.length : Nat) : Int) = s.notes.length := by unfold natOf; omega
    rw [e6] at W16
    have l6 := (encNum_len s.notes.length).2
    refine ⟨cell_at b16 rfl, cell_at b16 rfl, ?_⟩
    have eh : encNum s.num ++ encNum s.token ++ encNum (bit s.up) ++ encNum (bit s.watch) ++ encNum s.kept.length ++ encNum s.notes.length = headR s.abs := by
      unfold headR
      rw [show s.abs.kept.length = s.kept.length from List.length_map _, show s.abs.notes.length = s.notes.length from List.length_map _]; rfl
    have hl6 : (headR s.abs).length ≤ 60 := by rw [← eh]; simp only [List.length_append]; omega
    rw [eh] at W16
    refine bytes_ok W16 (by omega) fun q17 d17 h17 o17 f17 g17 => ⟨_, _, _, rfl, ?_⟩
    have b17 := f17.get b16 id
    refine ⟨cell_at b17 rfl, cell_at b17 rfl, ?_⟩
    have F17 : Fr No g h17 := f9.tt (u16.fr.tt f17)
    have z9 := f9.1
    have z16 := u16.fr.1
    have zF17 := F17.1
    obtain ⟨ys, DB, hy1, hy2, hy3, hy4, hy5, hy6⟩ := B
    refine newP_of ?_
    have f18 : Fr No h17 (h17.push (.cells #[.slice q17 (headR s.abs).length d17] 48)) := Fr.push _ _
    have row18 : Row (h17.push (.cells #[.slice q17 (headR s.abs).length d17] 48)) (some ⟨h17.size, 0, none⟩) (nenc ⟨q17, d17, headR s.abs⟩) := row_new (cs := nenc ⟨q17, d17, headR s.abs⟩)
    have sz18 : (h17.push (.cells #[.slice q17 (headR s.abs).length d17] 48)).size = h17.size + 1 := Array.size_push _
    generalize h17.push (.cells #[.slice q17 (headR s.abs).length d17] 48) = h18 at f18 row18 sz18 ⊢
    have b18 := f18.get b17 id
    refine ⟨cell_at b18 rfl, cell_at b18 rfl, ?_⟩
    have opg : ∀ y, inBlk op y → y < g.size := fun y hy => hy2.blk_lt hy
    have nbo : ¬ inBlk op b := fun hx => by have := opg b hx; omega
    refine den_append tN uN ((hy2.frame F17 (fun _ _ => id)).frame f18 (fun _ _ => id)) row18 rfl (fun v hv => by simp at hv; subst hv; rfl) (by omega) (by omega) ?_
    intro p19 c19 h19 o19 _ f19 g19
    have b19 := f19.get b18 nbo
    refine ⟨_, _, _, rfl, cell_at b19 rfl, cell_at b19 rfl, ?_⟩
    have z19 := f19.1
    have b17' : ∀ y, inBlk q17 y → h16.size ≤ y ∧ y < h17.size := fun y hy => ⟨g17 y hy, o17.blk_lt hy⟩
    have B19 : BL h1 h19 p19 (ol + 1) c19 (recs ((xs.map SC.abs).take k) ++ [headR s.abs]) := by
      refine ⟨ys ++ [⟨q17, d17, headR s.abs⟩], fun y => DB y ∨ inBlk q17 y, by rw [List.length_append, hy1]; rfl, ?_, ?_, ?_, ?_, ?_⟩
      · rw [List.flatMap_append]; simpa using o19
      · rw [List.map_append, hy3]; rfl
      · intro x hx
        rcases List.mem_append.1 hx with hx | hx
        · exact ((((hy4 x hx).frame F17 (fun _ _ => id)).frame f18 (fun _ _ => id)).frame f19 (fun y hy => (hy5 y hy).2.2)).mono (fun y => .inl)
        · simp at hx; subst hx
          exact BV.of_own ((o17.frame f18 (fun _ _ => id)).frame f19 (fun y hy ho => by have := b17' y hy; have := opg y ho; omega)) (fun y => .inr)
      · grind
      · intro y hy
        rcases g19 y hy with h2 | h2
        · exact hy6 y h2
        · omega
    have F19 : Fr No h1 h19 := (fg.tt (F17.tt f18)).step f19 (fun y hy ho => by have := hy6 y ho; omega)
    have zb19 : b < h19.size := lt_of_get b19
    have hb1 : h1.size ≤ b := by omega
    have npb : ¬ inBlk p19 b := fun ho => (g19 b ho).elim nbo (fun h2 => by omega)
    have SR : ∀ {h' : Heap}, Fr No h1 h' → SRow h' D s := fun f => (hx4 s (List.mem_of_getElem? hs)).frame f (fun _ _ => id)
    clear o19 f19 g19 row18 sz18 f18 b18 b17 o17 f17 g17 W16 b16 W15 b15 W14 b14 W13 b13 W12 b12 W11 b11 W10 b10 hb9 s16 s15 s14 s13 s12 s11 f10 g10 u10 u11 u12 u13 u14 u15 u16 b17' hy2 hy4 hy5 F17 f9
    refine ⟨_, _, _, cell_at b19 rfl, ?_⟩
    refine ⟨fun op' ol' oc' i h' => ∃ j : Nat, i = (j : Int) ∧ j ≤ s.kept.length ∧ BL h1 h' op' ol' oc' (recs ((xs.map SC.abs).take k) ++ [headR s.abs] ++ (s.abs.kept.map ansR).take j) ∧ ol' ≤ ol + 1 + j ∧ Fr No h1 h' ∧
      sessions_Session.at h' b (s.num : Int) (s.token : Int) s.up s.watch s.kp s.kept.length s.kc s.np s.notes.length s.nc ∧ ¬ inBlk op' b, fun _ _ _ i _ => s.kept.length - i.toNat, ⟨0, rfl, by omega, by simpa using B19, by omega, F19, b19, npb⟩, ?_⟩
    clear B19 F19 b19 npb
    rintro op' ol' oc' _ h20 ⟨j, rfl, hj, B20, hol', F20, b20, nb20⟩
    have z20 := F20.1
    by_cases hjl : j < s.kept.length
    · rw [if_pos (decide_eq_true (by omega)), Int.toNat_natCast]
      have ⟨a, ha⟩ := getAt hjl
      have row20 := (SR F20).k
      obtain ⟨ka, hkp⟩ := row20.any aenc_len
      rw [hkp] at row20
      refine ⟨⟨by first | trivial | omega, by first | trivial | omega⟩, ?_⟩
      rw [hkp]
      have kba := kb a (List.mem_of_getElem? ha)
      refine onSome_some.2 (sessions_Answer.ldA (row20.heldAt aenc_len ha) (sessions_Answer.new fun b2 h23 eb2 hb2 f23 => ⟨_, cell_at hb2 rfl, _, _, _, cell_at hb2 rfl, ?_⟩))
      refine Fld.new_ok fun h24 w S24 W24 f24 g24 => ⟨_, rfl, ?_⟩
      have u24 : Up h23 S24 h24 := ⟨f24, g24⟩
      have b24 := f24.get hb2 id
      refine ⟨cell_at b24 rfl, cell_at b24 rfl, ?_⟩
      refine num_ok a.id W24 (by simp) rfl (by omega) fun h25 S25 W25 s25 => ⟨_, rfl, ?_⟩
      rw [List.nil_append] at W25
      have u25 := u24.step s25
      have b25 := s25.fr.get b24 (fun hx => by have := u24.ge b2 hx; have := lt_of_get hb2; omega)
      refine ⟨cell_at b25 rfl, ?_⟩
      have F25 : Fr No h1 h25 := F20.tt (f23.tt u25.fr)
      have l7 := (encNum_len a.id).2
      have rowa := ((SR F25).kd a (List.mem_of_getElem? ha)).row
      refine text_ok' W25 (by omega) rowa rfl (by omega) (fun y hy hne hS => ?_) fun h26 S26 W26 s26 => ⟨_, rfl, ?_⟩
      · have a1 := (hx4 s (List.mem_of_getElem? hs)).kd a (List.mem_of_getElem? ha)
        have a2 := (hx5 y (a1.own hne y hy)).2.1
        have a3 := u25.ge y hS
        have a4 := f23.1
        omega
      have u26 := u25.step s26
      have l8 := (encNum_len a.v.b.length).2
      have el : (encText a.v.b).length = (encNum a.v.b.length).length + a.v.b.length := by unfold encText; rw [List.length_append]
      refine bytes_ok W26 (by rw [List.length_append]; omega) fun q27 d27 h27 o27 f27 g27 => ⟨_, _, _, rfl, ?_⟩
      have F27 : Fr No h20 h27 := f23.tt (u26.fr.tt f27)
      have z27 := F27.1
      have zu := (f23.tt u26.fr).1
      have er : encNum a.id ++ encText a.v.b = ansR a.abs := rfl
      rw [er] at o27 ⊢
      refine (B20.on F27).push (by omega) o27 (fun y hy => ⟨by have := g27 y hy; omega, fun ho => by have := B20.lt ho; have := g27 y hy; omega⟩) (by omega) ?_
      intro p29 c29 h29 B29 f29 g29
      refine ⟨_, _, _, rfl, ?_⟩
      rw [wrap_id (by omega) (by omega)]
      refine ⟨⟨j + 1, by omega, by omega, ?_, by omega, ?_, (by rw [← hkp]; exact f29.get (F27.get b20 id) nb20), ?_⟩, ?_⟩
      · rw [List.append_assoc] at B29
        rw [List.take_add_one, show (s.abs.kept.map ansR)[j]? = some (ansR a.abs) by show ((s.kept.map AV.abs).map ansR)[j]? = _; rw [List.getElem?_map, List.getElem?_map, ha]; rfl]
        rw [← List.append_assoc] at B29 ⊢
        exact B29
      · refine (F20.tt F27).step f29 (fun y hy ho => ?_)
        obtain ⟨_, _, _, _, _, _, _, h6'⟩ := B20
        have := h6' y ho; omega
      · intro ho
        rcases g29 b ho with h2 | h2
        · exact nb20 h2
        · have := lt_of_get (F27.get b20 id); omega
      · show s.kept.length - Int.toNat ((j : Int) + 1) < s.kept.length - Int.toNat (j : Int); omega
    · have q2 : ¬ (j : Int) < (s.kept.length : Int) := by omega
      simp only [q2, decide_false, Bool.false_eq_true, if_false]
      rw [List.take_of_length_le (l := s.abs.kept.map ansR) (by rw [List.length_map, show s.abs.kept.length = s.kept.length from List.length_map _]; omega)] at B20
      refine ⟨_, _, _, cell_at b20 rfl, ?_⟩
      refine ⟨fun op' ol' oc' i h' => ∃ j : Nat, i = (j : Int) ∧ j ≤ s.notes.length ∧ BL h1 h' op' ol' oc' (recs ((xs.map SC.abs).take k) ++ [headR s.abs] ++ s.abs.kept.map ansR ++ (s.abs.notes.map encText).take j) ∧ ol' ≤ ol + 7 + j ∧ Fr No h1 h', fun _ _ _ i _ => s.notes.length - i.toNat, ⟨0, rfl, by omega, by simpa using B20, by omega, F20⟩, ?_⟩
      clear B20 F20 b20 nb20 z20 hol' hjl hj q2
      rintro op' ol' oc' _ h30 ⟨j, rfl, hj, B30, hol', F30⟩
      have z30 := F30.1
      by_cases hjl : j < s.notes.length
      · rw [if_pos (decide_eq_true (by omega)), Int.toNat_natCast]
        have ⟨a, ha⟩ := getAt hjl
        have row30 := (SR F30).n
        obtain ⟨ka, hnp⟩ := row30.any nenc_len
        rw [hnp] at row30
        refine ⟨⟨by first | trivial | omega, by first | trivial | omega⟩, ?_⟩
        rw [hnp]
        have nba := nb a (List.mem_of_getElem? ha)
        refine onSome_some.2 ⟨a.p, a.b.length, a.c, ?_, ?_⟩
        · have := (row30.heldAt nenc_len ha).1
          rwa [add_zero_addr] at this
        refine Fld.new_ok fun h31 w S31 W31 f31 g31 => ⟨_, rfl, ?_⟩
        have u31 : Up h30 S31 h31 := ⟨f31, g31⟩
        have rowa := ((SR (F30.tt f31)).nd a (List.mem_of_getElem? ha)).row
        refine text_ok' W31 (by simp) rowa rfl (by omega) (fun y hy hne hS => ?_) fun h32 S32 W32 s32 => ⟨_, rfl, ?_⟩
        · have a1 := (hx4 s (List.mem_of_getElem? hs)).nd a (List.mem_of_getElem? ha)
          have a2 := (hx5 y (a1.own hne y hy)).2.1
          have a3 := u31.ge y hS
          omega
        rw [List.nil_append] at W32
        have u32 := u31.step s32
        have l8 := (encNum_len a.b.length).2
        have el : (encText a.b).length = (encNum a.b.length).length + a.b.length := by unfold encText; rw [List.length_append]
        refine bytes_ok W32 (by omega) fun q33 d33 h33 o33 f33 g33 => ⟨_, _, _, rfl, ?_⟩
        have F33 : Fr No h30 h33 := u32.fr.tt f33
        have z33 := F33.1
        have zu := u32.fr.1
        refine (B30.on F33).push (by omega) o33 (fun y hy => ⟨by have := g33 y hy; omega, fun ho => by have := B30.lt ho; have := g33 y hy; omega⟩) (by omega) ?_
        intro p35 c35 h35 B35 f35 g35
        refine ⟨_, _, _, rfl, ?_⟩
        rw [wrap_id (by omega) (by omega)]
        refine ⟨⟨j + 1, by omega, by omega, ?_, by omega, ?_⟩, ?_⟩
        · rw [List.append_assoc] at B35
          rw [List.take_add_one, show (s.abs.notes.map encText)[j]? = some (encText a.b) by show ((s.notes.map BV.b).map encText)[j]? = _; rw [List.getElem?_map, List.getElem?_map, ha]; rfl]
          rw [← List.append_assoc] at B35 ⊢
          exact B35
        · refine (F30.tt F33).step f35 (fun y hy ho => ?_)
          obtain ⟨_, _, _, _, _, _, _, h6'⟩ := B30
          have := h6' y ho; omega
        · show s.notes.length - Int.toNat ((j : Int) + 1) < s.notes.length - Int.toNat (j : Int); omega
      · rw [if_neg (by simp only [decide_eq_true_eq]; omega)]
        rw [List.take_of_length_le (l := s.abs.notes.map encText) (by rw [List.length_map, show s.abs.notes.length = s.notes.length from List.length_map _]; omega)] at B30
        rw [wrap_id (by omega) (by omega)]
        refine ⟨⟨k + 1, by omega, by omega, ?_, by omega, F30⟩, ?_⟩
        · have e : recs ((xs.map SC.abs).take (k + 1)) = recs ((xs.map SC.abs).take k) ++ [headR s.abs] ++ s.abs.kept.map ansR ++ s.abs.notes.map encText := by
            unfold recs
            rw [List.take_add_one, hsA, List.flatMap_append]
            simp [recS]
          rw [e]; exact B30
        · show xs.length - Int.toNat ((k : Int) + 1) < xs.length - Int.toNat (k : Int); omega
  · rw [if_neg (by simp only [decide_eq_true_eq]; omega)]
    rw [List.take_of_length_le (by rw [List.length_map]; omega)] at B
    exact hk g op ol oc (B.mono f1.1) (f1.tt fg)

end Ses
end
end Go.Proofs.YtmoafceggjgecaaGreatDoor
