/-
  What is proved here: parts of the proof, one behind the other (texts of this work, merged by a program; what the theorem does not use is left out). No condition.
-/
import Derived.Test.YtaphjamdblgiiaaGreatDoorMDansb
set_option linter.defProp false
set_option maxRecDepth 100000
set_option maxHeartbeats 4000000
namespace Go.Proofs.YtaphjamdblgiiaaGreatDoor
open Go.Den
open IntKind (wrap)
open Int (toNat)
section
variable {h:Heap} {R:TyP}
variable {d:Nat} {n i:Int} {a:Addr}
abbrev disk_Disk.atp (h : Heap) (b : Nat) (x : disk_Disk.S) : Prop := h[b]? = some (.cells x.arr 86 (0, 0))
theorem disk_Disk.ex {K : disk_Disk.S → Prop} (x : disk_Disk.S) (hk : K x) : disk_Disk.EX K := ⟨_, _, _, _, _, _, _, _, hk⟩
theorem disk_Disk.boxp {x : disk_Disk.S} {K : Nat → Heap → Prop} (hk : ∀ b h', b = h.size → disk_Disk.atp h' b x → Fr No h h' → K b h') : NewP h (.cells x.arr 86) fun b h_0 => K b h_0 :=
  newP_of (hk _ _ rfl push_new (Fr.push _ _))
theorem disk_Disk_Sectors.walk (hv :
 ∃ t8_p t8_l t8_c, hcell h ⟨d, 0, none⟩ = some (.slice t8_p t8_l t8_c) ∧
 R (.int .i64 ((t8_l : Nat) : Int)) h) : Cl 64 #[.pointer (some ⟨d, 0, none⟩)] h R :=
 callsN [] hv
theorem disk_New.walk (hv :
 JoinP (fun (t9 : Bool) h_1 =>
 ite t9
 (  R (.tuple #[.pointer none, .int .i64 1]) h_1)
 (  Dsz (Instr.makeSlice 78 (.int .i64 n) (.int .i64 n)) h_1 fun v h_2 =>
 ∃ t11_p t11_l t11_c, v = .slice t11_p t11_l t11_c ∧
 NewP h_2 (.cells #[.slice t11_p t11_l t11_c, .slice none 0 0, .int .i64 0, .int .i64 0] 86) fun b h_3 =>
 R (.tuple #[.pointer (some ⟨b, 0, none⟩), .int .i64 0]) h_3))
 (fun J =>
 ite (decide (n < 4))
 (  J true h)
 (  J (decide (n > 4096)) h))) : Cl 9 #[.int .i64 n] h R :=
 callsN [(4, .join [(9, sB)])] hv
theorem disk_Disk_ask.walk (hv :
 Cl 64 #[.pointer (some ⟨d, 0, none⟩)] h fun v h_1 =>
 ∃ t7, v = .int .i64 t7 ∧
 ite (t7 == 0)
 (  R (.int .i64 6) h_1)
 (  JoinP (fun (t9 : Bool) h_2 =>
 ite t9
 (  R (.int .i64 1) h_2)
 (  R (.int .i64 0) h_2))
 (fun J =>
 ite (decide (i < 0))
 (  J true h_1)
 (  ∃ t17_p t17_l t17_c, hcell h_1 ⟨d, 0, none⟩ = some (.slice t17_p t17_l t17_c) ∧
 J (decide (i ≥ ((t17_l : Nat) : Int))) h_1)))) : Cl 139 #[.pointer (some ⟨d, 0, none⟩), .int .i64 i] h R :=
 callsN [(11, .join [(9, sB)])] hv
theorem disk_Disk_Write.walk {b_p : Option Addr} {b_l b_c : Nat} (hv :
 Cl 139 #[.pointer (some ⟨d, 0, none⟩), .int .i64 i] h fun v h_1 =>
 ∃ t10, v = .int .i64 t10 ∧
 ite (t10 != 0)
 (  R (.int .i64 t10) h_1)
 (  ite (((b_l : Nat) : Int) != 128)
 (  R (.int .i64 3) h_1)
 (  ∃ t21_p t21_l t21_c, hcell h_1 ⟨d, 1, none⟩ = some (.slice t21_p t21_l t21_c) ∧
 128 ≤ b_l ∧
 onSome b_p fun a =>
 LoadB h_1 a (List.replicate 128 (.int .u8)) fun t25 =>
 exs ([.int .i64] ++ List.replicate 128 (.int .u8)) fun t26 =>
 BuildV Tryz.prog 211 #[(0, .int .i64 i), (1, .agg t25.toArray)] (.agg t26.toArray) ∧
 Dsz (Instr.buildSlice 79 1 #[(0, .agg t26.toArray)]) h_1 fun v_1 h_2 =>
 ∃ t27_p t27_l t27_c, v_1 = .slice t27_p t27_l t27_c ∧
 Kp h_1 h_2 [b_p, (some ⟨d, 1, none⟩)] ∧
 Dsz (Builtin.append_ #[79, 79] 79 #[.slice t21_p t21_l t21_c, .slice t27_p t27_l t27_c]) h_2 fun v_2 h_3 =>
 ∃ t28_p t28_l t28_c, v_2 = .slice t28_p t28_l t28_c ∧
 Kp h_2 h_3 [b_p] ∧
 StoreP h_3 ⟨d, 1, none⟩ (.slice t28_p t28_l t28_c) fun h_4 =>
 Cl 100 #[.pointer (some ⟨d, 2, none⟩), .int .i64 1] h_4 fun v_3 h_5 =>
 ∃ t34, v_3 = .int .i64 t34 ∧
 R (.int .i64 0) h_5))) : Cl 98 #[.pointer (some ⟨d, 0, none⟩), .int .i64 i, .slice b_p b_l b_c] h R :=
 callsN [(21, fun _ => .planK (runP 15 0 .done))] hv
theorem disk_Disk_Read.walk (hv :
 Cl 139 #[.pointer (some ⟨d, 0, none⟩), .int .i64 i] h fun v h_1 =>
 ∃ t12, v = .int .i64 t12 ∧
 ite (t12 != 0)
 (  R (.tuple #[.slice none 0 0, .int .i64 t12]) h_1)
 (  ∃ t19_p t19_l t19_c, hcell h_1 ⟨d, 0, none⟩ = some (.slice t19_p t19_l t19_c) ∧
 ((0 : Int) ≤ i ∧ i < ((t19_l : Nat) : Int)) ∧
 onSome t19_p fun a =>
 LoadB h_1 (a.add (Int.toNat i * 128)) (List.replicate 128 (.int .u8)) fun t22 =>
 NewP h_1 (.cells ((List.replicate 128 (.int .u8 0) : List Value)).toArray 209) fun b h_2 =>
 t22.length = 128 ∧ storeL ⟨b, 0, none⟩ t22 0 h_2 fun h_3 =>
 ∃ t26_p t26_l t26_c, hcell h_3 ⟨d, 1, none⟩ = some (.slice t26_p t26_l t26_c) ∧
 ∃ (I : Int → Heap → Prop) (mu : Int → Heap → Nat), I 0 h_3 ∧ ∀ t28 h_4, I t28 h_4 →
 ite (decide (t28 < ((t26_l : Nat) : Int)))
 (  JoinP (fun h_5 =>
 (I (IntKind.wrap .i64 (t28 + 1)) h_5 ∧ mu (IntKind.wrap .i64 (t28 + 1)) h_5 < mu t28 h_4))
 (fun J =>
 ((0 : Int) ≤ t28 ∧ t28 < ((t26_l : Nat) : Int)) ∧
 onSome t26_p fun a_1 =>
 LoadB h_4 (a_1.add (Int.toNat t28 * 129)) ([.int .i64] ++ List.replicate 128 (.int .u8)) fun t31 =>
 NewP h_4 (.cells (([.int .i64 0] ++ List.replicate 128 (.int .u8 0) : List Value)).toArray 211) fun b_1 h_6 =>
 t31.length = 129 ∧ storeL ⟨b_1, 0, none⟩ t31 0 h_6 fun h_7 =>
 ∃ t33, hcell h_7 ⟨b_1, 0, none⟩ = some (.int .i64 t33) ∧
 JoinP (fun h_8 =>
 J h_8)
 (fun J_1 =>
 ite (t33 == i)
 (  LoadB h_7 ⟨b_1, 1, none⟩ (List.replicate 128 (.int .u8)) fun t37 =>
 t37.length = 128 ∧ storeL ⟨b, 0, none⟩ t37 0 h_7 fun h_9 =>
 J_1 h_9)
 (  J_1 h_7))))
 (  R (.tuple #[.slice (slBase (some ⟨b, 0, none⟩) 128 0 1) (128 - 0) (128 - 0), .int .i64 0]) h_4))) : Cl 177 #[.pointer (some ⟨d, 0, none⟩), .int .i64 i] h R :=
 callsN [(18, .loop [(28, sI)]), (26, .join []), (31, .join [])] hv
theorem disk_Disk_Sync.walk (hv :
 Cl 64 #[.pointer (some ⟨d, 0, none⟩)] h fun v h_1 =>
 ∃ t6, v = .int .i64 t6 ∧
 ite (t6 == 0)
 (  R (.int .i64 6) h_1)
 (  ∃ t11_p t11_l t11_c, hcell h_1 ⟨d, 1, none⟩ = some (.slice t11_p t11_l t11_c) ∧
 ∃ (I : Int → Heap → Prop) (mu : Int → Heap → Nat), I 0 h_1 ∧ ∀ t13 h_2, I t13 h_2 →
 ite (decide (t13 < ((t11_l : Nat) : Int)))
 (  ((0 : Int) ≤ t13 ∧ t13 < ((t11_l : Nat) : Int)) ∧
 onSome t11_p fun a =>
 LoadB h_2 (a.add (Int.toNat t13 * 129)) ([.int .i64] ++ List.replicate 128 (.int .u8)) fun t16 =>
 NewP h_2 (.cells (([.int .i64 0] ++ List.replicate 128 (.int .u8 0) : List Value)).toArray 211) fun b h_3 =>
 t16.length = 129 ∧ storeL ⟨b, 0, none⟩ t16 0 h_3 fun h_4 =>
 ∃ t20_p t20_l t20_c, hcell h_4 ⟨d, 0, none⟩ = some (.slice t20_p t20_l t20_c) ∧
 ∃ t22, hcell h_4 ⟨b, 0, none⟩ = some (.int .i64 t22) ∧
 LoadB h_4 ⟨b, 1, none⟩ (List.replicate 128 (.int .u8)) fun t24 =>
 ((0 : Int) ≤ t22 ∧ t22 < ((t20_l : Nat) : Int)) ∧
 onSome t20_p fun a_1 =>
 t24.length = 128 ∧ storeL (a_1.add (Int.toNat t22 * 128)) t24 0 h_4 fun h_5 =>
 (I (IntKind.wrap .i64 (t13 + 1)) h_5 ∧ mu (IntKind.wrap .i64 (t13 + 1)) h_5 < mu t13 h_2))
 (  StoreP h_2 ⟨d, 1, none⟩ (.slice none 0 0) fun h_6 =>
 Cl 100 #[.pointer (some ⟨d, 3, none⟩), .int .i64 1] h_6 fun v_1 h_7 =>
 ∃ t33, v_1 = .int .i64 t33 ∧
 R (.int .i64 0) h_7))) : Cl 67 #[.pointer (some ⟨d, 0, none⟩)] h R :=
 callsN [(14, .loop [(13, sI)]), (25, fun _ => .planK (runP 10 0 .done))] hv
theorem sync_atomic_Int64_Add.a.walk {x : Addr} {delta : Int} (hv :
 Dsz (callFunc 140 #[.pointer (some x), .int .i64 delta]) h fun nx h_1 =>
 onVal nx fun v =>
 ∃ t9, v = .int .i64 t9 ∧
 R (.int .i64 t9) h_1) : Cl 100 #[.pointer (some x), .int .i64 delta] h R :=
 callsN [] hv
theorem find_add : Extern.find Tryz.f140 = some (Extern.Atomic.update (Op.intArith .add) .i64 true) := by kernel_rfl
theorem findNext_add : (Extern.findNext Tryz.f140).isNone = true := by kernel_rfl
theorem den_add {δ:Int} {K : Next → Heap → Prop} (hc : hcell h a = some (.int .i64 n))
    (hk : StoreP h a (.int .i64 (IntKind.wrap .i64 (n + δ))) fun h' => K (.value (.int .i64 (IntKind.wrap .i64 (n + δ)))) h') :
    denSem Tryz.prog (callFunc 140 #[.pointer (some a), .int .i64 δ]) h K := by
  have e1 : Tryz.prog.funcs[140]? = some Tryz.f140 := Tryz.func140
  have e2 : Extern.findNext Tryz.f140 = none := Option.isNone_iff_eq_none.1 findNext_add
  have ⟨k1, k2, k3⟩ := hk
  unfold callFunc
  refine den_of_rd (s := program) (a := Tryz.prog) rfl ?_
  rw [e1]
  dsimp only
  rw [if_neg (by decide +kernel), if_pos (by kernel_rfl)]
  refine den_of_rd (s := mark (Mark.extern 140)) (a := ()) rfl ?_
  rw [e2, find_add]
  dsimp only
  rw [den_bind]
  refine ⟨.int .i64 n, hc, ?_⟩
  exact ⟨rfl, k1, k2, k3 _ rfl⟩
theorem add_ok {δ:Int} (hc : hcell h a = some (.int .i64 n)) (hk : StoreP h a (.int .i64 (IntKind.wrap .i64 (n + δ))) fun h' => R (.int .i64 (IntKind.wrap .i64 (n + δ))) h') :
    Cl 100 #[.pointer (some a), .int .i64 δ] h R :=
  sync_atomic_Int64_Add.a.walk (den_add hc (by
    obtain ⟨k1, k2, k3⟩ := hk
    exact ⟨k1, k2, fun h' e => ⟨_, rfl, k3 h' e⟩⟩))

end
end Go.Proofs.YtaphjamdblgiiaaGreatDoor
namespace Go.Den
section
variable {P : Program}
def fsOf (P : Program) (t : TypeId) : Array Field := match P.underlying t with | some (.struct fs) => fs | _ => #[]
theorem loadB_bc {h : Heap} {a : Addr} {bs : List UInt8} {n : Nat} {F : List Value → Prop} (hn : bs.length = n) (hh : heldL a (bc bs) 0 h) (hF : F (bc bs)) : LoadB h a (List.replicate n (.int .u8)) F := ⟨loadL_u8 hn hh hF⟩
theorem den_buildOne {t elem : TypeId} {sz bytes : Nat} {z v : Value} {h : Heap} {K : Value → Heap → Prop} (T : SlTy P t elem sz bytes z) (h0 : 0 < sz) (hz : sz ≤ 16777216) (hv : v.cells.size = sz)
    (hk : ∀ b h', b = h.size → h'[b]? = some (.cells v.cells elem (0, 0)) → Fr No h h' → K (.slice (some ⟨b, 0, none⟩) 1 1) h') : denSem P (Instr.buildSlice t 1 #[(0, v)]) h K := by
  obtain ⟨i, hi, hsz, rfl, hzz⟩ := T.i
  unfold Instr.buildSlice
  refine den_of_rd (s := underlying t) (rd_underlying T.u) ?_
  simp only []
  refine den_of_rd (s := sizeOf elem) (rd_sizeOf hi) ?_
  rw [hsz]
  rw [if_neg (by omega)]
  rw [if_neg (by omega)]
  refine den_of_rd (s := zeroValue elem) (rd_zeroValue hi hzz) ?_
  refine den_of_rd (s := (pure z.cells : Sem (Array Value))) (a := z.cells) rfl ?_
  obtain ⟨c', d1, d2, d3, d4⟩ := fold_set v.cells.toList 0 ((Array.range (1 * sz)).map fun x => z.cells[x % z.cells.size]!) 0 (by simp; omega)
  have e5 : Instr.fill (fun i => some (i * sz, sz)) ((Array.range (1 * sz)).map fun x => z.cells[x % z.cells.size]!) [(0, v)] = some v.cells := by
    rw [fill_cons (off := 0) (size := sz) (by simp) hv (by simp; omega)]
    show some (Array.foldl (fun (cs : Array Value) (x : Value × Nat) => cs.setIfInBounds (0 + x.2) x.1) ((Array.range (1 * sz)).map fun x => z.cells[x % z.cells.size]!) v.cells.zipIdx) = _
    rw [← Array.foldl_toList, Array.toList_zipIdx, d1]
    congr 1
    refine Array.ext_getElem? fun j => ?_
    by_cases hj : j < v.cells.toList.length
    · have := d3 j hj
      rw [show 0 + 0 + j = j by omega] at this
      rw [this]; simp
    · rw [Array.getElem?_eq_none (by rw [d2]; simp at hj ⊢; omega), Array.getElem?_eq_none (by simpa using hj)]
  show denSem P (match Instr.fill _ _ [(0, v)] with | some cells => _ | _ => _) h K
  rw [e5]
  exact hk _ _ rfl push_new (Fr.push _ _)
theorem exs_w {w : Nat × List UInt8} {F : List Value → Prop} {vs : List Value} (e : vs = .int .i64 (w.1 : Int) :: bc w.2) (hl : w.2.length = 128) (hF : F vs) : exs ([.int .i64] ++ List.replicate 128 (.int .u8)) F := by
  subst e
  refine ⟨(w.1 : Int), ?_⟩
  have := exs_u8 w.2 (fun vs => F (.int .i64 (w.1 : Int) :: vs)) hF
  rw [hl] at this
  exact this
theorem newB {h : Heap} {c : Array Value} {t : TypeId} {vs : List Value} {m : Nat} {K : Nat → Heap → Prop} (hm : vs.length = m) (hl : vs.length = c.size) (hv : ∀ v ∈ vs, oneCell v = true)
    (hk : ∀ b h', b = h.size → h'[b]? = some (.cells vs.toArray t (0, 0)) → Fr No h h' → K b h') : NewP h (.cells c t) fun b h0 => vs.length = m ∧ storeL ⟨b, 0, none⟩ vs 0 h0 (K b) := fun b h' e1 e2 => ⟨hm, new_full hl (List.all_eq_true.2 hv) hk b h' e1 e2⟩
end
end Go.Den
namespace Go.Proofs.YtaphjamdblgiiaaGreatDoor
open Go.Den
namespace Dsk
variable {h h' : Heap} {R : Value → Heap → Prop} {d n i : Nat} {X : Ft} {s : DS}
structure DkA (h : Heap) (d : Nat) (X : Ft) (n : Nat) (s : DS) (lp wp : Option Addr) (wc : Nat) (a b : Int) : Prop where
  blk : disk_Disk.atp h d ⟨lp, n, n, wp, s.W.length, wc, a, b⟩
  l : Own h lp n n 128 (s.L.flatMap senc)
  w : Own h wp s.W.length wc 129 (s.W.flatMap wenc)
  ok : s.ok n
  m : ∀ y, X.M y ↔ y = d ∨ inBlk lp y ∨ inBlk wp y
  dd : ∀ y, ¬ X.D y
  d1 : ¬ inBlk lp d
  d2 : ¬ inBlk wp d
  lw : ∀ y, inBlk lp y → ¬ inBlk wp y
def Dk (h : Heap) (d : Nat) (X : Ft) (n : Nat) (s : DS) : Prop := ∃ lp wp wc a b, DkA h d X n s lp wp wc a b
theorem Dk.lt (H : Dk h d X n s) (y : Nat) (hy : X.M y) : y < h.size := by
  obtain ⟨lp, wp, wc, a, b, A⟩ := H
  rcases (A.m y).1 hy with rfl | q | q
  · exact lt_of_get A.blk
  · exact A.l.blk_lt q
  · exact A.w.blk_lt q
theorem Dk.frame {Q : Nat → Prop} (H : Dk h d X n s) (f : Fr Q h h') (hq : ∀ y, X.M y → ¬ Q y) : Dk h' d X n s := by
  obtain ⟨lp, wp, wc, a, b, A⟩ := H
  exact ⟨lp, wp, wc, a, b, f.get A.blk (hq d ((A.m d).2 (.inl rfl))), A.l.frame f (fun y q => hq y ((A.m y).2 (.inr (.inl q)))), A.w.frame f (fun y q => hq y ((A.m y).2 (.inr (.inr q)))), A.ok, A.m, A.dd, A.d1, A.d2, A.lw⟩
theorem Dk.on (H : Dk h d X n s) (f : Fr No h h') : Dk h' d X n s := H.frame f (fun _ _ => id)
theorem Dk.ok (H : Dk h d X n s) : s.ok n := by obtain ⟨_, _, _, _, _, A⟩ := H; exact A.ok
theorem Dk.nd (H : Dk h d X n s) (y : Nat) : ¬ X.D y := by obtain ⟨_, _, _, _, _, A⟩ := H; exact A.dd y
theorem tS : SlTy Tryz.prog 78 209 128 128 (.agg (Array.replicate 128 (.int .u8 0))) := ⟨by kernel_rfl, by kernel_rfl, by simp [Value.cells]⟩
theorem tW : SlTy Tryz.prog 79 211 129 136 (.agg (((.int .i64 0 : Value) :: List.replicate 128 (.int .u8 0)).toArray)) := ⟨by kernel_rfl, by kernel_rfl, by simp [Value.cells]⟩
theorem uW : Tryz.prog.underlying 79 = some (.slice 211) := by kernel_rfl
theorem new_ok (h4 : 4 ≤ n) (h5 : n ≤ 4096) (hk : ∀ h' d X, Dk h' d X n (newD n) → UpF h X h' → R (.tuple #[pt d, .int .i64 0]) h') : Cl 9 #[.int .i64 (n : Int)] h R := by
  refine disk_New.walk (JoinP.of fun J hJ => ?_)
  rw [if_neg (by simp; omega), decide_eq_false (by omega)]
  subst hJ
  dsimp only
  rw [if_neg (by decide)]
  refine den_makeN tS rfl (by omega) n (by omega) (by omega) fun h1 p o f g => ⟨_, _, _, rfl, disk_Disk.boxp (x := ⟨p, n, n, none, 0, 0, 0, 0⟩) fun b h2 eb hb f2 => ?_⟩
  have np : ¬ inBlk p b := fun q => by have := o.blk_lt q; omega
  refine hk h2 b ⟨fun y => y = b ∨ inBlk p y, fun _ => False⟩ ⟨p, none, 0, 0, 0, hb, ?_, .nil rfl rfl rfl rfl, newD_ok n, fun y => ⟨fun q => q.imp id .inl, fun q => q.imp id fun q => q.resolve_right fun ⟨a, e, _⟩ => by cases e⟩, fun _ => id, np, (fun ⟨a, e, _⟩ => by cases e), (fun y _ ⟨a, e, _⟩ => by cases e)⟩ ⟨f.tt f2, fun y hy => ?_⟩
  · show Own h2 p n n 128 ((List.replicate n zeroS).flatMap senc)
    rw [flat_zero]
    exact o.frame f2 (fun _ _ => id)
  · have z := f.1
    rcases hy with (rfl | q) | q
    · omega
    · exact g y q
    · exact q.elim
theorem sectors_ok (H : Dk h d X n s) (hk : R (.int .i64 (n : Int)) h) : Cl 64 #[pt d] h R := by
  obtain ⟨lp, wp, wc, a, b, A⟩ := H
  exact disk_Disk_Sectors.walk ⟨_, _, _, cell_at A.blk rfl, hk⟩
theorem ask_ok (H : Dk h d X n s) (hi : i < n) (hk : R (.int .i64 0) h) : Cl 139 #[pt d, .int .i64 (i : Int)] h R := by
  refine disk_Disk_ask.walk (sectors_ok H ⟨_, rfl, ?_⟩)
  rw [if_neg (by simp; omega)]
  refine JoinP.of fun J hJ => ?_
  rw [if_neg (by simp)]
  obtain ⟨lp, wp, wc, a, b, A⟩ := H
  refine ⟨_, _, _, cell_at A.blk rfl, ?_⟩
  rw [decide_eq_false (by show ¬ ((i : Int) ≥ ((n : Nat) : Int)); omega)]
  subst hJ
  dsimp only
  rw [if_neg (by decide)]
  exact hk
theorem sec_at {L : List (List UInt8)} (ok : ∀ b ∈ L, b.length = 128) (hi : i < L.length) : ∃ b, L[i]? = some b ∧ L.getD i [] = b ∧ b.length = 128 ∧ senc b = bc b := by
  refine ⟨L[i], List.getElem?_eq_getElem hi, ?_, ok _ (List.getElem_mem _), ?_⟩
  · rw [List.getD_eq_getElem?_getD, List.getElem?_eq_getElem hi]; rfl
  · unfold senc; rw [fit_id (ok _ (List.getElem_mem _))]
theorem wait_at {W : List (Nat × List UInt8)} (ok : ∀ x ∈ W, x.1 < n ∧ x.2.length = 128) (hi : i < W.length) : ∃ w, W[i]? = some w ∧ w.1 < n ∧ w.2.length = 128 ∧ wenc w = .int .i64 (w.1 : Int) :: bc w.2 := by
  have h1 := ok _ (List.getElem_mem hi)
  exact ⟨W[i], List.getElem?_eq_getElem hi, h1.1, h1.2, by unfold wenc; rw [fit_id h1.2]⟩
theorem loadB_w {a : Addr} {w : Nat × List UInt8} {F : List Value → Prop} (e : wenc w = .int .i64 (w.1 : Int) :: bc w.2) (hl : w.2.length = 128) (hh : heldL a (wenc w) 0 h) (hF : F (wenc w)) : LoadB h a ([.int .i64] ++ List.replicate 128 (.int .u8)) F := by
  rw [e] at hh hF
  refine ⟨⟨_, hh.1, ?_⟩⟩
  have := loadL_bytes w.2 1 (fun vs => F (.int .i64 (w.1 : Int) :: vs)) hh.2 hF
  rw [hl] at this
  exact this
theorem wblk {g : Heap} {b1 : Nat} {w : Nat × List UInt8} {t : TypeId} (e : wenc w = .int .i64 (w.1 : Int) :: bc w.2) (hb : g[b1]? = some (.cells (wenc w).toArray t (0, 0))) : hcell g ⟨b1, 0, none⟩ = some (.int .i64 (w.1 : Int)) ∧ heldL ⟨b1, 1, none⟩ (bc w.2) 0 g := by
  rw [e] at hb
  refine ⟨cell_at hb rfl, heldL_blk hb fun j v hj => ?_⟩
  rw [Nat.add_comm]
  simpa using hj
theorem read_ok (H : Dk h d X n s) (hi : i < n) (hw : s.W.length ≤ 1000000) (hk : ∀ h' p, Own h' p 128 128 1 (bc (s.get i)) → (∀ y, inBlk p y → h.size ≤ y) → Fr No h h' → R (.tuple #[.slice p 128 128, .int .i64 0]) h') :
    Cl 177 #[pt d, .int .i64 (i : Int)] h R := by
  refine disk_Disk_Read.walk (ask_ok H hi ⟨_, rfl, ?_⟩)
  rw [if_neg (by decide)]
  obtain ⟨lp, wp, wc, a, b, A⟩ := H
  obtain ⟨lb, lo, rfl⟩ := A.l.addr (by omega)
  obtain ⟨sec, e1, e2, e3, e4⟩ := sec_at A.ok.l (i := i) (by rw [A.ok.n]; exact hi)
  have hh := A.l.heldAt senc_len e1
  rw [e4] at hh
  refine ⟨_, n, n, cell_at A.blk rfl, ⟨by omega, by omega⟩, onSome_some.2 (loadB_bc e3 (by rw [Int.toNat_natCast]; exact hh) (newB (by rw [bc_len, e3]) (by rw [bc_len, e3]; simp) (bc_one _) fun b1 h1 eb hb f1 => ⟨wp, s.W.length, wc, cell_at (f1.get A.blk id) rfl, ?_⟩))⟩
  refine ⟨fun t g => ∃ j : Nat, t = (j : Int) ∧ j ≤ s.W.length ∧ (lastW i (s.W.take j) sec).length = 128 ∧ g[b1]? = some (.cells (bc (lastW i (s.W.take j) sec)).toArray 209 (0, 0)) ∧ Fr No h g, fun t _ => s.W.length - t.toNat, ⟨0, rfl, Nat.zero_le _, e3, hb, f1⟩, ?_⟩
  rintro _ g ⟨j, rfl, hj, hl, hg, fg⟩
  by_cases hlt : j < s.W.length
  · rw [if_pos (decide_eq_true (by omega))]
    refine JoinP.of fun J hJ => ⟨⟨by omega, by omega⟩, ?_⟩
    obtain ⟨w, w1, w2, w3, w4⟩ := wait_at A.ok.w hlt
    have ow := A.w.frame fg (fun _ _ => id)
    obtain ⟨wb, wo, rfl⟩ := ow.addr (by omega)
    have hw' := ow.heldAt wenc_len w1
    refine onSome_some.2 (loadB_w w4 w3 (by rw [Int.toNat_natCast]; exact hw') (newB (wenc_len w) (by rw [wenc_len]; simp) (wenc_one w) fun b2 h2 eb2 hb2 f2 => ?_))
    obtain ⟨c0, c1⟩ := wblk w4 hb2
    have hg2 := f2.get hg id
    have fin : ∀ g', g'[b1]? = some (.cells (bc (lastW i (s.W.take (j + 1)) sec)).toArray 209 (0, 0)) → (lastW i (s.W.take (j + 1)) sec).length = 128 → Fr No h g' → J g' := fun g' q1 q2 q3 => by
      subst hJ
      dsimp only
      rw [wrap_id (by omega) (by omega)]
      exact ⟨⟨j + 1, rfl, by omega, q2, q1, q3⟩, by show s.W.length - Int.toNat ((j : Int) + 1) < s.W.length - Int.toNat (j : Int); omega⟩
    have el : lastW i (s.W.take (j + 1)) sec = if w.1 = i then w.2 else lastW i (s.W.take j) sec := by rw [List.take_add_one, w1]; exact lastW_snoc _ _
    rw [el] at fin
    refine ⟨_, c0, JoinP.of fun J1 hJ1 => ?_⟩
    have e : J1 = J := hJ1
    subst e
    by_cases he : w.1 = i
    · rw [if_pos he] at fin
      rw [if_pos (beq_iff_eq.2 (by omega))]
      refine loadB_bc w3 c1 ⟨by rw [bc_len, w3], storeL_full hg2 (by rw [bc_len, w3]; simp [bc_len, hl]) (List.all_eq_true.2 (bc_one _)) fun h3 d1 d2 d3 => ?_⟩
      exact fin h3 d1 w3 ((fg.tt f2).fresh (Fr.of_eq (S := fun y => y = b1) d2 d3) (fun y e => by omega))
    · rw [if_neg he] at fin
      rw [if_neg (fun e => he (by have := beq_iff_eq.1 e; omega))]
      exact fin h2 hg2 hl (fg.tt f2)
  rw [if_neg (fun e => hlt (by have := of_decide_eq_true e; omega))]
  obtain rfl : j = s.W.length := by omega
  rw [List.take_length] at hl hg
  rw [slBase_zero]
  have eg : s.get i = lastW i s.W sec := by unfold DS.get; rw [e2]
  refine hk g _ (.row b1 0 _ _ rfl hg (Nat.le_refl _) (by simp [bc_len, hl]) (by rw [bc_len, eg, hl]) (fun k v hv => ?_)) (fun y ⟨a, ea, e⟩ => ?_) fg
  · rw [eg] at hv; rw [Nat.zero_add]; simpa using hv
  · cases ea; exact e ▸ Nat.le_of_eq eb.symm
theorem write_ok {b : List UInt8} {p : Option Addr} {c l : Nat} (H : Dk h d X n s) (hi : i < n) (row : Row h p (bc b)) (hl : l = b.length) (hb : b.length = 128) (hw : s.W.length ≤ 100000) (ap : ∀ y, inBlk p y → ¬ X.M y)
    (hk : ∀ h' X', Dk h' d X' n (s.put i b) → StepF X h X' h' → R (.int .i64 0) h') : Cl 98 #[pt d, .int .i64 (i : Int), .slice p l c] h R := by
  subst hl
  refine disk_Disk_Write.walk (ask_ok H hi ⟨_, rfl, ?_⟩)
  rw [if_neg (by decide), if_neg (by simp [hb])]
  obtain ⟨lp, wp, wc, x, y, A⟩ := H
  obtain ⟨a, rfl⟩ := row.some (by cases b with | nil => cases hb | cons u v => simp [bc])
  have rh : heldL a (bc b) 0 h := by
    rcases row with e | ⟨a', e, q⟩
    · cases b with | nil => cases hb | cons u v => cases e
    · cases e; exact q
  have ew : wenc (i, b) = .int .i64 (i : Int) :: bc b := by unfold wenc; rw [fit_id hb]
  refine ⟨wp, s.W.length, wc, cell_at A.blk rfl, by omega, onSome_some.2 (loadB_bc hb rh (exs_w (w := (i, b)) ew hb ⟨?_, ?_⟩))⟩
  · rw [ew]
    exact buildV_pair (fs := fsOf Tryz.prog 211) (f0 := (((fsOf Tryz.prog 211)[0]?).get (by kernel_rfl))) (f1 := (((fsOf Tryz.prog 211)[1]?).get (by kernel_rfl))) (i0 := (Tryz.prog.info? 3).get (by kernel_rfl)) (i1 := (Tryz.prog.info? 209).get (by kernel_rfl)) (it := (Tryz.prog.info? 211).get (by kernel_rfl)) (z := (((Tryz.prog.info? 211).bind (·.zero)).get (by kernel_rfl))) (by kernel_rfl) (by kernel_rfl) (by kernel_rfl) (by kernel_rfl) (by kernel_rfl) (by kernel_rfl) (by kernel_rfl) (by rw [bc_len, hb]; kernel_rfl) (by kernel_rfl) (by kernel_rfl) (by rw [bc_len, hb]; kernel_rfl) rfl
  refine den_buildOne tW (by omega) (by omega) (by simp [Value.cells, wenc_len]) fun b1 h1 eb hb1 f1 => ⟨_, _, _, rfl, ?_⟩
  refine ⟨f1.kp, den_append tW uW (A.w.frame f1 (fun _ _ => id)) (ds := wenc (i, b)) (.inr ⟨_, rfl, heldL_blk hb1 (fun j v hj => by rw [Nat.zero_add]; simpa [Value.cells] using hj)⟩) (by rw [wenc_len]) (wenc_one _) (by omega) (by omega) fun p' c' h2 o2 _ f2 g2 => ⟨_, _, _, rfl, ?_⟩⟩
  have z1 := f1.1
  have z2 := f2.1
  have nd : ∀ y, X.M y → y < h.size := fun y hy => Dk.lt ⟨lp, wp, wc, _, _, A⟩ y hy
  have hd := nd d ((A.m d).2 (.inl rfl))
  have b2 := f2.get (f1.get A.blk id) A.d2
  refine ⟨f2.kps (fun q hq u e hx => ?_), storeP_blk b2 (by show 1 < 4; omega) fun h3 d1 d2 d3 => ?_⟩
  · rw [List.mem_singleton] at hq
    subst hq
    cases e
    exact ap _ ⟨_, rfl, rfl⟩ ((A.m _).2 (.inr (.inr hx)))
  have f3 : Fr (fun y => y = d) h2 h3 := Fr.of_eq d2 d3
  have np : ∀ y, inBlk p' y → y ≠ d := fun y hy e => by
    rcases g2 y hy with q | q
    · exact A.d2 (e ▸ q)
    · omega
  refine add_ok (n := x) (δ := 1) (cell_at (show h3[d]? = some (.cells _ _ _) from d1) rfl) (storeP_blk d1 (by show 2 < 4; omega) fun h4 q1 q2 q3 => ⟨_, rfl, ?_⟩)
  have f4 : Fr (fun y => y = d) h2 h4 := f3.tt (Fr.of_eq q2 q3)
  have ll : ∀ y, inBlk lp y → y < h.size := fun y hy => A.l.blk_lt hy
  refine hk h4 ⟨fun y => y = d ∨ inBlk lp y ∨ inBlk p' y, fun _ => False⟩ ⟨lp, p', c', IntKind.wrap .i64 (x + 1), y, ?_, ?_, ?_, A.ok.put hi hb, fun y => Iff.rfl, fun _ => id, A.d1, fun q => np d q rfl, fun y q1 q2 => ?_⟩ ⟨?_, ?_, fun y hy => hy.elim, fun y hy => (A.dd y hy).elim⟩
  · show h4[d]? = some (.cells (disk_Disk.S.arr ⟨lp, n, n, p', (s.W ++ [(i, b)]).length, c', IntKind.wrap .i64 (x + 1), y⟩) _ _)
    rw [List.length_append]
    exact q1
  · refine ((A.l.frame f1 (fun _ _ => id)).frame f2 (fun y hy hq => A.lw y hy hq)).frame f4 (fun y hy e => A.d1 (e ▸ hy))
  · show Own h4 p' (s.W ++ [(i, b)]).length c' 129 ((s.W ++ [(i, b)]).flatMap wenc)
    rw [List.length_append, List.flatMap_append]
    have e : [(i, b)].flatMap wenc = wenc (i, b) := by simp
    rw [e]
    exact o2.frame f4 (fun y hy e => np y hy e)
  · rcases g2 y q2 with q | q
    · exact A.lw y q1 q
    · have := ll y q1; omega
  · refine (Fr.no f1 f2).trans f4 (fun y _ hy => (A.m y).2 (.inr (.inr hy))) (fun y _ hy => (A.m y).2 (.inl hy))
  · intro y hy
    rcases hy with q | q | q
    · exact .inl ((A.m y).2 (.inl q))
    · exact .inl ((A.m y).2 (.inr (.inl q)))
    · rcases g2 y q with q | q
      · exact .inl ((A.m y).2 (.inr (.inr q)))
      · exact .inr (by omega)
theorem DkA.fr {Q : Nat → Prop} {lp wp : Option Addr} {wc : Nat} {a b : Int} (A : DkA h d X n s lp wp wc a b) (f : Fr Q h h') (hq : ∀ y, X.M y → ¬ Q y) : DkA h' d X n s lp wp wc a b :=
  ⟨f.get A.blk (hq d ((A.m d).2 (.inl rfl))), A.l.frame f (fun y q => hq y ((A.m y).2 (.inr (.inl q)))), A.w.frame f (fun y q => hq y ((A.m y).2 (.inr (.inr q)))), A.ok, A.m, A.dd, A.d1, A.d2, A.lw⟩
theorem dsync_ok (H : Dk h d X n s) (hn : 0 < n) (hw : s.W.length ≤ 1000000) (hk : ∀ h' X', Dk h' d X' n s.sync → StepF X h X' h' → R (.int .i64 0) h') : Cl 67 #[pt d] h R := by
  refine disk_Disk_Sync.walk (sectors_ok H ⟨_, rfl, ?_⟩)
  rw [if_neg (by simp; omega)]
  obtain ⟨lp, wp, wc, x, y, A⟩ := H
  refine ⟨wp, s.W.length, wc, cell_at A.blk rfl, ?_⟩
  let fo : Nat → List (List UInt8) := fun j => (s.W.take j).foldl (fun L w => L.set w.1 w.2) s.L
  have A0 : DkA h d X n ⟨fo 0, s.W⟩ lp wp wc x y := A
  refine ⟨fun t g => ∃ j : Nat, t = (j : Int) ∧ j ≤ s.W.length ∧ DkA g d X n ⟨fo j, s.W⟩ lp wp wc x y ∧ Fr X.M h g, fun t _ => s.W.length - t.toNat, ⟨0, rfl, Nat.zero_le _, A0, Fr.refl _ _⟩, ?_⟩
  rintro _ g ⟨j, rfl, hj, B, fg⟩
  have zlt : ∀ z, X.M z → z < g.size := fun z hz => Dk.lt ⟨lp, wp, wc, _, _, B⟩ z hz
  by_cases hlt : j < s.W.length
  · rw [if_pos (decide_eq_true (by omega))]
    refine ⟨⟨by omega, by omega⟩, ?_⟩
    obtain ⟨w, w1, w2, w3, w4⟩ := wait_at A.ok.w hlt
    have ow : Own g wp s.W.length wc 129 (s.W.flatMap wenc) := B.w
    obtain ⟨wb, wo, rfl⟩ := ow.addr (by omega)
    have hw' := ow.heldAt wenc_len w1
    refine onSome_some.2 (loadB_w w4 w3 (by rw [Int.toNat_natCast]; exact hw') (newB (wenc_len w) (by rw [wenc_len]; simp) (wenc_one w) fun b2 h2 eb2 hb2 f2 => ?_))
    obtain ⟨c0, c1⟩ := wblk w4 hb2
    have B2 := B.fr f2 (fun _ _ => id)
    have ol : Own h2 lp n n 128 ((fo j).flatMap senc) := B2.l
    have ln : (fo j).length = n := B2.ok.n
    obtain ⟨lb, lo, rfl⟩ := ol.addr hn
    refine ⟨_, n, n, cell_at B2.blk rfl, _, c0, loadB_bc w3 c1 ⟨⟨by omega, by omega⟩, onSome_some.2 ⟨by rw [bc_len, w3], ?_⟩⟩⟩
    have es : senc w.2 = bc w.2 := by unfold senc; rw [fit_id w3]
    rw [← es, Int.toNat_natCast]
    refine ol.storeRow senc_len (fun v hv => by rw [es] at hv; exact bc_one _ v hv) (by omega) fun h3 o3 s3 q3 => ?_
    have f3 : Fr (inBlk (some ⟨lb, lo, none⟩)) h2 h3 := Fr.of_eq s3 q3
    have ef : fo (j + 1) = (fo j).set w.1 w.2 := by
      show (s.W.take (j + 1)).foldl _ _ = _
      rw [List.take_add_one, w1, List.foldl_append]; rfl
    rw [wrap_id (by omega) (by omega)]
    refine ⟨⟨j + 1, rfl, by omega, ⟨f3.get B2.blk B2.d1, ?_, B2.w.frame f3 (fun z q1 q2 => B2.lw z q2 q1), ⟨?_, fun b hb => ?_, A.ok.w⟩, B2.m, B2.dd, B2.d1, B2.d2, B2.lw⟩, (fg.on f2).trans f3 (fun z _ q => q) (fun z _ q => (B2.m z).2 (.inr (.inl q)))⟩, by show s.W.length - Int.toNat ((j : Int) + 1) < s.W.length - Int.toNat (j : Int); omega⟩
    · show Own h3 _ n n 128 ((fo (j + 1)).flatMap senc)
      rw [ef]; exact o3
    · show (fo (j + 1)).length = n
      rw [ef, List.length_set]; exact ln
    · have hb : b ∈ fo (j + 1) := hb
      rw [ef] at hb
      rcases List.mem_or_eq_of_mem_set hb with q | q
      · exact B2.ok.l b q
      · rw [q]; exact w3
  rw [if_neg (fun e => hlt (by have := of_decide_eq_true e; omega))]
  obtain rfl : j = s.W.length := by omega
  have e1 : fo s.W.length = s.sync.L := by show (s.W.take s.W.length).foldl _ _ = _; rw [List.take_length]; rfl
  rw [e1] at B
  refine storeP_blk B.blk (by show 1 < 4; omega) fun h3 d1 d2 d3 => ?_
  refine add_ok (n := y) (δ := 1) (cell_at (show h3[d]? = some (.cells _ _ _) from d1) rfl) (storeP_blk d1 (by show 3 < 4; omega) fun h4 q1 q2 q3 => ⟨_, rfl, ?_⟩)
  have f4 : Fr (fun y => y = d) g h4 := (Fr.of_eq (S := fun y => y = d) d2 d3).tt (Fr.of_eq q2 q3)
  have np : ∀ y, ¬ inBlk none y := fun y ⟨a, e, _⟩ => by cases e
  refine hk h4 ⟨fun y => y = d ∨ inBlk lp y ∨ inBlk none y, fun _ => False⟩ ⟨lp, none, 0, x, IntKind.wrap .i64 (y + 1), q1, B.l.frame f4 (fun z q e => B.d1 (e ▸ q)), .nil rfl rfl rfl rfl, A.ok.sync, fun y => Iff.rfl, fun _ => id, B.d1, np d, fun y _ => np y⟩ ⟨?_, fun z q => .inl ?_, fun z q => q.elim, fun z q => (A.dd z q).elim⟩
  · exact fg.trans f4 (fun z _ q => q) (fun z _ q => (A.m z).2 (.inl q))
  · rcases q with q | q | q
    · exact (A.m z).2 (.inl q)
    · exact (A.m z).2 (.inr (.inl q))
    · exact (np z q).elim
end Dsk
end Go.Proofs.YtaphjamdblgiiaaGreatDoor
namespace Go.Proofs.YtaphjamdblgiiaaGreatDoor
open Go.Den
open IntKind (wrap)
open Int (toNat)
section
variable {h:Heap} {R:TyP}
variable {w b_l b_c r:Nat} {n:Int} {b_p:TyO}
theorem slices_Clone_s_byte_byte.walk {s_p : Option Addr} {s_l s_c : Nat} (hv :
 ite s_p.isNone
 (  R (.slice none 0 0) h)
 (  NewP h (.cells #[] 5) fun b h_1 =>
 Dsz (Builtin.append_ #[26, 26] 26 #[.slice (some ⟨b, 0, none⟩) 0 0, .slice s_p s_l s_c]) h_1 fun v h_2 =>
 ∃ t7_p t7_l t7_c, v = .slice t7_p t7_l t7_c ∧
 R (.slice t7_p t7_l t7_c) h_2)) : Cl 57 #[.slice s_p s_l s_c] h R :=
 callsN [] hv
theorem fields_New.walk  (hv :
 NewP h (.cells #[.bool true, .slice none 0 0] 182) fun b h_1 =>
 R (.pointer (some ⟨b, 0, none⟩)) h_1) : Cl 52 #[] h R :=
 callsN [] hv
theorem fields_Writer_Num.walk (hv :
 JoinP (fun (t13 : Bool) h_1 =>
 ite t13
 (  R (.pointer (some ⟨w, 0, none⟩)) h_1)
 (  ∃ (I : Int → Heap → Prop) (mu : Int → Heap → Nat), I n h_1 ∧ ∀ n_1 h_2, I n_1 h_2 →
 ite (decide (n_1 > 127))
 (  ∃ t21_p t21_l t21_c, hcell h_2 ⟨w, 1, none⟩ = some (.slice t21_p t21_l t21_c) ∧
 NewP h_2 (.cells #[.int .u8 (IntKind.wrap .u8 ((BitVec.ofInt (IntKind.bits .u8) (IntKind.wrap .u8 n_1) ||| BitVec.ofInt (IntKind.bits .u8) 128).toNat : Int))] 5) fun b h_3 =>
 Dsz (Builtin.append_ #[26, 26] 26 #[.slice t21_p t21_l t21_c, .slice (some ⟨b, 0, none⟩) 1 1]) h_3 fun v h_4 =>
 ∃ t26_p t26_l t26_c, v = .slice t26_p t26_l t26_c ∧
 StoreP h_4 ⟨w, 1, none⟩ (.slice t26_p t26_l t26_c) fun h_5 =>
 (I (Int.fdiv n_1 (2 ^ min (Int.toNat 7) (IntKind.bits .u64))) h_5 ∧ mu (Int.fdiv n_1 (2 ^ min (Int.toNat 7) (IntKind.bits .u64))) h_5 < mu n_1 h_2))
 (  ∃ t35_p t35_l t35_c, hcell h_2 ⟨w, 1, none⟩ = some (.slice t35_p t35_l t35_c) ∧
 NewP h_2 (.cells #[.int .u8 (IntKind.wrap .u8 n_1)] 5) fun b_1 h_6 =>
 Dsz (Builtin.append_ #[26, 26] 26 #[.slice t35_p t35_l t35_c, .slice (some ⟨b_1, 0, none⟩) 1 1]) h_6 fun v_1 h_7 =>
 ∃ t39_p t39_l t39_c, v_1 = .slice t39_p t39_l t39_c ∧
 StoreP h_7 ⟨w, 1, none⟩ (.slice t39_p t39_l t39_c) fun h_8 =>
 R (.pointer (some ⟨w, 0, none⟩)) h_8)))
 (fun J =>
 ∃ t11, hcell h ⟨w, 0, none⟩ = some (.bool t11) ∧
 J (!t11) h)) : Cl 53 #[.pointer (some ⟨w, 0, none⟩), .int .u64 n] h R :=
 callsN [(4, .join [(13, sB)]), (12, .loop [(1, sU)])] hv
theorem fields_Writer_Int.walk (hv :
 Cl 53 #[.pointer (some ⟨w, 0, none⟩), .int .u64 (IntKind.wrap .u64 (if 0 > n then 0 else n))] h fun v h_1 =>
 ∃ t9, v = .pointer t9 ∧
 R (.pointer t9) h_1) : Cl 54 #[.pointer (some ⟨w, 0, none⟩), .int .i64 n] h R :=
 callsN [] hv
theorem fields_Writer_Text.walk (hv :
 Cl 53 #[.pointer (some ⟨w, 0, none⟩), .int .u64 (IntKind.wrap .u64 ((b_l : Nat) : Int))] h fun v h_1 =>
 ∃ t9, v = .pointer t9 ∧
 JoinP (fun (t17 : Bool) h_2 =>
 JoinP (fun h_3 =>
 R (.pointer (some ⟨w, 0, none⟩)) h_3)
 (fun J_1 =>
 ite t17
 (  ∃ t22_p t22_l t22_c, hcell h_2 ⟨w, 1, none⟩ = some (.slice t22_p t22_l t22_c) ∧
 Dsz (Builtin.append_ #[26, 26] 26 #[.slice t22_p t22_l t22_c, .slice b_p b_l b_c]) h_2 fun v_1 h_4 =>
 ∃ t24_p t24_l t24_c, v_1 = .slice t24_p t24_l t24_c ∧
 StoreP h_4 ⟨w, 1, none⟩ (.slice t24_p t24_l t24_c) fun h_5 =>
 J_1 h_5)
 (  J_1 h_2)))
 (fun J =>
 ∃ t16, hcell h_1 ⟨w, 0, none⟩ = some (.bool t16) ∧
 J t16 h_1)) : Cl 55 #[.pointer (some ⟨w, 0, none⟩), .slice b_p b_l b_c] h R :=
 callsN [(6, .join [(17, sB)]), (7, .join [])] hv
theorem fields_Writer_Bytes.walk (hv :
 ∃ t8_p t8_l t8_c, hcell h ⟨w, 1, none⟩ = some (.slice t8_p t8_l t8_c) ∧
 Cl 57 #[.slice t8_p t8_l t8_c] h fun v h_1 =>
 ∃ t9_p t9_l t9_c, v = .slice t9_p t9_l t9_c ∧
 R (.slice t9_p t9_l t9_c) h_1) : Cl 56 #[.pointer (some ⟨w, 0, none⟩)] h R :=
 callsN [] hv
theorem fields_fault_fail.walk {f : Nat} {e : Int} (hv :
 ∃ t7, hcell h ⟨f, 0, none⟩ = some (.int .i64 t7) ∧
 ite (t7 == 0)
 (  StoreP h ⟨f, 0, none⟩ (.int .i64 e) fun h_1 =>
 R (.tuple #[]) h_1)
 (  R (.tuple #[]) h)) : Cl 103 #[.pointer (some ⟨f, 0, none⟩), .int .i64 e] h R :=
 callsN [] hv
theorem fields_Read.walk (hv :
 Cl 57 #[.slice b_p b_l b_c] h fun v h_1 =>
 ∃ t4_p t4_l t4_c, v = .slice t4_p t4_l t4_c ∧
 NewP h_1 (.cells #[.int .i64 0, .bool true, .slice t4_p t4_l t4_c] 216) fun b h_2 =>
 R (.pointer (some ⟨b, 0, none⟩)) h_2) : Cl 74 #[.slice b_p b_l b_c] h R :=
 callsN [] hv
theorem fields_Reader_fine.walk (hv :
 ∃ t9, hcell h ⟨r, 1, none⟩ = some (.bool t9) ∧
 ite t9
 (  ∃ t16, hcell h ⟨r, 0, none⟩ = some (.int .i64 t16) ∧
 R (.bool (t16 == 0)) h)
 (  R (.bool false) h)) : Cl 102 #[.pointer (some ⟨r, 0, none⟩)] h R :=
 callsN [] hv
theorem fields_Reader_Num.walk (hv :
 JoinP (fun h_1 =>
 R (.int .u64 0) h_1)
 (fun J =>
 ∃ (I : Int → Int → Heap → Prop) (mu : Int → Int → Heap → Nat), I 0 0 h ∧ ∀ n i h_2, I n i h_2 →
 Cl 102 #[.pointer (some ⟨r, 0, none⟩)] h_2 fun v h_3 =>
 ∃ t7, v = .bool t7 ∧
 ite t7
 (  ∃ t13_p t13_l t13_c, hcell h_3 ⟨r, 2, none⟩ = some (.slice t13_p t13_l t13_c) ∧
 ite (((t13_l : Nat) : Int) == 0)
 (  Cl 103 #[.pointer (some ⟨r, 0, none⟩), .int .i64 8] h_3 fun v_1 h_4 =>
 v_1 = .tuple #[] ∧
 J h_4)
 (  ∃ t23_p t23_l t23_c, hcell h_3 ⟨r, 2, none⟩ = some (.slice t23_p t23_l t23_c) ∧
 ((0 : Int) ≤ 0 ∧ 0 < ((t23_l : Nat) : Int)) ∧
 onSome t23_p fun a =>
 ∃ t25, hcell h_3 (a.add (Int.toNat 0 * 1)) = some (.int .u8 t25) ∧
 ∃ t30_p t30_l t30_c, hcell h_3 ⟨r, 2, none⟩ = some (.slice t30_p t30_l t30_c) ∧
 ((0 : Int) ≤ 1 ∧ 1 ≤ ((t30_l : Nat) : Int)) ∧
 StoreP h_3 ⟨r, 2, none⟩ (.slice (slBase t30_p t30_c (Int.toNat 1) 1) (t30_l - (Int.toNat 1)) (t30_c - (Int.toNat 1))) fun h_5 =>
 JoinP (fun (t52 : Bool) h_6 =>
 ite t52
 (  Cl 103 #[.pointer (some ⟨r, 0, none⟩), .int .i64 3] h_6 fun v_2 h_7 =>
 v_2 = .tuple #[] ∧
 J h_7)
 (  if IntKind.wrap .i64 (7 * i) < 0 then False else
 ite ((IntKind.wrap .u8 ((BitVec.ofInt (IntKind.bits .u8) t25 &&& BitVec.ofInt (IntKind.bits .u8) 128).toNat : Int)) == 0)
 (  R (.int .u64 (IntKind.wrap .u64 ((BitVec.ofInt (IntKind.bits .u64) n ||| BitVec.ofInt (IntKind.bits .u64) (IntKind.wrap .u64 ((IntKind.wrap .u64 (IntKind.wrap .u8 ((BitVec.ofInt (IntKind.bits .u8) t25 &&& BitVec.ofInt (IntKind.bits .u8) 127).toNat : Int))) * 2 ^ min (Int.toNat (IntKind.wrap .i64 (7 * i))) (IntKind.bits .u64)))).toNat : Int))) h_6)
 (  (I (IntKind.wrap .u64 ((BitVec.ofInt (IntKind.bits .u64) n ||| BitVec.ofInt (IntKind.bits .u64) (IntKind.wrap .u64 ((IntKind.wrap .u64 (IntKind.wrap .u8 ((BitVec.ofInt (IntKind.bits .u8) t25 &&& BitVec.ofInt (IntKind.bits .u8) 127).toNat : Int))) * 2 ^ min (Int.toNat (IntKind.wrap .i64 (7 * i))) (IntKind.bits .u64)))).toNat : Int)) (IntKind.wrap .i64 (i + 1)) h_6 ∧ mu (IntKind.wrap .u64 ((BitVec.ofInt (IntKind.bits .u64) n ||| BitVec.ofInt (IntKind.bits .u64) (IntKind.wrap .u64 ((IntKind.wrap .u64 (IntKind.wrap .u8 ((BitVec.ofInt (IntKind.bits .u8) t25 &&& BitVec.ofInt (IntKind.bits .u8) 127).toNat : Int))) * 2 ^ min (Int.toNat (IntKind.wrap .i64 (7 * i))) (IntKind.bits .u64)))).toNat : Int)) (IntKind.wrap .i64 (i + 1)) h_6 < mu n i h_2))))
 (fun J_1 =>
 ite (i == 10)
 (  J_1 true h_5)
 (  ite ((IntKind.wrap .i64 (i * 7)) == 63)
 (  ite (decide (t25 > 1))
 (  J_1 true h_5)
 (  ite (t25 == 0)
 (  J_1 (decide (i > 0)) h_5)
 (  J_1 false h_5)))
 (  ite (t25 == 0)
 (  J_1 (decide (i > 0)) h_5)
 (  J_1 false h_5))))))
 (  J h_3))) : Cl 75 #[.pointer (some ⟨r, 0, none⟩)] h R :=
 callsN [(7, .join []), (8, .loop [(3, sU), (4, sI)]), (31, .join [(52, sB)])] hv
theorem fields_Reader_atMost.walk {top : Int} (hv :
 Cl 75 #[.pointer (some ⟨r, 0, none⟩)] h fun v h_1 =>
 ∃ t7, v = .int .u64 t7 ∧
 ite (decide (t7 > top))
 (  Cl 103 #[.pointer (some ⟨r, 0, none⟩), .int .i64 3] h_1 fun v_1 h_2 =>
 v_1 = .tuple #[] ∧
 R (.int .u64 0) h_2)
 (  R (.int .u64 t7) h_1)) : Cl 104 #[.pointer (some ⟨r, 0, none⟩), .int .u64 top] h R :=
 callsN [] hv
theorem fields_Reader_Int.walk (hv :
 Cl 104 #[.pointer (some ⟨r, 0, none⟩), .int .u64 1099511627776] h fun v h_1 =>
 ∃ t4, v = .int .u64 t4 ∧
 R (.int .i64 (IntKind.wrap .i64 t4)) h_1) : Cl 76 #[.pointer (some ⟨r, 0, none⟩)] h R :=
 callsN [] hv
theorem fields_Reader_Text.walk (hv :
 Cl 75 #[.pointer (some ⟨r, 0, none⟩)] h fun v h_1 =>
 ∃ t6, v = .int .u64 t6 ∧
 Cl 102 #[.pointer (some ⟨r, 0, none⟩)] h_1 fun v_1 h_2 =>
 ∃ t8, v_1 = .bool t8 ∧
 ite (!t8)
 (  R (.slice none 0 0) h_2)
 (  ∃ t14_p t14_l t14_c, hcell h_2 ⟨r, 2, none⟩ = some (.slice t14_p t14_l t14_c) ∧
 ite (decide (t6 > (IntKind.wrap .u64 ((t14_l : Nat) : Int))))
 (  Cl 103 #[.pointer (some ⟨r, 0, none⟩), .int .i64 8] h_2 fun v_2 h_3 =>
 v_2 = .tuple #[] ∧
 R (.slice none 0 0) h_3)
 (  ∃ t25_p t25_l t25_c, hcell h_2 ⟨r, 2, none⟩ = some (.slice t25_p t25_l t25_c) ∧
 ((0 : Int) ≤ t6 ∧ t6 ≤ ((t25_c : Nat) : Int)) ∧
 Cl 57 #[.slice (slBase t25_p t25_c 0 1) ((Int.toNat t6) - 0) (t25_c - 0)] h_2 fun v_3 h_4 =>
 ∃ t28_p t28_l t28_c, v_3 = .slice t28_p t28_l t28_c ∧
 ∃ t33_p t33_l t33_c, hcell h_4 ⟨r, 2, none⟩ = some (.slice t33_p t33_l t33_c) ∧
 ((0 : Int) ≤ t6 ∧ t6 ≤ ((t33_l : Nat) : Int)) ∧
 StoreP h_4 ⟨r, 2, none⟩ (.slice (slBase t33_p t33_c (Int.toNat t6) 1) (t33_l - (Int.toNat t6)) (t33_c - (Int.toNat t6))) fun h_5 =>
 R (.slice t28_p t28_l t28_c) h_5))) : Cl 77 #[.pointer (some ⟨r, 0, none⟩)] h R :=
 callsN [] hv
theorem fields_Reader_End.walk (hv :
 JoinP (fun (t3 : Bool) h_1 =>
 ite t3
 (  R (.int .i64 6) h_1)
 (  ∃ t18, hcell h_1 ⟨r, 0, none⟩ = some (.int .i64 t18) ∧
 ite (t18 != 0)
 (  ∃ t24, hcell h_1 ⟨r, 0, none⟩ = some (.int .i64 t24) ∧
 R (.int .i64 t24) h_1)
 (  ∃ t29_p t29_l t29_c, hcell h_1 ⟨r, 2, none⟩ = some (.slice t29_p t29_l t29_c) ∧
 ite (decide (((t29_l : Nat) : Int) > 0))
 (  R (.int .i64 2) h_1)
 (  R (.int .i64 0) h_1))))
 (fun J =>
 ∃ t10, hcell h ⟨r, 1, none⟩ = some (.bool t10) ∧
 J (!t10) h)) : Cl 78 #[.pointer (some ⟨r, 0, none⟩)] h R :=
 callsN [(5, .join [(3, sB)])] hv

end
section
namespace Fld
variable {h:Heap} {bs:TyL} {R:TyP}
variable {p:TyO} {n c:Nat}
theorem tU : SlTy Tryz.prog 26 5 1 1 (.int .u8 0) := ⟨by kernel_rfl, by kernel_rfl, rfl⟩
theorem uU : Tryz.prog.underlying 26 = some (.slice 5) := by kernel_rfl
theorem u8 : Tryz.prog.underlying 5 = some (.int .u8) := by kernel_rfl
theorem uS : Tryz.prog.underlying 9 = some .string := by kernel_rfl
theorem conv (hr : Row h p (bc bs)) (hn : n = bs.length) : ConvV Tryz.prog 26 9 (.slice p n c) h (str bs) := conv_str uU u8 uS hr hn
theorem clone_ok (hr : Row h p (bc bs)) (hn : n = bs.length) (hl : bs.length ≤ 70368744177664)
    (hk : ∀ p' c' h', Own h' p' bs.length c' 1 (bc bs) → Fr No h h' → (∀ x, inBlk p' x → h.size ≤ x) → R (.slice p' bs.length c') h') :
    Cl 57 #[.slice p n c] h R := by
  subst hn
  exact slices_Clone_s_byte_byte.walk (clone_all tU uU (by decide) hr (by rw [bc_len, Nat.mul_one]) (bc_one bs) (by omega) (by omega) hk)
theorem lit_ok {cs : Array Value} {K : Option Addr → Nat → Nat → Heap → Prop} (hc : cs = (bc bs).toArray) (hk : ∀ h', Row h' (some ⟨h.size, 0, none⟩) (bc bs) → Fr No h h' → K (some ⟨h.size, 0, none⟩) n n h') :
    NewP h (.cells cs 5) fun b h_4 => denSem Tryz.prog (convert 26 26 (.slice (some ⟨b, 0, none⟩) n n)) h_4 fun v h_5 => ∃ (p : Option Addr) (l c : Nat), v = .slice p l c ∧ K p l c h_5 := by
  subst hc
  refine newP_of (den_lit uU u8 (a := ⟨h.size, 0, none⟩) push_new fun h4 fz4 hb4 sz4 ot4 => ⟨_, _, _, rfl, ?_⟩)
  refine hk h4 (.inr ⟨_, rfl, heldL_blk hb4 (fun j v hj => by rw [Nat.zero_add]; simpa using hj)⟩) ⟨by rw [sz4]; simp, fun c hc _ => by rw [ot4 c (by simp; omega), Array.getElem?_push, if_neg (by omega)]⟩

end Fld
end
section
namespace Sup
variable {h h':Heap} {R:TyP} {d n:Nat} {X:Ft} {s:Dsk.DS}
structure SU where
  gen : Nat
  area : Nat
  len : Nat
abbrev SU.S (x : SU) : super_Super.S := ⟨x.gen, x.area, x.len⟩
def SU.ok (x : SU) : Prop := 1 ≤ x.gen ∧ x.gen ≤ 1099511627776 ∧ x.area ≤ 1 ∧ x.len ≤ 1048576
variable {x:SU}
def beP (k i n : Nat) : List UInt8 := (List.range i).map fun j => UInt8.ofNat (n / 2 ^ (8 * (k - 1 - j)))
def beB (k n : Nat) : List UInt8 := beP k k n
theorem beP_len (k i n : Nat) : (beP k i n).length = i := by simp [beP]
theorem beB_len (k n : Nat) : (beB k n).length = k := beP_len k k n
theorem beP_succ (k i n : Nat) : beP k (i + 1) n = beP k i n ++ [UInt8.ofNat (n / 2 ^ (8 * (k - 1 - i)))] := by simp [beP, List.range_succ]
def supM (x : SU) : List UInt8 := [80, 76, 70, 84] ++ beB 8 x.gen ++ [UInt8.ofNat x.area] ++ beB 4 x.len
theorem supM_len (x : SU) : (supM x).length = 17 := by simp [supM, beB_len]
def supB (x : SU) : List UInt8 := supM x ++ beB 4 (Bt.longN (supM x)) ++ List.replicate 107 0
theorem supB_len (x : SU) : (supB x).length = 128 := by simp [supB, beB_len, supM_len]
theorem wu8n (n : Nat) : IntKind.wrap .u8 (n : Int) = ((UInt8.ofNat n).toNat : Int) := by rw [wrap_u8_nat, UInt8.toNat_ofNat']
theorem put_ok {p : Option Addr} {l c k m : Nat} {bs : List UInt8} (H : Src h p l c bs) (k0 : 0 < k) (k8 : k ≤ 8) (hb : bs.length ≤ 1000000)
    (hk : ∀ p' c' h', Own h' p' (bs ++ beB k m).length c' 1 (bc (bs ++ beB k m)) → Fr (inBlk p) h h' → (∀ y, inBlk p' y → inBlk p y ∨ h.size ≤ y) → R (.slice p' (bs ++ beB k m).length c') h') :
    Cl 137 #[.slice p l c, .int .u64 (m : Int), .int .i64 (k : Int)] h R := by
  refine super_put.walk ⟨fun q lq cq t g => ∃ i : Nat, t = (i : Int) ∧ i ≤ k ∧ Src g q lq cq (bs ++ beP k i m) ∧ (0 < i → Own g q (bs ++ beP k i m).length cq 1 (bc (bs ++ beP k i m))) ∧ Fr (inBlk p) h g ∧ (∀ y, inBlk q y → inBlk p y ∨ h.size ≤ y),
    fun _ _ _ t _ => k - t.toNat, ⟨0, rfl, by omega, by rw [show beP k 0 m = [] from rfl, List.append_nil]; exact H, fun q => absurd q (by omega), Fr.refl _ _, fun _ => .inl⟩, ?_⟩
  rintro q lq cq _ g ⟨i, rfl, hi, S, o, f, gr⟩
  by_cases c1 : i < k
  · rw [if_pos (decide_eq_true (by omega))]
    rw [wrap_id (n := (k : Int) - 1) (by omega) (by omega), wrap_id (n := (k : Int) - 1 - i) (by omega) (by omega), wrap_id (n := 8 * ((k : Int) - 1 - i)) (by omega) (by omega), if_neg (by omega)]
    have l1 : lq = bs.length + i := by rw [S.1, List.length_append, beP_len]
    have e8 : min (Int.toNat (8 * ((k : Int) - 1 - i))) (IntKind.bits .u64) = 8 * (k - 1 - i) := by
      rw [show IntKind.bits .u64 = 64 from rfl]; omega
    refine den_append1S (UInt8.ofNat (m / 2 ^ (8 * (k - 1 - i)))) (by rw [e8, Bt.fdiv2, wu8n]) Fld.tU Fld.uU S (by omega) fun p' c' g' o' f' gr' => ⟨_, _, _, rfl, ?_⟩
    have z1 := f.1
    rw [wrap_id (by omega) (by omega)]
    refine ⟨⟨i + 1, by omega, by omega, ?_, fun _ => ?_, f.trans f' (fun _ _ => id) (fun y hy hq => (gr y hq).elim id (fun e => absurd e (by omega))), fun y hy => (gr' y hy).elim (gr y) (fun e => .inr (by omega))⟩, by show k - Int.toNat ((i : Int) + 1) < k - Int.toNat (i : Int); omega⟩
    · rw [beP_succ, ← List.append_assoc]; exact Src.own o' rfl
    · rw [beP_succ, ← List.append_assoc]; exact o'
  · rw [if_neg (fun e => c1 (by have := of_decide_eq_true e; omega))]
    obtain rfl : i = k := by omega
    have l1 := S.1
    subst l1
    exact hk q cq g (o k0) f gr
theorem right_ok (ok : x.ok) (hk : ∀ g, Fr No h g → R (.bool true) g) : Cl 136 #[x.S.agg] h R := by
  obtain ⟨o1, o2, o3, o4⟩ := ok
  refine super_Right.walk (super_Super.boxp fun b g e b0 f => ⟨_, cell_at b0 rfl, ?_⟩)
  rw [if_pos (decide_eq_true (by show (x.gen : Int) ≥ 1; omega))]
  refine ⟨_, cell_at b0 rfl, ?_⟩
  rw [if_pos (decide_eq_true (by show (x.gen : Int) ≤ 1099511627776; omega))]
  refine ⟨_, cell_at b0 rfl, ?_⟩
  have r := hk g f
  have e3 : decide ((x.len : Int) ≤ 1048576) = true := decide_eq_true (by omega)
  by_cases c : x.area = 0
  · rw [if_pos (by show ((x.area : Int) == 0) = true; rw [c]; rfl)]
    refine ⟨_, cell_at b0 rfl, ?_⟩
    rw [if_pos (decide_eq_true (by show (x.len : Int) ≥ 0; omega))]
    refine ⟨_, cell_at b0 rfl, ?_⟩
    show R (.bool (decide ((x.len : Int) ≤ 1048576))) g
    rw [e3]; exact r
  · have c1 : x.area = 1 := by omega
    rw [if_neg (by show ¬ ((x.area : Int) == 0) = true; rw [c1]; decide)]
    refine ⟨_, cell_at b0 rfl, ?_⟩
    rw [if_pos (by show ((x.area : Int) == 1) = true; rw [c1]; rfl)]
    refine ⟨_, cell_at b0 rfl, ?_⟩
    rw [if_pos (decide_eq_true (by show (x.len : Int) ≥ 0; omega))]
    refine ⟨_, cell_at b0 rfl, ?_⟩
    show R (.bool (decide ((x.len : Int) ≤ 1048576))) g
    rw [e3]; exact r
theorem tI : Tryz.prog.underlying 3 = some (.int .i64) := by kernel_rfl
theorem write_ok (ok : x.ok) (hk : ∀ p c g, Own g p 128 c 1 (bc (supB x)) → Fr No h g → (∀ y, inBlk p y → h.size ≤ y) → R (.tuple #[.slice p 128 c, .int .i64 0]) g) :
    Cl 97 #[x.S.agg] h R := by
  refine super_Write.walk (super_Super.boxp fun b h1 e1 b0 f1 => super_Super.ldp b0 (right_ok ok fun h2 f2 => ⟨_, rfl, ?_⟩))
  rw [if_neg (by decide)]
  have z1 := f1.1
  have z2 := f2.1
  refine Fld.lit_ok (bs := [80, 76, 70, 84]) rfl fun h4 r4 f4 => ?_
  have z4 := f4.1
  have F4 : Fr No h1 h4 := f2.tt f4
  have b4 := F4.get b0 id
  have bl : b < h1.size := (Array.getElem?_eq_some_iff.1 b0).1
  refine ⟨_, cell_at b4 rfl, put_ok (k := 8) (bs := [80, 76, 70, 84]) ⟨rfl, .inr ⟨r4, rfl⟩⟩ (by omega) (by omega) (by decide) fun p5 c5 h5 o5 f5 g5 => ⟨_, _, _, rfl, ?_⟩⟩
  have z5 := f5.1
  have n5 : ∀ y, inBlk p5 y → h2.size ≤ y := fun y hy => by
    rcases g5 y hy with ⟨_, e, rfl⟩ | q
    · cases e; exact Nat.le_refl _
    · omega
  have F5 : Fr No h2 h5 := f4.fresh f5 fun y ⟨_, e, hy⟩ => by cases e; subst hy; exact Nat.le_refl _
  have b5 := F5.get (f2.get b0 id) id
  refine ⟨_, cell_at b5 rfl, ?_⟩
  refine den_append1S (UInt8.ofNat x.area) (wu8n _) Fld.tU Fld.uU (Src.own o5 rfl) (by rw [List.length_append, beB_len]; simp) fun p7 c7 h7 o7 f7 g7 => ⟨_, _, _, rfl, ?_⟩
  have z7 := f7.1
  have n7 : ∀ y, inBlk p7 y → h2.size ≤ y := fun y hy => (g7 y hy).elim (n5 y) (fun q => by omega)
  have F7 : Fr No h2 h7 := F5.fresh f7 n5
  have b7 := F7.get (f2.get b0 id) id
  refine ⟨_, cell_at b7 rfl, ?_⟩
  rw [show IntKind.wrap .u64 (x.S.f2) = (x.len : Int) from wrap_u64 (by show (0 : Int) ≤ x.len; omega) (by have := ok.2.2.2; show (x.len : Int) ≤ _; omega)]
  refine put_ok (k := 4) (m := x.len) (Src.own o7 rfl) (by omega) (by omega) (by simp [beB_len]) fun p8 c8 h8 o8 f8 g8 => ⟨_, _, _, rfl, ?_⟩
  have z8 := f8.1
  have n8 : ∀ y, inBlk p8 y → h2.size ≤ y := fun y hy => (g8 y hy).elim (n7 y) (fun q => by omega)
  have F8 : Fr No h2 h8 := F7.fresh f8 n7
  change Own h8 p8 (supM x).length c8 1 (bc (supM x)) at o8
  refine Bt.long_ok o8.row' rfl (by rw [supM_len]; omega) ⟨_, rfl, ?_⟩
  have hl := Bt.longN_lt (supM x)
  rw [show IntKind.wrap .u64 ((Bt.longN (supM x) : Nat) : Int) = (Bt.longN (supM x) : Int) from wrap_u64 (by omega) (by omega)]
  refine put_ok (k := 4) (m := Bt.longN (supM x)) (Src.own (bs := supM x) o8 rfl) (by omega) (by omega) (by rw [supM_len]; omega) fun p9 c9 h9 o9 f9 g9 => ⟨_, _, _, rfl, ?_⟩
  have z9 := f9.1
  have n9 : ∀ y, inBlk p9 y → h2.size ≤ y := fun y hy => (g9 y hy).elim (n8 y) (fun q => by omega)
  have F9 : Fr No h2 h9 := F8.fresh f9 n8
  have l9 : (supM x ++ beB 4 (Bt.longN (supM x))).length = 21 := by simp [supM_len, beB_len]
  rw [l9] at o9 ⊢
  rw [show IntKind.wrap .i64 (128 - ((21 : Nat) : Int)) = ((107 : Nat) : Int) from rfl]
  refine den_zeros Fld.tU tI o9 l9.symm (by omega) (by omega) fun pA cA hA oA fA gA => ⟨_, _, _, rfl, ?_⟩
  have nA : ∀ y, inBlk pA y → h2.size ≤ y := fun y hy => (gA y hy).elim (n9 y) (fun q => by omega)
  exact hk pA cA hA oA ((f1.tt f2).tt (F9.fresh fA n9)) fun y hy => by have := nA y hy; omega
theorem slot_ok (hg : x.gen ≤ 1099511627776) (hk : ∀ g, Fr No h g → R (.int .i64 ((x.gen % 2 : Nat) : Int)) g) : Cl 99 #[x.S.agg] h R := by
  refine super_slot.walk (super_Super.boxp fun b g e b0 f => ⟨_, cell_at b0 rfl, ?_⟩)
  have e2 : Int.tmod (x.gen : Int) 2 = ((x.gen % 2 : Nat) : Int) := rfl
  show R (.int .i64 (IntKind.wrap .i64 (Int.tmod (x.gen : Int) 2))) g
  rw [e2, wrap_id (by omega) (by omega)]
  exact hk g f
theorem Put_ok (H : Dsk.Dk h d X n s) (n2 : 2 ≤ n) (ok : x.ok) (hw : s.W.length ≤ 100000)
    (hk : ∀ h' X', Dsk.Dk h' d X' n (s.put (x.gen % 2) (supB x)) → StepF X h X' h' → R (.int .i64 0) h') : Cl 66 #[.pointer (some ⟨d, 0, none⟩), x.S.agg] h R := by
  refine super_Put.walk (super_Super.boxp fun b h1 e1 b0 f1 => super_Super.ldp b0 (write_ok ok fun p c h2 o2 f2 g2 => ⟨_, _, _, _, rfl, ?_⟩))
  rw [if_neg (by decide)]
  refine super_Super.ldp (f2.get b0 id) (slot_ok ok.2.1 fun h3 f3 => ⟨_, rfl, ?_⟩)
  have F3 := (f1.tt f2).tt f3
  have z1 := f1.1
  refine Dsk.write_ok (H.on F3) (by omega) (o2.row'.frame f3 (fun _ _ => id)) (supB_len x).symm (supB_len x) hw (fun y hy hx => by have := g2 y hy; have := H.lt y hx; omega) fun h4 X' D4 st => ⟨_, rfl, ?_⟩
  exact hk h4 X' D4 (.no F3 st)

end Sup
end
section
variable {h:Heap} {R:TyP}
variable {b d:Nat} {v_at:Int}
abbrev area_Area.atp (h : Heap) (b : Nat) (x : area_Area.S) : Prop := h[b]? = some (.cells x.arr 153 (0, 0))
theorem area_Area.ex {K : area_Area.S → Prop} (x : area_Area.S) (hk : K x) : area_Area.EX K := ⟨_, _, hk⟩
theorem area_Area.ldAp {a : Addr} {x : area_Area.S} {K : area_Area.S → Prop} (hb : heldL a x.l 0 h) (hk : K x) : area_Area.LDp h a K := by
  obtain ⟨q0, q1, _⟩ := hb
  rw [add_zero_addr] at q0
  exact ⟨_, q0, _, q1, hk⟩
theorem area_Area.heldp {x : area_Area.S} (hb : area_Area.atp h b x) : heldL ⟨b, 0, none⟩ x.l 0 h :=
  heldL_blk hb (fun j v hj => by rw [Nat.zero_add]; simpa using hj)
theorem area_Area.ldp {x : area_Area.S} {K : area_Area.S → Prop} (hb : area_Area.atp h b x) (hk : K x) : area_Area.LDp h ⟨b, 0, none⟩ K := ldAp (heldp hb) hk
theorem area_Area.boxp {x : area_Area.S} {K : Nat → Heap → Prop} (hk : ∀ b h', b = h.size → area_Area.atp h' b x → Fr No h h' → K b h') : NewP h (.cells x.arr 153) fun b h_0 => K b h_0 :=
  newP_of (hk _ _ rfl push_new (Fr.push _ _))
theorem area_Area.setp {y x : area_Area.S} {K : Heap → Prop} (a0 : area_Area.atp h b y) (hk : ∀ h', area_Area.atp h' b x → Fr (fun y => y = b) h h' → h'.size = h.size → K h') : area_Area.STp h ⟨b, 0, none⟩ x K :=
  (show storeL ⟨b, 0, none⟩ x.l 0 h K from storeL_full a0 rfl rfl fun h1 d1 d2 d3 => hk h1 d1 (Fr.of_eq d2 fun c hc => d3 c hc) d2)
variable {K:area_Area.S→Prop} {a x:area_Area.S}
theorem area_Right.walk (hv :
 NewP h (.cells a.arr 153) fun b h_1 =>
 Cl 64 #[.pointer (some ⟨d, 0, none⟩)] h_1 fun v h_2 =>
 ∃ t7, v = .int .i64 t7 ∧
 ∃ t9, hcell h_2 ⟨b, 0, none⟩ = some (.int .i64 t9) ∧
 ite (decide (t9 ≥ 2))
 (  ∃ t13, hcell h_2 ⟨b, 0, none⟩ = some (.int .i64 t13) ∧
 ite (decide (t13 < t7))
 (  ∃ t19, hcell h_2 ⟨b, 1, none⟩ = some (.int .i64 t19) ∧
 ite (decide (t19 ≥ 1))
 (  ∃ t24, hcell h_2 ⟨b, 1, none⟩ = some (.int .i64 t24) ∧
 ∃ t27, hcell h_2 ⟨b, 0, none⟩ = some (.int .i64 t27) ∧
 R (.bool (decide (t24 ≤ (IntKind.wrap .i64 (t7 - t27))))) h_2)
 (  R (.bool false) h_2))
 (  R (.bool false) h_2))
 (  R (.bool false) h_2)) : Cl 213 #[.pointer (some ⟨d, 0, none⟩), a.agg] h R :=
 callsN [] hv
theorem area_Room.walk (hv :
 NewP h (.cells a.arr 153) fun b h_1 =>
 JoinP (fun (t10 : Bool) h_2 =>
 ite t10
 (  R (.int .i64 0) h_2)
 (  ∃ t12, hcell h_2 ⟨b, 1, none⟩ = some (.int .i64 t12) ∧
 R (.int .i64 (IntKind.wrap .i64 (t12 * 128))) h_2))
 (fun J =>
 ∃ t4, hcell h_1 ⟨b, 1, none⟩ = some (.int .i64 t4) ∧
 ite (decide (t4 < 1))
 (  J true h_1)
 (  ∃ t8, hcell h_1 ⟨b, 1, none⟩ = some (.int .i64 t8) ∧
 J (decide (t8 > 4096)) h_1))) : Cl 69 #[a.agg] h R :=
 callsN [(4, .join [(10, sB)])] hv
theorem area_Halves.walk (hv :
 NewP h (.cells area_Area.S.z.arr 153) fun b h_1 =>
 NewP h_1 (.cells area_Area.S.z.arr 153) fun b_1 h_2 =>
 Cl 64 #[.pointer (some ⟨d, 0, none⟩)] h_2 fun v h_3 =>
 ∃ t7, v = .int .i64 t7 ∧
 ite (t7 == 0)
 (  area_Area.STp h_3 ⟨b, 0, none⟩ area_Area.S.z fun h_4 =>
 area_Area.STp h_4 ⟨b_1, 0, none⟩ area_Area.S.z fun h_5 =>
 area_Area.LDp h_5 ⟨b, 0, none⟩ fun r0 =>
 area_Area.LDp h_5 ⟨b_1, 0, none⟩ fun r1 =>
 R (.tuple #[r0.agg, r1.agg, .int .i64 6]) h_5)
 (  Cl 64 #[.pointer (some ⟨d, 0, none⟩)] h_3 fun v_1 h_6 =>
 ∃ t12, v_1 = .int .i64 t12 ∧
 area_Area.STp h_6 ⟨b, 0, none⟩ ⟨2, (IntKind.wrap .i64 (Int.tdiv (IntKind.wrap .i64 (t12 - 2)) 2))⟩ fun h_7 =>
 area_Area.STp h_7 ⟨b_1, 0, none⟩ ⟨(IntKind.wrap .i64 (2 + (IntKind.wrap .i64 (Int.tdiv (IntKind.wrap .i64 (t12 - 2)) 2)))), (IntKind.wrap .i64 (Int.tdiv (IntKind.wrap .i64 (t12 - 2)) 2))⟩ fun h_8 =>
 area_Area.LDp h_8 ⟨b, 0, none⟩ fun r0_1 =>
 area_Area.LDp h_8 ⟨b_1, 0, none⟩ fun r1_1 =>
 R (.tuple #[r0_1.agg, r1_1.agg, .int .i64 0]) h_8)) : Cl 68 #[.pointer (some ⟨d, 0, none⟩)] h R :=
 callsN [] hv
theorem area_ask.walk {n : Int} (hv :
 NewP h (.cells a.arr 153) fun b h_1 =>
 area_Area.LDp h_1 ⟨b, 0, none⟩ fun t11 =>
 Cl 213 #[.pointer (some ⟨d, 0, none⟩), t11.agg] h_1 fun v h_2 =>
 ∃ t12, v = .bool t12 ∧
 ite (!t12)
 (  R (.int .i64 3) h_2)
 (  JoinP (fun (t14 : Bool) h_3 =>
 ite t14
 (  R (.int .i64 1) h_3)
 (  R (.int .i64 0) h_3))
 (fun J =>
 ite (decide (v_at < 0))
 (  J true h_2)
 (  ite (decide (n < 0))
 (  J true h_2)
 (  area_Area.LDp h_2 ⟨b, 0, none⟩ fun t23 =>
 Cl 69 #[t23.agg] h_2 fun v_1 h_4 =>
 ∃ t24, v_1 = .int .i64 t24 ∧
 ite (decide (v_at > t24))
 (  J true h_4)
 (  area_Area.LDp h_4 ⟨b, 0, none⟩ fun t29 =>
 Cl 69 #[t29.agg] h_4 fun v_2 h_5 =>
 ∃ t30, v_2 = .int .i64 t30 ∧
 J (decide (n > (IntKind.wrap .i64 (t30 - v_at)))) h_5)))))) : Cl 176 #[.pointer (some ⟨d, 0, none⟩), a.agg, .int .i64 v_at, .int .i64 n] h R :=
 callsN [(11, .join [(14, sB)])] hv
theorem area_Put.walk {b_p : Option Addr} {b_l b_c : Nat} (hv :
 NewP h (.cells a.arr 153) fun b h_1 =>
 ∃ (I : Int → Option Addr → Nat → Nat → Heap → Prop) (mu : Int → Option Addr → Nat → Nat → Heap → Nat), (
 area_Area.LDp h_1 ⟨b, 0, none⟩ fun t16 =>
 Cl 176 #[.pointer (some ⟨d, 0, none⟩), t16.agg, .int .i64 v_at, .int .i64 ((b_l : Nat) : Int)] h_1 fun v h_2 =>
 ∃ t20, v = .int .i64 t20 ∧
 ite (t20 != 0)
 (  R (.int .i64 t20) h_2)
 (  I v_at b_p b_l b_c h_2)) ∧ ∀ v_at_1 b_p_1 b_l_1 b_c_1 h_3, I v_at_1 b_p_1 b_l_1 b_c_1 h_3 →
 ite (decide (((b_l_1 : Nat) : Int) > 0))
 (  ∃ t28, hcell h_3 ⟨b, 0, none⟩ = some (.int .i64 t28) ∧
 Cl 177 #[.pointer (some ⟨d, 0, none⟩), .int .i64 (IntKind.wrap .i64 (t28 + (IntKind.wrap .i64 (Int.tdiv v_at_1 128))))] h_3 fun v_1 h_4 =>
 ∃ t35_0_p t35_0_l t35_0_c t35_1, v_1 = .tuple #[.slice t35_0_p t35_0_l t35_0_c, .int .i64 t35_1] ∧
 ite (t35_1 != 0)
 (  R (.int .i64 t35_1) h_4)
 (  ((0 : Int) ≤ Int.tmod v_at_1 128 ∧ Int.tmod v_at_1 128 ≤ ((t35_0_l : Nat) : Int)) ∧
 Dsz (Builtin.copy_ #[26, 26] 3 #[.slice (slBase t35_0_p t35_0_c (Int.toNat (Int.tmod v_at_1 128)) 1) (t35_0_l - (Int.toNat (Int.tmod v_at_1 128))) (t35_0_c - (Int.toNat (Int.tmod v_at_1 128))), .slice b_p_1 b_l_1 b_c_1]) h_4 fun v_2 h_5 =>
 ∃ t46, v_2 = .int .i64 t46 ∧
 Cl 98 #[.pointer (some ⟨d, 0, none⟩), .int .i64 (IntKind.wrap .i64 (t28 + (IntKind.wrap .i64 (Int.tdiv v_at_1 128)))), .slice t35_0_p t35_0_l t35_0_c] h_5 fun v_3 h_6 =>
 ∃ t50, v_3 = .int .i64 t50 ∧
 ite (t50 != 0)
 (  R (.int .i64 t50) h_6)
 (  ((0 : Int) ≤ t46 ∧ t46 ≤ ((b_l_1 : Nat) : Int)) ∧
 (I (IntKind.wrap .i64 (v_at_1 + t46)) (slBase b_p_1 b_c_1 (Int.toNat t46) 1) (b_l_1 - (Int.toNat t46)) (b_c_1 - (Int.toNat t46)) h_6 ∧ mu (IntKind.wrap .i64 (v_at_1 + t46)) (slBase b_p_1 b_c_1 (Int.toNat t46) 1) (b_l_1 - (Int.toNat t46)) (b_c_1 - (Int.toNat t46)) h_6 < mu v_at_1 b_p_1 b_l_1 b_c_1 h_3))))
 (  R (.int .i64 0) h_3)) : Cl 141 #[.pointer (some ⟨d, 0, none⟩), a.agg, .int .i64 v_at, .slice b_p b_l b_c] h R :=
 callsN [(2, fun _ => .scope 0 [(2, sI), (3, sS)] (sq (lq (lq (cq ll lf))) ll) (lq (sq (lq (cq (lq (lq (sq (lq (cq ll lf)) (lq (sq (lq (lq (cq ll lf))) (sq (.planK (runP 8 0 .done)) lf)))))) lf)) ll)))] hv

end
section
namespace Area
variable {h h':Heap} {R:TyP} {d n:Nat} {X:Ft} {s:Dsk.DS}
variable {a:Nat}
structure AR where
  first : Nat
  count : Nat
abbrev AR.S (x : AR) : area_Area.S := ⟨x.first, x.count⟩
def AR.ok (x : AR) (n : Nat) : Prop := 2 ≤ x.first ∧ x.first < n ∧ 1 ≤ x.count ∧ x.count + x.first ≤ n
variable {x:AR}
def halves (n : Nat) : AR × AR := (⟨2, (n - 2) / 2⟩, ⟨2 + (n - 2) / 2, (n - 2) / 2⟩)
theorem halves_ok (h4 : 4 ≤ n) : (halves n).1.ok n ∧ (halves n).2.ok n := by unfold halves AR.ok; dsimp only; omega
def putA (first : Nat) : Nat → Dsk.DS → Nat → List UInt8 → Dsk.DS
  | 0, s, _, _ => s
  | f + 1, s, a, b => if b = [] then s else putA first f (s.put (first + a / 128) ((s.get (first + a / 128)).take (a % 128) ++ b.take (min b.length (128 - a % 128)) ++ (s.get (first + a / 128)).drop (a % 128 + min b.length (128 - a % 128)))) (a + min b.length (128 - a % 128)) (b.drop (min b.length (128 - a % 128)))
theorem putA_W (first : Nat) : ∀ (f : Nat) (s : Dsk.DS) (a : Nat) (b : List UInt8), (putA first f s a b).W.length ≤ s.W.length + f
  | 0, s, _, _ => Nat.le_refl _
  | f + 1, s, a, b => by
    unfold putA
    split
    · omega
    · refine Nat.le_trans (putA_W first f _ _ _) ?_
      show (s.W ++ _).length + f ≤ _
      rw [List.length_append]; simp; omega
theorem right_ok (H : Dsk.Dk h d X n s) (ok : x.ok n) (n5 : n ≤ 4096) (hk : ∀ g, Fr No h g → R (.bool true) g) : Cl 213 #[.pointer (some ⟨d, 0, none⟩), x.S.agg] h R := by
  obtain ⟨o1, o2, o3, o4⟩ := ok
  refine area_Right.walk (area_Area.boxp fun b g e b0 f => Dsk.sectors_ok (H.on f) ⟨_, rfl, _, cell_at b0 rfl, ?_⟩)
  rw [if_pos (decide_eq_true (by show (x.first : Int) ≥ 2; omega))]
  refine ⟨_, cell_at b0 rfl, ?_⟩
  rw [if_pos (decide_eq_true (by show (x.first : Int) < n; omega))]
  refine ⟨_, cell_at b0 rfl, ?_⟩
  rw [if_pos (decide_eq_true (by show (x.count : Int) ≥ 1; omega))]
  refine ⟨_, cell_at b0 rfl, _, cell_at b0 rfl, ?_⟩
  show R (.bool (decide ((x.count : Int) ≤ IntKind.wrap .i64 ((n : Int) - x.first)))) g
  rw [wrap_id (by omega) (by omega), decide_eq_true (by omega)]
  exact hk g f
theorem room_ok (h1 : 1 ≤ x.count) (h2 : x.count ≤ 4096) (hk : ∀ g, Fr No h g → R (.int .i64 ((x.count * 128 : Nat) : Int)) g) : Cl 69 #[x.S.agg] h R := by
  refine area_Room.walk (area_Area.boxp fun b g e b0 f => JoinP.of fun J hJ => ⟨_, cell_at b0 rfl, ?_⟩)
  rw [if_neg (by simp; show (1 : Int) ≤ x.count; omega)]
  refine ⟨_, cell_at b0 rfl, ?_⟩
  subst hJ
  dsimp only
  rw [if_neg (by simp; show (x.count : Int) ≤ 4096; omega)]
  refine ⟨_, cell_at b0 rfl, ?_⟩
  show R (.int .i64 (IntKind.wrap .i64 ((x.count : Int) * 128))) g
  rw [wrap_id (by omega) (by omega)]
  exact hk g f
theorem halves_call (H : Dsk.Dk h d X n s) (h4 : 4 ≤ n) (n5 : n ≤ 4096) (hk : ∀ g, Fr No h g → R (.tuple #[(halves n).1.S.agg, (halves n).2.S.agg, .int .i64 0]) g) : Cl 68 #[.pointer (some ⟨d, 0, none⟩)] h R := by
  refine area_Halves.walk (newP_of (newP_of ?_))
  have f1 : Fr No h (h.push (.cells area_Area.S.z.arr 153)) := Fr.push _ _
  generalize hg1 : h.push (.cells area_Area.S.z.arr 153) = g1 at f1 ⊢
  have a1 : area_Area.atp g1 h.size area_Area.S.z := hg1 ▸ push_new
  have f2 : Fr No g1 (g1.push (.cells area_Area.S.z.arr 153)) := Fr.push _ _
  generalize hg2 : g1.push (.cells area_Area.S.z.arr 153) = g2 at f2 ⊢
  have a2 : area_Area.atp g2 g1.size area_Area.S.z := hg2 ▸ push_new
  have ne : h.size < g1.size := by rw [← hg1]; simp
  have H2 := H.on (f1.tt f2)
  refine Dsk.sectors_ok H2 ⟨_, rfl, ?_⟩
  rw [if_neg (by simp; omega)]
  refine Dsk.sectors_ok H2 ⟨_, rfl, ?_⟩
  have e1 : IntKind.wrap .i64 (Int.tdiv (IntKind.wrap .i64 ((n : Int) - 2)) 2) = (((n - 2) / 2 : Nat) : Int) := by
    rw [wrap_id (n := (n : Int) - 2) (by omega) (by omega), show (n : Int) - 2 = ((n - 2 : Nat) : Int) by omega, show Int.tdiv ((n - 2 : Nat) : Int) 2 = (((n - 2) / 2 : Nat) : Int) from rfl, wrap_id (by omega) (by omega)]
  rw [e1, wrap_id (n := 2 + (((n - 2) / 2 : Nat) : Int)) (by omega) (by omega)]
  refine area_Area.setp (x := (halves n).1.S) (f2.get a1 id) fun g3 a3 f3 z3 => ?_
  refine area_Area.setp (x := (halves n).2.S) (f3.get a2 (by omega)) fun g4 a4 f4 z4 => ?_
  refine area_Area.ldp (f4.get a3 (by omega)) (area_Area.ldp a4 (hk g4 ?_))
  have u1 := f2.1
  exact ((f1.tt f2).fresh (S := fun y => y = h.size) f3 (fun y hy => by omega)).fresh f4 fun y hy => by omega
theorem ask_ok {m:Nat} (H : Dsk.Dk h d X n s) (ok : x.ok n) (n5 : n ≤ 4096) (hr : a + m ≤ x.count * 128) (hk : ∀ g, Fr No h g → R (.int .i64 0) g) :
    Cl 176 #[.pointer (some ⟨d, 0, none⟩), x.S.agg, .int .i64 (a : Int), .int .i64 (m : Int)] h R := by
  have o := ok
  obtain ⟨o1, o2, o3, o4⟩ := o
  refine area_ask.walk (area_Area.boxp fun b h1 e1 b0 f1 => area_Area.ldp b0 (right_ok (H.on f1) ok n5 fun h2 f2 => ⟨_, rfl, ?_⟩))
  rw [if_neg (by decide)]
  refine JoinP.of fun J hJ => ?_
  rw [if_neg (by simp), if_neg (by simp)]
  have b2 := f2.get b0 id
  refine area_Area.ldp b2 (room_ok o3 (by omega) fun h3 f3 => ⟨_, rfl, ?_⟩)
  rw [if_neg (by simp; omega)]
  refine area_Area.ldp (f3.get b2 id) (room_ok o3 (by omega) fun h4 f4 => ⟨_, rfl, ?_⟩)
  rw [wrap_id (by omega) (by omega), decide_eq_false (by omega)]
  subst hJ
  dsimp only
  rw [if_neg (by decide)]
  exact hk h4 (((f1.tt f2).tt f3).tt f4)
theorem put_ok {l c:Nat} {p : Option Addr} {bs : List UInt8} (H : Dsk.Dk h d X n s) (ok : x.ok n) (n5 : n ≤ 4096) (hl : l = bs.length) (hc : l ≤ c) (hr : a + bs.length ≤ x.count * 128) (hw : s.W.length + bs.length ≤ 100000)
    (row : Row h p (bc bs)) (hp : ∀ y, inBlk p y → y < h.size ∧ ¬ X.M y)
    (hk : ∀ h' X', Dsk.Dk h' d X' n (putA x.first bs.length s a bs) → (putA x.first bs.length s a bs).W.length ≤ s.W.length + bs.length → StepF X h X' h' → R (.int .i64 0) h') :
    Cl 141 #[.pointer (some ⟨d, 0, none⟩), x.S.agg, .int .i64 (a : Int), .slice p l c] h R := by
  have o := ok
  obtain ⟨o1, o2, o3, o4⟩ := o
  subst hl
  refine area_Put.walk (area_Area.boxp fun b h1 e1 b0 f1 => ?_)
  have u1 := f1.1
  have zb : b < h1.size := (Array.getElem?_eq_some_iff.1 b0).1
  refine ⟨fun t q lq cq g => ∃ (a1 f : Nat) (b1 : List UInt8) (s1 : Dsk.DS) (X1 : Ft), t = (a1 : Int) ∧ lq = b1.length ∧ b1.length ≤ f ∧ a1 + b1.length ≤ x.count * 128 ∧ s1.W.length + b1.length ≤ s.W.length + bs.length ∧ Row g q (bc b1) ∧ (∀ y, inBlk q y → inBlk p y) ∧ Dsk.Dk g d X1 n s1 ∧
      StepF X h X1 g ∧ (∀ y, X1.M y → y ≠ b) ∧ area_Area.atp g b x.S ∧ b1.length ≤ cq ∧ putA x.first f s1 a1 b1 = putA x.first bs.length s a bs, fun _ _ lq _ _ => lq, ?_, ?_⟩
  · refine area_Area.ldp b0 (ask_ok (H.on f1) ok n5 hr fun h2 f2 => ⟨_, rfl, ?_⟩)
    rw [if_neg (by decide)]
    exact ⟨a, bs.length, bs, s, X, rfl, rfl, Nat.le_refl _, hr, Nat.le_refl _, row.frame (f1.tt f2) (fun _ _ => id), fun _ => id, H.on (f1.tt f2), .of_no (f1.tt f2), fun y hy e => by have := H.lt y hy; omega, f2.get b0 id, hc, rfl⟩
  rintro _ q lq cq g ⟨a1, f, b1, s1, X1, rfl, rfl, hf, hr1, hw1, rq, hq, D1, st, nb, bg, hcq, e⟩
  by_cases c1 : b1 = []
  · subst c1
    rw [if_neg (by simp)]
    have e2 : putA x.first f s1 a1 [] = s1 := by cases f <;> rfl
    rw [e2] at e
    refine hk g X1 (e ▸ D1) (e ▸ by simpa using hw1) st
  have bp : 0 < b1.length := List.length_pos_iff.2 c1
  obtain ⟨f, rfl⟩ : ∃ k, f = k + 1 := ⟨f - 1, by omega⟩
  rw [if_pos (decide_eq_true (by omega))]
  refine ⟨_, cell_at bg rfl, ?_⟩
  have ei : IntKind.wrap .i64 (x.S.f0 + IntKind.wrap .i64 (Int.tdiv (a1 : Int) 128)) = ((x.first + a1 / 128 : Nat) : Int) := by
    show IntKind.wrap .i64 ((x.first : Int) + IntKind.wrap .i64 (((a1 / 128 : Nat) : Int))) = _
    rw [wrap_id (n := ((a1 / 128 : Nat) : Int)) (by omega) (by omega), wrap_id (by omega) (by omega)]; omega
  rw [ei]
  have hi : x.first + a1 / 128 < n := by omega
  have et : Int.tmod (a1 : Int) 128 = ((a1 % 128 : Nat) : Int) := rfl
  refine Dsk.read_ok D1 hi (by omega) fun h4 p4 o4' g4 f4 => ⟨_, _, _, _, rfl, ?_⟩
  have u4 := f4.1
  have gl : (s1.get (x.first + a1 / 128)).length = 128 := D1.ok.get hi
  rw [if_neg (by decide), et, Int.toNat_natCast]
  refine ⟨⟨by omega, by omega⟩, den_copy Fld.tU o4' (by omega) (rq.frame f4 (fun _ _ => id)) rfl fun h5 o5 f5 => ⟨_, rfl, ?_⟩⟩
  have D4 := D1.on f4
  have pa : ∀ y, inBlk p4 y → ¬ X1.M y := fun y hy hx => by have := g4 y hy; have := D1.lt y hx; omega
  have D5 := D4.frame f5 (fun y hx hy => pa y hy hx)
  have u5 := f5.1
  have l5 : ((s1.get (x.first + a1 / 128)).take (a1 % 128) ++ b1.take (min b1.length (128 - a1 % 128)) ++ (s1.get (x.first + a1 / 128)).drop (a1 % 128 + min b1.length (128 - a1 % 128))).length = 128 := by simp; omega
  refine Dsk.write_ok D5 hi o5.row' l5.symm l5 (by omega) pa fun h6 X6 D6 st6 => ⟨_, rfl, ?_⟩
  rw [if_neg (by decide), Int.toNat_natCast, wrap_id (by omega) (by omega)]
  have st5 : StepF X1 g X6 h6 := .no (f4.fresh f5 g4) st6
  have lq : ∀ y, inBlk q y → y < h.size ∧ ¬ X1.M y := fun y hy => ⟨(hp y (hq y hy)).1, fun hx => st.apartM (Q := fun c => inBlk p c) (fun c hc hx => (hp c hx).2 hc) (fun c hc => (hp c hc).1) y hx (hq y hy)⟩
  have u2 := st.fr.1
  have r6 : Row h6 q (bc b1) := rq.frame st5.fr (fun y hy => (lq _ ⟨y, hy, rfl⟩).2)
  refine ⟨⟨by omega, by omega⟩, ⟨a1 + min b1.length (128 - a1 % 128), f, b1.drop (min b1.length (128 - a1 % 128)), _, X6, by omega, by rw [List.length_drop], by rw [List.length_drop]; omega, by rw [List.length_drop]; omega, ?_, ?_, fun y hy => hq y (inBlk_sub hy), D6, st.trans st5, ?_, ?_, by rw [List.length_drop]; omega, ?_⟩, by show b1.length - _ < b1.length; omega⟩
  · rw [List.length_drop]; show (s1.W ++ _).length + _ ≤ _; rw [List.length_append]; simp; omega
  · have := r6.sub (cap := cq) (l := min b1.length (128 - a1 % 128)) (u := b1.length) (sz := 1) (by omega) hcq
    rw [Nat.mul_one, Nat.mul_one, bc_take, bc_drop, List.take_length] at this
    exact this
  · exact st5.apartM (Q := fun y => y = b) nb (fun y e => by have := (Array.getElem?_eq_some_iff.1 bg).1; omega)
  · exact st5.fr.get bg (fun hx => nb b hx rfl)
  · rw [← e]
    conv => rhs; unfold putA
    rw [if_neg c1]

end Area
end
end Go.Proofs.YtaphjamdblgiiaaGreatDoor
namespace Go.Den
def setLi (c : List Value) : Nat → List Value → List Value
  | _, [] => c
  | i, v :: vs => setLi (c.set i v) (i + 1) vs
theorem storeP_l {h : Heap} {b i : Nat} {l : List Value} {t : TypeId} {v : Value} {K : Heap → Prop} (hb : h[b]? = some (.cells l.toArray t (0, 0))) (hi : i < l.length)
    (hk : ∀ h', h'[b]? = some (.cells (l.set i v).toArray t (0, 0)) → h'.size = h.size → (∀ x, x ≠ b → h'[x]? = h[x]?) → K h') : StoreP h ⟨b, i, none⟩ v K :=
  storeP_blk hb (by simpa using hi) fun h' a => hk h' (by rwa [List.setIfInBounds_toArray] at a)
theorem storeL_li {b o : Nat} {t : TypeId} : ∀ (vs : List Value) (i : Nat) (h : Heap) (c : List Value) (K : Heap → Prop), h[b]? = some (.cells c.toArray t (0, 0)) → o + i + vs.length ≤ c.length → vs.all oneCell = true →
    (∀ h', h'[b]? = some (.cells (setLi c (o + i) vs).toArray t (0, 0)) → h'.size = h.size → (∀ x, x ≠ b → h'[x]? = h[x]?) → K h') → storeL ⟨b, o, none⟩ vs i h K
  | [], i, h, c, K, hb, _, _, hk => hk h hb rfl (fun _ _ => rfl)
  | v :: vs, i, h, c, K, hb, hl, hv, hk => by
    rw [List.all_cons, Bool.and_eq_true] at hv
    rw [List.length_cons] at hl
    unfold storeL
    rw [hv.1]
    rw [add_blk]
    refine storeP_l hb (by omega) fun h1 a1 s1 o1 => (storeL_li vs (i + 1) h1 _ K a1 (by simp; omega) hv.2 fun h2 b2 s2 o2 => hk h2 b2 (by omega) (fun x hx => by rw [o2 x hx, o1 x hx]))
end Go.Den
namespace Go.Proofs.YtaphjamdblgiiaaGreatDoor
open Go.Den
namespace Jnl
open Dsk Area Sup
variable {h h0 h' : Heap} {R : Value → Heap → Prop} {d n j : Nat} {X XD : Ft} {s : DS}
structure JN where
  gen : Nat
  area : Nat
  len : Nat
  next : List UInt8
  half : Nat
  at_ : Nat
  plen : Nat
  pdone : Nat
  stage : Nat
  all : Nat
  done : Nat
def room (n : Nat) : Nat := (n - 2) / 2 * 128
def hv (n k : Nat) : AR := if k = 0 then (halves n).1 else (halves n).2
def JN.tl (x : JN) : Nat × Nat := if x.stage = 0 then (x.area, x.len + x.next.length) else (x.half, x.plen + x.next.length)
structure JN.ok (x : JN) (n : Nat) : Prop where
  n4 : 4 ≤ n
  n5 : n ≤ 4096
  g1 : 1 ≤ x.gen
  ar : x.area ≤ 1
  hf : x.half ≤ 1
  le : x.len ≤ room n
  pl : x.plen ≤ room n
  nx : x.tl.2 ≤ room n
  st : x.stage ≤ 3
abbrev JN.S (x : JN) (d n : Nat) (p : Option Addr) (c : Nat) : journal_Journal.S := ⟨some ⟨d, 0, none⟩, ((halves n).1.first : Int), ((halves n).1.count : Int), ((halves n).2.first : Int), ((halves n).2.count : Int), x.gen, x.area, x.len, p, x.next.length, c, x.half, x.at_, x.plen, x.pdone, x.stage, x.all, x.done⟩
structure JnA (h : Heap) (j d : Nat) (X XD : Ft) (n : Nat) (x : JN) (s : DS) (p : Option Addr) (c : Nat) : Prop where
  blk : journal_Journal.atp h j (x.S d n p c)
  own : Own h p x.next.length c 1 (bc x.next)
  dk : Dk h d XD n s
  ok : x.ok n
  m : ∀ y, X.M y ↔ y = j ∨ inBlk p y ∨ XD.M y
  dd : ∀ y, ¬ X.D y
  j1 : ¬ inBlk p j
  j2 : ¬ XD.M j
  jp : ∀ y, inBlk p y → ¬ XD.M y
def Jn (h : Heap) (j d : Nat) (X : Ft) (n : Nat) (x : JN) (s : DS) : Prop := ∃ XD p c, JnA h j d X XD n x s p c
theorem Jn.lt {x : JN} (H : Jn h j d X n x s) (y : Nat) (hy : X.M y) : y < h.size := by
  obtain ⟨XD, p, c, A⟩ := H
  rcases (A.m y).1 hy with rfl | q | q
  · exact (Array.getElem?_eq_some_iff.1 A.blk).1
  · exact A.own.blk_lt q
  · exact A.dk.lt y q
theorem Jn.frame {x : JN} {Q : Nat → Prop} (H : Jn h j d X n x s) (f : Fr Q h h') (hq : ∀ y, X.M y → ¬ Q y) : Jn h' j d X n x s := by
  obtain ⟨XD, p, c, A⟩ := H
  exact ⟨XD, p, c, f.get A.blk (hq j ((A.m j).2 (.inl rfl))), A.own.frame f (fun y q => hq y ((A.m y).2 (.inr (.inl q)))), A.dk.frame f (fun y q => hq y ((A.m y).2 (.inr (.inr q)))), A.ok, A.m, A.dd, A.j1, A.j2, A.jp⟩
theorem Jn.on {x : JN} (H : Jn h j d X n x s) (f : Fr No h h') : Jn h' j d X n x s := H.frame f (fun _ _ => id)
theorem Jn.ok {x : JN} (H : Jn h j d X n x s) : x.ok n := by obtain ⟨_, _, _, A⟩ := H; exact A.ok
theorem Jn.nd {x : JN} (H : Jn h j d X n x s) (y : Nat) : ¬ X.D y := by obtain ⟨_, _, _, A⟩ := H; exact A.dd y
theorem JnA.put {G : Prop} {x x1 : JN} {s1 : DS} {p p1 : Option Addr} {c c1 : Nat} {XD1 : Ft} {h1 h2 : Heap} (A : JnA h j d X XD n x s p c) (D1 : Dk h1 d XD1 n s1) (st : StepF XD h XD1 h1) (f : Fr (fun y => y = j) h1 h2)
    (b2 : journal_Journal.atp h2 j (x1.S d n p1 c1)) (hp : (p1 = p ∧ c1 = c ∧ x1.next = x.next) ∨ (p1 = none ∧ c1 = 0 ∧ x1.next = [])) (ok : x1.ok n) (hk : ∀ X', Jn h2 j d X' n x1 s1 → StepF X h X' h2 → G) : G := by
  have jl : j < h.size := (Array.getElem?_eq_some_iff.1 A.blk).1
  have j2 : ¬ XD1.M j := fun q => st.apartM (Q := fun y => y = j) (fun c hc e => A.j2 (e ▸ hc)) (fun c e => e ▸ jl) j q rfl
  have D2 := D1.frame f (fun y hy e => j2 (e ▸ hy))
  have pl : ∀ y, inBlk p y → y < h.size := fun y hy => A.own.blk_lt hy
  have jp : ∀ y, inBlk p y → ¬ XD1.M y := fun y hy q => st.apartM (Q := fun y => inBlk p y) (fun c hc e => A.jp c e hc) pl y q hy
  have o2 : Own h2 p x.next.length c 1 (bc x.next) := (A.own.frame st.fr (fun y hy q => A.jp y hy q)).frame f (fun y hy e => A.j1 (e ▸ hy))
  have fr : Fr X.M h h2 := st.fr.trans f (fun y _ hy => (A.m y).2 (.inr (.inr hy))) (fun y _ e => (A.m y).2 (.inl e))
  refine hk ⟨fun y => y = j ∨ inBlk p1 y ∨ XD1.M y, fun _ => False⟩ ⟨XD1, p1, c1, b2, ?_, D2, ok, fun y => Iff.rfl, fun _ => id, ?_, j2, ?_⟩ ⟨fr, ?_, fun y hy => hy.elim, fun y hy => (A.dd y hy).elim⟩
  · rcases hp with ⟨rfl, rfl, e⟩ | ⟨rfl, rfl, e⟩
    · rw [e]; exact o2
    · rw [e]; exact .nil rfl rfl rfl rfl
  · rcases hp with ⟨rfl, rfl, e⟩ | ⟨rfl, rfl, e⟩
    · exact A.j1
    · rintro ⟨a, e, _⟩; cases e
  · rcases hp with ⟨rfl, rfl, e⟩ | ⟨rfl, rfl, e⟩
    · exact jp
    · rintro y ⟨a, e, _⟩; cases e
  · rintro y (q | q | q)
    · exact .inl ((A.m y).2 (.inl q))
    · rcases hp with ⟨rfl, rfl, e⟩ | ⟨rfl, rfl, e⟩
      · exact .inl ((A.m y).2 (.inr (.inl q)))
      · obtain ⟨a, e, _⟩ := q; cases e
    · exact (st.newM y q).imp (fun q => (A.m y).2 (.inr (.inr q))) id
def jn0 : JN := ⟨1, 0, 0, [], 0, 0, 0, 0, 0, 0, 0⟩
theorem jn0_ok (h4 : 4 ≤ n) (h5 : n ≤ 4096) : jn0.ok n := ⟨h4, h5, Nat.le_refl _, by decide, by decide, Nat.zero_le _, Nat.zero_le _, Nat.zero_le _, by decide⟩
theorem made_ok (H : Dk h d XD n s) (h4 : 4 ≤ n) (h5 : n ≤ 4096) (hk : ∀ g j X, JnA g j d X XD n jn0 s none 0 → Fr No h g → h.size ≤ j → R (pt j) g) :
    Cl 65 #[.pointer (some ⟨d, 0, none⟩), .agg #[.int .u64 1, .int .i64 0, .int .i64 0]] h R := by
  refine journal_made.walk (s := ⟨1, 0, 0⟩) (super_Super.boxp fun b h1 e1 b0 f1 => halves_call (H.on f1) h4 h5 fun h2 f2 => area_Area.ex (halves n).1.S (area_Area.ex (halves n).2.S ⟨_, rfl, newP_of (newP_of ?_)⟩))
  have f3 : Fr No h2 (h2.push (.cells area_Area.S.z.arr 153)) := Fr.push _ _
  generalize hg3 : h2.push (.cells area_Area.S.z.arr 153) = g3 at f3 ⊢
  have a3 : area_Area.atp g3 h2.size area_Area.S.z := hg3 ▸ push_new
  have f4 : Fr No g3 (g3.push (.cells area_Area.S.z.arr 153)) := Fr.push _ _
  generalize hg4 : g3.push (.cells area_Area.S.z.arr 153) = g4 at f4 ⊢
  have a4 : area_Area.atp g4 g3.size area_Area.S.z := hg4 ▸ push_new
  have ne : h2.size < g3.size := by rw [← hg3]; simp
  have z1 := f1.1
  have z2 := f2.1
  have z4 := f4.1
  have lb : b < h1.size := (Array.getElem?_eq_some_iff.1 b0).1
  refine area_Area.setp (x := (halves n).1.S) (f4.get a3 id) fun g5 a5 f5 z5 => ?_
  refine area_Area.setp (x := (halves n).2.S) (f5.get a4 (by omega)) fun g6 a6 f6 z6 => ?_
  have b6 : super_Super.atp g6 b ⟨1, 0, 0⟩ := f6.get (f5.get (f4.get (f3.get (f2.get b0 id) id) id) (by omega)) (by omega)
  refine area_Area.ldp (f6.get a5 (by omega)) (area_Area.ldp a6 (super_Super.ldp b6 (newP_of ?_)))
  have F6 : Fr No h g6 := (((((f1.tt f2).tt f3).tt f4).fresh (S := fun y => y = h2.size) f5 (fun y hy => by omega)).fresh f6 fun y hy => by omega)
  have f7 : Fr No g6 (g6.push (.cells ((jn0).S d n none 0).arr 158)) := Fr.push _ _
  have u6 := F6.1
  have F7 := F6.tt f7
  have D7 := H.on F7
  refine hk _ g6.size ⟨fun y => y = g6.size ∨ inBlk none y ∨ XD.M y, fun _ => False⟩ ⟨push_new, .nil rfl rfl rfl rfl, D7, jn0_ok h4 h5, fun y => Iff.rfl, fun _ => id, ?_, ?_, ?_⟩ F7 u6
  · rintro ⟨a, e, _⟩; cases e
  · intro q; have := H.lt _ q; omega
  · rintro y ⟨a, e, _⟩; cases e
theorem Format_ok (H : Dk h d XD n s) (h4 : 4 ≤ n) (h5 : n ≤ 4096) (hw : s.W.length ≤ 1000)
    (hk : ∀ g j X, Jn g j d X n jn0 (s.put 1 (supB ⟨1, 0, 0⟩)).sync → StepF XD h X g → R (.tuple #[pt j, .int .i64 0]) g) : Cl 28 #[.pointer (some ⟨d, 0, none⟩)] h R := by
  refine journal_Format.walk (sectors_ok H ⟨_, rfl, ?_⟩)
  rw [if_neg (by simp; omega)]
  refine made_ok H h4 h5 fun h1 j X A f1 lj => ⟨_, rfl, onSome_some.2 ?_⟩
  have jl : j < h1.size := (Array.getElem?_eq_some_iff.1 A.blk).1
  refine super_Super.ldAp (x := ⟨1, 0, 0⟩) ⟨cell_at A.blk rfl, cell_at A.blk rfl, cell_at A.blk rfl, trivial⟩ (Put_ok (x := ⟨1, 0, 0⟩) A.dk (by omega) ⟨by decide, by decide, by decide, by decide⟩ (by omega) fun h2 X2 D2 st2 => ⟨_, rfl, ?_⟩)
  rw [if_neg (by decide)]
  refine dsync_ok D2 (by omega) (by show (s.W ++ _).length ≤ _; simp; omega) fun h3 X3 D3 st3 => ⟨_, rfl, ?_⟩
  have st := st2.trans st3
  refine A.put D3 st (Fr.refl _ h3) (st.fr.get A.blk A.j2) (.inl ⟨rfl, rfl, rfl⟩) A.ok fun X' J' st' => hk h3 j X' J' ?_
  have u1 := f1.1
  refine ⟨f1.no st.fr, fun y hy => ?_, fun y hy => (J'.nd y hy).elim, fun y hy => (H.nd y hy).elim⟩
  rcases st'.newM y hy with q | q
  · rcases (A.m y).1 q with rfl | ⟨a, e, _⟩ | q
    · exact .inr lj
    · cases e
    · exact .inl q
  · exact .inr (by omega)
theorem amade {p : Option Addr} {c : Nat} {x : JN} (A : JnA h j d X XD n x s p c) (hk : R (.bool true) h) : Cl 101 #[.pointer (some ⟨j, 0, none⟩)] h R :=
  journal_Journal_made.walk ⟨_, cell_at A.blk rfl, hk⟩
theorem Done_ok {x : JN} (H : Jn h j d X n x s) (hk : R (.int .i64 x.done) h) : Cl 73 #[.pointer (some ⟨j, 0, none⟩)] h R := by
  obtain ⟨XD, p, c, A⟩ := H
  refine journal_Journal_Done.walk (amade A ⟨_, rfl, ?_⟩)
  rw [if_neg (by decide)]
  exact ⟨_, cell_at A.blk rfl, hk⟩
theorem tail_ok {p : Option Addr} {c : Nat} {x : JN} (A : JnA h j d X XD n x s p c) (hk : R (.tuple #[.int .i64 (x.tl.1 : Int), .int .i64 (x.tl.2 : Int)]) h) : Cl 155 #[.pointer (some ⟨j, 0, none⟩)] h R := by
  have o1 := A.ok.le
  have o2 := A.ok.pl
  have o3 := A.ok.nx
  have o4 := A.ok.n5
  unfold room at o1 o2 o3
  unfold JN.tl at hk o3
  refine journal_Journal_tail.walk ⟨_, cell_at A.blk rfl, ?_⟩
  by_cases c0 : x.stage = 0
  · rw [if_pos c0] at hk o3
    rw [if_neg (by show ¬ ((x.stage : Int) != 0) = true; simp [c0])]
    refine ⟨_, cell_at A.blk rfl, _, cell_at A.blk rfl, _, _, _, cell_at A.blk rfl, ?_⟩
    show R (.tuple #[.int .i64 (x.area : Int), .int .i64 (IntKind.wrap .i64 ((x.len : Int) + (x.next.length : Int)))]) h
    dsimp only at o3
    rw [wrap_id (by omega) (by omega)]
    exact hk
  · rw [if_neg c0] at hk o3
    rw [if_pos (by show ((x.stage : Int) != 0) = true; simp [c0])]
    refine ⟨_, cell_at A.blk rfl, _, cell_at A.blk rfl, _, _, _, cell_at A.blk rfl, ?_⟩
    show R (.tuple #[.int .i64 (x.half : Int), .int .i64 (IntKind.wrap .i64 ((x.plen : Int) + (x.next.length : Int)))]) h
    dsimp only at o3
    rw [wrap_id (by omega) (by omega)]
    exact hk
theorem area_ld {p : Option Addr} {c k : Nat} {x : JN} {K : area_Area.S → Prop} (A : JnA h j d X XD n x s p c) (hk1 : k ≤ 1) (hk : K (hv n k).S) : area_Area.LDp h ((⟨j, 1, none⟩ : Addr).add (Int.toNat (k : Int) * 2)) K := by
  unfold hv at hk
  by_cases c0 : k = 0
  · subst c0
    exact area_Area.ldAp (x := (halves n).1.S) ⟨cell_at A.blk rfl, cell_at A.blk rfl, trivial⟩ hk
  · obtain rfl : k = 1 := by omega
    exact area_Area.ldAp (x := (halves n).2.S) ⟨cell_at A.blk rfl, cell_at A.blk rfl, trivial⟩ hk
theorem hv_ok (h4 : 4 ≤ n) (k : Nat) : (hv n k).ok n ∧ (hv n k).count * 128 = room n := by
  unfold hv
  have := halves_ok h4
  split
  · exact ⟨this.1, rfl⟩
  · exact ⟨this.2, rfl⟩
theorem JN.ok.tl1 {x : JN} (o : x.ok n) : x.tl.1 ≤ 1 := by unfold JN.tl; split; exact o.ar; exact o.hf
def JN.fits (x : JN) (n m : Nat) : Prop := 1 ≤ m ∧ m ≤ 2000 ∧ m + 2 + x.tl.2 ≤ room n
theorem Fits_ok {x : JN} {m : Nat} (H : Jn h j d X n x s) (hf : x.fits n m) (hk : ∀ g, Fr No h g → R (.bool true) g) : Cl 124 #[.pointer (some ⟨j, 0, none⟩), .int .i64 (m : Int)] h R := by
  obtain ⟨XD, p, c, A⟩ := H
  obtain ⟨f1, f2, f3⟩ := hf
  refine journal_Journal_Fits.walk (JoinP.of fun J hJ => amade A ⟨_, rfl, ?_⟩)
  rw [if_neg (by decide), if_neg (by simp; omega), decide_eq_false (by omega)]
  subst hJ
  dsimp only
  rw [if_neg (by decide)]
  have t1 := A.ok.tl1
  have n5 := A.ok.n5
  have o3 := A.ok.nx
  have hh := hv_ok A.ok.n4 x.tl.1
  have rl : room n ≤ 300000 := by unfold room; omega
  refine tail_ok A ⟨_, _, rfl, ⟨by omega, by omega⟩, area_ld A t1 (room_ok hh.1.2.2.1 (by have := hh.1.2.2.2; omega) fun g fg => ⟨_, rfl, ?_⟩)⟩
  rw [hh.2, wrap_id (by omega) (by omega), wrap_id (by omega) (by omega), decide_eq_true (by omega)]
  exact hk g fg
end Jnl
end Go.Proofs.YtaphjamdblgiiaaGreatDoor
namespace Go.Proofs.YtaphjamdblgiiaaGreatDoor
open Go.Den
open IntKind (wrap)
open Int (toNat)
section
namespace Jnl
open Dsk Area Sup
variable {h h0:Heap} {R:TyP} {d n j:Nat} {X XD:Ft} {s:DS}
variable {p:TyO} {l c:Nat} {b:TyL}
def frameB (b : List UInt8) : List UInt8 := [UInt8.ofNat (b.length / 256), UInt8.ofNat b.length] ++ b
theorem frameB_len (b : List UInt8) : (frameB b).length = b.length + 2 := by simp [frameB]
theorem isRecord_ok (h1 : 1 ≤ l) (h2 : l ≤ 2000) (hk : R (.bool true) h) : Cl 128 #[.slice p l c] h R := by
  refine journal_isRecord.walk ?_
  rw [if_pos (decide_eq_true (by omega)), decide_eq_true (by omega)]
  exact hk
theorem frame_ok (row : Row h p (bc b)) (hl : l = b.length) (h1 : 1 ≤ b.length) (h2 : b.length ≤ 2000)
    (hk : ∀ p' c' g, Own g p' (frameB b).length c' 1 (bc (frameB b)) → Fr No h g → (∀ y, inBlk p' y → h.size ≤ y) → R (.slice p' (frameB b).length c') g) : Cl 129 #[.slice p l c] h R := by
  subst hl
  have e1 : IntKind.wrap .u8 (Int.fdiv ((b.length : Nat) : Int) (2 ^ min (Int.toNat 8) (IntKind.bits .i64))) = ((UInt8.ofNat (b.length / 256)).toNat : Int) := by
    rw [show min (Int.toNat 8) (IntKind.bits .i64) = 8 from rfl, Bt.fdiv2, wu8n]
  refine journal_frame.walk (newP_of ?_)
  rw [e1, wu8n]
  have f1 : Fr No h (h.push (.cells #[.int .u8 ((UInt8.ofNat (b.length / 256)).toNat : Int), .int .u8 ((UInt8.ofNat b.length).toNat : Int)] 5)) := Fr.push _ _
  have r : Row (h.push (.cells #[.int .u8 ((UInt8.ofNat (b.length / 256)).toNat : Int), .int .u8 ((UInt8.ofNat b.length).toNat : Int)] 5)) (some ⟨h.size, 0, none⟩) (bc [UInt8.ofNat (b.length / 256), UInt8.ofNat b.length]) := row_new (cs := bc [UInt8.ofNat (b.length / 256), UInt8.ofNat b.length])
  refine den_appendS Fld.tU Fld.uU (bs := [UInt8.ofNat (b.length / 256), UInt8.ofNat b.length]) ⟨rfl, .inr ⟨r, rfl⟩⟩ (row.frame f1 (fun _ _ => id)) rfl h1 (by omega) fun p' c' g o f gr => ⟨_, _, _, rfl, ?_⟩
  have nb : ∀ y, inBlk (some ⟨h.size, 0, none⟩) y → h.size ≤ y := fun y ⟨a, e, hy⟩ => by cases e; exact hy ▸ Nat.le_refl _
  have u1 := f1.1
  exact hk p' c' g o (f1.fresh f nb) fun y hy => (gr y hy).elim (nb y) (fun q => by omega)
def JN.app (x : JN) (b : List UInt8) : JN := { x with next := x.next ++ frameB b, all := x.all + 1 }
theorem JN.ok.app {x : JN} (o : x.ok n) (hf : x.fits n b.length) : (x.app b).ok n := by
  refine ⟨o.n4, o.n5, o.g1, o.ar, o.hf, o.le, o.pl, ?_, o.st⟩
  have := hf.2.2
  unfold JN.tl JN.app at *
  dsimp only
  rw [List.length_append, frameB_len]
  split <;> (rename_i e; first | rw [if_pos e] at this | rw [if_neg e] at this) <;> dsimp only at this ⊢ <;> omega
theorem Append_ok {x : JN} (H : Jn h j d X n x s) (hf : x.fits n b.length) (hl : l = b.length) (row : Row h p (bc b)) (ha : x.all ≤ 1000000000)
    (hk : ∀ g X', Jn g j d X' n (x.app b) s → StepF X h X' g → R (.tuple #[.int .i64 ((x.all + 1 : Nat) : Int), .int .i64 0]) g) : Cl 91 #[.pointer (some ⟨j, 0, none⟩), .slice p l c] h R := by
  subst hl
  have H0 := H
  obtain ⟨XD, q, cq, A⟩ := H0
  refine journal_Journal_Append.walk (amade A ⟨_, rfl, ?_⟩)
  rw [if_neg (by decide)]
  refine isRecord_ok hf.1 hf.2.1 ⟨_, rfl, ?_⟩
  rw [if_neg (by decide)]
  refine Fits_ok H hf fun h1 f1 => ⟨_, rfl, ?_⟩
  rw [if_neg (by decide)]
  have b1 := f1.get A.blk id
  refine ⟨q, x.next.length, cq, cell_at b1 rfl, frame_ok (row.frame f1 (fun _ _ => id)) rfl hf.1 hf.2.1 fun p2 c2 h2 o2 f2 g2 => ⟨_, _, _, rfl, f2.kp, ?_⟩⟩
  have F2 := f1.tt f2
  have b2 := f2.get b1 id
  have o3 := A.ok.nx
  have n5 := A.ok.n5
  have f3 := hf.2.2
  have rl : room n ≤ 300000 := by unfold room; omega
  have nl : x.next.length ≤ room n := by unfold JN.tl at o3; split at o3 <;> dsimp only at o3 <;> omega
  have fl := frameB_len b
  refine den_appendS Fld.tU Fld.uU (Src.own (A.own.frame F2 (fun _ _ => id)) rfl) o2.row' rfl (by omega) (by omega) fun p3 c3 h3 o3 f3 g3 => ⟨_, _, _, rfl, ?_⟩
  have b3 := f3.get b2 A.j1
  refine storeP_l b3 (by show 8 < 16; omega) fun h4 d1 d2 d3 => ⟨_, cell_at d1 rfl, storeP_l d1 (by show 14 < 16; omega) fun h5 q1 q2 q3 => ⟨_, cell_at q1 rfl, ?_⟩⟩
  have ew : IntKind.wrap .i64 ((x.all : Int) + 1) = ((x.all + 1 : Nat) : Int) := by rw [wrap_id (by omega) (by omega)]; omega
  change h5[j]? = some (.cells (journal_Journal.S.arr ⟨some ⟨d, 0, none⟩, ((halves n).1.first : Int), ((halves n).1.count : Int), ((halves n).2.first : Int), ((halves n).2.count : Int), x.gen, x.area, x.len, p3, (x.next ++ frameB b).length, c3, x.half, x.at_, x.plen, x.pdone, x.stage, IntKind.wrap .i64 ((x.all : Int) + 1), x.done⟩) _ _) at q1
  show R (.tuple #[.int .i64 (IntKind.wrap .i64 ((x.all : Int) + 1)), .int .i64 0]) h5
  rw [ew] at q1 ⊢
  have f5 : Fr (fun y => y = j) h3 h5 := (Fr.of_eq d2 d3).tt (Fr.of_eq q2 q3)
  have u2 := F2.1
  have u3 := f3.1
  have jl : j < h.size := (Array.getElem?_eq_some_iff.1 A.blk).1
  have g3' : ∀ y, inBlk p3 y → inBlk q y ∨ h.size ≤ y := fun y hy => (g3 y hy).imp id (fun e => by omega)
  have n3 : ¬ inBlk p3 j := fun e => (g3' j e).elim A.j1 (fun e => by omega)
  have nd : ∀ y, inBlk p3 y → ¬ XD.M y := fun y hy hx => (g3' y hy).elim (fun e => A.jp y e hx) (fun e => by have := A.dk.lt y hx; omega)
  have D5 : Dk h5 d XD n s := ((A.dk.on F2).frame f3 (fun y hy e => A.jp y e hy)).frame f5 (fun y hy e => A.j2 (e ▸ hy))
  have fr : Fr X.M h h5 := (F2.no f3).trans f5 (fun y _ hy => (A.m y).2 (.inr (.inl hy))) (fun y _ e => (A.m y).2 (.inl e))
  refine hk h5 ⟨fun y => y = j ∨ inBlk p3 y ∨ XD.M y, fun _ => False⟩ ⟨XD, p3, c3, q1, o3.frame f5 (fun y hy e => n3 (e ▸ hy)), D5, A.ok.app hf, fun y => Iff.rfl, fun _ => id, n3, A.j2, nd⟩ ⟨fr, ?_, fun y hy => hy.elim, fun y hy => (A.dd y hy).elim⟩
  rintro y (e | e | e)
  · exact .inl ((A.m y).2 (.inl e))
  · exact (g3' y e).imp (fun e => (A.m y).2 (.inr (.inl e))) id
  · exact .inl ((A.m y).2 (.inr (.inr e)))
def JN.step0 (x : JN) : JN := { x with next := [], half := x.area, at_ := x.len, plen := x.len + x.next.length, pdone := x.all, stage := 1 }
def JN.step3 (x : JN) : JN := { x with gen := x.gen + 1, area := x.half, len := x.plen, done := x.pdone, half := 0, at_ := 0, plen := 0, pdone := 0, stage := 0 }
def JN.step (n : Nat) (x : JN) (s : DS) : JN × DS :=
  if x.stage = 0 then (x.step0, putA (hv n x.area).first x.next.length s x.len x.next)
  else if x.stage = 1 then ({ x with stage := 2 }, s.sync)
  else if x.stage = 2 then ({ x with stage := 3 }, s.put ((x.gen + 1) % 2) (supB ⟨x.gen + 1, x.half, x.plen⟩))
  else (x.step3, s.sync)
variable {x:JN}
theorem begin_ok (A : JnA h j d X XD n x s p c) (h0 : x.stage = 0) (hw : s.W.length + x.next.length ≤ 100000)
    (hk : ∀ g X', Jn g j d X' n x.step0 (putA (hv n x.area).first x.next.length s x.len x.next) → StepF X h X' g → R (.int .i64 0) g) :
    Cl 105 #[.pointer (some ⟨j, 0, none⟩), .int .i64 (x.area : Int), .int .i64 (x.len : Int), .slice p x.next.length c] h R := by
  have n5 := A.ok.n5
  have ar := A.ok.ar
  have o3 := A.ok.nx
  have hh := hv_ok A.ok.n4 x.area
  have rl : room n ≤ 300000 := by unfold room; omega
  unfold JN.tl at o3
  rw [if_pos h0] at o3
  dsimp only at o3
  refine journal_Journal_begin.walk ⟨_, cell_at A.blk rfl, ⟨by omega, by omega⟩, area_ld A ar (put_ok A.dk hh.1 n5 rfl A.own.le (by rw [hh.2]; exact o3) hw A.own.row' (fun y hy => ⟨A.own.blk_lt hy, A.jp y hy⟩) fun h1 X1 D1 w1 st1 => ⟨_, rfl, ?_⟩)⟩
  rw [if_neg (by decide)]
  have b1 := st1.fr.get A.blk A.j2
  refine ⟨_, cell_at b1 rfl, ?_⟩
  have ew : IntKind.wrap .i64 ((x.len : Int) + ((x.next.length : Nat) : Int)) = ((x.len + x.next.length : Nat) : Int) := by rw [wrap_id (by omega) (by omega)]; omega
  rw [ew]
  refine storeL_li (b := j) (o := 9) _ 0 h1 _ _ b1 (by show 9 + 0 + 4 ≤ 16; omega) rfl fun h2 b2 z2 q2 => ?_
  replace b2 : journal_Journal.atp h2 j ⟨some ⟨d, 0, none⟩, ((halves n).1.first : Int), ((halves n).1.count : Int), ((halves n).2.first : Int), ((halves n).2.count : Int), x.gen, x.area, x.len, p, x.next.length, c, x.area, x.len, ((x.len + x.next.length : Nat) : Int), x.all, x.stage, x.all, x.done⟩ := b2
  refine storeP_l b2 (by show 8 < 16; omega) fun h3 b3 z3 q3 => ?_
  replace b3 : journal_Journal.atp h3 j ⟨some ⟨d, 0, none⟩, ((halves n).1.first : Int), ((halves n).1.count : Int), ((halves n).2.first : Int), ((halves n).2.count : Int), x.gen, x.area, x.len, none, 0, 0, x.area, x.len, ((x.len + x.next.length : Nat) : Int), x.all, x.stage, x.all, x.done⟩ := b3
  refine storeP_l b3 (by show 13 < 16; omega) fun h4 b4 z4 q4 => ?_
  have f4 : Fr (fun y => y = j) h1 h4 := ((Fr.of_eq z2 q2).tt (Fr.of_eq z3 q3)).tt (Fr.of_eq z4 q4)
  exact A.put (x1 := x.step0) D1 st1 f4 b4 (.inr ⟨rfl, rfl, rfl⟩) ⟨A.ok.n4, n5, A.ok.g1, ar, ar, A.ok.le, o3, o3, by show 1 ≤ 3; omega⟩ fun X' J' st' => hk h4 X' J' st'
theorem sure_ok (b0 : journal_Journal.atp h j (x.S d n p c)) (hg : x.gen < 1099511627776)
    (hk : ∀ g, journal_Journal.atp g j (x.step3.S d n p c) → Fr (fun y => y = j) h g → R (.tuple #[]) g) : Cl 106 #[.pointer (some ⟨j, 0, none⟩)] h R := by
  have ew : IntKind.wrap .u64 ((x.gen : Int) + 1) = ((x.gen + 1 : Nat) : Int) := by rw [wrap_u64 (by omega) (by omega)]; omega
  refine journal_Journal_sure.walk ⟨_, cell_at b0 rfl, _, cell_at b0 rfl, _, cell_at b0 rfl, ?_⟩
  rw [show (x.S d n p c).f5 = (x.gen : Int) from rfl, ew]
  refine storeL_li (b := j) (o := 5) _ 0 h _ _ b0 (by show 5 + 0 + 3 ≤ 16; omega) rfl fun h1 b1 z1 q1 => ?_
  replace b1 : journal_Journal.atp h1 j ⟨some ⟨d, 0, none⟩, ((halves n).1.first : Int), ((halves n).1.count : Int), ((halves n).2.first : Int), ((halves n).2.count : Int), ((x.gen + 1 : Nat) : Int), x.half, x.plen, p, x.next.length, c, x.half, x.at_, x.plen, x.pdone, x.stage, x.all, x.done⟩ := b1
  refine ⟨_, cell_at b1 rfl, storeP_l b1 (by show 15 < 16; omega) fun h2 b2 z2 q2 => ?_⟩
  replace b2 : journal_Journal.atp h2 j ⟨some ⟨d, 0, none⟩, ((halves n).1.first : Int), ((halves n).1.count : Int), ((halves n).2.first : Int), ((halves n).2.count : Int), ((x.gen + 1 : Nat) : Int), x.half, x.plen, p, x.next.length, c, x.half, x.at_, x.plen, x.pdone, x.stage, x.all, x.pdone⟩ := b2
  refine storeL_li (b := j) (o := 9) _ 0 h2 _ _ b2 (by show 9 + 0 + 4 ≤ 16; omega) rfl fun h3 b3 z3 q3 => ?_
  replace b3 : journal_Journal.atp h3 j ⟨some ⟨d, 0, none⟩, ((halves n).1.first : Int), ((halves n).1.count : Int), ((halves n).2.first : Int), ((halves n).2.count : Int), ((x.gen + 1 : Nat) : Int), x.half, x.plen, p, x.next.length, c, 0, 0, 0, 0, x.stage, x.all, x.pdone⟩ := b3
  refine storeP_l b3 (by show 13 < 16; omega) fun h4 b4 z4 q4 => ?_
  exact hk h4 b4 (((Fr.of_eq z1 q1).tt (Fr.of_eq z2 q2)).tt ((Fr.of_eq z3 q3).tt (Fr.of_eq z4 q4)))
theorem Step_ok (H : Jn h j d X n x s) (hn : x.stage = 0 → x.next ≠ []) (hg : x.gen < 1099511627776) (hw : s.W.length + x.next.length ≤ 100000)
    (hk : ∀ g X', Jn g j d X' n (x.step n s).1 (x.step n s).2 → StepF X h X' g → R (.tuple #[.int .i64 ((x.step n s).1.stage : Int), .int .i64 0]) g) : Cl 81 #[.pointer (some ⟨j, 0, none⟩)] h R := by
  obtain ⟨XD, p, c, A⟩ := H
  have n5 := A.ok.n5
  have n4 := A.ok.n4
  have st4 := A.ok.st
  refine journal_Journal_Step.walk (amade A ⟨_, rfl, ?_⟩)
  rw [if_neg (by decide)]
  refine ⟨_, cell_at A.blk rfl, JoinP.of fun J hJ => JoinP.of fun J1 hJ1 => ?_⟩
  have fin : ∀ g X', Jn g j d X' n (x.step n s).1 (x.step n s).2 → StepF X h X' g → J1 0 g := fun g X' J' st' => by
    subst hJ1 hJ
    dsimp only
    have J0 := J'
    obtain ⟨_, _, _, B⟩ := J0
    exact ⟨_, cell_at B.blk rfl, hk g X' J' st'⟩
  by_cases c0 : x.stage = 0
  · rw [if_pos (by show ((x.stage : Int) == 0) = true; simp [c0])]
    refine ⟨p, x.next.length, c, cell_at A.blk rfl, ?_⟩
    have l0 : 0 < x.next.length := List.length_pos_iff.2 (hn c0)
    rw [if_neg (by simp; exact hn c0)]
    refine ⟨_, cell_at A.blk rfl, _, cell_at A.blk rfl, _, _, _, cell_at A.blk rfl, begin_ok A c0 hw fun g X' J' st' => ⟨_, rfl, fin g X' ?_ st'⟩⟩
    unfold JN.step
    rw [if_pos c0]
    exact J'
  rw [if_neg (by show ¬ ((x.stage : Int) == 0) = true; simp [c0])]
  refine JoinP.of fun J2 hJ2 => ?_
  have fin2 : ∀ g X', Jn g j d X' n (x.step n s).1 (x.step n s).2 → StepF X h X' g → J2 0 g := fun g X' J' st' => by
    subst hJ2
    exact fin g X' J' st'
  by_cases c1 : x.stage = 1
  · rw [if_pos (by show ((x.stage : Int) == 1) = true; simp [c1])]
    refine ⟨_, cell_at A.blk rfl, dsync_ok A.dk (by omega) (by omega) fun h1 X1 D1 st1 => ⟨_, rfl, storeP_l (st1.fr.get A.blk A.j2) (by show 13 < 16; omega) fun h2 b2 z2 q2 => ?_⟩⟩
    refine A.put (x1 := { x with stage := 2 }) D1 st1 (Fr.of_eq z2 q2) b2 (.inl ⟨rfl, rfl, rfl⟩) ⟨n4, n5, A.ok.g1, A.ok.ar, A.ok.hf, A.ok.le, A.ok.pl, ?_, by show 2 ≤ 3; omega⟩ fun X' J' st' => fin2 h2 X' ?_ st'
    · have := A.ok.nx; unfold JN.tl at this ⊢; rw [if_neg c0] at this; exact this
    · unfold JN.step; rw [if_neg c0, if_pos c1]; exact J'
  rw [if_neg (by show ¬ ((x.stage : Int) == 1) = true; simp; omega)]
  refine JoinP.of fun J3 hJ3 => ?_
  have fin3 : ∀ g X', Jn g j d X' n (x.step n s).1 (x.step n s).2 → StepF X h X' g → J3 0 g := fun g X' J' st' => by
    subst hJ3
    exact fin2 g X' J' st'
  by_cases c2 : x.stage = 2
  · rw [if_pos (by show ((x.stage : Int) == 2) = true; simp [c2])]
    refine ⟨_, cell_at A.blk rfl, _, cell_at A.blk rfl, _, cell_at A.blk rfl, _, cell_at A.blk rfl, ?_⟩
    have ew : IntKind.wrap .u64 ((x.gen : Int) + 1) = ((x.gen + 1 : Nat) : Int) := by rw [wrap_u64 (by omega) (by omega)]; omega
    have pl := A.ok.pl
    have rl : room n ≤ 300000 := by unfold room; omega
    show Cl 66 #[.pointer (some ⟨d, 0, none⟩), .agg #[.int .u64 (IntKind.wrap .u64 ((x.gen : Int) + 1)), .int .i64 (x.half : Int), .int .i64 (x.plen : Int)]] h _
    rw [ew]
    refine Put_ok (x := ⟨x.gen + 1, x.half, x.plen⟩) A.dk (by omega) ⟨by show 1 ≤ x.gen + 1; omega, by show x.gen + 1 ≤ _; omega, A.ok.hf, by show x.plen ≤ _; omega⟩ (by omega) fun h1 X1 D1 st1 => ⟨_, rfl, ?_, storeP_l (st1.fr.get A.blk A.j2) (by show 13 < 16; omega) fun h2 b2 z2 q2 => ?_⟩
    · refine st1.fr.kps fun q hq y e hx => ?_
      have : y.block = j := by
        rcases List.mem_cons.1 hq with rfl | hq
        · cases e; rfl
        rcases List.mem_cons.1 hq with rfl | hq
        · cases e; rfl
        rcases List.mem_cons.1 hq with rfl | hq
        · cases e; rfl
        cases hq
      exact A.j2 (this ▸ hx)
    refine A.put (x1 := { x with stage := 3 }) D1 st1 (Fr.of_eq z2 q2) b2 (.inl ⟨rfl, rfl, rfl⟩) ⟨n4, n5, A.ok.g1, A.ok.ar, A.ok.hf, A.ok.le, A.ok.pl, ?_, by show 3 ≤ 3; omega⟩ fun X' J' st' => fin3 h2 X' ?_ st'
    · have := A.ok.nx; unfold JN.tl at this ⊢; rw [if_neg c0] at this; exact this
    · unfold JN.step; rw [if_neg c0, if_neg c1, if_pos c2]; exact J'
  rw [if_neg (by show ¬ ((x.stage : Int) == 2) = true; simp; omega)]
  refine ⟨_, cell_at A.blk rfl, dsync_ok A.dk (by omega) (by omega) fun h1 X1 D1 st1 => ⟨_, rfl, sure_ok (st1.fr.get A.blk A.j2) hg fun h2 b2 f2 => ⟨rfl, ?_⟩⟩⟩
  refine A.put (x1 := x.step3) D1 st1 f2 b2 (.inl ⟨rfl, rfl, rfl⟩) ⟨n4, n5, by show 1 ≤ x.gen + 1; omega, A.ok.hf, Nat.zero_le _, A.ok.pl, Nat.zero_le _, ?_, Nat.zero_le _⟩ fun X' J' st' => fin3 h2 X' ?_ st'
  · have := A.ok.nx; unfold JN.tl at this ⊢; rw [if_neg c0] at this; exact this
  · unfold JN.step; rw [if_neg c0, if_neg c1, if_neg c2]; exact J'

end Jnl
end
section
namespace Flu
open Dsk Area Sup Jnl
variable {h:Heap} {R:TyP} {d n:Nat} {X:Ft} {s:DS}
theorem half_ok (H : Dk h d X n s) (h4 : 4 ≤ n) (h5 : n ≤ 4096) (hk : ∀ g, Fr No h g → R (.int .i64 (room n : Int)) g) : Cl 29 #[.pointer (some ⟨d, 0, none⟩)] h R := by
  refine flush_half.walk (halves_call H h4 h5 fun h2 f2 => area_Area.ex (halves n).1.S (area_Area.ex (halves n).2.S ⟨_, rfl, newP_of (newP_of ?_)⟩))
  have f3 : Fr No h2 (h2.push (.cells area_Area.S.z.arr 153)) := Fr.push _ _
  generalize hg3 : h2.push (.cells area_Area.S.z.arr 153) = g3 at f3 ⊢
  have a3 : area_Area.atp g3 h2.size area_Area.S.z := hg3 ▸ push_new
  have f4 : Fr No g3 (g3.push (.cells area_Area.S.z.arr 153)) := Fr.push _ _
  generalize hg4 : g3.push (.cells area_Area.S.z.arr 153) = g4 at f4 ⊢
  have a4 : area_Area.atp g4 g3.size area_Area.S.z := hg4 ▸ push_new
  have ne : h2.size < g3.size := by rw [← hg3]; simp
  have z2 := f2.1
  refine area_Area.setp (x := (halves n).1.S) (f4.get a3 id) fun g5 a5 f5 z5 => ?_
  refine area_Area.setp (x := (halves n).2.S) (f5.get a4 (by omega)) fun g6 a6 f6 z6 => ?_
  have F6 : Fr No h g6 := ((((f2.tt f3).tt f4).fresh (S := fun y => y = h2.size) f5 (fun y hy => by omega)).fresh f6 fun y hy => by omega)
  have hh := (halves_ok h4).1
  refine area_Area.ldp (f6.get a5 (by omega)) (room_ok hh.2.2.1 (by have := hh.2.2.2; omega) fun g7 f7 => ⟨_, rfl, ?_⟩)
  exact hk g7 (F6.tt f7)

end Flu
end
section
variable {h:Heap} {R:TyP}
variable {s:Nat} {x:event_Event.S}
theorem arrive_made.walk (hv :
 ∃ t9, hcell h ⟨s, 0, none⟩ = some (.pointer t9) ∧
 ite (!t9.isNone)
 (  ∃ t16, hcell h ⟨s, 1, none⟩ = some (.pointer t16) ∧
 ite (!t16.isNone)
 (  ∃ t23, hcell h ⟨s, 2, none⟩ = some (.pointer t23) ∧
 ite (!t23.isNone)
 (  ∃ t30, hcell h ⟨s, 3, none⟩ = some (.pointer t30) ∧
 ite (!t30.isNone)
 (  ∃ t37, hcell h ⟨s, 4, none⟩ = some (.pointer t37) ∧
 ite (!t37.isNone)
 (  ∃ t44, hcell h ⟨s, 5, none⟩ = some (.pointer t44) ∧
 R (.bool (!t44.isNone)) h)
 (  R (.bool false) h))
 (  R (.bool false) h))
 (  R (.bool false) h))
 (  R (.bool false) h))
 (  R (.bool false) h)) : Cl 130 #[.pointer (some ⟨s, 0, none⟩)] h R :=
 callsN [] hv
theorem arrive_happen.walk {out : Nat} (hv :
 NewP h (.cells x.arr 35) fun b h_1 =>
 ∃ t11, hcell h_1 ⟨b, 1, none⟩ = some (.int .i64 t11) ∧
 JoinP (fun (e : Int) h_2 =>
 R (.int .i64 e) h_2)
 (fun J =>
 JoinP (fun (e_1 : Int) h_3 =>
 J e_1 h_3)
 (fun J_1 =>
 ite (t11 == 1)
 (  ∃ t19, hcell h_1 ⟨s, 0, none⟩ = some (.pointer t19) ∧
 ∃ t21, hcell h_1 ⟨b, 2, none⟩ = some (.int .u64 t21) ∧
 Cl 167 #[.pointer t19, .int .u64 t21] h_1 fun v h_4 =>
 ∃ t22_0 t22_1, v = .tuple #[.int .i64 t22_0, .int .i64 t22_1] ∧
 StoreP h_4 ⟨out, 2, none⟩ (.int .i64 t22_0) fun h_5 =>
 ∃ t29, hcell h_5 ⟨b, 2, none⟩ = some (.int .u64 t29) ∧
 StoreP h_5 ⟨out, 4, none⟩ (.int .u64 t29) fun h_6 =>
 J_1 t22_1 h_6)
 (  JoinP (fun (e_2 : Int) h_7 =>
 J_1 e_2 h_7)
 (fun J_2 =>
 ite (t11 == 2)
 (  ∃ t39, hcell h_1 ⟨s, 0, none⟩ = some (.pointer t39) ∧
 ∃ t41, hcell h_1 ⟨b, 2, none⟩ = some (.int .u64 t41) ∧
 Cl 168 #[.pointer t39, .int .u64 t41] h_1 fun v_1 h_8 =>
 ∃ t42_0 t42_1, v_1 = .tuple #[.int .i64 t42_0, .int .i64 t42_1] ∧
 StoreP h_8 ⟨out, 2, none⟩ (.int .i64 t42_0) fun h_9 =>
 ∃ t49, hcell h_9 ⟨b, 2, none⟩ = some (.int .u64 t49) ∧
 StoreP h_9 ⟨out, 4, none⟩ (.int .u64 t49) fun h_10 =>
 J_2 t42_1 h_10)
 (  JoinP (fun (e_3 : Int) h_11 =>
 J_2 e_3 h_11)
 (fun J_3 =>
 ite (t11 == 3)
 (  ∃ t57, hcell h_1 ⟨s, 0, none⟩ = some (.pointer t57) ∧
 ∃ t59, hcell h_1 ⟨b, 3, none⟩ = some (.int .i64 t59) ∧
 Cl 169 #[.pointer t57, .int .i64 t59] h_1 fun v_2 h_12 =>
 ∃ t60, v_2 = .int .i64 t60 ∧
 J_3 t60 h_12)
 (  JoinP (fun (e_4 : Int) h_13 =>
 J_3 e_4 h_13)
 (fun J_4 =>
 ite (t11 == 4)
 (  ∃ t66, hcell h_1 ⟨b, 3, none⟩ = some (.int .i64 t66) ∧
 request_Request.LDp h_1 ⟨b, 4, none⟩ fun t68 =>
 Cl 170 #[.pointer (some ⟨s, 0, none⟩), .int .i64 t66, t68.agg] h_1 fun v_3 h_14 =>
 reply_Reply.EX fun t69 =>
 v_3 = t69.agg ∧
 reply_Reply.STp h_14 ⟨out, 0, none⟩ t69 fun h_15 =>
 J_4 0 h_15)
 (  JoinP (fun (e_5 : Int) h_16 =>
 J_4 e_5 h_16)
 (fun J_5 =>
 ite (t11 == 5)
 (  ∃ t75_p t75_l t75_c, hcell h_1 ⟨b, 23, none⟩ = some (.slice t75_p t75_l t75_c) ∧
 Cl 171 #[.pointer (some ⟨s, 0, none⟩), .slice t75_p t75_l t75_c, .pointer (some ⟨out, 0, none⟩)] h_1 fun v_4 h_17 =>
 ∃ t77, v_4 = .int .i64 t77 ∧
 J_5 t77 h_17)
 (  JoinP (fun (e_6 : Int) h_18 =>
 J_5 e_6 h_18)
 (fun J_6 =>
 ite (t11 == 6)
 (  Cl 172 #[.pointer (some ⟨s, 0, none⟩)] h_1 fun v_5 h_19 =>
 outbox_Item.EX fun t82_0 =>
 ∃ t82_1, v_5 = .tuple #[t82_0.agg, .int .i64 t82_1] ∧
 NewP h_19 (.cells outbox_Item.S.z.arr 281) fun b_1 h_20 =>
 outbox_Item.STp h_20 ⟨b_1, 0, none⟩ t82_0 fun h_21 =>
 ∃ t88, hcell h_21 ⟨b_1, 0, none⟩ = some (.int .i64 t88) ∧
 ∃ t90_p t90_l t90_c, hcell h_21 ⟨b_1, 2, none⟩ = some (.slice t90_p t90_l t90_c) ∧
 StoreP h_21 ⟨out, 2, none⟩ (.int .i64 t88) fun h_22 =>
 Kp h_21 h_22 [(some ⟨b_1, 2, none⟩)] ∧
 StoreP h_22 ⟨out, 5, none⟩ (.slice t90_p t90_l t90_c) fun h_23 =>
 J_6 t82_1 h_23)
 (  JoinP (fun h_24 =>
 J_6 0 h_24)
 (fun J_7 =>
 ite (t11 == 8)
 (  ∃ t101, hcell h_1 ⟨s, 0, none⟩ = some (.pointer t101) ∧
 Cl 173 #[.pointer t101] h_1 fun v_6 h_25 =>
 v_6 = .tuple #[] ∧
 J_7 h_25)
 (  J_7 h_1)))))))))))))))) : Cl 132 #[.pointer (some ⟨s, 0, none⟩), x.agg, .pointer (some ⟨out, 0, none⟩)] h R :=
 callsN [(7, .join [(7, sI)]), (10, .join [(7, sI)]), (12, fun _ => .planK (runP 15 0 .done)), (16, .join [(7, sI)]), (18, fun _ => .planK (runP 15 0 .done)), (22, .join [(7, sI)]), (23, fun _ => .planK (runP 8 0 .done)), (26, .join [(7, sI)]), (30, .join [(7, sI)]), (34, .join [(7, sI)]), (37, fun _ => .planK (runP 14 0 .done)), (40, .join [])] hv
theorem arrive_Apply.walk (hv :
 NewP h (.cells x.arr 35) fun b h_1 =>
 NewP h_1 (.cells reply_Reply.S.z.arr 37) fun b_1 h_2 =>
 Cl 130 #[.pointer (some ⟨s, 0, none⟩)] h_2 fun v h_3 =>
 ∃ t11, v = .bool t11 ∧
 ite (!t11)
 (  reply_Reply.STp h_3 ⟨b_1, 0, none⟩ reply_Reply.S.z fun h_4 =>
 reply_Reply.LDp h_4 ⟨b_1, 0, none⟩ fun r0 =>
 R (.tuple #[r0.agg, .int .i64 6]) h_4)
 (  event_Event.LDp h_3 ⟨b, 0, none⟩ fun t15 =>
 Cl 123 #[t15.agg] h_3 fun v_1 h_5 =>
 ∃ t16, v_1 = .bool t16 ∧
 ite (!t16)
 (  reply_Reply.STp h_5 ⟨b_1, 0, none⟩ reply_Reply.S.z fun h_6 =>
 reply_Reply.LDp h_6 ⟨b_1, 0, none⟩ fun r0_1 =>
 R (.tuple #[r0_1.agg, .int .i64 3]) h_6)
 (  ∃ t21, hcell h_5 ⟨b, 0, none⟩ = some (.int .u64 t21) ∧
 Cl 131 #[.pointer (some ⟨s, 0, none⟩), .int .u64 t21] h_5 fun v_2 h_7 =>
 ∃ t22, v_2 = .int .i64 t22 ∧
 ite (t22 != 0)
 (  reply_Reply.STp h_7 ⟨b_1, 0, none⟩ reply_Reply.S.z fun h_8 =>
 reply_Reply.LDp h_8 ⟨b_1, 0, none⟩ fun r0_2 =>
 R (.tuple #[r0_2.agg, .int .i64 t22]) h_8)
 (  NewP h_7 (.cells reply_Reply.S.z.arr 37) fun b_2 h_9 =>
 event_Event.LDp h_9 ⟨b, 0, none⟩ fun t28 =>
 Cl 132 #[.pointer (some ⟨s, 0, none⟩), t28.agg, .pointer (some ⟨b_2, 0, none⟩)] h_9 fun v_3 h_10 =>
 ∃ t29, v_3 = .int .i64 t29 ∧
 ite (t29 != 0)
 (  Cl 46 #[.int .u64 0, .int .i64 t29] h_10 fun v_4 h_11 =>
 reply_Reply.EX fun t33 =>
 v_4 = t33.agg ∧
 reply_Reply.STp h_11 ⟨b_1, 0, none⟩ t33 fun h_12 =>
 reply_Reply.LDp h_12 ⟨b_1, 0, none⟩ fun r0_3 =>
 R (.tuple #[r0_3.agg, .int .i64 0]) h_12)
 (  reply_Reply.LDp h_10 ⟨b_2, 0, none⟩ fun t34 =>
 reply_Reply.STp h_10 ⟨b_1, 0, none⟩ t34 fun h_13 =>
 reply_Reply.LDp h_13 ⟨b_1, 0, none⟩ fun r0_4 =>
 R (.tuple #[r0_4.agg, .int .i64 0]) h_13))))) : Cl 92 #[.pointer (some ⟨s, 0, none⟩), x.agg] h R :=
 callsN [] hv

end
section
open Go.Fields
namespace Fld
variable {h h0:Heap} {w r:Nat} {S:Nat→Prop} {bs:TyL} {e:Int} {R:TyP}
variable {p:TyO} {c n:Nat} {K:Heap→Prop}
def Wr (h : Heap) (w : Nat) (S : Nat → Prop) (bs : List UInt8) : Prop :=
  ∃ p c, h[w]? = some (.cells #[.bool true, .slice p bs.length c] 182 (0, 0)) ∧ Own h p bs.length c 1 (bc bs) ∧ ¬ inBlk p w ∧ ∀ x, S x ↔ x = w ∨ inBlk p x
theorem Wr.lt (H : Wr h w S bs) : ∀ x, S x → x < h.size := by
  have ⟨p, c, hb, o, _, hs⟩ := H
  intro x hx
  rcases (hs x).1 hx with rfl | hx
  · grind
  · exact o.blk_lt hx
theorem new_ok (hk : ∀ h' w S, Wr h' w S [] → Fr No h h' → (∀ x, S x → h.size ≤ x) → R (.pointer (some ⟨w, 0, none⟩)) h') : Cl 52 #[] h R := by
  refine fields_New.walk (newP_of (hk _ _ (fun x => x = h.size) ⟨none, 0, push_new, .nil rfl rfl rfl rfl, (fun ⟨a, e, _⟩ => by cases e), fun x => ?_⟩ (Fr.push _ _) (fun x hx => by omega)))
  constructor
  · exact .inl
  · rintro (hx | ⟨a, e, _⟩)
    · exact hx
    · cases e
theorem Wr.store {p':TyO} {c':Nat} {h1 : Heap} {cs : List UInt8} (hb : h[w]? = some (.cells #[.bool true, .slice p bs.length c] 182 (0, 0))) (hw : ¬ inBlk p w) (hs : ∀ x, S x ↔ x = w ∨ inBlk p x)
    (o : Own h1 p' (bs.length + n) c' 1 (bc bs ++ bc cs)) (f : Fr (inBlk p) h h1) (g : ∀ x, inBlk p' x → inBlk p x ∨ h.size ≤ x) (hn : n = cs.length)
    (hk : ∀ h' S', Wr h' w S' (bs ++ cs) → Step S h S' h' → K h') : StoreP h1 ⟨w, 1, none⟩ (.slice p' (bs.length + n) c') K := by
  subst hn
  have hlt := lt_of_get hb
  have hw'  := fun hx => (g w hx).elim hw (fun h2 => by omega)
  refine storeP_blk (f.get hb hw) (by simp) fun h' k1 k2 k3 => ?_
  have f2  := Fr.of_eq k2 k3
  refine hk h' (fun x => x = w ∨ inBlk p' x) ⟨p', c', ?_, ?_, hw', fun x => Iff.rfl⟩ ⟨?_, ?_⟩
  · grind
  · rw [List.length_append, bc_append]
    exact o.frame f2 (fun x hx e => hw' (e ▸ hx))
  · exact f.trans f2 (fun x _ hx => (hs x).2 (.inr hx)) (fun x _ hx => (hs x).2 (.inl hx))
  · grind
theorem Wr.push {x : Int} {b : UInt8} (H : Wr h w S bs) (hl : bs.length ≤ 1099511627786) (hx : x = (b.toNat : Int)) (hk : ∀ h' S', Wr h' w S' (bs ++ [b]) → Step S h S' h' → K h') :
    ∃ (p : Option Addr) (l c : Nat), hcell h ⟨w, 1, none⟩ = some (.slice p l c) ∧
    NewP h (.cells #[.int .u8 x] 5) fun b h_1 =>
    denSem Tryz.prog (Builtin.append_ #[26, 26] 26 #[.slice p l c, .slice (some ⟨b, 0, none⟩) 1 1]) h_1 fun v h_2 =>
    ∃ (q : Option Addr) (m d : Nat), v = .slice q m d ∧ StoreP h_2 ⟨w, 1, none⟩ (.slice q m d) K := by
  have ⟨p, c, hb, o, hw, hs⟩ := H
  refine ⟨p, bs.length, c, cell_at hb rfl, (den_append1 tU uU o rfl (fun v hv => by simp at hv; subst hv; rfl) (by omega) (by omega) ?_)⟩
  intro p' c' h1 o1 f1 g1
  subst hx
  exact ⟨_, _, _, rfl, Wr.store (cs := [b]) hb hw hs o1 f1 g1 rfl hk⟩
def numI (h0 : Heap) (w : Nat) (S0 : Nat → Prop) (bs : List UInt8) (n0 : Nat) (n : Int) (h : Heap) : Prop :=
  ∃ (m : Nat) (S : Nat → Prop) (d : List UInt8), n = (m : Int) ∧ m < 18446744073709551616 ∧ Wr h w S (bs ++ d) ∧ d ++ encNum m = encNum n0 ∧ Step S0 h0 S h
theorem num_ok {n : Int} (k : Nat) (H : Wr h w S bs) (hl : bs.length ≤ 1099511627776) (e : n = (k : Int)) (hn : k < 18446744073709551616)
    (hk : ∀ h' S', Wr h' w S' (bs ++ encNum k) → Step S h S' h' → R (.pointer (some ⟨w, 0, none⟩)) h') : Cl 53 #[.pointer (some ⟨w, 0, none⟩), .int .u64 n] h R := by
  subst e
  refine fields_Writer_Num.walk ?_
  have ⟨p, c, hb, _⟩ := id H
  refine JoinP.of fun J hJ => ⟨true, cell_at hb rfl, ?_⟩
  subst hJ
  refine ⟨numI h w S bs k, fun n _ => n.toNat, ⟨k, S, [], rfl, hn, by grind, rfl, Step.refl _ _⟩, ?_⟩
  rintro _ h2 ⟨m, S2, d, rfl, hm, H2, hd, st⟩
  have hdl  := by
    have := (encNum_len k).2
    omega
  by_cases hgt : (m : Int) > 127
  · simp only [hgt, decide_true, if_true]
    refine H2.push (by grind) (or128 m) fun h5 S5 H5 st5 => ?_
    rw [shr7]
    refine ⟨⟨m / 128, S5, d ++ [UInt8.ofNat (m % 128 + 128)], rfl, by omega, by grind, ?_, st.trans st5⟩, ?_⟩
    · rw [← hd, encNum_step hm, if_pos (by omega)]; simp
    · omega
  · rw [if_neg (by simp only [decide_eq_true_eq]; omega)]
    refine H2.push (by grind) (b := UInt8.ofNat m) (by rfl) fun h5 S5 H5 st5 => (hk h5 S5 ?_ (st.trans st5))
    rwa [← hd, encNum_step hm, if_neg (by omega), ← List.append_assoc]
theorem max0 (n : Int) (h2 : n ≤ 9223372036854775807) : IntKind.wrap .u64 (if 0 > n then 0 else n) = ((natOf n : Nat) : Int) := by
  unfold natOf
  split
  · rw [wrap_u64 (by omega) (by omega)]; omega
  · rw [wrap_u64 (by omega) (by omega)]; omega
theorem int_ok {n : Int} (H : Wr h w S bs) (hl : bs.length ≤ 1099511627776) (hn : n ≤ 9223372036854775807)
    (hk : ∀ h' S', Wr h' w S' (bs ++ encNum (natOf n)) → Step S h S' h' → R (.pointer (some ⟨w, 0, none⟩)) h') : Cl 54 #[.pointer (some ⟨w, 0, none⟩), .int .i64 n] h R :=
  fields_Writer_Int.walk (num_ok (natOf n) H hl (max0 n hn) (by unfold natOf; omega) fun h' S' H' st => ⟨_, rfl, hk h' S' H' st⟩)
theorem text_ok' {t : List UInt8} (H : Wr h w S bs) (hl : bs.length ≤ 1099511627776) (hr : Row h p (bc t)) (hn : n = t.length) (ht : t.length ≤ 1099511627776) (hp : ∀ x, inBlk p x → t ≠ [] → ¬ S x)
    (hk : ∀ h' S', Wr h' w S' (bs ++ encText t) → Step S h S' h' → R (.pointer (some ⟨w, 0, none⟩)) h') : Cl 55 #[.pointer (some ⟨w, 0, none⟩), .slice p n c] h R := by
  subst hn
  refine fields_Writer_Text.walk (num_ok t.length H hl (wrap_u64 (by omega) (by omega)) (by omega) fun h1 S1 H1 st1 => ⟨_, rfl, ?_⟩)
  have ⟨q, d, hb, o, hw, hs⟩ := H1
  refine JoinP.of fun J hJ => ⟨true, cell_at hb rfl, ?_⟩
  subst hJ
  refine JoinP.of fun J hJ => ⟨q, _, d, cell_at hb rfl, ?_⟩
  have hlen := (encNum_len t.length).2
  rw [List.length_append]
  rw [List.length_append] at o
  refine den_append tU uU o (by
    by_cases hne : t = []
    · rw [hne]; exact .inl rfl
    · exact hr.frame st1.fr (fun a e hx => hp _ ⟨a, e, rfl⟩ hne hx)) (by rw [bc_len, Nat.mul_one]) (bc_one t) (by omega) (by omega) ?_
  intro p' c' h' o1 _ f2 g
  refine ⟨_, _, _, rfl, ?_⟩
  rw [List.length_append] at hb
  have := Wr.store (K := fun h_5 => R (Value.pointer (some { block := w, off := 0 })) h_5) (bs := bs ++ encNum t.length) (by simp;omega) hw hs (by simp;omega) f2 g rfl fun h2 S2 H2 st2 => ?_
  · grind
  · exact hk h2 S2 (by rwa [List.append_assoc] at H2) (st1.trans st2)
theorem bytes_ok (H : Wr h w S bs) (hl : bs.length ≤ 70368744177664)
    (hk : ∀ p' c' h', Own h' p' bs.length c' 1 (bc bs) → Fr No h h' → (∀ x, inBlk p' x → h.size ≤ x) → R (.slice p' bs.length c') h') : Cl 56 #[.pointer (some ⟨w, 0, none⟩)] h R := by
  have ⟨p, c, hb, o, hw, hs⟩ := H
  exact fields_Writer_Bytes.walk ⟨p, _, c, cell_at hb rfl, clone_ok o.row' rfl hl fun p' c' h' o1 f1 g1 => ⟨_, _, _, rfl, hk p' c' h' o1 f1 g1⟩⟩
def Rd (h : Heap) (r : Nat) (S : Nat → Prop) (e : Int) (bs : List UInt8) : Prop :=
  ∃ p c, h[r]? = some (.cells #[.int .i64 e, .bool true, .slice p bs.length c] 216 (0, 0)) ∧ Own h p bs.length c 1 (bc bs) ∧ ¬ inBlk p r ∧ S r ∧ (∀ x, inBlk p x → S x) ∧ ∀ x, S x → x < h.size
theorem Rd.lt (H : Rd h r S e bs) : ∀ x, S x → x < h.size := by
  have ⟨p, c, _, _, _, _, _, hs⟩ := H; exact hs
theorem Rd.self (H : Rd h r S e bs) : S r := by
  have ⟨p, c, _, _, _, hs, _, _⟩ := H; exact hs
theorem Rd.frame {Q : Nat → Prop} {h' : Heap} (H : Rd h r S e bs) (hf : Fr Q h h') (hn : ∀ x, S x → ¬ Q x) : Rd h' r S e bs := by
  have ⟨p, c, hb, o, hr, h1, h2, h3⟩ := H
  exact ⟨p, c, hf.get hb (hn r h1), o.frame hf (fun x hx => hn x (h2 x hx)), hr, h1, h2, fun x hx => Nat.lt_of_lt_of_le (h3 x hx) hf.1⟩
theorem read_ok (hr : Row h p (bc bs)) (hn : n = bs.length) (hl : bs.length ≤ 70368744177664)
    (hk : ∀ h' r S, Rd h' r S 0 bs → Fr No h h' → (∀ x, S x → h.size ≤ x) → R (.pointer (some ⟨r, 0, none⟩)) h') : Cl 74 #[.slice p n c] h R := by
  refine fields_Read.walk (clone_ok hr hn hl fun p' c' h1 o1 f1 g1 => ⟨_, _, _, rfl, newP_of (hk _ _ (fun x => h.size ≤ x ∧ x ≤ h1.size) ⟨p', c', push_new, o1.frame (Fr.push _ _) (fun _ _ => id), ?_, ⟨f1.1, Nat.le_refl _⟩, ?_, ?_⟩ (Fr.on f1 (Fr.push _ _)) (fun x hx => hx.1))⟩)
  · intro hx; have := o1.blk_lt hx; omega
  · intro x hx; have := o1.blk_lt hx; exact ⟨g1 x hx, by omega⟩
  · grind
theorem fail_ok {e' : Int} (H : Rd h r S e bs) (hk : ∀ h', Rd h' r S (failE e e') bs → Fr (fun x => x = r) h h' → R (.tuple #[]) h') : Cl 103 #[.pointer (some ⟨r, 0, none⟩), .int .i64 e'] h R := by
  have ⟨p, c, hb, o, hr, h1, h2, h3⟩ := id H
  refine fields_fault_fail.walk ⟨e, cell_at hb rfl, ?_⟩
  unfold failE at hk
  by_cases h0 : e = 0
  · subst h0
    refine storeP_blk hb (by simp) fun h' k1 k2 k3 => ?_
    have f  := Fr.of_eq k2 k3
    exact hk h' ⟨p, c, k1, o.frame f (fun x hx e => hr (e ▸ hx)), hr, h1, h2, fun x hx => by grind⟩ f
  · simp only [beq_iff_eq, h0, if_false]
    simp only [h0, if_false] at hk
    exact hk h H (Fr.refl _ _)
theorem fine_ok (H : Rd h r S e bs) (hk : R (.bool (e == 0)) h) : Cl 102 #[.pointer (some ⟨r, 0, none⟩)] h R := by
  have ⟨p, c, hb, o, hr, h1, h2, h3⟩ := H
  exact fields_Reader_fine.walk ⟨true, cell_at hb rfl, e, cell_at hb rfl, hk⟩
def rnumI (h0 : Heap) (r : Nat) (S : Nat → Prop) (bs : List UInt8) (n i : Int) (h : Heap) : Prop :=
  ∃ (k a : Nat) (rest : List UInt8), i = (k : Int) ∧ n = (a : Int) ∧ k ≤ 10 ∧ a < 2 ^ (7 * k) ∧ a < 18446744073709551616 ∧ Rd h r S 0 rest ∧ Fr (fun x => x = r) h0 h ∧ rdN k a rest = rdN 0 0 bs
theorem rnum_ok (H : Rd h r S e bs) (hk : ∀ h', Rd h' r S (readNum e bs).2.1 (readNum e bs).2.2 → Fr (fun x => x = r) h h' → R (.int .u64 ((readNum e bs).1 : Int)) h') :
    Cl 75 #[.pointer (some ⟨r, 0, none⟩)] h R := by
  refine fields_Reader_Num.walk (JoinP.of fun J hJ => ?_)
  by_cases he : e = 0
  · subst he
    unfold readNum at hk
    rw [if_pos rfl] at hk
    refine ⟨rnumI h r S bs, fun _ i _ => 11 - i.toNat, ⟨0, 0, bs, rfl, rfl, by omega, by simp, by omega, H, Fr.refl _ _, rfl⟩, ?_⟩
    rintro _ _ h2 ⟨k, a, rest, rfl, rfl, hk10, ha, ha2, H2, f2, hrd⟩
    refine fine_ok H2 ⟨_, rfl, ?_⟩
    simp only [beq_self_eq_true, if_true]
    have ⟨p, c, hb, o, hr, h1, hsub, h3⟩ := id H2
    refine ⟨p, _, c, cell_at hb rfl, ?_⟩
    cases rest with
    | nil =>
      simp only [List.length_nil, Int.natCast_zero, beq_self_eq_true, if_true]
      refine fail_ok H2 fun h4 H4 f4 => ⟨rfl, ?_⟩
      subst hJ
      rw [rdN] at hrd
      rw [← hrd] at hk
      exact hk h4 H4 (f2.tt f4)
    | cons b rest =>
      have hne : ((((b :: rest).length : Nat) : Int) == 0) = false := by rfl
      simp only [hne, Bool.false_eq_true, if_false]
      refine ⟨p, _, c, cell_at hb rfl, ⟨by omega, by simp⟩, ?_⟩
      obtain ⟨ab, aoff, rfl⟩ := o.some (by rw [bc_len]; simp)
      refine onSome_some.2 ⟨(b.toNat), o.cell rfl, some ⟨ab, aoff, none⟩, _, c, cell_at hb rfl, ⟨by omega, by grind⟩, ?_⟩
      have o2 := o.sub (l := 1) (by simp) (Nat.le_refl _)
      have er : ((bc (b :: rest)).take ((b :: rest).length * 1)).drop (1 * 1) = bc rest := by
        simp only [Nat.mul_one]
        rw [List.take_of_length_le (by rw [bc_len]; exact Nat.le_refl _)]; rfl
      rw [er] at o2
      have el : (b :: rest).length - Int.toNat 1 = rest.length := by simp
      rw [el]
      have el2 : (b :: rest).length - 1 = rest.length := by simp
      rw [el2] at o2
      refine storeP_blk hb (by simp) fun h5 k1 k2 k3 => ?_
      have f5  := Fr.of_eq k2 k3
      have H5 : Rd h5 r S 0 rest := ⟨_, _, k1, o2.frame f5 (fun x hx e => hr (e ▸ inBlk_sub hx)), fun hx => hr (inBlk_sub hx), h1, fun x hx => hsub x (inBlk_sub hx), fun x hx => by grind⟩
      have f25 := f2.tt f5
      have w1 : IntKind.wrap .i64 ((k : Int) * 7) = ((7 * k : Nat) : Int) := by rw [wrap_id (by omega) (by omega)]; omega
      have w2 : IntKind.wrap .i64 (7 * (k : Int)) = ((7 * k : Nat) : Int) := by grind
      have w3 : IntKind.wrap .i64 ((k : Int) + 1) = ((k + 1 : Nat) : Int) := by rw [wrap_id (by omega) (by omega)]; omega
      have hb := b.toNat_lt
      rw [rdN] at hrd
      refine JoinP.of fun J1 hJ1 => ?_
      have fin : J1 (decide (k = 10 ∨ (k = 9 ∧ b.toNat > 1) ∨ (b.toNat = 0 ∧ k > 0))) h5 := by
        subst hJ1
        by_cases hbad : k = 10 ∨ (k = 9 ∧ b.toNat > 1) ∨ (b.toNat = 0 ∧ k > 0)
        · simp only [hbad, decide_true, if_true]
          rw [if_pos hbad] at hrd
          refine fail_ok H5 fun h7 H7 f7 => ⟨rfl, ?_⟩
          subst hJ
          rw [← hrd] at hk
          exact hk h7 H7 (f25.tt f7)
        · simp only [hbad, decide_false, Bool.false_eq_true, if_false]
          rw [if_neg hbad] at hrd
          rw [w2, w3, if_neg (by omega), and128, and127]
          have hd : b.toNat % 128 * 2 ^ (7 * k) < 18446744073709551616 := by
            by_cases h9 : k = 9
            · grind
            · have h8  := by omega
              have p1 : (2 : Nat) ^ (7 * k) ≤ 2 ^ 56 := Nat.pow_le_pow_right (by omega) (by omega)
              have p2 : b.toNat % 128 ≤ 127 := by omega
              have := Nat.mul_le_mul p2 p1
              omega
          have key : IntKind.wrap .u64 ((b.toNat % 128 : Nat) : Int) = ((b.toNat % 128 : Nat) : Int) := wrap_u64_nat (by omega)
          have k64 : 7 * k ≤ 64 := by omega
          rw [key, or_shl ha hd k64]
          by_cases hlt : b.toNat < 128
          · grind
          · simp only [hlt, decide_false, Bool.false_eq_true, if_false]
            rw [if_neg hlt] at hrd
            have h9 : k ≤ 8 := by omega
            have p3 : (2 : Nat) ^ (7 * (k + 1)) = 128 * 2 ^ (7 * k) := by grind
            have p4 : b.toNat % 128 + 1 ≤ 128 := by omega
            have p5 := Nat.mul_le_mul_right (2 ^ (7 * k)) p4
            rw [Nat.add_mul] at p5
            have p6 : (2 : Nat) ^ (7 * (k + 1)) ≤ 2 ^ 63 := Nat.pow_le_pow_right (by omega) (by omega)
            refine ⟨⟨k + 1, _, rest, rfl, rfl, by omega, by omega, by omega, H5, f25, hrd⟩, ?_⟩
            omega
      rw [w1]
      by_cases c1 : k = 10
      · grind
      · grind
  · refine ⟨fun _ _ h2 => h2 = h, fun _ _ _ => 0, rfl, ?_⟩
    rintro _ _ h2 rfl
    refine fine_ok H ⟨_, rfl, ?_⟩
    have : (e == 0) = false := by grind
    simp only [this, Bool.false_eq_true, if_false]
    subst hJ
    unfold readNum at hk
    rw [if_neg he] at hk
    exact hk _ H (Fr.refl _ _)
theorem most_ok (top : Nat) {t : Int} (ht : t = (top : Int)) (H : Rd h r S e bs) (hk : ∀ h', Rd h' r S (readMost top e bs).2.1 (readMost top e bs).2.2 → Fr (fun x => x = r) h h' → R (.int .u64 ((readMost top e bs).1 : Int)) h') :
    Cl 104 #[.pointer (some ⟨r, 0, none⟩), .int .u64 t] h R := by
  refine fields_Reader_atMost.walk (rnum_ok H fun h1 H1 f1 => ⟨_, rfl, ?_⟩)
  unfold readMost at hk
  by_cases hgt : (readNum e bs).1 > top
  · rw [if_pos (decide_eq_true (by omega))]
    rw [if_pos hgt] at hk
    exact fail_ok H1 fun h2 H2 f2 => ⟨rfl, hk h2 H2 (f1.tt f2)⟩
  · grind
theorem rint_ok (H : Rd h r S e bs) (hk : ∀ h', Rd h' r S (readInt e bs).2.1 (readInt e bs).2.2 → Fr (fun x => x = r) h h' → R (.int .i64 ((readInt e bs).1 : Int)) h') :
    Cl 76 #[.pointer (some ⟨r, 0, none⟩)] h R :=
  fields_Reader_Int.walk (most_ok 1099511627776 rfl H fun h1 H1 f1 => ⟨_, rfl, by
    have := readMost_le 1099511627776 e bs
    rw [wrap_id (by omega) (by omega)]
    exact hk h1 H1 f1⟩)
theorem rtext_ok (H : Rd h r S e bs) (hl : bs.length ≤ 70368744177664)
    (hk : ∀ h' p c, Rd h' r S (readText e bs).2.1 (readText e bs).2.2 → Own h' p (readText e bs).1.length c 1 (bc (readText e bs).1) → (∀ x, inBlk p x → h.size ≤ x) → Fr (fun x => x = r) h h' → R (.slice p (readText e bs).1.length c) h') :
    Cl 77 #[.pointer (some ⟨r, 0, none⟩)] h R := by
  refine fields_Reader_Text.walk (rnum_ok H fun h1 H1 f1 => ⟨_, rfl, fine_ok H1 ⟨_, rfl, ?_⟩⟩)
  unfold readText at hk
  have hlt := readNum_lt e bs
  have hlen : (readNum e bs).2.2.length ≤ bs.length := by
    unfold readNum; split
    · exact rdN_len bs 0 0
    · simp
  generalize readNum e bs = N at *
  have ⟨n, e', rest⟩ := N
  dsimp only at *
  by_cases h0 : e' = 0
  · subst h0
    simp only [beq_self_eq_true, Bool.not_true, Bool.false_eq_true, if_false]
    have ⟨p, c, hb, o, hr, k1, k2, k3⟩ := id H1
    refine ⟨p, _, c, cell_at hb rfl, ?_⟩
    rw [if_pos rfl] at hk
    rw [wrap_u64 (by omega) (by omega)]
    by_cases hgt : n > rest.length
    · have : (n) > (rest.length : Int) := by omega
      simp only [this, decide_true, if_true]
      rw [if_pos hgt] at hk
      exact fail_ok H1 fun h2 H2 f2 => ⟨rfl, hk h2 none 0 H2 (.nil rfl rfl rfl rfl) (fun x ⟨a, e, _⟩ => by cases e) (f1.tt f2)⟩
    · have : ¬ (n) > (rest.length : Int) := by omega
      simp only [this, decide_false, Bool.false_eq_true, if_false]
      rw [if_neg hgt] at hk
      have hc := o.le
      refine ⟨p, _, c, cell_at hb rfl, ⟨by omega, by omega⟩, ?_⟩
      have oc := o.sub (l := 0) (u := n) (by omega) (by omega)
      simp only [Nat.mul_one, List.drop_zero, bc_take] at oc
      have etl : (rest.take n).length = n := by grind
      refine clone_ok oc.row' (by omega) (by omega) fun p' c' h4 o4 f4 g4 => ⟨_, _, _, rfl, ?_⟩
      have ⟨p2, c2, hb2, o2, hr2, k1', k2', k3'⟩ := (H1.frame f4 (fun _ _ => id))
      refine ⟨p2, _, c2, cell_at hb2 rfl, ⟨by omega, by omega⟩, (storeP_blk hb2 (by simp) fun h5 q1 q2 q3 => ?_)⟩
      have f5  := Fr.of_eq q2 q3
      have os := o2.sub (l := n) (by omega) (Nat.le_refl _)
      rw [Nat.mul_one, Nat.mul_one, ← bc_len rest, List.take_length, bc_len, bc_drop] at os
      have edl : (rest.drop n).length = rest.length - n := by simp
      refine hk h5 p' c' ⟨slBase p2 c2 n 1, c2 - n, ?_, ?_, fun hx => hr2 (inBlk_sub hx), k1', fun x hx => k2' x (inBlk_sub hx), fun x hx => by grind⟩ (o4.frame f5 (fun x hx e => ?_)) (fun x hx => ?_) (f1.tt ((f4.mono fun _ _ => False.elim).tt f5))
      · grind
      · rw [edl]
        exact os.frame f5 (fun x hx e => hr2 (e ▸ inBlk_sub hx))
      · grind
      · have := g4 x hx; have := f1.1; omega
  · have : (e' == 0) = false := by grind
    simp only [this, Bool.not_false, if_true]
    rw [if_neg h0] at hk
    exact hk h1 none 0 H1 (.nil rfl rfl rfl rfl) (fun x ⟨a, e, _⟩ => by cases e) f1
theorem rend_ok (H : Rd h r S e bs) (hk : R (.int .i64 (readEnd e bs)) h) : Cl 78 #[.pointer (some ⟨r, 0, none⟩)] h R := by
  have ⟨p, c, hb, o, hr, k1, k2, k3⟩ := H
  refine fields_Reader_End.walk (JoinP.of fun J hJ => ⟨true, cell_at hb rfl, ?_⟩)
  subst hJ
  refine ⟨e, cell_at hb rfl, ?_⟩
  unfold readEnd at hk
  by_cases h0 : e = 0
  · subst h0
    refine ⟨p, _, c, cell_at hb rfl, ?_⟩
    cases bs with
    | nil => exact hk
    | cons b bs =>
      grind
  · have : (e != 0) = true := by grind
    simp only [this, if_true]
    rw [if_neg h0] at hk
    exact ⟨e, cell_at hb rfl, hk⟩

end Fld
end
section
open Go.Fields
namespace Fld
variable {h h' h0:Heap} {p:TyO} {l c:Nat} {bs:List (TyL)}
abbrev nenc (n : BV) : List Value := [n.val]
theorem tN : SlTy Tryz.prog 119 26 1 24 (.slice none 0 0) := ⟨by kernel_rfl, by kernel_rfl, rfl⟩
theorem uN : Tryz.prog.underlying 119 = some (.slice 26) := by kernel_rfl
def BL (h0 h : Heap) (p : Option Addr) (l c : Nat) (bs : List (List UInt8)) : Prop :=
  ∃ (xs : List BV) (D : Nat → Prop), l = xs.length ∧ Own h p l c 1 (xs.flatMap nenc) ∧ xs.map BV.b = bs ∧ (∀ x ∈ xs, x.ok h D) ∧ (∀ y, D y → h0.size ≤ y ∧ y < h.size ∧ ¬ inBlk p y) ∧ ∀ y, inBlk p y → h0.size ≤ y
theorem BL.nil : BL h0 h none 0 0 [] := ⟨[], fun _ => False, rfl, .nil rfl rfl rfl rfl, rfl, (fun x hx => by cases hx), (fun y hy => hy.elim), fun y ⟨a, e, _⟩ => by cases e⟩
theorem BL.on (H : BL h0 h p l c bs) (f : Fr No h h') : BL h0 h' p l c bs := by
  have ⟨xs, D, h1, h2, h3, h4, h5, h6⟩ := H
  exact ⟨xs, D, h1, h2.frame f (fun _ _ => id), h3, fun x hx => (h4 x hx).frame f (fun _ _ => id), fun y hy => ⟨(h5 y hy).1, Nat.lt_of_lt_of_le (h5 y hy).2.1 f.1, (h5 y hy).2.2⟩, h6⟩
theorem BL.len (H : BL h0 h p l c bs) : l = bs.length := by
  have ⟨xs, D, h1, _, h3, _⟩ := H
  rw [h1, ← h3, List.length_map]
theorem BL.lt (H : BL h0 h p l c bs) {y : Nat} (hy : inBlk p y) : y < h.size := by
  have ⟨xs, D, _, h2, _⟩ := H
  exact h2.blk_lt hy
theorem BL.push {b : List UInt8} {q' : Option Addr} {d : Nat} {K : Value → Heap → Prop} (H : BL h0 h p l c bs) (up : h0.size ≤ h.size) (o : Own h q' b.length d 1 (bc b)) (hq : ∀ y, inBlk q' y → h0.size ≤ y ∧ ¬ inBlk p y) (hl : l ≤ 1000000)
    (hk : ∀ p' c' h', BL h0 h' p' (l + 1) c' (bs ++ [b]) → Fr (inBlk p) h h' → (∀ y, inBlk p' y → inBlk p y ∨ h.size ≤ y) → K (.slice p' (l + 1) c') h') :
    NewP h (.cells #[.slice q' b.length d] 26) fun b' h1 => denSem Tryz.prog (Builtin.append_ #[119, 119] 119 #[.slice p l c, .slice (some ⟨b', 0, none⟩) 1 1]) h1 K := by
  obtain ⟨xs, D, h1, h2, h3, h4, h5, h6⟩ := H
  refine den_append1 tN uN h2 rfl (fun v hv => by simp at hv; subst hv; rfl) (by omega) (by omega) ?_
  intro p' c' h' o' f' g'
  have lt : ∀ y, inBlk q' y → y < h.size := fun y hy => o.blk_lt hy
  refine hk p' c' h' ⟨xs ++ [⟨q', d, b⟩], fun y => D y ∨ inBlk q' y, by rw [List.length_append, h1]; rfl, ?_, ?_, ?_, ?_, ?_⟩ f' g'
  · rw [List.flatMap_append]; simpa using o'
  · rw [List.map_append, h3]; rfl
  · intro x hx
    rcases List.mem_append.1 hx with hx | hx
    · exact ((h4 x hx).frame f' (fun y hy => (h5 y hy).2.2)).mono (fun y => .inl)
    · simp at hx; subst hx
      exact BV.of_own (o.frame f' (fun y hy => (hq y hy).2)) (fun y => .inr)
  · have z := f'.1
    rintro y (hy | hy)
    · exact ⟨(h5 y hy).1, by have := (h5 y hy).2.1; omega, fun hx => (g' y hx).elim (h5 y hy).2.2 (fun h2 => by have := (h5 y hy).2.1; omega)⟩
    · exact ⟨(hq y hy).1, by have := lt y hy; omega, fun hx => (g' y hx).elim (hq y hy).2 (fun h2 => by have := lt y hy; omega)⟩
  · intro y hy
    rcases g' y hy with h2 | h2
    · exact h6 y h2
    · omega
theorem BL.frame {Q : Nat → Prop} (H : BL h0 h p l c bs) (f : Fr Q h h') (hq : ∀ y, h0.size ≤ y → ¬ Q y) : BL h0 h' p l c bs := by
  have ⟨xs, D, h1, h2, h3, h4, h5, h6⟩ := H
  exact ⟨xs, D, h1, h2.frame f (fun y hy => hq y (h6 y hy)), h3, fun x hx => (h4 x hx).frame f (fun y hy => hq y (h5 y hy).1), fun y hy => ⟨(h5 y hy).1, Nat.lt_of_lt_of_le (h5 y hy).2.1 f.1, (h5 y hy).2.2⟩, h6⟩

end Fld
end
section
variable {h:Heap} {R:TyP}
variable {a:Nat} {x_0 x_1 i:Int}
theorem alarm_New.walk  (hv :
 NewP h (.map #[] 0) fun b h_1 =>
 NewP h_1 (.cells #[.slice none 0 0, .map (some b)] 249) fun b_1 h_2 =>
 R (.pointer (some ⟨b_1, 0, none⟩)) h_2) : Cl 96 #[] h R :=
 callsN [] hv
theorem alarm_Alarm_made.walk (hv :
 ∃ t9, hcell h ⟨a, 1, none⟩ = some (.map t9) ∧
 R (.bool (!t9.isNone)) h) : Cl 270 #[.pointer (some ⟨a, 0, none⟩)] h R :=
 callsN [] hv
theorem alarm_Alarm_Len.walk (hv :
 ∃ t8_p t8_l t8_c, hcell h ⟨a, 0, none⟩ = some (.slice t8_p t8_l t8_c) ∧
 R (.int .i64 ((t8_l : Nat) : Int)) h) : Cl 269 #[.pointer (some ⟨a, 0, none⟩)] h R :=
 callsN [] hv
theorem alarm_ahead.walk {y_0 : Int} {y_1 : Int} (hv :
 NewP h (.cells #[.int .i64 x_0, .int .u64 x_1] 398) fun b h_1 =>
 NewP h_1 (.cells #[.int .i64 y_0, .int .u64 y_1] 398) fun b_1 h_2 =>
 ∃ t6, hcell h_2 ⟨b, 1, none⟩ = some (.int .u64 t6) ∧
 ∃ t8, hcell h_2 ⟨b_1, 1, none⟩ = some (.int .u64 t8) ∧
 ite (decide (t6 < t8))
 (  R (.bool true) h_2)
 (  ∃ t12, hcell h_2 ⟨b, 1, none⟩ = some (.int .u64 t12) ∧
 ∃ t14, hcell h_2 ⟨b_1, 1, none⟩ = some (.int .u64 t14) ∧
 ite (t12 == t14)
 (  ∃ t18, hcell h_2 ⟨b, 0, none⟩ = some (.int .i64 t18) ∧
 ∃ t20, hcell h_2 ⟨b_1, 0, none⟩ = some (.int .i64 t20) ∧
 R (.bool (decide (t18 < t20))) h_2)
 (  R (.bool false) h_2))) : Cl 333 #[.agg #[.int .i64 x_0, .int .u64 x_1], .agg #[.int .i64 y_0, .int .u64 y_1]] h R :=
 callsN [] hv
theorem alarm_Alarm_put.walk (hv :
 NewP h (.cells #[.int .i64 x_0, .int .u64 x_1] 398) fun b h_1 =>
 ∃ t9_p t9_l t9_c, hcell h_1 ⟨a, 0, none⟩ = some (.slice t9_p t9_l t9_c) ∧
 ∃ t11_0, hcell h_1 ⟨b, 0, none⟩ = some (.int .i64 t11_0) ∧ ∃ t11_1, hcell h_1 ⟨b, 1, none⟩ = some (.int .u64 t11_1) ∧
 ((0 : Int) ≤ i ∧ i < ((t9_l : Nat) : Int)) ∧
 onSome t9_p fun a_1 =>
 StoreP h_1 (a_1.add (Int.toNat i * 2)) (.int .i64 t11_0) fun h_2 =>
 StoreP h_2 ((a_1.add (Int.toNat i * 2)).add 1) (.int .u64 t11_1) fun h_3 =>
 ∃ t16, hcell h_3 ⟨a, 1, none⟩ = some (.map t16) ∧
 ∃ t18, hcell h_3 ⟨b, 0, none⟩ = some (.int .i64 t18) ∧
 Dsz (Instr.mapUpdate 188 (.map t16) (.int .i64 t18) (.int .i64 i)) h_3 fun _ h_4 =>
 R (.tuple #[]) h_4) : Cl 271 #[.pointer (some ⟨a, 0, none⟩), .int .i64 i, .agg #[.int .i64 x_0, .int .u64 x_1]] h R :=
 callsN [(3, fun _ => .plan (opL [0,1,2,3,4,5,6,7] .done)), (4, fun _ => .plan (opL [0,1,2,3,4,5,6,7] .done))] hv
theorem alarm_Alarm_up.walk (hv :
 ∃ (I : Int → Heap → Prop) (mu : Int → Heap → Nat), (
 I i h) ∧ ∀ i_1 h_1, I i_1 h_1 →
 JoinP (fun (t28 : Bool) h_2 =>
 ite t28
 (  JoinP (fun (x : Option Addr) (y : Option Addr) h_3 =>
 onSome x fun a_1 =>
 ∃ t45_0, hcell h_3 a_1 = some (.int .i64 t45_0) ∧ ∃ t45_1, hcell h_3 (a_1.add 1) = some (.int .u64 t45_1) ∧
 Cl 271 #[.pointer (some ⟨a, 0, none⟩), .int .i64 (IntKind.wrap .i64 (Int.tdiv (IntKind.wrap .i64 (i_1 - 1)) 2)), .agg #[.int .i64 t45_0, .int .u64 t45_1]] h_3 fun v h_4 =>
 v = .tuple #[] ∧
 onSome y fun a_2 =>
 ∃ t49_0, hcell h_4 a_2 = some (.int .i64 t49_0) ∧ ∃ t49_1, hcell h_4 (a_2.add 1) = some (.int .u64 t49_1) ∧
 Cl 271 #[.pointer (some ⟨a, 0, none⟩), .int .i64 i_1, .agg #[.int .i64 t49_0, .int .u64 t49_1]] h_4 fun v_1 h_5 =>
 v_1 = .tuple #[] ∧
 (I (IntKind.wrap .i64 (Int.tdiv (IntKind.wrap .i64 (i_1 - 1)) 2)) h_5 ∧ mu (IntKind.wrap .i64 (Int.tdiv (IntKind.wrap .i64 (i_1 - 1)) 2)) h_5 < mu i_1 h_1))
 (fun J_1 =>
 ∃ t32_p t32_l t32_c, hcell h_2 ⟨a, 0, none⟩ = some (.slice t32_p t32_l t32_c) ∧
 ((0 : Int) ≤ i_1 ∧ i_1 < ((t32_l : Nat) : Int)) ∧
 onSome t32_p fun a_3 =>
 ∃ t35_0, hcell h_2 (a_3.add (Int.toNat i_1 * 2)) = some (.int .i64 t35_0) ∧ ∃ t35_1, hcell h_2 ((a_3.add (Int.toNat i_1 * 2)).add 1) = some (.int .u64 t35_1) ∧
 ∃ t39_p t39_l t39_c, hcell h_2 ⟨a, 0, none⟩ = some (.slice t39_p t39_l t39_c) ∧
 ((0 : Int) ≤ IntKind.wrap .i64 (Int.tdiv (IntKind.wrap .i64 (i_1 - 1)) 2) ∧ IntKind.wrap .i64 (Int.tdiv (IntKind.wrap .i64 (i_1 - 1)) 2) < ((t39_l : Nat) : Int)) ∧
 onSome t39_p fun a_4 =>
 ∃ t42_0, hcell h_2 (a_4.add (Int.toNat (IntKind.wrap .i64 (Int.tdiv (IntKind.wrap .i64 (i_1 - 1)) 2)) * 2)) = some (.int .i64 t42_0) ∧ ∃ t42_1, hcell h_2 ((a_4.add (Int.toNat (IntKind.wrap .i64 (Int.tdiv (IntKind.wrap .i64 (i_1 - 1)) 2)) * 2)).add 1) = some (.int .u64 t42_1) ∧
 (NewP h_2 (.cells #[.int .i64 0, .int .u64 0] 398) fun b h_6 =>
 heldL (a_4.add (Int.toNat (IntKind.wrap .i64 (Int.tdiv (IntKind.wrap .i64 (i_1 - 1)) 2)) * 2)) [.int .i64 t42_0, .int .u64 t42_1] 0 h_6 ∧
 hcell h_6 ⟨a, 0, none⟩ = some (.slice t39_p t39_l t39_c) ∧
 heldL (a_3.add (Int.toNat i_1 * 2)) [.int .i64 t35_0, .int .u64 t35_1] 0 h_6 ∧
 hcell h_6 ⟨a, 0, none⟩ = some (.slice t32_p t32_l t32_c) ∧
 NewP h_6 (.cells #[.int .i64 0, .int .u64 0] 398) fun b_1 h_7 =>
 heldL (a_4.add (Int.toNat (IntKind.wrap .i64 (Int.tdiv (IntKind.wrap .i64 (i_1 - 1)) 2)) * 2)) [.int .i64 t42_0, .int .u64 t42_1] 0 h_7 ∧
 hcell h_7 ⟨a, 0, none⟩ = some (.slice t39_p t39_l t39_c) ∧
 heldL (a_3.add (Int.toNat i_1 * 2)) [.int .i64 t35_0, .int .u64 t35_1] 0 h_7 ∧
 hcell h_7 ⟨a, 0, none⟩ = some (.slice t32_p t32_l t32_c) ∧
 StoreP h_7 ⟨b, 0, none⟩ (.int .i64 t35_0) fun h_8 =>
 StoreP h_8 ⟨b, 1, none⟩ (.int .u64 t35_1) fun h_9 =>
 heldL (a_4.add (Int.toNat (IntKind.wrap .i64 (Int.tdiv (IntKind.wrap .i64 (i_1 - 1)) 2)) * 2)) [.int .i64 t42_0, .int .u64 t42_1] 0 h_9 ∧
 hcell h_9 ⟨a, 0, none⟩ = some (.slice t39_p t39_l t39_c) ∧
 StoreP h_9 ⟨b_1, 0, none⟩ (.int .i64 t42_0) fun h_10 =>
 StoreP h_10 ⟨b_1, 1, none⟩ (.int .u64 t42_1) fun h_11 =>
 J_1 (some ⟨b, 0, none⟩) (some ⟨b_1, 0, none⟩) h_11) ∧
 (NewP h_2 (.cells #[.int .i64 0, .int .u64 0] 398) fun b_2 h_12 =>
 heldL (a_4.add (Int.toNat (IntKind.wrap .i64 (Int.tdiv (IntKind.wrap .i64 (i_1 - 1)) 2)) * 2)) [.int .i64 t42_0, .int .u64 t42_1] 0 h_12 ∧
 hcell h_12 ⟨a, 0, none⟩ = some (.slice t39_p t39_l t39_c) ∧
 heldL (a_3.add (Int.toNat i_1 * 2)) [.int .i64 t35_0, .int .u64 t35_1] 0 h_12 ∧
 hcell h_12 ⟨a, 0, none⟩ = some (.slice t32_p t32_l t32_c) ∧
 NewP h_12 (.cells #[.int .i64 0, .int .u64 0] 398) fun b_3 h_13 =>
 heldL (a_4.add (Int.toNat (IntKind.wrap .i64 (Int.tdiv (IntKind.wrap .i64 (i_1 - 1)) 2)) * 2)) [.int .i64 t42_0, .int .u64 t42_1] 0 h_13 ∧
 hcell h_13 ⟨a, 0, none⟩ = some (.slice t39_p t39_l t39_c) ∧
 heldL (a_3.add (Int.toNat i_1 * 2)) [.int .i64 t35_0, .int .u64 t35_1] 0 h_13 ∧
 hcell h_13 ⟨a, 0, none⟩ = some (.slice t32_p t32_l t32_c) ∧
 StoreP h_13 ⟨b_3, 0, none⟩ (.int .i64 t35_0) fun h_14 =>
 StoreP h_14 ⟨b_3, 1, none⟩ (.int .u64 t35_1) fun h_15 =>
 heldL (a_4.add (Int.toNat (IntKind.wrap .i64 (Int.tdiv (IntKind.wrap .i64 (i_1 - 1)) 2)) * 2)) [.int .i64 t42_0, .int .u64 t42_1] 0 h_15 ∧
 hcell h_15 ⟨a, 0, none⟩ = some (.slice t39_p t39_l t39_c) ∧
 StoreP h_15 ⟨b_2, 0, none⟩ (.int .i64 t42_0) fun h_16 =>
 StoreP h_16 ⟨b_2, 1, none⟩ (.int .u64 t42_1) fun h_17 =>
 J_1 (some ⟨b_3, 0, none⟩) (some ⟨b_2, 0, none⟩) h_17) ∧
 True))
 (  R (.tuple #[]) h_2))
 (fun J =>
 ite (decide (i_1 > 0))
 (  ∃ t16_p t16_l t16_c, hcell h_1 ⟨a, 0, none⟩ = some (.slice t16_p t16_l t16_c) ∧
 ((0 : Int) ≤ i_1 ∧ i_1 < ((t16_l : Nat) : Int)) ∧
 onSome t16_p fun a_5 =>
 ∃ t19_0, hcell h_1 (a_5.add (Int.toNat i_1 * 2)) = some (.int .i64 t19_0) ∧ ∃ t19_1, hcell h_1 ((a_5.add (Int.toNat i_1 * 2)).add 1) = some (.int .u64 t19_1) ∧
 ∃ t23_p t23_l t23_c, hcell h_1 ⟨a, 0, none⟩ = some (.slice t23_p t23_l t23_c) ∧
 ((0 : Int) ≤ IntKind.wrap .i64 (Int.tdiv (IntKind.wrap .i64 (i_1 - 1)) 2) ∧ IntKind.wrap .i64 (Int.tdiv (IntKind.wrap .i64 (i_1 - 1)) 2) < ((t23_l : Nat) : Int)) ∧
 onSome t23_p fun a_6 =>
 ∃ t26_0, hcell h_1 (a_6.add (Int.toNat (IntKind.wrap .i64 (Int.tdiv (IntKind.wrap .i64 (i_1 - 1)) 2)) * 2)) = some (.int .i64 t26_0) ∧ ∃ t26_1, hcell h_1 ((a_6.add (Int.toNat (IntKind.wrap .i64 (Int.tdiv (IntKind.wrap .i64 (i_1 - 1)) 2)) * 2)).add 1) = some (.int .u64 t26_1) ∧
 Cl 333 #[.agg #[.int .i64 t19_0, .int .u64 t19_1], .agg #[.int .i64 t26_0, .int .u64 t26_1]] h_1 fun v_2 h_18 =>
 ∃ t27, v_2 = .bool t27 ∧
 hcell h_18 ⟨a, 0, none⟩ = some (.slice t23_p t23_l t23_c) ∧
 hcell h_18 ⟨a, 0, none⟩ = some (.slice t16_p t16_l t16_c) ∧
 J t27 h_18)
 (  J false h_1))) : Cl 272 #[.pointer (some ⟨a, 0, none⟩), .int .i64 i] h R :=
 callsN [(0, fun _ => .scope 0 [(1, sI)] ll (lq (lq (sq (.join [(28, sB)] (.plan (opL [0,1,2,3,4,5,6,7,8,9,10,11,12,13,14,15,16,17,18] .done))) (cq (sq (.join [(5, sP), (6, sP)] (.plan (opL [0,1,2,3,4,5,6,7,8,9,10,11,12,13] (.alts (.fork 14 (opL [15,16,17] .done) (.fork 15 (opL [14,16,17] .done) .noalt)))))) (lq (lq ll))) lf)))))] hv
theorem alarm_Alarm_down.walk (hv :
 ∃ (I : Int → Heap → Prop) (mu : Int → Heap → Nat), (
 I i h) ∧ ∀ i_1 h_1, I i_1 h_1 →
 ∃ (I_1 : Int → Int → Heap → Prop) (mu_1 : Int → Int → Heap → Nat), I_1 i_1 0 h_1 ∧ ∀ best t17 h_2, I_1 best t17 h_2 →
 ite (decide (t17 < 2))
 (  JoinP (fun (best_1 : Int) h_3 =>
 (I_1 best_1 (IntKind.wrap .i64 (t17 + 1)) h_3 ∧ mu_1 best_1 (IntKind.wrap .i64 (t17 + 1)) h_3 < mu_1 best t17 h_2))
 (fun J =>
 ((0 : Int) ≤ t17 ∧ t17 < ((2 : Nat) : Int)) ∧
 (t17 = ((0 : Nat) : Int) →
 JoinP (fun (t43 : Bool) h_4 =>
 JoinP (fun (best_2 : Int) h_5 =>
 J best_2 h_5)
 (fun J_2 =>
 ite t43
 (  J_2 (IntKind.wrap .i64 ((IntKind.wrap .i64 (2 * i_1)) + 1)) h_4)
 (  J_2 best h_4)))
 (fun J_1 =>
 ∃ t24_p t24_l t24_c, hcell h_2 ⟨a, 0, none⟩ = some (.slice t24_p t24_l t24_c) ∧
 ite (decide ((IntKind.wrap .i64 ((IntKind.wrap .i64 (2 * i_1)) + 1)) < ((t24_l : Nat) : Int)))
 (  ∃ t31_p t31_l t31_c, hcell h_2 ⟨a, 0, none⟩ = some (.slice t31_p t31_l t31_c) ∧
 ((0 : Int) ≤ IntKind.wrap .i64 ((IntKind.wrap .i64 (2 * i_1)) + 1) ∧ IntKind.wrap .i64 ((IntKind.wrap .i64 (2 * i_1)) + 1) < ((t31_l : Nat) : Int)) ∧
 onSome t31_p fun a_1 =>
 ∃ t34_0, hcell h_2 (a_1.add (Int.toNat (IntKind.wrap .i64 ((IntKind.wrap .i64 (2 * i_1)) + 1)) * 2)) = some (.int .i64 t34_0) ∧ ∃ t34_1, hcell h_2 ((a_1.add (Int.toNat (IntKind.wrap .i64 ((IntKind.wrap .i64 (2 * i_1)) + 1)) * 2)).add 1) = some (.int .u64 t34_1) ∧
 ∃ t38_p t38_l t38_c, hcell h_2 ⟨a, 0, none⟩ = some (.slice t38_p t38_l t38_c) ∧
 ((0 : Int) ≤ best ∧ best < ((t38_l : Nat) : Int)) ∧
 onSome t38_p fun a_2 =>
 ∃ t41_0, hcell h_2 (a_2.add (Int.toNat best * 2)) = some (.int .i64 t41_0) ∧ ∃ t41_1, hcell h_2 ((a_2.add (Int.toNat best * 2)).add 1) = some (.int .u64 t41_1) ∧
 Cl 333 #[.agg #[.int .i64 t34_0, .int .u64 t34_1], .agg #[.int .i64 t41_0, .int .u64 t41_1]] h_2 fun v h_6 =>
 ∃ t42, v = .bool t42 ∧
 hcell h_6 ⟨a, 0, none⟩ = some (.slice t38_p t38_l t38_c) ∧
 hcell h_6 ⟨a, 0, none⟩ = some (.slice t31_p t31_l t31_c) ∧
 hcell h_6 ⟨a, 0, none⟩ = some (.slice t24_p t24_l t24_c) ∧
 J_1 t42 h_6)
 (  J_1 false h_2))) ∧
 (t17 = ((1 : Nat) : Int) →
 JoinP (fun (t43_1 : Bool) h_7 =>
 JoinP (fun (best_3 : Int) h_8 =>
 J best_3 h_8)
 (fun J_4 =>
 ite t43_1
 (  J_4 (IntKind.wrap .i64 ((IntKind.wrap .i64 (2 * i_1)) + 2)) h_7)
 (  J_4 best h_7)))
 (fun J_3 =>
 ∃ t24_p_1 t24_l_1 t24_c_1, hcell h_2 ⟨a, 0, none⟩ = some (.slice t24_p_1 t24_l_1 t24_c_1) ∧
 ite (decide ((IntKind.wrap .i64 ((IntKind.wrap .i64 (2 * i_1)) + 2)) < ((t24_l_1 : Nat) : Int)))
 (  ∃ t31_p_1 t31_l_1 t31_c_1, hcell h_2 ⟨a, 0, none⟩ = some (.slice t31_p_1 t31_l_1 t31_c_1) ∧
 ((0 : Int) ≤ IntKind.wrap .i64 ((IntKind.wrap .i64 (2 * i_1)) + 2) ∧ IntKind.wrap .i64 ((IntKind.wrap .i64 (2 * i_1)) + 2) < ((t31_l_1 : Nat) : Int)) ∧
 onSome t31_p_1 fun a_3 =>
 ∃ t34_0_1, hcell h_2 (a_3.add (Int.toNat (IntKind.wrap .i64 ((IntKind.wrap .i64 (2 * i_1)) + 2)) * 2)) = some (.int .i64 t34_0_1) ∧ ∃ t34_1_1, hcell h_2 ((a_3.add (Int.toNat (IntKind.wrap .i64 ((IntKind.wrap .i64 (2 * i_1)) + 2)) * 2)).add 1) = some (.int .u64 t34_1_1) ∧
 ∃ t38_p_1 t38_l_1 t38_c_1, hcell h_2 ⟨a, 0, none⟩ = some (.slice t38_p_1 t38_l_1 t38_c_1) ∧
 ((0 : Int) ≤ best ∧ best < ((t38_l_1 : Nat) : Int)) ∧
 onSome t38_p_1 fun a_4 =>
 ∃ t41_0_1, hcell h_2 (a_4.add (Int.toNat best * 2)) = some (.int .i64 t41_0_1) ∧ ∃ t41_1_1, hcell h_2 ((a_4.add (Int.toNat best * 2)).add 1) = some (.int .u64 t41_1_1) ∧
 Cl 333 #[.agg #[.int .i64 t34_0_1, .int .u64 t34_1_1], .agg #[.int .i64 t41_0_1, .int .u64 t41_1_1]] h_2 fun v_1 h_9 =>
 ∃ t42_1, v_1 = .bool t42_1 ∧
 hcell h_9 ⟨a, 0, none⟩ = some (.slice t38_p_1 t38_l_1 t38_c_1) ∧
 hcell h_9 ⟨a, 0, none⟩ = some (.slice t31_p_1 t31_l_1 t31_c_1) ∧
 hcell h_9 ⟨a, 0, none⟩ = some (.slice t24_p_1 t24_l_1 t24_c_1) ∧
 J_3 t42_1 h_9)
 (  J_3 false h_2))) ∧
 True))
 (  ite (best != i_1)
 (  JoinP (fun (x : Option Addr) (y : Option Addr) h_10 =>
 onSome x fun a_5 =>
 ∃ t65_0, hcell h_10 a_5 = some (.int .i64 t65_0) ∧ ∃ t65_1, hcell h_10 (a_5.add 1) = some (.int .u64 t65_1) ∧
 Cl 271 #[.pointer (some ⟨a, 0, none⟩), .int .i64 best, .agg #[.int .i64 t65_0, .int .u64 t65_1]] h_10 fun v_2 h_11 =>
 v_2 = .tuple #[] ∧
 onSome y fun a_6 =>
 ∃ t69_0, hcell h_11 a_6 = some (.int .i64 t69_0) ∧ ∃ t69_1, hcell h_11 (a_6.add 1) = some (.int .u64 t69_1) ∧
 Cl 271 #[.pointer (some ⟨a, 0, none⟩), .int .i64 i_1, .agg #[.int .i64 t69_0, .int .u64 t69_1]] h_11 fun v_3 h_12 =>
 v_3 = .tuple #[] ∧
 (I best h_12 ∧ mu best h_12 < mu i_1 h_1))
 (fun J_5 =>
 ∃ t52_p t52_l t52_c, hcell h_2 ⟨a, 0, none⟩ = some (.slice t52_p t52_l t52_c) ∧
 ((0 : Int) ≤ i_1 ∧ i_1 < ((t52_l : Nat) : Int)) ∧
 onSome t52_p fun a_7 =>
 ∃ t55_0, hcell h_2 (a_7.add (Int.toNat i_1 * 2)) = some (.int .i64 t55_0) ∧ ∃ t55_1, hcell h_2 ((a_7.add (Int.toNat i_1 * 2)).add 1) = some (.int .u64 t55_1) ∧
 ∃ t59_p t59_l t59_c, hcell h_2 ⟨a, 0, none⟩ = some (.slice t59_p t59_l t59_c) ∧
 ((0 : Int) ≤ best ∧ best < ((t59_l : Nat) : Int)) ∧
 onSome t59_p fun a_8 =>
 ∃ t62_0, hcell h_2 (a_8.add (Int.toNat best * 2)) = some (.int .i64 t62_0) ∧ ∃ t62_1, hcell h_2 ((a_8.add (Int.toNat best * 2)).add 1) = some (.int .u64 t62_1) ∧
 (NewP h_2 (.cells #[.int .i64 0, .int .u64 0] 398) fun b h_13 =>
 heldL (a_8.add (Int.toNat best * 2)) [.int .i64 t62_0, .int .u64 t62_1] 0 h_13 ∧
 hcell h_13 ⟨a, 0, none⟩ = some (.slice t59_p t59_l t59_c) ∧
 heldL (a_7.add (Int.toNat i_1 * 2)) [.int .i64 t55_0, .int .u64 t55_1] 0 h_13 ∧
 hcell h_13 ⟨a, 0, none⟩ = some (.slice t52_p t52_l t52_c) ∧
 NewP h_13 (.cells #[.int .i64 0, .int .u64 0] 398) fun b_1 h_14 =>
 heldL (a_8.add (Int.toNat best * 2)) [.int .i64 t62_0, .int .u64 t62_1] 0 h_14 ∧
 hcell h_14 ⟨a, 0, none⟩ = some (.slice t59_p t59_l t59_c) ∧
 heldL (a_7.add (Int.toNat i_1 * 2)) [.int .i64 t55_0, .int .u64 t55_1] 0 h_14 ∧
 hcell h_14 ⟨a, 0, none⟩ = some (.slice t52_p t52_l t52_c) ∧
 StoreP h_14 ⟨b, 0, none⟩ (.int .i64 t55_0) fun h_15 =>
 StoreP h_15 ⟨b, 1, none⟩ (.int .u64 t55_1) fun h_16 =>
 heldL (a_8.add (Int.toNat best * 2)) [.int .i64 t62_0, .int .u64 t62_1] 0 h_16 ∧
 hcell h_16 ⟨a, 0, none⟩ = some (.slice t59_p t59_l t59_c) ∧
 StoreP h_16 ⟨b_1, 0, none⟩ (.int .i64 t62_0) fun h_17 =>
 StoreP h_17 ⟨b_1, 1, none⟩ (.int .u64 t62_1) fun h_18 =>
 J_5 (some ⟨b, 0, none⟩) (some ⟨b_1, 0, none⟩) h_18) ∧
 (NewP h_2 (.cells #[.int .i64 0, .int .u64 0] 398) fun b_2 h_19 =>
 heldL (a_8.add (Int.toNat best * 2)) [.int .i64 t62_0, .int .u64 t62_1] 0 h_19 ∧
 hcell h_19 ⟨a, 0, none⟩ = some (.slice t59_p t59_l t59_c) ∧
 heldL (a_7.add (Int.toNat i_1 * 2)) [.int .i64 t55_0, .int .u64 t55_1] 0 h_19 ∧
 hcell h_19 ⟨a, 0, none⟩ = some (.slice t52_p t52_l t52_c) ∧
 NewP h_19 (.cells #[.int .i64 0, .int .u64 0] 398) fun b_3 h_20 =>
 heldL (a_8.add (Int.toNat best * 2)) [.int .i64 t62_0, .int .u64 t62_1] 0 h_20 ∧
 hcell h_20 ⟨a, 0, none⟩ = some (.slice t59_p t59_l t59_c) ∧
 heldL (a_7.add (Int.toNat i_1 * 2)) [.int .i64 t55_0, .int .u64 t55_1] 0 h_20 ∧
 hcell h_20 ⟨a, 0, none⟩ = some (.slice t52_p t52_l t52_c) ∧
 StoreP h_20 ⟨b_3, 0, none⟩ (.int .i64 t55_0) fun h_21 =>
 StoreP h_21 ⟨b_3, 1, none⟩ (.int .u64 t55_1) fun h_22 =>
 heldL (a_8.add (Int.toNat best * 2)) [.int .i64 t62_0, .int .u64 t62_1] 0 h_22 ∧
 hcell h_22 ⟨a, 0, none⟩ = some (.slice t59_p t59_l t59_c) ∧
 StoreP h_22 ⟨b_2, 0, none⟩ (.int .i64 t62_0) fun h_23 =>
 StoreP h_23 ⟨b_2, 1, none⟩ (.int .u64 t62_1) fun h_24 =>
 J_5 (some ⟨b_3, 0, none⟩) (some ⟨b_2, 0, none⟩) h_24) ∧
 True))
 (  R (.tuple #[]) h_2))) : Cl 273 #[.pointer (some ⟨a, 0, none⟩), .int .i64 i] h R :=
 callsN [(0, fun _ => .scope 0 [(1, sI)] ll (lq (lq (sq (lq (bq (.loop [(4, sI), (17, sI)] (lq (sq (cq lf lf) (sq (.join [(4, sI)] (bq (lq (sq (.join [(43, sB)] (.plan (opL [0,1,2,3,4,5,6,7,8,9,10,11,12,13,14,15,16,17,18,19,20,21,22,23] .done))) (.join [(4, sI)] (cq lf lf)))))) lf)))))) (lq (cq (sq (.join [(7, sP), (8, sP)] (.plan (opL [0,1,2,3,4,5,6,7,8,9,10,11,12,13] (.alts (.fork 14 (opL [15,16,17] .done) (.fork 15 (opL [14,16,17] .done) .noalt)))))) (lq (lq ll))) lf))))))] hv
theorem alarm_Alarm_Drop.walk {key : Int} (hv :
 Cl 270 #[.pointer (some ⟨a, 0, none⟩)] h fun v h_1 =>
 ∃ t10, v = .bool t10 ∧
 ite (!t10)
 (  R (.int .i64 6) h_1)
 (  ∃ t16, hcell h_1 ⟨a, 1, none⟩ = some (.map t16) ∧
 ∃ t18_0 t18_1, Lkz 188 (.map t16) (.int .i64 key) true h_1 (.tuple #[.int .i64 t18_0, .bool t18_1]) ∧
 ite (!t18_1)
 (  R (.int .i64 4) h_1)
 (  ∃ t26_p t26_l t26_c, hcell h_1 ⟨a, 0, none⟩ = some (.slice t26_p t26_l t26_c) ∧
 ∃ t32_p t32_l t32_c, hcell h_1 ⟨a, 0, none⟩ = some (.slice t32_p t32_l t32_c) ∧
 ((0 : Int) ≤ IntKind.wrap .i64 (((t26_l : Nat) : Int) - 1) ∧ IntKind.wrap .i64 (((t26_l : Nat) : Int) - 1) < ((t32_l : Nat) : Int)) ∧
 onSome t32_p fun a_1 =>
 ∃ t35_0, hcell h_1 (a_1.add (Int.toNat (IntKind.wrap .i64 (((t26_l : Nat) : Int) - 1)) * 2)) = some (.int .i64 t35_0) ∧ ∃ t35_1, hcell h_1 ((a_1.add (Int.toNat (IntKind.wrap .i64 (((t26_l : Nat) : Int) - 1)) * 2)).add 1) = some (.int .u64 t35_1) ∧
 NewP h_1 (.cells #[.int .i64 0, .int .u64 0] 398) fun b h_2 =>
 StoreP h_2 ⟨b, 0, none⟩ (.int .i64 t35_0) fun h_3 =>
 StoreP h_3 ⟨b, 1, none⟩ (.int .u64 t35_1) fun h_4 =>
 ∃ t40_p t40_l t40_c, hcell h_4 ⟨a, 0, none⟩ = some (.slice t40_p t40_l t40_c) ∧
 ((0 : Int) ≤ IntKind.wrap .i64 (((t26_l : Nat) : Int) - 1) ∧ IntKind.wrap .i64 (((t26_l : Nat) : Int) - 1) ≤ ((t40_c : Nat) : Int)) ∧
 StoreP h_4 ⟨a, 0, none⟩ (.slice (slBase t40_p t40_c 0 2) ((Int.toNat (IntKind.wrap .i64 (((t26_l : Nat) : Int) - 1))) - 0) (t40_c - 0)) fun h_5 =>
 ∃ t48, hcell h_5 ⟨a, 1, none⟩ = some (.map t48) ∧
 Dsz (Builtin.delete_ #[188, 3] 0 #[.map t48, .int .i64 key]) h_5 fun v_1 h_6 =>
 v_1 = .tuple #[] ∧
 JoinP (fun h_7 =>
 R (.int .i64 0) h_7)
 (fun J =>
 ite (decide (t18_0 < (IntKind.wrap .i64 (((t26_l : Nat) : Int) - 1))))
 (  ∃ t55_0, hcell h_6 ⟨b, 0, none⟩ = some (.int .i64 t55_0) ∧ ∃ t55_1, hcell h_6 ⟨b, 1, none⟩ = some (.int .u64 t55_1) ∧
 Cl 271 #[.pointer (some ⟨a, 0, none⟩), .int .i64 t18_0, .agg #[.int .i64 t55_0, .int .u64 t55_1]] h_6 fun v_2 h_8 =>
 v_2 = .tuple #[] ∧
 Cl 272 #[.pointer (some ⟨a, 0, none⟩), .int .i64 t18_0] h_8 fun v_3 h_9 =>
 v_3 = .tuple #[] ∧
 ∃ t64, hcell h_9 ⟨a, 1, none⟩ = some (.map t64) ∧
 ∃ t66, hcell h_9 ⟨b, 0, none⟩ = some (.int .i64 t66) ∧
 ∃ t67, Lkz 188 (.map t64) (.int .i64 t66) false h_9 (.int .i64 t67) ∧
 Cl 273 #[.pointer (some ⟨a, 0, none⟩), .int .i64 t67] h_9 fun v_4 h_10 =>
 v_4 = .tuple #[] ∧
 hcell h_10 ⟨b, 0, none⟩ = some (.int .i64 t66) ∧
 hcell h_10 ⟨a, 1, none⟩ = some (.map t64) ∧
 J h_10)
 (  J h_6))))) : Cl 225 #[.pointer (some ⟨a, 0, none⟩), .int .i64 key] h R :=
 callsN [(31, .join []), (36, fun _ => .plan (opL [0,1,2,3,4,5,6,7,8] .done))] hv
theorem alarm_Alarm_Next.walk (hv :
 Cl 269 #[.pointer (some ⟨a, 0, none⟩)] h fun v h_1 =>
 ∃ t6, v = .int .i64 t6 ∧
 ite (t6 == 0)
 (  R (.tuple #[.int .i64 0, .int .u64 0, .bool false]) h_1)
 (  ∃ t11_p t11_l t11_c, hcell h_1 ⟨a, 0, none⟩ = some (.slice t11_p t11_l t11_c) ∧
 ((0 : Int) ≤ 0 ∧ 0 < ((t11_l : Nat) : Int)) ∧
 onSome t11_p fun a_1 =>
 ∃ t14, hcell h_1 (a_1.add (Int.toNat 0 * 2)) = some (.int .i64 t14) ∧
 ∃ t18_p t18_l t18_c, hcell h_1 ⟨a, 0, none⟩ = some (.slice t18_p t18_l t18_c) ∧
 ((0 : Int) ≤ 0 ∧ 0 < ((t18_l : Nat) : Int)) ∧
 onSome t18_p fun a_2 =>
 ∃ t21, hcell h_1 ((a_2.add (Int.toNat 0 * 2)).add 1) = some (.int .u64 t21) ∧
 R (.tuple #[.int .i64 t14, .int .u64 t21, .bool true]) h_1)) : Cl 224 #[.pointer (some ⟨a, 0, none⟩)] h R :=
 callsN [(11, fun _ => .plan (opL [0,1,2,3,4,5,6,7,8,9,10,11,12,13,14,15,16] .done))] hv
theorem alarm_Alarm_Ring.walk {now : Int} (hv :
 Cl 224 #[.pointer (some ⟨a, 0, none⟩)] h fun v h_1 =>
 ∃ t11_0 t11_1 t11_2, v = .tuple #[.int .i64 t11_0, .int .u64 t11_1, .bool t11_2] ∧
 ∃ (I : Option Addr → Nat → Nat → Int → Int → Bool → Heap → Prop) (mu : Option Addr → Nat → Nat → Int → Int → Bool → Heap → Nat), I none 0 0 t11_0 t11_1 t11_2 h_1 ∧ ∀ out_p out_l out_c key v_at is h_2, I out_p out_l out_c key v_at is h_2 →
 JoinP (fun (t20 : Bool) h_3 =>
 ite t20
 (  NewP h_3 (.cells #[.int .i64 key] 3) fun b h_4 =>
 Dsz (Builtin.append_ #[58, 58] 58 #[.slice out_p out_l out_c, .slice (some ⟨b, 0, none⟩) 1 1]) h_4 fun v_1 h_5 =>
 ∃ t30_p t30_l t30_c, v_1 = .slice t30_p t30_l t30_c ∧
 Cl 225 #[.pointer (some ⟨a, 0, none⟩), .int .i64 key] h_5 fun v_2 h_6 =>
 ∃ t33, v_2 = .int .i64 t33 ∧
 Cl 224 #[.pointer (some ⟨a, 0, none⟩)] h_6 fun v_3 h_7 =>
 ∃ t23_0 t23_1 t23_2, v_3 = .tuple #[.int .i64 t23_0, .int .u64 t23_1, .bool t23_2] ∧
 (I t30_p t30_l t30_c t23_0 t23_1 t23_2 h_7 ∧ mu t30_p t30_l t30_c t23_0 t23_1 t23_2 h_7 < mu out_p out_l out_c key v_at is h_2))
 (  R (.slice out_p out_l out_c) h_3))
 (fun J =>
 ite is
 (  J (decide (v_at ≤ now)) h_2)
 (  J false h_2))) : Cl 197 #[.pointer (some ⟨a, 0, none⟩), .int .u64 now] h R :=
 callsN [(8, .loop [(5, sS), (6, sI), (7, sU), (8, sB)]), (11, .join [(20, sB)])] hv

end
section
open Go.Heapq
namespace Alarm
theorem tm : MapTy Tryz.prog 188 (.int .i64 0) := .of 3 3 .i64 (by kernel_rfl) (by kernel_rfl) (by kernel_rfl)
def enc (es : List E) : List Value := es.flatMap fun e => [.int .i64 e.1, .int .u64 e.2]
theorem enc_cons (e : E) (es : List E) : enc (e :: es) = .int .i64 e.1 :: .int .u64 e.2 :: enc es := rfl
theorem enc_len : ∀ es : List E, (enc es).length = es.length * 2
  | [] => rfl
  | e :: es => by rw [enc_cons]; simp only [List.length_cons, enc_len es]; omega
theorem enc_0 : ∀ {es : List E} {i : Nat}, i < es.length → (enc es)[i * 2]? = some (.int .i64 (at_ es i).1)
  | [], _, h => by simp at h
  | e :: es, 0, _ => rfl
  | e :: es, i + 1, h => by
    rw [enc_cons, show (i + 1) * 2 = i * 2 + 1 + 1 by omega, List.getElem?_cons_succ, List.getElem?_cons_succ, enc_0 (by grind)]
    rfl
theorem enc_1 : ∀ {es : List E} {i : Nat}, i < es.length → (enc es)[i * 2 + 1]? = some (.int .u64 (at_ es i).2)
  | [], _, h => by simp at h
  | e :: es, 0, _ => rfl
  | e :: es, i + 1, h => by
    rw [enc_cons, show (i + 1) * 2 + 1 = i * 2 + 1 + 1 + 1 by omega, List.getElem?_cons_succ, List.getElem?_cons_succ, enc_1 (by grind)]
    rfl
theorem enc_set : ∀ (es : List E) (i : Nat) (x : E), ((enc es).set (i * 2) (.int .i64 x.1)).set (i * 2 + 1) (.int .u64 x.2) = enc (es.set i x)
  | [], _, _ => by simp [enc]
  | e :: es, 0, x => rfl
  | e :: es, i + 1, x => by
    rw [enc_cons, show (i + 1) * 2 = i * 2 + 1 + 1 by omega, List.set_cons_succ, List.set_cons_succ, List.set_cons_succ, List.set_cons_succ, enc_set es i x]
    rfl
theorem enc_take : ∀ (es : List E) (n : Nat), (enc es).take (n * 2) = enc (es.take n)
  | [], n => by simp [enc]
  | e :: es, 0 => by simp [enc]
  | e :: es, n + 1 => by
    rw [enc_cons, show (n + 1) * 2 = n * 2 + 1 + 1 by omega, List.take_succ_cons, List.take_succ_cons, enc_take es n]
    rfl
structure Mem (h : Heap) (a : Nat) (p : Option Addr) (cap m : Nat) (es : List E) (g : Int → Option Value) : Prop where
  blk : h[a]? = some (.cells #[.slice p es.length cap, .map (some m)] 249 (0, 0))
  own : Own h p es.length cap 2 (enc es)
  map : MapF h m g
  ne : ¬ inBlk p a
def foot (a : Nat) (p : Option Addr) (m : Nat) (c : Nat) : Prop := c = a ∨ c = m ∨ inBlk p c
def inner (p : Option Addr) (m : Nat) (c : Nat) : Prop := c = m ∨ inBlk p c
variable {h : Heap} {a m cap : Nat} {p : Option Addr} {es : List E} {g : Int → Option Value} {R : Value → Heap → Prop}
theorem Mem.am (M : Mem h a p cap m es g) : a ≠ m := by
  rintro rfl
  have ⟨x, c, hm⟩ := M.map.map
  rw [M.blk] at hm; cases hm
theorem Mem.pm (M : Mem h a p cap m es g) : ¬ inBlk p m := fun hb => by
  have ⟨x, c, hm⟩ := M.map.map
  have ⟨y, t, hc⟩ := M.own.cells hb
  rw [hc] at hm; cases hm
theorem Mem.lt (M : Mem h a p cap m es g) {c : Nat} (hc : foot a p m c) : c < h.size := by
  rcases hc with rfl | rfl | hc
  · exact lt_of_get M.blk
  · exact M.map.lt
  · exact M.own.blk_lt hc
theorem Mem.frame {S : Nat → Prop} {h' : Heap} (M : Mem h a p cap m es g) (hf : Fr S h h') (hn : ∀ c, foot a p m c → ¬ S c) : Mem h' a p cap m es g :=
  ⟨hf.get M.blk (hn a (.inl rfl)), M.own.frame hf fun c hc => hn c (.inr (.inr hc)), M.map.frame hf (hn m (.inr (.inl rfl))), M.ne⟩
theorem Mem.calm {h' : Heap} (M : Mem h a p cap m es g) (hf : Fr No h h') : Mem h' a p cap m es g := M.frame hf fun _ _ => id
theorem Mem.hd (M : Mem h a p cap m es g) : hcell h ⟨a, 0, none⟩ = some (.slice p es.length cap) := cell_at M.blk rfl
theorem Mem.mp (M : Mem h a p cap m es g) : hcell h ⟨a, 1, none⟩ = some (.map (some m)) := cell_at M.blk rfl
theorem Mem.some (M : Mem h a p cap m es g) (hn : 0 < es.length) : ∃ ad, p = some ad := by
  have ⟨b, off, hp⟩ := M.own.some (by rw [enc_len]; omega)
  exact ⟨_, hp⟩
theorem Mem.c0 {ad : Addr} (M : Mem h a (.some ad) cap m es g) {i : Nat} (hi : i < es.length) : hcell h (ad.add (i * 2)) = .some (.int .i64 (at_ es i).1) := M.own.cell (enc_0 hi)
theorem Mem.c1 {ad : Addr} (M : Mem h a (.some ad) cap m es g) {i : Nat} (hi : i < es.length) : hcell h ((ad.add (i * 2)).add 1) = .some (.int .u64 (at_ es i).2) := by
  rw [add_add]; exact M.own.cell (enc_1 hi)
theorem ahead_ok {x0 x1 y0 y1 : Int} (hk : ∀ h', Fr No h h' → R (.bool (decide (lt (x0, x1) (y0, y1)))) h') :
    Cl 333 #[.agg #[.int .i64 x0, .int .u64 x1], .agg #[.int .i64 y0, .int .u64 y1]] h R := by
  refine alarm_ahead.walk ?_
  rintro b h1 rfl rfl b1 h2 rfl rfl
  have f : Fr No h ((h.push (.cells #[.int .i64 x0, .int .u64 x1] 398)).push (.cells #[.int .i64 y0, .int .u64 y1] 398)) := Fr.tt (Fr.push _ _) (Fr.push _ _)
  have hx := push_old (x := .cells #[.int .i64 y0, .int .u64 y1] 398) (push_new (h := h) (x := .cells #[.int .i64 x0, .int .u64 x1] 398))
  have hy := push_new (h := h.push (.cells #[.int .i64 x0, .int .u64 x1] 398)) (x := .cells #[.int .i64 y0, .int .u64 y1] 398)
  have hr := hk _ f
  refine ⟨x1, cell_at hx rfl, y1, cell_at hy rfl, ?_⟩
  by_cases h1 : x1 < y1
  · have e : decide (lt (x0, x1) (y0, y1)) = true := by simp [lt, h1]
    rw [e] at hr
    simpa only [h1, decide_true, if_true] using hr
  · rw [if_neg (by simp only [decide_eq_true_eq]; omega)]
    refine ⟨x1, cell_at hx rfl, y1, cell_at hy rfl, ?_⟩
    by_cases h2 : x1 = y1
    · subst h2
      simp only [beq_self_eq_true, if_true]
      refine ⟨x0, cell_at hx rfl, y0, cell_at hy rfl, ?_⟩
      have e : decide (lt (x0, x1) (y0, x1)) = decide (x0 < y0) := by simp [lt]
      rw [e] at hr
      exact hr
    · have e : decide (lt (x0, x1) (y0, y1)) = false := by simp [lt, h1, h2]
      rw [e] at hr
      simpa only [beq_eq_false_iff_ne.2 h2, Bool.false_eq_true, if_false] using hr
theorem put_ok (M : Mem h a p cap m es g) {i : Nat} (hi : i < es.length) {x0 x1 : Int}
    (hk : ∀ h', Mem h' a p cap m (es.set i (x0, x1)) (fun k => if k = x0 then some (.int .i64 i) else g k) → Fr (inner p m) h h' → R (.tuple #[]) h') :
    Cl 271 #[.pointer (some ⟨a, 0, none⟩), .int .i64 i, .agg #[.int .i64 x0, .int .u64 x1]] h R := by
  obtain ⟨ad, rfl⟩ := M.some (by omega)
  refine alarm_Alarm_put.walk ?_
  rintro b h1 hb rfl
  have f1 : Fr No h (h.push (.cells #[.int .i64 x0, .int .u64 x1] 398)) := Fr.push _ _
  have M1 := M.calm f1
  have hx := push_new (h := h) (x := .cells #[.int .i64 x0, .int .u64 x1] 398)
  rw [← hb] at hx
  generalize h.push (.cells #[.int .i64 x0, .int .u64 x1] 398) = h1 at f1 M1 hx
  have hbn : ∀ c, foot a (some ad) m c → b ≠ c := fun c hc e => by have := M.lt hc; omega
  refine ⟨_, _, _, M1.hd, x0, cell_at hx rfl, x1, cell_at hx rfl, ⟨by omega, by omega⟩, onSome_some.2 ?_⟩
  rw [Int.toNat_natCast, add_add]
  have hl := enc_len es
  refine M1.own.store (by omega) fun h2 o2 s2 k2 => o2.store (by grind) fun h3 o3 s3 k3 => ?_
  rw [enc_set es i (x0, x1)] at o3
  have f2  := Fr.tt (Fr.of_eq s2 k2) (Fr.of_eq s3 k3)
  have hb3 := f2.get M1.blk M.ne
  refine ⟨_, cell_at hb3 rfl, x0, cell_at (f2.get hx (fun hc => hbn b (.inr (.inr hc)) rfl)) rfl, (den_mapUpdateF tm (M1.map.frame f2 M.pm) fun h4 m4 s4 k4 => hk h4 ⟨?_, ?_, m4, M.ne⟩ ?_)⟩
  · rw [k4 a M.am, hb3, List.length_set]
  · rw [List.length_set]
    exact o3.frame (Fr.of_eq s4 k4) (fun c hc e => M.pm (e ▸ hc))
  · exact Fr.no f1 ((f2.mono fun c _ hc => .inr hc).trans (Fr.of_eq s4 k4) (fun _ _ => id) (fun _ _ hc => .inl hc))
theorem fork2 {h : Heap} {t : TypeId} {z0 z1 x0 x1 y0 y1 : Value} {G1 G2 G3 G4 : Heap → Prop} {J : Option Addr → Option Addr → Heap → Prop}
    (hG : ∀ h', Fr No h h' → G1 h' ∧ G2 h' ∧ G3 h' ∧ G4 h')
    (hJ : ∀ b b' h', h'[b]? = some (.cells #[x0, x1] t (0, 0)) → h'[b']? = some (.cells #[y0, y1] t (0, 0)) → h.size ≤ b → h.size ≤ b' → Fr No h h' → J (some ⟨b, 0, none⟩) (some ⟨b', 0, none⟩) h') :
    (NewP h (.cells #[z0, z1] t) fun b h_6 => G1 h_6 ∧ G2 h_6 ∧ G3 h_6 ∧ G4 h_6 ∧ NewP h_6 (.cells #[z0, z1] t) fun b_1 h_7 => G1 h_7 ∧ G2 h_7 ∧ G3 h_7 ∧ G4 h_7 ∧
      StoreP h_7 ⟨b, 0, none⟩ x0 fun h_8 => StoreP h_8 ⟨b, 1, none⟩ x1 fun h_9 => G1 h_9 ∧ G2 h_9 ∧ StoreP h_9 ⟨b_1, 0, none⟩ y0 fun h_10 => StoreP h_10 ⟨b_1, 1, none⟩ y1 fun h_11 => J (some ⟨b, 0, none⟩) (some ⟨b_1, 0, none⟩) h_11) ∧
    (NewP h (.cells #[z0, z1] t) fun b h_6 => G1 h_6 ∧ G2 h_6 ∧ G3 h_6 ∧ G4 h_6 ∧ NewP h_6 (.cells #[z0, z1] t) fun b_1 h_7 => G1 h_7 ∧ G2 h_7 ∧ G3 h_7 ∧ G4 h_7 ∧
      StoreP h_7 ⟨b_1, 0, none⟩ x0 fun h_8 => StoreP h_8 ⟨b_1, 1, none⟩ x1 fun h_9 => G1 h_9 ∧ G2 h_9 ∧ StoreP h_9 ⟨b, 0, none⟩ y0 fun h_10 => StoreP h_10 ⟨b, 1, none⟩ y1 fun h_11 => J (some ⟨b_1, 0, none⟩) (some ⟨b, 0, none⟩) h_11) ∧ True := by
  have key : ∀ (b b' : Nat) (h7 : Heap), b ≠ b' → h.size ≤ b → h.size ≤ b' → Fr No h h7 → h7[b]? = some (.cells #[z0, z1] t (0, 0)) → h7[b']? = some (.cells #[z0, z1] t (0, 0)) →
      StoreP h7 ⟨b, 0, none⟩ x0 fun h_8 => StoreP h_8 ⟨b, 1, none⟩ x1 fun h_9 => G1 h_9 ∧ G2 h_9 ∧ StoreP h_9 ⟨b', 0, none⟩ y0 fun h_10 => StoreP h_10 ⟨b', 1, none⟩ y1 fun h_11 => J (some ⟨b, 0, none⟩) (some ⟨b', 0, none⟩) h_11 := by
    intro b b' h7 hne hb hb' f7 c7 c7'
    have fr : ∀ {h1 h2 : Heap} {x : Nat}, Fr No h h1 → h.size ≤ x → h2.size = h1.size → (∀ y, y ≠ x → h2[y]? = h1[y]?) → Fr No h h2 := fun f hx hs ho =>
      ⟨by have := f.1; omega, fun c hc hn => by rw [ho c (by omega)]; exact f.2 c hc hn⟩
    refine storeP_blk c7 (by simp) fun h8 c8 s8 k8 => storeP_blk c8 (by simp) fun h9 c9 s9 k9 => ?_
    have f9 := fr (fr f7 hb s8 k8) hb s9 k9
    have c9' : h9[b']? = some (.cells #[z0, z1] t (0, 0)) := by rw [k9 _ hne.symm, k8 _ hne.symm]; exact c7'
    refine ⟨(hG _ f9).1, (hG _ f9).2.1, storeP_blk c9' (by simp) fun h10 c10 s10 k10 => storeP_blk c10 (by simp) fun h11 c11 s11 k11 => ?_⟩
    refine hJ b b' h11 ?_ c11 hb hb' (fr (fr f9 hb' s10 k10) hb' s11 k11)
    rw [k11 _ hne, k10 _ hne]; exact c9
  have f1 : ∀ o, Fr No h (h.push o) := fun o => Fr.push _ _
  refine ⟨?_, ?_, trivial⟩
  · rintro b h1 rfl rfl
    obtain ⟨g1, g2, g3, g4⟩ := hG _ (f1 _)
    refine ⟨g1, g2, g3, g4, ?_⟩
    rintro b' h2 rfl rfl
    have f2 := Fr.tt (f1 (.cells #[z0, z1] t)) (Fr.push (h.push (.cells #[z0, z1] t)) (.cells #[z0, z1] t))
    obtain ⟨g1, g2, g3, g4⟩ := hG _ f2
    exact ⟨g1, g2, g3, g4, key _ _ _ (by simp) (by simp) (by simp) f2 (push_old push_new) push_new⟩
  · rintro b h1 rfl rfl
    obtain ⟨g1, g2, g3, g4⟩ := hG _ (f1 _)
    refine ⟨g1, g2, g3, g4, ?_⟩
    rintro b' h2 rfl rfl
    have f2 := Fr.tt (f1 (.cells #[z0, z1] t)) (Fr.push (h.push (.cells #[z0, z1] t)) (.cells #[z0, z1] t))
    obtain ⟨g1, g2, g3, g4⟩ := hG _ f2
    exact ⟨g1, g2, g3, g4, key _ _ _ (by simp) (by simp) (by simp) f2 push_new (push_old push_new)⟩
end Alarm
end
section
open Go.Heapq
namespace Alarm
variable {h:Heap} {a m cap:Nat} {p:TyO} {es:List E} {g:Int→Option Value} {R:TyP}
variable {q i b:Nat}
theorem par_eq (hq : q < 1000000) : IntKind.wrap .i64 (Int.tdiv (IntKind.wrap .i64 ((q : Int) - 1)) 2) = (((q - 1) / 2 : Nat) : Int) := by
  rw [wrap_id (n := (q) - 1) (by omega) (by omega)]
  cases q with
  | zero => decide
  | succ n =>
    rw [show ((n + 1 : Nat)) - 1 = (n : Int) by omega, show n + 1 - 1 = n from rfl]
    have : Int.tdiv (n) 2 = ((n / 2)) := by
      rfl
    exact wrap_id (by omega) (by omega)
theorem kid1_eq (hq : q < 1000000) : IntKind.wrap .i64 (IntKind.wrap .i64 (2 * (q : Int)) + 1) = ((2 * q + 1 : Nat) : Int) := by
  rw [wrap_id (n := 2 * (q)) (by omega) (by omega), wrap_id (by omega) (by omega)]; omega
theorem kid2_eq (hq : q < 1000000) : IntKind.wrap .i64 (IntKind.wrap .i64 (2 * (q : Int)) + 2) = ((2 * q + 2 : Nat) : Int) := by
  rw [wrap_id (n := 2 * (q)) (by omega) (by omega), wrap_id (by omega) (by omega)]; omega
theorem swap_ok {K : Heap → Prop} (M : Mem h a p cap m es g) (hP : PlaceOk es g) {j b':Nat} (hi : i < es.length) (hj : j < es.length) (hne : i ≠ j)
    (hb : h[b]? = some (.cells #[.int .i64 (at_ es i).1, .int .u64 (at_ es i).2] 398 (0, 0))) (hb' : h[b']? = some (.cells #[.int .i64 (at_ es j).1, .int .u64 (at_ es j).2] 398 (0, 0)))
    (nb' : ¬ inner p m b')
    (hk : ∀ h' g', Mem h' a p cap m (swapL es i j) g' → PlaceOk (swapL es i j) g' → Fr (inner p m) h h' → K h') :
    onSome (some (⟨b, 0, none⟩ : Addr)) fun a_1 =>
      ∃ (t45_0 : Int), hcell h a_1 = some (.int .i64 t45_0) ∧ ∃ (t45_1 : Int), hcell h (a_1.add 1) = some (.int .u64 t45_1) ∧
      Cl 271 #[.pointer (some ⟨a, 0, none⟩), .int .i64 (j : Int), .agg #[.int .i64 t45_0, .int .u64 t45_1]] h fun v h_4 =>
      v = .tuple #[] ∧
      onSome (some (⟨b', 0, none⟩ : Addr)) fun a_2 =>
      ∃ (t49_0 : Int), hcell h_4 a_2 = some (.int .i64 t49_0) ∧ ∃ (t49_1 : Int), hcell h_4 (a_2.add 1) = some (.int .u64 t49_1) ∧
      Cl 271 #[.pointer (some ⟨a, 0, none⟩), .int .i64 (i : Int), .agg #[.int .i64 t49_0, .int .u64 t49_1]] h_4 fun v_1 h_5 =>
      v_1 = .tuple #[] ∧ K h_5 := by
  refine onSome_some.2 ⟨_, cell_at hb rfl, _, by rw [add_blk]; exact cell_at hb rfl, ?_⟩
  refine put_ok M hj fun h4 M4 f4 => ⟨rfl, onSome_some.2 ?_⟩
  have hb4 := f4.get hb' nb'
  refine ⟨_, cell_at hb4 rfl, _, by rw [add_blk]; exact cell_at hb4 rfl, ?_⟩
  refine put_ok M4 (by rw [List.length_set]; exact hi) fun h5 M5 f5 => ⟨rfl, hk h5 _ M5 (hP.swap hi hj hne) (Fr.tt f4 f5)⟩
def upI (h0 : Heap) (a : Nat) (p : Option Addr) (cap m : Nat) (es0 : List E) (i0 : Nat) (i : Int) (h : Heap) : Prop :=
  ∃ es g q, i = ((q : Nat) : Int) ∧ q < es0.length ∧ es.length = es0.length ∧ Mem h a p cap m es g ∧ PlaceOk es g ∧ es.Perm es0 ∧ ExBoth (at_ es) es0.length q ∧
    ((q = i0 ∧ es = es0) ∨ KidsOk (at_ es) es0.length q) ∧ at_ es q = at_ es0 i0 ∧ Fr (inner p m) h0 h
theorem up_ok (M : Mem h a p cap m es g) (hP : PlaceOk es g) (hi : i < es.length) (hn : es.length < 1000000) (ex : ExBoth (at_ es) es.length i)
    (hk : ∀ h' es' g' q, Mem h' a p cap m es' g' → PlaceOk es' g' → es'.Perm es → es'.length = es.length → q < es.length → at_ es' q = at_ es i → ExDown (at_ es') es.length q → (KidsOk (at_ es) es.length i → HeapO (at_ es') es.length) → Fr (inner p m) h h' → R (.tuple #[]) h') :
    Cl 272 #[.pointer (some ⟨a, 0, none⟩), .int .i64 (i : Int)] h R := by
  refine alarm_Alarm_up.walk ⟨upI h a p cap m es i, fun i _ => i.toNat, ⟨es, g, i, rfl, hi, rfl, M, hP, .refl _, ex, .inl ⟨rfl, rfl⟩, rfl, Fr.refl _ _⟩, ?_⟩
  rintro i1 h1 ⟨es1, g1, q, rfl, hq, hl, M1, P1, pm1, ex1, kd, hat, fr⟩
  rw [par_eq (by omega)]
  refine JoinP.of fun J hJ => ?_
  have hq1 : q < es1.length := by omega
  have hp1 : (q - 1) / 2 < es1.length := by omega
  have stay : ∀ h2, Fr No h1 h2 → (q = 0 ∨ le (at_ es1 ((q - 1) / 2)) (at_ es1 q)) → J false h2 := by
    intro h2 f hle
    subst hJ
    simp only [Bool.false_eq_true, if_false]
    have hd := up_stay ex1 hle
    refine hk h2 es1 g1 q (M1.calm f) P1 pm1 hl hq hat hd (fun k0 => ?_) (Fr.on fr f)
    rcases kd with ⟨e1, e2⟩ | kd
    · subst e1 e2; exact heap_of_down hd k0
    · exact heap_of_down hd kd
  by_cases h0 : q = 0
  · subst h0
    exact stay h1 (Fr.refl _ _) (.inl rfl)
  · have hgt : (q : Int) > 0 := by omega
    simp only [hgt, decide_true, if_true, Int.toNat_natCast]
    obtain ⟨ad, rfl⟩ := M1.some (by omega)
    refine ⟨_, _, _, M1.hd, ⟨by omega, by omega⟩, onSome_some.2 ⟨_, M1.c0 hq1, _, M1.c1 hq1, _, _, _, M1.hd, ⟨by omega, by omega⟩, onSome_some.2 ⟨_, M1.c0 hp1, _, M1.c1 hp1, ahead_ok fun h2 f => ⟨_, rfl, (M1.calm f).hd, (M1.calm f).hd, ?_⟩⟩⟩⟩
    by_cases hlt : lt (at_ es1 q) (at_ es1 ((q - 1) / 2))
    · rw [show decide (lt ((at_ es1 q).1, (at_ es1 q).2) ((at_ es1 ((q - 1) / 2)).1, (at_ es1 ((q - 1) / 2)).2)) = true from decide_eq_true hlt]
      subst hJ
      rw [if_pos rfl, Int.toNat_natCast]
      have M2 := M1.calm f
      refine JoinP.of fun J1 hJ1 => ⟨_, _, _, M2.hd, ⟨by omega, by omega⟩, onSome_some.2 ⟨_, M2.c0 hq1, _, M2.c1 hq1, _, _, _, M2.hd, ⟨by omega, by omega⟩, onSome_some.2 ⟨_, M2.c0 hp1, _, M2.c1 hp1, (fork2 (fun h' f' => ?_) (fun b b' h' hb hb' sb sb' f' => ?_))⟩⟩⟩
      · have M' := M2.calm f'
        exact ⟨⟨M'.c0 hp1, M'.c1 hp1, trivial⟩, M'.hd, ⟨M'.c0 hq1, M'.c1 hq1, trivial⟩, M'.hd⟩
      · subst hJ1
        refine swap_ok (M2.calm f') P1 hq1 hp1 (by omega) hb hb' (fun hc => ?_) fun h5 g5 M5 P5 f5 => ⟨⟨swapL es1 q ((q - 1) / 2), g5, (q - 1) / 2, rfl, by omega, by rw [swapL_len]; exact hl, M5, P5, (swapL_perm hq1 hp1).trans pm1, ?_⟩, ?_⟩
        · have := M2.lt (.inr hc); omega
        · have mv := up_move ex1 (by omega) hq rfl hlt
          rw [swapL_fun hq1 hp1]
          refine ⟨mv.1, .inr mv.2, ?_, Fr.tt fr (Fr.no f (Fr.no f' f5))⟩
          rw [← hat]; unfold swapf; rw [if_neg (by omega), if_pos rfl]
        · grind
    · rw [show decide (lt ((at_ es1 q).1, (at_ es1 q).2) ((at_ es1 ((q - 1) / 2)).1, (at_ es1 ((q - 1) / 2)).2)) = false from decide_eq_false hlt]
      exact stay h2 f (.inr hlt)
theorem kid_ok {J : Int → Heap → Prop} (M : Mem h a p cap m es g) {c:Nat} (hb : b < es.length)
    (k1 : es.length ≤ c → J b h) (k2 : c < es.length → lt (at_ es c) (at_ es b) → ∀ h', Fr No h h' → J c h') (k3 : c < es.length → ¬ lt (at_ es c) (at_ es b) → ∀ h', Fr No h h' → J b h') :
    JoinP (fun (t43 : Bool) (h_4 : Heap) =>
      JoinP (fun (best_2 : Int) (h_5 : Heap) =>
        J best_2 h_5)
      (fun J_2 =>
        if t43 = true then
          J_2 (c : Int) h_4
        else
          J_2 (b : Int) h_4))
    (fun J_1 =>
      ∃ (t24_p : Option Addr) (t24_l t24_c : Nat), hcell h ⟨a, 0, none⟩ = some (.slice t24_p t24_l t24_c) ∧
      if (decide ((c : Int) < ((t24_l : Nat) : Int))) = true then
        ∃ (t31_p : Option Addr) (t31_l t31_c : Nat), hcell h ⟨a, 0, none⟩ = some (.slice t31_p t31_l t31_c) ∧
        ((0 : Int) ≤ (c : Int) ∧ (c : Int) < ((t31_l : Nat) : Int)) ∧
        onSome t31_p fun a_1 =>
        ∃ (t34_0 : Int), hcell h (a_1.add (Int.toNat (c : Int) * 2)) = some (.int .i64 t34_0) ∧ ∃ (t34_1 : Int), hcell h ((a_1.add (Int.toNat (c : Int) * 2)).add 1) = some (.int .u64 t34_1) ∧
        ∃ (t38_p : Option Addr) (t38_l t38_c : Nat), hcell h ⟨a, 0, none⟩ = some (.slice t38_p t38_l t38_c) ∧
        ((0 : Int) ≤ (b : Int) ∧ (b : Int) < ((t38_l : Nat) : Int)) ∧
        onSome t38_p fun a_2 =>
        ∃ (t41_0 : Int), hcell h (a_2.add (Int.toNat (b : Int) * 2)) = some (.int .i64 t41_0) ∧ ∃ (t41_1 : Int), hcell h ((a_2.add (Int.toNat (b : Int) * 2)).add 1) = some (.int .u64 t41_1) ∧
        Cl 333 #[.agg #[.int .i64 t34_0, .int .u64 t34_1], .agg #[.int .i64 t41_0, .int .u64 t41_1]] h fun v h_6 =>
        ∃ (t42 : Bool), v = .bool t42 ∧
        hcell h_6 ⟨a, 0, none⟩ = some (.slice t38_p t38_l t38_c) ∧
        hcell h_6 ⟨a, 0, none⟩ = some (.slice t31_p t31_l t31_c) ∧
        hcell h_6 ⟨a, 0, none⟩ = some (.slice t24_p t24_l t24_c) ∧
        J_1 t42 h_6
      else
        J_1 false h) := by
  refine JoinP.of fun J1 hJ1 => ⟨_, _, _, M.hd, ?_⟩
  by_cases hc : c < es.length
  · have hc' : (c : Int) < (es.length : Int) := by omega
    simp only [hc', decide_true, if_true, Int.toNat_natCast]
    obtain ⟨ad, rfl⟩ := M.some (by omega)
    refine ⟨_, _, _, M.hd, ⟨by omega, by omega⟩, onSome_some.2 ⟨_, M.c0 hc, _, M.c1 hc, _, _, _, M.hd, ⟨by omega, by omega⟩, onSome_some.2 ⟨_, M.c0 hb, _, M.c1 hb, ahead_ok fun h2 f => ⟨_, rfl, (M.calm f).hd, (M.calm f).hd, (M.calm f).hd, ?_⟩⟩⟩⟩
    subst hJ1
    by_cases hlt : lt (at_ es c) (at_ es b)
    · rw [show decide (lt ((at_ es c).1, (at_ es c).2) ((at_ es b).1, (at_ es b).2)) = true from decide_eq_true hlt]
      simp only [if_true, JoinP]
      exact k2 hc hlt h2 f
    · rw [show decide (lt ((at_ es c).1, (at_ es c).2) ((at_ es b).1, (at_ es b).2)) = false from decide_eq_false hlt]
      simp only [Bool.false_eq_true, if_false, JoinP]
      exact k3 hc hlt h2 f
  · have hc' : ¬ (c : Int) < (es.length : Int) := by omega
    subst hJ1
    simp only [hc', decide_false, Bool.false_eq_true, if_false, JoinP]
    exact k1 (by omega)
def dnI (h0 : Heap) (a : Nat) (p : Option Addr) (cap m : Nat) (es0 : List E) (i : Int) (h : Heap) : Prop :=
  ∃ es g q, i = ((q : Nat) : Int) ∧ q < es0.length ∧ es.length = es0.length ∧ Mem h a p cap m es g ∧ PlaceOk es g ∧ es.Perm es0 ∧ ExDown (at_ es) es0.length q ∧ Fr (inner p m) h0 h
def kidI (h1 : Heap) (es : List E) (q : Nat) (best t : Int) (h : Heap) : Prop :=
  ∃ b k : Nat, best = b ∧ t = k ∧ k ≤ 2 ∧ b < es.length ∧ Fr No h1 h ∧ (b ≠ q → (b - 1) / 2 = q ∧ 0 < b ∧ lt (at_ es b) (at_ es q)) ∧ ∀ c, 0 < c → c < es.length → c ≤ 2 * q + k → (c - 1) / 2 = q → le (at_ es b) (at_ es c)
theorem down_ok (M : Mem h a p cap m es g) (hP : PlaceOk es g) (hi : i < es.length) (hn : es.length < 1000000) (ex : ExDown (at_ es) es.length i)
    (hk : ∀ h' es' g', Mem h' a p cap m es' g' → PlaceOk es' g' → es'.Perm es → es'.length = es.length → HeapO (at_ es') es.length → Fr (inner p m) h h' → R (.tuple #[]) h') :
    Cl 273 #[.pointer (some ⟨a, 0, none⟩), .int .i64 (i : Int)] h R := by
  refine alarm_Alarm_down.walk ⟨dnI h a p cap m es, fun i _ => es.length - i.toNat, ⟨es, g, i, rfl, hi, rfl, M, hP, .refl _, ex, Fr.refl _ _⟩, ?_⟩
  rintro i1 h1 ⟨es1, g1, q, rfl, hq, hl, M1, P1, pm1, ex1, fr⟩
  have hq1 : q < es1.length := by omega
  rw [kid1_eq (by omega), kid2_eq (by omega)]
  refine ⟨kidI h1 es1 q, fun _ t _ => 2 - t.toNat, ⟨q, 0, rfl, rfl, by omega, hq1, Fr.refl _ _, fun hne => absurd rfl hne, fun c h1 h2 h3 h4 => by omega⟩, ?_⟩
  rintro best t h2 ⟨b, k, rfl, rfl, hk2, hb, f2, hbq, hall⟩
  have M2 := M1.calm f2
  by_cases hkk : k < 2
  · have hkk' : (k : Int) < 2 := by omega
    simp only [hkk', decide_true, if_true]
    rw [wrap_id (n := (k : Int) + 1) (by omega) (by omega)]
    refine JoinP.of fun J hJ => ⟨⟨by omega, by omega⟩, fun hk0 => ?_, fun hk1 => ?_, trivial⟩
    · obtain rfl : k = 0 := by omega
      refine kid_ok M2 hb (fun hc => ?_) (fun hc hlt h3 f3 => ?_) (fun hc hlt h3 f3 => ?_) <;> subst hJ <;> refine ⟨?_, by simp⟩
      · exact ⟨b, 1, rfl, rfl, by omega, hb, f2, hbq, fun c c1 c2 c3 c4 => by omega⟩
      · refine ⟨2 * q + 1, 1, rfl, rfl, by omega, hc, Fr.tt f2 f3, fun _ => ⟨by omega, by omega, ?_⟩, fun c c1 c2 c3 c4 => ?_⟩
        · by_cases e : b = q
          · rw [← e]; exact e ▸ hlt
          · exact lt_trans hlt (hbq e).2.2
        · have : c = 2 * q + 1 := by omega
          subst this; exact le_refl _
      · refine ⟨b, 1, rfl, rfl, by omega, hb, Fr.tt f2 f3, hbq, fun c c1 c2 c3 c4 => ?_⟩
        have : c = 2 * q + 1 := by omega
        subst this; exact hlt
    · obtain rfl : k = 1 := by omega
      refine kid_ok M2 hb (fun hc => ?_) (fun hc hlt h3 f3 => ?_) (fun hc hlt h3 f3 => ?_) <;> subst hJ <;> refine ⟨?_, by simp⟩
      · exact ⟨b, 2, rfl, rfl, by omega, hb, f2, hbq, fun c c1 c2 c3 c4 => hall c c1 c2 (by omega) c4⟩
      · refine ⟨2 * q + 2, 2, rfl, rfl, by omega, hc, Fr.tt f2 f3, fun _ => ⟨by omega, by omega, ?_⟩, fun c c1 c2 c3 c4 => ?_⟩
        · by_cases e : b = q
          · rw [← e]; exact e ▸ hlt
          · exact lt_trans hlt (hbq e).2.2
        · by_cases e : c = 2 * q + 2
          · subst e; exact le_refl _
          · exact le_trans (le_of_lt hlt) (hall c c1 c2 (by omega) c4)
      · refine ⟨b, 2, rfl, rfl, by omega, hb, Fr.tt f2 f3, hbq, fun c c1 c2 c3 c4 => ?_⟩
        by_cases e : c = 2 * q + 2
        · subst e; exact hlt
        · grind
  · obtain rfl : k = 2 := by omega
    simp only [show ¬ ((2 : Nat) : Int) < 2 by omega, decide_false, Bool.false_eq_true, if_false]
    by_cases e : b = q
    · subst e
      simp only [bne_self_eq_false, Bool.false_eq_true, if_false]
      refine hk h2 es1 g1 M2 P1 pm1 hl (heap_of_down ex1 fun j j1 j2 j3 => hall j j1 (by omega) (by omega) j3) (Fr.on fr f2)
    · obtain ⟨b1, b2, b3⟩ := hbq e
      have hne : ((b : Int) != (q : Int)) = true := by simp; omega
      simp only [hne, if_true, Int.toNat_natCast]
      obtain ⟨ad, rfl⟩ := M2.some (by omega)
      refine JoinP.of fun J1 hJ1 => ?_
      refine ⟨_, _, _, M2.hd, ⟨by omega, by omega⟩, onSome_some.2 ⟨_, M2.c0 hq1, _, M2.c1 hq1, _, _, _, M2.hd, ⟨by omega, by omega⟩, onSome_some.2 ⟨_, M2.c0 hb, _, M2.c1 hb, ?_⟩⟩⟩
      refine fork2 (fun h' f' => ?_) (fun x x' h' hx hx' sx sx' f' => ?_)
      · have M' := M2.calm f'
        exact ⟨⟨M'.c0 hb, M'.c1 hb, trivial⟩, M'.hd, ⟨M'.c0 hq1, M'.c1 hq1, trivial⟩, M'.hd⟩
      · subst hJ1
        have M3 := M2.calm f'
        refine swap_ok M3 P1 hq1 hb (fun x => e x.symm) hx hx' (fun hc => ?_) fun h5 g5 M5 P5 f5 => ⟨⟨swapL es1 q b, g5, b, rfl, by omega, by rw [swapL_len]; exact hl, M5, P5, (swapL_perm hq1 hb).trans pm1, ?_, Fr.tt fr (Fr.no f2 (Fr.no f' f5))⟩, ?_⟩
        · have := M2.lt (.inr hc); omega
        · rw [swapL_fun hq1 hb]
          exact down_move ex1 b1 b2 (by omega) b3 fun j j1 j2 j3 => hall j j1 (by omega) (by omega) j3
        · grind

end Alarm
end
section
open Go.Heapq
namespace Alarm
variable {h:Heap} {a m cap:Nat} {p:TyO} {es:List E} {g:Int→Option Value} {R:TyP} {S:Nat→Prop} {L:List E}
theorem tI : SlTy Tryz.prog 58 3 1 8 (.int .i64 0) := ⟨by kernel_rfl, by kernel_rfl, rfl⟩
def Good (L : List E) : Prop := ∀ e ∈ L, 1 ≤ e.1 ∧ e.1 ≤ 1099511627776 ∧ 0 ≤ e.2 ∧ e.2 ≤ 1099511627776
def Al (h : Heap) (a : Nat) (S : Nat → Prop) (L : List E) : Prop :=
  ∃ p cap m es g, Mem h a p cap m es g ∧ PlaceOk es g ∧ HeapO (at_ es) es.length ∧ es.Perm L ∧ Sorted L ∧ Good L ∧ ∀ c, S c ↔ foot a p m c
theorem Al.lt (A : Al h a S L) {c : Nat} (hc : S c) : c < h.size := by
  have ⟨p, cap, m, es, g, M, _, _, _, _, _, hS⟩ := A
  exact M.lt ((hS c).1 hc)
theorem Al.frame {Q : Nat → Prop} {h' : Heap} (A : Al h a S L) (hf : Fr Q h h') (hn : ∀ c, S c → ¬ Q c) : Al h' a S L := by
  have ⟨p, cap, m, es, g, M, P, H, pm, so, gd, hS⟩ := A
  exact ⟨p, cap, m, es, g, M.frame hf fun c hc => hn c ((hS c).2 hc), P, H, pm, so, gd, hS⟩
theorem Al.sorted (A : Al h a S L) : Sorted L := by
  have ⟨p, cap, m, es, g, M, P, H, pm, so, gd, hS⟩ := A; exact so
theorem Al.nodup (A : Al h a S L) : (keys L).Nodup := by
  have ⟨p, cap, m, es, g, M, P, H, pm, so, gd, hS⟩ := A
  exact (keys_perm pm).nodup_iff.1 P.1
theorem made_ok (M : Mem h a p cap m es g) (hk : R (.bool true) h) : Cl 270 #[.pointer (some ⟨a, 0, none⟩)] h R :=
  alarm_Alarm_made.walk ⟨some m, M.mp, hk⟩
theorem new_ok (hk : ∀ a S h', Al h' a S [] → (∀ c, S c → h.size ≤ c) → Fr No h h' → R (.pointer (some ⟨a, 0, none⟩)) h') : Cl 96 #[] h R := by
  refine alarm_New.walk ?_
  rintro b h1 rfl rfl b1 h2 rfl rfl
  have f : Fr No (h.push (.map #[] 0)) ((h.push (.map #[] 0)).push (.cells #[.slice none 0 0, .map (some h.size)] 249)) := Fr.push _ _
  refine hk _ (foot (h.push (.map #[] 0)).size none h.size) _ ⟨none, 0, h.size, [], fun _ => none, ⟨push_new, .nil rfl rfl rfl rfl, (MapF.push h).frame f id, ?_⟩, ⟨.nil, ?_, fun _ _ => rfl⟩, ?_, .refl _, .nil, ?_, fun _ => Iff.rfl⟩ ?_ (Fr.tt (Fr.push _ _) f)
  · rintro ⟨_, e, _⟩; cases e
  · simp
  · intro j _ hj; simp at hj
  · intro e he; cases he
  · rintro c (rfl | rfl | ⟨_, e, _⟩)
    · simp
    · omega
    · cases e
theorem len_ok (A : Al h a S L) (hk : R (.int .i64 (L.length : Int)) h) : Cl 269 #[.pointer (some ⟨a, 0, none⟩)] h R := by
  have ⟨p, cap, m, es, g, M, P, H, pm, so, gd, hS⟩ := A
  refine alarm_Alarm_Len.walk ⟨_, _, _, M.hd, ?_⟩
  rw [pm.length_eq]; exact hk
def hd (L : List E) : E := L.headD (0, 0)
theorem next_ok (A : Al h a S L) (hk : R (.tuple #[.int .i64 (hd L).1, .int .u64 (hd L).2, .bool (!L.isEmpty)]) h) : Cl 224 #[.pointer (some ⟨a, 0, none⟩)] h R := by
  refine alarm_Alarm_Next.walk (len_ok A ⟨_, rfl, ?_⟩)
  have ⟨p, cap, m, es, g, M, P, H, pm, so, gd, hS⟩ := A
  cases L with
  | nil => exact hk
  | cons e r =>
    have hl := pm.length_eq
    simp only [List.length_cons] at hl
    obtain ⟨ad, rfl⟩ := M.some (by omega)
    have ⟨r', hr⟩ := head_min pm so H (by omega)
    have c0 := M.c0 (i := 0) (by omega)
    have c1 := M.c1 (i := 0) (by omega)
    rw [((List.cons.inj hr).1.symm)] at c0 c1
    refine ⟨_, _, _, M.hd, ⟨by omega, by omega⟩, onSome_some.2 ⟨_, c0, _, _, _, M.hd, ⟨by omega, by omega⟩, onSome_some.2 ⟨_, c1, hk⟩⟩⟩
theorem local1 {t : TypeId} {z0 z1 x0 x1 : Value} {K : Nat → Heap → Prop} (hk : ∀ b h', h'[b]? = some (.cells #[x0, x1] t (0, 0)) → h.size ≤ b → Fr No h h' → K b h') :
    NewP h (.cells #[z0, z1] t) fun b h2 => StoreP h2 ⟨b, 0, none⟩ x0 fun h3 => StoreP h3 ⟨b, 1, none⟩ x1 fun h4 => K b h4 := by
  rintro b h2 rfl rfl
  refine storeP_blk push_new (by simp) fun h3 c3 s3 k3 => storeP_blk c3 (by simp) fun h4 c4 s4 k4 => hk _ h4 c4 (Nat.le_refl _) ⟨?_, fun c hc _ => ?_⟩
  · rw [s4, s3]; simp
  · rw [k4 c (by omega), k3 c (by omega)]; exact (Fr.push (S := fun _ => False) h _).2 c hc id
theorem drop_ok (A : Al h a S L) (hn : L.length < 1000000) (key : Int)
    (k1 : key ∈ keys L → ∀ h', Al h' a S (dropK L key) → Fr S h h' → R (.int .i64 0) h')
    (k2 : key ∉ keys L → R (.int .i64 4) h) : Cl 225 #[.pointer (some ⟨a, 0, none⟩), .int .i64 key] h R := by
  obtain ⟨p, cap, m, es, g, M, P, H, pm, so, gd, hS⟩ := A
  have hlen := pm.length_eq
  refine alarm_Alarm_Drop.walk (made_ok M ⟨true, rfl, ?_⟩)
  simp only [Bool.not_true, Bool.false_eq_true, if_false]
  have lk := lookV_map_ok tm M.map key
  by_cases hm : key ∈ keys es
  · have k1 := k1 ((keys_perm pm).mem_iff.1 hm)
    clear k2
    obtain ⟨j, hj, rfl⟩ := mem_keys hm
    obtain ⟨n, hn1⟩ : ∃ n, es.length = n + 1 := ⟨es.length - 1, by omega⟩
    rw [P.2.1 j hj] at lk
    refine ⟨some m, M.mp, (j : Int), true, lk, ?_⟩
    simp only [Bool.not_true, Bool.false_eq_true, if_false]
    obtain ⟨b0, off, rfl⟩ := M.own.some (by rw [enc_len]; omega)
    refine ⟨_, _, _, M.hd, _, _, _, M.hd, ?_⟩
    rw [show IntKind.wrap .i64 ((es.length : Int) - 1) = (n : Int) by rw [wrap_id (by omega) (by omega)]; omega]
    simp only [Int.toNat_natCast]
    refine ⟨⟨by omega, by omega⟩, onSome_some.2 ⟨_, M.c0 (i := n) (by omega), _, M.c1 (i := n) (by omega), local1 fun b h4 hb sb f4 => ?_⟩⟩
    have M4 := M.calm f4
    have hle := M.own.le
    have hsl : slBase (some (⟨b0, off, none⟩ : Addr)) cap 0 2 = some ⟨b0, off, none⟩ := by
      unfold slBase; split
      · rfl
      · rfl
    refine ⟨_, _, _, M4.hd, ⟨by omega, by omega⟩, storeP_blk M4.blk (by simp) fun h5 c5 s5 k5 => ?_⟩
    have f5 : Fr (fun c => c = a) h4 h5 := Fr.of_eq s5 k5
    have tl : (es.take n).length = n := by grind
    have M5 : Mem h5 a (some ⟨b0, off, none⟩) cap m (es.take n) g := by
      refine ⟨?_, ?_, M4.map.frame f5 (fun e => M.am e.symm), M.ne⟩
      · grind
      · have o := (M4.own.frame f5 (fun c hc e => M.ne (e ▸ hc))).sub (l := 0) (u := n) (by omega) (by omega)
        rw [hsl, enc_take, Nat.zero_mul, List.drop_zero] at o
        rw [tl]; exact o
    refine ⟨some m, M5.mp, den_deleteF tm M5.map fun h6 m6 s6 k6 => ⟨rfl, ?_⟩⟩
    have f6 : Fr (fun c => c = m) h5 h6 := Fr.of_eq s6 k6
    have M6 : Mem h6 a (some ⟨b0, off, none⟩) cap m (es.take n) (fun x => if x = (at_ es j).1 then none else g x) :=
      ⟨f6.get M5.blk M.am, M5.own.frame f6 (fun c hc e => M.pm (e ▸ hc)), m6, M.ne⟩
    have fh6 : Fr (foot a (some ⟨b0, off, none⟩) m) h h6 := Fr.no f4 (f5.trans f6 (fun _ _ e => .inl e) (fun _ _ e => .inr (.inl e)))
    have hbn : ∀ c, foot a (some ⟨b0, off, none⟩) m c → b ≠ c := fun c hc e => by have := M.lt hc; omega
    have hb6 := f6.get (f5.get hb (hbn a (.inl rfl))) (hbn m (.inr (.inl rfl)))
    refine JoinP.of fun J hJ => ?_
    have done : ∀ h' es' g', Mem h' a (some ⟨b0, off, none⟩) cap m es' g' → PlaceOk es' g' → HeapO (at_ es') es'.length → es'.Perm (cut es n j) → Fr (foot a (some ⟨b0, off, none⟩) m) h h' → J h' := by
      intro h' es' g' M' P' H' pm' f'
      subst hJ
      exact k1 h' ⟨_, _, _, es', g', M', P', H', pm'.trans (cut_drop hn1 hj P.1 pm), so.drop _, fun e he => gd e (List.mem_filter.1 he).1, hS⟩ (f'.mono fun c _ hc => (hS c).2 hc)
    have pc := cut_place P hn1 hj
    have cl := cut_len (j := j) hn1
    by_cases hjn : j < n
    · have hjn' : (j : Int) < (n : Int) := by omega
      simp only [hjn, if_true] at pc
      simp only [hjn', decide_true, if_true]
      have ecut : (es.take n).set j ((at_ es n).1, (at_ es n).2) = cut es n j := by unfold cut; rw [if_pos hjn]
      refine ⟨_, cell_at hb6 rfl, _, cell_at hb6 rfl, put_ok M6 (by omega) fun h8 M8 f8 => ⟨rfl, ?_⟩⟩
      rw [ecut] at M8
      have ex := cut_both hn1 hjn H
      refine up_ok M8 pc (by omega) (by omega) (by grind) fun h9 es9 g9 q M9 P9 pm9 l9 q9 at9 ex9 _ f9 => ⟨rfl, some m, M9.mp, ?_⟩
      have nin : ¬ inner (some ⟨b0, off, none⟩) m b := fun hc => hbn b (.inr hc) rfl
      have hb9 := f9.get (f8.get hb6 nin) nin
      have lk9 := lookV_map tm M9.map (at_ es n).1
      have e9 : at_ es9 q = at_ es n := by rw [at9, cut_at hn1 hjn, if_pos rfl]
      have g9' := P9.2.1 q (by omega)
      rw [e9] at g9'
      rw [g9'] at lk9
      refine ⟨_, cell_at hb9 rfl, (q : Int), lk9, ?_⟩
      rw [← l9] at ex9
      refine down_ok M9 P9 (by omega) (by omega) ex9 fun h10 es10 g10 M10 P10 pm10 l10 H10 f10 => ⟨rfl, cell_at (f10.get hb9 nin) rfl, M10.mp, ?_⟩
      rw [← l10] at H10
      exact done h10 es10 g10 M10 P10 H10 (pm10.trans pm9) (fh6.trans (Fr.tt f8 (Fr.tt f9 f10)) (fun _ _ => id) (fun _ _ hc => .inr hc))
    · have hjn' : ¬ (j : Int) < (n : Int) := by omega
      simp only [hjn, if_false] at pc
      simp only [hjn', decide_false, Bool.false_eq_true, if_false]
      have ecut : es.take n = cut es n j := by unfold cut; rw [if_neg hjn]
      rw [ecut] at M6
      have H' := cut_heap hn1 hjn H
      exact done h6 _ _ M6 pc (by grind) (.refl _) fh6
  · rw [P.2.2 key hm] at lk
    exact ⟨some m, M.mp, 0, false, lk, k2 fun hx => hm ((keys_perm pm).mem_iff.2 hx)⟩
def may (key t : Int) : Bool := decide (1 ≤ key) && decide (key ≤ 1099511627776) && decide (t ≤ 1099511627776)
theorem may_iff {key t : Int} : may key t = true ↔ 1 ≤ key ∧ key ≤ 1099511627776 ∧ t ≤ 1099511627776 := by simp [may, and_assoc]
def setL (L : List E) (key t : Int) : List E := insertS (dropK L key) (key, t)
def isDue (now : Int) (e : E) : Bool := decide (e.2 ≤ now)
def due (L : List E) (now : Int) : List E := L.takeWhile (isDue now)
def rest (L : List E) (now : Int) : List E := L.dropWhile (isDue now)
def kc (L : List E) : List Value := (keys L).map (.int .i64 ·)
theorem due_split {D T : List E} {now : Int} (hd : ∀ e ∈ D, isDue now e = true) (ht : ∀ e r, T = e :: r → isDue now e = false) : due (D ++ T) now = D ∧ rest (D ++ T) now = T := by
  unfold due rest
  induction D with
  | nil =>
    cases T with
    | nil => simp
    | cons e r => simp_all
  | cons d D ih =>
    simp_all
def ringI (h0 : Heap) (a : Nat) (S : Nat → Prop) (L : List E) (now : Int) (out : Option Addr) (l c : Nat) (key t : Int) (is : Bool) (h : Heap) : Prop :=
  ∃ D T, L = D ++ T ∧ (∀ e ∈ D, isDue now e = true) ∧ Al h a S T ∧ key = (hd T).1 ∧ t = (hd T).2 ∧ is = !T.isEmpty ∧ l = D.length ∧ Own h out l c 1 (kc D) ∧ (∀ x, inBlk out x → h0.size ≤ x) ∧ Fr S h0 h
theorem ring_ok (A : Al h a S L) (hn : L.length < 999999) (now : Int)
    (hk : ∀ h' p' cap', Al h' a S (rest L now) → Own h' p' (due L now).length cap' 1 (kc (due L now)) → (∀ c, inBlk p' c → h.size ≤ c) → Fr S h h' → R (.slice p' (due L now).length cap') h') :
    Cl 197 #[.pointer (some ⟨a, 0, none⟩), .int .u64 now] h R := by
  refine alarm_Alarm_Ring.walk (next_ok A ⟨_, _, _, rfl, ?_⟩)
  refine ⟨ringI h a S L now, fun _ l _ _ _ _ _ => L.length - l, ⟨[], L, rfl, (fun _ he => by cases he), A, rfl, rfl, rfl, rfl, .nil rfl rfl rfl rfl, (fun c ⟨_, e, _⟩ => by cases e), Fr.refl _ _⟩, ?_⟩
  rintro out l c key t is h2 ⟨D, U, eL, hD, A2, rfl, rfl, rfl, rfl, o2, ob, f2⟩
  refine JoinP.of fun J hJ => ?_
  have stop : (∀ e r, U = e :: r → isDue now e = false) → J false h2 := fun ht => by
    subst hJ
    simp only [Bool.false_eq_true, if_false]
    obtain ⟨e1, e2⟩ := due_split hD ht
    rw [← eL] at e1 e2
    rw [← e1]
    rw [← e1] at o2
    exact hk h2 out c (by grind) o2 ob f2
  cases U with
  | nil => grind
  | cons e U =>
    simp only [List.isEmpty_cons, Bool.not_false, if_true]
    by_cases hdue : e.2 ≤ now
    · rw [show decide ((hd (e :: U)).2 ≤ now) = true from decide_eq_true hdue]
      subst hJ
      simp only [if_true]
      rintro b h4 rfl rfl
      have hlen : L.length = D.length + (U.length + 1) := by rw [eL]; simp
      have fp : Fr No h2 (h2.push (.cells #[.int .i64 (hd (e :: U)).1] 3)) := Fr.push _ _
      have row : Row (h2.push (.cells #[.int .i64 (hd (e :: U)).1] 3)) (some ⟨h2.size, 0, none⟩) (kc [e]) := .inr ⟨_, rfl, heldL_blk push_new fun j v hj => by rw [Nat.zero_add]; simpa [kc, keys, hd] using hj⟩
      have sz : h2.size ≤ (h2.push (.cells #[.int .i64 (hd (e :: U)).1] 3)).size := fp.1
      refine den_append tI (eT := 3) (by kernel_rfl) (o2.frame fp fun _ _ => id) row rfl (fun v hv => by simp [kc, keys] at hv; subst hv; rfl) (by omega) (by omega) fun p' cap' h5 o5 _ f5 gr => ⟨_, _, _, rfl, ?_⟩
      have ekc : kc D ++ kc [e] = kc (D ++ [e]) := by simp [kc, keys]
      rw [ekc] at o5
      have hSlt : ∀ {c}, S c → c < h.size := fun hc => A.lt hc
      have A5 := (A2.frame fp fun _ _ => id).frame f5 (fun c hc hx => by grind)
      have ob5 : ∀ c, inBlk p' c → h.size ≤ c := fun c hc => by
        rcases gr c hc with hx | hx
        · exact ob c hx
        · have := f2.1; omega
      have f25 : Fr S h h5 := f2.trans (Fr.no fp f5) (fun _ _ => id) (fun c hc hx => by grind)
      refine drop_ok A5 (by simp; omega) _ (fun _ h6 A6 f6 => ⟨_, rfl, ?_⟩) (fun hno => absurd (by exact List.mem_cons_self) hno)
      rw [show dropK (e :: U) (hd (e :: U)).1 = U from dropK_head A5.nodup] at A6
      refine next_ok A6 ⟨_, _, _, rfl, ⟨D ++ [e], U, by rw [eL]; simp, ?_, A6, rfl, rfl, rfl, by simp, ?_, ob5, Fr.tt f25 f6⟩, ?_⟩
      · intro x hx
        rcases List.mem_append.1 hx with hx | hx
        · exact hD x hx
        · simp at hx; subst hx; exact decide_eq_true hdue
      · exact o5.frame f6 fun c hc hx => by grind
      · omega
    · rw [show decide ((hd (e :: U)).2 ≤ now) = false from decide_eq_false hdue]
      exact stop fun e' r x => by cases x; exact decide_eq_false hdue

end Alarm
end
section
variable {h:Heap} {R:TyP}
variable {b s_l s_c:Nat} {s_p:TyO}
theorem outbox_New.walk  (hv :
 Cl 96 #[] h fun v h_1 =>
 ∃ t1, v = .pointer t1 ∧
 NewP h_1 (.cells #[.slice none 0 0, .int .i64 1, .int .i64 0, .int .i64 0, .int .i64 0, .pointer t1] 204) fun b h_2 =>
 R (.pointer (some ⟨b, 0, none⟩)) h_2) : Cl 63 #[] h R :=
 callsN [] hv
theorem outbox_Box_made.walk (hv :
 ∃ t9, hcell h ⟨b, 5, none⟩ = some (.pointer t9) ∧
 R (.bool (!t9.isNone)) h) : Cl 195 #[.pointer (some ⟨b, 0, none⟩)] h R :=
 callsN [] hv
theorem outbox_Box_find.walk {num : Int} (hv :
 NewP h (.cells #[.int .i64 num] 3) fun b_1 h_1 =>
 ∃ t8_p t8_l t8_c, hcell h_1 ⟨b, 0, none⟩ = some (.slice t8_p t8_l t8_c) ∧
 Cl 227 #[.slice t8_p t8_l t8_c, .func (.func 228) #[] #[.pointer (some ⟨b_1, 0, none⟩)]] h_1 fun v h_2 =>
 ∃ t10, v = .int .i64 t10 ∧
 R (.int .i64 t10) h_2) : Cl 201 #[.pointer (some ⟨b, 0, none⟩), .int .i64 num] h R :=
 callsN [] hv
theorem outbox_Box_find_1.walk {x_0 : Int} {x_1 : Int} {x_2_p : Option Addr} {x_2_l x_2_c : Nat} {x_3 : Int} {c0 : Nat} (hv :
 NewP h (.cells #[.int .i64 x_0, .int .i64 x_1, .slice x_2_p x_2_l x_2_c, .int .u64 x_3] 281) fun b h_1 =>
 ∃ t5, hcell h_1 ⟨b, 0, none⟩ = some (.int .i64 t5) ∧
 ∃ t6, hcell h_1 ⟨c0, 0, none⟩ = some (.int .i64 t6) ∧
 R (.bool (t5 == t6)) h_1) : Cl 228 #[.agg #[.int .i64 x_0, .int .i64 x_1, .slice x_2_p x_2_l x_2_c, .int .u64 x_3], .pointer (some ⟨c0, 0, none⟩)] h R :=
 callsN [] hv
theorem outbox_Box_cut.walk {i : Int} (hv :
 NewP h (.cells #[.int .i64 0, .int .i64 0, .slice none 0 0, .int .u64 0] 281) fun b_1 h_1 =>
 ∃ t9_p t9_l t9_c, hcell h_1 ⟨b, 0, none⟩ = some (.slice t9_p t9_l t9_c) ∧
 ((0 : Int) ≤ i ∧ i < ((t9_l : Nat) : Int)) ∧
 onSome t9_p fun a =>
 outbox_Item.LD h_1 (a.add (Int.toNat i * 4)) fun t12_0 t12_1 t12_2_p t12_2_l t12_2_c t12_3 =>
 NewP h_1 (.cells #[.int .i64 0, .int .i64 0, .slice none 0 0, .int .u64 0] 281) fun b_2 h_2 =>
 outbox_Item.ST h_2 ⟨b_2, 0, none⟩ t12_0 t12_1 t12_2_p t12_2_l t12_2_c t12_3 fun h_3 =>
 ∃ t16, hcell h_3 ⟨b, 5, none⟩ = some (.pointer t16) ∧
 ∃ t18, hcell h_3 ⟨b_2, 0, none⟩ = some (.int .i64 t18) ∧
 Cl 225 #[.pointer t16, .int .i64 t18] h_3 fun v h_4 =>
 ∃ t19, v = .int .i64 t19 ∧
 ∃ t24_p t24_l t24_c, hcell h_4 ⟨b, 0, none⟩ = some (.slice t24_p t24_l t24_c) ∧
 ((0 : Int) ≤ i ∧ i ≤ ((t24_c : Nat) : Int)) ∧
 ∃ t30_p t30_l t30_c, hcell h_4 ⟨b, 0, none⟩ = some (.slice t30_p t30_l t30_c) ∧
 ((0 : Int) ≤ IntKind.wrap .i64 (i + 1) ∧ IntKind.wrap .i64 (i + 1) ≤ ((t30_l : Nat) : Int)) ∧
 NewP h_4 (.cells #[.slice (slBase t24_p t24_c 0 4) ((Int.toNat i) - 0) (t24_c - 0), .slice (slBase t30_p t30_c (Int.toNat (IntKind.wrap .i64 (i + 1))) 4) (t30_l - (Int.toNat (IntKind.wrap .i64 (i + 1)))) (t30_c - (Int.toNat (IntKind.wrap .i64 (i + 1))))] 202) fun b_3 h_5 =>
 hcell h_5 ⟨b, 0, none⟩ = some (.slice t30_p t30_l t30_c) ∧
 hcell h_5 ⟨b, 0, none⟩ = some (.slice t24_p t24_l t24_c) ∧
 Cl 226 #[.slice (some ⟨b_3, 0, none⟩) 2 2] h_5 fun v_1 h_6 =>
 ∃ t35_p t35_l t35_c, v_1 = .slice t35_p t35_l t35_c ∧
 hcell h_6 ⟨b, 0, none⟩ = some (.slice t30_p t30_l t30_c) ∧
 hcell h_6 ⟨b, 0, none⟩ = some (.slice t24_p t24_l t24_c) ∧
 StoreP h_6 ⟨b, 0, none⟩ (.slice t35_p t35_l t35_c) fun h_7 =>
 outbox_Item.LD h_7 ⟨b_2, 0, none⟩ fun t38_0 t38_1 t38_2_p t38_2_l t38_2_c t38_3 =>
 outbox_Item.ST h_7 ⟨b_1, 0, none⟩ t38_0 t38_1 t38_2_p t38_2_l t38_2_c t38_3 fun h_8 =>
 outbox_Item.LD h_8 ⟨b_1, 0, none⟩ fun r0_0 r0_1 r0_2_p r0_2_l r0_2_c r0_3 =>
 R (.agg #[.int .i64 r0_0, .int .i64 r0_1, .slice r0_2_p r0_2_l r0_2_c, .int .u64 r0_3]) h_8) : Cl 200 #[.pointer (some ⟨b, 0, none⟩), .int .i64 i] h R :=
 callsN [(5, fun _ => .plan (opL [0,1,2,3,4,5,6] .done)), (7, fun _ => .plan (opL [0,1,2,3,4,5,6,7,8,9,10,11,12,13,14,15,16,17,18] .done))] hv
theorem outbox_Box_Pass.walk {now : Int} (hv :
 Cl 195 #[.pointer (some ⟨b, 0, none⟩)] h fun v h_1 =>
 ∃ t9, v = .bool t9 ∧
 JoinP (fun (out_p : Option Addr) (out_l out_c : Nat) h_2 =>
 R (.slice out_p out_l out_c) h_2)
 (fun J =>
 ite t9
 (  ∃ t13, hcell h_1 ⟨b, 5, none⟩ = some (.pointer t13) ∧
 Cl 197 #[.pointer t13, .int .u64 now] h_1 fun v_1 h_3 =>
 ∃ t15_p t15_l t15_c, v_1 = .slice t15_p t15_l t15_c ∧
 ∃ (I : Option Addr → Nat → Nat → Int → Heap → Prop) (mu : Option Addr → Nat → Nat → Int → Heap → Nat), I none 0 0 0 h_3 ∧ ∀ out_p_1 out_l_1 out_c_1 t17 h_4, I out_p_1 out_l_1 out_c_1 t17 h_4 →
 ite (decide (t17 < ((t15_l : Nat) : Int)))
 (  ((0 : Int) ≤ t17 ∧ t17 < ((t15_l : Nat) : Int)) ∧
 onSome t15_p fun a =>
 ∃ t20, hcell h_4 (a.add (Int.toNat t17 * 1)) = some (.int .i64 t20) ∧
 Cl 201 #[.pointer (some ⟨b, 0, none⟩), .int .i64 t20] h_4 fun v_2 h_5 =>
 ∃ t25, v_2 = .int .i64 t25 ∧
 Cl 200 #[.pointer (some ⟨b, 0, none⟩), .int .i64 t25] h_5 fun v_3 h_6 =>
 ∃ t26_0 t26_1 t26_2_p t26_2_l t26_2_c t26_3, v_3 = .agg #[.int .i64 t26_0, .int .i64 t26_1, .slice t26_2_p t26_2_l t26_2_c, .int .u64 t26_3] ∧
 NewP h_6 (.cells #[.int .i64 t26_0, .int .i64 t26_1, .slice t26_2_p t26_2_l t26_2_c, .int .u64 t26_3] 281) fun b_1 h_7 =>
 Dsz (Builtin.append_ #[202, 202] 202 #[.slice out_p_1 out_l_1 out_c_1, .slice (some ⟨b_1, 0, none⟩) 1 1]) h_7 fun v_4 h_8 =>
 ∃ t28_p t28_l t28_c, v_4 = .slice t28_p t28_l t28_c ∧
 ∃ t32, hcell h_8 ⟨b, 4, none⟩ = some (.int .i64 t32) ∧
 StoreP h_8 ⟨b, 4, none⟩ (.int .i64 (IntKind.wrap .i64 (t32 + 1))) fun h_9 =>
 (I t28_p t28_l t28_c (IntKind.wrap .i64 (t17 + 1)) h_9 ∧ mu t28_p t28_l t28_c (IntKind.wrap .i64 (t17 + 1)) h_9 < mu out_p_1 out_l_1 out_c_1 t17 h_4))
 (  J out_p_1 out_l_1 out_c_1 h_4))
 (  J none 0 0 h_1))) : Cl 165 #[.pointer (some ⟨b, 0, none⟩), .int .u64 now] h R :=
 callsN [(7, .join [(5, sS)]), (11, .loop [(5, sS), (17, sI)])] hv
theorem slices_IndexFunc_s_outbox_Item_outbox_Item.find.walk {f_c : Nat} (hv :
 ∃ (I : Int → Heap → Prop) (mu : Int → Heap → Nat), I 0 h ∧ ∀ t8 h_1, I t8 h_1 →
 ite (decide (t8 < ((s_l : Nat) : Int)))
 (  ((0 : Int) ≤ t8 ∧ t8 < ((s_l : Nat) : Int)) ∧
 onSome s_p fun a =>
 outbox_Item.LD h_1 (a.add (Int.toNat t8 * 4)) fun t15_0 t15_1 t15_2_p t15_2_l t15_2_c t15_3 =>
 Cl 228 #[.agg #[.int .i64 t15_0, .int .i64 t15_1, .slice t15_2_p t15_2_l t15_2_c, .int .u64 t15_3], .pointer (some ⟨f_c, 0, none⟩)] h_1 fun v h_2 =>
 ∃ t16, v = .bool t16 ∧
 ite t16
 (  R (.int .i64 t8) h_2)
 (  (I (IntKind.wrap .i64 (t8 + 1)) h_2 ∧ mu (IntKind.wrap .i64 (t8 + 1)) h_2 < mu t8 h_1)))
 (  R (.int .i64 (-1)) h_1)) : Cl 227 #[.slice s_p s_l s_c, .func (.func 228) #[] #[.pointer (some ⟨f_c, 0, none⟩)]] h R :=
 callsN [(6, .loop [(8, sI)])] hv
theorem slices_Concat_s_outbox_Item_outbox_Item.walk {slices_p : Option Addr} {slices_l slices_c : Nat} (hv :
 ∃ (I : Int → Int → Heap → Prop) (mu : Int → Int → Heap → Nat), I 0 0 h ∧ ∀ size t11 h_1, I size t11 h_1 →
 ite (decide (t11 < ((slices_l : Nat) : Int)))
 (  JoinP (fun (size_1 : Int) h_2 =>
 (I size_1 (IntKind.wrap .i64 (t11 + 1)) h_2 ∧ mu size_1 (IntKind.wrap .i64 (t11 + 1)) h_2 < mu size t11 h_1))
 (fun J =>
 ((0 : Int) ≤ t11 ∧ t11 < ((slices_l : Nat) : Int)) ∧
 onSome slices_p fun a =>
 ∃ t14_p t14_l t14_c, hcell h_1 (a.add (Int.toNat t11 * 1)) = some (.slice t14_p t14_l t14_c) ∧
 JoinP (fun h_3 =>
 J (IntKind.wrap .i64 (size + ((t14_l : Nat) : Int))) h_3)
 (fun J_1 =>
 ite (decide ((IntKind.wrap .i64 (size + ((t14_l : Nat) : Int))) < 0))
 (  False)
 (  J_1 h_1))))
 (  Cl 274 #[.slice none 0 0, .int .i64 size] h_1 fun v h_4 =>
 ∃ t24_p t24_l t24_c, v = .slice t24_p t24_l t24_c ∧
 ∃ (I_1 : Option Addr → Nat → Nat → Int → Heap → Prop) (mu_1 : Option Addr → Nat → Nat → Int → Heap → Nat), I_1 t24_p t24_l t24_c 0 h_4 ∧ ∀ newslice_p newslice_l newslice_c t27 h_5, I_1 newslice_p newslice_l newslice_c t27 h_5 →
 ite (decide (t27 < ((slices_l : Nat) : Int)))
 (  ((0 : Int) ≤ t27 ∧ t27 < ((slices_l : Nat) : Int)) ∧
 onSome slices_p fun a_1 =>
 ∃ t30_p t30_l t30_c, hcell h_5 (a_1.add (Int.toNat t27 * 1)) = some (.slice t30_p t30_l t30_c) ∧
 Dsz (Builtin.append_ #[202, 202] 202 #[.slice newslice_p newslice_l newslice_c, .slice t30_p t30_l t30_c]) h_5 fun v_1 h_6 =>
 ∃ t33_p t33_l t33_c, v_1 = .slice t33_p t33_l t33_c ∧
 (I_1 t33_p t33_l t33_c (IntKind.wrap .i64 (t27 + 1)) h_6 ∧ mu_1 t33_p t33_l t33_c (IntKind.wrap .i64 (t27 + 1)) h_6 < mu_1 newslice_p newslice_l newslice_c t27 h_5))
 (  R (.slice newslice_p newslice_l newslice_c) h_5))) : Cl 226 #[.slice slices_p slices_l slices_c] h R :=
 callsN [(8, .loop [(3, sI), (11, sI)]), (16, .join [(3, sI)]), (23, .join []), (33, .loop [(6, sS), (27, sI)])] hv
theorem slices_Grow_s_outbox_Item_outbox_Item.walk {n : Int} (hv :
 JoinP (fun h_1 =>
 JoinP (fun (s_p_1 : Option Addr) (s_l_1 s_c_1 : Nat) h_2 =>
 R (.slice s_p_1 s_l_1 s_c_1) h_2)
 (fun J_1 =>
 ite (decide ((IntKind.wrap .i64 (n - (IntKind.wrap .i64 (((s_c : Nat) : Int) - ((s_l : Nat) : Int))))) > 0))
 (  ((0 : Int) ≤ ((s_c : Nat) : Int) ∧ ((s_c : Nat) : Int) ≤ ((s_c : Nat) : Int)) ∧
 Dsz (Builtin.append_ #[202, 3] 202 #[.slice (slBase s_p s_c 0 4) ((Int.toNat ((s_c : Nat) : Int)) - 0) (s_c - 0), .int .i64 (IntKind.wrap .i64 (n - (IntKind.wrap .i64 (((s_c : Nat) : Int) - ((s_l : Nat) : Int)))))]) h_1 fun v h_3 =>
 ∃ t22_p t22_l t22_c, v = .slice t22_p t22_l t22_c ∧
 ((0 : Int) ≤ ((s_l : Nat) : Int) ∧ ((s_l : Nat) : Int) ≤ ((t22_c : Nat) : Int)) ∧
 J_1 (slBase t22_p t22_c 0 4) ((Int.toNat ((s_l : Nat) : Int)) - 0) (t22_c - 0) h_3)
 (  J_1 s_p s_l s_c h_1)))
 (fun J =>
 ite (decide (n < 0))
 (  False)
 (  J h))) : Cl 274 #[.slice s_p s_l s_c, .int .i64 n] h R :=
 callsN [(5, .join []), (13, .join [(0, sS)])] hv

end
section
open Go.Fields Go.Heapq
namespace Obx
open Fld
variable {h h':Heap} {b:Nat} {X:Ft} {R:TyP} {p:TyO} {c d i:Nat} {L:List E}
structure It where
  num : Nat
  owner : Int
  d : List UInt8
  till : Nat
structure IV where
  num : Nat
  owner : Int
  v : BV
  till : Nat
def IV.abs (x : IV) : It := ⟨x.num, x.owner, x.v.b, x.till⟩
abbrev ienc (x : IV) : List Value := [.int .i64 (x.num : Int), .int .i64 x.owner, x.v.val, .int .u64 (x.till : Int)]
theorem ienc_len (x : IV) : (ienc x).length = 4 := rfl
theorem ienc_one (xs : List IV) : ∀ v ∈ xs.flatMap ienc, oneCell v = true := by
  intro v hv
  have ⟨a, _, ha⟩ := List.mem_flatMap.1 hv
  simp at ha
  rcases ha with rfl | rfl | rfl | rfl <;> rfl
abbrev IV.agg (x : IV) : Value := .agg #[.int .i64 (x.num : Int), .int .i64 x.owner, x.v.val, .int .u64 (x.till : Int)]
theorem tI : SlTy Tryz.prog 202 281 4 48 (.agg #[.int .i64 0, .int .i64 0, .slice none 0 0, .int .u64 0]) := ⟨by kernel_rfl, by kernel_rfl, rfl⟩
theorem uI : Tryz.prog.underlying 202 = some (.slice 281) := by kernel_rfl
theorem uInt : Tryz.prog.underlying 3 = some (.int .i64) := by kernel_rfl
structure BS where
  items : List It
  next : Nat
  taken : Nat
  canc : Nat
  over : Nat
structure Mm (h : Heap) (b : Nat) (X : Ft) (s : BS) (L : List E) (lp : Option Addr) (lc : Nat) (xs : List IV) (a : Nat) (S : Nat → Prop) : Prop where
  blk : h[b]? = some (.cells #[.slice lp xs.length lc, .int .i64 (s.next : Int), .int .i64 (s.taken : Int), .int .i64 (s.canc : Int), .int .i64 (s.over : Int), .pointer (some ⟨a, 0, none⟩)] 204 (0, 0))
  own : Own h lp xs.length lc 4 (xs.flatMap ienc)
  al : Alarm.Al h a S L
  abs : xs.map IV.abs = s.items
  dat : ∀ x ∈ xs, x.v.ok h X.D
  m : ∀ c, X.M c ↔ c = b ∨ inBlk lp c ∨ S c
  bl : ¬ inBlk lp b
  bs : ¬ S b
  ls : ∀ c, inBlk lp c → ¬ S c
  dis : ∀ c, X.M c → ¬ X.D c
  dlt : ∀ c, X.D c → c < h.size
def Bx (h : Heap) (b : Nat) (X : Ft) (s : BS) (L : List E) : Prop := ∃ lp lc xs a S, Mm h b X s L lp lc xs a S
variable {s : BS} {lp : Option Addr} {lc a : Nat} {xs : List IV} {S : Nat → Prop}
theorem Mm.lt (H : Mm h b X s L lp lc xs a S) (y : Nat) (hy : X.M y ∨ X.D y) : y < h.size := by
  rcases hy with hy | hy
  · rcases (H.m y).1 hy with rfl | h1 | h1
    · exact lt_of_get H.blk
    · exact H.own.blk_lt h1
    · exact H.al.lt h1
  · exact H.dlt y hy
theorem Bx.lt (H : Bx h b X s L) (y : Nat) (hy : X.M y ∨ X.D y) : y < h.size := by
  have ⟨lp, lc, xs, a, S, H⟩ := H
  exact H.lt y hy
theorem Mm.frame {Q : Nat → Prop} (H : Mm h b X s L lp lc xs a S) (f : Fr Q h h') (hq : ∀ y, X.M y ∨ X.D y → ¬ Q y) : Mm h' b X s L lp lc xs a S :=
  have hm  := fun y hy => hq y (.inl hy)
  ⟨f.get H.blk (hm b ((H.m b).2 (.inl rfl))), H.own.frame f (fun y hy => hm y ((H.m y).2 (.inr (.inl hy)))), H.al.frame f (fun y hy => hm y ((H.m y).2 (.inr (.inr hy)))), H.abs, fun x hx => (H.dat x hx).frame f (fun y hy => hq y (.inr hy)), H.m, H.bl, H.bs, H.ls, H.dis, fun y hy => Nat.lt_of_lt_of_le (H.dlt y hy) f.1⟩
theorem Bx.frame {Q : Nat → Prop} (H : Bx h b X s L) (f : Fr Q h h') (hq : ∀ y, X.M y ∨ X.D y → ¬ Q y) : Bx h' b X s L := by
  have ⟨lp, lc, xs, a, S, H⟩ := H
  exact ⟨lp, lc, xs, a, S, H.frame f hq⟩
theorem Mm.on (H : Mm h b X s L lp lc xs a S) (f : Fr No h h') : Mm h' b X s L lp lc xs a S := H.frame f (fun _ _ => id)
theorem Mm.len (H : Mm h b X s L lp lc xs a S) : xs.length = s.items.length := by rw [← H.abs, List.length_map]
theorem made_ok (H : Mm h b X s L lp lc xs a S) (hk : R (.bool true) h) : Cl 195 #[.pointer (some ⟨b, 0, none⟩)] h R :=
  outbox_Box_made.walk ⟨_, cell_at H.blk rfl, hk⟩
theorem new_ok (hk : ∀ h' b X, Bx h' b X ⟨[], 1, 0, 0, 0⟩ [] → Fr No h h' → (∀ y, X.M y ∨ X.D y → h.size ≤ y) → R (.pointer (some ⟨b, 0, none⟩)) h') : Cl 63 #[] h R := by
  refine outbox_New.walk (Alarm.new_ok fun a S h1 A1 g1 f1 => ⟨_, rfl, newP_of ?_⟩)
  have f2 : Fr No h1 (h1.push (.cells #[.slice none 0 0, .int .i64 1, .int .i64 0, .int .i64 0, .int .i64 0, .pointer (some ⟨a, 0, none⟩)] 204)) := Fr.push _ _
  refine hk _ h1.size ⟨fun y => y = h1.size ∨ inBlk none y ∨ S y, fun _ => False⟩ ⟨none, 0, [], a, S, ⟨push_new, .nil rfl rfl rfl rfl, A1.frame f2 (fun _ _ => id), rfl, (fun x hx => by cases hx), fun _ => Iff.rfl, (fun ⟨a, e, _⟩ => by cases e), fun hs => ?_, (fun y ⟨a, e, _⟩ => by cases e), fun _ _ => id, fun _ hy => hy.elim⟩⟩ (f1.tt f2) ?_
  · have := A1.lt hs; omega
  · rintro y ((rfl | ⟨a, e, _⟩ | hs) | hy)
    · exact f1.1
    · cases e
    · grind
    · grind
def rightB (owner : Int) (n : Nat) (till : Int) : Bool := decide (1 ≤ owner) && decide (owner ≤ 1099511627776) && decide (1 ≤ n) && decide (n ≤ 600) && decide (till ≤ 1099511627776)
def idxI (xs : List It) (num : Int) : Option Nat := xs.findIdx? (fun a => decide ((a.num : Int) = num))
def idxV (xs : List It) (num : Int) : Int := match idxI xs num with | some k => (k : Int) | none => -1
abbrev NumAt (h : Heap) (b : Nat) (num : Int) : Prop := h[b]? = some (.cells #[.int .i64 num] 3 (0, 0))
theorem find1_ok {b : Nat} {num : Int} (x : IV) (hid : NumAt h b num) (hk : ∀ h', Fr No h h' → R (.bool (decide ((x.num : Int) = num))) h') : Cl 228 #[x.agg, .pointer (some ⟨b, 0, none⟩)] h R := by
  refine outbox_Box_find_1.walk (outbox_Item.box fun b1 h1 eb hb f1 => ⟨_, cell_at hb rfl, _, cell_at (f1.get hid (fun x => x)) rfl, (hk h1 f1)⟩)
theorem index_ok {xs : List IV} {n m b : Nat} {num : Int} (hr : Row h p (xs.flatMap ienc)) (hn : n = xs.length) (hl : xs.length ≤ 1000000000) (hid : NumAt h b num) (hk : ∀ h', Fr No h h' → R (.int .i64 (idxV (xs.map IV.abs) num)) h') :
    Cl 227 #[.slice p n m, .func (.func 228) #[] #[.pointer (some ⟨b, 0, none⟩)]] h R := by
  have e : idxV (xs.map IV.abs) num = idxOf (fun x  => decide ((x.num) = num)) xs := by
    unfold idxV idxI idxOf
    rw [List.findIdx?_map]; rfl
  rw [e] at hk
  refine slices_IndexFunc_s_outbox_Item_outbox_Item.find.walk (idx_loop (fun x  => decide ((x.num) = num)) (fun t g K => ((0) ≤ t ∧ t < ((n))) ∧ onSome p fun a => outbox_Item.LD g (a.add (Int.toNat t * 4)) fun x y z l c w =>
    Cl 228 #[.agg #[.int .i64 x, .int .i64 y, .slice z l c, .int .u64 w], .pointer (some ⟨b, 0, none⟩)] g fun v g2 => ∃ t, v = .bool t ∧ K t g2) hn hl (fun k g x K hx f hK => ?_) hk)
  have lt := (List.getElem?_eq_some_iff.1 hx).1
  have hg := hr.frame f (fun _ _ => id)
  obtain ⟨a, rfl⟩ := hg.any ienc_len
  exact ⟨⟨by omega, by omega⟩, onSome_some.2 (outbox_Item.ldA (hg.heldAt ienc_len hx) (find1_ok x (f.get hid id) fun g' f' => ⟨_, rfl, hK g' (f.tt f')⟩))⟩
theorem find_ok {num : Int} (H : Mm h b X s L lp lc xs a S) (hl : s.items.length ≤ 1000000000) (hk : ∀ h', Fr No h h' → R (.int .i64 (idxV s.items num)) h') : Cl 201 #[.pointer (some ⟨b, 0, none⟩), .int .i64 num] h R := by
  refine outbox_Box_find.walk (newP_of ?_)
  have f1 : Fr No h (h.push (.cells #[.int .i64 num] 3)) := Fr.push _ _
  have H1 := H.on f1
  have hl' := H.len
  refine ⟨_, _, _, cell_at H1.blk rfl, index_ok H1.own.row' rfl (by omega) push_new fun h2 f2 => ⟨_, rfl, ?_⟩⟩
  rw [H.abs]
  exact hk h2 (f1.tt f2)
theorem grow_ok {n : Nat} (hn : n ≤ 1000000) (hk : ∀ p' c' h', Own h' p' 0 c' 4 [] → Fr No h h' → (∀ y, inBlk p' y → h.size ≤ y) → R (.slice p' 0 c') h') :
    Cl 274 #[.slice none 0 0, .int .i64 (n : Int)] h R := by
  refine slices_Grow_s_outbox_Item_outbox_Item.walk ?_
  have e1 : IntKind.wrap .i64 (((0 : Nat)) - ((0 : Nat))) = 0 := rfl
  have e2 : IntKind.wrap .i64 ((n) - 0) = (n) := by rw [wrap_id (by omega) (by omega)]; omega
  rw [e1, e2]
  by_cases hz : n = 0
  · subst hz
    exact hk none 0 h (.nil rfl rfl rfl rfl) (Fr.refl _ _) (fun y ⟨a, e, _⟩ => by cases e)
  · have q1 : (n : Int) > 0 := by omega
    simp only [q1, decide_true, if_true]
    refine ⟨⟨by omega, by omega⟩, (den_grow tI uInt (by omega) (by omega) (by omega) fun cap' h' o hc f => ⟨_, _, _, rfl, ⟨by omega, by omega⟩, ?_⟩)⟩
    rw [slBase_zero]
    exact hk _ cap' h' o f (fun y ⟨a, e, e2⟩ => by grind)
theorem concat_ok {p1 p2 : Option Addr} {n1 c1 n2 c2 : Nat} {us ws : List IV} (hh : Row h (some ⟨c, 0, none⟩) [.slice p1 n1 c1, .slice p2 n2 c2]) (r1 : Row h p1 (us.flatMap ienc)) (e1 : n1 = us.length) (r2 : Row h p2 (ws.flatMap ienc)) (e2 : n2 = ws.length) (hl : us.length + ws.length ≤ 1000)
    (hk : ∀ p' c' h', Own h' p' (us ++ ws).length c' 4 ((us ++ ws).flatMap ienc) → Fr No h h' → (∀ y, inBlk p' y → h.size ≤ y) → R (.slice p' (us ++ ws).length c') h') :
    Cl 226 #[.slice (some ⟨c, 0, none⟩) 2 2] h R := by
  subst e1 e2
  have c0 : ∀ {g : Heap}, Fr No h g → hcell g ((⟨c, 0, none⟩ : Addr).add (0 * 1)) = some (.slice p1 us.length c1) := fun f => (hh.frame f (fun _ _ => id)).cell rfl
  have c1' : ∀ {g : Heap}, Fr No h g → hcell g ((⟨c, 0, none⟩ : Addr).add (1 * 1)) = some (.slice p2 ws.length c2) := fun f => (hh.frame f (fun _ _ => id)).cell rfl
  refine slices_Concat_s_outbox_Item_outbox_Item.walk ⟨fun size i g => g = h ∧ ((i = 0 ∧ size = 0) ∨ (i = 1 ∧ size = (us.length)) ∨ (i = 2 ∧ size = ((us.length + ws.length)))), fun _ i _ => 2 - i.toNat, ⟨rfl, .inl ⟨rfl, rfl⟩⟩, ?_⟩
  rintro size i g ⟨rfl, hi⟩
  rcases hi with ⟨rfl, rfl⟩ | ⟨rfl, rfl⟩ | ⟨rfl, rfl⟩
  · rw [if_pos (by rfl)]
    refine JoinP.of fun J hJ => ⟨⟨by omega, by omega⟩, onSome_some.2 ⟨_, _, _, c0 (Fr.refl _ _), JoinP.of fun J1 hJ1 => ?_⟩⟩
    have e : IntKind.wrap .i64 (0 + ((us.length))) = (us.length) := by rw [wrap_id (by omega) (by omega)]; omega
    rw [e] at hJ1
    rw [e, if_neg (by simp)]
    subst hJ1; subst hJ
    exact ⟨⟨rfl, .inr (.inl ⟨rfl, rfl⟩)⟩, by show 2 - Int.toNat 1 < 2 - Int.toNat 0; decide⟩
  · rw [if_pos (by rfl)]
    refine JoinP.of fun J hJ => ⟨⟨by omega, by omega⟩, onSome_some.2 ⟨_, _, _, c1' (Fr.refl _ _), JoinP.of fun J1 hJ1 => ?_⟩⟩
    have e : IntKind.wrap .i64 ((us.length) + ((ws.length))) = ((us.length + ws.length : Nat)) := by rw [wrap_id (by omega) (by omega)]; omega
    rw [e] at hJ1
    rw [e, if_neg (by grind)]
    subst hJ1; subst hJ
    exact ⟨⟨rfl, .inr (.inr ⟨rfl, rfl⟩)⟩, by show 2 - Int.toNat 2 < 2 - Int.toNat 1; decide⟩
  · rw [if_neg (by decide)]
    refine grow_ok (by omega) fun p4 c4 h4 o4 f4 g4 => ⟨_, _, _, rfl, ⟨fun np nl nc i g' => Fr No g g' ∧ (∀ y, inBlk np y → g.size ≤ y) ∧ ((i = 0 ∧ nl = 0 ∧ Own g' np nl nc 4 []) ∨ (i = 1 ∧ nl = us.length ∧ Own g' np nl nc 4 (us.flatMap ienc)) ∨ (i = 2 ∧ nl = (us ++ ws).length ∧ Own g' np nl nc 4 ((us ++ ws).flatMap ienc))), fun _ _ _ i _ => 2 - i.toNat, ⟨f4, g4, .inl ⟨rfl, rfl, o4⟩⟩, ?_⟩⟩
    rintro np nl nc i g' ⟨fg, gg, hi⟩
    rcases hi with ⟨rfl, rfl, o⟩ | ⟨rfl, rfl, o⟩ | ⟨rfl, rfl, o⟩
    · refine ⟨⟨by omega, by omega⟩, onSome_some.2 ⟨_, _, _, c0 fg, (den_append tI uI o (r1.frame fg (fun _ _ => id)) (flat_len ienc 4 ienc_len us) (ienc_one us) (by omega) (by omega) fun p6 c6 h6 o6 _ f6 g6 => ⟨_, _, _, rfl, ?_⟩)⟩⟩
      rw [List.nil_append, Nat.zero_add] at o6
      rw [Nat.zero_add]
      have z := fg.1
      exact ⟨⟨fg.fresh f6 gg, (fun y hy => (g6 y hy).elim (gg y) (fun h2 => by omega)), .inr (.inl ⟨rfl, rfl, o6⟩)⟩, by show 2 - Int.toNat 1 < 2 - Int.toNat 0; decide⟩
    · refine ⟨⟨by omega, by omega⟩, onSome_some.2 ⟨_, _, _, c1' fg, (den_append tI uI o (r2.frame fg (fun _ _ => id)) (flat_len ienc 4 ienc_len ws) (ienc_one ws) (by omega) (by omega) fun p6 c6 h6 o6 _ f6 g6 => ⟨_, _, _, rfl, ?_⟩)⟩⟩
      rw [← List.flatMap_append, ← List.length_append] at o6
      rw [← List.length_append]
      have z := fg.1
      exact ⟨⟨fg.fresh f6 gg, (fun y hy => (g6 y hy).elim (gg y) (fun h2 => by omega)), .inr (.inr ⟨rfl, rfl, o6⟩)⟩, by show 2 - Int.toNat 2 < 2 - Int.toNat 1; decide⟩
    · grind
theorem dropK_not {L : List E} {k : Int} (hk : k ∉ keys L) : dropK L k = L := by
  unfold dropK
  rw [List.filter_eq_self]
  intro e he
  have : e.1 ≠ k := fun e2 => hk (e2 ▸ List.mem_map_of_mem he)
  simpa using this
theorem Own.row_sub {h : Heap} {p : Option Addr} {xs : List IV} {cap l u : Nat} (hr : Row h p (xs.flatMap ienc)) (h1 : l ≤ u) (h2 : u ≤ cap) : Row h (slBase p cap l 4) (((xs.take u).drop l).flatMap ienc) := by
  have := hr.sub (sz := 4) h1 h2
  rwa [flat_take ienc 4 ienc_len, flat_drop ienc 4 ienc_len] at this
def cutI (xs : List It) (i : Nat) : List It := xs.take i ++ xs.drop (i + 1)
theorem cut_ok {x : IV} (H : Mm h b X s L lp lc xs a S) (hl : s.items.length ≤ 100) (hL : L.length < 1000) (hx : xs[i]? = some x)
    (hk : ∀ h' X', Bx h' b X' { s with items := cutI s.items i } (dropK L (x.num : Int)) → StepF X h X' h' → x.v.ok h' X'.D → R x.agg h') :
    Cl 200 #[.pointer (some ⟨b, 0, none⟩), .int .i64 (i : Int)] h R := by
  have hlen := H.len
  have hi := (List.getElem?_eq_some_iff.1 hx).1
  refine outbox_Box_cut.walk (outbox_Item.box fun b1 h1 eb1 hb1 f1 => ?_)
  have H1 := H.on f1
  obtain ⟨ab, aoff, rfl⟩ := H.own.addr (by omega)
  refine ⟨_, _, _, cell_at H1.blk rfl, ⟨by omega, by omega⟩, onSome_some.2 (outbox_Item.ldA (by rw [Int.toNat_natCast]; exact H1.own.heldAt ienc_len hx) (outbox_Item.new fun b2 h2 eb2 hb2 f2 => ?_))⟩
  have H2 := H1.on f2
  have hb1' : outbox_Item.at h2 b1 0 0 none 0 0 0 := f2.get hb1 id
  have z1 := f1.1
  have z2 := f2.1
  have l1 := lt_of_get hb1
  have l2 := lt_of_get hb2
  have ne : b2 ≠ b1 := by omega
  have nX : ∀ y, h.size ≤ y → ¬ (X.M y ∨ X.D y) := fun y hy hx => by have := H.lt y hx; omega
  refine ⟨_, cell_at H2.blk rfl, _, cell_at hb2 rfl, ?_⟩
  have rest : ∀ h7, Alarm.Al h7 a S (dropK L (x.num : Int)) → Fr S h2 h7 →
      h7[b]? = some (.cells #[.slice (some ⟨ab, aoff, none⟩) xs.length lc, .int .i64 (s.next : Int), .int .i64 (s.taken : Int), .int .i64 (s.canc : Int), .int .i64 (s.over : Int), .pointer (some ⟨a, 0, none⟩)] 204 (0, 0)) ∧
      Row h7 (some ⟨ab, aoff, none⟩) (xs.flatMap ienc) ∧ outbox_Item.at h7 b1 0 0 none 0 0 0 ∧ outbox_Item.at h7 b2 (x.num : Int) x.owner x.v.p x.v.b.length x.v.c (x.till : Int) := by
    intro h7 A7 f7
    have nS : ∀ y, h.size ≤ y → ¬ S y := fun y hy hs => by have := H.al.lt hs; omega
    exact ⟨f7.get H2.blk H.bs, H2.own.row'.frame f7 (fun a' ea hs => H.ls _ ⟨a', ea, rfl⟩ hs), f7.get hb1' (nS b1 (by omega)), f7.get hb2 (nS b2 (by omega))⟩
  have fin : ∀ h7, Alarm.Al h7 a S (dropK L (x.num : Int)) → Fr S h2 h7 → ∀ p9 c9 h9, Fr No h7 h9 → Own h9 p9 (xs.take i ++ xs.drop (i + 1)).length c9 4 ((xs.take i ++ xs.drop (i + 1)).flatMap ienc) → (∀ y, inBlk p9 y → h7.size ≤ y) →
      StoreP h9 ⟨b, 0, none⟩ (.slice p9 (xs.take i ++ xs.drop (i + 1)).length c9) fun h_10 =>
        ∃ (t38_0 : Int), hcell h_10 ⟨b2, 0, none⟩ = some (.int .i64 t38_0) ∧ ∃ (t38_1 : Int), hcell h_10 ⟨b2, 1, none⟩ = some (.int .i64 t38_1) ∧ ∃ (t38_2_p : Option Addr) (t38_2_l t38_2_c : Nat), hcell h_10 ⟨b2, 2, none⟩ = some (.slice t38_2_p t38_2_l t38_2_c) ∧ ∃ (t38_3 : Int), hcell h_10 ⟨b2, 3, none⟩ = some (.int .u64 t38_3) ∧
        StoreP h_10 ⟨b1, 0, none⟩ (.int .i64 t38_0) fun h_11 =>
        StoreP h_11 ⟨b1, 1, none⟩ (.int .i64 t38_1) fun h_12 =>
        StoreP h_12 ⟨b1, 2, none⟩ (.slice t38_2_p t38_2_l t38_2_c) fun h_13 =>
        StoreP h_13 ⟨b1, 3, none⟩ (.int .u64 t38_3) fun h_14 =>
        ∃ (r_0 : Int), hcell h_14 ⟨b1, 0, none⟩ = some (.int .i64 r_0) ∧ ∃ (r_1 : Int), hcell h_14 ⟨b1, 1, none⟩ = some (.int .i64 r_1) ∧ ∃ (r_2_p : Option Addr) (r_2_l r_2_c : Nat), hcell h_14 ⟨b1, 2, none⟩ = some (.slice r_2_p r_2_l r_2_c) ∧ ∃ (r_3 : Int), hcell h_14 ⟨b1, 3, none⟩ = some (.int .u64 r_3) ∧
        R (.agg #[.int .i64 r_0, .int .i64 r_1, .slice r_2_p r_2_l r_2_c, .int .u64 r_3]) h_14 := by
    intro h7 A7 f7 p9 c9 h9 f9 o9 g9
    obtain ⟨k1, _, k3, k4⟩ := rest h7 A7 f7
    have lb := lt_of_get H.blk
    have z7 := f7.1
    have z9 := f9.1
    refine storeP_blk (f9.get k1 id) (by simp) fun h10 a1 a2 a3 => ?_
    have i2 : outbox_Item.at h10 b2 (x.num : Int) x.owner x.v.p x.v.b.length x.v.c (x.till : Int) := (a3 b2 (by omega)).trans (f9.get k4 id)
    refine outbox_Item.ld i2 ?_
    have i1 : outbox_Item.at h10 b1 0 0 none 0 0 0 := (a3 b1 (by omega)).trans (f9.get k3 id)
    refine outbox_Item.set i1 fun h14 d1 d2 d3 => outbox_Item.ld d1 ?_
    have f10 : Fr (fun y => y = b) h9 h10 := Fr.of_eq a2 a3
    have f14 : Fr (fun y => y = b1) h10 h14 := Fr.of_eq d2 d3
    have F2 : Fr No h h2 := f1.tt f2
    have F7 : Fr S h h7 := Fr.no F2 f7
    have F9 : Fr S h h9 := F7.tt (f9.mono (fun _ _ hx => hx.elim))
    have F10 : Fr (fun y => S y ∨ y = b) h h10 := (F9.mono (fun _ _ hx => .inl hx)).tt (f10.mono (fun _ _ hx => .inr hx))
    have F14 : Fr X.M h h14 := by
      refine ⟨Nat.le_trans F10.1 f14.1, fun y hy hn => ?_⟩
      rw [f14.2 y (Nat.lt_of_lt_of_le hy F10.1) (fun e => by omega), F10.2 y hy (fun hx => hn ((H.m y).2 (hx.elim (fun h => .inr (.inr h)) .inl)))]
    have lpS : ∀ y, inBlk p9 y → ¬ S y := fun y hy hs => by have := g9 y hy; have := H.al.lt hs; omega
    have lpb : ∀ y, inBlk p9 y → y ≠ b := fun y hy e => by have := g9 y hy; omega
    have lpb1 : ∀ y, inBlk p9 y → y ≠ b1 := fun y hy e => by have := g9 y hy; omega
    have D14 : ∀ v : IV, v ∈ xs → v.v.ok h14 X.D := fun v hv => (H.dat v hv).frame F14 (fun y hd hm => H.dis y hm hd)
    refine hk h14 ⟨fun y => y = b ∨ inBlk p9 y ∨ S y, X.D⟩ ⟨p9, c9, xs.take i ++ xs.drop (i + 1), a, S, ⟨?_, (o9.frame f10 lpb).frame f14 lpb1, ?_, ?_, ?_, fun _ => Iff.rfl, fun hx => lpb b hx rfl, H.bs, lpS, ?_, fun y hy => Nat.lt_of_lt_of_le (H.dlt y hy) F14.1⟩⟩ ⟨F14, ?_, fun _ => .inl, fun _ => id⟩ (D14 x (List.mem_of_getElem? hx))
    · rw [d3 b (by omega), a1]; simp
    · have A9 := A7.frame f9 (fun _ _ => id)
      exact (A9.frame f10 (fun y hy e => H.bs (e ▸ hy))).frame f14 (fun y hy e => by have := H.al.lt hy; omega)
    · show _ = cutI s.items i
      unfold cutI
      rw [← H.abs, List.map_append, List.map_take, List.map_drop]
    · grind
    · rintro y (rfl | hy | hy) hd
      · exact H.dis _ ((H.m _).2 (.inl rfl)) hd
      · grind
      · exact H.dis _ ((H.m _).2 (.inr (.inr hy))) hd
    · rintro y (rfl | hy | hy)
      · exact .inl ((H.m _).2 (.inl rfl))
      · right; have := g9 y hy; omega
      · exact .inl ((H.m _).2 (.inr (.inr hy)))
  have ew : IntKind.wrap .i64 ((i : Int) + 1) = ((i + 1 : Nat) : Int) := by rw [wrap_id (by omega) (by omega)]; omega
  have cap := H.own.le
  rw [ew]
  simp only [Int.toNat_natCast, Nat.sub_zero]
  refine Alarm.drop_ok H2.al (by omega) _ (fun hm h7 A7 f7 => ⟨_, rfl, ?_⟩) (fun hm => ⟨_, rfl, ?_⟩)
  · obtain ⟨k1, k2, k3, k4⟩ := rest h7 A7 f7
    refine ⟨_, _, _, cell_at k1 rfl, ⟨by omega, by omega⟩, _, _, _, cell_at k1 rfl, ⟨by omega, by omega⟩, newP_of ?_⟩
    have f8 : Fr No h7 (h7.push (.cells #[.slice (slBase (some ⟨ab, aoff, none⟩) lc 0 4) i lc, .slice (slBase (some ⟨ab, aoff, none⟩) lc (i + 1) 4) (xs.length - (i + 1)) (lc - (i + 1))] 202)) := Fr.push _ _
    have k8 := f8.get k1 id
    refine ⟨cell_at k8 rfl, cell_at k8 rfl, ?_⟩
    have r8 := k2.frame f8 (fun _ _ => id)
    have ra := Own.row_sub (l := 0) (u := i) (cap := lc) r8 (by omega) (by omega)
    have rb := Own.row_sub (l := i + 1) (u := xs.length) (cap := lc) r8 (by omega) (by omega)
    rw [List.drop_zero] at ra
    rw [List.take_length] at rb
    refine concat_ok row_new ra (by rw [List.length_take]; omega) rb (by rw [List.length_drop]) (by grind) fun p9 c9 h9 o9 f9 g9 => ⟨_, _, _, rfl, ?_⟩
    have k9 := f9.get k8 id
    exact ⟨cell_at k9 rfl, cell_at k9 rfl, fin h7 A7 f7 p9 c9 h9 (f8.tt f9) o9 (fun y hy => by grind)⟩
  · have A7 : Alarm.Al h2 a S (dropK L (x.num : Int)) := by
      rw [dropK_not hm]; exact H2.al
    have f7 : Fr S h2 h2 := Fr.refl _ _
    obtain ⟨k1, k2, k3, k4⟩ := rest h2 A7 f7
    refine ⟨_, _, _, cell_at k1 rfl, ⟨by omega, by omega⟩, _, _, _, cell_at k1 rfl, ⟨by omega, by omega⟩, newP_of ?_⟩
    have f8 : Fr No h2 (h2.push (.cells #[.slice (slBase (some ⟨ab, aoff, none⟩) lc 0 4) i lc, .slice (slBase (some ⟨ab, aoff, none⟩) lc (i + 1) 4) (xs.length - (i + 1)) (lc - (i + 1))] 202)) := Fr.push _ _
    have k8 := f8.get k1 id
    refine ⟨cell_at k8 rfl, cell_at k8 rfl, ?_⟩
    have r8 := k2.frame f8 (fun _ _ => id)
    have ra := Own.row_sub (l := 0) (u := i) (cap := lc) r8 (by omega) (by omega)
    have rb := Own.row_sub (l := i + 1) (u := xs.length) (cap := lc) r8 (by omega) (by omega)
    rw [List.drop_zero] at ra
    rw [List.take_length] at rb
    refine concat_ok row_new ra (by rw [List.length_take]; omega) rb (by rw [List.length_drop]) (by grind) fun p9 c9 h9 o9 f9 g9 => ⟨_, _, _, rfl, ?_⟩
    have k9 := f9.get k8 id
    exact ⟨cell_at k9 rfl, cell_at k9 rfl, fin h2 A7 f7 p9 c9 h9 (f8.tt f9) o9 (fun y hy => by grind)⟩
end Obx
end
section
open Go.Fields Go.Heapq
namespace Obx
open Alarm (isDue)
variable {L:List E} {s:BS} {items:List It} {now:Int}
variable {num:Int}
def It.kv (x : It) : E := ((x.num : Int), (x.till : Int))
structure okB (s : BS) (L : List E) : Prop where
  le : s.items.length ≤ 16
  pm : L.Perm (s.items.map It.kv)
  it : ∀ x ∈ s.items, 1 ≤ x.num ∧ x.num < s.next ∧ 1 ≤ x.d.length ∧ x.d.length ≤ 600 ∧ 1 ≤ x.owner ∧ x.owner ≤ 1099511627776 ∧ x.till ≤ 1099511627776
  inc : (s.items.map It.num).Pairwise (· < ·)
  cnt : s.next = 1 + s.items.length + s.taken + s.canc + s.over
theorem okB.nil : okB ⟨[], 1, 0, 0, 0⟩ [] := ⟨by simp, .refl _, by simp, .nil, rfl⟩
def delI (items : List It) (num : Int) : List It := items.filter (fun y => !decide ((y.num : Int) = num))
theorem cutI_del : ∀ {items : List It} {i : Nat} {x : It}, (items.map It.num).Pairwise (· < ·) → items[i]? = some x → cutI items i = delI items (x.num : Int)
  | [], i, x, _, h => by simp at h
  | y :: r, 0, x, hp, h => by
    simp at h
    subst h
    rw [List.map_cons, List.pairwise_cons] at hp
    unfold cutI delI
    rw [List.filter_cons]
    simp only [decide_true, Bool.not_true, Bool.false_eq_true, if_false, List.take_zero, List.nil_append, List.drop_succ_cons, List.drop_zero]
    symm
    rw [List.filter_eq_self]
    intro z hz
    have := hp.1 z.num (List.mem_map_of_mem hz)
    have : ¬ (z.num) = (y.num : Int) := by omega
    simp [this]
  | y :: r, i + 1, x, hp, h => by
    rw [List.map_cons, List.pairwise_cons] at hp
    have ih := cutI_del hp.2 h
    have hx := hp.1 x.num (List.mem_map_of_mem (List.mem_of_getElem? h))
    have hne : ¬ (y.num) = (x.num : Int) := by omega
    unfold cutI delI at ih ⊢
    rw [List.filter_cons]
    simp only [hne, decide_false, Bool.not_false, if_true, List.take_succ_cons, List.drop_succ_cons, List.cons_append]
    rw [ih]
theorem okB.sub {items' : List It} {L' : List E} {t c o : Nat} (ok : okB s L) (hs : items'.Sublist s.items) (hp : L'.Perm (items'.map It.kv)) (hc : s.next = 1 + items'.length + t + c + o) : okB ⟨items', s.next, t, c, o⟩ L' :=
  ⟨Nat.le_trans hs.length_le ok.le, hp, fun x hx => ok.it x (hs.subset hx), ok.inc.sublist (hs.map _), hc⟩
theorem idx_some {i : Nat} (h : idxI items num = some i) : ∃ x, items[i]? = some x ∧ (x.num : Int) = num := by
  unfold idxI at h
  rw [List.findIdx?_eq_some_iff_getElem] at h
  have ⟨h1, h2, _⟩ := h
  exact ⟨_, List.getElem?_eq_getElem h1, by grind⟩
theorem idx_none (h : idxI items num = none) : ∀ x ∈ items, (x.num : Int) ≠ num := by
  unfold idxI at h
  rw [List.findIdx?_eq_none_iff] at h
  intro x hx
  simpa using h x hx
theorem uniq (h : (items.map It.num).Pairwise (· < ·)) {x y : It} (hx : x ∈ items) (hy : y ∈ items) (e : x.num = y.num) : x = y := by
  induction items with
  | nil => cases hx
  | cons z r ih =>
    rw [List.map_cons, List.pairwise_cons] at h
    rcases List.mem_cons.1 hx with e1 | hx1
    · rcases List.mem_cons.1 hy with e2 | hy1
      · grind
      · have := h.1 y.num (List.mem_map_of_mem hy1); rw [e1] at e; omega
    · rcases List.mem_cons.1 hy with e2 | hy1
      · have := h.1 x.num (List.mem_map_of_mem hx1); rw [e2] at e; omega
      · grind
theorem sorted_split : ∀ {L : List E}, Sorted L → Alarm.due L now = L.filter (isDue now) ∧ Alarm.rest L now = L.filter (fun e => !isDue now e)
  | [], _ => ⟨rfl, rfl⟩
  | e :: r, hs => by
    have hs' := List.pairwise_cons.1 hs
    have ⟨i1, i2⟩ := sorted_split hs'.2
    unfold Alarm.due at i1 ⊢
    unfold Alarm.rest at i2 ⊢
    by_cases he : isDue now e = true
    · simp_all
    · have he' : isDue now e = false := by grind
      have all : ∀ x ∈ r, isDue now x = false := by
        intro x hx
        have h1 := hs'.1 x hx
        have h2 := of_decide_eq_false he'
        apply decide_eq_false
        rcases h1 with h1 | h1 <;> omega
      rw [List.takeWhile_cons, List.dropWhile_cons, List.filter_cons, List.filter_cons, he']
      simp only [Bool.false_eq_true, if_false, Bool.not_false, if_true]
      refine ⟨?_, ?_⟩
      · simp_all
      · congr 1; symm; rw [List.filter_eq_self]; intro x hx; rw [all x hx]; rfl
def remI (items : List It) (K : List Int) : List It := items.filter (fun x => decide ((x.num : Int) ∉ K))
theorem remI_nil : remI items [] = items := by unfold remI; simp
theorem remI_del {K : List Int} {k : Int} : delI (remI items K) k = remI items (K ++ [k]) := by
  unfold delI remI
  rw [List.filter_filter]
  apply List.filter_congr
  intro x _
  by_cases h1 : (x.num) = k
  · simp [h1]
  · grind
theorem remI_due (ok : okB s L) (so : Sorted L) (nd : (keys L).Nodup) : remI s.items (keys (Alarm.due L now)) = s.items.filter (fun x => decide (now < (x.till : Int))) := by
  have ⟨e1, _⟩ := sorted_split (now := now) so
  apply List.filter_congr
  intro x hx
  by_cases ht : now < (x.till)
  · simp only [ht, decide_true, decide_eq_true_eq]
    intro hk
    rw [e1] at hk
    have ⟨e, he, ek⟩ := List.mem_map.1 hk
    have h2 := List.mem_filter.1 he
    obtain ⟨y, hy, rfl⟩ := List.mem_map.1 (ok.pm.mem_iff.1 h2.1)
    have  := uniq ok.inc hy hx (by have : (y.num) = (x.num : Int) := ek; omega)
    subst this
    have := of_decide_eq_true h2.2
    unfold It.kv at this
    omega
  · simp only [ht, decide_false, decide_eq_false_iff_not, Classical.not_not]
    rw [e1]
    refine List.mem_map.2 ⟨x.kv, List.mem_filter.2 ⟨(ok.pm.mem_iff.2 (List.mem_map_of_mem hx)), decide_eq_true ?_⟩, rfl⟩
    unfold It.kv; omega
theorem rest_perm (ok : okB s L) (so : Sorted L) : (Alarm.rest L now).Perm ((s.items.filter (fun x => decide (now < (x.till : Int)))).map It.kv) := by
  rw [(sorted_split so).2]
  refine (ok.pm.filter _).trans (List.Perm.of_eq ?_)
  rw [List.filter_map]
  congr 1
  apply List.filter_congr
  intro x _
  show (!decide ((x.till) ≤ now)) = _
  by_cases q : now < (x.till)
  · simp [q]
  · grind
theorem due_perm (ok : okB s L) (so : Sorted L) : (Alarm.due L now).Perm ((s.items.filter (fun x => decide ((x.till : Int) ≤ now))).map It.kv) := by
  rw [(sorted_split so).1]
  refine (ok.pm.filter _).trans (List.Perm.of_eq ?_)
  rw [List.filter_map]
  rfl

end Obx
end
section
variable {h:Heap} {R:TyP}
variable {p:Nat} {owner n:Int}
theorem quota_Purse_made.walk (hv :
 ∃ t9, hcell h ⟨p, 2, none⟩ = some (.map t9) ∧
 R (.bool (!t9.isNone)) h) : Cl 229 #[.pointer (some ⟨p, 0, none⟩)] h R :=
 callsN [] hv
theorem quota_New.walk {whole : Int} {share : Int} (hv :
 JoinP (fun (t20 : Bool) h_1 =>
 ite t20
 (  R (.tuple #[.pointer none, .int .i64 1]) h_1)
 (  NewP h_1 (.map #[] 0) fun b h_2 =>
 NewP h_2 (.cells #[.int .i64 whole, .int .i64 share, .map (some b), .int .i64 0] 190) fun b_1 h_3 =>
 R (.tuple #[.pointer (some ⟨b_1, 0, none⟩), .int .i64 0]) h_3))
 (fun J =>
 ite (decide (whole < 1))
 (  J true h)
 (  ite (decide (whole > 1048576))
 (  J true h)
 (  ite (decide (share < 1))
 (  J true h)
 (  J (decide (share > whole)) h))))) : Cl 59 #[.int .i64 whole, .int .i64 share] h R :=
 callsN [(4, .join [(20, sB)])] hv
theorem quota_Purse_ask.walk (hv :
 Cl 229 #[.pointer (some ⟨p, 0, none⟩)] h fun v h_1 =>
 ∃ t9, v = .bool t9 ∧
 ite (!t9)
 (  R (.int .i64 6) h_1)
 (  JoinP (fun (t11 : Bool) h_2 =>
 ite t11
 (  R (.int .i64 1) h_2)
 (  R (.int .i64 0) h_2))
 (fun J =>
 ite (decide (owner < 1))
 (  J true h_1)
 (  ite (decide (owner > 1099511627776))
 (  J true h_1)
 (  J (decide (n < 0)) h_1))))) : Cl 202 #[.pointer (some ⟨p, 0, none⟩), .int .i64 owner, .int .i64 n] h R :=
 callsN [(11, .join [(11, sB)])] hv
theorem quota_Purse_Give.walk (hv :
 Cl 202 #[.pointer (some ⟨p, 0, none⟩), .int .i64 owner, .int .i64 n] h fun v h_1 =>
 ∃ t11, v = .int .i64 t11 ∧
 ite (t11 != 0)
 (  R (.int .i64 t11) h_1)
 (  ∃ t19, hcell h_1 ⟨p, 2, none⟩ = some (.map t19) ∧
 ∃ t21, Lkz 188 (.map t19) (.int .i64 owner) false h_1 (.int .i64 t21) ∧
 ite (decide (n > t21))
 (  R (.int .i64 7) h_1)
 (  ∃ t26, hcell h_1 ⟨p, 3, none⟩ = some (.int .i64 t26) ∧
 StoreP h_1 ⟨p, 3, none⟩ (.int .i64 (IntKind.wrap .i64 (t26 - n))) fun h_2 =>
 ∃ t34, hcell h_2 ⟨p, 2, none⟩ = some (.map t34) ∧
 ∃ t36, Lkz 188 (.map t34) (.int .i64 owner) false h_2 (.int .i64 t36) ∧
 Dsz (Instr.mapUpdate 188 (.map t34) (.int .i64 owner) (.int .i64 (IntKind.wrap .i64 (t36 - n)))) h_2 fun _ h_3 =>
 ∃ t42, hcell h_3 ⟨p, 2, none⟩ = some (.map t42) ∧
 ∃ t44, Lkz 188 (.map t42) (.int .i64 owner) false h_3 (.int .i64 t44) ∧
 JoinP (fun h_4 =>
 R (.int .i64 0) h_4)
 (fun J =>
 ite (t44 == 0)
 (  ∃ t49, hcell h_3 ⟨p, 2, none⟩ = some (.map t49) ∧
 Dsz (Builtin.delete_ #[188, 3] 0 #[.map t49, .int .i64 owner]) h_3 fun v_1 h_5 =>
 v_1 = .tuple #[] ∧
 J h_5)
 (  J h_3))))) : Cl 166 #[.pointer (some ⟨p, 0, none⟩), .int .i64 owner, .int .i64 n] h R :=
 callsN [(27, .join [])] hv

end
section
namespace Quota
theorem tm : MapTy Tryz.prog 188 (.int .i64 0) := .of 3 3 .i64 (by kernel_rfl) (by kernel_rfl) (by kernel_rfl)
def PurseAt (h : Heap) (p m : Nat) (W S A : Int) (f : Int → Int) : Prop :=
  h[p]? = some (.cells #[.int .i64 W, .int .i64 S, .map (some m), .int .i64 A] 190 (0, 0)) ∧
  ∃ g : Int → Option Value, MapF h m g ∧ ∀ k, (g k).getD (.int .i64 0) = .int .i64 (f k)
def Ok (W S A : Int) (f : Int → Int) : Prop := 1 ≤ S ∧ S ≤ W ∧ W ≤ 1048576 ∧ -2000000000000 ≤ A ∧ A ≤ W ∧ ∀ k, 0 ≤ f k ∧ f k ≤ S
variable {h : Heap} {p m : Nat} {W S A : Int} {f : Int → Int} {R : Value → Heap → Prop}
theorem PurseAt.frame {Q : Nat → Prop} {h' : Heap} (hp : PurseAt h p m W S A f) (hf : Fr Q h h') (h1 : ¬ Q p) (h2 : ¬ Q m) : PurseAt h' p m W S A f := by
  have ⟨hb, g, hg, hgf⟩ := hp
  exact ⟨hf.get hb h1, g, hg.frame hf h2, hgf⟩
theorem PurseAt.ne (hp : PurseAt h p m W S A f) : p ≠ m := by
  have ⟨hb, g, hg, _⟩ := hp
  have ⟨es, c, hm⟩ := hg.map
  rintro rfl
  rw [hb] at hm; cases hm
theorem PurseAt.lt (hp : PurseAt h p m W S A f) : p < h.size ∧ m < h.size := ⟨lt_of_get hp.1, by have ⟨_, g, hg, _⟩ := hp; exact hg.lt⟩
theorem made_ok (hp : PurseAt h p m W S A f) (hk : R (.bool true) h) : Cl 229 #[.pointer (some ⟨p, 0, none⟩)] h R :=
  quota_Purse_made.walk ⟨some m, cell_at hp.1 rfl, hk⟩
theorem look (hp : PurseAt h p m W S A f) (o : Int) : LookV Tryz.prog 188 (.map (some m)) (.int .i64 o) false h (.int .i64 (f o)) := by
  have ⟨_, g, hg, hgf⟩ := hp
  have := lookV_map tm hg o
  rw [hgf] at this
  exact this
def may (o n : Int) : Bool := decide (1 ≤ o) && decide (o ≤ 1099511627776) && decide (0 ≤ n)
def askE (o n : Int) : Int := if may o n = true then 0 else 1
theorem may_iff {o n : Int} : may o n = true ↔ 1 ≤ o ∧ o ≤ 1099511627776 ∧ 0 ≤ n := by simp [may, and_assoc]
theorem ask_ok (hp : PurseAt h p m W S A f) (o n : Int) (hk : R (.int .i64 (askE o n)) h) : Cl 202 #[.pointer (some ⟨p, 0, none⟩), .int .i64 o, .int .i64 n] h R := by
  refine quota_Purse_ask.walk (made_ok hp ⟨true, rfl, ?_⟩)
  simp only [JoinP]
  unfold askE may at hk
  by_cases h1 : o < 1
  · grind
  · grind
def fits (W S A : Int) (f : Int → Int) (o n : Int) : Bool := may o n && decide (n ≤ S - f o) && decide (n ≤ W - A)
def addF (f : Int → Int) (o n : Int) : Int → Int := fun k => if k = o then f k + n else f k
theorem fits_iff {o n : Int} : fits W S A f o n = true ↔ (1 ≤ o ∧ o ≤ 1099511627776 ∧ 0 ≤ n) ∧ n ≤ S - f o ∧ n ≤ W - A := by
  simp [fits, may_iff, and_assoc]
theorem Ok.take {o n : Int} (ok : Ok W S A f) (hf : fits W S A f o n = true) : Ok W S (A + n) (addF f o n) := by
  have ⟨o1, o2, o3, o4, o5, o6⟩ := ok
  have ⟨⟨h1, h2, h3⟩, h4, h5⟩ := fits_iff.1 hf
  refine ⟨o1, o2, o3, by omega, by omega, fun k => ?_⟩
  have := o6 k
  unfold addF
  split
  · grind
  · exact this
def gives (f : Int → Int) (o n : Int) : Bool := may o n && decide (n ≤ f o)
def giveE (f : Int → Int) (o n : Int) : Int := if may o n = true then (if gives f o n = true then 0 else 7) else 1
theorem gives_iff {o n : Int} : gives f o n = true ↔ (1 ≤ o ∧ o ≤ 1099511627776 ∧ 0 ≤ n) ∧ n ≤ f o := by simp [gives, may_iff, and_assoc]
theorem give_ok (hp : PurseAt h p m W S A f) (ok : Ok W S A f) (o n : Int)
    (k1 : gives f o n = true → ∀ h', PurseAt h' p m W S (A - n) (addF f o (-n)) → Fr (fun c => c = p ∨ c = m) h h' → R (.int .i64 0) h')
    (k2 : gives f o n = false → R (.int .i64 (giveE f o n)) h) :
    Cl 166 #[.pointer (some ⟨p, 0, none⟩), .int .i64 o, .int .i64 n] h R := by
  have ⟨o1, o2, o3, o4, o5, o6⟩ := ok
  have of := o6 o
  refine quota_Purse_Give.walk (ask_ok hp o n ⟨_, rfl, ?_⟩)
  unfold giveE at k2
  unfold askE
  cases hm : may o n with
  | false =>
    have := k2 (by simp [gives, hm])
    simpa [hm] using this
  | true =>
    have hm' := may_iff.1 hm
    simp only [if_true, bne_self_eq_false, Bool.false_eq_true, if_false]
    refine ⟨some m, cell_at hp.1 rfl, f o, look hp o, ?_⟩
    by_cases h1 : n > f o
    · have hf : gives f o n = false := by simp [gives, show ¬ n ≤ f o by omega]
      have := k2 hf
      simpa [h1, hm, hf] using this
    · have hf : gives f o n = true := by simp [gives, hm, show n ≤ f o by omega]
      simp only [h1, decide_false, Bool.false_eq_true, if_false]
      have hne := hp.ne
      have ⟨hb, g, hg, hgf⟩ := hp
      refine ⟨A, cell_at hb rfl, ?_⟩
      rw [wrap_id (by omega) (by omega)]
      refine storeP_blk hb (by simp) ?_
      intro h2 hb2 hs2 ho2
      have hg2 := hg.of_get (ho2 m (Ne.symm hne))
      have hp2 : PurseAt h2 p m W S (A - n) f := ⟨hb2, g, hg2, hgf⟩
      refine ⟨some m, cell_at hb2 rfl, f o, look hp2 o, ?_⟩
      rw [wrap_id (by omega) (by omega)]
      refine den_mapUpdateF tm hg2 ?_
      intro h3 hg3 hs3 ho3
      have hb3 := (ho3 p hne).trans hb2
      have hp3 : PurseAt h3 p m W S (A - n) (addF f o (-n)) := ⟨hb3, _, hg3, fun k => by
        unfold addF
        by_cases hk : k = o
        · grind
        · grind⟩
      have hfr3 : Fr (fun c => c = p ∨ c = m) h h3 := Fr.of_eq (by omega) fun c hc => by grind
      have hl := look hp3 o
      refine ⟨some m, cell_at hb3 rfl, addF f o (-n) o, hl, ?_⟩
      simp only [JoinP]
      by_cases hz : addF f o (-n) o = 0
      · simp only [hz, beq_self_eq_true, if_true]
        refine ⟨some m, cell_at hb3 rfl, (den_deleteF tm hg3 ?_)⟩
        intro h5 hg5 hs5 ho5
        refine ⟨rfl, k1 hf h5 ⟨(ho5 p hne).trans hb3, _, hg5, fun k => ?_⟩ (Fr.of_eq (by omega) fun c hc => ?_)⟩
        · by_cases hk : k = o
          · grind
          · simp [hk, hgf, addF]
        · grind
      · grind
def newOk (W S : Int) : Bool := decide (1 ≤ W) && decide (W ≤ 1048576) && decide (1 ≤ S) && decide (S ≤ W)
theorem newOk_iff : newOk W S = true ↔ 1 ≤ W ∧ W ≤ 1048576 ∧ 1 ≤ S ∧ S ≤ W := by simp [newOk, and_assoc]
theorem new_ok (W S : Int) {h : Heap}
    (k1 : newOk W S = true → ∀ h' p m, PurseAt h' p m W S 0 (fun _ => 0) → h.size ≤ p → h.size ≤ m → Fr No h h' → R (.tuple #[.pointer (some ⟨p, 0, none⟩), .int .i64 0]) h')
    (k2 : newOk W S = false → R (.tuple #[.pointer none, .int .i64 1]) h) : Cl 59 #[.int .i64 W, .int .i64 S] h R := by
  refine quota_New.walk ?_
  simp only [JoinP]
  by_cases h1 : W < 1
  · simpa only [h1, decide_true, if_true] using k2 (by simp [newOk, show ¬ 1 ≤ W by omega])
  · rw [if_neg (by simp only [decide_eq_true_eq]; omega)]
    by_cases h2 : W > 1048576
    · simpa only [h2, decide_true, if_true] using k2 (by simp [newOk, show ¬ W ≤ 1048576 by omega])
    · rw [if_neg (by simp only [decide_eq_true_eq]; omega)]
      by_cases h3 : S < 1
      · simpa only [h3, decide_true, if_true] using k2 (by simp [newOk, show ¬ 1 ≤ S by omega])
      · rw [if_neg (by simp only [decide_eq_true_eq]; omega)]
        by_cases h4 : S > W
        · simpa only [h4, decide_true, if_true] using k2 (by simp [newOk, show ¬ S ≤ W by omega])
        · rw [if_neg (by simp only [decide_eq_true_eq]; omega)]
          rintro b h2' rfl rfl b1 h3' rfl rfl
          refine k1 (newOk_iff.2 (by omega)) _ _ h.size ⟨push_new, fun _ => none, ?_, fun _ => rfl⟩ (by simp) (by simp) ?_
          · exact (MapF.push h).frame (Fr.push (S := fun _ => False) _ _) (by simp)
          · exact (Fr.push h _).trans (Fr.push _ _) (fun _ _ hx => hx) (fun _ _ hx => hx)
end Quota
end
section
namespace Stt
open Obx (It)
variable {l l':List It} {x:It} {o:Int}
def tot (l : List It) : Int := (l.map (fun x => (x.d.length : Int))).sum
def own (l : List It) (o : Int) : Int := tot (l.filter (fun x => decide (x.owner = o)))
theorem tot_perm (p : l.Perm l') : tot l = tot l' := by
  induction p with
  | nil => rfl
  | cons x _ ih => unfold tot at ih ⊢; simp only [List.map_cons, List.sum_cons]; omega
  | swap x y l => unfold tot; simp only [List.map_cons, List.sum_cons]; omega
  | trans _ _ h1 h2 => omega
theorem own_perm (p : l.Perm l') : own l = own l' := funext fun _ => tot_perm (p.filter _)
theorem tot_cons : tot (x :: l) = x.d.length + tot l := by rfl
theorem own_cons : own (x :: l) o = (if x.owner = o then (x.d.length : Int) else 0) + own l o := by
  unfold own
  rw [List.filter_cons]
  split <;> rename_i h
  · rw [tot_cons, if_pos (of_decide_eq_true h)]
  · grind
theorem tot_nn : 0 ≤ tot l := by
  induction l with
  | nil => decide
  | cons x l ih => rw [tot_cons]; omega
theorem own_nn : 0 ≤ own l o := tot_nn
theorem own_le (hx : x ∈ l) : (x.d.length : Int) ≤ own l x.owner := by
  obtain ⟨a, b, rfl⟩ := List.append_of_mem hx
  rw [own_perm List.perm_middle, own_cons, if_pos rfl]
  have := own_nn (l := a ++ b) (o := x.owner); omega
abbrev okQ (l : List It) : Prop := Quota.Ok 4800 1600 (tot l) (own l)
theorem okQ.perm (ok : okQ l) (p : l.Perm l') : okQ l' := by
  unfold okQ; rw [← tot_perm p, ← own_perm p]; exact ok
theorem okQ.sub (ok : okQ (x :: l)) : okQ l := by
  have ⟨a, b, c, d, e, f⟩ := ok
  rw [tot_cons] at d e
  have := tot_nn (l := l)
  refine ⟨a, b, c, by omega, by omega, fun k => ⟨own_nn, ?_⟩⟩
  have := (f k).2
  rw [own_cons] at this
  split at this <;> omega
theorem okQ.nil : okQ [] := ⟨by decide, by decide, by decide, by decide, by decide, fun _ => ⟨Int.le_refl 0, show (0) ≤ 1600 by decide⟩⟩
theorem own_give : Quota.addF (own (x :: l)) x.owner (-(x.d.length : Int)) = own l := by
  funext k
  unfold Quota.addF
  rw [own_cons]
  by_cases e : k = x.owner
  · omega
  · omega
def okI (x : It) : Prop := 1 ≤ x.d.length ∧ x.d.length ≤ 600 ∧ 1 ≤ x.owner ∧ x.owner ≤ 1099511627776
section
variable {h h' : Heap} {R : Value → Heap → Prop} {p m : Nat}
abbrev Pu (h : Heap) (p m : Nat) (l : List It) : Prop := Quota.PurseAt h p m 4800 1600 (tot l) (own l)
theorem Pu.perm (H : Pu h p m l) (q : l.Perm l') : Pu h p m l' := by
  unfold Pu; rw [← tot_perm q, ← own_perm q]; exact H
theorem give1 {n : Int} (H : Pu h p m (x :: l)) (ok : okQ (x :: l)) (k : okI x) (hn : n = (x.d.length : Int)) (hk : ∀ h', Pu h' p m l → Fr (fun c => c = p ∨ c = m) h h' → R (.int .i64 0) h') :
    Cl 166 #[.pointer (some ⟨p, 0, none⟩), .int .i64 x.owner, .int .i64 n] h R := by
  subst hn
  have g : Quota.gives (own (x :: l)) x.owner (x.d.length : Int) = true := Quota.gives_iff.2 ⟨⟨k.2.2.1, k.2.2.2, by omega⟩, own_le (by simp)⟩
  refine Quota.give_ok H ok _ _ (fun _ h' H' f' => hk h' ?_ f') (fun e => by rw [g] at e; cases e)
  rw [own_give, tot_cons, show (x.d.length : Int) + tot l - x.d.length = tot l by omega] at H'
  exact H'
end
end Stt
end
section
variable {h:Heap} {R:TyP}
variable {t:Nat} {num:Int}
theorem sessions_New.walk  (hv :
 NewP h (.cells #[.bool true, .slice none 0 0] 193) fun b h_1 =>
 R (.pointer (some ⟨b, 0, none⟩)) h_1) : Cl 60 #[] h R :=
 callsN [] hv
theorem sessions_Table_find.walk (hv :
 JoinP (fun (t6 : Bool) h_1 =>
 ite t6
 (  R (.tuple #[.pointer none, .int .i64 6]) h_1)
 (  JoinP (fun (t16 : Bool) h_2 =>
 ite t16
 (  R (.tuple #[.pointer none, .int .i64 4]) h_2)
 (  ∃ t31_p t31_l t31_c, hcell h_2 ⟨t, 1, none⟩ = some (.slice t31_p t31_l t31_c) ∧
 ((0 : Int) ≤ IntKind.wrap .i64 (num - 1) ∧ IntKind.wrap .i64 (num - 1) < ((t31_l : Nat) : Int)) ∧
 onSome t31_p fun a =>
 ∃ t35, hcell h_2 (a.add (Int.toNat (IntKind.wrap .i64 (num - 1)) * 1)) = some (.pointer t35) ∧
 R (.tuple #[.pointer t35, .int .i64 0]) h_2))
 (fun J_1 =>
 ite (decide (num < 1))
 (  J_1 true h_1)
 (  ∃ t24_p t24_l t24_c, hcell h_1 ⟨t, 1, none⟩ = some (.slice t24_p t24_l t24_c) ∧
 J_1 (decide (num > ((t24_l : Nat) : Int))) h_1))))
 (fun J =>
 ∃ t13, hcell h ⟨t, 0, none⟩ = some (.bool t13) ∧
 J (!t13) h)) : Cl 204 #[.pointer (some ⟨t, 0, none⟩), .int .i64 num] h R :=
 callsN [(5, .join [(6, sB)]), (11, .join [(16, sB)])] hv
theorem sessions_Table_of.walk {token : Int} (hv :
 ∃ t10_p t10_l t10_c, hcell h ⟨t, 1, none⟩ = some (.slice t10_p t10_l t10_c) ∧
 ∃ (I : Int → Heap → Prop) (mu : Int → Heap → Nat), I 0 h ∧ ∀ t12 h_1, I t12 h_1 →
 ite (decide (t12 < ((t10_l : Nat) : Int)))
 (  ((0 : Int) ≤ t12 ∧ t12 < ((t10_l : Nat) : Int)) ∧
 onSome t10_p fun a =>
 ∃ t15, hcell h_1 (a.add (Int.toNat t12 * 1)) = some (.pointer t15) ∧
 onSome t15 fun a_1 =>
 ∃ t19, hcell h_1 (a_1.add 1) = some (.int .u64 t19) ∧
 ite (t19 == token)
 (  R (.pointer t15) h_1)
 (  (I (IntKind.wrap .i64 (t12 + 1)) h_1 ∧ mu (IntKind.wrap .i64 (t12 + 1)) h_1 < mu t12 h_1)))
 (  R (.pointer none) h_1)) : Cl 203 #[.pointer (some ⟨t, 0, none⟩), .int .u64 token] h R :=
 callsN [(6, .loop [(12, sI)])] hv
theorem sessions_Table_Open.walk {t : Nat} {token : Int} (hv :
 JoinP (fun (t7 : Bool) h_1 =>
 ite t7
 (  R (.tuple #[.int .i64 0, .int .i64 6]) h_1)
 (  JoinP (fun (t17 : Bool) h_2 =>
 ite t17
 (  R (.tuple #[.int .i64 0, .int .i64 1]) h_2)
 (  Cl 203 #[.pointer (some ⟨t, 0, none⟩), .int .u64 token] h_2 fun v h_3 =>
 ∃ t27, v = .pointer t27 ∧
 ite (!t27.isNone)
 (  R (.tuple #[.int .i64 0, .int .i64 12]) h_3)
 (  ∃ t33_p t33_l t33_c, hcell h_3 ⟨t, 1, none⟩ = some (.slice t33_p t33_l t33_c) ∧
 ite (decide (((t33_l : Nat) : Int) ≥ 8))
 (  R (.tuple #[.int .i64 0, .int .i64 5]) h_3)
 (  ∃ t39_p t39_l t39_c, hcell h_3 ⟨t, 1, none⟩ = some (.slice t39_p t39_l t39_c) ∧
 NewP h_3 (.cells #[.int .i64 (IntKind.wrap .i64 (((t39_l : Nat) : Int) + 1)), .int .u64 token, .bool true, .bool false, .slice none 0 0, .slice none 0 0] 305) fun b h_4 =>
 ∃ t49_p t49_l t49_c, hcell h_4 ⟨t, 1, none⟩ = some (.slice t49_p t49_l t49_c) ∧
 NewP h_4 (.cells #[.pointer (some ⟨b, 0, none⟩)] 318) fun b_1 h_5 =>
 Dsz (Builtin.append_ #[191, 191] 191 #[.slice t49_p t49_l t49_c, .slice (some ⟨b_1, 0, none⟩) 1 1]) h_5 fun v_1 h_6 =>
 ∃ t52_p t52_l t52_c, v_1 = .slice t52_p t52_l t52_c ∧
 StoreP h_6 ⟨t, 1, none⟩ (.slice t52_p t52_l t52_c) fun h_7 =>
 ∃ t58, hcell h_7 ⟨b, 0, none⟩ = some (.int .i64 t58) ∧
 R (.tuple #[.int .i64 t58, .int .i64 0]) h_7))))
 (fun J_1 =>
 ite (decide (token < 1))
 (  J_1 true h_1)
 (  J_1 (decide (token > 2147483648)) h_1))))
 (fun J =>
 ∃ t14, hcell h ⟨t, 0, none⟩ = some (.bool t14) ∧
 J (!t14) h)) : Cl 167 #[.pointer (some ⟨t, 0, none⟩), .int .u64 token] h R :=
 callsN [(5, .join [(7, sB)]), (11, .join [(17, sB)])] hv
theorem sessions_Table_Down.walk (hv :
 Cl 204 #[.pointer (some ⟨t, 0, none⟩), .int .i64 num] h fun v h_1 =>
 ∃ t10_0 t10_1, v = .tuple #[.pointer t10_0, .int .i64 t10_1] ∧
 ite (t10_1 != 0)
 (  R (.int .i64 t10_1) h_1)
 (  onSome t10_0 fun a =>
 ∃ t21, hcell h_1 (a.add 2) = some (.bool t21) ∧
 ite (!t21)
 (  R (.int .i64 7) h_1)
 (  onSome t10_0 fun a_1 =>
 StoreP h_1 (a_1.add 2) (.bool false) fun h_2 =>
 R (.int .i64 0) h_2))) : Cl 169 #[.pointer (some ⟨t, 0, none⟩), .int .i64 num] h R :=
 callsN [] hv

end
end Go.Proofs.YtaphjamdblgiiaaGreatDoor
