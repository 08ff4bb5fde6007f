/-
  What is proved here: parts of the proof, one behind the other (texts of this work, merged by a program; what the theorem does not use is left out). No condition.
-/
import Derived.Lib.LaidU8
import Derived.Lib.LaidTab
import Derived.Test.YtmoafceggjgecaaGreatDoorMBocec
set_option linter.defProp false
set_option maxRecDepth 100000
set_option maxHeartbeats 4000000
namespace Go.Proofs.YtmoafceggjgecaaGreatDoor
open Go.Den
open IntKind (wrap)
open Int (toNat)
section
open Go.Fields
namespace Fld
variable {h h':Heap} {R:TyP} {p q:TyO} {c:Nat}
variable {n:Nat}
structure RS where
  p : Option Addr
  c : Nat
  xs : List BV
abbrev RS.val (t : RS) : Value := .slice t.p t.xs.length t.c
variable {ts:List RS}
theorem nflat_len (xs : List BV) : (xs.flatMap nenc).length = xs.length := by
  rw [flat_len nenc 1 nenc_len, Nat.mul_one]
theorem growN_ok (hn : n ≤ 1000000) (hk : ∀ p' c' h', Own h' p' 0 c' 1 [] → Fr No h h' → (∀ y, inBlk p' y → h.size ≤ y) → R (.slice p' 0 c') h') :
    Cl 67 #[.slice none 0 0, .int .i64 (n : Int)] h R := by
  refine slices_Grow_s_s_byte_s_byte.walk (JoinP.of fun J hJ => ?_)
  have e2 : IntKind.wrap .i64 ((n) - (IntKind.wrap .i64 (((0 : Nat)) - ((0 : Nat))))) = (n) := by
    rw [show IntKind.wrap .i64 (((0 : Nat)) - ((0 : Nat))) = 0 from rfl, wrap_id (by omega) (by omega)]; omega
  rw [if_neg (fun e => by grind)]
  subst hJ
  refine JoinP.of fun J1 hJ1 => ?_
  rw [e2]
  by_cases hz : n = 0
  · subst hz
    subst hJ1
    exact hk none 0 h (.nil rfl rfl rfl rfl) (Fr.refl _ _) (fun y ⟨a, e, _⟩ => by cases e)
  · rw [if_pos (decide_eq_true (by omega))]
    refine ⟨⟨by omega, by omega⟩, (den_grow tN (by kernel_rfl) (by omega) (by omega) (by omega) fun cap' h' o hc f => ⟨_, _, _, rfl, ⟨by omega, by omega⟩, ?_⟩)⟩
    rw [slBase_zero]
    subst hJ1
    exact hk _ cap' h' o f (fun y ⟨a, e, e2⟩ => by grind)
theorem take_flat {j : Nat} {t : RS} (ht : ts[j]? = some t) : (ts.take (j + 1)).flatMap RS.xs = (ts.take j).flatMap RS.xs ++ t.xs := by
  rw [List.take_add_one, ht, List.flatMap_append]; simp
theorem concatN_ok {a : Addr} {m:Nat} (hh : Row h (some a) (ts.map RS.val)) (hr : ∀ t ∈ ts, Row h t.p (t.xs.flatMap nenc)) (hn : n = ts.length) (ht : ts.length ≤ 1000) (hl : (ts.flatMap RS.xs).length ≤ 1000000)
    (hk : ∀ h' p' c', Own h' p' (ts.flatMap RS.xs).length c' 1 ((ts.flatMap RS.xs).flatMap nenc) → Fr No h h' → (∀ y, inBlk p' y → h.size ≤ y) → R (.slice p' (ts.flatMap RS.xs).length c') h') :
    Cl 42 #[.slice (some a) n m] h R := by
  subst hn
  have tl : ∀ j, ((ts.take j).flatMap RS.xs).length ≤ (ts.flatMap RS.xs).length := fun j => by
    conv => rhs; rw [← List.take_append_drop j ts]
    rw [List.flatMap_append, List.length_append]; omega
  have at_ : ∀ {g : Heap} {j : Nat} {t : RS}, Fr No h g → ts[j]? = some t → hcell g (a.add (Int.toNat (j : Int) * 1)) = some t.val := fun f ht => by
    rw [Int.toNat_natCast, Nat.mul_one]
    exact (hh.frame f (fun _ _ => id)).cell (by grind)
  refine slices_Concat_s_s_byte_s_byte.walk ⟨fun size i g => g = h ∧ ∃ j : Nat, i = (j : Int) ∧ j ≤ ts.length ∧ size = ((((ts.take j).flatMap RS.xs).length : Nat) : Int), fun _ i _ => ts.length - i.toNat, ⟨rfl, 0, rfl, Nat.zero_le _, rfl⟩, ?_⟩
  rintro _ _ g ⟨rfl, j, rfl, hj, rfl⟩
  by_cases hlt : j < ts.length
  · rw [if_pos (decide_eq_true (by omega))]
    have hg := List.getElem?_eq_getElem hlt
    have e1 := congrArg List.length (take_flat hg)
    rw [List.length_append] at e1
    have t1 := tl (j + 1)
    refine JoinP.of fun J hJ => ⟨⟨by omega, by omega⟩, onSome_some.2 ⟨_, _, _, at_ (Fr.refl _ _) hg, JoinP.of fun J1 hJ1 => ?_⟩⟩
    have e : IntKind.wrap .i64 (((((ts.take j).flatMap RS.xs).length : Nat) : Int) + ((ts[j].xs.length : Nat) : Int)) = ((((ts.take (j + 1)).flatMap RS.xs).length : Nat) : Int) := by rw [wrap_id (by omega) (by omega)]; omega
    rw [e] at hJ1 ⊢
    rw [if_neg (fun e => by have := of_decide_eq_true e; omega)]
    subst hJ1; subst hJ
    dsimp only
    rw [wrap_id (by omega) (by omega)]
    exact ⟨⟨rfl, j + 1, by omega, by omega, rfl⟩, by show ts.length - Int.toNat ((j : Int) + 1) < ts.length - Int.toNat (j : Int); omega⟩
  · rw [if_neg (fun e => by grind)]
    have ej : j = ts.length := by omega
    subst ej
    rw [List.take_length]
    refine growN_ok (by omega) fun p4 c4 h4 o4 f4 g4 => ⟨_, _, _, rfl, ?_⟩
    refine ⟨fun np nl nc i g' => Fr No g g' ∧ (∀ y, inBlk np y → g.size ≤ y) ∧ ∃ j : Nat, i = (j : Int) ∧ j ≤ ts.length ∧ nl = ((ts.take j).flatMap RS.xs).length ∧ Own g' np nl nc 1 (((ts.take j).flatMap RS.xs).flatMap nenc), fun _ _ _ i _ => ts.length - i.toNat, ⟨f4, g4, 0, rfl, Nat.zero_le _, rfl, o4⟩, ?_⟩
    rintro np nl nc i g' ⟨fg, gg, j, rfl, hj, rfl, o⟩
    by_cases hlt : j < ts.length
    · rw [if_pos (decide_eq_true (by omega))]
      have hg := List.getElem?_eq_getElem hlt
      have e1 := congrArg List.length (take_flat hg)
      rw [List.length_append] at e1
      have t1 := tl (j + 1)
      refine ⟨⟨by omega, by omega⟩, onSome_some.2 ⟨_, _, _, at_ fg hg, ?_⟩⟩
      refine den_append tN uN o ((hr _ (List.getElem_mem hlt)).frame fg (fun _ _ => id)) (by rw [nflat_len, Nat.mul_one]) (nenc_one _) (by omega) (by omega) fun p6 c6 h6 o6 _ f6 g6 => ⟨_, _, _, rfl, ?_⟩
      rw [← List.flatMap_append, ← take_flat hg, ← e1] at o6
      rw [← e1, wrap_id (by omega) (by omega)]
      have z := fg.1
      exact ⟨⟨fg.fresh f6 gg, (fun y hy => (g6 y hy).elim (gg y) (fun h2 => by omega)), j + 1, by omega, by omega, rfl, o6⟩, by grind⟩
    · grind
theorem join_ok {g g4 : Heap} {xs1 xs2 xs3 xs4 : List BV} {D1 D2 D3 D4 : Nat → Prop} {p5 p' : Option Addr} {c5 c':Nat} {hd : List UInt8} {e1 e2 e3 e4 : List (List UInt8)}
    (d1 : ∀ x ∈ xs1, x.ok g D1) (d2 : ∀ x ∈ xs2, x.ok g D2) (d3 : ∀ x ∈ xs3, x.ok g D3) (d4 : ∀ x ∈ xs4, x.ok g D4) (q1 : xs1.map BV.b = e1) (q2 : xs2.map BV.b = e2) (q3 : xs3.map BV.b = e3) (q4 : xs4.map BV.b = e4)
    (all : ∀ y, D1 y ∨ D2 y ∨ D3 y ∨ D4 y → h.size ≤ y ∧ y < g.size) (F : Fr No g h') (zg : g.size ≤ g4.size) (z4 : g4.size ≤ h'.size) (zh : h.size ≤ g4.size)
    (o5 : Own h' p5 hd.length c5 1 (bc hd)) (i5 : ∀ y, inBlk p5 y → h.size ≤ y ∧ y < g4.size) (hn : n = 1 + (xs1 ++ (xs2 ++ (xs3 ++ xs4))).length)
    (o' : Own h' p' n c' 1 ((⟨p5, c5, hd⟩ :: (xs1 ++ (xs2 ++ (xs3 ++ xs4)))).flatMap nenc)) (lo : ∀ y, inBlk p' y → g4.size ≤ y) : BL h h' p' n c' (hd :: (e1 ++ (e2 ++ (e3 ++ e4)))) := by
  subst q1 q2 q3 q4
  refine ⟨⟨p5, c5, hd⟩ :: (xs1 ++ (xs2 ++ (xs3 ++ xs4))), fun y => (D1 y ∨ D2 y ∨ D3 y ∨ D4 y) ∨ inBlk p5 y, by rw [List.length_cons]; omega, o', by simp, fun x hx => ?_, fun y hy => ?_, fun y hy => ?_⟩
  · rcases List.mem_cons.1 hx with rfl | hx
    · exact BV.of_own o5 (fun y hy => .inr hy)
    rcases List.mem_append.1 hx with hx | hx
    · exact ((d1 x hx).frame F (fun _ _ => id)).mono fun y a => .inl (.inl a)
    rcases List.mem_append.1 hx with hx | hx
    · exact ((d2 x hx).frame F (fun _ _ => id)).mono fun y a => .inl (.inr (.inl a))
    rcases List.mem_append.1 hx with hx | hx
    · exact ((d3 x hx).frame F (fun _ _ => id)).mono fun y a => .inl (.inr (.inr (.inl a)))
    · exact ((d4 x hx).frame F (fun _ _ => id)).mono fun y a => .inl (.inr (.inr (.inr a)))
  · rcases hy with hy | hy
    · have := all y hy
      exact ⟨by omega, by omega, fun q => by have := lo y q; omega⟩
    · have := i5 y hy
      exact ⟨by omega, by omega, fun q => by have := lo y q; omega⟩
  · have := lo y hy; omega

end Fld
end
section
open Go.Fields
namespace Stt
open Eid (Ev rightE ev5 textE)
open Fld
variable {h h':Heap} {R:TyP} {s k:Nat} {X:Ft} {I:Ids} {σ:SS} {p:TyO}
variable {e:Ev} {tm sq:Nat}
theorem last_ok (M : Mk h k e tm sq) (hk : ∀ h', Fr No h h' → R (.agg #[.bool e.ipn, .int .u64 e.node, .int .u64 e.svc, .string e.host, .string e.dem, .int .u64 (tm : Int), .int .u64 (sq : Int)]) h') :
    Cl 31 #[pt k] h R := by
  refine ident_Maker_Last.walk (ident_Ident.box fun b h1 eb hb f1 => ?_)
  have M1 := f1.get M id
  refine JoinP.of fun J hJ => ⟨_, cell_at M1 rfl, ?_⟩
  subst hJ
  dsimp only
  refine ⟨_, cell_at M1 rfl, _, cell_at M1 rfl, _, cell_at M1 rfl, _, cell_at M1 rfl, _, cell_at M1 rfl, _, cell_at M1 rfl, _, cell_at M1 rfl, ident_Ident.set hb fun h2 a1 a2 a3 => ident_Ident.ld a1 (hk h2 (f1.fresh (Fr.of_eq a2 a3) (fun y e => by omega)))⟩
def recsS (σ : SS) : List (List UInt8) := Ses.recs σ.A ++ (σ.G.map Regs.recR ++ (Cps.recsC σ.C ++ Obx.recsB σ.B))
def headS (σ : SS) : List UInt8 := encText (textE σ.e) ++ encNum σ.now ++ encNum σ.rf ++ encNum σ.tm ++ encNum σ.sq ++ encNum (Ses.recs σ.A).length ++ encNum (σ.G.map Regs.recR).length ++ encNum (Cps.recsC σ.C).length ++ encNum (Obx.recsB σ.B).length
theorem head_ok {w b : Nat} {S : Nat → Prop} {t : List UInt8} {tl c : Nat} {now rf:Nat} {K : Option Addr → Heap → Prop} (W : Wr h w S []) (r : Row h p (bc t)) (ht : tl = t.length) (hl : t.length ≤ 100000000) (hn : now < 18446744073709551616 ∧ rf ≤ 1000000000 ∧ tm < 18446744073709551616 ∧ sq < 18446744073709551616) (hp : ∀ y, inBlk p y → t ≠ [] → ¬ S y) (B : Bk h s I now rf)
    (hb : ident_Ident.at h b e.ipn e.node e.svc e.host e.dem (tm : Int) (sq : Int)) (nb : ¬ S b) (ns : ¬ S s) (hk : ∀ g S', Wr g w S' (encText t ++ encNum now ++ encNum rf ++ encNum tm ++ encNum sq) → Step S h S' g → K (some ⟨w, 0, none⟩) g) :
    Cl 38 #[.pointer (some ⟨w, 0, none⟩), .slice p tl c] h fun v_14 h_28 =>
      ∃ t48, v_14 = .pointer t48 ∧
      hcell h_28 ⟨b, 6, none⟩ = some (.int .u64 (sq : Int)) ∧
      hcell h_28 ⟨b, 5, none⟩ = some (.int .u64 (tm : Int)) ∧
      hcell h_28 ⟨s, 7, none⟩ = some (.int .i64 (rf : Int)) ∧
      hcell h_28 ⟨s, 6, none⟩ = some (.int .u64 (now : Int)) ∧
      Cl 39 #[.pointer t48, .int .u64 (now : Int)] h_28 fun v_15 h_29 =>
      ∃ t53, v_15 = .pointer t53 ∧
      hcell h_29 ⟨b, 6, none⟩ = some (.int .u64 (sq : Int)) ∧
      hcell h_29 ⟨b, 5, none⟩ = some (.int .u64 (tm : Int)) ∧
      hcell h_29 ⟨s, 7, none⟩ = some (.int .i64 (rf : Int)) ∧
      Cl 40 #[.pointer t53, .int .i64 (rf : Int)] h_29 fun v_16 h_30 =>
      ∃ t58, v_16 = .pointer t58 ∧
      hcell h_30 ⟨b, 6, none⟩ = some (.int .u64 (sq : Int)) ∧
      hcell h_30 ⟨b, 5, none⟩ = some (.int .u64 (tm : Int)) ∧
      Cl 39 #[.pointer t58, .int .u64 (tm : Int)] h_30 fun v_17 h_31 =>
      ∃ t61, v_17 = .pointer t61 ∧
      hcell h_31 ⟨b, 6, none⟩ = some (.int .u64 (sq : Int)) ∧
      Cl 39 #[.pointer t61, .int .u64 (sq : Int)] h_31 fun v_18 h_32 =>
      ∃ t64, v_18 = .pointer t64 ∧ K t64 h_32 := by
  subst ht
  have cb : ∀ {g S'} (i : Nat) (v : Value), Step S h S' g → (#[Value.bool e.ipn, .int .u64 e.node, .int .u64 e.svc, .string e.host, .string e.dem, .int .u64 (tm : Int), .int .u64 (sq : Int)])[i]? = some v → hcell g ⟨b, i, none⟩ = some v := fun i v st hv => st.fr.cell (cell_at hb hv) nb
  have cs : ∀ {g S'} (i : Nat) (v : Value), Step S h S' g → (#[pt I.t, pt I.r, pt I.c, pt I.o, pt I.p, pt I.k, .int .u64 (now : Int), .int .i64 (rf : Int)])[i]? = some v → hcell g ⟨s, i, none⟩ = some v := fun i v st hv => st.fr.cell (cell_at B hv) ns
  have l0 : (encText t).length ≤ 200000000 := by unfold encText; rw [List.length_append]; have := encNum_len t.length; omega
  have ln := encNum_len now
  have lr := encNum_len rf
  have lt := encNum_len tm
  refine text_ok' W (by simp) r rfl (by omega) hp fun g1 S1 W1 s1 => ⟨_, rfl, cb _ _ s1 rfl, cb _ _ s1 rfl, cs _ _ s1 rfl, cs _ _ s1 rfl, ?_⟩
  rw [List.nil_append] at W1
  refine num_ok now W1 (by omega) rfl hn.1 fun g2 S2 W2 s2 => ⟨_, rfl, ?_⟩
  have s2 := s1.trans s2
  refine ⟨cb _ _ s2 rfl, cb _ _ s2 rfl, cs _ _ s2 rfl, int_ok W2 (by rw [List.length_append]; omega) (by omega) fun g3 S3 W3 s3 => ⟨_, rfl, ?_⟩⟩
  have s3 := s2.trans s3
  have W3 : Wr g3 w S3 (encText t ++ encNum now ++ encNum rf) := W3
  refine ⟨cb _ _ s3 rfl, cb _ _ s3 rfl, num_ok tm W3 (by simp only [List.length_append]; omega) rfl hn.2.2.1 fun g4 S4 W4 s4 => ⟨_, rfl, ?_⟩⟩
  have s4 := s3.trans s4
  refine ⟨cb _ _ s4 rfl, num_ok sq W4 (by simp only [List.length_append]; omega) rfl hn.2.2.2 fun g5 S5 W5 s5 => ⟨_, rfl, hk g5 S5 W5 (s4.trans s5)⟩⟩
theorem save_ok (H : Pt h s X I σ) (G : Good σ k) (hk8 : k ≤ 30000) (tb : Num.Tab h) (hk : ∀ h' p' l' c', BL h h' p' l' c' (headS σ :: recsS σ) → Fr No h h' → R (.slice p' l' c') h') :
    Cl 14 #[pt s] h R := by
  refine state_State_Save.walk (made_ok H.blk ⟨_, rfl, ?_⟩)
  rw [if_neg (by decide)]
  obtain ⟨Y, hp, _⟩ := id H
  obtain ⟨M, _⟩ := hp 5
  refine ⟨_, cell_at H.blk rfl, last_ok M fun h2 f2 => ⟨_, _, _, _, _, _, _, rfl, ident_Ident.new fun b h10 eb hb f10 => ⟨_, cell_at hb rfl, _, cell_at hb rfl, _, cell_at hb rfl, _, cell_at hb rfl, _, cell_at hb rfl, ?_⟩⟩⟩
  have F10 := f2.tt f10
  refine Eid.text_ok σ.e (tb.on F10) G.e.2.2 fun h11 f11 => ⟨_, _, rfl, JoinP.of fun J hJ => ?_⟩
  rw [if_pos G.e.1] at hJ
  have F11 := F10.tt f11
  have hb11 := f11.get hb id
  have B : ∀ {g}, Fr No h11 g → Bk g s I σ.now σ.rf := fun f => f.get (F11.get H.blk id) id
  have O := H.ord
  have sm := G.small O (by omega)
  have gl := G.c.L
  obtain ⟨Lb, okb⟩ := H.okB
  have s0 : ∀ {g : Heap} {K : Option Addr → Nat → Nat → Heap → Prop}, Fr No h11 g → (∀ g' p l c, BL g g' p l c (Ses.recs σ.A) → Fr No g g' → K p l c g') → Cl 33 #[pt I.t] g fun v g' => ∃ p l c, v = .slice p l c ∧ K p l c g' := fun f hK =>
    Ses.save_ok (Ses.Has.frame (hp 0) (F11.tt f) (fun _ _ => id)) G.a fun g' p l c L f' => ⟨p, l, c, rfl, hK g' p l c L f'⟩
  have s1 : ∀ {g : Heap} {K : Option Addr → Nat → Nat → Heap → Prop}, Fr No h11 g → (∀ g' p l c, BL g g' p l c (σ.G.map Regs.recR) → Fr No g g' → K p l c g') → Cl 34 #[pt I.r] g fun v g' => ∃ p l c, v = .slice p l c ∧ K p l c g' := fun f hK =>
    Regs.save_ok (Regs.Tb.on (hp 1) (F11.tt f)) (by have := G.g.len; omega) G.g.all (tb.on (F11.tt f)) fun g' p l c L f' => ⟨p, l, c, rfl, hK g' p l c L f'⟩
  have s2 : ∀ {g : Heap} {K : Option Addr → Nat → Nat → Heap → Prop}, Fr No h11 g → (∀ g' p l c, BL g g' p l c (Cps.recsC σ.C) → Fr No g g' → K p l c g') → Cl 35 #[pt I.c] g fun v g' => ∃ p l c, v = .slice p l c ∧ K p l c g' := fun f hK =>
    Cps.save_ok (Cps.Ct.on (hp 2) (F11.tt f)) sm (by omega) G.c.all (tb.on (F11.tt f)) fun g' p l c L f' => ⟨p, l, c, rfl, hK g' p l c L f'⟩
  have s3 : ∀ {g : Heap} {K : Option Addr → Nat → Nat → Heap → Prop}, Fr No h11 g → (∀ g' p l c, BL g g' p l c (Obx.recsB σ.B) → Fr No g g' → K p l c g') → Cl 36 #[pt I.o] g fun v g' => ∃ p l c, v = .slice p l c ∧ K p l c g' := fun f hK =>
    Obx.save_ok (Obx.Box.on (hp 3) (F11.tt f)) (by have := G.b; omega) fun g' p l c L f' => ⟨p, l, c, rfl, hK g' p l c L f'⟩
  have fin : ∀ {g : Heap} {b4 : Nat} {p1 p2 p3 p4 : Option Addr} {l1 c1 l2 c2 l3 c3 l4 c4 : Nat}, a4_s_s_uint8.at g b4 p1 l1 c1 p2 l2 c2 p3 l3 c3 p4 l4 c4 → BL h11 g p1 l1 c1 (Ses.recs σ.A) → BL h11 g p2 l2 c2 (σ.G.map Regs.recR) → BL h11 g p3 l3 c3 (Cps.recsC σ.C) → BL h11 g p4 l4 c4 (Obx.recsB σ.B) → Fr No h11 g → J (some ⟨b4, 0, none⟩) g := by
    intro g b4 p1 p2 p3 p4 l1 c1 l2 c2 l3 c3 l4 c4 ha L1 L2 L3 L4 fg
    subst hJ
    dsimp only
    have hbg := fg.get hb11 id
    have lb := lt_of_get hbg
    have ls := lt_of_get (B fg)
    refine JoinP.of fun J1 hJ1 => ?_
    have tl : (textE σ.e).length ≤ 100000000 := Nat.le_trans (Eid.text_len G.e.1 G.e.2.2) (by omega)
    have W : ∀ {g2 : Heap} {w : Nat} {S : Nat → Prop}, Wr g2 w S (encText (textE σ.e) ++ encNum σ.now ++ encNum σ.rf ++ encNum σ.tm ++ encNum σ.sq) → Fr No g g2 → (∀ y, S y → g.size ≤ y) → J1 (some ⟨w, 0, none⟩) g2 := by
      intro g2 w S W2 fg2 gS
      subst hJ1
      dsimp only
      have hag := fg2.get ha id
      obtain ⟨q0, q1, q2, q3, _⟩ := a4_s_s_uint8.held hag
      rw [add_zero_addr] at q0
      refine onSome_some.2 ⟨_, _, _, q0, _, _, _, q1, _, _, _, q2, _, _, _, q3, ?_⟩
      obtain ⟨xs1, D1, rfl, o1, e1, d1, b1, i1⟩ := L1
      obtain ⟨xs2, D2, rfl, o2, e2, d2, b2, i2⟩ := L2
      obtain ⟨xs3, D3, rfl, o3, e3, d3, b3, i3⟩ := L3
      obtain ⟨xs4, D4, rfl, o4, e4, d4, b4', i4⟩ := L4
      have n1 := congrArg List.length e1
      have n2 := congrArg List.length e2
      have n3 := congrArg List.length e3
      have n4 := congrArg List.length e4
      rw [List.length_map] at n1 n2 n3 n4
      have m1 := Ses.recs_le G.a
      have m1' := G.a.le
      have m2 := G.g.len
      have m3 : (Cps.recsC σ.C).length = σ.C.L.length + 1 := by unfold Cps.recsC; simp
      have m4 : (Obx.recsB σ.B).length = σ.B.items.length + 1 := by unfold Obx.recsB; simp
      have m4' := okb.le
      rw [List.length_map] at n2
      let cs : List Nat := [xs1.length, xs2.length, xs3.length, xs4.length]
      have hl0 : (encText (textE σ.e) ++ encNum σ.now ++ encNum σ.rf ++ encNum σ.tm ++ encNum σ.sq).length ≤ 1000000000 := by
        have := encNum_len σ.now; have := encNum_len σ.rf; have := encNum_len σ.tm; have := encNum_len σ.sq; have := encNum_len (textE σ.e).length
        simp only [List.length_append, encText]; omega
      generalize hh0 : encText (textE σ.e) ++ encNum σ.now ++ encNum σ.rf ++ encNum σ.tm ++ encNum σ.sq = hd0 at W2 hl0
      have fl : ∀ l : List Nat, (l.flatMap encNum).length ≤ 10 * l.length := fun l => by
        induction l with
        | nil => exact Nat.le_refl _
        | cons n l ih => rw [List.flatMap_cons, List.length_append, List.length_cons]; have := encNum_len n; omega
      refine ⟨fun i g3 => ∃ (j : Nat) (S' : Nat → Prop), i = (j : Int) ∧ j ≤ 4 ∧ Wr g3 w S' (hd0 ++ (cs.take j).flatMap encNum) ∧ Step S g2 S' g3, fun i _ => 4 - i.toNat, ⟨0, S, rfl, by omega, by simpa using W2, Step.refl _ _⟩, ?_⟩
      rintro _ g3 ⟨j, S', rfl, hj, W3, st3⟩
      have lj : (hd0 ++ (cs.take j).flatMap encNum).length ≤ 1000000100 := by
        have := fl (cs.take j)
        rw [List.length_take] at this
        rw [List.length_append]
        have : min j cs.length ≤ 4 := by omega
        omega
      have one : ∀ (n : Nat), cs[j]? = some n → n ≤ 40000 → Cl 40 #[.pointer (some ⟨w, 0, none⟩), .int .i64 (n : Int)] g3 fun v h15 => ∃ t72, v = .pointer t72 ∧ ((∃ (j' : Nat) (S' : Nat → Prop), IntKind.wrap .i64 ((j : Int) + 1) = (j' : Int) ∧ j' ≤ 4 ∧ Wr h15 w S' (hd0 ++ (cs.take j').flatMap encNum) ∧ Step S g2 S' h15) ∧ 4 - (IntKind.wrap .i64 ((j : Int) + 1)).toNat < 4 - Int.toNat (j : Int)) := by
        intro n hn hb
        have hj4 : j < 4 := (List.getElem?_eq_some_iff.1 hn).1
        refine int_ok W3 (by omega) (by omega) fun g4 S4 W4 st4 => ⟨_, rfl, ?_⟩
        have W4 : Wr g4 w S4 ((hd0 ++ (cs.take j).flatMap encNum) ++ encNum n) := W4
        rw [wrap_id (by omega) (by omega)]
        refine ⟨⟨j + 1, S4, by omega, by omega, ?_, st3.trans st4⟩, by omega⟩
        rw [List.take_add_one, hn, List.flatMap_append, ← List.append_assoc]
        simpa using W4
      by_cases hlt : j < 4
      · rw [if_pos (decide_eq_true (by omega))]
        refine ⟨⟨by omega, by omega⟩, fun e => ?_, fun e => ?_, fun e => ?_, fun e => ?_, trivial⟩
        · obtain rfl : j = 0 := by omega
          exact one xs1.length rfl (by omega)
        · obtain rfl : j = 1 := by omega
          exact one xs2.length rfl (by omega)
        · obtain rfl : j = 2 := by omega
          exact one xs3.length rfl (by omega)
        · obtain rfl : j = 3 := by omega
          exact one xs4.length rfl (by omega)
      · rw [if_neg (fun e => hlt (by have := of_decide_eq_true e; omega))]
        obtain rfl : j = 4 := by omega
        clear one
        have eh : headS σ = hd0 ++ (cs.take 4).flatMap encNum := by
          unfold headS
          rw [hh0, ← n1, List.length_map, ← n2, ← n3, ← n4]
          simp [cs]
        rw [eh] at hk
        generalize hd0 ++ (cs.take 4).flatMap encNum = hd at W3 hk lj
        refine onSome_some.2 (bytes_ok W3 (by omega) fun p5 c5 g4 o5 f5 i5 => ⟨_, _, _, rfl, ?_⟩)
        have fg3 : Fr No g g3 := fg2.fresh st3.fr gS
        have fg4 := fg3.tt f5
        let ts : List Fld.RS := [⟨p1, c1, xs1⟩, ⟨p2, c2, xs2⟩, ⟨p3, c3, xs3⟩, ⟨p4, c4, xs4⟩]
        have et : ts.flatMap Fld.RS.xs = xs1 ++ (xs2 ++ (xs3 ++ xs4)) := by simp [ts]
        have lt : (ts.flatMap Fld.RS.xs).length ≤ 40000 := by rw [et]; simp only [List.length_append]; omega
        have con : ∀ {g' : Heap} {K : Value → Heap → Prop}, Fr No g4 g' → (∀ h' p' c', Own h' p' (ts.flatMap Fld.RS.xs).length c' 1 ((ts.flatMap Fld.RS.xs).flatMap nenc) → Fr No g' h' → (∀ y, inBlk p' y → g'.size ≤ y) → K (.slice p' (ts.flatMap Fld.RS.xs).length c') h') → Cl 42 #[.slice (slBase (some ⟨b4, 0, none⟩) 4 0 1) (4 - 0) (4 - 0)] g' K := by
          intro g' K f hK
          rw [slBase_zero]
          have F := fg4.tt f
          refine concatN_ok (ts := ts) (.inr ⟨_, rfl, a4_s_s_uint8.held (F.get ha id)⟩) (fun t ht => ?_) rfl (by show 4 ≤ 1000; omega) (by omega) hK
          rcases List.mem_cons.1 ht with rfl | ht
          · exact o1.row'.frame F (fun _ _ => id)
          rcases List.mem_cons.1 ht with rfl | ht
          · exact o2.row'.frame F (fun _ _ => id)
          rcases List.mem_cons.1 ht with rfl | ht
          · exact o3.row'.frame F (fun _ _ => id)
          · obtain rfl := List.mem_singleton.1 ht
            exact o4.row'.frame F (fun _ _ => id)
        have done : ∀ {g' : Heap} {b5 cc : Nat} {pc : Option Addr}, Fr No g4 g' → Own g' (some ⟨b5, 0, none⟩) 1 1 1 [.slice p5 hd.length c5] → g4.size ≤ b5 → Own g' pc (ts.flatMap Fld.RS.xs).length cc 1 ((ts.flatMap Fld.RS.xs).flatMap nenc) →
            denSem Tryz.prog (Builtin.append_ #[44, 44] 44 #[.slice (some ⟨b5, 0, none⟩) 1 1, .slice pc (ts.flatMap Fld.RS.xs).length cc]) g' fun v h' => ∃ p l c, v = .slice p l c ∧ R (.slice p l c) h' := by
          intro g' b5 cc pc f ol lb5 oc
          refine den_append tN uN ol oc.row' (by rw [nflat_len, Nat.mul_one]) (nenc_one _) (by omega) (by omega) fun p' c' h' o' _ f' g'' => ⟨_, _, _, rfl, ?_⟩
          have fF := f.fresh f' (fun y ⟨a, e, e2⟩ => by cases e; rw [← e2]; exact lb5)
          have F := fg4.tt fF
          have lo : ∀ y, inBlk p' y → g4.size ≤ y := fun y hy => (g'' y hy).elim (fun ⟨a, e, e2⟩ => by cases e; rw [← e2]; exact lb5) (fun q => Nat.le_trans f.1 q)
          have z11 := F11.1
          have z3 := fg3.1
          have z4 := fg4.1
          have zF := fF.1
          have zg := fg.1
          rw [et] at o' ⊢
          refine hk h' p' _ c' (join_ok (g4 := g4) d1 d2 d3 d4 e1 e2 e3 e4 (fun y hy => ?_) F (by omega) (by omega) (by omega) (o5.frame fF (fun _ _ => id)) (fun y hy => ⟨by have := i5 y hy; omega, o5.blk_lt hy⟩) rfl o' lo) ((F11.tt fg).tt F)
          rcases hy with hy | hy | hy | hy
          · exact ⟨Nat.le_trans z11 (b1 y hy).1, (b1 y hy).2.1⟩
          · exact ⟨Nat.le_trans z11 (b2 y hy).1, (b2 y hy).2.1⟩
          · exact ⟨Nat.le_trans z11 (b3 y hy).1, (b3 y hy).2.1⟩
          · exact ⟨Nat.le_trans z11 (b4' y hy).1, (b4' y hy).2.1⟩
        have lit : ∀ (g' : Heap), Own (g'.push (.cells #[.slice p5 hd.length c5] 48)) (some ⟨g'.size, 0, none⟩) 1 1 1 [.slice p5 hd.length c5] := fun g' => .row _ 0 _ _ rfl push_new (by omega) (by simp) rfl (fun j v hj => by rw [Nat.zero_add]; simpa using hj)
        refine ⟨newP_of (con (Fr.push _ _) fun g6 p6 c6 o6 f6 i6 => ⟨_, _, _, rfl, done ((Fr.push _ _).tt f6) ((lit g4).frame f6 (fun _ _ => id)) (Nat.le_refl _) o6⟩), con (Fr.refl _ _) fun g5 p6 c6 o6 f6 i6 => ⟨_, _, _, rfl, newP_of (done (f6.tt (Fr.push _ _)) (lit g5) f6.1 (o6.frame (Fr.push (S := fun _ => False) _ _) (fun _ _ => id)))⟩, trivial⟩
    have bS : ∀ {S : Nat → Prop}, (∀ y, S y → g.size ≤ y) → ¬ S b ∧ ¬ S s := fun gS => ⟨fun e => by have := gS _ e; omega, fun e => by have := gS _ e; omega⟩
    have nn : σ.now < 18446744073709551616 ∧ σ.rf ≤ 1000000000 ∧ σ.tm < 18446744073709551616 ∧ σ.sq < 18446744073709551616 := by
      have := G.n; have := G.t; have := G.r; omega
    have tx : (str (textE σ.e)).data.toList = textE σ.e := rfl
    refine ⟨_, cell_at (B fg) rfl, _, cell_at (B fg) rfl, _, cell_at hbg rfl, _, cell_at hbg rfl, ?_, ?_, trivial⟩
    · refine Fld.new_ok fun h26 w S W6 f26 g26 => ⟨_, rfl, ?_⟩
      have F6 := fg.tt f26
      have hb6 := f26.get hbg id
      refine ⟨cell_at hb6 rfl, cell_at hb6 rfl, cell_at (B F6) rfl, cell_at (B F6) rfl, s2b fun p7 c7 h27 r7 ic f27 g27 => ⟨_, _, _, rfl, ?_⟩⟩
      have F7 := F6.tt f27
      have hb7 := f27.get hb6 id
      refine ⟨cell_at hb7 rfl, cell_at hb7 rfl, cell_at (B F7) rfl, cell_at (B F7) rfl, head_ok (W6.frame f27 (fun _ _ => id)) r7 (by rw [tx]; rfl) tl nn (fun y hy _ hs => by have := g27 y hy; have := W6.lt y hs; omega) (B F7) hb7 (bS g26).1 (bS g26).2 fun g2 S2 W2 st2 => W W2 ((f26.tt f27).fresh st2.fr g26) (fun y hy => (st2.new y hy).elim (g26 y) (fun q => by have := f26.1; have := f27.1; omega))⟩
    · refine s2b fun p7 c7 h26 r7 ic f26 g26 => ⟨_, _, _, rfl, ?_⟩
      have F6 := fg.tt f26
      have hb6 := f26.get hbg id
      refine ⟨cell_at hb6 rfl, cell_at hb6 rfl, cell_at (B F6) rfl, cell_at (B F6) rfl, Fld.new_ok fun h27 w S W7 f27 g27 => ⟨_, rfl, ?_⟩⟩
      have F7 := F6.tt f27
      have hb7 := f27.get hb6 id
      have g27' : ∀ y, S y → g.size ≤ y := fun y hy => Nat.le_trans f26.1 (g27 y hy)
      refine ⟨cell_at hb7 rfl, cell_at hb7 rfl, cell_at (B F7) rfl, cell_at (B F7) rfl, head_ok W7 (r7.frame f27 (fun _ _ => id)) (by rw [tx]; rfl) tl nn (fun y hy hne hs => by have := row_lt r7 (by rw [tx]; intro e; exact hne (by cases ht : textE σ.e with | nil => rfl | cons => rw [ht] at e; simp [bc] at e)) hy; have := g27 y hs; omega) (B F7) hb7 (bS g27').1 (bS g27').2 fun g2 S2 W2 st2 => W W2 ((f26.tt f27).fresh st2.fr g27') (fun y hy => (st2.new y hy).elim (g27' y) (fun q => by have := f26.1; have := f27.1; omega))⟩
  refine ⟨_, cell_at (B (Fr.refl _ _)) rfl, _, cell_at (B (Fr.refl _ _)) rfl, _, cell_at (B (Fr.refl _ _)) rfl, _, cell_at (B (Fr.refl _ _)) rfl, ?_, ?_, trivial⟩
  · refine s0 (Fr.refl _ _) fun g1 p1 l1 c1 L1 f1 => ⟨cell_at (B f1) rfl, cell_at (B f1) rfl, cell_at (B f1) rfl, ?_, ?_, trivial⟩
    · refine s1 f1 fun g2 p2 l2 c2 L2 f2 => ⟨cell_at (B (f1.tt f2)) rfl, cell_at (B (f1.tt f2)) rfl, ?_, ?_, trivial⟩
      · have F2 := f1.tt f2
        refine s2 F2 fun g3 p3 l3 c3 L3 f3 => ⟨cell_at (B (F2.tt f3)) rfl, ?_, ?_, trivial⟩
        · have F3 := F2.tt f3
          refine s3 F3 fun g4 p4 l4 c4 L4 f4 => a4_s_s_uint8.new fun b4 g5 eb hb5 f5 => ?_
          exact fin hb5 (L1.on (f2.tt (f3.tt (f4.tt f5)))) ((L2.mono f1.1).on (f3.tt (f4.tt f5))) ((L3.mono F2.1).on (f4.tt f5)) ((L4.mono F3.1).on f5) (F3.tt (f4.tt f5))
        · have F3 := F2.tt f3
          refine a4_s_s_uint8.box fun b4 g4 eb hb4 f4 => ⟨cell_at (B (F3.tt f4)) rfl, ?_⟩
          have F4 := F3.tt f4
          refine s3 F4 fun g5 p4 l4 c4 L4 f5 => a4_s_s_uint8.set (f5.get hb4 id) fun g6 hb6 z6 o6 => ?_
          have f6 : Fr (fun y => y = b4) g5 g6 := Fr.of_eq z6 o6
          have T3 : Fr No g3 g6 := (f4.tt f5).fresh f6 (fun y e => by omega)
          exact fin hb6 (L1.on (f2.tt (f3.tt T3))) ((L2.mono f1.1).on (f3.tt T3)) ((L3.mono F2.1).on T3) ((L4.frame f6 (fun y hy e => by have := lt_of_get hb4; omega)).mono F4.1) (F3.tt T3)
      · have F2 := f1.tt f2
        refine a4_s_s_uint8.box fun b4 g3 eb hb3 f3 => ⟨cell_at (B (F2.tt f3)) rfl, cell_at (B (F2.tt f3)) rfl, ?_⟩
        have F3 := F2.tt f3
        have lb := lt_of_get hb3
        refine s2 F3 fun g4 p3 l3 c3 L3 f4 => ⟨cell_at (B (F3.tt f4)) rfl, s3 (F3.tt f4) fun g5 p4 l4 c4 L4 f5 => a4_s_s_uint8.set ((f4.tt f5).get hb3 id) fun g6 hb6 z6 o6 => ?_⟩
        have F4 := F3.tt f4
        have f6 : Fr (fun y => y = b4) g5 g6 := Fr.of_eq z6 o6
        have z4 := f4.1
        have T2 : Fr No g2 g6 := (f3.tt (f4.tt f5)).fresh f6 (fun y e => by omega)
        exact fin hb6 (L1.on (f2.tt T2)) ((L2.mono f1.1).on T2) (((L3.on f5).frame f6 (fun y hy e => by omega)).mono F3.1) ((L4.frame f6 (fun y hy e => by omega)).mono F4.1) (F2.tt T2)
    · refine a4_s_s_uint8.box fun b4 g2 eb hb2 f2 => ⟨cell_at (B (f1.tt f2)) rfl, cell_at (B (f1.tt f2)) rfl, cell_at (B (f1.tt f2)) rfl, ?_⟩
      have F2 := f1.tt f2
      have lb := lt_of_get hb2
      refine s1 F2 fun g3 p2 l2 c2 L2 f3 => ⟨cell_at (B (F2.tt f3)) rfl, cell_at (B (F2.tt f3)) rfl, s2 (F2.tt f3) fun g4 p3 l3 c3 L3 f4 => ⟨cell_at (B (F2.tt (f3.tt f4))) rfl, s3 (F2.tt (f3.tt f4)) fun g5 p4 l4 c4 L4 f5 => a4_s_s_uint8.set ((f3.tt (f4.tt f5)).get hb2 id) fun g6 hb6 z6 o6 => ?_⟩⟩
      have F3 := F2.tt f3
      have F4 := F3.tt f4
      have f6 : Fr (fun y => y = b4) g5 g6 := Fr.of_eq z6 o6
      have z3 := f3.1
      have z4 := f4.1
      have T1 : Fr No g1 g6 := (f2.tt (f3.tt (f4.tt f5))).fresh f6 (fun y e => by omega)
      exact fin hb6 (L1.on T1) (((L2.on (f4.tt f5)).frame f6 (fun y hy e => by omega)).mono F2.1) (((L3.on f5).frame f6 (fun y hy e => by omega)).mono F3.1) ((L4.frame f6 (fun y hy e => by omega)).mono F4.1) (f1.tt T1)
  · refine a4_s_s_uint8.box fun b4 g1 eb hb1 f1 => ⟨cell_at (B f1) rfl, cell_at (B f1) rfl, cell_at (B f1) rfl, cell_at (B f1) rfl, ?_⟩
    have lb := lt_of_get hb1
    refine s0 f1 fun g2 p1 l1 c1 L1 f2 => ⟨cell_at (B (f1.tt f2)) rfl, cell_at (B (f1.tt f2)) rfl, cell_at (B (f1.tt f2)) rfl, s1 (f1.tt f2) fun g3 p2 l2 c2 L2 f3 => ⟨cell_at (B (f1.tt (f2.tt f3))) rfl, cell_at (B (f1.tt (f2.tt f3))) rfl, s2 (f1.tt (f2.tt f3)) fun g4 p3 l3 c3 L3 f4 => ⟨cell_at (B (f1.tt (f2.tt (f3.tt f4)))) rfl, s3 (f1.tt (f2.tt (f3.tt f4))) fun g5 p4 l4 c4 L4 f5 => a4_s_s_uint8.set ((f2.tt (f3.tt (f4.tt f5))).get hb1 id) fun g6 hb6 z6 o6 => ?_⟩⟩⟩
    have F2 := f1.tt f2
    have F3 := F2.tt f3
    have F4 := F3.tt f4
    have f6 : Fr (fun y => y = b4) g5 g6 := Fr.of_eq z6 o6
    have z2 := f2.1
    have z3 := f3.1
    have z4 := f4.1
    exact fin hb6 (((L1.on (f3.tt (f4.tt f5))).frame f6 (fun y hy e => by omega)).mono f1.1) (((L2.on (f4.tt f5)).frame f6 (fun y hy e => by omega)).mono F2.1) (((L3.on f5).frame f6 (fun y hy e => by omega)).mono F3.1) ((L4.frame f6 (fun y hy e => by omega)).mono F4.1) ((f1.tt (f2.tt (f3.tt (f4.tt f5)))).fresh f6 (fun y e => by omega))

end Stt
end
section
namespace Num
theorem Tab.of_laid {W : World} {l : List (String × DataW Unit)} {s : String} (hs : Tryz.prog.globalNamed s = some 0) (h : laidMet Tryz.prog l W) (hm : (s, Lib.tabData .u64 Lib.pow10Tab) ∈ l) : Tab W.heap := by
  obtain ⟨g, t, cs, fuel, p, hg, ht, hv, hd⟩ := Lib.laidMet.reads h hm
  have hg : Tryz.prog.globalNamed s = some g := hg
  unfold World.var? at hv
  rw [hg] at hv
  have hv' : (match W.heap[g]? with | some (.cells cs _ _) => some cs | _ => none) = some cs := hv
  cases hh : W.heap[g]? with
  | none => rw [hh] at hv'; cases hv'
  | some o =>
    rw [hh] at hv'
    cases o with
    | cells c ty fz =>
      obtain rfl : c = cs := Option.some.inj hv'
      have eg : g = 0 := Option.some.inj (hg.symm.trans hs)
      subst eg
      refine ⟨ty, fz, ?_⟩
      have htt : t = 317 := by
        have e : (Tryz.prog.globals[(0 : Nat)]?).map (·.type) = some 317 := by kernel_rfl
        exact Option.some.inj (ht.symm.trans e)
      subst htt
      have := Lib.cells_of_tab (n := 20) (e := 32) (by kernel_rfl) (by kernel_rfl) (by kernel_rfl) (by kernel_rfl) hd
      rw [hh, ← this]
    | _ => cases hv'

end Num
end
end Go.Proofs.YtmoafceggjgecaaGreatDoor
