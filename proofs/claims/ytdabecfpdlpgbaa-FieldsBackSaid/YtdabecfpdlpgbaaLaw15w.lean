/-
  What is proved here: the law FieldsWrite on heaps ('fieldsWrite_ok'). No condition.
-/
import Derived.Test.YtdabecfpdlpgbaaLaw15
namespace Go.Proofs.Ytdabecfpdlpgbaa
open Go.Den Go.Fields
namespace Fld
variable {h h0 : Heap} {w r z : Nat} {S : Nat → Prop} {bs : List UInt8} {e : Int} {R : Value → Heap → Prop}

/-! ### a law's fields -/
structure FV where
  kind : Int
  n : Nat
  i : Int
  is : Bool
  p : Option Addr
  c : Nat
  b : List UInt8
def FV.enc (f : FV) : List Value := [.int .i64 f.kind, .int .u64 (f.n : Int), .int .i64 f.i, .bool f.is, .slice f.p f.b.length f.c]
structure FV.ok (h : Heap) (f : FV) : Prop where
  n : f.n < 18446744073709551616
  i : f.i ≤ 9223372036854775807
  row : Row h f.p (bc f.b)
theorem Rok.bytes {P : Program} {h : Heap} {t e : TypeId} {n : Nat} {v : Value} (he : P.cellsOf e = 1) (hk : P.underlying e = some (.int .u8)) (ht : P.underlying t = some (.slice e)) (hr : Rok P h n t [v]) : ∃ p c bs, v = .slice p (bs : List UInt8).length c ∧ Row h p (bc bs) := by
  have : ∃ p l c, v = .slice p l c := by
    cases n with
    | zero => exact hr.elim
    | succ n =>
      unfold Rok at hr
      rw [ht] at hr
      rcases hr with hc | ⟨a, l, c, hc, _⟩
      · simp at hc; exact ⟨_, _, _, hc⟩
      · simp at hc; exact ⟨_, _, _, hc⟩
  obtain ⟨p, l, c, rfl⟩ := this
  obtain ⟨bs, hl, hrow⟩ := RokV.bytes he hk ht ⟨n, hr⟩
  subst hl
  exact ⟨p, c, bs, rfl, hrow⟩
theorem fv_tl : tleaves Try.prog 5 T.law15_Field = some [T.int, T.uint64, T.int, T.bool, T.s_uint8] := by kernel_rfl
theorem fv_dec (n : Nat) (cs : List Value) (hl : cs.length = 5) (hr : Rok Try.prog h n T.law15_Field cs) : ∃ f : FV, cs = f.enc ∧ f.ok h := by
  have L := tleaves_ok 5 n _ _ cs fv_tl (by rw [hl]; rfl) hr
  match cs, hl with
  | [a, b, c, d, s], _ =>
    obtain ⟨k, rfl, _⟩ := L.int 0 rfl rfl (k := .i64) (by kernel_rfl)
    obtain ⟨x, rfl, w1⟩ := L.int 1 rfl rfl (k := .u64) (by kernel_rfl)
    obtain ⟨y, rfl, w2⟩ := L.int 2 rfl rfl (k := .i64) (by kernel_rfl)
    obtain ⟨t, rfl⟩ := L.bool 3 rfl rfl (by kernel_rfl)
    obtain ⟨m, hm⟩ := L.get 4 rfl rfl
    obtain ⟨p, q, bs, rfl, hrow⟩ := Rok.bytes (by kernel_rfl) u8 uU hm
    have w1 := wf_u64 w1
    obtain ⟨x, rfl⟩ := Int.eq_ofNat_of_zero_le w1.1
    exact ⟨⟨k, x, y, t, p, q, bs⟩, rfl, by show x < _; omega, (wf_i64 w2).2, hrow⟩
theorem fvs_read {p : Option Addr} {l c : Nat} (hv : RokV Try.prog h T.s_law15_Field (.slice p l c)) : ∃ fs : List FV, fs.length = l ∧ Row h p (fs.flatMap FV.enc) ∧ ∀ f ∈ fs, f.ok h := by
  obtain ⟨xs, h1, _, _, h2, h3⟩ := RokV.slice (e := T.law15_Field) FV.enc 5 (FV.ok h) (by kernel_rfl) (fun _ => rfl) (fun n cs hl hr => fv_dec n cs hl hr) (by kernel_rfl) hv
  exact ⟨xs, h1, h2, h3⟩
theorem fv_at {p : Option Addr} {fs : List FV} (hr : Row h p (fs.flatMap FV.enc)) {k : Nat} {f : FV} (hf : fs[k]? = some f) :
    ∃ a, p = some a ∧ hcell h (a.add (k * 5)) = some (.int .i64 f.kind) ∧ hcell h ((a.add (k * 5)).add 1) = some (.int .u64 (f.n : Int)) ∧ hcell h ((a.add (k * 5)).add 2) = some (.int .i64 f.i) ∧ hcell h ((a.add (k * 5)).add 3) = some (.bool f.is) ∧
      hcell h ((a.add (k * 5)).add 4) = some (.slice f.p f.b.length f.c) := by
  have at_ : ∀ (j : Nat) (v : Value), f.enc[j]? = some v → (fs.flatMap FV.enc)[k * 5 + j]? = some v := fun j v hj => flat_at FV.enc 5 (fun _ => rfl) fs k f hf j v hj
  obtain ⟨a, rfl⟩ := hr.some (fun e => by have := at_ 0 _ rfl; rw [e] at this; cases this)
  refine ⟨a, rfl, hr.cell (at_ 0 _ rfl), ?_, ?_, ?_, ?_⟩ <;> rw [add_add]
  · exact hr.cell (at_ 1 _ rfl)
  · exact hr.cell (at_ 2 _ rfl)
  · exact hr.cell (at_ 3 _ rfl)
  · exact hr.cell (at_ 4 _ rfl)
/-- a field in a variable -/
def FVat (h : Heap) (b : Nat) (f : FV) : Prop := h[b]? = some (.cells #[.int .i64 f.kind, .int .u64 (f.n : Int), .int .i64 f.i, .bool f.is, .slice f.p f.b.length f.c] T.law15_Field (0, 0))
theorem new_fv {f : FV} {K : Nat → Heap → Prop} (hk : ∀ b h', b = h.size → FVat h' b f → Fr (fun _ => False) h h' → K b h') :
    NewP h (.cells #[.int .i64 0, .int .u64 0, .int .i64 0, .bool false, .slice none 0 0] T.law15_Field) fun b h_5 =>
      StoreP h_5 ⟨b, 0, none⟩ (.int .i64 f.kind) fun h_6 =>
      StoreP h_6 ⟨b, 1, none⟩ (.int .u64 (f.n : Int)) fun h_7 =>
      StoreP h_7 ⟨b, 2, none⟩ (.int .i64 f.i) fun h_8 =>
      StoreP h_8 ⟨b, 3, none⟩ (.bool f.is) fun h_9 =>
      StoreP h_9 ⟨b, 4, none⟩ (.slice f.p f.b.length f.c) fun h_10 => K b h_10 :=
  newP_of (storeP_push (by simp) (storeP_push (by simp) (storeP_push (by simp) (storeP_push (by simp) (storeP_push (by simp) (hk _ _ rfl push_new (Fr.push _ _)))))))
theorem eqW (a : Addr) : EqV Try.prog T.p_fields_Writer (.pointer (some a)) (.pointer (some a)) true := EqV.self (e := T.fields_Writer) (by kernel_rfl) (by kernel_rfl) a

/-! ### the state of the law -/
structure WS (h0 h : Heap) (w z : Nat) (S : Nat → Prop) (q : Option Addr) (l c : Nat) (d d2 : List UInt8) : Prop where
  wr : Wr h w S d
  own : Own h q l c 1 (bc d2)
  len : l = d2.length
  zer : WrZ h z
  up : Fr (fun _ => False) h0 h
  geS : ∀ x, S x → h0.size ≤ x
  geq : ∀ x, inBlk q x → h0.size ≤ x
  gez : h0.size ≤ z
  ap : ∀ x, S x → ¬ inBlk q x
  zS : ¬ S z
  zq : ¬ inBlk q z
variable {q : Option Addr} {l c : Nat} {d d2 : List UInt8}
theorem WS.on {h' : Heap} (H : WS h0 h w z S q l c d d2) (f : Fr (fun _ => False) h h') : WS h0 h' w z S q l c d d2 :=
  ⟨H.wr.frame f (fun _ _ => id), H.own.frame f (fun _ _ => id), H.len, f.get H.zer id, H.up.tt f, H.geS, H.geq, H.gez, H.ap, H.zS, H.zq⟩
theorem WS.put {h' : Heap} {S' : Nat → Prop} {d' : List UInt8} (H : WS h0 h w z S q l c d d2) (W : Wr h' w S' d') (st : Step S h S' h') : WS h0 h' w z S' q l c d' d2 := by
  have hz := lt_of_get H.zer
  have u := (⟨H.up, H.geS⟩ : Up h0 S h).step st
  refine ⟨W, H.own.frame st.fr (fun x hx hs => H.ap x hs hx), H.len, st.fr.get H.zer H.zS, u.fr, u.ge, H.geq, H.gez, st.apart H.ap (fun x hx => H.own.blk_lt hx), fun hx => ?_, H.zq⟩
  exact st.apart (Q := fun x => x = z) (fun x hx e => H.zS (e ▸ hx)) (fun x e => e ▸ hz) z hx rfl
theorem WS.app {h' : Heap} {q' : Option Addr} {l' c' : Nat} {x : List UInt8} (H : WS h0 h w z S q l c d d2) (o : Own h' q' l' c' 1 (bc d2 ++ bc x)) (hl : l' = l + x.length) (f : Fr (inBlk q) h h') (g : ∀ c, inBlk q' c → inBlk q c ∨ h.size ≤ c) : WS h0 h' w z S q' l' c' d (d2 ++ x) := by
  have hz := lt_of_get H.zer
  have st : Step (inBlk q) h (inBlk q') h' := ⟨f, g⟩
  have u := (⟨H.up, H.geq⟩ : Up h0 (inBlk q) h).step st
  have a1 := st.apart (Q := S) (fun x hq hs => H.ap x hs hq) H.wr.lt
  refine ⟨H.wr.frame f H.ap, by rw [bc_append]; exact o, by rw [hl, H.len, List.length_append], f.get H.zer H.zq, u.fr, H.geS, u.ge, H.gez, fun x hs hq => a1 x hq hs, H.zS, fun hx => ?_⟩
  exact st.apart (Q := fun x => x = z) (fun x hx e => H.zq (e ▸ hx)) (fun x e => e ▸ hz) z hx rfl
/-- 'want = append(want, x...)' -/
theorem WS.want {p : Option Addr} {n m : Nat} {x : List UInt8} {K : Value → Heap → Prop} (H : WS h0 h w z S q l c d d2) (hr : Row h p (bc x)) (hn : n = x.length) (hb : l + n ≤ 1099511627776)
    (hk : ∀ h' q' l' c', WS h0 h' w z S q' l' c' d (d2 ++ x) → K (.slice q' l' c') h') : denSem Try.prog (Builtin.append_ #[T.s_uint8, T.s_uint8] T.s_uint8 #[.slice q l c, .slice p n m]) h K := by
  refine den_append tU uU H.own hr (by rw [bc_len, Nat.mul_one, hn]) (bc_one x) (by omega) (by omega) ?_
  intro p' c' h' o1 _ f2 g
  exact hk h' p' _ c' (H.app o1 (by rw [hn]) f2 g)

/-- what a field's bytes are -/
def encF (f : FV) : List UInt8 :=
  if f.kind = 0 then encNum f.n else if f.kind = 1 then encNum (natOf f.i) else if f.kind = 2 then encNum (bit f.is) else if f.kind = 3 then encText f.b else []
theorem encF_len {f : FV} (hb : f.b.length ≤ 300) : (encF f).length ≤ 310 := by
  unfold encF
  have a1 := (encNum_len f.n).2
  have a2 := (encNum_len (natOf f.i)).2
  have a3 := (encNum_len (bit f.is)).2
  have a4 := (encNum_len f.b.length).2
  split
  · omega
  split
  · omega
  split
  · omega
  split
  · unfold encText; rw [List.length_append]; omega
  · simp

def writeI (h0 : Heap) (w z : Nat) (n : Nat) (q : Option Addr) (l c : Nat) (i : Int) (h : Heap) : Prop :=
  ∃ (k : Nat) (S : Nat → Prop) (d : List UInt8), i = (k : Int) ∧ k ≤ n ∧ k ≤ 60 ∧ d.length ≤ 310 * k ∧ WS h0 h w z S q l c d d

theorem _root_.Go.Proofs.Ytdabecfpdlpgbaa.fieldsWrite_ok (lp : Option Addr) (ll lc : Nat) (hv : RokV Try.prog h T.s_law15_Field (.slice lp ll lc)) : LawH Try.prog F.law15_FieldsWrite #[.slice lp ll lc] h := by
  obtain ⟨fs, rfl, hrow, hok⟩ := fvs_read hv
  clear hv
  unfold LawH
  generalize hR : (fun (v : Value) h' => v = .bool true ∧ Fr (fun _ => False) h h') = R
  have hk : ∀ h', Fr (fun _ => False) h h' → R (.bool true) h' := fun h' hf => by rw [← hR]; exact ⟨rfl, hf⟩
  clear hR
  refine law15_FieldsWrite.walk (new_ok fun h1 w S1 H1 f1 g1 => ⟨_, rfl, newP_of ?_⟩)
  simp only [Option.isNone_some, Bool.false_eq_true, if_false]
  have fz := f1.tt (Fr.push h1 (.cells #[.bool false, .slice none 0 0] T.fields_Writer))
  have z1 : ¬ S1 h1.size := fun hx => by have := H1.lt _ hx; omega
  have W1 : WS h (h1.push (.cells #[.bool false, .slice none 0 0] T.fields_Writer)) w h1.size S1 none 0 0 [] [] :=
    ⟨H1.frame (Fr.push (S := fun _ => False) _ _) (fun _ _ => id), .nil rfl rfl rfl rfl, rfl, push_new, fz, g1, (fun x ⟨a, e, _⟩ => by cases e), f1.1, (fun x _ ⟨a, e, _⟩ => by cases e), z1, fun ⟨a, e, _⟩ => by cases e⟩
  generalize h1.size = z at *
  refine ⟨writeI h w z fs.length, fun _ _ _ i _ => 60 - i.toNat, ⟨0, S1, [], rfl, by omega, by omega, by simp, W1⟩, ?_⟩
  clear W1 fz z1 f1 g1 H1
  rintro q l c i h3 ⟨k, S, d, rfl, hkn, hk60, hd, W⟩
  refine JoinP.of fun J hJ => ?_
  by_cases hlast : k < fs.length ∧ k < 60
  · have q1 : (k : Int) < (fs.length : Int) := by omega
    have q2 : (k : Int) < 60 := by omega
    simp only [q1, q2, decide_true, if_true]
    subst hJ
    simp only [if_true, Int.toNat_natCast]
    obtain ⟨f, hf⟩ : ∃ f, fs[k]? = some f := ⟨fs[k], List.getElem?_eq_getElem hlast.1⟩
    have ok := hok f (List.mem_of_getElem? hf)
    obtain ⟨a, rfl, c0, c1, c2, c3, c4⟩ := fv_at (hrow.frame W.up (fun _ _ => id)) hf
    refine ⟨⟨by omega, by omega⟩, onSome_some.2 ⟨_, c0, _, c1, _, c2, _, c3, _, _, _, c4, ?_⟩⟩
    refine new_fv fun b h10 hb bat f10 => ?_
    have W10 := W.on f10
    have rowb : Row h10 f.p (bc f.b) := ok.row.frame W10.up (fun _ _ => id)
    refine ⟨_, _, _, cell_at bat rfl, ?_⟩
    by_cases hlong : f.b.length > 300
    · have : ((f.b.length : Nat) : Int) > 300 := by omega
      simp only [this, decide_true, if_true]
      exact alive_ok fun h11 f11 => ⟨_, rfl, hk h11 (W10.up.tt f11)⟩
    have : ¬ ((f.b.length : Nat) : Int) > 300 := by omega
    simp only [this, decide_false, Bool.false_eq_true, if_false]
    refine ⟨_, cell_at bat rfl, ?_⟩
    refine JoinP.of fun J1 hJ1 => ?_
    have el := encF_len (f := f) (by omega)
    have fin : ∀ S' q' l' c' h', WS h h' w z S' q' l' c' (d ++ encF f) (d ++ encF f) → J1 q' l' c' true h' := by
      intro S' q' l' c' h' W'
      subst hJ1
      simp only [Bool.not_true, Bool.false_eq_true, if_false]
      rw [wrap_id (by omega) (by omega)]
      refine ⟨⟨k + 1, S', d ++ encF f, by omega, by omega, by omega, by rw [List.length_append]; omega, W'⟩, ?_⟩
      show 60 - Int.toNat ((k : Int) + 1) < 60 - Int.toNat (k : Int)
      omega
    clear hJ1
    have nS : ¬ S b := fun hx => by have := W.wr.lt b hx; omega
    have ndl : d.length ≤ 1099511627776 := by omega
    have hll := W.len
    refine JoinP.of fun J2 hJ2 => ?_
    subst hJ2
    unfold encF at fin
    by_cases e0 : f.kind = 0
    · simp only [e0, beq_self_eq_true, if_true] at fin ⊢
      refine JoinP.of fun J3 hJ3 => ⟨_, cell_at bat rfl, ?_⟩
      refine num_ok f.n W10.wr ndl rfl ok.n fun h17 S17 H17 st17 => ⟨_, rfl, true, eqW _, ?_⟩
      have b17 := st17.fr.get bat nS
      have W17 := W10.put H17 st17
      simp only [if_true]
      refine ⟨_, cell_at b17 rfl, num_nil ⟨_, rfl, ?_⟩⟩
      subst hJ3
      refine ⟨_, cell_at b17 rfl, refNum_ok f.n rfl ok.n fun p15 m15 h15 o15 u15 => ⟨_, _, _, rfl, ?_⟩⟩
      have := (encNum_len f.n).2
      exact (W17.on u15.fr).want o15.row' rfl (by omega) fun h16 q' l' c' W16 => ⟨_, _, _, rfl, fin _ _ _ _ _ W16⟩
    have e0' : (f.kind == 0) = false := by simpa using e0
    simp only [e0', Bool.false_eq_true, if_false]
    simp only [e0, if_false] at fin
    refine JoinP.of fun J2 hJ2 => ?_
    subst hJ2
    by_cases e1 : f.kind = 1
    · simp only [e1, beq_self_eq_true, if_true] at fin ⊢
      refine JoinP.of fun J3 hJ3 => ⟨_, cell_at bat rfl, ?_⟩
      refine int_ok W10.wr ndl ok.i fun h17 S17 H17 st17 => ⟨_, rfl, true, eqW _, ?_⟩
      have b17 := st17.fr.get bat nS
      have W17 := W10.put H17 st17
      simp only [if_true]
      refine ⟨_, cell_at b17 rfl, int_nil ⟨_, rfl, ?_⟩⟩
      subst hJ3
      refine ⟨_, cell_at b17 rfl, JoinP.of fun J4 hJ4 => ?_⟩
      have := (encNum_len (natOf f.i)).2
      have nS17 : ¬ S17 b := fun hx => st17.apart (Q := fun x => x = b) (fun x hx e => nS (e ▸ hx)) (fun x e => by rw [e]; exact lt_of_get bat) b hx rfl
      have nq : ¬ inBlk q b := fun hx => by have := W.own.blk_lt hx; omega
      have nz : z ≠ b := fun e => by have := lt_of_get W.zer; omega
      by_cases hneg : f.i < 0
      · simp only [hneg, decide_true, if_true]
        refine storeP_blk b17 (by simp) fun h24 k1 k2 k3 => ?_
        have f24 : Fr (fun x => x = b) h17 h24 := Fr.of_eq k2 k3
        have W24 : WS h h24 w z S17 q l c (d ++ encNum (natOf f.i)) d :=
          ⟨W17.wr.frame f24 (fun x hx e => nS17 (e ▸ hx)), W17.own.frame f24 (fun x hx e => nq (e ▸ hx)), W17.len, f24.get W17.zer nz, W17.up.step f24 (fun x hx e => by have := W.up.1; omega), W17.geS, W17.geq, W17.gez, W17.ap, W17.zS, W17.zq⟩
        subst hJ4
        have en : natOf f.i = 0 := by unfold natOf; omega
        refine ⟨_, cell_at k1 rfl, refNum_ok (natOf f.i) (by rw [en, wrap_u64 (by omega) (by omega)]; rfl) (by unfold natOf; have := ok.i; omega) fun p15 m15 h15 o15 u15 => ⟨_, _, _, rfl, ?_⟩⟩
        exact (W24.on u15.fr).want o15.row' rfl (by omega) fun h16 q' l' c' W16 => ⟨_, _, _, rfl, fin _ _ _ _ _ W16⟩
      · simp only [hneg, decide_false, Bool.false_eq_true, if_false]
        subst hJ4
        have oki := ok.i
        refine ⟨_, cell_at b17 rfl, refNum_ok (natOf f.i) (by unfold natOf; rw [wrap_u64 (by omega) (by omega)]; omega) (by unfold natOf; omega) fun p15 m15 h15 o15 u15 => ⟨_, _, _, rfl, ?_⟩⟩
        exact (W17.on u15.fr).want o15.row' rfl (by omega) fun h16 q' l' c' W16 => ⟨_, _, _, rfl, fin _ _ _ _ _ W16⟩
    have e1' : (f.kind == 1) = false := by simpa using e1
    simp only [e1', Bool.false_eq_true, if_false]
    simp only [e1, if_false] at fin
    refine JoinP.of fun J2 hJ2 => ?_
    subst hJ2
    by_cases e2 : f.kind = 2
    · simp only [e2, beq_self_eq_true, if_true] at fin ⊢
      refine JoinP.of fun J3 hJ3 => ⟨_, cell_at bat rfl, ?_⟩
      refine bool_ok W10.wr ndl fun h17 S17 H17 st17 => ⟨_, rfl, true, eqW _, ?_⟩
      have b17 := st17.fr.get bat nS
      have W17 := W10.put H17 st17
      simp only [if_true]
      refine ⟨_, cell_at b17 rfl, bool_nil ⟨_, rfl, ?_⟩⟩
      subst hJ3
      refine ⟨_, cell_at b17 rfl, JoinP.of fun J4 hJ4 => ?_⟩
      have := (encNum_len (bit f.is)).2
      have go : J4 ((bit f.is : Nat) : Int) h17 := by
        subst hJ4
        refine refNum_ok (bit f.is) rfl (by unfold bit; split <;> omega) fun p15 m15 h15 o15 u15 => ⟨_, _, _, rfl, ?_⟩
        exact (W17.on u15.fr).want o15.row' rfl (by omega) fun h16 q' l' c' W16 => ⟨_, _, _, rfl, fin _ _ _ _ _ W16⟩
      cases hq : f.is
      · simp only [Bool.false_eq_true, if_false]; rw [hq] at go; exact go
      · simp only [if_true]; rw [hq] at go; exact go
    have e2' : (f.kind == 2) = false := by simpa using e2
    simp only [e2', Bool.false_eq_true, if_false]
    simp only [e2, if_false] at fin
    refine JoinP.of fun J2 hJ2 => ?_
    subst hJ2
    by_cases e3 : f.kind = 3
    · simp only [e3, beq_self_eq_true, if_true] at fin ⊢
      refine JoinP.of fun J3 hJ3 => ⟨_, _, _, cell_at bat rfl, ?_⟩
      have ht : f.b.length ≤ 1099511627776 := by omega
      have ffar : ∀ x, inBlk f.p x → f.b ≠ [] → x < h.size := fun x ⟨ad, e, e2⟩ hne => by
        have := ok.row
        rcases this with hh | ⟨ad', e', hh⟩
        · cases hb : f.b with
          | nil => exact absurd hb hne
          | cons y ys => rw [hb] at hh; cases hh
        · rw [e] at e'; cases e'
          cases hb : f.b with
          | nil => exact absurd hb hne
          | cons y ys =>
            rw [hb] at hh
            obtain ⟨cc, tt, ff, hbb, _⟩ := hcell_some hh.1
            have := lt_of_get hbb
            rw [show (ad.add 0).block = ad.block by unfold Addr.add; split <;> rfl] at this
            omega
      refine text_ok' W10.wr ndl rowb rfl ht ?_ fun h17 S17 H17 st17 => ⟨_, rfl, true, eqW _, ?_⟩
      · intro x hx hne hs
        have := ffar x hx hne
        have := W.geS x hs
        omega
      have b17 := st17.fr.get bat nS
      have W17 := W10.put H17 st17
      have row17 : Row h17 f.p (bc f.b) := ok.row.frame W17.up (fun _ _ => id)
      simp only [if_true]
      refine ⟨_, _, _, cell_at b17 rfl, text_nil ⟨_, rfl, ?_⟩⟩
      subst hJ3
      refine ⟨_, _, _, cell_at b17 rfl, text_zero W17.zer ⟨_, rfl, ?_⟩⟩
      refine ⟨_, _, _, cell_at b17 rfl, refText_ok row17 rfl ht fun p15 m15 h15 o15 u15 => ⟨_, _, _, rfl, ?_⟩⟩
      have := (encNum_len f.b.length).2
      exact (W17.on u15.fr).want o15.row' rfl (by unfold encText; rw [List.length_append]; omega) fun h16 q' l' c' W16 => ⟨_, _, _, rfl, fin _ _ _ _ _ W16⟩
    have e3' : (f.kind == 3) = false := by simpa using e3
    simp only [e3', Bool.false_eq_true, if_false]
    simp only [e3, if_false, List.append_nil] at fin
    exact fin _ _ _ _ _ W10
  · have fin : J false h3 := by
      subst hJ
      simp only [Bool.false_eq_true, if_false]
      refine alive_ok fun h41 f41 => ⟨_, rfl, ?_⟩
      simp only [if_true]
      have W41 := W.on f41
      refine ⟨str d, conv W41.own.row' W41.len, bytes_ok W41.wr (by omega) fun p42 c42 h42 o42 f42 g42 => ⟨_, _, _, rfl, ?_⟩⟩
      have W42 := W41.on f42
      refine ⟨conv W42.own.row' W42.len, str d, conv o42.row' rfl, ?_⟩
      rw [if_pos (by simp)]
      refine bytes_nil ⟨_, _, _, rfl, conv o42.row' rfl, conv W42.own.row' W42.len, bytes_zero W42.zer fun h46 f46 => ⟨_, _, _, rfl, conv (o42.frame f46 (fun _ _ => id)).row' rfl, conv (W42.own.frame f46 (fun _ _ => id)).row' W42.len, ?_⟩⟩
      exact hk h46 (W42.up.tt f46)
    by_cases q1 : (k : Int) < (fs.length : Int)
    · have q2 : ¬ (k : Int) < 60 := by omega
      simp only [q1, q2, decide_true, decide_false, if_true]
      exact fin
    · simp only [q1, decide_false, Bool.false_eq_true, if_false]
      exact fin
end Fld
end Go.Proofs.Ytdabecfpdlpgbaa
