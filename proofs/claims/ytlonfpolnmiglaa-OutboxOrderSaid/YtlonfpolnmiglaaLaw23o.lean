/-
  What is proved here: the law OutboxOrder on heaps ('outboxOrder_ok'). No condition.
-/
import Derived.Test.YtlonfpolnmiglaaLaw23
set_option maxRecDepth 100000
namespace Go.Proofs.Ytlonfpolnmiglaa
open Go.Den Go.Fields Go.Heapq
namespace Obx
open Fld
variable {h h' h0 : Heap} {b : Nat} {X : Ft} {R : Value → Heap → Prop} {p q : Option Addr} {c d i : Nat} {L : List E} {s : BS}

/-! ### plain -/
def oit (ds : List BV) (i : Nat) : It := ⟨i + 1, 5, (ds[i]?.map BV.b).getD [], 100 * i⟩
theorem ord_add (ds : List BV) {k : Nat} (hk : k < 16) (h1 : 1 ≤ ((ds[k]?.map BV.b).getD []).length) (h2 : ((ds[k]?.map BV.b).getD []).length ≤ 300) :
    addE ⟨(List.range k).map (oit ds), k + 1, 0, 0, 0⟩ 5 ((ds[k]?.map BV.b).getD []) (100 * k) = 0 ∧ addN ⟨(List.range k).map (oit ds), k + 1, 0, 0, 0⟩ 5 ((ds[k]?.map BV.b).getD []) (100 * k) = (k : Int) + 1 ∧
      addS ⟨(List.range k).map (oit ds), k + 1, 0, 0, 0⟩ 5 ((ds[k]?.map BV.b).getD []) (100 * k) = ⟨(List.range (k + 1)).map (oit ds), k + 1 + 1, 0, 0, 0⟩ := by
  have e : addE ⟨(List.range k).map (oit ds), k + 1, 0, 0, 0⟩ 5 ((ds[k]?.map BV.b).getD []) (100 * k) = 0 := by
    unfold addE
    rw [if_pos (rightB_iff.2 ⟨by omega, by omega, h1, by omega, by omega⟩), if_neg (by simp; omega)]
  refine ⟨e, ?_, ?_⟩
  · unfold addN; rw [if_pos e]; simp
  · unfold addS; rw [if_pos e, List.range_succ, List.map_append]; rfl
/-- of so many the first m have come -/
theorem ord_filter (ds : List BV) (n now : Nat) : ∃ m, m ≤ n ∧ ((List.range n).map (oit ds)).filter (fun x => decide ((x.till : Int) ≤ (now : Int))) = (List.range m).map (oit ds) ∧
    ((List.range n).map (oit ds)).filter (fun x => decide ((now : Int) < (x.till : Int))) = (List.range' m (n - m)).map (oit ds) ∧ (∀ i, i < m → 100 * i ≤ now) ∧ ∀ i, m ≤ i → i < n → now < 100 * i := by
  induction n with
  | zero => exact ⟨0, by omega, rfl, rfl, by omega, by omega⟩
  | succ n ih =>
    obtain ⟨m, hm, h1, h2, h3, h4⟩ := ih
    rw [List.range_succ, List.map_append, List.filter_append, List.filter_append]
    by_cases hn : 100 * n ≤ now
    · have d1 : decide (((oit ds n).till : Int) ≤ (now : Int)) = true := decide_eq_true (by show ((100 * n : Nat) : Int) ≤ _; omega)
      have d2 : decide ((now : Int) < ((oit ds n).till : Int)) = false := decide_eq_false (by show ¬ _ < ((100 * n : Nat) : Int); omega)
      -- all have come
      have hmn : m = n := by
        apply Nat.le_antisymm hm
        apply Nat.le_of_not_lt
        intro hlt
        have := h4 m (Nat.le_refl _) hlt
        omega
      subst hmn
      refine ⟨m + 1, by omega, ?_, ?_, fun i hi => by omega, fun i h5 h6 => by omega⟩
      · rw [h1, List.range_succ, List.map_append]
        congr 1
        rw [List.map_singleton, List.filter_cons, d1]; rfl
      · rw [h2, List.map_singleton, List.filter_cons, d2]
        simp
    · have d1 : decide (((oit ds n).till : Int) ≤ (now : Int)) = false := decide_eq_false (by show ¬ ((100 * n : Nat) : Int) ≤ _; omega)
      have d2 : decide ((now : Int) < ((oit ds n).till : Int)) = true := decide_eq_true (by show _ < ((100 * n : Nat) : Int); omega)
      refine ⟨m, by omega, ?_, ?_, h3, fun i h5 h6 => ?_⟩
      · rw [h1, List.map_singleton, List.filter_cons, d1]; simp
      · rw [h2, List.map_singleton, List.filter_cons, d2, if_pos rfl]
        rw [show n + 1 - m = (n - m) + 1 by omega, List.range'_concat, List.map_append]
        congr 1
        simp
        rw [show m + (n - m) = n by omega]
      · by_cases q : i = n
        · subst q; omega
        · exact h4 i h5 (by omega)
theorem ord_sorted (ds : List BV) (m : Nat) : Sorted (((List.range m).map (oit ds)).map It.kv) := by
  unfold Sorted
  rw [List.pairwise_map, List.pairwise_map]
  refine List.Pairwise.imp ?_ List.pairwise_lt_range
  intro a b hab
  left
  show ((oit ds a).till : Int) < ((oit ds b).till : Int)
  unfold oit
  dsimp only
  omega
theorem ord_del (ds : List BV) {left : List Nat} {i n : Nat} (hl : ∀ x ∈ left, x < i) (hi : i < n) : delI ((left ++ List.range' i (n - i)).map (oit ds)) ((i : Int) + 1) = (left ++ List.range' (i + 1) (n - (i + 1))).map (oit ds) := by
  unfold delI
  rw [List.filter_map]
  congr 1
  rw [List.filter_append]
  congr 1
  · rw [List.filter_eq_self]
    intro x hx
    have := hl x hx
    show (!decide (((x + 1 : Nat) : Int) = (i : Int) + 1)) = true
    have : ¬ ((x + 1 : Nat) : Int) = (i : Int) + 1 := by omega
    simp only [this, decide_false, Bool.not_false]
  · rw [show n - i = (n - (i + 1)) + 1 by omega, List.range'_succ, List.filter_cons, if_neg (by simp [oit]), List.filter_eq_self]
    intro x hx
    rw [List.mem_range'_1] at hx
    show (!decide (((x + 1 : Nat) : Int) = (i : Int) + 1)) = true
    have : ¬ ((x + 1 : Nat) : Int) = (i : Int) + 1 := by omega
    simp only [this, decide_false, Bool.not_false]
theorem ord_canc (ds : List BV) {left : List Nat} {i n nx tk cn ov : Nat} (hi : i < n) : cancE ⟨(left ++ List.range' i (n - i)).map (oit ds), nx, tk, cn, ov⟩ ((i : Int) + 1) 5 = 0 := by
  unfold cancE
  cases hidx : idxI (⟨(left ++ List.range' i (n - i)).map (oit ds), nx, tk, cn, ov⟩ : BS).items ((i : Int) + 1) with
  | none =>
    exfalso
    have := idx_none hidx (oit ds i) (List.mem_map_of_mem (List.mem_append_right _ (by rw [List.mem_range'_1]; omega)))
    unfold oit at this
    dsimp only at this
    omega
  | some j =>
    obtain ⟨x, hx, _⟩ := idx_some hidx
    dsimp only at hx ⊢
    rw [hx]
    dsimp only
    rw [List.getElem?_map] at hx
    cases hy : (left ++ List.range' i (n - i))[j]? with
    | none => rw [hy] at hx; cases hx
    | some y => rw [hy] at hx; have := Option.some.inj hx; subst this; rfl

structure OS (h0 h : Heap) (b : Nat) (X : Ft) (s : BS) (lp : Option Addr) (ll lc : Nat) (left : List Nat) : Prop where
  box : Box h b X s
  up : UpF h0 X h
  own : Own h lp ll lc 1 (left.map fun (x : Nat) => .int .i64 (x : Int))
  len : ll = left.length
  ap : ∀ y, inBlk lp y → h0.size ≤ y ∧ ¬ (X.M y ∨ X.D y)
variable {lp : Option Addr} {ll lc : Nat} {left : List Nat}
theorem OS.on (H : OS h0 h b X s lp ll lc left) (f : Fr (fun _ => False) h h') : OS h0 h' b X s lp ll lc left := ⟨H.box.on f, H.up.on f, H.own.frame f (fun _ _ => id), H.len, H.ap⟩
theorem OS.step {X' : Ft} {s' : BS} (H : OS h0 h b X s lp ll lc left) (B : Box h' b X' s') (st : StepF X h X' h') : OS h0 h' b X' s' lp ll lc left :=
  ⟨B, H.up.step st, H.own.frame st.fr (fun y hy hm => (H.ap y hy).2 (.inl hm)), H.len, fun y hy => ⟨(H.ap y hy).1, fun hx => st.apart (Q := inBlk lp) (fun z hz hq => (H.ap z hq).2 hz) (fun z hq => H.own.blk_lt hq) y hx hy⟩⟩
theorem uSI : Try.prog.underlying T.s_int = some (.slice T.int) := by kernel_rfl

theorem _root_.Go.Proofs.Ytlonfpolnmiglaa.outboxOrder_ok (dp : Option Addr) (dl dc : Nat) (gp : Option Addr) (gl gc : Nat) (now : Int) (hd : RokV Try.prog h T.s_s_uint8 (.slice dp dl dc)) (hg : RokV Try.prog h T.s_uint8 (.slice gp gl gc)) (wn : (Lit.int .u16 now).wf = true) :
    LawH Try.prog F.law23_OutboxOrder #[.slice dp dl dc, .slice gp gl gc, .int .u16 now] h := by
  obtain ⟨gs, rfl, grow⟩ := RokV.bytes (by kernel_rfl) u8 uU hg
  obtain ⟨ds, rfl, drow, dok⟩ := RokV.bytess (by kernel_rfl) (by kernel_rfl) u8 uU uN hd
  have wn := wf_u16 wn
  obtain ⟨now, rfl⟩ := Int.eq_ofNat_of_zero_le wn.1
  clear hg hd
  unfold LawH
  generalize hR : (fun (v : Value) h' => v = .bool true ∧ Fr (fun _ => False) h h') = R
  have hk : ∀ h', Fr (fun _ => False) h h' → R (.bool true) h' := fun h' hf => by rw [← hR]; exact ⟨rfl, hf⟩
  clear hR
  have wnow : IntKind.wrap .u64 (now : Int) = (now : Int) := wrap_u64_nat (by omega)
  have dat : ∀ {h' : Heap} {k : Nat}, Fr (fun _ => False) h h' → k < ds.length → ∃ a x, dp = some a ∧ ds[k]? = some x ∧ hcell h' (a.add (k * 1)) = some x.val ∧ Row h' x.p (bc x.b) := by
    intro h' k f hk
    have hc : ds[k]? = some ds[k] := List.getElem?_eq_getElem hk
    obtain ⟨a, rfl⟩ := drow.some (fun e => by have := congrArg List.length e; rw [flat_len (fun x : BV => [x.val]) 1 (fun _ => rfl), List.length_nil] at this; omega)
    have := (drow.frame f (fun _ _ => id)).heldAt (fun _ => rfl) hc
    refine ⟨a, ds[k], rfl, hc, ?_, (dok _ (List.mem_of_getElem? hc)).frame f (fun _ _ => id)⟩
    have := this.1
    rwa [add_zero_addr] at this
  refine law23_OutboxOrder.walk (new_box fun h1 b X1 H1 u1 => ⟨_, rfl, ?_⟩)
  refine ⟨fun i g => ∃ (k : Nat) (X : Ft), i = (k : Int) ∧ k ≤ ds.length ∧ k ≤ 16 ∧ Box g b X ⟨(List.range k).map (oit ds), k + 1, 0, 0, 0⟩ ∧ UpF h X g, fun i _ => 16 - i.toNat, ⟨0, X1, rfl, by omega, by omega, H1, u1⟩, ?_⟩
  clear H1 u1
  rintro _ h2 ⟨k, X2, rfl, hkn, hk16, H2, u2⟩
  refine JoinP.of fun J hJ => ?_
  by_cases hlt : k < ds.length ∧ k < 16
  · have q1 : (k : Int) < ((ds.length : Nat) : Int) := by omega
    have q2 : (k : Int) < 16 := by omega
    simp only [q1, q2, decide_true, if_true]
    subst hJ
    simp only [if_true, Int.toNat_natCast]
    obtain ⟨a, x, rfl, hx, hc, hrow⟩ := dat u2.fr hlt.1
    have hxg : (ds[k]?.map BV.b).getD [] = x.b := by rw [hx]; rfl
    refine JoinP.of fun J1 hJ1 => ⟨⟨by first | trivial | omega, by first | trivial | omega⟩, onSome_some.2 ⟨_, _, _, hc, ?_⟩⟩
    have bad : J1 true h2 := by
      subst hJ1
      simp only [if_true]
      exact alive_ok fun h5 f5 => ⟨_, rfl, hk h5 (u2.fr.tt f5)⟩
    by_cases l1 : x.b.length < 1
    · have : ((x.b.length : Nat) : Int) < 1 := by omega
      simp only [this, decide_true, if_true]
      exact bad
    · have : ¬ ((x.b.length : Nat) : Int) < 1 := by omega
      simp only [this, decide_false, Bool.false_eq_true, if_false]
      refine ⟨⟨by first | trivial | omega, by first | trivial | omega⟩, onSome_some.2 ⟨_, _, _, hc, ?_⟩⟩
      by_cases l2 : x.b.length > 300
      · have : ((x.b.length : Nat) : Int) > 300 := by omega
        simp only [this, decide_true]
        exact bad
      · have : ¬ ((x.b.length : Nat) : Int) > 300 := by omega
        simp only [this, decide_false]
        clear bad
        subst hJ1
        simp only [Bool.false_eq_true, if_false]
        refine ⟨⟨by first | trivial | omega, by first | trivial | omega⟩, onSome_some.2 ⟨_, _, _, hc, ?_⟩⟩
        obtain ⟨a1, a2, a3⟩ := ord_add ds (k := k) hlt.2 (by rw [hxg]; omega) (by rw [hxg]; omega)
        rw [hxg] at a1 a2 a3
        have ew : IntKind.wrap .u64 (IntKind.wrap .i64 (100 * (k : Int))) = ((100 * k : Nat) : Int) := by
          rw [wrap_id (n := 100 * (k : Int)) (by omega) (by omega), show (100 * (k : Int)) = ((100 * k : Nat) : Int) by omega]
          exact wrap_u64_nat (by omega)
        rw [ew]
        refine add_ok (100 * k) rfl H2 hrow rfl (by omega) (by show k + 1 ≤ _; omega) fun h6 X6 H6 s6 => ⟨_, _, rfl, JoinP.of fun J2 hJ2 => ?_⟩
        rw [a1, a2]
        rw [a3] at H6
        rw [if_neg (by decide), wrap_id (by omega) (by omega)]
        have : ((k : Int) + 1 != (k : Int) + 1) = false := by simp
        rw [this]
        subst hJ2
        simp only [Bool.false_eq_true, if_false]
        rw [wrap_id (by omega) (by omega)]
        exact ⟨⟨k + 1, X6, by omega, by omega, by omega, H6, u2.step s6⟩, by show 16 - Int.toNat ((k : Int) + 1) < 16 - k; omega⟩
  · have jend : J false h2 := by
      subst hJ
      simp only [Bool.false_eq_true, if_false]
      rw [wnow]
      have hn : ∃ n, n = k := ⟨k, rfl⟩
      obtain ⟨n, rfl⟩ := hn
      obtain ⟨m, hm, m1, m2, m3, m4⟩ := ord_filter ds n now
      refine pass_ok now rfl H2 (by show n + 1 ≤ _; omega) fun h8 X8 p8 c8 ys D H8 s8 o8 d8 g8 kv8 so8 pm8 sub8 => ⟨_, _, _, rfl, ?_⟩
      have pm8 : D.Perm (((List.range n).map (oit ds)).filter (fun x => decide ((x.till : Int) ≤ (now : Int))) |>.map It.kv) := pm8
      rw [m1] at pm8
      have hD := perm_sorted pm8 so8 (ord_sorted ds m)
      have ylen : ys.length = m := by
        have := congrArg List.length (kv8.trans hD)
        simpa using this
      have ynum : ∀ i, i < m → ∃ v, ys[i]? = some v ∧ v.num = i + 1 ∧ v.till = 100 * i := by
        intro i hi
        have h1 : (ys.map IV.abs |>.map It.kv)[i]? = some ((((i + 1 : Nat) : Int)), ((100 * i : Nat) : Int)) := by
          rw [kv8, hD, List.getElem?_map, List.getElem?_map, List.getElem?_range hi]; rfl
        rw [List.getElem?_map, List.getElem?_map] at h1
        cases hv : ys[i]? with
        | none => rw [hv] at h1; cases h1
        | some v =>
          rw [hv] at h1
          have h2 : v.abs.kv = _ := Option.some.inj h1
          have h3 : (v.num : Int) = ((i + 1 : Nat) : Int) := congrArg Prod.fst h2
          have h4 : (v.till : Int) = ((100 * i : Nat) : Int) := congrArg Prod.snd h2
          exact ⟨v, rfl, by omega, by omega⟩
      have H8 : Box h8 b X8 ⟨((List.range n).map (oit ds)).filter (fun x => decide ((now : Int) < (x.till : Int))), n + 1, 0, 0, 0 + ys.length⟩ := H8
      rw [m2, ylen] at H8
      rw [ylen] at o8 ⊢
      have u8' := u2.step s8
      refine ⟨fun i g => g = h8 ∧ ∃ j : Nat, i = (j : Int) ∧ j ≤ m, fun i _ => m - i.toNat, ⟨rfl, 0, rfl, by omega⟩, ?_⟩
      rintro _ _ ⟨rfl, j, rfl, hjm⟩
      by_cases hj : j < m
      · have q1 : (j : Int) < ((m : Nat) : Int) := by omega
        simp only [q1, decide_true, if_true, Int.toNat_natCast]
        refine JoinP.of fun J3 hJ3 => ?_
        obtain ⟨v, hv, vn, vt⟩ := ynum j hj
        obtain ⟨pa, poff, rfl⟩ := o8.addr (by omega)
        have held := o8.heldAt ienc_len hv
        refine ⟨⟨by first | trivial | omega, by first | trivial | omega⟩, onSome_some.2 ⟨(v.num : Int), held.1, ?_⟩⟩
        have : ((v.num : Int) != IntKind.wrap .i64 ((j : Int) + 1)) = false := by rw [wrap_id (by omega) (by omega), vn]; simp
        rw [this, if_neg (by simp)]
        refine ⟨⟨by first | trivial | omega, by first | trivial | omega⟩, onSome_some.2 ⟨(v.till : Int), held.2.2.2.1, ?_⟩⟩
        have hmj := m3 j hj
        have : decide ((v.till : Int) > (now : Int)) = false := by rw [vt]; simp; omega
        rw [this]
        subst hJ3
        simp only [Bool.false_eq_true, if_false]
        rw [wrap_id (by omega) (by omega)]
        exact ⟨⟨by first | trivial | rfl, j + 1, by omega, by omega⟩, by show m - Int.toNat ((j : Int) + 1) < m - j; omega⟩
      · have q1 : ¬ (j : Int) < ((m : Nat) : Int) := by omega
        simp only [q1, decide_false, Bool.false_eq_true, if_false]
        refine ⟨fun xp xl xc i g => ∃ (r : Nat) (X : Ft) (left : List Nat) (cn : Nat), i = (r : Int) ∧ m ≤ r ∧ r ≤ n ∧ OS h g b X ⟨(left ++ List.range' r (n - r)).map (oit ds), n + 1, 0, cn, 0 + m⟩ xp xl xc left ∧ ∀ x ∈ left, m ≤ x ∧ x < r, fun _ _ _ i _ => 16 - i.toNat,
          ⟨m, X8, [], 0, rfl, Nat.le_refl _, hm, ⟨H8, u8', .nil rfl rfl rfl rfl, rfl, fun y ⟨a, e, _⟩ => by cases e⟩, fun x hx => by cases hx⟩, ?_⟩
        clear H8 u8' o8 d8 g8
        rintro xp xl xc _ h11 ⟨r, X11, left, cn, rfl, hmr, hrn, O, hleft⟩
        refine JoinP.of fun J4 hJ4 => ?_
        by_cases hr : r < n
        · have q1 : (r : Int) < ((ds.length : Nat) : Int) := by omega
          have q2 : (r : Int) < 16 := by omega
          simp only [q1, q2, decide_true, if_true]
          subst hJ4
          simp only [if_true]
          refine JoinP.of fun J5 hJ5 => JoinP.of fun J6 hJ6 => ?_
          have wr : IntKind.wrap .i64 ((r : Int) + 1) = (r : Int) + 1 := wrap_id (by omega) (by omega)
          have hll : left.length ≤ 16 := by
            obtain ⟨L0, _, okL⟩ := O.box
            have := okL.le
            simp at this
            omega
          have go : J6 true h11 := by
            subst hJ6
            simp only [if_true]
            rw [wr]
            refine cancel_ok O.box (by show n + 1 ≤ _; omega) fun h15 X15 H15 s15 => ⟨_, rfl, ?_⟩
            have ec := ord_canc ds (left := left) (i := r) (n := n) (nx := n + 1) (tk := 0) (cn := cn) (ov := 0 + m) hr
            have es : cancS ⟨(left ++ List.range' r (n - r)).map (oit ds), n + 1, 0, cn, 0 + m⟩ ((r : Int) + 1) 5 = ⟨(left ++ List.range' (r + 1) (n - (r + 1))).map (oit ds), n + 1, 0, cn + 1, 0 + m⟩ := by
              unfold cancS
              rw [if_pos ec, ord_del ds (fun x hx => (hleft x hx).2) hr]
            rw [ec, if_neg (by decide)]
            rw [es] at H15
            subst hJ5
            try dsimp only
            rw [wr]
            exact ⟨⟨r + 1, X15, left, cn + 1, by omega, by omega, by omega, O.step H15 s15, fun x hx => ⟨(hleft x hx).1, by have := (hleft x hx).2; omega⟩⟩, by show 16 - Int.toNat ((r : Int) + 1) < 16 - Int.toNat (r : Int); omega⟩
          have stay : J6 false h11 := by
            subst hJ6
            simp only [Bool.false_eq_true, if_false]
            refine den_append1 Alarm.tI uSI O.own rfl (fun v hv => by simp at hv; subst hv; rfl) (by have := O.len; omega) (by have := O.len; omega) fun p17 c17 h17 o17 f17 g17 => ⟨_, _, _, rfl, ?_⟩
            subst hJ5
            try dsimp only
            rw [wr]
            have z17 := f17.1
            have zu := O.up.fr.1
            refine ⟨⟨r + 1, X11, left ++ [r], cn, by omega, by omega, by omega, ⟨?_, ⟨O.up.fr.fresh f17 (fun y hy => (O.ap y hy).1), O.up.ge⟩, by rw [List.map_append]; exact o17, by rw [List.length_append, O.len]; rfl, fun y hy => ?_⟩, ?_⟩, by show 16 - Int.toNat ((r : Int) + 1) < 16 - Int.toNat (r : Int); omega⟩
            · have B := O.box.frame f17 (fun y hy hq => (O.ap y hq).2 hy)
              have : left ++ List.range' r (n - r) = left ++ [r] ++ List.range' (r + 1) (n - (r + 1)) := by
                rw [show n - r = (n - (r + 1)) + 1 by omega, List.range'_succ]; simp
              rw [this] at B
              exact B
            · rcases g17 y hy with h1 | h1
              · exact O.ap y h1
              · exact ⟨by omega, fun hx => by have := O.box.lt y hx; omega⟩
            · intro x hx
              rcases List.mem_append.1 hx with hx | hx
              · exact ⟨(hleft x hx).1, by have := (hleft x hx).2; omega⟩
              · obtain rfl := List.mem_singleton.1 hx
                exact ⟨hmr, by omega⟩
          by_cases hgl : r < gs.length
          · have q3 : (r : Int) < ((gs.length : Nat) : Int) := by omega
            simp only [q3, decide_true, if_true, Int.toNat_natCast]
            have hgc : gs[r]? = some gs[r] := List.getElem?_eq_getElem hgl
            obtain ⟨ga, rfl⟩ := grow.some (fun e => by have := congrArg List.length e; rw [bc_len, List.length_nil] at this; omega)
            have cg := (grow.frame O.up.fr (fun _ _ => id)).cell (bc_at hgc)
            refine ⟨⟨by first | trivial | omega, by first | trivial | omega⟩, onSome_some.2 ⟨_, by rw [Nat.mul_one]; exact cg, ?_⟩⟩
            generalize (IntKind.wrap .u8 ((BitVec.ofInt (IntKind.bits .u8) ((gs[r]).toNat : Int) &&& BitVec.ofInt (IntKind.bits .u8) 1).toNat : Int) == 1) = w
            cases w with
            | true => exact go
            | false => exact stay
          · have q3 : ¬ (r : Int) < ((gs.length : Nat) : Int) := by omega
            simp only [q3, decide_false, Bool.false_eq_true, if_false]
            exact stay
        · obtain rfl : r = n := by omega
          have endJ : J4 false h11 := by
            subst hJ4
            simp only [Bool.false_eq_true, if_false]
            have O' : OS h h11 b X11 ⟨(left.drop 0).map (oit ds), r + 1, 0, cn, 0 + m⟩ xp xl xc left := by
              rw [Nat.sub_self] at O
              simpa using O
            clear O
            have hll : left.length ≤ 16 := by
              obtain ⟨L0, _, okL⟩ := O'.box
              have := okL.le
              simpa using this
            refine ⟨fun i g => ∃ (j : Nat) (X : Ft) (tk : Nat), i = (j : Int) ∧ j ≤ left.length ∧ OS h g b X ⟨(left.drop j).map (oit ds), r + 1, tk, cn, 0 + m⟩ xp xl xc left, fun i _ => left.length - i.toNat, ⟨0, X11, 0, rfl, by omega, O'⟩, ?_⟩
            clear O'
            rintro _ h18 ⟨j, X18, tk, rfl, hjl, O⟩
            have hxl := O.len
            by_cases hjlt : j < left.length
            · have q1 : (j : Int) < ((xl : Nat) : Int) := by omega
              simp only [q1, decide_true, if_true]
              have hlj : left[j]? = some left[j] := List.getElem?_eq_getElem hjlt
              have hlm := hleft _ (List.mem_of_getElem? hlj)
              have hdrop : left.drop j = left[j] :: left.drop (j + 1) := List.drop_eq_getElem_cons hjlt
              generalize left[j] = w at hlj hlm hdrop
              refine take_ok O.box (by show r + 1 ≤ _; omega) (fun hn => by
                have hn : (left.drop j).map (oit ds) = [] := hn
                rw [hdrop] at hn; cases hn) fun x rr hxr h19 X19 v hva H19 s19 v19 => ⟨_, _, _, _, _, _, _, rfl, ?_⟩
              have hxr : (left.drop j).map (oit ds) = x :: rr := hxr
              rw [hdrop, List.map_cons] at hxr
              obtain ⟨rfl, rfl⟩ := List.cons.inj hxr
              have O19 := O.step H19 s19
              refine outbox_Item.new fun b1 h24 eb1 hb1 f24 => JoinP.of fun J7 hJ7 => ?_
              have O24 := O19.on f24
              have v24 := v19.frame f24 (fun _ _ => id)
              rw [if_neg (by decide)]
              have hvn : v.num = w + 1 := congrArg It.num hva
              have hvb : v.v.b = (ds[w]?.map BV.b).getD [] := congrArg It.d hva
              have hvt : v.till = 100 * w := congrArg It.till hva
              obtain ⟨xa, xoff, rfl⟩ := O24.own.addr (by omega)
              have cj : hcell h24 ((⟨xa, xoff, none⟩ : Addr).add (Int.toNat (j : Int) * 1)) = some (.int .i64 (w : Int)) := by
                rw [Int.toNat_natCast, Nat.mul_one]
                exact O24.own.cell (by rw [List.getElem?_map, hlj]; rfl)
              refine ⟨_, cell_at hb1 rfl, ⟨by first | trivial | omega, by first | trivial | omega⟩, onSome_some.2 ⟨_, cj, ?_⟩⟩
              have : ((v.num : Int) != IntKind.wrap .i64 ((w : Int) + 1)) = false := by rw [wrap_id (by omega) (by omega), hvn]; simp
              rw [this, if_neg (by simp)]
              obtain ⟨da, dx, rfl, hdx, cd, rowd⟩ := dat (k := w) O24.up.fr (by omega)
              refine ⟨_, _, _, cell_at hb1 rfl, _, conv v24.row rfl, ⟨by first | trivial | omega, by first | trivial | omega⟩, onSome_some.2 ⟨_, cj, ⟨by first | trivial | omega, by first | trivial | omega⟩, onSome_some.2 ⟨_, _, _, by rw [Int.toNat_natCast]; exact cd, _, conv rowd rfl, ?_⟩⟩⟩
              have hbe : v.v.b = dx.b := by rw [hvb, hdx]; rfl
              rw [str_list, str_list, hbe, beq_self_eq_true]
              simp only [Bool.not_true, Bool.false_eq_true, if_false]
              refine ⟨_, cell_at hb1 rfl, ?_⟩
              have hmw := m4 w hlm.1 hlm.2
              have : decide ((v.till : Int) ≤ (now : Int)) = false := by rw [hvt]; simp; omega
              rw [this]
              subst hJ7
              simp only [Bool.false_eq_true, if_false]
              rw [wrap_id (by omega) (by omega)]
              exact ⟨⟨j + 1, X19, tk + 1, by omega, by omega, O24⟩, by show left.length - Int.toNat ((j : Int) + 1) < left.length - Int.toNat (j : Int); omega⟩
            · have q1 : ¬ (j : Int) < ((xl : Nat) : Int) := by omega
              simp only [q1, decide_false, Bool.false_eq_true, if_false]
              have hdn : left.drop j = [] := List.drop_of_length_le (by omega)
              refine take_ok O.box (by show r + 1 ≤ _; omega) (fun _ h26 H26 f26 => ⟨_, _, _, _, _, _, _, rfl, ?_⟩) (fun x rr hn => by
                have hn : (left.drop j).map (oit ds) = x :: rr := hn
                rw [hdn] at hn; cases hn)
              refine outbox_Item.new fun b2 h31 eb2 hb2 f31 => alive_ok fun h32 f32 => ⟨_, rfl, ?_⟩
              simp only [if_true]
              exact hk h32 (O.up.fr.tt (f26.tt (f31.tt f32)))
          by_cases q1 : (r : Int) < ((ds.length : Nat) : Int)
          · have q2 : ¬ (r : Int) < 16 := by omega
            simp only [q1, q2, decide_true, decide_false, if_true]
            exact endJ
          · simp only [q1, decide_false, Bool.false_eq_true, if_false]
            exact endJ
    by_cases q1 : (k : Int) < ((ds.length : Nat) : Int)
    · have q2 : ¬ (k : Int) < 16 := by omega
      simp only [q1, q2, decide_true, decide_false, if_true]
      exact jend
    · simp only [q1, decide_false, Bool.false_eq_true, if_false]
      exact jend
end Obx
end Go.Proofs.Ytlonfpolnmiglaa
