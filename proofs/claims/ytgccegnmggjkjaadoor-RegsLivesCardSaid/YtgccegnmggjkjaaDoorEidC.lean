/-
  What is proved here: what the calls of package eid return: plain, Right, class, Less. No condition.
-/
import Derived.Test.YtgccegnmggjkjaaDoorEid
set_option maxRecDepth 100000
namespace Go.Proofs.YtgccegnmggjkjaaDoor
open Go.Den
namespace Eid
variable {h h' : Heap} {R : Value → Heap → Prop}
theorem byte_at {s : ByteArray} {pos : Nat} (hp : pos < s.size) : s.data.toList[pos]? = some (s.data.toList.getD pos 0) := by
  have : pos < s.data.toList.length := hp
  rw [List.getD_eq_getElem?_getD, List.getElem?_eq_getElem this]; rfl
theorem pl_lt {more b : UInt8} (hm : more.toNat < 128) (h : pl more b = true) : b < 128 := by
  show b.toNat < 128
  by_cases hb : b.toNat < 128
  · exact hb
  · have h1 := np_big (more := (more.toNat : Int)) (c := (b.toNat : Int)) (by omega) (by omega)
    rw [np_pl, h] at h1; cases h1
theorem np_false {more : UInt8} {s : ByteArray} {pos : Nat} (hm : more.toNat < 128) (hp : pos < s.size) (h : np (more.toNat : Int) ((Utf8.decode s pos).1 : Int) = false) :
    pl more (s.data.toList.getD pos 0) = true ∧ (Utf8.decode s pos).2 = 1 := by
  obtain ⟨h1, h2⟩ := decode_at s pos hp
  by_cases hb : s.data.toList.getD pos 0 < 128
  · rw [h1 hb] at h ⊢
    rw [np_pl] at h
    exact ⟨by simpa using h, rfl⟩
  · have := np_big (more := (more.toNat : Int)) (c := ((Utf8.decode s pos).1 : Int)) (by omega) (by have := h2 hb; omega)
    rw [this] at h; cases h
theorem np_true {more : UInt8} {s : ByteArray} {pos : Nat} (hm : more.toNat < 128) (hp : pos < s.size) (h : np (more.toNat : Int) ((Utf8.decode s pos).1 : Int) = true) : plainB more s = false := by
  cases hb : plainB more s with
  | false => rfl
  | true =>
    have hp2 := List.all_eq_true.1 hb _ (List.mem_of_getElem? (byte_at hp))
    obtain ⟨h1, _⟩ := decode_at s pos hp
    rw [h1 (pl_lt hm hp2), np_pl, hp2] at h
    cases h
/-- the loop, whatever other character may be -/
theorem plain_loop {more : UInt8} {s : ByteArray} {it : Nat} {ty : TypeId} {h0 h1 : Heap} (hm : more.toNat < 128) (hit : h1[it]? = some (.stringIter s 0)) (hge : h0.size ≤ it) (f1 : Fr (fun _ => False) h0 h1) (hk : ∀ h', Fr (fun _ => False) h0 h' → R (.bool (plainB more s)) h') :
    ∃ (I : Heap → Prop) (mu : Heap → Nat), I h1 ∧ ∀ g, I g → denSem Tryd.prog (Instr.next (.pointer (some ⟨it, 0, none⟩)) true ty) g fun v g1 =>
      (v = .tuple #[.bool false] ∧ R (.bool true) g1) ∨ ∃ (a b : Value), v = .tuple #[.bool true, a, b] ∧ ∃ (c : Int), b = .int .i32 c ∧ if np (more.toNat : Int) c = true then R (.bool false) g1 else (I g1 ∧ mu g1 < mu g) := by
  refine ⟨fun g => ∃ pos, g[it]? = some (.stringIter s pos) ∧ Fr (fun _ => False) h0 g ∧ pos ≤ s.size ∧ (s.data.toList.take pos).all (pl more) = true, fun g => (match g[it]? with | some (.stringIter _ p) => s.size - p | _ => 0), ⟨0, hit, f1, Nat.zero_le _, by simp⟩, ?_⟩
  rintro g ⟨pos, hg, fg, hle, hall⟩
  refine den_nextS hg (fun hend => .inl ⟨rfl, ?_⟩) (fun hlt g1 hg1 hs1 ho1 => .inr ⟨_, _, rfl, _, rfl, ?_⟩)
  · have : plainB more s = true := by
      unfold plainB
      rw [List.take_of_length_le (by show s.data.toList.length ≤ pos; exact hend)] at hall
      exact hall
    rw [← this]; exact hk g fg
  · have fg1 : Fr (fun _ => False) h0 g1 := fg.fresh (S := fun c => c = it) ⟨by omega, fun c _ hn => ho1 c hn⟩ (fun c e => by omega)
    cases hn : np (more.toNat : Int) ((Utf8.decode s pos).1 : Int) with
    | true =>
      rw [if_pos rfl, ← np_true hm hlt hn]; exact hk g1 fg1
    | false =>
      rw [if_neg (by simp)]
      obtain ⟨h1, h2⟩ := np_false hm hlt hn
      rw [h2] at hg1
      refine ⟨⟨pos + 1, hg1, fg1, hlt, ?_⟩, ?_⟩
      · rw [List.take_add_one, byte_at hlt, List.all_append, hall]
        show (true && (pl more (s.data.toList.getD pos 0) && true)) = true
        rw [h1]; rfl
      · simp only [hg, hg1]; omega
theorem plain_host {s : ByteArray} (hk : ∀ h', Fr (fun _ => False) h h' → R (.bool (plainB 45 s)) h') : CallsH Tryd.prog F.eid_plain #[.string s, .int .i32 45] h R := by
  refine eid_plain.host.walk (den_rangeS (by kernel_rfl) fun r h1 hr hit f1 => ⟨_, rfl, ?_⟩)
  obtain ⟨I, mu, h2, h3⟩ := plain_loop (more := 45) (ty := T.tup_) (by decide) hit (by omega) f1 hk
  refine ⟨I, mu, h2, fun g hg => denSem_mono _ _ (fun v g1 hv => ?_) (h3 g hg)⟩
  rcases hv with hv | ⟨a, b, e, c, e2, hv⟩
  · exact .inl hv
  · refine .inr ⟨a, b, e, c, e2, JoinP.of fun J hJ => ?_⟩
    have key : J (np 45 c) g1 := by subst hJ; exact hv
    clear hJ hv
    unfold np at key
    revert key
    generalize decide (c < 97) = b1
    generalize decide (c > 122) = b2
    generalize decide (c < 48) = b3
    generalize decide (c > 57) = b4
    generalize (c != 45) = b5
    intro key
    cases b1 <;> cases b2 <;> cases b3 <;> cases b4 <;> cases b5 <;> exact key
theorem plain_demux {s : ByteArray} (hk : ∀ h', Fr (fun _ => False) h h' → R (.bool (plainB 47 s)) h') : CallsH Tryd.prog F.eid_plain #[.string s, .int .i32 47] h R := by
  refine eid_plain.demux.walk (den_rangeS (by kernel_rfl) fun r h1 hr hit f1 => ⟨_, rfl, ?_⟩)
  obtain ⟨I, mu, h2, h3⟩ := plain_loop (more := 47) (ty := T.tup_) (by decide) hit (by omega) f1 hk
  refine ⟨I, mu, h2, fun g hg => denSem_mono _ _ (fun v g1 hv => ?_) (h3 g hg)⟩
  rcases hv with hv | ⟨a, b, e, c, e2, hv⟩
  · exact .inl hv
  · refine .inr ⟨a, b, e, c, e2, JoinP.of fun J hJ => ?_⟩
    have key : J (np 47 c) g1 := by subst hJ; exact hv
    clear hJ hv
    unfold np at key
    revert key
    generalize decide (c < 97) = b1
    generalize decide (c > 122) = b2
    generalize decide (c < 48) = b3
    generalize decide (c > 57) = b4
    generalize (c != 45) = b5
    generalize (c != 47) = b6
    intro key
    cases b1 <;> cases b2 <;> cases b3 <;> cases b4 <;> cases b5 <;> cases b6 <;> exact key
abbrev Ev.at (h : Heap) (b : Nat) (x : Ev) : Prop := eid_Eid.at h b x.ipn x.node x.svc x.host x.dem
theorem zero_iff {x : Ev} : (decide (x = Ev.zero) = true) ↔ x = .zero := decide_eq_true_iff
theorem right_ok (x : Ev) (hk : ∀ h', Fr (fun _ => False) h h' → R (.bool (rightE x)) h') : CallsH Tryd.prog F.eid_Right #[.agg #[.bool x.ipn, .int .u64 x.node, .int .u64 x.svc, .string x.host, .string x.dem]] h R := by
  refine eid_Right.walk (eid_Eid.box fun b h1 eb hb f1 => eid_Eid.ld hb ⟨_, eqv' (y := .zero) (x := x) rfl rfl, ?_⟩)
  have K := hk h1 f1
  unfold rightE at K
  by_cases h0 : x = .zero
  · rw [if_pos (decide_eq_true h0)]
    rw [if_pos h0] at K; exact K
  · rw [if_neg (by simpa using h0)]
    rw [if_neg h0] at K
    refine ⟨_, cell_at hb rfl, ?_⟩
    by_cases hi : x.ipn = true
    · rw [if_pos hi]
      rw [if_pos hi] at K
      refine eid_Eid.ld hb ⟨_, cell_at hb rfl, _, cell_at hb rfl, _, eqv' (y := ⟨true, x.node, x.svc, ⟨#[]⟩, ⟨#[]⟩⟩) (x := x) rfl rfl, ?_⟩
      by_cases he : x = ⟨true, x.node, x.svc, ⟨#[]⟩, ⟨#[]⟩⟩
      · have e1 : x.host = ⟨#[]⟩ := congrArg Ev.host he
        have e2 : x.dem = ⟨#[]⟩ := congrArg Ev.dem he
        rw [if_pos (decide_eq_true he)]
        refine ⟨_, cell_at hb rfl, ?_⟩
        by_cases q1 : x.node ≥ 1
        · rw [if_pos (decide_eq_true q1)]
          refine ⟨_, cell_at hb rfl, ?_⟩
          by_cases q2 : x.node ≤ 4294967295
          · rw [if_pos (decide_eq_true q2)]
            refine ⟨_, cell_at hb rfl, ?_⟩
            have q1' : 1 ≤ x.node := q1
            simp only [e1, e2, q1', q2, true_and] at K
            exact K
          · rw [if_neg (by simpa using q2)]
            simp only [q2, false_and, and_false, decide_false] at K; exact K
        · rw [if_neg (by simpa using q1)]
          have q1' : ¬ 1 ≤ x.node := q1
          simp only [q1', false_and, and_false, decide_false] at K; exact K
      · rw [if_neg (by simpa using he)]
        have : ¬ (x.host = ⟨#[]⟩ ∧ x.dem = ⟨#[]⟩ ∧ 1 ≤ x.node ∧ x.node ≤ 4294967295 ∧ x.svc ≤ 4294967295) := fun ⟨a, b, _⟩ => he (Ev.ext' hi rfl rfl a b)
        rw [decide_eq_false this] at K; exact K
    · have hi' : x.ipn = false := by simpa using hi
      rw [if_neg hi]
      rw [if_neg hi] at K
      refine eid_Eid.ld hb ⟨_, cell_at hb rfl, _, cell_at hb rfl, _, eqv' (y := ⟨false, 0, 0, x.host, x.dem⟩) (x := x) rfl rfl, ?_⟩
      by_cases he : x = ⟨false, 0, 0, x.host, x.dem⟩
      · have e1 : x.node = 0 := congrArg Ev.node he
        have e2 : x.svc = 0 := congrArg Ev.svc he
        rw [if_pos (decide_eq_true he)]
        refine ⟨_, cell_at hb rfl, ?_⟩
        simp only [e1, e2, true_and] at K
        by_cases q1 : 1 ≤ x.host.size
        · rw [if_pos (decide_eq_true (by omega))]
          refine ⟨_, cell_at hb rfl, ?_⟩
          by_cases q2 : x.host.size ≤ 16
          · rw [if_pos (decide_eq_true (by omega))]
            refine ⟨_, cell_at hb rfl, ?_⟩
            by_cases q3 : x.dem.size ≤ 24
            · rw [if_pos (decide_eq_true (by omega))]
              simp only [q1, q2, q3, and_self, decide_true, Bool.true_and] at K
              refine ⟨_, cell_at hb rfl, plain_host fun h2 f2 => ⟨_, rfl, ?_⟩⟩
              have hb2 := f2.get hb id
              by_cases q4 : plainB 45 x.host = true
              · rw [if_pos q4]
                refine ⟨_, cell_at hb2 rfl, plain_demux fun h3 f3 => ⟨_, rfl, ?_⟩⟩
                have := hk h3 (f1.tt (f2.tt f3))
                unfold rightE at this
                rw [if_neg h0, if_neg hi, q4] at this
                simp only [e1, e2, q1, q2, q3, and_self, decide_true, Bool.true_and] at this
                exact this
              · rw [if_neg q4]
                have := hk h2 (f1.tt f2)
                unfold rightE at this
                have q4 : plainB 45 x.host = false := by simpa using q4
                rw [if_neg h0, if_neg hi, q4] at this
                simp only [Bool.false_and, Bool.and_false] at this
                exact this
            · rw [if_neg (by simp; omega)]
              simp only [q3, and_false, decide_false, Bool.false_and] at K; exact K
          · rw [if_neg (by simp; omega)]
            simp only [q2, false_and, and_false, decide_false, Bool.false_and] at K; exact K
        · rw [if_neg (by simp; omega)]
          simp only [q1, false_and, and_false, decide_false, Bool.false_and] at K; exact K
      · rw [if_neg (by simpa using he)]
        have : ¬ (x.node = 0 ∧ x.svc = 0 ∧ 1 ≤ x.host.size ∧ x.host.size ≤ 16 ∧ x.dem.size ≤ 24) := fun ⟨a, b, _⟩ => he (Ev.ext' hi' a b rfl rfl)
        rw [decide_eq_false this, Bool.false_and] at K; exact K
theorem class_ok (x : Ev) (hk : ∀ h', Fr (fun _ => False) h h' → R (.int .i64 (classE x)) h') : CallsH Tryd.prog F.eid_class #[.agg #[.bool x.ipn, .int .u64 x.node, .int .u64 x.svc, .string x.host, .string x.dem]] h R := by
  refine eid_class.walk (eid_Eid.box fun b h1 eb hb f1 => eid_Eid.ld hb ⟨_, eqv' (y := .zero) (x := x) rfl rfl, ?_⟩)
  have K := hk h1 f1
  unfold classE at K
  by_cases h0 : x = .zero
  · rw [if_pos (decide_eq_true h0)]; rw [if_pos h0] at K; exact K
  · rw [if_neg (by simpa using h0)]
    rw [if_neg h0] at K
    refine ⟨_, cell_at hb rfl, ?_⟩
    by_cases hi : x.ipn = true
    · rw [if_pos hi]; rw [if_pos hi] at K; exact K
    · rw [if_neg hi]; rw [if_neg hi] at K; exact K
theorem bytes_eq {a b : ByteArray} : (a.toList == b.toList) = true ↔ a = b := by
  rw [beq_iff_eq, toList_data, toList_data]
  constructor
  · intro e; cases a; cases b; simp only [ByteArray.mk.injEq]; exact Array.ext' e
  · rintro rfl; rfl
theorem less_ok (x y : Ev) (hk : ∀ h', Fr (fun _ => False) h h' → R (.bool (lessE x y)) h') : CallsH Tryd.prog F.eid_Less #[.agg #[.bool x.ipn, .int .u64 x.node, .int .u64 x.svc, .string x.host, .string x.dem], .agg #[.bool y.ipn, .int .u64 y.node, .int .u64 y.svc, .string y.host, .string y.dem]] h R := by
  refine eid_Less.walk (eid_Eid.box fun b h1 eb hb f1 => eid_Eid.box fun c h2 ec hc f2 => ?_)
  have hb2 := f2.get hb id
  refine eid_Eid.ld hb2 (eid_Eid.ld hc (class_ok x fun h3 f3 => ⟨_, rfl, eid_Eid.held (f3.get hc id), class_ok y fun h4 f4 => ⟨_, rfl, ?_⟩⟩))
  have F4 := f3.tt f4
  have hb4 := F4.get hb2 id
  have hc4 := F4.get hc id
  have K := hk h4 (f1.tt (f2.tt F4))
  unfold lessE at K
  by_cases q0 : classE x = classE y
  · rw [if_neg (by simpa using q0)]
    rw [if_neg (by simpa using q0)] at K
    refine ⟨_, cell_at hb4 rfl, _, cell_at hc4 rfl, ?_⟩
    by_cases q1 : x.node = y.node
    · rw [if_neg (by simpa using q1)]
      rw [if_neg (by simpa using q1)] at K
      refine ⟨_, cell_at hb4 rfl, _, cell_at hc4 rfl, ?_⟩
      by_cases q2 : x.svc = y.svc
      · rw [if_neg (by simpa using q2)]
        rw [if_neg (by simpa using q2)] at K
        refine ⟨_, cell_at hb4 rfl, _, cell_at hc4 rfl, ?_⟩
        by_cases q3 : x.host = y.host
        · rw [if_neg (by simp [bytes_eq.2 q3])]
          rw [if_neg (by simpa using q3)] at K
          exact ⟨_, cell_at hb4 rfl, _, cell_at hc4 rfl, K⟩
        · have : (x.host.toList == y.host.toList) = false := by
            cases e : x.host.toList == y.host.toList
            · rfl
            · exact absurd (bytes_eq.1 e) q3
          rw [if_pos (by simp [this])]
          rw [if_pos q3] at K
          exact ⟨_, cell_at hb4 rfl, _, cell_at hc4 rfl, K⟩
      · rw [if_pos (by simpa using q2)]
        rw [if_pos q2] at K
        exact ⟨_, cell_at hb4 rfl, _, cell_at hc4 rfl, K⟩
    · rw [if_pos (by simpa using q1)]
      rw [if_pos q1] at K
      exact ⟨_, cell_at hb4 rfl, _, cell_at hc4 rfl, K⟩
  · rw [if_pos (by simpa using q0)]
    refine eid_Eid.ld hb4 (eid_Eid.ld hc4 (class_ok x fun h5 f5 => ⟨_, rfl, eid_Eid.held (f5.get hc4 id), class_ok y fun h6 f6 => ⟨_, rfl, ?_⟩⟩))
    have K := hk h6 (f1.tt (f2.tt (F4.tt (f5.tt f6))))
    unfold lessE at K
    rw [if_pos q0] at K; exact K
end Eid
end Go.Proofs.YtgccegnmggjkjaaDoor
