/-
  What is proved here: what the functions of package reply, and the document's of layer 17, do. No condition.
-/
import Derived.Test.YtopoaalbfdblnaaReplyP
import Derived.Test.YtopoaalbfdblnaaRef15r
import Derived.Test.YtopoaalbfdblnaaStructs
import Derived.Test.YtopoaalbfdblnaaVcC
import Derived.Test.YtopoaalbfdblnaaVcF
namespace Go.Proofs.Ytopoaalbfdblnaa
open Go.Den Go.Fields
namespace Rep
open Fld
variable {h h0 : Heap} {R : Value → Heap → Prop} {p q : Option Addr} {c d : Nat}

abbrev val (x : RD) (p : Option Addr) (c : Nat) : Value := .agg #[.int .u64 (x.id : Int), .int .i64 x.err, .int .i64 x.num, .int .i64 x.count, .int .u64 (x.token : Int), .slice p x.b.length c]
abbrev At (h : Heap) (b : Nat) (x : RD) (p : Option Addr) (c : Nat) : Prop := reply_Reply.at h b (x.id : Int) x.err x.num x.count (x.token : Int) p x.b.length c
abbrev RAt (h : Heap) (b : Nat) (x : RD) (p : Option Addr) (c : Nat) : Prop := ref17_Reply.at h b (x.id : Int) x.err x.num x.count (x.token : Int) p x.b.length c

/-! ### equal replies -/
theorem bytesEqual_ok {a b : List UInt8} {n m : Nat} (ra : Row h p (bc a)) (rb : Row h q (bc b)) (hn : n = a.length) (hm : m = b.length) (hk : R (.bool (decide (a = b))) h) : CallsH Try.prog F.bytes_Equal #[.slice p n c, .slice q m d] h R := by
  refine bytes_Equal.walk ⟨_, conv ra hn, _, conv rb hm, ?_⟩
  rw [str_list, str_list]
  have : (a == b) = decide (a = b) := by
    by_cases e : a = b <;> simp [e]
  rw [this]; exact hk
theorem beq_dec {α : Type} [BEq α] [LawfulBEq α] [DecidableEq α] (a b : α) : (a == b) = decide (a = b) := by by_cases e : a = b <;> simp [e]

theorem same_ok (x y : RD) (rx : Row h p (bc x.b)) (ry : Row h q (bc y.b)) (hk : ∀ h', Fr (fun _ => False) h h' → R (.bool (decide (x.same y))) h') : CallsH Try.prog F.reply_Same #[val x p c, val y q d] h R := by
  refine reply_Same.walk (reply_Reply.box fun b h1 _ hb f1 => reply_Reply.box fun b' h2 _ hb' f2 => ?_)
  have hb2 := f2.get hb id
  have f12 := f1.tt f2
  have hk := hk h2 f12
  unfold RD.same at hk
  refine ⟨_, cell_at hb2 rfl, _, cell_at hb' rfl, ?_⟩
  by_cases e0 : x.id = y.id
  · rw [if_pos (by rw [e0]; simp)]
    refine ⟨_, cell_at hb2 rfl, _, cell_at hb' rfl, ?_⟩
    by_cases e1 : x.err = y.err
    · rw [if_pos (by rw [e1]; simp)]
      refine ⟨_, cell_at hb2 rfl, _, cell_at hb' rfl, ?_⟩
      by_cases e2 : x.num = y.num
      · rw [if_pos (by rw [e2]; simp)]
        refine ⟨_, cell_at hb2 rfl, _, cell_at hb' rfl, ?_⟩
        by_cases e3 : x.count = y.count
        · rw [if_pos (by rw [e3]; simp)]
          refine ⟨_, cell_at hb2 rfl, _, cell_at hb' rfl, ?_⟩
          by_cases e4 : x.token = y.token
          · rw [if_pos (by rw [e4]; simp)]
            refine ⟨_, _, _, cell_at hb2 rfl, _, _, _, cell_at hb' rfl, bytesEqual_ok (rx.frame f12 (fun _ _ => id)) (ry.frame f12 (fun _ _ => id)) rfl rfl ⟨_, rfl, ?_⟩⟩
            simpa [e0, e1, e2, e3, e4] using hk
          · rw [if_neg (by simp; omega)]
            simpa [e4] using hk
        · rw [if_neg (by simpa using e3)]
          simpa [e3] using hk
      · rw [if_neg (by simpa using e2)]
        simpa [e2] using hk
    · rw [if_neg (by simpa using e1)]
      simpa [e1] using hk
  · rw [if_neg (by simp; omega)]
    simpa [e0] using hk
theorem refSame_ok (x y : RD) (rx : Row h p (bc x.b)) (ry : Row h q (bc y.b)) (hk : ∀ h', Fr (fun _ => False) h h' → R (.bool (decide (x.same y))) h') : CallsH Try.prog F.ref17_Same #[val x p c, val y q d] h R := by
  refine ref17_Same.walk (ref17_Reply.box fun b h1 _ hb f1 => ref17_Reply.box fun b' h2 _ hb' f2 => ?_)
  have hb2 := f2.get hb id
  have f12 := f1.tt f2
  have hk := hk h2 f12
  unfold RD.same at hk
  refine ⟨_, cell_at hb2 rfl, _, cell_at hb' rfl, ?_⟩
  by_cases e0 : x.id = y.id
  · rw [if_pos (by rw [e0]; simp)]
    refine ⟨_, cell_at hb2 rfl, _, cell_at hb' rfl, ?_⟩
    by_cases e1 : x.err = y.err
    · rw [if_pos (by rw [e1]; simp)]
      refine ⟨_, cell_at hb2 rfl, _, cell_at hb' rfl, ?_⟩
      by_cases e2 : x.num = y.num
      · rw [if_pos (by rw [e2]; simp)]
        refine ⟨_, cell_at hb2 rfl, _, cell_at hb' rfl, ?_⟩
        by_cases e3 : x.count = y.count
        · rw [if_pos (by rw [e3]; simp)]
          refine ⟨_, cell_at hb2 rfl, _, cell_at hb' rfl, ?_⟩
          by_cases e4 : x.token = y.token
          · rw [if_pos (by rw [e4]; simp)]
            refine ⟨_, _, _, cell_at hb2 rfl, _, conv (rx.frame f12 (fun _ _ => id)) rfl, _, _, _, cell_at hb' rfl, _, conv (ry.frame f12 (fun _ _ => id)) rfl, ?_⟩
            rw [str_list, str_list, beq_dec]
            simpa [e0, e1, e2, e3, e4] using hk
          · rw [if_neg (by simp; omega)]
            simpa [e4] using hk
        · rw [if_neg (by simpa using e3)]
          simpa [e3] using hk
      · rw [if_neg (by simpa using e2)]
        simpa [e2] using hk
    · rw [if_neg (by simpa using e1)]
      simpa [e1] using hk
  · rw [if_neg (by simp; omega)]
    simpa [e0] using hk

/-! ### replies that may be -/
def failR (id : Nat) (e : Int) : RD := ⟨id, e, 0, 0, 0, []⟩
theorem fail_ok {i : Int} (id : Nat) (hi : i = (id : Int)) (e : Int) (hk : ∀ h', Fr (fun _ => False) h h' → R (val (failR id e) none 0) h') : CallsH Try.prog F.reply_Fail #[.int .u64 i, .int .i64 e] h R := by
  subst hi
  refine reply_Fail.walk (reply_Reply.new fun b h1 _ hb f1 => reply_Reply.ld hb ?_)
  exact hk h1 f1
def inB (n : Int) : Bool := decide (0 ≤ n ∧ n ≤ 1099511627776)
theorem in1_ok (n : Int) (hk : R (.bool (!inB n)) h) : CallsH Try.prog F.reply_within_1 #[.int .i64 n] h R := by
  refine reply_within_1.walk ?_
  unfold reply_within_1.vc
  unfold inB at hk
  by_cases h1 : n < 0
  · simpa [h1, show ¬ 0 ≤ n by omega] using hk
  · by_cases h2 : n > 1099511627776
    · simpa [h1, h2, show ¬ n ≤ 1099511627776 by omega] using hk
    · simpa [h1, h2, show 0 ≤ n by omega, show n ≤ 1099511627776 by omega] using hk
theorem within_ok {ns : List Int} {n m : Nat} (hr : Row h p (ns.map (.int .i64 ·))) (hn : n = ns.length) (hl : ns.length ≤ 1000000) (hk : R (.bool (ns.all inB)) h) : CallsH Try.prog F.reply_within #[.slice p n m] h R := by
  subst hn
  refine reply_within.walk (slices_ContainsFunc_s_int_int.within.walk (slices_IndexFunc_s_int_int.within.walk ?_))
  refine ⟨fun i h' => h' = h ∧ ∃ k : Nat, i = (k : Int) ∧ k ≤ ns.length ∧ ∀ j, j < k → inB (ns.getD j 0) = true, fun i _ => ns.length - i.toNat, ⟨rfl, 0, rfl, by omega, fun j hj => by omega⟩, ?_⟩
  rintro _ h1 ⟨rfl, k, rfl, hkn, hall⟩
  by_cases hlt : k < ns.length
  · have : (k : Int) < (ns.length : Int) := by omega
    simp only [this, decide_true, if_true, Int.toNat_natCast]
    obtain ⟨a, rfl, ck⟩ := row_int_at hr hlt
    refine ⟨⟨by omega, trivial⟩, onSome_some.2 ⟨_, ck, in1_ok _ ⟨_, rfl, ?_⟩⟩⟩
    cases hb : inB (ns.getD k 0) with
    | false =>
      simp only [Bool.not_false, if_true]
      refine ⟨_, rfl, ⟨_, rfl, ?_⟩⟩
      have : ns.all inB = false := by
        rw [List.all_eq_false]
        exact ⟨_, getD_mem hlt, by rw [hb]; simp⟩
      rw [this] at hk
      have h0 : (k : Int) ≥ 0 := by omega
      simpa [h0] using hk
    | true =>
      simp only [Bool.not_true, Bool.false_eq_true, if_false]
      rw [wrap_id (by omega) (by omega)]
      refine ⟨⟨trivial, k + 1, by omega, by omega, fun j hj => ?_⟩, ?_⟩
      · by_cases q : j = k
        · subst q; exact hb
        · exact hall j (by omega)
      · show ns.length - Int.toNat ((k : Int) + 1) < ns.length - Int.toNat (k : Int); omega
  · have : ¬ (k : Int) < (ns.length : Int) := by omega
    simp only [this, decide_false, Bool.false_eq_true, if_false]
    refine ⟨_, rfl, ⟨_, rfl, ?_⟩⟩
    have : ns.all inB = true := by
      rw [List.all_eq_true]
      intro n hn
      obtain ⟨j, hj⟩ := List.getElem?_of_mem hn
      have hjl := (List.getElem?_eq_some_iff.1 hj).1
      have := hall j (by omega)
      rwa [List.getD_eq_getElem?_getD, hj] at this
    rw [this] at hk
    simpa using hk

theorem right_ok (x : RD) (rx : Row h p (bc x.b)) (hk : ∀ h', Fr (fun _ => False) h h' → R (.bool (decide x.Right)) h') : CallsH Try.prog F.reply_Right #[val x p c] h R := by
  refine reply_Right.walk (reply_Reply.box fun b h1 _ hb f1 => JoinP.of fun J hJ => ?_)
  have jt : ∀ h2, Fr (fun _ => False) h h2 → ¬ x.Right → J true h2 := by
    intro h2 f2 hn
    subst hJ
    simp only [if_true]
    have := hk h2 f2
    rwa [decide_eq_false hn] at this
  have jf : ∀ h2, At h2 b x p c → Fr (fun _ => False) h h2 → x.id ≤ 1099511627776 → (0 ≤ x.err ∧ x.err ≤ 99) → (0 ≤ x.num ∧ x.num ≤ 1099511627776) → (0 ≤ x.count ∧ x.count ≤ 1099511627776) → x.token ≤ 2147483648 → x.b.length ≤ 600 → J false h2 := by
    intro h2 hb2 f2 q1 q2 q3 q4 q5 q6
    subst hJ
    simp only [Bool.false_eq_true, if_false]
    refine ⟨_, cell_at hb2 rfl, ?_⟩
    by_cases he : x.err = 0
    · rw [if_neg (by simp [he])]
      have := hk h2 f2
      rwa [decide_eq_true (show x.Right from ⟨q1, q2, q3, q4, q5, q6, fun h => absurd he h⟩)] at this
    · rw [if_pos (by simpa using he)]
      refine reply_Reply.ld hb2 ⟨_, cell_at hb2 rfl, _, cell_at hb2 rfl, fail_ok x.id rfl x.err fun h3 f3 => ⟨_, _, _, _, _, _, _, _, rfl, (reply_Reply.held (f3.get hb2 id)), ?_⟩⟩
      have f23 := f2.tt f3
      refine same_ok x (failR x.id x.err) (rx.frame f23 (fun _ _ => id)) (.inl rfl) fun h4 f4 => ⟨_, rfl, ?_⟩
      have e : decide (x.same (failR x.id x.err)) = decide x.Right := by
        unfold RD.same RD.Right failR
        simp [q1, q2, q3, q4, q5, q6, he]
      rw [e]
      exact hk h4 (f23.tt f4)
  clear hJ
  refine ⟨_, cell_at hb rfl, ?_⟩
  by_cases q1 : x.id ≤ 1099511627776
  · rw [if_neg (by simp; omega)]
    refine ⟨_, cell_at hb rfl, ?_⟩
    by_cases q2 : 0 ≤ x.err
    · rw [if_neg (by simp; omega)]
      refine ⟨_, cell_at hb rfl, ?_⟩
      by_cases q3 : x.err ≤ 99
      · rw [if_neg (by simp; omega)]
        refine ⟨_, cell_at hb rfl, _, cell_at hb rfl, newP_of ?_⟩
        refine within_ok (ns := [x.num, x.count]) row_new rfl (by simp) ⟨_, rfl, ?_⟩
        have f5 := f1.tt (Fr.push h1 (.cells #[.int .i64 x.num, .int .i64 x.count] T.int))
        have hb5 : At _ b x p c := (Fr.push (S := fun _ => False) h1 (.cells #[.int .i64 x.num, .int .i64 x.count] T.int)).get hb id
        generalize h1.push (.cells #[.int .i64 x.num, .int .i64 x.count] T.int) = h5 at *
        cases hin : [x.num, x.count].all inB with
        | false =>
          simp only [Bool.not_false, if_true]
          refine jt _ f5 fun hr => ?_
          obtain ⟨_, _, r3, r4, _⟩ := hr
          simp [inB, r3, r4] at hin
        | true =>
          simp only [Bool.not_true, Bool.false_eq_true, if_false]
          simp [inB] at hin
          refine ⟨_, cell_at hb5 rfl, ?_⟩
          by_cases q5 : x.token ≤ 2147483648
          · rw [if_neg (by simp; omega)]
            refine ⟨_, _, _, cell_at hb5 rfl, ?_⟩
            by_cases q6 : x.b.length ≤ 600
            · have : decide (((x.b.length : Nat) : Int) > 600) = false := by simp; omega
              rw [this]
              exact jf _ hb5 f5 q1 ⟨q2, q3⟩ hin.1 hin.2 q5 q6
            · have : decide (((x.b.length : Nat) : Int) > 600) = true := by simp; omega
              rw [this]
              exact jt _ f5 fun hr => q6 hr.2.2.2.2.2.1
          · rw [if_pos (by simp; omega)]
            exact jt _ f5 fun hr => q5 hr.2.2.2.2.1
      · rw [if_pos (by simp; omega)]
        exact jt _ f1 fun hr => q3 hr.2.1.2
    · rw [if_pos (by simp; omega)]
      exact jt _ f1 fun hr => q2 hr.2.1.1
  · rw [if_pos (by simp; omega)]
    exact jt _ f1 fun hr => q1 hr.1
theorem refRight_ok (x : RD) (hk : ∀ h', Fr (fun _ => False) h h' → R (.bool (decide x.Right)) h') : CallsH Try.prog F.ref17_Right #[val x p c] h R := by
  refine ref17_Right.walk (ref17_Reply.box fun b h1 _ hb f1 => JoinP.of fun J hJ => ?_)
  have hk := hk h1 f1
  have no : ¬ x.Right → R (.bool false) h1 := fun hn => by rwa [decide_eq_false hn] at hk
  have jt : ¬ x.Right → J true h1 := by
    intro hn
    subst hJ
    simp only [if_true]
    exact no hn
  have jf : x.id ≤ 1099511627776 → (0 ≤ x.err ∧ x.err ≤ 99) → J false h1 := by
    intro q1 q2
    subst hJ
    simp only [Bool.false_eq_true, if_false]
    refine ⟨_, cell_at hb rfl, ?_⟩
    by_cases he : x.err > 0
    · rw [if_pos (by simpa using he)]
      have he0 : x.err ≠ 0 := by omega
      refine ⟨_, cell_at hb rfl, ?_⟩
      by_cases z1 : x.num = 0
      · rw [if_pos (by simpa using z1)]
        refine ⟨_, cell_at hb rfl, ?_⟩
        by_cases z2 : x.count = 0
        · rw [if_pos (by simpa using z2)]
          refine ⟨_, cell_at hb rfl, ?_⟩
          by_cases z3 : x.token = 0
          · rw [if_pos (by simpa using z3)]
            refine ⟨_, _, _, cell_at hb rfl, ?_⟩
            have e : (((x.b.length : Nat) : Int) == 0) = decide x.Right := by
              by_cases z4 : x.b = []
              · rw [decide_eq_true (show x.Right from ⟨q1, q2, by omega, by omega, by omega, by rw [z4]; simp, fun _ => ⟨z1, z2, z3, z4⟩⟩), z4]; rfl
              · rw [decide_eq_false (fun hr => z4 (hr.2.2.2.2.2.2 he0).2.2.2)]
                simpa using z4
            rw [e]; exact hk
          · rw [if_neg (by simp; omega)]
            exact no fun hr => z3 (hr.2.2.2.2.2.2 he0).2.2.1
        · rw [if_neg (by simpa using z2)]
          exact no fun hr => z2 (hr.2.2.2.2.2.2 he0).2.1
      · rw [if_neg (by simpa using z1)]
        exact no fun hr => z1 (hr.2.2.2.2.2.2 he0).1
    · rw [if_neg (by simpa using he)]
      have he0 : x.err = 0 := by omega
      refine ⟨_, cell_at hb rfl, ?_⟩
      by_cases z1 : 0 ≤ x.num
      · rw [if_pos (by simpa using z1)]
        refine ⟨_, cell_at hb rfl, ?_⟩
        by_cases z2 : x.num ≤ 1099511627776
        · rw [if_pos (by simpa using z2)]
          refine ⟨_, cell_at hb rfl, ?_⟩
          by_cases z3 : 0 ≤ x.count
          · rw [if_pos (by simpa using z3)]
            refine ⟨_, cell_at hb rfl, ?_⟩
            by_cases z4 : x.count ≤ 1099511627776
            · rw [if_pos (by simpa using z4)]
              refine ⟨_, cell_at hb rfl, ?_⟩
              by_cases z5 : x.token ≤ 2147483648
              · rw [if_pos (by simp; omega)]
                refine ⟨_, _, _, cell_at hb rfl, ?_⟩
                have e : decide (((x.b.length : Nat) : Int) ≤ 600) = decide x.Right := by
                  by_cases z6 : x.b.length ≤ 600
                  · rw [decide_eq_true (show x.Right from ⟨q1, q2, ⟨z1, z2⟩, ⟨z3, z4⟩, z5, z6, fun h => absurd he0 h⟩)]; simp; omega
                  · rw [decide_eq_false (fun hr : x.Right => z6 hr.2.2.2.2.2.1)]; simp; omega
                rw [e]; exact hk
              · rw [if_neg (by simp; omega)]
                exact no fun hr => z5 hr.2.2.2.2.1
            · rw [if_neg (by simpa using z4)]
              exact no fun hr => z4 hr.2.2.2.1.2
          · rw [if_neg (by simpa using z3)]
            exact no fun hr => z3 hr.2.2.2.1.1
        · rw [if_neg (by simpa using z2)]
          exact no fun hr => z2 hr.2.2.1.2
      · rw [if_neg (by simpa using z1)]
        exact no fun hr => z1 hr.2.2.1.1
  clear hJ
  refine ⟨_, cell_at hb rfl, ?_⟩
  by_cases q2 : 0 ≤ x.err
  · rw [if_neg (by simp; omega)]
    refine ⟨_, cell_at hb rfl, ?_⟩
    by_cases q3 : x.err ≤ 99
    · rw [if_neg (by simp; omega)]
      refine ⟨_, cell_at hb rfl, ?_⟩
      by_cases q1 : x.id ≤ 1099511627776
      · have : decide ((x.id : Int) > 1099511627776) = false := by simp; omega
        rw [this]; exact jf q1 ⟨q2, q3⟩
      · have : decide ((x.id : Int) > 1099511627776) = true := by simp; omega
        rw [this]; exact jt fun hr => q1 hr.1
    · rw [if_pos (by simp; omega)]
      exact jt fun hr => q3 hr.2.1.2
  · rw [if_pos (by simp; omega)]
    exact jt fun hr => q2 hr.2.1.1

/-! ### written -/
theorem write_ok (x : RD) (rx : Row h p (bc x.b)) (k1 : x.Right → ∀ h' q d, Own h' q x.enc.length d 1 (bc x.enc) → Fr (fun _ => False) h h' → (∀ y, inBlk q y → h.size ≤ y) → R (.tuple #[.slice q x.enc.length d, .int .i64 0]) h')
    (k2 : ¬ x.Right → ∀ h', Fr (fun _ => False) h h' → R (.tuple #[.slice none 0 0, .int .i64 3]) h') : CallsH Try.prog F.reply_Write #[val x p c] h R := by
  refine reply_Write.walk (reply_Reply.box fun b h1 eb hb f1 => reply_Reply.ld hb ?_)
  refine right_ok x (rx.frame f1 (fun _ _ => id)) fun h2 f2 => ⟨_, rfl, ?_⟩
  by_cases hr : x.Right
  · rw [decide_eq_true hr]
    simp only [Bool.not_true, Bool.false_eq_true, if_false]
    obtain ⟨q1, ⟨q2, q2'⟩, ⟨q3, q3'⟩, ⟨q4, q4'⟩, q5, q6, _⟩ := id hr
    have hb2 := f2.get hb id
    have f02 := f1.tt f2
    refine ⟨_, cell_at hb2 rfl, _, cell_at hb2 rfl, _, cell_at hb2 rfl, _, cell_at hb2 rfl, _, cell_at hb2 rfl, _, _, _, cell_at hb2 rfl, ?_⟩
    refine new_ok fun h3 w S3 H3 f3 g3 => ⟨_, rfl, ?_⟩
    have b3 := f3.get hb2 id
    have u3 : Up h2 S3 h3 := ⟨f3, g3⟩
    have nb : ∀ {S : Nat → Prop} {h' : Heap}, Up h2 S h' → ¬ S b := fun u hx => by have := u.ge b hx; have := lt_of_get hb2; omega
    refine ⟨cell_at b3 rfl, cell_at b3 rfl, cell_at b3 rfl, cell_at b3 rfl, cell_at b3 rfl, cell_at b3 rfl, ?_⟩
    refine num_ok x.id H3 (by simp) rfl (by omega) fun h4 S4 H4 s4 => ⟨_, rfl, ?_⟩
    have b4 := s4.fr.get b3 (nb u3)
    have u4 := u3.step s4
    have l1 := (encNum_len x.id).2
    refine ⟨cell_at b4 rfl, cell_at b4 rfl, cell_at b4 rfl, cell_at b4 rfl, cell_at b4 rfl, ?_⟩
    refine int_ok H4 (by simp only [List.nil_append]; omega) (by omega) fun h5 S5 H5 s5 => ⟨_, rfl, ?_⟩
    have b5 := s5.fr.get b4 (nb u4)
    have u5 := u4.step s5
    have l2 := (encNum_len (natOf x.err)).2
    refine ⟨cell_at b5 rfl, cell_at b5 rfl, cell_at b5 rfl, cell_at b5 rfl, ?_⟩
    refine int_ok H5 (by simp only [List.nil_append, List.length_append]; omega) (by omega) fun h6 S6 H6 s6 => ⟨_, rfl, ?_⟩
    have b6 := s6.fr.get b5 (nb u5)
    have u6 := u5.step s6
    have l3 := (encNum_len (natOf x.num)).2
    refine ⟨cell_at b6 rfl, cell_at b6 rfl, cell_at b6 rfl, ?_⟩
    refine int_ok H6 (by simp only [List.nil_append, List.length_append]; omega) (by omega) fun h7 S7 H7 s7 => ⟨_, rfl, ?_⟩
    have b7 := s7.fr.get b6 (nb u6)
    have u7 := u6.step s7
    have l4 := (encNum_len (natOf x.count)).2
    refine ⟨cell_at b7 rfl, cell_at b7 rfl, ?_⟩
    refine num_ok x.token H7 (by simp only [List.nil_append, List.length_append]; omega) rfl (by omega) fun h8 S8 H8 s8 => ⟨_, rfl, ?_⟩
    have b8 := s8.fr.get b7 (nb u7)
    have u8 := u7.step s8
    have l5 := (encNum_len x.token).2
    have f08 := f02.tt u8.fr
    refine ⟨cell_at b8 rfl, ?_⟩
    refine text_ok' H8 (by simp only [List.nil_append, List.length_append]; omega) (rx.frame f08 (fun _ _ => id)) rfl (by omega) (fun y hy hne hS => ?_) fun h9 S9 H9 s9 => ⟨_, rfl, ?_⟩
    · have := row_lt rx (fun e => hne (List.map_eq_nil_iff.1 e)) hy
      have := u8.ge y hS
      have := f02.1
      omega
    have u9 := u8.step s9
    have he : [] ++ encNum x.id ++ encNum (natOf x.err) ++ encNum (natOf x.num) ++ encNum (natOf x.count) ++ encNum x.token ++ encText x.b = x.enc := rfl
    rw [he] at H9
    refine bytes_ok H9 (by have := enc_len q6; omega) fun q d h10 o10 f10 g10 => ⟨_, _, _, rfl, ?_⟩
    exact k1 hr h10 q d o10 (f02.tt (u9.fr.tt f10)) (fun y hy => by have := g10 y hy; have := (f02.tt u9.fr).1; omega)
  · rw [decide_eq_false hr]
    simp only [Bool.not_false, if_true]
    exact k2 hr h2 (f1.tt f2)

def rwI (h0 : Heap) (b b1 : Nat) (x : RD) (p : Option Addr) (c : Nat) (q : Option Addr) (l d : Nat) (i : Int) (h : Heap) : Prop :=
  ∃ (k : Nat) (o : List UInt8), i = (k : Int) ∧ k ≤ 4 ∧ l = o.length ∧ Own h q l d 1 (bc o) ∧ Up h0 (inBlk q) h ∧ o.length ≤ 10 * (k + 1) ∧ RAt h b x p c ∧ ¬ inBlk q b ∧ ¬ inBlk q b1 ∧
    h[b1]? = some (.cells #[.int .u64 (natOf x.err : Int), .int .u64 (natOf x.num : Int), .int .u64 (natOf x.count : Int), .int .u64 (x.token : Int)] T.uint64 (0, 0)) ∧
    o ++ ([natOf x.err, natOf x.num, natOf x.count, x.token].drop k).flatMap encNum = encNum x.id ++ encNum (natOf x.err) ++ encNum (natOf x.num) ++ encNum (natOf x.count) ++ encNum x.token
theorem refWrite_ok (x : RD) (rx : Row h p (bc x.b)) (hr : x.Right) (hk : ∀ h' q d, Own h' q x.enc.length d 1 (bc x.enc) → Fr (fun _ => False) h h' → R (.slice q x.enc.length d) h') : CallsH Try.prog F.ref17_Write #[val x p c] h R := by
  obtain ⟨q1, ⟨q2, q2'⟩, ⟨q3, q3'⟩, ⟨q4, q4'⟩, q5, q6, _⟩ := id hr
  have wn : ∀ {i : Int}, 0 ≤ i → i ≤ 1099511627776 → IntKind.wrap .u64 i = ((natOf i : Nat) : Int) := fun h1 h2 => by unfold natOf; rw [wrap_u64 h1 (by omega)]; omega
  refine ref17_Write.walk (ref17_Reply.box fun b h1 eb hb f1 => ⟨_, cell_at hb rfl, ?_⟩)
  refine refNum_ok x.id rfl (by omega) fun q d h2 o2 u2 => ⟨_, _, _, rfl, ?_⟩
  have hb2 := u2.fr.get hb id
  have f02 := f1.tt u2.fr
  refine ⟨_, cell_at hb2 rfl, _, cell_at hb2 rfl, _, cell_at hb2 rfl, _, cell_at hb2 rfl, newP_of ?_⟩
  rw [wn q2 (by omega), wn q3 q3', wn q4 q4']
  have f3 : Fr (fun _ => False) h2 (h2.push (.cells #[.int .u64 (natOf x.err : Int), .int .u64 (natOf x.num : Int), .int .u64 (natOf x.count : Int), .int .u64 (x.token : Int)] T.uint64)) := Fr.push _ _
  have hbq : ¬ inBlk q b := fun hx => by have := u2.ge b hx; have := lt_of_get hb; omega
  have hbq1 : ¬ inBlk q h2.size := fun hx => by have := o2.blk_lt hx; omega
  refine ⟨rwI h b h2.size x p c, fun _ _ _ i _ => 4 - i.toNat, ⟨0, encNum x.id, rfl, by omega, rfl, o2.frame f3 (fun _ _ => id), ⟨f02.tt f3, fun y hy => by have := u2.ge y hy; have := f1.1; omega⟩, by have := (encNum_len x.id).2; omega, f3.get hb2 id, hbq, hbq1, push_new, by simp⟩, ?_⟩
  generalize h2.size = b1 at *
  clear o2 u2 hb2 f02 f3 hbq hbq1 f1 hb eb
  rintro q l d i h4 ⟨k, o, rfl, hk4, rfl, own, u4, hol, hb4, nb, nb1, hb14, hcat⟩
  by_cases hlt : k < 4
  · have : (k : Int) < 4 := by omega
    simp only [this, decide_true, if_true]
    obtain ⟨n, hn, hn64⟩ : ∃ n : Nat, [natOf x.err, natOf x.num, natOf x.count, x.token][k]? = some n ∧ n < 18446744073709551616 := by
      match k, hlt with
      | 0, _ => exact ⟨_, rfl, by unfold natOf; omega⟩
      | 1, _ => exact ⟨_, rfl, by unfold natOf; omega⟩
      | 2, _ => exact ⟨_, rfl, by unfold natOf; omega⟩
      | 3, _ => exact ⟨_, rfl, by omega⟩
    have hcell : hcell h4 ((⟨b1, 0, none⟩ : Addr).add (Int.toNat (k : Int) * 1)) = some (.int .u64 (n : Int)) := by
      rw [Int.toNat_natCast, Nat.mul_one, add_blk, hcell_blk hb14]
      match k, hlt, hn with
      | 0, _, hn => simp at hn; subst hn; rfl
      | 1, _, hn => simp at hn; subst hn; rfl
      | 2, _, hn => simp at hn; subst hn; rfl
      | 3, _, hn => simp at hn; subst hn; rfl
    refine ⟨⟨by omega, by omega⟩, _, hcell, refNum_ok n rfl hn64 fun q5 d5 h5 o5 u5 => ⟨_, _, _, rfl, ?_⟩⟩
    have ln := (encNum_len n).2
    refine den_append tU uU (own.frame u5.fr (fun _ _ => id)) o5.row' (by rw [bc_len, Nat.mul_one]) (bc_one _) (by omega) (by omega) ?_
    intro q6 d6 h6 o6 _ f6 g6
    refine ⟨_, _, _, rfl, ?_⟩
    rw [wrap_id (by omega) (by omega)]
    have st : Step (inBlk q) h5 (inBlk q6) h6 := ⟨f6, g6⟩
    have hb5 := u5.fr.get hb4 id
    have hb15 := u5.fr.get hb14 id
    refine ⟨⟨k + 1, o ++ encNum n, by omega, by omega, by simp, by rw [bc_append]; exact o6, (u4.on u5.fr).step st, by rw [List.length_append]; omega, f6.get hb5 nb, ?_, ?_, f6.get hb15 nb1, ?_⟩, ?_⟩
    · exact fun hx => (g6 b hx).elim nb (fun h2 => by have := lt_of_get hb5; omega)
    · exact fun hx => (g6 b1 hx).elim nb1 (fun h2 => by have := lt_of_get hb15; omega)
    · rw [List.drop_eq_getElem_cons (by simpa using hlt)] at hcat
      have e : [natOf x.err, natOf x.num, natOf x.count, x.token][k]'(by simpa using hlt) = n := by
        rw [List.getElem?_eq_getElem (by simpa using hlt)] at hn; exact Option.some.inj hn
      rw [e, List.flatMap_cons, ← List.append_assoc] at hcat
      exact hcat
    · show 4 - Int.toNat ((k : Int) + 1) < 4 - Int.toNat (k : Int); omega
  · obtain rfl : k = 4 := by omega
    have : ¬ ((4 : Nat) : Int) < 4 := by omega
    simp only [this, decide_false, Bool.false_eq_true, if_false]
    have ho : o = encNum x.id ++ encNum (natOf x.err) ++ encNum (natOf x.num) ++ encNum (natOf x.count) ++ encNum x.token := by simpa using hcat
    refine ⟨_, _, _, cell_at hb4 rfl, refText_ok (rx.frame u4.fr (fun _ _ => id)) rfl (by omega) fun q7 d7 h7 o7 u7 => ⟨_, _, _, rfl, ?_⟩⟩
    have lt := (encNum_len x.b.length).2
    have e7 : (encText x.b).length = (encNum x.b.length).length + x.b.length := by unfold encText; rw [List.length_append]
    refine den_append tU uU (own.frame u7.fr (fun _ _ => id)) o7.row' (by rw [bc_len, Nat.mul_one]) (bc_one _) (by omega) (by omega) ?_
    intro q8 d8 h8 o8 _ f8 g8
    have he : o ++ encText x.b = x.enc := by rw [ho]; rfl
    have hl : o.length + (encText x.b).length = x.enc.length := by rw [← he, List.length_append]
    rw [← bc_append, he] at o8
    rw [hl] at o8 ⊢
    exact ⟨_, _, _, rfl, hk h8 q8 d8 o8 ((u4.on u7.fr).step ⟨f8, g8⟩).fr⟩

/-! ### read -/
theorem read_ok {bs : List UInt8} {n : Nat} (rb : Row h p (bc bs)) (hn : n = bs.length) (hl : bs.length ≤ 70368744177664)
    (k1 : ∀ x, decR bs = some x → ∀ h' q d, Own h' q x.b.length d 1 (bc x.b) → Fr (fun _ => False) h h' → (∀ y, inBlk q y → h.size ≤ y) → R (.tuple #[val x q d, .int .i64 0]) h')
    (k2 : decR bs = none → ∀ h', Fr (fun _ => False) h h' → R (.tuple #[val RD.zero none 0, .int .i64 3]) h') : CallsH Try.prog F.reply_Read #[.slice p n c] h R := by
  refine reply_Read.walk (reply_Reply.box (f5l := 0) fun b h1 eb hb f1 => ?_)
  refine Fld.read_ok (rb.frame f1 (fun _ _ => id)) hn hl fun h2 r T D2 f2 g2 => ⟨_, rfl, ?_⟩
  have u2 : Up h1 T h2 := ⟨f2, g2⟩
  refine rnum_ok D2 fun h3 D3 f3 => ⟨_, rfl, ?_⟩
  have u3 := u2.touch f3 (fun y e => e ▸ D2.self)
  have la := readNum_len 0 bs
  generalize hA : readNum 0 bs = A at D3 la ⊢
  obtain ⟨a, ae, ar⟩ := A
  dsimp only at D3 la ⊢
  refine rint_ok D3 fun h4 D4 f4 => ⟨_, rfl, ?_⟩
  have u4 := u3.touch f4 (fun y e => e ▸ D2.self)
  have lb : (readInt ae ar).2.2.length ≤ ar.length := readMost_len _ ae ar
  generalize hB : readInt ae ar = B at D4 lb ⊢
  obtain ⟨b', be, br⟩ := B
  dsimp only at D4 lb ⊢
  refine rint_ok D4 fun h5 D5 f5 => ⟨_, rfl, ?_⟩
  have u5 := u4.touch f5 (fun y e => e ▸ D2.self)
  have lc : (readInt be br).2.2.length ≤ br.length := readMost_len _ be br
  generalize hC : readInt be br = C at D5 lc ⊢
  obtain ⟨c', ce, cr⟩ := C
  dsimp only at D5 lc ⊢
  refine rint_ok D5 fun h6 D6 f6 => ⟨_, rfl, ?_⟩
  have u6 := u5.touch f6 (fun y e => e ▸ D2.self)
  have ld : (readInt ce cr).2.2.length ≤ cr.length := readMost_len _ ce cr
  generalize hD : readInt ce cr = D at D6 ld ⊢
  obtain ⟨d', de, dr⟩ := D
  dsimp only at D6 ld ⊢
  refine rnum_ok D6 fun h7 D7 f7 => ⟨_, rfl, ?_⟩
  have u7 := u6.touch f7 (fun y e => e ▸ D2.self)
  have lf := readNum_len de dr
  generalize hF : readNum de dr = F at D7 lf ⊢
  obtain ⟨f', fe, fr⟩ := F
  dsimp only at D7 lf ⊢
  refine rtext_ok D7 (by omega) fun h8 q d D8 o8 g8 f8 => ⟨_, _, _, rfl, ?_⟩
  have u8 := u7.touch f8 (fun y e => e ▸ D2.self)
  generalize hG : readText fe fr = G at D8 o8 ⊢
  obtain ⟨g', ge, gr⟩ := G
  dsimp only at D8 o8 ⊢
  have hX : rdR 1099511627776 readMost bs = ⟨⟨a, b', c', d', f', g'⟩, ge, gr⟩ := by
    unfold readInt at hB hC hD
    unfold rdR
    simp only [hA, hB, hC, hD, hF, hG]
  have hdec : decR bs = fromR ⟨⟨a, b', c', d', f', g'⟩, ge, gr⟩ := by unfold decR; rw [hX]
  clear hX hA hB hC hD hF hG la lb lc ld lf D3 D4 D5 D6 D7 f3 f4 f5 f6 f7 f8
  generalize hx : (⟨a, b', c', d', f', g'⟩ : RD) = x at *
  have e0 : a = x.id := by rw [← hx]
  have e1 : (b' : Int) = x.err := by rw [← hx]
  have e2 : (c' : Int) = x.num := by rw [← hx]
  have e3 : (d' : Int) = x.count := by rw [← hx]
  have e4 : f' = x.token := by rw [← hx]
  have e5 : g' = x.b := by rw [← hx]
  rw [e0, e1, e2, e3, e4, e5]
  rw [e5] at o8
  clear hx e0 e1 e2 e3 e4 e5
  refine reply_Reply.new fun b1 h15 eb1 hb1 f15 => ?_
  have hb15 : At h15 b RD.zero none 0 := f15.get (u8.fr.get hb id) id
  have F15 : Fr (fun _ => False) h h15 := f1.tt (u8.fr.tt f15)
  have o15 := o8.frame f15 (fun _ _ => id)
  have gq : ∀ y, inBlk q y → h1.size ≤ y := fun y hy => by have := g8 y hy; have := u7.fr.1; omega
  have bne : b ≠ b1 := fun e => by have := lt_of_get (u8.fr.get hb id); omega
  have hbl : b < h1.size := lt_of_get hb
  refine JoinP.of fun J hJ => ?_
  have jt : fromR ⟨x, ge, gr⟩ = none → ∀ h16, At h16 b RD.zero none 0 → Fr (fun _ => False) h h16 → J true h16 := by
    intro hn h16 hb16 f16
    subst hJ
    simp only [if_true]
    refine reply_Reply.set hb16 fun h22 hb22 s22 o22 => reply_Reply.ld hb22 ?_
    exact k2 (hdec.trans hn) h22 (f16.step (Fr.of_eq (S := fun y => y = b) s22 o22) (fun y hy e => by omega))
  have jf : fromR ⟨x, ge, gr⟩ = some x → ∀ h16, At h16 b RD.zero none 0 → At h16 b1 x q d → Own h16 q x.b.length d 1 (bc x.b) → Fr (fun _ => False) h h16 → J false h16 := by
    intro hs h16 hb16 hb116 o16 f16
    subst hJ
    simp only [Bool.false_eq_true, if_false]
    refine reply_Reply.ld hb116 (reply_Reply.set hb16 fun h28 hb28 s28 o28 => reply_Reply.ld hb28 ?_)
    have f28 : Fr (fun y => y = b) h16 h28 := Fr.of_eq s28 o28
    refine k1 x (hdec.trans hs) h28 q d (o16.frame f28 (fun y hy e => ?_)) (f16.step f28 (fun y hy e => by omega)) (fun y hy => ?_)
    · have := gq y hy; omega
    · have := gq y hy; have := f1.1; omega
  clear hJ
  refine rend_ok (D8.frame f15 (fun _ _ => id)) ⟨_, rfl, ?_⟩
  by_cases he : readEnd ge gr = 0
  · rw [if_neg (by simpa using he)]
    refine reply_Reply.ld hb1 (right_ok x o15.row' fun h30 f30 => ⟨_, rfl, ?_⟩)
    by_cases hr : x.Right
    · rw [decide_eq_true hr]
      exact jf (by unfold fromR; rw [if_pos ⟨he, hr⟩]) h30 (f30.get hb15 id) (f30.get hb1 id) (o15.frame f30 (fun _ _ => id)) (F15.tt f30)
    · rw [decide_eq_false hr]
      exact jt (by unfold fromR; rw [if_neg (fun hh => hr hh.2)]) h30 (f30.get hb15 id) (F15.tt f30)
  · rw [if_pos (by simpa using he)]
    exact jt (by unfold fromR; rw [if_neg (fun hh => he hh.1)]) h15 hb15 F15

theorem refRead_ok {bs : List UInt8} {n : Nat} (rb : Row h p (bc bs)) (hn : n = bs.length) (hc : bs.length ≤ c) (hl : bs.length ≤ 1099511627776)
    (k1 : ∀ x, decR bs = some x → ∀ h' q d, Row h' q (bc x.b) → Fr (fun _ => False) h h' → R (.tuple #[val x q d, .bool true]) h')
    (k2 : decR bs = none → ∀ h', Fr (fun _ => False) h h' → R (.tuple #[val RD.zero none 0, .bool false]) h') : CallsH Try.prog F.ref17_Read #[.slice p n c] h R := by
  subst hn
  refine ref17_Read.walk (ref17_Reply.box (f5l := 0) fun b h1 eb hb f1 => newP_of ?_)
  have f2 : Fr (fun _ => False) h1 (h1.push (.cells #[.slice p bs.length c, .int .i64 0, .int .i64 0] T.ref15_Reader)) := Fr.push _ _
  have D2 : RR (h1.push (.cells #[.slice p bs.length c, .int .i64 0, .int .i64 0] T.ref15_Reader)) h1.size (fun y => y < h.size) 0 bs :=
    RR.mk push_new (rb.frame (f1.tt f2) (fun _ _ => id)) (fun hne hx => by have := row_lt rb (fun e => hne (List.map_eq_nil_iff.1 e)) hx; have := f1.1; omega) hc hl (fun hne y hy => row_lt rb (fun e => hne (List.map_eq_nil_iff.1 e)) hy)
  generalize hh2 : h1.push (.cells #[.slice p bs.length c, .int .i64 0, .int .i64 0] T.ref15_Reader) = h2 at *
  have u2 : Up h1 (fun y => y = h1.size) h2 := ⟨f2, fun y e => by omega⟩
  generalize hr1 : h1.size = r at D2 u2 ⊢
  refine rrnum_ok D2 fun h3 D3 f3 => ⟨_, rfl, ?_⟩
  have u3 := u2.touch f3 (fun y e => e)
  generalize hA : readNum 0 bs = A at D3 ⊢
  obtain ⟨a, ae, ar⟩ := A
  dsimp only at D3 ⊢
  refine rrmost_ok 99 rfl D3 fun h4 D4 f4 => ⟨_, rfl, ?_⟩
  have u4 := u3.touch f4 (fun y e => e)
  have lb : (readMost' 99 ae ar).1 ≤ 99 := by rw [readMost'_all]; exact readMost_le _ _ _
  generalize hB : readMost' 99 ae ar = B at D4 lb ⊢
  obtain ⟨b', be, br⟩ := B
  dsimp only at D4 lb ⊢
  refine rrmost_ok 1099511627776 rfl D4 fun h5 D5 f5 => ⟨_, rfl, ?_⟩
  have u5 := u4.touch f5 (fun y e => e)
  have lc : (readMost' 1099511627776 be br).1 ≤ 1099511627776 := by rw [readMost'_all]; exact readMost_le _ _ _
  generalize hC : readMost' 1099511627776 be br = C at D5 lc ⊢
  obtain ⟨c', ce, cr⟩ := C
  dsimp only at D5 lc ⊢
  refine rrmost_ok 1099511627776 rfl D5 fun h6 D6 f6 => ⟨_, rfl, ?_⟩
  have u6 := u5.touch f6 (fun y e => e)
  have ld : (readMost' 1099511627776 ce cr).1 ≤ 1099511627776 := by rw [readMost'_all]; exact readMost_le _ _ _
  generalize hD : readMost' 1099511627776 ce cr = D at D6 ld ⊢
  obtain ⟨d', de, dr⟩ := D
  dsimp only at D6 ld ⊢
  refine rrnum_ok D6 fun h7 D7 f7 => ⟨_, rfl, ?_⟩
  have u7 := u6.touch f7 (fun y e => e)
  generalize hF : readNum de dr = F at D7 ⊢
  obtain ⟨f', fe, fr⟩ := F
  dsimp only at D7 ⊢
  refine rrtext_ok D7 fun h8 q d D8 o8 _ g8 f8 => ⟨_, _, _, rfl, ?_⟩
  have u8 := u7.touch f8 (fun y e => e)
  generalize hG : readText fe fr = G at D8 o8 g8 ⊢
  obtain ⟨g', ge, gr⟩ := G
  dsimp only at D8 o8 g8 ⊢
  have hX : rdR 99 readMost' bs = ⟨⟨a, b', c', d', f', g'⟩, ge, gr⟩ := by
    unfold rdR
    simp only [hA, hB, hC, hD, hF, hG]
  have hdec : decR bs = fromR ⟨⟨a, b', c', d', f', g'⟩, ge, gr⟩ := by rw [← decR'_eq]; unfold decR'; rw [hX]
  rw [wrap_id (n := (b' : Int)) (by omega) (by omega), wrap_id (n := (c' : Int)) (by omega) (by omega), wrap_id (n := (d' : Int)) (by omega) (by omega)]
  clear hX hA hB hC hD hF hG lb lc ld D3 D4 D5 D6 D7 f3 f4 f5 f6 f7 f8
  generalize hx : (⟨a, b', c', d', f', g'⟩ : RD) = x at *
  have e0 : a = x.id := by rw [← hx]
  have e1 : (b' : Int) = x.err := by rw [← hx]
  have e2 : (c' : Int) = x.num := by rw [← hx]
  have e3 : (d' : Int) = x.count := by rw [← hx]
  have e4 : f' = x.token := by rw [← hx]
  have e5 : g' = x.b := by rw [← hx]
  rw [e0, e1, e2, e3, e4, e5]
  rw [e5] at o8 g8
  clear hx e0 e1 e2 e3 e4 e5
  refine ref17_Reply.new fun b1 h15 eb1 hb1 f15 => ?_
  have hb15 : RAt h15 b RD.zero none 0 := f15.get (u8.fr.get hb id) id
  have F15 : Fr (fun _ => False) h h15 := f1.tt (u8.fr.tt f15)
  have o15 := o8.frame f15 (fun _ _ => id)
  have bne : b ≠ b1 := fun e => by have := lt_of_get (u8.fr.get hb id); omega
  have hbl : b < h1.size := lt_of_get hb
  -- a row that is not empty is not in the new block b
  have nb : bc x.b ≠ [] → ∀ y, inBlk q y → y ≠ b := fun hne y hy e => by
    have := g8 (bc_ne hne) y hy
    omega
  refine JoinP.of fun J hJ => ?_
  have jt : fromR ⟨x, ge, gr⟩ = none → ∀ h16, RAt h16 b RD.zero none 0 → Fr (fun _ => False) h h16 → J true h16 := by
    intro hn h16 hb16 f16
    subst hJ
    simp only [if_true]
    refine ref17_Reply.set hb16 fun h22 hb22 s22 o22 => ref17_Reply.ld hb22 ?_
    exact k2 (hdec.trans hn) h22 (f16.step (Fr.of_eq (S := fun y => y = b) s22 o22) (fun y hy e => by omega))
  have jf : fromR ⟨x, ge, gr⟩ = some x → ∀ h16, RAt h16 b RD.zero none 0 → RAt h16 b1 x q d → Row h16 q (bc x.b) → Fr (fun _ => False) h h16 → J false h16 := by
    intro hs h16 hb16 hb116 o16 f16
    subst hJ
    simp only [Bool.false_eq_true, if_false]
    refine ref17_Reply.ld hb116 (ref17_Reply.set hb16 fun h28 hb28 s28 o28 => ref17_Reply.ld hb28 ?_)
    have f28 : Fr (fun y => y = b) h16 h28 := Fr.of_eq s28 o28
    exact k1 x (hdec.trans hs) h28 q d (Row.keep o16 f28 (fun hne y hy => nb hne y hy)) (f16.step f28 (fun y hy e => by omega))
  clear hJ
  refine rrend_ok (D8.on f15) ⟨_, rfl, ?_⟩
  by_cases he : readEnd ge gr = 0
  · rw [if_neg (by simpa using he)]
    refine ref17_Reply.ld hb1 (refRight_ok x fun h30 f30 => ⟨_, rfl, ?_⟩)
    by_cases hr : x.Right
    · rw [decide_eq_true hr]
      exact jf (by unfold fromR; rw [if_pos ⟨he, hr⟩]) h30 (f30.get hb15 id) (f30.get hb1 id) (o15.frame f30 (fun _ _ => id)) (F15.tt f30)
    · rw [decide_eq_false hr]
      exact jt (by unfold fromR; rw [if_neg (fun hh => hr hh.2)]) h30 (f30.get hb15 id) (F15.tt f30)
  · rw [if_pos (by simpa using he)]
    exact jt (by unfold fromR; rw [if_neg (fun hh => he hh.1)]) h15 hb15 F15
end Rep
end Go.Proofs.Ytopoaalbfdblnaa
