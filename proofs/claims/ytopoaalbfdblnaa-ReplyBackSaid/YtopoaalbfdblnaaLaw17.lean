/-
  What is proved here: the fixed calls of layer 17 ('alive'); the laws ReplyTells and ReplyBack on heaps. No condition.
-/
import Derived.Test.YtopoaalbfdblnaaReply
import Derived.Test.YtopoaalbfdblnaaVcD
namespace Go.Proofs.Ytopoaalbfdblnaa
open Go.Den Go.Fields
namespace Rep
open Fld
variable {h h0 : Heap} {R : Value → Heap → Prop} {p q : Option Addr} {c d : Nat}

/-- what a read tells -/
def decZ (bs : List UInt8) : RD := (decR bs).getD RD.zero
def decE (bs : List UInt8) : Int := if (decR bs).isSome = true then 0 else 3
theorem read_all {bs : List UInt8} {n : Nat} (rb : Row h p (bc bs)) (hn : n = bs.length) (hl : bs.length ≤ 70368744177664)
    (hk : ∀ h' q d, Row h' q (bc (decZ bs).b) → Fr (fun _ => False) h h' → R (.tuple #[val (decZ bs) q d, .int .i64 (decE bs)]) h') : CallsH Try.prog F.reply_Read #[.slice p n c] h R := by
  unfold decZ decE at hk
  refine read_ok rb hn hl (fun x hx h' q d o f _ => ?_) (fun hx h' f => ?_)
  · rw [hx] at hk; exact hk h' q d o.row' f
  · rw [hx] at hk; exact hk h' none 0 (.inl rfl) f
theorem refRead_all {bs : List UInt8} {n : Nat} (rb : Row h p (bc bs)) (hn : n = bs.length) (hc : bs.length ≤ c) (hl : bs.length ≤ 1099511627776)
    (hk : ∀ h' q d, Row h' q (bc (decZ bs).b) → Fr (fun _ => False) h h' → R (.tuple #[val (decZ bs) q d, .bool (decR bs).isSome]) h') : CallsH Try.prog F.ref17_Read #[.slice p n c] h R := by
  unfold decZ at hk
  refine refRead_ok rb hn hc hl (fun x hx h' q d o f => ?_) (fun hx h' f => ?_)
  · rw [hx] at hk; exact hk h' q d o f
  · rw [hx] at hk; exact hk h' none 0 (.inl rfl) f
/-- what a write tells -/
def encZ (x : RD) : List UInt8 := if x.Right then x.enc else []
def encE (x : RD) : Int := if x.Right then 0 else 3
theorem encZ_len (x : RD) : (encZ x).length ≤ 700 := by
  unfold encZ
  split
  · rename_i hr; exact enc_len hr.2.2.2.2.2.1
  · simp
theorem write_all (x : RD) (rx : Row h p (bc x.b)) (hk : ∀ h' q d, Row h' q (bc (encZ x)) → (encZ x).length ≤ d → Fr (fun _ => False) h h' → R (.tuple #[.slice q (encZ x).length d, .int .i64 (encE x)]) h') : CallsH Try.prog F.reply_Write #[val x p c] h R := by
  unfold encZ encE at hk
  refine write_ok x rx (fun hr h' q d o f _ => ?_) (fun hr h' f => ?_)
  · simp only [hr, if_true] at hk; exact hk h' q d o.row' o.le f
  · simp only [hr, if_false] at hk; exact hk h' none 0 (.inl rfl) (by simp) f
theorem as_ok (x : RD) (hk : ∀ h', Fr (fun _ => False) h h' → R (val x p c) h') : CallsH Try.prog F.law17_As #[val x p c] h R := by
  refine law17_As.walk (reply_Reply.box fun b h1 eb hb f1 => newP_of ?_)
  have hb2 : At _ b x p c := (Fr.push (S := fun _ => False) h1 (.cells #[.int .u64 0, .int .i64 0, .int .i64 0, .int .i64 0, .int .u64 0, .slice none 0 0] T.ref17_Reply)).get hb id
  refine ⟨_, cell_at hb2 rfl, _, cell_at hb2 rfl, _, cell_at hb2 rfl, _, cell_at hb2 rfl, _, cell_at hb2 rfl, _, _, _, cell_at hb2 rfl, ?_⟩
  have := ref17_Reply.new (h := h1) (f0 := (x.id : Int)) (f1 := x.err) (f2 := x.num) (f3 := x.count) (f4 := (x.token : Int)) (f5p := p) (f5l := x.b.length) (f5c := c) (K := fun b1 h8 =>
    ∃ (r_0 : Int), hcell h8 ⟨b1, 0, none⟩ = some (.int .u64 r_0) ∧ ∃ (r_1 : Int), hcell h8 ⟨b1, 1, none⟩ = some (.int .i64 r_1) ∧ ∃ (r_2 : Int), hcell h8 ⟨b1, 2, none⟩ = some (.int .i64 r_2) ∧ ∃ (r_3 : Int), hcell h8 ⟨b1, 3, none⟩ = some (.int .i64 r_3) ∧
      ∃ (r_4 : Int), hcell h8 ⟨b1, 4, none⟩ = some (.int .u64 r_4) ∧ ∃ (r_5_p : Option Addr) (r_5_l r_5_c : Nat), hcell h8 ⟨b1, 5, none⟩ = some (.slice r_5_p r_5_l r_5_c) ∧
      R (.agg #[.int .u64 r_0, .int .i64 r_1, .int .i64 r_2, .int .i64 r_3, .int .u64 r_4, .slice r_5_p r_5_l r_5_c]) h8)
    (fun b1 h8 eb1 hb1 f8 => ref17_Reply.ld hb1 (hk h8 (f1.tt f8)))
  exact this _ _ rfl rfl

theorem alive_ok (hk : ∀ h', Fr (fun _ => False) h h' → R (.bool true) h') : CallsH Try.prog F.law17_alive #[] h R := by
  refine law17_alive.walk (write_all ⟨5, 0, 300, 0, 0, []⟩ (.inl rfl) fun h1 q1 d1 r1 _ f1 => ⟨_, _, _, _, rfl, ?_⟩)
  have e1 : encZ ⟨5, 0, 300, 0, 0, []⟩ = [5, 0, 172, 2, 0, 0, 0] := rfl
  have e1' : encE ⟨5, 0, 300, 0, 0, []⟩ = 0 := rfl
  rw [e1] at r1 ⊢
  rw [e1']
  refine read_all r1 rfl (by simp) fun h2 q2 d2 r2 f2 => ⟨_, _, _, _, _, _, _, _, _, rfl, ?_⟩
  have e2 : decZ [5, 0, 172, 2, 0, 0, 0] = ⟨5, 0, 300, 0, 0, []⟩ := rfl
  have e2' : decE [5, 0, 172, 2, 0, 0, 0] = 0 := rfl
  rw [e2, e2']
  refine reply_Reply.new fun b h9 eb hb f9 => newP_of ?_
  have hp10 : Fr (fun _ => False) h9 (h9.push (.cells #[.int .u8 5, .int .u8 4, .int .u8 1, .int .u8 0, .int .u8 0, .int .u8 0] T.uint8)) := Fr.push _ _
  refine read_all (bs := [5, 4, 1, 0, 0, 0]) row_new rfl (by simp) fun h11 q11 d11 r11 f11 => ⟨_, _, _, _, _, _, _, _, _, rfl, ?_⟩
  have e3' : decE [5, 4, 1, 0, 0, 0] = 3 := rfl
  rw [e3']
  refine reply_Reply.new fun b2 h18 eb2 hb2 f18 => ?_
  refine fail_ok 3 rfl 4 fun h19 f19 => ⟨_, _, _, _, _, _, _, _, rfl, ?_⟩
  refine reply_Reply.new fun b3 h26 eb3 hb3 f26 => ?_
  refine write_all ⟨0, 0, -1, 0, 0, []⟩ (.inl rfl) fun h27 q27 d27 r27 _ f27 => ⟨_, _, _, _, rfl, ?_⟩
  have e4 : encE ⟨0, 0, -1, 0, 0, []⟩ = 3 := rfl
  rw [e4]
  have F9 : Fr (fun _ => False) h9 h27 := hp10.tt (f11.tt (f18.tt (f19.tt (f26.tt f27))))
  refine ⟨_, conv (r1.frame (f2.tt (f9.tt F9)) (fun _ _ => id)) rfl, ?_⟩
  rw [str_list]
  have c1 : (([5, 0, 172, 2, 0, 0, 0] : List UInt8) == (⟨#[5, 0, 172, 2, 0, 0, 0]⟩ : ByteArray).toList) = true := by rw [toList_data]; rfl
  rw [if_pos c1, if_pos (by rfl)]
  refine ⟨_, cell_at (F9.get hb id) rfl, ?_⟩
  rw [if_pos (by rfl), if_pos (by rfl), if_pos (by rfl)]
  have hb3' := f27.get hb3 id
  refine ⟨_, cell_at hb3' rfl, ?_⟩
  rw [if_pos (by rfl)]
  refine ⟨_, cell_at hb3' rfl, ?_⟩
  rw [if_pos (by rfl)]
  exact hk h27 (f1.tt (f2.tt (f9.tt F9)))

/-! ### what the laws are handed -/
theorem rd_tl : tleaves Try.prog 5 T.reply_Reply = some [T.uint64, T.api_Errno, T.int, T.int, T.uint64, T.s_uint8] := by kernel_rfl
theorem RokV.le {P : Program} {t e : TypeId} {p : Option Addr} {l c : Nat} (ht : P.underlying t = some (.slice e)) (hv : RokV P h t (.slice p l c)) : l ≤ c := by
  obtain ⟨n, hn⟩ := hv
  cases n with
  | zero => exact hn.elim
  | succ n =>
    unfold Rok at hn
    rw [ht] at hn
    rcases hn with hc | ⟨a, l', c', hc, hl, _⟩
    · simp [Value.cells] at hc; omega
    · simp [Value.cells] at hc; omega
theorem reply_arg {cs : Array Value} (hs : cs.size = Try.prog.cellsOf T.reply_Reply) (hv : RokV Try.prog h T.reply_Reply (.agg cs)) : ∃ (x : RD) (p : Option Addr) (c : Nat), Value.agg cs = val x p c ∧ Row h p (bc x.b) ∧ x.id < 18446744073709551616 ∧ x.token < 18446744073709551616 := by
  obtain ⟨n, hn⟩ := hv
  have hs6 : cs.toList.length = 6 := by rw [Array.length_toList, hs]; kernel_rfl
  have L := tleaves_ok 5 n _ _ cs.toList rd_tl (by rw [hs6]; rfl) hn
  obtain ⟨l, rfl⟩ : ∃ l : List Value, cs = l.toArray := ⟨cs.toList, by simp⟩
  simp only [List.toList_toArray] at L hs6
  match l, hs6 with
  | [a, b, c, d, e, s], _ =>
    obtain ⟨k, rfl, w1⟩ := L.int 0 rfl rfl (k := .u64) (by kernel_rfl)
    obtain ⟨x, rfl, _⟩ := L.int 1 rfl rfl (k := .i64) (by kernel_rfl)
    obtain ⟨y, rfl, _⟩ := L.int 2 rfl rfl (k := .i64) (by kernel_rfl)
    obtain ⟨z, rfl, _⟩ := L.int 3 rfl rfl (k := .i64) (by kernel_rfl)
    obtain ⟨t, rfl, w2⟩ := L.int 4 rfl rfl (k := .u64) (by kernel_rfl)
    obtain ⟨m, hm⟩ := L.get 5 rfl rfl
    obtain ⟨p, q, bs, rfl, hrow⟩ := Rok.bytes (by kernel_rfl) u8 uU hm
    have w1 := wf_u64 w1
    have w2 := wf_u64 w2
    obtain ⟨k, rfl⟩ := Int.eq_ofNat_of_zero_le w1.1
    obtain ⟨t, rfl⟩ := Int.eq_ofNat_of_zero_le w2.1
    exact ⟨⟨k, x, y, z, t, bs⟩, p, q, rfl, hrow, by show k < _; omega, by show t < _; omega⟩

set_option maxRecDepth 100000 in
theorem _root_.Go.Proofs.Ytopoaalbfdblnaa.replyTells_ok (xs ys : Array Value) (bp : Option Addr) (bl bcap : Nat) (e : Int) (sx : xs.size = Try.prog.cellsOf T.reply_Reply) (hx : RokV Try.prog h T.reply_Reply (.agg xs)) (sy : ys.size = Try.prog.cellsOf T.reply_Reply) (hy : RokV Try.prog h T.reply_Reply (.agg ys))
    (hb : RokV Try.prog h T.s_uint8 (.slice bp bl bcap)) (we : (Lit.int .i64 e).wf = true) : LawH Try.prog F.law17_ReplyTells #[.agg xs, .agg ys, .slice bp bl bcap, .int .i64 e] h := by
  obtain ⟨x, xp, xc, ex, rx, _, _⟩ := reply_arg sx hx
  obtain ⟨y, yp, yc, ey, ry, _, _⟩ := reply_arg sy hy
  have hcap := RokV.le uU hb
  obtain ⟨bs, rfl, rb⟩ := RokV.bytes (by kernel_rfl) u8 uU hb
  rw [ex, ey]
  clear hx hy hb sx sy ex ey
  unfold LawH
  generalize hR : (fun (v : Value) h' => v = .bool true ∧ Fr (fun _ => False) h h') = R
  have hk : ∀ h', Fr (fun _ => False) h h' → R (.bool true) h' := fun h' hf => by rw [← hR]; exact ⟨rfl, hf⟩
  clear hR
  refine law17_ReplyTells.walk (reply_Reply.box fun b h1 eb hb f1 => reply_Reply.box fun b1 h2 eb1 hb1 f2 => ?_)
  have f02 := f1.tt f2
  have hb2 := f2.get hb id
  refine JoinP.of fun J hJ => ?_
  have jt : J true h2 := by
    subst hJ
    simp only [if_true]
    exact alive_ok fun h4 f4 => ⟨_, rfl, hk h4 (f02.tt f4)⟩
  have jf : bs.length ≤ 1000 → J false h2 := by
    intro hbl
    subst hJ
    simp only [Bool.false_eq_true, if_false]
    refine reply_Reply.ld hb2 (as_ok x fun h5 f5 => ⟨_, _, _, _, _, _, _, _, rfl, ?_⟩)
    refine ref17_Reply.new fun b2 h12 eb2 hb12 f12 => ?_
    have f2a := f5.tt f12
    refine reply_Reply.ld (f2a.get hb2 id) ?_
    have F12 := f02.tt f2a
    refine write_all x (rx.frame F12 (fun _ _ => id)) fun h13 q13 d13 r13 _ f13 => ⟨_, _, _, _, rfl, ?_⟩
    refine read_all (rb.frame (F12.tt f13) (fun _ _ => id)) rfl (by omega) fun h14 q14 d14 r14 f14 => ⟨_, _, _, _, _, _, _, _, _, rfl, ?_⟩
    refine reply_Reply.new fun b3 h21 eb3 hb3 f21 => ?_
    have F21 := F12.tt (f13.tt (f14.tt f21))
    refine refRead_all (rb.frame F21 (fun _ _ => id)) rfl hcap (by omega) fun h22 q22 d22 r22 f22 => ⟨_, _, _, _, _, _, _, _, _, rfl, ?_⟩
    refine ref17_Reply.new fun b4 h29 eb4 hb4 f29 => ?_
    have F29 := F21.tt (f22.tt f29)
    have a0 : At h29 b x xp xc := (f2a.tt (f13.tt (f14.tt (f21.tt (f22.tt f29))))).get hb2 id
    have a1 : At h29 b1 y yp yc := (f2a.tt (f13.tt (f14.tt (f21.tt (f22.tt f29))))).get hb1 id
    have a2 : RAt h29 b2 x xp xc := (f13.tt (f14.tt (f21.tt (f22.tt f29)))).get hb12 id
    have a3 : At h29 b3 (decZ bs) q14 d14 := (f22.tt f29).get hb3 id
    have a4 : RAt h29 b4 (decZ bs) q22 d22 := hb4
    have r3 := r14.frame (f21.tt (f22.tt f29)) (fun _ _ => id)
    have r4 := r22.frame f29 (fun _ _ => id)
    have rc := r13.frame (f14.tt (f21.tt (f22.tt f29))) (fun _ _ => id)
    clear hb12 hb3 hb4 r14 r22 r13
    refine JoinP.of fun J1 hJ1 => ?_
    have fin : ∀ h30, Fr (fun _ => False) h29 h30 → J1 false h30 := by
      intro h30 f30
      subst hJ1
      simp only [Bool.false_eq_true, if_false]
      have a2' : RAt h30 b2 x xp xc := f30.get a2 id
      refine ref17_Reply.ld a2' (refRight_ok x fun h31 f31 => ⟨_, rfl, ?_⟩)
      have F31 := F29.tt (f30.tt f31)
      by_cases hr : x.Right
      · simp only [hr, decide_true, Bool.not_true, Bool.false_eq_true, if_false]
        refine alive_ok fun h33 f33 => ⟨_, rfl, ?_⟩
        have F33 := F31.tt f33
        have rc33 := rc.frame (f30.tt (f31.tt f33)) (fun _ _ => id)
        simp only [if_true]
        have ee : encE x = 0 := by unfold encE; rw [if_pos hr]
        have ez : encZ x = x.enc := by unfold encZ; rw [if_pos hr]
        rw [ee, if_pos (by rfl)]
        refine ⟨_, conv rc33 rfl, ref17_Reply.ld ((f31.tt f33).get a2' id) ?_⟩
        refine refWrite_ok x (rx.frame F33 (fun _ _ => id)) hr fun h34 q34 d34 o34 f34 => ⟨_, _, _, rfl, conv (rc33.frame f34 (fun _ _ => id)) rfl, _, conv o34.row' rfl, ?_⟩
        rw [str_list, str_list, ez]
        simp only [beq_self_eq_true]
        exact hk h34 (F33.tt f34)
      · simp only [hr, decide_false, Bool.not_false, if_true]
        refine alive_ok fun h33 f33 => ⟨_, rfl, ?_⟩
        simp only [if_true]
        have ee : encE x = 3 := by unfold encE; rw [if_neg hr]
        have ez : encZ x = [] := by unfold encZ; rw [if_neg hr]
        rw [ee, ez, if_pos (by rfl)]
        exact hk h33 (F31.tt f33)
    clear hJ1
    refine reply_Reply.ld a0 (ref17_Reply.ld a2 ?_)
    refine right_ok x (rx.frame F29 (fun _ _ => id)) fun h35 f35 => ⟨_, rfl, ref17_Reply.held (f35.get a2 id), ?_⟩
    refine refRight_ok x fun h36 f36 => ⟨_, rfl, ?_⟩
    rw [if_neg (by simp)]
    have g36 := f35.tt f36
    refine reply_Reply.ld (g36.get a3 id) (ref17_Reply.ld (g36.get a4 id) ?_)
    refine as_ok (decZ bs) fun h37 f37 => ⟨_, _, _, _, _, _, _, _, rfl, ref17_Reply.held ((g36.tt f37).get a4 id), ?_⟩
    have g37 := g36.tt f37
    refine refSame_ok (decZ bs) (decZ bs) (r3.frame g37 (fun _ _ => id)) (r4.frame g37 (fun _ _ => id)) fun h38 f38 => ⟨_, rfl, ?_⟩
    have g38 := g37.tt f38
    rw [decide_eq_true (RD.same_iff.2 rfl)]
    simp only [Bool.not_true, Bool.false_eq_true, if_false]
    have hE : ((decE bs == 0) == (decR bs).isSome) = true := by
      unfold decE; cases (decR bs).isSome <;> rfl
    rw [hE]
    simp only [Bool.not_true, Bool.false_eq_true, if_false]
    cases hok : (decR bs).isSome with
    | false =>
      have hE3 : decE bs = 3 := by unfold decE; rw [hok]; rfl
      simp only [Bool.not_false, if_true]
      rw [hE3, if_neg (by simp)]
      refine reply_Reply.ld (g38.get a0 id) (reply_Reply.ld (g38.get a1 id) (ref17_Reply.ld (g38.get a2 id) (reply_Reply.ld (g38.get a1 id) ?_)))
      refine same_ok x y (rx.frame (F29.tt g38) (fun _ _ => id)) (ry.frame (F29.tt g38) (fun _ _ => id)) fun h39 f39 => ⟨_, rfl, reply_Reply.held ((g38.tt f39).get a1 id), ref17_Reply.held ((g38.tt f39).get a2 id), ?_⟩
      refine as_ok y fun h40 f40 => ⟨_, _, _, _, _, _, _, _, rfl, ref17_Reply.held ((g38.tt (f39.tt f40)).get a2 id), ?_⟩
      have g40 := g38.tt (f39.tt f40)
      refine refSame_ok x y (rx.frame (F29.tt g40) (fun _ _ => id)) (ry.frame (F29.tt g40) (fun _ _ => id)) fun h41 f41 => ⟨_, rfl, ?_⟩
      have g41 := g40.tt f41
      rw [if_neg (by simp)]
      refine ⟨_, cell_at (g41.get a0 id) rfl, _, cell_at (g41.get a0 id) rfl, fail_ok x.id rfl e fun h42 f42 => ⟨_, _, _, _, _, _, _, _, rfl, cell_at ((g41.tt f42).get a0 id) rfl, ?_⟩⟩
      refine as_ok (failR x.id e) fun h43 f43 => ⟨_, _, _, _, _, _, _, _, rfl, cell_at ((g41.tt (f42.tt f43)).get a0 id) rfl, ?_⟩
      refine refSame_ok (failR x.id e) (failR x.id e) (.inl rfl) (.inl rfl) fun h44 f44 => ⟨_, rfl, cell_at ((g41.tt (f42.tt (f43.tt f44))).get a0 id) rfl, ?_⟩
      rw [decide_eq_true (RD.same_iff.2 rfl)]
      exact fin h44 (g41.tt (f42.tt (f43.tt f44)))
    | true =>
      simp only [Bool.not_true, Bool.false_eq_true, if_false]
      refine reply_Reply.ld (g38.get a0 id) (reply_Reply.ld (g38.get a1 id) (ref17_Reply.ld (g38.get a2 id) (reply_Reply.ld (g38.get a1 id) ?_)))
      refine same_ok x y (rx.frame (F29.tt g38) (fun _ _ => id)) (ry.frame (F29.tt g38) (fun _ _ => id)) fun h39 f39 => ⟨_, rfl, reply_Reply.held ((g38.tt f39).get a1 id), ref17_Reply.held ((g38.tt f39).get a2 id), ?_⟩
      refine as_ok y fun h40 f40 => ⟨_, _, _, _, _, _, _, _, rfl, ref17_Reply.held ((g38.tt (f39.tt f40)).get a2 id), ?_⟩
      have g40 := g38.tt (f39.tt f40)
      refine refSame_ok x y (rx.frame (F29.tt g40) (fun _ _ => id)) (ry.frame (F29.tt g40) (fun _ _ => id)) fun h41 f41 => ⟨_, rfl, ?_⟩
      have g41 := g40.tt f41
      rw [if_neg (by simp)]
      refine ⟨_, cell_at (g41.get a0 id) rfl, _, cell_at (g41.get a0 id) rfl, fail_ok x.id rfl e fun h42 f42 => ⟨_, _, _, _, _, _, _, _, rfl, cell_at ((g41.tt f42).get a0 id) rfl, ?_⟩⟩
      refine as_ok (failR x.id e) fun h43 f43 => ⟨_, _, _, _, _, _, _, _, rfl, cell_at ((g41.tt (f42.tt f43)).get a0 id) rfl, ?_⟩
      refine refSame_ok (failR x.id e) (failR x.id e) (.inl rfl) (.inl rfl) fun h44 f44 => ⟨_, rfl, cell_at ((g41.tt (f42.tt (f43.tt f44))).get a0 id) rfl, ?_⟩
      rw [decide_eq_true (RD.same_iff.2 rfl)]
      exact fin h44 (g41.tt (f42.tt (f43.tt f44)))
  clear hJ
  refine ⟨_, _, _, cell_at hb2 rfl, ?_⟩
  by_cases l1 : ((x.b.length : Nat) : Int) > 1000
  · simp only [l1, decide_true, if_true]; exact jt
  · simp only [l1, decide_false, Bool.false_eq_true, if_false]
    refine ⟨_, _, _, cell_at hb1 rfl, ?_⟩
    by_cases l2 : ((y.b.length : Nat) : Int) > 1000
    · simp only [l2, decide_true, if_true]; exact jt
    · simp only [l2, decide_false, Bool.false_eq_true, if_false]
      by_cases l3 : ((bs.length : Nat) : Int) > 1000
      · simp only [l3, decide_true]; exact jt
      · simp only [l3, decide_false]; exact jf (by omega)

set_option maxRecDepth 100000 in
theorem _root_.Go.Proofs.Ytopoaalbfdblnaa.replyBack_ok (xs : Array Value) (bp : Option Addr) (bl bcap : Nat) (cut : Int) (sx : xs.size = Try.prog.cellsOf T.reply_Reply) (hx : RokV Try.prog h T.reply_Reply (.agg xs)) (hb : RokV Try.prog h T.s_uint8 (.slice bp bl bcap)) (wc : (Lit.int .i64 cut).wf = true) :
    LawH Try.prog F.law17_ReplyBack #[.agg xs, .slice bp bl bcap, .int .i64 cut] h := by
  obtain ⟨x, xp, xc, ex, rx, _, _⟩ := reply_arg sx hx
  obtain ⟨bs, rfl, rb⟩ := RokV.bytes (by kernel_rfl) u8 uU hb
  rw [ex]
  clear hx hb sx ex
  unfold LawH
  generalize hR : (fun (v : Value) h' => v = .bool true ∧ Fr (fun _ => False) h h') = R
  have hk : ∀ h', Fr (fun _ => False) h h' → R (.bool true) h' := fun h' hf => by rw [← hR]; exact ⟨rfl, hf⟩
  clear hR
  refine law17_ReplyBack.walk (reply_Reply.box fun b h1 eb hb f1 => JoinP.of fun J hJ => ?_)
  have jt : J true h1 := by
    subst hJ
    simp only [if_true]
    exact alive_ok fun h4 f4 => ⟨_, rfl, hk h4 (f1.tt f4)⟩
  have jf : bs.length ≤ 1000 → J false h1 := by
    intro hbl
    subst hJ
    simp only [Bool.false_eq_true, if_false]
    refine reply_Reply.ld hb (write_all x (rx.frame f1 (fun _ _ => id)) fun h4 q4 d4 r4 le4 f4 => ⟨_, _, _, _, rfl, JoinP.of fun J1 hJ1 => ?_⟩)
    have F4 := f1.tt f4
    have el := encZ_len x
    have fin : ∀ h5, Fr (fun _ => False) h h5 → J1 h5 := by
      intro h5 f5
      subst hJ1
      refine read_all (rb.frame f5 (fun _ _ => id)) rfl (by omega) fun h6 q6 d6 r6 f6 => ⟨_, _, _, _, _, _, _, _, _, rfl, ?_⟩
      refine reply_Reply.new fun b1 h13 eb1 hb1 f13 => reply_Reply.ld hb1 ?_
      refine write_all (decZ bs) (r6.frame f13 (fun _ _ => id)) fun h14 q14 d14 r14 _ f14 => ⟨_, _, _, _, rfl, ?_⟩
      refine alive_ok fun h15 f15 => ⟨_, rfl, ?_⟩
      simp only [if_true]
      have F15 := f5.tt (f6.tt (f13.tt (f14.tt f15)))
      cases hd : decR bs with
      | none =>
        have : decE bs = 3 := by unfold decE; rw [hd]; rfl
        rw [this, if_pos (by rfl)]
        exact hk h15 F15
      | some y =>
        have : decE bs = 0 := by unfold decE; rw [hd]; rfl
        rw [this, if_neg (by simp)]
        obtain ⟨yr, ye⟩ := decR_some hd
        have hz : decZ bs = y := by unfold decZ; rw [hd]; rfl
        rw [hz] at r14 ⊢
        have e1 : encE y = 0 := by unfold encE; rw [if_pos yr]
        have e2 : encZ y = bs := by unfold encZ; rw [if_pos yr, ye]
        rw [e1, if_pos (by rfl)]
        rw [e2] at r14 ⊢
        refine ⟨_, conv (r14.frame f15 (fun _ _ => id)) rfl, _, conv (rb.frame F15 (fun _ _ => id)) rfl, ?_⟩
        rw [beq_self_eq_true]
        exact hk h15 F15
    clear hJ1
    by_cases hr : x.Right
    · have e1 : encE x = 0 := by unfold encE; rw [if_pos hr]
      have e2 : encZ x = x.enc := by unfold encZ; rw [if_pos hr]
      rw [e1, if_pos (by rfl)]
      rw [e2] at r4 le4 el ⊢
      refine read_all r4 rfl (by omega) fun h16 q16 d16 r16 f16 => ⟨_, _, _, _, _, _, _, _, _, rfl, ?_⟩
      refine reply_Reply.new fun b2 h23 eb2 hb2 f23 => JoinP.of fun J2 hJ2 => ?_
      have F23 := F4.tt (f16.tt f23)
      have z1 : decE x.enc = 0 := by unfold decE; rw [decR_enc hr]; rfl
      have z2 : decZ x.enc = x := by unfold decZ; rw [decR_enc hr]; rfl
      rw [z2] at r16 hb2
      rw [z1, if_neg (by simp)]
      refine reply_Reply.ld ((f4.tt (f16.tt f23)).get hb id) (reply_Reply.ld hb2 ?_)
      refine same_ok x x (rx.frame F23 (fun _ _ => id)) (r16.frame f23 (fun _ _ => id)) fun h35 f35 => ⟨_, rfl, ?_⟩
      rw [decide_eq_true (RD.same_iff.2 rfl)]
      subst hJ2
      simp only [Bool.not_true, Bool.false_eq_true, if_false]
      have F35 := F23.tt f35
      refine JoinP.of fun J3 hJ3 => ?_
      have go : ∀ t : Bool, (t = true ↔ 0 ≤ cut ∧ cut < (x.enc.length : Int)) → J3 t h35 := by
        intro t ht
        subst hJ3
        refine JoinP.of fun J4 hJ4 => ?_
        subst hJ4
        cases t with
        | true =>
          obtain ⟨hc0, hc1⟩ := ht.1 rfl
          obtain ⟨ct, rfl⟩ := Int.eq_ofNat_of_zero_le hc0
          simp only [if_true]
          refine ⟨⟨by omega, by omega⟩, ?_⟩
          have rs := (r4.frame (f16.tt (f23.tt f35)) (fun _ _ => id)).sub (cap := d4) (l := 0) (u := ct) (sz := 1) (by omega) (by omega)
          simp only [Nat.mul_one, List.drop_zero, bc_take] at rs
          have etl : (x.enc.take ct).length = ct := by rw [List.length_take]; omega
          refine read_all rs (by rw [etl]; omega) (by omega) fun h27 q27 d27 r27 f27 => ⟨_, _, _, _, _, _, _, _, _, rfl, ?_⟩
          refine reply_Reply.new fun b3 h34 eb3 hb3 f34 => ?_
          have zc : decE (x.enc.take ct) = 3 := by unfold decE; rw [dec_cut hr (by omega)]; rfl
          rw [zc, if_neg (by simp)]
          exact fin h34 (F35.tt (f27.tt f34))
        | false =>
          simp only [Bool.false_eq_true, if_false]
          exact fin h35 F35
      clear hJ3
      by_cases hc : cut ≥ 0
      · simp only [hc, decide_true, if_true]
        refine go _ ?_
        simp [hc]
      · simp only [hc, decide_false, Bool.false_eq_true, if_false]
        refine go _ ?_
        simp; omega
    · have e1 : encE x = 3 := by unfold encE; rw [if_neg hr]
      rw [e1, if_neg (by simp)]
      exact fin h4 F4
  clear hJ
  refine ⟨_, _, _, cell_at hb rfl, ?_⟩
  by_cases l1 : ((x.b.length : Nat) : Int) > 1000
  · simp only [l1, decide_true, if_true]; exact jt
  · simp only [l1, decide_false, Bool.false_eq_true, if_false]
    by_cases l3 : ((bs.length : Nat) : Int) > 1000
    · simp only [l3, decide_true]; exact jt
    · simp only [l3, decide_false]; exact jf (by omega)
end Rep
end Go.Proofs.Ytopoaalbfdblnaa
