/-
  What is proved here: the law SessionsBack on heaps ('sessionsBack_ok'). No condition.
-/
import Derived.Test.YtlnofnmdiddmkaaSesLoad
import Derived.Test.YtlnofnmdiddmkaaLaw24
namespace Go.Proofs.Ytlnofnmdiddmkaa
open Go.Den Go.Fields
namespace Ses
open Fld
variable {h h' h0 : Heap} {t : Nat} {X : Ft} {R : Value → Heap → Prop} {p q : Option Addr} {A : List Ses}

/-! ### plain -/
theorem reach_end {A0 : List Ses} (ok : okA A0) {tail : Recs} (ht : tail = [] ∨ loadS A0 tail = none) (r : Reach (recs A0 ++ tail) A []) : tail = [] ∧ A = A0 := by
  obtain ⟨k, hk, rfl, e⟩ := reach_recs ok tail r (fun _ _ => ht.symm)
  have e1 := List.append_eq_nil_iff.1 e.symm
  have e2 := recs_nil e1.1
  have := congrArg List.length e2
  rw [List.length_drop, List.length_nil] at this
  exact ⟨e1.2, List.take_of_length_le (by omega)⟩
theorem reach_bad {A0 : List Ses} (ok : okA A0) {tail : Recs} (ht : tail = [] ∨ loadS A0 tail = none) (r : ∃ A ls, Reach (recs A0 ++ tail) A ls ∧ ls ≠ [] ∧ loadS A ls = none) : tail ≠ [] := by
  obtain ⟨A, ls, r, hn, hb⟩ := r
  obtain ⟨k, hk, rfl, rfl⟩ := reach_recs ok tail r (fun _ _ => ht.symm)
  by_cases hlt : k < A0.length
  · exfalso
    have ha : A0[k]? = some A0[k] := List.getElem?_eq_getElem hlt
    have e1 : A0.take (k + 1) = A0.take k ++ [A0[k]] := by rw [List.take_add_one, ha]; rfl
    have ok1 : okA (A0.take k ++ [A0[k]]) := by
      rw [← e1]
      have : A0 = A0.take (k + 1) ++ A0.drop (k + 1) := (List.take_append_drop _ _).symm
      rw [this] at ok
      exact ok.pre
    have e2 : recs (A0.drop k) ++ tail = recS A0[k] ++ (recs (A0.drop (k + 1)) ++ tail) := by
      rw [List.drop_eq_getElem_cons hlt]
      unfold recs
      rw [List.flatMap_cons, List.append_assoc]
    rw [e2, loadS_enc ok1] at hb
    cases hb
  · obtain rfl : k = A0.length := by omega
    rw [List.drop_length] at hn
    exact hn
theorem recs_small (ok : okA A) : ∀ b ∈ recs A, b.length ≤ 2000 := by
  intro b hb
  obtain ⟨s, hs, hb⟩ := List.mem_flatMap.1 hb
  obtain ⟨i, hi⟩ := List.getElem?_of_mem hs
  have o := ok.at_ i s hi
  unfold recS at hb
  rcases List.mem_cons.1 hb with rfl | hb
  · unfold headR
    simp only [List.length_append]
    have a1 := (encNum_len s.num).2
    have a2 := (encNum_len s.token).2
    have a3 := (encNum_len (bit s.up)).2
    have a4 := (encNum_len (bit s.watch)).2
    have a5 := (encNum_len s.kept.length).2
    have a6 := (encNum_len s.notes.length).2
    omega
  · rcases List.mem_append.1 hb with hb | hb
    · obtain ⟨a, ha, rfl⟩ := List.mem_map.1 hb
      have h1 := (o.kd a ha).2
      have a1 := (encNum_len a.1).2
      have a2 := (encNum_len a.2.length).2
      unfold ansR encText
      simp only [List.length_append]
      omega
    · obtain ⟨a, ha, rfl⟩ := List.mem_map.1 hb
      have h1 := (o.nd a ha).2
      have a2 := (encNum_len a.length).2
      unfold encText
      simp only [List.length_append]
      omega
theorem recs_last {s : Ses} : recs (A ++ [s]) = recs A ++ recS s := by unfold recs; rw [List.flatMap_append]; simp
/-- all but the last record -/
theorem recs_short {s : Ses} (ok : okA (A ++ [s])) : ∃ tail, (recs (A ++ [s])).take ((recs (A ++ [s])).length - 1) = recs A ++ tail ∧ (tail = [] ↔ s.kept.length + s.notes.length = 0) ∧ (tail = [] ∨ loadS A tail = none) := by
  have o := ok.at_ A.length s (by simp)
  have hle := ok.le
  rw [List.length_append, List.length_singleton] at hle
  refine ⟨(recS s).take ((recS s).length - 1), ?_, ?_, ?_⟩
  · rw [recs_last, List.length_append, List.take_append, List.take_of_length_le]
    · congr 2
      have := recS_len s
      omega
    · have := recS_len s
      omega
  · have hl := recS_len s
    constructor
    · intro e
      have := congrArg List.length e
      rw [List.length_take, List.length_nil] at this
      omega
    · intro e
      rw [show (recS s).length - 1 = 0 by omega, List.take_zero]
  · by_cases e : s.kept.length + s.notes.length = 0
    · left
      have hl := recS_len s
      rw [show (recS s).length - 1 = 0 by omega, List.take_zero]
    · right
      have hl := recS_len s
      rw [show (recS s).length - 1 = (s.kept.length + s.notes.length - 1) + 1 by omega]
      unfold recS
      rw [List.take_succ_cons]
      refine loadS_short o (by omega) ?_
      rw [List.length_take]
      omega

/-! ### a law's steps -/
structure OV where
  kind : Int
  num : Int
  n : Nat
  p : Option Addr
  c : Nat
  b : List UInt8
  on : Bool
abbrev oenc (f : OV) : List Value := [.int .i64 f.kind, .int .i64 f.num, .int .u64 (f.n : Int), .slice f.p f.b.length f.c, .bool f.on]
theorem oenc_len (f : OV) : (oenc f).length = 5 := rfl
theorem ov_tl : tleaves Try.prog 5 T.law24_Op = some [T.int, T.int, T.uint64, T.s_uint8, T.bool] := by kernel_rfl
theorem ov_dec (n : Nat) (cs : List Value) (hl : cs.length = 5) (hr : Rok Try.prog h n T.law24_Op cs) : ∃ f : OV, cs = oenc f ∧ Row h f.p (bc f.b) := by
  have L := tleaves_ok 5 n _ _ cs ov_tl (by rw [hl]; rfl) hr
  match cs, hl with
  | [a, b, c, d, s], _ =>
    obtain ⟨k, rfl, _⟩ := L.int 0 rfl rfl (k := .i64) (by kernel_rfl)
    obtain ⟨y, rfl, w2⟩ := L.int 1 rfl rfl (k := .i64) (by kernel_rfl)
    obtain ⟨x, rfl, w1⟩ := L.int 2 rfl rfl (k := .u64) (by kernel_rfl)
    obtain ⟨t, rfl⟩ := L.bool 4 rfl rfl (by kernel_rfl)
    obtain ⟨m, hm⟩ := L.get 3 rfl rfl
    obtain ⟨p, q, bs, rfl, hrow⟩ := Rok.bytes (by kernel_rfl) u8 uU hm
    have w1 := wf_u64 w1
    obtain ⟨x, rfl⟩ := Int.eq_ofNat_of_zero_le w1.1
    exact ⟨⟨k, y, x, p, q, bs, t⟩, rfl, hrow⟩
theorem ovs_read {l c : Nat} (hv : RokV Try.prog h T.s_law24_Op (.slice p l c)) : ∃ fs : List OV, fs.length = l ∧ Row h p (fs.flatMap oenc) ∧ ∀ f ∈ fs, Row h f.p (bc f.b) := by
  obtain ⟨xs, h1, _, _, h2, h3⟩ := RokV.slice (e := T.law24_Op) oenc 5 (fun f => Row h f.p (bc f.b)) (by kernel_rfl) (fun _ => rfl) (fun n cs hl hr => ov_dec n cs hl hr) (by kernel_rfl) hv
  exact ⟨xs, h1, h2, h3⟩

set_option maxRecDepth 100000 in
theorem _root_.Go.Proofs.Ytlnofnmdiddmkaa.sessionsBack_ok (op : Option Addr) (ol oc : Nat) (hv : RokV Try.prog h T.s_law24_Op (.slice op ol oc)) : LawH Try.prog F.law24_SessionsBack #[.slice op ol oc] h := by
  obtain ⟨fs, rfl, hrow, hok⟩ := ovs_read hv
  clear hv
  unfold LawH
  generalize hR : (fun (v : Value) h' => v = .bool true ∧ Fr (fun _ => False) h h') = R
  have hk : ∀ h', Fr (fun _ => False) h h' → R (.bool true) h' := fun h' hf => by rw [← hR]; exact ⟨rfl, hf⟩
  clear hR
  refine law24_SessionsBack.walk (new_ok fun h1 t X1 H1 f1 g1 => ⟨_, rfl, ?_⟩)
  refine ⟨fun i g => ∃ (k : Nat) (X : Ft) (A : List Ses), i = (k : Int) ∧ k ≤ 100 ∧ Has g t X A ∧ okA A ∧ UpF h X g, fun i _ => 100 - i.toNat, ⟨0, X1, [], rfl, by omega, H1, okA.nil, ⟨f1, g1⟩⟩, ?_⟩
  clear H1 g1 f1
  rintro _ h3 ⟨k, X, A, rfl, hk100, H, ok, u⟩
  refine JoinP.of fun J hJ => ?_
  -- behind the loop
  have last : J false h3 := by
    subst hJ
    simp only [Bool.false_eq_true, if_false]
    refine save_ok H ok fun h25 p25 l25 c25 B25 f25 => ⟨_, _, _, rfl, ?_⟩
    obtain ⟨xs, Rw, hxs⟩ := BL.to_rows B25
    have hlen := B25.len
    have hle := recs_le ok
    have ol8 := ok.le
    have small : ∀ b ∈ recs A, b.length ≤ 1099511627776 := fun b hb => by have := recs_small ok b hb; omega
    have hA0 : ∀ A', Reach (xs.map BV.b) A' [] → A' = A := fun A' r => (reach_end ok (.inl rfl) (by rw [List.append_nil, ← hxs]; exact r)).2
    refine load_ok Rw (by rw [hxs]; exact small) (fun A' r h26 t2 X2 H2 ok2 u2 => ⟨_, _, rfl, ?_⟩) (fun r h26 f26 => absurd rfl (reach_bad ok (tail := []) (.inl rfl) (by rw [List.append_nil, ← hxs]; exact r)))
    obtain rfl := hA0 A' r
    have Fu : ∀ {g : Heap}, Fr (fun _ => False) h25 g → Has g t X A' := fun f => H.frame (f25.tt f) (fun _ _ => id)
    have F0 : ∀ {g : Heap}, Fr (fun _ => False) h25 g → Fr (fun _ => False) h g := fun f => (u.on (f25.tt f)).fr
    refine JoinP.of fun J9 hJ9 => ?_
    have fin : ∀ g, Fr (fun _ => False) h25 g → J9 false g := by
      intro g fg
      subst hJ9
      simp only [Bool.false_eq_true, if_false]
      refine all_ok (Fu fg) ok fun h28 p28 l28 c28 O28 f28 => ⟨_, _, _, rfl, ?_⟩
      have F28 := fg.tt f28
      have hl28 := O28.len
      by_cases h0 : l28 = 0
      · subst h0
        rw [if_pos (by rfl)]
        exact alive_ok fun h29 f29 => ⟨_, rfl, hk h29 (F0 (F28.tt f29))⟩
      · rw [if_neg (by simp only [beq_iff_eq]; omega)]
        obtain ⟨A1, s, hAs⟩ : ∃ A1 s, A' = A1 ++ [s] := by
          have hne : A' ≠ [] := fun e => by rw [e] at hl28; exact h0 hl28
          exact ⟨A'.dropLast, A'.getLast hne, (List.dropLast_concat_getLast hne).symm⟩
        have hl28' : l28 = A1.length + 1 := by rw [hl28, hAs, List.length_append]; rfl
        have hrl : 1 ≤ l25 := by
          rw [hlen, hAs, recs_last, List.length_append, recS_len]; omega
        obtain ⟨ys, D, y1, y2, y3, y4, y5, y6⟩ := O28
        have e28 : IntKind.wrap .i64 (((l28 : Nat) : Int) - 1) = (A1.length : Int) := by rw [wrap_id (by omega) (by omega)]; omega
        have e25 : IntKind.wrap .i64 (((l25 : Nat) : Int) - 1) = ((l25 - 1 : Nat) : Int) := by rw [wrap_id (by omega) (by omega)]; omega
        rw [e28, e25]
        simp only [Int.toNat_natCast, Nat.sub_zero]
        have hys : ys[A1.length]? = some (ys[A1.length]'(by omega)) := List.getElem?_eq_getElem _
        generalize ys[A1.length]'(by omega) = y at hys
        have hyabs : y.abs = s := by
          have h1 : (ys.map SC.abs)[A1.length]? = some y.abs := by rw [List.getElem?_map, hys]; rfl
          rw [y3, hAs] at h1
          simpa using h1.symm
        obtain ⟨ab, aoff, rfl⟩ := y2.addr (by omega)
        refine ⟨⟨by omega, by omega⟩, onSome_some.2 (sessions_Session.ldA (y2.heldAt senc_len hys) (sessions_Session.new fun b h36 eb hb36 f36 => ?_))⟩
        have F36 := F28.tt f36
        have Rw36 := Rw.on F36
        have cap := Rw.cap
        rw [hAs] at ok hxs
        obtain ⟨tail, ht1, ht2, ht3⟩ := recs_short ok
        have okA1 := ok.pre
        have RwS : Rows h36 (slBase p25 c25 0 1) (l25 - 1) c25 (xs.take (l25 - 1)) := by
          refine ⟨by rw [List.length_take, ← Rw.len]; omega, ?_, by omega, fun x hx => Rw36.each x (List.mem_of_mem_take hx)⟩
          rw [slBase_zero]
          have := Rw36.row.sub (cap := c25) (l := 0) (u := l25 - 1) (sz := 1) (by omega) (by omega)
          rw [flat_take nenc 1 nenc_len, slBase_zero, Nat.zero_mul, List.drop_zero] at this
          exact this
        have hxs2 : (xs.take (l25 - 1)).map BV.b = recs A1 ++ tail := by
          rw [← ht1, List.map_take, hxs, hlen, hAs]
        have smallS : ∀ b ∈ (xs.take (l25 - 1)).map BV.b, b.length ≤ 1099511627776 := by
          intro b hb
          rw [List.map_take, hxs] at hb
          have := recs_small ok b (List.mem_of_mem_take hb); omega
        refine ⟨⟨by omega, by omega⟩, ?_⟩
        have hsec : CallsH Try.prog F.sessions_Load #[.slice (slBase p25 c25 0 1) (l25 - 1) c25] h36 (fun v g => ∃ (tp : Option Addr) (e : Int), v = .tuple #[.pointer tp, .int .i64 e] ∧ Fr (fun _ => False) h36 g ∧ (e == 0) = decide (s.kept.length + s.notes.length = 0)) := by
          refine load_ok RwS smallS (fun A2 r2 h37 t3 X3 H3 ok3 u3 => ⟨_, _, rfl, u3.fr, ?_⟩) (fun r2 h37 f37 => ⟨_, _, rfl, f37, ?_⟩)
          · rw [hxs2] at r2
            have e1 := (reach_end okA1 ht3 r2).1
            rw [decide_eq_true (ht2.1 e1)]; rfl
          · rw [hxs2] at r2
            have e1 := reach_bad okA1 ht3 r2
            rw [decide_eq_false (fun e => e1 (ht2.2 e))]; rfl
        refine hsec.conseq fun v h37 hv => ?_
        obtain ⟨tp, e, rfl, f37, he⟩ := hv
        refine ⟨_, _, rfl, JoinP.of fun J10 hJ10 => ?_⟩
        have F37 := F36.tt f37
        have end10 : ∀ g, Fr (fun _ => False) h37 g → J10 3 g := by
          intro g fg
          subst hJ10
          have hbg := (f37.tt fg).get hb36 id
          refine ⟨_, _, _, cell_at hbg rfl, _, _, _, cell_at hbg rfl, alive_ok fun h39 f39 => ⟨_, rfl, ?_⟩⟩
          have ys1 := ok.at_ A1.length s (by simp)
          have k1 := ys1.kl
          have n1 := ys1.nl
          have k2 : y.kept.length = s.kept.length := by rw [← hyabs]; exact (List.length_map _).symm
          have n2 : y.notes.length = s.notes.length := by rw [← hyabs]; exact (List.length_map _).symm
          have : ((e == 0) == ((IntKind.wrap .i64 (((y.kept.length : Nat) : Int) + ((y.notes.length : Nat) : Int))) == 0)) = true := by
            rw [he, wrap_id (by omega) (by omega), k2, n2]
            by_cases hz : s.kept.length + s.notes.length = 0
            · rw [decide_eq_true hz]
              have : ((s.kept.length : Nat) : Int) + ((s.notes.length : Nat) : Int) = 0 := by omega
              rw [this]; rfl
            · rw [decide_eq_false hz]
              have : (((s.kept.length : Nat) : Int) + ((s.notes.length : Nat) : Int) == 0) = false := by simp only [beq_eq_false_iff_ne, ne_eq]; omega
              rw [this]; rfl
          simp only [if_true]
          rw [if_pos this]
          exact hk h39 (F0 (F37.tt (fg.tt f39)))
        clear hJ10
        obtain ⟨x0, xs0, hx0⟩ : ∃ x0 xs0, xs = x0 :: xs0 := List.exists_cons_of_ne_nil (fun e => by have := Rw.len; rw [e] at this; simp at this; omega)
        obtain ⟨s0, A0, hA0'⟩ : ∃ s0 A0, A1 ++ [s] = s0 :: A0 := List.exists_cons_of_ne_nil (by simp)
        have hb0 : x0.b = headR s0 := by
          rw [hA0', hx0] at hxs
          unfold recs at hxs
          rw [List.flatMap_cons, recS, List.map_cons, List.cons_append] at hxs
          exact (List.cons.inj hxs).1
        have Rw37 := Rw.on F37
        have o0 := ok.at_ 0 s0 (by rw [hA0']; rfl)
        -- the third load
        have third : ∀ (g : Heap) (p' : Option Addr) (c' : Nat), Own g p' (l25 + 1) c' 1 (xs.flatMap nenc ++ [x0.val]) → Fr (fun _ => False) h37 g → CallsH Try.prog F.sessions_Load #[.slice p' (l25 + 1) c'] g (fun v g' => ∃ (tp : Option Addr) (e : Int), v = .tuple #[.pointer tp, .int .i64 e] ∧ J10 e g') := by
          intro g p' c' o fg
          have Rg := Rw37.on fg
          have RT : Rows g p' (l25 + 1) c' (xs ++ [x0]) := by
            refine ⟨by rw [List.length_append, ← Rw.len]; rfl, ?_, o.le, fun x hx => ?_⟩
            · rw [List.flatMap_append]; exact o.row'
            · rcases List.mem_append.1 hx with hx | hx
              · exact Rg.each x hx
              · obtain rfl := List.mem_singleton.1 hx
                exact Rg.each x (by rw [hx0]; simp)
          have hm : (xs ++ [x0]).map BV.b = recs (A1 ++ [s]) ++ [headR s0] := by rw [List.map_append, hxs, ← hb0]; rfl
          have hbad : loadS (A1 ++ [s]) [headR s0] = none := loadS_twice o0 (by omega) (by rw [hA0']; simp)
          refine load_ok RT ?_ (fun A2 r2 h38 t3 X3 H3 ok3 u3 => ?_) (fun r2 h38 f38 => ⟨_, _, rfl, end10 h38 (fg.tt f38)⟩)
          · intro b hb
            rw [hm] at hb
            rcases List.mem_append.1 hb with hb | hb
            · have := recs_small ok b hb; omega
            · obtain rfl := List.mem_singleton.1 hb
              have := recs_small ok (headR s0) (by rw [hA0']; unfold recs; rw [List.flatMap_cons, recS]; simp)
              omega
          · rw [hm] at r2
            have := (reach_end ok (.inr hbad) r2).1
            cases this
        obtain ⟨pa, rfl⟩ := Rw.row.some (by rw [hx0]; simp)
        have c37 : ∀ {g : Heap}, Fr (fun _ => False) h37 g → hcell g (pa.add (Int.toNat 0 * 1)) = some (.slice x0.p x0.b.length x0.c) := by
          intro g fg
          have h1 := ((Rw37.on fg).row.heldAt nenc_len (i := 0) (x := x0) (by rw [hx0]; rfl)).1
          rw [Nat.zero_mul, add_zero_addr, add_zero_addr] at h1
          rw [show Int.toNat 0 * 1 = 0 from rfl, add_zero_addr]
          exact h1
        have xlen : (xs.flatMap nenc).length = l25 * 1 := by rw [Rw.len]; exact flat_len nenc 1 nenc_len xs
        refine ⟨⟨by omega, by omega⟩, onSome_some.2 ⟨_, _, _, c37 (Fr.refl _ _), ?_, ?_, trivial⟩⟩
        · refine newP_of ?_
          have f40 : Fr (fun _ => False) h37 (h37.push (.cells #[] T.s_uint8)) := Fr.push _ _
          have ob : Own (h37.push (.cells #[] T.s_uint8)) (some ⟨h37.size, 0, none⟩) 0 0 1 [] := .row h37.size 0 #[] _ rfl push_new (Nat.le_refl _) (by simp) (by simp) (fun j v hj => by cases hj)
          have nb : ∀ y, inBlk (some ⟨h37.size, 0, none⟩) y → y = h37.size := fun y ⟨a, e, e2⟩ => by cases e; exact e2.symm
          refine ⟨c37 f40, ?_, ?_, trivial⟩
          · refine den_append tN uN ob (Rw37.on f40).row xlen (nenc_one xs) (by omega) (by omega) ?_
            intro p41 c41 h41 o41 _ f41 g41
            rw [Nat.zero_add, List.nil_append] at o41
            rw [Nat.zero_add]
            have F41 : Fr (fun _ => False) h37 h41 := f40.fresh f41 (fun y hy => by rw [nb y hy]; exact Nat.le_refl _)
            refine ⟨_, _, _, rfl, c37 F41, den_append1 tN uN o41 rfl (fun v hv => by simp at hv; subst hv; rfl) (by omega) (by omega) ?_⟩
            intro p43 c43 h43 o43 f43 g43
            refine ⟨_, _, _, rfl, third h43 p43 c43 o43 (F41.fresh f43 (fun y hy => ?_))⟩
            rcases g41 y hy with h2 | h2
            · rw [nb y h2]; exact Nat.le_refl _
            · simp at h2; omega
          · refine newP_of ?_
            generalize hg40 : h37.push (.cells #[] T.s_uint8) = h40 at f40 ob
            have z40 : h37.size ≤ h40.size := f40.1
            have f45 : Fr (fun _ => False) h40 (h40.push (.cells #[.slice x0.p x0.b.length x0.c] T.s_uint8)) := Fr.push _ _
            have r45 : Row (h40.push (.cells #[.slice x0.p x0.b.length x0.c] T.s_uint8)) (some ⟨h40.size, 0, none⟩) [x0.val] := row_new
            have zz : h37.size < h40.size := by rw [← hg40, Array.size_push]; omega
            refine den_append tN uN (ob.frame f45 (fun _ _ => id)) (Rw37.on (f40.tt f45)).row xlen (nenc_one xs) (by omega) (by omega) ?_
            intro p46 c46 h46 o46 _ f46 g46
            rw [Nat.zero_add, List.nil_append] at o46
            rw [Nat.zero_add]
            have F46 : Fr (fun _ => False) h37 h46 := (f40.tt f45).fresh f46 (fun y hy => by rw [nb y hy]; exact Nat.le_refl _)
            have r46 : Row h46 (some ⟨h40.size, 0, none⟩) [x0.val] := r45.frame f46 (fun a ea hx => by cases ea; have := nb _ hx; simp at this; omega)
            refine ⟨_, _, _, rfl, den_append tN uN o46 r46 rfl (fun v hv => by simp at hv; subst hv; rfl) (by omega) (by omega) ?_⟩
            intro p47 c47 h47 o47 _ f47 g47
            refine ⟨_, _, _, rfl, third h47 p47 c47 o47 (F46.fresh f47 (fun y hy => ?_))⟩
            rcases g46 y hy with h2 | h2
            · rw [nb y h2]; exact Nat.le_refl _
            · simp at h2; omega
        · refine newP_of ?_
          have f49 : Fr (fun _ => False) h37 (h37.push (.cells #[.slice x0.p x0.b.length x0.c] T.s_uint8)) := Fr.push _ _
          have r49 : Row (h37.push (.cells #[.slice x0.p x0.b.length x0.c] T.s_uint8)) (some ⟨h37.size, 0, none⟩) [x0.val] := row_new
          generalize h37.push (.cells #[.slice x0.p x0.b.length x0.c] T.s_uint8) = h49 at f49 r49 ⊢
          refine den_clone tN uN (Rw37.on f49).row xlen (nenc_one xs) (by omega) (by omega) ?_
          intro p51 c51 h51 o51 f51 g51
          have z49 := f49.1
          refine ⟨_, _, _, rfl, den_append tN uN o51 (r49.frame f51 (fun _ _ => id)) rfl (fun v hv => by simp at hv; subst hv; rfl) (by omega) (by omega) ?_⟩
          intro p52 c52 h52 o52 _ f52 g52
          exact ⟨_, _, _, rfl, third h52 p52 c52 o52 ((f49.tt f51).fresh f52 (fun y hy => by have := g51 y hy; omega))⟩
    clear hJ9
    have e1 : ((0 : Int) != 0) = false := rfl
    rw [if_neg (by rw [e1]; simp), if_neg (by simp)]
    refine save_ok H2 ok2 fun h54 p54 l54 c54 B54 f54 => ⟨_, _, _, rfl, ?_⟩
    obtain ⟨zs, Rz, hzs⟩ := BL.to_rows B54
    have lz := B54.len
    have F54 := u2.fr.tt f54
    refine same_ok Rz (Rw.on F54) (by omega) ⟨_, rfl, ?_⟩
    rw [hzs, hxs, decide_eq_true rfl]
    simp only [Bool.not_true, Bool.false_eq_true, if_false]
    refine all_ok (H2.frame f54 (fun _ _ => id)) ok2 fun h56 p56 l56 c56 O56 f56 => ⟨_, _, _, rfl, ?_⟩
    refine all_ok (Fu (F54.tt f56)) ok fun h57 p57 l57 c57 O57 f57 => ⟨_, _, _, rfl, ?_⟩
    have : (((l56 : Nat) : Int) != ((l57 : Nat) : Int)) = false := by rw [O56.len, O57.len]; simp
    rw [this]
    exact fin h57 (F54.tt (f56.tt f57))
  by_cases hl : k < fs.length ∧ k < 100
  · have q1 : (k : Int) < (fs.length : Int) := by omega
    have q2 : (k : Int) < 100 := by omega
    clear last
    simp only [q1, q2, decide_true, if_true]
    subst hJ
    simp only [if_true]
    refine JoinP.of fun J1 hJ1 => ?_
    have fin : ∀ g X' A', Has g t X' A' → okA A' → UpF h X' g → J1 g := by
      intro g X' A' H' ok' u'
      subst hJ1
      rw [wrap_id (by omega) (by omega)]
      exact ⟨⟨k + 1, X', A', by omega, by omega, H', ok', u'⟩, by show 100 - Int.toNat ((k : Int) + 1) < 100 - Int.toNat (k : Int); omega⟩
    clear hJ1
    obtain ⟨f, hf⟩ : ∃ f, fs[k]? = some f := ⟨fs[k], List.getElem?_eq_getElem hl.1⟩
    have row3 := hrow.frame u.fr (fun _ _ => id)
    obtain ⟨a, rfl⟩ := row3.some (by intro e; cases fs with | nil => simp at hf | cons => simp at e)
    refine ⟨⟨by omega, by omega⟩, onSome_some.2 ?_⟩
    simp only [Int.toNat_natCast]
    refine law24_Op.ldA (row3.heldAt oenc_len hf) (law24_Op.new fun b h10 eb hb f10 => ⟨_, _, _, cell_at hb rfl, ?_⟩)
    have H10 := H.frame f10 (fun _ _ => id)
    have u10 := u.on f10
    have rowb : Row h10 f.p (bc f.b) := (hok f (List.mem_of_getElem? hf)).frame u10.fr (fun _ _ => id)
    have hsep : f.b ≠ [] → ∀ x, inBlk f.p x → ¬ X.M x := fun hne x hx hm => by
      have h1 := row_lt (hok f (List.mem_of_getElem? hf)) (fun e => hne (by cases hq : f.b with | nil => rfl | cons => rw [hq] at e; simp [bc] at e)) hx
      have := u.ge x (.inl hm)
      omega
    by_cases hbig : f.b.length > 1100
    · have : ((f.b.length : Nat) : Int) > 1100 := by omega
      simp only [this, decide_true, if_true]
      exact alive_ok fun h11 f11 => ⟨_, rfl, hk h11 (u10.fr.tt f11)⟩
    · have : ¬ ((f.b.length : Nat) : Int) > 1100 := by omega
      simp only [this, decide_false, Bool.false_eq_true, if_false]
      refine ⟨_, cell_at hb rfl, JoinP.of fun J2 hJ2 => JoinP.of fun J3 hJ3 => ?_⟩
      subst hJ2; subst hJ3
      split
      · exact ⟨_, cell_at hb rfl, open_ok f.n rfl H10 ok fun g X' H' s' => ⟨_, _, rfl, fin g X' _ H' (ok.open _) (u10.step s')⟩⟩
      refine JoinP.of fun J4 hJ4 => ?_
      subst hJ4
      split
      · exact ⟨_, cell_at hb rfl, resume_ok f.n rfl H10 ok fun g X' H' s' => ⟨_, _, rfl, fin g X' _ H' (ok.res _) (u10.step s')⟩⟩
      refine JoinP.of fun J5 hJ5 => ?_
      subst hJ5
      split
      · exact ⟨_, cell_at hb rfl, down_ok H10 ok fun g X' H' s' => ⟨_, rfl, fin g X' _ H' (ok.down _) (u10.step s')⟩⟩
      refine JoinP.of fun J6 hJ6 => ?_
      subst hJ6
      split
      · exact ⟨_, cell_at hb rfl, _, cell_at hb rfl, _, _, _, cell_at hb rfl, keep_ok f.n rfl H10 ok rowb rfl hsep fun g X' H' s' => ⟨_, rfl, fin g X' _ H' (ok.keep _ _ _) (u10.step s')⟩⟩
      refine JoinP.of fun J7 hJ7 => ?_
      subst hJ7
      split
      · exact ⟨_, cell_at hb rfl, _, cell_at hb rfl, watch_ok H10 ok fun g X' H' s' => ⟨_, rfl, fin g X' _ H' (ok.watch _ _) (u10.step s')⟩⟩
      refine JoinP.of fun J8 hJ8 => ?_
      subst hJ8
      split
      · exact ⟨_, cell_at hb rfl, _, _, _, cell_at hb rfl, note_ok H10 ok rowb rfl (by omega) fun g X' H' s' => ⟨_, rfl, fin g X' _ H' (ok.note _ _) (u10.step s')⟩⟩
      · exact fin h10 X A H10 ok u10
  · by_cases q1 : (k : Int) < (fs.length : Int)
    · have q2 : ¬ (k : Int) < 100 := by omega
      simp only [q1, q2, decide_true, decide_false, if_true]
      exact last
    · simp only [q1, decide_false, Bool.false_eq_true, if_false]
      exact last
end Ses
end Go.Proofs.Ytlnofnmdiddmkaa
