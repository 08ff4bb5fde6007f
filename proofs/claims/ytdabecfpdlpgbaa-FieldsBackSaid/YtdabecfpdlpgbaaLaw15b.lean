/-
  What is proved here: the law FieldsBack on heaps ('fieldsBack_ok'). No condition.
-/
import Derived.Test.YtdabecfpdlpgbaaLaw15w
namespace Go.Proofs.Ytdabecfpdlpgbaa
open Go.Den Go.Fields
namespace Fld
variable {h h0 : Heap} {w r z : Nat} {S : Nat → Prop} {bs : List UInt8} {e : Int} {R : Value → Heap → Prop}

/-! ### plain facts: there and back, and cut -/
theorem readNum_err {e : Int} (he : e ≠ 0) (bs : List UInt8) : readNum e bs = (0, e, bs) := by unfold readNum; rw [if_neg he]
theorem readMost_enc {top n : Nat} (hn : n ≤ top) (ht : top < 18446744073709551616) (y : List UInt8) : readMost top 0 (encNum n ++ y) = (n, 0, y) := by
  unfold readMost
  rw [readNum_enc (by omega)]
  rw [if_neg (by show ¬ n > top; omega)]
theorem readMost_cut {top n k : Nat} (hn : n ≤ top) (ht : top < 18446744073709551616) (hk : k < (encNum n).length) : (readMost top 0 ((encNum n).take k)).2.1 = 8 := by
  unfold readMost
  rw [readNum_cut (by omega) hk]
  rw [if_neg (by show ¬ 0 > top; omega)]
theorem readMost_err {top : Nat} {e : Int} (he : e ≠ 0) (bs : List UInt8) : readMost top e bs = (0, e, bs) := by
  unfold readMost
  rw [readNum_err he, if_neg (by show ¬ 0 > top; omega)]
theorem readText_enc {t : List UInt8} (ht : t.length < 18446744073709551616) (y : List UInt8) : readText 0 (encText t ++ y) = (t, 0, y) := by
  unfold readText encText
  rw [List.append_assoc, readNum_enc ht]
  dsimp only
  rw [if_pos rfl, if_neg (by rw [List.length_append]; omega)]
  simp
theorem readText_err {e : Int} (he : e ≠ 0) (bs : List UInt8) : readText e bs = ([], e, bs) := by
  unfold readText
  rw [readNum_err he]
  dsimp only
  rw [if_neg he]
theorem readText_cut {t : List UInt8} {k : Nat} (ht : t.length < 18446744073709551616) (hk : k < (encText t).length) : (readText 0 ((encText t).take k)).2.1 = 8 := by
  unfold readText encText
  by_cases h1 : k < (encNum t.length).length
  · rw [List.take_append_of_le_length (by omega), readNum_cut ht h1]
    rfl
  · unfold encText at hk
    rw [List.length_append] at hk
    rw [List.take_append, List.take_of_length_le (by omega), readNum_enc ht]
    dsimp only
    rw [if_pos rfl, if_pos (by rw [List.length_take]; omega)]

/-- what reading a field leaves: the fault, and the bytes -/
def rdF (f : FV) (e : Int) (bs : List UInt8) : Int × List UInt8 :=
  if f.kind = 0 then (readNum e bs).2 else if f.kind = 1 then (readInt e bs).2 else if f.kind = 2 then (readMost 1 e bs).2 else if f.kind = 3 then (readText e bs).2 else (e, bs)
/-- a field that may be -/
structure FV.fit (f : FV) : Prop where
  n : f.n < 18446744073709551616
  i : f.kind = 1 → 0 ≤ f.i ∧ f.i ≤ 1099511627776
  b : f.b.length ≤ 300
theorem bit_le (b : Bool) : bit b ≤ 1 := by unfold bit; split <;> omega
theorem rdF_enc {f : FV} (ok : f.fit) (y : List UInt8) : rdF f 0 (encF f ++ y) = (0, y) := by
  unfold rdF encF
  split
  · rw [readNum_enc ok.n]
  split
  · rename_i h1
    have := ok.i h1
    unfold readInt
    rw [readMost_enc (by unfold natOf; omega) (by omega)]
  split
  · rw [readMost_enc (bit_le _) (by omega)]
  split
  · rw [readText_enc (by have := ok.b; omega)]
  · rfl
theorem rdF_err {f : FV} {e : Int} (he : e ≠ 0) (bs : List UInt8) : (rdF f e bs).1 = e := by
  unfold rdF
  split
  · rw [readNum_err he]
  split
  · unfold readInt; rw [readMost_err he]
  split
  · rw [readMost_err he]
  split
  · rw [readText_err he]
  · rfl
theorem rdF_cut {f : FV} (ok : f.fit) {k : Nat} (hk : k < (encF f).length) : (rdF f 0 ((encF f).take k)).1 = 8 := by
  unfold rdF
  unfold encF at hk ⊢
  split
  · rename_i h0
    rw [if_pos h0] at hk
    rw [readNum_cut ok.n hk]
  rename_i h0
  rw [if_neg h0] at hk
  split
  · rename_i h1
    rw [if_pos h1] at hk
    have := ok.i h1
    exact readMost_cut (by unfold natOf; omega) (by omega) hk
  rename_i h1
  rw [if_neg h1] at hk
  split
  · rename_i h2
    rw [if_pos h2] at hk
    exact readMost_cut (bit_le _) (by omega) hk
  rename_i h2
  rw [if_neg h2] at hk
  split
  · rename_i h3
    rw [if_pos h3] at hk
    exact readText_cut (by have := ok.b; omega) hk
  rename_i h3
  rw [if_neg h3] at hk
  simp at hk
/-- too short: it was told, or it will be -/
def Short (e : Int) (rest y : List UInt8) : Prop := e = 8 ∨ (e = 0 ∧ ∃ m, m < y.length ∧ rest = y.take m)
theorem Short.step {f : FV} {e : Int} {rest y : List UInt8} (ok : f.fit) (hs : Short e rest (encF f ++ y)) : Short (rdF f e rest).1 (rdF f e rest).2 y := by
  rcases hs with rfl | ⟨rfl, m, hm, rfl⟩
  · exact .inl (rdF_err (by omega) _)
  · by_cases hlt : m < (encF f).length
    · left
      rw [List.take_append_of_le_length (by omega)]
      exact rdF_cut ok hlt
    · right
      rw [List.take_append, List.take_of_length_le (by omega), rdF_enc ok]
      rw [List.length_append] at hm
      exact ⟨rfl, m - (encF f).length, by omega, rfl⟩
def encAll (fs : List FV) : List UInt8 := fs.flatMap encF
theorem encAll_len {fs : List FV} (hb : ∀ f ∈ fs, f.b.length ≤ 300) : (encAll fs).length ≤ 310 * fs.length := by
  induction fs with
  | nil => simp [encAll]
  | cons f fs ih =>
    have h1 := encF_len (hb f List.mem_cons_self)
    have h2 := ih (fun g hg => hb g (List.mem_cons_of_mem _ hg))
    unfold encAll at *
    rw [List.flatMap_cons, List.length_append, List.length_cons]
    omega
theorem readNum_len (e : Int) (bs : List UInt8) : (readNum e bs).2.2.length ≤ bs.length := by
  unfold readNum; split
  · exact rdN_len bs 0 0
  · exact Nat.le_refl _
theorem readMost_len (top : Nat) (e : Int) (bs : List UInt8) : (readMost top e bs).2.2.length ≤ bs.length := by
  unfold readMost; split <;> exact readNum_len e bs
theorem readText_len (e : Int) (bs : List UInt8) : (readText e bs).2.2.length ≤ bs.length ∧ (readText e bs).1.length ≤ bs.length := by
  have := readNum_len e bs
  unfold readText
  split
  · split
    · exact ⟨this, by simp⟩
    · refine ⟨by rw [List.length_drop]; omega, by rw [List.length_take]; omega⟩
  · exact ⟨this, by simp⟩
theorem rdF_len (f : FV) (e : Int) (bs : List UInt8) : (rdF f e bs).2.length ≤ bs.length := by
  unfold rdF
  split
  · exact readNum_len e bs
  split
  · exact readMost_len _ e bs
  split
  · exact readMost_len _ e bs
  split
  · exact (readText_len e bs).1
  · exact Nat.le_refl _

/-! ### the law -/
def backW (h0 : Heap) (w : Nat) (fs : List FV) (i : Int) (h : Heap) : Prop :=
  ∃ (k : Nat) (S : Nat → Prop), i = (k : Int) ∧ k ≤ fs.length ∧ k ≤ 60 ∧ Wr h w S (encAll (fs.take k)) ∧ Up h0 S h ∧ ∀ f ∈ fs.take k, f.fit
def backR (h0 : Heap) (r s : Nat) (T U : Nat → Prop) (fs : List FV) (all : List UInt8) (i : Int) (h : Heap) : Prop :=
  ∃ (k : Nat) (e : Int) (rest : List UInt8), i = (k : Int) ∧ k ≤ fs.length ∧ Rd h r T 0 (encAll (fs.drop k)) ∧ Rd h s U e rest ∧ rest.length ≤ all.length ∧ (all ≠ [] → Short e rest (encAll (fs.drop k))) ∧ Fr (fun _ => False) h0 h

theorem _root_.Go.Proofs.Ytdabecfpdlpgbaa.fieldsBack_ok (lp : Option Addr) (ll lc : Nat) (cut : Int) (hv : RokV Try.prog h T.s_law15_Field (.slice lp ll lc)) (wc : (Lit.int .i64 cut).wf = true) : LawH Try.prog F.law15_FieldsBack #[.slice lp ll lc, .int .i64 cut] h := by
  obtain ⟨fs, rfl, hrow, hok⟩ := fvs_read hv
  clear hv
  unfold LawH
  generalize hR : (fun (v : Value) h' => v = .bool true ∧ Fr (fun _ => False) h h') = R
  have hk : ∀ h', Fr (fun _ => False) h h' → R (.bool true) h' := fun h' hf => by rw [← hR]; exact ⟨rfl, hf⟩
  clear hR
  refine law15_FieldsBack.walk (new_ok fun h1 w S1 H1 f1 g1 => ⟨_, rfl, ?_⟩)
  refine ⟨backW h w fs, fun i _ => 60 - i.toNat, ⟨0, S1, rfl, by omega, by omega, H1, ⟨f1, g1⟩, fun f hf => by simp at hf⟩, ?_⟩
  clear H1 f1 g1
  rintro _ h3 ⟨k, S, rfl, hkn, hk60, H, u, hfit⟩
  refine JoinP.of fun J hJ => ?_
  have lenk : (encAll (fs.take k)).length ≤ 310 * 60 := by
    have := encAll_len (fs := fs.take k) (fun f hf => (hfit f hf).b)
    rw [List.length_take] at this
    have : min k fs.length ≤ 60 := by omega
    omega
  by_cases hlast : k < fs.length ∧ k < 60
  · have q1 : (k : Int) < (fs.length : Int) := by omega
    have q2 : (k : Int) < 60 := by omega
    simp only [q1, q2, decide_true, if_true]
    subst hJ
    simp only [if_true, Int.toNat_natCast]
    obtain ⟨f, hf⟩ : ∃ f, fs[k]? = some f := ⟨fs[k], List.getElem?_eq_getElem hlast.1⟩
    have ok := hok f (List.mem_of_getElem? hf)
    have etake : fs.take (k + 1) = fs.take k ++ [f] := by rw [List.take_add_one, hf]; rfl
    refine JoinP.of fun J1 hJ1 => ?_
    obtain ⟨a, rfl, c0, c1, c2, c3, c4⟩ := fv_at (hrow.frame u.fr (fun _ _ => id)) hf
    refine ⟨⟨by omega, by omega⟩, onSome_some.2 ⟨_, c0, _, c1, _, c2, _, c3, _, _, _, c4, ?_⟩⟩
    refine new_fv fun b h10 hb bat f10 => ?_
    have H10 := H.frame f10 (fun _ _ => id)
    have u10 := u.on f10
    have rowb : Row h10 f.p (bc f.b) := ok.row.frame u10.fr (fun _ _ => id)
    refine JoinP.of fun J2 hJ2 => ?_
    have out : J2 true h10 := by
      subst hJ2
      simp only [if_true]
      exact alive_ok fun h11 f11 => ⟨_, rfl, hk h11 (u10.fr.tt f11)⟩
    have goon : f.fit → J2 false h10 := by
      intro fit
      subst hJ2
      simp only [Bool.false_eq_true, if_false]
      refine ⟨_, cell_at bat rfl, ?_⟩
      have fin : ∀ S' h', Wr h' w S' (encAll (fs.take k) ++ encF f) → Step S h10 S' h' → J1 h' := by
        intro S' h' H' st
        subst hJ1
        rw [wrap_id (by omega) (by omega)]
        refine ⟨⟨k + 1, S', by omega, by omega, by omega, ?_, u10.step st, ?_⟩, ?_⟩
        · rw [etake]; unfold encAll at H' ⊢; rw [List.flatMap_append]; simpa using H'
        · intro g hg
          rw [etake] at hg
          rcases List.mem_append.1 hg with hg | hg
          · exact hfit g hg
          · simp at hg; subst hg; exact fit
        · show 60 - Int.toNat ((k : Int) + 1) < 60 - Int.toNat (k : Int)
          omega
      clear hJ1
      have hb := fit.b
      have ndl : (encAll (fs.take k)).length ≤ 1099511627776 := by omega
      refine JoinP.of fun J3 hJ3 => ?_
      subst hJ3
      refine JoinP.of fun J3 hJ3 => ?_
      subst hJ3
      unfold encF at fin
      by_cases e0 : f.kind = 0
      · simp only [e0, beq_self_eq_true, if_true] at fin ⊢
        exact ⟨_, cell_at bat rfl, num_ok f.n H10 ndl rfl ok.n fun h' S' H' st => ⟨_, rfl, fin S' h' H' st⟩⟩
      have e0' : (f.kind == 0) = false := by simpa using e0
      simp only [e0', Bool.false_eq_true, if_false]
      simp only [e0, if_false] at fin
      refine JoinP.of fun J3 hJ3 => ?_
      subst hJ3
      by_cases e1 : f.kind = 1
      · simp only [e1, beq_self_eq_true, if_true] at fin ⊢
        exact ⟨_, cell_at bat rfl, int_ok H10 ndl ok.i fun h' S' H' st => ⟨_, rfl, fin S' h' H' st⟩⟩
      have e1' : (f.kind == 1) = false := by simpa using e1
      simp only [e1', Bool.false_eq_true, if_false]
      simp only [e1, if_false] at fin
      refine JoinP.of fun J3 hJ3 => ?_
      subst hJ3
      by_cases e2 : f.kind = 2
      · simp only [e2, beq_self_eq_true, if_true] at fin ⊢
        exact ⟨_, cell_at bat rfl, bool_ok H10 ndl fun h' S' H' st => ⟨_, rfl, fin S' h' H' st⟩⟩
      have e2' : (f.kind == 2) = false := by simpa using e2
      simp only [e2', Bool.false_eq_true, if_false]
      simp only [e2, if_false] at fin
      refine JoinP.of fun J3 hJ3 => ?_
      subst hJ3
      by_cases e3 : f.kind = 3
      · simp only [e3, beq_self_eq_true, if_true] at fin ⊢
        refine ⟨_, _, _, cell_at bat rfl, text_ok' H10 ndl rowb rfl (by omega) ?_ fun h' S' H' st => ⟨_, rfl, fin S' h' H' st⟩⟩
        intro x hx hne hs
        have := row_lt ok.row (fun e => hne (List.map_eq_nil_iff.1 e)) hx
        have := u.ge x hs
        omega
      have e3' : (f.kind == 3) = false := by simpa using e3
      simp only [e3', Bool.false_eq_true, if_false]
      simp only [e3, if_false, List.append_nil] at fin
      exact fin _ _ H10 (Step.refl _ _)
    clear hJ2
    refine ⟨_, _, _, cell_at bat rfl, ?_⟩
    by_cases hlong : f.b.length > 300
    · have : ((f.b.length : Nat) : Int) > 300 := by omega
      simp only [this, decide_true, if_true]
      exact out
    have : ¬ ((f.b.length : Nat) : Int) > 300 := by omega
    simp only [this, decide_false, Bool.false_eq_true, if_false]
    refine ⟨_, cell_at bat rfl, ?_⟩
    by_cases e1 : f.kind = 1
    · simp only [e1, beq_self_eq_true, if_true]
      refine ⟨_, cell_at bat rfl, ?_⟩
      by_cases hneg : f.i < 0
      · simp only [hneg, decide_true, if_true]; exact out
      · simp only [hneg, decide_false, Bool.false_eq_true, if_false]
        refine ⟨_, cell_at bat rfl, ?_⟩
        by_cases hbig : f.i > 1099511627776
        · simp only [hbig, decide_true]; exact out
        · simp only [hbig, decide_false]
          exact goon ⟨ok.n, fun _ => ⟨by omega, by omega⟩, by omega⟩
    · have e1' : (f.kind == 1) = false := by simpa using e1
      simp only [e1', Bool.false_eq_true, if_false]
      exact goon ⟨ok.n, fun e => absurd e e1, by omega⟩
  · have fin : J false h3 := by
      subst hJ
      simp only [Bool.false_eq_true, if_false]
      -- the fields that count
      have hcut : ∀ x : Nat, (x < k) ↔ (x < fs.length ∧ x < 60) := fun x => by omega
      generalize hfk : fs.take k = fk at *
      have fkl : fk.length = k := by rw [← hfk, List.length_take]; omega
      have fkat : ∀ (j : Nat), j < k → fk[j]? = fs[j]? := fun j hj => by rw [← hfk, List.getElem?_take, if_pos hj]
      refine bytes_ok H (by omega) fun p22 c22 h22 o22 f22 g22 => ⟨_, _, _, rfl, ?_⟩
      refine read_ok o22.row' rfl (by omega) fun h23 r T D23 f23 g23 => ⟨_, rfl, ?_⟩
      refine read_ok (bs := []) Row.nil rfl (by simp) fun h24 s0 U0 D24 f24 g24 => ⟨_, rfl, ?_⟩
      have F24 : Fr (fun _ => False) h h24 := u.fr.tt (f22.tt (f23.tt f24))
      have R24 := D23.frame f24 (fun _ _ => id)
      have o24 := o22.frame (f23.tt f24) (fun _ _ => id)
      have T0 : ∀ x, T x → h.size ≤ x := fun x hx => by have := g23 x hx; have := (u.fr.tt f22).1; omega
      refine JoinP.of fun J8 hJ8 => ?_
      have go : ∀ t : Bool, (t = true ↔ 0 ≤ cut ∧ cut < ((encAll fk).length : Int)) → J8 t h24 := by
        intro t ht
        subst hJ8
        refine JoinP.of fun J9 hJ9 => ?_
        -- with a reader of a part
        have body : ∀ (s : Nat) (U : Nat → Prop) (rest : List UInt8) (h26 : Heap), Rd h26 r T 0 (encAll fk) → Rd h26 s U 0 rest → rest.length ≤ (encAll fk).length → (encAll fk ≠ [] → Short 0 rest (encAll fk)) → Fr (fun _ => False) h h26 →
            (∀ x, U x → h.size ≤ x) → (∀ x, U x → ¬ T x) → J9 (some ⟨s, 0, none⟩) h26 := by
          intro s U rest h26 Dr0 Ds0 hr0 hs0 F26 hU hTU
          subst hJ9
          refine ⟨backR h r s T U fk (encAll fk), fun i _ => 60 - i.toNat, ⟨0, 0, rest, rfl, by omega, by simpa using Dr0, Ds0, hr0, by simpa using hs0, F26⟩, ?_⟩
          clear Dr0 Ds0 hr0 hs0 F26
          rintro _ h27 ⟨j, e, rest, rfl, hj, Dr, Ds, hrl, hsh, F27⟩
          have rT := Dr.self
          have sU := Ds.self
          have rs : r ≠ s := fun e => hTU s sU (e ▸ rT)
          refine JoinP.of fun J10 hJ10 => ?_
          by_cases hj2 : j < k
          · have q1 : (j : Int) < (fs.length : Int) := by omega
            have q2 : (j : Int) < 60 := by omega
            simp only [q1, q2, decide_true, if_true]
            subst hJ10
            simp only [if_true, Int.toNat_natCast]
            obtain ⟨f, hf⟩ : ∃ f, fs[j]? = some f := ⟨fs[j], List.getElem?_eq_getElem (by omega)⟩
            have ok := hok f (List.mem_of_getElem? hf)
            have hfk2 : fk[j]? = some f := by rw [fkat j hj2, hf]
            have fit := hfit f (List.mem_of_getElem? hfk2)
            have edrop : encAll (fk.drop j) = encF f ++ encAll (fk.drop (j + 1)) := by
              rw [List.drop_eq_getElem_cons (by omega)]
              have : fk[j] = f := by
                have := List.getElem?_eq_getElem (l := fk) (i := j) (by omega)
                rw [this] at hfk2; exact Option.some.inj hfk2
              rw [this]; unfold encAll; rw [List.flatMap_cons]
            rw [edrop] at Dr hsh
            have ylen : (encAll (fk.drop (j + 1))).length ≤ 310 * 60 := by
              have := encAll_len (fs := fk.drop (j + 1)) (fun f hf => (hfit f (List.mem_of_mem_drop hf)).b)
              rw [List.length_drop] at this
              omega
            have flen := encF_len fit.b
            generalize hy : encAll (fk.drop (j + 1)) = y at *
            obtain ⟨a, rfl, c0, c1, c2, c3, c4⟩ := fv_at (hrow.frame F27 (fun _ _ => id)) hf
            refine ⟨⟨by omega, by omega⟩, onSome_some.2 ⟨_, c0, _, c1, _, c2, _, c3, _, _, _, c4, ?_⟩⟩
            refine new_fv fun b h34 hb bat f34 => ?_
            have Dr4 := Dr.frame f34 (fun _ _ => id)
            have Ds4 := Ds.frame f34 (fun _ _ => id)
            have F34 := F27.tt f34
            have rowb : Row h34 f.p (bc f.b) := ok.row.frame F34 (fun _ _ => id)
            have br : b ≠ r := fun e => by have := Dr.lt r rT; omega
            refine ⟨_, cell_at bat rfl, ?_⟩
            refine JoinP.of fun J11 hJ11 => ?_
            have fin : ∀ h', Rd h' r T 0 y → Rd h' s U (rdF f e rest).1 (rdF f e rest).2 → Fr (fun _ => False) h h' → J11 true h' := by
              intro h' Dr' Ds' F'
              subst hJ11
              simp only [Bool.not_true, Bool.false_eq_true, if_false]
              rw [wrap_id (by omega) (by omega)]
              refine ⟨⟨j + 1, _, _, by omega, by omega, ?_, Ds', ?_, fun hne => by rw [hy]; exact Short.step fit (hsh hne), F'⟩, ?_⟩
              · rw [hy]; exact Dr'
              · have := rdF_len f e rest; omega
              · show 60 - Int.toNat ((j : Int) + 1) < 60 - Int.toNat (j : Int)
                omega
            clear hJ11
            have step1 : ∀ {h' : Heap} {e' : Int} {y' : List UInt8}, Fr (fun x => x = r) h34 h' → Rd h' r T e' y' → (Rd h' s U e rest ∧ FVat h' b f ∧ Fr (fun _ => False) h h') := by
              intro h' e' y' f' _
              refine ⟨Ds4.frame f' (fun x hx e => hTU x hx (e ▸ rT)), f'.get bat br, F34.fresh f' (fun x e => e ▸ T0 r rT)⟩
            have step2 : ∀ {h1 h2 : Heap} {y' : List UInt8}, Fr (fun _ => False) h h1 → Rd h1 r T 0 y' → Fr (fun x => x = s) h1 h2 → (Rd h2 r T 0 y' ∧ Fr (fun _ => False) h h2) := by
              intro h1 h2 y' f1 d1 f2
              exact ⟨d1.frame f2 (fun x hx e => hTU s sU (e ▸ hx)), f1.fresh f2 (fun x e => e ▸ hU s sU)⟩
            refine JoinP.of fun J12 hJ12 => ?_
            subst hJ12
            unfold rdF at fin
            by_cases e0 : f.kind = 0
            · have ee : encF f = encNum f.n := by unfold encF; rw [if_pos e0]
              rw [ee] at Dr4
              simp only [e0, beq_self_eq_true, if_true] at fin ⊢
              refine ⟨_, cell_at bat rfl, rnum_ok Dr4 fun h37 D37 f37 => ⟨_, rfl, ?_⟩⟩
              rw [readNum_enc ok.n] at D37 ⊢
              obtain ⟨Ds37, b37, F37⟩ := step1 f37 D37
              refine ⟨cell_at b37 rfl, rnum_ok Ds37 fun h38 D38 f38 => ⟨_, rfl, ?_⟩⟩
              obtain ⟨Dr38, F38⟩ := step2 F37 D37 f38
              rw [beq_self_eq_true]
              exact fin h38 Dr38 D38 F38
            have e0' : (f.kind == 0) = false := by simpa using e0
            simp only [e0', Bool.false_eq_true, if_false]
            simp only [e0, if_false] at fin
            refine JoinP.of fun J12 hJ12 => ?_
            subst hJ12
            by_cases e1 : f.kind = 1
            · have ee : encF f = encNum (natOf f.i) := by unfold encF; rw [if_neg e0, if_pos e1]
              have fi := fit.i e1
              rw [ee] at Dr4
              simp only [e1, beq_self_eq_true, if_true] at fin ⊢
              refine ⟨_, cell_at bat rfl, rint_ok Dr4 fun h37 D37 f37 => ⟨_, rfl, ?_⟩⟩
              unfold readInt at D37 ⊢
              rw [readMost_enc (by unfold natOf; omega) (by omega)] at D37 ⊢
              obtain ⟨Ds37, b37, F37⟩ := step1 f37 D37
              refine ⟨cell_at b37 rfl, rint_ok Ds37 fun h38 D38 f38 => ⟨_, rfl, ?_⟩⟩
              obtain ⟨Dr38, F38⟩ := step2 F37 D37 f38
              have en : ((natOf f.i : Nat) : Int) = f.i := by unfold natOf; omega
              dsimp only
              rw [en, beq_self_eq_true]
              exact fin h38 Dr38 D38 F38
            have e1' : (f.kind == 1) = false := by simpa using e1
            simp only [e1', Bool.false_eq_true, if_false]
            simp only [e1, if_false] at fin
            refine JoinP.of fun J12 hJ12 => ?_
            subst hJ12
            by_cases e2 : f.kind = 2
            · have ee : encF f = encNum (bit f.is) := by unfold encF; rw [if_neg e0, if_neg e1, if_pos e2]
              rw [ee] at Dr4
              simp only [e2, beq_self_eq_true, if_true] at fin ⊢
              refine ⟨_, cell_at bat rfl, rbool_ok Dr4 fun h37 D37 f37 => ⟨_, rfl, ?_⟩⟩
              rw [readMost_enc (bit_le _) (by omega)] at D37 ⊢
              obtain ⟨Ds37, b37, F37⟩ := step1 f37 D37
              refine ⟨cell_at b37 rfl, rbool_ok Ds37 fun h38 D38 f38 => ⟨_, rfl, ?_⟩⟩
              obtain ⟨Dr38, F38⟩ := step2 F37 D37 f38
              have en : (decide ((bit f.is, (0 : Int), y).1 = 1) == f.is) = true := by
                unfold bit; cases f.is <;> rfl
              rw [en]
              exact fin h38 Dr38 D38 F38
            have e2' : (f.kind == 2) = false := by simpa using e2
            simp only [e2', Bool.false_eq_true, if_false]
            simp only [e2, if_false] at fin
            refine JoinP.of fun J12 hJ12 => ?_
            subst hJ12
            by_cases e3 : f.kind = 3
            · have ee : encF f = encText f.b := by unfold encF; rw [if_neg e0, if_neg e1, if_neg e2, if_pos e3]
              have fb := fit.b
              rw [ee] at Dr4 flen
              simp only [e3, beq_self_eq_true, if_true] at fin ⊢
              refine ⟨_, _, _, cell_at bat rfl, str f.b, conv rowb rfl, rtext_ok Dr4 (by rw [List.length_append]; omega) fun h37 p37 c37 D37 o37 g37 f37 => ⟨_, _, _, rfl, ?_⟩⟩
              rw [readText_enc (by omega)] at D37 o37 ⊢
              obtain ⟨Ds37, b37, F37⟩ := step1 f37 D37
              refine ⟨conv (ok.row.frame F37 (fun _ _ => id)) rfl, cell_at b37 rfl, str f.b, conv o37.row' rfl, ?_⟩
              refine rtext_ok Ds37 (by omega) fun h38 p38 c38 D38 o38 g38 f38 => ⟨_, _, _, rfl, ?_⟩
              obtain ⟨Dr38, F38⟩ := step2 F37 D37 f38
              rw [beq_self_eq_true]
              exact fin h38 Dr38 D38 F38
            have e3' : (f.kind == 3) = false := by simpa using e3
            have ee : encF f = [] := by unfold encF; rw [if_neg e0, if_neg e1, if_neg e2, if_neg e3]
            rw [ee, List.nil_append] at Dr4
            simp only [e3', Bool.false_eq_true, if_false]
            simp only [e3, if_false] at fin
            exact fin _ Dr4 Ds4 F34
          · obtain rfl : j = k := by omega
            have edrop : encAll (fk.drop j) = [] := by rw [List.drop_of_length_le (by omega)]; rfl
            rw [edrop] at Dr hsh
            have fin : J10 false h27 := by
              subst hJ10
              simp only [Bool.false_eq_true, if_false]
              refine alive_ok fun h48 f48 => ⟨_, rfl, ?_⟩
              simp only [if_true]
              refine rend_ok (Dr.frame f48 (fun _ _ => id)) ⟨_, rfl, ?_⟩
              rw [if_pos (by rfl)]
              by_cases hz : encAll fk = []
              · rw [if_pos (by rw [hz]; rfl)]
                exact hk h48 (F27.tt f48)
              · rw [if_neg (by simpa using hz)]
                refine rend_ok (Ds.frame f48 (fun _ _ => id)) ⟨_, rfl, ?_⟩
                rcases hsh hz with rfl | ⟨_, m, hm, _⟩
                · exact hk h48 (F27.tt f48)
                · simp at hm
            by_cases q1 : (j : Int) < (fs.length : Int)
            · have q2 : ¬ (j : Int) < 60 := by omega
              simp only [q1, q2, decide_true, decide_false, if_true]
              exact fin
            · simp only [q1, decide_false, Bool.false_eq_true, if_false]
              exact fin
        clear hJ9
        cases t with
        | true =>
          obtain ⟨hc0, hc1⟩ := ht.1 rfl
          obtain ⟨ct, rfl⟩ := Int.eq_ofNat_of_zero_le hc0
          simp only [if_true]
          have hle := o22.le
          refine ⟨⟨by omega, by omega⟩, ?_⟩
          have oc := o24.sub (l := 0) (u := ct) (by omega) (by omega)
          simp only [Nat.mul_one, List.drop_zero, bc_take] at oc
          have etl : ((encAll fk).take ct).length = ct := by rw [List.length_take]; omega
          refine read_ok (bs := (encAll fk).take ct) oc.row' (by rw [etl]; omega) (by omega) fun h59 s U D59 f59 g59 => ⟨_, rfl, ?_⟩
          refine body s U _ h59 (R24.frame f59 (fun _ _ => id)) D59 (by omega) (fun _ => .inr ⟨rfl, ct, by omega, rfl⟩) (F24.tt f59) (fun x hx => ?_) (fun x hx hT => ?_)
          · have := g59 x hx; have := F24.1; omega
          · have := g59 x hx; have := R24.lt x hT; omega
        | false =>
          simp only [Bool.false_eq_true, if_false]
          refine body s0 U0 [] h24 R24 D24 (by simp) (fun hne => .inr ⟨rfl, 0, ?_, rfl⟩) F24 (fun x hx => ?_) (fun x hx hT => ?_)
          · cases hq : encAll fk with
            | nil => exact absurd hq hne
            | cons _ _ => simp
          · have := g24 x hx; have := (u.fr.tt (f22.tt f23)).1; omega
          · have := g24 x hx; have := D23.lt x hT; omega
      by_cases hc : cut ≥ 0
      · simp only [hc, decide_true, if_true]
        refine go _ ?_
        simp [hc]
      · simp only [hc, decide_false, Bool.false_eq_true, if_false]
        refine go _ ?_
        simp; omega
    by_cases q1 : (k : Int) < (fs.length : Int)
    · have q2 : ¬ (k : Int) < 60 := by omega
      simp only [q1, q2, decide_true, decide_false, if_true]
      exact fin
    · simp only [q1, decide_false, Bool.false_eq_true, if_false]
      exact fin
end Fld
end Go.Proofs.Ytdabecfpdlpgbaa
