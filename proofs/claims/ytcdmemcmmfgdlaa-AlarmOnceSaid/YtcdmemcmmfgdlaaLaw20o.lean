/-
  What is proved here: the law AlarmOnce on heaps ('alarmOnce_ok'). No condition.
-/
import Derived.Test.YtcdmemcmmfgdlaaLaw20m
import Derived.Test.YtcdmemcmmfgdlaaMake
namespace Go.Proofs.Ytcdmemcmmfgdlaa
open Go.Den Go.Heapq
namespace Alarm
variable {h h0 : Heap} {a : Nat} {R : Value → Heap → Prop} {S : Nat → Prop} {L : List E}

theorem tB : SlTy Try.prog T.s_bool T.bool 1 1 (.bool false) := ⟨by kernel_rfl, by kernel_rfl, rfl⟩

/-- key j + 1, at time j -/
def full (ts : List Int) (j : Nat) : E := ((j : Int) + 1, ts.getD j 0)
/-- which keys came -/
def cameL (n : Nat) (D : List E) : List Value := (List.range n).map fun (j : Nat) => .bool (decide (((j : Int) + 1) ∈ keys D))
theorem cameL_len (n : Nat) (D : List E) : (cameL n D).length = n := by simp [cameL]
theorem cameL_nil (n : Nat) : cameL n [] = List.replicate n (.bool false) := by
  refine List.ext_getElem (by simp [cameL]) fun i h1 h2 => ?_
  simp [cameL, keys]
theorem cameL_at {n j : Nat} {D : List E} (hj : j < n) : (cameL n D)[j]? = some (.bool (decide (((j : Int) + 1) ∈ keys D))) := by simp [cameL, hj]
theorem cameL_set {n j : Nat} {D : List E} {e : E} (he : e.1 = (j : Int) + 1) : (cameL n D).set j (.bool true) = cameL n (D ++ [e]) := by
  refine List.ext_getElem (by simp [cameL]) fun i h1 h2 => ?_
  rw [List.getElem_set]
  by_cases q : j = i
  · subst q
    simp [cameL, keys, he]
  · simp only [if_neg q, cameL, List.getElem_map, List.getElem_range, Value.bool.injEq, decide_eq_decide]
    have : ((i : Int) + 1) ≠ e.1 := by rw [he]; omega
    simp [keys, this]
def lastT (D : List E) : Int := (D.getLast?.map (·.2)).getD (-1)
theorem lastT_add (D : List E) (e : E) : lastT (D ++ [e]) = e.2 := by simp [lastT]

structure Facts (ts : List Int) (L0 : List E) : Prop where
  so : Sorted L0
  nd : (keys L0).Nodup
  of : ∀ e ∈ L0, ∃ j, j < ts.length ∧ e = full ts j
  all : ∀ j, j < ts.length → full ts j ∈ L0
  len : L0.length = ts.length

/-- how far it is -/
structure Once (h0 h : Heap) (a : Nat) (S : Nat → Prop) (cp : Option Addr) (n : Nat) (D U : List E) : Prop where
  has : Has h0 h a S U
  came : Own h cp n n 1 (cameL n D)
  cge : ∀ c, inBlk cp c → h0.size ≤ c
  cS : ∀ c, inBlk cp c → ¬ S c

def onceA (h0 : Heap) (a : Nat) (ts : List Int) (i : Int) (h : Heap) : Prop :=
  ∃ k S L, i = ((k : Nat) : Int) ∧ k ≤ ts.length ∧ Has h0 h a S L ∧ L.length = k ∧ (∀ e ∈ L, ∃ j, j < k ∧ e = full ts j) ∧ ∀ j, j < k → full ts j ∈ L
def onceB (h0 : Heap) (a : Nat) (S : Nat → Prop) (cp : Option Addr) (n m : Nat) (L0 : List E) (now last nn i : Int) (h : Heap) : Prop :=
  ∃ k D U, i = ((k : Nat) : Int) ∧ k ≤ m + 1 ∧ k ≤ 300 ∧ L0 = D ++ U ∧ Once h0 h a S cp n D U ∧ 0 ≤ now ∧ now ≤ 65536 + 255 * k ∧ (∀ e ∈ D, e.2 ≤ now) ∧ last = lastT D ∧ nn = D.length ∧ (k = m + 1 → U = [])
def onceC (h0 : Heap) (a : Nat) (S : Nat → Prop) (cp : Option Addr) (n : Nat) (D Q U : List E) (lp : Option Addr) (lc : Nat) (last nn i : Int) (h : Heap) : Prop :=
  ∃ j : Nat, i = j ∧ j ≤ Q.length ∧ Once h0 h a S cp n (D ++ Q.take j) U ∧ Own h lp Q.length lc 1 (kc Q) ∧ last = lastT (D ++ Q.take j) ∧ nn = (D ++ Q.take j).length

theorem alarmOnce_ok (tp : Option Addr) (tl tc : Nat) (sp : Option Addr) (sl sc : Nat) (ht : RokV Try.prog h T.s_uint16 (.slice tp tl tc)) (hs : RokV Try.prog h T.s_uint8 (.slice sp sl sc)) :
    LawH Try.prog F.law20_AlarmOnce #[.slice tp tl tc, .slice sp sl sc] h := by
  obtain ⟨ts, rfl, trow, twf⟩ := RokV.ints (k := .u16) (e := T.uint16) (by kernel_rfl) (by kernel_rfl) (by kernel_rfl) ht
  obtain ⟨ss, rfl, srow, swf⟩ := RokV.ints (k := .u8) (e := T.uint8) (by kernel_rfl) (by kernel_rfl) (by kernel_rfl) hs
  clear ht hs
  have twf : ∀ j, j < ts.length → 0 ≤ ts.getD j 0 ∧ ts.getD j 0 ≤ 65535 := fun j hj => wf_u16 (twf _ (getD_mem hj))
  have swf : ∀ j, j < ss.length → 0 ≤ ss.getD j 0 ∧ ss.getD j 0 ≤ 255 := fun j hj => wf_u8 (swf _ (getD_mem hj))
  unfold LawH
  generalize hR : (fun (v : Value) h' => v = .bool true ∧ Fr (fun _ => False) h h') = R
  have hk : ∀ h', Fr (fun _ => False) h h' → R (.bool true) h' := fun h' hf => by rw [← hR]; exact ⟨rfl, hf⟩
  clear hR
  refine law20_AlarmOnce.walk (new_has fun a S1 h1 H1 => ⟨_, rfl, ?_⟩)
  by_cases h200 : ts.length > 200
  · have : ((ts.length : Nat) : Int) > 200 := by omega
    simp only [this, decide_true, if_true]
    exact alive_ok fun h2 f2 => ⟨_, rfl, hk h2 (Fr.tt H1.fr f2)⟩
  have h200' : ¬ ((ts.length : Nat) : Int) > 200 := by omega
  simp only [h200', decide_false, Bool.false_eq_true, if_false]
  refine ⟨onceA h a ts, fun i _ => ts.length - i.toNat, ⟨0, S1, [], rfl, by omega, H1, rfl, (fun e he => by cases he), fun j hj => by omega⟩, ?_⟩
  clear H1
  rintro i h3 ⟨k, S, L, rfl, hk2, H, hL, hof, hall⟩
  by_cases hkl : k < ts.length
  · have hkl' : (k : Int) < (ts.length : Int) := by omega
    simp only [hkl', decide_true, if_true, Int.toNat_natCast]
    obtain ⟨ad, rfl, ck⟩ := row_int_at (row_mono trow H.fr) hkl
    have tw := twf k hkl
    rw [wrap_id (n := (k : Int) + 1) (by omega) (by omega)]
    refine ⟨⟨by omega, trivial⟩, onSome_some.2 ⟨_, ck, ?_⟩⟩
    rw [wrap_u64 tw.1 (by omega)]
    have mm : may ((k : Int) + 1) (ts.getD k 0) = true := may_iff.2 ⟨by omega, by omega, by omega⟩
    refine set_has H (by omega) _ _ tw.1 (fun _ h4 S4 H4 _ _ => ⟨_, rfl, ?_⟩) (fun hf => by rw [hf] at mm; cases mm)
    simp only [bne_self_eq_false, Bool.false_eq_true, if_false]
    have nin : ((k : Int) + 1) ∉ keys L := fun hm => by
      obtain ⟨e, he, e1⟩ := List.mem_map.1 hm
      obtain ⟨j, hj, rfl⟩ := hof e he
      simp only [full] at e1; omega
    have pm := setL_perm L ((k : Int) + 1) (ts.getD k 0)
    rw [dropK_none nin] at pm
    refine ⟨⟨k + 1, S4, _, by omega, by omega, H4, ?_, ?_, ?_⟩, ?_⟩
    · rw [pm.length_eq, List.length_cons]; omega
    · intro e he
      rcases List.mem_cons.1 (pm.mem_iff.1 he) with rfl | he
      · exact ⟨k, by omega, rfl⟩
      · obtain ⟨j, hj, e1⟩ := hof e he
        exact ⟨j, by omega, e1⟩
    · intro j hj
      refine pm.mem_iff.2 ?_
      by_cases q : j = k
      · subst q; exact List.mem_cons_self
      · exact List.mem_cons_of_mem _ (hall j (by omega))
    · show ts.length - Int.toNat ((k : Int) + 1) < ts.length - Int.toNat (k : Int); omega
  have hkl' : ¬ (k : Int) < (ts.length : Int) := by omega
  simp only [hkl', decide_false, Bool.false_eq_true, if_false]
  obtain rfl : k = ts.length := by omega
  have F : Facts ts L := ⟨H.al.sorted, H.al.nodup, hof, hall, hL⟩
  clear hk2 hof hall hkl hkl' hL
  refine den_make tB (z0 := .bool false) rfl ts.length (by omega) (by omega) fun h5 cp o5 f5 g5 => ⟨_, _, _, rfl, ?_⟩
  rw [← cameL_nil] at o5
  have O5 : Once h h5 a S cp ts.length [] L := ⟨H.on f5, o5, fun c hc => by have := g5 c hc; have := H.fr.1; omega, fun c hc hx => by have := g5 c hc; have := H.al.lt hx; omega⟩
  refine ⟨onceB h a S cp ts.length ss.length L, fun _ _ _ i _ => 300 - i.toNat, ⟨0, [], L, rfl, by omega, by omega, rfl, O5, by omega, by omega, (fun e he => by cases he), rfl, rfl, fun e => by omega⟩, ?_⟩
  clear O5 o5 f5 g5 H
  rintro now last nn i h6 ⟨k, D, U, rfl, hk1, hk3, eL, O, hn0, hn1, hDn, rfl, rfl, hend⟩
  have lenDU : D.length + U.length = ts.length := by rw [← F.len, eL, List.length_append]
  refine JoinP.of fun J hJ => ?_
  have fin : (k = ss.length + 1 ∨ k = 300) → J false h6 := by
    intro hk4
    subst hJ
    simp only [Bool.false_eq_true, if_false]
    refine alive_ok fun h7 f7 => ⟨_, rfl, ?_⟩
    simp only [if_true]
    have fe : Fr (fun _ => False) h h7 := Fr.tt O.has.fr f7
    by_cases h300 : ss.length ≥ 300
    · have : ((ss.length : Nat) : Int) ≥ 300 := by omega
      simp only [this, decide_true, if_true]
      exact hk h7 fe
    · have : ¬ ((ss.length : Nat) : Int) ≥ 300 := by omega
      simp only [this, decide_false, Bool.false_eq_true, if_false]
      have hU := hend (by omega)
      subst hU
      have e1 : (((D.length : Nat) : Int) == ((ts.length : Nat) : Int)) = true := by
        simp only [List.length_nil] at lenDU; simp; omega
      simp only [e1, if_true]
      exact len_ok (O.has.on f7).al ⟨_, rfl, hk h7 fe⟩
  by_cases hle : k ≤ ss.length
  · have hle' : (k : Int) ≤ (ss.length : Int) := by omega
    simp only [hle', decide_true, if_true]
    by_cases hlt : k < 300
    · have hlt' : (k : Int) < 300 := by omega
      simp only [hlt', decide_true]
      clear fin
      subst hJ
      simp only [if_true]
      refine JoinP.of fun J1 hJ1 => ?_
      -- the ring at 'now1'
      have go : ∀ now1 : Int, 0 ≤ now1 → now1 ≤ 65536 + 255 * (k + 1) → (∀ e ∈ D, e.2 ≤ now1) → (k = ss.length → now1 = 65536) → J1 now1 h6 := by
        intro now1 m0 m1 hD1 hlast
        subst hJ1
        simp only []
        rw [wrap_id (n := (k : Int) + 1) (by omega) (by omega)]
        refine ring_has O.has (by omega) now1 fun h9 lp lc H9 ol gl f9 => ⟨_, _, _, rfl, ?_⟩
        have soU : Sorted U := O.has.al.sorted
        have dq : ∀ e, e ∈ due U now1 ↔ e ∈ U ∧ e.2 ≤ now1 := due_mem soU now1
        have eU := due_append U now1
        have hrest : ∀ e ∈ rest U now1, ¬ e.2 ≤ now1 := by
          intro e he hx
          have h1 : e ∈ due U now1 := (dq e).2 ⟨by rw [← eU]; exact List.mem_append_right _ he, hx⟩
          have ndU := O.has.al.nodup
          rw [← eU] at ndU
          unfold keys at ndU
          rw [List.map_append, List.nodup_append] at ndU
          exact ndU.2.2 _ (List.mem_map_of_mem h1) _ (List.mem_map_of_mem he) rfl
        generalize due U now1 = Q at ol dq eU
        generalize rest U now1 = V at H9 eU hrest
        have came9 := O.came.frame f9 fun c hc hx => O.cS c hc hx
        have eL' : L = D ++ Q ++ V := by rw [eL, ← eU, List.append_assoc]
        have O9 : Once h h9 a S cp ts.length (D ++ Q.take 0) V := ⟨H9, by simpa using came9, O.cge, O.cS⟩
        have lenQ : D.length + Q.length + V.length = ts.length := by rw [← F.len, eL', List.length_append, List.length_append]
        have gl' : ∀ c, inBlk lp c → ¬ inBlk cp c := fun c hc hx => by have := gl c hc; have := O.came.blk_lt hx; omega
        refine ⟨onceC h a S cp ts.length D Q V lp lc, fun _ _ i _ => Q.length - i.toNat, ⟨0, rfl, by omega, O9, ol, by simp, by simp⟩, ?_⟩
        clear O9 came9 ol H9
        rintro _ _ _ h10 ⟨j, rfl, hj, O10, ol, rfl, rfl⟩
        by_cases hjl : j < Q.length
        · have hjl' : (j : Int) < (Q.length : Int) := by omega
          rw [if_pos (show decide ((j : Int) < (Q.length : Int)) = true from decide_eq_true hjl')]
          simp only [Int.toNat_natCast]
          rw [wrap_id (n := (j : Int) + 1) (by omega) (by omega)]
          have take1 : Q.take (j + 1) = Q.take j ++ [at_ Q j] := by rw [at_get hjl]; exact (List.take_append_getElem hjl).symm
          have split : L = D ++ Q.take j ++ at_ Q j :: (Q.drop (j + 1) ++ V) := by
            have : Q = Q.take j ++ at_ Q j :: Q.drop (j + 1) := by rw [at_get hjl, ← List.drop_eq_getElem_cons hjl, List.take_append_drop]
            rw [eL']
            conv => lhs; rw [this]
            simp
          have heL : at_ Q j ∈ L := by rw [split]; exact List.mem_append_right _ List.mem_cons_self
          obtain ⟨q, hq, eq⟩ := F.of _ heL
          have e1 : (at_ Q j).1 = (q : Int) + 1 := by rw [eq]; rfl
          have e2 : (at_ Q j).2 = ts.getD q 0 := by rw [eq]; rfl
          have edue : (at_ Q j).2 ≤ now1 := ((dq _).1 (at_mem hjl)).2
          have tw := twf q hq
          obtain ⟨la, rfl, cl⟩ := key_at ol hjl
          rw [e1] at cl
          obtain ⟨ta, rfl, ct⟩ := row_int_at (row_mono trow O10.has.fr) hq
          obtain ⟨cb, coff, rfl⟩ := O10.came.some (by rw [cameL_len]; omega)
          have knot : ((q : Int) + 1) ∉ keys (D ++ Q.take j) := fun hm => by
            have nd := F.nd
            rw [split] at nd
            unfold keys at nd hm
            rw [List.map_append, List.nodup_append] at nd
            exact nd.2.2 _ hm _ List.mem_cons_self e1.symm
          have cc := O10.came.cell (cameL_at (D := D ++ Q.take j) hq)
          rw [decide_eq_false knot] at cc
          have wq : IntKind.wrap .i64 ((q : Int) + 1 - 1) = (q : Int) := by rw [wrap_id (by omega) (by omega)]; omega
          have inL : (0 : Int) ≤ (j : Int) ∧ (j : Int) < (Q.length : Int) := by omega
          have inT : (0 : Int) ≤ IntKind.wrap .i64 ((q : Int) + 1 - 1) ∧ IntKind.wrap .i64 ((q : Int) + 1 - 1) < ((ts.length : Nat) : Int) := by rw [wq]; omega
          have ct' : hcell h10 (ta.add (Int.toNat (IntKind.wrap .i64 ((q : Int) + 1 - 1)) * 1)) = some (.int .u16 (ts.getD q 0)) := by rw [wq, Int.toNat_natCast]; exact ct
          have cc' : hcell h10 ((⟨cb, coff, none⟩ : Addr).add (Int.toNat (IntKind.wrap .i64 ((q : Int) + 1 - 1)) * 1)) = some (.bool false) := by rw [wq, Int.toNat_natCast, Nat.mul_one]; exact cc
          refine JoinP.of fun J2 hJ2 => ⟨inL, onSome_some.2 ⟨_, cl, ?_⟩⟩
          have pass : J2 false h10 := by
            subst hJ2
            simp only [Bool.false_eq_true, if_false]
            refine JoinP.of fun J3 hJ3 => ?_
            have pass3 : J3 false h10 := by
              subst hJ3
              simp only [Bool.false_eq_true, if_false]
              refine ⟨inL, onSome_some.2 ⟨_, cl, inL, onSome_some.2 ⟨_, cl, inT, onSome_some.2 ⟨_, ct', inT, onSome_some.2 ?_⟩⟩⟩⟩
              rw [wq, Int.toNat_natCast, Nat.mul_one]
              rw [wrap_id (n := ts.getD q 0) (by omega) (by omega), wrap_id (n := (((D ++ Q.take j).length : Nat) : Int) + 1) (by rw [List.length_append, List.length_take]; omega) (by rw [List.length_append, List.length_take]; omega)]
              refine O10.came.store (by rw [cameL_len]; exact hq) fun h11 o11 s11 k11 => ?_
              rw [cameL_set e1, List.append_assoc, ← take1] at o11
              have f11 : Fr (inBlk (some ⟨cb, coff, none⟩)) h10 h11 := Fr.of_eq s11 k11
              refine ⟨⟨j + 1, by omega, by omega, ⟨⟨O10.has.al.frame f11 fun c hc hx => O10.cS c hx hc, O10.has.ge, O10.has.fr.step f11 fun c hc hx => by have := O10.cge c hx; omega⟩, o11, O10.cge, O10.cS⟩, ol.frame f11 (fun c hc hx => gl' c hc hx), ?_, ?_⟩, ?_⟩
              · rw [take1, ← List.append_assoc, lastT_add, e2]
              · rw [take1, ← List.append_assoc]
                have : ((D ++ Q.take j) ++ [at_ Q j]).length = (D ++ Q.take j).length + 1 := by rw [List.length_append (bs := [at_ Q j])]; rfl
                rw [this]; omega
              · show Q.length - Int.toNat ((j : Int) + 1) < Q.length - Int.toNat (j : Int); omega
            by_cases hj0 : (j : Int) > 0
            · simp only [hj0, decide_true, if_true]
              have hj1 : j - 1 < Q.length := by omega
              have heL1 : at_ Q (j - 1) ∈ L := by rw [eL']; exact List.mem_append_left _ (List.mem_append_right _ (at_mem hj1))
              obtain ⟨r, hr, er⟩ := F.of _ heL1
              have r1 : (at_ Q (j - 1)).1 = (r : Int) + 1 := by rw [er]; rfl
              have r2 : (at_ Q (j - 1)).2 = ts.getD r 0 := by rw [er]; rfl
              obtain ⟨_, x, cl1⟩ := key_at ol hj1
              cases x
              rw [r1] at cl1
              obtain ⟨_, x, cr⟩ := row_int_at (row_mono trow O10.has.fr) hr
              cases x
              have wr : IntKind.wrap .i64 ((r : Int) + 1 - 1) = (r : Int) := by rw [wrap_id (by omega) (by omega)]; omega
              have wj : IntKind.wrap .i64 ((j : Int) - 1) = ((j - 1 : Nat) : Int) := by rw [wrap_id (by omega) (by omega)]; omega
              rw [wj]
              simp only [Int.toNat_natCast]
              refine ⟨inL, onSome_some.2 ⟨_, cl, inT, onSome_some.2 ⟨_, ct', ⟨by omega, by omega⟩, onSome_some.2 ⟨_, cl1, ⟨by rw [wr]; omega, by rw [wr]; omega⟩, onSome_some.2 ⟨_, by rw [wr, Int.toNat_natCast]; exact cr, ?_⟩⟩⟩⟩⟩
              have hlt2 : lt (at_ Q (j - 1)) (at_ Q j) := by
                have soQ : Sorted Q := by
                  have := F.so
                  rw [eL'] at this
                  exact (List.pairwise_append.1 (List.pairwise_append.1 this).1).2.1
                rw [at_get hj1, at_get hjl]
                exact List.pairwise_iff_getElem.1 soQ (j - 1) j hj1 hjl (by omega)
              by_cases hte : ts.getD q 0 = ts.getD r 0
              · have : (ts.getD q 0 == ts.getD r 0) = true := beq_iff_eq.2 hte
                simp only [this, if_true]
                refine ⟨inL, onSome_some.2 ⟨_, cl, ⟨by omega, by omega⟩, onSome_some.2 ⟨_, cl1, ?_⟩⟩⟩
                have : ¬ (q : Int) + 1 < (r : Int) + 1 := by
                  unfold lt at hlt2; rw [r1, r2, e1, e2] at hlt2; omega
                simp only [this, decide_false]
                exact pass3
              · simp only [beq_eq_false_iff_ne.2 hte, Bool.false_eq_true, if_false]
                exact pass3
            · simp only [hj0, decide_false, Bool.false_eq_true, if_false]
              exact pass3
          clear hJ2
          simp only [show ¬ (q : Int) + 1 < 1 by omega, decide_false, Bool.false_eq_true, if_false]
          refine ⟨inL, onSome_some.2 ⟨_, cl, ?_⟩⟩
          simp only [show ¬ (q : Int) + 1 > ((ts.length : Nat) : Int) by omega, decide_false, Bool.false_eq_true, if_false]
          refine ⟨inL, onSome_some.2 ⟨_, cl, inT, onSome_some.2 ⟨_, cc', ?_⟩⟩⟩
          simp only [Bool.false_eq_true, if_false]
          refine ⟨inL, onSome_some.2 ⟨_, cl, inT, onSome_some.2 ⟨_, ct', ?_⟩⟩⟩
          rw [wrap_u64 tw.1 (by omega)]
          simp only [show ¬ ts.getD q 0 > now1 by omega, decide_false, Bool.false_eq_true, if_false]
          by_cases hl0 : lastT (D ++ Q.take j) ≥ 0
          · simp only [hl0, decide_true, if_true]
            refine ⟨inL, onSome_some.2 ⟨_, cl, inT, onSome_some.2 ⟨_, ct', ?_⟩⟩⟩
            rw [wrap_id (by omega) (by omega)]
            have : ¬ ts.getD q 0 < lastT (D ++ Q.take j) := by
              intro hx
              unfold lastT at hx hl0
              cases hg : (D ++ Q.take j).getLast? with
              | none => rw [hg] at hl0; simp at hl0
              | some w =>
                rw [hg] at hx
                have hw : w ∈ D ++ Q.take j := List.mem_of_getLast? hg
                have so := F.so
                rw [split] at so
                have := (List.pairwise_append.1 so).2.2 w hw (at_ Q j) List.mem_cons_self
                unfold lt at this
                rw [e2] at this
                simp only [Option.map_some, Option.getD_some] at hx; omega
            simp only [this, decide_false]
            exact pass
          · simp only [hl0, decide_false, Bool.false_eq_true, if_false]
            exact pass
        · have hjl' : ¬ (j : Int) < (Q.length : Int) := by omega
          simp only [hjl', decide_false, Bool.false_eq_true, if_false]
          rw [List.take_of_length_le (by omega)] at O10 ⊢
          refine ⟨fun i h' => ∃ q : Nat, i = q ∧ q ≤ ts.length ∧ h' = h10, fun i _ => ts.length - i.toNat, ⟨0, rfl, by omega, rfl⟩, ?_⟩
          rintro _ h10 ⟨q, rfl, hq, rfl⟩
          by_cases hql : q < ts.length
          · have hql' : (q : Int) < (ts.length : Int) := by omega
            simp only [hql', decide_true, if_true, Int.toNat_natCast]
            rw [wrap_id (n := (q : Int) + 1) (by omega) (by omega)]
            obtain ⟨ta, rfl, ct⟩ := row_int_at (row_mono trow O10.has.fr) hql
            obtain ⟨cb, coff, rfl⟩ := O10.came.some (by rw [cameL_len]; omega)
            have tw := twf q hql
            refine ⟨⟨by omega, trivial⟩, onSome_some.2 ⟨_, by rw [Nat.mul_one]; exact O10.came.cell (cameL_at hql), ⟨by omega, trivial⟩, onSome_some.2 ⟨_, ct, ?_⟩⟩⟩
            rw [wrap_u64 tw.1 (by omega)]
            have same : decide (((q : Int) + 1) ∈ keys (D ++ Q)) = decide (ts.getD q 0 ≤ now1) := by
              rw [decide_eq_decide]
              have hm := F.all q hql
              rw [eL'] at hm
              constructor
              · intro hx
                obtain ⟨e, he, e1⟩ := List.mem_map.1 hx
                have hle : e.2 ≤ now1 := by
                  rcases List.mem_append.1 he with he | he
                  · exact hD1 e he
                  · exact ((dq e).1 he).2
                obtain ⟨r, hr, rfl⟩ := F.of e (by rw [eL']; exact List.mem_append_left _ he)
                have : r = q := by simp only [full] at e1; omega
                subst this
                exact hle
              · intro hx
                rcases List.mem_append.1 hm with he | he
                · exact List.mem_map_of_mem (f := (·.1)) he
                · exact absurd hx (hrest _ he)
            rw [same]
            simp only [beq_self_eq_true, Bool.not_true, Bool.false_eq_true, if_false]
            refine ⟨⟨q + 1, by omega, by omega, by trivial⟩, ?_⟩
            show ts.length - Int.toNat ((q : Int) + 1) < ts.length - Int.toNat (q : Int); omega
          · have hql' : ¬ (q : Int) < (ts.length : Int) := by omega
            simp only [hql', decide_false, Bool.false_eq_true, if_false]
            refine ⟨⟨k + 1, D ++ Q, V, by omega, by omega, by omega, eL', O10, m0, by omega, ?_, rfl, rfl, ?_⟩, ?_⟩
            · intro e he
              rcases List.mem_append.1 he with he | he
              · exact hD1 e he
              · exact ((dq e).1 he).2
            · intro hks
              have h65 := hlast (by omega)
              cases V with
              | nil => rfl
              | cons v V =>
                obtain ⟨r, hr, er⟩ := F.of v (by rw [eL']; exact List.mem_append_right _ List.mem_cons_self)
                have := hrest v List.mem_cons_self
                have tw := twf r hr
                rw [er] at this
                simp only [full] at this
                omega
            · show 300 - Int.toNat ((k : Int) + 1) < 300 - Int.toNat (k : Int); omega
      clear hJ1
      by_cases hks : k = ss.length
      · have : ((k : Int) == (ss.length : Int)) = true := by simp [hks]
        simp only [this, if_true]
        refine go 65536 (by omega) (by omega) (fun e he => ?_) (fun _ => rfl)
        obtain ⟨r, hr, rfl⟩ := F.of e (by rw [eL]; exact List.mem_append_left _ he)
        have := twf r hr
        simp only [full]; omega
      · have : ((k : Int) == (ss.length : Int)) = false := by simp; omega
        simp only [this, Bool.false_eq_true, if_false, Int.toNat_natCast]
        obtain ⟨sa, rfl, cs⟩ := row_int_at (row_mono srow O.has.fr) (i := k) (by omega)
        have sw := swf k (by omega)
        refine ⟨⟨by omega, by omega⟩, onSome_some.2 ⟨_, cs, ?_⟩⟩
        rw [wrap_u64 (n := ss.getD k 0) sw.1 (by omega), wrap_u64 (by omega) (by omega)]
        exact go _ (by omega) (by omega) (fun e he => by have := hDn e he; omega) (fun e => absurd e hks)
    · simp only [show ¬ (k : Int) < 300 by omega, decide_false]
      exact fin (.inr (by omega))
  · simp only [show ¬ (k : Int) ≤ (ss.length : Int) by omega, decide_false, Bool.false_eq_true, if_false]
    exact fin (.inl (by omega))
end Alarm
theorem alarmOnce_ok {h : Heap} (tp : Option Addr) (tl tc : Nat) (sp : Option Addr) (sl sc : Nat) (ht : RokV Try.prog h T.s_uint16 (.slice tp tl tc)) (hs : RokV Try.prog h T.s_uint8 (.slice sp sl sc)) :
    LawH Try.prog F.law20_AlarmOnce #[.slice tp tl tc, .slice sp sl sc] h := Alarm.alarmOnce_ok tp tl tc sp sl sc ht hs
end Go.Proofs.Ytcdmemcmmfgdlaa
