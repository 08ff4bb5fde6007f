/-
  What is proved here: the fixed calls of layer 24 ('alive'); the laws SessionsKeep and SessionsCycle on heaps. No condition.
-/
import Derived.Test.YtlnofnmdiddmkaaSesOps3
import Derived.Test.YtlnofnmdiddmkaaVcD
namespace Go.Proofs.Ytlnofnmdiddmkaa
open Go.Den Go.Fields
namespace Ses
open Fld
variable {h h' h0 : Heap} {t : Nat} {X : Ft} {R : Value → Heap → Prop} {p q : Option Addr} {c d i : Nat} {A : List Ses}

theorem alive_ok (hk : ∀ h', Fr (fun _ => False) h h' → R (.bool true) h') : CallsH Try.prog F.law24_alive #[] h R := by
  refine law24_alive.walk (new_ok fun h1 t X1 H1 f1 g1 => ⟨_, rfl, ?_⟩)
  have u1 : UpF h X1 h1 := ⟨f1, g1⟩
  refine open_ok 5 rfl H1 okA.nil fun h2 X2 H2 s2 => ⟨_, _, rfl, ?_⟩
  have u2 := u1.step s2
  have e2 : openA [] 5 = [⟨1, 5, true, false, [], []⟩] := rfl
  have k2 : okA (openA [] 5) := okA.nil.open 5
  rw [e2] at H2 k2
  refine open_ok 5 rfl H2 k2 fun h3 X3 H3 s3 => ⟨_, _, rfl, ?_⟩
  have u3 := u2.step s3
  have e3 : openA [⟨1, 5, true, false, [], []⟩] 5 = [⟨1, 5, true, false, [], []⟩] := rfl
  rw [e3] at H3
  refine lit_ok (bs := [120]) rfl fun h5 r5 f5 => ?_
  have H5 := H3.frame f5 (fun _ _ => id)
  have u5 := u3.on f5
  refine keep_ok 9 rfl (b := [120]) H5 k2 r5 rfl (fun _ x ⟨a, e, e2⟩ hM => by cases e; have := H3.lt x (.inl hM); simp at e2; omega) fun h6 X6 H6 s6 => ⟨_, rfl, ?_⟩
  have u6 := u5.step s6
  have k6 := k2.keep 1 9 [120]
  have e6 : keepA [⟨1, 5, true, false, [], []⟩] 1 9 [120] = [⟨1, 5, true, false, [(9, [120])], []⟩] := rfl
  rw [e6] at H6 k6
  refine kept_ok 9 rfl H6 k6 (fun b hb h7 p7 c7 o7 f7 g7 => ⟨_, _, _, _, rfl, ?_⟩) (fun hn => by cases hn)
  have hb : [120] = b := Option.some.inj hb
  subst hb
  have H7 := H6.frame f7 (fun _ _ => id)
  have u7 := u6.on f7
  refine lit_ok (bs := [110]) rfl fun h9 r9 f9 => ?_
  have H9 := H7.frame f9 (fun _ _ => id)
  have u9 := u7.on f9
  refine note_ok (b := [110]) H9 k6 r9 rfl (by simp) fun h10 X10 H10 s10 => ⟨_, rfl, ?_⟩
  have u10 := u9.step s10
  have e10 : noteA [⟨1, 5, true, false, [(9, [120])], []⟩] 1 [110] = [⟨1, 5, true, false, [(9, [120])], []⟩] := rfl
  rw [e10] at H10
  refine watch_ok H10 k6 fun h11 X11 H11 s11 => ⟨_, rfl, ?_⟩
  have u11 := u10.step s11
  have k11 := k6.watch 1 true
  have e11 : watchA [⟨1, 5, true, false, [(9, [120])], []⟩] 1 true = [⟨1, 5, true, true, [(9, [120])], []⟩] := rfl
  rw [e11] at H11 k11
  refine lit_ok (bs := [110]) rfl fun h13 r13 f13 => ?_
  have H13 := H11.frame f13 (fun _ _ => id)
  have u13 := u11.on f13
  refine note_ok (b := [110]) H13 k11 r13 rfl (by simp) fun h14 X14 H14 s14 => ⟨_, rfl, ?_⟩
  have u14 := u13.step s14
  have k14 := k11.note 1 [110]
  have e14 : noteA [⟨1, 5, true, true, [(9, [120])], []⟩] 1 [110] = [⟨1, 5, true, true, [(9, [120])], [[110]]⟩] := rfl
  rw [e14] at H14 k14
  refine read_ok H14 k14 fun h15 X15 p15 c15 H15 s15 b15 => ⟨_, _, _, _, _, rfl, ?_⟩
  have u15 := u14.step s15
  have k15 := k14.read 1
  have e15 : readA [⟨1, 5, true, true, [(9, [120])], [[110]]⟩] 1 = [⟨1, 5, true, true, [(9, [120])], []⟩] := rfl
  have e15' : readD [⟨1, 5, true, true, [(9, [120])], [[110]]⟩] 1 = [110] := rfl
  rw [e15] at H15 k15
  rw [e15'] at b15 ⊢
  refine down_ok H15 k15 fun h16 X16 H16 s16 => ⟨_, rfl, ?_⟩
  have u16 := u15.step s16
  have k16 := k15.down 1
  have e16 : downA [⟨1, 5, true, true, [(9, [120])], []⟩] 1 = [⟨1, 5, false, true, [(9, [120])], []⟩] := rfl
  rw [e16] at H16 k16
  refine resume_ok 5 rfl H16 k16 fun h17 X17 H17 s17 => ⟨_, _, rfl, ?_⟩
  have u17 := u16.step s17
  have k17 := k16.res 5
  have e17 : resA [⟨1, 5, false, true, [(9, [120])], []⟩] 5 = [⟨1, 5, true, true, [(9, [120])], []⟩] := rfl
  rw [e17] at H17 k17
  rw [if_pos (by rfl), if_pos (by rfl), if_pos (by rfl), if_pos (by rfl)]
  -- what was told earlier is still there
  have st9 : StepF X10 h10 X17 h17 := s11.trans ((s14.no f13).trans (s15.trans (s16.trans s17)))
  have g10 : ∀ x, X10.M x → x < h7.size → X6.M x := by
    intro x hx hl
    rcases s10.newM x hx with h1 | h1
    · exact h1
    · have := f9.1; omega
  have o17 : Row h17 p7 (bc [120]) := by
    have o9 := o7.frame f9 (fun _ _ => id)
    have nM : ∀ x, inBlk p7 x → ¬ X6.M x := fun x hx hM => by have := g7 x hx; have := H6.lt x (.inl hM); omega
    have o10 := o9.frame s10.fr nM
    refine (o10.frame st9.fr (fun x hx hM => ?_)).row'
    exact nM x hx (g10 x hM (o7.blk_lt hx))
  refine ⟨_, conv o17 rfl, ?_⟩
  rw [str_list]
  have c1 : (([120] : List UInt8) == (⟨#[120]⟩ : ByteArray).toList) = true := by rw [toList_data]; rfl
  rw [if_pos c1, if_pos (by rfl), if_pos (by rfl), if_pos (by rfl)]
  have b17 : BV.ok h17 X15.D ⟨p15, c15, [110]⟩ := b15.frame (s16.trans s17).fr (fun x hd hM => H15.dis x hM hd)
  refine ⟨_, conv b17.row rfl, ?_⟩
  rw [str_list]
  have c2 : (([110] : List UInt8) == (⟨#[110]⟩ : ByteArray).toList) = true := by rw [toList_data]; rfl
  rw [if_pos c2, if_pos (by rfl), if_pos (by rfl), if_pos (by rfl), if_pos (by rfl), if_pos (by rfl)]
  refine up_ok H17 k17 ⟨_, rfl, ?_⟩
  rw [if_pos (by rfl)]
  refine up_ok H17 k17 ⟨_, rfl, ?_⟩
  exact hk h17 u17.fr

/-! ### SessionsCycle -/
def sesN (k : Nat) (up : Bool) : List Ses := (List.range k).map fun j => ⟨j + 1, 10 * (j + 1), up, false, [], []⟩
theorem sesN_len (k : Nat) (up : Bool) : (sesN k up).length = k := by simp [sesN]
theorem sesN_at {k j : Nat} {up : Bool} (hj : j < k) : (sesN k up)[j]? = some ⟨j + 1, 10 * (j + 1), up, false, [], []⟩ := by simp [sesN, hj]
theorem sesN_succ (k : Nat) (up : Bool) : sesN (k + 1) up = sesN k up ++ [⟨k + 1, 10 * (k + 1), up, false, [], []⟩] := by simp [sesN, List.range_succ]
theorem sesN_find {k j : Nat} {up : Bool} (hj : j < k) : (sesN k up).findIdx? (fun s => decide (s.token = 10 * (j + 1))) = some j := by
  rw [List.findIdx?_eq_some_iff_getElem]
  have e : ∀ (m : Nat) (hm : m < (sesN k up).length), (sesN k up)[m].token = 10 * (m + 1) := fun m hm => by simp [sesN]
  refine ⟨by rw [sesN_len]; exact hj, by rw [e]; simp, fun m hm => ?_⟩
  rw [e]
  simp; omega
theorem sesN_no {k : Nat} {up : Bool} {token : Nat} (ht : ¬ (token % 10 = 0 ∧ token ≤ 80)) (hk : k ≤ 8) : (sesN k up).findIdx? (fun s => decide (s.token = token)) = none := by
  rw [List.findIdx?_eq_none_iff]
  intro s hs
  simp only [sesN, List.mem_map, List.mem_range] at hs
  obtain ⟨j, hj, rfl⟩ := hs
  simp; omega
theorem sesN_ok {k : Nat} (up : Bool) (hk : k ≤ 8) : okA (sesN k up) := by
  refine ⟨by rw [sesN_len]; exact hk, fun i s hs => ?_, ?_⟩
  · have hi := (List.getElem?_eq_some_iff.1 hs).1
    rw [sesN_len] at hi
    rw [sesN_at hi] at hs
    obtain rfl := Option.some.inj hs
    exact ⟨rfl, by show 1 ≤ 10 * (i + 1) ∧ 10 * (i + 1) ≤ 2147483648; omega, by simp, by simp, by simp, by simp, by simp⟩
  · unfold sesN
    rw [List.map_map, List.nodup_iff_pairwise_ne, List.pairwise_map]
    refine List.Pairwise.imp_of_mem ?_ List.pairwise_lt_range
    intro a b _ _ hab
    simp; omega
theorem sesN_has {k : Nat} {up : Bool} {token : Nat} : hasTk (sesN k up) token = ((sesN k up).findIdx? (fun s => decide (s.token = token))).isSome := by
  unfold hasTk
  rw [List.findIdx?_isSome]
theorem sesN_find_none {k : Nat} {up : Bool} : (sesN k up).findIdx? (fun s => decide (s.token = 10 * (k + 1))) = none := by
  rw [List.findIdx?_eq_none_iff]
  intro s hs
  simp only [sesN, List.mem_map, List.mem_range] at hs
  obtain ⟨j, hj, rfl⟩ := hs
  simp; omega
theorem open_sesN {k : Nat} (hk : k < 8) : openE (sesN k true) (10 * (k + 1)) = 0 ∧ openA (sesN k true) (10 * (k + 1)) = sesN (k + 1) true ∧ openN (sesN k true) (10 * (k + 1)) = (k : Int) + 1 := by
  have e : openE (sesN k true) (10 * (k + 1)) = 0 := by
    unfold openE
    rw [if_neg (by omega), if_neg (by rw [sesN_has, sesN_find_none]; simp), if_neg (by rw [sesN_len]; omega)]
  refine ⟨e, ?_, ?_⟩
  · unfold openA; rw [if_pos e, sesN_succ, sesN_len]
  · unfold openN; rw [if_pos e, sesN_len]

theorem _root_.Go.Proofs.Ytlnofnmdiddmkaa.sessionsCycle_ok (n token : Int) (wn : (Lit.int .u8 n).wf = true) (wt : (Lit.int .u64 token).wf = true) : LawH Try.prog F.law24_SessionsCycle #[.int .u8 n, .int .u64 token] h := by
  have wn := wf_u8 wn
  have wt := wf_u64 wt
  obtain ⟨n, rfl⟩ := Int.eq_ofNat_of_zero_le wn.1
  obtain ⟨token, rfl⟩ := Int.eq_ofNat_of_zero_le wt.1
  unfold LawH
  generalize hR : (fun (v : Value) h' => v = .bool true ∧ Fr (fun _ => False) h h') = R
  have hk : ∀ h', Fr (fun _ => False) h h' → R (.bool true) h' := fun h' hf => by rw [← hR]; exact ⟨rfl, hf⟩
  clear hR
  have ek : IntKind.wrap .i64 (1 + Int.tmod (IntKind.wrap .i64 (n : Int)) 8) = ((n % 8 + 1 : Nat) : Int) := by
    rw [wrap_id (n := (n : Int)) (by omega) (by omega), Int.tmod_eq_emod_of_nonneg (by omega), wrap_id (by omega) (by omega)]; omega
  refine law24_SessionsCycle.walk (new_ok fun h1 t X1 H1 f1 g1 => ⟨_, rfl, ?_⟩)
  have hk8 : n % 8 + 1 ≤ 8 := by omega
  have hk1 : 1 ≤ n % 8 + 1 := by omega
  rw [ek]
  generalize n % 8 + 1 = k at *
  refine ⟨fun i h' => ∃ (j : Nat) (X : Ft), i = (j : Int) + 1 ∧ j ≤ k ∧ Has h' t X (sesN j true) ∧ UpF h X h', fun i _ => k + 1 - i.toNat, ⟨0, X1, rfl, by omega, H1, ⟨f1, g1⟩⟩, ?_⟩
  clear H1 f1 g1
  rintro _ h2 ⟨j, X2, rfl, hj, H2, u2⟩
  by_cases hlt : j < k
  · have q : (j : Int) + 1 ≤ (k : Int) := by omega
    simp only [q, decide_true, if_true]
    have e10 : IntKind.wrap .u64 (IntKind.wrap .i64 (10 * ((j : Int) + 1))) = ((10 * (j + 1) : Nat) : Int) := by
      rw [wrap_id (by omega) (by omega), wrap_u64 (by omega) (by omega)]; omega
    rw [e10]
    obtain ⟨o1, o2, o3⟩ := open_sesN (k := j) (by omega)
    refine open_ok (10 * (j + 1)) rfl H2 (sesN_ok true (by omega)) fun h3 X3 H3 s3 => ⟨_, _, rfl, ?_⟩
    rw [o2] at H3
    rw [o1, o3]
    refine JoinP.of fun J hJ => ?_
    subst hJ
    rw [if_neg (by simp)]
    simp only [bne_self_eq_false, Bool.false_eq_true, if_false]
    rw [wrap_id (by omega) (by omega)]
    refine ⟨⟨j + 1, X3, by omega, by omega, H3, u2.step s3⟩, ?_⟩
    show k + 1 - Int.toNat ((j : Int) + 1 + 1) < k + 1 - Int.toNat ((j : Int) + 1); omega
  · have q : ¬ (j : Int) + 1 ≤ (k : Int) := by omega
    simp only [q, decide_false, Bool.false_eq_true, if_false]
    obtain rfl : j = k := by omega
    have okT := sesN_ok (k := j) true hk8
    have okD := sesN_ok (k := j) false hk8
    refine resume_ok 10 rfl H2 okT fun h5 X5 H5 s5 => ⟨_, _, rfl, ?_⟩
    have f10 : (sesN j true).findIdx? (fun s => decide (s.token = 10)) = some 0 := sesN_find (j := 0) (by omega)
    have r1 : resA (sesN j true) 10 = sesN j true := by unfold resA; rw [f10]; dsimp only; rw [sesN_at (by omega)]; rfl
    have r2 : resE (sesN j true) 10 = 7 := by unfold resE; rw [f10]; dsimp only; rw [sesN_at (by omega)]; rfl
    rw [r1] at H5
    rw [r2]
    refine allDown_ok H5 okT fun h6 X6 H6 s6 => ⟨rfl, ?_⟩
    have d1 : allDownA (sesN j true) = sesN j false := by
      unfold allDownA sesN; rw [List.map_map]; rfl
    rw [d1] at H6
    have u6 := (u2.step s5).step s6
    refine ⟨fun i h' => ∃ (m : Nat) (X : Ft), i = (m : Int) + 1 ∧ m ≤ j ∧ Has h' t X (sesN j false) ∧ UpF h X h', fun i _ => j + 1 - i.toNat, ⟨0, X6, rfl, by omega, H6, u6⟩, ?_⟩
    clear H2 H5 s5 u2 H6 s6 u6
    rintro _ h7 ⟨m, X7, rfl, hm, H7, u7⟩
    by_cases hlt2 : m < j
    · have q : (m : Int) + 1 ≤ (j : Int) := by omega
      simp only [q, decide_true, if_true]
      have e10 : IntKind.wrap .u64 (IntKind.wrap .i64 (10 * ((m : Int) + 1))) = ((10 * (m + 1) : Nat) : Int) := by
        rw [wrap_id (by omega) (by omega), wrap_u64 (by omega) (by omega)]; omega
      rw [e10]
      have ff : (sesN j false).findIdx? (fun s => decide (s.token = 10 * (m + 1))) = some m := sesN_find hlt2
      have at7 := sesN_at (up := false) hlt2
      refine resume_ok (10 * (m + 1)) rfl H7 okD fun h8 X8 H8 s8 => ⟨_, _, rfl, ?_⟩
      have a1 : resA (sesN j false) (10 * (m + 1)) = (sesN j false).set m ⟨m + 1, 10 * (m + 1), true, false, [], []⟩ := by unfold resA; rw [ff]; dsimp only; rw [at7]; rfl
      have a2 : resE (sesN j false) (10 * (m + 1)) = 0 := by unfold resE; rw [ff]; dsimp only; rw [at7]; rfl
      have a3 : resN (sesN j false) (10 * (m + 1)) = (m : Int) + 1 := by unfold resN; rw [ff]; dsimp only; rw [at7]; simp
      have ok8 := okD.res (10 * (m + 1))
      rw [a1] at H8 ok8
      rw [a2, a3]
      have at8 : ((sesN j false).set m ⟨m + 1, 10 * (m + 1), true, false, [], []⟩)[m]? = some ⟨m + 1, 10 * (m + 1), true, false, [], []⟩ := by
        rw [List.getElem?_set, if_pos rfl, if_pos (by rw [sesN_len]; exact hlt2)]
      have ff8 : ((sesN j false).set m ⟨m + 1, 10 * (m + 1), true, false, [], []⟩).findIdx? (fun s => decide (s.token = 10 * (m + 1))) = some m := by
        rw [List.findIdx?_eq_some_iff_getElem] at ff ⊢
        obtain ⟨g1, g2, g3⟩ := ff
        refine ⟨by rw [List.length_set]; exact g1, by simp, fun x hx => ?_⟩
        rw [List.getElem_set_ne (by omega)]
        exact g3 x hx
      generalize hB : (sesN j false).set m ⟨m + 1, 10 * (m + 1), true, false, [], []⟩ = B at *
      refine resume_ok (10 * (m + 1)) rfl H8 ok8 fun h9 X9 H9 s9 => ⟨_, _, rfl, ?_⟩
      have b1 : resA B (10 * (m + 1)) = B := by unfold resA; rw [ff8]; dsimp only; rw [at8]; rfl
      have b2 : resE B (10 * (m + 1)) = 7 := by unfold resE; rw [ff8]; dsimp only; rw [at8]; rfl
      rw [b1] at H9
      rw [b2]
      have gB : getA B ((m : Int) + 1) = some ⟨m + 1, 10 * (m + 1), true, false, [], []⟩ := by rw [getA_at]; exact at8
      refine JoinP.of fun J hJ => ?_
      rw [if_neg (by simp), if_neg (by simp), if_neg (by simp)]
      refine up_ok H9 ok8 ⟨_, rfl, ?_⟩
      have c1 : upA B ((m : Int) + 1) = true := by unfold upA; rw [gB]
      rw [c1]
      simp only [Bool.not_true, Bool.false_eq_true, if_false]
      refine down_ok H9 ok8 fun h12 X12 H12 s12 => ⟨_, rfl, ?_⟩
      have d1 : downE B ((m : Int) + 1) = 0 := by unfold downE; rw [gB]; rfl
      have d2 : downA B ((m : Int) + 1) = sesN j false := by
        unfold downA setA; rw [gB]; dsimp only
        rw [if_pos rfl, show ((m : Int) + 1 - 1).toNat = m by omega, ← hB, List.set_set]
        exact set_same at7
      rw [d2] at H12
      rw [d1, if_neg (by simp)]
      refine down_ok H12 okD fun h13 X13 H13 s13 => ⟨_, rfl, ?_⟩
      have gD : getA (sesN j false) ((m : Int) + 1) = some ⟨m + 1, 10 * (m + 1), false, false, [], []⟩ := by rw [getA_at]; exact at7
      have e1 : downE (sesN j false) ((m : Int) + 1) = 7 := by unfold downE; rw [gD]; rfl
      have e2 : downA (sesN j false) ((m : Int) + 1) = sesN j false := by unfold downA; rw [gD]; rfl
      rw [e2] at H13
      rw [e1]
      subst hJ
      simp only [bne_self_eq_false, Bool.false_eq_true, if_false]
      rw [wrap_id (by omega) (by omega)]
      refine ⟨⟨m + 1, X13, by omega, by omega, H13, (((u7.step s8).step s9).step s12).step s13⟩, ?_⟩
      show j + 1 - Int.toNat ((m : Int) + 1 + 1) < j + 1 - Int.toNat ((m : Int) + 1); omega
    · have q : ¬ (m : Int) + 1 ≤ (j : Int) := by omega
      simp only [q, decide_false, Bool.false_eq_true, if_false]
      refine JoinP.of fun J hJ => ?_
      have et : Int.tmod (token : Int) 10 = ((token % 10 : Nat) : Int) := by rw [Int.tmod_eq_emod_of_nonneg (by omega)]; omega
      have jt : J true h7 := by
        subst hJ
        simp only [if_true]
        exact alive_ok fun h15 f15 => ⟨_, rfl, hk h15 (u7.fr.tt f15)⟩
      have jf : ¬ (token % 10 = 0 ∧ token ≤ 80) → J false h7 := by
        intro hno
        subst hJ
        simp only [Bool.false_eq_true, if_false]
        have nf := sesN_no (k := j) (up := false) hno hk8
        refine resume_ok token rfl H7 okD fun h16 X16 H16 s16 => ⟨_, _, rfl, ?_⟩
        have a1 : resA (sesN j false) token = sesN j false := by unfold resA; rw [nf]
        have a2 : resE (sesN j false) token = 12 := by unfold resE; rw [nf]
        rw [a1] at H16
        rw [a2]
        refine open_ok token rfl H16 okD fun h17 X17 H17 s17 => ⟨_, _, rfl, ?_⟩
        have F17 := ((u7.step s16).step s17).fr
        refine JoinP.of fun J3 hJ3 => ?_
        have fin : ∀ want : Int, openE (sesN j false) token = want → J3 want h17 := by
          intro want hw
          subst hJ3
          refine alive_ok fun h19 f19 => ⟨_, rfl, ?_⟩
          rw [if_pos rfl, if_pos (by rfl), if_pos (by rfl), hw, beq_self_eq_true]
          exact hk h19 (F17.tt f19)
        clear hJ3
        have hno2 : ¬ hasTk (sesN j false) token = true := by rw [sesN_has, nf]; simp
        have ht0 : token ≠ 0 := fun e => hno ⟨by rw [e], by omega⟩
        refine JoinP.of fun J4 hJ4 => ?_
        subst hJ4
        by_cases hbig : (token : Int) > 2147483648
        · simp only [hbig, decide_true, if_true]
          refine fin 1 ?_
          unfold openE
          rw [if_pos (.inr (by omega))]
        · simp only [hbig, decide_false, Bool.false_eq_true, if_false]
          refine JoinP.of fun J5 hJ5 => ?_
          subst hJ5
          by_cases h8 : j = 8
          · rw [if_pos (by rw [h8]; rfl)]
            refine fin 5 ?_
            unfold openE
            rw [if_neg (by omega), if_neg hno2, if_pos (by rw [sesN_len]; omega)]
          · rw [if_neg (by simp only [beq_iff_eq]; omega)]
            refine fin 0 ?_
            unfold openE
            rw [if_neg (by omega), if_neg hno2, if_neg (by rw [sesN_len]; omega)]
      clear hJ
      rw [et]
      by_cases h0 : token % 10 = 0
      · rw [if_pos (by rw [h0]; rfl)]
        by_cases h80 : (token : Int) ≤ 80
        · simp only [h80, decide_true]; exact jt
        · simp only [h80, decide_false]; exact jf (by omega)
      · rw [if_neg (by simp only [beq_iff_eq]; omega)]
        exact jf (by omega)
end Ses
end Go.Proofs.Ytlnofnmdiddmkaa
