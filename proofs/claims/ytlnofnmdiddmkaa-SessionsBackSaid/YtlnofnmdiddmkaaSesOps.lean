/-
  What is proved here: what the functions of package sessions do to a table in memory. No condition.
-/
import Derived.Test.YtlnofnmdiddmkaaSesP
namespace Go.Proofs.Ytlnofnmdiddmkaa
open Go.Den Go.Fields
namespace Ses
open Fld
variable {h h' h0 : Heap} {t : Nat} {X : Ft} {R : Value → Heap → Prop} {p q : Option Addr} {c d i : Nat} {lab : Lab} {D : Nat → Prop} {L : List SC} {A : List Ses}

theorem tP : SlTy Try.prog T.s_p_sessions_Session T.p_sessions_Session 1 8 (.pointer none) := ⟨by kernel_rfl, by kernel_rfl, rfl⟩
theorem uP : Try.prog.underlying T.s_p_sessions_Session = some (.slice T.p_sessions_Session) := by kernel_rfl

theorem new_ok (hk : ∀ h' t X, Has h' t X [] → Fr (fun _ => False) h h' → (∀ x, X.M x ∨ X.D x → h.size ≤ x) → R (.pointer (some ⟨t, 0, none⟩)) h') : CallsH Try.prog F.sessions_New #[] h R := by
  refine sessions_New.walk (newP_of ?_)
  refine hk _ _ ⟨fun x => x = h.size, fun _ => False⟩ ⟨[], fun x => if x = h.size then some 0 else none, [], ⟨⟨none, 0, push_new, .nil rfl rfl rfl rfl, fun x ⟨a, e, _⟩ => by cases e⟩, by simp, fun i s hs => by simp at hs, ?_, fun _ h => h.elim, fun _ _ _ h => h⟩, rfl, rfl, ?_⟩ (Fr.push _ _) (fun x hx => hx.elim (fun e => by have e : x = h.size := e; omega) False.elim)
  · intro x r hr
    split at hr
    · rename_i e; rw [Array.size_push]; omega
    · cases hr
  · intro x
    constructor
    · intro e
      have e : x = h.size := e
      exact ⟨0, by simp [e]⟩
    · rintro ⟨r, hr⟩
      dsimp only at hr
      split at hr
      · assumption
      · cases hr

theorem find_ok {num : Int} (TB : Tab h t lab D L) (k1 : ∀ i s, num = ((i : Nat) : Int) + 1 → L[i]? = some s → R (.tuple #[.pointer (some ⟨s.b, 0, none⟩), .int .i64 0]) h) (k2 : (num < 1 ∨ num > (L.length : Int)) → R (.tuple #[.pointer none, .int .i64 4]) h) (hl : L.length ≤ 1000000) :
    CallsH Try.prog F.sessions_Table_find #[.pointer (some ⟨t, 0, none⟩), .int .i64 num] h R := by
  obtain ⟨p, c, hb, own, hp⟩ := TB.blk
  refine sessions_Table_find.walk (JoinP.of fun J hJ => ⟨true, cell_at hb rfl, ?_⟩)
  subst hJ
  simp only [Bool.not_true, Bool.false_eq_true, if_false]
  refine JoinP.of fun J hJ => ?_
  by_cases h1 : num < 1
  · simp only [h1, decide_true, if_true]
    subst hJ
    simp only [if_true]
    exact k2 (.inl h1)
  · simp only [h1, decide_false, Bool.false_eq_true, if_false]
    refine ⟨_, _, _, cell_at hb rfl, ?_⟩
    by_cases h2 : num > (L.length : Int)
    · simp only [h2, decide_true]
      subst hJ
      simp only [if_true]
      exact k2 (.inr h2)
    · simp only [h2, decide_false]
      subst hJ
      simp only [Bool.false_eq_true, if_false]
      obtain ⟨i, rfl⟩ : ∃ i : Nat, num = (i : Int) + 1 := ⟨(num - 1).toNat, by omega⟩
      have hil : i < L.length := by omega
      have hs : L[i]? = some L[i] := List.getElem?_eq_getElem hil
      obtain ⟨ab, aoff, rfl⟩ := own.addr (by omega)
      have e : IntKind.wrap .i64 ((i : Int) + 1 - 1) = (i : Int) := by rw [wrap_id (by omega) (by omega)]; omega
      rw [e]
      refine ⟨_, _, _, cell_at hb rfl, ⟨by omega, by omega⟩, onSome_some.2 ⟨_, ?_, k1 i _ rfl hs⟩⟩
      rw [Int.toNat_natCast, Nat.mul_one]
      exact own.cell (by rw [List.getElem?_map, hs]; rfl)
theorem of_ok {k : Int} (token : Nat) (hk0 : k = (token : Int)) (TB : Tab h t lab D L) (hl : L.length ≤ 1000000) (k1 : ∀ i s, L[i]? = some s → s.token = token → L.findIdx? (fun s => decide (s.token = token)) = some i → R (.pointer (some ⟨s.b, 0, none⟩)) h)
    (k2 : L.findIdx? (fun s => decide (s.token = token)) = none → R (.pointer none) h) : CallsH Try.prog F.sessions_Table_of #[.pointer (some ⟨t, 0, none⟩), .int .u64 k] h R := by
  subst hk0
  obtain ⟨p, c, hb, own, hp⟩ := TB.blk
  refine sessions_Table_of.walk ⟨_, _, _, cell_at hb rfl, ?_⟩
  refine ⟨fun i h' => h' = h ∧ ∃ k : Nat, i = (k : Int) ∧ k ≤ L.length ∧ ∀ j (hj : j < L.length), j < k → L[j].token ≠ token, fun i _ => L.length - i.toNat, ⟨rfl, 0, rfl, by omega, fun j _ hj => by omega⟩, ?_⟩
  rintro _ h1 ⟨rfl, k, rfl, hkn, hall⟩
  by_cases hlt : k < L.length
  · have q1 : (k : Int) < (L.length : Int) := by omega
    simp only [q1, decide_true, if_true, Int.toNat_natCast]
    have hs : L[k]? = some L[k] := List.getElem?_eq_getElem hlt
    obtain ⟨ab, aoff, rfl⟩ := own.addr (by omega)
    have hat := (TB.ses k _ hs).blk
    refine ⟨⟨by omega, by first | trivial | omega⟩, onSome_some.2 ⟨some ⟨L[k].b, 0, none⟩, ?_, onSome_some.2 ⟨_, cell_at hat rfl, ?_⟩⟩⟩
    · rw [Nat.mul_one]; exact own.cell (by rw [List.getElem?_map, hs]; rfl)
    by_cases e : L[k].token = token
    · rw [if_pos (by rw [e]; simp)]
      refine k1 k _ hs e ?_
      rw [List.findIdx?_eq_some_iff_getElem]
      exact ⟨hlt, by simpa using e, fun j hj => by simpa using hall j (by omega) hj⟩
    · rw [if_neg (by simp only [beq_iff_eq]; omega)]
      rw [wrap_id (by omega) (by omega)]
      refine ⟨⟨trivial, k + 1, by omega, by omega, fun j hj hjk => ?_⟩, ?_⟩
      · by_cases q : j = k
        · subst q; exact e
        · exact hall j hj (by omega)
      · show L.length - Int.toNat ((k : Int) + 1) < L.length - Int.toNat (k : Int); omega
  · have q1 : ¬ (k : Int) < (L.length : Int) := by omega
    simp only [q1, decide_false, Bool.false_eq_true, if_false]
    refine k2 ?_
    rw [List.findIdx?_eq_none_iff]
    intro a ha
    obtain ⟨j, hj⟩ := List.getElem?_of_mem ha
    have hjl := (List.getElem?_eq_some_iff.1 hj).1
    rw [List.getElem?_eq_getElem hjl] at hj
    obtain rfl := Option.some.inj hj
    simpa using hall j hjl (by omega)

theorem abs_at {s : SC} (hs : L[i]? = some s) : (L.map SC.abs)[i]? = some s.abs := by rw [List.getElem?_map, hs]; rfl
theorem abs_find (token : Nat) : (L.map SC.abs).findIdx? (fun s => decide (s.token = token)) = L.findIdx? (fun s => decide (s.token = token)) := by
  rw [List.findIdx?_map]; rfl

theorem up_ok {num : Int} (H : Has h t X A) (ok : okA A) (hk : R (.bool (upA A num)) h) : CallsH Try.prog F.sessions_Table_Up #[.pointer (some ⟨t, 0, none⟩), .int .i64 num] h R := by
  obtain ⟨_, lab, L, TB, rfl, _, hS⟩ := H
  have hl := ok.le
  rw [List.length_map] at hl
  unfold upA at hk
  refine sessions_Table_Up.walk (find_ok TB (fun i s e hs => ⟨_, _, rfl, ?_⟩) (fun hn => ⟨_, _, rfl, ?_⟩) (by omega))
  · rw [if_pos (by rfl)]
    subst e
    rw [getA_at, abs_at hs] at hk
    exact onSome_some.2 ⟨_, cell_at (TB.ses i s hs).blk rfl, hk⟩
  · rw [if_neg (by simp)]
    rw [getA_none (by rw [List.length_map]; exact hn)] at hk
    exact hk

theorem open_ok {k : Int} (token : Nat) (hk0 : k = (token : Int)) (H : Has h t X A) (ok : okA A) (hk : ∀ h' X', Has h' t X' (openA A token) → StepF X h X' h' → R (.tuple #[.int .i64 (openN A token), .int .i64 (openE A token)]) h') :
    CallsH Try.prog F.sessions_Table_Open #[.pointer (some ⟨t, 0, none⟩), .int .u64 k] h R := by
  subst hk0
  have H0 := H
  obtain ⟨_, lab, L, TB, rfl, _, hS⟩ := H
  have hl := ok.le
  rw [List.length_map] at hl
  obtain ⟨p, c, hb, own, hp⟩ := TB.blk
  refine sessions_Table_Open.walk (JoinP.of fun J hJ => ⟨true, cell_at hb rfl, ?_⟩)
  subst hJ
  simp only [Bool.not_true, Bool.false_eq_true, if_false]
  refine JoinP.of fun J hJ => ?_
  unfold openN openA at hk
  have jt : (token < 1 ∨ token > 2147483648) → J true h := by
    intro hh
    subst hJ
    simp only [if_true]
    have e : openE (L.map SC.abs) token = 1 := by unfold openE; rw [if_pos hh]
    rw [e] at hk
    exact hk h X H0 (StepF.refl _ _)
  have jf : ¬ (token < 1 ∨ token > 2147483648) → J false h := by
    intro hh
    subst hJ
    simp only [Bool.false_eq_true, if_false]
    refine of_ok token rfl TB (by omega) (fun i s hs ht hf => ⟨_, rfl, ?_⟩) (fun hf => ⟨_, rfl, ?_⟩)
    · simp only [Option.isNone_some, Bool.not_false, if_true]
      have e : openE (L.map SC.abs) token = 12 := by
        unfold openE
        rw [if_neg hh, if_pos]
        unfold hasTk
        rw [List.any_eq_true]
        exact ⟨s.abs, List.mem_map_of_mem (List.mem_of_getElem? hs), by simp [SC.abs, ht]⟩
      rw [e] at hk
      exact hk h X H0 (StepF.refl _ _)
    · simp only [Option.isNone_none, Bool.not_true, Bool.false_eq_true, if_false]
      have hno : ¬ hasTk (L.map SC.abs) token = true := by
        unfold hasTk
        rw [List.any_eq_true]
        rintro ⟨x, hx, e⟩
        obtain ⟨s, hs, rfl⟩ := List.mem_map.1 hx
        have := List.findIdx?_eq_none_iff.1 hf s hs
        rw [show s.abs.token = s.token from rfl] at e
        rw [e] at this; cases this
      refine ⟨_, _, _, cell_at hb rfl, ?_⟩
      by_cases h8 : (L.length : Int) ≥ 8
      · simp only [h8, decide_true, if_true]
        have e : openE (L.map SC.abs) token = 5 := by
          unfold openE
          rw [if_neg hh, if_neg hno, if_pos (by rw [List.length_map]; omega)]
        rw [e] at hk
        exact hk h X H0 (StepF.refl _ _)
      · simp only [h8, decide_false, Bool.false_eq_true, if_false]
        have e : openE (L.map SC.abs) token = 0 := by
          unfold openE
          rw [if_neg hh, if_neg hno, if_neg (by rw [List.length_map]; omega)]
        rw [e] at hk
        simp only [if_true] at hk
        refine ⟨_, _, _, cell_at hb rfl, ?_⟩
        rw [wrap_id (n := (L.length : Int) + 1) (by omega) (by omega)]
        refine sessions_Session.box fun b h4 eb hb4 f4 => ?_
        have own4 := own.frame f4 (fun _ _ => id)
        refine ⟨_, _, _, cell_at (f4.get hb id) rfl, ?_⟩
        refine den_append1 tP uP own4 rfl (fun v hv => by simp at hv; subst hv; rfl) (by omega) (by omega) ?_
        intro p' c' h6 o6 f6 g6
        refine ⟨_, _, _, rfl, ?_⟩
        have hbl := lt_of_get hb
        have npt : ¬ inBlk p t := fun hx => by have := hp t hx; rw [TB.lt0] at this; cases this
        have hb6 := f6.get (f4.get hb id) npt
        have npb : ¬ inBlk p b := fun hx => by have := own.blk_lt hx; omega
        have hs6 := f6.get hb4 npb
        refine storeP_blk hb6 (by simp) fun h7 k1 k2 k3 => ?_
        have f7 : Fr (fun x => x = t) h6 h7 := Fr.of_eq k2 k3
        have ntb : ¬ b = t := fun e => by omega
        have hs7 := f7.get hs6 ntb
        refine ⟨_, cell_at hs7 rfl, ?_⟩
        have F : Fr (fun x => x = t ∨ inBlk p x) h h7 := (f4.mono (fun _ _ => False.elim)).tt ((f6.mono (fun _ _ hx => .inr hx)).tt (f7.mono (fun _ _ hx => .inl hx)))
        have np't : ¬ inBlk p' t := fun hx => (g6 t hx).elim npt (fun h2 => by have := lt_of_get (f4.get hb id); omega)
        have a1 : ∀ x, x = t ∨ inBlk p x → lab x = some 0 ∨ lab x = some 1 := by
          rintro x (rfl | hx)
          · exact .inl TB.lt0
          · exact .inr (hp x hx)
        have a2 : ∀ x, inBlk p' x → lab x = some 1 ∨ h.size ≤ x := by
          intro x hx
          rcases g6 x hx with h2 | h2
          · exact .inl (hp x h2)
          · have := f4.1; exact .inr (by omega)
        have a3 : ¬ inBlk p' b := by
          intro hx
          rcases g6 b hx with h2 | h2
          · exact npb h2
          · have := lt_of_get hb4; omega
        obtain ⟨X', HH, st⟩ := TB.add (s := ⟨b, L.length + 1, token, true, false, [], none, 0, [], none, 0⟩) (p := p') (c0 := c') hS F a1 k1 (o6.frame f7 (fun x hx e => np't (e ▸ hx))) a2 a3 hs7 (by show h.size ≤ b; omega) ⟨rfl, rfl, rfl⟩ ⟨rfl, rfl, rfl⟩
        have := hk h7 X' (by rw [List.length_map]; exact ⟨_, HH⟩) st
        rw [List.length_map] at this
        exact this
  clear hJ
  by_cases h1 : token < 1
  · have : (token : Int) < 1 := by omega
    simp only [this, decide_true, if_true]
    exact jt (.inl h1)
  · have : ¬ (token : Int) < 1 := by omega
    simp only [this, decide_false, Bool.false_eq_true, if_false]
    by_cases h2 : token > 2147483648
    · have : (token : Int) > 2147483648 := by omega
      simp only [this, decide_true]
      exact jt (.inr h2)
    · have : ¬ (token : Int) > 2147483648 := by omega
      simp only [this, decide_false]
      exact jf (by omega)

theorem resume_ok {k : Int} (token : Nat) (hk0 : k = (token : Int)) (H : Has h t X A) (ok : okA A) (hk : ∀ h' X', Has h' t X' (resA A token) → StepF X h X' h' → R (.tuple #[.int .i64 (resN A token), .int .i64 (resE A token)]) h') :
    CallsH Try.prog F.sessions_Table_Resume #[.pointer (some ⟨t, 0, none⟩), .int .u64 k] h R := by
  subst hk0
  have H0 := H
  obtain ⟨_, lab, L, TB, rfl, _, hS⟩ := H
  have hl := ok.le
  rw [List.length_map] at hl
  obtain ⟨p, c, hb, own, hp⟩ := TB.blk
  refine sessions_Table_Resume.walk (JoinP.of fun J hJ => ⟨true, cell_at hb rfl, ?_⟩)
  subst hJ
  simp only [Bool.not_true, Bool.false_eq_true, if_false]
  unfold resN resE resA at hk
  rw [abs_find] at hk
  refine of_ok token rfl TB (by omega) (fun i s hs ht hf => ⟨_, rfl, ?_⟩) (fun hf => ⟨_, rfl, ?_⟩)
  · simp only [Option.isNone_some, Bool.false_eq_true, if_false]
    rw [hf] at hk
    dsimp only at hk
    rw [abs_at hs] at hk
    dsimp only at hk
    have hat := (TB.ses i s hs).blk
    refine onSome_some.2 ⟨_, cell_at hat rfl, ?_⟩
    cases hu : s.up with
    | true =>
      simp only [if_true]
      have : s.abs.up = true := hu
      simp only [this, if_true] at hk
      exact hk h X H0 (StepF.refl _ _)
    | false =>
      simp only [Bool.false_eq_true, if_false]
      have : s.abs.up = false := hu
      simp only [this, Bool.false_eq_true, if_false] at hk
      refine onSome_some.2 (storeP_blk hat (by simp) fun h3 k1 k2 k3 => onSome_some.2 ?_)
      refine ⟨_, cell_at k1 rfl, ?_⟩
      obtain ⟨X', HH, st⟩ := TB.flag (s' := { s with up := true }) hS hs rfl ⟨rfl, rfl, rfl⟩ ⟨rfl, rfl, rfl⟩ k1 k2 k3
      exact hk h3 X' ⟨_, HH⟩ st
  · simp only [Option.isNone_none, if_true]
    rw [hf] at hk
    exact hk h X H0 (StepF.refl _ _)

theorem down_ok {num : Int} (H : Has h t X A) (ok : okA A) (hk : ∀ h' X', Has h' t X' (downA A num) → StepF X h X' h' → R (.int .i64 (downE A num)) h') : CallsH Try.prog F.sessions_Table_Down #[.pointer (some ⟨t, 0, none⟩), .int .i64 num] h R := by
  have H0 := H
  obtain ⟨_, lab, L, TB, rfl, _, hS⟩ := H
  have hl := ok.le
  rw [List.length_map] at hl
  unfold downA downE at hk
  refine sessions_Table_Down.walk (find_ok TB (fun i s e hs => ⟨_, _, rfl, ?_⟩) (fun hn => ⟨_, _, rfl, ?_⟩) (by omega))
  · rw [if_neg (by simp)]
    subst e
    rw [getA_at, abs_at hs] at hk
    dsimp only at hk
    have hat := (TB.ses i s hs).blk
    refine onSome_some.2 ⟨_, cell_at hat rfl, ?_⟩
    cases hu : s.up with
    | true =>
      have : s.abs.up = true := hu
      simp only [this, if_true] at hk
      simp only [Bool.not_true, Bool.false_eq_true, if_false]
      refine onSome_some.2 (storeP_blk hat (by simp) fun h3 k1 k2 k3 => ?_)
      obtain ⟨X', HH, st⟩ := TB.flag (s' := { s with up := false }) hS hs rfl ⟨rfl, rfl, rfl⟩ ⟨rfl, rfl, rfl⟩ k1 k2 k3
      refine hk h3 X' ?_ st
      unfold setA
      rw [show ((i : Int) + 1 - 1).toNat = i by omega]
      exact ⟨_, HH⟩
    | false =>
      have : s.abs.up = false := hu
      simp only [this, Bool.false_eq_true, if_false] at hk
      simp only [Bool.not_false, if_true]
      exact hk h X H0 (StepF.refl _ _)
  · rw [if_pos (by rfl)]
    rw [getA_none (by rw [List.length_map]; exact hn)] at hk
    exact hk h X H0 (StepF.refl _ _)

theorem watch_ok {num : Int} {on : Bool} (H : Has h t X A) (ok : okA A) (hk : ∀ h' X', Has h' t X' (watchA A num on) → StepF X h X' h' → R (.int .i64 (watchE A num)) h') : CallsH Try.prog F.sessions_Table_Watch #[.pointer (some ⟨t, 0, none⟩), .int .i64 num, .bool on] h R := by
  have H0 := H
  obtain ⟨_, lab, L, TB, rfl, _, hS⟩ := H
  have hl := ok.le
  rw [List.length_map] at hl
  unfold watchA watchE at hk
  refine sessions_Table_Watch.walk (find_ok TB (fun i s e hs => ⟨_, _, rfl, ?_⟩) (fun hn => ⟨_, _, rfl, ?_⟩) (by omega))
  · refine JoinP.of fun J hJ => ?_
    subst hJ
    rw [if_pos (by rfl)]
    subst e
    rw [getA_at, abs_at hs] at hk
    dsimp only at hk
    have hat := (TB.ses i s hs).blk
    refine onSome_some.2 (storeP_blk hat (by simp) fun h3 k1 k2 k3 => ?_)
    obtain ⟨X', HH, st⟩ := TB.flag (s' := { s with watch := on }) hS hs rfl ⟨rfl, rfl, rfl⟩ ⟨rfl, rfl, rfl⟩ k1 k2 k3
    refine hk h3 X' ?_ st
    unfold setA
    rw [show ((i : Int) + 1 - 1).toNat = i by omega]
    exact ⟨_, HH⟩
  · refine JoinP.of fun J hJ => ?_
    subst hJ
    rw [if_neg (by simp)]
    rw [getA_none (by rw [List.length_map]; exact hn)] at hk
    exact hk h X H0 (StepF.refl _ _)

/-- the first k are down -/
def downTo (A : List Ses) (k : Nat) : List Ses := (A.take k).map (fun s => { s with up := false }) ++ A.drop k
theorem downTo_succ {k : Nat} {s : Ses} (hs : A[k]? = some s) : (downTo A k).set k { s with up := false } = downTo A (k + 1) := by
  have hk := (List.getElem?_eq_some_iff.1 hs).1
  unfold downTo
  have hl : ((A.take k).map (fun s : Ses => { s with up := false })).length = k := by rw [List.length_map, List.length_take]; omega
  rw [List.set_append_right _ _ (by omega), hl, Nat.sub_self, List.take_add_one, hs, List.map_append]
  rw [show A.drop k = s :: A.drop (k + 1) by rw [List.drop_eq_getElem_cons hk]; congr 1; rw [List.getElem?_eq_getElem hk] at hs; exact Option.some.inj hs]
  simp
theorem downTo_at {k : Nat} : (downTo A k)[k]? = A[k]? := by
  unfold downTo
  by_cases hk : k ≤ A.length
  · have hl : ((A.take k).map (fun s : Ses => { s with up := false })).length = k := by rw [List.length_map, List.length_take]; omega
    rw [List.getElem?_append_right (by omega), hl, Nat.sub_self, List.getElem?_drop]; rfl
  · rw [List.getElem?_eq_none (by rw [List.length_append, List.length_map, List.length_take, List.length_drop]; omega), List.getElem?_eq_none (by omega)]
theorem downTo_len {k : Nat} : (downTo A k).length = A.length := by unfold downTo; rw [List.length_append, List.length_map, List.length_take, List.length_drop]; omega
theorem allDown_ok (H : Has h t X A) (ok : okA A) (hk : ∀ h' X', Has h' t X' (allDownA A) → StepF X h X' h' → R (.tuple #[]) h') : CallsH Try.prog F.sessions_Table_AllDown #[.pointer (some ⟨t, 0, none⟩)] h R := by
  have H0 := H
  have hl := ok.le
  obtain ⟨_, lab, L, TB, hA, _, hS⟩ := H
  obtain ⟨p, c, hb, own, hp⟩ := TB.blk
  have hLA : L.length = A.length := by rw [← hA, List.length_map]
  refine sessions_Table_AllDown.walk ⟨_, _, _, cell_at hb rfl, ?_⟩
  -- the pointers' row stays: it is never written
  refine ⟨fun i h' => ∃ (k : Nat) (X' : Ft), i = (k : Int) ∧ k ≤ A.length ∧ Has h' t X' (downTo A k) ∧ StepF X h X' h' ∧ (∃ L' lab', Tab h' t lab' X'.D L' ∧ L'.map SC.abs = downTo A k ∧ (∀ c, X'.M c ↔ ∃ r, lab' c = some r) ∧ h'[t]? = h[t]? ∧ L'.map SC.b = L.map SC.b ∧ ∀ a, p = some a → h'[a.block]? = h[a.block]?), fun i _ => A.length - i.toNat, ⟨0, X, rfl, by omega, by simpa [downTo] using H0, StepF.refl _ _, L, lab, TB, by simpa [downTo] using hA, hS, rfl, rfl, fun _ _ => rfl⟩, ?_⟩
  rintro _ h1 ⟨k, F1, rfl, hkn, H1, st1, L1, lab1, TB1, hA1, hS1, ht1, hb1, hp1⟩
  by_cases hlt : k < A.length
  · have q1 : (k : Int) < (L.length : Int) := by omega
    simp only [q1, decide_true, if_true, Int.toNat_natCast]
    have hkL1 : k < L1.length := by have := congrArg List.length hA1; rw [List.length_map, downTo_len] at this; omega
    have hs : L1[k]? = some L1[k] := List.getElem?_eq_getElem hkL1
    obtain ⟨p1, c1, hbb, own1, hp1'⟩ := TB1.blk
    have hbb' := hbb
    rw [ht1, hb] at hbb
    simp at hbb
    obtain ⟨rfl, hll, rfl⟩ := hbb
    obtain ⟨ab, aoff, rfl⟩ := own1.addr (by omega)
    have hat := (TB1.ses k _ hs).blk
    refine ⟨⟨by omega, by first | trivial | omega⟩, onSome_some.2 ⟨some ⟨L1[k].b, 0, none⟩, ?_, onSome_some.2 ?_⟩⟩
    · rw [Nat.mul_one]; exact own1.cell (by rw [List.getElem?_map, hs]; rfl)
    refine storeP_blk hat (by simp) fun h2 k1 k2 k3 => ?_
    have lbk := (TB1.ses k _ hs).lb
    obtain ⟨F2, HH, st2⟩ := TB1.flag (s' := { L1[k] with up := false }) hS1 hs rfl ⟨rfl, rfl, rfl⟩ ⟨rfl, rfl, rfl⟩ k1 k2 k3
    rw [wrap_id (by omega) (by omega)]
    have hAk : (downTo A k)[k]? = some L1[k].abs := by rw [← hA1]; exact abs_at hs
    have e2 : ((L1.map SC.abs).set k { L1[k] with up := false }.abs) = downTo A (k + 1) := by
      rw [hA1]
      rw [downTo_at] at hAk
      exact downTo_succ hAk
    rw [e2] at HH
    have ntb : t ≠ L1[k].b := fun e => by rw [← e, TB1.lt0] at lbk; simp at lbk; omega
    have nab : ab ≠ L1[k].b := fun e => by
      have := hp1' ab ⟨_, rfl, rfl⟩
      rw [e, lbk] at this; simp at this; omega
    obtain ⟨lab2, L2, TB2, hA2, _, hS2⟩ := id HH
    refine ⟨⟨k + 1, F2, by omega, by omega, ⟨_, HH⟩, st1.trans st2, L2, lab2, TB2, hA2, hS2, by rw [k3 t ntb, ht1], ?_, ?_⟩, ?_⟩
    · -- the pointers are the same
      obtain ⟨p2, c2, hb2, own2, _⟩ := TB2.blk
      have e3 : h2[t]? = h1[t]? := k3 t ntb
      rw [e3, hbb'] at hb2
      simp at hb2
      obtain ⟨rfl, hl2, rfl⟩ := hb2
      have hsame : h2[ab]? = h1[ab]? := k3 ab nab
      apply List.ext_getElem?
      intro j
      rw [← hb1]
      by_cases hj : j < L1.length
      · have a1 : hcell h1 ((⟨ab, aoff, none⟩ : Addr).add j) = some (.pointer (some ⟨L1[j].b, 0, none⟩)) := own1.cell (by rw [List.getElem?_map, List.getElem?_eq_getElem hj]; rfl)
        have hj2 : j < L2.length := by omega
        have a2 : hcell h2 ((⟨ab, aoff, none⟩ : Addr).add j) = some (.pointer (some ⟨L2[j].b, 0, none⟩)) := own2.cell (by rw [List.getElem?_map, List.getElem?_eq_getElem hj2]; rfl)
        rw [add_blk] at a1 a2
        have : hcell h2 ⟨ab, aoff + j, none⟩ = hcell h1 ⟨ab, aoff + j, none⟩ := by unfold hcell; rw [hsame]
        rw [this, a1] at a2
        simp at a2
        rw [List.getElem?_map, List.getElem?_map, List.getElem?_eq_getElem hj, List.getElem?_eq_getElem hj2]
        simp [a2]
      · rw [List.getElem?_eq_none (by rw [List.length_map]; omega), List.getElem?_eq_none (by rw [List.length_map]; omega)]
    · rintro a e
      cases e
      rw [k3 ab nab, hp1 _ rfl]
    · show A.length - Int.toNat ((k : Int) + 1) < A.length - Int.toNat (k : Int); omega
  · have q1 : ¬ (k : Int) < (L.length : Int) := by omega
    simp only [q1, decide_false, Bool.false_eq_true, if_false]
    have e : downTo A k = allDownA A := by
      unfold downTo allDownA
      rw [List.take_of_length_le (by omega), List.drop_of_length_le (by omega), List.append_nil]
    rw [e] at H1
    exact hk h1 F1 H1 st1
end Ses
end Go.Proofs.Ytlnofnmdiddmkaa
