/-
  What is proved here: what the functions of package sessions do to a table in memory: notes. No condition.
-/
import Derived.Test.YtlnofnmdiddmkaaSesOps2
namespace Go.Proofs.Ytlnofnmdiddmkaa
open Go.Den Go.Fields
namespace Ses
open Fld
variable {h h' h0 : Heap} {t : Nat} {X : Ft} {R : Value → Heap → Prop} {p q : Option Addr} {c d i : Nat} {lab : Lab} {D : Nat → Prop} {L : List SC} {A : List Ses}

theorem isNote_ok {b : List UInt8} {n m : Nat} (hn : n = b.length) (hk : R (.bool (isNoteB b)) h) : CallsH Try.prog F.sessions_isNote #[.slice p n m] h R := by
  subst hn
  refine sessions_isNote.walk ?_
  unfold sessions_isNote.vc
  unfold isNoteB at hk
  by_cases h1 : ((b.length : Nat) : Int) ≥ 1
  · by_cases h2 : ((b.length : Nat) : Int) ≤ 600
    · simpa [h1, h2, show 1 ≤ b.length by omega, show b.length ≤ 600 by omega] using hk
    · simpa [h1, h2, show 1 ≤ b.length by omega, show ¬ b.length ≤ 600 by omega] using hk
  · simpa [h1, show ¬ 1 ≤ b.length by omega] using hk

/-- notes change: what is needed -/
theorem Tab.notesG {s : SC} {h1 h12 : Heap} {K' : List BV} {np' : Option Addr} {nc' : Nat} {E : Nat → Prop} (TB1 : Tab h1 t lab X.D L) (hS : ∀ c, X.M c ↔ ∃ r, lab c = some r) (hs : L[i]? = some s) (hat : At h12 { s with notes := K', np := np', nc := nc' })
    (hown : Own h12 np' K'.length nc' 1 (K'.flatMap nenc)) (hnp : ∀ c, inBlk np' c → inBlk s.np c ∨ h1.size ≤ c) (f : Fr (fun x => x = s.b ∨ inBlk s.np x) h1 h12) (hE : ∀ c, E c → lab c = none ∧ c < h12.size ∧ ¬ inBlk np' c) (hd : ∀ n ∈ K', n.ok h12 (fun c => X.D c ∨ E c)) :
    ∃ X', HasB h12 t X' ((L.map SC.abs).set i { s.abs with notes := K'.map BV.b }) (L.map SC.b) ∧ Fr X.M h1 h12 ∧ (∀ c, X'.M c → X.M c ∨ h1.size ≤ c) ∧ (∀ c, X'.D c → X.D c ∨ E c) ∧ ∀ c, X.D c → X'.D c := by
  have SA := TB1.ses i s hs
  have nbk : ∀ c, inBlk s.kp c → c ≠ s.b := fun c hc e => by have h1 := SA.kl c hc; rw [e, SA.lb] at h1; simp at h1
  have nkn : ∀ c, inBlk s.kp c → ¬ inBlk s.np c := fun c hc h2 => by have h1 := SA.kl c hc; rw [SA.nl c h2] at h1; simp at h1
  have kD : ∀ c, X.D c → ¬ (c = s.b ∨ inBlk s.np c) := fun c hc hx => hx.elim (fun e => TB1.ap c _ (e ▸ SA.lb) hc) (fun hx => TB1.ap c _ (SA.nl c hx) hc)
  exact TB1.updG (s' := { s with notes := K', np := np', nc := nc' }) (E := E) hS hs rfl f (fun c hx => hx.elim (fun e => ⟨_, e ▸ SA.lb, by omega, by omega⟩) (fun hx => ⟨_, SA.nl c hx, by omega, by omega⟩)) hat
    (SA.kown.frame f (fun c hc hx => hx.elim (nbk c hc) (nkn c hc))) (fun c hc => .inl (SA.kl c hc)) hown (fun c hc => (hnp c hc).imp (SA.nl c) id)
    (fun c h2 hc => (hnp c hc).elim (fun hx => nkn c h2 hx) (fun hx => by have := SA.kown.blk_lt h2; omega))
    (fun c hc => ⟨(hE c hc).1, (hE c hc).2.1, (fun hx => by have a := SA.kl c hx; rw [(hE c hc).1] at a; cases a), (hE c hc).2.2⟩)
    (fun a ha => ((SA.kd a ha).frame f kD).mono (fun c => .inl)) hd

/-- notes change: what is needed -/
theorem Tab.notes {s : SC} {h1 h12 : Heap} {K' : List BV} {np' : Option Addr} {nc' : Nat} {E : Nat → Prop} (TB1 : Tab h1 t lab X.D L) (hS : ∀ c, X.M c ↔ ∃ r, lab c = some r) (hs : L[i]? = some s) (hat : At h12 { s with notes := K', np := np', nc := nc' })
    (hown : Own h12 np' K'.length nc' 1 (K'.flatMap nenc)) (hnp : ∀ c, inBlk np' c → inBlk s.np c ∨ h1.size ≤ c) (f : Fr (fun x => x = s.b ∨ inBlk s.np x) h1 h12) (hE : ∀ c, E c → h1.size ≤ c ∧ c < h12.size ∧ ¬ inBlk np' c) (hd : ∀ n ∈ K', n.ok h12 (fun c => X.D c ∨ E c)) :
    ∃ X', HasB h12 t X' ((L.map SC.abs).set i { s.abs with notes := K'.map BV.b }) (L.map SC.b) ∧ StepF X h1 X' h12 := by
  have SA := TB1.ses i s hs
  have nbk : ∀ c, inBlk s.kp c → c ≠ s.b := fun c hc e => by have h1 := SA.kl c hc; rw [e, SA.lb] at h1; simp at h1
  have nkn : ∀ c, inBlk s.kp c → ¬ inBlk s.np c := fun c hc h2 => by have h1 := SA.kl c hc; rw [SA.nl c h2] at h1; simp at h1
  have kD : ∀ c, X.D c → ¬ (c = s.b ∨ inBlk s.np c) := fun c hc hx => hx.elim (fun e => TB1.ap c _ (e ▸ SA.lb) hc) (fun hx => TB1.ap c _ (SA.nl c hx) hc)
  exact TB1.upd (s' := { s with notes := K', np := np', nc := nc' }) (E := E) hS hs rfl f (fun c hx => hx.elim (fun e => ⟨_, e ▸ SA.lb, by omega, by omega⟩) (fun hx => ⟨_, SA.nl c hx, by omega, by omega⟩)) hat
    (SA.kown.frame f (fun c hc hx => hx.elim (nbk c hc) (nkn c hc))) (fun c hc => .inl (SA.kl c hc)) hown (fun c hc => (hnp c hc).imp (SA.nl c) id)
    (fun c h2 hc => (hnp c hc).elim (fun hx => nkn c h2 hx) (fun hx => by have := SA.kown.blk_lt h2; omega))
    (fun c hc => ⟨(hE c hc).1, (hE c hc).2.1, fun hx => by have := SA.kown.blk_lt hx; have := (hE c hc).1; omega, (hE c hc).2.2⟩)
    (fun a ha => ((SA.kd a ha).frame f kD).mono (fun c => .inl)) hd

theorem note_ok {num : Int} {b : List UInt8} {n m : Nat} (H : Has h t X A) (ok : okA A) (hr : Row h p (bc b)) (hn : n = b.length) (hb : b.length ≤ 1000000)
    (hk : ∀ h' X', Has h' t X' (noteA A num b) → StepF X h X' h' → R (.int .i64 (noteE A num b)) h') :
    CallsH Try.prog F.sessions_Table_Note #[.pointer (some ⟨t, 0, none⟩), .int .i64 num, .slice p n m] h R := by
  subst hn
  have H0 := H
  obtain ⟨_, lab, L, TB, rfl, _, hS⟩ := H
  have hl := ok.le
  rw [List.length_map] at hl
  unfold noteA noteE at hk
  refine sessions_Table_Note.walk (find_ok TB (fun i s e hs => ⟨_, _, rfl, ?_⟩) (fun hn => ⟨_, _, rfl, ?_⟩) (by omega))
  · rw [if_neg (by simp)]
    subst e
    rw [getA_at, abs_at hs] at hk
    dsimp only at hk
    refine isNote_ok rfl ⟨_, rfl, ?_⟩
    have SA := TB.ses i s hs
    have okS := ok.at_ i _ (abs_at hs)
    have nl : s.notes.length ≤ 6 := by have := okS.nl; rwa [show s.abs.notes.length = s.notes.length from List.length_map _] at this
    cases hin : isNoteB b with
    | false =>
      simp only [hin, Bool.false_eq_true, if_false, false_and] at hk
      simp only [Bool.not_false, if_true]
      exact hk h X H0 (StepF.refl _ _)
    | true =>
      simp only [hin, if_true, true_and] at hk
      simp only [Bool.not_true, Bool.false_eq_true, if_false]
      refine onSome_some.2 ⟨_, cell_at SA.blk rfl, ?_⟩
      cases hw : s.watch with
      | false =>
        have : s.abs.watch = false := hw
        simp only [this, Bool.false_eq_true, if_false] at hk
        simp only [Bool.not_false, if_true]
        exact hk h X H0 (StepF.refl _ _)
      | true =>
        have hw' : s.abs.watch = true := hw
        rw [if_pos hw', if_pos hw'] at hk
        simp only [Bool.not_true, Bool.false_eq_true, if_false]
        have nbn : ∀ c, inBlk s.np c → c ≠ s.b := fun c hc e => by have h1 := SA.nl c hc; rw [e, SA.lb] at h1; simp at h1
        have sb1 : s.b < h.size := lt_of_get SA.blk
        have nb1 : ∀ c, inBlk s.np c → c < h.size := fun c hc => SA.nown.blk_lt hc
        refine onSome_some.2 ⟨_, _, _, cell_at SA.blk rfl, clone_ok hr rfl (by omega) fun p3 c3 h3 o3 f3 g3 => ⟨_, _, _, rfl, cell_at (f3.get SA.blk id) rfl, newP_of ?_⟩⟩
        have f4 : Fr (fun _ => False) h3 (h3.push (.cells #[.slice p3 b.length c3] T.s_uint8)) := Fr.push _ _
        have row4 : Row (h3.push (.cells #[.slice p3 b.length c3] T.s_uint8)) (some ⟨h3.size, 0, none⟩) (nenc ⟨p3, c3, b⟩) := row_new (cs := nenc ⟨p3, c3, b⟩)
        have sz4 : (h3.push (.cells #[.slice p3 b.length c3] T.s_uint8)).size = h3.size + 1 := Array.size_push _
        generalize h3.push (.cells #[.slice p3 b.length c3] T.s_uint8) = h4 at f4 row4 sz4 ⊢
        have f34 := f3.tt f4
        have k4 := f34.get SA.blk id
        refine ⟨cell_at k4 rfl, ?_⟩
        refine den_append tN uN (SA.nown.frame f34 (fun _ _ => id)) row4 rfl (fun v hv => by simp at hv; subst hv; rfl) (by omega) (by omega) ?_
        intro p5 c5 h5 o5 _ f5 g5
        refine ⟨_, _, _, rfl, onSome_some.2 ?_⟩
        have k5 := f5.get k4 (fun hx => nbn _ hx rfl)
        refine storeP_blk k5 (by simp) fun h6 q1 q2 q3 => onSome_some.2 ⟨_, _, _, cell_at q1 rfl, ?_⟩
        have f6 : Fr (fun x => x = s.b) h5 h6 := Fr.of_eq q2 q3
        have z3 := f3.1
        have z5 := f5.1
        have n5b : ∀ c, inBlk p5 c → c ≠ s.b := fun c hc e => (g5 c hc).elim (fun hx => nbn c hx e) (fun hx => by omega)
        have o6 := o5.frame f6 (fun x hx e => n5b x hx e)
        have F6 : Fr (fun x => x = s.b ∨ inBlk s.np x) h h6 := (f34.mono (fun _ _ => False.elim)).tt ((f5.mono (fun _ _ hx => .inr hx)).tt (f6.mono (fun _ _ hx => .inl hx)))
        have kD : ∀ c, X.D c → ¬ (c = s.b ∨ inBlk s.np c) := fun c hc hx => hx.elim (fun e => TB.ap c _ (e ▸ SA.lb) hc) (fun hx => TB.ap c _ (SA.nl c hx) hc)
        have b3 : ∀ c, inBlk p3 c → h.size ≤ c ∧ c < h3.size := fun c hc => ⟨g3 c hc, o3.blk_lt hc⟩
        have o36 : Own h6 p3 b.length c3 1 (bc b) := ((o3.frame f4 (fun _ _ => id)).frame f5 (fun c hc hx => by have := b3 c hc; have := nb1 c hx; omega)).frame f6 (fun c hc e => by have := b3 c hc; omega)
        have cat : s.notes.flatMap nenc ++ nenc ⟨p3, c3, b⟩ = (s.notes ++ [(⟨p3, c3, b⟩ : BV)]).flatMap nenc := by rw [List.flatMap_append]; simp
        rw [cat] at o6
        have kabs : (s.notes ++ [(⟨p3, c3, b⟩ : BV)]).map BV.b = s.abs.notes ++ [b] := by rw [List.map_append]; rfl
        have klen : (s.notes ++ [(⟨p3, c3, b⟩ : BV)]).length = s.notes.length + 1 := by rw [List.length_append]; rfl
        have kdat : ∀ a ∈ s.notes ++ [(⟨p3, c3, b⟩ : BV)], a.ok h6 (fun c => X.D c ∨ inBlk p3 c) := by
          intro a ha
          rcases List.mem_append.1 ha with ha | ha
          · exact ((SA.nd a ha).frame F6 kD).mono (fun c => .inl)
          · simp at ha; subst ha; exact BV.of_own o36 (fun c => .inr)
        generalize s.notes ++ [(⟨p3, c3, b⟩ : BV)] = K at *
        refine JoinP.of fun J1 hJ1 => ?_
        have fin : ∀ (h12 : Heap) (K' : List BV) (np' : Option Addr) (nc' : Nat), (∃ j, K' = K.drop j) → K'.map BV.b = noteL s.abs.notes b → At h12 { s with notes := K', np := np', nc := nc' } → Own h12 np' K'.length nc' 1 (K'.flatMap nenc) →
            (∀ c, inBlk np' c → inBlk s.np c ∨ h4.size ≤ c) → Fr (fun x => x = s.b) h6 h12 → J1 h12 := by
          intro h12 K' np' nc' ⟨j, hj⟩ hK hat hown hnp f12
          subst hJ1
          obtain ⟨X', HH, st⟩ := TB.notes (E := inBlk p3) hS hs hat hown (fun c hc => (hnp c hc).imp (fun h => h) (fun hx => by omega)) (F6.tt (f12.mono (fun _ _ hx => .inl hx)))
            (fun c hc => ⟨(b3 c hc).1, by have := (b3 c hc).2; have := f6.1; have := f12.1; omega, fun hx => (hnp c hx).elim (fun h2 => by have := nb1 c h2; have := b3 c hc; omega) (fun h2 => by have := b3 c hc; omega)⟩)
            (fun a ha => (kdat a (by rw [hj] at ha; exact List.mem_of_mem_drop ha)).frame f12 (fun c hc e => hc.elim (fun hc => kD c hc (.inl e)) (fun hc => by have := b3 c hc; omega)))
          refine hk h12 X' ?_ st
          unfold setA
          rw [show ((i : Int) + 1 - 1).toNat = i by omega]
          rw [hK] at HH
          exact ⟨_, HH⟩
        clear hJ1
        unfold noteL at fin
        rw [← kabs, List.length_map, klen] at fin
        by_cases h6' : ((s.notes.length + 1 : Nat) : Int) > 6
        · simp only [h6', decide_true, if_true]
          rw [if_pos (by omega)] at fin
          refine onSome_some.2 ⟨_, _, _, cell_at q1 rfl, ⟨by omega, by omega⟩, ?_⟩
          rw [← klen] at o6
          have osub := o6.sub (l := 1) (u := K.length) (by omega) (Nat.le_refl _)
          rw [← flat_len nenc 1 nenc_len K, List.take_length, flat_drop nenc 1 nenc_len] at osub
          refine cloneN_ok osub.row' (by rw [List.length_drop, ← klen]; rfl) (by rw [List.length_drop]; omega) fun p11 c11 h11 o11 f11 g11 => ⟨_, _, _, rfl, onSome_some.2 ?_⟩
          have q11 := f11.get q1 id
          refine storeP_blk q11 (by simp) fun h12 r1 r2 r3 => ?_
          have f12 : Fr (fun x => x = s.b) h11 h12 := Fr.of_eq r2 r3
          have z6 := f6.1
          refine fin h12 (K.drop 1) p11 c11 ⟨1, rfl⟩ List.map_drop ?_ (o11.frame f12 (fun c hc e => by have := g11 c hc; omega)) (fun c hc => .inr (by have := g11 c hc; omega)) ((f11.mono (fun _ _ => False.elim)).tt f12)
          exact r1
        · simp only [h6', decide_false, Bool.false_eq_true, if_false]
          rw [if_neg (by omega)] at fin
          refine fin h6 K p5 c5 ⟨0, rfl⟩ rfl ?_ (by rw [klen]; exact o6) g5 (Fr.refl _ _)
          show h6[s.b]? = _
          rw [q1]
          dsimp only
          rw [klen]; rfl
  · rw [if_pos (by rfl)]
    rw [getA_none (by rw [List.length_map]; exact hn)] at hk
    exact hk h X H0 (StepF.refl _ _)

theorem read_ok {num : Int} (H : Has h t X A) (ok : okA A)
    (hk : ∀ h' X' p' c', Has h' t X' (readA A num) → StepF X h X' h' → BV.ok h' X'.D ⟨p', c', readD A num⟩ → R (.tuple #[.slice p' (readD A num).length c', .int .i64 (readN A num), .int .i64 (readE A num)]) h') :
    CallsH Try.prog F.sessions_Table_Read #[.pointer (some ⟨t, 0, none⟩), .int .i64 num] h R := by
  have H0 := H
  obtain ⟨_, lab, L, TB, rfl, _, hS⟩ := H
  have hl := ok.le
  rw [List.length_map] at hl
  unfold readA readD readN readE at hk
  refine sessions_Table_Read.walk (find_ok TB (fun i s e hs => ⟨_, _, rfl, JoinP.of fun J hJ => ?_⟩) (fun hn => ⟨_, _, rfl, JoinP.of fun J hJ => ?_⟩) (by omega))
  · rw [if_pos (by rfl)]
    subst e
    rw [getA_at, abs_at hs] at hk
    dsimp only at hk
    have SA := TB.ses i s hs
    have okS := ok.at_ i _ (abs_at hs)
    have nl : s.notes.length ≤ 6 := by have := okS.nl; rwa [show s.abs.notes.length = s.notes.length from List.length_map _] at this
    refine onSome_some.2 ⟨_, _, _, cell_at SA.blk rfl, ?_⟩
    subst hJ
    dsimp only
    have habs : s.abs.notes = s.notes.map BV.b := rfl
    have hset : ∀ s' : Ses, setA (L.map SC.abs) ((i : Int) + 1) s' = (L.map SC.abs).set i s' := fun s' => by unfold setA; rw [show ((i : Int) + 1 - 1).toNat = i by omega]
    rw [hset, habs, List.length_map] at hk
    cases hnotes : s.notes with
    | nil =>
      rw [hnotes] at hk
      rw [if_pos (by rfl)]
      have hsame : (L.map SC.abs).set i { s.abs with notes := [] } = L.map SC.abs := by
        refine set_same ?_
        rw [abs_at hs]
        congr 1
        unfold SC.abs
        rw [hnotes]; rfl
      refine hk h X none 0 ?_ (StepF.refl _ _) ⟨.inl rfl, fun hne => absurd rfl hne, by simp⟩
      have : (List.drop 1 (List.map BV.b [])) = ([] : List (List UInt8)) := rfl
      rw [this, hsame]
      exact H0
    | cons x rest =>
      have hne : ((((x :: rest).length : Nat) : Int) == 0) = false := by simp only [List.length_cons, beq_eq_false_iff_ne, ne_eq]; omega
      rw [if_neg (by rw [hne]; simp)]
      have nbn : ∀ c, inBlk s.np c → c ≠ s.b := fun c hc e => by have h1 := SA.nl c hc; rw [e, SA.lb] at h1; simp at h1
      have own := SA.nown
      have hat := SA.blk
      rw [hnotes] at own hk nl
      have hat' : h[s.b]? = some (.cells #[.int .i64 (s.num : Int), .int .u64 (s.token : Int), .bool s.up, .bool s.watch, .slice s.kp s.kept.length s.kc, .slice s.np (x :: rest).length s.nc] T.sessions_Session (0, 0)) := by
        have : At h s := hat
        unfold At sessions_Session.at at this
        rwa [hnotes] at this
      obtain ⟨ab, aoff, hnp⟩ := own.addr (by simp)
      have own' := own
      rw [hnp] at own'
      have hx0 := own'.heldAt nenc_len (i := 0) (x := x) rfl
      refine onSome_some.2 ⟨_, _, _, cell_at hat' rfl, ⟨by omega, by simp only [List.length_cons]; omega⟩, ?_⟩
      rw [hnp]
      refine onSome_some.2 ⟨x.p, x.b.length, x.c, ?_, onSome_some.2 ⟨some ⟨ab, aoff, none⟩, (x :: rest).length, s.nc, ?_, ⟨by omega, by simp only [List.length_cons]; omega⟩, ?_⟩⟩
      · have := hx0.1
        rw [Nat.zero_mul, add_zero_addr, add_zero_addr] at this
        rw [show Int.toNat 0 * 1 = 0 from rfl, add_zero_addr]
        exact this
      · rw [← hnp]; exact cell_at hat' rfl
      have osub := own'.sub (l := 1) (u := (x :: rest).length) (by simp) (Nat.le_refl _)
      rw [← flat_len nenc 1 nenc_len (x :: rest), List.take_length, flat_drop nenc 1 nenc_len] at osub
      refine cloneN_ok (xs := rest) osub.row' (by simp) (by simp only [List.length_cons] at nl; omega) fun p3 c3 h3 o3 f3 g3 => ⟨_, _, _, rfl, onSome_some.2 ?_⟩
      have q3 := f3.get hat' id
      refine storeP_blk q3 (by simp) fun h4 r1 r2 r3 => ?_
      have f4 : Fr (fun x => x = s.b) h3 h4 := Fr.of_eq r2 r3
      have sb1 : s.b < h.size := lt_of_get hat
      have z3 := f3.1
      have F4 : Fr (fun x => x = s.b) h h4 := (f3.mono (fun _ _ => False.elim)).tt f4
      have kD : ∀ c, X.D c → c ≠ s.b := fun c hc e => TB.ap c _ (e ▸ SA.lb) hc
      have nd' : ∀ n ∈ x :: rest, n.ok h4 X.D := fun n hn => (SA.nd n (by rw [hnotes]; exact hn)).frame F4 kD
      obtain ⟨X', HH, st⟩ := TB.notes (K' := rest) (np' := p3) (nc' := c3) (E := fun _ => False) hS hs r1 (o3.frame f4 (fun c hc e => by have := g3 c hc; omega)) (fun c hc => .inr (g3 c hc)) (F4.mono (fun _ _ hx => .inl hx)) (fun c hc => hc.elim) (fun n hn => (nd' n (List.mem_cons_of_mem _ hn)).mono (fun c => .inl))
      have hxD : BV.ok h4 X'.D x := (nd' x List.mem_cons_self).mono st.oldD
      exact hk h4 X' x.p x.c ⟨_, HH⟩ st hxD
  · rw [if_neg (by simp)]
    subst hJ
    dsimp only
    rw [getA_none (by rw [List.length_map]; exact hn)] at hk
    rw [if_pos (by rfl)]
    exact hk h X none 0 H0 (StepF.refl _ _) ⟨.inl rfl, fun hne => absurd rfl hne, by simp⟩
end Ses
end Go.Proofs.Ytlnofnmdiddmkaa
