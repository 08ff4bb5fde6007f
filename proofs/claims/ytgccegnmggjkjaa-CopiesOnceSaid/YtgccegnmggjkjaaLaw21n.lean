/-
  What is proved here: law21's CopiesOnce. No condition.
-/
import Derived.Test.YtgccegnmggjkjaaLaw21s
set_option maxRecDepth 100000
namespace Go.Proofs.Ytgccegnmggjkjaa
open Go.Den Go.Heapq
namespace Cps
open Eid Alarm Fld
variable {h h' : Heap} {R : Value → Heap → Prop} {t : Nat} {X X' : Ft} {s s' : CF} {p : Option Addr} {n c : Nat} {hl fl ul : List Int}

/-! ### a law's steps -/
structure OP where
  kind : Int
  num : Int
  ses : Int
  e : Ev
  p : Option Addr
  c : Nat
  b : List UInt8
  till : Nat
abbrev oenc (f : OP) : List Value := [.int .i64 f.kind, .int .i64 f.num, .int .i64 f.ses, .bool f.e.ipn, .int .u64 f.e.node, .int .u64 f.e.svc, .string f.e.host, .string f.e.dem, .slice f.p f.b.length f.c, .int .u64 (f.till : Int)]
abbrev OP.at (f : OP) (h : Heap) (b : Nat) : Prop := law21_Op.at h b f.kind f.num f.ses f.e.ipn f.e.node f.e.svc f.e.host f.e.dem f.p f.b.length f.c (f.till : Int)
theorem oenc_len (f : OP) : (oenc f).length = 10 := rfl
theorem op_tl : tleaves Try.prog 5 T.law21_Op = some [T.int, T.int, T.int, T.bool, T.uint64, T.uint64, T.string, T.string, T.s_uint8, T.uint64] := by kernel_rfl
theorem Rok.str {m : Nat} {v : Value} (hr : Rok Try.prog h m T.string [v]) : ∃ s, v = .string s := by
  cases m with
  | zero => exact hr.elim
  | succ m =>
    unfold Rok at hr
    rw [uS] at hr
    obtain ⟨s, e, _⟩ := hr
    exact ⟨s, by simpa using e⟩
theorem op_dec (n : Nat) (cs : List Value) (hl : cs.length = 10) (hr : Rok Try.prog h n T.law21_Op cs) : ∃ f : OP, cs = oenc f ∧ Row h f.p (bc f.b) := by
  have L := tleaves_ok 5 n _ _ cs op_tl (by rw [hl]; rfl) hr
  match cs, hl with
  | [a, b, c, d, e, f, g, i, j, k], _ =>
    obtain ⟨k0, rfl, _⟩ := L.int 0 rfl rfl (k := .i64) (by kernel_rfl)
    obtain ⟨k1, rfl, _⟩ := L.int 1 rfl rfl (k := .i64) (by kernel_rfl)
    obtain ⟨k2, rfl, _⟩ := L.int 2 rfl rfl (k := .i64) (by kernel_rfl)
    obtain ⟨k3, rfl⟩ := L.bool 3 rfl rfl (by kernel_rfl)
    obtain ⟨k4, rfl, _⟩ := L.int 4 rfl rfl (k := .u64) (by kernel_rfl)
    obtain ⟨k5, rfl, _⟩ := L.int 5 rfl rfl (k := .u64) (by kernel_rfl)
    obtain ⟨m6, hm6⟩ := L.get 6 rfl rfl
    obtain ⟨k6, rfl⟩ := Rok.str hm6
    obtain ⟨m7, hm7⟩ := L.get 7 rfl rfl
    obtain ⟨k7, rfl⟩ := Rok.str hm7
    obtain ⟨m, hm⟩ := L.get 8 rfl rfl
    obtain ⟨p, q, bs, rfl, hrow⟩ := Rok.bytes (by kernel_rfl) u8 uU hm
    obtain ⟨x, rfl, w1⟩ := L.int 9 rfl rfl (k := .u64) (by kernel_rfl)
    have w1 := wf_u64 w1
    obtain ⟨x, rfl⟩ := Int.eq_ofNat_of_zero_le w1.1
    exact ⟨⟨k0, k1, k2, ⟨k3, k4, k5, k6, k7⟩, p, q, bs, x⟩, rfl, hrow⟩
theorem ops_read {l c : Nat} (hv : RokV Try.prog h T.s_law21_Op (.slice p l c)) : ∃ fs : List OP, fs.length = l ∧ Row h p (fs.flatMap oenc) ∧ ∀ f ∈ fs, Row h f.p (bc f.b) := by
  obtain ⟨xs, h1, _, _, h2, h3⟩ := RokV.slice (e := T.law21_Op) oenc 10 (fun f => Row h f.p (bc f.b)) (by kernel_rfl) (fun _ => rfl) (fun n cs hl hr => op_dec n cs hl hr) (by kernel_rfl) hv
  exact ⟨xs, h1, h2, h3⟩
theorem great_ok (f : OP) (hk : ∀ b h', Fr (fun _ => False) h h' → R (.bool b) h') : CallsH Try.prog F.law21_Great #[.agg (oenc f).toArray] h R := by
  refine law21_Great.walk (law21_Op.box fun b h1 eb hb f1 => ⟨_, _, _, cell_at hb rfl, ?_⟩)
  split
  · exact hk _ h1 f1
  · exact ⟨_, cell_at hb rfl, _, cell_at hb rfl, hk _ h1 f1⟩
theorem op_eid {f : OP} {b : Nat} {K : Bool → Int → Int → ByteArray → ByteArray → Prop} (hb : f.at h b) (hk : K f.e.ipn f.e.node f.e.svc f.e.host f.e.dem) : eid_Eid.LD h ⟨b, 3, none⟩ K :=
  ⟨_, cell_at hb rfl, _, cell_at hb rfl, _, cell_at hb rfl, _, cell_at hb rfl, _, cell_at hb rfl, hk⟩
theorem held_iff (G : RlG s hl fl ul []) (ok : okC s) (O : Ord s) {i : Nat} {v w ses : Int} (hv : fl[i]? = some v) (hw : hl[i]? = some w) : findE s.L ((i : Int) + 1) ses = 0 ↔ v = 0 ∧ w = ses ∧ ses > 0 := by
  constructor
  · intro h
    obtain ⟨z, hz, e, e2, e3⟩ := findE_ok h
    have g := G.a z hz
    have := ok.sp z hz
    rw [show z.num - 1 = i by omega, hv, hw] at g
    refine ⟨Option.some.inj g.1, ?_, by omega⟩
    rw [Option.some.inj g.2.1]; exact e2
  · rintro ⟨rfl, rfl, hp⟩
    by_cases hz : ∃ z ∈ s.L, z.num = i + 1
    case neg =>
      obtain ⟨⟨f, h1, h2⟩, _⟩ := G.b i (List.getElem?_eq_some_iff.1 hv).1 (fun z hz' e => hz ⟨z, hz', e⟩) (by simp)
      rw [hv] at h2; exact absurd (Option.some.inj h2).symm h1
    case pos =>
      obtain ⟨z, hz, e⟩ := hz
      have g := G.a z hz
      rw [show z.num - 1 = i by omega, hv, hw] at g
      exact findE_of O hz (by omega) (Option.some.inj g.2.1).symm (by omega)
theorem tW : SlTy Try.prog T.s_uint64 T.uint64 1 8 (.int .u64 0) := ⟨by kernel_rfl, by kernel_rfl, rfl⟩
theorem uSW : Try.prog.underlying T.s_uint64 = some (.slice T.uint64) := by kernel_rfl
theorem small_of (ok : okC s) {k : Nat} (h1 : s.next ≤ k + 1) (h2 : s.E1.length ≤ k) (h3 : s.E2.length ≤ k) (hk : k ≤ 81) : Small s := by
  have := ok.cnt
  exact ⟨by omega, by omega, by omega, by omega⟩

set_option maxHeartbeats 8000000 in
theorem _root_.Go.Proofs.Ytgccegnmggjkjaa.copiesOnce_ok (op : Option Addr) (ol oc : Nat) (hv : RokV Try.prog h T.s_law21_Op (.slice op ol oc)) : LawH Try.prog F.law21_CopiesOnce #[.slice op ol oc] h := by
  obtain ⟨fs, rfl, hrow, hok⟩ := ops_read hv
  clear hv
  unfold LawH
  generalize hR : (fun (v : Value) h' => v = .bool true ∧ Fr (fun _ => False) h h') = R
  have hk : ∀ h', Fr (fun _ => False) h h' → R (.bool true) h' := fun h' hf => by rw [← hR]; exact ⟨rfl, hf⟩
  clear hR
  refine law21_CopiesOnce.walk (new_ok fun h1 t X1 H1 u1 => ⟨_, rfl, ?_⟩)
  have no : ∀ c, ¬ inBlk none c := fun c ⟨a, e, _⟩ => by cases e
  refine ⟨fun hp hn hc fp fn fc up un uc i g => ∃ (k : Nat) (X : Ft) (s : CF) (hl fl ul : List Int), i = (k : Int) ∧ k ≤ 80 ∧ hn = hl.length ∧ fn = fl.length ∧ un = ul.length ∧ St (fun _ => False) h g t X s hp hc fp fc up uc hl fl ul ∧ okC s ∧ RlG s hl fl ul [] ∧ s.next ≤ k + 1 ∧ s.E1.length ≤ k ∧ s.E2.length ≤ k, fun _ _ _ _ _ _ _ _ _ i _ => 80 - i.toNat,
    ⟨0, X1, _, [], [], [], rfl, by omega, rfl, rfl, rfl, ⟨H1, u1, .nil rfl rfl rfl rfl, .nil rfl rfl rfl rfl, .nil rfl rfl rfl rfl, fun c _ hx => ?_, fun c hx => ?_, fun c hx => absurd hx (no c), fun c hx => absurd hx (no c), fun c hx => absurd hx (no c), fun c hx => hx.elim⟩, ⟨(fun z hz => by cases hz), (fun z hz => by cases hz), (fun e => by simp), (fun e => by simp), rfl⟩, ⟨rfl, rfl, rfl, List.nodup_nil, (fun k hk => by simp at hk), (fun z hz => by cases hz), (fun k hk => by simp at hk)⟩, Nat.le_refl _, Nat.le_refl _, Nat.le_refl _⟩, ?_⟩
  · rcases hx with hx | hx | hx <;> exact no c hx
  · rcases hx with hx | hx | hx <;> exact absurd hx (no c)
  clear H1 u1
  rintro hp _ hc fp _ fc up _ uc _ h2 ⟨k, X, s, hl, fl, ul, rfl, hk80, rfl, rfl, rfl, S, ok, G, hnx, he1, he2⟩
  refine JoinP.of fun J hJ => ?_
  by_cases hlt : k < fs.length ∧ k < 80
  · have q1 : (k : Int) < ((fs.length : Nat) : Int) := by omega
    have q2 : (k : Int) < 80 := by omega
    simp only [q1, q2, decide_true, if_true]
    subst hJ
    simp only [if_true, Int.toNat_natCast]
    obtain ⟨f, hf⟩ : ∃ f, fs[k]? = some f := ⟨fs[k], List.getElem?_eq_getElem hlt.1⟩
    have row3 := hrow.frame S.upf.fr (fun _ _ => id)
    obtain ⟨a, rfl⟩ := row3.some (by intro e; cases fs with | nil => simp at hf | cons => simp at e)
    refine ⟨⟨by first | trivial | omega, by first | trivial | omega⟩, onSome_some.2 (law21_Op.ldA (row3.heldAt oenc_len hf) (law21_Op.new fun b h9 eb hb f9 => law21_Op.ld hb (great_ok f fun gb h10 f10 => ⟨_, rfl, ?_⟩)))⟩
    have F10 := f9.tt f10
    have hb10 : f.at h10 b := f10.get hb id
    cases gb with
    | true =>
      rw [if_pos rfl]
      exact alive_ok fun h11 f11 => ⟨_, rfl, hk h11 (S.upf.fr.tt (F10.tt f11))⟩
    | false =>
    rw [if_neg (by decide)]
    refine ⟨_, cell_at hb10 rfl, JoinP.of fun J1 hJ1 => ?_⟩
    have fin : ∀ (P : Nat → Prop) hp hc fp fc up uc gp gn gc ks g X s hl fl ul, St P h g t X s hp hc fp fc up uc hl fl ul → (∀ c, inBlk gp c → P c) → Own g gp gn gc 1 ((ks : List Int).map (.int .i64 ·)) → gn = ks.length → gn ≤ 1000 → okC s → RlG s hl fl ul ks → s.next ≤ k + 2 → s.E1.length ≤ k + 1 → s.E2.length ≤ k + 1 → J1 hp hl.length hc fp fl.length fc up ul.length uc gp gn gc g := by
      intro P hp hc fp fc up uc gp gn gc ks g X s hl fl ul S hP og hgn hgb ok G hnx he1 he2
      have hb1 := hk80
      have hfl := G.lf
      have hlh := G.lh
      subst hJ1
      refine ⟨fun i g => ∃ (j : Nat) (hl' fl' : List Int), i = (j : Int) ∧ j ≤ gn ∧ hl'.length = hl.length ∧ fl'.length = fl.length ∧ St P h g t X s hp hc fp fc up uc hl' fl' ul ∧ Own g gp gn gc 1 (ks.map (.int .i64 ·)) ∧ RlG s hl' fl' ul (ks.drop j), fun i _ => gn - i.toNat, ⟨0, hl, fl, rfl, Nat.zero_le _, rfl, rfl, S, og, G⟩, ?_⟩
      clear S og G
      rintro _ g1 ⟨j, hl', fl', rfl, hj, el, ef, S, og, G⟩
      by_cases hlt : j < gn
      · rw [if_pos (decide_eq_true (by omega))]
        obtain ⟨v, hv⟩ : ∃ v, ks[j]? = some v := ⟨ks[j]'(by omega), List.getElem?_eq_getElem _⟩
        have hd : ks.drop j = v :: ks.drop (j + 1) := by
          rw [List.drop_eq_getElem_cons (by omega)]
          rw [List.getElem?_eq_getElem (by omega)] at hv
          rw [Option.some.inj hv]
        rw [hd] at G
        obtain ⟨v1, v2, v3, v4⟩ := G.ok v (by simp)
        have G' := G.one ok
        have ew : IntKind.wrap .i64 (v - 1) = (((v - 1).toNat : Nat) : Int) := by rw [wrap_id (by omega) (by omega)]; omega
        refine JoinP.of fun J2 hJ2 => ?_
        refine own_at og hgn hv rfl ?_
        rw [if_neg (by simp; omega)]
        refine own_at og hgn hv rfl ?_
        rw [if_neg (by simp; omega)]
        refine own_at og hgn hv rfl ?_
        rw [← ef]
        refine own_at S.of rfl v3 ew ?_
        subst hJ2
        dsimp only
        rw [show ((0 : Int) != 0) = false from rfl, if_neg (by decide)]
        refine own_at og hgn hv rfl ?_
        refine own_at og hgn hv rfl ?_
        rw [← ef]
        refine own_set S.of rfl (by omega) ew fun g2 o2 f2 => ?_
        obtain ⟨S2, r2⟩ := S.newF o2 f2 (fun c hc => .inl hc)
        rw [← el]
        refine own_set S2.oh rfl (by omega) ew fun g3 o3 f3 => ?_
        obtain ⟨S3, r3⟩ := S2.newH o3 f3 (fun c hc => .inl hc)
        rw [wrap_id (n := (j : Int) + 1) (by omega) (by omega)]
        exact ⟨⟨j + 1, _, _, by omega, by omega, by rw [List.length_set], by rw [List.length_set], S3, (og.frame r2 (fun c hc hn => hn (hP c hc))).frame r3 (fun c hc hn => hn (hP c hc)), G'⟩, by show gn - Int.toNat ((j : Int) + 1) < gn - j; omega⟩
      · rw [if_neg (by simp; omega)]
        rw [List.drop_eq_nil_of_le (by omega)] at G
        have sm := small_of ok hnx he1 he2 (by omega)
        refine counts_ok S.ct sm fun g2 f2 => ⟨_, _, _, _, _, _, rfl, a6_int.new fun b6 g3 e6 hb6 f3 => JoinP.of fun J3 hJ3 => ?_⟩
        have cnt := ok.cnt
        refine ⟨⟨by omega, by omega⟩, _, cell_at hb6 rfl, ?_⟩
        have q3 : (((s.next : Int) - 1) != ((fl.length : Nat) : Int)) = false := by simp; omega
        rw [q3, if_neg (by decide)]
        refine ⟨⟨by omega, by omega⟩, _, cell_at hb6 rfl, ⟨by omega, by omega⟩, _, cell_at hb6 rfl, ⟨by omega, by omega⟩, _, cell_at hb6 rfl, ⟨by omega, by omega⟩, _, cell_at hb6 rfl, ⟨by omega, by omega⟩, _, cell_at hb6 rfl, ⟨by omega, by omega⟩, _, cell_at hb6 rfl, ?_⟩
        have q4 : (((s.next : Int) - 1) != (IntKind.wrap .i64 ((IntKind.wrap .i64 ((IntKind.wrap .i64 ((IntKind.wrap .i64 (((s.L.length : Int) - (s.E2.length : Int)) + (s.E2.length : Int))) + (s.acked : Int))) + (s.over : Int))) + (s.gone : Int)))) = false := by
          have e : ((s.L.length : Int) - (s.E2.length : Int)) + (s.E2.length : Int) = (s.L.length : Int) := by omega
          rw [e, wrap_id (n := (s.L.length : Int)) (by omega) (by omega), wrap_id (n := (s.L.length : Int) + (s.acked : Int)) (by omega) (by omega), wrap_id (n := (s.L.length : Int) + (s.acked : Int) + (s.over : Int)) (by omega) (by omega), wrap_id (by omega) (by omega)]
          simp only [bne_eq_false_iff_eq]
          omega
        rw [q4]
        subst hJ3
        dsimp only
        rw [if_neg (by decide), wrap_id (by omega) (by omega)]
        exact ⟨⟨k + 1, X, s, hl', fl', ul, by omega, by omega, el.symm, ef.symm, rfl, (S.on (f2.tt f3)).more (fun c hc => hc.elim), ok, G, hnx, he1, he2⟩, by show 80 - Int.toNat ((k : Int) + 1) < 80 - k; omega⟩
    clear hJ1
    have O := S.ct.ord
    have lf := G.lf
    have lh := G.lh
    have lu := G.lu
    have sm := small_of ok hnx he1 he2 (by omega)
    have lb := lt_of_get hb
    have S10 : St (fun c => c = b) h h10 t X s hp hc fp fc up uc hl fl ul := (S.on F10).more (fun c e => by
      subst e
      refine ⟨lt_of_get hb10, fun hm => ?_, fun hx => ?_⟩
      · have := S.ct.lt _ (.inl hm); omega
      · have := S.lt hx; omega)
    have rowb : Row h10 f.p (bc f.b) := (hok f (List.mem_of_getElem? hf)).frame S10.upf.fr (fun _ _ => id)
    have none_own : ∀ g, Own g none 0 0 1 (([] : List Int).map (.int .i64 ·)) := fun g => .nil rfl rfl rfl rfl
    refine JoinP.of fun J4 hJ4 => ?_
    subst hJ4
    split
    · refine op_eid hb10 ⟨_, _, _, cell_at hb10 rfl, _, cell_at hb10 rfl, add_ok S10.ct sm (fun z hz => (ok.bd z hz).2.1) (by omega) f.e f.till rfl rowb rfl (fun hd a ea hm => ?_) fun g X' H' st => ⟨_, _, rfl, JoinP.of fun J5 hJ5 => ?_⟩⟩
      · have h1 := row_lt (hok f (List.mem_of_getElem? hf)) (by cases hfb : f.b with | nil => exact absurd hfb hd | cons => simp [bc]) ⟨a, ea, rfl⟩
        have h2 := S10.upf.ge _ (.inl hm)
        omega
      obtain ⟨S11, r11⟩ := S10.step H' st
      have ok' := ok.add f.e f.b f.till
      have e1l : (addF s f.e f.b f.till).E1.length ≤ k + 1 := by
        unfold addF; split
        · have := setL_len s.E1 (s.next : Int) (f.till : Int); show (setL _ _ _).length ≤ _; omega
        · omega
      have e2l : (addF s f.e f.b f.till).E2.length ≤ k + 1 := by unfold addF; split <;> (try dsimp only) <;> omega
      have nl : (addF s f.e f.b f.till).next ≤ k + 2 := by unfold addF; split <;> (try dsimp only) <;> omega
      by_cases he : addE s f.e f.b f.till = 0
      · have en : addN s f.e f.b f.till = (s.next : Int) := if_pos he
        rw [he, en, if_pos (by rfl), wrap_id (by omega) (by omega)]
        rw [if_neg (by simp; omega)]
        refine den_append1 tI uSI S11.oh rfl (by simp [oneCell]) (by omega) (by omega) fun p1 c1 g1 o1 f1 q1 => ⟨_, _, _, rfl, ?_⟩
        obtain ⟨S12, r12⟩ := S11.newH (hl' := hl ++ [0]) (by rw [List.length_append, List.map_append]; exact o1) f1 q1
        refine den_append1 tI uSI S12.of rfl (by simp [oneCell]) (by omega) (by omega) fun p2 c2 g2 o2 f2 q2 => ⟨_, _, _, rfl, ?_⟩
        obtain ⟨S13, r13⟩ := S12.newF (hl' := fl ++ [0]) (by rw [List.length_append, List.map_append]; exact o2) f2 q2
        refine den_append1 tW uSW S13.ou rfl (by simp [oneCell]) (by omega) (by omega) fun p3 c3 g3 o3 f3 q3 => ⟨_, _, _, rfl, ?_⟩
        obtain ⟨S14, r14⟩ := S13.newU (hl' := ul ++ [0]) (by rw [List.length_append, List.map_append]; exact o3) f3 q3
        subst hJ5
        have := fin _ _ _ _ _ _ _ none 0 0 [] g3 X' _ _ _ _ S14 (fun c hc => absurd hc (no c)) (none_own g3) rfl (by omega) ok' (G.add ok he) nl e1l e2l
        simpa only [List.length_append, List.length_singleton] using this
      · rw [if_neg (by simpa using he)]
        subst hJ5
        refine fin _ _ _ _ _ _ _ none 0 0 [] g X' _ _ _ _ S11 (fun c hc => absurd hc (no c)) (none_own g) rfl (by omega) ok' ?_ nl e1l e2l
        have : addF s f.e f.b f.till = s := if_neg he
        rw [this]; exact G
    refine JoinP.of fun J6 hJ6 => ?_
    subst hJ6
    split
    · -- Lease
      have keep : ∀ g, Fr (fun _ => False) h10 g → J1 hp hl.length hc fp fl.length fc up ul.length uc none 0 0 g := fun g fg =>
        fin _ _ _ _ _ _ _ none 0 0 [] g X _ _ _ _ (S10.on fg) (fun c hc => absurd hc (no c)) (none_own g) rfl (by omega) ok G (by omega) (by omega) (by omega)
      refine op_eid hb10 ⟨_, cell_at hb10 rfl, _, cell_at hb10 rfl, lease_ok S10.ct sm ok.bd f.e f.ses f.till rfl (fun _ g fg => ?_) (fun _ _ g fg => ?_) (fun hm z hz g X' p' c' H' st r' g' => ?_)⟩
      · refine ⟨_, _, _, _, _, _, _, _, _, _, _, _, _, rfl, copies_Copy.new fun b5 g5 e5 hb5 f5 => JoinP.of fun J7 hJ7 => ?_⟩
        rw [if_neg (by decide)]
        subst hJ7
        exact keep g5 (fg.tt f5)
      · refine ⟨_, _, _, _, _, _, _, _, _, _, _, _, _, rfl, copies_Copy.new fun b5 g5 e5 hb5 f5 => JoinP.of fun J7 hJ7 => ?_⟩
        rw [if_neg (by decide)]
        subst hJ7
        exact keep g5 (fg.tt f5)
      · refine ⟨_, _, _, _, _, _, _, _, _, _, _, _, _, rfl, copies_Copy.new fun b5 g5 e5 hb5 f5 => JoinP.of fun J7 hJ7 => ?_⟩
        rw [if_pos (by rfl)]
        obtain ⟨zm, ze, zs⟩ := leaseC_mem hz
        have zb := ok.bd z zm
        have za := G.a z zm
        rw [zs] at za
        obtain ⟨S11, r11⟩ := S10.step H' st
        have hbg : f.at g b := r11.get hb10 (fun hn => hn rfl)
        have S12 : St (fun c => c = b ∨ c = b5) h g5 t X' _ hp hc fp fc up uc hl fl ul := (S11.on f5).more (fun c e => by
          rcases e with rfl | rfl
          · exact ⟨lt_of_get (f5.get hbg id), (S11.pr _ rfl).2⟩
          · refine ⟨lt_of_get hb5, fun hm => ?_, fun hx => ?_⟩
            · have := S11.ct.lt _ (.inl hm); omega
            · have := S11.lt hx; omega)
        have hb12 : f.at g5 b := f5.get hbg id
        have ew : IntKind.wrap .i64 ((z.num : Int) - 1) = ((z.num - 1 : Nat) : Int) := by rw [wrap_id (by omega) (by omega)]; omega
        refine JoinP.of fun J8 hJ8 => ?_
        refine ⟨_, cell_at hb5 rfl, ?_⟩
        rw [if_neg (by simp; omega)]
        refine ⟨_, cell_at hb5 rfl, ?_⟩
        rw [if_neg (by simp; omega)]
        refine ⟨_, cell_at hb5 rfl, own_at S12.oh rfl za.2.1 ew ?_⟩
        rw [if_neg (by decide)]
        refine ⟨_, cell_at hb5 rfl, own_at S12.of rfl za.1 ew ?_⟩
        rw [if_neg (by decide)]
        refine ⟨_, cell_at hb5 rfl, _, cell_at hb5 rfl, _, cell_at hb5 rfl, _, cell_at hb5 rfl, _, cell_at hb5 rfl, op_eid hb12 ⟨_, eqv z.e f.e, ?_⟩⟩
        rw [decide_eq_true ze]
        subst hJ8
        dsimp only
        rw [show (!true) = false from rfl, if_neg (by decide)]
        refine ⟨_, cell_at hb5 rfl, _, cell_at hb5 rfl, _, cell_at hb12 rfl, _, cell_at hb12 rfl, own_set S12.oh rfl (by omega) ew fun g6 o6 f6 => ?_⟩
        obtain ⟨S13, r13⟩ := S12.newH o6 f6 (fun c hc => .inl hc)
        have hb13 : f.at g6 b := r13.get hb12 (fun hn => hn (.inl rfl))
        have hb53 := r13.get hb5 (fun hn => hn (.inr rfl))
        refine ⟨cell_at hb13 rfl, cell_at hb53 rfl, own_set S13.ou rfl (by omega) ew fun g7 o7 f7 => ?_⟩
        obtain ⟨S14, r14⟩ := S13.newU o7 f7 (fun c hc => .inl hc)
        subst hJ7
        have nl : (leaseF s z f.ses f.till).next = s.next := rfl
        have e2l : (leaseF s z f.ses f.till).E2.length ≤ k + 1 := by
          have := setL_len s.E2 (z.num : Int) (f.till : Int); show (setL _ _ _).length ≤ _; omega
        have G' : RlG (leaseF s z f.ses f.till) (hl.set (z.num - 1) f.ses) fl (ul.set (z.num - 1) (f.till : Int)) [] :=
          G.set ok O zm (by rw [List.length_set]) rfl rfl (fun _ => by rw [List.getElem?_set, if_pos rfl, if_pos (by omega)]) (fun j hj => by rw [List.getElem?_set, if_neg (fun e => hj e.symm)])
        have := fin _ _ _ _ _ _ _ none 0 0 [] g7 X' _ _ _ _ S14 (fun c hc => absurd hc (no c)) (none_own g7) rfl (by omega) (ok.lease O zm hm) G' (by omega) (by show s.E1.length ≤ k + 1; omega) e2l
        simpa only [List.length_set] using this
    refine JoinP.of fun J9 hJ9 => ?_
    have keep : ∀ g, Fr (fun _ => False) h10 g → J1 hp hl.length hc fp fl.length fc up ul.length uc none 0 0 g := fun g fg =>
      fin _ _ _ _ _ _ _ none 0 0 [] g X _ _ _ _ (S10.on fg) (fun c hc => absurd hc (no c)) (none_own g) rfl (by omega) ok G (by omega) (by omega) (by omega)
    have cnt := ok.cnt
    have both : ∀ bb, bb = (f.kind == 2 || f.kind == 3) → J9 bb h10 := by
      intro bb hbb
      subst hJ9
      dsimp only
      refine JoinP.of fun J10 hJ10 => ?_
      subst hJ10
      cases bb with
      | true =>
        rw [if_pos rfl]
        refine JoinP.of fun J11 hJ11 => ?_
        have go : J11 (decide (findE s.L f.num f.ses = 0)) h10 := by
          subst hJ11
          dsimp only
          refine ⟨_, cell_at hb10 rfl, JoinP.of fun J12 hJ12 => ?_⟩
          by_cases hfe : findE s.L f.num f.ses = 0
          · obtain ⟨z, zm, zn, zs, zs0⟩ := findE_ok hfe
            have zb := ok.bd z zm
            have ew : IntKind.wrap .i64 (f.num - 1) = ((z.num - 1 : Nat) : Int) := by rw [wrap_id (by omega) (by omega)]; omega
            split
            · rename_i hk2
              refine ⟨_, cell_at hb10 rfl, _, cell_at hb10 rfl, ack_ok S10.ct sm (by omega) f.num f.ses fun g X' H' st => ⟨_, rfl, ?_⟩⟩
              obtain ⟨S11, r11⟩ := S10.step H' st
              have hbg : f.at g b := r11.get hb10 (fun hn => hn rfl)
              subst hJ12
              dsimp only
              rw [hfe, decide_eq_true (by rfl), if_neg (by decide)]
              refine JoinP.of fun J13 hJ13 => ?_
              rw [if_pos rfl]
              refine ⟨_, cell_at hbg rfl, own_set S11.oh rfl (by omega) ew fun g2 o2 f2 => ?_⟩
              obtain ⟨S12, r12⟩ := S11.newH o2 f2 (fun c hc => .inl hc)
              have hb2 : f.at g2 b := r12.get hbg (fun hn => hn rfl)
              refine ⟨_, cell_at hb2 rfl, JoinP.of fun J14 hJ14 => ?_⟩
              rw [if_pos hk2]
              refine ⟨_, cell_at hb2 rfl, own_set S12.of rfl (by omega) ew fun g3 o3 f3 => ?_⟩
              obtain ⟨S13, r13⟩ := S12.newF o3 f3 (fun c hc => .inl hc)
              subst hJ14 hJ13
              have ea : ackF s f.num f.ses = { remF s f.num with acked := s.acked + 1 } := if_pos hfe
              have eL : (ackF s f.num f.ses).L = delL s.L (z.num : Int) := by rw [ea, zn]; rfl
              have eN : (ackF s f.num f.ses).next = s.next := by rw [ea]; rfl
              have e1 : (ackF s f.num f.ses).E1.length ≤ k + 1 := by rw [ea]; exact Nat.le_trans (dropK_len _ _) (by omega)
              have e2 : (ackF s f.num f.ses).E2.length ≤ k + 1 := by rw [ea]; exact Nat.le_trans (dropK_len _ _) (by omega)
              have := fin _ _ _ _ _ _ _ none 0 0 [] g3 X' _ _ _ _ S13 (fun c hc => absurd hc (no c)) (none_own g3) rfl (by omega) (ok.ack O f.num f.ses) (G.ack ok O zm eL eN) (by omega) e1 e2
              simpa only [List.length_set] using this
            · rename_i hk2
              refine ⟨_, cell_at hb10 rfl, _, cell_at hb10 rfl, release_ok S10.ct sm f.num f.ses fun g X' H' st => ⟨_, rfl, ?_⟩⟩
              obtain ⟨S11, r11⟩ := S10.step H' st
              have hbg : f.at g b := r11.get hb10 (fun hn => hn rfl)
              subst hJ12
              dsimp only
              rw [hfe, decide_eq_true (by rfl), if_neg (by decide)]
              refine JoinP.of fun J13 hJ13 => ?_
              rw [if_pos rfl]
              refine ⟨_, cell_at hbg rfl, own_set S11.oh rfl (by omega) ew fun g2 o2 f2 => ?_⟩
              obtain ⟨S12, r12⟩ := S11.newH o2 f2 (fun c hc => .inl hc)
              have hb2 : f.at g2 b := r12.get hbg (fun hn => hn rfl)
              refine ⟨_, cell_at hb2 rfl, JoinP.of fun J14 hJ14 => ?_⟩
              rw [if_neg hk2]
              subst hJ14 hJ13
              have ea : relF s f.num f.ses = freeF s z.num := by unfold relF; rw [if_pos hfe, ← zn, Int.toNat_natCast]
              have e1 : (relF s f.num f.ses).E1.length ≤ k + 1 := by rw [ea]; show s.E1.length ≤ _; omega
              have e2 : (relF s f.num f.ses).E2.length ≤ k + 1 := by rw [ea]; exact Nat.le_trans (dropK_len _ _) (by omega)
              have eN : (relF s f.num f.ses).next = s.next := by rw [ea]; rfl
              have G' : RlG (relF s f.num f.ses) (hl.set (z.num - 1) 0) fl ul [] := G.set (b := 0) ok O zm rfl (by rw [ea]; rfl) eN (fun hn => absurd rfl hn) (fun _ _ => rfl)
              have := fin _ _ _ _ _ _ _ none 0 0 [] g2 X' _ _ _ _ S12 (fun c hc => absurd hc (no c)) (none_own g2) rfl (by omega) (ok.rel O f.num f.ses) G' (by omega) e1 e2
              simpa only [List.length_set] using this
          · have eb : (findE s.L f.num f.ses == 0) = false := by simpa using hfe
            split
            · refine ⟨_, cell_at hb10 rfl, _, cell_at hb10 rfl, ack_ok S10.ct sm (by omega) f.num f.ses fun g X' H' st => ⟨_, rfl, ?_⟩⟩
              have ea : ackF s f.num f.ses = s := if_neg hfe
              rw [ea] at H'
              obtain ⟨S11, r11⟩ := S10.step H' st
              subst hJ12
              dsimp only
              rw [eb, decide_eq_false hfe, if_neg (by decide)]
              refine JoinP.of fun J13 hJ13 => ?_
              rw [if_neg (by decide)]
              subst hJ13
              exact fin _ _ _ _ _ _ _ none 0 0 [] g X' _ _ _ _ S11 (fun c hc => absurd hc (no c)) (none_own g) rfl (by omega) ok G (by omega) (by omega) (by omega)
            · refine ⟨_, cell_at hb10 rfl, _, cell_at hb10 rfl, release_ok S10.ct sm f.num f.ses fun g X' H' st => ⟨_, rfl, ?_⟩⟩
              have ea : relF s f.num f.ses = s := if_neg hfe
              rw [ea] at H'
              obtain ⟨S11, r11⟩ := S10.step H' st
              subst hJ12
              dsimp only
              rw [eb, decide_eq_false hfe, if_neg (by decide)]
              refine JoinP.of fun J13 hJ13 => ?_
              rw [if_neg (by decide)]
              subst hJ13
              exact fin _ _ _ _ _ _ _ none 0 0 [] g X' _ _ _ _ S11 (fun c hc => absurd hc (no c)) (none_own g) rfl (by omega) ok G (by omega) (by omega) (by omega)
        have gof : findE s.L f.num f.ses ≠ 0 → J11 false h10 := fun hn => by
          rw [decide_eq_false hn] at go; exact go
        clear hJ11
        refine ⟨_, cell_at hb10 rfl, ?_⟩
        by_cases q1 : f.num ≥ 1
        · rw [if_pos (decide_eq_true q1)]
          refine ⟨_, cell_at hb10 rfl, ?_⟩
          by_cases q2 : f.num ≤ ((fl.length : Nat) : Int)
          · rw [if_pos (decide_eq_true q2)]
            obtain ⟨v, hv⟩ : ∃ v, fl[(f.num - 1).toNat]? = some v := ⟨_, List.getElem?_eq_getElem (by omega)⟩
            obtain ⟨w, hw⟩ : ∃ v, hl[(f.num - 1).toNat]? = some v := ⟨_, List.getElem?_eq_getElem (by omega)⟩
            have iff := held_iff (ses := f.ses) G ok O hv hw
            rw [show (((f.num - 1).toNat : Nat) : Int) + 1 = f.num by omega] at iff
            have ew : IntKind.wrap .i64 (f.num - 1) = (((f.num - 1).toNat : Nat) : Int) := by rw [wrap_id (by omega) (by omega)]; omega
            refine ⟨_, cell_at hb10 rfl, own_at S10.of rfl hv ew ?_⟩
            by_cases q3 : v = 0
            · rw [if_pos (by simp [q3])]
              refine ⟨_, cell_at hb10 rfl, own_at S10.oh rfl hw ew ⟨_, cell_at hb10 rfl, ?_⟩⟩
              by_cases q4 : w = f.ses
              · rw [if_pos (by simp [q4])]
                refine ⟨_, cell_at hb10 rfl, ?_⟩
                have e : decide (f.ses > 0) = decide (findE s.L f.num f.ses = 0) := decide_eq_decide.2 ⟨fun h => iff.2 ⟨q3, q4, h⟩, fun h => (iff.1 h).2.2⟩
                rw [e]; exact go
              · rw [if_neg (by simpa using q4)]
                exact gof (fun h => q4 (iff.1 h).2.1)
            · rw [if_neg (by simpa using q3)]
              exact gof (fun h => q3 (iff.1 h).1)
          · rw [if_neg (by simpa using q2)]
            refine gof (fun h => ?_)
            obtain ⟨z, zm, zn, _⟩ := findE_ok h
            have := ok.bd z zm
            omega
        · rw [if_neg (by simpa using q1)]
          refine gof (fun h => ?_)
          obtain ⟨z, zm, zn, _⟩ := findE_ok h
          have := ok.bd z zm
          omega
      | false =>
        rw [if_neg (by decide)]
        refine JoinP.of fun J15 hJ15 => ?_
        subst hJ15
        split
        · refine ⟨_, cell_at hb10 rfl, pass_ok S10.ct sm (by omega) (fun e he => ?_) (f.till : Int) fun g X' p' c' H' st N' gN => ⟨_, _, _, rfl, ?_⟩⟩
          · unfold keys at he
            obtain ⟨x, hx, rfl⟩ := List.mem_map.1 he
            obtain ⟨z, zm, _, rfl⟩ := (ok.e2 x).1 hx
            exact ⟨z, zm, rfl⟩
          obtain ⟨S11, r11⟩ := S10.step H' st
          have hbg : f.at g b := r11.get hb10 (fun hn => hn rfl)
          obtain ⟨okp, pm, nxp, l1p, l2p⟩ := pass_all ok O (f.till : Int)
          have hdl : (Alarm.due s.E1 (f.till : Int)).length ≤ s.E1.length := (List.takeWhile_sublist _).length_le
          have S12 : St (fun c => c = b ∨ inBlk p' c) h g t X' (passF s (f.till : Int)) hp hc fp fc up uc hl fl ul := S11.more (fun c e => by
            rcases e with rfl | e
            · exact S11.pr _ rfl
            · refine ⟨N'.own.blk_lt e, N'.ap c e, fun hx => ?_⟩
              have := gN c e
              have := S10.lt hx
              omega)
          refine ⟨fun i g => ∃ (j : Nat) (hl' : List Int), i = (j : Int) ∧ j ≤ fl.length ∧ hl'.length = hl.length ∧ St (fun c => c = b ∨ inBlk p' c) h g t X' (passF s (f.till : Int)) hp hc fp fc up uc hl' fl ul ∧ Own g p' (Alarm.due s.E1 (f.till : Int)).length c' 1 ((keys (Alarm.due s.E1 (f.till : Int))).map (.int .i64 ·)) ∧ f.at g b ∧ (∀ i v, hl[i]? = some v → hl'[i]? = some (if i < j then offH ul (f.till : Int) i v else v)), fun i _ => fl.length - i.toNat, ⟨0, hl, rfl, Nat.zero_le _, rfl, S12, N'.own, hbg, fun i v hv => by rw [if_neg (by omega)]; exact hv⟩, ?_⟩
          rintro _ g1 ⟨j, hl', rfl, hj, el, Sj, oj, hbj, hh⟩
          by_cases hlt : j < fl.length
          · rw [if_pos (decide_eq_true (by omega))]
            obtain ⟨v, hv⟩ : ∃ v, hl[j]? = some v := ⟨_, List.getElem?_eq_getElem (by omega)⟩
            obtain ⟨w, hw⟩ : ∃ v, ul[j]? = some v := ⟨_, List.getElem?_eq_getElem (by omega)⟩
            have hv' := hh j v hv
            rw [if_neg (by omega)] at hv'
            have wj : IntKind.wrap .i64 ((j : Int) + 1) = (j : Int) + 1 := wrap_id (by omega) (by omega)
            refine JoinP.of fun J16 hJ16 => JoinP.of fun J17 hJ17 => ?_
            have stay : offH ul (f.till : Int) j v = v → J17 false g1 := fun ho => by
              subst hJ17
              dsimp only
              refine JoinP.of fun J18 hJ18 => ?_
              rw [if_neg (by decide)]
              subst hJ18 hJ16
              dsimp only
              rw [wj]
              refine ⟨⟨j + 1, hl', by omega, by omega, el, Sj, oj, hbj, fun i x hx => ?_⟩, by show fl.length - Int.toNat ((j : Int) + 1) < fl.length - j; omega⟩
              rw [hh i x hx]
              by_cases e : i = j
              · subst e
                rw [hv] at hx; cases hx
                rw [if_neg (by omega), if_pos (by omega), ho]
              · by_cases e2 : i < j
                · rw [if_pos e2, if_pos (by omega)]
                · rw [if_neg e2, if_neg (by omega)]
            rw [← el]
            refine own_at Sj.oh rfl hv' rfl ?_
            by_cases q1 : v = 0
            · rw [if_neg (by simp [q1])]
              exact stay (by unfold offH; rw [if_neg (fun h => h.1 q1)])
            · rw [if_pos (by simpa using q1)]
              refine own_at Sj.ou rfl hw rfl ⟨_, cell_at hbj rfl, ?_⟩
              by_cases q2 : w ≤ (f.till : Int)
              · rw [decide_eq_true q2]
                clear stay
                subst hJ17
                dsimp only
                refine JoinP.of fun J18 hJ18 => ?_
                rw [if_pos rfl]
                rw [← el]
                refine own_set Sj.oh rfl (by omega) rfl fun g2 o2 f2 => ?_
                obtain ⟨S2, r2⟩ := Sj.newH o2 f2 (fun c hc => .inl hc)
                subst hJ18 hJ16
                dsimp only
                rw [wj]
                refine ⟨⟨j + 1, _, by omega, by omega, by rw [List.length_set]; exact el, S2, oj.frame r2 (fun c hc hn => hn (.inr hc)), r2.get hbj (fun hn => hn (.inl rfl)), fun i x hx => ?_⟩, by show fl.length - Int.toNat ((j : Int) + 1) < fl.length - j; omega⟩
                rw [get_set (hh i x hx)]
                by_cases e : i = j
                · subst e
                  rw [hv] at hx; cases hx
                  rw [if_pos rfl, if_pos (by omega)]
                  unfold offH
                  rw [hw, Option.getD_some, if_pos ⟨q1, q2⟩]
                · rw [if_neg (fun e' => e e'.symm)]
                  by_cases e2 : i < j
                  · rw [if_pos e2, if_pos (by omega)]
                  · rw [if_neg e2, if_neg (by omega)]
              · rw [decide_eq_false q2]
                exact stay (by unfold offH; rw [hw, Option.getD_some, if_neg (fun h => q2 h.2)])
          · rw [if_neg (by simp; omega)]
            have G' := G.pass (hl' := hl') ok O (f.till : Int) el (fun i v hv => by
              have := (List.getElem?_eq_some_iff.1 hv).1
              rw [hh i v hv, if_pos (by omega)])
            have := fin _ _ _ _ _ _ _ p' _ c' _ g1 X' _ _ _ _ Sj (fun c hc => .inr hc) oj (by unfold keys; rw [List.length_map]) (by omega) okp G' (by omega) (by omega) (by omega)
            rw [el] at this
            exact this
        · refine JoinP.of fun J19 hJ19 => ?_
          subst hJ19
          split
          · refine op_eid hb10 (drop_ok S10.ct sm (by omega) f.e fun g X' p' c' H' st N' gN => ⟨_, _, _, rfl, ?_⟩)
            obtain ⟨S11, r11⟩ := S10.step H' st
            have S12 : St (fun c => inBlk p' c) h g t X' (dropF s f.e) hp hc fp fc up uc hl fl ul := S11.more (fun c e => by
              refine ⟨N'.own.blk_lt e, N'.ap c e, fun hx => ?_⟩
              have := gN c e
              have := S10.lt hx
              omega)
            have ed : dropF s f.e = { s with L := outC s.L ((ofL s.L f.e).map (fun z => (z.num : Int))), E1 := outE s.E1 ((ofL s.L f.e).map (fun z => (z.num : Int))), E2 := outE s.E2 ((ofL s.L f.e).map (fun z => (z.num : Int))), gone := s.gone + ((ofL s.L f.e).map (fun z => (z.num : Int))).length } := by
              unfold dropF; rw [fold_gone]
            have eN : (dropF s f.e).next = s.next := by rw [ed]
            have e1 : (dropF s f.e).E1.length ≤ k + 1 := by rw [ed]; exact Nat.le_trans (List.length_filter_le _ _) (by omega)
            have e2 : (dropF s f.e).E2.length ≤ k + 1 := by rw [ed]; exact Nat.le_trans (List.length_filter_le _ _) (by omega)
            have lo : (ofL s.L f.e).length ≤ s.L.length := List.length_filter_le _ _
            exact fin _ _ _ _ _ _ _ p' _ c' _ g X' _ _ _ _ S12 (fun c hc => hc) N'.own (by rw [List.length_map]) (by omega) (ok.drop O f.e) (G.drop ok O f.e) (by omega) e1 e2
          · exact keep h10 (Fr.refl _ _)
    clear hJ9
    split
    · rename_i hk2
      exact both _ (by rw [hk2]; rfl)
    · rename_i hk2
      exact both _ (by
        have : (f.kind == 2) = false := by simpa using hk2
        rw [this]; rfl)
  · have bad : J false h2 := by
      subst hJ
      dsimp only
      rw [if_neg (by decide)]
      exact alive_ok fun h11 f11 => ⟨_, rfl, hk h11 (S.upf.fr.tt f11)⟩
    by_cases q1 : (k : Int) < ((fs.length : Nat) : Int)
    · rw [if_pos (decide_eq_true q1), decide_eq_false (show ¬ (k : Int) < 80 by omega)]; exact bad
    · rw [if_neg (by simpa using q1)]; exact bad
end Cps
end Go.Proofs.Ytgccegnmggjkjaa
