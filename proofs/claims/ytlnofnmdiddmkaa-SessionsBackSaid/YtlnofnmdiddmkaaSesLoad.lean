/-
  What is proved here: what 'Load' of package sessions does. No condition.
-/
import Derived.Test.YtlnofnmdiddmkaaSesLoadP
namespace Go.Proofs.Ytlnofnmdiddmkaa
open Go.Den Go.Fields
namespace Ses
open Fld
variable {h h' h0 : Heap} {t x : Nat} {X : Ft} {R : Value → Heap → Prop} {p q : Option Addr} {c d i : Nat} {A : List Ses} {G : Nat → Prop} {B : List Nat} {ls : Recs} {bad : Bool}

/-- x is a loader of the records ls -/
def Ld (h : Heap) (x : Nat) (G : Nat → Prop) (ls : Recs) (bad : Bool) : Prop :=
  ∃ (p : Option Addr) (c : Nat) (xs : List BV), h[x]? = some (.cells #[.slice p xs.length c, .bool bad] T.sessions_loader (0, 0)) ∧ Row h p (xs.flatMap nenc) ∧ xs.length ≤ c ∧ xs.map BV.b = ls ∧ (xs ≠ [] → ∀ y, inBlk p y → G y) ∧ ∀ v ∈ xs, Row h v.p (bc v.b) ∧ (v.b ≠ [] → ∀ y, inBlk v.p y → G y)
theorem Ld.frame {Q : Nat → Prop} (H : Ld h x G ls bad) (f : Fr Q h h') (hx : ¬ Q x) (hG : ∀ y, G y → ¬ Q y) : Ld h' x G ls bad := by
  obtain ⟨p, c, xs, h1, h2, h3, h4, h5, h6⟩ := H
  refine ⟨p, c, xs, f.get h1 hx, ?_, h3, h4, h5, fun v hv => ⟨?_, (h6 v hv).2⟩⟩
  · by_cases e : xs = []
    · rw [e]; exact .inl rfl
    · exact h2.frame f (fun a ea => hG _ (h5 e _ ⟨a, ea, rfl⟩))
  · by_cases e : v.b = []
    · rw [e]; exact .inl rfl
    · exact (h6 v hv).1.frame f (fun a ea => hG _ ((h6 v hv).2 e _ ⟨a, ea, rfl⟩))
/-- all that is under way -/
structure LS (h0 h : Heap) (t x : Nat) (X : Ft) (G : Nat → Prop) (A : List Ses) (B : List Nat) (ls : Recs) (bad : Bool) : Prop where
  has : HasB h t X A B
  ld : Ld h x G ls bad
  up : UpF h0 X h
  gx : h0.size ≤ x
  lx : x < h.size
  sep : ∀ y, X.M y ∨ X.D y → y ≠ x
  gl : ∀ y, G y → y < h0.size
  le : ∀ b ∈ ls, b.length ≤ 1099511627776
theorem LS.other {Q : Nat → Prop} (H : LS h0 h t x X G A B ls bad) (f : Fr Q h h') (hq : ∀ y, Q y → y ≠ x ∧ ¬ (X.M y ∨ X.D y) ∧ h0.size ≤ y) : LS h0 h' t x X G A B ls bad :=
  ⟨H.has.frame f (fun y hy hx => (hq y hx).2.1 hy), H.ld.frame f (fun hx => (hq x hx).1 rfl) (fun y hy hx => by have := H.gl y hy; have := (hq y hx).2.2; omega), ⟨H.up.fr.fresh f (fun y hy => (hq y hy).2.2), H.up.ge⟩, H.gx, Nat.lt_of_lt_of_le H.lx f.1, H.sep, H.gl, H.le⟩
theorem LS.on (H : LS h0 h t x X G A B ls bad) (f : Fr (fun _ => False) h h') : LS h0 h' t x X G A B ls bad := H.other f (fun _ hy => hy.elim)
theorem LS.tab {X' : Ft} {A' : List Ses} {B' : List Nat} (H : LS h0 h t x X G A B ls bad) (T : HasB h' t X' A' B') (st : StepF X h X' h') : LS h0 h' t x X' G A' B' ls bad := by
  have u := H.up.step st
  have s := st.apart (Q := fun y => y = x) (fun y hy e => H.sep y hy e) (fun y e => e ▸ H.lx)
  refine ⟨T, H.ld.frame st.fr (fun hx => H.sep x (.inl hx) rfl) (fun y hy hx => by have := H.gl y hy; have := H.up.ge y (.inl hx); omega), u, H.gx, Nat.lt_of_lt_of_le H.lx st.fr.1, s, H.gl, H.le⟩
/-- .. where what is told of D came in before -/
theorem LS.tabE {X' : Ft} {E : Nat → Prop} {A' : List Ses} {B' : List Nat} (H : LS h0 h t x X G A B ls bad) (T : HasB h' t X' A' B') (f : Fr X.M h h') (m : ∀ c, X'.M c → X.M c ∨ h.size ≤ c) (d : ∀ c, X'.D c → X.D c ∨ E c) (hE : ∀ c, E c → h0.size ≤ c ∧ c ≠ x) : LS h0 h' t x X' G A' B' ls bad := by
  have z := H.up.fr.1
  have lx := H.lx
  refine ⟨T, H.ld.frame f (fun hx => H.sep x (.inl hx) rfl) (fun y hy hx => by have := H.gl y hy; have := H.up.ge y (.inl hx); omega), ⟨H.up.fr.fresh f (fun y hy => H.up.ge y (.inl hy)), ?_⟩, H.gx, Nat.lt_of_lt_of_le H.lx f.1, ?_, H.gl, H.le⟩
  · rintro y (hy | hy)
    · rcases m y hy with h1 | h1
      · exact H.up.ge y (.inl h1)
      · omega
    · rcases d y hy with h1 | h1
      · exact H.up.ge y (.inr h1)
      · exact (hE y h1).1
  · rintro y (hy | hy)
    · rcases m y hy with h1 | h1
      · exact H.sep y (.inl h1)
      · omega
    · rcases d y hy with h1 | h1
      · exact H.sep y (.inr h1)
      · exact (hE y h1).2
theorem LS.loader {ls' : Recs} {bad' : Bool} (H : LS h0 h t x X G A B ls bad) (L : Ld h' x G ls' bad') (f : Fr (fun y => y = x) h h') (hle : ∀ b ∈ ls', b ∈ ls) : LS h0 h' t x X G A B ls' bad' :=
  ⟨H.has.frame f (fun y hy e => H.sep y hy e), L, ⟨H.up.fr.fresh f (fun y e => e ▸ H.gx), H.up.ge⟩, H.gx, Nat.lt_of_lt_of_le H.lx f.1, H.sep, H.gl, fun b hb => H.le b (hle b hb)⟩

theorem need_ok {is : Bool} (H : LS h0 h t x X G A B ls bad) (hk : ∀ h', LS h0 h' t x X G A B ls (bad || !is) → Fr (fun y => y = x) h h' → R (.tuple #[]) h') : CallsH Try.prog F.sessions_loader_need #[.pointer (some ⟨x, 0, none⟩), .bool is] h R := by
  obtain ⟨p, c, xs, h1, h2, h3, h4, h5, h6⟩ := id H.ld
  have fin : ∀ h' b', h'[x]? = some (.cells #[.slice p xs.length c, .bool b'] T.sessions_loader (0, 0)) → h'.size = h.size → (∀ y, y ≠ x → h'[y]? = h[y]?) → LS h0 h' t x X G A B ls b' ∧ Fr (fun y => y = x) h h' := by
    intro h' b' k1 k2 k3
    have f : Fr (fun y => y = x) h h' := Fr.of_eq k2 k3
    have nG : ¬ G x := fun hg => by have := H.gl x hg; have := H.gx; omega
    have base : Ld h x G ls bad := H.ld
    refine ⟨H.loader ⟨p, c, xs, k1, ?_, h3, h4, h5, fun v hv => ⟨?_, (h6 v hv).2⟩⟩ f (fun _ hb => hb), f⟩
    · by_cases e : xs = []
      · rw [e]; exact .inl rfl
      · exact h2.frame f (fun a ea e2 => nG (e2 ▸ h5 e _ ⟨a, ea, rfl⟩))
    · by_cases e : v.b = []
      · rw [e]; exact .inl rfl
      · exact (h6 v hv).1.frame f (fun a ea e2 => nG (e2 ▸ (h6 v hv).2 e _ ⟨a, ea, rfl⟩))
  refine sessions_loader_need.walk ⟨_, cell_at h1 rfl, ?_⟩
  cases bad with
  | true =>
    simp only [if_true]
    refine storeP_blk h1 (by simp) fun h' k1 k2 k3 => ?_
    obtain ⟨a, b⟩ := fin h' true k1 k2 k3
    exact hk h' a b
  | false =>
    simp only [Bool.false_eq_true, if_false]
    refine storeP_blk h1 (by simp) fun h' k1 k2 k3 => ?_
    obtain ⟨a, b⟩ := fin h' (!is) k1 k2 k3
    rw [Bool.false_or] at hk
    exact hk h' a b

theorem next_ok (H : LS h0 h t x X G A B ls bad) (hk : ∀ h' r S, LS h0 h' t x X G A B ls.tail (bad || ls.isEmpty) → Rd h' r S 0 (ls.headD []) → (∀ y, S y → h.size ≤ y) → Fr (fun y => y = x) h h' → R (.pointer (some ⟨r, 0, none⟩)) h') :
    CallsH Try.prog F.sessions_loader_next #[.pointer (some ⟨x, 0, none⟩)] h R := by
  obtain ⟨p, c, xs, h1, h2, h3, h4, h5, h6⟩ := id H.ld
  have nG : ¬ G x := fun hg => by have := H.gl x hg; have := H.gx; omega
  refine sessions_loader_next.walk ⟨_, _, _, cell_at h1 rfl, ?_⟩
  cases xs with
  | nil =>
    rw [if_pos (by rfl)]
    subst h4
    refine storeP_blk h1 (by simp) fun h' k1 k2 k3 => ?_
    have f : Fr (fun y => y = x) h h' := Fr.of_eq k2 k3
    have L1 : LS h0 h' t x X G A B [] true := H.loader ⟨p, c, [], k1, .inl rfl, h3, rfl, (fun hne => absurd rfl hne), fun v hv => by cases hv⟩ f (fun _ hb => hb)
    refine Fld.read_ok (bs := []) Row.nil rfl (by simp) fun h2 r S D f2 g2 => ⟨_, rfl, ?_⟩
    refine hk h2 r S ?_ D (fun y hy => by have := g2 y hy; omega) (Fr.on f f2)
    have : (bad || ([] : Recs).isEmpty) = true := by simp
    rw [show (List.map BV.b ([] : List BV)) = [] from rfl, this]
    exact L1.on f2
  | cons v xs =>
    have hne : ((((v :: xs).length : Nat) : Int) == 0) = false := by simp only [List.length_cons, beq_eq_false_iff_ne, ne_eq]; omega
    rw [if_neg (by rw [hne]; simp)]
    subst h4
    obtain ⟨a, rfl⟩ := h2.some (by simp)
    have hv0 := (h2.heldAt nenc_len (i := 0) (x := v) rfl).1
    rw [Nat.zero_mul, add_zero_addr, add_zero_addr] at hv0
    have hle := H.le v.b (by simp)
    refine ⟨_, _, _, cell_at h1 rfl, ⟨by omega, by simp only [List.length_cons]; omega⟩, onSome_some.2 ⟨v.p, v.b.length, v.c, ?_, ?_⟩⟩
    · rw [show Int.toNat 0 * 1 = 0 from rfl, add_zero_addr]; exact hv0
    refine Fld.read_ok (h6 v List.mem_cons_self).1 rfl (by omega) fun h3' r S D f2 g2 => ⟨_, rfl, ?_⟩
    have h13 := f2.get h1 id
    refine ⟨_, _, _, cell_at h13 rfl, ⟨by omega, by simp only [List.length_cons]; omega⟩, ?_⟩
    refine storeP_blk h13 (by simp) fun h4 k1 k2 k3 => ?_
    have f4 : Fr (fun y => y = x) h3' h4 := Fr.of_eq k2 k3
    have f04 : Fr (fun y => y = x) h h4 := Fr.no f2 f4
    have rows : Row h4 (slBase (some a) c 1 1) (xs.flatMap nenc) := by
      have rs := (h2.frame f04 (fun b eb e2 => nG (e2 ▸ h5 (by simp) _ ⟨b, eb, rfl⟩))).sub (cap := c) (l := 1) (u := (v :: xs).length) (sz := 1) (by simp) (by simpa using h3)
      rw [← flat_len nenc 1 nenc_len (v :: xs), List.take_length, flat_drop nenc 1 nenc_len] at rs
      exact rs
    have lx := H.lx
    refine hk h4 r S (H.loader (ls' := xs.map BV.b) ⟨slBase (some a) c 1 1, c - 1, xs, ?_, rows, by simp only [List.length_cons] at h3; omega, rfl, ?_, ?_⟩ f04 (fun b hb => List.mem_cons_of_mem _ hb)) (D.frame f4 (fun y hy e => by have := g2 y hy; omega)) g2 f04
    · rw [k1]; simp
    · intro _ y hy; exact h5 (by simp) y (inBlk_sub hy)
    · intro w hw
      refine ⟨?_, (h6 w (List.mem_cons_of_mem _ hw)).2⟩
      by_cases e : w.b = []
      · rw [e]; exact .inl rfl
      · exact (h6 w (List.mem_cons_of_mem _ hw)).1.frame f04 (fun b eb e2 => nG (e2 ▸ (h6 w (List.mem_cons_of_mem _ hw)).2 e _ ⟨b, eb, rfl⟩))
/-- how many records are left -/
def ldLen (x : Nat) (h : Heap) : Nat := match h[x]? with
  | some (.cells c _ _) => (match (c[0]? : Option Value) with | some (.slice _ n _) => n | _ => 0)
  | _ => 0
theorem LS.ldLen (H : LS h0 h t x X G A B ls bad) : Ses.ldLen x h = ls.length := by
  obtain ⟨p, c, xs, h1, h2, h3, h4, _⟩ := H.ld
  unfold Ses.ldLen
  rw [h1, ← h4, List.length_map]; rfl

/-- reading leaves all else alone -/
theorem LS.rd {r : Nat} {S : Nat → Prop} {h1 : Heap} (H : LS h0 h t x X G A B ls bad) (f : Fr (fun y => y = r) h h') (hS : S r) (g : ∀ y, S y → h1.size ≤ y) (hx : x < h1.size) (hX : ∀ y, X.M y ∨ X.D y → y < h1.size) (hz : h0.size ≤ h1.size) : LS h0 h' t x X G A B ls bad := by
  have := g r hS
  exact H.other f (fun y e => ⟨by omega, fun hy => by have := hX y hy; omega, by omega⟩)

set_option maxRecDepth 100000 in
theorem session_ok (H : LS h0 h t x X G A B ls false) (ok : okA A) (hne : ls ≠ [])
    (k1 : ∀ A' ls', loadS A ls = some (A', ls') → ∀ h' X' B', LS h0 h' t x X' G A' B' ls' false → okA A' → ls'.length < ls.length → R (.tuple #[]) h')
    (k2 : loadS A ls = none → ∀ h' X' A' B' ls', LS h0 h' t x X' G A' B' ls' true → ls'.length < ls.length → R (.tuple #[]) h') :
    CallsH Try.prog F.sessions_loader_session #[.pointer (some ⟨x, 0, none⟩), .pointer (some ⟨t, 0, none⟩)] h R := by
  obtain ⟨b0, l1, rfl⟩ := List.exists_cons_of_ne_nil hne
  have hb0 := H.le b0 (by simp)
  refine sessions_loader_session.walk (next_ok H fun h1 r S L1 D1 g1 f1 => ⟨_, rfl, ?_⟩)
  have e1 : (false || (b0 :: l1).isEmpty) = false := rfl
  rw [e1] at L1
  have zx := H.lx
  have hX := H.has.lt
  have hz := H.up.fr.1
  have z1 := f1.1
  show CallsH _ _ _ _ _
  simp only [List.headD_cons, List.tail_cons] at D1 L1
  refine rint_ok D1 fun h2 D2 f2 => ⟨_, rfl, ?_⟩
  have L2 := L1.rd f2 D1.self g1 zx hX hz
  have hnum : (readInt 0 b0).1 ≤ 1099511627776 := readMost_le _ _ _
  generalize hA : readInt 0 b0 = Ra at D2 hnum ⊢
  obtain ⟨num, ae, ar⟩ := Ra
  dsimp only at D2 hnum ⊢
  refine rnum_ok D2 fun h3 D3 f3 => ⟨_, rfl, ?_⟩
  have L3 := L2.rd f3 D1.self g1 zx hX hz
  have htk := readNum_lt ae ar
  generalize hT : readNum ae ar = Rt at D3 htk ⊢
  obtain ⟨token, te, tr⟩ := Rt
  dsimp only at D3 htk ⊢
  refine rbool_ok D3 fun h4 D4 f4 => ⟨_, rfl, ?_⟩
  have L4 := L3.rd f4 D1.self g1 zx hX hz
  generalize hU : readMost 1 te tr = Ru at D4 ⊢
  obtain ⟨upn, ue, ur⟩ := Ru
  dsimp only at D4 ⊢
  refine rbool_ok D4 fun h5 D5 f5 => ⟨_, rfl, ?_⟩
  have L5 := L4.rd f5 D1.self g1 zx hX hz
  generalize hW : readMost 1 ue ur = Rw at D5 ⊢
  obtain ⟨wan, we, wr⟩ := Rw
  dsimp only at D5 ⊢
  refine rint_ok D5 fun h6 D6 f6 => ⟨_, rfl, ?_⟩
  have L6 := L5.rd f6 D1.self g1 zx hX hz
  have hkle : (readInt we wr).1 ≤ 1099511627776 := readMost_le _ _ _
  generalize hK : readInt we wr = Rk at D6 hkle ⊢
  obtain ⟨kn, ke, kr⟩ := Rk
  dsimp only at D6 hkle ⊢
  refine rint_ok D6 fun h7 D7 f7 => ⟨_, rfl, ?_⟩
  have L7 := L6.rd f7 D1.self g1 zx hX hz
  have hnle : (readInt ke kr).1 ≤ 1099511627776 := readMost_le _ _ _
  generalize hN : readInt ke kr = Rn at D7 hnle ⊢
  obtain ⟨nn, ne, nr⟩ := Rn
  dsimp only at D7 hnle ⊢
  have hHead : rdHead b0 = ⟨num, token, decide (upn = 1), decide (wan = 1), kn, nn, readEnd ne nr⟩ := by
    unfold rdHead
    simp only [hA, hT, hU, hW, hK, hN]
  generalize decide (upn = 1) = up at hHead ⊢
  generalize decide (wan = 1) = wa at hHead ⊢
  clear hA hT hU hW hK hN D2 D3 D4 D5 D6 L1 L2 L3 L4 L5 L6 f2 f3 f4 f5 f6 f7
  have hll : l1.length < (b0 :: l1).length := by simp
  refine JoinP.of fun J hJ => ?_
  -- behind the first need
  have afterHead : ∀ (h8 : Heap) (bad : Bool), LS h0 h8 t x X G A B l1 bad → (bad = false ↔ (readEnd ne nr = 0 ∧ kn ≤ 6 ∧ nn ≤ 6)) → J h8 := by
    intro h8 bad L8 hbad
    subst hJ
    obtain ⟨lab8, LL8, TB8, hA8, hB8, hS8⟩ := id L8.has
    refine open_ok token rfl ⟨B, L8.has⟩ ok fun h9 X9 H9 s9 => ⟨_, _, rfl, ?_⟩
    obtain ⟨B9, H9⟩ := H9
    have L9 := L8.tab H9 s9
    have ok9 := ok.open token
    refine JoinP.of fun J1 hJ1 => ?_
    have afterOpen : ∀ (h10 : Heap) (bad' : Bool), LS h0 h10 t x X9 G (openA A token) B9 l1 bad' → (bad' = false ↔ headOK A b0) → J1 h10 := by
      intro h10 bad' L10 hbad'
      subst hJ1
      obtain ⟨p10, c10, xs10, hx1, _⟩ := id L10.ld
      refine ⟨_, cell_at hx1 rfl, ?_⟩
      cases bad' with
      | true =>
        simp only [if_true]
        have hno : ¬ headOK A b0 := fun hh => by have := hbad'.2 hh; cases this
        refine k2 (by rw [loadS, if_neg hno]) h10 X9 _ B9 l1 L10 hll
      | false =>
        simp only [Bool.false_eq_true, if_false]
        have hok := hbad'.1 rfl
        obtain ⟨o1, o2, o3, o4, o5⟩ := id hok
        rw [hHead] at o1 o2 o3 o4 o5
        dsimp only at o1 o2 o3 o4 o5
        have eN : openN A token = (A.length : Int) + 1 := by unfold openN; rw [if_pos o4]
        have eA : openA A token = A ++ [⟨A.length + 1, token, true, false, [], []⟩] := by unfold openA; rw [if_pos o4]
        have hnumA : num = A.length + 1 := by rw [eN] at o5; omega
        have hle8 := ok9.le
        rw [eA] at L10 ok9 hle8
        rw [List.length_append, List.length_singleton] at hle8
        rw [eN]
        -- the session itself
        obtain ⟨lab, LL, TB, hLA, hLB, hS⟩ := id L10.has
        have hLLl : LL.length = A.length + 1 := by
          have := congrArg List.length hLA; rwa [List.length_map, List.length_append, List.length_singleton] at this
        have hsl : LL[A.length]? = some (LL[A.length]'(by omega)) := List.getElem?_eq_getElem _
        generalize LL[A.length]'(by omega) = s at hsl
        have hsabs : s.abs = ⟨A.length + 1, token, true, false, [], []⟩ := by
          have h1 : (LL.map SC.abs)[A.length]? = some s.abs := by rw [List.getElem?_map, hsl]; rfl
          rw [hLA] at h1; simpa using h1.symm
        have hBs : B9[A.length]? = some s.b := by rw [← hLB, List.getElem?_map, hsl]; rfl
        obtain ⟨tp, tc, htb, town, _⟩ := TB.blk
        have SA := TB.ses _ s hsl
        have ew : IntKind.wrap .i64 ((A.length : Int) + 1 - 1) = (A.length : Int) := by rw [wrap_id (by omega) (by omega)]; omega
        rw [ew]
        obtain ⟨ab, aoff, rfl⟩ := town.addr (by omega)
        refine ⟨_, _, _, cell_at htb rfl, ⟨by omega, by omega⟩, onSome_some.2 ⟨some ⟨s.b, 0, none⟩, ?_, onSome_some.2 ?_⟩⟩
        · rw [Int.toNat_natCast, Nat.mul_one]; exact town.cell (by rw [List.getElem?_map, hsl]; rfl)
        refine storeP_blk SA.blk (by simp) fun h11 a1 a2 a3 => onSome_some.2 (storeP_blk a1 (by simp) fun h12 b1 b2 b3 => ?_)
        obtain ⟨X12, H12, s12⟩ := TB.flag (s' := { s with up := up, watch := wa }) hS hsl rfl ⟨rfl, rfl, rfl⟩ ⟨rfl, rfl, rfl⟩ b1 (by omega) (fun y hy => by rw [b3 y hy, a3 y hy])
        have L12 := L10.tab H12 s12
        have eset : (LL.map SC.abs).set A.length ({ s with up := up, watch := wa } : SC).abs = A ++ [⟨A.length + 1, token, up, wa, [], []⟩] := by
          rw [hLA]
          have : ({ s with up := up, watch := wa } : SC).abs = ⟨A.length + 1, token, up, wa, [], []⟩ := by
            have e : ({ s with up := up, watch := wa } : SC).abs = { s.abs with up := up, watch := wa } := rfl
            rw [e, hsabs]
          rw [this]
          simp
        rw [eset, hLB] at L12
        have ok12 : okA (A ++ [⟨A.length + 1, token, up, wa, [], []⟩]) := by
          have o := ok9.at_ A.length ⟨A.length + 1, token, true, false, [], []⟩ (by simp)
          have := ok9.set (i := A.length) (s := ⟨A.length + 1, token, true, false, [], []⟩) (s' := ⟨A.length + 1, token, up, wa, [], []⟩) (by simp) rfl ⟨o.num, o.tk, o.kl, o.nl, o.kd, o.nd, o.ki⟩
          simpa using this
        have hloadS : loadS A (b0 :: l1) = (match keptN l1 kn with
          | none => none
          | some (K, l2) => (match notesN l2 nn with
            | none => none
            | some (N, l3) => some (A ++ [⟨A.length + 1, token, up, wa, K, N⟩], l3))) := by
          rw [loadS, if_pos hok, hHead, hnumA]; rfl
        have gS : ∀ K N, getA (A ++ [(⟨A.length + 1, token, up, wa, K, N⟩ : Ses)]) ((A.length : Int) + 1) = some ⟨A.length + 1, token, up, wa, K, N⟩ := fun K N => by rw [getA_at]; simp
        have setS : ∀ K N K' N', setA (A ++ [(⟨A.length + 1, token, up, wa, K, N⟩ : Ses)]) ((A.length : Int) + 1) ⟨A.length + 1, token, up, wa, K', N'⟩ = A ++ [⟨A.length + 1, token, up, wa, K', N'⟩] := fun K N K' N' => by
          unfold setA
          rw [show ((A.length : Int) + 1 - 1).toNat = A.length by omega]; simp
        clear L10 TB hLA hLB hS hsl hsabs htb town SA H12 s12 L9 H9 s9 a1 a2 a3 b1 b2 b3 eset L8 TB8 hA8 hB8 hS8 hx1 L7 D7 D1 hLLl ok9 eA
        refine ⟨fun i h' => ∃ (j : Nat) (X' : Ft) (A' : List Ses) (ls' : Recs) (bad : Bool), i = (j : Int) ∧ j ≤ kn ∧ LS h0 h' t x X' G A' B9 ls' bad ∧ okA A' ∧ A'.length = A.length + 1 ∧ ls'.length ≤ l1.length ∧
          (bad = false → ∃ K, keptN l1 j = some (K, ls') ∧ A' = A ++ [⟨A.length + 1, token, up, wa, K, []⟩]) ∧ (bad = true → keptN l1 j = none) ∧ (∃ s', A'[A.length]? = some s' ∧ s'.notes = []), fun i _ => kn - i.toNat,
          ⟨0, X12, _, l1, false, rfl, by omega, L12, ok12, by simp, Nat.le_refl _, fun _ => ⟨[], rfl, rfl⟩, (fun e => by cases e), ⟨⟨A.length + 1, token, up, wa, [], []⟩, by simp, rfl⟩⟩, ?_⟩
        clear L12 ok12
        rintro _ h13 ⟨j, X13, A13, ls13, bd, rfl, hj, L13, ok13, hA13, hls13, hgood, hbadk, s13, hs13, hn13⟩
        have le13 := L13.le
        by_cases hjl : j < kn
        · have q1 : (j : Int) < (kn : Int) := by omega
          simp only [q1, decide_true, if_true]
          refine JoinP.of fun J2 hJ2 => ?_
          have hb1 : (ls13.headD []).length ≤ 1099511627776 := by
            cases hl : ls13 with
            | nil => simp
            | cons b r => exact le13 b (by rw [hl]; simp)
          -- what it all comes to
          have fin : ∀ (h' : Heap) (X' : Ft) (A' : List Ses) (bd' : Bool), LS h0 h' t x X' G A' B9 ls13.tail bd' → okA A' → A'.length = A.length + 1 → (∃ s', A'[A.length]? = some s' ∧ s'.notes = []) →
              (bd' = false → bd = false ∧ ls13 ≠ [] ∧ ansE (ls13.headD []) = 0 ∧ keptA A13 ((A.length : Int) + 1) (ansI (ls13.headD [])) = none ∧ keepE A13 ((A.length : Int) + 1) (ansI (ls13.headD [])) (ansD (ls13.headD [])) = 0 ∧ A' = keepA A13 ((A.length : Int) + 1) (ansI (ls13.headD [])) (ansD (ls13.headD []))) →
              (bd' = true → ¬ (bd = false ∧ ls13 ≠ [] ∧ ansE (ls13.headD []) = 0 ∧ keptA A13 ((A.length : Int) + 1) (ansI (ls13.headD [])) = none ∧ keepE A13 ((A.length : Int) + 1) (ansI (ls13.headD [])) (ansD (ls13.headD [])) = 0)) → J2 h' := by
            intro h' X' A' bd' L' ok' hA' hs' hg hb
            subst hJ2
            rw [wrap_id (by omega) (by omega)]
            refine ⟨⟨j + 1, X', A', ls13.tail, bd', by omega, by omega, L', ok', hA', by rw [List.length_tail]; omega, fun e => ?_, fun e => ?_, hs'⟩, ?_⟩
            · obtain ⟨c1, c2, c3, c4, c5, c6⟩ := hg e
              obtain ⟨K, hK1, hK2⟩ := hgood c1
              obtain ⟨b, rest, hbr⟩ := List.exists_cons_of_ne_nil c2
              rw [hbr] at c3 c4 c5 c6 hK1 ⊢
              simp only [List.headD_cons, List.tail_cons] at c3 c4 c5 c6 ⊢
              have hKl := (keptN_len l1 j K _ hK1).2.2
              unfold keptA at c4
              unfold keepE at c5
              unfold keepA at c6
              rw [hK2, gS] at c4 c5 c6
              dsimp only at c4 c5 c6
              have c5' : ¬ (ansI b > 1099511627776 ∨ (ansD b).length > 1000) := fun hh => by rw [if_pos hh] at c5; cases c5
              rw [if_neg c5', setS] at c6
              have hkeep : keepL K (ansI b) (ansD b) = K ++ [(ansI b, ansD b)] := by
                have hf : K.filter (fun a => decide (a.1 ≠ ansI b)) = K := by
                  rw [List.filter_eq_self]
                  intro a ha
                  unfold keptL at c4
                  have c4 := Option.map_eq_none_iff.1 c4
                  have := List.find?_eq_none.1 c4 a ha
                  simpa using this
                unfold keepL
                rw [hf, if_neg (by rw [List.length_append, List.length_singleton]; omega)]
              refine ⟨K ++ [(ansI b, ansD b)], ?_, by rw [c6, hkeep]⟩
              rw [keptN, hK1]
              dsimp only
              rw [if_pos ⟨c3, c4, by omega, by omega⟩]
            · rw [keptN]
              cases hbd : bd with
              | true => rw [hbadk hbd]
              | false =>
                obtain ⟨K, hK1, hK2⟩ := hgood hbd
                rw [hK1]
                cases hl : ls13 with
                | nil => rfl
                | cons b rest =>
                  dsimp only
                  rw [if_neg]
                  rintro ⟨c3, c4, c5, c6⟩
                  have hb := hb e
                  rw [hl] at hb
                  simp only [List.headD_cons] at hb
                  refine hb ⟨hbd, by simp, c3, ?_, ?_⟩
                  · unfold keptA; rw [hK2, gS]; exact c4
                  · unfold keepE; rw [hK2, gS]; dsimp only; rw [if_neg (by omega)]
            · show kn - Int.toNat ((j : Int) + 1) < kn - Int.toNat (j : Int); omega
          clear hJ2
          have hX13 := L13.has.lt
          have z13 := L13.up.fr.1
          have lx13 := L13.lx
          refine next_ok L13 fun h15 r S L15 D15 g15 f15 => ⟨_, rfl, ?_⟩
          have z15 := f15.1
          refine rnum_ok D15 fun h16 D16 f16 => ⟨_, rfl, ?_⟩
          have L16 := L15.rd f16 D15.self g15 lx13 hX13 z13
          have hl16 := readNum_len 0 (ls13.headD [])
          refine rtext_ok D16 (by omega) fun h17 p17 c17 D17 o17 g17 f17 => ⟨_, _, _, rfl, ?_⟩
          have L17 := L16.rd f17 D15.self g15 lx13 hX13 z13
          have e1 : (readNum 0 (ls13.headD [])).1 = ansI (ls13.headD []) := rfl
          have e2 : (readText (readNum 0 (ls13.headD [])).2.1 (readNum 0 (ls13.headD [])).2.2).1 = ansD (ls13.headD []) := rfl
          have e3 : readEnd (readText (readNum 0 (ls13.headD [])).2.1 (readNum 0 (ls13.headD [])).2.2).2.1 (readText (readNum 0 (ls13.headD [])).2.1 (readNum 0 (ls13.headD [])).2.2).2.2 = ansE (ls13.headD []) := rfl
          rw [e1, e2]
          rw [e2] at o17
          have hD1 : (ansD (ls13.headD [])).length ≤ 1099511627776 := by
            have := (readText_len (readNum 0 (ls13.headD [])).2.1 (readNum 0 (ls13.headD [])).2.2).2
            rw [e2] at this; omega
          have hI1 : ansI (ls13.headD []) < 18446744073709551616 := by rw [← e1]; exact readNum_lt _ _
          refine sessions_Answer.new fun b20 h20 eb20 hb20 f20 => ⟨_, cell_at hb20 rfl, ?_⟩
          have L20 := L17.on f20
          have z16 := f16.1
          have z17 := f17.1
          have p17M : ∀ y, inBlk p17 y → h13.size ≤ y := fun y hy => by have := g17 y hy; omega
          -- behind Kept
          have go : ∀ (tw : Bool) (h21 : Heap), (tw = (keptA A13 ((A.length : Int) + 1) (ansI (ls13.headD []))).isSome) → Fr (fun _ => False) h20 h21 → JoinP (fun (h_22 : Heap) => J2 h_22) (fun J_3 =>
                CallsH Try.prog F.fields_Reader_End #[.pointer (some ⟨r, 0, none⟩)] h21 fun v_12 h_23 =>
                ∃ (t102 : Int), v_12 = .int .i64 t102 ∧
                if (t102 == 0) = true then
                  if (!tw) = true then
                    ∃ (t112 : Int), hcell h_23 ⟨b20, 0, none⟩ = some (.int .u64 t112) ∧
                    ∃ (t114_p : Option Addr) (t114_l t114_c : Nat), hcell h_23 ⟨b20, 1, none⟩ = some (.slice t114_p t114_l t114_c) ∧
                    CallsH Try.prog F.sessions_Table_Keep #[.pointer (some ⟨t, 0, none⟩), .int .i64 ((A.length : Int) + 1), .int .u64 t112, .slice t114_p t114_l t114_c] h_23 fun v_13 h_24 =>
                    ∃ (t115 : Int), v_13 = .int .i64 t115 ∧
                    CallsH Try.prog F.sessions_loader_need #[.pointer (some ⟨x, 0, none⟩), .bool (t115 == 0)] h_24 fun v_14 h_25 =>
                    v_14 = .tuple #[] ∧
                    J_3 h_25
                  else
                    CallsH Try.prog F.sessions_loader_need #[.pointer (some ⟨x, 0, none⟩), .bool false] h_23 fun v_15 h_26 =>
                    v_15 = .tuple #[] ∧
                    J_3 h_26
                else
                  CallsH Try.prog F.sessions_loader_need #[.pointer (some ⟨x, 0, none⟩), .bool false] h_23 fun v_16 h_27 =>
                  v_16 = .tuple #[] ∧
                  J_3 h_27) := by
            intro tw h21 htw f21
            refine JoinP.of fun J3 hJ3 => ?_
            subst hJ3
            have L21 := L20.on f21
            refine rend_ok ((D17.frame f20 (fun _ _ => id)).frame f21 (fun _ _ => id)) ⟨_, rfl, ?_⟩
            rw [e3]
            have badNo : ¬ (bd = false ∧ ls13 ≠ [] ∧ ansE (ls13.headD []) = 0 ∧ keptA A13 ((A.length : Int) + 1) (ansI (ls13.headD [])) = none ∧ keepE A13 ((A.length : Int) + 1) (ansI (ls13.headD [])) (ansD (ls13.headD [])) = 0) → CallsH Try.prog F.sessions_loader_need #[.pointer (some ⟨x, 0, none⟩), .bool false] h21 fun v h_27 => v = .tuple #[] ∧ J2 h_27 := by
              intro hno
              refine need_ok L21 fun h26 L26 f26 => ⟨rfl, fin h26 X13 A13 _ L26 ok13 hA13 ⟨s13, hs13, hn13⟩ (fun e => ?_) (fun _ => hno)⟩
              simp at e
            by_cases hE : ansE (ls13.headD []) = 0
            · rw [if_pos (by rw [hE]; rfl)]
              cases htw' : (keptA A13 ((A.length : Int) + 1) (ansI (ls13.headD []))) with
              | some w =>
                rw [htw'] at htw
                rw [htw]
                rw [if_neg (by simp)]
                exact badNo (fun hh => by rw [htw'] at hh; cases hh.2.2.2.1)
              | none =>
                rw [htw'] at htw
                rw [htw]
                rw [if_pos (by rfl)]
                have b21 := f21.get hb20 id
                refine ⟨_, cell_at b21 rfl, _, _, _, cell_at b21 rfl, ?_⟩
                have row21 := ((o17.frame f20 (fun _ _ => id)).frame f21 (fun _ _ => id)).row'
                refine keep_okB (ansI (ls13.headD [])) rfl L21.has ok13 row21 rfl (fun _ y hy hM => by have := p17M y hy; have := hX13 y (.inl hM); omega) fun h24 X24 H24 s24 => ⟨_, rfl, ?_⟩
                have L24 := L21.tab H24 s24
                refine need_ok L24 fun h25 L25 f25 => ⟨rfl, ?_⟩
                have ok25 := ok13.keep ((A.length : Int) + 1) (ansI (ls13.headD [])) (ansD (ls13.headD []))
                refine fin h25 X24 _ _ L25 ok25 ?_ ?_ (fun e => ?_) (fun e => ?_)
                · unfold keepA
                  split
                  · exact hA13
                  · split
                    · exact hA13
                    · unfold setA; rw [List.length_set]; exact hA13
                · unfold keepA
                  have hg : getA A13 ((A.length : Int) + 1) = some s13 := by rw [getA_at]; exact hs13
                  rw [hg]
                  dsimp only
                  split
                  · exact ⟨s13, hs13, hn13⟩
                  · refine ⟨{ s13 with kept := keepL s13.kept (ansI (ls13.headD [])) (ansD (ls13.headD [])) }, ?_, hn13⟩
                    unfold setA
                    rw [show ((A.length : Int) + 1 - 1).toNat = A.length by omega, List.getElem?_set, if_pos rfl, if_pos (by omega)]
                · simp only [Bool.or_eq_false_iff, Bool.not_eq_false', beq_iff_eq] at e
                  obtain ⟨⟨e4, e5⟩, e6⟩ := e
                  exact ⟨e4, (fun hh => by rw [hh] at e5; cases e5), hE, htw', e6, rfl⟩
                · rintro ⟨c1, c2, c3, c4, c5⟩
                  rw [c1, c5] at e
                  have : ls13.isEmpty = false := by
                    cases hl : ls13 with
                    | nil => exact absurd hl c2
                    | cons _ _ => rfl
                  rw [this] at e
                  simp at e
            · rw [if_neg (by simpa using hE)]
              exact badNo (fun hh => hE hh.2.2.1)
          refine kept_ok (ansI (ls13.headD [])) rfl ⟨B9, L20.has⟩ ok13 (fun w hw h21 p21 c21 o21 f21 g21 => ⟨_, _, _, _, rfl, ?_⟩) (fun hw h21 f21 => ⟨_, _, _, _, rfl, ?_⟩)
          · exact go true h21 (by rw [hw]; rfl) f21
          · exact go false h21 (by rw [hw]; rfl) f21
        · have q1 : ¬ (j : Int) < (kn : Int) := by omega
          simp only [q1, decide_false, Bool.false_eq_true, if_false]
          obtain rfl : j = kn := by omega
          refine ⟨fun i h' => ∃ (m : Nat) (X' : Ft) (A' : List Ses) (ls' : Recs) (bad : Bool), i = (m : Int) ∧ m ≤ nn ∧ LS h0 h' t x X' G A' B9 ls' bad ∧ ls'.length ≤ l1.length ∧
            (bad = false → ∃ K l2 N, keptN l1 j = some (K, l2) ∧ notesN l2 m = some (N, ls') ∧ A' = A ++ [⟨A.length + 1, token, up, wa, K, N⟩] ∧ okA A') ∧ (bad = true → loadS A (b0 :: l1) = none) ∧ (∃ s', A'[A.length]? = some s' ∧ s'.notes.length = m), fun i _ => nn - i.toNat,
            ⟨0, X13, A13, ls13, bd, rfl, by omega, L13, hls13, fun e => ?_, fun e => by rw [hloadS, hbadk e], ⟨s13, hs13, by rw [hn13]; rfl⟩⟩, ?_⟩
          · obtain ⟨K, hK1, hK2⟩ := hgood e
            exact ⟨K, ls13, [], hK1, rfl, hK2, ok13⟩
          clear L13 ok13 hgood hbadk hs13 hn13 hls13 hA13 le13
          rintro _ h28 ⟨m, X28, A28, ls28, bd28, rfl, hm, L28, hls28, hgood, hbad, s28, hs28, hn28⟩
          have le28 := L28.le
          by_cases hml : m < nn
          · have q2 : (m : Int) < (nn : Int) := by omega
            simp only [q2, decide_true, if_true]
            have hb1 : (ls28.headD []).length ≤ 1099511627776 := by
              cases hl : ls28 with
              | nil => simp
              | cons b r => exact le28 b (by rw [hl]; simp)
            have hX28 := L28.has.lt
            have z28 := L28.up.fr.1
            have lx28 := L28.lx
            refine next_ok L28 fun h29 r S L29 D29 g29 f29 => ⟨_, rfl, ?_⟩
            refine rtext_ok D29 (by omega) fun h30 p30 c30 D30 o30 g30 f30 => ⟨_, _, _, rfl, ?_⟩
            have L30 := L29.rd f30 D29.self g29 lx28 hX28 z28
            have z29 := f29.1
            have z30 := f30.1
            have htl := (readText_len 0 (ls28.headD [])).2
            refine JoinP.of fun J4 hJ4 => ?_
            -- the note is put behind
            have app : ∀ (h31 : Heap) (bd' : Bool), LS h0 h31 t x X28 G A28 B9 ls28.tail bd' → Fr (fun y => y = x) h30 h31 → (bd' = false ↔ (bd28 = false ∧ ls28 ≠ [] ∧ noteOK (ls28.headD []))) → J4 h31 := by
              intro h31 bd' L31 f31 hbd'
              subst hJ4
              obtain ⟨lab, LL, TB, hLA, hLB, hS⟩ := id L31.has
              have hsl : ∃ s', LL[A.length]? = some s' ∧ s'.b = s.b ∧ s'.abs = s28 := by
                have h1 : (LL.map SC.b)[A.length]? = some s.b := by rw [hLB]; exact hBs
                have h2 : (LL.map SC.abs)[A.length]? = some s28 := by rw [hLA]; exact hs28
                rw [List.getElem?_map] at h1 h2
                cases hq : LL[A.length]? with
                | none => rw [hq] at h1; cases h1
                | some s =>
                  rw [hq] at h1 h2
                  exact ⟨s, rfl, Option.some.inj h1, Option.some.inj h2⟩
              obtain ⟨s', hs', hsb, hsa⟩ := hsl
              have SA := TB.ses _ s' hs'
              have nlen : s'.notes.length = m := by rw [← hn28, ← hsa]; exact (List.length_map _).symm
              rw [← hsb]
              refine onSome_some.2 ⟨_, _, _, cell_at SA.blk rfl, ?_⟩
              refine den_append1 tN uN SA.nown rfl (fun v hv => by simp at hv; subst hv; rfl) (by omega) (by omega) ?_
              intro p33 c33 h33 o33 f33 g33
              refine ⟨_, _, _, rfl, onSome_some.2 ?_⟩
              have nbn : ∀ c, inBlk s'.np c → c ≠ s'.b := fun c hc e => by have h1 := SA.nl c hc; rw [e, SA.lb] at h1; simp at h1
              have k33 := f33.get SA.blk (fun hx => nbn _ hx rfl)
              refine storeP_blk k33 (by simp) fun h34 q1 q2 q3 => ?_
              have f34 : Fr (fun y => y = s'.b) h33 h34 := Fr.of_eq q2 q3
              have z31 := f31.1
              have z33 := f33.1
              have sb31 : s'.b < h31.size := lt_of_get SA.blk
              have nl31 : ∀ c, inBlk s'.np c → c < h31.size := fun c hc => SA.nown.blk_lt hc
              have F34 : Fr (fun y => y = s'.b ∨ inBlk s'.np y) h31 h34 := (f33.mono (fun _ _ hx => .inr hx)).tt (f34.mono (fun _ _ hx => .inl hx))
              have M1 : ∀ y, inBlk s'.np y ∨ y = s'.b → X28.M y := fun y hy => (hS y).2 (hy.elim (fun hy => ⟨_, SA.nl y hy⟩) (fun e => ⟨_, e ▸ SA.lb⟩))
              have p30y : ∀ y, inBlk p30 y → h28.size ≤ y ∧ y < h30.size := fun y hy => ⟨by have := g30 y hy; omega, o30.blk_lt hy⟩
              have p30n : ∀ y, inBlk p30 y → ¬ (y = s'.b ∨ inBlk s'.np y) := fun y hy hx => by
                have := hX28 y (.inl (M1 y hx.symm)); have := p30y y hy; omega
              have p30x : ∀ y, inBlk p30 y → y ≠ x := fun y hy e => by have := p30y y hy; omega
              have o34 : Own h34 p30 (readText 0 (ls28.headD [])).1.length c30 1 (bc (readText 0 (ls28.headD [])).1) := (o30.frame f31 p30x).frame F34 p30n
              have kD : ∀ c, X28.D c → ¬ (c = s'.b ∨ inBlk s'.np c) := fun c hc hx => L31.has.dis c (M1 c hx.symm) hc
              have cat : s'.notes.flatMap nenc ++ [.slice p30 (readText 0 (ls28.headD [])).1.length c30] = (s'.notes ++ [(⟨p30, c30, (readText 0 (ls28.headD [])).1⟩ : BV)]).flatMap nenc := by rw [List.flatMap_append]; simp
              have klen : (s'.notes ++ [(⟨p30, c30, (readText 0 (ls28.headD [])).1⟩ : BV)]).length = s'.notes.length + 1 := by rw [List.length_append]; rfl
              have n33b : ∀ c, inBlk p33 c → c ≠ s'.b := fun c hc e => (g33 c hc).elim (fun hx => nbn c hx e) (fun hx => by omega)
              have lnone : ∀ c, inBlk p30 c → lab c = none := fun c hc => by
                cases hl : lab c with
                | none => rfl
                | some r => have := hX28 c (.inl ((hS c).2 ⟨r, hl⟩)); have := p30y c hc; omega
              obtain ⟨X34, H34, f34', m34, d34, o34'⟩ := TB.notesG (K' := s'.notes ++ [⟨p30, c30, (readText 0 (ls28.headD [])).1⟩]) (np' := p33) (nc' := c33) (E := inBlk p30) hS hs' (by
                show h34[s'.b]? = _
                rw [q1]
                dsimp only
                rw [klen]; rfl)
                (by rw [klen, ← cat]; exact o33.frame f34 (fun c hc e => n33b c hc e)) g33 F34 (fun c hc => ⟨lnone c hc, by have := (p30y c hc).2; have := f34.1; omega, fun hx => (g33 c hx).elim (fun h2 => p30n c hc (.inr h2)) (fun h2 => by have := p30y c hc; omega)⟩)
                (fun n hn => by
                  rcases List.mem_append.1 hn with hn | hn
                  · exact ((SA.nd n hn).frame F34 kD).mono (fun c => .inl)
                  · obtain rfl := List.mem_singleton.1 hn; exact BV.of_own o34 (fun c => .inr))
              have L34 := L31.tabE H34 f34' m34 d34 (fun c hc => ⟨by have := (p30y c hc).1; omega, p30x c hc⟩)
              rw [hLB] at L34
              have eK : (s'.notes ++ [(⟨p30, c30, (readText 0 (ls28.headD [])).1⟩ : BV)]).map BV.b = s28.notes ++ [(readText 0 (ls28.headD [])).1] := by rw [List.map_append, ← hsa]; rfl
              rw [eK, hsa, hLA] at L34
              have hAl : A.length < A28.length := (List.getElem?_eq_some_iff.1 hs28).1
              rw [wrap_id (by omega) (by omega)]
              refine ⟨⟨m + 1, X34, _, ls28.tail, bd', by omega, by omega, L34, by rw [List.length_tail]; omega, fun e => ?_, fun e => ?_, ⟨{ s28 with notes := s28.notes ++ [(readText 0 (ls28.headD [])).1] }, by rw [List.getElem?_set, if_pos rfl, if_pos hAl], by show (s28.notes ++ [_]).length = _; rw [List.length_append, hn28]; rfl⟩⟩, ?_⟩
              · obtain ⟨c1, c2, c3⟩ := hbd'.1 e
                obtain ⟨K, l2, N, hK, hN', hA28, ok28⟩ := hgood c1
                obtain ⟨b, rest, hbr⟩ := List.exists_cons_of_ne_nil c2
                rw [hbr] at hN' c3 ⊢
                simp only [List.headD_cons, List.tail_cons] at c3 ⊢
                have hs28' : s28 = ⟨A.length + 1, token, up, wa, K, N⟩ := by
                  rw [hA28] at hs28; simp at hs28; exact hs28.symm
                have eset : A28.set A.length { s28 with notes := s28.notes ++ [(readText 0 b).1] } = A ++ [⟨A.length + 1, token, up, wa, K, N ++ [(readText 0 b).1]⟩] := by
                  rw [hs28', hA28]; simp
                refine ⟨K, l2, N ++ [(readText 0 b).1], hK, ?_, eset, ?_⟩
                · rw [notesN, hN']
                  dsimp only
                  rw [if_pos c3]
                · have o := ok28.at_ A.length s28 hs28
                  have hnote : 1 ≤ (readText 0 b).1.length ∧ (readText 0 b).1.length ≤ 600 := by have := c3.2; unfold isNoteB at this; simpa using this
                  refine ok28.set hs28 rfl ⟨o.num, o.tk, o.kl, ?_, o.kd, ?_, o.ki⟩
                  · show (s28.notes ++ [_]).length ≤ 6
                    rw [List.length_append, hn28, List.length_singleton]; omega
                  · intro n hn
                    rcases List.mem_append.1 hn with hn | hn
                    · exact o.nd n hn
                    · simp at hn; subst hn; exact hnote
              · have hno : ¬ (bd28 = false ∧ ls28 ≠ [] ∧ noteOK (ls28.headD [])) := fun hh => by have := hbd'.2 hh; rw [e] at this; cases this
                cases hbd : bd28 with
                | true => exact hbad hbd
                | false =>
                  obtain ⟨K, l2, N, hK, hN', hA28, ok28⟩ := hgood hbd
                  rw [hloadS, hK]
                  dsimp only
                  -- the notes end here
                  have hnone : notesN l2 (m + 1) = none := by
                    rw [notesN, hN']
                    cases hl : ls28 with
                    | nil => rfl
                    | cons b rest =>
                      dsimp only
                      rw [if_neg]
                      intro hh
                      exact hno ⟨hbd, by rw [hl]; simp, by rw [hl]; exact hh⟩
                  have hall : ∀ i, notesN l2 (m + 1 + i) = none := by
                    intro i
                    induction i with
                    | zero => exact hnone
                    | succ i ih => rw [show m + 1 + (i + 1) = (m + 1 + i) + 1 by omega, notesN, ih]
                  rw [show nn = m + 1 + (nn - (m + 1)) by omega, hall]
              · show nn - Int.toNat ((m : Int) + 1) < nn - Int.toNat (m : Int); omega
            clear hJ4
            have e3 : readEnd (readText 0 (ls28.headD [])).2.1 (readText 0 (ls28.headD [])).2.2 = readEnd (readText 0 (ls28.headD [])).2.1 (readText 0 (ls28.headD [])).2.2 := rfl
            have hemp : (ls28.isEmpty = false) ↔ ls28 ≠ [] := by cases ls28 <;> simp
            refine rend_ok D30 ⟨_, rfl, ?_⟩
            by_cases hE : readEnd (readText 0 (ls28.headD [])).2.1 (readText 0 (ls28.headD [])).2.2 = 0
            · rw [if_pos (by rw [hE]; rfl)]
              refine isNote_ok rfl ⟨_, rfl, need_ok L30 fun h37 L37 f37 => ⟨rfl, app h37 _ L37 f37 ?_⟩⟩
              unfold noteOK
              simp only [Bool.or_eq_false_iff, Bool.not_eq_false', hemp, hE, true_and, and_assoc]
            · rw [if_neg (by simpa using hE)]
              refine need_ok L30 fun h37 L37 f37 => ⟨rfl, app h37 _ L37 f37 ?_⟩
              simp only [Bool.not_false, Bool.or_true, Bool.true_eq_false, false_iff]
              rintro ⟨_, _, hh, _⟩
              exact hE hh
          · have q2 : ¬ (m : Int) < (nn : Int) := by omega
            simp only [q2, decide_false, Bool.false_eq_true, if_false]
            obtain rfl : m = nn := by omega
            cases bd28 with
            | true => exact k2 (hbad rfl) h28 X28 A28 B9 ls28 L28 (by omega)
            | false =>
              obtain ⟨K, l2, N, hK, hN', hA28, ok28⟩ := hgood rfl
              refine k1 A28 ls28 ?_ h28 X28 B9 L28 ok28 (by omega)
              rw [hloadS, hK]
              dsimp only
              rw [hN', hA28]
    clear hJ1
    by_cases he : openE A token = 0
    · rw [if_pos (by rw [he]; rfl)]
      refine need_ok L9 fun h39 L39 f39 => ⟨rfl, afterOpen h39 _ L39 ?_⟩
      unfold headOK
      rw [hHead]
      dsimp only
      have e1 : ((openN A token == (num : Int)) = true) ↔ openN A token = (num : Int) := beq_iff_eq
      cases bad with
      | true =>
        have : ¬ (readEnd ne nr = 0 ∧ kn ≤ 6 ∧ nn ≤ 6) := fun hh => by have := hbad.2 hh; cases this
        simp only [Bool.true_or, Bool.true_eq_false, false_iff]
        rintro ⟨q1, q2, q3, _⟩
        exact this ⟨q1, q2, q3⟩
      | false =>
        have := hbad.1 rfl
        simp only [Bool.false_or, Bool.not_eq_false', e1]
        exact ⟨fun q => ⟨this.1, this.2.1, this.2.2, he, q⟩, fun q => q.2.2.2.2⟩
    · rw [if_neg (by simpa using he)]
      refine need_ok L9 fun h39 L39 f39 => ⟨rfl, afterOpen h39 _ L39 ?_⟩
      unfold headOK
      rw [hHead]
      dsimp only
      simp only [Bool.not_false, Bool.or_true, Bool.true_eq_false, false_iff]
      rintro ⟨_, _, _, q, _⟩
      exact he q
  clear hJ
  refine rend_ok D7 ⟨_, rfl, ?_⟩
  by_cases he : readEnd ne nr = 0
  · rw [if_pos (by rw [he]; rfl)]
    by_cases hk6 : kn ≤ 6
    · rw [if_pos (by simp; omega)]
      refine need_ok L7 fun h42 L42 f42 => ⟨rfl, afterHead h42 _ L42 ?_⟩
      by_cases hn6 : nn ≤ 6
      · have : decide ((nn : Int) ≤ 6) = true := by simp; omega
        simp [this, he, hk6, hn6]
      · have : decide ((nn : Int) ≤ 6) = false := by simp; omega
        simp [this, hn6]
    · rw [if_neg (by simp; omega)]
      refine need_ok L7 fun h42 L42 f42 => ⟨rfl, afterHead h42 _ L42 ?_⟩
      simp [hk6]
  · rw [if_neg (by simpa using he)]
    refine need_ok L7 fun h42 L42 f42 => ⟨rfl, afterHead h42 _ L42 ?_⟩
    simp [he]

/-- a row of records that is only read -/
structure Rows (h : Heap) (p : Option Addr) (l c : Nat) (xs : List BV) : Prop where
  len : l = xs.length
  row : Row h p (xs.flatMap nenc)
  cap : l ≤ c
  each : ∀ x ∈ xs, Row h x.p (bc x.b)
theorem Rows.on {l c : Nat} {xs : List BV} (H : Rows h p l c xs) (f : Fr (fun _ => False) h h') : Rows h' p l c xs :=
  ⟨H.len, H.row.frame f (fun _ _ => id), H.cap, fun x hx => (H.each x hx).frame f (fun _ _ => id)⟩
theorem load_ok {xs : List BV} {l c : Nat} (H : Rows h p l c xs) (hsz : ∀ b ∈ xs.map BV.b, b.length ≤ 1099511627776)
    (k1 : ∀ A, Reach (xs.map BV.b) A [] → ∀ h' t X, Has h' t X A → okA A → UpF h X h' → R (.tuple #[.pointer (some ⟨t, 0, none⟩), .int .i64 0]) h')
    (k2 : (∃ A ls, Reach (xs.map BV.b) A ls ∧ ls ≠ [] ∧ loadS A ls = none) → ∀ h', Fr (fun _ => False) h h' → R (.tuple #[.pointer none, .int .i64 3]) h') :
    CallsH Try.prog F.sessions_Load #[.slice p l c] h R := by
  obtain ⟨rfl, hr, hc, he⟩ := H
  refine sessions_Load.walk (new_ok fun h1 t X H1 f1 g1 => ⟨_, rfl, newP_of ?_⟩)
  have f2 : Fr (fun _ => False) h (h1.push (.cells #[.slice p xs.length c, .bool false] T.sessions_loader)) := f1.tt (Fr.push _ _)
  obtain ⟨B, H1⟩ := H1
  have z1 := f1.1
  have L2 : LS h (h1.push (.cells #[.slice p xs.length c, .bool false] T.sessions_loader)) t h1.size X (fun y => y < h.size) [] B (xs.map BV.b) false := by
    refine ⟨H1.frame (Fr.push (S := fun _ => False) _ _) (fun _ _ => id), ⟨p, c, xs, push_new, hr.frame f2 (fun _ _ => id), hc, rfl, fun hn y hy => row_lt hr ?_ hy, fun v hv => ⟨(he v hv).frame f2 (fun _ _ => id), fun hn y hy => row_lt (he v hv) ?_ hy⟩⟩, ⟨f2, g1⟩, z1, by rw [Array.size_push]; omega, fun y hy e => by have := H1.lt y hy; omega, fun _ => id, hsz⟩
    · intro e; exact hn (by cases xs with | nil => rfl | cons => simp at e)
    · intro e; exact hn (by cases hb : v.b with | nil => rfl | cons => rw [hb] at e; simp [bc] at e)
  generalize h1.push (.cells #[.slice p xs.length c, .bool false] T.sessions_loader) = h2 at L2 ⊢
  generalize h1.size = x at L2 ⊢
  clear f2 H1 z1 g1 f1
  refine ⟨fun g => ∃ X A B ls bad, LS h g t x X (fun y => y < h.size) A B ls bad ∧ (bad = false → Reach (xs.map BV.b) A ls ∧ okA A) ∧ (bad = true → ∃ A ls, Reach (xs.map BV.b) A ls ∧ ls ≠ [] ∧ loadS A ls = none), ldLen x, ⟨X, [], B, _, false, L2, fun _ => ⟨.start, okA.nil⟩, fun e => by cases e⟩, ?_⟩
  clear L2
  rintro g ⟨X, A, B, ls, bad, L, hg, hb⟩
  obtain ⟨p', c', ys, a1, a2, a3, a4, a5⟩ := id L.ld
  refine JoinP.of fun J hJ => ⟨_, _, _, cell_at a1 rfl, ?_⟩
  have fin : bad = true ∨ ls = [] → J false g := by
    intro hor
    subst hJ
    simp only [Bool.false_eq_true, if_false]
    refine ⟨_, cell_at a1 rfl, ?_⟩
    cases bad with
    | true =>
      simp only [if_true]
      exact k2 (hb rfl) g L.up.fr
    | false =>
      simp only [Bool.false_eq_true, if_false]
      rcases hor with hor | hor
      · cases hor
      · obtain ⟨r, ok⟩ := hg rfl
        rw [hor] at r
        exact k1 A r g t X ⟨B, L.has⟩ ok L.up
  by_cases hl : ls = []
  · have : ¬ ((ys.length : Nat) : Int) > 0 := by
      have := congrArg List.length a4; rw [List.length_map, hl] at this; simp at this; simp [this]
    simp only [this, decide_false, Bool.false_eq_true, if_false]
    exact fin (.inr hl)
  · have : ((ys.length : Nat) : Int) > 0 := by
      have h1 := congrArg List.length a4; rw [List.length_map] at h1
      have := List.length_pos_iff.2 hl; omega
    simp only [this, decide_true, if_true]
    refine ⟨_, cell_at a1 rfl, ?_⟩
    cases bad with
    | true => exact fin (.inl rfl)
    | false =>
      subst hJ
      simp only [Bool.not_false, if_true]
      obtain ⟨r, ok⟩ := hg rfl
      have ml := L.ldLen
      refine session_ok L ok hl (fun A' ls' hs h' X' B' L' ok' hlt => ⟨rfl, ⟨X', A', B', ls', false, L', fun _ => ⟨.step r hs, ok'⟩, fun e => by cases e⟩, by rw [ml, L'.ldLen]; exact hlt⟩) (fun hn h' X' A' B' ls' L' hlt => ⟨rfl, ⟨X', A', B', ls', true, L', (fun e => by cases e), fun _ => ⟨A, ls, r, hl, hn⟩⟩, by rw [ml, L'.ldLen]; exact hlt⟩)
theorem BL.to_rows {h0 : Heap} {l c : Nat} {bs : List (List UInt8)} (H : BL h0 h p l c bs) : ∃ xs, Rows h p l c xs ∧ xs.map BV.b = bs := by
  obtain ⟨xs, e1, e2, e3, e4, e5⟩ := H.rows
  exact ⟨xs, ⟨e1, e2, e4, e5⟩, e3⟩
theorem same_ok {l c m d : Nat} {xs ys : List BV} (H1 : Rows h p l c xs) (H2 : Rows h q m d ys) (hm : l ≤ 1000000000) (hk : R (.bool (decide (xs.map BV.b = ys.map BV.b))) h) : CallsH Try.prog F.law19_Same #[.slice p l c, .slice q m d] h R := by
  obtain ⟨rfl, r1, _, e1⟩ := H1
  obtain ⟨rfl, r2, _, e2⟩ := H2
  refine law19_Same.walk ?_
  unfold law19_Same.vc
  by_cases hl : xs.length = ys.length
  · have : (((xs.length : Nat) : Int) != ((ys.length : Nat) : Int)) = false := by rw [hl]; simp
    rw [this]
    simp only [Bool.false_eq_true, if_false]
    refine ⟨fun i g => g = h ∧ ∃ k : Nat, i = (k : Int) ∧ k ≤ xs.length ∧ (xs.take k).map BV.b = (ys.take k).map BV.b, fun i _ => xs.length - i.toNat, ⟨rfl, 0, rfl, by omega, by simp⟩, ?_⟩
    rintro _ _ ⟨rfl, k, rfl, hk1, hk2⟩
    by_cases hlt : k < xs.length
    · have q1 : (k : Int) < ((xs.length : Nat) : Int) := by omega
      simp only [q1, decide_true, if_true, Int.toNat_natCast]
      have gx : xs[k]? = some xs[k] := List.getElem?_eq_getElem hlt
      have gy : ys[k]? = some (ys[k]'(by omega)) := List.getElem?_eq_getElem _
      generalize xs[k] = x at gx
      generalize ys[k]'(by omega) = y at gy
      obtain ⟨a, rfl⟩ := r1.some (by intro e; cases xs with | nil => simp at hlt | cons => simp at e)
      obtain ⟨b, rfl⟩ := r2.some (by intro e; cases ys with | nil => simp at gy | cons => simp at e)
      have cx := (r1.heldAt nenc_len gx).1
      have cy := (r2.heldAt nenc_len gy).1
      rw [add_zero_addr] at cx cy
      refine ⟨⟨by first | trivial | omega, by first | trivial | omega⟩, onSome_some.2 ⟨_, _, _, cx, _, conv (e1 x (List.mem_of_getElem? gx)) rfl, ⟨by first | trivial | omega, by first | trivial | omega⟩, onSome_some.2 ⟨_, _, _, cy, _, conv (e2 y (List.mem_of_getElem? gy)) rfl, ?_⟩⟩⟩
      rw [str_list, str_list]
      by_cases hxy : x.b = y.b
      · rw [hxy]
        simp only [beq_self_eq_true, Bool.not_true, Bool.false_eq_true, if_false]
        rw [wrap_id (by omega) (by omega)]
        refine ⟨⟨by first | trivial | rfl, k + 1, by omega, by omega, ?_⟩, by show _ - Int.toNat ((k : Int) + 1) < _; omega⟩
        rw [List.take_add_one, List.take_add_one, gx, gy, List.map_append, List.map_append, hk2]
        simp [hxy]
      · have : (x.b == y.b) = false := by simpa using hxy
        simp only [this, Bool.not_false, if_true]
        have hne : xs.map BV.b ≠ ys.map BV.b := fun e => by
          have h1 : (xs.map BV.b)[k]? = (ys.map BV.b)[k]? := by rw [e]
          rw [List.getElem?_map, List.getElem?_map, gx, gy] at h1
          exact hxy (Option.some.inj h1)
        rw [decide_eq_false hne] at hk
        exact hk
    · have q1 : ¬ (k : Int) < ((xs.length : Nat) : Int) := by omega
      simp only [q1, decide_false, Bool.false_eq_true, if_false]
      obtain rfl : k = xs.length := by omega
      rw [List.take_length, hl, List.take_length] at hk2
      rw [decide_eq_true hk2] at hk
      exact hk
  · have : (((xs.length : Nat) : Int) != ((ys.length : Nat) : Int)) = true := by simp; omega
    rw [if_pos this]
    have hne : xs.map BV.b ≠ ys.map BV.b := fun e => hl (by have := congrArg List.length e; simpa using this)
    rw [decide_eq_false hne] at hk
    exact hk
end Ses
end Go.Proofs.Ytlnofnmdiddmkaa
