/-
  What is proved here: what the document's own alarm (package pigeonloftref20) does, in memory. No condition.
-/
import Derived.Test.YtcdmemcmmfgdlaaLaw20m
import Derived.Test.YtcdmemcmmfgdlaaVcB
namespace Go.Proofs.Ytcdmemcmmfgdlaa
open Go.Den Go.Heapq
namespace Ref20
open Alarm (enc enc_len enc_append enc_0 enc_1 enc_take enc_drop enc_one kc kc_len due rest isDue due_split setL may may_iff hd dropK_len)
variable {h : Heap} {x : Nat} {R : Value → Heap → Prop} {S : Nat → Prop} {L : List E}

theorem tR : SlTy Try.prog T.s_ref20_Entry T.ref20_Entry 2 16 (.agg #[.int .i64 0, .int .u64 0]) := ⟨by kernel_rfl, by kernel_rfl, rfl⟩

/-- x holds L, and lies in S -/
def Rf (h : Heap) (x : Nat) (S : Nat → Prop) (L : List E) : Prop :=
  ∃ p cap, h[x]? = some (.cells #[.slice p L.length cap] T.ref20_Alarm (0, 0)) ∧ Own h p L.length cap 2 (enc L) ∧ ¬ inBlk p x ∧ ∀ c, S c ↔ (c = x ∨ inBlk p c)
theorem Rf.lt (A : Rf h x S L) {c : Nat} (hc : S c) : c < h.size := by
  obtain ⟨p, cap, hb, o, ne, hS⟩ := A
  rcases (hS c).1 hc with rfl | hc
  · exact lt_of_get hb
  · exact o.blk_lt hc
theorem Rf.frame {Q : Nat → Prop} {h' : Heap} (A : Rf h x S L) (hf : Fr Q h h') (hn : ∀ c, S c → ¬ Q c) : Rf h' x S L := by
  obtain ⟨p, cap, hb, o, ne, hS⟩ := A
  exact ⟨p, cap, hf.get hb (hn x ((hS x).2 (.inl rfl))), o.frame hf fun c hc => hn c ((hS c).2 (.inr hc)), ne, hS⟩
theorem own_c0 {ad : Addr} {l cap : Nat} (o : Own h (.some ad) l cap 2 (enc L)) {i : Nat} (hi : i < L.length) : hcell h (ad.add (i * 2)) = .some (.int .i64 (at_ L i).1) := o.cell (enc_0 hi)
theorem own_c1 {ad : Addr} {l cap : Nat} (o : Own h (.some ad) l cap 2 (enc L)) {i : Nat} (hi : i < L.length) : hcell h ((ad.add (i * 2)).add 1) = .some (.int .u64 (at_ L i).2) := by
  rw [add_add]; exact o.cell (enc_1 hi)
theorem own_some {p : Option Addr} {l cap : Nat} (o : Own h p l cap 2 (enc L)) (hn : 0 < L.length) : ∃ ad, p = some ad := by
  obtain ⟨b, off, hp⟩ := o.some (by rw [enc_len]; omega)
  exact ⟨_, hp⟩

theorem find_ok (A : Rf h x S L) (hn : L.length < 1000000) (key : Int)
    (k1 : ∀ j : Nat, j < L.length → (at_ L j).1 = key → R (.int .i64 (j : Int)) h) (k2 : key ∉ keys L → R (.int .i64 (-1)) h) :
    CallsH Try.prog F.ref20_Alarm_Find #[.pointer (some ⟨x, 0, none⟩), .int .i64 key] h R := by
  obtain ⟨p, cap, hb, o, ne, hS⟩ := A
  refine ref20_Alarm_Find.walk ⟨fun i h' => ∃ j : Nat, i = j ∧ j ≤ L.length ∧ (∀ i, i < j → (at_ L i).1 ≠ key) ∧ h' = h, fun i _ => L.length - i.toNat, ⟨0, rfl, by omega, fun i hi => by omega, rfl⟩, ?_⟩
  rintro _ h ⟨j, rfl, hj, hall, rfl⟩
  refine ⟨_, _, _, cell_at hb rfl, ?_⟩
  by_cases hjl : j < L.length
  · have hjl' : (j : Int) < (L.length : Int) := by omega
    simp only [hjl', decide_true, if_true, Int.toNat_natCast]
    obtain ⟨ad, rfl⟩ := own_some o (by omega)
    refine ⟨_, _, _, cell_at hb rfl, ⟨by omega, by omega⟩, onSome_some.2 ⟨_, own_c0 o hjl, ?_⟩⟩
    by_cases e : (at_ L j).1 = key
    · simp only [e, beq_self_eq_true, if_true]
      exact k1 j hjl e
    · simp only [beq_eq_false_iff_ne.2 e, Bool.false_eq_true, if_false]
      rw [wrap_id (by omega) (by omega)]
      refine ⟨⟨j + 1, by omega, by omega, fun i hi => ?_, by trivial⟩, by show L.length - Int.toNat ((j : Int) + 1) < L.length - Int.toNat (j : Int); omega⟩
      by_cases e2 : i = j
      · subst e2; exact e
      · exact hall i (by omega)
  · simp only [show ¬ (j : Int) < (L.length : Int) by omega, decide_false, Bool.false_eq_true, if_false]
    refine k2 fun hm => ?_
    obtain ⟨i, hi, e⟩ := mem_keys hm
    exact hall i (by omega) e

theorem drop_split {j : Nat} (hj : j < L.length) (nd : (keys L).Nodup) : L.take j ++ L.drop (j + 1) = dropK L (at_ L j).1 := by
  have e1 : L = L.take j ++ at_ L j :: L.drop (j + 1) := by rw [at_get hj, ← List.drop_eq_getElem_cons hj, List.take_append_drop]
  have nd' : (keys (L.take j ++ at_ L j :: L.drop (j + 1))).Nodup := by rw [← e1]; exact nd
  have hk : (at_ L j).1 ∉ keys (L.take j) ∧ (at_ L j).1 ∉ keys (L.drop (j + 1)) := by
    have pm : (keys (L.take j ++ at_ L j :: L.drop (j + 1))).Perm ((at_ L j).1 :: keys (L.take j ++ L.drop (j + 1))) := keys_perm List.perm_middle
    have := (List.nodup_cons.1 (pm.nodup_iff.1 nd')).1
    unfold keys at this ⊢
    rw [List.map_append, List.mem_append, not_or] at this
    exact this
  have e2 : dropK (L.take j ++ at_ L j :: L.drop (j + 1)) (at_ L j).1 = L.take j ++ L.drop (j + 1) := by
    have h1 := dropK_none hk.1
    have h2 := dropK_none hk.2
    unfold dropK at h1 h2 ⊢
    rw [List.filter_append, List.filter_cons, h1, h2]
    simp
  rw [← e1] at e2
  exact e2.symm

theorem drop_ok (A : Rf h x S L) (hn : L.length < 1000000) (nd : (keys L).Nodup) (key : Int)
    (k1 : key ∈ keys L → ∀ h' S', Rf h' x S' (dropK L key) → (∀ c, S' c → S c ∨ h.size ≤ c) → Fr S h h' → R (.int .i64 0) h')
    (k2 : key ∉ keys L → R (.int .i64 4) h) : CallsH Try.prog F.ref20_Alarm_Drop #[.pointer (some ⟨x, 0, none⟩), .int .i64 key] h R := by
  refine ref20_Alarm_Drop.walk (find_ok A hn key (fun j hj he => ⟨_, rfl, ?_⟩) (fun hm => ⟨_, rfl, ?_⟩))
  · subst he
    have k1 := k1 (List.mem_map_of_mem (at_mem hj))
    simp only [show ¬ (j : Int) < 0 by omega, decide_false, Bool.false_eq_true, if_false, Int.toNat_natCast, Nat.sub_zero]
    obtain ⟨p, cap, hb, o, ne, hS⟩ := A
    have hle := o.le
    refine ⟨_, _, _, cell_at hb rfl, ⟨by omega, by omega⟩, ?_⟩
    have r1 := (o.sub (l := 0) (u := j) (by omega) (by omega)).row'
    rw [Nat.zero_mul, List.drop_zero, enc_take] at r1
    refine den_append tR (eT := T.ref20_Entry) (by kernel_rfl) (Own.nil (h := h) (p := none) (len := 0) (cap := 0) (sz := 2) (cs := []) rfl rfl rfl rfl) r1 (by rw [enc_len, List.length_take]; omega) (enc_one _) (by omega) (by omega) fun p1 c1 h1 o1 _ f1 g1 => ⟨_, _, _, rfl, ?_⟩
    have f1' : Fr (fun _ => False) h h1 := f1.mono fun c _ hc => by obtain ⟨_, e, _⟩ := hc; cases e
    have g1' : ∀ c, inBlk p1 c → h.size ≤ c := fun c hc => by
      rcases g1 c hc with ⟨_, e, _⟩ | hx
      · cases e
      · exact hx
    have hb1 := f1'.get hb id
    have ow1 := o.frame f1' fun _ _ => id
    rw [show IntKind.wrap .i64 ((j : Int) + 1) = ((j + 1 : Nat) : Int) by rw [wrap_id (by omega) (by omega)]; omega]
    simp only [Int.toNat_natCast]
    refine ⟨_, _, _, cell_at hb1 rfl, ⟨by omega, by omega⟩, ?_⟩
    have r2 := (ow1.sub (l := j + 1) (u := L.length) (by omega) (by omega)).row'
    rw [← enc_len, List.take_length, enc_drop] at r2
    refine den_append tR (eT := T.ref20_Entry) (by kernel_rfl) o1 r2 (by rw [enc_len, List.length_drop]) (enc_one _) (by omega) (by omega) fun p2 c2 h2 o2 _ f2 g2 => ⟨_, _, _, rfl, ?_⟩
    have f2' : Fr (fun c => h.size ≤ c) h1 h2 := f2.mono fun c _ hc => g1' c hc
    have xl := lt_of_get hb
    have hb2 := f2'.get hb1 (by omega)
    have g2' : ∀ c, inBlk p2 c → h.size ≤ c := fun c hc => by
      rcases g2 c hc with hx | hx
      · exact g1' c hx
      · have := f1'.1; omega
    have ne2 : ¬ inBlk p2 x := fun hc => by have := g2' x hc; omega
    refine storeP_blk hb2 (by simp) fun h3 c3 s3 k3 => ?_
    have f3 : Fr (fun c => c = x) h2 h3 := Fr.of_eq s3 k3
    have o3 := o2.frame f3 fun c hc e => ne2 (e ▸ hc)
    rw [List.nil_append, ← enc_append, drop_split hj nd] at o3
    have e3 : 0 + j + (L.length - (j + 1)) = (dropK L (at_ L j).1).length := by
      rw [← drop_split hj nd, List.length_append, List.length_take, List.length_drop]; omega
    rw [e3] at o3 c3
    refine k1 h3 (fun c => c = x ∨ inBlk p2 c) ⟨p2, c2, c3, o3, ne2, fun _ => Iff.rfl⟩ ?_ ?_
    · rintro c (rfl | hc)
      · exact .inl ((hS _).2 (.inl rfl))
      · exact .inr (g2' c hc)
    · have a1 : Fr (fun c => h.size ≤ c) h h2 := Fr.no f1' f2'
      exact a1.trans f3 (fun c hc hx => by omega) (fun c _ e => (hS c).2 (.inl e))
  · simp only [show (-1 : Int) < 0 by omega, decide_true, if_true]
    exact k2 hm

theorem drop_any (A : Rf h x S L) (hn : L.length < 1000000) (nd : (keys L).Nodup) (key : Int)
    (k : ∀ h' S' e, Rf h' x S' (dropK L key) → (∀ c, S' c → S c ∨ h.size ≤ c) → Fr S h h' → R (.int .i64 e) h') : CallsH Try.prog F.ref20_Alarm_Drop #[.pointer (some ⟨x, 0, none⟩), .int .i64 key] h R :=
  drop_ok A hn nd key (fun _ h1 S1 A1 g1 f1 => k h1 S1 0 A1 g1 f1) (fun hm => k h S 4 (by rw [dropK_none hm]; exact A) (fun c hc => .inl hc) (Fr.refl _ _))

theorem ins_split {D U : List E} {y : E} (hd : ∀ e ∈ D, lt e y) (hu : ∀ e ∈ U, ¬ lt e y) : insertS (D ++ U) y = D ++ y :: U := by
  unfold insertS
  rw [List.filter_append, List.filter_append]
  have a1 : D.filter (fun e => decide (lt e y)) = D := List.filter_eq_self.2 fun e he => decide_eq_true (hd e he)
  have a2 : U.filter (fun e => decide (lt e y)) = [] := List.filter_eq_nil_iff.2 fun e he => by simp [hu e he]
  have a3 : D.filter (fun e => !decide (lt e y)) = [] := List.filter_eq_nil_iff.2 fun e he => by simp [hd e he]
  have a4 : U.filter (fun e => !decide (lt e y)) = U := List.filter_eq_self.2 fun e he => by simp [hu e he]
  rw [a1, a2, a3, a4]; simp

def setI (h0 : Heap) (L : List E) (y : E) (n0 : Nat) (lp : Option Addr) (ll lc : Nat) (i : Int) (h : Heap) : Prop :=
  ∃ k : Nat, i = k ∧ k ≤ L.length ∧ (∀ e ∈ L.take k, lt e y) ∧ ll = k ∧ Own h lp k lc 2 (enc (L.take k)) ∧ (∀ c, inBlk lp c → n0 ≤ c) ∧ Fr (fun c => n0 ≤ c) h0 h

theorem set_ok (A : Rf h x S L) (hn : L.length < 999999) (nd : (keys L).Nodup) (so : Sorted L) (key t : Int)
    (k1 : may key t = true → ∀ h' S', Rf h' x S' (setL L key t) → (∀ c, S' c → S c ∨ h.size ≤ c) → Fr S h h' → R (.int .i64 0) h')
    (k2 : may key t = false → R (.int .i64 1) h) : CallsH Try.prog F.ref20_Alarm_Set #[.pointer (some ⟨x, 0, none⟩), .int .i64 key, .int .u64 t] h R := by
  refine ref20_Alarm_Set.walk (JoinP.of fun J hJ => ?_)
  have no : may key t = false → J true h := fun hm => by subst hJ; exact k2 hm
  by_cases h1 : key < 1
  · simp only [h1, decide_true, if_true]
    exact no (by simp [may, show ¬ 1 ≤ key by omega])
  simp only [h1, decide_false, Bool.false_eq_true, if_false]
  by_cases h2 : key > 1099511627776
  · simp only [h2, decide_true, if_true]
    exact no (by simp [may, show ¬ key ≤ 1099511627776 by omega])
  simp only [h2, decide_false, Bool.false_eq_true, if_false]
  by_cases h3 : t > 1099511627776
  · simp only [h3, decide_true]
    exact no (by simp [may, show ¬ t ≤ 1099511627776 by omega])
  simp only [h3, decide_false]
  clear no k2
  have k1 := k1 (may_iff.2 ⟨by omega, by omega, by omega⟩)
  subst hJ
  simp only [Bool.false_eq_true, if_false]
  refine drop_any A (by omega) nd key fun h1 S1 e A1 gS1 f1 => ?_
  refine ⟨e, rfl, ?_⟩
  have so1 := so.drop key
  have dl := dropK_len L key
  unfold setL at k1
  generalize dropK L key = L1 at A1 so1 k1 dl
  obtain ⟨p, cap, hb, o, ne, hS⟩ := A1
  have xl := lt_of_get hb
  refine ⟨setI h1 L1 (key, t) h1.size, fun _ _ _ i _ => L1.length - i.toNat, ⟨0, rfl, by omega, (fun e he => by simp at he), rfl, .nil rfl rfl rfl rfl, (fun c ⟨_, e, _⟩ => by cases e), Fr.refl _ _⟩, ?_⟩
  rintro lp ll lc _ h2 ⟨k, rfl, hk, hall, rfl, ol, gl, f2⟩
  have hb2 := f2.get hb (by omega)
  have o2 := o.frame f2 fun c hc => by have := o.blk_lt hc; omega
  refine JoinP.of fun J hJ => ⟨_, _, _, cell_at hb2 rfl, ?_⟩
  have stop : (∀ e ∈ L1.drop ll, ¬ lt e (key, t)) → J false h2 := by
    intro hu
    subst hJ
    simp only [Bool.false_eq_true, if_false]
    rintro b h3 rfl rfl
    have fp : Fr (fun _ => False) h2 (h2.push (.cells #[.int .i64 key, .int .u64 t] T.ref20_Entry)) := Fr.push _ _
    have sz := fp.1
    have row : Row (h2.push (.cells #[.int .i64 key, .int .u64 t] T.ref20_Entry)) (some ⟨h2.size, 0, none⟩) (enc [(key, t)]) := .inr ⟨_, rfl, heldL_blk push_new fun j v hj => by rw [Nat.zero_add]; simpa [enc] using hj⟩
    have hs2 := f2.1
    refine den_append tR (eT := T.ref20_Entry) (by kernel_rfl) (ol.frame fp fun _ _ => id) row rfl (enc_one _) (by omega) (by omega) fun p4 c4 h4 o4 _ f4 g4 => ⟨_, _, _, rfl, ?_⟩
    have g4' : ∀ c, inBlk p4 c → h1.size ≤ c := fun c hc => by
      rcases g4 c hc with hx | hx
      · exact gl c hx
      · omega
    have f4' : Fr (fun c => h1.size ≤ c) h2 h4 := Fr.no fp (f4.mono fun c _ hc => gl c hc)
    have hb4 := f4'.get hb2 (by omega)
    have ow4 := o2.frame f4' fun c hc => by have := o.blk_lt hc; omega
    simp only [Int.toNat_natCast]
    refine ⟨_, _, _, cell_at hb4 rfl, ⟨by omega, by omega⟩, ?_⟩
    have r2 := (ow4.sub (l := ll) (u := L1.length) (by omega) (by omega)).row'
    rw [← enc_len, List.take_length, enc_drop] at r2
    refine den_append tR (eT := T.ref20_Entry) (by kernel_rfl) o4 r2 (by rw [enc_len, List.length_drop]) (enc_one _) (by omega) (by omega) fun p5 c5 h5 o5 _ f5 g5 => ⟨_, _, _, rfl, ?_⟩
    have g5' : ∀ c, inBlk p5 c → h1.size ≤ c := fun c hc => by
      rcases g5 c hc with hx | hx
      · exact g4' c hx
      · have := f4'.1; omega
    have f5' : Fr (fun c => h1.size ≤ c) h4 h5 := f5.mono fun c _ hc => g4' c hc
    have hb5 := f5'.get hb4 (by omega)
    have ne5 : ¬ inBlk p5 x := fun hc => by have := g5' x hc; omega
    refine storeP_blk hb5 (by simp) fun h6 c6 s6 k6 => ?_
    have f6 : Fr (fun c => c = x) h5 h6 := Fr.of_eq s6 k6
    have o6 := o5.frame f6 fun c hc e => ne5 (e ▸ hc)
    have ei : insertS L1 (key, t) = L1.take ll ++ [(key, t)] ++ L1.drop ll := by
      have := ins_split hall hu
      rw [List.take_append_drop] at this
      rw [this]; simp
    rw [← enc_append, ← enc_append, ← ei] at o6
    have e6 : ll + 1 + (L1.length - ll) = (insertS L1 (key, t)).length := by
      rw [(insertS_perm _ _).length_eq, List.length_cons]; omega
    rw [e6] at o6 c6
    refine k1 h6 (fun c => c = x ∨ inBlk p5 c) ⟨p5, c5, c6, o6, ne5, fun _ => Iff.rfl⟩ ?_ ?_
    · rintro c (rfl | hc)
      · exact gS1 c ((hS c).2 (.inl rfl))
      · have := g5' c hc; have := f1.1; exact .inr (by omega)
    · have a1 : Fr (fun c => h1.size ≤ c) h1 h5 := Fr.tt (Fr.tt f2 f4') f5'
      have hSx : x < h.size → S x := fun hx => by
        rcases gS1 x ((hS x).2 (.inl rfl)) with hy | hy
        · exact hy
        · omega
      have := f1.1
      exact (f1.trans a1 (fun _ _ => id) (fun c hc hx => by omega)).trans f6 (fun _ _ => id) (fun c hc e => by subst e; exact hSx hc)
  by_cases hkl : ll < L1.length
  · have hkl' : (ll : Int) < (L1.length : Int) := by omega
    simp only [hkl', decide_true, if_true, Int.toNat_natCast]
    obtain ⟨ad, rfl⟩ := own_some o (by omega)
    have dropc : L1.drop ll = at_ L1 ll :: L1.drop (ll + 1) := by rw [at_get hkl]; exact List.drop_eq_getElem_cons hkl
    have stop' : ¬ lt (at_ L1 ll) (key, t) → J false h2 := fun hno => stop fun e he => by
      rw [dropc] at he
      rcases List.mem_cons.1 he with rfl | he
      · exact hno
      · intro hlt
        have s1 : Sorted (L1.drop ll) := List.Pairwise.sublist (List.drop_sublist _ _) so1
        rw [dropc] at s1
        exact hno (lt_trans ((List.pairwise_cons.1 s1).1 e he) hlt)
    have go : lt (at_ L1 ll) (key, t) → J true h2 := by
      intro hlt
      clear stop stop'
      subst hJ
      simp only [if_true, Int.toNat_natCast]
      refine ⟨_, _, _, cell_at hb2 rfl, ⟨by omega, by omega⟩, onSome_some.2 ⟨_, own_c0 o2 hkl, _, own_c1 o2 hkl, ?_⟩⟩
      rintro b h3 rfl rfl
      have fp : Fr (fun _ => False) h2 (h2.push (.cells #[.int .i64 (at_ L1 ll).1, .int .u64 (at_ L1 ll).2] T.ref20_Entry)) := Fr.push _ _
      have sz := fp.1
      have row : Row (h2.push (.cells #[.int .i64 (at_ L1 ll).1, .int .u64 (at_ L1 ll).2] T.ref20_Entry)) (some ⟨h2.size, 0, none⟩) (enc [at_ L1 ll]) := .inr ⟨_, rfl, heldL_blk push_new fun j v hj => by rw [Nat.zero_add]; simpa [enc] using hj⟩
      have hs2 := f2.1
      refine den_append tR (eT := T.ref20_Entry) (by kernel_rfl) (ol.frame fp fun _ _ => id) row rfl (enc_one _) (by omega) (by omega) fun p4 c4 h4 o4 _ f4 g4 => ⟨_, _, _, rfl, ?_⟩
      have et : L1.take (ll + 1) = L1.take ll ++ [at_ L1 ll] := by rw [at_get hkl]; exact (List.take_append_getElem hkl).symm
      rw [wrap_id (by omega) (by omega)]
      refine ⟨⟨ll + 1, by omega, by omega, ?_, rfl, ?_, ?_, ?_⟩, ?_⟩
      · rw [et]
        intro e he
        rcases List.mem_append.1 he with he | he
        · exact hall e he
        · simp at he; subst he; exact hlt
      · rw [et, enc_append]; exact o4
      · intro c hc
        rcases g4 c hc with hx | hx
        · exact gl c hx
        · omega
      · exact Fr.tt f2 (Fr.no fp (f4.mono fun c _ hc => gl c hc))
      · show L1.length - Int.toNat ((ll : Int) + 1) < L1.length - Int.toNat (ll : Int); omega
    refine ⟨_, _, _, cell_at hb2 rfl, ⟨by omega, by omega⟩, onSome_some.2 ⟨_, own_c1 o2 hkl, ?_⟩⟩
    by_cases hlt : (at_ L1 ll).2 < t
    · simp only [hlt, decide_true, if_true]
      exact go (.inl hlt)
    · simp only [hlt, decide_false, Bool.false_eq_true, if_false]
      refine ⟨_, _, _, cell_at hb2 rfl, ⟨by omega, by omega⟩, onSome_some.2 ⟨_, own_c1 o2 hkl, ?_⟩⟩
      by_cases heq : (at_ L1 ll).2 = t
      · have heq' : ((at_ L1 ll).2 == t) = true := by simp [heq]
        simp only [heq', if_true]
        refine ⟨_, _, _, cell_at hb2 rfl, ⟨by omega, by omega⟩, onSome_some.2 ⟨_, own_c0 o2 hkl, ?_⟩⟩
        by_cases hk2 : (at_ L1 ll).1 < key
        · simp only [hk2, decide_true]
          exact go (.inr ⟨heq, hk2⟩)
        · simp only [hk2, decide_false]
          exact stop' (by unfold lt; simp only; omega)
      · simp only [beq_eq_false_iff_ne.2 heq, Bool.false_eq_true, if_false]
        exact stop' (by unfold lt; simp only; omega)
  · simp only [show ¬ (ll : Int) < (L1.length : Int) by omega, decide_false, Bool.false_eq_true, if_false]
    exact stop fun e he => by rw [List.drop_of_length_le (by omega)] at he; cases he

def ringI (h0 : Heap) (x : Nat) (S : Nat → Prop) (L : List E) (now : Int) (out : Option Addr) (l c : Nat) (h : Heap) : Prop :=
  ∃ D U S', L = D ++ U ∧ (∀ e ∈ D, isDue now e = true) ∧ Rf h x S' U ∧ (∀ c, S' c → S c) ∧ l = D.length ∧ Own h out l c 1 (kc D) ∧ (∀ x, inBlk out x → h0.size ≤ x) ∧ Fr S h0 h

theorem ring_ok (A : Rf h x S L) (hn : L.length < 999999) (now : Int)
    (hk : ∀ h' p' cap' S', Rf h' x S' (rest L now) → (∀ c, S' c → S c) → Own h' p' (Alarm.due L now).length cap' 1 (kc (Alarm.due L now)) → (∀ c, inBlk p' c → h.size ≤ c) → Fr S h h' → R (.slice p' (Alarm.due L now).length cap') h') :
    CallsH Try.prog F.ref20_Alarm_Ring #[.pointer (some ⟨x, 0, none⟩), .int .u64 now] h R := by
  refine ref20_Alarm_Ring.walk ⟨ringI h x S L now, fun _ l _ _ => L.length - l, ⟨[], L, S, rfl, (fun _ he => by cases he), A, fun _ => id, rfl, .nil rfl rfl rfl rfl, (fun c ⟨_, e, _⟩ => by cases e), Fr.refl _ _⟩, ?_⟩
  rintro out l c h2 ⟨D, U, S2, eL, hD, A2, hS2, rfl, o2, ob, f2⟩
  have A2' := A2
  obtain ⟨p, cap, hb, o, ne, hS⟩ := A2
  refine JoinP.of fun J hJ => ⟨_, _, _, cell_at hb rfl, ?_⟩
  have stop : (∀ e r, U = e :: r → isDue now e = false) → J false h2 := fun ht => by
    subst hJ
    simp only [Bool.false_eq_true, if_false]
    obtain ⟨e1, e2⟩ := due_split hD ht
    rw [← eL] at e1 e2
    rw [← e1]
    rw [← e1] at o2
    exact hk h2 out c S2 (by rw [e2]; exact A2') hS2 o2 ob f2
  cases U with
  | nil => exact stop (fun e r x => by cases x)
  | cons e U =>
    have hp : (((e :: U).length : Nat) : Int) > 0 := by simp only [List.length_cons]; omega
    simp only [hp, decide_true, if_true]
    obtain ⟨ad, rfl⟩ := own_some o (by simp)
    have c0 := own_c0 o (i := 0) (by simp)
    have c1 := own_c1 o (i := 0) (by simp)
    rw [show at_ (e :: U) 0 = e from rfl] at c0 c1
    refine ⟨_, _, _, cell_at hb rfl, ⟨by omega, by omega⟩, onSome_some.2 ⟨_, c1, ?_⟩⟩
    by_cases hdue : e.2 ≤ now
    · simp only [hdue, decide_true]
      clear stop
      subst hJ
      simp only [if_true]
      refine ⟨_, _, _, cell_at hb rfl, ⟨by omega, by omega⟩, onSome_some.2 ⟨_, c0, ?_⟩⟩
      rintro b h4 rfl rfl
      have hlen : L.length = D.length + (U.length + 1) := by rw [eL]; simp
      have fp : Fr (fun _ => False) h2 (h2.push (.cells #[.int .i64 e.1] T.int)) := Fr.push _ _
      have row : Row (h2.push (.cells #[.int .i64 e.1] T.int)) (some ⟨h2.size, 0, none⟩) (kc [e]) := .inr ⟨_, rfl, heldL_blk push_new fun j v hj => by rw [Nat.zero_add]; simpa [kc, keys] using hj⟩
      have sz := fp.1
      refine den_append Alarm.tI (eT := T.int) (by kernel_rfl) (o2.frame fp fun _ _ => id) row rfl (fun v hv => by simp [kc, keys] at hv; subst hv; rfl) (by omega) (by omega) fun p' cap' h5 o5 _ f5 gr => ⟨_, _, _, rfl, ?_⟩
      have ekc : kc D ++ kc [e] = kc (D ++ [e]) := by simp [kc, keys]
      rw [ekc] at o5
      have hSlt : ∀ {c}, S c → c < h.size := fun hc => A.lt hc
      have f45 : Fr (fun c => h.size ≤ c) h2 h5 := Fr.no fp (f5.mono fun c _ hc => ob c hc)
      have A5 := A2'.frame f45 (fun c hc hx => by have := hSlt (hS2 c hc); omega)
      have ob5 : ∀ c, inBlk p' c → h.size ≤ c := fun c hc => by
        rcases gr c hc with hx | hx
        · exact ob c hx
        · have := f2.1; omega
      have hxS : S x := hS2 x ((hS x).2 (.inl rfl))
      have xl := hSlt hxS
      have hb5 := f45.get hb (by omega)
      have o5' := o.frame f45 fun c hc hx => by have := hSlt (hS2 c ((hS c).2 (.inr hc))); omega
      refine ⟨_, _, _, cell_at hb5 rfl, ⟨by omega, by omega⟩, ?_⟩
      refine storeP_blk hb5 (by simp) fun h6 c6 s6 k6 => ?_
      have f6 : Fr (fun c => c = x) h5 h6 := Fr.of_eq s6 k6
      have osub := (o5'.frame f6 fun c hc e => ne (e ▸ hc)).sub (l := 1) (u := (e :: U).length) (by simp) (by omega)
      rw [← enc_len, List.take_length, enc_drop] at osub
      refine ⟨⟨D ++ [e], U, fun c => c = x ∨ inBlk (slBase (some ad) cap 1 2) c, by rw [eL]; simp, ?_, ⟨_, cap - 1, c6, osub, fun hc => ne (inBlk_sub hc), fun _ => Iff.rfl⟩, ?_, by simp, ?_, ob5, ?_⟩, ?_⟩
      · intro y hy
        rcases List.mem_append.1 hy with hy | hy
        · exact hD y hy
        · simp at hy; subst hy; exact decide_eq_true hdue
      · rintro c (rfl | hc)
        · exact hxS
        · exact hS2 c ((hS c).2 (.inr (inBlk_sub hc)))
      · exact o5.frame f6 fun c hc e => by have := ob5 c hc; omega
      · exact (f2.trans f45 (fun _ _ => id) (fun c hc hx => by omega)).trans f6 (fun _ _ => id) (fun c _ e => by subst e; exact hxS)
      · show L.length - (D.length + 1) < L.length - D.length
        omega
    · simp only [hdue, decide_false]
      exact stop fun e' r x => by cases x; exact decide_eq_false hdue
end Ref20
end Go.Proofs.Ytcdmemcmmfgdlaa
