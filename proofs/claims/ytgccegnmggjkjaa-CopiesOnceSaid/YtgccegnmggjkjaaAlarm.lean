/-
  What is proved here: what the functions of package alarm do to an alarm in memory: it holds a list of entries in the order in which they are due. No condition.
-/
import Derived.Test.YtgccegnmggjkjaaUp
import Derived.Test.YtgccegnmggjkjaaHeapr
set_option maxRecDepth 100000
namespace Go.Proofs.Ytgccegnmggjkjaa
open Go.Den Go.Heapq
namespace Alarm
variable {h : Heap} {a m cap : Nat} {p : Option Addr} {es : List E} {g : Int → Option Value} {R : Value → Heap → Prop} {S : Nat → Prop} {L : List E}

theorem tE : SlTy Try.prog T.s_alarm_entry T.alarm_entry 2 16 (.agg #[.int .i64 0, .int .u64 0]) := ⟨by kernel_rfl, by kernel_rfl, rfl⟩
theorem tI : SlTy Try.prog T.s_int T.int 1 8 (.int .i64 0) := ⟨by kernel_rfl, by kernel_rfl, rfl⟩

def Good (L : List E) : Prop := ∀ e ∈ L, 1 ≤ e.1 ∧ e.1 ≤ 1099511627776 ∧ 0 ≤ e.2 ∧ e.2 ≤ 1099511627776
/-- a is an alarm that lies in S and holds L -/
def Al (h : Heap) (a : Nat) (S : Nat → Prop) (L : List E) : Prop :=
  ∃ p cap m es g, Mem h a p cap m es g ∧ PlaceOk es g ∧ HeapO (at_ es) es.length ∧ es.Perm L ∧ Sorted L ∧ Good L ∧ ∀ c, S c ↔ foot a p m c
theorem Al.lt (A : Al h a S L) {c : Nat} (hc : S c) : c < h.size := by
  obtain ⟨p, cap, m, es, g, M, _, _, _, _, _, hS⟩ := A
  exact M.lt ((hS c).1 hc)
theorem Al.frame {Q : Nat → Prop} {h' : Heap} (A : Al h a S L) (hf : Fr Q h h') (hn : ∀ c, S c → ¬ Q c) : Al h' a S L := by
  obtain ⟨p, cap, m, es, g, M, P, H, pm, so, gd, hS⟩ := A
  exact ⟨p, cap, m, es, g, M.frame hf fun c hc => hn c ((hS c).2 hc), P, H, pm, so, gd, hS⟩
theorem Al.sorted (A : Al h a S L) : Sorted L := by
  obtain ⟨p, cap, m, es, g, M, P, H, pm, so, gd, hS⟩ := A; exact so
theorem Al.good (A : Al h a S L) : Good L := by
  obtain ⟨p, cap, m, es, g, M, P, H, pm, so, gd, hS⟩ := A; exact gd
theorem Al.nodup (A : Al h a S L) : (keys L).Nodup := by
  obtain ⟨p, cap, m, es, g, M, P, H, pm, so, gd, hS⟩ := A
  exact (keys_perm pm).nodup_iff.1 P.1

/-- an alarm that no call made -/
def Zero (h : Heap) (a : Nat) : Prop := h[a]? = some (.cells #[.slice none 0 0, .map none] T.alarm_Alarm (0, 0))

theorem made_ok (M : Mem h a p cap m es g) (hk : R (.bool true) h) : CallsH Try.prog F.alarm_Alarm_made #[.pointer (some ⟨a, 0, none⟩)] h R :=
  alarm_Alarm_made.walk ⟨some m, M.mp, hk⟩
theorem made_zero (Z : Zero h a) (hk : R (.bool false) h) : CallsH Try.prog F.alarm_Alarm_made #[.pointer (some ⟨a, 0, none⟩)] h R :=
  alarm_Alarm_made.walk ⟨none, cell_at Z rfl, hk⟩
theorem made_nil (hk : R (.bool false) h) : CallsH Try.prog F.alarm_Alarm_made #[.pointer none] h R := alarm_Alarm_made.nil.walk hk

theorem new_ok (hk : ∀ a S h', Al h' a S [] → (∀ c, S c → h.size ≤ c) → Fr (fun _ => False) h h' → R (.pointer (some ⟨a, 0, none⟩)) h') : CallsH Try.prog F.alarm_New #[] h R := by
  refine alarm_New.walk ?_
  rintro b h1 rfl rfl b1 h2 rfl rfl
  have f : Fr (fun _ => False) (h.push (.map #[] 0)) ((h.push (.map #[] 0)).push (.cells #[.slice none 0 0, .map (some h.size)] T.alarm_Alarm)) := Fr.push _ _
  refine hk _ (foot (h.push (.map #[] 0)).size none h.size) _ ⟨none, 0, h.size, [], fun _ => none, ⟨push_new, .nil rfl rfl rfl rfl, (MapF.push h).frame f id, ?_⟩, ⟨.nil, ?_, fun _ _ => rfl⟩, ?_, .refl _, .nil, ?_, fun _ => Iff.rfl⟩ ?_ (Fr.tt (Fr.push _ _) f)
  · rintro ⟨_, e, _⟩; cases e
  · intro j hj; simp at hj
  · intro j _ hj; simp at hj
  · intro e he; cases he
  · rintro c (rfl | rfl | ⟨_, e, _⟩)
    · simp
    · exact Nat.le_refl _
    · cases e

theorem len_ok (A : Al h a S L) (hk : R (.int .i64 (L.length : Int)) h) : CallsH Try.prog F.alarm_Alarm_Len #[.pointer (some ⟨a, 0, none⟩)] h R := by
  obtain ⟨p, cap, m, es, g, M, P, H, pm, so, gd, hS⟩ := A
  refine alarm_Alarm_Len.walk ⟨_, _, _, M.hd, ?_⟩
  rw [pm.length_eq]; exact hk
theorem len_zero (Z : Zero h a) (hk : R (.int .i64 0) h) : CallsH Try.prog F.alarm_Alarm_Len #[.pointer (some ⟨a, 0, none⟩)] h R :=
  alarm_Alarm_Len.walk ⟨_, _, _, cell_at Z rfl, hk⟩
theorem len_nil (hk : R (.int .i64 0) h) : CallsH Try.prog F.alarm_Alarm_Len #[.pointer none] h R := alarm_Alarm_Len.nil.walk hk

def hd (L : List E) : E := L.headD (0, 0)
theorem next_ok (A : Al h a S L) (hk : R (.tuple #[.int .i64 (hd L).1, .int .u64 (hd L).2, .bool (!L.isEmpty)]) h) : CallsH Try.prog F.alarm_Alarm_Next #[.pointer (some ⟨a, 0, none⟩)] h R := by
  refine alarm_Alarm_Next.walk (len_ok A ⟨_, rfl, ?_⟩)
  obtain ⟨p, cap, m, es, g, M, P, H, pm, so, gd, hS⟩ := A
  cases L with
  | nil => exact hk
  | cons e r =>
    have hl := pm.length_eq
    simp only [List.length_cons] at hl
    have hne : (((e :: r).length : Int) == 0) = false := by simp only [List.length_cons, beq_eq_false_iff_ne]; omega
    simp only [hne, Bool.false_eq_true, if_false]
    obtain ⟨ad, rfl⟩ := M.some (by omega)
    obtain ⟨r', hr⟩ := head_min pm so H (by omega)
    have he : at_ es 0 = e := (List.cons.inj hr).1.symm
    have c0 := M.c0 (i := 0) (by omega)
    have c1 := M.c1 (i := 0) (by omega)
    rw [he] at c0 c1
    refine ⟨_, _, _, M.hd, ⟨by omega, by omega⟩, onSome_some.2 ⟨_, c0, _, _, _, M.hd, ⟨by omega, by omega⟩, onSome_some.2 ⟨_, c1, hk⟩⟩⟩
theorem next_zero (Z : Zero h a) (hk : R (.tuple #[.int .i64 0, .int .u64 0, .bool false]) h) : CallsH Try.prog F.alarm_Alarm_Next #[.pointer (some ⟨a, 0, none⟩)] h R :=
  alarm_Alarm_Next.walk (len_zero Z ⟨_, rfl, hk⟩)
theorem next_nil (hk : R (.tuple #[.int .i64 0, .int .u64 0, .bool false]) h) : CallsH Try.prog F.alarm_Alarm_Next #[.pointer none] h R :=
  alarm_Alarm_Next.nil.walk (len_nil ⟨_, rfl, hk⟩)


/-- a local entry -/
theorem local1 {t : TypeId} {z0 z1 x0 x1 : Value} {K : Nat → Heap → Prop} (hk : ∀ b h', h'[b]? = some (.cells #[x0, x1] t (0, 0)) → h.size ≤ b → Fr (fun _ => False) h h' → K b h') :
    NewP h (.cells #[z0, z1] t) fun b h2 => StoreP h2 ⟨b, 0, none⟩ x0 fun h3 => StoreP h3 ⟨b, 1, none⟩ x1 fun h4 => K b h4 := by
  rintro b h2 rfl rfl
  refine storeP_blk push_new (by simp) fun h3 c3 s3 k3 => storeP_blk c3 (by simp) fun h4 c4 s4 k4 => hk _ h4 c4 (Nat.le_refl _) ⟨?_, fun c hc _ => ?_⟩
  · rw [s4, s3]; simp
  · rw [k4 c (by omega), k3 c (by omega)]; exact (Fr.push (S := fun _ => False) h _).2 c hc id

theorem drop_ok (A : Al h a S L) (hn : L.length < 1000000) (key : Int)
    (k1 : key ∈ keys L → ∀ h', Al h' a S (dropK L key) → Fr S h h' → R (.int .i64 0) h')
    (k2 : key ∉ keys L → R (.int .i64 4) h) : CallsH Try.prog F.alarm_Alarm_Drop #[.pointer (some ⟨a, 0, none⟩), .int .i64 key] h R := by
  obtain ⟨p, cap, m, es, g, M, P, H, pm, so, gd, hS⟩ := A
  have hlen := pm.length_eq
  refine alarm_Alarm_Drop.walk (made_ok M ⟨true, rfl, ?_⟩)
  simp only [Bool.not_true, Bool.false_eq_true, if_false]
  have lk := lookV_map_ok tm M.map key
  by_cases hm : key ∈ keys es
  · have k1 := k1 ((keys_perm pm).mem_iff.1 hm)
    clear k2
    obtain ⟨j, hj, rfl⟩ := mem_keys hm
    obtain ⟨n, hn1⟩ : ∃ n, es.length = n + 1 := ⟨es.length - 1, by omega⟩
    rw [P.2.1 j hj] at lk
    refine ⟨some m, M.mp, (j : Int), true, lk, ?_⟩
    simp only [Bool.not_true, Bool.false_eq_true, if_false]
    obtain ⟨b0, off, rfl⟩ := M.own.some (by rw [enc_len]; omega)
    refine ⟨_, _, _, M.hd, _, _, _, M.hd, ?_⟩
    rw [show IntKind.wrap .i64 ((es.length : Int) - 1) = (n : Int) by rw [wrap_id (by omega) (by omega)]; omega]
    simp only [Int.toNat_natCast]
    refine ⟨⟨by omega, by omega⟩, onSome_some.2 ⟨_, M.c0 (i := n) (by omega), _, M.c1 (i := n) (by omega), local1 fun b h4 hb sb f4 => ?_⟩⟩
    have M4 := M.calm f4
    have hle := M.own.le
    have hsl : slBase (some (⟨b0, off, none⟩ : Addr)) cap 0 2 = some ⟨b0, off, none⟩ := by
      unfold slBase; split
      · rfl
      · simp [add_blk]
    refine ⟨_, _, _, M4.hd, ⟨by omega, by omega⟩, storeP_blk M4.blk (by simp) fun h5 c5 s5 k5 => ?_⟩
    have f5 : Fr (fun c => c = a) h4 h5 := Fr.of_eq s5 k5
    have tl : (es.take n).length = n := by rw [List.length_take]; omega
    have M5 : Mem h5 a (some ⟨b0, off, none⟩) cap m (es.take n) g := by
      refine ⟨?_, ?_, M4.map.frame f5 (fun e => M.am e.symm), M.ne⟩
      · rw [c5, hsl, tl]; rfl
      · have o := (M4.own.frame f5 (fun c hc e => M.ne (e ▸ hc))).sub (l := 0) (u := n) (by omega) (by omega)
        rw [hsl, enc_take, Nat.zero_mul, List.drop_zero] at o
        rw [tl]; exact o
    refine ⟨some m, M5.mp, den_deleteF tm M5.map fun h6 m6 s6 k6 => ⟨rfl, ?_⟩⟩
    have f6 : Fr (fun c => c = m) h5 h6 := Fr.of_eq s6 k6
    have M6 : Mem h6 a (some ⟨b0, off, none⟩) cap m (es.take n) (fun x => if x = (at_ es j).1 then none else g x) :=
      ⟨f6.get M5.blk M.am, M5.own.frame f6 (fun c hc e => M.pm (e ▸ hc)), m6, M.ne⟩
    have fh6 : Fr (foot a (some ⟨b0, off, none⟩) m) h h6 := Fr.no f4 (f5.trans f6 (fun _ _ e => .inl e) (fun _ _ e => .inr (.inl e)))
    have hbn : ∀ c, foot a (some ⟨b0, off, none⟩) m c → b ≠ c := fun c hc e => by have := M.lt hc; omega
    have hb6 := f6.get (f5.get hb (hbn a (.inl rfl))) (hbn m (.inr (.inl rfl)))
    refine JoinP.of fun J hJ => ?_
    have done : ∀ h' es' g', Mem h' a (some ⟨b0, off, none⟩) cap m es' g' → PlaceOk es' g' → HeapO (at_ es') es'.length → es'.Perm (cut es n j) → Fr (foot a (some ⟨b0, off, none⟩) m) h h' → J h' := by
      intro h' es' g' M' P' H' pm' f'
      subst hJ
      exact k1 h' ⟨_, _, _, es', g', M', P', H', pm'.trans (cut_drop hn1 hj P.1 pm), so.drop _, fun e he => gd e (List.mem_filter.1 he).1, hS⟩ (f'.mono fun c _ hc => (hS c).2 hc)
    have pc := cut_place P hn1 hj
    have cl := cut_len (j := j) hn1
    by_cases hjn : j < n
    · have hjn' : (j : Int) < (n : Int) := by omega
      simp only [hjn, if_true] at pc
      simp only [hjn', decide_true, if_true]
      have ecut : (es.take n).set j ((at_ es n).1, (at_ es n).2) = cut es n j := by unfold cut; rw [if_pos hjn]
      refine ⟨_, cell_at hb6 rfl, _, cell_at hb6 rfl, put_ok M6 (by omega) fun h8 M8 f8 => ⟨rfl, ?_⟩⟩
      rw [ecut] at M8
      have ex := cut_both hn1 hjn H
      refine up_ok M8 pc (by omega) (by omega) (by rw [cl]; exact ex) fun h9 es9 g9 q M9 P9 pm9 l9 q9 at9 ex9 _ f9 => ⟨rfl, some m, M9.mp, ?_⟩
      have nin : ¬ inner (some ⟨b0, off, none⟩) m b := fun hc => hbn b (.inr hc) rfl
      have hb9 := f9.get (f8.get hb6 nin) nin
      have lk9 := lookV_map tm M9.map (at_ es n).1
      have e9 : at_ es9 q = at_ es n := by rw [at9, cut_at hn1 hjn, if_pos rfl]
      have g9' := P9.2.1 q (by omega)
      rw [e9] at g9'
      rw [g9'] at lk9
      refine ⟨_, cell_at hb9 rfl, (q : Int), lk9, ?_⟩
      rw [← l9] at ex9
      refine down_ok M9 P9 (by omega) (by omega) ex9 fun h10 es10 g10 M10 P10 pm10 l10 H10 f10 => ⟨rfl, cell_at (f10.get hb9 nin) rfl, M10.mp, ?_⟩
      rw [← l10] at H10
      exact done h10 es10 g10 M10 P10 H10 (pm10.trans pm9) (fh6.trans (Fr.tt f8 (Fr.tt f9 f10)) (fun _ _ => id) (fun _ _ hc => .inr hc))
    · have hjn' : ¬ (j : Int) < (n : Int) := by omega
      simp only [hjn, if_false] at pc
      simp only [hjn', decide_false, Bool.false_eq_true, if_false]
      have ecut : es.take n = cut es n j := by unfold cut; rw [if_neg hjn]
      rw [ecut] at M6
      have H' := cut_heap hn1 hjn H
      exact done h6 _ _ M6 pc (by rw [cl]; exact H') (.refl _) fh6
  · rw [P.2.2 key hm] at lk
    exact ⟨some m, M.mp, 0, false, lk, k2 fun hx => hm ((keys_perm pm).mem_iff.2 hx)⟩
theorem drop_nil (key : Int) (hk : R (.int .i64 6) h) : CallsH Try.prog F.alarm_Alarm_Drop #[.pointer none, .int .i64 key] h R :=
  alarm_Alarm_Drop.nil.walk (made_nil ⟨false, rfl, hk⟩)

/-- may this be set? -/
def may (key t : Int) : Bool := decide (1 ≤ key) && decide (key ≤ 1099511627776) && decide (t ≤ 1099511627776)
theorem may_iff {key t : Int} : may key t = true ↔ 1 ≤ key ∧ key ≤ 1099511627776 ∧ t ≤ 1099511627776 := by simp [may, and_assoc]
def setL (L : List E) (key t : Int) : List E := insertS (dropK L key) (key, t)
theorem dropK_len (L : List E) (key : Int) : (dropK L key).length ≤ L.length := List.length_filter_le _ _
theorem setL_len (L : List E) (key t : Int) : (setL L key t).length ≤ L.length + 1 := by
  have := (insertS_perm (dropK L key) (key, t)).length_eq
  have := dropK_len L key
  unfold setL
  simp only [List.length_cons] at *
  omega

theorem set_ok (A : Al h a S L) (hn : L.length < 999999) (key t : Int) (ht : 0 ≤ t)
    (k1 : may key t = true → ∀ h' S', Al h' a S' (setL L key t) → (∀ c, S' c → S c ∨ h.size ≤ c) → Fr S h h' → R (.int .i64 0) h')
    (k2 : may key t = false → R (.int .i64 1) h) : CallsH Try.prog F.alarm_Alarm_Set #[.pointer (some ⟨a, 0, none⟩), .int .i64 key, .int .u64 t] h R := by
  have A0 := A
  obtain ⟨p, cap, m, es, g, M, -, -, -, -, -, -⟩ := A
  refine alarm_Alarm_Set.walk (made_ok M ⟨true, rfl, ?_⟩)
  clear M
  simp only [Bool.not_true, Bool.false_eq_true, if_false]
  refine JoinP.of fun J hJ => ?_
  have no : may key t = false → J true h := fun hm => by subst hJ; exact k2 hm
  by_cases h1 : key < 1
  · simp only [h1, decide_true, if_true]
    exact no (by simp [may, show ¬ 1 ≤ key by omega])
  simp only [h1, decide_false, Bool.false_eq_true, if_false]
  by_cases h2 : key > 1099511627776
  · simp only [h2, decide_true, if_true]
    exact no (by simp [may, show ¬ key ≤ 1099511627776 by omega])
  simp only [h2, decide_false, Bool.false_eq_true, if_false]
  by_cases h3 : t > 1099511627776
  · simp only [h3, decide_true]
    exact no (by simp [may, show ¬ t ≤ 1099511627776 by omega])
  simp only [h3, decide_false]
  clear no k2
  have k1 := k1 (may_iff.2 ⟨by omega, by omega, by omega⟩)
  subst hJ
  simp only [Bool.false_eq_true, if_false]
  -- behind the drop
  have rest : ∀ h1 e, Al h1 a S (dropK L key) → Fr S h h1 → (∃ (t25 : Int), Value.int .i64 e = .int .i64 t25 ∧
        ∃ (t30_p : Option Addr) (t30_l t30_c : Nat), hcell h1 ⟨a, 0, none⟩ = some (.slice t30_p t30_l t30_c) ∧
        NewP h1 (.cells #[.int .i64 0, .int .u64 0] T.alarm_entry) fun b h_4 =>
        denSem Try.prog (Builtin.append_ #[T.s_alarm_entry, T.s_alarm_entry] T.s_alarm_entry #[.slice t30_p t30_l t30_c, .slice (some ⟨b, 0, none⟩) 1 1]) h_4 fun v_2 h_5 =>
        ∃ (t33_p : Option Addr) (t33_l t33_c : Nat), v_2 = .slice t33_p t33_l t33_c ∧
        StoreP h_5 ⟨a, 0, none⟩ (.slice t33_p t33_l t33_c) fun h_6 =>
        ∃ (t39_p : Option Addr) (t39_l t39_c : Nat), hcell h_6 ⟨a, 0, none⟩ = some (.slice t39_p t39_l t39_c) ∧
        CallsH Try.prog F.alarm_Alarm_put #[.pointer (some ⟨a, 0, none⟩), .int .i64 (IntKind.wrap .i64 (((t39_l : Nat) : Int) - 1)), .agg #[.int .i64 key, .int .u64 t]] h_6 fun v_3 h_7 =>
        v_3 = .tuple #[] ∧
        CallsH Try.prog F.alarm_Alarm_up #[.pointer (some ⟨a, 0, none⟩), .int .i64 (IntKind.wrap .i64 (((t39_l : Nat) : Int) - 1))] h_7 fun v_4 h_8 =>
        v_4 = .tuple #[] ∧
        R (.int .i64 0) h_8) := by
    intro h1 e A1 f1
    refine ⟨e, rfl, ?_⟩
    have kn := dropK_keys L key
    have dl := dropK_len L key
    obtain ⟨p, cap, m, es, g, M, P, H, pm, so, gd, hS⟩ := A1
    have hlen := pm.length_eq
    refine ⟨_, _, _, M.hd, ?_⟩
    rintro b h4 rfl rfl
    have fp : Fr (fun _ => False) h1 (h1.push (.cells #[.int .i64 0, .int .u64 0] T.alarm_entry)) := Fr.push _ _
    have row : Row (h1.push (.cells #[.int .i64 0, .int .u64 0] T.alarm_entry)) (some ⟨h1.size, 0, none⟩) (enc [(0, 0)]) := .inr ⟨_, rfl, heldL_blk push_new fun j v hj => by rw [Nat.zero_add]; simpa [enc] using hj⟩
    have sz4 : h1.size ≤ (h1.push (.cells #[.int .i64 0, .int .u64 0] T.alarm_entry)).size := fp.1
    have M4 := M.calm fp
    refine den_append tE (eT := T.alarm_entry) (by kernel_rfl) M4.own row rfl (enc_one _) (by omega) (by omega) fun p' cap' h5 o5 _ f5 gr => ⟨_, _, _, rfl, ?_⟩
    rw [← enc_append] at o5
    have b5 := f5.get M4.blk M.ne
    have ne' : ¬ inBlk p' a := fun hc => by
      rcases gr a hc with hx | hx
      · exact M.ne hx
      · have := lt_of_get M4.blk; omega
    have pm' : ¬ inBlk p' m := fun hc => by
      rcases gr m hc with hx | hx
      · exact M.pm hx
      · have := M4.map.lt; omega
    refine storeP_blk b5 (by simp) fun h6 c6 s6 k6 => ?_
    have f6 : Fr (fun c => c = a) h5 h6 := Fr.of_eq s6 k6
    have M6 : Mem h6 a p' cap' m (es ++ [(0, 0)]) g := by
      refine ⟨?_, ?_, (M4.map.frame f5 M.pm).frame f6 (fun e => M.am e.symm), ne'⟩
      · rw [c6, List.length_append]; rfl
      · rw [List.length_append]
        exact o5.frame f6 (fun c hc e => ne' (e ▸ hc))
    refine ⟨_, _, _, M6.hd, ?_⟩
    have ew : IntKind.wrap .i64 ((((es ++ [((0, 0) : E)]).length : Nat) : Int) - 1) = (es.length : Int) := by
      rw [List.length_append, List.length_singleton, wrap_id (by omega) (by omega)]; omega
    rw [ew]
    refine put_ok M6 (by rw [List.length_append, List.length_singleton]; omega) fun h7 M7 f7 => ⟨rfl, ?_⟩
    have es7 : (es ++ [((0, 0) : E)]).set es.length (key, t) = es ++ [(key, t)] := by
      rw [List.set_append_right _ _ (Nat.le_refl _)]; simp
    rw [es7] at M7
    have kn' : key ∉ keys es := fun hx => kn ((keys_perm pm).mem_iff.1 hx)
    have P7 := add_place (x := (key, t)) P kn'
    obtain ⟨ex, kd⟩ := add_both (x := (key, t)) H
    have l7 : (es ++ [(key, t)]).length = es.length + 1 := by simp
    rw [← l7] at ex kd
    refine up_ok M7 P7 (by omega) (by omega) ex fun h8 es8 g8 q M8 P8 pm8 l8 _ _ _ H8 f8 => ⟨rfl, ?_⟩
    have H8 := H8 kd
    rw [← l8] at H8
    have gf : ∀ c, foot a p' m c → S c ∨ h.size ≤ c := by
      rintro c (rfl | rfl | hc)
      · exact .inl ((hS _).2 (.inl rfl))
      · exact .inl ((hS _).2 (.inr (.inl rfl)))
      · rcases gr c hc with hx | hx
        · exact .inl ((hS _).2 (.inr (.inr hx)))
        · have := f1.1; exact .inr (by omega)
    refine k1 h8 (foot a p' m) ⟨p', cap', m, es8, g8, M8, P8, H8, ?_, so.insert _ kn, ?_, fun _ => Iff.rfl⟩ gf ?_
    · exact pm8.trans ((List.perm_append_singleton _ _).trans ((pm.cons _).trans (insertS_perm _ _).symm))
    · intro e he
      rcases List.mem_cons.1 ((insertS_perm _ _).mem_iff.1 he) with rfl | hx
      · exact ⟨by simp only; omega, by simp only; omega, ht, by simp only; omega⟩
      · exact gd e hx
    · have in_S : ∀ c, c < h1.size → foot a p' m c → S c := fun c hc hx => by
        rcases hx with rfl | rfl | hx
        · exact (hS _).2 (.inl rfl)
        · exact (hS _).2 (.inr (.inl rfl))
        · rcases gr c hx with hy | hy
          · exact (hS _).2 (.inr (.inr hy))
          · omega
      have g1 : Fr S h1 h5 := Fr.no fp (f5.mono fun c _ hc => (hS c).2 (.inr (.inr hc)))
      have g2 : Fr S h1 h6 := g1.trans f6 (fun _ _ => id) (fun c _ e => (hS c).2 (.inl e))
      have g3 : Fr S h1 h8 := g2.trans (Fr.tt f7 f8) (fun _ _ => id) (fun c hc hx => in_S c hc (.inr hx))
      exact Fr.tt f1 g3
  refine drop_ok A0 (by omega) key (fun hm h1 A1 f1 => rest h1 0 A1 f1) (fun hm => ?_)
  refine rest h 4 ?_ (Fr.refl _ _)
  rw [dropK_none hm]
  exact A0
theorem set_zero (Z : Zero h a) (key t : Int) (hk : R (.int .i64 6) h) : CallsH Try.prog F.alarm_Alarm_Set #[.pointer (some ⟨a, 0, none⟩), .int .i64 key, .int .u64 t] h R :=
  alarm_Alarm_Set.walk (made_zero Z ⟨false, rfl, hk⟩)
theorem set_nil (key t : Int) (hk : R (.int .i64 6) h) : CallsH Try.prog F.alarm_Alarm_Set #[.pointer none, .int .i64 key, .int .u64 t] h R :=
  alarm_Alarm_Set.nil.walk (made_nil ⟨false, rfl, hk⟩)

end Alarm
end Go.Proofs.Ytgccegnmggjkjaa
