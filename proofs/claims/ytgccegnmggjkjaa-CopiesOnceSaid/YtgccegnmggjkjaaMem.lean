/-
  What is proved here: what the functions of package alarm do to an alarm in memory: the inner ones (ahead, put, up, down). No condition.
-/
import Derived.Test.YtgccegnmggjkjaaVcH
import Derived.Test.YtgccegnmggjkjaaSlice
import Derived.Test.YtgccegnmggjkjaaHeapq
import Derived.Test.YtgccegnmggjkjaaRok
set_option maxRecDepth 100000
namespace Go.Proofs.Ytgccegnmggjkjaa
open Go.Den Go.Heapq
namespace Alarm

theorem tm : MapTy Try.prog T.m_int_int (.int .i64 0) := .of T.int T.int .i64 (by kernel_rfl) (by kernel_rfl) (by kernel_rfl)

/-- entries as cells -/
def enc (es : List E) : List Value := es.flatMap fun e => [.int .i64 e.1, .int .u64 e.2]
theorem enc_cons (e : E) (es : List E) : enc (e :: es) = .int .i64 e.1 :: .int .u64 e.2 :: enc es := rfl
theorem enc_len : ∀ es : List E, (enc es).length = es.length * 2
  | [] => rfl
  | e :: es => by rw [enc_cons]; simp only [List.length_cons, enc_len es]; omega
theorem enc_append (es fs : List E) : enc (es ++ fs) = enc es ++ enc fs := by simp [enc]
theorem enc_0 : ∀ {es : List E} {i : Nat}, i < es.length → (enc es)[i * 2]? = some (.int .i64 (at_ es i).1)
  | [], _, h => by simp at h
  | e :: es, 0, _ => rfl
  | e :: es, i + 1, h => by
    rw [enc_cons, show (i + 1) * 2 = i * 2 + 1 + 1 by omega, List.getElem?_cons_succ, List.getElem?_cons_succ, enc_0 (by simpa using h)]
    rfl
theorem enc_1 : ∀ {es : List E} {i : Nat}, i < es.length → (enc es)[i * 2 + 1]? = some (.int .u64 (at_ es i).2)
  | [], _, h => by simp at h
  | e :: es, 0, _ => rfl
  | e :: es, i + 1, h => by
    rw [enc_cons, show (i + 1) * 2 + 1 = i * 2 + 1 + 1 + 1 by omega, List.getElem?_cons_succ, List.getElem?_cons_succ, enc_1 (by simpa using h)]
    rfl
theorem enc_set : ∀ (es : List E) (i : Nat) (x : E), ((enc es).set (i * 2) (.int .i64 x.1)).set (i * 2 + 1) (.int .u64 x.2) = enc (es.set i x)
  | [], _, _ => by simp [enc]
  | e :: es, 0, x => rfl
  | e :: es, i + 1, x => by
    rw [enc_cons, show (i + 1) * 2 = i * 2 + 1 + 1 by omega, List.set_cons_succ, List.set_cons_succ, List.set_cons_succ, List.set_cons_succ, enc_set es i x]
    rfl
theorem enc_take : ∀ (es : List E) (n : Nat), (enc es).take (n * 2) = enc (es.take n)
  | [], n => by simp [enc]
  | e :: es, 0 => by simp [enc]
  | e :: es, n + 1 => by
    rw [enc_cons, show (n + 1) * 2 = n * 2 + 1 + 1 by omega, List.take_succ_cons, List.take_succ_cons, enc_take es n]
    rfl
theorem enc_drop : ∀ (es : List E) (n : Nat), (enc es).drop (n * 2) = enc (es.drop n)
  | [], n => by simp [enc]
  | e :: es, 0 => by simp
  | e :: es, n + 1 => by
    rw [enc_cons, show (n + 1) * 2 = n * 2 + 1 + 1 by omega, List.drop_succ_cons, List.drop_succ_cons, enc_drop es n]
    rfl
theorem enc_one : ∀ (es : List E), ∀ v ∈ enc es, oneCell v = true
  | [], _, h => by cases h
  | e :: es, v, h => by
    rw [enc_cons] at h
    rcases List.mem_cons.1 h with rfl | h
    · rfl
    · rcases List.mem_cons.1 h with rfl | h
      · rfl
      · exact enc_one es v h

/-- an alarm in memory: entries es, places g -/
structure Mem (h : Heap) (a : Nat) (p : Option Addr) (cap m : Nat) (es : List E) (g : Int → Option Value) : Prop where
  blk : h[a]? = some (.cells #[.slice p es.length cap, .map (some m)] T.alarm_Alarm (0, 0))
  own : Own h p es.length cap 2 (enc es)
  map : MapF h m g
  ne : ¬ inBlk p a
/-- what it lies in -/
def foot (a : Nat) (p : Option Addr) (m : Nat) (c : Nat) : Prop := c = a ∨ c = m ∨ inBlk p c
/-- what put changes -/
def inner (p : Option Addr) (m : Nat) (c : Nat) : Prop := c = m ∨ inBlk p c

variable {h : Heap} {a m cap : Nat} {p : Option Addr} {es : List E} {g : Int → Option Value} {R : Value → Heap → Prop}

theorem Mem.am (M : Mem h a p cap m es g) : a ≠ m := by
  rintro rfl
  obtain ⟨x, c, hm⟩ := M.map.map
  rw [M.blk] at hm; cases hm
theorem Mem.pm (M : Mem h a p cap m es g) : ¬ inBlk p m := fun hb => by
  obtain ⟨x, c, hm⟩ := M.map.map
  obtain ⟨y, t, hc⟩ := M.own.cells hb
  rw [hc] at hm; cases hm
theorem Mem.lt (M : Mem h a p cap m es g) {c : Nat} (hc : foot a p m c) : c < h.size := by
  rcases hc with rfl | rfl | hc
  · exact lt_of_get M.blk
  · exact M.map.lt
  · exact M.own.blk_lt hc
theorem Mem.frame {S : Nat → Prop} {h' : Heap} (M : Mem h a p cap m es g) (hf : Fr S h h') (hn : ∀ c, foot a p m c → ¬ S c) : Mem h' a p cap m es g :=
  ⟨hf.get M.blk (hn a (.inl rfl)), M.own.frame hf fun c hc => hn c (.inr (.inr hc)), M.map.frame hf (hn m (.inr (.inl rfl))), M.ne⟩
theorem Mem.calm {h' : Heap} (M : Mem h a p cap m es g) (hf : Fr (fun _ => False) h h') : Mem h' a p cap m es g := M.frame hf fun _ _ => id
theorem Mem.hd (M : Mem h a p cap m es g) : hcell h ⟨a, 0, none⟩ = some (.slice p es.length cap) := cell_at M.blk rfl
theorem Mem.mp (M : Mem h a p cap m es g) : hcell h ⟨a, 1, none⟩ = some (.map (some m)) := cell_at M.blk rfl
theorem Mem.some (M : Mem h a p cap m es g) (hn : 0 < es.length) : ∃ ad, p = some ad := by
  obtain ⟨b, off, hp⟩ := M.own.some (by rw [enc_len]; omega)
  exact ⟨_, hp⟩
theorem Mem.c0 {ad : Addr} (M : Mem h a (.some ad) cap m es g) {i : Nat} (hi : i < es.length) : hcell h (ad.add (i * 2)) = .some (.int .i64 (at_ es i).1) := M.own.cell (enc_0 hi)
theorem Mem.c1 {ad : Addr} (M : Mem h a (.some ad) cap m es g) {i : Nat} (hi : i < es.length) : hcell h ((ad.add (i * 2)).add 1) = .some (.int .u64 (at_ es i).2) := by
  rw [add_add]; exact M.own.cell (enc_1 hi)


theorem ahead_ok {x0 x1 y0 y1 : Int} (hk : ∀ h', Fr (fun _ => False) h h' → R (.bool (decide (lt (x0, x1) (y0, y1)))) h') :
    CallsH Try.prog F.alarm_ahead #[.agg #[.int .i64 x0, .int .u64 x1], .agg #[.int .i64 y0, .int .u64 y1]] h R := by
  refine alarm_ahead.walk ?_
  rintro b h1 rfl rfl b1 h2 rfl rfl
  have f : Fr (fun _ => False) h ((h.push (.cells #[.int .i64 x0, .int .u64 x1] T.alarm_entry)).push (.cells #[.int .i64 y0, .int .u64 y1] T.alarm_entry)) := Fr.tt (Fr.push _ _) (Fr.push _ _)
  have hx := push_old (x := .cells #[.int .i64 y0, .int .u64 y1] T.alarm_entry) (push_new (h := h) (x := .cells #[.int .i64 x0, .int .u64 x1] T.alarm_entry))
  have hy := push_new (h := h.push (.cells #[.int .i64 x0, .int .u64 x1] T.alarm_entry)) (x := .cells #[.int .i64 y0, .int .u64 y1] T.alarm_entry)
  have hr := hk _ f
  refine ⟨x1, cell_at hx rfl, y1, cell_at hy rfl, ?_⟩
  by_cases h1 : x1 < y1
  · have e : decide (lt (x0, x1) (y0, y1)) = true := by simp [lt, h1]
    rw [e] at hr
    simpa only [h1, decide_true, if_true] using hr
  · simp only [h1, decide_false, Bool.false_eq_true, if_false]
    refine ⟨x1, cell_at hx rfl, y1, cell_at hy rfl, ?_⟩
    by_cases h2 : x1 = y1
    · subst h2
      simp only [beq_self_eq_true, if_true]
      refine ⟨x0, cell_at hx rfl, y0, cell_at hy rfl, ?_⟩
      have e : decide (lt (x0, x1) (y0, x1)) = decide (x0 < y0) := by simp [lt]
      rw [e] at hr
      exact hr
    · have e : decide (lt (x0, x1) (y0, y1)) = false := by simp [lt, h1, h2]
      rw [e] at hr
      simpa only [beq_eq_false_iff_ne.2 h2, Bool.false_eq_true, if_false] using hr

theorem put_ok (M : Mem h a p cap m es g) {i : Nat} (hi : i < es.length) {x0 x1 : Int}
    (hk : ∀ h', Mem h' a p cap m (es.set i (x0, x1)) (fun k => if k = x0 then some (.int .i64 i) else g k) → Fr (inner p m) h h' → R (.tuple #[]) h') :
    CallsH Try.prog F.alarm_Alarm_put #[.pointer (some ⟨a, 0, none⟩), .int .i64 i, .agg #[.int .i64 x0, .int .u64 x1]] h R := by
  obtain ⟨ad, rfl⟩ := M.some (by omega)
  refine alarm_Alarm_put.walk ?_
  rintro b h1 hb rfl
  have f1 : Fr (fun _ => False) h (h.push (.cells #[.int .i64 x0, .int .u64 x1] T.alarm_entry)) := Fr.push _ _
  have M1 := M.calm f1
  have hx := push_new (h := h) (x := .cells #[.int .i64 x0, .int .u64 x1] T.alarm_entry)
  rw [← hb] at hx
  generalize h.push (.cells #[.int .i64 x0, .int .u64 x1] T.alarm_entry) = h1 at f1 M1 hx
  have hbn : ∀ c, foot a (some ad) m c → b ≠ c := fun c hc e => by have := M.lt hc; omega
  refine ⟨_, _, _, M1.hd, x0, cell_at hx rfl, x1, cell_at hx rfl, ⟨by omega, by omega⟩, onSome_some.2 ?_⟩
  rw [Int.toNat_natCast, add_add]
  have hl := enc_len es
  refine M1.own.store (by omega) fun h2 o2 s2 k2 => o2.store (by rw [List.length_set]; omega) fun h3 o3 s3 k3 => ?_
  rw [enc_set es i (x0, x1)] at o3
  have f2 : Fr (inBlk (some ad)) h1 h3 := Fr.tt (Fr.of_eq s2 k2) (Fr.of_eq s3 k3)
  have hx3 := f2.get hx (fun hc => hbn b (.inr (.inr hc)) rfl)
  have hb3 := f2.get M1.blk M.ne
  refine ⟨_, cell_at hb3 rfl, x0, cell_at hx3 rfl, ?_⟩
  refine den_mapUpdateF tm (M1.map.frame f2 M.pm) fun h4 m4 s4 k4 => hk h4 ⟨?_, ?_, m4, M.ne⟩ ?_
  · rw [k4 a M.am, hb3, List.length_set]
  · rw [List.length_set]
    exact o3.frame (Fr.of_eq (S := fun c => c = m) s4 k4) (fun c hc e => M.pm (e ▸ hc))
  · exact Fr.no f1 ((f2.mono fun c _ hc => .inr hc).trans (Fr.of_eq (S := fun c => c = m) s4 k4) (fun _ _ => id) (fun _ _ hc => .inl hc))

/-- two local entries, in either order -/
theorem fork2 {h : Heap} {t : TypeId} {z0 z1 x0 x1 y0 y1 : Value} {G1 G2 G3 G4 : Heap → Prop} {J : Option Addr → Option Addr → Heap → Prop}
    (hG : ∀ h', Fr (fun _ => False) h h' → G1 h' ∧ G2 h' ∧ G3 h' ∧ G4 h')
    (hJ : ∀ b b' h', h'[b]? = some (.cells #[x0, x1] t (0, 0)) → h'[b']? = some (.cells #[y0, y1] t (0, 0)) → h.size ≤ b → h.size ≤ b' → Fr (fun _ => False) h h' → J (some ⟨b, 0, none⟩) (some ⟨b', 0, none⟩) h') :
    (NewP h (.cells #[z0, z1] t) fun b h_6 => G1 h_6 ∧ G2 h_6 ∧ G3 h_6 ∧ G4 h_6 ∧ NewP h_6 (.cells #[z0, z1] t) fun b_1 h_7 => G1 h_7 ∧ G2 h_7 ∧ G3 h_7 ∧ G4 h_7 ∧
      StoreP h_7 ⟨b, 0, none⟩ x0 fun h_8 => StoreP h_8 ⟨b, 1, none⟩ x1 fun h_9 => G1 h_9 ∧ G2 h_9 ∧ StoreP h_9 ⟨b_1, 0, none⟩ y0 fun h_10 => StoreP h_10 ⟨b_1, 1, none⟩ y1 fun h_11 => J (some ⟨b, 0, none⟩) (some ⟨b_1, 0, none⟩) h_11) ∧
    (NewP h (.cells #[z0, z1] t) fun b h_6 => G1 h_6 ∧ G2 h_6 ∧ G3 h_6 ∧ G4 h_6 ∧ NewP h_6 (.cells #[z0, z1] t) fun b_1 h_7 => G1 h_7 ∧ G2 h_7 ∧ G3 h_7 ∧ G4 h_7 ∧
      StoreP h_7 ⟨b_1, 0, none⟩ x0 fun h_8 => StoreP h_8 ⟨b_1, 1, none⟩ x1 fun h_9 => G1 h_9 ∧ G2 h_9 ∧ StoreP h_9 ⟨b, 0, none⟩ y0 fun h_10 => StoreP h_10 ⟨b, 1, none⟩ y1 fun h_11 => J (some ⟨b_1, 0, none⟩) (some ⟨b, 0, none⟩) h_11) ∧ True := by
  have key : ∀ (b b' : Nat) (h7 : Heap), b ≠ b' → h.size ≤ b → h.size ≤ b' → Fr (fun _ => False) h h7 → h7[b]? = some (.cells #[z0, z1] t (0, 0)) → h7[b']? = some (.cells #[z0, z1] t (0, 0)) →
      StoreP h7 ⟨b, 0, none⟩ x0 fun h_8 => StoreP h_8 ⟨b, 1, none⟩ x1 fun h_9 => G1 h_9 ∧ G2 h_9 ∧ StoreP h_9 ⟨b', 0, none⟩ y0 fun h_10 => StoreP h_10 ⟨b', 1, none⟩ y1 fun h_11 => J (some ⟨b, 0, none⟩) (some ⟨b', 0, none⟩) h_11 := by
    intro b b' h7 hne hb hb' f7 c7 c7'
    have fr : ∀ {h1 h2 : Heap} {x : Nat}, Fr (fun _ => False) h h1 → h.size ≤ x → h2.size = h1.size → (∀ y, y ≠ x → h2[y]? = h1[y]?) → Fr (fun _ => False) h h2 := fun f hx hs ho =>
      ⟨by have := f.1; omega, fun c hc hn => by rw [ho c (by omega)]; exact f.2 c hc hn⟩
    refine storeP_blk c7 (by simp) fun h8 c8 s8 k8 => storeP_blk c8 (by simp) fun h9 c9 s9 k9 => ?_
    have f9 := fr (fr f7 hb s8 k8) hb s9 k9
    have c9' : h9[b']? = some (.cells #[z0, z1] t (0, 0)) := by rw [k9 _ hne.symm, k8 _ hne.symm]; exact c7'
    refine ⟨(hG _ f9).1, (hG _ f9).2.1, storeP_blk c9' (by simp) fun h10 c10 s10 k10 => storeP_blk c10 (by simp) fun h11 c11 s11 k11 => ?_⟩
    refine hJ b b' h11 ?_ c11 hb hb' (fr (fr f9 hb' s10 k10) hb' s11 k11)
    rw [k11 _ hne, k10 _ hne]; exact c9
  have f1 : ∀ o, Fr (fun _ => False) h (h.push o) := fun o => Fr.push _ _
  refine ⟨?_, ?_, trivial⟩
  · rintro b h1 rfl rfl
    obtain ⟨g1, g2, g3, g4⟩ := hG _ (f1 _)
    refine ⟨g1, g2, g3, g4, ?_⟩
    rintro b' h2 rfl rfl
    have f2 := Fr.tt (f1 (.cells #[z0, z1] t)) (Fr.push (h.push (.cells #[z0, z1] t)) (.cells #[z0, z1] t))
    obtain ⟨g1, g2, g3, g4⟩ := hG _ f2
    exact ⟨g1, g2, g3, g4, key _ _ _ (by simp) (by simp) (by simp) f2 (push_old push_new) push_new⟩
  · rintro b h1 rfl rfl
    obtain ⟨g1, g2, g3, g4⟩ := hG _ (f1 _)
    refine ⟨g1, g2, g3, g4, ?_⟩
    rintro b' h2 rfl rfl
    have f2 := Fr.tt (f1 (.cells #[z0, z1] t)) (Fr.push (h.push (.cells #[z0, z1] t)) (.cells #[z0, z1] t))
    obtain ⟨g1, g2, g3, g4⟩ := hG _ f2
    exact ⟨g1, g2, g3, g4, key _ _ _ (by simp) (by simp) (by simp) f2 push_new (push_old push_new)⟩

end Alarm
end Go.Proofs.Ytgccegnmggjkjaa
