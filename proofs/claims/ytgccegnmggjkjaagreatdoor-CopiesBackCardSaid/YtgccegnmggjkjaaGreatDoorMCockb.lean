/-
  What is proved here: parts of the proof, one behind the other (texts of this work, merged by a program; what the theorem does not use is left out). No condition.
-/
import Derived.Test.YtgccegnmggjkjaaGreatDoorProg
import Derived.Shelf.SortM.Plain
import Derived.Shelf.SortM.SortNone
import Derived.Ground.SlgmProg
import Derived.Test.YtgccegnmggjkjaaGreatDoorMCocka
namespace Go.Den
structure Step (S : Nat → Prop) (h : Heap) (S' : Nat → Prop) (h' : Heap) : Prop where
  fr : Fr S h h'
  new : ∀ c, S' c → S c ∨ h.size ≤ c
theorem Step.refl (S : Nat → Prop) (h : Heap) : Step S h S h := ⟨Fr.refl _ _, fun _ => .inl⟩
theorem Step.trans {S S1 S2 : Nat → Prop} {h h1 h2 : Heap} (a : Step S h S1 h1) (b : Step S1 h1 S2 h2) : Step S h S2 h2 :=
  ⟨a.fr.trans b.fr (fun _ _ => id) (fun c hc hx => (a.new c hx).resolve_right (by omega)), fun c hc => by
    rcases b.new c hc with hc | hc
    · exact a.new c hc
    · have := a.fr.1; exact .inr (by omega)⟩
theorem Fr.fresh {S : Nat → Prop} {h h1 h2 : Heap} (f : Fr (fun _ => False) h h1) (g : Fr S h1 h2) (hs : ∀ c, S c → h.size ≤ c) : Fr (fun _ => False) h h2 :=
  f.step g fun c hc hx => by have := hs c hx; omega
theorem newP_of {h : Heap} {o : Obj} {K : Nat → Heap → Prop} (hk : K h.size (h.push o)) : NewP h o K := by
  rintro b h' rfl rfl; exact hk
section
variable {P : Program}
theorem den_append1 {sT xT ty elem eT t : TypeId} {sz bytes : Nat} {z : Value} {h : Heap} {p : Option Addr} {len cap : Nat} {cs : List Value} {xs : Array Value} {K : Value → Heap → Prop}
    (T : SlTy P sT elem sz bytes z) (hx : P.underlying xT = some (.slice eT))
    (own : Own h p len cap sz cs) (hxs : xs.size = sz) (hone : ∀ v ∈ xs.toList, oneCell v = true) (hb : (len + 1) * bytes ≤ 70368744177664) (hb2 : len + 1 ≤ 9223372036854775807)
    (hk : ∀ p' cap' h', Own h' p' (len + 1) cap' sz (cs ++ xs.toList) → Fr (inBlk p) h h' → (∀ c, inBlk p' c → inBlk p c ∨ h.size ≤ c) → K (.slice p' (len + 1) cap') h') :
    NewP h (.cells xs t) fun b h1 => denSem P (Builtin.append_ #[sT, xT] ty #[.slice p len cap, .slice (some ⟨b, 0, none⟩) 1 1]) h1 K := by
  refine newP_of ?_
  have f1 : Fr (fun _ => False) h (h.push (.cells xs t)) := Fr.push _ _
  refine den_append T hx (own.frame f1 (fun _ _ => id)) (ds := xs.toList) (.inr ⟨_, rfl, heldL_blk push_new (fun j v hj => by rw [Nat.zero_add]; simpa using hj)⟩) (by simp [hxs]) hone hb hb2 ?_
  intro p' cap' h' o1 _ f2 g
  exact hk p' cap' h' o1 (Fr.no f1 f2) (fun c hc => (g c hc).imp id (fun h2 => by simp at h2; omega))
end
end Go.Den
namespace Go.Den
theorem row_new {h : Heap} {cs : List Value} {t : TypeId} : Row (h.push (.cells cs.toArray t)) (some ⟨h.size, 0, none⟩) cs := .inr ⟨_, rfl, heldL_blk push_new (fun j v hj => by rw [Nat.zero_add]; simpa using hj)⟩
theorem add_zero_addr (a : Addr) : a.add 0 = a := by simp [Addr.add]
theorem add_block (a : Addr) (n : Nat) : (a.add n).block = a.block := by unfold Addr.add; split <;> rfl
theorem row_lt {h : Heap} {p : Option Addr} {cs : List Value} (hr : Row h p cs) (hn : cs ≠ []) {x : Nat} (hx : inBlk p x) : x < h.size := by
  obtain ⟨a, rfl, rfl⟩ := hx
  rcases hr with hh | ⟨a', e, hh⟩
  · exact absurd hh hn
  · cases e
    cases cs with
    | nil => exact absurd rfl hn
    | cons c cs =>
      obtain ⟨_, _, _, hb, _⟩ := hcell_some hh.1
      have := lt_of_get hb
      rwa [add_block] at this
theorem Row.sub {h : Heap} {p : Option Addr} {cs : List Value} (hr : Row h p cs) {cap l u sz : Nat} (h1 : l ≤ u) (h2 : u ≤ cap) : Row h (slBase p cap l sz) ((cs.take (u * sz)).drop (l * sz)) := by
  by_cases hc : cap = l
  · left
    have : u = l := by omega
    subst this
    rw [List.drop_eq_nil_iff, List.length_take]
    exact Nat.min_le_left _ _
  · unfold slBase
    rw [if_neg hc]
    rcases hr with rfl | ⟨a, rfl, hh⟩
    · left; simp
    · refine .inr ⟨a.add (l * sz), rfl, heldL_at.2 fun j v hj => ?_⟩
      rw [add_add, Nat.zero_add]
      rw [List.getElem?_drop, List.getElem?_take] at hj
      split at hj
      · have := heldL_at.1 hh (l * sz + j) v hj
        rwa [Nat.zero_add] at this
      · cases hj
structure Ft where
  M : Nat → Prop
  D : Nat → Prop
structure StepF (F : Ft) (h : Heap) (F' : Ft) (h' : Heap) : Prop where
  fr : Fr F.M h h'
  newM : ∀ c, F'.M c → F.M c ∨ h.size ≤ c
  newD : ∀ c, F'.D c → F.D c ∨ h.size ≤ c
  oldD : ∀ c, F.D c → F'.D c
theorem StepF.refl (F : Ft) (h : Heap) : StepF F h F h := ⟨Fr.refl _ _, fun _ => .inl, fun _ => .inl, fun _ => id⟩
theorem StepF.trans {F F1 F2 : Ft} {h h1 h2 : Heap} (a : StepF F h F1 h1) (b : StepF F1 h1 F2 h2) : StepF F h F2 h2 := by
  have z := a.fr.1
  refine ⟨a.fr.trans b.fr (fun _ _ => id) (fun c hc hx => (a.newM c hx).resolve_right (by omega)), fun c hc => ?_, fun c hc => ?_, fun c hc => b.oldD c (a.oldD c hc)⟩
  · rcases b.newM c hc with hc | hc
    · exact a.newM c hc
    · exact .inr (by omega)
  · rcases b.newD c hc with hc | hc
    · exact a.newD c hc
    · exact .inr (by omega)
theorem StepF.of_fr {F : Ft} {h h' : Heap} (f : Fr F.M h h') : StepF F h F h' := ⟨f, fun _ => .inl, fun _ => .inl, fun _ => id⟩
theorem StepF.of_no {F : Ft} {h h' : Heap} (f : Fr (fun _ => False) h h') : StepF F h F h' := .of_fr (f.mono fun _ _ => False.elim)
theorem StepF.no {F F1 : Ft} {h h1 h2 : Heap} (f : Fr (fun _ => False) h h1) (b : StepF F h1 F1 h2) : StepF F h F1 h2 := (StepF.of_no f).trans b
theorem StepF.on {F F1 : Ft} {h h1 h2 : Heap} (a : StepF F h F1 h1) (f : Fr (fun _ => False) h1 h2) : StepF F h F1 h2 := a.trans (StepF.of_no f)
theorem StepF.apart {F F' : Ft} {Q : Nat → Prop} {h h' : Heap} (st : StepF F h F' h') (hd : ∀ c, F.M c ∨ F.D c → ¬ Q c) (hq : ∀ c, Q c → c < h.size) : ∀ c, F'.M c ∨ F'.D c → ¬ Q c := fun c hc hx => by
  have := hq c hx
  rcases hc with hc | hc
  · rcases st.newM c hc with h1 | h1
    · exact hd c (.inl h1) hx
    · omega
  · rcases st.newD c hc with h1 | h1
    · exact hd c (.inr h1) hx
    · omega
structure UpF (h0 : Heap) (F : Ft) (h : Heap) : Prop where
  fr : Fr (fun _ => False) h0 h
  ge : ∀ c, F.M c ∨ F.D c → h0.size ≤ c
theorem UpF.step {h0 h h' : Heap} {F F' : Ft} (u : UpF h0 F h) (st : StepF F h F' h') : UpF h0 F' h' := by
  have z := u.fr.1
  refine ⟨u.fr.fresh st.fr (fun c hc => u.ge c (.inl hc)), fun c hc => ?_⟩
  rcases hc with hc | hc
  · rcases st.newM c hc with h1 | h1
    · exact u.ge c (.inl h1)
    · omega
  · rcases st.newD c hc with h1 | h1
    · exact u.ge c (.inr h1)
    · omega
theorem UpF.on {h0 h h' : Heap} {F : Ft} (u : UpF h0 F h) (f : Fr (fun _ => False) h h') : UpF h0 F h' := ⟨u.fr.tt f, u.ge⟩
theorem storeL_from {b : Nat} {t : TypeId} : ∀ (vs : List Value) (i : Nat) (h : Heap) (c : Array Value) (K : Heap → Prop), h[b]? = some (.cells c t (0, 0)) → i + vs.length ≤ c.size → vs.all oneCell = true →
    (∀ h' c', h'[b]? = some (.cells c' t (0, 0)) → c'.size = c.size → (∀ j, j < i ∨ i + vs.length ≤ j → c'[j]? = c[j]?) → (∀ j v, vs[j]? = some v → c'[i + j]? = some v) → h'.size = h.size → (∀ x, x ≠ b → h'[x]? = h[x]?) → K h') →
    storeL ⟨b, 0, none⟩ vs i h K
  | [], i, h, c, K, hb, _, _, hk => hk h c hb rfl (fun _ _ => rfl) (fun j v hj => by simp at hj) rfl (fun _ _ => rfl)
  | v :: vs, i, h, c, K, hb, hl, hv, hk => by
    rw [List.all_cons, Bool.and_eq_true] at hv
    rw [List.length_cons] at hl
    unfold storeL
    rw [hv.1]
    dsimp only
    rw [add_blk, Nat.zero_add]
    refine storeP_blk hb (by omega) fun h1 a1 s1 o1 => ?_
    refine storeL_from vs (i + 1) h1 _ K a1 (by rw [Array.size_setIfInBounds]; omega) hv.2 fun h2 c2 b2 z2 q2 r2 s2 o2 => hk h2 c2 b2 (by rw [z2, Array.size_setIfInBounds]) (fun j hj => ?_) (fun j u hj => ?_) (by omega) (fun x hx => by rw [o2 x hx, o1 x hx])
    · rw [List.length_cons] at hj
      rw [q2 j (by omega), Array.getElem?_setIfInBounds, if_neg (by omega)]
    · cases j with
      | zero =>
        simp only [List.getElem?_cons_zero, Option.some.injEq] at hj
        subst hj
        rw [Nat.add_zero, q2 i (by omega)]
        rw [Array.getElem?_setIfInBounds, if_pos rfl, if_pos (by omega)]
      | succ j =>
        have := r2 j u (by simpa using hj)
        rwa [show i + 1 + j = i + (j + 1) by omega] at this
theorem storeL_full {h : Heap} {b : Nat} {c : Array Value} {t : TypeId} {vs : List Value} {K : Heap → Prop} (hb : h[b]? = some (.cells c t (0, 0))) (hl : vs.length = c.size) (hv : vs.all oneCell = true)
    (hk : ∀ h', h'[b]? = some (.cells vs.toArray t (0, 0)) → h'.size = h.size → (∀ x, x ≠ b → h'[x]? = h[x]?) → K h') : storeL ⟨b, 0, none⟩ vs 0 h K := by
  refine storeL_from vs 0 h c K hb (by omega) hv fun h' c' b' z _ r s o => hk h' ?_ s o
  have : c' = vs.toArray := by
    apply Array.ext'
    apply List.ext_getElem?
    intro j
    by_cases hj : j < vs.length
    · have e := List.getElem?_eq_getElem hj
      have := r j _ e
      rw [Nat.zero_add] at this
      rw [Array.getElem?_toList, this]
      exact e.symm
    · rw [List.getElem?_eq_none (by rw [Array.length_toList]; omega), List.getElem?_eq_none (by simpa using hj)]
  rw [← this]; exact b'
theorem new_full {h : Heap} {c : Array Value} {t : TypeId} {vs : List Value} {K : Nat → Heap → Prop} (hl : vs.length = c.size) (hv : vs.all oneCell = true)
    (hk : ∀ b h', b = h.size → h'[b]? = some (.cells vs.toArray t (0, 0)) → Fr (fun _ => False) h h' → K b h') : NewP h (.cells c t) fun b h0 => storeL ⟨b, 0, none⟩ vs 0 h0 (K b) :=
  newP_of (storeL_full push_new hl hv fun h' b' s o => hk _ h' rfl b' ((Fr.push h _).fresh (S := fun y => y = h.size) ⟨by omega, fun y _ hn => o y hn⟩ (fun y e => Nat.le_of_eq e.symm)))
end Go.Den
set_option maxRecDepth 100000
set_option maxHeartbeats 4000000
namespace Go.Proofs.YtgccegnmggjkjaaGreatDoor
open Go.Den
abbrev Cl := CallsH Tryz.prog
namespace F
abbrev law21_CopiesBack : Nat := 5
abbrev copies_New : Nat := 9
abbrev law21_alive : Nat := 10
abbrev law21_Great : Nat := 11
abbrev copies_Table_Ready : Nat := 14
abbrev copies_Table_Add : Nat := 17
abbrev law21_home : Nat := 18
abbrev copies_Table_Lease : Nat := 19
abbrev law19_Same : Nat := 20
abbrev copies_Table_Save : Nat := 21
abbrev copies_Table_Ack : Nat := 23
abbrev copies_Table_Release : Nat := 24
abbrev copies_Table_Pass : Nat := 25
abbrev copies_Table_Drop : Nat := 26
abbrev copies_Table_Counts : Nat := 28
abbrev law21_do : Nat := 37
abbrev copies_Load : Nat := 38
abbrev alarm_New : Nat := 57
abbrev copies_Table_of : Nat := 67
abbrev copies_Table_made : Nat := 69
abbrev copies_isCopy : Nat := 70
abbrev slices_Clone_s_byte_byte : Nat := 71
abbrev alarm_Alarm_Set : Nat := 72
abbrev copies_isSession : Nat := 73
abbrev fields_New : Nat := 74
abbrev fields_Writer_Int : Nat := 75
abbrev fields_Writer_Bytes : Nat := 76
abbrev copies_Table_numbers : Nat := 77
abbrev copies_record : Nat := 78
abbrev copies_Table_find : Nat := 83
abbrev copies_Table_remove : Nat := 84
abbrev copies_Table_free : Nat := 85
abbrev alarm_Alarm_Ring : Nat := 86
abbrev alarm_Alarm_Len : Nat := 87
abbrev fields_Read : Nat := 95
abbrev eid_Parse : Nat := 96
abbrev fields_Reader_Text : Nat := 97
abbrev fields_Reader_Int : Nat := 98
abbrev fields_Reader_End : Nat := 99
abbrev bytes_Equal : Nat := 100
abbrev copies_Table_load : Nat := 102
abbrev eid_Text : Nat := 130
abbrev fields_Writer_Text : Nat := 133
abbrev fields_Writer_Num : Nat := 134
abbrev fields_Reader_Num : Nat := 138
abbrev slices_DeleteFunc_s_int_int : Nat := 143
abbrev copies_Table_of_1 : Nat := 144
abbrev eid_Right : Nat := 145
abbrev alarm_Alarm_made : Nat := 146
abbrev alarm_Alarm_Drop : Nat := 147
abbrev alarm_Alarm_put : Nat := 148
abbrev alarm_Alarm_up : Nat := 149
abbrev slices_Sort_s_int_int : Nat := 150
abbrev alarm_Alarm_Next : Nat := 152
abbrev strings_CutPrefix : Nat := 156
abbrev eid_parseNumbers : Nat := 157
abbrev eid_parsePath : Nat := 158
abbrev fields_Reader_fine : Nat := 159
abbrev fields_fault_fail : Nat := 160
abbrev fields_Reader_atMost : Nat := 161
abbrev strconv_FormatUint : Nat := 176
abbrev eid_path : Nat := 177
abbrev slices_IndexFunc_s_int_int : Nat := 186
abbrev eid_plain : Nat := 187
abbrev alarm_Alarm_down : Nat := 188
abbrev alarm_ahead : Nat := 189
abbrev strings_Cut : Nat := 195
abbrev strconv_ParseUint : Nat := 196
abbrev internal_strconv_FormatUint : Nat := 201
abbrev internal_strconv_small : Nat := 228
abbrev internal_strconv_numDigits : Nat := 229
abbrev internal_strconv_formatBase10 : Nat := 230
abbrev internal_strconv_formatBits : Nat := 231
end F
namespace T
abbrev tup_ : Nat := 0
abbrev int : Nat := 3
abbrev bool : Nat := 4
abbrev uint8 : Nat := 5
abbrev string : Nat := 9
abbrev s_law21_Op : Nat := 22
abbrev uint64 : Nat := 23
abbrev eid_Eid : Nat := 25
abbrev p_copies_Table : Nat := 26
abbrev s_uint8 : Nat := 34
abbrev law21_Op : Nat := 36
abbrev m_int_p_copies_Copy : Nat := 43
abbrev copies_Table : Nat := 46
abbrev copies_Copy : Nat := 52
abbrev s_s_uint8 : Nat := 56
abbrev s_int : Nat := 59
abbrev a6_int : Nat := 64
abbrev p_copies_Copy : Nat := 128
abbrev m_int_int : Nat := 209
abbrev s_alarm_entry : Nat := 216
abbrev alarm_Alarm : Nat := 218
abbrev alarm_entry : Nat := 225
abbrev fields_Writer : Nat := 228
abbrev fields_Reader : Nat := 239
abbrev error : Nat := 291
abbrev a24_uint8 : Nat := 325
abbrev a20_uint64 : Nat := 350
end T
abbrev a6_int.LD (h : Heap) (a : Addr) (K : Int → Int → Int → Int → Int → Int → Prop) : Prop := ∃ (t0 : Int), hcell h a = some (.int .i64 t0) ∧ ∃ (t1 : Int), hcell h (a.add 1) = some (.int .i64 t1) ∧ ∃ (t2 : Int), hcell h (a.add 2) = some (.int .i64 t2) ∧ ∃ (t3 : Int), hcell h (a.add 3) = some (.int .i64 t3) ∧ ∃ (t4 : Int), hcell h (a.add 4) = some (.int .i64 t4) ∧ ∃ (t5 : Int), hcell h (a.add 5) = some (.int .i64 t5) ∧ K t0 t1 t2 t3 t4 t5
abbrev a6_int.ST (h : Heap) (a : Addr) (f0 : Int) (f1 : Int) (f2 : Int) (f3 : Int) (f4 : Int) (f5 : Int) (K : Heap → Prop) : Prop := StoreP h a (.int .i64 f0) fun h_1 => StoreP h_1 (a.add 1) (.int .i64 f1) fun h_2 => StoreP h_2 (a.add 2) (.int .i64 f2) fun h_3 => StoreP h_3 (a.add 3) (.int .i64 f3) fun h_4 => StoreP h_4 (a.add 4) (.int .i64 f4) fun h_5 => StoreP h_5 (a.add 5) (.int .i64 f5) fun h_6 => K h_6
abbrev copies_Copy.LD (h : Heap) (a : Addr) (K : Int → Bool → Int → Int → ByteArray → ByteArray → Option Addr → Nat → Nat → Int → Int → Int → Prop) : Prop := ∃ (t0 : Int), hcell h a = some (.int .i64 t0) ∧ ∃ (t1 : Bool), hcell h (a.add 1) = some (.bool t1) ∧ ∃ (t2 : Int), hcell h (a.add 2) = some (.int .u64 t2) ∧ ∃ (t3 : Int), hcell h (a.add 3) = some (.int .u64 t3) ∧ ∃ (t4 : ByteArray), hcell h (a.add 4) = some (.string t4) ∧ ∃ (t5 : ByteArray), hcell h (a.add 5) = some (.string t5) ∧ ∃ (t6p : Option Addr) (t6l t6c : Nat), hcell h (a.add 6) = some (.slice t6p t6l t6c) ∧ ∃ (t7 : Int), hcell h (a.add 7) = some (.int .u64 t7) ∧ ∃ (t8 : Int), hcell h (a.add 8) = some (.int .i64 t8) ∧ ∃ (t9 : Int), hcell h (a.add 9) = some (.int .u64 t9) ∧ K t0 t1 t2 t3 t4 t5 t6p t6l t6c t7 t8 t9
abbrev copies_Copy.ST (h : Heap) (a : Addr) (f0 : Int) (f1 : Bool) (f2 : Int) (f3 : Int) (f4 : ByteArray) (f5 : ByteArray) (f6p : Option Addr) (f6l f6c : Nat) (f7 : Int) (f8 : Int) (f9 : Int) (K : Heap → Prop) : Prop := StoreP h a (.int .i64 f0) fun h_1 => StoreP h_1 (a.add 1) (.bool f1) fun h_2 => StoreP h_2 (a.add 2) (.int .u64 f2) fun h_3 => StoreP h_3 (a.add 3) (.int .u64 f3) fun h_4 => StoreP h_4 (a.add 4) (.string f4) fun h_5 => StoreP h_5 (a.add 5) (.string f5) fun h_6 => StoreP h_6 (a.add 6) (.slice f6p f6l f6c) fun h_7 => StoreP h_7 (a.add 7) (.int .u64 f7) fun h_8 => StoreP h_8 (a.add 8) (.int .i64 f8) fun h_9 => StoreP h_9 (a.add 9) (.int .u64 f9) fun h_10 => K h_10
abbrev eid_Eid.LD (h : Heap) (a : Addr) (K : Bool → Int → Int → ByteArray → ByteArray → Prop) : Prop := ∃ (t0 : Bool), hcell h a = some (.bool t0) ∧ ∃ (t1 : Int), hcell h (a.add 1) = some (.int .u64 t1) ∧ ∃ (t2 : Int), hcell h (a.add 2) = some (.int .u64 t2) ∧ ∃ (t3 : ByteArray), hcell h (a.add 3) = some (.string t3) ∧ ∃ (t4 : ByteArray), hcell h (a.add 4) = some (.string t4) ∧ K t0 t1 t2 t3 t4
abbrev eid_Eid.ST (h : Heap) (a : Addr) (f0 : Bool) (f1 : Int) (f2 : Int) (f3 : ByteArray) (f4 : ByteArray) (K : Heap → Prop) : Prop := StoreP h a (.bool f0) fun h_1 => StoreP h_1 (a.add 1) (.int .u64 f1) fun h_2 => StoreP h_2 (a.add 2) (.int .u64 f2) fun h_3 => StoreP h_3 (a.add 3) (.string f3) fun h_4 => StoreP h_4 (a.add 4) (.string f4) fun h_5 => K h_5
abbrev law21_Op.LD (h : Heap) (a : Addr) (K : Int → Int → Int → Bool → Int → Int → ByteArray → ByteArray → Option Addr → Nat → Nat → Int → Prop) : Prop := ∃ (t0 : Int), hcell h a = some (.int .i64 t0) ∧ ∃ (t1 : Int), hcell h (a.add 1) = some (.int .i64 t1) ∧ ∃ (t2 : Int), hcell h (a.add 2) = some (.int .i64 t2) ∧ ∃ (t3 : Bool), hcell h (a.add 3) = some (.bool t3) ∧ ∃ (t4 : Int), hcell h (a.add 4) = some (.int .u64 t4) ∧ ∃ (t5 : Int), hcell h (a.add 5) = some (.int .u64 t5) ∧ ∃ (t6 : ByteArray), hcell h (a.add 6) = some (.string t6) ∧ ∃ (t7 : ByteArray), hcell h (a.add 7) = some (.string t7) ∧ ∃ (t8p : Option Addr) (t8l t8c : Nat), hcell h (a.add 8) = some (.slice t8p t8l t8c) ∧ ∃ (t9 : Int), hcell h (a.add 9) = some (.int .u64 t9) ∧ K t0 t1 t2 t3 t4 t5 t6 t7 t8p t8l t8c t9
end Go.Proofs.YtgccegnmggjkjaaGreatDoor
set_option maxRecDepth 100000
set_option maxHeartbeats 4000000
namespace Go.Proofs.YtgccegnmggjkjaaGreatDoor
open Go.Den
variable {h : Heap} {R : Value → Heap → Prop}
def eid_Eid.at (h : Heap) (b : Nat) (f0 : Bool) (f1 : Int) (f2 : Int) (f3 : ByteArray) (f4 : ByteArray) : Prop := h[b]? = some (.cells #[.bool f0, .int .u64 f1, .int .u64 f2, .string f3, .string f4] T.eid_Eid (0, 0))
theorem eid_Eid.ld {h : Heap} {b : Nat} {f0 : Bool} {f1 : Int} {f2 : Int} {f3 : ByteArray} {f4 : ByteArray} {K : Bool → Int → Int → ByteArray → ByteArray → Prop} (hb : eid_Eid.at h b f0 f1 f2 f3 f4) (hk : K f0 f1 f2 f3 f4) : eid_Eid.LD h ⟨b, 0, none⟩ K :=
  ⟨_, cell_at hb rfl, _, cell_at hb rfl, _, cell_at hb rfl, _, cell_at hb rfl, _, cell_at hb rfl, hk⟩
theorem eid_Eid.held {h : Heap} {b : Nat} {f0 : Bool} {f1 : Int} {f2 : Int} {f3 : ByteArray} {f4 : ByteArray} (hb : eid_Eid.at h b f0 f1 f2 f3 f4) : heldL ⟨b, 0, none⟩ [.bool f0, .int .u64 f1, .int .u64 f2, .string f3, .string f4] 0 h :=
  heldL_blk hb (fun j v hj => by rw [Nat.zero_add]; simpa using hj)
theorem eid_Eid.stA {h : Heap} {a : Addr} {f0 : Bool} {f1 : Int} {f2 : Int} {f3 : ByteArray} {f4 : ByteArray} {K : Heap → Prop} (hk : storeL a [.bool f0, .int .u64 f1, .int .u64 f2, .string f3, .string f4] 0 h K) : eid_Eid.ST h a f0 f1 f2 f3 f4 K := hk
theorem eid_Eid.new {h : Heap} {f0 : Bool} {f1 : Int} {f2 : Int} {f3 : ByteArray} {f4 : ByteArray} {K : Nat → Heap → Prop} (hk : ∀ b h', b = h.size → eid_Eid.at h' b f0 f1 f2 f3 f4 → Fr (fun _ => False) h h' → K b h') : NewP h (.cells #[.bool false, .int .u64 0, .int .u64 0, .string (⟨#[]⟩ : ByteArray), .string (⟨#[]⟩ : ByteArray)] T.eid_Eid) fun b h_0 => eid_Eid.ST h_0 ⟨b, 0, none⟩ f0 f1 f2 f3 f4 (K b) :=
  new_full (vs := [.bool f0, .int .u64 f1, .int .u64 f2, .string f3, .string f4]) rfl rfl hk
theorem eid_Eid.box {h : Heap} {f0 : Bool} {f1 : Int} {f2 : Int} {f3 : ByteArray} {f4 : ByteArray} {K : Nat → Heap → Prop} (hk : ∀ b h', b = h.size → eid_Eid.at h' b f0 f1 f2 f3 f4 → Fr (fun _ => False) h h' → K b h') : NewP h (.cells #[.bool f0, .int .u64 f1, .int .u64 f2, .string f3, .string f4] T.eid_Eid) fun b h_0 => K b h_0 :=
  newP_of (hk _ _ rfl push_new (Fr.push _ _))
theorem eid_Eid.set {h : Heap} {b : Nat} {g0 : Bool} {g1 : Int} {g2 : Int} {g3 : ByteArray} {g4 : ByteArray} {f0 : Bool} {f1 : Int} {f2 : Int} {f3 : ByteArray} {f4 : ByteArray} {K : Heap → Prop} (a0 : eid_Eid.at h b g0 g1 g2 g3 g4) (hk : ∀ h', eid_Eid.at h' b f0 f1 f2 f3 f4 → h'.size = h.size → (∀ x, x ≠ b → h'[x]? = h[x]?) → K h') : eid_Eid.ST h ⟨b, 0, none⟩ f0 f1 f2 f3 f4 K :=
  eid_Eid.stA (storeL_full a0 rfl rfl hk)
def copies_Copy.at (h : Heap) (b : Nat) (f0 : Int) (f1 : Bool) (f2 : Int) (f3 : Int) (f4 : ByteArray) (f5 : ByteArray) (f6p : Option Addr) (f6l f6c : Nat) (f7 : Int) (f8 : Int) (f9 : Int) : Prop := h[b]? = some (.cells #[.int .i64 f0, .bool f1, .int .u64 f2, .int .u64 f3, .string f4, .string f5, .slice f6p f6l f6c, .int .u64 f7, .int .i64 f8, .int .u64 f9] T.copies_Copy (0, 0))
theorem copies_Copy.ld {h : Heap} {b : Nat} {f0 : Int} {f1 : Bool} {f2 : Int} {f3 : Int} {f4 : ByteArray} {f5 : ByteArray} {f6p : Option Addr} {f6l f6c : Nat} {f7 : Int} {f8 : Int} {f9 : Int} {K : Int → Bool → Int → Int → ByteArray → ByteArray → Option Addr → Nat → Nat → Int → Int → Int → Prop} (hb : copies_Copy.at h b f0 f1 f2 f3 f4 f5 f6p f6l f6c f7 f8 f9) (hk : K f0 f1 f2 f3 f4 f5 f6p f6l f6c f7 f8 f9) : copies_Copy.LD h ⟨b, 0, none⟩ K :=
  ⟨_, cell_at hb rfl, _, cell_at hb rfl, _, cell_at hb rfl, _, cell_at hb rfl, _, cell_at hb rfl, _, cell_at hb rfl, _, _, _, cell_at hb rfl, _, cell_at hb rfl, _, cell_at hb rfl, _, cell_at hb rfl, hk⟩
theorem copies_Copy.stA {h : Heap} {a : Addr} {f0 : Int} {f1 : Bool} {f2 : Int} {f3 : Int} {f4 : ByteArray} {f5 : ByteArray} {f6p : Option Addr} {f6l f6c : Nat} {f7 : Int} {f8 : Int} {f9 : Int} {K : Heap → Prop} (hk : storeL a [.int .i64 f0, .bool f1, .int .u64 f2, .int .u64 f3, .string f4, .string f5, .slice f6p f6l f6c, .int .u64 f7, .int .i64 f8, .int .u64 f9] 0 h K) : copies_Copy.ST h a f0 f1 f2 f3 f4 f5 f6p f6l f6c f7 f8 f9 K := hk
theorem copies_Copy.new {h : Heap} {f0 : Int} {f1 : Bool} {f2 : Int} {f3 : Int} {f4 : ByteArray} {f5 : ByteArray} {f6p : Option Addr} {f6l f6c : Nat} {f7 : Int} {f8 : Int} {f9 : Int} {K : Nat → Heap → Prop} (hk : ∀ b h', b = h.size → copies_Copy.at h' b f0 f1 f2 f3 f4 f5 f6p f6l f6c f7 f8 f9 → Fr (fun _ => False) h h' → K b h') : NewP h (.cells #[.int .i64 0, .bool false, .int .u64 0, .int .u64 0, .string (⟨#[]⟩ : ByteArray), .string (⟨#[]⟩ : ByteArray), .slice none 0 0, .int .u64 0, .int .i64 0, .int .u64 0] T.copies_Copy) fun b h_0 => copies_Copy.ST h_0 ⟨b, 0, none⟩ f0 f1 f2 f3 f4 f5 f6p f6l f6c f7 f8 f9 (K b) :=
  new_full (vs := [.int .i64 f0, .bool f1, .int .u64 f2, .int .u64 f3, .string f4, .string f5, .slice f6p f6l f6c, .int .u64 f7, .int .i64 f8, .int .u64 f9]) rfl rfl hk
theorem copies_Copy.box {h : Heap} {f0 : Int} {f1 : Bool} {f2 : Int} {f3 : Int} {f4 : ByteArray} {f5 : ByteArray} {f6p : Option Addr} {f6l f6c : Nat} {f7 : Int} {f8 : Int} {f9 : Int} {K : Nat → Heap → Prop} (hk : ∀ b h', b = h.size → copies_Copy.at h' b f0 f1 f2 f3 f4 f5 f6p f6l f6c f7 f8 f9 → Fr (fun _ => False) h h' → K b h') : NewP h (.cells #[.int .i64 f0, .bool f1, .int .u64 f2, .int .u64 f3, .string f4, .string f5, .slice f6p f6l f6c, .int .u64 f7, .int .i64 f8, .int .u64 f9] T.copies_Copy) fun b h_0 => K b h_0 :=
  newP_of (hk _ _ rfl push_new (Fr.push _ _))
theorem copies_Copy.set {h : Heap} {b : Nat} {g0 : Int} {g1 : Bool} {g2 : Int} {g3 : Int} {g4 : ByteArray} {g5 : ByteArray} {g6p : Option Addr} {g6l g6c : Nat} {g7 : Int} {g8 : Int} {g9 : Int} {f0 : Int} {f1 : Bool} {f2 : Int} {f3 : Int} {f4 : ByteArray} {f5 : ByteArray} {f6p : Option Addr} {f6l f6c : Nat} {f7 : Int} {f8 : Int} {f9 : Int} {K : Heap → Prop} (a0 : copies_Copy.at h b g0 g1 g2 g3 g4 g5 g6p g6l g6c g7 g8 g9) (hk : ∀ h', copies_Copy.at h' b f0 f1 f2 f3 f4 f5 f6p f6l f6c f7 f8 f9 → h'.size = h.size → (∀ x, x ≠ b → h'[x]? = h[x]?) → K h') : copies_Copy.ST h ⟨b, 0, none⟩ f0 f1 f2 f3 f4 f5 f6p f6l f6c f7 f8 f9 K :=
  copies_Copy.stA (storeL_full a0 rfl rfl hk)
def a6_int.at (h : Heap) (b : Nat) (f0 : Int) (f1 : Int) (f2 : Int) (f3 : Int) (f4 : Int) (f5 : Int) : Prop := h[b]? = some (.cells #[.int .i64 f0, .int .i64 f1, .int .i64 f2, .int .i64 f3, .int .i64 f4, .int .i64 f5] T.a6_int (0, 0))
theorem a6_int.ld {h : Heap} {b : Nat} {f0 : Int} {f1 : Int} {f2 : Int} {f3 : Int} {f4 : Int} {f5 : Int} {K : Int → Int → Int → Int → Int → Int → Prop} (hb : a6_int.at h b f0 f1 f2 f3 f4 f5) (hk : K f0 f1 f2 f3 f4 f5) : a6_int.LD h ⟨b, 0, none⟩ K :=
  ⟨_, cell_at hb rfl, _, cell_at hb rfl, _, cell_at hb rfl, _, cell_at hb rfl, _, cell_at hb rfl, _, cell_at hb rfl, hk⟩
theorem a6_int.stA {h : Heap} {a : Addr} {f0 : Int} {f1 : Int} {f2 : Int} {f3 : Int} {f4 : Int} {f5 : Int} {K : Heap → Prop} (hk : storeL a [.int .i64 f0, .int .i64 f1, .int .i64 f2, .int .i64 f3, .int .i64 f4, .int .i64 f5] 0 h K) : a6_int.ST h a f0 f1 f2 f3 f4 f5 K := hk
theorem a6_int.box {h : Heap} {f0 : Int} {f1 : Int} {f2 : Int} {f3 : Int} {f4 : Int} {f5 : Int} {K : Nat → Heap → Prop} (hk : ∀ b h', b = h.size → a6_int.at h' b f0 f1 f2 f3 f4 f5 → Fr (fun _ => False) h h' → K b h') : NewP h (.cells #[.int .i64 f0, .int .i64 f1, .int .i64 f2, .int .i64 f3, .int .i64 f4, .int .i64 f5] T.a6_int) fun b h_0 => K b h_0 :=
  newP_of (hk _ _ rfl push_new (Fr.push _ _))
theorem a6_int.set {h : Heap} {b : Nat} {g0 : Int} {g1 : Int} {g2 : Int} {g3 : Int} {g4 : Int} {g5 : Int} {f0 : Int} {f1 : Int} {f2 : Int} {f3 : Int} {f4 : Int} {f5 : Int} {K : Heap → Prop} (a0 : a6_int.at h b g0 g1 g2 g3 g4 g5) (hk : ∀ h', a6_int.at h' b f0 f1 f2 f3 f4 f5 → h'.size = h.size → (∀ x, x ≠ b → h'[x]? = h[x]?) → K h') : a6_int.ST h ⟨b, 0, none⟩ f0 f1 f2 f3 f4 f5 K :=
  a6_int.stA (storeL_full a0 rfl rfl hk)
def law21_Op.at (h : Heap) (b : Nat) (f0 : Int) (f1 : Int) (f2 : Int) (f3 : Bool) (f4 : Int) (f5 : Int) (f6 : ByteArray) (f7 : ByteArray) (f8p : Option Addr) (f8l f8c : Nat) (f9 : Int) : Prop := h[b]? = some (.cells #[.int .i64 f0, .int .i64 f1, .int .i64 f2, .bool f3, .int .u64 f4, .int .u64 f5, .string f6, .string f7, .slice f8p f8l f8c, .int .u64 f9] T.law21_Op (0, 0))
theorem law21_Op.ldA {h : Heap} {a : Addr} {f0 : Int} {f1 : Int} {f2 : Int} {f3 : Bool} {f4 : Int} {f5 : Int} {f6 : ByteArray} {f7 : ByteArray} {f8p : Option Addr} {f8l f8c : Nat} {f9 : Int} {K : Int → Int → Int → Bool → Int → Int → ByteArray → ByteArray → Option Addr → Nat → Nat → Int → Prop} (hb : heldL a [.int .i64 f0, .int .i64 f1, .int .i64 f2, .bool f3, .int .u64 f4, .int .u64 f5, .string f6, .string f7, .slice f8p f8l f8c, .int .u64 f9] 0 h) (hk : K f0 f1 f2 f3 f4 f5 f6 f7 f8p f8l f8c f9) : law21_Op.LD h a K := by
  obtain ⟨q0, q1, q2, q3, q4, q5, q6, q7, q8, q9, _⟩ := hb
  rw [add_zero_addr] at q0
  exact ⟨_, q0, _, q1, _, q2, _, q3, _, q4, _, q5, _, q6, _, q7, _, _, _, q8, _, q9, hk⟩
theorem law21_Op.box {h : Heap} {f0 : Int} {f1 : Int} {f2 : Int} {f3 : Bool} {f4 : Int} {f5 : Int} {f6 : ByteArray} {f7 : ByteArray} {f8p : Option Addr} {f8l f8c : Nat} {f9 : Int} {K : Nat → Heap → Prop} (hk : ∀ b h', b = h.size → law21_Op.at h' b f0 f1 f2 f3 f4 f5 f6 f7 f8p f8l f8c f9 → Fr (fun _ => False) h h' → K b h') : NewP h (.cells #[.int .i64 f0, .int .i64 f1, .int .i64 f2, .bool f3, .int .u64 f4, .int .u64 f5, .string f6, .string f7, .slice f8p f8l f8c, .int .u64 f9] T.law21_Op) fun b h_0 => K b h_0 :=
  newP_of (hk _ _ rfl push_new (Fr.push _ _))
end Go.Proofs.YtgccegnmggjkjaaGreatDoor
set_option maxRecDepth 100000
set_option maxHeartbeats 4000000
namespace Go.Proofs.YtgccegnmggjkjaaGreatDoor
open Go.Den
variable {h : Heap} {R : Value → Heap → Prop}
theorem eid_plain.host.walk {s : ByteArray} (hv :
 denSem Tryz.prog (Instr.range T.string (.string s)) h fun v h_1 =>
 ∃ (it : Nat), v = .pointer (some ⟨it, 0, none⟩) ∧
 ∃ (I : Heap → Prop) (mu : Heap → Nat), I h_1 ∧ ∀ (h_2 : Heap), I h_2 →
 denSem Tryz.prog (Instr.next (.pointer (some ⟨it, 0, none⟩)) true T.tup_) h_2 fun v_1 h_3 =>
 (v_1 = .tuple #[.bool false] ∧
 R (.bool true) h_3) ∨
 (  ∃ (t9_k t9_v : Value), v_1 = .tuple #[.bool true, t9_k, t9_v] ∧
 ∃ t11, t9_v = .int .i32 t11 ∧
 JoinP (fun (t34 : Bool) (h_4 : Heap) =>
 if t34 = true then
 R (.bool false) h_4
 else
 (I h_4 ∧ mu h_4 < mu h_2))
 (fun J =>
 if (decide (t11 < 97)) = true then
 if (decide (t11 < 48)) = true then
 if (t11 != 45) = true then
 J (t11 != 45) h_3
 else
 J false h_3
 else
 if (decide (t11 > 57)) = true then
 if (t11 != 45) = true then
 J (t11 != 45) h_3
 else
 J false h_3
 else
 J false h_3
 else
 if (decide (t11 > 122)) = true then
 if (decide (t11 < 48)) = true then
 if (t11 != 45) = true then
 J (t11 != 45) h_3
 else
 J false h_3
 else
 if (decide (t11 > 57)) = true then
 if (t11 != 45) = true then
 J (t11 != 45) h_3
 else
 J false h_3
 else
 J false h_3
 else
 J false h_3))) : CallsH Tryz.prog F.eid_plain #[.string s, .int .i32 45] h R :=
 callsH_of_body (.seq .leaf (.seq (.seq .leaf (.block (.loop [] (.seq .leaf (.seq (.cond .leaf .leaf) (.block (.seq (.typed [(11, .one (.int .i32))]) (.seq (.join [(34, .one (.bool))] .leaf) (.cond (.seq .leaf .leaf) .leaf))))))))) (.seq .leaf .leaf))) Tryz.func187 rfl rfl (Eq.mp (by kernel_rfl) hv)
theorem eid_plain.demux.walk {s : ByteArray} (hv :
 denSem Tryz.prog (Instr.range T.string (.string s)) h fun v h_1 =>
 ∃ (it : Nat), v = .pointer (some ⟨it, 0, none⟩) ∧
 ∃ (I : Heap → Prop) (mu : Heap → Nat), I h_1 ∧ ∀ (h_2 : Heap), I h_2 →
 denSem Tryz.prog (Instr.next (.pointer (some ⟨it, 0, none⟩)) true T.tup_) h_2 fun v_1 h_3 =>
 (v_1 = .tuple #[.bool false] ∧
 R (.bool true) h_3) ∨
 (  ∃ (t9_k t9_v : Value), v_1 = .tuple #[.bool true, t9_k, t9_v] ∧
 ∃ t11, t9_v = .int .i32 t11 ∧
 JoinP (fun (t34 : Bool) (h_4 : Heap) =>
 if t34 = true then
 R (.bool false) h_4
 else
 (I h_4 ∧ mu h_4 < mu h_2))
 (fun J =>
 if (decide (t11 < 97)) = true then
 if (decide (t11 < 48)) = true then
 if (t11 != 45) = true then
 J (t11 != 47) h_3
 else
 J false h_3
 else
 if (decide (t11 > 57)) = true then
 if (t11 != 45) = true then
 J (t11 != 47) h_3
 else
 J false h_3
 else
 J false h_3
 else
 if (decide (t11 > 122)) = true then
 if (decide (t11 < 48)) = true then
 if (t11 != 45) = true then
 J (t11 != 47) h_3
 else
 J false h_3
 else
 if (decide (t11 > 57)) = true then
 if (t11 != 45) = true then
 J (t11 != 47) h_3
 else
 J false h_3
 else
 J false h_3
 else
 J false h_3))) : CallsH Tryz.prog F.eid_plain #[.string s, .int .i32 47] h R :=
 callsH_of_body (.seq .leaf (.seq (.seq .leaf (.block (.loop [] (.seq .leaf (.seq (.cond .leaf .leaf) (.block (.seq (.typed [(11, .one (.int .i32))]) (.seq (.join [(34, .one (.bool))] .leaf) (.cond (.seq .leaf .leaf) .leaf))))))))) (.seq .leaf .leaf))) Tryz.func187 rfl rfl (Eq.mp (by kernel_rfl) hv)
theorem eid_Right.walk {x_0 : Bool} {x_1 : Int} {x_2 : Int} {x_3 : ByteArray} {x_4 : ByteArray} (hv :
 NewP h (.cells #[.bool x_0, .int .u64 x_1, .int .u64 x_2, .string x_3, .string x_4] T.eid_Eid) fun b h_1 =>
 eid_Eid.LD h_1 ⟨b, 0, none⟩ fun t4_0 t4_1 t4_2 t4_3 t4_4 =>
 ∃ (eq : Bool), EqV Tryz.prog T.eid_Eid (.agg #[.bool t4_0, .int .u64 t4_1, .int .u64 t4_2, .string t4_3, .string t4_4]) (.agg #[.bool false, .int .u64 0, .int .u64 0, .string (⟨#[]⟩ : ByteArray), .string (⟨#[]⟩ : ByteArray)]) eq ∧
 if eq = true then
 R (.bool true) h_1
 else
 ∃ t9, hcell h_1 ⟨b, 0, none⟩ = some (.bool t9) ∧
 if t9 = true then
 eid_Eid.LD h_1 ⟨b, 0, none⟩ fun t10_0 t10_1 t10_2 t10_3 t10_4 =>
 ∃ t12, hcell h_1 ⟨b, 1, none⟩ = some (.int .u64 t12) ∧
 ∃ t14, hcell h_1 ⟨b, 2, none⟩ = some (.int .u64 t14) ∧
 ∃ (eq_1 : Bool), EqV Tryz.prog T.eid_Eid (.agg #[.bool t10_0, .int .u64 t10_1, .int .u64 t10_2, .string t10_3, .string t10_4]) (.agg #[.bool true, .int .u64 t12, .int .u64 t14, .string (⟨#[]⟩ : ByteArray), .string (⟨#[]⟩ : ByteArray)]) eq_1 ∧
 if eq_1 = true then
 ∃ t19, hcell h_1 ⟨b, 1, none⟩ = some (.int .u64 t19) ∧
 if (decide (t19 ≥ 1)) = true then
 ∃ t24, hcell h_1 ⟨b, 1, none⟩ = some (.int .u64 t24) ∧
 if (decide (t24 ≤ 4294967295)) = true then
 ∃ t29, hcell h_1 ⟨b, 2, none⟩ = some (.int .u64 t29) ∧
 R (.bool (decide (t29 ≤ 4294967295))) h_1
 else
 R (.bool false) h_1
 else
 R (.bool false) h_1
 else
 R (.bool false) h_1
 else
 eid_Eid.LD h_1 ⟨b, 0, none⟩ fun t32_0 t32_1 t32_2 t32_3 t32_4 =>
 ∃ t34, hcell h_1 ⟨b, 3, none⟩ = some (.string t34) ∧
 ∃ t36, hcell h_1 ⟨b, 4, none⟩ = some (.string t36) ∧
 ∃ (eq_2 : Bool), EqV Tryz.prog T.eid_Eid (.agg #[.bool t32_0, .int .u64 t32_1, .int .u64 t32_2, .string t32_3, .string t32_4]) (.agg #[.bool false, .int .u64 0, .int .u64 0, .string t34, .string t36]) eq_2 ∧
 if eq_2 = true then
 ∃ t41, hcell h_1 ⟨b, 3, none⟩ = some (.string t41) ∧
 if (decide (((t41.size : Nat) : Int) ≥ 1)) = true then
 ∃ t47, hcell h_1 ⟨b, 3, none⟩ = some (.string t47) ∧
 if (decide (((t47.size : Nat) : Int) ≤ 16)) = true then
 ∃ t53, hcell h_1 ⟨b, 4, none⟩ = some (.string t53) ∧
 if (decide (((t53.size : Nat) : Int) ≤ 24)) = true then
 ∃ t59, hcell h_1 ⟨b, 3, none⟩ = some (.string t59) ∧
 Cl F.eid_plain #[.string t59, .int .i32 45] h_1 fun v h_2 =>
 ∃ t60, v = .bool t60 ∧
 if t60 = true then
 ∃ t64, hcell h_2 ⟨b, 4, none⟩ = some (.string t64) ∧
 Cl F.eid_plain #[.string t64, .int .i32 47] h_2 fun v_1 h_3 =>
 ∃ t65, v_1 = .bool t65 ∧
 R (.bool t65) h_3
 else
 R (.bool false) h_2
 else
 R (.bool false) h_1
 else
 R (.bool false) h_1
 else
 R (.bool false) h_1
 else
 R (.bool false) h_1) : CallsH Tryz.prog F.eid_Right #[.agg #[.bool x_0, .int .u64 x_1, .int .u64 x_2, .string x_3, .string x_4]] h R :=
 callsH_of_body (.seq .leaf (.seq (.block (.seq .leaf (.cond (.seq .leaf .leaf) (.seq .leaf (.cond (.seq .leaf .leaf) .leaf))))) (.seq .leaf .leaf))) Tryz.func145 rfl rfl (Eq.mp (by kernel_rfl) hv)
end Go.Proofs.YtgccegnmggjkjaaGreatDoor
set_option maxRecDepth 100000
namespace Go.Proofs.YtgccegnmggjkjaaGreatDoor
open Go.Den
namespace Eid
theorem ba_beq {a b : ByteArray} : (a == b) = true ↔ a = b := by
  obtain ⟨a⟩ := a
  obtain ⟨b⟩ := b
  constructor
  · intro h
    have h : (a == b) = true := h
    rw [eq_of_beq h]
  · intro h
    cases h
    show (a == a) = true
    simp
structure Ev where
  ipn : Bool
  node : Int
  svc : Int
  host : ByteArray
  dem : ByteArray
theorem Ev.ext' {x y : Ev} (h0 : x.ipn = y.ipn) (h1 : x.node = y.node) (h2 : x.svc = y.svc) (h3 : x.host = y.host) (h4 : x.dem = y.dem) : x = y := by
  cases x; cases y; simp at h0 h1 h2 h3 h4; simp [h0, h1, h2, h3, h4]
def eqB (x y : Ev) : Bool := x.ipn == y.ipn && (x.node == y.node && (x.svc == y.svc && (x.host == y.host && (x.dem == y.dem && true))))
theorem eqB_iff {x y : Ev} : eqB x y = true ↔ x = y := by
  unfold eqB
  simp only [Bool.and_eq_true, beq_iff_eq, ba_beq, and_true]
  constructor
  · rintro ⟨h0, h1, h2, h3, h4⟩; exact Ev.ext' h0 h1 h2 h3 h4
  · rintro rfl; simp
instance : DecidableEq Ev := fun x y => decidable_of_iff (eqB x y = true) eqB_iff
theorem eqB_dec (x y : Ev) : eqB x y = decide (x = y) := by
  by_cases h : x = y
  · rw [decide_eq_true h]; exact eqB_iff.2 h
  · rw [decide_eq_false h]
    cases hb : eqB x y
    · rfl
    · exact absurd (eqB_iff.1 hb) h
def ev5 (x : Ev) : Value := .agg #[.bool x.ipn, .int .u64 x.node, .int .u64 x.svc, .string x.host, .string x.dem]
def Ev.zero : Ev := ⟨false, 0, 0, ⟨#[]⟩, ⟨#[]⟩⟩
theorem eqv (x y : Ev) : EqV Tryz.prog T.eid_Eid (ev5 x) (ev5 y) (decide (x = y)) := by
  rw [← eqB_dec]
  exact EqV.of (by unfold eqB; kernel_rfl)
theorem eqv' {x y : Ev} {a b : Value} (ha : a = ev5 x) (hb : b = ev5 y) : EqV Tryz.prog T.eid_Eid a b (decide (x = y)) := by subst ha hb; exact eqv x y
theorem chk (e : Bool) (a : Ev) (h : Heap) : rd Tryz.prog (Instr.checkKey e 10000 T.eid_Eid (ev5 a)) h = some () := by kernel_rfl
theorem under : (Tryz.prog.underlying T.eid_Eid).isSome = true := by kernel_rfl
theorem key : KeyOk Tryz.prog T.eid_Eid ev5 := ⟨eqv, chk, by
  obtain ⟨d, h⟩ := Option.isSome_iff_exists.1 under
  exact ⟨d, h, fun a b => .inl (by unfold ev5; cases d <;> rfl)⟩, fun a => by unfold ev5; simp [Instr.sameBits, ba_beq.2]⟩
def pl (more c : UInt8) : Bool := (decide (97 ≤ c) && decide (c ≤ 122)) || (decide (48 ≤ c) && decide (c ≤ 57)) || c == 45 || c == more
def plainB (more : UInt8) (s : ByteArray) : Bool := s.data.toList.all (pl more)
def rightE (x : Ev) : Bool :=
  if x = .zero then true
  else if x.ipn = true then decide (x.host = ⟨#[]⟩ ∧ x.dem = ⟨#[]⟩ ∧ 1 ≤ x.node ∧ x.node ≤ 4294967295 ∧ x.svc ≤ 4294967295)
  else decide (x.node = 0 ∧ x.svc = 0 ∧ 1 ≤ x.host.size ∧ x.host.size ≤ 16 ∧ x.dem.size ≤ 24) && (plainB 45 x.host && plainB 47 x.dem)
variable {h : Heap} {R : Value → Heap → Prop}
theorem get_at {s : ByteArray} {i : Nat} (hi : i < s.size) : s.get! i = s.data.toList.getD i 0 := by
  have : i < s.data.size := hi
  show s.data[i]! = _
  have e : s.data.toList[i]? = some s.data[i] := by rw [Array.getElem?_toList]; exact Array.getElem?_eq_getElem this
  rw [getElem!_pos s.data i this, List.getD_eq_getElem?_getD, e]
  rfl
theorem decode_at (s : ByteArray) (i : Nat) (hi : i < s.size) : (s.data.toList.getD i 0 < 128 → Utf8.decode s i = ((s.data.toList.getD i 0).toNat, 1)) ∧ (¬ s.data.toList.getD i 0 < 128 → 128 ≤ (Utf8.decode s i).1) := by
  have e := get_at hi
  have e0 : (s.get! (i + 0)).toNat = (s.data.toList.getD i 0).toNat := by rw [Nat.add_zero, e]
  constructor
  · intro h
    have h : (s.data.toList.getD i 0).toNat < 128 := h
    unfold Utf8.decode
    simp only [e0]
    rw [if_pos h]
  · intro h
    have h : ¬ (s.data.toList.getD i 0).toNat < 128 := h
    unfold Utf8.decode
    simp only [e0]
    rw [if_neg h]
    split
    · split
      · omega
      · show 128 ≤ Utf8.runeError; decide
    · split
      · split
        · rename_i hc; simp only [Bool.and_eq_true, decide_eq_true_eq] at hc; show 128 ≤ _; omega
        · show 128 ≤ Utf8.runeError; decide
      · split
        · split
          · rename_i hc; simp only [Bool.and_eq_true, decide_eq_true_eq] at hc; show 128 ≤ _; omega
          · show 128 ≤ Utf8.runeError; decide
        · show 128 ≤ Utf8.runeError; decide
def np (more : Int) (c : Int) : Bool := (decide (c < 97) || decide (c > 122)) && ((decide (c < 48) || decide (c > 57)) && ((c != 45) && (c != more)))
theorem np_big {more c : Int} (hm : more < 128) (h : 128 ≤ c) : np more c = true := by
  unfold np
  have h1 : c > 122 := by omega
  have h2 : c > 57 := by omega
  have h3 : c ≠ 45 := by omega
  have h4 : c ≠ more := by omega
  simp [h1, h2, h3, h4]
theorem np_pl (more : UInt8) (b : UInt8) : np (more.toNat : Int) (b.toNat : Int) = !pl more b := by
  have e1 : (b = 45) ↔ ((b.toNat : Int) = 45) := by
    constructor
    · rintro rfl; rfl
    · intro e; exact UInt8.toNat_inj.1 (by show b.toNat = 45; omega)
  have e2 : (b = more) ↔ ((b.toNat : Int) = (more.toNat : Int)) := by
    constructor
    · rintro rfl; rfl
    · intro e; exact UInt8.toNat_inj.1 (by omega)
  have e3 : (97 ≤ b) ↔ ¬ ((b.toNat : Int) < 97) := by rw [UInt8.le_iff_toNat_le]; show 97 ≤ b.toNat ↔ _; omega
  have e4 : (b ≤ 122) ↔ ¬ ((b.toNat : Int) > 122) := by rw [UInt8.le_iff_toNat_le]; show b.toNat ≤ 122 ↔ _; omega
  have e5 : (48 ≤ b) ↔ ¬ ((b.toNat : Int) < 48) := by rw [UInt8.le_iff_toNat_le]; show 48 ≤ b.toNat ↔ _; omega
  have e6 : (b ≤ 57) ↔ ¬ ((b.toNat : Int) > 57) := by rw [UInt8.le_iff_toNat_le]; show b.toNat ≤ 57 ↔ _; omega
  unfold np pl
  have e7 : (b == 45) = decide ((b.toNat : Int) = 45) := by by_cases q : b = 45 <;> simp [q, e1.symm]
  have e8 : (b == more) = decide ((b.toNat : Int) = (more.toNat : Int)) := by
    by_cases q : b = more
    · simp [q]
    · have : ¬ ((b.toNat : Int) = (more.toNat : Int)) := fun e => q (e2.2 e)
      rw [decide_eq_false this]; simp [q]
  rw [e7, e8]
  simp only [e3, e4, e5, e6]
  by_cases q1 : (b.toNat : Int) < 97 <;> by_cases q2 : (b.toNat : Int) > 122 <;> by_cases q3 : (b.toNat : Int) < 48 <;> by_cases q4 : (b.toNat : Int) > 57 <;> by_cases q5 : (b.toNat : Int) = 45 <;> by_cases q6 : (b.toNat : Int) = (more.toNat : Int) <;> simp [q1, q2, q3, q4, q5, q6]
end Eid
end Go.Proofs.YtgccegnmggjkjaaGreatDoor
set_option maxRecDepth 100000
namespace Go.Proofs.YtgccegnmggjkjaaGreatDoor
open Go.Den
namespace Eid
variable {h h' : Heap} {R : Value → Heap → Prop}
theorem byte_at {s : ByteArray} {pos : Nat} (hp : pos < s.size) : s.data.toList[pos]? = some (s.data.toList.getD pos 0) := by
  have : pos < s.data.toList.length := hp
  rw [List.getD_eq_getElem?_getD, List.getElem?_eq_getElem this]; rfl
theorem pl_lt {more b : UInt8} (hm : more.toNat < 128) (h : pl more b = true) : b < 128 := by
  show b.toNat < 128
  by_cases hb : b.toNat < 128
  · exact hb
  · have h1 := np_big (more := (more.toNat : Int)) (c := (b.toNat : Int)) (by omega) (by omega)
    rw [np_pl, h] at h1; cases h1
theorem np_false {more : UInt8} {s : ByteArray} {pos : Nat} (hm : more.toNat < 128) (hp : pos < s.size) (h : np (more.toNat : Int) ((Utf8.decode s pos).1 : Int) = false) :
    pl more (s.data.toList.getD pos 0) = true ∧ (Utf8.decode s pos).2 = 1 := by
  obtain ⟨h1, h2⟩ := decode_at s pos hp
  by_cases hb : s.data.toList.getD pos 0 < 128
  · rw [h1 hb] at h ⊢
    rw [np_pl] at h
    exact ⟨by simpa using h, rfl⟩
  · have := np_big (more := (more.toNat : Int)) (c := ((Utf8.decode s pos).1 : Int)) (by omega) (by have := h2 hb; omega)
    rw [this] at h; cases h
theorem np_true {more : UInt8} {s : ByteArray} {pos : Nat} (hm : more.toNat < 128) (hp : pos < s.size) (h : np (more.toNat : Int) ((Utf8.decode s pos).1 : Int) = true) : plainB more s = false := by
  cases hb : plainB more s with
  | false => rfl
  | true =>
    have hp2 := List.all_eq_true.1 hb _ (List.mem_of_getElem? (byte_at hp))
    obtain ⟨h1, _⟩ := decode_at s pos hp
    rw [h1 (pl_lt hm hp2), np_pl, hp2] at h
    cases h
theorem plain_loop {more : UInt8} {s : ByteArray} {it : Nat} {ty : TypeId} {h0 h1 : Heap} (hm : more.toNat < 128) (hit : h1[it]? = some (.stringIter s 0)) (hge : h0.size ≤ it) (f1 : Fr (fun _ => False) h0 h1) (hk : ∀ h', Fr (fun _ => False) h0 h' → R (.bool (plainB more s)) h') :
    ∃ (I : Heap → Prop) (mu : Heap → Nat), I h1 ∧ ∀ g, I g → denSem Tryz.prog (Instr.next (.pointer (some ⟨it, 0, none⟩)) true ty) g fun v g1 =>
      (v = .tuple #[.bool false] ∧ R (.bool true) g1) ∨ ∃ (a b : Value), v = .tuple #[.bool true, a, b] ∧ ∃ (c : Int), b = .int .i32 c ∧ if np (more.toNat : Int) c = true then R (.bool false) g1 else (I g1 ∧ mu g1 < mu g) := by
  refine ⟨fun g => ∃ pos, g[it]? = some (.stringIter s pos) ∧ Fr (fun _ => False) h0 g ∧ pos ≤ s.size ∧ (s.data.toList.take pos).all (pl more) = true, fun g => (match g[it]? with | some (.stringIter _ p) => s.size - p | _ => 0), ⟨0, hit, f1, Nat.zero_le _, by simp⟩, ?_⟩
  rintro g ⟨pos, hg, fg, hle, hall⟩
  refine den_nextS hg (fun hend => .inl ⟨rfl, ?_⟩) (fun hlt g1 hg1 hs1 ho1 => .inr ⟨_, _, rfl, _, rfl, ?_⟩)
  · have : plainB more s = true := by
      unfold plainB
      rw [List.take_of_length_le (by show s.data.toList.length ≤ pos; exact hend)] at hall
      exact hall
    rw [← this]; exact hk g fg
  · have fg1 : Fr (fun _ => False) h0 g1 := fg.fresh (S := fun c => c = it) ⟨by omega, fun c _ hn => ho1 c hn⟩ (fun c e => by omega)
    cases hn : np (more.toNat : Int) ((Utf8.decode s pos).1 : Int) with
    | true =>
      rw [if_pos rfl, ← np_true hm hlt hn]; exact hk g1 fg1
    | false =>
      rw [if_neg (by simp)]
      obtain ⟨h1, h2⟩ := np_false hm hlt hn
      rw [h2] at hg1
      refine ⟨⟨pos + 1, hg1, fg1, hlt, ?_⟩, ?_⟩
      · rw [List.take_add_one, byte_at hlt, List.all_append, hall]
        show (true && (pl more (s.data.toList.getD pos 0) && true)) = true
        rw [h1]; rfl
      · simp only [hg, hg1]; omega
theorem plain_host {s : ByteArray} (hk : ∀ h', Fr (fun _ => False) h h' → R (.bool (plainB 45 s)) h') : CallsH Tryz.prog F.eid_plain #[.string s, .int .i32 45] h R := by
  refine eid_plain.host.walk (den_rangeS (by kernel_rfl) fun r h1 hr hit f1 => ⟨_, rfl, ?_⟩)
  obtain ⟨I, mu, h2, h3⟩ := plain_loop (more := 45) (ty := T.tup_) (by decide) hit (by omega) f1 hk
  refine ⟨I, mu, h2, fun g hg => denSem_mono _ _ (fun v g1 hv => ?_) (h3 g hg)⟩
  rcases hv with hv | ⟨a, b, e, c, e2, hv⟩
  · exact .inl hv
  · refine .inr ⟨a, b, e, c, e2, JoinP.of fun J hJ => ?_⟩
    have key : J (np 45 c) g1 := by subst hJ; exact hv
    clear hJ hv
    unfold np at key
    revert key
    generalize decide (c < 97) = b1
    generalize decide (c > 122) = b2
    generalize decide (c < 48) = b3
    generalize decide (c > 57) = b4
    generalize (c != 45) = b5
    intro key
    cases b1 <;> cases b2 <;> cases b3 <;> cases b4 <;> cases b5 <;> exact key
theorem plain_demux {s : ByteArray} (hk : ∀ h', Fr (fun _ => False) h h' → R (.bool (plainB 47 s)) h') : CallsH Tryz.prog F.eid_plain #[.string s, .int .i32 47] h R := by
  refine eid_plain.demux.walk (den_rangeS (by kernel_rfl) fun r h1 hr hit f1 => ⟨_, rfl, ?_⟩)
  obtain ⟨I, mu, h2, h3⟩ := plain_loop (more := 47) (ty := T.tup_) (by decide) hit (by omega) f1 hk
  refine ⟨I, mu, h2, fun g hg => denSem_mono _ _ (fun v g1 hv => ?_) (h3 g hg)⟩
  rcases hv with hv | ⟨a, b, e, c, e2, hv⟩
  · exact .inl hv
  · refine .inr ⟨a, b, e, c, e2, JoinP.of fun J hJ => ?_⟩
    have key : J (np 47 c) g1 := by subst hJ; exact hv
    clear hJ hv
    unfold np at key
    revert key
    generalize decide (c < 97) = b1
    generalize decide (c > 122) = b2
    generalize decide (c < 48) = b3
    generalize decide (c > 57) = b4
    generalize (c != 45) = b5
    generalize (c != 47) = b6
    intro key
    cases b1 <;> cases b2 <;> cases b3 <;> cases b4 <;> cases b5 <;> cases b6 <;> exact key
abbrev Ev.at (h : Heap) (b : Nat) (x : Ev) : Prop := eid_Eid.at h b x.ipn x.node x.svc x.host x.dem
theorem right_ok (x : Ev) (hk : ∀ h', Fr (fun _ => False) h h' → R (.bool (rightE x)) h') : CallsH Tryz.prog F.eid_Right #[.agg #[.bool x.ipn, .int .u64 x.node, .int .u64 x.svc, .string x.host, .string x.dem]] h R := by
  refine eid_Right.walk (eid_Eid.box fun b h1 eb hb f1 => eid_Eid.ld hb ⟨_, eqv' (y := .zero) (x := x) rfl rfl, ?_⟩)
  have K := hk h1 f1
  unfold rightE at K
  by_cases h0 : x = .zero
  · rw [if_pos (decide_eq_true h0)]
    rw [if_pos h0] at K; exact K
  · rw [if_neg (by simpa using h0)]
    rw [if_neg h0] at K
    refine ⟨_, cell_at hb rfl, ?_⟩
    by_cases hi : x.ipn = true
    · rw [if_pos hi]
      rw [if_pos hi] at K
      refine eid_Eid.ld hb ⟨_, cell_at hb rfl, _, cell_at hb rfl, _, eqv' (y := ⟨true, x.node, x.svc, ⟨#[]⟩, ⟨#[]⟩⟩) (x := x) rfl rfl, ?_⟩
      by_cases he : x = ⟨true, x.node, x.svc, ⟨#[]⟩, ⟨#[]⟩⟩
      · have e1 : x.host = ⟨#[]⟩ := congrArg Ev.host he
        have e2 : x.dem = ⟨#[]⟩ := congrArg Ev.dem he
        rw [if_pos (decide_eq_true he)]
        refine ⟨_, cell_at hb rfl, ?_⟩
        by_cases q1 : x.node ≥ 1
        · rw [if_pos (decide_eq_true q1)]
          refine ⟨_, cell_at hb rfl, ?_⟩
          by_cases q2 : x.node ≤ 4294967295
          · rw [if_pos (decide_eq_true q2)]
            refine ⟨_, cell_at hb rfl, ?_⟩
            have q1' : 1 ≤ x.node := q1
            simp only [e1, e2, q1', q2, true_and] at K
            exact K
          · rw [if_neg (by simpa using q2)]
            simp only [q2, false_and, and_false, decide_false] at K; exact K
        · rw [if_neg (by simpa using q1)]
          have q1' : ¬ 1 ≤ x.node := q1
          simp only [q1', false_and, and_false, decide_false] at K; exact K
      · rw [if_neg (by simpa using he)]
        have : ¬ (x.host = ⟨#[]⟩ ∧ x.dem = ⟨#[]⟩ ∧ 1 ≤ x.node ∧ x.node ≤ 4294967295 ∧ x.svc ≤ 4294967295) := fun ⟨a, b, _⟩ => he (Ev.ext' hi rfl rfl a b)
        rw [decide_eq_false this] at K; exact K
    · have hi' : x.ipn = false := by simpa using hi
      rw [if_neg hi]
      rw [if_neg hi] at K
      refine eid_Eid.ld hb ⟨_, cell_at hb rfl, _, cell_at hb rfl, _, eqv' (y := ⟨false, 0, 0, x.host, x.dem⟩) (x := x) rfl rfl, ?_⟩
      by_cases he : x = ⟨false, 0, 0, x.host, x.dem⟩
      · have e1 : x.node = 0 := congrArg Ev.node he
        have e2 : x.svc = 0 := congrArg Ev.svc he
        rw [if_pos (decide_eq_true he)]
        refine ⟨_, cell_at hb rfl, ?_⟩
        simp only [e1, e2, true_and] at K
        by_cases q1 : 1 ≤ x.host.size
        · rw [if_pos (decide_eq_true (by omega))]
          refine ⟨_, cell_at hb rfl, ?_⟩
          by_cases q2 : x.host.size ≤ 16
          · rw [if_pos (decide_eq_true (by omega))]
            refine ⟨_, cell_at hb rfl, ?_⟩
            by_cases q3 : x.dem.size ≤ 24
            · rw [if_pos (decide_eq_true (by omega))]
              simp only [q1, q2, q3, and_self, decide_true, Bool.true_and] at K
              refine ⟨_, cell_at hb rfl, plain_host fun h2 f2 => ⟨_, rfl, ?_⟩⟩
              have hb2 := f2.get hb id
              by_cases q4 : plainB 45 x.host = true
              · rw [if_pos q4]
                refine ⟨_, cell_at hb2 rfl, plain_demux fun h3 f3 => ⟨_, rfl, ?_⟩⟩
                have := hk h3 (f1.tt (f2.tt f3))
                unfold rightE at this
                rw [if_neg h0, if_neg hi, q4] at this
                simp only [e1, e2, q1, q2, q3, and_self, decide_true, Bool.true_and] at this
                exact this
              · rw [if_neg q4]
                have := hk h2 (f1.tt f2)
                unfold rightE at this
                have q4 : plainB 45 x.host = false := by simpa using q4
                rw [if_neg h0, if_neg hi, q4] at this
                simp only [Bool.false_and, Bool.and_false] at this
                exact this
            · rw [if_neg (by simp; omega)]
              simp only [q3, and_false, decide_false, Bool.false_and] at K; exact K
          · rw [if_neg (by simp; omega)]
            simp only [q2, false_and, and_false, decide_false, Bool.false_and] at K; exact K
        · rw [if_neg (by simp; omega)]
          simp only [q1, false_and, and_false, decide_false, Bool.false_and] at K; exact K
      · rw [if_neg (by simpa using he)]
        have : ¬ (x.node = 0 ∧ x.svc = 0 ∧ 1 ≤ x.host.size ∧ x.host.size ≤ 16 ∧ x.dem.size ≤ 24) := fun ⟨a, b, _⟩ => he (Ev.ext' hi' a b rfl rfl)
        rw [decide_eq_false this, Bool.false_and] at K; exact K
theorem bytes_eq {a b : ByteArray} : (a.toList == b.toList) = true ↔ a = b := by
  rw [beq_iff_eq, toList_data, toList_data]
  constructor
  · intro e; cases a; cases b; simp only [ByteArray.mk.injEq]; exact Array.ext' e
  · rintro rfl; rfl
end Eid
end Go.Proofs.YtgccegnmggjkjaaGreatDoor
namespace Go.Den
structure BV where
  p : Option Addr
  c : Nat
  b : List UInt8
abbrev BV.val (x : BV) : Value := .slice x.p x.b.length x.c
structure BV.ok (h : Heap) (D : Nat → Prop) (x : BV) : Prop where
  row : Row h x.p (bc x.b)
  own : x.b ≠ [] → ∀ c, inBlk x.p c → D c
  cap : x.b.length ≤ x.c
theorem BV.ok.frame {h h' : Heap} {D Q : Nat → Prop} {x : BV} (H : x.ok h D) (f : Fr Q h h') (hn : ∀ c, D c → ¬ Q c) : x.ok h' D := by
  refine ⟨?_, H.own, H.cap⟩
  by_cases hc : x.b = []
  · rw [hc]; exact .inl rfl
  · exact H.row.frame f (fun a e => hn a.block (H.own hc a.block ⟨a, e, rfl⟩))
theorem BV.ok.mono {h : Heap} {D D' : Nat → Prop} {x : BV} (H : x.ok h D) (hd : ∀ c, D c → D' c) : x.ok h D' := ⟨H.row, fun hc c hx => hd c (H.own hc c hx), H.cap⟩
theorem BV.of_own {h : Heap} {D : Nat → Prop} {p : Option Addr} {c : Nat} {b : List UInt8} (o : Own h p b.length c 1 (bc b)) (hd : ∀ x, inBlk p x → D x) : BV.ok h D ⟨p, c, b⟩ := ⟨o.row', fun _ => hd, o.le⟩
theorem slBase_zero (p : Option Addr) (m sz : Nat) : slBase p m 0 sz = p := by
  unfold slBase
  split
  · rfl
  · cases p with
    | none => rfl
    | some a => simp [Addr.add]
theorem Row.heldAt {h : Heap} {a : Addr} {sz : Nat} {α : Type} {enc : α → List Value} {xs : List α} (own : Row h (.some a) (xs.flatMap enc)) (henc : ∀ x, (enc x).length = sz) {i : Nat} {x : α} (hi : xs[i]? = .some x) : heldL (a.add (i * sz)) (enc x) 0 h := by
  refine heldL_at.2 fun j v hj => ?_
  rw [Nat.zero_add, add_add]
  exact own.cell (flat_at enc sz henc xs i x hi j v hj)
theorem Own.addr {h : Heap} {p : Option Addr} {len cap sz : Nat} {cs : List Value} (own : Own h p len cap sz cs) (hl : 0 < len) : ∃ b off, p = .some ⟨b, off, none⟩ := by
  cases own with
  | nil _ h2 _ _ => omega
  | row b off c t hp _ _ _ _ _ => exact ⟨b, off, hp⟩
theorem Own.pre {h : Heap} {p : Option Addr} {len cap sz : Nat} {cs : List Value} (own : Own h p len cap sz cs) {i : Nat} (hi : i ≤ len) : Own h p i cap sz (cs.take (i * sz)) := by
  have := own.sub (l := 0) (u := i) (Nat.zero_le _) hi
  rwa [slBase_zero, Nat.zero_mul, List.drop_zero] at this
section
variable {P : Program}
theorem den_clear {sT elem ty : TypeId} {sz bytes : Nat} {z : Value} {h : Heap} {p : Option Addr} {len cap i : Nat} {cs : List Value} {K : Value → Heap → Prop} (T : SlTy P sT elem sz bytes z) (hone : ∀ v ∈ z.cells.toList, oneCell v = true)
    (own : Own h p len cap sz cs) (hi : i ≤ len) (hk : ∀ h', Own h' p i cap sz (cs.take (i * sz)) → Fr (inBlk p) h h' → K (.tuple #[]) h') : denSem P (Builtin.clear_ #[sT] ty #[.slice (slBase p cap i sz) (len - i) (cap - i)]) h K := by
  have fin : K (.tuple #[]) h := hk h (own.pre hi) (Fr.refl _ _)
  obtain ⟨inf, hinf, hsz, _, hz⟩ := T.i
  unfold Builtin.clear_
  show denSem P (underlying sT >>= _) h K
  refine den_of_rd (s := underlying sT) (rd_underlying T.u) ?_
  cases own with
  | nil hp hl hc hcs =>
    subst hp
    have : slBase none cap i sz = none := by unfold slBase; split <;> rfl
    rw [this]
    exact fin
  | row b off c t hp hb hl hc hlen hcs =>
    subst hp
    by_cases hil : len - i = 0
    · rw [hil]
      cases hq : slBase (some ⟨b, off, none⟩) cap i sz with
      | none => exact fin
      | some a => exact fin
    · obtain ⟨n, hn⟩ : ∃ n, len - i = n + 1 := ⟨len - i - 1, by omega⟩
      have hci : cap ≠ i := by omega
      have hb0 : slBase (some ⟨b, off, none⟩) cap i sz = some ⟨b, off + i * sz, none⟩ := by
        unfold slBase; rw [if_neg hci]; show some ((⟨b, off, none⟩ : Addr).add (i * sz)) = _; rw [add_blk]
      rw [hb0, hn]
      show denSem P (zeroValue elem >>= fun z => storeCells ⟨b, off + i * sz, none⟩ (Builtin.zeroCells z.cells (n + 1)).toList >>= fun _ => pure (Value.tuple #[])) h K
      refine den_of_rd (s := zeroValue elem) (rd_zeroValue hinf hz) ?_
      rw [den_bind]
      have hzs := T.zs
      have hzl : (Builtin.zeroCells z.cells (n + 1)).toList.length = (n + 1) * sz := by simp [Builtin.zeroCells, hzs]
      have hin : off + i * sz + (n + 1) * sz ≤ off + cap * sz := by
        rw [← hn, Nat.sub_mul]
        have m1 : i * sz ≤ len * sz := Nat.mul_le_mul_right _ hi
        have m2 : len * sz ≤ cap * sz := Nat.mul_le_mul_right _ hl
        omega
      refine splice_set (c := c) (off := off + i * sz) _ 0 h b t _ ?_ hb (by rw [hzl]; omega) ?_
      · intro v hv
        simp only [Builtin.zeroCells, Array.toList_map, List.mem_map] at hv
        obtain ⟨k, hk1, rfl⟩ := hv
        have hpos : 0 < z.cells.size := by
          rcases Nat.eq_zero_or_pos z.cells.size with e | e
          · simp [e] at hk1
          · exact e
        have hm := Nat.mod_lt k hpos
        rw [getElem!_pos z.cells _ hm]
        exact hone _ (by simp)
      · intro h' c' hb' hs' ho' hn' hsz' hoth
        refine hk h' (.row b off c' t rfl hb' (by omega) (by omega) ?_ ?_) (Fr.of_eq hsz' fun x hx => hoth x (fun e => hx ⟨_, rfl, e.symm⟩))
        · rw [List.length_take, hlen]
          have m1 : i * sz ≤ len * sz := Nat.mul_le_mul_right _ hi
          omega
        · intro j v hj
          rw [List.getElem?_take] at hj
          split at hj
          · rename_i hji
            rw [ho' (off + j) (by omega)]
            exact hcs j v hj
          · cases hj
end
end Go.Den
set_option maxRecDepth 100000
set_option maxHeartbeats 4000000
namespace Go.Proofs.YtgccegnmggjkjaaGreatDoor
open Go.Den
variable {h : Heap} {R : Value → Heap → Prop}
theorem alarm_New.walk  (hv :
 NewP h (.map #[] 0) fun b h_1 =>
 NewP h_1 (.cells #[.slice none 0 0, .map (some b)] T.alarm_Alarm) fun b_1 h_2 =>
 R (.pointer (some ⟨b_1, 0, none⟩)) h_2) : CallsH Tryz.prog F.alarm_New #[] h R :=
 callsH_of_body (.seq .leaf (.seq .leaf .leaf)) Tryz.func57 rfl rfl (Eq.mp (by kernel_rfl) hv)
theorem alarm_Alarm_made.walk {a : Nat} (hv :
 ∃ t9, hcell h ⟨a, 1, none⟩ = some (.map t9) ∧
 R (.bool (!t9.isNone)) h) : CallsH Tryz.prog F.alarm_Alarm_made #[.pointer (some ⟨a, 0, none⟩)] h R :=
 callsH_of_body (.seq .leaf (.seq .leaf .leaf)) Tryz.func146 rfl rfl (Eq.mp (by kernel_rfl) hv)
theorem alarm_Alarm_Len.walk {a : Nat} (hv :
 ∃ t8_p t8_l t8_c, hcell h ⟨a, 0, none⟩ = some (.slice t8_p t8_l t8_c) ∧
 R (.int .i64 ((t8_l : Nat) : Int)) h) : CallsH Tryz.prog F.alarm_Alarm_Len #[.pointer (some ⟨a, 0, none⟩)] h R :=
 callsH_of_body (.seq .leaf (.seq (.seq .leaf (.cond (.seq .leaf .leaf) .leaf)) (.seq .leaf .leaf))) Tryz.func87 rfl rfl (Eq.mp (by kernel_rfl) hv)
theorem alarm_ahead.walk {x_0 : Int} {x_1 : Int} {y_0 : Int} {y_1 : Int} (hv :
 NewP h (.cells #[.int .i64 x_0, .int .u64 x_1] T.alarm_entry) fun b h_1 =>
 NewP h_1 (.cells #[.int .i64 y_0, .int .u64 y_1] T.alarm_entry) fun b_1 h_2 =>
 ∃ t6, hcell h_2 ⟨b, 1, none⟩ = some (.int .u64 t6) ∧
 ∃ t8, hcell h_2 ⟨b_1, 1, none⟩ = some (.int .u64 t8) ∧
 if (decide (t6 < t8)) = true then
 R (.bool true) h_2
 else
 ∃ t12, hcell h_2 ⟨b, 1, none⟩ = some (.int .u64 t12) ∧
 ∃ t14, hcell h_2 ⟨b_1, 1, none⟩ = some (.int .u64 t14) ∧
 if (t12 == t14) = true then
 ∃ t18, hcell h_2 ⟨b, 0, none⟩ = some (.int .i64 t18) ∧
 ∃ t20, hcell h_2 ⟨b_1, 0, none⟩ = some (.int .i64 t20) ∧
 R (.bool (decide (t18 < t20))) h_2
 else
 R (.bool false) h_2) : CallsH Tryz.prog F.alarm_ahead #[.agg #[.int .i64 x_0, .int .u64 x_1], .agg #[.int .i64 y_0, .int .u64 y_1]] h R :=
 callsH_of_body (.seq .leaf (.seq .leaf .leaf)) Tryz.func189 rfl rfl (Eq.mp (by kernel_rfl) hv)
theorem alarm_Alarm_put.walk {a : Nat} {i : Int} {x_0 : Int} {x_1 : Int} (hv :
 NewP h (.cells #[.int .i64 x_0, .int .u64 x_1] T.alarm_entry) fun b h_1 =>
 ∃ t9_p t9_l t9_c, hcell h_1 ⟨a, 0, none⟩ = some (.slice t9_p t9_l t9_c) ∧
 ∃ t11_0, hcell h_1 ⟨b, 0, none⟩ = some (.int .i64 t11_0) ∧ ∃ t11_1, hcell h_1 ⟨b, 1, none⟩ = some (.int .u64 t11_1) ∧
 ((0 : Int) ≤ i ∧ i < ((t9_l : Nat) : Int)) ∧
 onSome t9_p fun a_1 =>
 StoreP h_1 (a_1.add (Int.toNat i * 2)) (.int .i64 t11_0) fun h_2 =>
 StoreP h_2 ((a_1.add (Int.toNat i * 2)).add 1) (.int .u64 t11_1) fun h_3 =>
 ∃ t16, hcell h_3 ⟨a, 1, none⟩ = some (.map t16) ∧
 ∃ t18, hcell h_3 ⟨b, 0, none⟩ = some (.int .i64 t18) ∧
 denSem Tryz.prog (Instr.mapUpdate T.m_int_int (.map t16) (.int .i64 t18) (.int .i64 i)) h_3 fun _ h_4 =>
 R (.tuple #[]) h_4) : CallsH Tryz.prog F.alarm_Alarm_put #[.pointer (some ⟨a, 0, none⟩), .int .i64 i, .agg #[.int .i64 x_0, .int .u64 x_1]] h R :=
 callsH_of_body (.seq .leaf (.seq (.plan (.op 0 (.op 1 (.op 2 (.op 3 (.op 4 (.op 5 (.op 6 (.op 7 .done))))))))) (.plan (.op 0 (.op 1 (.op 2 (.op 3 (.op 4 (.op 5 (.op 6 (.op 7 .done))))))))))) Tryz.func148 rfl rfl (Eq.mp (by kernel_rfl) hv)
theorem alarm_Alarm_up.walk {a : Nat} {i : Int} (hv :
 ∃ (I : Int → Heap → Prop) (mu : Int → Heap → Nat), (
 I i h) ∧ ∀ (i_1 : Int) (h_1 : Heap), I i_1 h_1 →
 JoinP (fun (t28 : Bool) (h_2 : Heap) =>
 if t28 = true then
 JoinP (fun (x : Option Addr) (y : Option Addr) (h_3 : Heap) =>
 onSome x fun a_1 =>
 ∃ t45_0, hcell h_3 a_1 = some (.int .i64 t45_0) ∧ ∃ t45_1, hcell h_3 (a_1.add 1) = some (.int .u64 t45_1) ∧
 Cl F.alarm_Alarm_put #[.pointer (some ⟨a, 0, none⟩), .int .i64 (IntKind.wrap .i64 (Int.tdiv (IntKind.wrap .i64 (i_1 - 1)) 2)), .agg #[.int .i64 t45_0, .int .u64 t45_1]] h_3 fun v h_4 =>
 v = .tuple #[] ∧
 onSome y fun a_2 =>
 ∃ t49_0, hcell h_4 a_2 = some (.int .i64 t49_0) ∧ ∃ t49_1, hcell h_4 (a_2.add 1) = some (.int .u64 t49_1) ∧
 Cl F.alarm_Alarm_put #[.pointer (some ⟨a, 0, none⟩), .int .i64 i_1, .agg #[.int .i64 t49_0, .int .u64 t49_1]] h_4 fun v_1 h_5 =>
 v_1 = .tuple #[] ∧
 (I (IntKind.wrap .i64 (Int.tdiv (IntKind.wrap .i64 (i_1 - 1)) 2)) h_5 ∧ mu (IntKind.wrap .i64 (Int.tdiv (IntKind.wrap .i64 (i_1 - 1)) 2)) h_5 < mu i_1 h_1))
 (fun J_1 =>
 ∃ t32_p t32_l t32_c, hcell h_2 ⟨a, 0, none⟩ = some (.slice t32_p t32_l t32_c) ∧
 ((0 : Int) ≤ i_1 ∧ i_1 < ((t32_l : Nat) : Int)) ∧
 onSome t32_p fun a_3 =>
 ∃ t35_0, hcell h_2 (a_3.add (Int.toNat i_1 * 2)) = some (.int .i64 t35_0) ∧ ∃ t35_1, hcell h_2 ((a_3.add (Int.toNat i_1 * 2)).add 1) = some (.int .u64 t35_1) ∧
 ∃ t39_p t39_l t39_c, hcell h_2 ⟨a, 0, none⟩ = some (.slice t39_p t39_l t39_c) ∧
 ((0 : Int) ≤ IntKind.wrap .i64 (Int.tdiv (IntKind.wrap .i64 (i_1 - 1)) 2) ∧ IntKind.wrap .i64 (Int.tdiv (IntKind.wrap .i64 (i_1 - 1)) 2) < ((t39_l : Nat) : Int)) ∧
 onSome t39_p fun a_4 =>
 ∃ t42_0, hcell h_2 (a_4.add (Int.toNat (IntKind.wrap .i64 (Int.tdiv (IntKind.wrap .i64 (i_1 - 1)) 2)) * 2)) = some (.int .i64 t42_0) ∧ ∃ t42_1, hcell h_2 ((a_4.add (Int.toNat (IntKind.wrap .i64 (Int.tdiv (IntKind.wrap .i64 (i_1 - 1)) 2)) * 2)).add 1) = some (.int .u64 t42_1) ∧
 (NewP h_2 (.cells #[.int .i64 0, .int .u64 0] T.alarm_entry) fun b h_6 =>
 heldL (a_4.add (Int.toNat (IntKind.wrap .i64 (Int.tdiv (IntKind.wrap .i64 (i_1 - 1)) 2)) * 2)) [.int .i64 t42_0, .int .u64 t42_1] 0 h_6 ∧
 hcell h_6 ⟨a, 0, none⟩ = some (.slice t39_p t39_l t39_c) ∧
 heldL (a_3.add (Int.toNat i_1 * 2)) [.int .i64 t35_0, .int .u64 t35_1] 0 h_6 ∧
 hcell h_6 ⟨a, 0, none⟩ = some (.slice t32_p t32_l t32_c) ∧
 NewP h_6 (.cells #[.int .i64 0, .int .u64 0] T.alarm_entry) fun b_1 h_7 =>
 heldL (a_4.add (Int.toNat (IntKind.wrap .i64 (Int.tdiv (IntKind.wrap .i64 (i_1 - 1)) 2)) * 2)) [.int .i64 t42_0, .int .u64 t42_1] 0 h_7 ∧
 hcell h_7 ⟨a, 0, none⟩ = some (.slice t39_p t39_l t39_c) ∧
 heldL (a_3.add (Int.toNat i_1 * 2)) [.int .i64 t35_0, .int .u64 t35_1] 0 h_7 ∧
 hcell h_7 ⟨a, 0, none⟩ = some (.slice t32_p t32_l t32_c) ∧
 StoreP h_7 ⟨b, 0, none⟩ (.int .i64 t35_0) fun h_8 =>
 StoreP h_8 ⟨b, 1, none⟩ (.int .u64 t35_1) fun h_9 =>
 heldL (a_4.add (Int.toNat (IntKind.wrap .i64 (Int.tdiv (IntKind.wrap .i64 (i_1 - 1)) 2)) * 2)) [.int .i64 t42_0, .int .u64 t42_1] 0 h_9 ∧
 hcell h_9 ⟨a, 0, none⟩ = some (.slice t39_p t39_l t39_c) ∧
 StoreP h_9 ⟨b_1, 0, none⟩ (.int .i64 t42_0) fun h_10 =>
 StoreP h_10 ⟨b_1, 1, none⟩ (.int .u64 t42_1) fun h_11 =>
 J_1 (some ⟨b, 0, none⟩) (some ⟨b_1, 0, none⟩) h_11) ∧
 (NewP h_2 (.cells #[.int .i64 0, .int .u64 0] T.alarm_entry) fun b_2 h_12 =>
 heldL (a_4.add (Int.toNat (IntKind.wrap .i64 (Int.tdiv (IntKind.wrap .i64 (i_1 - 1)) 2)) * 2)) [.int .i64 t42_0, .int .u64 t42_1] 0 h_12 ∧
 hcell h_12 ⟨a, 0, none⟩ = some (.slice t39_p t39_l t39_c) ∧
 heldL (a_3.add (Int.toNat i_1 * 2)) [.int .i64 t35_0, .int .u64 t35_1] 0 h_12 ∧
 hcell h_12 ⟨a, 0, none⟩ = some (.slice t32_p t32_l t32_c) ∧
 NewP h_12 (.cells #[.int .i64 0, .int .u64 0] T.alarm_entry) fun b_3 h_13 =>
 heldL (a_4.add (Int.toNat (IntKind.wrap .i64 (Int.tdiv (IntKind.wrap .i64 (i_1 - 1)) 2)) * 2)) [.int .i64 t42_0, .int .u64 t42_1] 0 h_13 ∧
 hcell h_13 ⟨a, 0, none⟩ = some (.slice t39_p t39_l t39_c) ∧
 heldL (a_3.add (Int.toNat i_1 * 2)) [.int .i64 t35_0, .int .u64 t35_1] 0 h_13 ∧
 hcell h_13 ⟨a, 0, none⟩ = some (.slice t32_p t32_l t32_c) ∧
 StoreP h_13 ⟨b_3, 0, none⟩ (.int .i64 t35_0) fun h_14 =>
 StoreP h_14 ⟨b_3, 1, none⟩ (.int .u64 t35_1) fun h_15 =>
 heldL (a_4.add (Int.toNat (IntKind.wrap .i64 (Int.tdiv (IntKind.wrap .i64 (i_1 - 1)) 2)) * 2)) [.int .i64 t42_0, .int .u64 t42_1] 0 h_15 ∧
 hcell h_15 ⟨a, 0, none⟩ = some (.slice t39_p t39_l t39_c) ∧
 StoreP h_15 ⟨b_2, 0, none⟩ (.int .i64 t42_0) fun h_16 =>
 StoreP h_16 ⟨b_2, 1, none⟩ (.int .u64 t42_1) fun h_17 =>
 J_1 (some ⟨b_3, 0, none⟩) (some ⟨b_2, 0, none⟩) h_17) ∧
 True)
 else
 R (.tuple #[]) h_2)
 (fun J =>
 if (decide (i_1 > 0)) = true then
 ∃ t16_p t16_l t16_c, hcell h_1 ⟨a, 0, none⟩ = some (.slice t16_p t16_l t16_c) ∧
 ((0 : Int) ≤ i_1 ∧ i_1 < ((t16_l : Nat) : Int)) ∧
 onSome t16_p fun a_5 =>
 ∃ t19_0, hcell h_1 (a_5.add (Int.toNat i_1 * 2)) = some (.int .i64 t19_0) ∧ ∃ t19_1, hcell h_1 ((a_5.add (Int.toNat i_1 * 2)).add 1) = some (.int .u64 t19_1) ∧
 ∃ t23_p t23_l t23_c, hcell h_1 ⟨a, 0, none⟩ = some (.slice t23_p t23_l t23_c) ∧
 ((0 : Int) ≤ IntKind.wrap .i64 (Int.tdiv (IntKind.wrap .i64 (i_1 - 1)) 2) ∧ IntKind.wrap .i64 (Int.tdiv (IntKind.wrap .i64 (i_1 - 1)) 2) < ((t23_l : Nat) : Int)) ∧
 onSome t23_p fun a_6 =>
 ∃ t26_0, hcell h_1 (a_6.add (Int.toNat (IntKind.wrap .i64 (Int.tdiv (IntKind.wrap .i64 (i_1 - 1)) 2)) * 2)) = some (.int .i64 t26_0) ∧ ∃ t26_1, hcell h_1 ((a_6.add (Int.toNat (IntKind.wrap .i64 (Int.tdiv (IntKind.wrap .i64 (i_1 - 1)) 2)) * 2)).add 1) = some (.int .u64 t26_1) ∧
 Cl F.alarm_ahead #[.agg #[.int .i64 t19_0, .int .u64 t19_1], .agg #[.int .i64 t26_0, .int .u64 t26_1]] h_1 fun v_2 h_18 =>
 ∃ t27, v_2 = .bool t27 ∧
 hcell h_18 ⟨a, 0, none⟩ = some (.slice t23_p t23_l t23_c) ∧
 hcell h_18 ⟨a, 0, none⟩ = some (.slice t16_p t16_l t16_c) ∧
 J t27 h_18
 else
 J false h_1)) : CallsH Tryz.prog F.alarm_Alarm_up #[.pointer (some ⟨a, 0, none⟩), .int .i64 i] h R :=
 callsH_of_body (.scope 0 [(1, .one (.int .i64))] (.seq .leaf .leaf) (.seq .leaf (.seq .leaf (.seq (.join [(28, .one (.bool))] (.plan (.op 0 (.op 1 (.op 2 (.op 3 (.op 4 (.op 5 (.op 6 (.op 7 (.op 8 (.op 9 (.op 10 (.op 11 (.op 12 (.op 13 (.op 14 (.op 15 (.op 16 (.op 17 (.op 18 .done))))))))))))))))))))) (.cond (.seq (.join [(5, .one (.ptr)), (6, .one (.ptr))] (.plan (.op 0 (.op 1 (.op 2 (.op 3 (.op 4 (.op 5 (.op 6 (.op 7 (.op 8 (.op 9 (.op 10 (.op 11 (.op 12 (.op 13 (.alts (.fork 14 (.op 15 (.op 16 (.op 17 .done))) (.fork 15 (.op 14 (.op 16 (.op 17 .done))) .noalt))))))))))))))))))) (.seq .leaf (.seq .leaf (.seq .leaf .leaf)))) .leaf))))) Tryz.func149 rfl rfl (Eq.mp (by kernel_rfl) hv)
theorem alarm_Alarm_down.walk {a : Nat} {i : Int} (hv :
 ∃ (I : Int → Heap → Prop) (mu : Int → Heap → Nat), (
 I i h) ∧ ∀ (i_1 : Int) (h_1 : Heap), I i_1 h_1 →
 ∃ (I_1 : Int → Int → Heap → Prop) (mu_1 : Int → Int → Heap → Nat), I_1 i_1 0 h_1 ∧ ∀ (best : Int) (t17 : Int) (h_2 : Heap), I_1 best t17 h_2 →
 if (decide (t17 < 2)) = true then
 JoinP (fun (best_1 : Int) (h_3 : Heap) =>
 (I_1 best_1 (IntKind.wrap .i64 (t17 + 1)) h_3 ∧ mu_1 best_1 (IntKind.wrap .i64 (t17 + 1)) h_3 < mu_1 best t17 h_2))
 (fun J =>
 ((0 : Int) ≤ t17 ∧ t17 < ((2 : Nat) : Int)) ∧
 (t17 = ((0 : Nat) : Int) →
 JoinP (fun (t43 : Bool) (h_4 : Heap) =>
 JoinP (fun (best_2 : Int) (h_5 : Heap) =>
 J best_2 h_5)
 (fun J_2 =>
 if t43 = true then
 J_2 (IntKind.wrap .i64 ((IntKind.wrap .i64 (2 * i_1)) + 1)) h_4
 else
 J_2 best h_4))
 (fun J_1 =>
 ∃ t24_p t24_l t24_c, hcell h_2 ⟨a, 0, none⟩ = some (.slice t24_p t24_l t24_c) ∧
 if (decide ((IntKind.wrap .i64 ((IntKind.wrap .i64 (2 * i_1)) + 1)) < ((t24_l : Nat) : Int))) = true then
 ∃ t31_p t31_l t31_c, hcell h_2 ⟨a, 0, none⟩ = some (.slice t31_p t31_l t31_c) ∧
 ((0 : Int) ≤ IntKind.wrap .i64 ((IntKind.wrap .i64 (2 * i_1)) + 1) ∧ IntKind.wrap .i64 ((IntKind.wrap .i64 (2 * i_1)) + 1) < ((t31_l : Nat) : Int)) ∧
 onSome t31_p fun a_1 =>
 ∃ t34_0, hcell h_2 (a_1.add (Int.toNat (IntKind.wrap .i64 ((IntKind.wrap .i64 (2 * i_1)) + 1)) * 2)) = some (.int .i64 t34_0) ∧ ∃ t34_1, hcell h_2 ((a_1.add (Int.toNat (IntKind.wrap .i64 ((IntKind.wrap .i64 (2 * i_1)) + 1)) * 2)).add 1) = some (.int .u64 t34_1) ∧
 ∃ t38_p t38_l t38_c, hcell h_2 ⟨a, 0, none⟩ = some (.slice t38_p t38_l t38_c) ∧
 ((0 : Int) ≤ best ∧ best < ((t38_l : Nat) : Int)) ∧
 onSome t38_p fun a_2 =>
 ∃ t41_0, hcell h_2 (a_2.add (Int.toNat best * 2)) = some (.int .i64 t41_0) ∧ ∃ t41_1, hcell h_2 ((a_2.add (Int.toNat best * 2)).add 1) = some (.int .u64 t41_1) ∧
 Cl F.alarm_ahead #[.agg #[.int .i64 t34_0, .int .u64 t34_1], .agg #[.int .i64 t41_0, .int .u64 t41_1]] h_2 fun v h_6 =>
 ∃ t42, v = .bool t42 ∧
 hcell h_6 ⟨a, 0, none⟩ = some (.slice t38_p t38_l t38_c) ∧
 hcell h_6 ⟨a, 0, none⟩ = some (.slice t31_p t31_l t31_c) ∧
 hcell h_6 ⟨a, 0, none⟩ = some (.slice t24_p t24_l t24_c) ∧
 J_1 t42 h_6
 else
 J_1 false h_2)) ∧
 (t17 = ((1 : Nat) : Int) →
 JoinP (fun (t43_1 : Bool) (h_7 : Heap) =>
 JoinP (fun (best_3 : Int) (h_8 : Heap) =>
 J best_3 h_8)
 (fun J_4 =>
 if t43_1 = true then
 J_4 (IntKind.wrap .i64 ((IntKind.wrap .i64 (2 * i_1)) + 2)) h_7
 else
 J_4 best h_7))
 (fun J_3 =>
 ∃ t24_p_1 t24_l_1 t24_c_1, hcell h_2 ⟨a, 0, none⟩ = some (.slice t24_p_1 t24_l_1 t24_c_1) ∧
 if (decide ((IntKind.wrap .i64 ((IntKind.wrap .i64 (2 * i_1)) + 2)) < ((t24_l_1 : Nat) : Int))) = true then
 ∃ t31_p_1 t31_l_1 t31_c_1, hcell h_2 ⟨a, 0, none⟩ = some (.slice t31_p_1 t31_l_1 t31_c_1) ∧
 ((0 : Int) ≤ IntKind.wrap .i64 ((IntKind.wrap .i64 (2 * i_1)) + 2) ∧ IntKind.wrap .i64 ((IntKind.wrap .i64 (2 * i_1)) + 2) < ((t31_l_1 : Nat) : Int)) ∧
 onSome t31_p_1 fun a_3 =>
 ∃ t34_0_1, hcell h_2 (a_3.add (Int.toNat (IntKind.wrap .i64 ((IntKind.wrap .i64 (2 * i_1)) + 2)) * 2)) = some (.int .i64 t34_0_1) ∧ ∃ t34_1_1, hcell h_2 ((a_3.add (Int.toNat (IntKind.wrap .i64 ((IntKind.wrap .i64 (2 * i_1)) + 2)) * 2)).add 1) = some (.int .u64 t34_1_1) ∧
 ∃ t38_p_1 t38_l_1 t38_c_1, hcell h_2 ⟨a, 0, none⟩ = some (.slice t38_p_1 t38_l_1 t38_c_1) ∧
 ((0 : Int) ≤ best ∧ best < ((t38_l_1 : Nat) : Int)) ∧
 onSome t38_p_1 fun a_4 =>
 ∃ t41_0_1, hcell h_2 (a_4.add (Int.toNat best * 2)) = some (.int .i64 t41_0_1) ∧ ∃ t41_1_1, hcell h_2 ((a_4.add (Int.toNat best * 2)).add 1) = some (.int .u64 t41_1_1) ∧
 Cl F.alarm_ahead #[.agg #[.int .i64 t34_0_1, .int .u64 t34_1_1], .agg #[.int .i64 t41_0_1, .int .u64 t41_1_1]] h_2 fun v_1 h_9 =>
 ∃ t42_1, v_1 = .bool t42_1 ∧
 hcell h_9 ⟨a, 0, none⟩ = some (.slice t38_p_1 t38_l_1 t38_c_1) ∧
 hcell h_9 ⟨a, 0, none⟩ = some (.slice t31_p_1 t31_l_1 t31_c_1) ∧
 hcell h_9 ⟨a, 0, none⟩ = some (.slice t24_p_1 t24_l_1 t24_c_1) ∧
 J_3 t42_1 h_9
 else
 J_3 false h_2)) ∧
 True)
 else
 if (best != i_1) = true then
 JoinP (fun (x : Option Addr) (y : Option Addr) (h_10 : Heap) =>
 onSome x fun a_5 =>
 ∃ t65_0, hcell h_10 a_5 = some (.int .i64 t65_0) ∧ ∃ t65_1, hcell h_10 (a_5.add 1) = some (.int .u64 t65_1) ∧
 Cl F.alarm_Alarm_put #[.pointer (some ⟨a, 0, none⟩), .int .i64 best, .agg #[.int .i64 t65_0, .int .u64 t65_1]] h_10 fun v_2 h_11 =>
 v_2 = .tuple #[] ∧
 onSome y fun a_6 =>
 ∃ t69_0, hcell h_11 a_6 = some (.int .i64 t69_0) ∧ ∃ t69_1, hcell h_11 (a_6.add 1) = some (.int .u64 t69_1) ∧
 Cl F.alarm_Alarm_put #[.pointer (some ⟨a, 0, none⟩), .int .i64 i_1, .agg #[.int .i64 t69_0, .int .u64 t69_1]] h_11 fun v_3 h_12 =>
 v_3 = .tuple #[] ∧
 (I best h_12 ∧ mu best h_12 < mu i_1 h_1))
 (fun J_5 =>
 ∃ t52_p t52_l t52_c, hcell h_2 ⟨a, 0, none⟩ = some (.slice t52_p t52_l t52_c) ∧
 ((0 : Int) ≤ i_1 ∧ i_1 < ((t52_l : Nat) : Int)) ∧
 onSome t52_p fun a_7 =>
 ∃ t55_0, hcell h_2 (a_7.add (Int.toNat i_1 * 2)) = some (.int .i64 t55_0) ∧ ∃ t55_1, hcell h_2 ((a_7.add (Int.toNat i_1 * 2)).add 1) = some (.int .u64 t55_1) ∧
 ∃ t59_p t59_l t59_c, hcell h_2 ⟨a, 0, none⟩ = some (.slice t59_p t59_l t59_c) ∧
 ((0 : Int) ≤ best ∧ best < ((t59_l : Nat) : Int)) ∧
 onSome t59_p fun a_8 =>
 ∃ t62_0, hcell h_2 (a_8.add (Int.toNat best * 2)) = some (.int .i64 t62_0) ∧ ∃ t62_1, hcell h_2 ((a_8.add (Int.toNat best * 2)).add 1) = some (.int .u64 t62_1) ∧
 (NewP h_2 (.cells #[.int .i64 0, .int .u64 0] T.alarm_entry) fun b h_13 =>
 heldL (a_8.add (Int.toNat best * 2)) [.int .i64 t62_0, .int .u64 t62_1] 0 h_13 ∧
 hcell h_13 ⟨a, 0, none⟩ = some (.slice t59_p t59_l t59_c) ∧
 heldL (a_7.add (Int.toNat i_1 * 2)) [.int .i64 t55_0, .int .u64 t55_1] 0 h_13 ∧
 hcell h_13 ⟨a, 0, none⟩ = some (.slice t52_p t52_l t52_c) ∧
 NewP h_13 (.cells #[.int .i64 0, .int .u64 0] T.alarm_entry) fun b_1 h_14 =>
 heldL (a_8.add (Int.toNat best * 2)) [.int .i64 t62_0, .int .u64 t62_1] 0 h_14 ∧
 hcell h_14 ⟨a, 0, none⟩ = some (.slice t59_p t59_l t59_c) ∧
 heldL (a_7.add (Int.toNat i_1 * 2)) [.int .i64 t55_0, .int .u64 t55_1] 0 h_14 ∧
 hcell h_14 ⟨a, 0, none⟩ = some (.slice t52_p t52_l t52_c) ∧
 StoreP h_14 ⟨b, 0, none⟩ (.int .i64 t55_0) fun h_15 =>
 StoreP h_15 ⟨b, 1, none⟩ (.int .u64 t55_1) fun h_16 =>
 heldL (a_8.add (Int.toNat best * 2)) [.int .i64 t62_0, .int .u64 t62_1] 0 h_16 ∧
 hcell h_16 ⟨a, 0, none⟩ = some (.slice t59_p t59_l t59_c) ∧
 StoreP h_16 ⟨b_1, 0, none⟩ (.int .i64 t62_0) fun h_17 =>
 StoreP h_17 ⟨b_1, 1, none⟩ (.int .u64 t62_1) fun h_18 =>
 J_5 (some ⟨b, 0, none⟩) (some ⟨b_1, 0, none⟩) h_18) ∧
 (NewP h_2 (.cells #[.int .i64 0, .int .u64 0] T.alarm_entry) fun b_2 h_19 =>
 heldL (a_8.add (Int.toNat best * 2)) [.int .i64 t62_0, .int .u64 t62_1] 0 h_19 ∧
 hcell h_19 ⟨a, 0, none⟩ = some (.slice t59_p t59_l t59_c) ∧
 heldL (a_7.add (Int.toNat i_1 * 2)) [.int .i64 t55_0, .int .u64 t55_1] 0 h_19 ∧
 hcell h_19 ⟨a, 0, none⟩ = some (.slice t52_p t52_l t52_c) ∧
 NewP h_19 (.cells #[.int .i64 0, .int .u64 0] T.alarm_entry) fun b_3 h_20 =>
 heldL (a_8.add (Int.toNat best * 2)) [.int .i64 t62_0, .int .u64 t62_1] 0 h_20 ∧
 hcell h_20 ⟨a, 0, none⟩ = some (.slice t59_p t59_l t59_c) ∧
 heldL (a_7.add (Int.toNat i_1 * 2)) [.int .i64 t55_0, .int .u64 t55_1] 0 h_20 ∧
 hcell h_20 ⟨a, 0, none⟩ = some (.slice t52_p t52_l t52_c) ∧
 StoreP h_20 ⟨b_3, 0, none⟩ (.int .i64 t55_0) fun h_21 =>
 StoreP h_21 ⟨b_3, 1, none⟩ (.int .u64 t55_1) fun h_22 =>
 heldL (a_8.add (Int.toNat best * 2)) [.int .i64 t62_0, .int .u64 t62_1] 0 h_22 ∧
 hcell h_22 ⟨a, 0, none⟩ = some (.slice t59_p t59_l t59_c) ∧
 StoreP h_22 ⟨b_2, 0, none⟩ (.int .i64 t62_0) fun h_23 =>
 StoreP h_23 ⟨b_2, 1, none⟩ (.int .u64 t62_1) fun h_24 =>
 J_5 (some ⟨b_3, 0, none⟩) (some ⟨b_2, 0, none⟩) h_24) ∧
 True)
 else
 R (.tuple #[]) h_2) : CallsH Tryz.prog F.alarm_Alarm_down #[.pointer (some ⟨a, 0, none⟩), .int .i64 i] h R :=
 callsH_of_body (.scope 0 [(1, .one (.int .i64))] (.seq .leaf .leaf) (.seq .leaf (.seq .leaf (.seq (.seq .leaf (.block (.loop [(4, .one (.int .i64)), (17, .one (.int .i64))] (.seq .leaf (.seq (.cond .leaf .leaf) (.seq (.join [(4, .one (.int .i64))] (.block (.seq .leaf (.seq (.join [(43, .one (.bool))] (.plan (.op 0 (.op 1 (.op 2 (.op 3 (.op 4 (.op 5 (.op 6 (.op 7 (.op 8 (.op 9 (.op 10 (.op 11 (.op 12 (.op 13 (.op 14 (.op 15 (.op 16 (.op 17 (.op 18 (.op 19 (.op 20 (.op 21 (.op 22 (.op 23 .done)))))))))))))))))))))))))) (.join [(4, .one (.int .i64))] (.cond .leaf .leaf)))))) .leaf)))))) (.seq .leaf (.cond (.seq (.join [(7, .one (.ptr)), (8, .one (.ptr))] (.plan (.op 0 (.op 1 (.op 2 (.op 3 (.op 4 (.op 5 (.op 6 (.op 7 (.op 8 (.op 9 (.op 10 (.op 11 (.op 12 (.op 13 (.alts (.fork 14 (.op 15 (.op 16 (.op 17 .done))) (.fork 15 (.op 14 (.op 16 (.op 17 .done))) .noalt))))))))))))))))))) (.seq .leaf (.seq .leaf (.seq .leaf .leaf)))) .leaf)))))) Tryz.func188 rfl rfl (Eq.mp (by kernel_rfl) hv)
theorem alarm_Alarm_Set.walk {a : Nat} {key : Int} {v_at : Int} (hv :
 Cl F.alarm_Alarm_made #[.pointer (some ⟨a, 0, none⟩)] h fun v h_1 =>
 ∃ t10, v = .bool t10 ∧
 if (!t10) = true then
 R (.int .i64 6) h_1
 else
 JoinP (fun (t12 : Bool) (h_2 : Heap) =>
 if t12 = true then
 R (.int .i64 1) h_2
 else
 Cl F.alarm_Alarm_Drop #[.pointer (some ⟨a, 0, none⟩), .int .i64 key] h_2 fun v_1 h_3 =>
 ∃ t25, v_1 = .int .i64 t25 ∧
 ∃ t30_p t30_l t30_c, hcell h_3 ⟨a, 0, none⟩ = some (.slice t30_p t30_l t30_c) ∧
 NewP h_3 (.cells #[.int .i64 0, .int .u64 0] T.alarm_entry) fun b h_4 =>
 denSem Tryz.prog (Builtin.append_ #[T.s_alarm_entry, T.s_alarm_entry] T.s_alarm_entry #[.slice t30_p t30_l t30_c, .slice (some ⟨b, 0, none⟩) 1 1]) h_4 fun v_2 h_5 =>
 ∃ t33_p t33_l t33_c, v_2 = .slice t33_p t33_l t33_c ∧
 StoreP h_5 ⟨a, 0, none⟩ (.slice t33_p t33_l t33_c) fun h_6 =>
 ∃ t39_p t39_l t39_c, hcell h_6 ⟨a, 0, none⟩ = some (.slice t39_p t39_l t39_c) ∧
 Cl F.alarm_Alarm_put #[.pointer (some ⟨a, 0, none⟩), .int .i64 (IntKind.wrap .i64 (((t39_l : Nat) : Int) - 1)), .agg #[.int .i64 key, .int .u64 v_at]] h_6 fun v_3 h_7 =>
 v_3 = .tuple #[] ∧
 Cl F.alarm_Alarm_up #[.pointer (some ⟨a, 0, none⟩), .int .i64 (IntKind.wrap .i64 (((t39_l : Nat) : Int) - 1))] h_7 fun v_4 h_8 =>
 v_4 = .tuple #[] ∧
 R (.int .i64 0) h_8)
 (fun J =>
 if (decide (key < 1)) = true then
 J true h_1
 else
 if (decide (key > 1099511627776)) = true then
 J true h_1
 else
 J (decide (v_at > 1099511627776)) h_1)) : CallsH Tryz.prog F.alarm_Alarm_Set #[.pointer (some ⟨a, 0, none⟩), .int .i64 key, .int .u64 v_at] h R :=
 callsH_of_body (.seq .leaf (.seq (.block (.seq .leaf (.cond (.seq .leaf .leaf) (.seq (.join [(12, .one (.bool))] .leaf) (.cond (.seq .leaf .leaf) .leaf))))) (.seq .leaf (.seq .leaf (.seq .leaf (.seq .leaf (.seq .leaf (.seq .leaf .leaf)))))))) Tryz.func72 rfl rfl (Eq.mp (by kernel_rfl) hv)
theorem alarm_Alarm_Drop.walk {a : Nat} {key : Int} (hv :
 Cl F.alarm_Alarm_made #[.pointer (some ⟨a, 0, none⟩)] h fun v h_1 =>
 ∃ t10, v = .bool t10 ∧
 if (!t10) = true then
 R (.int .i64 6) h_1
 else
 ∃ t16, hcell h_1 ⟨a, 1, none⟩ = some (.map t16) ∧
 ∃ t18_0 t18_1, LookV Tryz.prog T.m_int_int (.map t16) (.int .i64 key) true h_1 (.tuple #[.int .i64 t18_0, .bool t18_1]) ∧
 if (!t18_1) = true then
 R (.int .i64 4) h_1
 else
 ∃ t26_p t26_l t26_c, hcell h_1 ⟨a, 0, none⟩ = some (.slice t26_p t26_l t26_c) ∧
 ∃ t32_p t32_l t32_c, hcell h_1 ⟨a, 0, none⟩ = some (.slice t32_p t32_l t32_c) ∧
 ((0 : Int) ≤ IntKind.wrap .i64 (((t26_l : Nat) : Int) - 1) ∧ IntKind.wrap .i64 (((t26_l : Nat) : Int) - 1) < ((t32_l : Nat) : Int)) ∧
 onSome t32_p fun a_1 =>
 ∃ t35_0, hcell h_1 (a_1.add (Int.toNat (IntKind.wrap .i64 (((t26_l : Nat) : Int) - 1)) * 2)) = some (.int .i64 t35_0) ∧ ∃ t35_1, hcell h_1 ((a_1.add (Int.toNat (IntKind.wrap .i64 (((t26_l : Nat) : Int) - 1)) * 2)).add 1) = some (.int .u64 t35_1) ∧
 NewP h_1 (.cells #[.int .i64 0, .int .u64 0] T.alarm_entry) fun b h_2 =>
 StoreP h_2 ⟨b, 0, none⟩ (.int .i64 t35_0) fun h_3 =>
 StoreP h_3 ⟨b, 1, none⟩ (.int .u64 t35_1) fun h_4 =>
 ∃ t40_p t40_l t40_c, hcell h_4 ⟨a, 0, none⟩ = some (.slice t40_p t40_l t40_c) ∧
 ((0 : Int) ≤ IntKind.wrap .i64 (((t26_l : Nat) : Int) - 1) ∧ IntKind.wrap .i64 (((t26_l : Nat) : Int) - 1) ≤ ((t40_c : Nat) : Int)) ∧
 StoreP h_4 ⟨a, 0, none⟩ (.slice (slBase t40_p t40_c 0 2) ((Int.toNat (IntKind.wrap .i64 (((t26_l : Nat) : Int) - 1))) - 0) (t40_c - 0)) fun h_5 =>
 ∃ t48, hcell h_5 ⟨a, 1, none⟩ = some (.map t48) ∧
 denSem Tryz.prog (Builtin.delete_ #[T.m_int_int, T.int] T.tup_ #[.map t48, .int .i64 key]) h_5 fun v_1 h_6 =>
 v_1 = .tuple #[] ∧
 JoinP (fun (h_7 : Heap) =>
 R (.int .i64 0) h_7)
 (fun J =>
 if (decide (t18_0 < (IntKind.wrap .i64 (((t26_l : Nat) : Int) - 1)))) = true then
 ∃ t55_0, hcell h_6 ⟨b, 0, none⟩ = some (.int .i64 t55_0) ∧ ∃ t55_1, hcell h_6 ⟨b, 1, none⟩ = some (.int .u64 t55_1) ∧
 Cl F.alarm_Alarm_put #[.pointer (some ⟨a, 0, none⟩), .int .i64 t18_0, .agg #[.int .i64 t55_0, .int .u64 t55_1]] h_6 fun v_2 h_8 =>
 v_2 = .tuple #[] ∧
 Cl F.alarm_Alarm_up #[.pointer (some ⟨a, 0, none⟩), .int .i64 t18_0] h_8 fun v_3 h_9 =>
 v_3 = .tuple #[] ∧
 ∃ t64, hcell h_9 ⟨a, 1, none⟩ = some (.map t64) ∧
 ∃ t66, hcell h_9 ⟨b, 0, none⟩ = some (.int .i64 t66) ∧
 ∃ t67, LookV Tryz.prog T.m_int_int (.map t64) (.int .i64 t66) false h_9 (.int .i64 t67) ∧
 Cl F.alarm_Alarm_down #[.pointer (some ⟨a, 0, none⟩), .int .i64 t67] h_9 fun v_4 h_10 =>
 v_4 = .tuple #[] ∧
 hcell h_10 ⟨b, 0, none⟩ = some (.int .i64 t66) ∧
 hcell h_10 ⟨a, 1, none⟩ = some (.map t64) ∧
 J h_10
 else
 J h_6)) : CallsH Tryz.prog F.alarm_Alarm_Drop #[.pointer (some ⟨a, 0, none⟩), .int .i64 key] h R :=
 callsH_of_body (.seq .leaf (.seq (.seq .leaf (.cond (.seq .leaf .leaf) .leaf)) (.seq .leaf (.seq (.seq .leaf (.cond (.seq .leaf .leaf) .leaf)) (.seq .leaf (.seq .leaf (.seq .leaf (.seq .leaf (.seq (.seq .leaf (.join [] (.cond (.seq .leaf (.seq .leaf (.plan (.op 0 (.op 1 (.op 2 (.op 3 (.op 4 (.op 5 (.op 6 (.op 7 (.op 8 .done)))))))))))) .leaf))) (.seq .leaf .leaf)))))))))) Tryz.func147 rfl rfl (Eq.mp (by kernel_rfl) hv)
theorem alarm_Alarm_Next.walk {a : Nat} (hv :
 Cl F.alarm_Alarm_Len #[.pointer (some ⟨a, 0, none⟩)] h fun v h_1 =>
 ∃ t6, v = .int .i64 t6 ∧
 if (t6 == 0) = true then
 R (.tuple #[.int .i64 0, .int .u64 0, .bool false]) h_1
 else
 ∃ t11_p t11_l t11_c, hcell h_1 ⟨a, 0, none⟩ = some (.slice t11_p t11_l t11_c) ∧
 ((0 : Int) ≤ 0 ∧ 0 < ((t11_l : Nat) : Int)) ∧
 onSome t11_p fun a_1 =>
 ∃ t14, hcell h_1 (a_1.add (Int.toNat 0 * 2)) = some (.int .i64 t14) ∧
 ∃ t18_p t18_l t18_c, hcell h_1 ⟨a, 0, none⟩ = some (.slice t18_p t18_l t18_c) ∧
 ((0 : Int) ≤ 0 ∧ 0 < ((t18_l : Nat) : Int)) ∧
 onSome t18_p fun a_2 =>
 ∃ t21, hcell h_1 ((a_2.add (Int.toNat 0 * 2)).add 1) = some (.int .u64 t21) ∧
 R (.tuple #[.int .i64 t14, .int .u64 t21, .bool true]) h_1) : CallsH Tryz.prog F.alarm_Alarm_Next #[.pointer (some ⟨a, 0, none⟩)] h R :=
 callsH_of_body (.seq .leaf (.seq (.seq .leaf (.cond (.seq .leaf .leaf) .leaf)) (.seq (.plan (.op 0 (.op 1 (.op 2 (.op 3 (.op 4 (.op 5 (.op 6 (.op 7 (.op 8 (.op 9 (.op 10 (.op 11 (.op 12 (.op 13 (.op 14 (.op 15 (.op 16 .done)))))))))))))))))) .leaf))) Tryz.func152 rfl rfl (Eq.mp (by kernel_rfl) hv)
theorem alarm_Alarm_Ring.walk {a : Nat} {now : Int} (hv :
 Cl F.alarm_Alarm_Next #[.pointer (some ⟨a, 0, none⟩)] h fun v h_1 =>
 ∃ t11_0 t11_1 t11_2, v = .tuple #[.int .i64 t11_0, .int .u64 t11_1, .bool t11_2] ∧
 ∃ (I : Option Addr → Nat → Nat → Int → Int → Bool → Heap → Prop) (mu : Option Addr → Nat → Nat → Int → Int → Bool → Heap → Nat), I none 0 0 t11_0 t11_1 t11_2 h_1 ∧ ∀ (out_p : Option Addr) (out_l out_c : Nat) (key : Int) (v_at : Int) (is : Bool) (h_2 : Heap), I out_p out_l out_c key v_at is h_2 →
 JoinP (fun (t20 : Bool) (h_3 : Heap) =>
 if t20 = true then
 NewP h_3 (.cells #[.int .i64 key] T.int) fun b h_4 =>
 denSem Tryz.prog (Builtin.append_ #[T.s_int, T.s_int] T.s_int #[.slice out_p out_l out_c, .slice (some ⟨b, 0, none⟩) 1 1]) h_4 fun v_1 h_5 =>
 ∃ t30_p t30_l t30_c, v_1 = .slice t30_p t30_l t30_c ∧
 Cl F.alarm_Alarm_Drop #[.pointer (some ⟨a, 0, none⟩), .int .i64 key] h_5 fun v_2 h_6 =>
 ∃ t33, v_2 = .int .i64 t33 ∧
 Cl F.alarm_Alarm_Next #[.pointer (some ⟨a, 0, none⟩)] h_6 fun v_3 h_7 =>
 ∃ t23_0 t23_1 t23_2, v_3 = .tuple #[.int .i64 t23_0, .int .u64 t23_1, .bool t23_2] ∧
 (I t30_p t30_l t30_c t23_0 t23_1 t23_2 h_7 ∧ mu t30_p t30_l t30_c t23_0 t23_1 t23_2 h_7 < mu out_p out_l out_c key v_at is h_2)
 else
 R (.slice out_p out_l out_c) h_3)
 (fun J =>
 if is = true then
 J (decide (v_at ≤ now)) h_2
 else
 J false h_2)) : CallsH Tryz.prog F.alarm_Alarm_Ring #[.pointer (some ⟨a, 0, none⟩), .int .u64 now] h R :=
 callsH_of_body (.seq .leaf (.seq .leaf (.seq (.seq .leaf (.block (.loop [(5, .one (.slice)), (6, .one (.int .i64)), (7, .one (.int .u64)), (8, .one (.bool))] (.seq (.seq (.join [(20, .one (.bool))] .leaf) (.cond .leaf .leaf)) (.seq (.block (.seq .leaf .leaf)) .leaf))))) (.seq .leaf .leaf)))) Tryz.func86 rfl rfl (Eq.mp (by kernel_rfl) hv)
end Go.Proofs.YtgccegnmggjkjaaGreatDoor
set_option maxRecDepth 100000
namespace Go.Heapq
abbrev E := Int × Int
def lt (x y : E) : Prop := x.2 < y.2 ∨ (x.2 = y.2 ∧ x.1 < y.1)
def le (x y : E) : Prop := ¬ lt y x
theorem lt_irrefl (x : E) : ¬ lt x x := by unfold lt; omega
theorem lt_trans {x y z : E} (h : lt x y) (h' : lt y z) : lt x z := by unfold lt at *; omega
theorem le_refl (x : E) : le x x := lt_irrefl x
theorem le_trans {x y z : E} (h : le x y) (h' : le y z) : le x z := by unfold le lt at *; omega
theorem le_of_lt {x y : E} (h : lt x y) : le x y := by unfold le lt at *; omega
theorem lt_of_le_ne {x y : E} (h : le x y) (h' : x.1 ≠ y.1) : lt x y := by unfold le lt at *; omega
instance (x y : E) : Decidable (lt x y) := inferInstanceAs (Decidable (_ ∨ _))
def HeapO (f : Nat → E) (n : Nat) : Prop := ∀ j, 0 < j → j < n → le (f ((j - 1) / 2)) (f j)
def ExBoth (f : Nat → E) (n i : Nat) : Prop :=
  (∀ j, 0 < j → j < n → j ≠ i → (j - 1) / 2 ≠ i → le (f ((j - 1) / 2)) (f j)) ∧ (0 < i → ∀ j, 0 < j → j < n → (j - 1) / 2 = i → le (f ((i - 1) / 2)) (f j))
def ExDown (f : Nat → E) (n i : Nat) : Prop :=
  (∀ j, 0 < j → j < n → (j - 1) / 2 ≠ i → le (f ((j - 1) / 2)) (f j)) ∧ (0 < i → ∀ j, 0 < j → j < n → (j - 1) / 2 = i → le (f ((i - 1) / 2)) (f j))
def KidsOk (f : Nat → E) (n i : Nat) : Prop := ∀ j, 0 < j → j < n → (j - 1) / 2 = i → le (f i) (f j)
def swapf (f : Nat → E) (i j : Nat) : Nat → E := fun k => if k = i then f j else if k = j then f i else f k
theorem up_stay {f : Nat → E} {n i : Nat} (h : ExBoth f n i) (hi : i = 0 ∨ le (f ((i - 1) / 2)) (f i)) : ExDown f n i := by
  refine ⟨fun j h1 h2 h3 => ?_, h.2⟩
  by_cases hj : j = i
  · subst hj
    rcases hi with h0 | h0
    · omega
    · exact h0
  · exact h.1 j h1 h2 hj h3
theorem heap_of_down {f : Nat → E} {n i : Nat} (h : ExDown f n i) (hk : KidsOk f n i) : HeapO f n := by
  intro j h1 h2
  by_cases hj : (j - 1) / 2 = i
  · have := hk j h1 h2 hj; rw [hj]; exact this
  · exact h.1 j h1 h2 hj
theorem up_move {f : Nat → E} {n i p : Nat} (h : ExBoth f n i) (h0 : 0 < i) (hn : i < n) (hp : p = (i - 1) / 2) (hl : lt (f i) (f p)) : ExBoth (swapf f i p) n p ∧ KidsOk (swapf f i p) n p := by
  have hpi : p ≠ i := by omega
  refine ⟨⟨fun j h1 h2 h3 h4 => ?_, fun hp0 j h1 h2 h3 => ?_⟩, fun j h1 h2 h3 => ?_⟩
  ·
    have hji : j ≠ i := by omega
    unfold swapf
    rw [if_neg hji, if_neg h3]
    by_cases hpj : (j - 1) / 2 = i
    · rw [if_pos hpj, hp]
      exact h.2 h0 j h1 h2 hpj
    · rw [if_neg hpj, if_neg h4]
      exact h.1 j h1 h2 hji hpj
  · have hpp := h.1 p hp0 (by omega) hpi (by omega)
    unfold swapf
    rw [if_neg (show (p - 1) / 2 ≠ i by omega), if_neg (show (p - 1) / 2 ≠ p by omega)]
    by_cases hji : j = i
    · rw [if_pos hji]; exact hpp
    · rw [if_neg hji, if_neg (by omega)]
      have := h.1 j h1 h2 hji (by omega)
      rw [h3] at this
      exact le_trans hpp this
  · unfold swapf
    rw [if_neg hpi, if_pos rfl]
    by_cases hji : j = i
    · rw [if_pos hji]; exact le_of_lt hl
    · rw [if_neg hji, if_neg (by omega)]
      have := h.1 j h1 h2 hji (by omega)
      rw [h3] at this
      exact le_trans (le_of_lt hl) this
theorem down_move {f : Nat → E} {n i c : Nat} (h : ExDown f n i) (hc : (c - 1) / 2 = i) (h0 : 0 < c) (hn : c < n) (hl : lt (f c) (f i)) (hm : ∀ j, 0 < j → j < n → (j - 1) / 2 = i → le (f c) (f j)) : ExDown (swapf f i c) n c := by
  have hci : c ≠ i := by omega
  refine ⟨fun j h1 h2 h3 => ?_, fun _ j h1 h2 h3 => ?_⟩
  · unfold swapf
    by_cases hji : j = i
    · subst hji
      rw [if_neg (show (j - 1) / 2 ≠ j by omega), if_neg (show (j - 1) / 2 ≠ c by omega), if_pos rfl]
      exact h.2 h1 c h0 hn hc
    · by_cases hpj : (j - 1) / 2 = i
      · rw [if_pos hpj, if_neg hji]
        by_cases hjc : j = c
        · rw [if_pos hjc]; exact le_of_lt hl
        · rw [if_neg hjc]; exact hm j h1 h2 hpj
      · have hjc : j ≠ c := by intro e; subst e; exact hpj hc
        rw [if_neg hpj, if_neg h3, if_neg hji, if_neg hjc]
        exact h.1 j h1 h2 hpj
  · unfold swapf
    rw [hc, if_pos rfl, if_neg (show j ≠ i by omega), if_neg (show j ≠ c by omega)]
    have := h.1 j h1 h2 (by omega)
    rw [h3] at this
    exact this
theorem root_min {f : Nat → E} {n : Nat} (h : HeapO f n) : ∀ j, j < n → le (f 0) (f j) := by
  intro j
  induction j using Nat.strongRecOn with
  | _ j ih =>
    intro hj
    by_cases h0 : j = 0
    · subst h0; exact le_refl _
    · exact le_trans (ih ((j - 1) / 2) (by omega) (by omega)) (h j (by omega) hj)
def at_ (es : List E) (i : Nat) : E := es.getD i (0, 0)
theorem at_get {es : List E} {i : Nat} (h : i < es.length) : at_ es i = es[i] := by simp [at_, h]
theorem at_some {es : List E} {i : Nat} (h : i < es.length) : es[i]? = some (at_ es i) := by simp [at_, h]
theorem at_set {es : List E} {i j : Nat} {x : E} (h : i < es.length) : at_ (es.set i x) j = if j = i then x else at_ es j := by
  unfold at_
  by_cases e : j = i
  · subst e; simp [h]
  · simp [e, Ne.symm e]
def swapL (es : List E) (i j : Nat) : List E := (es.set j (at_ es i)).set i (at_ es j)
theorem swapL_len {es : List E} {i j : Nat} : (swapL es i j).length = es.length := by simp [swapL]
theorem swapL_at {es : List E} {i j : Nat} (hi : i < es.length) (hj : j < es.length) (k : Nat) : at_ (swapL es i j) k = swapf (at_ es) i j k := by
  unfold swapL swapf
  rw [at_set (by simpa using hi), at_set hj]
theorem swapL_fun {es : List E} {i j : Nat} (hi : i < es.length) (hj : j < es.length) : at_ (swapL es i j) = swapf (at_ es) i j := funext (swapL_at hi hj)
theorem swapL_perm {es : List E} {i j : Nat} (hi : i < es.length) (hj : j < es.length) : (swapL es i j).Perm es := by
  unfold swapL
  rw [at_get hi, at_get hj]
  exact List.set_set_perm hj hi
def PlaceOk (es : List E) (g : Int → Option Value) : Prop :=
  (es.map (·.1)).Nodup ∧ (∀ j, j < es.length → g (at_ es j).1 = some (.int .i64 j)) ∧ ∀ k, k ∉ es.map (·.1) → g k = none
theorem key_inj {es : List E} (h : (es.map (·.1)).Nodup) {i j : Nat} (hi : i < es.length) (hj : j < es.length) (he : (at_ es i).1 = (at_ es j).1) : i = j := by
  rw [at_get hi, at_get hj] at he
  have h1 := List.getElem?_inj (i := i) (j := j) (by simpa using hi) h
  exact h1.1 (by simp [hi, hj, he])
theorem PlaceOk.swap {es : List E} {g : Int → Option Value} (h : PlaceOk es g) {i j : Nat} (hi : i < es.length) (hj : j < es.length) (hne : i ≠ j) :
    PlaceOk (swapL es i j) (fun k => if k = (at_ es j).1 then some (.int .i64 i) else if k = (at_ es i).1 then some (.int .i64 j) else g k) := by
  obtain ⟨h1, h2, h3⟩ := h
  have hp := (swapL_perm hi hj).map (·.1)
  refine ⟨hp.nodup_iff.2 h1, fun k hk => ?_, fun k hk => ?_⟩
  · rw [swapL_len] at hk
    rw [swapL_at hi hj]
    unfold swapf
    by_cases e1 : k = i
    · subst e1; simp
    · by_cases e2 : k = j
      · subst e2
        rw [if_neg e1, if_pos rfl]
        have : (at_ es i).1 ≠ (at_ es k).1 := fun e => hne (key_inj h1 hi hj e)
        simp [this]
      · rw [if_neg e1, if_neg e2]
        have n1 : (at_ es k).1 ≠ (at_ es j).1 := fun e => e2 (key_inj h1 hk hj e)
        have n2 : (at_ es k).1 ≠ (at_ es i).1 := fun e => e1 (key_inj h1 hk hi e)
        simp [n1, n2, h2 k hk]
  · have hk' : k ∉ es.map (·.1) := fun hm => hk (hp.mem_iff.2 hm)
    have m1 : (at_ es j).1 ∈ es.map (·.1) := by rw [at_get hj]; exact List.mem_map_of_mem (List.getElem_mem hj)
    have m2 : (at_ es i).1 ∈ es.map (·.1) := by rw [at_get hi]; exact List.mem_map_of_mem (List.getElem_mem hi)
    simp only []
    rw [if_neg (show k ≠ _ from fun e => hk' (e.symm ▸ m1)), if_neg (show k ≠ _ from fun e => hk' (e.symm ▸ m2))]
    exact h3 k hk'
def Sorted (l : List E) : Prop := l.Pairwise lt
def keys (l : List E) : List Int := l.map (·.1)
def dropK (l : List E) (k : Int) : List E := l.filter (fun e => !(e.1 == k))
def insertS (l : List E) (x : E) : List E := l.filter (fun e => decide (lt e x)) ++ x :: l.filter (fun e => !decide (lt e x))
theorem insertS_perm (l : List E) (x : E) : (insertS l x).Perm (x :: l) := by
  unfold insertS
  refine (List.perm_middle).trans (List.Perm.cons x ?_)
  exact List.filter_append_perm _ _
theorem Sorted.drop {l : List E} (h : Sorted l) (k : Int) : Sorted (dropK l k) := List.Pairwise.filter _ h
theorem Sorted.insert {l : List E} (h : Sorted l) (x : E) (hk : x.1 ∉ keys l) : Sorted (insertS l x) := by
  unfold Sorted insertS
  rw [List.pairwise_append]
  refine ⟨List.Pairwise.filter _ h, ?_, ?_⟩
  · rw [List.pairwise_cons]
    refine ⟨fun y hy => ?_, List.Pairwise.filter _ h⟩
    obtain ⟨hm, hq⟩ := List.mem_filter.1 hy
    have hn : ¬ lt y x := by simpa using hq
    exact lt_of_le_ne hn (fun e => hk (by rw [e]; exact List.mem_map_of_mem hm))
  · intro y hy z hz
    obtain ⟨_, hq⟩ := List.mem_filter.1 hy
    have hyx : lt y x := by simpa using hq
    rcases List.mem_cons.1 hz with rfl | hz
    · exact hyx
    · obtain ⟨_, hq2⟩ := List.mem_filter.1 hz
      have hn : ¬ lt z x := by simpa using hq2
      unfold lt at *; omega
theorem dropK_keys (l : List E) (k : Int) : k ∉ keys (dropK l k) := by
  intro h
  obtain ⟨e, he, rfl⟩ := List.mem_map.1 h
  have := (List.mem_filter.1 he).2
  simp at this
theorem dropK_none {l : List E} {k : Int} (h : k ∉ keys l) : dropK l k = l := by
  unfold dropK
  rw [List.filter_eq_self]
  intro e he
  have : e.1 ≠ k := fun e' => h (e' ▸ List.mem_map_of_mem he)
  simp [this]
theorem dropK_perm {l l' : List E} (h : l.Perm l') (k : Int) : (dropK l k).Perm (dropK l' k) := h.filter _
theorem head_min {es l : List E} (hp : es.Perm l) (hs : Sorted l) (hh : HeapO (at_ es) es.length) (h0 : 0 < es.length) : ∃ r, l = at_ es 0 :: r := by
  cases l with
  | nil => have := hp.length_eq; simp only [List.length_nil] at this; omega
  | cons x r =>
    refine ⟨r, ?_⟩
    have hx : x ∈ es := hp.mem_iff.2 List.mem_cons_self
    obtain ⟨j, hj⟩ := List.getElem?_of_mem hx
    have hjl : j < es.length := (List.getElem?_eq_some_iff.1 hj).1
    have hmin := root_min hh j hjl
    rw [at_some hjl] at hj
    have e1 : at_ es j = x := Option.some.inj hj
    rw [e1] at hmin
    have hm : at_ es 0 ∈ x :: r := hp.mem_iff.1 (by rw [at_get h0]; exact List.getElem_mem h0)
    rcases List.mem_cons.1 hm with e | e
    · rw [e]
    · have := (List.pairwise_cons.1 hs).1 _ e
      exact absurd this hmin
end Go.Heapq
set_option maxRecDepth 100000
namespace Go.Proofs.YtgccegnmggjkjaaGreatDoor
open Go.Den Go.Heapq
namespace Alarm
theorem tm : MapTy Tryz.prog T.m_int_int (.int .i64 0) := .of T.int T.int .i64 (by kernel_rfl) (by kernel_rfl) (by kernel_rfl)
def enc (es : List E) : List Value := es.flatMap fun e => [.int .i64 e.1, .int .u64 e.2]
theorem enc_cons (e : E) (es : List E) : enc (e :: es) = .int .i64 e.1 :: .int .u64 e.2 :: enc es := rfl
theorem enc_len : ∀ es : List E, (enc es).length = es.length * 2
  | [] => rfl
  | e :: es => by rw [enc_cons]; simp only [List.length_cons, enc_len es]; omega
theorem enc_append (es fs : List E) : enc (es ++ fs) = enc es ++ enc fs := by simp [enc]
theorem enc_0 : ∀ {es : List E} {i : Nat}, i < es.length → (enc es)[i * 2]? = some (.int .i64 (at_ es i).1)
  | [], _, h => by simp at h
  | e :: es, 0, _ => rfl
  | e :: es, i + 1, h => by
    rw [enc_cons, show (i + 1) * 2 = i * 2 + 1 + 1 by omega, List.getElem?_cons_succ, List.getElem?_cons_succ, enc_0 (by simpa using h)]
    rfl
theorem enc_1 : ∀ {es : List E} {i : Nat}, i < es.length → (enc es)[i * 2 + 1]? = some (.int .u64 (at_ es i).2)
  | [], _, h => by simp at h
  | e :: es, 0, _ => rfl
  | e :: es, i + 1, h => by
    rw [enc_cons, show (i + 1) * 2 + 1 = i * 2 + 1 + 1 + 1 by omega, List.getElem?_cons_succ, List.getElem?_cons_succ, enc_1 (by simpa using h)]
    rfl
theorem enc_set : ∀ (es : List E) (i : Nat) (x : E), ((enc es).set (i * 2) (.int .i64 x.1)).set (i * 2 + 1) (.int .u64 x.2) = enc (es.set i x)
  | [], _, _ => by simp [enc]
  | e :: es, 0, x => rfl
  | e :: es, i + 1, x => by
    rw [enc_cons, show (i + 1) * 2 = i * 2 + 1 + 1 by omega, List.set_cons_succ, List.set_cons_succ, List.set_cons_succ, List.set_cons_succ, enc_set es i x]
    rfl
theorem enc_take : ∀ (es : List E) (n : Nat), (enc es).take (n * 2) = enc (es.take n)
  | [], n => by simp [enc]
  | e :: es, 0 => by simp [enc]
  | e :: es, n + 1 => by
    rw [enc_cons, show (n + 1) * 2 = n * 2 + 1 + 1 by omega, List.take_succ_cons, List.take_succ_cons, enc_take es n]
    rfl
theorem enc_one : ∀ (es : List E), ∀ v ∈ enc es, oneCell v = true
  | [], _, h => by cases h
  | e :: es, v, h => by
    rw [enc_cons] at h
    rcases List.mem_cons.1 h with rfl | h
    · rfl
    · rcases List.mem_cons.1 h with rfl | h
      · rfl
      · exact enc_one es v h
structure Mem (h : Heap) (a : Nat) (p : Option Addr) (cap m : Nat) (es : List E) (g : Int → Option Value) : Prop where
  blk : h[a]? = some (.cells #[.slice p es.length cap, .map (some m)] T.alarm_Alarm (0, 0))
  own : Own h p es.length cap 2 (enc es)
  map : MapF h m g
  ne : ¬ inBlk p a
def foot (a : Nat) (p : Option Addr) (m : Nat) (c : Nat) : Prop := c = a ∨ c = m ∨ inBlk p c
def inner (p : Option Addr) (m : Nat) (c : Nat) : Prop := c = m ∨ inBlk p c
variable {h : Heap} {a m cap : Nat} {p : Option Addr} {es : List E} {g : Int → Option Value} {R : Value → Heap → Prop}
theorem Mem.am (M : Mem h a p cap m es g) : a ≠ m := by
  rintro rfl
  obtain ⟨x, c, hm⟩ := M.map.map
  rw [M.blk] at hm; cases hm
theorem Mem.pm (M : Mem h a p cap m es g) : ¬ inBlk p m := fun hb => by
  obtain ⟨x, c, hm⟩ := M.map.map
  obtain ⟨y, t, hc⟩ := M.own.cells hb
  rw [hc] at hm; cases hm
theorem Mem.lt (M : Mem h a p cap m es g) {c : Nat} (hc : foot a p m c) : c < h.size := by
  rcases hc with rfl | rfl | hc
  · exact lt_of_get M.blk
  · exact M.map.lt
  · exact M.own.blk_lt hc
theorem Mem.frame {S : Nat → Prop} {h' : Heap} (M : Mem h a p cap m es g) (hf : Fr S h h') (hn : ∀ c, foot a p m c → ¬ S c) : Mem h' a p cap m es g :=
  ⟨hf.get M.blk (hn a (.inl rfl)), M.own.frame hf fun c hc => hn c (.inr (.inr hc)), M.map.frame hf (hn m (.inr (.inl rfl))), M.ne⟩
theorem Mem.calm {h' : Heap} (M : Mem h a p cap m es g) (hf : Fr (fun _ => False) h h') : Mem h' a p cap m es g := M.frame hf fun _ _ => id
theorem Mem.hd (M : Mem h a p cap m es g) : hcell h ⟨a, 0, none⟩ = some (.slice p es.length cap) := cell_at M.blk rfl
theorem Mem.mp (M : Mem h a p cap m es g) : hcell h ⟨a, 1, none⟩ = some (.map (some m)) := cell_at M.blk rfl
theorem Mem.some (M : Mem h a p cap m es g) (hn : 0 < es.length) : ∃ ad, p = some ad := by
  obtain ⟨b, off, hp⟩ := M.own.some (by rw [enc_len]; omega)
  exact ⟨_, hp⟩
theorem Mem.c0 {ad : Addr} (M : Mem h a (.some ad) cap m es g) {i : Nat} (hi : i < es.length) : hcell h (ad.add (i * 2)) = .some (.int .i64 (at_ es i).1) := M.own.cell (enc_0 hi)
theorem Mem.c1 {ad : Addr} (M : Mem h a (.some ad) cap m es g) {i : Nat} (hi : i < es.length) : hcell h ((ad.add (i * 2)).add 1) = .some (.int .u64 (at_ es i).2) := by
  rw [add_add]; exact M.own.cell (enc_1 hi)
theorem ahead_ok {x0 x1 y0 y1 : Int} (hk : ∀ h', Fr (fun _ => False) h h' → R (.bool (decide (lt (x0, x1) (y0, y1)))) h') :
    CallsH Tryz.prog F.alarm_ahead #[.agg #[.int .i64 x0, .int .u64 x1], .agg #[.int .i64 y0, .int .u64 y1]] h R := by
  refine alarm_ahead.walk ?_
  rintro b h1 rfl rfl b1 h2 rfl rfl
  have f : Fr (fun _ => False) h ((h.push (.cells #[.int .i64 x0, .int .u64 x1] T.alarm_entry)).push (.cells #[.int .i64 y0, .int .u64 y1] T.alarm_entry)) := Fr.tt (Fr.push _ _) (Fr.push _ _)
  have hx := push_old (x := .cells #[.int .i64 y0, .int .u64 y1] T.alarm_entry) (push_new (h := h) (x := .cells #[.int .i64 x0, .int .u64 x1] T.alarm_entry))
  have hy := push_new (h := h.push (.cells #[.int .i64 x0, .int .u64 x1] T.alarm_entry)) (x := .cells #[.int .i64 y0, .int .u64 y1] T.alarm_entry)
  have hr := hk _ f
  refine ⟨x1, cell_at hx rfl, y1, cell_at hy rfl, ?_⟩
  by_cases h1 : x1 < y1
  · have e : decide (lt (x0, x1) (y0, y1)) = true := by simp [lt, h1]
    rw [e] at hr
    simpa only [h1, decide_true, if_true] using hr
  · simp only [h1, decide_false, Bool.false_eq_true, if_false]
    refine ⟨x1, cell_at hx rfl, y1, cell_at hy rfl, ?_⟩
    by_cases h2 : x1 = y1
    · subst h2
      simp only [beq_self_eq_true, if_true]
      refine ⟨x0, cell_at hx rfl, y0, cell_at hy rfl, ?_⟩
      have e : decide (lt (x0, x1) (y0, x1)) = decide (x0 < y0) := by simp [lt]
      rw [e] at hr
      exact hr
    · have e : decide (lt (x0, x1) (y0, y1)) = false := by simp [lt, h1, h2]
      rw [e] at hr
      simpa only [beq_eq_false_iff_ne.2 h2, Bool.false_eq_true, if_false] using hr
theorem put_ok (M : Mem h a p cap m es g) {i : Nat} (hi : i < es.length) {x0 x1 : Int}
    (hk : ∀ h', Mem h' a p cap m (es.set i (x0, x1)) (fun k => if k = x0 then some (.int .i64 i) else g k) → Fr (inner p m) h h' → R (.tuple #[]) h') :
    CallsH Tryz.prog F.alarm_Alarm_put #[.pointer (some ⟨a, 0, none⟩), .int .i64 i, .agg #[.int .i64 x0, .int .u64 x1]] h R := by
  obtain ⟨ad, rfl⟩ := M.some (by omega)
  refine alarm_Alarm_put.walk ?_
  rintro b h1 hb rfl
  have f1 : Fr (fun _ => False) h (h.push (.cells #[.int .i64 x0, .int .u64 x1] T.alarm_entry)) := Fr.push _ _
  have M1 := M.calm f1
  have hx := push_new (h := h) (x := .cells #[.int .i64 x0, .int .u64 x1] T.alarm_entry)
  rw [← hb] at hx
  generalize h.push (.cells #[.int .i64 x0, .int .u64 x1] T.alarm_entry) = h1 at f1 M1 hx
  have hbn : ∀ c, foot a (some ad) m c → b ≠ c := fun c hc e => by have := M.lt hc; omega
  refine ⟨_, _, _, M1.hd, x0, cell_at hx rfl, x1, cell_at hx rfl, ⟨by omega, by omega⟩, onSome_some.2 ?_⟩
  rw [Int.toNat_natCast, add_add]
  have hl := enc_len es
  refine M1.own.store (by omega) fun h2 o2 s2 k2 => o2.store (by rw [List.length_set]; omega) fun h3 o3 s3 k3 => ?_
  rw [enc_set es i (x0, x1)] at o3
  have f2 : Fr (inBlk (some ad)) h1 h3 := Fr.tt (Fr.of_eq s2 k2) (Fr.of_eq s3 k3)
  have hx3 := f2.get hx (fun hc => hbn b (.inr (.inr hc)) rfl)
  have hb3 := f2.get M1.blk M.ne
  refine ⟨_, cell_at hb3 rfl, x0, cell_at hx3 rfl, ?_⟩
  refine den_mapUpdateF tm (M1.map.frame f2 M.pm) fun h4 m4 s4 k4 => hk h4 ⟨?_, ?_, m4, M.ne⟩ ?_
  · rw [k4 a M.am, hb3, List.length_set]
  · rw [List.length_set]
    exact o3.frame (Fr.of_eq (S := fun c => c = m) s4 k4) (fun c hc e => M.pm (e ▸ hc))
  · exact Fr.no f1 ((f2.mono fun c _ hc => .inr hc).trans (Fr.of_eq (S := fun c => c = m) s4 k4) (fun _ _ => id) (fun _ _ hc => .inl hc))
theorem fork2 {h : Heap} {t : TypeId} {z0 z1 x0 x1 y0 y1 : Value} {G1 G2 G3 G4 : Heap → Prop} {J : Option Addr → Option Addr → Heap → Prop}
    (hG : ∀ h', Fr (fun _ => False) h h' → G1 h' ∧ G2 h' ∧ G3 h' ∧ G4 h')
    (hJ : ∀ b b' h', h'[b]? = some (.cells #[x0, x1] t (0, 0)) → h'[b']? = some (.cells #[y0, y1] t (0, 0)) → h.size ≤ b → h.size ≤ b' → Fr (fun _ => False) h h' → J (some ⟨b, 0, none⟩) (some ⟨b', 0, none⟩) h') :
    (NewP h (.cells #[z0, z1] t) fun b h_6 => G1 h_6 ∧ G2 h_6 ∧ G3 h_6 ∧ G4 h_6 ∧ NewP h_6 (.cells #[z0, z1] t) fun b_1 h_7 => G1 h_7 ∧ G2 h_7 ∧ G3 h_7 ∧ G4 h_7 ∧
      StoreP h_7 ⟨b, 0, none⟩ x0 fun h_8 => StoreP h_8 ⟨b, 1, none⟩ x1 fun h_9 => G1 h_9 ∧ G2 h_9 ∧ StoreP h_9 ⟨b_1, 0, none⟩ y0 fun h_10 => StoreP h_10 ⟨b_1, 1, none⟩ y1 fun h_11 => J (some ⟨b, 0, none⟩) (some ⟨b_1, 0, none⟩) h_11) ∧
    (NewP h (.cells #[z0, z1] t) fun b h_6 => G1 h_6 ∧ G2 h_6 ∧ G3 h_6 ∧ G4 h_6 ∧ NewP h_6 (.cells #[z0, z1] t) fun b_1 h_7 => G1 h_7 ∧ G2 h_7 ∧ G3 h_7 ∧ G4 h_7 ∧
      StoreP h_7 ⟨b_1, 0, none⟩ x0 fun h_8 => StoreP h_8 ⟨b_1, 1, none⟩ x1 fun h_9 => G1 h_9 ∧ G2 h_9 ∧ StoreP h_9 ⟨b, 0, none⟩ y0 fun h_10 => StoreP h_10 ⟨b, 1, none⟩ y1 fun h_11 => J (some ⟨b_1, 0, none⟩) (some ⟨b, 0, none⟩) h_11) ∧ True := by
  have key : ∀ (b b' : Nat) (h7 : Heap), b ≠ b' → h.size ≤ b → h.size ≤ b' → Fr (fun _ => False) h h7 → h7[b]? = some (.cells #[z0, z1] t (0, 0)) → h7[b']? = some (.cells #[z0, z1] t (0, 0)) →
      StoreP h7 ⟨b, 0, none⟩ x0 fun h_8 => StoreP h_8 ⟨b, 1, none⟩ x1 fun h_9 => G1 h_9 ∧ G2 h_9 ∧ StoreP h_9 ⟨b', 0, none⟩ y0 fun h_10 => StoreP h_10 ⟨b', 1, none⟩ y1 fun h_11 => J (some ⟨b, 0, none⟩) (some ⟨b', 0, none⟩) h_11 := by
    intro b b' h7 hne hb hb' f7 c7 c7'
    have fr : ∀ {h1 h2 : Heap} {x : Nat}, Fr (fun _ => False) h h1 → h.size ≤ x → h2.size = h1.size → (∀ y, y ≠ x → h2[y]? = h1[y]?) → Fr (fun _ => False) h h2 := fun f hx hs ho =>
      ⟨by have := f.1; omega, fun c hc hn => by rw [ho c (by omega)]; exact f.2 c hc hn⟩
    refine storeP_blk c7 (by simp) fun h8 c8 s8 k8 => storeP_blk c8 (by simp) fun h9 c9 s9 k9 => ?_
    have f9 := fr (fr f7 hb s8 k8) hb s9 k9
    have c9' : h9[b']? = some (.cells #[z0, z1] t (0, 0)) := by rw [k9 _ hne.symm, k8 _ hne.symm]; exact c7'
    refine ⟨(hG _ f9).1, (hG _ f9).2.1, storeP_blk c9' (by simp) fun h10 c10 s10 k10 => storeP_blk c10 (by simp) fun h11 c11 s11 k11 => ?_⟩
    refine hJ b b' h11 ?_ c11 hb hb' (fr (fr f9 hb' s10 k10) hb' s11 k11)
    rw [k11 _ hne, k10 _ hne]; exact c9
  have f1 : ∀ o, Fr (fun _ => False) h (h.push o) := fun o => Fr.push _ _
  refine ⟨?_, ?_, trivial⟩
  · rintro b h1 rfl rfl
    obtain ⟨g1, g2, g3, g4⟩ := hG _ (f1 _)
    refine ⟨g1, g2, g3, g4, ?_⟩
    rintro b' h2 rfl rfl
    have f2 := Fr.tt (f1 (.cells #[z0, z1] t)) (Fr.push (h.push (.cells #[z0, z1] t)) (.cells #[z0, z1] t))
    obtain ⟨g1, g2, g3, g4⟩ := hG _ f2
    exact ⟨g1, g2, g3, g4, key _ _ _ (by simp) (by simp) (by simp) f2 (push_old push_new) push_new⟩
  · rintro b h1 rfl rfl
    obtain ⟨g1, g2, g3, g4⟩ := hG _ (f1 _)
    refine ⟨g1, g2, g3, g4, ?_⟩
    rintro b' h2 rfl rfl
    have f2 := Fr.tt (f1 (.cells #[z0, z1] t)) (Fr.push (h.push (.cells #[z0, z1] t)) (.cells #[z0, z1] t))
    obtain ⟨g1, g2, g3, g4⟩ := hG _ f2
    exact ⟨g1, g2, g3, g4, key _ _ _ (by simp) (by simp) (by simp) f2 push_new (push_old push_new)⟩
end Alarm
end Go.Proofs.YtgccegnmggjkjaaGreatDoor
set_option maxRecDepth 100000
namespace Go.Proofs.YtgccegnmggjkjaaGreatDoor
open Go.Den Go.Heapq
namespace Alarm
variable {h : Heap} {a m cap : Nat} {p : Option Addr} {es : List E} {g : Int → Option Value} {R : Value → Heap → Prop}
theorem par_eq {q : Nat} (hq : q < 1000000) : IntKind.wrap .i64 (Int.tdiv (IntKind.wrap .i64 ((q : Int) - 1)) 2) = (((q - 1) / 2 : Nat) : Int) := by
  rw [wrap_id (n := (q : Int) - 1) (by omega) (by omega)]
  cases q with
  | zero => decide
  | succ n =>
    rw [show ((n + 1 : Nat) : Int) - 1 = (n : Int) by omega, show n + 1 - 1 = n from rfl]
    have : Int.tdiv (n : Int) 2 = ((n / 2 : Nat) : Int) := by
      rw [Int.tdiv_eq_ediv_of_nonneg (by omega)]
      omega
    rw [this]
    exact wrap_id (by omega) (by omega)
theorem kid1_eq {q : Nat} (hq : q < 1000000) : IntKind.wrap .i64 (IntKind.wrap .i64 (2 * (q : Int)) + 1) = ((2 * q + 1 : Nat) : Int) := by
  rw [wrap_id (n := 2 * (q : Int)) (by omega) (by omega), wrap_id (by omega) (by omega)]; omega
theorem kid2_eq {q : Nat} (hq : q < 1000000) : IntKind.wrap .i64 (IntKind.wrap .i64 (2 * (q : Int)) + 2) = ((2 * q + 2 : Nat) : Int) := by
  rw [wrap_id (n := 2 * (q : Int)) (by omega) (by omega), wrap_id (by omega) (by omega)]; omega
theorem swap_ok {K : Heap → Prop} (M : Mem h a p cap m es g) (hP : PlaceOk es g) {i j b b' : Nat} (hi : i < es.length) (hj : j < es.length) (hne : i ≠ j)
    (hb : h[b]? = some (.cells #[.int .i64 (at_ es i).1, .int .u64 (at_ es i).2] T.alarm_entry (0, 0))) (hb' : h[b']? = some (.cells #[.int .i64 (at_ es j).1, .int .u64 (at_ es j).2] T.alarm_entry (0, 0)))
    (nb' : ¬ inner p m b')
    (hk : ∀ h' g', Mem h' a p cap m (swapL es i j) g' → PlaceOk (swapL es i j) g' → Fr (inner p m) h h' → K h') :
    onSome (some (⟨b, 0, none⟩ : Addr)) fun a_1 =>
      ∃ (t45_0 : Int), hcell h a_1 = some (.int .i64 t45_0) ∧ ∃ (t45_1 : Int), hcell h (a_1.add 1) = some (.int .u64 t45_1) ∧
      CallsH Tryz.prog F.alarm_Alarm_put #[.pointer (some ⟨a, 0, none⟩), .int .i64 (j : Int), .agg #[.int .i64 t45_0, .int .u64 t45_1]] h fun v h_4 =>
      v = .tuple #[] ∧
      onSome (some (⟨b', 0, none⟩ : Addr)) fun a_2 =>
      ∃ (t49_0 : Int), hcell h_4 a_2 = some (.int .i64 t49_0) ∧ ∃ (t49_1 : Int), hcell h_4 (a_2.add 1) = some (.int .u64 t49_1) ∧
      CallsH Tryz.prog F.alarm_Alarm_put #[.pointer (some ⟨a, 0, none⟩), .int .i64 (i : Int), .agg #[.int .i64 t49_0, .int .u64 t49_1]] h_4 fun v_1 h_5 =>
      v_1 = .tuple #[] ∧ K h_5 := by
  refine onSome_some.2 ⟨_, cell_at hb rfl, _, by rw [add_blk]; exact cell_at hb rfl, ?_⟩
  refine put_ok M hj fun h4 M4 f4 => ⟨rfl, onSome_some.2 ?_⟩
  have hb4 := f4.get hb' nb'
  refine ⟨_, cell_at hb4 rfl, _, by rw [add_blk]; exact cell_at hb4 rfl, ?_⟩
  refine put_ok M4 (by rw [List.length_set]; exact hi) fun h5 M5 f5 => ⟨rfl, hk h5 _ M5 (hP.swap hi hj hne) (Fr.tt f4 f5)⟩
def upI (h0 : Heap) (a : Nat) (p : Option Addr) (cap m : Nat) (es0 : List E) (i0 : Nat) (i : Int) (h : Heap) : Prop :=
  ∃ es g q, i = ((q : Nat) : Int) ∧ q < es0.length ∧ es.length = es0.length ∧ Mem h a p cap m es g ∧ PlaceOk es g ∧ es.Perm es0 ∧ ExBoth (at_ es) es0.length q ∧
    ((q = i0 ∧ es = es0) ∨ KidsOk (at_ es) es0.length q) ∧ at_ es q = at_ es0 i0 ∧ Fr (inner p m) h0 h
theorem up_ok (M : Mem h a p cap m es g) (hP : PlaceOk es g) {i : Nat} (hi : i < es.length) (hn : es.length < 1000000) (ex : ExBoth (at_ es) es.length i)
    (hk : ∀ h' es' g' q, Mem h' a p cap m es' g' → PlaceOk es' g' → es'.Perm es → es'.length = es.length → q < es.length → at_ es' q = at_ es i → ExDown (at_ es') es.length q → (KidsOk (at_ es) es.length i → HeapO (at_ es') es.length) → Fr (inner p m) h h' → R (.tuple #[]) h') :
    CallsH Tryz.prog F.alarm_Alarm_up #[.pointer (some ⟨a, 0, none⟩), .int .i64 (i : Int)] h R := by
  refine alarm_Alarm_up.walk ⟨upI h a p cap m es i, fun i _ => i.toNat, ⟨es, g, i, rfl, hi, rfl, M, hP, .refl _, ex, .inl ⟨rfl, rfl⟩, rfl, Fr.refl _ _⟩, ?_⟩
  rintro i1 h1 ⟨es1, g1, q, rfl, hq, hl, M1, P1, pm1, ex1, kd, hat, fr⟩
  rw [par_eq (by omega)]
  refine JoinP.of fun J hJ => ?_
  have hq1 : q < es1.length := by omega
  have hp1 : (q - 1) / 2 < es1.length := by omega
  have stay : ∀ h2, Fr (fun _ => False) h1 h2 → (q = 0 ∨ le (at_ es1 ((q - 1) / 2)) (at_ es1 q)) → J false h2 := by
    intro h2 f hle
    subst hJ
    simp only [Bool.false_eq_true, if_false]
    have hd := up_stay ex1 hle
    refine hk h2 es1 g1 q (M1.calm f) P1 pm1 hl hq hat hd (fun k0 => ?_) (Fr.on fr f)
    rcases kd with ⟨e1, e2⟩ | kd
    · subst e1 e2; exact heap_of_down hd k0
    · exact heap_of_down hd kd
  by_cases h0 : q = 0
  · subst h0
    exact stay h1 (Fr.refl _ _) (.inl rfl)
  · have hgt : (q : Int) > 0 := by omega
    simp only [hgt, decide_true, if_true, Int.toNat_natCast]
    obtain ⟨ad, rfl⟩ := M1.some (by omega)
    refine ⟨_, _, _, M1.hd, ⟨by omega, by omega⟩, onSome_some.2 ⟨_, M1.c0 hq1, _, M1.c1 hq1, _, _, _, M1.hd, ⟨by omega, by omega⟩, onSome_some.2 ⟨_, M1.c0 hp1, _, M1.c1 hp1, ahead_ok fun h2 f => ⟨_, rfl, (M1.calm f).hd, (M1.calm f).hd, ?_⟩⟩⟩⟩
    by_cases hlt : lt (at_ es1 q) (at_ es1 ((q - 1) / 2))
    · rw [show decide (lt ((at_ es1 q).1, (at_ es1 q).2) ((at_ es1 ((q - 1) / 2)).1, (at_ es1 ((q - 1) / 2)).2)) = true from decide_eq_true hlt]
      subst hJ
      simp only [if_true, Int.toNat_natCast]
      have M2 := M1.calm f
      refine JoinP.of fun J1 hJ1 => ?_
      refine ⟨_, _, _, M2.hd, ⟨by omega, by omega⟩, onSome_some.2 ⟨_, M2.c0 hq1, _, M2.c1 hq1, _, _, _, M2.hd, ⟨by omega, by omega⟩, onSome_some.2 ⟨_, M2.c0 hp1, _, M2.c1 hp1, ?_⟩⟩⟩
      refine fork2 (fun h' f' => ?_) (fun b b' h' hb hb' sb sb' f' => ?_)
      · have M' := M2.calm f'
        exact ⟨⟨M'.c0 hp1, M'.c1 hp1, trivial⟩, M'.hd, ⟨M'.c0 hq1, M'.c1 hq1, trivial⟩, M'.hd⟩
      · subst hJ1
        have M3 := M2.calm f'
        refine swap_ok M3 P1 hq1 hp1 (by omega) hb hb' (fun hc => ?_) fun h5 g5 M5 P5 f5 => ⟨⟨swapL es1 q ((q - 1) / 2), g5, (q - 1) / 2, rfl, by omega, by rw [swapL_len]; exact hl, M5, P5, (swapL_perm hq1 hp1).trans pm1, ?_⟩, ?_⟩
        · have := M2.lt (.inr hc); omega
        · have mv := up_move ex1 (by omega) hq rfl hlt
          rw [swapL_fun hq1 hp1]
          refine ⟨mv.1, .inr mv.2, ?_, Fr.tt fr (Fr.no f (Fr.no f' f5))⟩
          rw [← hat]; unfold swapf; rw [if_neg (by omega), if_pos rfl]
        · show Int.toNat (((q - 1) / 2 : Nat) : Int) < Int.toNat (q : Int)
          rw [Int.toNat_natCast, Int.toNat_natCast]; omega
    · rw [show decide (lt ((at_ es1 q).1, (at_ es1 q).2) ((at_ es1 ((q - 1) / 2)).1, (at_ es1 ((q - 1) / 2)).2)) = false from decide_eq_false hlt]
      exact stay h2 f (.inr hlt)
theorem kid_ok {J : Int → Heap → Prop} (M : Mem h a p cap m es g) {b c : Nat} (hb : b < es.length)
    (k1 : es.length ≤ c → J b h) (k2 : c < es.length → lt (at_ es c) (at_ es b) → ∀ h', Fr (fun _ => False) h h' → J c h') (k3 : c < es.length → ¬ lt (at_ es c) (at_ es b) → ∀ h', Fr (fun _ => False) h h' → J b h') :
    JoinP (fun (t43 : Bool) (h_4 : Heap) =>
      JoinP (fun (best_2 : Int) (h_5 : Heap) =>
        J best_2 h_5)
      (fun J_2 =>
        if t43 = true then
          J_2 (c : Int) h_4
        else
          J_2 (b : Int) h_4))
    (fun J_1 =>
      ∃ (t24_p : Option Addr) (t24_l t24_c : Nat), hcell h ⟨a, 0, none⟩ = some (.slice t24_p t24_l t24_c) ∧
      if (decide ((c : Int) < ((t24_l : Nat) : Int))) = true then
        ∃ (t31_p : Option Addr) (t31_l t31_c : Nat), hcell h ⟨a, 0, none⟩ = some (.slice t31_p t31_l t31_c) ∧
        ((0 : Int) ≤ (c : Int) ∧ (c : Int) < ((t31_l : Nat) : Int)) ∧
        onSome t31_p fun a_1 =>
        ∃ (t34_0 : Int), hcell h (a_1.add (Int.toNat (c : Int) * 2)) = some (.int .i64 t34_0) ∧ ∃ (t34_1 : Int), hcell h ((a_1.add (Int.toNat (c : Int) * 2)).add 1) = some (.int .u64 t34_1) ∧
        ∃ (t38_p : Option Addr) (t38_l t38_c : Nat), hcell h ⟨a, 0, none⟩ = some (.slice t38_p t38_l t38_c) ∧
        ((0 : Int) ≤ (b : Int) ∧ (b : Int) < ((t38_l : Nat) : Int)) ∧
        onSome t38_p fun a_2 =>
        ∃ (t41_0 : Int), hcell h (a_2.add (Int.toNat (b : Int) * 2)) = some (.int .i64 t41_0) ∧ ∃ (t41_1 : Int), hcell h ((a_2.add (Int.toNat (b : Int) * 2)).add 1) = some (.int .u64 t41_1) ∧
        CallsH Tryz.prog F.alarm_ahead #[.agg #[.int .i64 t34_0, .int .u64 t34_1], .agg #[.int .i64 t41_0, .int .u64 t41_1]] h fun v h_6 =>
        ∃ (t42 : Bool), v = .bool t42 ∧
        hcell h_6 ⟨a, 0, none⟩ = some (.slice t38_p t38_l t38_c) ∧
        hcell h_6 ⟨a, 0, none⟩ = some (.slice t31_p t31_l t31_c) ∧
        hcell h_6 ⟨a, 0, none⟩ = some (.slice t24_p t24_l t24_c) ∧
        J_1 t42 h_6
      else
        J_1 false h) := by
  refine JoinP.of fun J1 hJ1 => ⟨_, _, _, M.hd, ?_⟩
  by_cases hc : c < es.length
  · have hc' : (c : Int) < (es.length : Int) := by omega
    simp only [hc', decide_true, if_true, Int.toNat_natCast]
    obtain ⟨ad, rfl⟩ := M.some (by omega)
    refine ⟨_, _, _, M.hd, ⟨by omega, by omega⟩, onSome_some.2 ⟨_, M.c0 hc, _, M.c1 hc, _, _, _, M.hd, ⟨by omega, by omega⟩, onSome_some.2 ⟨_, M.c0 hb, _, M.c1 hb, ahead_ok fun h2 f => ⟨_, rfl, (M.calm f).hd, (M.calm f).hd, (M.calm f).hd, ?_⟩⟩⟩⟩
    subst hJ1
    by_cases hlt : lt (at_ es c) (at_ es b)
    · rw [show decide (lt ((at_ es c).1, (at_ es c).2) ((at_ es b).1, (at_ es b).2)) = true from decide_eq_true hlt]
      simp only [if_true, JoinP]
      exact k2 hc hlt h2 f
    · rw [show decide (lt ((at_ es c).1, (at_ es c).2) ((at_ es b).1, (at_ es b).2)) = false from decide_eq_false hlt]
      simp only [Bool.false_eq_true, if_false, JoinP]
      exact k3 hc hlt h2 f
  · have hc' : ¬ (c : Int) < (es.length : Int) := by omega
    subst hJ1
    simp only [hc', decide_false, Bool.false_eq_true, if_false, JoinP]
    exact k1 (by omega)
def dnI (h0 : Heap) (a : Nat) (p : Option Addr) (cap m : Nat) (es0 : List E) (i : Int) (h : Heap) : Prop :=
  ∃ es g q, i = ((q : Nat) : Int) ∧ q < es0.length ∧ es.length = es0.length ∧ Mem h a p cap m es g ∧ PlaceOk es g ∧ es.Perm es0 ∧ ExDown (at_ es) es0.length q ∧ Fr (inner p m) h0 h
def kidI (h1 : Heap) (es : List E) (q : Nat) (best t : Int) (h : Heap) : Prop :=
  ∃ b k : Nat, best = b ∧ t = k ∧ k ≤ 2 ∧ b < es.length ∧ Fr (fun _ => False) h1 h ∧ (b ≠ q → (b - 1) / 2 = q ∧ 0 < b ∧ lt (at_ es b) (at_ es q)) ∧ ∀ c, 0 < c → c < es.length → c ≤ 2 * q + k → (c - 1) / 2 = q → le (at_ es b) (at_ es c)
theorem down_ok (M : Mem h a p cap m es g) (hP : PlaceOk es g) {i : Nat} (hi : i < es.length) (hn : es.length < 1000000) (ex : ExDown (at_ es) es.length i)
    (hk : ∀ h' es' g', Mem h' a p cap m es' g' → PlaceOk es' g' → es'.Perm es → es'.length = es.length → HeapO (at_ es') es.length → Fr (inner p m) h h' → R (.tuple #[]) h') :
    CallsH Tryz.prog F.alarm_Alarm_down #[.pointer (some ⟨a, 0, none⟩), .int .i64 (i : Int)] h R := by
  refine alarm_Alarm_down.walk ⟨dnI h a p cap m es, fun i _ => es.length - i.toNat, ⟨es, g, i, rfl, hi, rfl, M, hP, .refl _, ex, Fr.refl _ _⟩, ?_⟩
  rintro i1 h1 ⟨es1, g1, q, rfl, hq, hl, M1, P1, pm1, ex1, fr⟩
  have hq1 : q < es1.length := by omega
  rw [kid1_eq (by omega), kid2_eq (by omega)]
  refine ⟨kidI h1 es1 q, fun _ t _ => 2 - t.toNat, ⟨q, 0, rfl, rfl, by omega, hq1, Fr.refl _ _, fun hne => absurd rfl hne, fun c h1 h2 h3 h4 => by omega⟩, ?_⟩
  rintro best t h2 ⟨b, k, rfl, rfl, hk2, hb, f2, hbq, hall⟩
  have M2 := M1.calm f2
  by_cases hkk : k < 2
  · have hkk' : (k : Int) < 2 := by omega
    simp only [hkk', decide_true, if_true]
    rw [wrap_id (n := (k : Int) + 1) (by omega) (by omega)]
    refine JoinP.of fun J hJ => ⟨⟨by omega, by omega⟩, fun hk0 => ?_, fun hk1 => ?_, trivial⟩
    · obtain rfl : k = 0 := by omega
      refine kid_ok M2 hb (fun hc => ?_) (fun hc hlt h3 f3 => ?_) (fun hc hlt h3 f3 => ?_) <;> subst hJ <;> refine ⟨?_, by simp⟩
      · exact ⟨b, 1, rfl, rfl, by omega, hb, f2, hbq, fun c c1 c2 c3 c4 => by omega⟩
      · refine ⟨2 * q + 1, 1, rfl, rfl, by omega, hc, Fr.tt f2 f3, fun _ => ⟨by omega, by omega, ?_⟩, fun c c1 c2 c3 c4 => ?_⟩
        · by_cases e : b = q
          · rw [← e]; exact e ▸ hlt
          · exact lt_trans hlt (hbq e).2.2
        · have : c = 2 * q + 1 := by omega
          subst this; exact le_refl _
      · refine ⟨b, 1, rfl, rfl, by omega, hb, Fr.tt f2 f3, hbq, fun c c1 c2 c3 c4 => ?_⟩
        have : c = 2 * q + 1 := by omega
        subst this; exact hlt
    · obtain rfl : k = 1 := by omega
      refine kid_ok M2 hb (fun hc => ?_) (fun hc hlt h3 f3 => ?_) (fun hc hlt h3 f3 => ?_) <;> subst hJ <;> refine ⟨?_, by simp⟩
      · exact ⟨b, 2, rfl, rfl, by omega, hb, f2, hbq, fun c c1 c2 c3 c4 => hall c c1 c2 (by omega) c4⟩
      · refine ⟨2 * q + 2, 2, rfl, rfl, by omega, hc, Fr.tt f2 f3, fun _ => ⟨by omega, by omega, ?_⟩, fun c c1 c2 c3 c4 => ?_⟩
        · by_cases e : b = q
          · rw [← e]; exact e ▸ hlt
          · exact lt_trans hlt (hbq e).2.2
        · by_cases e : c = 2 * q + 2
          · subst e; exact le_refl _
          · exact le_trans (le_of_lt hlt) (hall c c1 c2 (by omega) c4)
      · refine ⟨b, 2, rfl, rfl, by omega, hb, Fr.tt f2 f3, hbq, fun c c1 c2 c3 c4 => ?_⟩
        by_cases e : c = 2 * q + 2
        · subst e; exact hlt
        · exact hall c c1 c2 (by omega) c4
  · obtain rfl : k = 2 := by omega
    simp only [show ¬ ((2 : Nat) : Int) < 2 by omega, decide_false, Bool.false_eq_true, if_false]
    by_cases e : b = q
    · subst e
      simp only [bne_self_eq_false, Bool.false_eq_true, if_false]
      refine hk h2 es1 g1 M2 P1 pm1 hl (heap_of_down ex1 fun j j1 j2 j3 => hall j j1 (by omega) (by omega) j3) (Fr.on fr f2)
    · obtain ⟨b1, b2, b3⟩ := hbq e
      have hne : ((b : Int) != (q : Int)) = true := by simp; omega
      simp only [hne, if_true, Int.toNat_natCast]
      obtain ⟨ad, rfl⟩ := M2.some (by omega)
      refine JoinP.of fun J1 hJ1 => ?_
      refine ⟨_, _, _, M2.hd, ⟨by omega, by omega⟩, onSome_some.2 ⟨_, M2.c0 hq1, _, M2.c1 hq1, _, _, _, M2.hd, ⟨by omega, by omega⟩, onSome_some.2 ⟨_, M2.c0 hb, _, M2.c1 hb, ?_⟩⟩⟩
      refine fork2 (fun h' f' => ?_) (fun x x' h' hx hx' sx sx' f' => ?_)
      · have M' := M2.calm f'
        exact ⟨⟨M'.c0 hb, M'.c1 hb, trivial⟩, M'.hd, ⟨M'.c0 hq1, M'.c1 hq1, trivial⟩, M'.hd⟩
      · subst hJ1
        have M3 := M2.calm f'
        refine swap_ok M3 P1 hq1 hb (fun x => e x.symm) hx hx' (fun hc => ?_) fun h5 g5 M5 P5 f5 => ⟨⟨swapL es1 q b, g5, b, rfl, by omega, by rw [swapL_len]; exact hl, M5, P5, (swapL_perm hq1 hb).trans pm1, ?_, Fr.tt fr (Fr.no f2 (Fr.no f' f5))⟩, ?_⟩
        · have := M2.lt (.inr hc); omega
        · rw [swapL_fun hq1 hb]
          exact down_move ex1 b1 b2 (by omega) b3 fun j j1 j2 j3 => hall j j1 (by omega) (by omega) j3
        · show es.length - Int.toNat (b : Int) < es.length - Int.toNat (q : Int)
          rw [Int.toNat_natCast, Int.toNat_natCast]; omega
end Alarm
end Go.Proofs.YtgccegnmggjkjaaGreatDoor
set_option maxRecDepth 100000
namespace Go.Heapq
theorem take_last {es : List E} {n : Nat} (hn : es.length = n + 1) : es = es.take n ++ [at_ es n] := by
  have h : n < es.length := by omega
  rw [at_get h]
  have := List.take_append_getElem h
  rw [this, List.take_of_length_le (by omega)]
theorem at_take {es : List E} {n i : Nat} (hi : i < n) : at_ (es.take n) i = at_ es i := by
  unfold at_
  rw [List.getD_eq_getElem?_getD, List.getD_eq_getElem?_getD, List.getElem?_take, if_pos hi]
theorem at_append {es : List E} {x : E} {i : Nat} : at_ (es ++ [x]) i = if i < es.length then at_ es i else if i = es.length then x else (0, 0) := by
  unfold at_
  rw [List.getD_eq_getElem?_getD, List.getD_eq_getElem?_getD]
  by_cases h : i < es.length
  · rw [List.getElem?_append_left h, if_pos h]
  · rw [List.getElem?_append_right (by omega), if_neg h]
    by_cases e : i = es.length
    · subst e; simp
    · rw [if_neg e, List.getElem?_eq_none (by simp; omega)]; rfl
theorem mem_keys {es : List E} {k : Int} (h : k ∈ keys es) : ∃ j, j < es.length ∧ (at_ es j).1 = k := by
  obtain ⟨e, he, rfl⟩ := List.mem_map.1 h
  obtain ⟨j, hj⟩ := List.getElem?_of_mem he
  have hl := (List.getElem?_eq_some_iff.1 hj).1
  rw [at_some hl] at hj
  exact ⟨j, hl, congrArg Prod.fst (Option.some.inj hj)⟩
theorem at_mem {es : List E} {j : Nat} (h : j < es.length) : at_ es j ∈ es := by rw [at_get h]; exact List.getElem_mem h
theorem keys_perm {l l' : List E} (h : l.Perm l') : (keys l).Perm (keys l') := h.map _
def cut (es : List E) (n j : Nat) : List E := if j < n then (es.take n).set j (at_ es n) else es.take n
theorem cut_perm {es : List E} {n j : Nat} (hn : es.length = n + 1) (hj : j < es.length) : es.Perm (at_ es j :: cut es n j) := by
  unfold cut
  have hlen : (es.take n).length = n := by rw [List.length_take]; omega
  split
  · rename_i h
    have hT : j < (es.take n).length := by omega
    have e1 : at_ es j = (es.take n)[j] := by rw [← at_take h, at_get hT]
    have p1 : es.Perm (at_ es n :: es.take n) := by
      have : es.Perm (es.take n ++ [at_ es n]) := by rw [← take_last hn]
      exact this.trans (List.perm_append_singleton _ _)
    have p2 : (es.take n).Perm (at_ es j :: ((es.take n).take j ++ (es.take n).drop (j + 1))) := by
      rw [e1]
      have e2 : es.take n = (es.take n).take j ++ (es.take n)[j] :: (es.take n).drop (j + 1) := by rw [← List.drop_eq_getElem_cons hT, List.take_append_drop]
      have e3 : (es.take n).Perm ((es.take n).take j ++ (es.take n)[j] :: (es.take n).drop (j + 1)) := List.Perm.of_eq e2
      exact e3.trans List.perm_middle
    have p3 : ((es.take n).set j (at_ es n)).Perm (at_ es n :: ((es.take n).take j ++ (es.take n).drop (j + 1))) := by
      rw [List.set_eq_take_append_cons_drop, if_pos hT]
      exact List.perm_middle
    exact p1.trans ((p2.cons _).trans ((List.Perm.swap _ _ _).trans (p3.symm.cons _)))
  · have : j = n := by omega
    subst this
    have : es.Perm (es.take j ++ [at_ es j]) := by rw [← take_last hn]
    exact this.trans (List.perm_append_singleton _ _)
theorem cut_drop {es l : List E} {n j : Nat} (hn : es.length = n + 1) (hj : j < es.length) (hd : (keys es).Nodup) (hp : es.Perm l) : (cut es n j).Perm (dropK l (at_ es j).1) := by
  have h1 := cut_perm hn hj
  have hk : (at_ es j).1 ∉ keys (cut es n j) := by
    have := (keys_perm h1).nodup_iff.1 hd
    exact (List.nodup_cons.1 this).1
  have h2 := dropK_perm (h1.symm.trans hp) (at_ es j).1
  have h3 : dropK (at_ es j :: cut es n j) (at_ es j).1 = cut es n j := by
    have : dropK (at_ es j :: cut es n j) (at_ es j).1 = dropK (cut es n j) (at_ es j).1 := by
      unfold dropK; rw [List.filter_cons]; simp
    rw [this, dropK_none hk]
  rw [h3] at h2
  exact h2
theorem cut_len {es : List E} {n j : Nat} (hn : es.length = n + 1) : (cut es n j).length = n := by
  unfold cut
  split
  · rw [List.length_set, List.length_take]; omega
  · rw [List.length_take]; omega
theorem cut_at {es : List E} {n j i : Nat} (hn : es.length = n + 1) (hi : i < n) : at_ (cut es n j) i = if i = j then at_ es n else at_ es i := by
  have hlen : (es.take n).length = n := by rw [List.length_take]; omega
  unfold cut
  split
  · rw [at_set (by omega), at_take hi]
  · rw [at_take hi, if_neg (by omega)]
theorem cut_place {es : List E} {g : Int → Option Value} {n j : Nat} (h : PlaceOk es g) (hn : es.length = n + 1) (hj : j < es.length) :
    PlaceOk (cut es n j) (fun k => if j < n then (if k = (at_ es n).1 then some (.int .i64 j) else if k = (at_ es j).1 then none else g k) else if k = (at_ es j).1 then none else g k) := by
  obtain ⟨h1, h2, h3⟩ := h
  have hp := keys_perm (cut_perm hn hj)
  have hnd := hp.nodup_iff.1 h1
  refine ⟨(List.nodup_cons.1 hnd).2, fun i hi => ?_, fun k hk => ?_⟩
  · rw [cut_len hn] at hi
    rw [cut_at hn hi]
    by_cases e : i = j
    · subst e
      simp [hi]
    · rw [if_neg e]
      have n1 : (at_ es i).1 ≠ (at_ es n).1 := fun x => by have := key_inj h1 (by omega) (by omega) x; omega
      have n2 : (at_ es i).1 ≠ (at_ es j).1 := fun x => e (key_inj h1 (by omega) hj x)
      simp [n1, n2, h2 i (by omega)]
  · have hgo : ∀ k, k ∉ (cut es n j).map (·.1) → k ≠ (at_ es j).1 → g k = none := fun k hk hne => by
      refine h3 k fun hm => ?_
      rcases List.mem_cons.1 (hp.mem_iff.1 hm) with e | e
      · exact hne e
      · exact hk e
    by_cases hjn : j < n
    · have hl : (at_ es n).1 ∈ (cut es n j).map (·.1) := by
        have := at_mem (es := cut es n j) (j := j) (by rw [cut_len hn]; exact hjn)
        rw [cut_at hn hjn, if_pos rfl] at this
        exact List.mem_map_of_mem this
      have n1 : k ≠ (at_ es n).1 := fun e => hk (e ▸ hl)
      by_cases e : k = (at_ es j).1
      · subst e; simp [hjn, n1]
      · simp [hjn, n1, e, hgo k hk e]
    · by_cases e : k = (at_ es j).1
      · subst e; simp [hjn]
      · simp [hjn, e, hgo k hk e]
theorem cut_both {es : List E} {n j : Nat} (hn : es.length = n + 1) (hj : j < n) (hh : HeapO (at_ es) es.length) : ExBoth (at_ (cut es n j)) n j := by
  refine ⟨fun c h1 h2 h3 h4 => ?_, fun h0 c h1 h2 h3 => ?_⟩
  · rw [cut_at hn h2, cut_at hn (by omega), if_neg h3, if_neg h4]
    exact hh c h1 (by omega)
  · rw [cut_at hn h2, cut_at hn (by omega), if_neg (by omega), if_neg (by omega)]
    have := hh c h1 (by omega)
    rw [h3] at this
    exact le_trans (hh j h0 (by omega)) this
theorem cut_heap {es : List E} {n j : Nat} (hn : es.length = n + 1) (hj : ¬ j < n) (hh : HeapO (at_ es) es.length) : HeapO (at_ (cut es n j)) n := fun c h1 h2 => by
  rw [cut_at hn h2, cut_at hn (by omega), if_neg (by omega), if_neg (by omega)]
  exact hh c h1 (by omega)
theorem add_both {es : List E} {x : E} (hh : HeapO (at_ es) es.length) : ExBoth (at_ (es ++ [x])) (es.length + 1) es.length ∧ KidsOk (at_ (es ++ [x])) (es.length + 1) es.length := by
  refine ⟨⟨fun c h1 h2 h3 h4 => ?_, fun h0 c h1 h2 h3 => by omega⟩, fun c h1 h2 h3 => by omega⟩
  rw [at_append, at_append, if_pos (by omega), if_pos (by omega)]
  exact hh c h1 (by omega)
theorem add_place {es : List E} {g : Int → Option Value} {x : E} (h : PlaceOk es g) (hx : x.1 ∉ keys es) : PlaceOk (es ++ [x]) (fun k => if k = x.1 then some (.int .i64 es.length) else g k) := by
  obtain ⟨h1, h2, h3⟩ := h
  refine ⟨?_, fun i hi => ?_, fun k hk => ?_⟩
  · have : ((es ++ [x]).map (·.1)).Perm (x.1 :: es.map (·.1)) := by
      rw [List.map_append]; exact List.perm_append_singleton _ _
    exact this.nodup_iff.2 (List.nodup_cons.2 ⟨hx, h1⟩)
  · rw [List.length_append, List.length_singleton] at hi
    rw [at_append]
    by_cases e : i < es.length
    · rw [if_pos e]
      have : (at_ es i).1 ≠ x.1 := fun q => hx (q ▸ List.mem_map_of_mem (at_mem e))
      simp [this, h2 i e]
    · have : i = es.length := by omega
      subst this; simp
  · rw [List.map_append, List.mem_append] at hk
    have n1 : k ≠ x.1 := fun e => hk (.inr (by simp [e]))
    simp [n1, h3 k (fun hm => hk (.inl hm))]
theorem dropK_head {e : E} {l : List E} (hd : (keys (e :: l)).Nodup) : dropK (e :: l) e.1 = l := by
  have h1 : dropK (e :: l) e.1 = dropK l e.1 := by unfold dropK; rw [List.filter_cons]; simp
  rw [h1, dropK_none (List.nodup_cons.1 hd).1]
end Go.Heapq
set_option maxRecDepth 100000
namespace Go.Proofs.YtgccegnmggjkjaaGreatDoor
open Go.Den Go.Heapq
namespace Alarm
variable {h : Heap} {a m cap : Nat} {p : Option Addr} {es : List E} {g : Int → Option Value} {R : Value → Heap → Prop} {S : Nat → Prop} {L : List E}
theorem tE : SlTy Tryz.prog T.s_alarm_entry T.alarm_entry 2 16 (.agg #[.int .i64 0, .int .u64 0]) := ⟨by kernel_rfl, by kernel_rfl, rfl⟩
theorem tI : SlTy Tryz.prog T.s_int T.int 1 8 (.int .i64 0) := ⟨by kernel_rfl, by kernel_rfl, rfl⟩
def Good (L : List E) : Prop := ∀ e ∈ L, 1 ≤ e.1 ∧ e.1 ≤ 1099511627776 ∧ 0 ≤ e.2 ∧ e.2 ≤ 1099511627776
def Al (h : Heap) (a : Nat) (S : Nat → Prop) (L : List E) : Prop :=
  ∃ p cap m es g, Mem h a p cap m es g ∧ PlaceOk es g ∧ HeapO (at_ es) es.length ∧ es.Perm L ∧ Sorted L ∧ Good L ∧ ∀ c, S c ↔ foot a p m c
theorem Al.lt (A : Al h a S L) {c : Nat} (hc : S c) : c < h.size := by
  obtain ⟨p, cap, m, es, g, M, _, _, _, _, _, hS⟩ := A
  exact M.lt ((hS c).1 hc)
theorem Al.frame {Q : Nat → Prop} {h' : Heap} (A : Al h a S L) (hf : Fr Q h h') (hn : ∀ c, S c → ¬ Q c) : Al h' a S L := by
  obtain ⟨p, cap, m, es, g, M, P, H, pm, so, gd, hS⟩ := A
  exact ⟨p, cap, m, es, g, M.frame hf fun c hc => hn c ((hS c).2 hc), P, H, pm, so, gd, hS⟩
theorem Al.sorted (A : Al h a S L) : Sorted L := by
  obtain ⟨p, cap, m, es, g, M, P, H, pm, so, gd, hS⟩ := A; exact so
theorem Al.nodup (A : Al h a S L) : (keys L).Nodup := by
  obtain ⟨p, cap, m, es, g, M, P, H, pm, so, gd, hS⟩ := A
  exact (keys_perm pm).nodup_iff.1 P.1
theorem made_ok (M : Mem h a p cap m es g) (hk : R (.bool true) h) : CallsH Tryz.prog F.alarm_Alarm_made #[.pointer (some ⟨a, 0, none⟩)] h R :=
  alarm_Alarm_made.walk ⟨some m, M.mp, hk⟩
theorem new_ok (hk : ∀ a S h', Al h' a S [] → (∀ c, S c → h.size ≤ c) → Fr (fun _ => False) h h' → R (.pointer (some ⟨a, 0, none⟩)) h') : CallsH Tryz.prog F.alarm_New #[] h R := by
  refine alarm_New.walk ?_
  rintro b h1 rfl rfl b1 h2 rfl rfl
  have f : Fr (fun _ => False) (h.push (.map #[] 0)) ((h.push (.map #[] 0)).push (.cells #[.slice none 0 0, .map (some h.size)] T.alarm_Alarm)) := Fr.push _ _
  refine hk _ (foot (h.push (.map #[] 0)).size none h.size) _ ⟨none, 0, h.size, [], fun _ => none, ⟨push_new, .nil rfl rfl rfl rfl, (MapF.push h).frame f id, ?_⟩, ⟨.nil, ?_, fun _ _ => rfl⟩, ?_, .refl _, .nil, ?_, fun _ => Iff.rfl⟩ ?_ (Fr.tt (Fr.push _ _) f)
  · rintro ⟨_, e, _⟩; cases e
  · intro j hj; simp at hj
  · intro j _ hj; simp at hj
  · intro e he; cases he
  · rintro c (rfl | rfl | ⟨_, e, _⟩)
    · simp
    · exact Nat.le_refl _
    · cases e
theorem len_ok (A : Al h a S L) (hk : R (.int .i64 (L.length : Int)) h) : CallsH Tryz.prog F.alarm_Alarm_Len #[.pointer (some ⟨a, 0, none⟩)] h R := by
  obtain ⟨p, cap, m, es, g, M, P, H, pm, so, gd, hS⟩ := A
  refine alarm_Alarm_Len.walk ⟨_, _, _, M.hd, ?_⟩
  rw [pm.length_eq]; exact hk
def hd (L : List E) : E := L.headD (0, 0)
theorem next_ok (A : Al h a S L) (hk : R (.tuple #[.int .i64 (hd L).1, .int .u64 (hd L).2, .bool (!L.isEmpty)]) h) : CallsH Tryz.prog F.alarm_Alarm_Next #[.pointer (some ⟨a, 0, none⟩)] h R := by
  refine alarm_Alarm_Next.walk (len_ok A ⟨_, rfl, ?_⟩)
  obtain ⟨p, cap, m, es, g, M, P, H, pm, so, gd, hS⟩ := A
  cases L with
  | nil => exact hk
  | cons e r =>
    have hl := pm.length_eq
    simp only [List.length_cons] at hl
    have hne : (((e :: r).length : Int) == 0) = false := by simp only [List.length_cons, beq_eq_false_iff_ne]; omega
    simp only [hne, Bool.false_eq_true, if_false]
    obtain ⟨ad, rfl⟩ := M.some (by omega)
    obtain ⟨r', hr⟩ := head_min pm so H (by omega)
    have he : at_ es 0 = e := (List.cons.inj hr).1.symm
    have c0 := M.c0 (i := 0) (by omega)
    have c1 := M.c1 (i := 0) (by omega)
    rw [he] at c0 c1
    refine ⟨_, _, _, M.hd, ⟨by omega, by omega⟩, onSome_some.2 ⟨_, c0, _, _, _, M.hd, ⟨by omega, by omega⟩, onSome_some.2 ⟨_, c1, hk⟩⟩⟩
theorem local1 {t : TypeId} {z0 z1 x0 x1 : Value} {K : Nat → Heap → Prop} (hk : ∀ b h', h'[b]? = some (.cells #[x0, x1] t (0, 0)) → h.size ≤ b → Fr (fun _ => False) h h' → K b h') :
    NewP h (.cells #[z0, z1] t) fun b h2 => StoreP h2 ⟨b, 0, none⟩ x0 fun h3 => StoreP h3 ⟨b, 1, none⟩ x1 fun h4 => K b h4 := by
  rintro b h2 rfl rfl
  refine storeP_blk push_new (by simp) fun h3 c3 s3 k3 => storeP_blk c3 (by simp) fun h4 c4 s4 k4 => hk _ h4 c4 (Nat.le_refl _) ⟨?_, fun c hc _ => ?_⟩
  · rw [s4, s3]; simp
  · rw [k4 c (by omega), k3 c (by omega)]; exact (Fr.push (S := fun _ => False) h _).2 c hc id
theorem drop_ok (A : Al h a S L) (hn : L.length < 1000000) (key : Int)
    (k1 : key ∈ keys L → ∀ h', Al h' a S (dropK L key) → Fr S h h' → R (.int .i64 0) h')
    (k2 : key ∉ keys L → R (.int .i64 4) h) : CallsH Tryz.prog F.alarm_Alarm_Drop #[.pointer (some ⟨a, 0, none⟩), .int .i64 key] h R := by
  obtain ⟨p, cap, m, es, g, M, P, H, pm, so, gd, hS⟩ := A
  have hlen := pm.length_eq
  refine alarm_Alarm_Drop.walk (made_ok M ⟨true, rfl, ?_⟩)
  simp only [Bool.not_true, Bool.false_eq_true, if_false]
  have lk := lookV_map_ok tm M.map key
  by_cases hm : key ∈ keys es
  · have k1 := k1 ((keys_perm pm).mem_iff.1 hm)
    clear k2
    obtain ⟨j, hj, rfl⟩ := mem_keys hm
    obtain ⟨n, hn1⟩ : ∃ n, es.length = n + 1 := ⟨es.length - 1, by omega⟩
    rw [P.2.1 j hj] at lk
    refine ⟨some m, M.mp, (j : Int), true, lk, ?_⟩
    simp only [Bool.not_true, Bool.false_eq_true, if_false]
    obtain ⟨b0, off, rfl⟩ := M.own.some (by rw [enc_len]; omega)
    refine ⟨_, _, _, M.hd, _, _, _, M.hd, ?_⟩
    rw [show IntKind.wrap .i64 ((es.length : Int) - 1) = (n : Int) by rw [wrap_id (by omega) (by omega)]; omega]
    simp only [Int.toNat_natCast]
    refine ⟨⟨by omega, by omega⟩, onSome_some.2 ⟨_, M.c0 (i := n) (by omega), _, M.c1 (i := n) (by omega), local1 fun b h4 hb sb f4 => ?_⟩⟩
    have M4 := M.calm f4
    have hle := M.own.le
    have hsl : slBase (some (⟨b0, off, none⟩ : Addr)) cap 0 2 = some ⟨b0, off, none⟩ := by
      unfold slBase; split
      · rfl
      · simp [add_blk]
    refine ⟨_, _, _, M4.hd, ⟨by omega, by omega⟩, storeP_blk M4.blk (by simp) fun h5 c5 s5 k5 => ?_⟩
    have f5 : Fr (fun c => c = a) h4 h5 := Fr.of_eq s5 k5
    have tl : (es.take n).length = n := by rw [List.length_take]; omega
    have M5 : Mem h5 a (some ⟨b0, off, none⟩) cap m (es.take n) g := by
      refine ⟨?_, ?_, M4.map.frame f5 (fun e => M.am e.symm), M.ne⟩
      · rw [c5, hsl, tl]; rfl
      · have o := (M4.own.frame f5 (fun c hc e => M.ne (e ▸ hc))).sub (l := 0) (u := n) (by omega) (by omega)
        rw [hsl, enc_take, Nat.zero_mul, List.drop_zero] at o
        rw [tl]; exact o
    refine ⟨some m, M5.mp, den_deleteF tm M5.map fun h6 m6 s6 k6 => ⟨rfl, ?_⟩⟩
    have f6 : Fr (fun c => c = m) h5 h6 := Fr.of_eq s6 k6
    have M6 : Mem h6 a (some ⟨b0, off, none⟩) cap m (es.take n) (fun x => if x = (at_ es j).1 then none else g x) :=
      ⟨f6.get M5.blk M.am, M5.own.frame f6 (fun c hc e => M.pm (e ▸ hc)), m6, M.ne⟩
    have fh6 : Fr (foot a (some ⟨b0, off, none⟩) m) h h6 := Fr.no f4 (f5.trans f6 (fun _ _ e => .inl e) (fun _ _ e => .inr (.inl e)))
    have hbn : ∀ c, foot a (some ⟨b0, off, none⟩) m c → b ≠ c := fun c hc e => by have := M.lt hc; omega
    have hb6 := f6.get (f5.get hb (hbn a (.inl rfl))) (hbn m (.inr (.inl rfl)))
    refine JoinP.of fun J hJ => ?_
    have done : ∀ h' es' g', Mem h' a (some ⟨b0, off, none⟩) cap m es' g' → PlaceOk es' g' → HeapO (at_ es') es'.length → es'.Perm (cut es n j) → Fr (foot a (some ⟨b0, off, none⟩) m) h h' → J h' := by
      intro h' es' g' M' P' H' pm' f'
      subst hJ
      exact k1 h' ⟨_, _, _, es', g', M', P', H', pm'.trans (cut_drop hn1 hj P.1 pm), so.drop _, fun e he => gd e (List.mem_filter.1 he).1, hS⟩ (f'.mono fun c _ hc => (hS c).2 hc)
    have pc := cut_place P hn1 hj
    have cl := cut_len (j := j) hn1
    by_cases hjn : j < n
    · have hjn' : (j : Int) < (n : Int) := by omega
      simp only [hjn, if_true] at pc
      simp only [hjn', decide_true, if_true]
      have ecut : (es.take n).set j ((at_ es n).1, (at_ es n).2) = cut es n j := by unfold cut; rw [if_pos hjn]
      refine ⟨_, cell_at hb6 rfl, _, cell_at hb6 rfl, put_ok M6 (by omega) fun h8 M8 f8 => ⟨rfl, ?_⟩⟩
      rw [ecut] at M8
      have ex := cut_both hn1 hjn H
      refine up_ok M8 pc (by omega) (by omega) (by rw [cl]; exact ex) fun h9 es9 g9 q M9 P9 pm9 l9 q9 at9 ex9 _ f9 => ⟨rfl, some m, M9.mp, ?_⟩
      have nin : ¬ inner (some ⟨b0, off, none⟩) m b := fun hc => hbn b (.inr hc) rfl
      have hb9 := f9.get (f8.get hb6 nin) nin
      have lk9 := lookV_map tm M9.map (at_ es n).1
      have e9 : at_ es9 q = at_ es n := by rw [at9, cut_at hn1 hjn, if_pos rfl]
      have g9' := P9.2.1 q (by omega)
      rw [e9] at g9'
      rw [g9'] at lk9
      refine ⟨_, cell_at hb9 rfl, (q : Int), lk9, ?_⟩
      rw [← l9] at ex9
      refine down_ok M9 P9 (by omega) (by omega) ex9 fun h10 es10 g10 M10 P10 pm10 l10 H10 f10 => ⟨rfl, cell_at (f10.get hb9 nin) rfl, M10.mp, ?_⟩
      rw [← l10] at H10
      exact done h10 es10 g10 M10 P10 H10 (pm10.trans pm9) (fh6.trans (Fr.tt f8 (Fr.tt f9 f10)) (fun _ _ => id) (fun _ _ hc => .inr hc))
    · have hjn' : ¬ (j : Int) < (n : Int) := by omega
      simp only [hjn, if_false] at pc
      simp only [hjn', decide_false, Bool.false_eq_true, if_false]
      have ecut : es.take n = cut es n j := by unfold cut; rw [if_neg hjn]
      rw [ecut] at M6
      have H' := cut_heap hn1 hjn H
      exact done h6 _ _ M6 pc (by rw [cl]; exact H') (.refl _) fh6
  · rw [P.2.2 key hm] at lk
    exact ⟨some m, M.mp, 0, false, lk, k2 fun hx => hm ((keys_perm pm).mem_iff.2 hx)⟩
def may (key t : Int) : Bool := decide (1 ≤ key) && decide (key ≤ 1099511627776) && decide (t ≤ 1099511627776)
theorem may_iff {key t : Int} : may key t = true ↔ 1 ≤ key ∧ key ≤ 1099511627776 ∧ t ≤ 1099511627776 := by simp [may, and_assoc]
def setL (L : List E) (key t : Int) : List E := insertS (dropK L key) (key, t)
theorem dropK_len (L : List E) (key : Int) : (dropK L key).length ≤ L.length := List.length_filter_le _ _
theorem set_ok (A : Al h a S L) (hn : L.length < 999999) (key t : Int) (ht : 0 ≤ t)
    (k1 : may key t = true → ∀ h' S', Al h' a S' (setL L key t) → (∀ c, S' c → S c ∨ h.size ≤ c) → Fr S h h' → R (.int .i64 0) h')
    (k2 : may key t = false → R (.int .i64 1) h) : CallsH Tryz.prog F.alarm_Alarm_Set #[.pointer (some ⟨a, 0, none⟩), .int .i64 key, .int .u64 t] h R := by
  have A0 := A
  obtain ⟨p, cap, m, es, g, M, -, -, -, -, -, -⟩ := A
  refine alarm_Alarm_Set.walk (made_ok M ⟨true, rfl, ?_⟩)
  clear M
  simp only [Bool.not_true, Bool.false_eq_true, if_false]
  refine JoinP.of fun J hJ => ?_
  have no : may key t = false → J true h := fun hm => by subst hJ; exact k2 hm
  by_cases h1 : key < 1
  · simp only [h1, decide_true, if_true]
    exact no (by simp [may, show ¬ 1 ≤ key by omega])
  simp only [h1, decide_false, Bool.false_eq_true, if_false]
  by_cases h2 : key > 1099511627776
  · simp only [h2, decide_true, if_true]
    exact no (by simp [may, show ¬ key ≤ 1099511627776 by omega])
  simp only [h2, decide_false, Bool.false_eq_true, if_false]
  by_cases h3 : t > 1099511627776
  · simp only [h3, decide_true]
    exact no (by simp [may, show ¬ t ≤ 1099511627776 by omega])
  simp only [h3, decide_false]
  clear no k2
  have k1 := k1 (may_iff.2 ⟨by omega, by omega, by omega⟩)
  subst hJ
  simp only [Bool.false_eq_true, if_false]
  have rest : ∀ h1 e, Al h1 a S (dropK L key) → Fr S h h1 → (∃ (t25 : Int), Value.int .i64 e = .int .i64 t25 ∧
        ∃ (t30_p : Option Addr) (t30_l t30_c : Nat), hcell h1 ⟨a, 0, none⟩ = some (.slice t30_p t30_l t30_c) ∧
        NewP h1 (.cells #[.int .i64 0, .int .u64 0] T.alarm_entry) fun b h_4 =>
        denSem Tryz.prog (Builtin.append_ #[T.s_alarm_entry, T.s_alarm_entry] T.s_alarm_entry #[.slice t30_p t30_l t30_c, .slice (some ⟨b, 0, none⟩) 1 1]) h_4 fun v_2 h_5 =>
        ∃ (t33_p : Option Addr) (t33_l t33_c : Nat), v_2 = .slice t33_p t33_l t33_c ∧
        StoreP h_5 ⟨a, 0, none⟩ (.slice t33_p t33_l t33_c) fun h_6 =>
        ∃ (t39_p : Option Addr) (t39_l t39_c : Nat), hcell h_6 ⟨a, 0, none⟩ = some (.slice t39_p t39_l t39_c) ∧
        CallsH Tryz.prog F.alarm_Alarm_put #[.pointer (some ⟨a, 0, none⟩), .int .i64 (IntKind.wrap .i64 (((t39_l : Nat) : Int) - 1)), .agg #[.int .i64 key, .int .u64 t]] h_6 fun v_3 h_7 =>
        v_3 = .tuple #[] ∧
        CallsH Tryz.prog F.alarm_Alarm_up #[.pointer (some ⟨a, 0, none⟩), .int .i64 (IntKind.wrap .i64 (((t39_l : Nat) : Int) - 1))] h_7 fun v_4 h_8 =>
        v_4 = .tuple #[] ∧
        R (.int .i64 0) h_8) := by
    intro h1 e A1 f1
    refine ⟨e, rfl, ?_⟩
    have kn := dropK_keys L key
    have dl := dropK_len L key
    obtain ⟨p, cap, m, es, g, M, P, H, pm, so, gd, hS⟩ := A1
    have hlen := pm.length_eq
    refine ⟨_, _, _, M.hd, ?_⟩
    rintro b h4 rfl rfl
    have fp : Fr (fun _ => False) h1 (h1.push (.cells #[.int .i64 0, .int .u64 0] T.alarm_entry)) := Fr.push _ _
    have row : Row (h1.push (.cells #[.int .i64 0, .int .u64 0] T.alarm_entry)) (some ⟨h1.size, 0, none⟩) (enc [(0, 0)]) := .inr ⟨_, rfl, heldL_blk push_new fun j v hj => by rw [Nat.zero_add]; simpa [enc] using hj⟩
    have sz4 : h1.size ≤ (h1.push (.cells #[.int .i64 0, .int .u64 0] T.alarm_entry)).size := fp.1
    have M4 := M.calm fp
    refine den_append tE (eT := T.alarm_entry) (by kernel_rfl) M4.own row rfl (enc_one _) (by omega) (by omega) fun p' cap' h5 o5 _ f5 gr => ⟨_, _, _, rfl, ?_⟩
    rw [← enc_append] at o5
    have b5 := f5.get M4.blk M.ne
    have ne' : ¬ inBlk p' a := fun hc => by
      rcases gr a hc with hx | hx
      · exact M.ne hx
      · have := lt_of_get M4.blk; omega
    have pm' : ¬ inBlk p' m := fun hc => by
      rcases gr m hc with hx | hx
      · exact M.pm hx
      · have := M4.map.lt; omega
    refine storeP_blk b5 (by simp) fun h6 c6 s6 k6 => ?_
    have f6 : Fr (fun c => c = a) h5 h6 := Fr.of_eq s6 k6
    have M6 : Mem h6 a p' cap' m (es ++ [(0, 0)]) g := by
      refine ⟨?_, ?_, (M4.map.frame f5 M.pm).frame f6 (fun e => M.am e.symm), ne'⟩
      · rw [c6, List.length_append]; rfl
      · rw [List.length_append]
        exact o5.frame f6 (fun c hc e => ne' (e ▸ hc))
    refine ⟨_, _, _, M6.hd, ?_⟩
    have ew : IntKind.wrap .i64 ((((es ++ [((0, 0) : E)]).length : Nat) : Int) - 1) = (es.length : Int) := by
      rw [List.length_append, List.length_singleton, wrap_id (by omega) (by omega)]; omega
    rw [ew]
    refine put_ok M6 (by rw [List.length_append, List.length_singleton]; omega) fun h7 M7 f7 => ⟨rfl, ?_⟩
    have es7 : (es ++ [((0, 0) : E)]).set es.length (key, t) = es ++ [(key, t)] := by
      rw [List.set_append_right _ _ (Nat.le_refl _)]; simp
    rw [es7] at M7
    have kn' : key ∉ keys es := fun hx => kn ((keys_perm pm).mem_iff.1 hx)
    have P7 := add_place (x := (key, t)) P kn'
    obtain ⟨ex, kd⟩ := add_both (x := (key, t)) H
    have l7 : (es ++ [(key, t)]).length = es.length + 1 := by simp
    rw [← l7] at ex kd
    refine up_ok M7 P7 (by omega) (by omega) ex fun h8 es8 g8 q M8 P8 pm8 l8 _ _ _ H8 f8 => ⟨rfl, ?_⟩
    have H8 := H8 kd
    rw [← l8] at H8
    have gf : ∀ c, foot a p' m c → S c ∨ h.size ≤ c := by
      rintro c (rfl | rfl | hc)
      · exact .inl ((hS _).2 (.inl rfl))
      · exact .inl ((hS _).2 (.inr (.inl rfl)))
      · rcases gr c hc with hx | hx
        · exact .inl ((hS _).2 (.inr (.inr hx)))
        · have := f1.1; exact .inr (by omega)
    refine k1 h8 (foot a p' m) ⟨p', cap', m, es8, g8, M8, P8, H8, ?_, so.insert _ kn, ?_, fun _ => Iff.rfl⟩ gf ?_
    · exact pm8.trans ((List.perm_append_singleton _ _).trans ((pm.cons _).trans (insertS_perm _ _).symm))
    · intro e he
      rcases List.mem_cons.1 ((insertS_perm _ _).mem_iff.1 he) with rfl | hx
      · exact ⟨by simp only; omega, by simp only; omega, ht, by simp only; omega⟩
      · exact gd e hx
    · have in_S : ∀ c, c < h1.size → foot a p' m c → S c := fun c hc hx => by
        rcases hx with rfl | rfl | hx
        · exact (hS _).2 (.inl rfl)
        · exact (hS _).2 (.inr (.inl rfl))
        · rcases gr c hx with hy | hy
          · exact (hS _).2 (.inr (.inr hy))
          · omega
      have g1 : Fr S h1 h5 := Fr.no fp (f5.mono fun c _ hc => (hS c).2 (.inr (.inr hc)))
      have g2 : Fr S h1 h6 := g1.trans f6 (fun _ _ => id) (fun c _ e => (hS c).2 (.inl e))
      have g3 : Fr S h1 h8 := g2.trans (Fr.tt f7 f8) (fun _ _ => id) (fun c hc hx => in_S c hc (.inr hx))
      exact Fr.tt f1 g3
  refine drop_ok A0 (by omega) key (fun hm h1 A1 f1 => rest h1 0 A1 f1) (fun hm => ?_)
  refine rest h 4 ?_ (Fr.refl _ _)
  rw [dropK_none hm]
  exact A0
end Alarm
end Go.Proofs.YtgccegnmggjkjaaGreatDoor
set_option maxRecDepth 100000
namespace Go.Proofs.YtgccegnmggjkjaaGreatDoor
open Go.Den Go.Heapq
namespace Alarm
variable {h : Heap} {a m cap : Nat} {p : Option Addr} {es : List E} {g : Int → Option Value} {R : Value → Heap → Prop} {S : Nat → Prop} {L : List E}
def isDue (now : Int) (e : E) : Bool := decide (e.2 ≤ now)
def due (L : List E) (now : Int) : List E := L.takeWhile (isDue now)
def rest (L : List E) (now : Int) : List E := L.dropWhile (isDue now)
def kc (L : List E) : List Value := (keys L).map (.int .i64 ·)
theorem due_split {D T : List E} {now : Int} (hd : ∀ e ∈ D, isDue now e = true) (ht : ∀ e r, T = e :: r → isDue now e = false) : due (D ++ T) now = D ∧ rest (D ++ T) now = T := by
  unfold due rest
  induction D with
  | nil =>
    cases T with
    | nil => exact ⟨rfl, rfl⟩
    | cons e r => simp [List.takeWhile, List.dropWhile, ht e r rfl]
  | cons d D ih =>
    have h1 := hd d List.mem_cons_self
    obtain ⟨i1, i2⟩ := ih fun e he => hd e (List.mem_cons_of_mem _ he)
    simp only [List.cons_append, List.takeWhile_cons, List.dropWhile_cons, h1, if_true]
    exact ⟨by rw [i1], i2⟩
def ringI (h0 : Heap) (a : Nat) (S : Nat → Prop) (L : List E) (now : Int) (out : Option Addr) (l c : Nat) (key t : Int) (is : Bool) (h : Heap) : Prop :=
  ∃ D T, L = D ++ T ∧ (∀ e ∈ D, isDue now e = true) ∧ Al h a S T ∧ key = (hd T).1 ∧ t = (hd T).2 ∧ is = !T.isEmpty ∧ l = D.length ∧ Own h out l c 1 (kc D) ∧ (∀ x, inBlk out x → h0.size ≤ x) ∧ Fr S h0 h
theorem ring_ok (A : Al h a S L) (hn : L.length < 999999) (now : Int)
    (hk : ∀ h' p' cap', Al h' a S (rest L now) → Own h' p' (due L now).length cap' 1 (kc (due L now)) → (∀ c, inBlk p' c → h.size ≤ c) → Fr S h h' → R (.slice p' (due L now).length cap') h') :
    CallsH Tryz.prog F.alarm_Alarm_Ring #[.pointer (some ⟨a, 0, none⟩), .int .u64 now] h R := by
  refine alarm_Alarm_Ring.walk (next_ok A ⟨_, _, _, rfl, ?_⟩)
  refine ⟨ringI h a S L now, fun _ l _ _ _ _ _ => L.length - l, ⟨[], L, rfl, (fun _ he => by cases he), A, rfl, rfl, rfl, rfl, .nil rfl rfl rfl rfl, (fun c ⟨_, e, _⟩ => by cases e), Fr.refl _ _⟩, ?_⟩
  rintro out l c key t is h2 ⟨D, U, eL, hD, A2, rfl, rfl, rfl, rfl, o2, ob, f2⟩
  refine JoinP.of fun J hJ => ?_
  have stop : (∀ e r, U = e :: r → isDue now e = false) → J false h2 := fun ht => by
    subst hJ
    simp only [Bool.false_eq_true, if_false]
    obtain ⟨e1, e2⟩ := due_split hD ht
    rw [← eL] at e1 e2
    rw [← e1]
    rw [← e1] at o2
    exact hk h2 out c (by rw [e2]; exact A2) o2 ob f2
  cases U with
  | nil => exact stop (fun e r x => by cases x)
  | cons e U =>
    simp only [List.isEmpty_cons, Bool.not_false, if_true]
    by_cases hdue : e.2 ≤ now
    · rw [show decide ((hd (e :: U)).2 ≤ now) = true from decide_eq_true hdue]
      subst hJ
      simp only [if_true]
      rintro b h4 rfl rfl
      have hlen : L.length = D.length + (U.length + 1) := by rw [eL]; simp
      have fp : Fr (fun _ => False) h2 (h2.push (.cells #[.int .i64 (hd (e :: U)).1] T.int)) := Fr.push _ _
      have row : Row (h2.push (.cells #[.int .i64 (hd (e :: U)).1] T.int)) (some ⟨h2.size, 0, none⟩) (kc [e]) := .inr ⟨_, rfl, heldL_blk push_new fun j v hj => by rw [Nat.zero_add]; simpa [kc, keys, hd] using hj⟩
      have sz : h2.size ≤ (h2.push (.cells #[.int .i64 (hd (e :: U)).1] T.int)).size := fp.1
      refine den_append tI (eT := T.int) (by kernel_rfl) (o2.frame fp fun _ _ => id) row rfl (fun v hv => by simp [kc, keys] at hv; subst hv; rfl) (by omega) (by omega) fun p' cap' h5 o5 _ f5 gr => ⟨_, _, _, rfl, ?_⟩
      have ekc : kc D ++ kc [e] = kc (D ++ [e]) := by simp [kc, keys]
      rw [ekc] at o5
      have hSlt : ∀ {c}, S c → c < h.size := fun hc => A.lt hc
      have A5 := (A2.frame fp fun _ _ => id).frame f5 (fun c hc hx => by have := ob c hx; have := hSlt hc; omega)
      have ob5 : ∀ c, inBlk p' c → h.size ≤ c := fun c hc => by
        rcases gr c hc with hx | hx
        · exact ob c hx
        · have := f2.1; omega
      have f25 : Fr S h h5 := f2.trans (Fr.no fp f5) (fun _ _ => id) (fun c hc hx => by have := ob c hx; omega)
      refine drop_ok A5 (by simp; omega) _ (fun _ h6 A6 f6 => ⟨_, rfl, ?_⟩) (fun hno => absurd (by exact List.mem_cons_self) hno)
      rw [show dropK (e :: U) (hd (e :: U)).1 = U from dropK_head A5.nodup] at A6
      refine next_ok A6 ⟨_, _, _, rfl, ⟨D ++ [e], U, by rw [eL]; simp, ?_, A6, rfl, rfl, rfl, by simp, ?_, ob5, Fr.tt f25 f6⟩, ?_⟩
      · intro x hx
        rcases List.mem_append.1 hx with hx | hx
        · exact hD x hx
        · simp at hx; subst hx; exact decide_eq_true hdue
      · exact o5.frame f6 fun c hc hx => by have := ob5 c hc; have := hSlt hx; omega
      · show L.length - (D.length + 1) < L.length - D.length
        omega
    · rw [show decide ((hd (e :: U)).2 ≤ now) = false from decide_eq_false hdue]
      exact stop fun e' r x => by cases x; exact decide_eq_false hdue
end Alarm
end Go.Proofs.YtgccegnmggjkjaaGreatDoor
set_option maxRecDepth 100000
set_option maxHeartbeats 4000000
namespace Go.Proofs.YtgccegnmggjkjaaGreatDoor
open Go.Den
variable {h : Heap} {R : Value → Heap → Prop}
theorem copies_New.walk  (hv :
 NewP h (.map #[] 0) fun b h_1 =>
 Cl F.alarm_New #[] h_1 fun v h_2 =>
 ∃ t2, v = .pointer t2 ∧
 Cl F.alarm_New #[] h_2 fun v_1 h_3 =>
 ∃ t3, v_1 = .pointer t3 ∧
 NewP h_3 (.cells #[.map (some b), .int .i64 1, .int .i64 0, .int .i64 0, .int .i64 0, .pointer t2, .pointer t3] T.copies_Table) fun b_1 h_4 =>
 R (.pointer (some ⟨b_1, 0, none⟩)) h_4) : CallsH Tryz.prog F.copies_New #[] h R :=
 callsH_of_body (.seq .leaf (.seq .leaf .leaf)) Tryz.func9 rfl rfl (Eq.mp (by kernel_rfl) hv)
theorem copies_Table_made.walk {t : Nat} (hv :
 ∃ t9, hcell h ⟨t, 0, none⟩ = some (.map t9) ∧
 R (.bool (!t9.isNone)) h) : CallsH Tryz.prog F.copies_Table_made #[.pointer (some ⟨t, 0, none⟩)] h R :=
 callsH_of_body (.seq .leaf (.seq .leaf .leaf)) Tryz.func69 rfl rfl (Eq.mp (by kernel_rfl) hv)
theorem copies_Table_numbers.walk {t : Nat} (hv :
 Cl F.copies_Table_made #[.pointer (some ⟨t, 0, none⟩)] h fun v h_1 =>
 ∃ t6, v = .bool t6 ∧
 JoinP (fun (out_p : Option Addr) (out_l out_c : Nat) (h_2 : Heap) =>
 Cl F.slices_Sort_s_int_int #[.slice out_p out_l out_c] h_2 fun v_1 h_3 =>
 v_1 = .tuple #[] ∧
 R (.slice out_p out_l out_c) h_3)
 (fun J =>
 if t6 = true then
 ∃ t10, hcell h_1 ⟨t, 0, none⟩ = some (.map t10) ∧
 denSem Tryz.prog (Instr.range T.m_int_p_copies_Copy (.map t10)) h_1 fun v_2 h_4 =>
 ∃ (it : Nat), v_2 = .pointer (some ⟨it, 0, none⟩) ∧
 ∃ (I : Option Addr → Nat → Nat → Heap → Prop) (mu : Option Addr → Nat → Nat → Heap → Nat), I none 0 0 h_4 ∧ ∀ (out_p_1 : Option Addr) (out_l_1 out_c_1 : Nat) (h_5 : Heap), I out_p_1 out_l_1 out_c_1 h_5 →
 denSem Tryz.prog (Instr.next (.pointer (some ⟨it, 0, none⟩)) false T.tup_) h_5 fun v_3 h_6 =>
 (v_3 = .tuple #[.bool false] ∧
 J out_p_1 out_l_1 out_c_1 h_6) ∨
 (  ∃ (t12_k t12_v : Value), v_3 = .tuple #[.bool true, t12_k, t12_v] ∧
 denSem Tryz.prog (Instr.entry (.pointer (some ⟨it, 0, none⟩))) h_6 fun v_4 h_7 =>
 ∃ (t14_k t14_v : Value), v_4 = .tuple #[t14_k, t14_v] ∧
 ∃ t15, t14_k = .int .i64 t15 ∧
 NewP h_7 (.cells #[.int .i64 t15] T.int) fun b h_8 =>
 denSem Tryz.prog (Builtin.append_ #[T.s_int, T.s_int] T.s_int #[.slice out_p_1 out_l_1 out_c_1, .slice (some ⟨b, 0, none⟩) 1 1]) h_8 fun v_5 h_9 =>
 ∃ t19_p t19_l t19_c, v_5 = .slice t19_p t19_l t19_c ∧
 (I t19_p t19_l t19_c h_9 ∧ mu t19_p t19_l t19_c h_9 < mu out_p_1 out_l_1 out_c_1 h_5))
 else
 J none 0 0 h_1)) : CallsH Tryz.prog F.copies_Table_numbers #[.pointer (some ⟨t, 0, none⟩)] h R :=
 callsH_of_body (.seq .leaf (.seq .leaf (.seq (.seq .leaf (.join [(3, .one (.slice))] (.cond (.seq .leaf (.block (.loop [(3, .one (.slice))] (.seq .leaf (.seq (.cond .leaf .leaf) (.block (.seq (.typed [(15, .one (.int .i64))]) .leaf))))))) .leaf))) (.seq .leaf (.seq .leaf .leaf))))) Tryz.func77 rfl rfl (Eq.mp (by kernel_rfl) hv)
theorem copies_Table_of_1.walk {n : Int} {c0 : Nat} {c1 : Nat} (hv :
 ∃ t5, hcell h ⟨c0, 0, none⟩ = some (.pointer t5) ∧
 onSome t5 fun a =>
 ∃ t8, hcell h a = some (.map t8) ∧
 ∃ t10, LookV Tryz.prog T.m_int_p_copies_Copy (.map t8) (.int .i64 n) false h (.pointer t10) ∧
 onSome t10 fun a_1 =>
 eid_Eid.LD h (a_1.add 1) fun t13_0 t13_1 t13_2 t13_3 t13_4 =>
 eid_Eid.LD h ⟨c1, 0, none⟩ fun t14_0 t14_1 t14_2 t14_3 t14_4 =>
 ∃ (eq : Bool), EqV Tryz.prog T.eid_Eid (.agg #[.bool t13_0, .int .u64 t13_1, .int .u64 t13_2, .string t13_3, .string t13_4]) (.agg #[.bool t14_0, .int .u64 t14_1, .int .u64 t14_2, .string t14_3, .string t14_4]) eq ∧
 R (.bool (!eq)) h) : CallsH Tryz.prog F.copies_Table_of_1 #[.int .i64 n, .pointer (some ⟨c0, 0, none⟩), .pointer (some ⟨c1, 0, none⟩)] h R :=
 callsH_of_body (.seq .leaf (.seq (.plan (.op 0 (.op 1 (.op 2 (.op 3 (.op 4 (.op 5 (.op 6 (.op 7 (.op 8 (.op 9 (.op 10 (.op 11 .done))))))))))))) .leaf)) Tryz.func144 rfl rfl (Eq.mp (by kernel_rfl) hv)
theorem slices_DeleteFunc_s_int_int.of.walk {s_p : Option Addr} {s_l s_c : Nat} {del_c : Nat} {del_c_1 : Nat} (hv :
 Cl F.slices_IndexFunc_s_int_int #[.slice s_p s_l s_c, .func (.func F.copies_Table_of_1) #[] #[.pointer (some ⟨del_c, 0, none⟩), .pointer (some ⟨del_c_1, 0, none⟩)]] h fun v h_1 =>
 ∃ t10, v = .int .i64 t10 ∧
 if (t10 == (-1)) = true then
 R (.slice s_p s_l s_c) h_1
 else
 ∃ (I : Int → Int → Heap → Prop) (mu : Int → Int → Heap → Nat), I t10 (IntKind.wrap .i64 (t10 + 1)) h_1 ∧ ∀ (i : Int) (j : Int) (h_2 : Heap), I i j h_2 →
 if (decide (j < ((s_l : Nat) : Int))) = true then
 JoinP (fun (i_1 : Int) (h_3 : Heap) =>
 (I i_1 (IntKind.wrap .i64 (j + 1)) h_3 ∧ mu i_1 (IntKind.wrap .i64 (j + 1)) h_3 < mu i j h_2))
 (fun J =>
 ((0 : Int) ≤ j ∧ j < ((s_l : Nat) : Int)) ∧
 onSome s_p fun a =>
 ∃ t25, hcell h_2 (a.add (Int.toNat j * 1)) = some (.int .i64 t25) ∧
 Cl F.copies_Table_of_1 #[.int .i64 t25, .pointer (some ⟨del_c, 0, none⟩), .pointer (some ⟨del_c_1, 0, none⟩)] h_2 fun v_1 h_4 =>
 ∃ t28, v_1 = .bool t28 ∧
 JoinP (fun (i_2 : Int) (h_5 : Heap) =>
 J i_2 h_5)
 (fun J_1 =>
 if (!t28) = true then
 ((0 : Int) ≤ i ∧ i < ((s_l : Nat) : Int)) ∧
 onSome s_p fun a_1 =>
 StoreP h_4 (a_1.add (Int.toNat i * 1)) (.int .i64 t25) fun h_6 =>
 J_1 (IntKind.wrap .i64 (i + 1)) h_6
 else
 J_1 i h_4))
 else
 ((0 : Int) ≤ i ∧ i ≤ ((s_l : Nat) : Int)) ∧
 denSem Tryz.prog (Builtin.clear_ #[T.s_int] T.tup_ #[.slice (slBase s_p s_c (Int.toNat i) 1) (s_l - (Int.toNat i)) (s_c - (Int.toNat i))]) h_2 fun v_2 h_7 =>
 v_2 = .tuple #[] ∧
 ((0 : Int) ≤ i ∧ i ≤ ((s_c : Nat) : Int)) ∧
 R (.slice (slBase s_p s_c 0 1) ((Int.toNat i) - 0) (s_c - 0)) h_7) : CallsH Tryz.prog F.slices_DeleteFunc_s_int_int #[.slice s_p s_l s_c, .func (.func F.copies_Table_of_1) #[] #[.pointer (some ⟨del_c, 0, none⟩), .pointer (some ⟨del_c_1, 0, none⟩)]] h R :=
 callsH_of_body (.seq .leaf (.seq .leaf (.seq (.seq .leaf (.cond (.seq .leaf .leaf) .leaf)) (.seq (.seq .leaf (.block (.loop [(5, .one (.int .i64)), (6, .one (.int .i64))] (.seq (.seq .leaf (.cond .leaf .leaf)) (.seq (.join [(5, .one (.int .i64))] (.block (.seq .leaf (.seq .leaf (.join [(5, .one (.int .i64))] (.cond (.seq .leaf .leaf) .leaf)))))) .leaf))))) (.seq .leaf (.seq .leaf .leaf)))))) Tryz.func143 rfl rfl (Eq.mp (by kernel_rfl) hv)
theorem slices_IndexFunc_s_int_int.of.walk {s_p : Option Addr} {s_l s_c : Nat} {f_c : Nat} {f_c_1 : Nat} (hv :
 ∃ (I : Int → Heap → Prop) (mu : Int → Heap → Nat), I 0 h ∧ ∀ (t8 : Int) (h_1 : Heap), I t8 h_1 →
 if (decide (t8 < ((s_l : Nat) : Int))) = true then
 ((0 : Int) ≤ t8 ∧ t8 < ((s_l : Nat) : Int)) ∧
 onSome s_p fun a =>
 ∃ t15, hcell h_1 (a.add (Int.toNat t8 * 1)) = some (.int .i64 t15) ∧
 Cl F.copies_Table_of_1 #[.int .i64 t15, .pointer (some ⟨f_c, 0, none⟩), .pointer (some ⟨f_c_1, 0, none⟩)] h_1 fun v h_2 =>
 ∃ t16, v = .bool t16 ∧
 if t16 = true then
 R (.int .i64 t8) h_2
 else
 (I (IntKind.wrap .i64 (t8 + 1)) h_2 ∧ mu (IntKind.wrap .i64 (t8 + 1)) h_2 < mu t8 h_1)
 else
 R (.int .i64 (-1)) h_1) : CallsH Tryz.prog F.slices_IndexFunc_s_int_int #[.slice s_p s_l s_c, .func (.func F.copies_Table_of_1) #[] #[.pointer (some ⟨f_c, 0, none⟩), .pointer (some ⟨f_c_1, 0, none⟩)]] h R :=
 callsH_of_body (.seq .leaf (.seq (.seq .leaf (.block (.loop [(8, .one (.int .i64))] (.seq .leaf (.seq (.cond .leaf .leaf) (.seq (.block (.seq .leaf (.seq .leaf (.cond (.seq .leaf .leaf) .leaf)))) .leaf)))))) (.seq .leaf .leaf))) Tryz.func186 rfl rfl (Eq.mp (by kernel_rfl) hv)
theorem copies_Table_of.walk {t : Nat} {endpoint_0 : Bool} {endpoint_1 : Int} {endpoint_2 : Int} {endpoint_3 : ByteArray} {endpoint_4 : ByteArray} (hv :
 NewP h (.cells #[.pointer (some ⟨t, 0, none⟩)] T.p_copies_Table) fun b h_1 =>
 NewP h_1 (.cells #[.bool endpoint_0, .int .u64 endpoint_1, .int .u64 endpoint_2, .string endpoint_3, .string endpoint_4] T.eid_Eid) fun b_1 h_2 =>
 ∃ t5, hcell h_2 ⟨b, 0, none⟩ = some (.pointer t5) ∧
 Cl F.copies_Table_numbers #[.pointer t5] h_2 fun v h_3 =>
 ∃ t6_p t6_l t6_c, v = .slice t6_p t6_l t6_c ∧
 Cl F.slices_DeleteFunc_s_int_int #[.slice t6_p t6_l t6_c, .func (.func F.copies_Table_of_1) #[] #[.pointer (some ⟨b, 0, none⟩), .pointer (some ⟨b_1, 0, none⟩)]] h_3 fun v_1 h_4 =>
 ∃ t8_p t8_l t8_c, v_1 = .slice t8_p t8_l t8_c ∧
 R (.slice t8_p t8_l t8_c) h_4) : CallsH Tryz.prog F.copies_Table_of #[.pointer (some ⟨t, 0, none⟩), .agg #[.bool endpoint_0, .int .u64 endpoint_1, .int .u64 endpoint_2, .string endpoint_3, .string endpoint_4]] h R :=
 callsH_of_body (.seq .leaf (.seq .leaf .leaf)) Tryz.func67 rfl rfl (Eq.mp (by kernel_rfl) hv)
theorem copies_Table_Ready.walk {t : Nat} {endpoint_0 : Bool} {endpoint_1 : Int} {endpoint_2 : Int} {endpoint_3 : ByteArray} {endpoint_4 : ByteArray} (hv :
 NewP h (.cells #[.bool endpoint_0, .int .u64 endpoint_1, .int .u64 endpoint_2, .string endpoint_3, .string endpoint_4] T.eid_Eid) fun b h_1 =>
 eid_Eid.LD h_1 ⟨b, 0, none⟩ fun t9_0 t9_1 t9_2 t9_3 t9_4 =>
 Cl F.copies_Table_of #[.pointer (some ⟨t, 0, none⟩), .agg #[.bool t9_0, .int .u64 t9_1, .int .u64 t9_2, .string t9_3, .string t9_4]] h_1 fun v h_2 =>
 ∃ t10_p t10_l t10_c, v = .slice t10_p t10_l t10_c ∧
 ∃ (I : Int → Int → Heap → Prop) (mu : Int → Int → Heap → Nat), I 0 0 h_2 ∧ ∀ (n : Int) (t12 : Int) (h_3 : Heap), I n t12 h_3 →
 if (decide (t12 < ((t10_l : Nat) : Int))) = true then
 JoinP (fun (n_1 : Int) (h_4 : Heap) =>
 (I n_1 (IntKind.wrap .i64 (t12 + 1)) h_4 ∧ mu n_1 (IntKind.wrap .i64 (t12 + 1)) h_4 < mu n t12 h_3))
 (fun J =>
 ((0 : Int) ≤ t12 ∧ t12 < ((t10_l : Nat) : Int)) ∧
 onSome t10_p fun a =>
 ∃ t15, hcell h_3 (a.add (Int.toNat t12 * 1)) = some (.int .i64 t15) ∧
 ∃ t19, hcell h_3 ⟨t, 0, none⟩ = some (.map t19) ∧
 ∃ t21, LookV Tryz.prog T.m_int_p_copies_Copy (.map t19) (.int .i64 t15) false h_3 (.pointer t21) ∧
 onSome t21 fun a_1 =>
 ∃ t24, hcell h_3 (a_1.add 8) = some (.int .i64 t24) ∧
 JoinP (fun (n_2 : Int) (h_5 : Heap) =>
 J n_2 h_5)
 (fun J_1 =>
 if (t24 == 0) = true then
 J_1 (IntKind.wrap .i64 (n + 1)) h_3
 else
 J_1 n h_3))
 else
 R (.int .i64 n) h_3) : CallsH Tryz.prog F.copies_Table_Ready #[.pointer (some ⟨t, 0, none⟩), .agg #[.bool endpoint_0, .int .u64 endpoint_1, .int .u64 endpoint_2, .string endpoint_3, .string endpoint_4]] h R :=
 callsH_of_body (.seq .leaf (.seq .leaf (.seq (.seq .leaf (.block (.loop [(5, .one (.int .i64)), (12, .one (.int .i64))] (.seq .leaf (.seq (.cond .leaf .leaf) (.seq (.join [(5, .one (.int .i64))] (.block (.seq .leaf (.seq .leaf (.join [(5, .one (.int .i64))] (.cond .leaf .leaf)))))) .leaf)))))) (.seq .leaf .leaf)))) Tryz.func14 rfl rfl (Eq.mp (by kernel_rfl) hv)
theorem copies_Table_Counts.walk {t : Nat} (hv :
 NewP h (.cells #[.int .i64 0, .int .i64 0, .int .i64 0, .int .i64 0, .int .i64 0, .int .i64 0] T.a6_int) fun b h_1 =>
 Cl F.copies_Table_made #[.pointer (some ⟨t, 0, none⟩)] h_1 fun v h_2 =>
 ∃ t5, v = .bool t5 ∧
 if (!t5) = true then
 a6_int.ST h_2 ⟨b, 0, none⟩ 0 0 0 0 0 0 fun h_3 =>
 a6_int.LD h_3 ⟨b, 0, none⟩ fun r_0 r_1 r_2 r_3 r_4 r_5 =>
 R (.agg #[.int .i64 r_0, .int .i64 r_1, .int .i64 r_2, .int .i64 r_3, .int .i64 r_4, .int .i64 r_5]) h_3
 else
 ∃ t11, hcell h_2 ⟨t, 6, none⟩ = some (.pointer t11) ∧
 Cl F.alarm_Alarm_Len #[.pointer t11] h_2 fun v_1 h_4 =>
 ∃ t12, v_1 = .int .i64 t12 ∧
 ∃ t16, hcell h_4 ⟨t, 1, none⟩ = some (.int .i64 t16) ∧
 ∃ t21, hcell h_4 ⟨t, 0, none⟩ = some (.map t21) ∧
 ∃ t22 : Int, LenV Tryz.prog #[T.m_int_p_copies_Copy] T.int (.map t21) h_4 (.int .i64 t22) ∧
 ∃ t29, hcell h_4 ⟨t, 2, none⟩ = some (.int .i64 t29) ∧
 ∃ t33, hcell h_4 ⟨t, 3, none⟩ = some (.int .i64 t33) ∧
 ∃ t37, hcell h_4 ⟨t, 4, none⟩ = some (.int .i64 t37) ∧
 a6_int.ST h_4 ⟨b, 0, none⟩ (IntKind.wrap .i64 (t16 - 1)) (IntKind.wrap .i64 (t22 - t12)) t12 t29 t33 t37 fun h_5 =>
 a6_int.LD h_5 ⟨b, 0, none⟩ fun r_0_1 r_1_1 r_2_1 r_3_1 r_4_1 r_5_1 =>
 R (.agg #[.int .i64 r_0_1, .int .i64 r_1_1, .int .i64 r_2_1, .int .i64 r_3_1, .int .i64 r_4_1, .int .i64 r_5_1]) h_5) : CallsH Tryz.prog F.copies_Table_Counts #[.pointer (some ⟨t, 0, none⟩)] h R :=
 callsH_of_body (.seq .leaf (.seq (.seq .leaf (.cond (.seq .leaf .leaf) .leaf)) (.seq .leaf (.seq (.plan (.op 0 (.op 1 (.op 2 (.op 3 (.op 4 (.op 5 (.op 6 (.op 7 (.op 8 (.op 9 (.op 10 (.op 11 (.op 12 (.op 13 (.op 14 (.op 15 (.op 16 (.op 17 (.op 18 (.op 19 (.op 20 (.op 21 (.op 22 (.op 23 (.op 24 (.op 25 (.op 26 .done)))))))))))))))))))))))))))) .leaf)))) Tryz.func28 rfl rfl (Eq.mp (by kernel_rfl) hv)
theorem copies_isCopy.walk {endpoint_0 : Bool} {endpoint_1 : Int} {endpoint_2 : Int} {endpoint_3 : ByteArray} {endpoint_4 : ByteArray} {data_p : Option Addr} {data_l data_c : Nat} {v_until : Int} (hv :
 NewP h (.cells #[.bool endpoint_0, .int .u64 endpoint_1, .int .u64 endpoint_2, .string endpoint_3, .string endpoint_4] T.eid_Eid) fun b h_1 =>
 eid_Eid.LD h_1 ⟨b, 0, none⟩ fun t7_0 t7_1 t7_2 t7_3 t7_4 =>
 Cl F.eid_Right #[.agg #[.bool t7_0, .int .u64 t7_1, .int .u64 t7_2, .string t7_3, .string t7_4]] h_1 fun v h_2 =>
 ∃ t8, v = .bool t8 ∧
 if t8 = true then
 eid_Eid.LD h_2 ⟨b, 0, none⟩ fun t10_0 t10_1 t10_2 t10_3 t10_4 =>
 ∃ (eq : Bool), EqV Tryz.prog T.eid_Eid (.agg #[.bool t10_0, .int .u64 t10_1, .int .u64 t10_2, .string t10_3, .string t10_4]) (.agg #[.bool false, .int .u64 0, .int .u64 0, .string (⟨#[]⟩ : ByteArray), .string (⟨#[]⟩ : ByteArray)]) eq ∧
 if (!eq) = true then
 if (decide (((data_l : Nat) : Int) ≥ 1)) = true then
 if (decide (((data_l : Nat) : Int) ≤ 600)) = true then
 R (.bool (decide (v_until ≤ 1099511627776))) h_2
 else
 R (.bool false) h_2
 else
 R (.bool false) h_2
 else
 R (.bool false) h_2
 else
 R (.bool false) h_2) : CallsH Tryz.prog F.copies_isCopy #[.agg #[.bool endpoint_0, .int .u64 endpoint_1, .int .u64 endpoint_2, .string endpoint_3, .string endpoint_4], .slice data_p data_l data_c, .int .u64 v_until] h R :=
 callsH_of_body (.seq .leaf (.seq .leaf .leaf)) Tryz.func70 rfl rfl (Eq.mp (by kernel_rfl) hv)
theorem copies_Table_Add.walk {t : Nat} {endpoint_0 : Bool} {endpoint_1 : Int} {endpoint_2 : Int} {endpoint_3 : ByteArray} {endpoint_4 : ByteArray} {data_p : Option Addr} {data_l data_c : Nat} {v_until : Int} (hv :
 NewP h (.cells #[.bool endpoint_0, .int .u64 endpoint_1, .int .u64 endpoint_2, .string endpoint_3, .string endpoint_4] T.eid_Eid) fun b h_1 =>
 Cl F.copies_Table_made #[.pointer (some ⟨t, 0, none⟩)] h_1 fun v h_2 =>
 ∃ t13, v = .bool t13 ∧
 if (!t13) = true then
 R (.tuple #[.int .i64 0, .int .i64 6]) h_2
 else
 eid_Eid.LD h_2 ⟨b, 0, none⟩ fun t16_0 t16_1 t16_2 t16_3 t16_4 =>
 Cl F.copies_isCopy #[.agg #[.bool t16_0, .int .u64 t16_1, .int .u64 t16_2, .string t16_3, .string t16_4], .slice data_p data_l data_c, .int .u64 v_until] h_2 fun v_1 h_3 =>
 ∃ t19, v_1 = .bool t19 ∧
 if (!t19) = true then
 R (.tuple #[.int .i64 0, .int .i64 1]) h_3
 else
 eid_Eid.LD h_3 ⟨b, 0, none⟩ fun t23_0 t23_1 t23_2 t23_3 t23_4 =>
 Cl F.copies_Table_of #[.pointer (some ⟨t, 0, none⟩), .agg #[.bool t23_0, .int .u64 t23_1, .int .u64 t23_2, .string t23_3, .string t23_4]] h_3 fun v_2 h_4 =>
 ∃ t24_p t24_l t24_c, v_2 = .slice t24_p t24_l t24_c ∧
 if (decide (((t24_l : Nat) : Int) ≥ 16)) = true then
 R (.tuple #[.int .i64 0, .int .i64 15]) h_4
 else
 ∃ t30, hcell h_4 ⟨t, 1, none⟩ = some (.int .i64 t30) ∧
 ∃ t34, hcell h_4 ⟨t, 1, none⟩ = some (.int .i64 t34) ∧
 StoreP h_4 ⟨t, 1, none⟩ (.int .i64 (IntKind.wrap .i64 (t34 + 1))) fun h_5 =>
 ∃ t41, hcell h_5 ⟨t, 0, none⟩ = some (.map t41) ∧
 eid_Eid.LD h_5 ⟨b, 0, none⟩ fun t44_0 t44_1 t44_2 t44_3 t44_4 =>
 Cl F.slices_Clone_s_byte_byte #[.slice data_p data_l data_c] h_5 fun v_3 h_6 =>
 ∃ t46_p t46_l t46_c, v_3 = .slice t46_p t46_l t46_c ∧
 heldL ⟨b, 0, none⟩ [.bool t44_0, .int .u64 t44_1, .int .u64 t44_2, .string t44_3, .string t44_4] 0 h_6 ∧
 hcell h_6 ⟨t, 0, none⟩ = some (.map t41) ∧
 NewP h_6 (.cells #[.int .i64 t30, .bool t44_0, .int .u64 t44_1, .int .u64 t44_2, .string t44_3, .string t44_4, .slice t46_p t46_l t46_c, .int .u64 v_until, .int .i64 0, .int .u64 0] T.copies_Copy) fun b_1 h_7 =>
 heldL ⟨b, 0, none⟩ [.bool t44_0, .int .u64 t44_1, .int .u64 t44_2, .string t44_3, .string t44_4] 0 h_7 ∧
 hcell h_7 ⟨t, 0, none⟩ = some (.map t41) ∧
 denSem Tryz.prog (Instr.mapUpdate T.m_int_p_copies_Copy (.map t41) (.int .i64 t30) (.pointer (some ⟨b_1, 0, none⟩))) h_7 fun _ h_8 =>
 ∃ t53, hcell h_8 ⟨t, 5, none⟩ = some (.pointer t53) ∧
 Cl F.alarm_Alarm_Set #[.pointer t53, .int .i64 t30, .int .u64 v_until] h_8 fun v_4 h_9 =>
 ∃ t56, v_4 = .int .i64 t56 ∧
 R (.tuple #[.int .i64 t30, .int .i64 0]) h_9) : CallsH Tryz.prog F.copies_Table_Add #[.pointer (some ⟨t, 0, none⟩), .agg #[.bool endpoint_0, .int .u64 endpoint_1, .int .u64 endpoint_2, .string endpoint_3, .string endpoint_4], .slice data_p data_l data_c, .int .u64 v_until] h R :=
 callsH_of_body (.seq .leaf (.seq (.block (.seq .leaf (.cond (.seq .leaf .leaf) (.seq .leaf (.cond (.seq .leaf .leaf) (.seq .leaf (.cond (.seq .leaf .leaf) .leaf))))))) (.seq .leaf (.seq .leaf (.seq (.plan (.op 0 (.op 1 (.op 2 (.op 3 (.op 4 (.op 5 (.op 6 (.op 7 (.op 9 (.op 8 (.op 10 (.op 11 (.op 12 .done)))))))))))))) (.seq .leaf (.seq .leaf .leaf))))))) Tryz.func17 rfl rfl (Eq.mp (by kernel_rfl) hv)
theorem copies_isSession.walk {n : Int} (hv :
 if (decide (n ≥ 1)) = true then
 R (.bool (decide (n ≤ 1099511627776))) h
 else
 R (.bool false) h) : CallsH Tryz.prog F.copies_isSession #[.int .i64 n] h R :=
 callsH_of_body (.seq .leaf (.seq .leaf .leaf)) Tryz.func73 rfl rfl (Eq.mp (by kernel_rfl) hv)
theorem copies_Table_Lease.walk {t : Nat} {endpoint_0 : Bool} {endpoint_1 : Int} {endpoint_2 : Int} {endpoint_3 : ByteArray} {endpoint_4 : ByteArray} {session : Int} {deadline : Int} (hv :
 NewP h (.cells #[.bool endpoint_0, .int .u64 endpoint_1, .int .u64 endpoint_2, .string endpoint_3, .string endpoint_4] T.eid_Eid) fun b h_1 =>
 NewP h_1 (.cells #[.int .i64 0, .bool false, .int .u64 0, .int .u64 0, .string (⟨#[]⟩ : ByteArray), .string (⟨#[]⟩ : ByteArray), .slice none 0 0, .int .u64 0, .int .i64 0, .int .u64 0] T.copies_Copy) fun b_1 h_2 =>
 Cl F.copies_Table_made #[.pointer (some ⟨t, 0, none⟩)] h_2 fun v h_3 =>
 ∃ t16, v = .bool t16 ∧
 if (!t16) = true then
 copies_Copy.ST h_3 ⟨b_1, 0, none⟩ 0 false 0 0 (⟨#[]⟩ : ByteArray) (⟨#[]⟩ : ByteArray) none 0 0 0 0 0 fun h_4 =>
 copies_Copy.LD h_4 ⟨b_1, 0, none⟩ fun r_0 r_1 r_2 r_3 r_4 r_5 r_6_p r_6_l r_6_c r_7 r_8 r_9 =>
 R (.tuple #[.agg #[.int .i64 r_0, .bool r_1, .int .u64 r_2, .int .u64 r_3, .string r_4, .string r_5, .slice r_6_p r_6_l r_6_c, .int .u64 r_7, .int .i64 r_8, .int .u64 r_9], .int .i64 6]) h_4
 else
 JoinP (fun (t19 : Bool) (h_5 : Heap) =>
 if t19 = true then
 copies_Copy.ST h_5 ⟨b_1, 0, none⟩ 0 false 0 0 (⟨#[]⟩ : ByteArray) (⟨#[]⟩ : ByteArray) none 0 0 0 0 0 fun h_6 =>
 copies_Copy.LD h_6 ⟨b_1, 0, none⟩ fun r_0_1 r_1_1 r_2_1 r_3_1 r_4_1 r_5_1 r_6_p_1 r_6_l_1 r_6_c_1 r_7_1 r_8_1 r_9_1 =>
 R (.tuple #[.agg #[.int .i64 r_0_1, .bool r_1_1, .int .u64 r_2_1, .int .u64 r_3_1, .string r_4_1, .string r_5_1, .slice r_6_p_1 r_6_l_1 r_6_c_1, .int .u64 r_7_1, .int .i64 r_8_1, .int .u64 r_9_1], .int .i64 1]) h_6
 else
 eid_Eid.LD h_5 ⟨b, 0, none⟩ fun t29_0 t29_1 t29_2 t29_3 t29_4 =>
 Cl F.copies_Table_of #[.pointer (some ⟨t, 0, none⟩), .agg #[.bool t29_0, .int .u64 t29_1, .int .u64 t29_2, .string t29_3, .string t29_4]] h_5 fun v_1 h_7 =>
 ∃ t30_p t30_l t30_c, v_1 = .slice t30_p t30_l t30_c ∧
 ∃ (I : Int → Heap → Prop) (mu : Int → Heap → Nat), I 0 h_7 ∧ ∀ (t32 : Int) (h_8 : Heap), I t32 h_8 →
 if (decide (t32 < ((t30_l : Nat) : Int))) = true then
 ((0 : Int) ≤ t32 ∧ t32 < ((t30_l : Nat) : Int)) ∧
 onSome t30_p fun a =>
 ∃ t35, hcell h_8 (a.add (Int.toNat t32 * 1)) = some (.int .i64 t35) ∧
 ∃ t39, hcell h_8 ⟨t, 0, none⟩ = some (.map t39) ∧
 ∃ t41, LookV Tryz.prog T.m_int_p_copies_Copy (.map t39) (.int .i64 t35) false h_8 (.pointer t41) ∧
 onSome t41 fun a_1 =>
 ∃ t45, hcell h_8 (a_1.add 8) = some (.int .i64 t45) ∧
 if (t45 == 0) = true then
 onSome t41 fun a_2 =>
 StoreP h_8 (a_2.add 8) (.int .i64 session) fun h_9 =>
 onSome t41 fun a_3 =>
 StoreP h_9 (a_3.add 9) (.int .u64 deadline) fun h_10 =>
 ∃ t58, hcell h_10 ⟨t, 6, none⟩ = some (.pointer t58) ∧
 Cl F.alarm_Alarm_Set #[.pointer t58, .int .i64 t35, .int .u64 deadline] h_10 fun v_2 h_11 =>
 ∃ t61, v_2 = .int .i64 t61 ∧
 onSome t41 fun a_4 =>
 copies_Copy.LD h_11 a_4 fun t64_0 t64_1 t64_2 t64_3 t64_4 t64_5 t64_6_p t64_6_l t64_6_c t64_7 t64_8 t64_9 =>
 NewP h_11 (.cells #[.int .i64 0, .bool false, .int .u64 0, .int .u64 0, .string (⟨#[]⟩ : ByteArray), .string (⟨#[]⟩ : ByteArray), .slice none 0 0, .int .u64 0, .int .i64 0, .int .u64 0] T.copies_Copy) fun b_2 h_12 =>
 copies_Copy.ST h_12 ⟨b_2, 0, none⟩ t64_0 t64_1 t64_2 t64_3 t64_4 t64_5 t64_6_p t64_6_l t64_6_c t64_7 t64_8 t64_9 fun h_13 =>
 onSome t41 fun a_5 =>
 ∃ t68_p t68_l t68_c, hcell h_13 (a_5.add 6) = some (.slice t68_p t68_l t68_c) ∧
 Cl F.slices_Clone_s_byte_byte #[.slice t68_p t68_l t68_c] h_13 fun v_3 h_14 =>
 ∃ t69_p t69_l t69_c, v_3 = .slice t69_p t69_l t69_c ∧
 StoreP h_14 ⟨b_2, 6, none⟩ (.slice t69_p t69_l t69_c) fun h_15 =>
 copies_Copy.LD h_15 ⟨b_2, 0, none⟩ fun t71_0 t71_1 t71_2 t71_3 t71_4 t71_5 t71_6_p t71_6_l t71_6_c t71_7 t71_8 t71_9 =>
 copies_Copy.ST h_15 ⟨b_1, 0, none⟩ t71_0 t71_1 t71_2 t71_3 t71_4 t71_5 t71_6_p t71_6_l t71_6_c t71_7 t71_8 t71_9 fun h_16 =>
 copies_Copy.LD h_16 ⟨b_1, 0, none⟩ fun r_0_2 r_1_2 r_2_2 r_3_2 r_4_2 r_5_2 r_6_p_2 r_6_l_2 r_6_c_2 r_7_2 r_8_2 r_9_2 =>
 R (.tuple #[.agg #[.int .i64 r_0_2, .bool r_1_2, .int .u64 r_2_2, .int .u64 r_3_2, .string r_4_2, .string r_5_2, .slice r_6_p_2 r_6_l_2 r_6_c_2, .int .u64 r_7_2, .int .i64 r_8_2, .int .u64 r_9_2], .int .i64 0]) h_16
 else
 (I (IntKind.wrap .i64 (t32 + 1)) h_8 ∧ mu (IntKind.wrap .i64 (t32 + 1)) h_8 < mu t32 h_8)
 else
 copies_Copy.ST h_8 ⟨b_1, 0, none⟩ 0 false 0 0 (⟨#[]⟩ : ByteArray) (⟨#[]⟩ : ByteArray) none 0 0 0 0 0 fun h_17 =>
 copies_Copy.LD h_17 ⟨b_1, 0, none⟩ fun r_0_3 r_1_3 r_2_3 r_3_3 r_4_3 r_5_3 r_6_p_3 r_6_l_3 r_6_c_3 r_7_3 r_8_3 r_9_3 =>
 R (.tuple #[.agg #[.int .i64 r_0_3, .bool r_1_3, .int .u64 r_2_3, .int .u64 r_3_3, .string r_4_3, .string r_5_3, .slice r_6_p_3 r_6_l_3 r_6_c_3, .int .u64 r_7_3, .int .i64 r_8_3, .int .u64 r_9_3], .int .i64 4]) h_17)
 (fun J =>
 Cl F.copies_isSession #[.int .i64 session] h_3 fun v_4 h_18 =>
 ∃ t21, v_4 = .bool t21 ∧
 if (!t21) = true then
 J true h_18
 else
 J (decide (deadline > 1099511627776)) h_18)) : CallsH Tryz.prog F.copies_Table_Lease #[.pointer (some ⟨t, 0, none⟩), .agg #[.bool endpoint_0, .int .u64 endpoint_1, .int .u64 endpoint_2, .string endpoint_3, .string endpoint_4], .int .i64 session, .int .u64 deadline] h R :=
 callsH_of_body (.seq .leaf (.seq (.block (.seq .leaf (.cond (.seq .leaf .leaf) (.seq (.join [(19, .one (.bool))] .leaf) (.cond (.seq .leaf .leaf) .leaf))))) (.seq (.seq .leaf (.block (.loop [(32, .one (.int .i64))] (.seq .leaf (.seq (.cond .leaf .leaf) (.seq (.block (.seq .leaf (.seq .leaf (.seq .leaf (.cond (.seq .leaf (.seq .leaf (.seq .leaf (.seq .leaf (.seq .leaf .leaf))))) .leaf))))) .leaf)))))) (.seq .leaf .leaf)))) Tryz.func19 rfl rfl (Eq.mp (by kernel_rfl) hv)
theorem copies_Table_find.walk {t : Nat} {num : Int} {session : Int} (hv :
 Cl F.copies_Table_made #[.pointer (some ⟨t, 0, none⟩)] h fun v h_1 =>
 ∃ t10, v = .bool t10 ∧
 if (!t10) = true then
 R (.tuple #[.pointer none, .int .i64 6]) h_1
 else
 ∃ t16, hcell h_1 ⟨t, 0, none⟩ = some (.map t16) ∧
 ∃ t18, LookV Tryz.prog T.m_int_p_copies_Copy (.map t16) (.int .i64 num) false h_1 (.pointer t18) ∧
 if t18.isNone = true then
 R (.tuple #[.pointer none, .int .i64 4]) h_1
 else
 JoinP (fun (t20 : Bool) (h_2 : Heap) =>
 if t20 = true then
 R (.tuple #[.pointer none, .int .i64 14]) h_2
 else
 ∃ t47, hcell h_2 ⟨t, 0, none⟩ = some (.map t47) ∧
 ∃ t49, LookV Tryz.prog T.m_int_p_copies_Copy (.map t47) (.int .i64 num) false h_2 (.pointer t49) ∧
 R (.tuple #[.pointer t49, .int .i64 0]) h_2)
 (fun J =>
 ∃ t24, hcell h_1 ⟨t, 0, none⟩ = some (.map t24) ∧
 ∃ t26, LookV Tryz.prog T.m_int_p_copies_Copy (.map t24) (.int .i64 num) false h_1 (.pointer t26) ∧
 onSome t26 fun a =>
 ∃ t29, hcell h_1 (a.add 8) = some (.int .i64 t29) ∧
 if (t29 == 0) = true then
 J true h_1
 else
 ∃ t35, hcell h_1 ⟨t, 0, none⟩ = some (.map t35) ∧
 ∃ t37, LookV Tryz.prog T.m_int_p_copies_Copy (.map t35) (.int .i64 num) false h_1 (.pointer t37) ∧
 onSome t37 fun a_1 =>
 ∃ t40, hcell h_1 (a_1.add 8) = some (.int .i64 t40) ∧
 J (t40 != session) h_1)) : CallsH Tryz.prog F.copies_Table_find #[.pointer (some ⟨t, 0, none⟩), .int .i64 num, .int .i64 session] h R :=
 callsH_of_body (.seq .leaf (.seq (.block (.seq .leaf (.cond (.seq .leaf .leaf) (.seq .leaf (.cond (.seq .leaf .leaf) (.seq (.join [(20, .one (.bool))] .leaf) (.cond (.seq .leaf .leaf) .leaf))))))) (.seq .leaf .leaf))) Tryz.func83 rfl rfl (Eq.mp (by kernel_rfl) hv)
theorem copies_Table_free.walk {t : Nat} {n : Int} (hv :
 ∃ t7, hcell h ⟨t, 6, none⟩ = some (.pointer t7) ∧
 Cl F.alarm_Alarm_Drop #[.pointer t7, .int .i64 n] h fun v h_1 =>
 ∃ t9, v = .int .i64 t9 ∧
 ∃ t13, hcell h_1 ⟨t, 0, none⟩ = some (.map t13) ∧
 ∃ t15, LookV Tryz.prog T.m_int_p_copies_Copy (.map t13) (.int .i64 n) false h_1 (.pointer t15) ∧
 ∃ t19, hcell h_1 ⟨t, 0, none⟩ = some (.map t19) ∧
 ∃ t21, LookV Tryz.prog T.m_int_p_copies_Copy (.map t19) (.int .i64 n) false h_1 (.pointer t21) ∧
 onSome t15 fun a =>
 StoreP h_1 (a.add 8) (.int .i64 0) fun h_2 =>
 onSome t21 fun a_1 =>
 StoreP h_2 (a_1.add 9) (.int .u64 0) fun h_3 =>
 R (.tuple #[]) h_3) : CallsH Tryz.prog F.copies_Table_free #[.pointer (some ⟨t, 0, none⟩), .int .i64 n] h R :=
 callsH_of_body (.seq .leaf (.plan (.op 0 (.op 1 (.op 2 (.op 3 (.op 4 (.op 5 (.op 6 (.op 7 (.op 8 (.op 9 (.op 10 (.op 11 (.op 12 (.op 13 (.op 14 (.op 15 (.op 16 (.op 17 .done)))))))))))))))))))) Tryz.func85 rfl rfl (Eq.mp (by kernel_rfl) hv)
theorem copies_Table_remove.walk {t : Nat} {n : Int} (hv :
 ∃ t7, hcell h ⟨t, 6, none⟩ = some (.pointer t7) ∧
 Cl F.alarm_Alarm_Drop #[.pointer t7, .int .i64 n] h fun v h_1 =>
 ∃ t9, v = .int .i64 t9 ∧
 ∃ t13, hcell h_1 ⟨t, 5, none⟩ = some (.pointer t13) ∧
 Cl F.alarm_Alarm_Drop #[.pointer t13, .int .i64 n] h_1 fun v_1 h_2 =>
 ∃ t15, v_1 = .int .i64 t15 ∧
 ∃ t19, hcell h_2 ⟨t, 0, none⟩ = some (.map t19) ∧
 denSem Tryz.prog (Builtin.delete_ #[T.m_int_p_copies_Copy, T.int] T.tup_ #[.map t19, .int .i64 n]) h_2 fun v_2 h_3 =>
 v_2 = .tuple #[] ∧
 R (.tuple #[]) h_3) : CallsH Tryz.prog F.copies_Table_remove #[.pointer (some ⟨t, 0, none⟩), .int .i64 n] h R :=
 callsH_of_body (.seq .leaf (.seq .leaf .leaf)) Tryz.func84 rfl rfl (Eq.mp (by kernel_rfl) hv)
theorem copies_Table_Ack.walk {t : Nat} {num : Int} {session : Int} (hv :
 Cl F.copies_Table_find #[.pointer (some ⟨t, 0, none⟩), .int .i64 num, .int .i64 session] h fun v h_1 =>
 ∃ t13_0 t13_1, v = .tuple #[.pointer t13_0, .int .i64 t13_1] ∧
 JoinP (fun (h_2 : Heap) =>
 R (.int .i64 t13_1) h_2)
 (fun J =>
 if (t13_1 == 0) = true then
 Cl F.copies_Table_remove #[.pointer (some ⟨t, 0, none⟩), .int .i64 num] h_1 fun v_1 h_3 =>
 v_1 = .tuple #[] ∧
 ∃ t24, hcell h_3 ⟨t, 2, none⟩ = some (.int .i64 t24) ∧
 StoreP h_3 ⟨t, 2, none⟩ (.int .i64 (IntKind.wrap .i64 (t24 + 1))) fun h_4 =>
 J h_4
 else
 J h_1)) : CallsH Tryz.prog F.copies_Table_Ack #[.pointer (some ⟨t, 0, none⟩), .int .i64 num, .int .i64 session] h R :=
 callsH_of_body (.seq .leaf (.seq .leaf (.seq (.seq .leaf (.join [] (.cond (.seq .leaf .leaf) .leaf))) (.seq .leaf .leaf)))) Tryz.func23 rfl rfl (Eq.mp (by kernel_rfl) hv)
theorem copies_Table_Release.walk {t : Nat} {num : Int} {session : Int} (hv :
 Cl F.copies_Table_find #[.pointer (some ⟨t, 0, none⟩), .int .i64 num, .int .i64 session] h fun v h_1 =>
 ∃ t13_0 t13_1, v = .tuple #[.pointer t13_0, .int .i64 t13_1] ∧
 JoinP (fun (h_2 : Heap) =>
 R (.int .i64 t13_1) h_2)
 (fun J =>
 if (t13_1 == 0) = true then
 Cl F.copies_Table_free #[.pointer (some ⟨t, 0, none⟩), .int .i64 num] h_1 fun v_1 h_3 =>
 v_1 = .tuple #[] ∧
 J h_3
 else
 J h_1)) : CallsH Tryz.prog F.copies_Table_Release #[.pointer (some ⟨t, 0, none⟩), .int .i64 num, .int .i64 session] h R :=
 callsH_of_body (.seq .leaf (.seq .leaf (.seq (.seq .leaf (.join [] (.cond .leaf .leaf))) (.seq .leaf .leaf)))) Tryz.func24 rfl rfl (Eq.mp (by kernel_rfl) hv)
theorem copies_Table_Pass.walk {t : Nat} {now : Int} (hv :
 Cl F.copies_Table_made #[.pointer (some ⟨t, 0, none⟩)] h fun v h_1 =>
 ∃ t11, v = .bool t11 ∧
 if (!t11) = true then
 R (.slice none 0 0) h_1
 else
 ∃ t16, hcell h_1 ⟨t, 5, none⟩ = some (.pointer t16) ∧
 Cl F.alarm_Alarm_Ring #[.pointer t16, .int .u64 now] h_1 fun v_1 h_2 =>
 ∃ t18_p t18_l t18_c, v_1 = .slice t18_p t18_l t18_c ∧
 ∃ (I : Int → Heap → Prop) (mu : Int → Heap → Nat), I 0 h_2 ∧ ∀ (t21 : Int) (h_3 : Heap), I t21 h_3 →
 if (decide (t21 < ((t18_l : Nat) : Int))) = true then
 ((0 : Int) ≤ t21 ∧ t21 < ((t18_l : Nat) : Int)) ∧
 onSome t18_p fun a =>
 ∃ t24, hcell h_3 (a.add (Int.toNat t21 * 1)) = some (.int .i64 t24) ∧
 Cl F.copies_Table_remove #[.pointer (some ⟨t, 0, none⟩), .int .i64 t24] h_3 fun v_2 h_4 =>
 v_2 = .tuple #[] ∧
 ∃ t31, hcell h_4 ⟨t, 3, none⟩ = some (.int .i64 t31) ∧
 StoreP h_4 ⟨t, 3, none⟩ (.int .i64 (IntKind.wrap .i64 (t31 + 1))) fun h_5 =>
 (I (IntKind.wrap .i64 (t21 + 1)) h_5 ∧ mu (IntKind.wrap .i64 (t21 + 1)) h_5 < mu t21 h_3)
 else
 ∃ t39, hcell h_3 ⟨t, 6, none⟩ = some (.pointer t39) ∧
 Cl F.alarm_Alarm_Ring #[.pointer t39, .int .u64 now] h_3 fun v_3 h_6 =>
 ∃ t41_p t41_l t41_c, v_3 = .slice t41_p t41_l t41_c ∧
 ∃ (I_1 : Int → Heap → Prop) (mu_1 : Int → Heap → Nat), I_1 0 h_6 ∧ ∀ (t43 : Int) (h_7 : Heap), I_1 t43 h_7 →
 if (decide (t43 < ((t41_l : Nat) : Int))) = true then
 ((0 : Int) ≤ t43 ∧ t43 < ((t41_l : Nat) : Int)) ∧
 onSome t41_p fun a_1 =>
 ∃ t46, hcell h_7 (a_1.add (Int.toNat t43 * 1)) = some (.int .i64 t46) ∧
 Cl F.copies_Table_free #[.pointer (some ⟨t, 0, none⟩), .int .i64 t46] h_7 fun v_4 h_8 =>
 v_4 = .tuple #[] ∧
 (I_1 (IntKind.wrap .i64 (t43 + 1)) h_8 ∧ mu_1 (IntKind.wrap .i64 (t43 + 1)) h_8 < mu_1 t43 h_7)
 else
 R (.slice t18_p t18_l t18_c) h_7) : CallsH Tryz.prog F.copies_Table_Pass #[.pointer (some ⟨t, 0, none⟩), .int .u64 now] h R :=
 callsH_of_body (.seq .leaf (.seq (.seq .leaf (.cond (.seq .leaf .leaf) .leaf)) (.seq .leaf (.seq (.seq .leaf (.block (.loop [(21, .one (.int .i64))] (.seq .leaf (.seq (.cond .leaf .leaf) (.seq (.block (.seq .leaf (.seq .leaf .leaf))) .leaf)))))) (.seq (.seq .leaf (.block (.loop [(43, .one (.int .i64))] (.seq .leaf (.seq (.cond .leaf .leaf) (.seq (.block (.seq .leaf .leaf)) .leaf)))))) (.seq .leaf .leaf)))))) Tryz.func25 rfl rfl (Eq.mp (by kernel_rfl) hv)
theorem copies_Table_Drop.walk {t : Nat} {endpoint_0 : Bool} {endpoint_1 : Int} {endpoint_2 : Int} {endpoint_3 : ByteArray} {endpoint_4 : ByteArray} (hv :
 NewP h (.cells #[.bool endpoint_0, .int .u64 endpoint_1, .int .u64 endpoint_2, .string endpoint_3, .string endpoint_4] T.eid_Eid) fun b h_1 =>
 eid_Eid.LD h_1 ⟨b, 0, none⟩ fun t9_0 t9_1 t9_2 t9_3 t9_4 =>
 Cl F.copies_Table_of #[.pointer (some ⟨t, 0, none⟩), .agg #[.bool t9_0, .int .u64 t9_1, .int .u64 t9_2, .string t9_3, .string t9_4]] h_1 fun v h_2 =>
 ∃ t10_p t10_l t10_c, v = .slice t10_p t10_l t10_c ∧
 ∃ (I : Int → Heap → Prop) (mu : Int → Heap → Nat), I 0 h_2 ∧ ∀ (t13 : Int) (h_3 : Heap), I t13 h_3 →
 if (decide (t13 < ((t10_l : Nat) : Int))) = true then
 ((0 : Int) ≤ t13 ∧ t13 < ((t10_l : Nat) : Int)) ∧
 onSome t10_p fun a =>
 ∃ t16, hcell h_3 (a.add (Int.toNat t13 * 1)) = some (.int .i64 t16) ∧
 Cl F.copies_Table_remove #[.pointer (some ⟨t, 0, none⟩), .int .i64 t16] h_3 fun v_1 h_4 =>
 v_1 = .tuple #[] ∧
 ∃ t23, hcell h_4 ⟨t, 4, none⟩ = some (.int .i64 t23) ∧
 StoreP h_4 ⟨t, 4, none⟩ (.int .i64 (IntKind.wrap .i64 (t23 + 1))) fun h_5 =>
 (I (IntKind.wrap .i64 (t13 + 1)) h_5 ∧ mu (IntKind.wrap .i64 (t13 + 1)) h_5 < mu t13 h_3)
 else
 R (.slice t10_p t10_l t10_c) h_3) : CallsH Tryz.prog F.copies_Table_Drop #[.pointer (some ⟨t, 0, none⟩), .agg #[.bool endpoint_0, .int .u64 endpoint_1, .int .u64 endpoint_2, .string endpoint_3, .string endpoint_4]] h R :=
 callsH_of_body (.seq .leaf (.seq .leaf (.seq (.seq .leaf (.block (.loop [(13, .one (.int .i64))] (.seq .leaf (.seq (.cond .leaf .leaf) (.seq (.block (.seq .leaf (.seq .leaf .leaf))) .leaf)))))) (.seq .leaf .leaf)))) Tryz.func26 rfl rfl (Eq.mp (by kernel_rfl) hv)
end Go.Proofs.YtgccegnmggjkjaaGreatDoor
set_option maxRecDepth 100000
namespace Go.Proofs.YtgccegnmggjkjaaGreatDoor
open Go.Den Go.Heapq
namespace Cps
open Eid Alarm
variable {h h' : Heap} {R : Value → Heap → Prop} {t : Nat} {X : Ft}
structure Cp where
  num : Nat
  e : Ev
  d : List UInt8
  till : Nat
  ses : Int
  dl : Nat
structure CV where
  num : Nat
  b : Nat
  e : Ev
  v : BV
  till : Nat
  ses : Int
  dl : Nat
def CV.abs (x : CV) : Cp := ⟨x.num, x.e, x.v.b, x.till, x.ses, x.dl⟩
abbrev CV.at (h : Heap) (b : Nat) (x : CV) : Prop := copies_Copy.at h b (x.num : Int) x.e.ipn x.e.node x.e.svc x.e.host x.e.dem x.v.p x.v.b.length x.v.c (x.till : Int) x.ses (x.dl : Int)
structure CF where
  L : List Cp
  next : Nat
  acked : Nat
  over : Nat
  gone : Nat
  E1 : List E
  E2 : List E
abbrev ienc (n : Int) : Value := .int .i64 n
theorem ikey : KeyOk Tryz.prog T.int ienc := ⟨fun a b h => by kernel_rfl, fun e a h => by kernel_rfl, by
  have hu : Tryz.prog.underlying T.int = some (.int .i64) := by kernel_rfl
  exact ⟨_, hu, fun a b => .inr rfl⟩, fun a => by simp [Instr.sameBits]⟩
theorem mapTy : MapKy Tryz.prog T.m_int_p_copies_Copy ienc (.pointer none) := MapKy.of T.int T.p_copies_Copy (by kernel_rfl) ikey (by kernel_rfl)
abbrev CV.pair (x : CV) : Int × Value := ((x.num : Int), .pointer (some ⟨x.b, 0, none⟩))
structure Cm (h : Heap) (t : Nat) (X : Ft) (s : CF) (m : Nat) (xs : List CV) (a1 : Nat) (S1 : Nat → Prop) (a2 : Nat) (S2 : Nat → Prop) (lab : Nat → Option Nat) : Prop where
  blk : h[t]? = some (.cells #[.map (some m), .int .i64 (s.next : Int), .int .i64 (s.acked : Int), .int .i64 (s.over : Int), .int .i64 (s.gone : Int), .pointer (some ⟨a1, 0, none⟩), .pointer (some ⟨a2, 0, none⟩)] T.copies_Table (0, 0))
  map : MapP h m ienc (xs.map CV.pair)
  cps : ∀ x ∈ xs, x.at h x.b
  abs : xs.map CV.abs = s.L
  dat : ∀ x ∈ xs, x.v.ok h X.D
  al1 : Al h a1 S1 s.E1
  al2 : Al h a2 S2 s.E2
  l0 : lab t = some 0
  l1 : lab m = some 1
  l2 : ∀ c, S1 c → lab c = some 2
  l3 : ∀ c, S2 c → lab c = some 3
  l4 : ∀ x ∈ xs, lab x.b = some (4 + x.num)
  mm : ∀ c, X.M c ↔ lab c ≠ none
  dd : ∀ c, X.D c → lab c = none ∧ c < h.size
  lsz : ∀ c, lab c ≠ none → c < h.size
  so : (xs.map CV.num).Pairwise (· < ·)
def Ct (h : Heap) (t : Nat) (X : Ft) (s : CF) : Prop := ∃ m xs a1 S1 a2 S2 lab, Cm h t X s m xs a1 S1 a2 S2 lab
variable {s s' : CF} {m a1 a2 : Nat} {xs : List CV} {S1 S2 S1' S2' : Nat → Prop} {lab : Nat → Option Nat}
structure Kept (h' : Heap) (t : Nat) (X : Ft) (s : CF) (m : Nat) (xs : List CV) (a1 : Nat) (S1 : Nat → Prop) (a2 : Nat) (S2 : Nat → Prop) (k : Nat) : Prop where
  blk : k ≠ 0 → h'[t]? = some (.cells #[.map (some m), .int .i64 (s.next : Int), .int .i64 (s.acked : Int), .int .i64 (s.over : Int), .int .i64 (s.gone : Int), .pointer (some ⟨a1, 0, none⟩), .pointer (some ⟨a2, 0, none⟩)] T.copies_Table (0, 0))
  map : k ≠ 1 → MapP h' m ienc (xs.map CV.pair)
  al1 : k ≠ 2 → Al h' a1 S1 s.E1
  al2 : k ≠ 3 → Al h' a2 S2 s.E2
  cps : ∀ x ∈ xs, k ≠ 4 + x.num → x.at h' x.b
  dat : ∀ x ∈ xs, x.v.ok h' X.D
theorem Cm.keep {Q : Nat → Prop} {k : Nat} (H : Cm h t X s m xs a1 S1 a2 S2 lab) (f : Fr Q h h') (hq : ∀ c, Q c → c < h.size → lab c = some k) : Kept h' t X s m xs a1 S1 a2 S2 k := by
  have no : ∀ {c j : Nat}, c < h.size → lab c = some j → k ≠ j → ¬ Q c := fun hc hl hk hQ => hk (by have := hq _ hQ hc; rw [hl] at this; exact (Option.some.inj this).symm)
  refine ⟨fun hk => f.get H.blk (no (lt_of_get H.blk) H.l0 hk), fun hk => H.map.frame f (no H.map.lt H.l1 hk), fun hk => ?_, fun hk => ?_, fun x hx hk => f.get (H.cps x hx) (no (lt_of_get (H.cps x hx)) (H.l4 x hx) hk), fun x hx => ?_⟩
  · exact H.al1.frame f (fun c hc => no (H.al1.lt hc) (H.l2 c hc) hk)
  · exact H.al2.frame f (fun c hc => no (H.al2.lt hc) (H.l3 c hc) hk)
  · refine (H.dat x hx).frame f (fun c hc hQ => ?_)
    have := H.dd c hc
    have h2 := hq c hQ this.2
    rw [this.1] at h2; cases h2
theorem Cm.frame {Q : Nat → Prop} (H : Cm h t X s m xs a1 S1 a2 S2 lab) (f : Fr Q h h') (hq : ∀ y, X.M y ∨ X.D y → ¬ Q y) : Cm h' t X s m xs a1 S1 a2 S2 lab := by
  have no : ∀ {c j : Nat}, lab c = some j → ¬ Q c := fun hl => hq _ (.inl ((H.mm _).2 (by rw [hl]; simp)))
  exact ⟨f.get H.blk (no H.l0), H.map.frame f (no H.l1), fun x hx => f.get (H.cps x hx) (no (H.l4 x hx)), H.abs, fun x hx => (H.dat x hx).frame f (fun c hc => hq c (.inr hc)),
    H.al1.frame f (fun c hc => no (H.l2 c hc)), H.al2.frame f (fun c hc => no (H.l3 c hc)), H.l0, H.l1, H.l2, H.l3, H.l4, H.mm, fun c hc => ⟨(H.dd c hc).1, Nat.lt_of_lt_of_le (H.dd c hc).2 f.1⟩, fun c hc => Nat.lt_of_lt_of_le (H.lsz c hc) f.1, H.so⟩
theorem Cm.on (H : Cm h t X s m xs a1 S1 a2 S2 lab) (f : Fr (fun _ => False) h h') : Cm h' t X s m xs a1 S1 a2 S2 lab := H.frame f (fun _ _ => id)
theorem Ct.frame {Q : Nat → Prop} (H : Ct h t X s) (f : Fr Q h h') (hq : ∀ y, X.M y ∨ X.D y → ¬ Q y) : Ct h' t X s := by
  obtain ⟨m, xs, a1, S1, a2, S2, lab, H⟩ := H; exact ⟨m, xs, a1, S1, a2, S2, lab, H.frame f hq⟩
theorem Ct.on (H : Ct h t X s) (f : Fr (fun _ => False) h h') : Ct h' t X s := H.frame f (fun _ _ => id)
theorem Ct.lt (H : Ct h t X s) (y : Nat) (hy : X.M y ∨ X.D y) : y < h.size := by
  obtain ⟨m, xs, a1, S1, a2, S2, lab, H⟩ := H
  rcases hy with hy | hy
  · exact H.lsz y ((H.mm y).1 hy)
  · exact (H.dd y hy).2
theorem Cm.step {Q : Nat → Prop} {k : Nat} (H : Cm h t X s m xs a1 S1 a2 S2 lab) (f : Fr Q h h') (hq : ∀ c, Q c → c < h.size → lab c = some k) : StepF X h X h' :=
  StepF.of_fr (f.mono fun c hc hQ => (H.mm c).2 (by rw [hq c hQ hc]; simp))
theorem Cm.field (H : Cm h t X s m xs a1 S1 a2 S2 lab) (hL : s'.L = s.L) (h1 : s'.E1 = s.E1) (h2 : s'.E2 = s.E2)
    (hb : h'[t]? = some (.cells #[.map (some m), .int .i64 (s'.next : Int), .int .i64 (s'.acked : Int), .int .i64 (s'.over : Int), .int .i64 (s'.gone : Int), .pointer (some ⟨a1, 0, none⟩), .pointer (some ⟨a2, 0, none⟩)] T.copies_Table (0, 0)))
    (hs : h'.size = h.size) (ho : ∀ x, x ≠ t → h'[x]? = h[x]?) : Cm h' t X s' m xs a1 S1 a2 S2 lab ∧ StepF X h X h' := by
  have f : Fr (fun c => c = t) h h' := ⟨by omega, fun c _ hn => ho c hn⟩
  have hq : ∀ c, c = t → c < h.size → lab c = some 0 := fun c e _ => by rw [e]; exact H.l0
  have K := H.keep f hq
  refine ⟨⟨hb, K.map (by omega), fun x hx => K.cps x hx (by omega), H.abs.trans hL.symm, K.dat, by rw [h1]; exact K.al1 (by omega), by rw [h2]; exact K.al2 (by omega), H.l0, H.l1, H.l2, H.l3, H.l4, H.mm, fun c hc => by rw [hs]; exact H.dd c hc, fun c hc => by rw [hs]; exact H.lsz c hc, H.so⟩, H.step f hq⟩
def relab (lab : Nat → Option Nat) (S : Nat → Prop) [DecidablePred S] (k : Nat) : Nat → Option Nat := fun c => if S c then some k else lab c
theorem Cm.alarm2 {E' : List E} (H : Cm h t X s m xs a1 S1 a2 S2 lab) (A : Al h' a2 S2' E') (hS : ∀ c, S2' c → S2 c ∨ h.size ≤ c) (f : Fr S2 h h') (hL : s'.L = s.L) (h1 : s'.E1 = s.E1) (h2 : s'.E2 = E') (hn : s'.next = s.next ∧ s'.acked = s.acked ∧ s'.over = s.over ∧ s'.gone = s.gone) :
    ∃ X' lab', Cm h' t X' s' m xs a1 S1 a2 S2' lab' ∧ StepF X h X' h' ∧ ∀ c, X'.M c → X.M c ∨ S2' c := by
  classical
  have hq : ∀ c, S2 c → c < h.size → lab c = some 3 := fun c hc _ => H.l3 c hc
  have K := H.keep f hq
  have z := f.1
  let lab' := relab lab S2' 3
  have keepL : ∀ {c j : Nat}, lab c = some j → j ≠ 3 → lab' c = some j := fun {c j} hl hj => by
    show (if S2' c then some 3 else lab c) = some j
    rw [if_neg]
    · exact hl
    · intro hc
      rcases hS c hc with h3 | h3
      · rw [H.l3 c h3] at hl; exact hj (Option.some.inj hl).symm
      · have := H.lsz c (by rw [hl]; simp); omega
  have lab_none : ∀ c, lab' c ≠ none → lab c ≠ none ∨ S2' c := fun c hc => by
    by_cases hx : S2' c
    · exact .inr hx
    · refine .inl ?_
      have e : lab' c = lab c := if_neg hx
      rwa [e] at hc
  have none_lab : ∀ c, lab c ≠ none → lab' c ≠ none := fun c hc => by
    by_cases hx : S2' c
    · have e : lab' c = some 3 := if_pos hx
      rw [e]; simp
    · have e : lab' c = lab c := if_neg hx
      rwa [e]
  have st : StepF X h ⟨fun c => lab' c ≠ none, X.D⟩ h' := by
    refine ⟨f.mono (fun c hc hx => (H.mm c).2 (by rw [H.l3 c hx]; simp)), fun c hc => ?_, fun c hc => .inl hc, fun c hc => hc⟩
    rcases lab_none c hc with h3 | h3
    · exact .inl ((H.mm c).2 h3)
    · rcases hS c h3 with h4 | h4
      · exact .inl ((H.mm c).2 (by rw [H.l3 c h4]; simp))
      · exact .inr h4
  refine ⟨⟨fun c => lab' c ≠ none, X.D⟩, lab', ⟨?_, K.map (by omega), fun x hx => K.cps x hx (by omega), H.abs.trans hL.symm, K.dat, by rw [h1]; exact K.al1 (by omega), by rw [h2]; exact A, keepL H.l0 (by omega), keepL H.l1 (by omega), fun c hc => keepL (H.l2 c hc) (by omega), fun c hc => if_pos hc, fun x hx => keepL (H.l4 x hx) (by omega), fun c => Iff.rfl, fun c hc => ?_, fun c hc => ?_, H.so⟩, st, fun c hc => (lab_none c hc).imp (fun h => (H.mm c).2 h) id⟩
  · rw [hn.1, hn.2.1, hn.2.2.1, hn.2.2.2]; exact K.blk (by omega)
  · have := H.dd c hc
    refine ⟨?_, by omega⟩
    show (if S2' c then some 3 else lab c) = none
    rw [if_neg]
    · exact this.1
    · intro hx
      rcases hS c hx with h3 | h3
      · rw [H.l3 c h3] at this; cases this.1
      · omega
  · rcases lab_none c hc with h3 | h3
    · have := H.lsz c h3; omega
    · exact A.lt h3
theorem Cm.alarm1 {E' : List E} (H : Cm h t X s m xs a1 S1 a2 S2 lab) (A : Al h' a1 S1' E') (hS : ∀ c, S1' c → S1 c ∨ h.size ≤ c) (f : Fr S1 h h') (hL : s'.L = s.L) (h1 : s'.E1 = E') (h2 : s'.E2 = s.E2) (hn : s'.next = s.next ∧ s'.acked = s.acked ∧ s'.over = s.over ∧ s'.gone = s.gone) :
    ∃ X' lab', Cm h' t X' s' m xs a1 S1' a2 S2 lab' ∧ StepF X h X' h' ∧ ∀ c, X'.M c → X.M c ∨ S1' c := by
  classical
  have hq : ∀ c, S1 c → c < h.size → lab c = some 2 := fun c hc _ => H.l2 c hc
  have K := H.keep f hq
  have z := f.1
  let lab' := relab lab S1' 2
  have keepL : ∀ {c j : Nat}, lab c = some j → j ≠ 2 → lab' c = some j := fun {c j} hl hj => by
    show (if S1' c then some 2 else lab c) = some j
    rw [if_neg]
    · exact hl
    · intro hc
      rcases hS c hc with h3 | h3
      · rw [H.l2 c h3] at hl; exact hj (Option.some.inj hl).symm
      · have := H.lsz c (by rw [hl]; simp); omega
  have lab_none : ∀ c, lab' c ≠ none → lab c ≠ none ∨ S1' c := fun c hc => by
    by_cases hx : S1' c
    · exact .inr hx
    · refine .inl ?_
      have e : lab' c = lab c := if_neg hx
      rwa [e] at hc
  have st : StepF X h ⟨fun c => lab' c ≠ none, X.D⟩ h' := by
    refine ⟨f.mono (fun c hc hx => (H.mm c).2 (by rw [H.l2 c hx]; simp)), fun c hc => ?_, fun c hc => .inl hc, fun c hc => hc⟩
    rcases lab_none c hc with h3 | h3
    · exact .inl ((H.mm c).2 h3)
    · rcases hS c h3 with h4 | h4
      · exact .inl ((H.mm c).2 (by rw [H.l2 c h4]; simp))
      · exact .inr h4
  refine ⟨⟨fun c => lab' c ≠ none, X.D⟩, lab', ⟨?_, K.map (by omega), fun x hx => K.cps x hx (by omega), H.abs.trans hL.symm, K.dat, by rw [h1]; exact A, by rw [h2]; exact K.al2 (by omega), keepL H.l0 (by omega), keepL H.l1 (by omega), fun c hc => if_pos hc, fun c hc => keepL (H.l3 c hc) (by omega), fun x hx => keepL (H.l4 x hx) (by omega), fun c => Iff.rfl, fun c hc => ?_, fun c hc => ?_, H.so⟩, st, fun c hc => (lab_none c hc).imp (fun h => (H.mm c).2 h) id⟩
  · rw [hn.1, hn.2.1, hn.2.2.1, hn.2.2.2]; exact K.blk (by omega)
  · have := H.dd c hc
    refine ⟨?_, by omega⟩
    show (if S1' c then some 2 else lab c) = none
    rw [if_neg]
    · exact this.1
    · intro hx
      rcases hS c hx with h3 | h3
      · rw [H.l2 c h3] at this; cases this.1
      · omega
  · rcases lab_none c hc with h3 | h3
    · have := H.lsz c h3; omega
    · exact A.lt h3
theorem Cm.del {n : Int} (H : Cm h t X s m xs a1 S1 a2 S2 lab) (M : MapP h' m ienc (gdel (xs.map CV.pair) n)) (hs : h'.size = h.size) (ho : ∀ c, c ≠ m → h'[c]? = h[c]?) (hL : s'.L = s.L.filter (fun x => !decide ((x.num : Int) = n))) (h1 : s'.E1 = s.E1) (h2 : s'.E2 = s.E2) (hn : s'.next = s.next ∧ s'.acked = s.acked ∧ s'.over = s.over ∧ s'.gone = s.gone) :
    Cm h' t X s' m (xs.filter (fun x => !decide ((x.num : Int) = n))) a1 S1 a2 S2 lab ∧ StepF X h X h' := by
  have f : Fr (fun c => c = m) h h' := ⟨by omega, fun c _ hn => ho c hn⟩
  have hq : ∀ c, c = m → c < h.size → lab c = some 1 := fun c e _ => by rw [e]; exact H.l1
  have K := H.keep f hq
  have sub : ∀ x ∈ xs.filter (fun x => !decide ((x.num : Int) = n)), x ∈ xs := fun x hx => (List.mem_filter.1 hx).1
  refine ⟨⟨?_, ?_, fun x hx => K.cps x (sub x hx) (by omega), ?_, fun x hx => K.dat x (sub x hx), by rw [h1]; exact K.al1 (by omega), by rw [h2]; exact K.al2 (by omega), H.l0, H.l1, H.l2, H.l3, fun x hx => H.l4 x (sub x hx), H.mm, fun c hc => by rw [hs]; exact H.dd c hc, fun c hc => by rw [hs]; exact H.lsz c hc, H.so.sublist (List.filter_sublist.map _)⟩, H.step f hq⟩
  · rw [hn.1, hn.2.1, hn.2.2.1, hn.2.2.2]; exact K.blk (by omega)
  · unfold gdel at M
    rw [List.filter_map] at M
    exact M
  · rw [hL, ← H.abs, List.filter_map]; rfl
theorem Cm.change {x y : CV} (H : Cm h t X s m xs a1 S1 a2 S2 lab) (hx : x ∈ xs) (hb : y.b = x.b) (hnum : y.num = x.num) (hv : y.v = x.v) (hy : y.at h' x.b) (hs : h'.size = h.size) (ho : ∀ c, c ≠ x.b → h'[c]? = h[c]?)
    (hL : s'.L = s.L.map (fun z => if z.num = x.num then y.abs else z)) (h1 : s'.E1 = s.E1) (h2 : s'.E2 = s.E2) (hn : s'.next = s.next ∧ s'.acked = s.acked ∧ s'.over = s.over ∧ s'.gone = s.gone) :
    Cm h' t X s' m (xs.map (fun z => if z.num = x.num then y else z)) a1 S1 a2 S2 lab ∧ StepF X h X h' := by
  have f : Fr (fun c => c = x.b) h h' := ⟨by omega, fun c _ hn => ho c hn⟩
  have hq : ∀ c, c = x.b → c < h.size → lab c = some (4 + x.num) := fun c e _ => by rw [e]; exact H.l4 x hx
  have K := H.keep f hq
  have mem : ∀ z ∈ xs.map (fun z => if z.num = x.num then y else z), (z = y) ∨ (z ∈ xs ∧ z.num ≠ x.num) := fun z hz => by
    obtain ⟨u, hu, rfl⟩ := List.mem_map.1 hz
    by_cases e : u.num = x.num
    · rw [if_pos e]; exact .inl rfl
    · rw [if_neg e]; exact .inr ⟨hu, e⟩
  have pe : (xs.map (fun z => if z.num = x.num then y else z)).map CV.pair = xs.map CV.pair := by
    rw [List.map_map]
    refine List.map_congr_left fun z hz => ?_
    show CV.pair (if z.num = x.num then y else z) = z.pair
    by_cases e : z.num = x.num
    · rw [if_pos e]
      have : z = x := by
        obtain ⟨i, hi⟩ := List.getElem?_of_mem hz
        obtain ⟨j, hj⟩ := List.getElem?_of_mem hx
        have hnd : (xs.map CV.num).Nodup := H.so.imp (fun h => Nat.ne_of_lt h)
        have hil := (List.getElem?_eq_some_iff.1 hi).1
        have := (List.getElem?_inj (l := xs.map CV.num) (i := i) (j := j) (by simpa using hil) hnd).1 (by rw [List.getElem?_map, List.getElem?_map, hi, hj]; simp [e])
        subst this
        rw [hi] at hj; exact Option.some.inj hj
      subst this
      unfold CV.pair
      rw [hnum, hb]
    · rw [if_neg e]
  refine ⟨⟨?_, ?_, fun z hz => ?_, ?_, fun z hz => ?_, by rw [h1]; exact K.al1 (by omega), by rw [h2]; exact K.al2 (by omega), H.l0, H.l1, H.l2, H.l3, fun z hz => ?_, H.mm, fun c hc => by rw [hs]; exact H.dd c hc, fun c hc => by rw [hs]; exact H.lsz c hc, ?_⟩, H.step f hq⟩
  · rw [hn.1, hn.2.1, hn.2.2.1, hn.2.2.2]; exact K.blk (by omega)
  · rw [pe]; exact K.map (by omega)
  · rcases mem z hz with rfl | ⟨hz, e⟩
    · rw [hb]; exact hy
    · exact K.cps z hz (by omega)
  · rw [hL, ← H.abs, List.map_map, List.map_map]
    refine List.map_congr_left fun z _ => ?_
    show CV.abs (if z.num = x.num then y else z) = if z.num = x.num then y.abs else z.abs
    split <;> rfl
  · rcases mem z hz with rfl | ⟨hz, _⟩
    · rw [hv]; exact K.dat x hx
    · exact K.dat z hz
  · rcases mem z hz with rfl | ⟨hz, _⟩
    · rw [hb, hnum]; exact H.l4 x hx
    · exact H.l4 z hz
  · have : (xs.map (fun z => if z.num = x.num then y else z)).map CV.num = xs.map CV.num := by
      rw [List.map_map]
      refine List.map_congr_left fun z _ => ?_
      show CV.num (if z.num = x.num then y else z) = z.num
      split
      · rename_i e; rw [hnum, e]
      · rfl
    rw [this]; exact H.so
theorem Cm.add {y : CV} {h1 h2 : Heap} (H : Cm h t X s m xs a1 S1 a2 S2 lab) (f1 : Fr (fun _ => False) h h1) (hy : y.at h1 y.b) (hyb : h.size ≤ y.b) (hdat : Row h1 y.v.p (bc y.v.b)) (hcap : y.v.b.length ≤ y.v.c) (hdn : ∀ c, inBlk y.v.p c → h.size ≤ c ∧ c ≠ y.b ∧ c < h1.size) (hnum : ∀ x ∈ xs, x.num < y.num)
    (M : MapP h2 m ienc (gput (xs.map CV.pair) (y.num : Int) (.pointer (some ⟨y.b, 0, none⟩)))) (hs : h2.size = h1.size) (ho : ∀ c, c ≠ m → h2[c]? = h1[c]?)
    (hL : s'.L = s.L ++ [y.abs]) (e1 : s'.E1 = s.E1) (e2 : s'.E2 = s.E2) (hn : s'.next = s.next ∧ s'.acked = s.acked ∧ s'.over = s.over ∧ s'.gone = s.gone) :
    ∃ X' lab', Cm h2 t X' s' m (xs ++ [y]) a1 S1 a2 S2 lab' ∧ StepF X h X' h2 := by
  classical
  have z1 := f1.1
  have H1 := H.on f1
  have f2 : Fr (fun c => c = m) h1 h2 := ⟨by omega, fun c _ hn => ho c hn⟩
  have hq : ∀ c, c = m → c < h1.size → lab c = some 1 := fun c e _ => by rw [e]; exact H.l1
  have K := H1.keep f2 hq
  have yb1 := lt_of_get hy
  let lab' := relab lab (fun c => c = y.b) (4 + y.num)
  have lold : ∀ c, c ≠ y.b → lab' c = lab c := fun c hc => if_neg hc
  have lnew : lab' y.b = some (4 + y.num) := if_pos rfl
  have ynl : ∀ {c : Nat}, lab c ≠ none → c ≠ y.b := fun {c} hc e => by have := H.lsz c hc; omega
  have keepL : ∀ {c j : Nat}, lab c = some j → lab' c = some j := fun {c j} hl => by rw [lold c (ynl (by rw [hl]; simp))]; exact hl
  let D' := fun c => X.D c ∨ (y.v.b ≠ [] ∧ inBlk y.v.p c)
  have ymn : y.b ≠ m := fun e => by have := H.map.lt; omega
  have K2 : ∀ c, D' c → lab' c = none ∧ c < h2.size := fun c hc => by
    rcases hc with hc | ⟨_, hc⟩
    · have := H.dd c hc
      rw [lold c (by omega)]
      exact ⟨this.1, by omega⟩
    · have := hdn c hc
      rw [lold c this.2.1]
      refine ⟨?_, by omega⟩
      cases e : lab c with
      | none => rfl
      | some j => have := H.lsz c (by rw [e]; simp); omega
  refine ⟨⟨fun c => lab' c ≠ none, D'⟩, lab', ⟨?_, ?_, fun x hx => ?_, ?_, fun x hx => ?_, by rw [e1]; exact K.al1 (by omega), by rw [e2]; exact K.al2 (by omega), keepL H.l0, keepL H.l1, fun c hc => keepL (H.l2 c hc), fun c hc => keepL (H.l3 c hc), fun x hx => ?_, fun c => Iff.rfl, K2, fun c hc => ?_, ?_⟩, ?_⟩
  · rw [hn.1, hn.2.1, hn.2.2.1, hn.2.2.2]; exact K.blk (by omega)
  · refine M.perm ?_
    unfold gput
    rw [gdel_none (fun e he => by obtain ⟨x, hx, rfl⟩ := List.mem_map.1 he; have := hnum x hx; show ¬ ((x.num : Int) = (y.num : Int)); omega), List.map_append]
    exact (List.perm_append_comm (l₁ := [CV.pair y]) (l₂ := xs.map CV.pair))
  · rcases List.mem_append.1 hx with hx | hx
    · exact K.cps x hx (by omega)
    · obtain rfl := List.mem_singleton.1 hx
      exact f2.get hy ymn
  · rw [hL, ← H.abs, List.map_append]; rfl
  · rcases List.mem_append.1 hx with hx | hx
    · exact (K.dat x hx).mono (fun c hc => .inl hc)
    · obtain rfl := List.mem_singleton.1 hx
      refine ⟨hdat.frame f2 (fun a e hm => ?_), fun hne c hc => .inr ⟨hne, hc⟩, hcap⟩
      have h1 := (hdn a.block ⟨a, e, rfl⟩).1
      have h2 := H.map.lt
      have h3 : a.block = m := hm
      omega
  · rcases List.mem_append.1 hx with hx | hx
    · exact keepL (H.l4 x hx)
    · obtain rfl := List.mem_singleton.1 hx; exact lnew
  · by_cases e : c = y.b
    · subst e; omega
    · rw [lold c e] at hc; have := H.lsz c hc; omega
  · rw [List.map_append, List.pairwise_append]
    refine ⟨H.so, by simp, fun a ha b hb => ?_⟩
    obtain ⟨x, hx, rfl⟩ := List.mem_map.1 ha
    simp at hb; subst hb
    exact hnum x hx
  · refine ⟨?_, fun c hc => ?_, fun c hc => ?_, fun c hc => .inl hc⟩
    · have f12 : Fr (fun c => c = m) h h2 := Fr.no f1 f2
      exact f12.mono (fun c _ e => (H.mm c).2 (by rw [e, H.l1]; simp))
    · by_cases e : c = y.b
      · exact .inr (by omega)
      · have hc : lab' c ≠ none := hc
        rw [lold c e] at hc
        exact .inl ((H.mm c).2 hc)
    · rcases hc with hc | ⟨_, hc⟩
      · exact .inl hc
      · exact .inr (hdn c hc).1
end Cps
end Go.Proofs.YtgccegnmggjkjaaGreatDoor
set_option maxRecDepth 100000
namespace Go.Proofs
open Go.Shelf
def Tryz.laysS_ren : Go.Shelf.Ren := ⟨fun | 5 => 150 | 8 => 191 | 7 => 190 | 19 => 213 | 20 => 214 | 10 => 204 | 11 => 205 | 12 => 206 | 13 => 207 | 14 => 208 | 15 => 209 | 16 => 210 | 17 => 211 | 18 => 212 | 30 => 238 | 31 => 239 | 32 => 240 | 33 => 241 | 34 => 242 | 35 => 243 | 40 => 264 | n => n, fun | 23 => 59 | 25 => 3 | 3 => 3 | 32 => 271 | 22 => 59 | 0 => 0 | 44 => 314 | 46 => 23 | 4 => 4 | 36 => 308 | 35 => 307 | 41 => 162 | 5 => 5 | 9 => 9 | 53 => 335 | 57 => 338 | 63 => 358 | 64 => 359 | n => n, fun | n => n⟩
theorem Tryz.laysS : Go.Proofs.SlLaysM.n5 Tryz.prog Tryz.laysS_ren := {
  mixed := by kernel_rfl
  f5 := ⟨Tryz.f150.name, by decide, Tryz.func150.trans (congrArg some (by kernel_rfl))⟩
  f7 := ⟨Tryz.f190.name, by decide, Tryz.func190.trans (congrArg some (by kernel_rfl))⟩
  f8 := Tryz.func191.trans (congrArg some (by kernel_rfl))
  f10 := ⟨Tryz.f204.name, by decide, Tryz.func204.trans (congrArg some (by kernel_rfl))⟩
  f11 := ⟨Tryz.f205.name, by decide, Tryz.func205.trans (congrArg some (by kernel_rfl))⟩
  f12 := ⟨Tryz.f206.name, by decide, Tryz.func206.trans (congrArg some (by kernel_rfl))⟩
  f13 := ⟨Tryz.f207.name, by decide, Tryz.func207.trans (congrArg some (by kernel_rfl))⟩
  f14 := ⟨Tryz.f208.name, by decide, Tryz.func208.trans (congrArg some (by kernel_rfl))⟩
  f15 := ⟨Tryz.f209.name, by decide, Tryz.func209.trans (congrArg some (by kernel_rfl))⟩
  f16 := ⟨Tryz.f210.name, by decide, Tryz.func210.trans (congrArg some (by kernel_rfl))⟩
  f17 := ⟨Tryz.f211.name, by decide, Tryz.func211.trans (congrArg some (by kernel_rfl))⟩
  f18 := ⟨Tryz.f212.name, by decide, Tryz.func212.trans (congrArg some (by kernel_rfl))⟩
  f19 := Tryz.func213.trans (congrArg some (by kernel_rfl))
  f20 := Tryz.func214.trans (congrArg some (by kernel_rfl))
  f30 := ⟨Tryz.f238.name, by decide, Tryz.func238.trans (congrArg some (by kernel_rfl))⟩
  f31 := Tryz.func239.trans (congrArg some (by kernel_rfl))
  f32 := Tryz.func240.trans (congrArg some (by kernel_rfl))
  f33 := ⟨Tryz.f241.name, by decide, Tryz.func241.trans (congrArg some (by kernel_rfl))⟩
  f34 := ⟨Tryz.f242.name, by decide, Tryz.func242.trans (congrArg some (by kernel_rfl))⟩
  f35 := ⟨Tryz.f243.name, by decide, Tryz.func243.trans (congrArg some (by kernel_rfl))⟩
  f40 := ⟨Tryz.f264.name, by decide, Tryz.func264.trans (congrArg some (by kernel_rfl))⟩
  t0 := Tryz.underlying0
  a0 := Tryz.isAgg0
  z0 := Tryz.sizeOf0
  v0 := Tryz.zeroValue0
  t3 := Tryz.underlying3
  a3 := Tryz.isAgg3
  z3 := Tryz.sizeOf3
  v3 := Tryz.zeroValue3
  t4 := Tryz.underlying4
  a4 := Tryz.isAgg4
  z4 := Tryz.sizeOf4
  v4 := Tryz.zeroValue4
  t5 := Tryz.underlying5
  a5 := Tryz.isAgg5
  z5 := Tryz.sizeOf5
  v5 := Tryz.zeroValue5
  t9 := Tryz.underlying9
  a9 := Tryz.isAgg9
  z9 := Tryz.sizeOf9
  v9 := Tryz.zeroValue9
  t22 := Tryz.underlying59
  a22 := Tryz.isAgg59
  z22 := Tryz.sizeOf59
  v22 := Tryz.zeroValue59
  t23 := Tryz.underlying59
  a23 := Tryz.isAgg59
  z23 := Tryz.sizeOf59
  v23 := Tryz.zeroValue59
  t25 := Tryz.underlying3
  a25 := Tryz.isAgg3
  z25 := Tryz.sizeOf3
  v25 := Tryz.zeroValue3
  t32 := Tryz.underlying271
  a32 := Tryz.isAgg271
  z32 := Tryz.sizeOf271
  v32 := Tryz.zeroValue271
  t35 := Tryz.underlying307
  a35 := Tryz.isAgg307
  z35 := Tryz.sizeOf307
  v35 := Tryz.zeroValue307
  t36 := Tryz.underlying308
  a36 := Tryz.isAgg308
  z36 := Tryz.sizeOf308
  v36 := Tryz.zeroValue308
  t41 := Tryz.underlying162
  a41 := Tryz.isAgg162
  z41 := Tryz.sizeOf162
  v41 := Tryz.zeroValue162
  t44 := Tryz.underlying314
  a44 := Tryz.isAgg314
  z44 := Tryz.sizeOf314
  v44 := Tryz.zeroValue314
  t46 := Tryz.underlying23
  a46 := Tryz.isAgg23
  z46 := Tryz.sizeOf23
  v46 := Tryz.zeroValue23
  t53 := Tryz.underlying335
  a53 := Tryz.isAgg335
  z53 := Tryz.sizeOf335
  v53 := Tryz.zeroValue335
  t57 := Tryz.underlying338
  a57 := Tryz.isAgg338
  z57 := Tryz.sizeOf338
  v57 := Tryz.zeroValue338
  t63 := Tryz.underlying358
  a63 := Tryz.isAgg358
  z63 := Tryz.sizeOf358
  v63 := Tryz.zeroValue358
  t64 := Tryz.underlying359
  a64 := Tryz.isAgg359
  z64 := Tryz.sizeOf359
  v64 := Tryz.zeroValue359 }
end Go.Proofs
set_option maxRecDepth 100000
namespace Go.Proofs.YtgccegnmggjkjaaGreatDoor
open Go.Den Go.Sort
namespace Srt
variable {h : Heap} {R : Value → Heap → Prop} {p : Option Addr} {n c : Nat} {xs : List Int}
abbrev iv (x : Int) : Value := .int .i64 x
theorem sort_ok (o : Own h p n c 1 (xs.map iv)) (hl : n = xs.length) (nd : xs.Nodup) (hn : n ≤ 60000) (hk : ∀ h' (zs : List Int), Own h' p n c 1 (zs.map iv) → zs.Perm xs → zs.Pairwise (· < ·) → Fr (inBlk p) h h' → R (.tuple #[]) h') :
    CallsH Tryz.prog F.slices_Sort_s_int_int #[.slice p n c] h R := by
  subst hl
  intro w hw
  cases o with
  | nil hp h0 hc hcs =>
    obtain rfl := List.eq_nil_of_length_eq_zero h0
    refine (AnyM.slices_Sort_int_none Tryz.laysS p c w).mono ?_
    rintro e w' ⟨rfl, rfl⟩
    exact ⟨_, rfl, hk _ [] (by rw [hw]; exact .nil hp rfl hc rfl) (.refl _) .nil (by rw [hw]; exact Fr.refl _ _), Same.refl _⟩
  | row b off ca t hp hb h1 hc h2 hcs =>
    subst hp; subst hw
    have hat : ∀ (zs : List Int) (j : Nat), j < zs.length → zs.toArray[j]! = zs.getD j 0 := fun zs j hj => by
      simp [getElem!_pos, hj]
    refine (AnyM.slices_Sort_int Tryz.laysS b off c xs w (fun j hj => ?_) (lt_of_get hb) (by omega)).mono ?_
    · have hj : j < xs.length := by simpa using hj
      refine ⟨?_, by rw [frozen_eq]; exact hfrozen_blk hb⟩
      rw [cell_eq, hcell_blk hb, hat xs j hj]
      exact hcs j _ (by rw [List.getElem?_map, List.getElem?_eq_getElem hj, List.getD_eq_getElem?_getD, List.getElem?_eq_getElem hj]; rfl)
    · rintro e w' ⟨rfl, k, os, rfl⟩
      have pm := List.mergeSort_perm xs fun x y => decide (x ≤ y)
      have so : (xs.mergeSort fun x y => decide (x ≤ y)).Pairwise (· < ·) := by
        have s1 := List.pairwise_mergeSort (le := fun (x y : Int) => decide (x ≤ y)) (fun a b c h1 h2 => by simp at h1 h2 ⊢; omega) (fun a b => by simp; omega) xs
        have s2 : (xs.mergeSort fun x y => decide (x ≤ y)).Nodup := pm.nodup_iff.2 nd
        exact (s1.and s2).imp fun {a b} h => by have := of_decide_eq_true h.1; have := h.2; omega
      generalize (xs.mergeSort fun x y => decide (x ≤ y)) = zs at pm so ⊢
      have hz : zs.length = xs.length := pm.length_eq
      have hold : ∀ x, x < w.heap.size → x ≠ b → (w.heap.modify b (onCells (putCells (Value.int .i64) off zs.toArray)) ++ os)[x]? = w.heap[x]? := fun x hx hne => by
        rw [Array.getElem?_append_left (by simpa using hx), Array.getElem?_modify, if_neg (fun e => hne e.symm)]
      have hnew : (w.heap.modify b (onCells (putCells (Value.int .i64) off zs.toArray)) ++ os)[b]? = some (.cells (putCells (Value.int .i64) off zs.toArray ca) t (0, 0)) := by
        rw [Array.getElem?_append_left (by simpa using lt_of_get hb), Array.getElem?_modify, if_pos rfl, hb]; rfl
      refine ⟨_, rfl, hk _ zs (.row b off _ t rfl hnew h1 (by unfold putCells; rw [Array.size_mapIdx]; exact hc) (by simp [hz]) fun j v hj => ?_) pm so ?_, ⟨rfl, rfl, rfl⟩⟩
      · rw [List.getElem?_map] at hj
        have hjl : j < zs.length := by
          rcases Nat.lt_or_ge j zs.length with q | q
          · exact q
          · rw [List.getElem?_eq_none q] at hj; cases hj
        rw [List.getElem?_eq_getElem hjl] at hj
        obtain rfl := Option.some.inj hj
        unfold putCells
        have hs : off + j < ca.size := by omega
        rw [Array.getElem?_mapIdx, Array.getElem?_eq_getElem hs, Option.map_some, if_pos ⟨by omega, by simp; omega⟩, show off + j - off = j by omega, hat zs j hjl, List.getD_eq_getElem?_getD, List.getElem?_eq_getElem hjl]; rfl
      · refine ⟨by show _ ≤ (w.heap.modify b _ ++ os).size; simp, fun x hx hn => hold x hx (fun e => hn ⟨_, rfl, e.symm⟩)⟩
end Srt
end Go.Proofs.YtgccegnmggjkjaaGreatDoor
set_option maxRecDepth 100000
namespace Go.Proofs.YtgccegnmggjkjaaGreatDoor
open Go.Den Go.Heapq
namespace Cps
open Eid Alarm
variable {h h' : Heap} {R : Value → Heap → Prop} {t : Nat} {X : Ft} {s s' : CF} {m a1 a2 : Nat} {xs : List CV} {S1 S2 S1' S2' : Nat → Prop} {lab : Nat → Option Nat} {p : Option Addr} {n c : Nat}
theorem uSI : Tryz.prog.underlying T.s_int = some (.slice T.int) := by kernel_rfl
theorem made_ok (H : Cm h t X s m xs a1 S1 a2 S2 lab) (hk : R (.bool true) h) : CallsH Tryz.prog F.copies_Table_made #[.pointer (some ⟨t, 0, none⟩)] h R := copies_Table_made.walk ⟨_, cell_at H.blk rfl, hk⟩
def nums (xs : List CV) : List Int := xs.map (fun x => (x.num : Int))
theorem nums_so (H : Cm h t X s m xs a1 S1 a2 S2 lab) : (nums xs).Pairwise (· < ·) := by
  have := H.so
  rw [List.pairwise_map] at this
  unfold nums
  rw [List.pairwise_map]
  exact this.imp (fun h => by omega)
theorem numbers_ok (H : Cm h t X s m xs a1 S1 a2 S2 lab) (hl : xs.length ≤ 60000) (hk : ∀ h' p' c', Own h' p' xs.length c' 1 ((nums xs).map ienc) → (∀ y, inBlk p' y → h.size ≤ y) → Fr (fun _ => False) h h' → R (.slice p' xs.length c') h') :
    CallsH Tryz.prog F.copies_Table_numbers #[.pointer (some ⟨t, 0, none⟩)] h R := by
  refine copies_Table_numbers.walk (made_ok H ⟨_, rfl, JoinP.of fun J hJ => ?_⟩)
  rw [if_pos rfl]
  refine ⟨_, cell_at H.blk rfl, den_rangeP mapTy H.map fun it h1 e1 I1 f1 => ⟨_, rfl, ?_⟩⟩
  refine ⟨fun op ol oc g => ∃ ds : List (Int × Value), ol = ds.length ∧ Own g op ol oc 1 ((ds.map (·.1)).map ienc) ∧ (∀ y, inBlk op y → h.size ≤ y ∧ y ≠ it) ∧ Iter g it m ienc (xs.map CV.pair) ds ∧ Fr (fun _ => False) h g, fun _ ol _ _ => xs.length - ol,
    ⟨[], rfl, .nil rfl rfl rfl rfl, (fun y ⟨a, e, _⟩ => by cases e), I1, f1⟩, ?_⟩
  rintro op ol oc g ⟨ds, rfl, oy, gy, Iy, fy⟩
  have hle := Iy.le
  rw [List.length_map] at hle
  refine den_nextP Iy (fun hp => .inl ⟨rfl, ?_⟩) (fun a v g1 hm hnm I1 s1 o1 => .inr ⟨_, _, rfl, ?_⟩)
  · subst hJ
    dsimp only
    have hperm : (ds.map (·.1)).Perm (nums xs) := by
      have := hp.map (·.1)
      rw [List.map_map] at this
      exact this
    have so := nums_so H
    have nd : (ds.map (·.1)).Nodup := hperm.nodup_iff.2 (so.imp (fun h => by omega))
    have hlen : ds.length = xs.length := by rw [hp.length_eq, List.length_map]
    refine Srt.sort_ok oy (by rw [List.length_map]) nd (by omega) fun h3 zs o3 p3 s3 f3 => ⟨rfl, ?_⟩
    have : zs = nums xs := List.Perm.eq_of_pairwise (le := (· < ·)) (fun a b _ _ h1 h2 => by omega) s3 so (p3.trans hperm)
    subst this
    rw [hlen] at o3 ⊢
    exact hk h3 op oc o3 (fun y hy => (gy y hy).1) (fy.fresh f3 (fun y hy => (gy y hy).1))
  · refine den_entryP I1 ⟨_, _, rfl, _, rfl, newP_of ?_⟩
    have f3 : Fr (fun _ => False) g1 (g1.push (.cells #[.int .i64 a] T.int)) := Fr.push _ _
    have r3 : Row (g1.push (.cells #[.int .i64 a] T.int)) (some ⟨g1.size, 0, none⟩) [ienc a] := row_new (cs := [ienc a])
    have z3 : (g1.push (.cells #[.int .i64 a] T.int)).size = g1.size + 1 := Array.size_push _
    generalize g1.push (.cells #[.int .i64 a] T.int) = g3 at f3 r3 z3 ⊢
    have fit : Fr (fun y => y = it) g g1 := ⟨by omega, fun y _ hn => o1 y hn⟩
    have oy1 := (oy.frame fit (fun y hy e => (gy y hy).2 e)).frame f3 (fun _ _ => id)
    have zf := f1.1
    have F1 : Fr (fun _ => False) h g1 := fy.fresh fit (fun y e => by omega)
    have F3 := F1.tt f3
    have itlt : it < g1.size := by
      obtain ⟨_, _, _, _, _, _, hr, _⟩ := I1
      exact lt_of_get hr
    refine den_append (cs := (ds.map (·.1)).map ienc) (ds := [ienc a]) tI uSI oy1 r3 rfl (fun v hv => by simp at hv; subst hv; rfl) (by omega) (by omega) fun p4 c4 g4 o4 _ f4 k4 => ⟨_, _, _, rfl, ?_⟩
    have hp4 : ∀ y, inBlk p4 y → h.size ≤ y ∧ y ≠ it := by
      intro y hy
      rcases k4 y hy with h5 | h5
      · exact gy y h5
      · have := F1.1; exact ⟨by omega, by omega⟩
    refine ⟨⟨ds ++ [(a, v)], by simp, ?_, hp4, ?_, F3.fresh f4 (fun y hy => (gy y hy).1)⟩, ?_⟩
    · rw [List.map_append, List.map_append]; exact o4
    · have hmb : m < h.size := H.map.lt
      exact (I1.frame f3 id id).frame f4 (fun hy => (gy it hy).2 rfl) (fun hy => by have := (gy m hy).1; omega)
    · have := I1.le
      rw [List.length_append, List.length_map, List.length_singleton] at this
      show xs.length - (ds.length + 1) < xs.length - ds.length
      omega
theorem look (H : Cm h t X s m xs a1 S1 a2 S2 lab) {x : CV} (hx : x ∈ xs) : LookV Tryz.prog T.m_int_p_copies_Copy (.map (some m)) (.int .i64 (x.num : Int)) false h (.pointer (some ⟨x.b, 0, none⟩)) := by
  have := lookV_P mapTy H.map (x.num : Int)
  have e : gget (xs.map CV.pair) (x.num : Int) = some (.pointer (some ⟨x.b, 0, none⟩)) := (gget_some H.map.nodup).2 (List.mem_map.2 ⟨x, hx, rfl⟩)
  rw [e] at this
  exact this
theorem look_no (H : Cm h t X s m xs a1 S1 a2 S2 lab) {n : Int} (hn : ∀ x ∈ xs, (x.num : Int) ≠ n) : LookV Tryz.prog T.m_int_p_copies_Copy (.map (some m)) (.int .i64 n) false h (.pointer none) := by
  have := lookV_P mapTy H.map n
  have e : gget (xs.map CV.pair) n = none := gget_none.2 (fun e he => by obtain ⟨x, hx, rfl⟩ := List.mem_map.1 he; exact hn x hx)
  rw [e] at this
  exact this
structure Env (h : Heap) (t : Nat) (m : Nat) (xs : List CV) (c0 c1 : Nat) (x : Ev) : Prop where
  b0 : h[c0]? = some (.cells #[.pointer (some ⟨t, 0, none⟩)] T.p_copies_Table (0, 0))
  b1 : Ev.at h c1 x
  cm : ∃ X s a1 S1 a2 S2 lab, Cm h t X s m xs a1 S1 a2 S2 lab
variable {c0 c1 : Nat} {x : Ev}
theorem of1_ok (V : Env h t m xs c0 c1 x) {y : CV} (hy : y ∈ xs) (hk : R (.bool (!decide (y.e = x))) h) : CallsH Tryz.prog F.copies_Table_of_1 #[.int .i64 (y.num : Int), .pointer (some ⟨c0, 0, none⟩), .pointer (some ⟨c1, 0, none⟩)] h R := by
  obtain ⟨X, s, a1, S1, a2, S2, lab, H⟩ := V.cm
  have ca := H.cps y hy
  refine copies_Table_of_1.walk ⟨_, cell_at V.b0 rfl, onSome_some.2 ⟨_, cell_at H.blk rfl, _, look H hy, onSome_some.2 ⟨_, cell_at ca rfl, _, cell_at ca rfl, _, cell_at ca rfl, _, cell_at ca rfl, _, cell_at ca rfl, ?_⟩⟩⟩
  exact eid_Eid.ld V.b1 ⟨_, eqv' (x := y.e) (y := x) rfl rfl, hk⟩
def keepN (xs : List CV) (x : Ev) (n : Int) : Bool := xs.any (fun y => decide ((y.num : Int) = n) && decide (y.e = x))
theorem keepN_mem (so : (nums xs).Pairwise (· < ·)) {y : CV} (hy : y ∈ xs) : keepN xs x (y.num : Int) = decide (y.e = x) := by
  unfold keepN
  by_cases e : y.e = x
  · rw [decide_eq_true e, List.any_eq_true]; exact ⟨y, hy, by simp [e]⟩
  · rw [decide_eq_false e, List.any_eq_false]
    intro z hz
    simp only [Bool.and_eq_true, decide_eq_true_eq, not_and]
    intro hn
    have : z = y := by
      obtain ⟨i, hi⟩ := List.getElem?_of_mem hz
      obtain ⟨j, hj⟩ := List.getElem?_of_mem hy
      have hnd : (nums xs).Nodup := so.imp (fun h => by omega)
      have hil := (List.getElem?_eq_some_iff.1 hi).1
      have := (List.getElem?_inj (l := nums xs) (i := i) (j := j) (by simpa [nums] using hil) hnd).1 (by unfold nums; rw [List.getElem?_map, List.getElem?_map, hi, hj]; simp [hn])
      subst this
      rw [hi] at hj; exact Option.some.inj hj
    rw [this]; exact e
theorem idx_ok {ns : List Int} (V : Env h t m xs c0 c1 x) (o : Own h p n c 1 (ns.map ienc)) (hn : n = ns.length) (hb : n ≤ 60000) (hs : ∀ k ∈ ns, ∃ y ∈ xs, k = (y.num : Int))
    (k1 : ∀ i, i < n → (∀ j, j < i → ∀ k, ns[j]? = some k → keepN xs x k = true) → (∀ k, ns[i]? = some k → keepN xs x k = false) → R (.int .i64 (i : Int)) h) (k2 : (∀ k ∈ ns, keepN xs x k = true) → R (.int .i64 (-1)) h) :
    CallsH Tryz.prog F.slices_IndexFunc_s_int_int #[.slice p n c, .func (.func F.copies_Table_of_1) #[] #[.pointer (some ⟨c0, 0, none⟩), .pointer (some ⟨c1, 0, none⟩)]] h R := by
  subst hn
  have so : (nums xs).Pairwise (· < ·) := by obtain ⟨X, s, a1, S1, a2, S2, lab, H⟩ := V.cm; exact nums_so H
  refine slices_IndexFunc_s_int_int.of.walk ?_
  refine ⟨fun u g => g = h ∧ ∃ i : Nat, u = (i : Int) ∧ i ≤ ns.length ∧ ∀ j, j < i → ∀ k, ns[j]? = some k → keepN xs x k = true, fun u _ => ns.length - u.toNat, ⟨rfl, 0, rfl, Nat.zero_le _, fun j hj => by omega⟩, ?_⟩
  rintro _ g ⟨rfl, i, rfl, hi, hall⟩
  by_cases hlt : i < ns.length
  · rw [if_pos (decide_eq_true (by omega))]
    have hk : ns[i]? = some ns[i] := List.getElem?_eq_getElem hlt
    generalize ns[i] = k at hk
    obtain ⟨y, hy, rfl⟩ := hs k (List.mem_of_getElem? hk)
    obtain ⟨ab, ao, rfl⟩ := o.addr (by omega)
    have cc := o.cell (j := i) (v := ienc (y.num : Int)) (by rw [List.getElem?_map, hk]; rfl)
    simp only [Int.toNat_natCast, Nat.mul_one]
    refine ⟨⟨by omega, by omega⟩, onSome_some.2 ⟨_, cc, of1_ok V hy ⟨_, rfl, ?_⟩⟩⟩
    have kn := keepN_mem (x := x) so hy
    by_cases e : y.e = x
    · rw [decide_eq_true e, if_neg (by decide), wrap_id (by omega) (by omega)]
      rw [decide_eq_true e] at kn
      refine ⟨⟨rfl, i + 1, by omega, by omega, fun j hj k hk2 => ?_⟩, by show ns.length - Int.toNat ((i : Int) + 1) < ns.length - i; omega⟩
      by_cases ej : j = i
      · subst ej; rw [hk] at hk2; cases hk2; exact kn
      · exact hall j (by omega) k hk2
    · rw [decide_eq_false e, if_pos (by decide)]
      rw [decide_eq_false e] at kn
      exact k1 i hlt hall (fun k hk2 => by rw [hk] at hk2; cases hk2; exact kn)
  · rw [if_neg (by simp; omega)]
    exact k2 (fun k hk => by
      obtain ⟨j, hj⟩ := List.getElem?_of_mem hk
      exact hall j (by have := (List.getElem?_eq_some_iff.1 hj).1; omega) k hj)
theorem del_ok {ns : List Int} (V : Env h t m xs c0 c1 x) (o : Own h p n c 1 (ns.map ienc)) (hn : n = ns.length) (hb : n ≤ 60000) (hs : ∀ k ∈ ns, ∃ y ∈ xs, k = (y.num : Int))
    (hV : ∀ g, Fr (inBlk p) h g → Env g t m xs c0 c1 x)
    (hk : ∀ h' c', Own h' p (ns.filter (keepN xs x)).length c' 1 ((ns.filter (keepN xs x)).map ienc) → Fr (inBlk p) h h' → R (.slice p (ns.filter (keepN xs x)).length c') h') :
    CallsH Tryz.prog F.slices_DeleteFunc_s_int_int #[.slice p n c, .func (.func F.copies_Table_of_1) #[] #[.pointer (some ⟨c0, 0, none⟩), .pointer (some ⟨c1, 0, none⟩)]] h R := by
  subst hn
  have so : (nums xs).Pairwise (· < ·) := by obtain ⟨X, s, a1, S1, a2, S2, lab, H⟩ := V.cm; exact nums_so H
  have one : ∀ v ∈ ((.int .i64 0 : Value)).cells.toList, oneCell v = true := fun v hv => by
    have : v = .int .i64 0 := by simpa [Value.cells] using hv
    subst this; rfl
  refine slices_DeleteFunc_s_int_int.of.walk (idx_ok V o rfl hb hs (fun i hi hall hno => ⟨_, rfl, ?_⟩) (fun hall => ⟨_, rfl, ?_⟩))
  · rw [if_neg (by intro h; have h := eq_of_beq h; omega), wrap_id (by omega) (by omega)]
    have take_all : (ns.take i).filter (keepN xs x) = ns.take i := by
      rw [List.filter_eq_self]
      intro k hk2
      obtain ⟨j, hj⟩ := List.getElem?_of_mem hk2
      rw [List.getElem?_take] at hj
      split at hj
      · rename_i hji; exact hall j hji k hj
      · cases hj
    have step0 : (ns.take (i + 1)).filter (keepN xs x) = ns.take i := by
      have hk : ns[i]? = some ns[i] := List.getElem?_eq_getElem hi
      rw [List.take_add_one, hk, List.filter_append, take_all]
      simp [hno _ hk]
    refine ⟨fun u w g => ∃ (i j : Nat) (vs : List Int), u = (i : Int) ∧ w = (j : Int) ∧ i ≤ j ∧ j ≤ ns.length ∧ vs.length = ns.length ∧ Own g p ns.length c 1 (vs.map ienc) ∧ vs.take i = (ns.take j).filter (keepN xs x) ∧ (∀ q, j ≤ q → vs[q]? = ns[q]?) ∧ Fr (inBlk p) h g, fun _ w _ => ns.length - w.toNat,
      ⟨i, i + 1, ns, rfl, by omega, by omega, by omega, rfl, o, step0.symm, fun _ _ => rfl, Fr.refl _ _⟩, ?_⟩
    clear take_all step0 hall hno
    rintro _ _ g ⟨i, j, vs, rfl, rfl, hij, hj, hl, ov, hta, hdr, fg⟩
    have hil : ((ns.take j).filter (keepN xs x)).length = i := by rw [← hta, List.length_take]; omega
    by_cases hlt : j < ns.length
    · rw [if_pos (decide_eq_true (by omega))]
      refine JoinP.of fun J hJ => ?_
      have hnj : ns[j]? = some ns[j] := List.getElem?_eq_getElem hlt
      generalize ns[j] = k at hnj
      obtain ⟨y, hy, rfl⟩ := hs k (List.mem_of_getElem? hnj)
      obtain ⟨ab, ao, rfl⟩ := ov.addr (by omega)
      have hkv : vs[j]? = some (y.num : Int) := by rw [hdr j (Nat.le_refl _)]; exact hnj
      have cc := ov.cell (j := j) (v := ienc (y.num : Int)) (by rw [List.getElem?_map, hkv]; rfl)
      simp only [Int.toNat_natCast, Nat.mul_one]
      have kn := keepN_mem (x := x) so hy
      have tk : (ns.take (j + 1)).filter (keepN xs x) = (ns.take j).filter (keepN xs x) ++ (if y.e = x then [(y.num : Int)] else []) := by
        rw [List.take_add_one, hnj, List.filter_append]
        congr 1
        show [(y.num : Int)].filter (keepN xs x) = _
        rw [List.filter_cons, kn]
        by_cases e : y.e = x <;> simp [e]
      refine ⟨⟨by omega, by omega⟩, onSome_some.2 ⟨_, cc, of1_ok (hV g fg) hy ⟨_, rfl, JoinP.of fun J1 hJ1 => ?_⟩⟩⟩
      by_cases e : y.e = x
      · rw [decide_eq_true e, if_pos (by decide)]
        rw [if_pos e] at tk
        refine ⟨⟨by omega, by omega⟩, onSome_some.2 (ov.store (by rw [List.length_map]; omega) fun g2 o2 s2 q2 => ?_)⟩
        subst hJ1
        subst hJ
        have e2 : (vs.map ienc).set i (.int .i64 (y.num : Int)) = (vs.set i (y.num : Int)).map ienc := by rw [List.map_set]
        rw [e2] at o2
        dsimp only
        rw [wrap_id (n := (i : Int) + 1) (by omega) (by omega), wrap_id (n := (j : Int) + 1) (by omega) (by omega)]
        refine ⟨⟨i + 1, j + 1, _, by omega, by omega, by omega, by omega, by rw [List.length_set]; exact hl, o2, ?_, fun q hq => ?_, fg.tt ⟨by omega, fun z _ hn => q2 z hn⟩⟩, by show ns.length - Int.toNat ((j : Int) + 1) < ns.length - j; omega⟩
        · rw [tk, ← hta, List.take_add_one, List.getElem?_set_self (by omega)]
          congr 1
          apply List.ext_getElem?
          intro q
          rw [List.getElem?_take, List.getElem?_take]
          split
          · rw [List.getElem?_set_ne (by omega)]
          · rfl
        · rw [List.getElem?_set_ne (by omega)]; exact hdr q (by omega)
      · rw [decide_eq_false e, if_neg (by decide)]
        rw [if_neg e, List.append_nil] at tk
        subst hJ1
        subst hJ
        dsimp only
        rw [wrap_id (n := (j : Int) + 1) (by omega) (by omega)]
        exact ⟨⟨i, j + 1, vs, rfl, by omega, by omega, by omega, hl, ov, by rw [tk, hta], fun q hq => hdr q (by omega), fg⟩, by show ns.length - Int.toNat ((j : Int) + 1) < ns.length - j; omega⟩
    · rw [if_neg (by simp; omega)]
      obtain rfl : j = ns.length := by omega
      rw [List.take_length] at hta hil
      simp only [Int.toNat_natCast, Nat.sub_zero]
      refine ⟨⟨by omega, by omega⟩, den_clear tI one ov (by omega) fun g2 o2 f2 => ⟨rfl, ⟨by omega, by have := ov.le; omega⟩, ?_⟩⟩
      rw [slBase_zero]
      rw [Nat.mul_one, ← List.map_take, hta] at o2
      have := hk g2 c (by rw [hil]; exact o2) (fg.tt f2)
      rw [hil] at this
      exact this
  · rw [if_pos (by rfl)]
    have e : ns.filter (keepN xs x) = ns := by rw [List.filter_eq_self]; exact hall
    have := hk h c (by rw [e]; exact o) (Fr.refl _ _)
    rw [e] at this
    exact this
theorem keep_nums (so : (nums xs).Pairwise (· < ·)) : (nums xs).filter (keepN xs x) = nums (xs.filter (fun y => decide (y.e = x))) := by
  unfold nums
  rw [List.filter_map]
  congr 1
  exact List.filter_congr (fun y hy => keepN_mem so hy)
theorem of_ok (H : Cm h t X s m xs a1 S1 a2 S2 lab) (x : Ev) (hl : xs.length ≤ 60000) (hk : ∀ h' p' c', Own h' p' (xs.filter (fun y => decide (y.e = x))).length c' 1 ((nums (xs.filter (fun y => decide (y.e = x)))).map ienc) → (∀ y, inBlk p' y → h.size ≤ y) → Fr (fun _ => False) h h' → R (.slice p' (xs.filter (fun y => decide (y.e = x))).length c') h') :
    CallsH Tryz.prog F.copies_Table_of #[.pointer (some ⟨t, 0, none⟩), ev5 x] h R := by
  refine copies_Table_of.walk (newP_of ?_)
  have f1 : Fr (fun _ => False) h (h.push (.cells #[.pointer (some ⟨t, 0, none⟩)] T.p_copies_Table)) := Fr.push _ _
  have b1 : (h.push (.cells #[.pointer (some ⟨t, 0, none⟩)] T.p_copies_Table))[h.size]? = some (.cells #[.pointer (some ⟨t, 0, none⟩)] T.p_copies_Table (0, 0)) := push_new
  have z1 : (h.push (.cells #[.pointer (some ⟨t, 0, none⟩)] T.p_copies_Table)).size = h.size + 1 := Array.size_push _
  generalize h.push (.cells #[.pointer (some ⟨t, 0, none⟩)] T.p_copies_Table) = h1 at f1 b1 z1 ⊢
  refine eid_Eid.box fun c1 h2 e2 hb2 f2 => ⟨_, cell_at (f2.get b1 id) rfl, ?_⟩
  have z2 := lt_of_get hb2
  refine numbers_ok (H.on (f1.tt f2)) hl fun h3 p3 l3 o3 g3 f3 => ⟨_, _, _, rfl, ?_⟩
  have F3 := f1.tt (f2.tt f3)
  have H3 := H.on F3
  have zf := f2.1
  have V3 : Env h3 t m xs h.size c1 x := ⟨(f2.tt f3).get b1 id, f3.get hb2 id, X, s, a1, S1, a2, S2, lab, H3⟩
  have hV : ∀ g, Fr (inBlk p3) h3 g → Env g t m xs h.size c1 x := fun g fg =>
    ⟨fg.get V3.b0 (fun hy => by have := g3 _ hy; omega), fg.get V3.b1 (fun hy => by have := g3 _ hy; omega), X, s, a1, S1, a2, S2, lab, H3.frame fg (fun y hy hin => by
      have h1 := g3 y hin
      have h2 : y < h.size := (Ct.lt (s := s) ⟨m, xs, a1, S1, a2, S2, lab, H⟩ y hy)
      omega)⟩
  have nl : (nums xs).length = xs.length := by unfold nums; rw [List.length_map]
  refine del_ok V3 o3 nl.symm hl (fun k hk2 => by
    obtain ⟨y, hy, rfl⟩ := List.mem_map.1 hk2
    exact ⟨y, hy, rfl⟩) hV fun h4 c4 o4 f4 => ⟨_, _, _, rfl, ?_⟩
  have en := keep_nums (x := x) (nums_so H)
  have el : ((nums xs).filter (keepN xs x)).length = (xs.filter (fun y => decide (y.e = x))).length := by rw [en]; unfold nums; rw [List.length_map]
  rw [el] at o4 ⊢
  rw [en] at o4
  exact hk h4 p3 c4 o4 (fun y hy => by have := g3 y hy; omega) (F3.fresh f4 (fun y hy => by have := g3 y hy; omega))
end Cps
end Go.Proofs.YtgccegnmggjkjaaGreatDoor
set_option maxRecDepth 100000
set_option maxHeartbeats 4000000
namespace Go.Proofs.YtgccegnmggjkjaaGreatDoor
open Go.Den
variable {h : Heap} {R : Value → Heap → Prop}
theorem slices_Clone_s_byte_byte.walk {s_p : Option Addr} {s_l s_c : Nat} (hv :
 if s_p.isNone = true then
 R (.slice none 0 0) h
 else
 NewP h (.cells #[] T.uint8) fun b h_1 =>
 denSem Tryz.prog (Builtin.append_ #[T.s_uint8, T.s_uint8] T.s_uint8 #[.slice (some ⟨b, 0, none⟩) 0 0, .slice s_p s_l s_c]) h_1 fun v h_2 =>
 ∃ t7_p t7_l t7_c, v = .slice t7_p t7_l t7_c ∧
 R (.slice t7_p t7_l t7_c) h_2) : CallsH Tryz.prog F.slices_Clone_s_byte_byte #[.slice s_p s_l s_c] h R :=
 callsH_of_body (.seq .leaf (.seq (.seq .leaf (.cond (.seq .leaf .leaf) .leaf)) (.seq .leaf .leaf))) Tryz.func71 rfl rfl (Eq.mp (by kernel_rfl) hv)
theorem fields_New.walk  (hv :
 NewP h (.cells #[.bool true, .slice none 0 0] T.fields_Writer) fun b h_1 =>
 R (.pointer (some ⟨b, 0, none⟩)) h_1) : CallsH Tryz.prog F.fields_New #[] h R :=
 callsH_of_body (.seq .leaf (.seq .leaf .leaf)) Tryz.func74 rfl rfl (Eq.mp (by kernel_rfl) hv)
theorem fields_Writer_Num.walk {w : Nat} {n : Int} (hv :
 JoinP (fun (t13 : Bool) (h_1 : Heap) =>
 if t13 = true then
 R (.pointer (some ⟨w, 0, none⟩)) h_1
 else
 ∃ (I : Int → Heap → Prop) (mu : Int → Heap → Nat), I n h_1 ∧ ∀ (n_1 : Int) (h_2 : Heap), I n_1 h_2 →
 if (decide (n_1 > 127)) = true then
 ∃ t21_p t21_l t21_c, hcell h_2 ⟨w, 1, none⟩ = some (.slice t21_p t21_l t21_c) ∧
 NewP h_2 (.cells #[.int .u8 (IntKind.wrap .u8 ((BitVec.ofInt (IntKind.bits .u8) (IntKind.wrap .u8 n_1) ||| BitVec.ofInt (IntKind.bits .u8) 128).toNat : Int))] T.uint8) fun b h_3 =>
 denSem Tryz.prog (Builtin.append_ #[T.s_uint8, T.s_uint8] T.s_uint8 #[.slice t21_p t21_l t21_c, .slice (some ⟨b, 0, none⟩) 1 1]) h_3 fun v h_4 =>
 ∃ t26_p t26_l t26_c, v = .slice t26_p t26_l t26_c ∧
 StoreP h_4 ⟨w, 1, none⟩ (.slice t26_p t26_l t26_c) fun h_5 =>
 (I (Int.fdiv n_1 (2 ^ min (Int.toNat 7) (IntKind.bits .u64))) h_5 ∧ mu (Int.fdiv n_1 (2 ^ min (Int.toNat 7) (IntKind.bits .u64))) h_5 < mu n_1 h_2)
 else
 ∃ t35_p t35_l t35_c, hcell h_2 ⟨w, 1, none⟩ = some (.slice t35_p t35_l t35_c) ∧
 NewP h_2 (.cells #[.int .u8 (IntKind.wrap .u8 n_1)] T.uint8) fun b_1 h_6 =>
 denSem Tryz.prog (Builtin.append_ #[T.s_uint8, T.s_uint8] T.s_uint8 #[.slice t35_p t35_l t35_c, .slice (some ⟨b_1, 0, none⟩) 1 1]) h_6 fun v_1 h_7 =>
 ∃ t39_p t39_l t39_c, v_1 = .slice t39_p t39_l t39_c ∧
 StoreP h_7 ⟨w, 1, none⟩ (.slice t39_p t39_l t39_c) fun h_8 =>
 R (.pointer (some ⟨w, 0, none⟩)) h_8)
 (fun J =>
 ∃ t11, hcell h ⟨w, 0, none⟩ = some (.bool t11) ∧
 J (!t11) h)) : CallsH Tryz.prog F.fields_Writer_Num #[.pointer (some ⟨w, 0, none⟩), .int .u64 n] h R :=
 callsH_of_body (.seq .leaf (.seq (.seq (.join [(13, .one (.bool))] .leaf) (.cond (.seq .leaf .leaf) .leaf)) (.seq (.block (.loop [(1, .one (.int .u64))] (.seq (.seq .leaf (.cond .leaf .leaf)) (.block (.seq .leaf .leaf))))) (.seq .leaf (.seq .leaf .leaf))))) Tryz.func134 rfl rfl (Eq.mp (by kernel_rfl) hv)
theorem fields_Writer_Int.walk {w : Nat} {n : Int} (hv :
 Cl F.fields_Writer_Num #[.pointer (some ⟨w, 0, none⟩), .int .u64 (IntKind.wrap .u64 (if 0 > n then 0 else n))] h fun v h_1 =>
 ∃ t9, v = .pointer t9 ∧
 R (.pointer t9) h_1) : CallsH Tryz.prog F.fields_Writer_Int #[.pointer (some ⟨w, 0, none⟩), .int .i64 n] h R :=
 callsH_of_body (.seq .leaf (.seq .leaf .leaf)) Tryz.func75 rfl rfl (Eq.mp (by kernel_rfl) hv)
theorem fields_Writer_Text.walk {w : Nat} {b_p : Option Addr} {b_l b_c : Nat} (hv :
 Cl F.fields_Writer_Num #[.pointer (some ⟨w, 0, none⟩), .int .u64 (IntKind.wrap .u64 ((b_l : Nat) : Int))] h fun v h_1 =>
 ∃ t9, v = .pointer t9 ∧
 JoinP (fun (t17 : Bool) (h_2 : Heap) =>
 JoinP (fun (h_3 : Heap) =>
 R (.pointer (some ⟨w, 0, none⟩)) h_3)
 (fun J_1 =>
 if t17 = true then
 ∃ t22_p t22_l t22_c, hcell h_2 ⟨w, 1, none⟩ = some (.slice t22_p t22_l t22_c) ∧
 denSem Tryz.prog (Builtin.append_ #[T.s_uint8, T.s_uint8] T.s_uint8 #[.slice t22_p t22_l t22_c, .slice b_p b_l b_c]) h_2 fun v_1 h_4 =>
 ∃ t24_p t24_l t24_c, v_1 = .slice t24_p t24_l t24_c ∧
 StoreP h_4 ⟨w, 1, none⟩ (.slice t24_p t24_l t24_c) fun h_5 =>
 J_1 h_5
 else
 J_1 h_2))
 (fun J =>
 ∃ t16, hcell h_1 ⟨w, 0, none⟩ = some (.bool t16) ∧
 J t16 h_1)) : CallsH Tryz.prog F.fields_Writer_Text #[.pointer (some ⟨w, 0, none⟩), .slice b_p b_l b_c] h R :=
 callsH_of_body (.seq .leaf (.seq .leaf (.seq (.seq (.join [(17, .one (.bool))] .leaf) (.join [] (.cond .leaf .leaf))) (.seq .leaf .leaf)))) Tryz.func133 rfl rfl (Eq.mp (by kernel_rfl) hv)
theorem fields_Writer_Bytes.walk {w : Nat} (hv :
 ∃ t8_p t8_l t8_c, hcell h ⟨w, 1, none⟩ = some (.slice t8_p t8_l t8_c) ∧
 Cl F.slices_Clone_s_byte_byte #[.slice t8_p t8_l t8_c] h fun v h_1 =>
 ∃ t9_p t9_l t9_c, v = .slice t9_p t9_l t9_c ∧
 R (.slice t9_p t9_l t9_c) h_1) : CallsH Tryz.prog F.fields_Writer_Bytes #[.pointer (some ⟨w, 0, none⟩)] h R :=
 callsH_of_body (.seq .leaf (.seq (.seq .leaf (.cond (.seq .leaf .leaf) .leaf)) (.seq .leaf .leaf))) Tryz.func76 rfl rfl (Eq.mp (by kernel_rfl) hv)
theorem fields_fault_fail.walk {f : Nat} {e : Int} (hv :
 ∃ t7, hcell h ⟨f, 0, none⟩ = some (.int .i64 t7) ∧
 if (t7 == 0) = true then
 StoreP h ⟨f, 0, none⟩ (.int .i64 e) fun h_1 =>
 R (.tuple #[]) h_1
 else
 R (.tuple #[]) h) : CallsH Tryz.prog F.fields_fault_fail #[.pointer (some ⟨f, 0, none⟩), .int .i64 e] h R :=
 callsH_of_body (.seq .leaf (.cond .leaf .leaf)) Tryz.func160 rfl rfl (Eq.mp (by kernel_rfl) hv)
theorem fields_Read.walk {b_p : Option Addr} {b_l b_c : Nat} (hv :
 Cl F.slices_Clone_s_byte_byte #[.slice b_p b_l b_c] h fun v h_1 =>
 ∃ t4_p t4_l t4_c, v = .slice t4_p t4_l t4_c ∧
 NewP h_1 (.cells #[.int .i64 0, .bool true, .slice t4_p t4_l t4_c] T.fields_Reader) fun b h_2 =>
 R (.pointer (some ⟨b, 0, none⟩)) h_2) : CallsH Tryz.prog F.fields_Read #[.slice b_p b_l b_c] h R :=
 callsH_of_body (.seq .leaf (.seq .leaf .leaf)) Tryz.func95 rfl rfl (Eq.mp (by kernel_rfl) hv)
theorem fields_Reader_fine.walk {r : Nat} (hv :
 ∃ t9, hcell h ⟨r, 1, none⟩ = some (.bool t9) ∧
 if t9 = true then
 ∃ t16, hcell h ⟨r, 0, none⟩ = some (.int .i64 t16) ∧
 R (.bool (t16 == 0)) h
 else
 R (.bool false) h) : CallsH Tryz.prog F.fields_Reader_fine #[.pointer (some ⟨r, 0, none⟩)] h R :=
 callsH_of_body (.seq .leaf (.seq .leaf .leaf)) Tryz.func159 rfl rfl (Eq.mp (by kernel_rfl) hv)
theorem fields_Reader_Num.walk {r : Nat} (hv :
 JoinP (fun (h_1 : Heap) =>
 R (.int .u64 0) h_1)
 (fun J =>
 ∃ (I : Int → Int → Heap → Prop) (mu : Int → Int → Heap → Nat), I 0 0 h ∧ ∀ (n : Int) (i : Int) (h_2 : Heap), I n i h_2 →
 Cl F.fields_Reader_fine #[.pointer (some ⟨r, 0, none⟩)] h_2 fun v h_3 =>
 ∃ t7, v = .bool t7 ∧
 if t7 = true then
 ∃ t13_p t13_l t13_c, hcell h_3 ⟨r, 2, none⟩ = some (.slice t13_p t13_l t13_c) ∧
 if (((t13_l : Nat) : Int) == 0) = true then
 Cl F.fields_fault_fail #[.pointer (some ⟨r, 0, none⟩), .int .i64 8] h_3 fun v_1 h_4 =>
 v_1 = .tuple #[] ∧
 J h_4
 else
 ∃ t23_p t23_l t23_c, hcell h_3 ⟨r, 2, none⟩ = some (.slice t23_p t23_l t23_c) ∧
 ((0 : Int) ≤ 0 ∧ 0 < ((t23_l : Nat) : Int)) ∧
 onSome t23_p fun a =>
 ∃ t25, hcell h_3 (a.add (Int.toNat 0 * 1)) = some (.int .u8 t25) ∧
 ∃ t30_p t30_l t30_c, hcell h_3 ⟨r, 2, none⟩ = some (.slice t30_p t30_l t30_c) ∧
 ((0 : Int) ≤ 1 ∧ 1 ≤ ((t30_l : Nat) : Int)) ∧
 StoreP h_3 ⟨r, 2, none⟩ (.slice (slBase t30_p t30_c (Int.toNat 1) 1) (t30_l - (Int.toNat 1)) (t30_c - (Int.toNat 1))) fun h_5 =>
 JoinP (fun (t52 : Bool) (h_6 : Heap) =>
 if t52 = true then
 Cl F.fields_fault_fail #[.pointer (some ⟨r, 0, none⟩), .int .i64 3] h_6 fun v_2 h_7 =>
 v_2 = .tuple #[] ∧
 J h_7
 else
 if IntKind.wrap .i64 (7 * i) < 0 then False else
 if ((IntKind.wrap .u8 ((BitVec.ofInt (IntKind.bits .u8) t25 &&& BitVec.ofInt (IntKind.bits .u8) 128).toNat : Int)) == 0) = true then
 R (.int .u64 (IntKind.wrap .u64 ((BitVec.ofInt (IntKind.bits .u64) n ||| BitVec.ofInt (IntKind.bits .u64) (IntKind.wrap .u64 ((IntKind.wrap .u64 (IntKind.wrap .u8 ((BitVec.ofInt (IntKind.bits .u8) t25 &&& BitVec.ofInt (IntKind.bits .u8) 127).toNat : Int))) * 2 ^ min (Int.toNat (IntKind.wrap .i64 (7 * i))) (IntKind.bits .u64)))).toNat : Int))) h_6
 else
 (I (IntKind.wrap .u64 ((BitVec.ofInt (IntKind.bits .u64) n ||| BitVec.ofInt (IntKind.bits .u64) (IntKind.wrap .u64 ((IntKind.wrap .u64 (IntKind.wrap .u8 ((BitVec.ofInt (IntKind.bits .u8) t25 &&& BitVec.ofInt (IntKind.bits .u8) 127).toNat : Int))) * 2 ^ min (Int.toNat (IntKind.wrap .i64 (7 * i))) (IntKind.bits .u64)))).toNat : Int)) (IntKind.wrap .i64 (i + 1)) h_6 ∧ mu (IntKind.wrap .u64 ((BitVec.ofInt (IntKind.bits .u64) n ||| BitVec.ofInt (IntKind.bits .u64) (IntKind.wrap .u64 ((IntKind.wrap .u64 (IntKind.wrap .u8 ((BitVec.ofInt (IntKind.bits .u8) t25 &&& BitVec.ofInt (IntKind.bits .u8) 127).toNat : Int))) * 2 ^ min (Int.toNat (IntKind.wrap .i64 (7 * i))) (IntKind.bits .u64)))).toNat : Int)) (IntKind.wrap .i64 (i + 1)) h_6 < mu n i h_2))
 (fun J_1 =>
 if (i == 10) = true then
 J_1 true h_5
 else
 if ((IntKind.wrap .i64 (i * 7)) == 63) = true then
 if (decide (t25 > 1)) = true then
 J_1 true h_5
 else
 if (t25 == 0) = true then
 J_1 (decide (i > 0)) h_5
 else
 J_1 false h_5
 else
 if (t25 == 0) = true then
 J_1 (decide (i > 0)) h_5
 else
 J_1 false h_5)
 else
 J h_3)) : CallsH Tryz.prog F.fields_Reader_Num #[.pointer (some ⟨r, 0, none⟩)] h R :=
 callsH_of_body (.seq .leaf (.seq .leaf (.seq (.seq .leaf (.join [] (.block (.loop [(3, .one (.int .u64)), (4, .one (.int .i64))] (.seq (.seq .leaf (.cond .leaf .leaf)) (.seq (.block (.seq (.seq .leaf (.cond (.seq .leaf .leaf) .leaf)) (.seq .leaf (.seq .leaf (.seq (.seq (.join [(52, .one (.bool))] .leaf) (.cond (.seq .leaf .leaf) .leaf)) (.seq .leaf (.seq .leaf (.cond (.seq .leaf .leaf) .leaf)))))))) .leaf)))))) (.seq .leaf .leaf)))) Tryz.func138 rfl rfl (Eq.mp (by kernel_rfl) hv)
theorem fields_Reader_atMost.walk {r : Nat} {top : Int} (hv :
 Cl F.fields_Reader_Num #[.pointer (some ⟨r, 0, none⟩)] h fun v h_1 =>
 ∃ t7, v = .int .u64 t7 ∧
 if (decide (t7 > top)) = true then
 Cl F.fields_fault_fail #[.pointer (some ⟨r, 0, none⟩), .int .i64 3] h_1 fun v_1 h_2 =>
 v_1 = .tuple #[] ∧
 R (.int .u64 0) h_2
 else
 R (.int .u64 t7) h_1) : CallsH Tryz.prog F.fields_Reader_atMost #[.pointer (some ⟨r, 0, none⟩), .int .u64 top] h R :=
 callsH_of_body (.seq .leaf (.seq .leaf (.seq (.seq .leaf (.cond (.seq .leaf (.seq .leaf .leaf)) .leaf)) (.seq .leaf .leaf)))) Tryz.func161 rfl rfl (Eq.mp (by kernel_rfl) hv)
theorem fields_Reader_Int.walk {r : Nat} (hv :
 Cl F.fields_Reader_atMost #[.pointer (some ⟨r, 0, none⟩), .int .u64 1099511627776] h fun v h_1 =>
 ∃ t4, v = .int .u64 t4 ∧
 R (.int .i64 (IntKind.wrap .i64 t4)) h_1) : CallsH Tryz.prog F.fields_Reader_Int #[.pointer (some ⟨r, 0, none⟩)] h R :=
 callsH_of_body (.seq .leaf (.seq .leaf .leaf)) Tryz.func98 rfl rfl (Eq.mp (by kernel_rfl) hv)
theorem fields_Reader_Text.walk {r : Nat} (hv :
 Cl F.fields_Reader_Num #[.pointer (some ⟨r, 0, none⟩)] h fun v h_1 =>
 ∃ t6, v = .int .u64 t6 ∧
 Cl F.fields_Reader_fine #[.pointer (some ⟨r, 0, none⟩)] h_1 fun v_1 h_2 =>
 ∃ t8, v_1 = .bool t8 ∧
 if (!t8) = true then
 R (.slice none 0 0) h_2
 else
 ∃ t14_p t14_l t14_c, hcell h_2 ⟨r, 2, none⟩ = some (.slice t14_p t14_l t14_c) ∧
 if (decide (t6 > (IntKind.wrap .u64 ((t14_l : Nat) : Int)))) = true then
 Cl F.fields_fault_fail #[.pointer (some ⟨r, 0, none⟩), .int .i64 8] h_2 fun v_2 h_3 =>
 v_2 = .tuple #[] ∧
 R (.slice none 0 0) h_3
 else
 ∃ t25_p t25_l t25_c, hcell h_2 ⟨r, 2, none⟩ = some (.slice t25_p t25_l t25_c) ∧
 ((0 : Int) ≤ t6 ∧ t6 ≤ ((t25_c : Nat) : Int)) ∧
 Cl F.slices_Clone_s_byte_byte #[.slice (slBase t25_p t25_c 0 1) ((Int.toNat t6) - 0) (t25_c - 0)] h_2 fun v_3 h_4 =>
 ∃ t28_p t28_l t28_c, v_3 = .slice t28_p t28_l t28_c ∧
 ∃ t33_p t33_l t33_c, hcell h_4 ⟨r, 2, none⟩ = some (.slice t33_p t33_l t33_c) ∧
 ((0 : Int) ≤ t6 ∧ t6 ≤ ((t33_l : Nat) : Int)) ∧
 StoreP h_4 ⟨r, 2, none⟩ (.slice (slBase t33_p t33_c (Int.toNat t6) 1) (t33_l - (Int.toNat t6)) (t33_c - (Int.toNat t6))) fun h_5 =>
 R (.slice t28_p t28_l t28_c) h_5) : CallsH Tryz.prog F.fields_Reader_Text #[.pointer (some ⟨r, 0, none⟩)] h R :=
 callsH_of_body (.seq .leaf (.seq .leaf (.seq (.seq .leaf (.cond (.seq .leaf .leaf) .leaf)) (.seq (.seq .leaf (.cond (.seq .leaf (.seq .leaf .leaf)) .leaf)) (.seq .leaf (.seq .leaf (.seq .leaf .leaf))))))) Tryz.func97 rfl rfl (Eq.mp (by kernel_rfl) hv)
theorem fields_Reader_End.walk {r : Nat} (hv :
 JoinP (fun (t3 : Bool) (h_1 : Heap) =>
 if t3 = true then
 R (.int .i64 6) h_1
 else
 ∃ t18, hcell h_1 ⟨r, 0, none⟩ = some (.int .i64 t18) ∧
 if (t18 != 0) = true then
 ∃ t24, hcell h_1 ⟨r, 0, none⟩ = some (.int .i64 t24) ∧
 R (.int .i64 t24) h_1
 else
 ∃ t29_p t29_l t29_c, hcell h_1 ⟨r, 2, none⟩ = some (.slice t29_p t29_l t29_c) ∧
 if (decide (((t29_l : Nat) : Int) > 0)) = true then
 R (.int .i64 2) h_1
 else
 R (.int .i64 0) h_1)
 (fun J =>
 ∃ t10, hcell h ⟨r, 1, none⟩ = some (.bool t10) ∧
 J (!t10) h)) : CallsH Tryz.prog F.fields_Reader_End #[.pointer (some ⟨r, 0, none⟩)] h R :=
 callsH_of_body (.seq .leaf (.seq (.block (.seq (.join [(3, .one (.bool))] .leaf) (.cond (.seq .leaf .leaf) (.seq .leaf (.cond (.seq .leaf .leaf) (.seq .leaf (.cond (.seq .leaf .leaf) .leaf))))))) (.seq .leaf .leaf))) Tryz.func99 rfl rfl (Eq.mp (by kernel_rfl) hv)
end Go.Proofs.YtgccegnmggjkjaaGreatDoor
set_option maxRecDepth 100000
namespace Go.Proofs.YtgccegnmggjkjaaGreatDoor
open Go.Den
namespace Fld
variable {h h0 : Heap} {bs : List UInt8} {R : Value → Heap → Prop}
theorem tU : SlTy Tryz.prog T.s_uint8 T.uint8 1 1 (.int .u8 0) := ⟨by kernel_rfl, by kernel_rfl, rfl⟩
theorem uU : Tryz.prog.underlying T.s_uint8 = some (.slice T.uint8) := by kernel_rfl
theorem u8 : Tryz.prog.underlying T.uint8 = some (.int .u8) := by kernel_rfl
theorem uS : Tryz.prog.underlying T.string = some .string := by kernel_rfl
theorem conv {p : Option Addr} {n c : Nat} (hr : Row h p (bc bs)) (hn : n = bs.length) : ConvV Tryz.prog T.s_uint8 T.string (.slice p n c) h (str bs) := conv_str uU u8 uS hr hn
theorem clone_ok {p : Option Addr} {c n : Nat} (hr : Row h p (bc bs)) (hn : n = bs.length) (hl : bs.length ≤ 70368744177664)
    (hk : ∀ p' c' h', Own h' p' bs.length c' 1 (bc bs) → Fr (fun _ => False) h h' → (∀ x, inBlk p' x → h.size ≤ x) → R (.slice p' bs.length c') h') :
    CallsH Tryz.prog F.slices_Clone_s_byte_byte #[.slice p n c] h R := by
  subst hn
  refine slices_Clone_s_byte_byte.walk ?_
  cases p with
  | none =>
    have : bs = [] := by
      rcases hr with hr | ⟨a, e, _⟩
      · cases bs with
        | nil => rfl
        | cons b bs => cases hr
      · cases e
    subst this
    exact hk none 0 h (.nil rfl rfl rfl rfl) (Fr.refl _ _) (fun x ⟨a, e, _⟩ => by cases e)
  | some a =>
    simp only [Option.isNone_some, Bool.false_eq_true, if_false]
    refine newP_of ?_
    have f1 : Fr (fun _ => False) h (h.push (.cells #[] T.uint8)) := Fr.push _ _
    refine den_append (cs := []) tU uU (.row h.size 0 #[] T.uint8 rfl push_new (Nat.le_refl _) (by simp) rfl (fun j v hj => by cases hj)) (hr.frame f1 (fun _ _ => id)) (by rw [bc_len, Nat.mul_one]) (bc_one bs) (by omega) (by omega) ?_
    intro p' c' h' o1 _ f2 g
    rw [Nat.zero_add, List.nil_append] at o1
    refine ⟨_, _, _, rfl, ?_⟩
    rw [Nat.zero_add]
    have g' : ∀ x, inBlk p' x → h.size ≤ x := fun x hx => by
      rcases g x hx with ⟨a, e, rfl⟩ | h2
      · cases e; exact Nat.le_refl _
      · simp at h2; omega
    exact hk p' c' h' o1 (f1.step f2 (fun c hc ⟨a, e, e2⟩ => by cases e; simp at e2; omega)) g'
theorem lit_ok {bs : List UInt8} {n : Nat} {cs : Array Value} {K : Option Addr → Nat → Nat → Heap → Prop} (hc : cs = (bc bs).toArray) (hk : ∀ h', Row h' (some ⟨h.size, 0, none⟩) (bc bs) → Fr (fun _ => False) h h' → K (some ⟨h.size, 0, none⟩) n n h') :
    NewP h (.cells cs T.uint8) fun b h_4 => denSem Tryz.prog (convert T.s_uint8 T.s_uint8 (.slice (some ⟨b, 0, none⟩) n n)) h_4 fun v h_5 => ∃ (p : Option Addr) (l c : Nat), v = .slice p l c ∧ K p l c h_5 := by
  subst hc
  refine newP_of (den_lit uU u8 (a := ⟨h.size, 0, none⟩) push_new fun h4 fz4 hb4 sz4 ot4 => ⟨_, _, _, rfl, ?_⟩)
  refine hk h4 (.inr ⟨_, rfl, heldL_blk hb4 (fun j v hj => by rw [Nat.zero_add]; simpa using hj)⟩) ⟨by rw [sz4]; simp, fun c hc _ => by rw [ot4 c (by simp; omega), Array.getElem?_push, if_neg (by omega)]⟩
end Fld
end Go.Proofs.YtgccegnmggjkjaaGreatDoor
