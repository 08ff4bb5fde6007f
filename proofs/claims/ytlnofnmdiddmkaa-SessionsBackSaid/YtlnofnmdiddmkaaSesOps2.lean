/-
  What is proved here: what the functions of package sessions do to a table in memory: answers and notes. No condition.
-/
import Derived.Test.YtlnofnmdiddmkaaSesOps
namespace Go.Proofs.Ytlnofnmdiddmkaa
open Go.Den Go.Fields
namespace Ses
open Fld
variable {h h' h0 : Heap} {t : Nat} {X : Ft} {R : Value → Heap → Prop} {p q : Option Addr} {c d i : Nat} {lab : Lab} {D : Nat → Prop} {L : List SC} {A : List Ses}

theorem Tab.on (TB : Tab h t lab D L) (f : Fr (fun _ => False) h h') : Tab h' t lab D L := by
  obtain ⟨p, c, hb, own, hp⟩ := TB.blk
  refine ⟨⟨p, c, f.get hb id, own.frame f (fun _ _ => id), hp⟩, TB.lt0, fun i s hs => (TB.ses i s hs).frame f (fun _ _ _ _ _ => id) (fun _ _ => id), ?_, ?_, TB.ap⟩
  · intro c r hr; exact Nat.lt_of_lt_of_le (TB.llt c r hr) f.1
  · intro c hd; exact Nat.lt_of_lt_of_le (TB.dlt c hd) f.1
theorem abs_filter (xs : List AV) (id : Nat) : (xs.filter (fun x => decide (x.id ≠ id))).map AV.abs = (xs.map AV.abs).filter (fun a => decide (a.1 ≠ id)) := by
  rw [List.filter_map]; rfl

theorem keep_okB {B : List Nat} {num : Int} {k : Int} (id : Nat) (hk0 : k = (id : Int)) {b : List UInt8} {n m : Nat} (H : HasB h t X A B) (ok : okA A) (hr : Row h p (bc b)) (hn : n = b.length) (hp : b ≠ [] → ∀ x, inBlk p x → ¬ X.M x)
    (hk : ∀ h' X', HasB h' t X' (keepA A num id b) B → StepF X h X' h' → R (.int .i64 (keepE A num id b)) h') :
    CallsH Try.prog F.sessions_Table_Keep #[.pointer (some ⟨t, 0, none⟩), .int .i64 num, .int .u64 k, .slice p n m] h R := by
  subst hk0 hn
  have H0 := H
  obtain ⟨lab, L, TB, rfl, rfl, hS⟩ := H
  have hl := ok.le
  rw [List.length_map] at hl
  refine sessions_Table_Keep.walk (newP_of ?_)
  have f1 : Fr (fun _ => False) h (h.push (.cells #[.int .u64 (id : Int)] T.uint64)) := Fr.push _ _
  have id1 : IdAt (h.push (.cells #[.int .u64 (id : Int)] T.uint64)) h.size id := push_new
  have sz1 : (h.push (.cells #[.int .u64 (id : Int)] T.uint64)).size = h.size + 1 := Array.size_push _
  generalize h.push (.cells #[.int .u64 (id : Int)] T.uint64) = h1 at f1 id1 sz1 ⊢
  have TB1 := TB.on f1
  have st1 : StepF X h X h1 := StepF.of_no f1
  unfold keepA keepE at hk
  refine find_ok TB1 (fun i s e hs => ⟨_, _, rfl, ?_⟩) (fun hn => ⟨_, _, rfl, ?_⟩) (by omega)
  · rw [if_neg (by simp)]
    subst e
    rw [getA_at, abs_at hs] at hk
    dsimp only at hk
    refine JoinP.of fun J hJ => ?_
    have jt : (id > 1099511627776 ∨ b.length > 1000) → J true h1 := by
      intro hh
      subst hJ
      simp only [if_true]
      simp only [hh, if_true] at hk
      exact hk h1 X (H0.frame f1 (fun _ _ x => x)) st1
    have jf : ¬ (id > 1099511627776 ∨ b.length > 1000) → J false h1 := by
      intro hh
      subst hJ
      simp only [Bool.false_eq_true, if_false]
      simp only [hh, if_false] at hk
      have SA := TB1.ses i s hs
      have okS := ok.at_ i _ (abs_at hs)
      have kl : s.kept.length ≤ 6 := by have := okS.kl; rwa [show s.abs.kept.length = s.kept.length from List.length_map _] at this
      have nbk : ∀ c, inBlk s.kp c → c ≠ s.b := fun c hc e => by have h1 := SA.kl c hc; rw [e, SA.lb] at h1; simp at h1
      have nbn : ∀ c, inBlk s.np c → c ≠ s.b := fun c hc e => by have h1 := SA.nl c hc; rw [e, SA.lb] at h1; simp at h1
      have nkn : ∀ c, inBlk s.kp c → ¬ inBlk s.np c := fun c hc h2 => by have h1 := SA.kl c hc; rw [SA.nl c h2] at h1; simp at h1
      have kS : ∀ c, inBlk s.kp c → X.M c := fun c hc => (hS c).2 ⟨_, SA.kl c hc⟩
      have bS : X.M s.b := (hS s.b).2 ⟨_, SA.lb⟩
      have idb : ¬ inBlk s.kp h.size := fun hx => by have := (H0.lt _ (.inl (kS _ hx))); omega
      have idb' : h.size ≠ s.b := fun e => by have := H0.lt _ (.inl bS); omega
      have kD : ∀ c, X.D c → ¬ (c = s.b ∨ inBlk s.kp c) := fun c hc hx => hx.elim (fun e => TB.ap c _ (e ▸ SA.lb) hc) (fun hx => TB.ap c _ (SA.kl c hx) hc)
      refine onSome_some.2 ⟨_, _, _, cell_at SA.blk rfl, del_ok SA.kown rfl (by omega) id1 idb fun h4 o4 f4 id4 => ⟨_, _, _, rfl, onSome_some.2 ?_⟩⟩
      have hat4 := f4.get SA.blk (fun hx => nbk _ hx rfl)
      refine storeP_blk hat4 (by simp) fun h5 k1 k2 k3 => onSome_some.2 ?_
      have f5 : Fr (fun x => x = s.b) h4 h5 := Fr.of_eq k2 k3
      have id5 : IdAt h5 h.size id := f5.get id4 idb'
      have F5 : Fr (fun x => x = s.b ∨ inBlk s.kp x) h1 h5 := (f4.mono (fun _ _ hx => .inr hx)).tt (f5.mono (fun _ _ hx => .inl hx))
      have row5 : Row h5 p (bc b) := by
        by_cases hb : b = []
        · rw [hb]; exact .inl rfl
        · refine (hr.frame f1 (fun _ _ x => x)).frame F5 (fun a e hx => ?_)
          have := hp hb a.block ⟨a, e, rfl⟩
          exact hx.elim (fun e => this (e ▸ bS)) (fun hx => this (kS _ hx))
      refine ⟨_, _, _, cell_at k1 rfl, _, cell_at id5 rfl, clone_ok row5 rfl (by omega) fun p6 c6 h6 o6 f6 g6 => ⟨_, _, _, rfl, cell_at (f6.get id5 (fun x => x)) rfl, cell_at (f6.get k1 (fun x => x)) rfl, ?_⟩⟩
      refine newP_of ?_
      have f7 : Fr (fun _ => False) h6 (h6.push (.cells #[.int .u64 (id : Int), .slice p6 b.length c6] T.sessions_Answer)) := Fr.push _ _
      have row7 : Row (h6.push (.cells #[.int .u64 (id : Int), .slice p6 b.length c6] T.sessions_Answer)) (some ⟨h6.size, 0, none⟩) (AV.enc ⟨id, ⟨p6, c6, b⟩⟩) := row_new (cs := AV.enc ⟨id, ⟨p6, c6, b⟩⟩)
      have sz7 : (h6.push (.cells #[.int .u64 (id : Int), .slice p6 b.length c6] T.sessions_Answer)).size = h6.size + 1 := Array.size_push _
      generalize h6.push (.cells #[.int .u64 (id : Int), .slice p6 b.length c6] T.sessions_Answer) = h7 at f7 row7 sz7 ⊢
      have f67 := f6.tt f7
      have id7 : IdAt h7 h.size id := f67.get id5 (fun x => x)
      have k17 := f67.get k1 (fun x => x)
      refine ⟨cell_at id7 rfl, cell_at k17 rfl, ?_⟩
      have o5 := o4.frame f5 (fun x hx e => nbk x hx e)
      have o7 := o5.frame f67 (fun _ _ x => x)
      have fl := List.length_filter_le (fun x : AV => decide (x.id ≠ id)) s.kept
      refine den_append tA uA o7 row7 rfl (fun v hv => by simp at hv; rcases hv with rfl | rfl <;> rfl) (by omega) (by omega) ?_
      intro p8 c8 h8 o8 _ f8 g8
      have id8 : IdAt h8 h.size id := f8.get id7 idb
      have k18 := f8.get k17 (fun hx => nbk _ hx rfl)
      refine ⟨_, _, _, rfl, cell_at id8 rfl, onSome_some.2 ?_⟩
      refine storeP_blk k18 (by simp) fun h9 q1 q2 q3 => onSome_some.2 ⟨_, _, _, cell_at q1 rfl, ?_⟩
      have f9 : Fr (fun x => x = s.b) h8 h9 := Fr.of_eq q2 q3
      have z5 : h1.size ≤ h5.size := F5.1
      have z6 := f6.1
      have z8 := f8.1
      have sb1 : s.b < h1.size := lt_of_get SA.blk
      have kb1 : ∀ c, inBlk s.kp c → c < h1.size := fun c hc => SA.kown.blk_lt hc
      have np8 : ∀ c, inBlk p8 c → inBlk s.kp c ∨ h7.size ≤ c := g8
      have n8b : ∀ c, inBlk p8 c → c ≠ s.b := fun c hc e => (np8 c hc).elim (fun hx => nbk c hx e) (fun hx => by omega)
      have o9 := o8.frame f9 (fun x hx e => n8b x hx e)
      have F9 : Fr (fun x => x = s.b ∨ inBlk s.kp x) h1 h9 := F5.tt ((f67.mono (fun _ _ => False.elim)).tt ((f8.mono (fun _ _ hx => .inr hx)).tt (f9.mono (fun _ _ hx => .inl hx))))
      have b6 : ∀ c, inBlk p6 c → h5.size ≤ c ∧ c < h6.size := fun c hc => ⟨g6 c hc, o6.blk_lt hc⟩
      have o69 : Own h9 p6 b.length c6 1 (bc b) := ((o6.frame f7 (fun _ _ x => x)).frame f8 (fun c hc hx => by have := b6 c hc; have := kb1 c hx; omega)).frame f9 (fun c hc e => by have := b6 c hc; omega)
      have cat : (s.kept.filter (fun x : AV => decide (x.id ≠ id))).flatMap AV.enc ++ AV.enc ⟨id, ⟨p6, c6, b⟩⟩ = (s.kept.filter (fun x : AV => decide (x.id ≠ id)) ++ [(⟨id, ⟨p6, c6, b⟩⟩ : AV)]).flatMap AV.enc := by rw [List.flatMap_append]; simp
      rw [cat] at o9
      have kabs : (s.kept.filter (fun x : AV => decide (x.id ≠ id)) ++ [(⟨id, ⟨p6, c6, b⟩⟩ : AV)]).map AV.abs = s.abs.kept.filter (fun a => decide (a.1 ≠ id)) ++ [(id, b)] := by
        rw [List.map_append, abs_filter]; rfl
      have klen : (s.kept.filter (fun x : AV => decide (x.id ≠ id)) ++ [(⟨id, ⟨p6, c6, b⟩⟩ : AV)]).length = (s.kept.filter (fun x : AV => decide (x.id ≠ id))).length + 1 := by rw [List.length_append]; rfl
      have kdat : ∀ a ∈ s.kept.filter (fun x : AV => decide (x.id ≠ id)) ++ [(⟨id, ⟨p6, c6, b⟩⟩ : AV)], a.v.ok h9 (fun c => X.D c ∨ inBlk p6 c) := by
        intro a ha
        rcases List.mem_append.1 ha with ha | ha
        · exact ((SA.kd a (List.mem_filter.1 ha).1).frame F9 kD).mono (fun c => .inl)
        · simp at ha; subst ha; exact BV.of_own o69 (fun c => .inr)
      generalize s.kept.filter (fun x : AV => decide (x.id ≠ id)) ++ [(⟨id, ⟨p6, c6, b⟩⟩ : AV)] = K at *
      generalize (s.kept.filter (fun x : AV => decide (x.id ≠ id))).length = fl0 at *
      refine JoinP.of fun J1 hJ1 => ?_
      have fin : ∀ (h12 : Heap) (K' : List AV) (kp' : Option Addr) (kc' : Nat), (∃ j, K' = K.drop j) → K'.map AV.abs = keepL s.abs.kept id b → At h12 { s with kept := K', kp := kp', kc := kc' } → Own h12 kp' K'.length kc' 2 (K'.flatMap AV.enc) →
          (∀ c, inBlk kp' c → inBlk s.kp c ∨ h7.size ≤ c) → Fr (fun x => x = s.b) h9 h12 → J1 h12 := by
        intro h12 K' kp' kc' ⟨j, hj⟩ hK hat hown hkp f12
        subst hJ1
        have F12 : Fr (fun x => x = s.b ∨ inBlk s.kp x) h1 h12 := F9.tt (f12.mono (fun _ _ hx => .inl hx))
        obtain ⟨X', HH, st⟩ := TB1.upd (s' := { s with kept := K', kp := kp', kc := kc' }) (E := inBlk p6) hS hs rfl F12 (fun c hx => hx.elim (fun e => ⟨_, e ▸ SA.lb, by omega, by omega⟩) (fun hx => ⟨_, SA.kl c hx, by omega, by omega⟩)) hat hown
          (fun c hc => (hkp c hc).imp (SA.kl c) (fun hx => by omega)) (SA.nown.frame F12 (fun c hc hx => hx.elim (nbn c hc) (fun hx => nkn c hx hc))) (fun c hc => .inl (SA.nl c hc))
          (fun c hc h2 => (hkp c hc).elim (fun hx => nkn c hx h2) (fun hx => by have := SA.nown.blk_lt h2; omega))
          (fun c hc => ⟨by have := (b6 c hc).1; omega, by have := (b6 c hc).2; have := f9.1; have := f12.1; omega, fun hx => (hkp c hx).elim (fun h2 => by have := kb1 c h2; have := b6 c hc; omega) (fun h2 => by have := b6 c hc; omega), fun hx => by have := SA.nown.blk_lt hx; have := b6 c hc; omega⟩)
          (fun a ha => (kdat a (by rw [hj] at ha; exact List.mem_of_mem_drop ha)).frame f12 (fun c hc e => hc.elim (fun hc => kD c hc (.inl e)) (fun hc => by have := b6 c hc; omega)))
          (fun n hn => ((SA.nd n hn).frame F12 kD).mono (fun c => .inl))
        refine hk h12 X' ?_ (st1.trans st)
        unfold setA
        rw [show ((i : Int) + 1 - 1).toNat = i by omega]
        have : ({ s with kept := K', kp := kp', kc := kc' } : SC).abs = { s.abs with kept := keepL s.abs.kept id b } := by
          unfold SC.abs
          dsimp only
          rw [hK]; rfl
        rw [this] at HH
        exact HH
      clear hJ1
      unfold keepL at fin
      rw [← kabs, List.length_map, klen] at fin
      by_cases h6' : ((fl0 + 1 : Nat) : Int) > 6
      · simp only [h6', decide_true, if_true]
        rw [if_pos (by omega)] at fin
        refine onSome_some.2 ⟨_, _, _, cell_at q1 rfl, ⟨by omega, by omega⟩, ?_⟩
        rw [← klen] at o9
        have osub := o9.sub (l := 1) (u := K.length) (by omega) (Nat.le_refl _)
        rw [← flat_len AV.enc 2 aenc_len K, List.take_length, flat_drop AV.enc 2 aenc_len] at osub
        refine cloneA_ok osub.row' (by rw [List.length_drop, ← klen]; rfl) (by rw [List.length_drop]; omega) fun p11 c11 h11 o11 f11 g11 => ⟨_, _, _, rfl, onSome_some.2 ?_⟩
        have q11 := f11.get q1 (fun x => x)
        refine storeP_blk q11 (by simp) fun h12 r1 r2 r3 => ?_
        have f12 : Fr (fun x => x = s.b) h11 h12 := Fr.of_eq r2 r3
        have z9 := f9.1
        refine fin h12 (K.drop 1) p11 c11 ⟨1, rfl⟩ List.map_drop ?_ (o11.frame f12 (fun c hc e => by have := g11 c hc; omega)) (fun c hc => .inr (by have := g11 c hc; omega)) ((f11.mono (fun _ _ => False.elim)).tt f12)
        exact r1
      · simp only [h6', decide_false, Bool.false_eq_true, if_false]
        rw [if_neg (by omega)] at fin
        refine fin h9 K p8 c8 ⟨0, rfl⟩ rfl ?_ (by rw [klen]; exact o9) np8 (Fr.refl _ _)
        show h9[s.b]? = _
        rw [q1]
        dsimp only
        rw [klen]; rfl
    clear hJ
    refine ⟨_, cell_at id1 rfl, ?_⟩
    by_cases c1 : (id : Int) > 1099511627776
    · simp only [c1, decide_true, if_true]
      exact jt (.inl (by omega))
    · simp only [c1, decide_false, Bool.false_eq_true, if_false]
      by_cases c2 : ((b.length : Nat) : Int) > 1000
      · simp only [c2, decide_true]
        exact jt (.inr (by omega))
      · simp only [c2, decide_false]
        exact jf (by omega)
  · rw [if_pos (by rfl)]
    rw [getA_none (by rw [List.length_map]; exact hn)] at hk
    exact hk h1 X (H0.frame f1 (fun _ _ x => x)) st1

theorem keep_ok {num : Int} {k : Int} (id : Nat) (hk0 : k = (id : Int)) {b : List UInt8} {n m : Nat} (H : Has h t X A) (ok : okA A) (hr : Row h p (bc b)) (hn : n = b.length) (hp : b ≠ [] → ∀ x, inBlk p x → ¬ X.M x)
    (hk : ∀ h' X', Has h' t X' (keepA A num id b) → StepF X h X' h' → R (.int .i64 (keepE A num id b)) h') :
    CallsH Try.prog F.sessions_Table_Keep #[.pointer (some ⟨t, 0, none⟩), .int .i64 num, .int .u64 k, .slice p n m] h R := by
  obtain ⟨B, H⟩ := H
  exact keep_okB id hk0 H ok hr hn hp fun h' X' H' st => hk h' X' ⟨B, H'⟩ st

theorem kept_find (xs : List AV) (id : Nat) : keptL (xs.map AV.abs) id = (xs.find? (fun a => decide (a.id = id))).map (fun a => a.v.b) := by
  unfold keptL
  rw [List.find?_map, Option.map_map]
  rfl
theorem kept_ok {num : Int} {k : Int} (id : Nat) (hk0 : k = (id : Int)) (H : Has h t X A) (ok : okA A)
    (k1 : ∀ b, keptA A num id = some b → ∀ h' p' c', Own h' p' b.length c' 1 (bc b) → Fr (fun _ => False) h h' → (∀ x, inBlk p' x → h.size ≤ x) → R (.tuple #[.slice p' b.length c', .bool true]) h')
    (k2 : keptA A num id = none → ∀ h', Fr (fun _ => False) h h' → R (.tuple #[.slice none 0 0, .bool false]) h') :
    CallsH Try.prog F.sessions_Table_Kept #[.pointer (some ⟨t, 0, none⟩), .int .i64 num, .int .u64 k] h R := by
  subst hk0
  obtain ⟨_, lab, L, TB, rfl, _, hS⟩ := H
  have hl := ok.le
  rw [List.length_map] at hl
  refine sessions_Table_Kept.walk (newP_of ?_)
  have f1 : Fr (fun _ => False) h (h.push (.cells #[.int .u64 (id : Int)] T.uint64)) := Fr.push _ _
  have id1 : IdAt (h.push (.cells #[.int .u64 (id : Int)] T.uint64)) h.size id := push_new
  generalize h.push (.cells #[.int .u64 (id : Int)] T.uint64) = h1 at f1 id1 ⊢
  have TB1 := TB.on f1
  unfold keptA at k1 k2
  refine find_ok TB1 (fun i s e hs => ⟨_, _, rfl, ?_⟩) (fun hn => ⟨_, _, rfl, ?_⟩) (by omega)
  · rw [if_neg (by simp)]
    subst e
    rw [getA_at, abs_at hs] at k1 k2
    dsimp only at k1 k2
    rw [show s.abs.kept = s.kept.map AV.abs from rfl, kept_find] at k1 k2
    have SA := TB1.ses i s hs
    have okS := ok.at_ i _ (abs_at hs)
    have kl : s.kept.length ≤ 6 := by have := okS.kl; rwa [show s.abs.kept.length = s.kept.length from List.length_map _] at this
    refine onSome_some.2 ⟨_, _, _, cell_at SA.blk rfl, idxKept_ok SA.kown.row' rfl (by omega) id1 fun h3 f3 => ⟨_, rfl, ?_⟩⟩
    unfold idxA
    cases hf : s.kept.findIdx? (fun a => decide (a.id = id)) with
    | none =>
      rw [if_pos (by rfl)]
      have : s.kept.find? (fun a => decide (a.id = id)) = none := by
        rw [List.find?_eq_none]
        intro a ha
        have := List.findIdx?_eq_none_iff.1 hf a ha
        simpa using this
      rw [this] at k2
      exact k2 rfl h3 (f1.tt f3)
    | some j =>
      dsimp only
      obtain ⟨hjl, hje, hjb⟩ := List.findIdx?_eq_some_iff_getElem.1 hf
      rw [if_neg (by simp only [decide_eq_true_eq]; omega)]
      have hsj : s.kept[j]? = some s.kept[j] := List.getElem?_eq_getElem hjl
      have hfind : s.kept.find? (fun a => decide (a.id = id)) = some s.kept[j] := by
        rw [List.find?_eq_some_iff_getElem]
        exact ⟨hje, j, hjl, rfl, fun i hi => by have := hjb i hi; simpa using this⟩
      rw [hfind] at k1
      have hat3 := f3.get SA.blk (fun x => x)
      have own3 := SA.kown.frame f3 (fun _ _ x => x)
      have av := SA.kd _ (List.mem_of_getElem? hsj)
      have lenb : s.kept[j].v.b.length ≤ 1000 := (okS.kd (AV.abs s.kept[j]) (List.mem_map_of_mem (List.mem_of_getElem? hsj))).2
      generalize s.kept[j] = a at *
      obtain ⟨ab, aoff, hkp⟩ := own3.addr (by omega)
      have own3' := own3
      rw [hkp] at own3'
      have hh := own3'.heldAt aenc_len hsj
      refine onSome_some.2 ⟨_, _, _, cell_at hat3 rfl, ⟨by omega, by omega⟩, ?_⟩
      rw [hkp]
      refine onSome_some.2 ⟨a.v.p, a.v.b.length, a.v.c, ?_, ?_⟩
      · rw [Int.toNat_natCast]; exact hh.2.1
      refine clone_ok (av.row.frame f3 (fun _ _ x => x)) rfl (by omega) fun p4 c4 h4 o4 f4 g4 => ⟨_, _, _, rfl, ?_⟩
      exact k1 a.v.b rfl h4 p4 c4 o4 (f1.tt (f3.tt f4)) (fun x hx => by have := g4 x hx; have := (f1.tt f3).1; omega)
  · rw [if_pos (by rfl)]
    rw [getA_none (by rw [List.length_map]; exact hn)] at k2
    exact k2 rfl h1 f1
end Ses
end Go.Proofs.Ytlnofnmdiddmkaa
