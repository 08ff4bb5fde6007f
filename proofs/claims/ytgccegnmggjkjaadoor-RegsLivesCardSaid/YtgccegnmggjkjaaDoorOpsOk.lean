/-
  What is proved here: the reading of single operations ('denRead', 'denEff') is enough for the model's own run of them. No condition.
-/
import Derived.Test.YtgccegnmggjkjaaDoorOps
namespace Go.Den

section
variable {P : Program} {h : Heap}
theorem den_pure {α : Type} (a : α) (K : α → Heap → Prop) : denSem P (pure a : Sem α) h K ↔ K a h := Iff.rfl
theorem den_bind {α β : Type} (s : Sem α) (f : α → Sem β) (K : β → Heap → Prop) : denSem P (s >>= f) h K ↔ denSem P s h (fun a h' => denSem P (f a) h' K) := denSem_bind s f h K
theorem den_underlying {t : TypeId} {d : TypeDesc} (hd : P.underlying t = some d) (K : TypeDesc → Heap → Prop) : denSem P (underlying t) h K ↔ K d h := by
  unfold underlying
  rw [den_bind]
  show denSem P (match P.underlying t with | some d => pure d | none => stuck "no such type") h K ↔ _
  rw [hd]; exact Iff.rfl
theorem den_typeInfo {t : TypeId} {i : TypeInfo} (hi : P.info? t = some i) (K : TypeInfo → Heap → Prop) : denSem P (typeInfo t) h K ↔ K i h := by
  unfold typeInfo
  rw [den_bind]
  show denSem P (match P.info? t with | some d => pure d | none => stuck "no such type") h K ↔ _
  rw [hi]; exact Iff.rfl
theorem den_sizeOf {t : TypeId} {i : TypeInfo} (hi : P.info? t = some i) (K : Nat → Heap → Prop) : denSem P (sizeOf t) h K ↔ K i.size h := by
  unfold sizeOf
  rw [den_bind, den_typeInfo hi]; exact Iff.rfl
theorem rd_pure {α : Type} (a : α) : rd P (pure a : Sem α) h = some a := rfl
theorem rd_underlying {t : TypeId} {d : TypeDesc} (hd : P.underlying t = some d) : rd P (underlying t) h = some d := by
  show rd P (match P.underlying t with | some d => pure d | none => stuck "no such type") h = _
  rw [hd]; rfl
theorem rd_typeInfo {t : TypeId} {i : TypeInfo} (hi : P.info? t = some i) : rd P (typeInfo t) h = some i := by
  show rd P (match P.info? t with | some d => pure d | none => stuck "no such type") h = _
  rw [hi]; rfl
theorem rd_sizeOf {t : TypeId} {i : TypeInfo} (hi : P.info? t = some i) : rd P (sizeOf t) h = some i.size := by
  unfold sizeOf
  rw [rd_bind _ _ _ _ (rd_typeInfo hi)]; rfl
theorem isAggB_some {t : TypeId} (hb : isAggB P t = true) : ∃ d, P.underlying t = some d ∧ ((∃ fs, d = .struct fs) ∨ ∃ n e, d = .array n e) := by
  unfold isAggB at hb
  split at hb
  · rename_i fs e; exact ⟨_, e, .inl ⟨_, rfl⟩⟩
  · rename_i n el e; exact ⟨_, e, .inr ⟨_, _, rfl⟩⟩
  · cases hb
theorem rd_isAgg_true {t : TypeId} (hb : isAggB P t = true) : rd P (isAgg t) h = some true := by
  obtain ⟨d, hd, hh⟩ := isAggB_some hb
  unfold isAgg
  rw [rd_bind _ _ _ _ (rd_underlying hd)]
  rcases hh with ⟨fs, rfl⟩ | ⟨n, e, rfl⟩ <;> rfl
theorem rd_isAgg_false {t : TypeId} {l : Leaf} (hl : leafOf P t = some l) : rd P (isAgg t) h = some false := by
  unfold leafOf at hl
  unfold isAgg
  cases hd : P.underlying t with
  | none => rw [hd] at hl; cases hl
  | some d => rw [rd_bind _ _ _ _ (rd_underlying hd)]; rw [hd] at hl; cases d <;> first | rfl | cases hl
end

section
variable {P : Program}

theorem add_zero (a : Addr) : a.add 0 = a := rfl

theorem rd_load {a : Addr} {h : Heap} {v : Value} (hc : hcell h a = some v) : rd P (load a) h = some v := by
  unfold load
  simp only [rd, hc]

theorem rd_loadCellsFrom {a : Addr} : ∀ (vs : List Value) (i : Nat) (acc : Array Value) (h : Heap), heldL a vs i h → rd P (loadCellsFrom a i vs.length acc) h = some (acc ++ vs.toArray)
  | [], i, acc, h, _ => by simp [loadCellsFrom, rd_pure]
  | v :: vs, i, acc, h, hh => by
    obtain ⟨h1, h2⟩ := hh
    simp only [List.length_cons, loadCellsFrom]
    rw [rd_bind _ _ _ _ (rd_load h1), rd_loadCellsFrom vs (i + 1) _ h h2]
    simp

theorem loadL_held {h : Heap} {a : Addr} : ∀ (ls : List Leaf) (i : Nat) (F : List Value → Prop), loadL h a ls i F → ∃ vs, vs.length = ls.length ∧ heldL a vs i h ∧ F vs
  | [], _, _, hh => ⟨[], rfl, trivial, hh⟩
  | _ :: ls, i, _, hh => by
    obtain ⟨v, h1, h2⟩ := Leaf.ex_some hh
    obtain ⟨vs, hl, h3, h4⟩ := loadL_held ls (i + 1) _ h2
    exact ⟨v :: vs, by simp [hl], ⟨h1, h3⟩, h4⟩

def okS : Option (Heap → Prop) → Heap → Prop
  | some S, h => S h
  | none, _ => True

/-- the value v, wherever S holds, and the heap stays -/
def Yv (P : Program) (s : Sem Value) (S : Option (Heap → Prop)) (v : Value) : Prop :=
  ∀ h', okS S h' → rd P s h' = some v

theorem denLoad_ok {t : TypeId} {h : Heap} {a : Addr} {K : Value → Option (Heap → Prop) → Prop} (hh : denLoad P t h a K) :
    ∃ v S, K v S ∧ okS S h ∧ Yv P (loadVar t a) S v := by
  unfold denLoad at hh
  split at hh
  · rename_i hb
    split at hh
    · rename_i ls i hls hi
      split at hh
      · rename_i hn
        obtain ⟨vs, hl, h1, h2⟩ := loadL_held _ _ _ hh
        refine ⟨_, _, h2, h1, fun h' hs => ?_⟩
        unfold loadVar
        rw [rd_bind _ _ _ _ (rd_isAgg_true hb)]
        simp only [if_true]
        rw [rd_bind _ _ _ _ (rd_sizeOf hi)]
        have e : i.size = vs.length := by rw [hl]; exact Nat.eq_of_beq_eq_true hn
        unfold loadCells
        rw [e, rd_bind _ _ _ _ (rd_loadCellsFrom vs 0 #[] h' hs)]
        simp [rd_pure]
      · exact hh.elim
    · exact hh.elim
  · split at hh
    · rename_i l hl
      obtain ⟨v, h1, h2⟩ := Leaf.ex_some hh
      refine ⟨v, _, h2, h1, fun h' hs => ?_⟩
      unfold loadVar
      rw [rd_bind _ _ _ _ (rd_isAgg_false hl)]
      exact rd_load hs
    · exact hh.elim

theorem pureK_ok {o : Oper} {σ : Env} {ρ : Operand → Value} {K : Value → Option (Heap → Prop) → Prop} (hf : Fits σ ρ) (hs : ∀ cs b, o.op ≠ .select cs b) (hh : pureK P o σ K) :
    ∃ v, K v none ∧ ∀ h', rd P (execOp ρ o) h' = some (.value v) := by
  unfold pureK at hh
  split at hh
  · rename_i hd
    split at hh
    · rename_i v hv
      exact ⟨v, hh, fun h' => runPure_rd _ _ (by rw [← exec_tot hf o hd hs]; exact hv) _⟩
    · exact hh.elim
  · exact hh.elim

theorem nilCmp_ok {t : TypeId} {u v : Value} {b : Bool} (hh : nilCmp P t u v = some b) : ∀ h', rd P (Op.equal t u v) h' = some b := by
  intro h'
  unfold Op.equal Op.maxDepth
  unfold nilCmp at hh
  split at hh
  · split at hh
    · rename_i p e he
      simp only [Option.some.injEq] at hh
      subst hh
      unfold Op.equalIn
      rw [rd_bind _ _ _ _ (rd_underlying he)]
      cases p <;> rfl
    · cases hh
  · split at hh
    · rename_i m k e he
      simp only [Option.some.injEq] at hh
      subst hh
      unfold Op.equalIn
      rw [rd_bind _ _ _ _ (rd_underlying he)]
      cases m <;> rfl
    · cases hh
  · split at hh
    · rename_i p _ _ e he
      simp only [Option.some.injEq] at hh
      subst hh
      unfold Op.equalIn
      rw [rd_bind _ _ _ _ (rd_underlying he)]
      cases p <;> rfl
    · cases hh
  · cases hh

theorem nilCmp_guard {op : BinOp} {t : TypeId} {x y : Operand} {u v : Value} {b : Bool} (hh : nilCmp P t u v = some b) : ∀ h', rd P (eqGuard op t x y u v) h' = some () := by
  intro h'
  unfold nilCmp at hh
  unfold eqGuard
  split at hh
  · split at hh
    · split <;> exact rfl
    · cases hh
  · split at hh
    · split <;> exact rfl
    · cases hh
  · split at hh
    · split <;> exact rfl
    · cases hh
  · cases hh

theorem nilCmp_form {t : TypeId} {u v : Value} {b : Bool} (hh : nilCmp P t u v = some b) :
    (∃ p, u = .pointer p ∧ v = .pointer none) ∨ (∃ m, u = .map m ∧ v = .map none) ∨ (∃ p l c l' c', u = .slice p l c ∧ v = .slice none l' c') := by
  unfold nilCmp at hh
  split at hh
  · split at hh
    · exact .inl ⟨_, rfl, rfl⟩
    · cases hh
  · split at hh
    · exact .inr (.inl ⟨_, rfl, rfl⟩)
    · cases hh
  · split at hh
    · exact .inr (.inr ⟨_, _, _, _, _, rfl, rfl⟩)
    · cases hh
  · cases hh

theorem eqGuard_other {op : BinOp} {t : TypeId} {x y : Operand} {u v : Value} (h1 : op ≠ .eql) (h2 : op ≠ .neq) : eqGuard op t x y u v = pure () := by
  cases op <;> first | rfl | exact absurd rfl h1 | exact absurd rfl h2

theorem exec_bin {o : Oper} {op : BinOp} {t t' : TypeId} {x y : Operand} {ρ : Operand → Value} {u v r : Value} {h : Heap} (ho : o.op = .binOp op t x y t') (hx : ρ x = u) (hy : ρ y = v)
    (h1 : rd P (eqGuard op t x y u v) h = some ()) (h2 : rd P (binOp op t u v) h = some r) : rd P (execOp ρ o) h = some (.value r) := by
  unfold execOp; rw [ho]
  simp only [hx, hy]
  have h3 : rd P (do eqGuard op t x y u v; binOp op t u v) h = some r := by rw [rd_bind _ _ _ _ h1]; exact h2
  rw [rd_bind _ _ _ _ h3]; rfl

theorem eqForm_ok {o : Oper} {op : BinOp} {t t' : TypeId} {x y : Operand} {ρ : Operand → Value} {u v : Value} (ho : o.op = .binOp op t x y t') (hop : op = .eql ∨ op = .neq) (hx : ρ x = u) (hy : ρ y = v) (hq : eqForm P o t u v = true) {b : Bool} (hb : EqV P t u v b) :
    ∀ h', rd P (execOp ρ o) h' = some (.value (.bool (if op = .eql then b else !b))) := by
  intro h'
  have hguard : rd P (eqGuard op t x y u v) h' = some () := by
    unfold eqForm at hq
    split at hq
    · have hc : ∃ c, y = .const c := by
        unfold constY at hq
        rw [ho] at hq
        cases y <;> first | exact ⟨_, rfl⟩ | cases hq
      obtain ⟨c, rfl⟩ := hc
      unfold eqGuard
      rcases hop with rfl | rfl <;> cases u <;> first | rfl | (cases x <;> rfl)
    · split at hq
      · unfold eqGuard
        rcases hop with rfl | rfl
        · show rd P (program >>= fun p => program >>= fun q => if (!p.eqGuardType q.depth t) = true then pure () else _) h' = some ()
          rw [rd_bind _ _ _ _ (show rd P program h' = some P from rfl), rd_bind _ _ _ _ (show rd P program h' = some P from rfl), if_pos hq]
          rfl
        · show rd P (program >>= fun p => program >>= fun q => if (!p.eqGuardType q.depth t) = true then pure () else _) h' = some ()
          rw [rd_bind _ _ _ _ (show rd P program h' = some P from rfl), rd_bind _ _ _ _ (show rd P program h' = some P from rfl), if_pos hq]
          rfl
      · cases hq
    · split at hq
      · unfold eqGuard
        split <;> exact rfl
      · cases hq
    · cases hq
  refine exec_bin ho hx hy hguard ?_
  have key : ∀ u v : Value, (eqForm P o t u v = true) → EqV P t u v b → rd P (binOp op t u v) h' = some (.bool (if op = .eql then b else !b)) := by
    intro u v hq hb
    unfold eqForm at hq
    split at hq
    · rcases hop with rfl | rfl
      · have : binOp .eql t u .nilIface = (Op.equal t u .nilIface >>= fun q => pure (Value.bool q)) := by cases u <;> rfl
        rw [this, rd_bind _ _ _ _ (hb h')]; rfl
      · have : binOp .neq t u .nilIface = (Op.equal t u .nilIface >>= fun q => pure (Value.bool (!q))) := by cases u <;> rfl
        rw [this, rd_bind _ _ _ _ (hb h')]; rfl
    · split at hq
      · rcases hop with rfl | rfl
        · show rd P (Op.equal t _ _ >>= fun q => pure (Value.bool q)) h' = _
          rw [rd_bind _ _ _ _ (hb h')]; rfl
        · show rd P (Op.equal t _ _ >>= fun q => pure (Value.bool (!q))) h' = _
          rw [rd_bind _ _ _ _ (hb h')]; rfl
      · cases hq
    · split at hq
      · rcases hop with rfl | rfl
        · show rd P (Op.equal t _ _ >>= fun q => pure (Value.bool q)) h' = _
          rw [rd_bind _ _ _ _ (hb h')]; rfl
        · show rd P (Op.equal t _ _ >>= fun q => pure (Value.bool (!q))) h' = _
          rw [rd_bind _ _ _ _ (hb h')]; rfl
      · cases hq
    · cases hq
  exact key u v hq hb
theorem denBin_ok {o : Oper} {op : BinOp} {t t' : TypeId} {x y : Operand} {σ : Env} {ρ : Operand → Value} {u v : Value} {K : Value → Option (Heap → Prop) → Prop}
    (ho : o.op = .binOp op t x y t') (hf : Fits σ ρ) (hx : ρ x = u) (hy : ρ y = v) (hh : denBin P o op t u v σ K) :
    ∃ v, K v none ∧ ∀ h', rd P (execOp ρ o) h' = some (.value v) := by
  have hs : ∀ cs b, o.op ≠ .select cs b := by rw [ho]; intro cs b e; cases e
  unfold denBin at hh
  split at hh
  · split at hh
    · rename_i hq
      obtain ⟨b, hb, hK⟩ := hh
      exact ⟨_, hK, eqForm_ok ho (.inl rfl) hx hy hq hb⟩
    · split at hh
      · rename_i b hb
        refine ⟨_, hh, fun h' => exec_bin ho hx hy (nilCmp_guard hb h') ?_⟩
        have hb' : binOp .eql t u v = (do pure (.bool (← Op.equal t u v))) := by
          rcases nilCmp_form hb with ⟨p, rfl, rfl⟩ | ⟨m, rfl, rfl⟩ | ⟨p, l, c, l', c', rfl, rfl⟩ <;> rfl
        rw [hb', rd_bind _ _ _ _ (nilCmp_ok hb h')]; rfl
      · exact pureK_ok hf hs hh
  · split at hh
    · rename_i hq
      obtain ⟨b, hb, hK⟩ := hh
      exact ⟨_, hK, eqForm_ok ho (.inr rfl) hx hy hq hb⟩
    · split at hh
      · rename_i b hb
        refine ⟨_, hh, fun h' => exec_bin ho hx hy (nilCmp_guard hb h') ?_⟩
        have hb' : binOp .neq t u v = (do pure (.bool (!(← Op.equal t u v)))) := by
          rcases nilCmp_form hb with ⟨p, rfl, rfl⟩ | ⟨m, rfl, rfl⟩ | ⟨p, l, c, l', c', rfl, rfl⟩ <;> rfl
        rw [hb', rd_bind _ _ _ _ (nilCmp_ok hb h')]; rfl
      · exact pureK_ok hf hs hh
  · split at hh
    · rename_i k a k' b
      split at hh
      · rename_i hk
        obtain rfl : k = k' := of_decide_eq_true hk
        split at hh
        · exact hh.elim
        · rename_i hb
          refine ⟨_, hh, fun h' => exec_bin ho hx hy (by rw [eqGuard_other (by simp) (by simp)]; rfl) ?_⟩
          simp only [binOp, ne_eq, not_true, if_false, Op.intDiv, hb]
          rfl
      · exact hh.elim
    · exact hh.elim
  · split at hh
    · rename_i k a k' b
      split at hh
      · rename_i hk
        obtain rfl : k = k' := of_decide_eq_true hk
        split at hh
        · exact hh.elim
        · rename_i hb
          refine ⟨_, hh, fun h' => exec_bin ho hx hy (by rw [eqGuard_other (by simp) (by simp)]; rfl) ?_⟩
          simp only [binOp, ne_eq, not_true, if_false, Op.intDiv, hb]
          rfl
      · exact hh.elim
    · exact hh.elim
  · split at hh
    · split at hh
      · exact hh.elim
      · rename_i hb
        refine ⟨_, hh, fun h' => exec_bin ho hx hy (by rw [eqGuard_other (by simp) (by simp)]; rfl) ?_⟩
        simp only [binOp, Op.shift, hb, if_false]
        rfl
    · exact hh.elim
  · split at hh
    · split at hh
      · exact hh.elim
      · rename_i hb
        refine ⟨_, hh, fun h' => exec_bin ho hx hy (by rw [eqGuard_other (by simp) (by simp)]; rfl) ?_⟩
        simp only [binOp, Op.shift, hb, if_false]
        rfl
    · exact hh.elim
  · split at hh
    · obtain ⟨hb, hh⟩ := hh
      refine ⟨_, hh, fun h' => exec_bin ho hx hy (by rw [eqGuard_other (by simp) (by simp)]; rfl) ?_⟩
      simp only [binOp, Op.stringOp]
      rw [if_neg (by omega)]
      rfl
    · exact pureK_ok hf hs hh
  · exact pureK_ok hf hs hh

theorem sliceBound_ok {x : Value} {k : IntKind} {n : Int} {y : Nat} {code : BoundsCode} {h : Heap} (hx : x = .int k n) (h1 : 0 ≤ n) (h2 : n ≤ (y : Int)) : rd P (Instr.sliceBound x y code) h = some n.toNat := by
  subst hx
  show rd P (if 0 ≤ n ∧ n ≤ (y : Int) then _ else _) h = _
  rw [if_pos ⟨h1, h2⟩]
  rfl

theorem optInt_some {σ : Env} {ρ : Operand → Value} (hf : Fits σ ρ) {x : Option Operand} {n : Option Int} (hh : optInt σ x = some n) :
    (x = none ∧ n = none) ∨ ∃ k m, n = some m ∧ x.map ρ = some (.int k m) := by
  cases x with
  | none => simp only [optInt, Option.some.injEq] at hh; exact .inl ⟨rfl, hh.symm⟩
  | some x =>
    simp only [optInt] at hh
    split at hh
    · rename_i k m hm
      simp only [Option.some.injEq] at hh
      exact .inr ⟨k, m, hh.symm, by simp [hf _ _ hm]⟩
    · cases hh

theorem sliceBounds_ok {σ : Env} {ρ : Operand → Value} (hf : Fits σ ρ) {lo hi : Option Operand} {l r : Option Int} (hl : optInt σ lo = some l) (hr : optInt σ hi = some r)
    {isS : Bool} {len cap : Nat} {F : Nat → Nat → Prop} (hh : sliceK len cap l r F) : ∃ a b, F a b ∧ ∀ (h : Heap),
      rd P (Instr.sliceBounds isS len cap (lo.map ρ) (hi.map ρ) none) h = some (a, b, cap) := by
  rcases optInt_some hf hl with ⟨rfl, rfl⟩ | ⟨k1, m1, rfl, e1⟩ <;> rcases optInt_some hf hr with ⟨rfl, rfl⟩ | ⟨k2, m2, rfl, e2⟩
  · exact ⟨0, len, hh, fun h => rfl⟩
  · obtain ⟨⟨h1, h2⟩, hF⟩ := hh
    refine ⟨0, m2.toNat, hF, fun h => ?_⟩
    unfold Instr.sliceBounds
    rw [e2, rd_bind _ _ _ _ (rd_pure _), rd_bind _ _ _ _ (sliceBound_ok rfl h1 h2)]
    rfl
  · obtain ⟨⟨h1, h2⟩, hF⟩ := hh
    refine ⟨m1.toNat, len, hF, fun h => ?_⟩
    unfold Instr.sliceBounds
    rw [e1, rd_bind _ _ _ _ (rd_pure _)]
    simp only [Option.map_none]
    rw [rd_bind _ _ _ _ (rd_pure _), rd_bind _ _ _ _ (sliceBound_ok rfl h1 h2)]
    rfl
  · obtain ⟨⟨h1, h2⟩, ⟨h3, h4⟩, hF⟩ := hh
    refine ⟨m1.toNat, m2.toNat, hF, fun h => ?_⟩
    unfold Instr.sliceBounds
    rw [e1, e2, rd_bind _ _ _ _ (rd_pure _), rd_bind _ _ _ _ (sliceBound_ok rfl h1 h2), rd_bind _ _ _ _ (sliceBound_ok rfl h3 (by omega))]
    rfl

theorem idxAll_at {n : Int} : ∀ (vs : List Value) (i : Nat) (F : Value → Prop), idxAll n vs i F → ∀ j, n = ((i + j : Nat) : Int) → ∀ v, vs[j]? = some v → F v
  | [], _, _, _, j, _, v, hv => by simp at hv
  | u :: vs, i, F, hh, j, hn, v, hv => by
    obtain ⟨h1, h2⟩ := hh
    cases j with
    | zero => simp only [List.getElem?_cons_zero, Option.some.injEq] at hv; subst hv; exact h1 hn
    | succ j => exact idxAll_at vs (i + 1) F h2 j (by omega) v (by simpa using hv)

theorem exec_v {s : Sem Value} {v : Value} {h : Heap} (hh : rd P s h = some v) : rd P (do pure (Next.value (← s))) h = some (.value v) := by
  rw [rd_bind _ _ _ _ hh]; rfl

theorem denRead_ok {o : Oper} {σ : Env} {ρ : Operand → Value} {h : Heap} {K : Value → Option (Heap → Prop) → Prop} (hf : Fits σ ρ) (hh : denRead P o σ h K) :
    ∃ v S, K v S ∧ okS S h ∧ ∀ h', okS S h' → rd P (execOp ρ o) h' = some (.value v) := by
  have viaPure : (∀ cs b, o.op ≠ .select cs b) → pureK P o σ K → ∃ v S, K v S ∧ okS S h ∧ ∀ h', okS S h' → rd P (execOp ρ o) h' = some (.value v) := fun hs hp => by
    obtain ⟨v, h1, h2⟩ := pureK_ok hf hs hp
    exact ⟨v, none, h1, trivial, fun h' _ => h2 h'⟩
  unfold denRead at hh
  split at hh
  · rename_i c a b ho
    split at hh
    · rename_i q va vb hc ha hb
      have e : execOp ρ o = pure (.value (if q then va else vb)) := by
        unfold execOp; rw [ho]
        simp only [hf _ _ hc, hf _ _ ha, hf _ _ hb]; rfl
      split at hh
      · rename_i hq
        exact ⟨va, none, hh, trivial, fun h' _ => by rw [e, if_pos hq]; rfl⟩
      · rename_i hq
        exact ⟨vb, none, hh, trivial, fun h' _ => by rw [e, if_neg hq]; rfl⟩
    · exact hh.elim
  · rename_i t x ho
    split at hh
    · rename_i p hp
      obtain ⟨a, rfl, hh⟩ := onSome_iff.1 hh
      obtain ⟨v, S, h1, h2, h3⟩ := denLoad_ok hh
      refine ⟨v, S, h1, h2, fun h' hs => ?_⟩
      unfold execOp; rw [ho]
      simp only [hf _ _ hp]
      exact exec_v (h3 h' hs)
    · exact hh.elim
  · rename_i x ho
    split at hh
    · rename_i p hp
      obtain ⟨a, rfl, hh⟩ := onSome_iff.1 hh
      refine ⟨_, none, hh, trivial, fun h' _ => ?_⟩
      unfold execOp; rw [ho]
      simp only [hf _ _ hp]
      rfl
    · exact viaPure (by rw [ho]; intro cs b e; cases e) hh
  · rename_i op t x y t' ho
    split at hh
    · rename_i u v hu hv
      obtain ⟨v, h1, h2⟩ := denBin_ok ho hf (hf _ _ hu) (hf _ _ hv) hh
      exact ⟨v, none, h1, trivial, fun h' _ => h2 h'⟩
    · exact hh.elim
  · rename_i s x f ho
    split at hh
    · rename_i p off hp hoff
      obtain ⟨a, rfl, hh⟩ := onSome_iff.1 hh
      refine ⟨_, none, hh, trivial, fun h' _ => ?_⟩
      unfold fieldOff at hoff
      split at hoff
      · rename_i fs hfs
        split at hoff
        · rename_i fl hfl
          split at hoff
          · rename_i i hi
            split at hoff
            · cases hoff
            · rename_i hz
              simp only [Option.some.injEq] at hoff
              subst hoff
              unfold execOp; rw [ho]
              simp only [hf _ _ hp]
              refine exec_v ?_
              unfold Instr.fieldAt
              rw [rd_bind _ _ _ _ (rd_underlying hfs)]
              simp only [hfl]
              show rd P (do let y ← fieldPlace a fl; pure (Value.pointer (some y))) h' = _
              have hne : ¬ i.size = 0 := fun e => by rw [e] at hz; cases hz
              have h1 : rd P (fieldPlace a fl) h' = some (a.add fl.offset) := by
                unfold fieldPlace
                rw [rd_bind _ _ _ _ (rd_sizeOf hi), if_neg hne]; rfl
              rw [rd_bind _ _ _ _ h1]; rfl
          · cases hoff
        · cases hoff
      · cases hoff
    · exact hh.elim
  · rename_i t x ix ho
    split at hh
    · rename_i e base len cap k n ht hx hi
      split at hh
      · rename_i i hie
        obtain ⟨⟨h1, h2⟩, hh⟩ := hh
        obtain ⟨a, rfl, hh⟩ := onSome_iff.1 hh
        refine ⟨_, none, hh, trivial, fun h' _ => ?_⟩
        unfold execOp; rw [ho]
        simp only [hf _ _ hx, hf _ _ hi]
        refine exec_v ?_
        unfold Instr.indexAt
        show rd P (do let x ← underlying t; _) h' = _
        rw [rd_bind _ _ _ _ (rd_underlying ht)]
        simp only
        rw [rd_bind _ _ _ _ (rd_pure _)]
        simp only
        rw [rd_bind _ _ _ _ (rd_underlying ht)]
        simp only
        rw [if_pos ⟨h1, h2⟩, rd_bind _ _ _ _ (rd_sizeOf hie)]
        rfl
      · exact hh.elim
    · rename_i len e base k n ht hx hi
      split at hh
      · rename_i i hie
        obtain ⟨⟨h1, h2⟩, hh⟩ := hh
        obtain ⟨a, rfl, hh⟩ := onSome_iff.1 hh
        refine ⟨_, none, hh, trivial, fun h' _ => ?_⟩
        unfold execOp; rw [ho]
        simp only [hf _ _ hx, hf _ _ hi]
        refine exec_v ?_
        unfold Instr.indexAt
        show rd P (do let x ← underlying t; _) h' = _
        rw [rd_bind _ _ _ _ (rd_underlying ht)]
        simp only [Instr.sureAddr]
        rw [rd_bind _ _ _ _ (rd_pure _), rd_bind _ _ _ _ (rd_pure _)]
        simp only
        rw [rd_bind _ _ _ _ (rd_underlying ht)]
        simp only
        rw [if_pos ⟨h1, h2⟩, rd_bind _ _ _ _ (rd_sizeOf hie)]
        rfl
      · exact hh.elim
    · exact hh.elim
  · rename_i t x ix ho
    split at hh
    · rename_i s k n ht hx hi
      obtain ⟨⟨h1, h2⟩, hh⟩ := hh
      refine ⟨_, none, hh, trivial, fun h' _ => ?_⟩
      unfold execOp; rw [ho]
      simp only [hf _ _ hx, hf _ _ hi]
      refine exec_v ?_
      unfold Instr.index
      show rd P (do let x ← underlying t; _) h' = _
      rw [rd_bind _ _ _ _ (rd_underlying ht)]
      have hlt : n.toNat < s.size := by omega
      have hg : s[n.toNat]? = some (s.data.toList.getD n.toNat 0) := by
        rw [getElem?_pos s n.toNat hlt]
        congr 1
        rw [List.getD_eq_getElem?_getD, List.getElem?_eq_getElem (by simpa using hlt)]
        rfl
      simp only [if_pos h1, hg]
      rfl
    · rename_i len e cs k n ht hx hi
      split at hh
      · rename_i i hb hie hlen
        split at hh
        · rename_i hsz
          obtain ⟨⟨h1, h2⟩, hh⟩ := hh
          have hlen := Nat.eq_of_beq_eq_true hlen
          have hsz := Nat.eq_of_beq_eq_true hsz
          have hlt : n.toNat < cs.toList.length := by omega
          have hF := idxAll_at _ _ _ hh n.toNat (by omega) _ (List.getElem?_eq_getElem hlt)
          refine ⟨_, none, hF, trivial, fun h' _ => ?_⟩
          unfold execOp; rw [ho]
          simp only [hf _ _ hx, hf _ _ hi]
          refine exec_v ?_
          unfold Instr.index
          show rd P (do let x ← underlying t; _) h' = _
          rw [rd_bind _ _ _ _ (rd_underlying ht)]
          simp only
          rw [if_pos ⟨h1, h2⟩, rd_bind _ _ _ _ (rd_sizeOf hie)]
          unfold part
          rw [rd_bind _ _ _ _ (rd_isAgg_false hb)]
          simp only [Bool.false_eq_true, if_false]
          rw [hsz, Nat.mul_one]
          have hg : cs[n.toNat]? = some (cs.toList[n.toNat]'hlt) := by simp
          rw [hg]
          rfl
        · exact hh.elim
      · exact hh.elim
    · exact hh.elim
  · rename_i t x lo hi mx ho
    split at hh
    · rename_i e p len cap l hh' ht hx hl hhi
      split at hh
      · rename_i i hie
        obtain ⟨a, b, hF, hb⟩ := sliceBounds_ok (P := P) (isS := true) hf hl hhi hh
        refine ⟨_, none, hF, trivial, fun h' _ => ?_⟩
        unfold execOp; rw [ho]
        simp only [hf _ _ hx, Option.map_none]
        refine exec_v ?_
        unfold Instr.sliceAt
        rw [rd_bind _ _ _ _ (rd_underlying ht)]
        unfold Instr.slice
        simp only
        rw [rd_bind _ _ _ _ (rd_underlying ht)]
        simp only
        rw [rd_bind _ _ _ _ (hb _)]
        simp only
        rw [rd_bind _ _ _ _ (rd_sizeOf hie)]
        rfl
      · exact hh.elim
    · rename_i s l hh' ht hx hl hhi
      obtain ⟨a, b, hF, hb⟩ := sliceBounds_ok (P := P) (isS := false) hf hl hhi hh
      refine ⟨_, none, hF, trivial, fun h' _ => ?_⟩
      unfold execOp; rw [ho]
      simp only [hf _ _ hx, Option.map_none]
      refine exec_v ?_
      unfold Instr.sliceAt
      rw [rd_bind _ _ _ _ (rd_underlying ht)]
      unfold Instr.slice
      simp only
      rw [rd_bind _ _ _ _ (rd_underlying ht)]
      simp only [Option.isSome_none, Bool.false_eq_true, if_false]
      rw [rd_bind _ _ _ _ (hb _)]
      rfl
    · rename_i n e p l hh' ht hx hl hhi
      split at hh
      · rename_i i hie
        obtain ⟨ad, rfl, hh⟩ := onSome_iff.1 hh
        obtain ⟨a, b, hF, hb⟩ := sliceBounds_ok (P := P) (isS := false) hf hl hhi hh
        refine ⟨_, none, hF, trivial, fun h' _ => ?_⟩
        unfold execOp; rw [ho]
        simp only [hf _ _ hx, Option.map_none]
        refine exec_v ?_
        unfold Instr.sliceAt
        rw [rd_bind _ _ _ _ (rd_underlying ht)]
        simp only [Instr.sureAddr]
        rw [rd_bind _ _ _ _ (rd_pure _), rd_bind _ _ _ _ (hb _)]
        simp only
        rw [rd_bind _ _ _ _ (rd_sizeOf hie)]
        show some _ = some _
        unfold slBase
        congr 2
        split <;> rfl
      · exact hh.elim
    · exact hh.elim
  · rename_i t x i ok ho
    split at hh
    · rename_i m k hm hk
      obtain ⟨v, h1, h2⟩ := retEx_some hh
      refine ⟨v, _, h2, ?_, fun h' hs => ?_⟩
      · show mapSame m h h
        unfold mapSame; split <;> trivial
      · unfold execOp; rw [ho]
        simp only [hf _ _ hm, hf _ _ hk]
        exact exec_v (h1 h' hs)
    · exact hh.elim
  · rename_i args tys ho
    split at hh
    · rename_i x hargs
      split at hh
      · rename_i m hm
        split at hh
        · obtain ⟨n, h1, h2⟩ := hh
          refine ⟨_, _, h2, ?_, fun h' hs => ?_⟩
          · show mapSame m h h
            unfold mapSame; split <;> trivial
          · have ha : args = #[x] := by rw [← Array.toArray_toList (xs := args), hargs]
            unfold execOp; rw [ho]
            simp only [resolve, ha]
            rw [rd_bind _ _ _ _ (rd_pure _)]
            simp only [invoke, builtin, List.map_toArray, List.map_cons, List.map_nil, hf _ _ hm]
            exact exec_v (h1 h' hs)
        · exact viaPure (by rw [ho]; intro cs b e; cases e) hh
      · exact hh.elim
    · exact hh.elim
  · rename_i s d x ho
    split at hh
    · split at hh
      · rename_i v hv
        obtain ⟨b, h1, h2⟩ := hh
        refine ⟨_, _, h2, h1, fun h' hs => ?_⟩
        unfold execOp; rw [ho]
        simp only [hf _ _ hv]
        exact exec_v hs
      · exact hh.elim
    · exact viaPure (by rw [ho]; intro cs b e; cases e) hh
  · exact hh.elim
  · rename_i hsel
    exact viaPure hsel hh

theorem evs_map {σ : Env} {ρ : Operand → Value} (hf : Fits σ ρ) : ∀ (xs : List Operand) (vs : List Value), evs σ xs = some vs → xs.map ρ = vs
  | [], vs, hh => by simp only [evs, Option.some.injEq] at hh; exact hh
  | x :: xs, vs, hh => by
    simp only [evs] at hh
    split at hh
    · rename_i v vs' h1 h2
      simp only [Option.some.injEq] at hh
      rw [List.map_cons, hf _ _ h1, evs_map hf xs vs' h2, hh]
    · cases hh

theorem args_map {σ : Env} {ρ : Operand → Value} (hf : Fits σ ρ) {args : Array Operand} {vs : List Value} (hh : evs σ args.toList = some vs) : args.map ρ = vs.toArray := by
  have := evs_map hf _ _ hh
  rw [← this]
  apply Array.ext'
  simp

theorem newK_ok {o : Oper} {σ : Env} {ρ : Operand → Value} {h : Heap} {K : Value → Heap → Prop} (hf : Fits σ ρ) (hs : ∀ cs b, o.op ≠ .select cs b) (hh : newK P o σ h K) : OpWp P o ρ h K := by
  unfold newK at hh
  split at hh
  · rename_i hd
    split at hh
    · rename_i ob k hr
      have h1 := hh _ _ rfl rfl
      dsimp only at h1
      split at h1
      · rename_i v hv
        refine runNew_den _ ob k (by rw [← exec_tot hf o hd hs]; exact hr) _ _ ?_
        exact runPure_den _ _ hv _ _ h1
      · exact h1.elim
    · exact hh.elim
  · exact hh.elim

theorem storeL_ok {a : Addr} : ∀ (vs : List Value) (i : Nat) (h : Heap) (K : Heap → Prop), storeL a vs i h K → denSem P (storeCells a vs i) h (fun _ h' => K h')
  | [], _, _, _, hh => hh
  | v :: vs, i, h, K, hh => by
    simp only [storeL] at hh
    split at hh
    · rename_i h1
      obtain ⟨h2, h3, h4⟩ := hh
      simp only [storeCells]
      rw [den_bind]
      exact ⟨h1, h2, h3, storeL_ok vs (i + 1) _ K (h4 _ rfl)⟩
    · exact hh.elim

theorem den_retEx {s : Sem Value} {h : Heap} {t : TypeId} {K : Value → Heap → Prop} (hh : denSem P s h fun v h' => retEx P t fun v' => v = v' ∧ K v' h') : denSem P s h K :=
  denSem_mono _ _ (fun _ _ hr => retEx_eq hr) hh

theorem denEff_ok {o : Oper} {σ : Env} {ρ : Operand → Value} {h : Heap} {K : Value → Heap → Prop} (hf : Fits σ ρ) (hh : denEff P o σ h K) : OpWp P o ρ h K := by
  unfold denEff at hh
  split at hh
  · rename_i ho; exact newK_ok hf (by rw [ho]; intro cs b e; cases e) hh
  · rename_i ho; exact newK_ok hf (by rw [ho]; intro cs b e; cases e) hh
  · rename_i ho; exact newK_ok hf (by rw [ho]; intro cs b e; cases e) hh
  · rename_i ho; exact newK_ok hf (by rw [ho]; intro cs b e; cases e) hh
  · rename_i t x y ho
    split at hh
    · rename_i p v hx hy
      obtain ⟨a, rfl, hh⟩ := onSome_iff.1 hh
      split at hh
      · rename_i i hi
        split at hh
        · rename_i hn
          unfold OpWp execOp; rw [ho]
          simp only [hf _ _ hx, hf _ _ hy]
          rw [den_bind]
          unfold Instr.storeAt
          rw [den_bind]
          show denSem P (storeVar t a v) h _
          unfold storeVar
          rw [den_bind, den_sizeOf hi]
          have e : v.cells.size = i.size := by have := Nat.eq_of_beq_eq_true hn; simpa using this.symm
          simp only [e, ne_eq, not_true, if_false]
          exact storeL_ok _ _ _ _ hh
        · exact hh.elim
      · exact hh.elim
    · exact hh.elim
  · rename_i t m k x ho
    split at hh
    · rename_i m k x hm hk hx
      unfold OpWp execOp; rw [ho]
      simp only [hf _ _ hm, hf _ _ hk, hf _ _ hx]
      rw [den_bind]
      exact hh
    · exact hh.elim
  · rename_i t m k x ho
    split at hh
    · rename_i m k x hm hk hx
      unfold OpWp execOp; rw [ho]
      simp only [hf _ _ hm, hf _ _ hk, hf _ _ hx]
      rw [den_bind]
      exact hh
    · exact hh.elim
  · rename_i t l c ho
    split at hh
    · rename_i l c hl hc
      unfold OpWp execOp; rw [ho]
      simp only [hf _ _ hl, hf _ _ hc]
      rw [den_bind]
      exact den_retEx hh
    · exact hh.elim
  · rename_i s d x ho
    split at hh
    · rename_i x hx
      unfold OpWp execOp; rw [ho]
      simp only [hf _ _ hx]
      rw [den_bind]
      exact den_retEx hh
    · exact hh.elim
  · rename_i b args tys ho
    split at hh
    · rename_i vs hvs
      split at hh
      · rename_i s hs
        unfold OpWp execOp; rw [ho]
        simp only [resolve, args_map hf hvs]
        rw [den_bind, den_pure]
        simp only [invoke]
        cases b <;> simp only [builtinSem] at hs <;> first | cases hs | skip
        all_goals (simp only [builtin]; rw [den_bind]; exact den_retEx hh)
      · exact hh.elim
    · exact hh.elim
  · rename_i f args tys ho
    split at hh
    · rename_i g first captured vs hg hvs
      split at hh
      · rename_i hb
        unfold OpWp execOp; rw [ho]
        simp only [resolve, args_map hf hvs, hf _ _ hg, Deferred.ofValue]
        rw [den_bind, den_pure]
        simp only [invoke, callFunc]
        rw [den_bind]
        unfold hasBody at hb
        split at hb
        · rename_i fn hfn
          simp only [Bool.and_eq_true, Bool.not_eq_true'] at hb
          show denSem P (match P.funcs[g]? with | none => _ | some fn => _) h _
          rw [hfn]
          have hn : fn.body.isNone = false := by cases hq : fn.body <;> simp [hq] at hb ⊢
          simp only [hb.2, hn, Bool.false_eq_true, if_false]
          have e : (first ++ vs.toArray ++ captured) = (first.toList ++ vs ++ captured.toList).toArray := by
            apply Array.ext'
            simp
          rw [e]
          exact hh.mono fun v h' hr => retEx_eq hr
        · cases hb
      · exact hh.elim
    · exact hh.elim
  · rename_i t x ho
    split at hh
    · rename_i x hx
      unfold OpWp execOp; rw [ho]
      simp only [hf _ _ hx]
      rw [den_bind]
      exact denSem_mono _ _ (fun v h' ⟨r, e, hr⟩ => by subst e; exact hr) hh
    · exact hh.elim
  · rename_i it b ho
    split at hh
    · rename_i it hx
      unfold OpWp execOp; rw [ho]
      simp only [hf _ _ hx]
      rw [den_bind]
      refine denSem_mono _ _ (fun v h' hr => ?_) hh
      rcases hr with ⟨e, hr⟩ | hr
      · subst e; exact hr
      · obtain ⟨k, x, e, hr⟩ := hr; subst e; exact hr
    · exact hh.elim
  · rename_i it ho
    split at hh
    · rename_i it hx
      unfold OpWp execOp; rw [ho]
      simp only [hf _ _ hx]
      rw [den_bind]
      refine denSem_mono _ _ (fun v h' hr => ?_) hh
      obtain ⟨k, x, e, hr⟩ := hr; subst e; exact hr
    · exact hh.elim
  · exact hh.elim

end
end Go.Den
