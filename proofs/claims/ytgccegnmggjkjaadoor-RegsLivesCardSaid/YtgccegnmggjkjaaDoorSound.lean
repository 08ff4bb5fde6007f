/-
  What is proved here: the reading of code ('den') is enough for the model's own 'Calls' ('callsH_of_den'). No condition.
-/
import Derived.Test.YtgccegnmggjkjaaDoorCode
namespace Go.Den

/-! ### a region whose order is drawn -/
def waits (o : Oper) (i : Nat) : Bool := o.after.toList.any fun e => Region.binds .any e && Nat.beq e.on i
def keepG (o : Oper) (G : List (Nat × (Heap → Prop))) : List (Nat × (Heap → Prop)) := G.filter fun g => !waits o g.1
theorem keepG_mem {o : Oper} {G : List (Nat × (Heap → Prop))} {g : Nat × (Heap → Prop)} (h : g ∈ keepG o G) : g ∈ G := (List.mem_filter.1 h).1

def wpAnyG (P : Program) (ops : Array Oper) (Q : Exit → Act → World → Prop) : Nat → List (Nat × (Heap → Prop)) → Array Bool → Act → World → Prop
  | 0, _, listed, a, w => Region.ready .any ops listed = [] ∧ Q .normal a w
  | fuel + 1, G, listed, a, w =>
    (Region.ready .any ops listed = [] → Q .normal a w) ∧
    ∀ j ∈ Region.ready .any ops listed, ∀ o, ops[j]? = some o → wpOp P ops Q j (fun a' w' => (∀ g ∈ keepG o G, g.2 w'.heap) ∧ wpAnyG P ops Q fuel (keepG o G) (listed.setIfInBounds j true) a' w') a w

section
variable {P : Program} {ops : Array Oper} {Q : Exit → Act → World → Prop}

theorem wpAnyG_any : ∀ (fuel : Nat) (G : List (Nat × (Heap → Prop))) (listed : Array Bool) (a : Act) (w : World), wpAnyG P ops Q fuel G listed a w → wpAny P .any ops Q fuel listed a w
  | 0, _, _, _, _, h => h
  | fuel + 1, G, listed, a, w, h => ⟨h.1, fun i hi => by
      obtain ⟨_, o, ho, _⟩ := mem_ready.1 hi
      exact wpOp_mono (fun a' w' h' => wpAnyG_any fuel _ _ a' w' h'.2) (h.2 i hi o ho)⟩

theorem wpAnyG_sub : ∀ (fuel : Nat) (G G' : List (Nat × (Heap → Prop))) (listed : Array Bool) (a : Act) (w : World), (∀ g ∈ G', g ∈ G) → wpAnyG P ops Q fuel G listed a w → wpAnyG P ops Q fuel G' listed a w
  | 0, _, _, _, _, _, _, h => h
  | fuel + 1, G, G', listed, a, w, hs, h => ⟨h.1, fun i hi o ho => by
      have hk : ∀ g ∈ keepG o G', g ∈ keepG o G := fun g hg => List.mem_filter.2 ⟨hs g (keepG_mem hg), (List.mem_filter.1 hg).2⟩
      exact wpOp_mono (fun a' w' h' => ⟨fun g hg => h'.1 g (hk g hg), wpAnyG_sub fuel _ _ _ a' w' hk h'.2⟩) (h.2 i hi o ho)⟩

theorem wpAnyG_true (i : Nat) : ∀ (fuel : Nat) (G : List (Nat × (Heap → Prop))) (listed : Array Bool) (a : Act) (w : World), wpAnyG P ops Q fuel G listed a w → wpAnyG P ops Q fuel ((i, fun _ => True) :: G) listed a w
  | 0, _, _, _, _, h => h
  | fuel + 1, G, listed, a, w, h => ⟨h.1, fun j hj o ho => by
      refine wpOp_mono (fun a' w' h' => ⟨fun g hg => ?_, ?_⟩) (h.2 j hj o ho)
      · obtain ⟨h1, h2⟩ := List.mem_filter.1 hg
        rcases List.mem_cons.1 h1 with e | e
        · rw [e]; trivial
        · exact h'.1 g (List.mem_filter.2 ⟨e, h2⟩)
      · have := wpAnyG_true i fuel _ _ a' w' h'.2
        refine wpAnyG_sub fuel _ _ _ a' w' (fun g hg => ?_) this
        obtain ⟨h1, h2⟩ := List.mem_filter.1 hg
        rcases List.mem_cons.1 h1 with e | e
        · rw [e]; exact List.mem_cons_self
        · exact List.mem_cons_of_mem _ (List.mem_filter.2 ⟨e, h2⟩)⟩

theorem waits_false {oj : Oper} {i : Nat} (h : ∀ e ∈ oj.after, Region.binds .any e = true → e.on ≠ i) : waits oj i = false := by
  unfold waits
  rw [List.any_eq_false]
  intro e he
  simp only [Bool.and_eq_true, not_and]
  intro hb hq
  exact h e (by simpa using he) hb (Nat.eq_of_beq_eq_true hq)

theorem wpAnyG_first {i : Nat} {oi : Oper} {v : Value} {S : Heap → Prop} (hi : ops[i]? = some oi) (hsel : ∀ (j : Nat) (o : Oper) cs b, ops[j]? = some o → o.op ≠ .select cs b)
    (hQ : ∀ c a w, Q (.panic c) (a.put oi.dst v) w → Q (.panic c) a w) :
    ∀ (fuel : Nat) (G : List (Nat × (Heap → Prop))) (listed : Array Bool) (a : Act) (w : World),
      (∀ j oj, ops[j]? = some oj → j ≠ i → listed.getD j true = false → (∀ e ∈ oj.after, Region.binds .any e = true → e.on ≠ i) → oi.apart ops oj = true) →
      i ∈ Region.ready .any ops listed → YieldsIf P ops (fun w => S w.heap) oi v a → S w.heap → (∀ g ∈ G, g.2 w.heap) →
      wpAnyG P ops Q fuel ((i, S) :: G) (listed.setIfInBounds i true) (a.put oi.dst v) w → wpAnyG P ops Q (fuel + 1) G listed a w := by
  intro fuel
  induction fuel with
  | zero =>
    intro G listed a w _ hr hy hS hG H
    refine ⟨fun h => (by rw [h] at hr; cases hr), fun j hj o ho => ?_⟩
    by_cases hji : j = i
    · subst hji
      exact hy.wpOp hi hS ⟨fun g hg => hG g (keepG_mem hg), H⟩
    · have := ready_mono hj hji
      rw [H.1] at this
      cases this
  | succ fuel ih =>
    intro G listed a w hfree hr hy hS hG H
    refine ⟨fun h => (by rw [h] at hr; cases hr), fun j hj o ho => ?_⟩
    by_cases hji : j = i
    · subst hji
      refine hy.wpOp hi hS ⟨fun g hg => hG g (keepG_mem hg), wpAnyG_sub _ _ _ _ _ _ (fun g hg => List.mem_cons_of_mem _ (keepG_mem hg)) H⟩
    · have h1 := H.2 j (ready_mono hj hji) o ho
      obtain ⟨hjun, oj, hoj, hall⟩ := mem_ready.1 hj
      obtain rfl : oj = o := by rw [ho] at hoj; exact (Option.some.inj hoj).symm
      have hnot : ∀ e ∈ oj.after, Region.binds .any e = true → e.on ≠ i := fun e he hb heq => by
        have h1 := hall e he hb
        have h0 := (mem_ready.1 hr).1
        rw [heq] at h1
        rcases Nat.lt_or_ge i listed.size with h' | h'
        · simp [h'] at h0 h1; rw [h0] at h1; cases h1
        · simp [Array.getElem?_eq_none h'] at h1
      have hkeep : keepG oj ((i, S) :: G) = (i, S) :: keepG oj G := by
        unfold keepG
        rw [List.filter_cons, if_pos]
        simp [waits_false hnot]
      rw [hkeep] at h1
      have h2 := wpOp_putIf hoj (hfree j oj hoj hji hjun hnot) (fun cs b => hsel i oi cs b hi) (fun cs b => hsel j oj cs b hoj) hQ hy h1
      have hfree' : ∀ k ok, ops[k]? = some ok → k ≠ i → (listed.setIfInBounds j true).getD k true = false →
          (∀ e ∈ ok.after, Region.binds .any e = true → e.on ≠ i) → oi.apart ops ok = true := fun k ok hk hki hun hno => by
        refine hfree k ok hk hki ?_ hno
        by_cases hjk : j = k
        · subst hjk; exact hjun
        · rw [getD_set_ne true hjk] at hun; exact hun
      refine wpOp_mono (fun a' w' h3 => ?_) h2
      obtain ⟨hy', hall', hrest⟩ := h3
      refine ⟨fun g hg => hall' g (List.mem_cons_of_mem _ hg), ?_⟩
      refine ih (keepG oj G) (listed.setIfInBounds j true) a' w' hfree' (ready_mono hr (Ne.symm hji)) hy' (hall' _ List.mem_cons_self) (fun g hg => hall' g (List.mem_cons_of_mem _ hg)) ?_
      rw [Array.setIfInBounds_comm _ _ hji]
      exact hrest
end

/-- the order of a region: 'op': taken first, or carried out alone; 'alts': one of several, in any order -/
inductive Plan where
  | done
  | op (i : Nat) (p : Plan)
  | alts (q : Plan)
  | fork (i : Nat) (p q : Plan)
  | noalt
def lenB : Plan → Nat → Bool
  | .done, n => Nat.beq n 0
  | .op _ p, n + 1 => lenB p n
  | .alts q, n + 1 => lenB q (n + 1)
  | .fork _ p q, n + 1 => lenB p n && lenB q (n + 1)
  | .noalt, _ => true
  | _, _ => false
/-- which operations are taken first, which are carried out alone -/
def planB (P : Program) (ops : Array Oper) : Plan → Option (List Nat) → Array Bool → Bool
  | .done, none, listed => (Region.ready .any ops listed).isEmpty
  | .op i rest, none, listed =>
    (match ops[i]? with
      | some o => (match isRead P o with
        | true => (Region.ready .any ops listed).contains i && Region.free .any ops listed i
        | false => (match Region.ready .any ops listed with | [j] => Nat.beq i j | _ => false))
      | none => false) && planB P ops rest none (listed.setIfInBounds i true)
  | .alts q, none, listed => (match Region.ready .any ops listed with | [] => false | j :: js => planB P ops q (some (j :: js)) listed)
  | .fork i p q, some R, listed => (match ops[i]? with
      | some o => !isRead P o
      | none => false) && planB P ops p none (listed.setIfInBounds i true) && planB P ops q (some (R.filter fun j => !Nat.beq i j)) listed
  | .noalt, some R, _ => R.isEmpty
  | _, _, _ => false
def heldK (h : Heap) (K : Prop) : List (Nat × (Heap → Prop)) → Prop
  | [] => K
  | g :: G => g.2 h ∧ heldK h K G
theorem heldK_ok {h : Heap} {K : Prop} : ∀ {G : List (Nat × (Heap → Prop))}, heldK h K G → (∀ g ∈ G, g.2 h) ∧ K
  | [], hh => ⟨(fun _ hm => by cases hm), hh⟩
  | _ :: _, hh => by
    obtain ⟨h1, h2⟩ := heldK_ok hh.2
    refine ⟨fun g' hm => ?_, h2⟩
    rcases List.mem_cons.1 hm with e | e
    · rw [e]; exact hh.1
    · exact h1 _ e
def addG (i : Nat) (S : Option (Heap → Prop)) (G : List (Nat × (Heap → Prop))) : List (Nat × (Heap → Prop)) :=
  match S with
  | some S => (i, S) :: G
  | none => G

def denPlan (P : Program) (n : Nat) (ops : Array Oper) : Plan → List (Nat × (Heap → Prop)) → Env → Heap → (Env → Heap → Prop) → Prop
  | .done, _, σ, h, K => K σ h
  | .op i rest, G, σ, h, K => (match ops[i]? with
    | some o => gsplit ops o σ
        (fun σ => (match isRead P o with
          | true => denRead P o σ h fun v S => putK n σ o.dst v fun σ' => denPlan P n ops rest (addG i S G) σ' h K
          | false => denEff P o σ h fun v h' => heldK h' (putK n σ o.dst v fun σ' => denPlan P n ops rest (keepG o G) σ' h' K) (keepG o G)))
        (fun σ => putK n σ o.dst undef fun σ' => denPlan P n ops rest G σ' h K)
    | none => False)
  | .alts q, G, σ, h, K => denPlan P n ops q G σ h K
  | .fork i rest q, G, σ, h, K => (match ops[i]? with
    | some o => gsplit ops o σ
        (fun σ => denEff P o σ h fun v h' => heldK h' (putK n σ o.dst v fun σ' => denPlan P n ops rest (keepG o G) σ' h' K) (keepG o G))
        (fun σ => putK n σ o.dst undef fun σ' => denPlan P n ops rest G σ' h K)
    | none => False) ∧ denPlan P n ops q G σ h K
  | .noalt, _, _, _, _ => True

/-- what is carried out in its turn -/
theorem denStep_ok {P : Program} {n : Nat} {ops : Array Oper} {K : Env → Heap → Prop} {a0 : Act} {w0 : World} {rest : Plan} {i m : Nat} {o : Oper} {listed : Array Bool} {G : List (Nat × (Heap → Prop))} {σ : Env} {a : Act} {w : World}
    (ih : ∀ G σ a w, Rel n σ a → Same w0 w → Unch (opWrites ops) a0 a → (∀ g ∈ G, g.2 w.heap) → denPlan P n ops rest G σ w.heap K → wpAnyG P ops (upR n a0 w0 (opWrites ops) K) m G (listed.setIfInBounds i true) a w)
    (ho : ops[i]? = some o) (hr : Rel n σ a) (hs : Same w0 w) (hu : Unch (opWrites ops) a0 a) (hG : ∀ g ∈ G, g.2 w.heap)
    (h : gsplit ops o σ (fun σ => denEff P o σ w.heap fun v h' => heldK h' (putK n σ o.dst v fun σ' => denPlan P n ops rest (keepG o G) σ' h' K) (keepG o G)) (fun σ => putK n σ o.dst undef fun σ' => denPlan P n ops rest G σ' w.heap K)) :
    wpOp P ops (upR n a0 w0 (opWrites ops) K) i (fun a' w' => (∀ g ∈ keepG o G, g.2 w'.heap) ∧ wpAnyG P ops (upR n a0 w0 (opWrites ops) K) m (keepG o G) (listed.setIfInBounds i true) a' w') a w := by
  rcases gsplit_ok hr h with ⟨hw, σ', hr', h⟩ | ⟨hw, σ', hr', hskip⟩
  · unfold wpOp
    simp only [ho, hw, if_true]
    refine .inl ((denEff_ok hr'.fits h).wp ?_)
    intro v w' hk hs'
    obtain ⟨h1, h2⟩ := heldK_ok hk
    obtain ⟨σ1, hr1, h3⟩ := putK_ok hr' h2
    exact ⟨h1, ih _ σ1 _ w' hr1 (hs.trans hs') (hu.trans (Unch.put (opWrites_mem ho))) h1 h3⟩
  · unfold wpOp
    simp only [ho, hw, Bool.false_eq_true, if_false]
    obtain ⟨σ1, hr1, h3⟩ := putK_ok hr' hskip
    have ih := ih G σ1 _ w hr1 hs (hu.trans (Unch.put (opWrites_mem ho))) hG h3
    exact ⟨fun g hg => hG g (keepG_mem hg), wpAnyG_sub _ _ _ _ _ _ (fun g hg => keepG_mem hg) ih⟩

theorem denPlan_both {P : Program} {n : Nat} {ops : Array Oper} {K : Env → Heap → Prop} {a0 : Act} {w0 : World} (hsel : Region.noSelect ops = true) (plan : Plan) :
    (∀ (m : Nat) (listed : Array Bool) (G : List (Nat × (Heap → Prop))) (σ : Env) (a : Act) (w : World), lenB plan m = true →
      planB P ops plan none listed = true → Rel n σ a → Same w0 w → Unch (opWrites ops) a0 a → (∀ g ∈ G, g.2 w.heap) → denPlan P n ops plan G σ w.heap K →
      wpAnyG P ops (upR n a0 w0 (opWrites ops) K) m G listed a w) ∧
    (∀ (m : Nat) (R : List Nat) (listed : Array Bool) (G : List (Nat × (Heap → Prop))) (σ : Env) (a : Act) (w : World), lenB plan (m + 1) = true →
      planB P ops plan (some R) listed = true → Rel n σ a → Same w0 w → Unch (opWrites ops) a0 a → (∀ g ∈ G, g.2 w.heap) → denPlan P n ops plan G σ w.heap K →
      ∀ j ∈ R, ∀ o, ops[j]? = some o → wpOp P ops (upR n a0 w0 (opWrites ops) K) j (fun a' w' => (∀ g ∈ keepG o G, g.2 w'.heap) ∧ wpAnyG P ops (upR n a0 w0 (opWrites ops) K) m (keepG o G) (listed.setIfInBounds j true) a' w') a w) := by
  induction plan with
  | done =>
    refine ⟨fun m listed G σ a w hl hp hr hs hu hG h => ?_, fun m R listed G σ a w hl hp => by cases hp⟩
    obtain rfl : m = 0 := Nat.eq_of_beq_eq_true hl
    simp only [planB, List.isEmpty_iff] at hp
    exact ⟨hp, rfl, σ, hr, h, hs, hu⟩
  | noalt =>
    refine ⟨fun m listed G σ a w hl hp => (by cases hp), fun m R listed G σ a w hl hp hr hs hu hG h j hj => ?_⟩
    simp only [planB, List.isEmpty_iff] at hp
    subst hp; cases hj
  | alts q ih =>
    refine ⟨fun m listed G σ a w hl hp hr hs hu hG h => ?_, fun m R listed G σ a w hl hp => by cases hp⟩
    cases m with
    | zero => cases hl
    | succ m =>
      simp only [planB] at hp
      split at hp
      · cases hp
      · rename_i j js hready
        refine ⟨(fun e => by rw [hready] at e; cases e), fun j' hj' o ho => ?_⟩
        rw [hready] at hj'
        exact ih.2 m _ listed G σ a w hl hp hr hs hu hG h j' hj' o ho
  | fork i rest q ih1 ih2 =>
    refine ⟨fun m listed G σ a w hl hp => (by cases hp), fun m R listed G σ a w hl hp hr hs hu hG h j hj o ho => ?_⟩
    simp only [planB, Bool.and_eq_true] at hp
    obtain ⟨⟨hp1, hp2⟩, hp3⟩ := hp
    simp only [lenB, Bool.and_eq_true] at hl
    simp only [denPlan] at h
    by_cases hji : i = j
    · subst hji
      have h := h.1
      rw [ho] at h
      exact denStep_ok (fun G σ a w hr hs hu hG h => ih1.1 m _ G σ a w hl.1 hp2 hr hs hu hG h) ho hr hs hu hG h
    · refine ih2.2 m _ listed G σ a w hl.2 hp3 hr hs hu hG h.2 j (List.mem_filter.2 ⟨hj, ?_⟩) o ho
      have : Nat.beq i j = false := by cases hb : Nat.beq i j; rfl; exact absurd (Nat.eq_of_beq_eq_true hb) hji
      simp [this]
  | op i rest ih =>
    refine ⟨fun m listed G σ a w hl hp hr hs hu hG h => ?_, fun m R listed G σ a w hl hp => by cases hp⟩
    cases m with
    | zero => cases hl
    | succ m =>
      simp only [planB, Bool.and_eq_true] at hp
      obtain ⟨hp1, hp2⟩ := hp
      simp only [denPlan] at h
      split at h
      · rename_i o ho
        simp only [ho] at hp1
        have hQ : ∀ v, ∀ c a w, upR n a0 w0 (opWrites ops) K (.panic c) (a.put o.dst v) w → upR n a0 w0 (opWrites ops) K (.panic c) a w := fun v c a w hq => by cases hq.1
        -- what is taken first
        have take : ∀ (v : Value) (S : Option (Heap → Prop)) (σ' : Env), isRead P o = true → Rel n σ' (a.put o.dst v) → YieldsIf P ops (fun w => okS S w.heap) o v a → okS S w.heap →
            denPlan P n ops rest (addG i S G) σ' w.heap K → wpAnyG P ops (upR n a0 w0 (opWrites ops) K) (m + 1) G listed a w := fun v S σ' hread hr' hy hS hd => by
          rw [hread] at hp1
          simp only [Bool.and_eq_true] at hp1
          have hG' : ∀ g ∈ addG i S G, g.2 w.heap := by
            intro g hg
            cases S with
            | none => exact hG g hg
            | some S =>
              rcases List.mem_cons.1 hg with e | e
              · rw [e]; exact hS
              · exact hG g e
          have ih := ih.1 m _ (addG i S G) σ' (a.put o.dst v) w hl hp2 hr' hs (hu.trans (Unch.put (opWrites_mem ho))) hG' hd
          refine wpAnyG_first (S := okS S) ho (Region.noSelect_spec hsel) (hQ v) m G listed a w (Region.free_spec ho hp1.2) (by simpa using hp1.1) hy hS hG ?_
          cases S with
          | none => exact wpAnyG_true i _ _ _ _ _ ih
          | some S => exact ih
        cases hread : isRead P o with
        | true =>
          rcases gsplit_ok hr h with ⟨hw, σ', hr', h⟩ | ⟨hw, σ', hr', hskip⟩
          · rw [hread] at h
            obtain ⟨v, S, h1, h2, h3⟩ := denRead_ok hr'.fits h
            obtain ⟨σ1, hr1, h4⟩ := putK_ok hr' h1
            exact take v S σ1 hread hr1 (.inl ⟨hw, fun w' hS => rd_run _ _ _ (h3 _ hS)⟩) h2 h4
          · obtain ⟨σ1, hr1, h4⟩ := putK_ok hr' hskip
            exact take undef none σ1 hread hr1 (.inr ⟨hw, rfl⟩) trivial h4
        | false =>
          rw [hread] at hp1 h
          simp only at hp1 h
          have hready : Region.ready .any ops listed = [i] := by
            split at hp1
            · rename_i j hj; rw [hj, Nat.eq_of_beq_eq_true hp1]
            · cases hp1
          refine ⟨(fun e => by rw [hready] at e; cases e), fun j hj o' ho' => ?_⟩
          rw [hready] at hj
          obtain rfl : j = i := by simpa using hj
          obtain rfl : o' = o := by rw [ho] at ho'; exact (Option.some.inj ho').symm
          exact denStep_ok (fun G σ a w hr hs hu hG h => ih.1 m _ G σ a w hl hp2 hr hs hu hG h) ho hr hs hu hG h
      · exact h.elim

/-! ### code -/
inductive Ann where
  | leaf
  | seq (a b : Ann)
  | cond (a b : Ann)
  | block (a : Ann)
  | loop (L : List (Nat × Sh)) (a : Ann)
  | join (L : List (Nat × Sh)) (a : Ann)
  | plan (p : Plan)
  | scope (l : Nat) (L : List (Nat × Sh)) (a b : Ann)
  | typed (ty : List (Nat × Sh))

def writes : Code → List Nat
  | .region _ ops _ => opWrites ops
  | .seq a b => writes a ++ writes b
  | .cond _ a b => writes a ++ writes b
  | .block _ a => writes a
  | .loop a => writes a
  | .scope a => writes a
  | _ => []

def Env.forget (σ : Env) (ws : List Nat) : Env := fun t => bif ws.any (Nat.beq t) then none else σ t
theorem Env.forget_some {σ : Env} {ws : List Nat} {t : Nat} {v : Value} (h : σ.forget ws t = some v) : t ∉ ws ∧ σ t = some v := by
  unfold Env.forget at h
  cases hq : ws.any (Nat.beq t) with
  | true => rw [hq] at h; cases h
  | false =>
    rw [hq] at h
    refine ⟨fun hm => ?_, h⟩
    have := List.any_eq_false.1 hq t hm
    simp at this

def thenK (K : Env → Heap → Prop) (Q : Exit → Env → Heap → Prop) : Exit → Env → Heap → Prop
  | .normal => K
  | e => Q e
def blockK (id : Nat) (Q : Exit → Env → Heap → Prop) : Exit → Env → Heap → Prop
  | .exit i => (match Nat.beq i id with | true => Q .normal | false => Q (.exit i))
  | e => Q e
def JoinP {α : Type} (F : α) (B : α → Prop) : Prop := B F

def gotoK (l : Nat) (K : Env → Heap → Prop) (Q : Exit → Env → Heap → Prop) : Exit → Env → Heap → Prop
  | .goto l' => (match Nat.beq l' l with | true => K | false => fun _ _ => False)
  | e => Q e
/-- is the label on the spine? -/
def hasLabel : Code → Nat → Bool
  | .seq a b, l => hasLabel a l || hasLabel b l
  | .label l', l => Nat.beq l' l
  | _, _ => false

/-- what code asks; in the mode 'some l' only up to the label l on its spine, where it stands as if it had jumped there -/
def den (P : Program) (n : Nat) : Ann → Option Nat → Code → (Exit → Env → Heap → Prop) → Env → Heap → Prop
  | .leaf, none, c, Q, σ, h => (match c with
    | .skip => Q .normal σ h
    | .label _ => Q .normal σ h
    | .exit id => Q (.exit id) σ h
    | .goto l => Q (.goto l) σ h
    | .ret => Q .ret σ h
    | .region _ ops false => denOps P n ops ops.toList σ h (Q .normal)
    | _ => False)
  | .leaf, some l, c, Q, σ, h => (match c with
    | .label l' => (match Nat.beq l' l with | true => Q (.goto l) σ h | false => False)
    | _ => False)
  | .plan p, none, c, Q, σ, h => (match c with
    | .region _ ops true => (match (P.follows .mixedOrders && Region.noSelect ops && lenB p ops.size && planB P ops p none (Array.replicate ops.size false)) with
      | true => denPlan P n ops p [] σ h (Q .normal)
      | false => False)
    | _ => False)
  | .seq a b, none, c, Q, σ, h => (match c with
    | .seq c d => den P n a none c (thenK (fun σ' h' => den P n b none d Q σ' h') Q) σ h
    | _ => False)
  | .seq a b, some l, c, Q, σ, h => (match c with
    | .seq c d => (match hasLabel c l with
      | true => den P n a (some l) c Q σ h
      | false => den P n a none c (thenK (fun σ' h' => den P n b (some l) d Q σ' h') Q) σ h)
    | _ => False)
  | .cond a b, none, c, Q, σ, h => (match c with
    | .cond x c d => (match σ.ev x with
      | some (.bool q) => if q = true then den P n a none c Q σ h else den P n b none d Q σ h
      | _ => False)
    | _ => False)
  | .block a, none, c, Q, σ, h => (match c with
    | .block id c => den P n a none c (blockK id Q) σ h
    | _ => False)
  | .loop L a, none, c, Q, σ, h => (match c with
    | .loop c => ∃ (I : Tele (Heap → Prop) L) (μ : Tele (Heap → Nat) L), apE False L I σ (fun f => f h) ∧
        allE L (fun σ' => ∀ h', apE False L I σ' (fun f => f h') →
          den P n a none c (thenK (fun σ'' h'' => apE False L I σ'' (fun f => f h'') ∧ apE 0 L μ σ'' (fun f => f h'') < apE 0 L μ σ' (fun f => f h')) Q) σ' h') (σ.forget (writes c))
    | _ => False)
  | .join L a, none, c, Q, σ, h => JoinP (α := Tele (Heap → Prop) L) (lamE L (fun σ' h' => Q .normal σ' h') (σ.forget (writes c)))
      (fun J => den P n a none c (thenK (fun σ' h' => apE False L J σ' (fun f => f h')) Q) σ h)
  | .typed ty, none, c, Q, σ, h => (match c with
    | .region _ ops false => denOpsT P n ops ty ops.toList σ h (Q .normal)
    | _ => False)
  | .scope l L a b, none, c, Q, σ, h => (match c with
    | .scope c => (match findLabel c l with
      | some r => ∃ (I : Tele (Heap → Prop) L) (μ : Tele (Heap → Nat) L),
          den P n a (some l) c (gotoK l (fun σ' h' => apE False L I σ' (fun f => f h')) Q) σ h ∧
          allE L (fun σ' => ∀ h', apE False L I σ' (fun f => f h') →
            den P n b none r (gotoK l (fun σ'' h'' => apE False L I σ'' (fun f => f h'') ∧ apE 0 L μ σ'' (fun f => f h'') < apE 0 L μ σ' (fun f => f h')) Q) σ' h') (σ.forget (writes c))
      | none => False)
    | _ => False)
  | _, _, _, _, _, _ => False

/-- the items that code which only opens sequences comes to -/
def opened : Code → List Code
  | .skip => []
  | .seq a b => opened a ++ [b]
  | c => [c]
theorem opened_steps {P : Program} {b : Frame} {a : Act} {cs : List Frame} {w : World} : ∀ (c : Code) (k : List Item), Steps P (lone (b.at a (.code c :: k)) cs w) (lone (b.at a ((opened c).map Item.code ++ k)) cs w)
  | .skip, k => .one step_skip
  | .seq x y, k => by
    simp only [opened, List.map_append, List.map_cons, List.map_nil, List.append_assoc, List.cons_append, List.nil_append]
    exact .head step_seq (opened_steps x (.code y :: k))
  | .region _ _ _, _ => .refl _ _
  | .cond _ _ _, _ => .refl _ _
  | .block _ _, _ => .refl _ _
  | .loop _, _ => .refl _ _
  | .rangeFunc _ _ _ _, _ => .refl _ _
  | .exit _, _ => .refl _ _
  | .scope _, _ => .refl _ _
  | .label _, _ => .refl _ _
  | .goto _, _ => .refl _ _
  | .ret, _ => .refl _ _
  | .refuse _, _ => .refl _ _
theorem hasLabel_find : ∀ (c : Code) (l : Nat), hasLabel c l = (findLabel c l).isSome
  | .seq a b, l => by
    unfold hasLabel findLabel
    rw [hasLabel_find a l, hasLabel_find b l]
    cases findLabel a l <;> simp
  | .label l', l => by
    unfold hasLabel findLabel
    by_cases h : l' = l
    · subst h; simp
    · have : Nat.beq l' l = false := by cases hb : Nat.beq l' l; rfl; exact absurd (Nat.eq_of_beq_eq_true hb) h
      simp [this, h]
  | .skip, _ => rfl
  | .region _ _ _, _ => rfl
  | .cond _ _ _, _ => rfl
  | .block _ _, _ => rfl
  | .loop _, _ => rfl
  | .rangeFunc _ _ _ _, _ => rfl
  | .exit _, _ => rfl
  | .scope _, _ => rfl
  | .goto _, _ => rfl
  | .ret, _ => rfl
  | .refuse _, _ => rfl
/-- the code behind a label is part of the code -/
theorem findLabel_writes : ∀ (c : Code) (l : Nat) (r : Code), findLabel c l = some r → ∀ t, t ∈ writes r → t ∈ writes c
  | .seq a b, l, r, h, t, ht => by
    unfold findLabel at h
    split at h
    · rename_i rest hr
      simp only [Option.some.injEq] at h
      subst h
      rcases List.mem_append.1 ht with ht | ht
      · exact List.mem_append_left _ (findLabel_writes a l rest hr t ht)
      · exact List.mem_append_right _ ht
    · exact List.mem_append_right _ (findLabel_writes b l r h t ht)
  | .label l', l, r, h, t, ht => by
    unfold findLabel at h
    split at h
    · simp only [Option.some.injEq] at h; subst h; cases ht
    · cases h
  | .skip, _, _, h, _, _ => by cases h
  | .region _ _ _, _, _, h, _, _ => by cases h
  | .cond _ _ _, _, _, h, _, _ => by cases h
  | .block _ _, _, _, h, _, _ => by cases h
  | .loop _, _, _, h, _, _ => by cases h
  | .rangeFunc _ _ _ _, _, _, h, _, _ => by cases h
  | .exit _, _, _, h, _, _ => by cases h
  | .scope _, _, _, h, _, _ => by cases h
  | .goto _, _, _, h, _, _ => by cases h
  | .ret, _, _, h, _, _ => by cases h
  | .refuse _, _, _, h, _, _ => by cases h

/-- up to a label on the spine: standing behind it counts as having jumped there -/
def wpTo (P : Program) (l : Nat) (c : Code) (Q : Exit → Act → World → Prop) (a : Act) (w : World) : Prop :=
  ∀ (b : Frame) (k : List Item) (cs : List Frame),
    (∃ e a' w', Q e a' w' ∧ e ≠ .normal ∧ Arrives P (lone (b.at a (.code c :: k)) cs w) b k cs e a' w') ∨
    (∃ a' w' r, Q (.goto l) a' w' ∧ findLabel c l = some r ∧ Steps P (lone (b.at a (.code c :: k)) cs w) (lone (b.at a' ((opened r).map Item.code ++ k)) cs w'))

def up (n : Nat) (a0 : Act) (w0 : World) (W : List Nat) (Q : Exit → Env → Heap → Prop) : Exit → Act → World → Prop :=
  fun e a w => ∃ σ, Rel n σ a ∧ Q e σ w.heap ∧ Same w0 w ∧ Unch W a0 a

theorem up_of_upR {n : Nat} {a0 : Act} {w0 : World} {W : List Nat} {Q : Exit → Env → Heap → Prop} {e : Exit} {a : Act} {w : World} (h : upR n a0 w0 W (Q .normal) e a w) : up n a0 w0 W Q e a w := by
  obtain ⟨rfl, h⟩ := h; exact h

def envOf (a : Act) : Env := fun t => some (a.tmps.getD t undef)

theorem Rel.of_sub {n : Nat} {σ σ' σ'' : Env} {a a' : Act} {W : List Nat} (hr : Rel n σ a) (hr' : Rel n σ' a') (hu : Unch W a a') (hs : Sub σ'' (σ.forget W) σ') : Rel n σ'' a' :=
  ⟨hr'.defers, hr'.size, fun t v hv => by
    rcases hs t v hv with h | h
    · exact hr'.at_ t v h
    · obtain ⟨h1, h2⟩ := Env.forget_some h
      rw [hu t h1]; exact hr.at_ t v h2⟩

theorem apE_envOf {Y : Type} {d : Y} {X : Type} {L : List (Nat × Sh)} {f : Tele X L} {K : X → Y} {n : Nat} {σ : Env} {a : Act} (hr : Rel n σ a) (hd : ∀ t s, (t, s) ∈ L → ∃ v, σ t = some v) : apE d L f (envOf a) K = apE d L f σ K :=
  apE_congr L f fun t s hm => by
    obtain ⟨v, hv⟩ := hd t s hm
    rw [hv]
    unfold envOf
    rw [hr.at_ t v hv]

/-- 'wp', from where the sequences stand opened -/
def wpo (P : Program) (c : Code) (Q : Exit → Act → World → Prop) (a : Act) (w : World) : Prop :=
  ∀ (b : Frame) (k : List Item) (cs : List Frame), ∃ e a' w', Q e a' w' ∧ Arrives P (lone (b.at a ((opened c).map Item.code ++ k)) cs w) b k cs e a' w'
theorem wpo.wp {P : Program} {c : Code} {Q : Exit → Act → World → Prop} {a : Act} {w : World} (h : wpo P c Q a w) : c.wp P Q a w := fun b k cs => by
  obtain ⟨e, a', w', hq, harr⟩ := h b k cs
  exact ⟨e, a', w', hq, .of_steps (opened_steps c k) harr⟩
theorem wpo_of_wp {P : Program} {c : Code} {Q : Exit → Act → World → Prop} {a : Act} {w : World} (hc : opened c = [c]) (h : c.wp P Q a w) : wpo P c Q a w := fun b k cs => by
  rw [hc]; exact h b k cs
theorem wpo_mono {P : Program} {c : Code} {Q Q' : Exit → Act → World → Prop} {a : Act} {w : World} (h : wpo P c Q a w) (hq : ∀ e a w, Q e a w → Q' e a w) : wpo P c Q' a w :=
  fun b k cs => let ⟨e, a', w', q, r⟩ := h b k cs; ⟨e, a', w', hq _ _ _ q, r⟩
theorem wpo_seq {P : Program} {x y : Code} {Q : Exit → Act → World → Prop} {a : Act} {w : World} (h : wpo P x (Exit.then (wpo P y Q) Q) a w) : wpo P (.seq x y) Q a w := by
  intro b k cs
  simp only [opened, List.map_append, List.map_cons, List.map_nil, List.append_assoc, List.cons_append, List.nil_append]
  obtain ⟨e, a₁, w₁, hq, harr⟩ := h b (.code y :: k) cs
  cases e with
  | normal =>
    obtain ⟨e₂, a₂, w₂, hq₂, harr₂⟩ := hq b k cs
    exact ⟨e₂, a₂, w₂, hq₂, .of_steps (Steps.trans harr (opened_steps y k)) harr₂⟩
  | exit id => exact ⟨_, a₁, w₁, hq, .pass (x := .code y) rfl (fun _ _ => .inl (by simp)) harr⟩
  | goto l => exact ⟨_, a₁, w₁, hq, .pass (x := .code y) rfl (fun _ _ => .inl (by simp)) harr⟩
  | ret => exact ⟨_, a₁, w₁, hq, .pass (x := .code y) rfl (fun _ _ => .inl (by simp)) harr⟩
  | panic ch => exact ⟨_, a₁, w₁, hq, .pass (x := .code y) rfl (fun _ _ => .inl (by simp)) harr⟩
  | outgrown => exact ⟨_, a₁, w₁, hq, .pass (x := .code y) rfl (fun _ _ => .inl (by simp)) harr⟩

/-- 'goto l' inside the scope that holds l -/
theorem wp_scope_label {P : Program} {Q : Exit → Act → World → Prop} {a : Act} {w : World} {c r : Code} {l : Nat} (hf : findLabel c l = some r) (I : Act → World → Prop) (μ : Act → World → Nat)
    (Q1 : Exit → Act → World → Prop) (Q2 : Act → World → Exit → Act → World → Prop)
    (h0 : wpTo P l c Q1 a w) (h1 : ∀ a' w', Q1 (.goto l) a' w' → I a' w') (h1' : ∀ e a' w', e ≠ .goto l → e ≠ .normal → Q1 e a' w' → Q e a' w' ∧ ∀ x, e ≠ .goto x)
    (round : ∀ a w, I a w → wpo P r (Q2 a w) a w) (h2 : ∀ a w a' w', I a w → Q2 a w (.goto l) a' w' → I a' w' ∧ μ a' w' < μ a w) (h2' : ∀ a w e a' w', I a w → e ≠ .goto l → Q2 a w e a' w' → Q e a' w' ∧ ∀ x, e ≠ .goto x) :
    (Code.scope c).wp P Q a w := by
  intro b k cs
  have out : ∀ (m : Machine) (e : Exit) (a' : Act) (w' : World), (∀ x, e ≠ .goto x) → Arrives P m b (.inScope c :: k) cs e a' w' → Arrives P m b k cs e a' w' := by
    intro m e a' w' hne harr
    cases e with
    | normal => exact Steps.trans harr (.one step_inScope)
    | exit id => exact fun k' hk => harr k' (by simp [exitTo, hk])
    | goto x => exact absurd rfl (hne x)
    | ret => exact harr
    | panic ch => exact harr
    | outgrown => exact harr
  have key : ∀ n a w, μ a w = n → I a w → ∃ e a' w', Q e a' w' ∧ Arrives P (lone (b.at a ((opened r).map Item.code ++ .inScope c :: k)) cs w) b k cs e a' w' := by
    intro n
    induction n using Nat.strongRecOn with
    | _ n ih =>
      intro a w hn hI
      obtain ⟨e, a1, w1, hq, harr⟩ := round a w hI b (.inScope c :: k) cs
      by_cases he : e = .goto l
      · subst he
        obtain ⟨hI1, hlt⟩ := h2 a w a1 w1 hI hq
        have hst := harr (.code r :: .inScope c :: k) (by simp [gotoIn, hf])
        obtain ⟨e2, a2, w2, hq2, harr2⟩ := ih (μ a1 w1) (hn ▸ hlt) a1 w1 rfl hI1
        exact ⟨e2, a2, w2, hq2, .of_steps (Steps.trans hst (opened_steps r _)) harr2⟩
      · obtain ⟨hQ, hne⟩ := h2' a w e a1 w1 hI he hq
        exact ⟨e, a1, w1, hQ, out _ e a1 w1 hne harr⟩
  rcases h0 b (.inScope c :: k) cs with ⟨e, a', w', hq, he2, harr⟩ | ⟨a', w', r', hq, hr, hst⟩
  · by_cases he1 : e = .goto l
    · subst he1
      have hst := harr (.code r :: .inScope c :: k) (by simp [gotoIn, hf])
      obtain ⟨e2, a2, w2, hq2, harr2⟩ := key _ a' w' rfl (h1 a' w' hq)
      exact ⟨e2, a2, w2, hq2, .of_steps (.head step_scope (Steps.trans hst (opened_steps r _))) harr2⟩
    · obtain ⟨hQ, hne⟩ := h1' e a' w' he1 he2 hq
      exact ⟨e, a', w', hQ, .of_steps (.one step_scope) (out _ e a' w' hne harr)⟩
  · rw [hf] at hr
    cases hr
    obtain ⟨e2, a2, w2, hq2, harr2⟩ := key _ a' w' rfl (h1 a' w' hq)
    exact ⟨e2, a2, w2, hq2, .of_steps (.head step_scope hst) harr2⟩

/-- what is shown of code: its 'wp'; in the mode 'some l' the way to the label -/
def Shows (P : Program) (c : Code) (Q : Exit → Act → World → Prop) (a : Act) (w : World) : Option Nat → Prop
  | none => wpo P c Q a w
  | some l => wpTo P l c Q a w

theorem den_ok {P : Program} {n : Nat} : ∀ (ann : Ann) (m : Option Nat) (c : Code) (Q : Exit → Env → Heap → Prop) (σ : Env) (a : Act) (w : World), Rel n σ a → den P n ann m c Q σ w.heap → Shows P c (up n a w (writes c) Q) a w m
  | .leaf, none, c, Q, σ, a, w, hr, h => by
    unfold den at h
    split at h
    · exact fun b k cs => ⟨.normal, a, w, ⟨σ, hr, h, Same.refl w, Unch.refl _ _⟩, .refl _ _⟩
    · exact wpo_of_wp rfl (wp_label ⟨σ, hr, h, Same.refl w, Unch.refl _ _⟩)
    · exact wpo_of_wp rfl (wp_exit ⟨σ, hr, h, Same.refl w, Unch.refl _ _⟩)
    · exact wpo_of_wp rfl (wp_goto ⟨σ, hr, h, Same.refl w, Unch.refl _ _⟩)
    · exact wpo_of_wp rfl (wp_ret ⟨σ, hr, h, Same.refl w, Unch.refl _ _⟩)
    · rename_i id ops
      refine wpo_of_wp rfl (wp_mono (wp_region (Q := upR n a w (opWrites ops) (Q .normal)) ?_) (fun e a' w' hq => up_of_upR hq))
      have := denOps_ok (a0 := a) (w0 := w) ops.toList 0 σ a w (by simp) hr (Same.refl w) (Unch.refl _ _) h
      rw [List.range_eq_range']
      simpa using this
    · exact h.elim
  | .leaf, some l, c, Q, σ, a, w, hr, h => by
    unfold den at h
    split at h
    · rename_i l'
      split at h
      · rename_i hl
        obtain rfl : l' = l := Nat.eq_of_beq_eq_true hl
        exact fun b k cs => .inr ⟨a, w, .skip, ⟨σ, hr, h, Same.refl w, Unch.refl _ _⟩, by simp [findLabel], .one step_label⟩
      · exact h.elim
    · exact h.elim
  | .plan p, none, c, Q, σ, a, w, hr, h => by
    unfold den at h
    split at h
    · rename_i id ops
      split at h
      · rename_i hb
        simp only [Bool.and_eq_true] at hb
        obtain ⟨⟨⟨h1, h2⟩, h3⟩, h4⟩ := hb
        refine wpo_of_wp rfl (wp_mono (wp_region_any (Q := upR n a w (opWrites ops) (Q .normal)) h1 ?_) (fun e a' w' hq => up_of_upR hq))
        have := (denPlan_both (a0 := a) (w0 := w) h2 p).1 ops.size (Array.replicate ops.size false) [] σ a { w with drawn := w.drawn + 1 } h3 h4 hr ⟨rfl, rfl, rfl⟩ (Unch.refl _ _) (fun _ hm => by cases hm) h
        exact wpAnyG_any _ _ _ _ _ this
      · exact h.elim
    · exact h.elim
  | .seq x y, none, c, Q, σ, a, w, hr, h => by
    unfold den at h
    split at h
    · rename_i c d
      refine wpo_seq (wpo_mono (den_ok x none c _ σ a w hr h) ?_)
      rintro e a' w' ⟨σ', hr', hq, hs, hu⟩
      have hW : ∀ t, t ∈ writes c → t ∈ writes (.seq c d) := fun t ht => List.mem_append_left _ ht
      cases e with
      | normal =>
        refine wpo_mono (den_ok y none d Q σ' a' w' hr' hq) ?_
        rintro e2 a2 w2 ⟨σ2, hr2, hq2, hs2, hu2⟩
        exact ⟨σ2, hr2, hq2, hs.trans hs2, (hu.mono hW).trans (hu2.mono fun t ht => List.mem_append_right _ ht)⟩
      | exit id => exact ⟨σ', hr', hq, hs, hu.mono hW⟩
      | goto l => exact ⟨σ', hr', hq, hs, hu.mono hW⟩
      | ret => exact ⟨σ', hr', hq, hs, hu.mono hW⟩
      | panic ch => exact ⟨σ', hr', hq, hs, hu.mono hW⟩
      | outgrown => exact ⟨σ', hr', hq, hs, hu.mono hW⟩
    · exact h.elim
  | .seq x y, some l, c, Q, σ, a, w, hr, h => by
    unfold den at h
    split at h
    · rename_i c d
      have hW : ∀ t, t ∈ writes c → t ∈ writes (.seq c d) := fun t ht => List.mem_append_left _ ht
      have hW2 : ∀ t, t ∈ writes d → t ∈ writes (.seq c d) := fun t ht => List.mem_append_right _ ht
      split at h
      · rename_i hl
        have ih := den_ok x (some l) c Q σ a w hr h
        intro b k cs
        rcases ih b (.code d :: k) cs with ⟨e, a', w', hq, he2, harr⟩ | ⟨a', w', r, hq, hf, hst⟩
        · obtain ⟨σ', hr', hq, hs, hu⟩ := hq
          exact .inl ⟨e, a', w', ⟨σ', hr', hq, hs, hu.mono hW⟩, he2, .of_steps (.one step_seq) (.pass (x := .code d) rfl (fun _ _ => .inl he2) harr)⟩
        · obtain ⟨σ', hr', hq, hs, hu⟩ := hq
          refine .inr ⟨a', w', .seq r d, ⟨σ', hr', hq, hs, hu.mono hW⟩, by simp [findLabel, hf], .head step_seq ?_⟩
          simpa [opened] using hst
      · rename_i hl
        have ih := den_ok x none c _ σ a w hr h
        have hfc : findLabel c l = none := by
          have := hasLabel_find c l
          rw [hl] at this
          cases hq : findLabel c l with
          | none => rfl
          | some r => rw [hq] at this; cases this
        intro b k cs
        obtain ⟨e, a', w', ⟨σ', hr', hq, hs, hu⟩, harr⟩ := ih.wp b (.code d :: k) cs
        cases e with
        | normal =>
          rcases den_ok y (some l) d Q σ' a' w' hr' hq b k cs with ⟨e2, a2, w2, hq2, he2, harr2⟩ | ⟨a2, w2, r, hq2, hf2, hst2⟩
          · obtain ⟨σ2, hr2, hq2, hs2, hu2⟩ := hq2
            exact .inl ⟨e2, a2, w2, ⟨σ2, hr2, hq2, hs.trans hs2, (hu.mono hW).trans (hu2.mono hW2)⟩, he2, .of_steps (.head step_seq harr) harr2⟩
          · obtain ⟨σ2, hr2, hq2, hs2, hu2⟩ := hq2
            exact .inr ⟨a2, w2, r, ⟨σ2, hr2, hq2, hs.trans hs2, (hu.mono hW).trans (hu2.mono hW2)⟩, by simp [findLabel, hfc, hf2], .head step_seq (Steps.trans harr hst2)⟩
        | exit id => exact .inl ⟨_, a', w', ⟨σ', hr', hq, hs, hu.mono hW⟩, by simp, .of_steps (.one step_seq) (.pass (x := .code d) rfl (fun _ _ => .inl (by simp)) harr)⟩
        | goto l' => exact .inl ⟨_, a', w', ⟨σ', hr', hq, hs, hu.mono hW⟩, by simp, .of_steps (.one step_seq) (.pass (x := .code d) rfl (fun _ _ => .inl (by simp)) harr)⟩
        | ret => exact .inl ⟨_, a', w', ⟨σ', hr', hq, hs, hu.mono hW⟩, by simp, .of_steps (.one step_seq) (.pass (x := .code d) rfl (fun _ _ => .inl (by simp)) harr)⟩
        | panic ch => exact .inl ⟨_, a', w', ⟨σ', hr', hq, hs, hu.mono hW⟩, by simp, .of_steps (.one step_seq) (.pass (x := .code d) rfl (fun _ _ => .inl (by simp)) harr)⟩
        | outgrown => exact .inl ⟨_, a', w', ⟨σ', hr', hq, hs, hu.mono hW⟩, by simp, .of_steps (.one step_seq) (.pass (x := .code d) rfl (fun _ _ => .inl (by simp)) harr)⟩
    · exact h.elim
  | .cond x y, none, c, Q, σ, a, w, hr, h => by
    unfold den at h
    split at h
    · rename_i k c d
      split at h
      · rename_i q hq
        have he := hr.fits _ _ hq
        split at h
        · rename_i ht
          subst ht
          refine wpo_of_wp rfl (wp_cond_true he (wp_mono (den_ok x none c Q σ a w hr h).wp ?_))
          rintro e a' w' ⟨σ', hr', hq, hs, hu⟩
          exact ⟨σ', hr', hq, hs, hu.mono fun t ht => List.mem_append_left _ ht⟩
        · rename_i ht
          have ht : q = false := by simpa using ht
          subst ht
          refine wpo_of_wp rfl (wp_cond_false he (wp_mono (den_ok y none d Q σ a w hr h).wp ?_))
          rintro e a' w' ⟨σ', hr', hq, hs, hu⟩
          exact ⟨σ', hr', hq, hs, hu.mono fun t ht => List.mem_append_right _ ht⟩
      · exact h.elim
    · exact h.elim
  | .block x, none, c, Q, σ, a, w, hr, h => by
    unfold den at h
    split at h
    · rename_i id c
      refine wpo_of_wp rfl (wp_block (wp_mono (den_ok x none c _ σ a w hr h).wp ?_))
      rintro e a' w' ⟨σ', hr', hq, hs, hu⟩
      cases e with
      | exit id' =>
        simp only [Exit.inBlock]
        simp only [blockK] at hq
        by_cases hid : id' = id
        · subst hid
          simp only [Nat.beq_refl] at hq
          rw [if_pos rfl]; exact ⟨σ', hr', hq, hs, hu⟩
        · rw [if_neg hid]
          have : Nat.beq id' id = false := by cases hb : Nat.beq id' id; rfl; exact absurd (Nat.eq_of_beq_eq_true hb) hid
          rw [this] at hq
          exact ⟨σ', hr', hq, hs, hu⟩
      | normal => exact ⟨σ', hr', hq, hs, hu⟩
      | goto l => exact ⟨σ', hr', hq, hs, hu⟩
      | ret => exact ⟨σ', hr', hq, hs, hu⟩
      | panic ch => exact ⟨σ', hr', hq, hs, hu⟩
      | outgrown => exact ⟨σ', hr', hq, hs, hu⟩
    · exact h.elim
  | .loop L x, none, c, Q, σ, a, w, hr, h => by
    unfold den at h
    split at h
    · rename_i c
      obtain ⟨I, μ, h0, hstep⟩ := h
      refine wpo_of_wp rfl (wp_loop (fun a' w' => ∃ σ', Rel n σ' a' ∧ apE False L I σ' (fun f => f w'.heap) ∧ Same w w' ∧ Unch (writes c) a a')
        (fun a' w' => apE 0 L μ (envOf a') (fun f => f w'.heap)) ⟨σ, hr, h0, Same.refl w, Unch.refl _ _⟩ ?_)
      rintro a' w' ⟨σ', hr', hI, hs, hu⟩
      obtain ⟨σ'', hF, hsub, hL, _⟩ := allE_at L _ I hstep hI
      have hr'' := Rel.of_sub hr hr' hu hsub
      have hI'' : apE False L I σ'' (fun f => f w'.heap) := by rw [apE_congr L I hL]; exact hI
      have hd := hF w'.heap hI''
      refine wp_mono (den_ok x none c _ σ'' a' w' hr'' hd).wp ?_
      rintro e a1 w1 ⟨σ1, hr1, hq, hs1, hu1⟩
      cases e with
      | normal =>
        obtain ⟨hI1, hlt⟩ := hq
        refine ⟨⟨σ1, hr1, hI1, hs.trans hs1, hu.trans hu1⟩, ?_⟩
        rw [apE_envOf hr1 (apE_def L I hI1), apE_envOf hr'' (apE_def L I hI'')]
        exact hlt
      | exit id => exact ⟨σ1, hr1, hq, hs.trans hs1, hu.trans hu1⟩
      | goto l => exact ⟨σ1, hr1, hq, hs.trans hs1, hu.trans hu1⟩
      | ret => exact ⟨σ1, hr1, hq, hs.trans hs1, hu.trans hu1⟩
      | panic ch => exact ⟨σ1, hr1, hq, hs.trans hs1, hu.trans hu1⟩
      | outgrown => exact ⟨σ1, hr1, hq, hs.trans hs1, hu.trans hu1⟩
    · exact h.elim
  | .join L x, none, c, Q, σ, a, w, hr, h => by
    unfold den at h
    unfold JoinP at h
    refine wpo_mono (den_ok x none c _ σ a w hr h) ?_
    rintro e a' w' ⟨σ', hr', hq, hs, hu⟩
    cases e with
    | normal =>
      obtain ⟨σ'', hQ, hsub⟩ := apE_lamE L _ hq
      exact ⟨σ'', Rel.of_sub hr hr' hu hsub, hQ, hs, hu⟩
    | exit id => exact ⟨σ', hr', hq, hs, hu⟩
    | goto l => exact ⟨σ', hr', hq, hs, hu⟩
    | ret => exact ⟨σ', hr', hq, hs, hu⟩
    | panic ch => exact ⟨σ', hr', hq, hs, hu⟩
    | outgrown => exact ⟨σ', hr', hq, hs, hu⟩
  | .scope l L x y, none, c, Q, σ, a, w, hr, h => by
    unfold den at h
    split at h
    · rename_i c
      split at h
      · rename_i r hf
        obtain ⟨I, μ, h0, hstep⟩ := h
        have hWr := findLabel_writes c l r hf
        have isGoto : ∀ (K : Env → Heap → Prop) (e : Exit) (σ' : Env) (h' : Heap), e ≠ .goto l → gotoK l K Q e σ' h' → Q e σ' h' ∧ ∀ z, e ≠ .goto z := by
          intro K e σ' h' hne hq
          cases e with
          | goto z =>
            simp only [gotoK] at hq
            have : Nat.beq z l = false := by cases hb : Nat.beq z l; rfl; exact absurd (by rw [Nat.eq_of_beq_eq_true hb]) hne
            rw [this] at hq
            exact hq.elim
          | normal => exact ⟨hq, fun z hz => by cases hz⟩
          | exit id => exact ⟨hq, fun z hz => by cases hz⟩
          | ret => exact ⟨hq, fun z hz => by cases hz⟩
          | panic ch => exact ⟨hq, fun z hz => by cases hz⟩
          | outgrown => exact ⟨hq, fun z hz => by cases hz⟩
        refine wpo_of_wp rfl (wp_scope_label hf (fun a' w' => ∃ σ', Rel n σ' a' ∧ apE False L I σ' (fun f => f w'.heap) ∧ Same w w' ∧ Unch (writes c) a a')
          (fun a' w' => apE 0 L μ (envOf a') (fun f => f w'.heap)) _
          (fun a0 w0 e a' w' => ∃ σ', Rel n σ' a' ∧ gotoK l (fun σ'' h'' => apE False L I σ'' (fun f => f h'') ∧ apE 0 L μ σ'' (fun f => f h'') < apE 0 L μ (envOf a0) (fun f => f w0.heap)) Q e σ' w'.heap ∧ Same w w' ∧ Unch (writes c) a a')
          (den_ok x (some l) c _ σ a w hr h0) ?_ ?_ ?_ ?_ ?_)
        · rintro a' w' ⟨σ', hr', hq, hs, hu⟩
          simp only [gotoK, Nat.beq_refl] at hq
          exact ⟨σ', hr', hq, hs, hu⟩
        · rintro e a' w' he1 _ ⟨σ', hr', hq, hs, hu⟩
          obtain ⟨hq1, hq2⟩ := isGoto _ e σ' _ he1 hq
          exact ⟨⟨σ', hr', hq1, hs, hu⟩, hq2⟩
        · rintro a' w' ⟨σ', hr', hI, hs, hu⟩
          obtain ⟨σ'', hF, hsub, hL, _⟩ := allE_at L _ I hstep hI
          have hr'' := Rel.of_sub hr hr' hu hsub
          have hI'' : apE False L I σ'' (fun f => f w'.heap) := by rw [apE_congr L I hL]; exact hI
          have hd := hF w'.heap hI''
          refine wpo_mono (den_ok y none r _ σ'' a' w' hr'' hd) ?_
          rintro e a1 w1 ⟨σ1, hr1, hq, hs1, hu1⟩
          refine ⟨σ1, hr1, ?_, hs.trans hs1, hu.trans (hu1.mono hWr)⟩
          cases e with
          | goto z =>
            simp only [gotoK] at hq ⊢
            cases hz : Nat.beq z l with
            | false => rw [hz] at hq; exact hq.elim
            | true =>
              rw [hz] at hq
              obtain ⟨q1, q2⟩ := hq
              exact ⟨q1, by rw [apE_envOf hr'' (apE_def L I hI'')]; exact q2⟩
          | normal => exact hq
          | exit id => exact hq
          | ret => exact hq
          | panic ch => exact hq
          | outgrown => exact hq
        · rintro a0 w0 a' w' _ ⟨σ', hr', hq, hs, hu⟩
          simp only [gotoK, Nat.beq_refl] at hq
          obtain ⟨q1, q2⟩ := hq
          refine ⟨⟨σ', hr', q1, hs, hu⟩, ?_⟩
          rw [apE_envOf hr' (apE_def L I q1)]
          exact q2
        · rintro a0 w0 e a' w' _ he ⟨σ', hr', hq, hs, hu⟩
          obtain ⟨hq1, hq2⟩ := isGoto _ e σ' _ he hq
          exact ⟨⟨σ', hr', hq1, hs, hu⟩, hq2⟩
      · exact h.elim
    · exact h.elim
  | .plan _, some _, _, _, _, _, _, _, h => h.elim
  | .cond _ _, some _, _, _, _, _, _, _, h => h.elim
  | .block _, some _, _, _, _, _, _, _, h => h.elim
  | .loop _ _, some _, _, _, _, _, _, _, h => h.elim
  | .join _ _, some _, _, _, _, _, _, _, h => h.elim
  | .scope _ _ _ _, some _, _, _, _, _, _, _, h => h.elim
  | .typed _, some _, _, _, _, _, _, _, h => h.elim
  | .typed ty, none, c, Q, σ, a, w, hr, h => by
    unfold den at h
    split at h
    · rename_i id ops
      refine wpo_of_wp rfl (wp_mono (wp_region (Q := upR n a w (opWrites ops) (Q .normal)) ?_) (fun e a' w' hq => up_of_upR hq))
      have := denOpsT_ok (a0 := a) (w0 := w) ops.toList 0 σ a w (by simp) hr (Same.refl w) (Unch.refl _ _) h
      rw [List.range_eq_range']
      simpa using this
    · exact h.elim

/-! ### a function -/
def resL (P : Program) : List ResultVar → Env → Heap → (List Value → Prop) → Prop
  | [], _, _, F => F []
  | .tmp t :: rs, σ, h, F => onSome (σ t) fun v => resL P rs σ h fun vs => F (v :: vs)
  | .cell a t :: rs, σ, h, F => (match σ a with
    | some (.pointer p) => onSome p fun ad => denLoad P t h ad fun v _ => resL P rs σ h fun vs => F (v :: vs)
    | _ => False)
def oneOr (vs : List Value) : Value :=
  match vs with
  | [v] => v
  | vs => .tuple vs.toArray
def retK (P : Program) (rs : Array ResultVar) (R : Value → Heap → Prop) : Exit → Env → Heap → Prop
  | .normal, σ, h => resL P rs.toList σ h fun vs => R (oneOr vs) h
  | .ret, σ, h => resL P rs.toList σ h fun vs => R (oneOr vs) h
  | _, _, _ => False
def argEnv (args : List Value) : Env := fun t => args[t]?

def resF (a : Act) : ResultVar → Sem Value
  | .tmp t => pure (a.tmps.getD t undef)
  | .cell ad t => do loadVar t (← asAddr (a.tmps.getD ad undef))
theorem resL_ok {P : Program} {n : Nat} {σ : Env} {a : Act} {h : Heap} (hr : Rel n σ a) : ∀ (rs : List ResultVar) (F : List Value → Prop), resL P rs σ h F → ∃ vs, F vs ∧
    rd P (rs.mapM (resF a)) h = some vs
  | [], F, hh => ⟨[], hh, rfl⟩
  | .tmp t :: rs, F, hh => by
    obtain ⟨v, hv, hh⟩ := onSome_iff.1 hh
    obtain ⟨vs, h1, h2⟩ := resL_ok hr rs _ hh
    refine ⟨v :: vs, h1, ?_⟩
    rw [List.mapM_cons]
    have h6 : rd P (resF a (.tmp t)) h = some v := by
      show some (a.tmps.getD t undef) = some v
      rw [hr.at_ t v hv]
    rw [rd_bind _ _ _ _ h6, rd_bind _ _ _ _ h2]
    rfl
  | .cell ad t :: rs, F, hh => by
    simp only [resL] at hh
    split at hh
    · rename_i p hp
      obtain ⟨b, rfl, hh1⟩ := onSome_iff.1 hh
      obtain ⟨v, S, h1, h2, h3⟩ := denLoad_ok hh1
      obtain ⟨vs, h4, h5⟩ := resL_ok hr rs _ h1
      refine ⟨v :: vs, h4, ?_⟩
      rw [List.mapM_cons]
      have h6 : rd P (resF a (.cell ad t)) h = some v := by
        show rd P (do loadVar t (← asAddr (a.tmps.getD ad undef))) h = _
        rw [hr.at_ ad _ hp]; exact h3 h h2
      rw [rd_bind _ _ _ _ h6, rd_bind _ _ _ _ h5]
      rfl
    · exact hh.elim

theorem results_ok {P : Program} {n : Nat} {σ : Env} {a : Act} {h : Heap} {fn : Func} {F : Value → Prop} (hr : Rel n σ a) (hh : resL P fn.results.toList σ h fun vs => F (oneOr vs)) :
    ∃ v, F v ∧ rd P (results fn a.tmps) h = some v := by
  obtain ⟨vs, h1, h2⟩ := resL_ok hr _ _ hh
  refine ⟨_, h1, ?_⟩
  have h3 : rd P (fn.results.mapM (resF a)) h = some vs.toArray := by
    rw [Array.mapM_eq_mapM_toList]
    show rd P (fn.results.toList.mapM (resF a) >>= fun l => pure (List.toArray l)) h = _
    rw [rd_bind _ _ _ _ h2]
    rfl
  have h4 : results fn a.tmps = fn.results.mapM (resF a) >>= fun vs => pure (if h : vs.size = 1 then vs[0] else .tuple vs) := by
    unfold results
    congr 1
  rw [h4, rd_bind _ _ _ _ h3]
  match vs with
  | [] => rfl
  | [v] => rfl
  | u :: v :: vs => rfl

theorem callsH_of_den {P : Program} {f : FuncId} {fn : Func} {c : Code} {args : List Value} {h : Heap} {R : Value → Heap → Prop} (ann : Ann)
    (hf : P.funcs[f]? = some fn) (hb : fn.body = some c) (hn : Nat.ble args.length fn.ntmps = true)
    (hd : den P fn.ntmps ann none c (retK P fn.results R) (argEnv args) h) : CallsH P f args.toArray h R := by
  intro w hw
  subst hw
  have hn := Nat.le_of_ble_eq_true hn
  refine calls_of_wp hf hb ?_
  have hr : Rel fn.ntmps (argEnv args) { tmps := args.toArray ++ Array.replicate (fn.ntmps - args.toArray.size) undef, defers := [] } := by
    refine ⟨rfl, by simp; omega, fun t v hv => ?_⟩
    unfold argEnv at hv
    have hlt : t < args.length := (List.getElem?_eq_some_iff.1 hv).1
    simp only [Array.getD_eq_getD_getElem?]
    rw [Array.getElem?_append_left (by simpa using hlt)]
    simp [hv]
  refine wp_mono (den_ok ann none c _ _ _ w hr hd).wp ?_
  rintro e a w' ⟨σ, hr, hq, hs, _⟩
  have fin : resL P fn.results.toList σ w'.heap (fun vs => R (oneOr vs) w'.heap) → a.defers = [] ∧ ∃ v, (results fn a.tmps).run P w' = .ok v w' ∧ ∃ v', Ending.returned v = .returned v' ∧ R v' w'.heap ∧ Same w w' := fun hh => by
    obtain ⟨v, h1, h2⟩ := results_ok (F := fun v => R v w'.heap) hr hh
    exact ⟨hr.defers, v, rd_run _ _ _ h2, v, rfl, h1, hs⟩
  cases e with
  | normal => exact fin hq
  | ret => exact fin hq
  | exit id => exact hq.elim
  | goto l => exact hq.elim
  | panic ch => exact hq.elim
  | outgrown => exact hq.elim

def bodyOf (fn : Func) : Code := fn.body.getD .skip
theorem callsH_of_body {P : Program} {f : FuncId} {fn : Func} {args : List Value} {h : Heap} {R : Value → Heap → Prop} (ann : Ann)
    (hf : P.funcs[f]? = some fn) (hb : fn.body.isSome = true) (hn : Nat.ble args.length fn.ntmps = true)
    (hd : den P fn.ntmps ann none (bodyOf fn) (retK P fn.results R) (argEnv args) h) : CallsH P f args.toArray h R := by
  obtain ⟨c, hc⟩ := Option.isSome_iff_exists.1 hb
  refine callsH_of_den ann hf hc hn ?_
  rw [bodyOf, hc] at hd
  exact hd

end Go.Den
