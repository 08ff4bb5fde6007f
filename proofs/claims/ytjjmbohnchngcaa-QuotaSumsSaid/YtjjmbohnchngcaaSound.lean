/-
  What is proved here: the reading of code ('den') is enough for the model's own 'Calls' ('callsH_of_den'). No condition.
-/
import Derived.Test.YtjjmbohnchngcaaCode
namespace Go.Den

/-! ### a region whose order is drawn -/
def waits (o : Oper) (i : Nat) : Bool := o.after.toList.any fun e => Region.binds .any e && Nat.beq e.on i
def keepG (o : Oper) (G : List (Nat × (Heap → Prop))) : List (Nat × (Heap → Prop)) := G.filter fun g => !waits o g.1
theorem keepG_mem {o : Oper} {G : List (Nat × (Heap → Prop))} {g : Nat × (Heap → Prop)} (h : g ∈ keepG o G) : g ∈ G := (List.mem_filter.1 h).1

def wpAnyG (P : Program) (ops : Array Oper) (Q : Exit → Act → World → Prop) : Nat → List (Nat × (Heap → Prop)) → Array Bool → Act → World → Prop
  | 0, _, listed, a, w => Region.ready .any ops listed = [] ∧ Q .normal a w
  | fuel + 1, G, listed, a, w =>
    (Region.ready .any ops listed = [] → Q .normal a w) ∧
    ∀ j ∈ Region.ready .any ops listed, ∀ o, ops[j]? = some o → wpOp P ops Q j (fun a' w' => (∀ g ∈ keepG o G, g.2 w'.heap) ∧ wpAnyG P ops Q fuel (keepG o G) (listed.setIfInBounds j true) a' w') a w

section
variable {P : Program} {ops : Array Oper} {Q : Exit → Act → World → Prop}

theorem wpAnyG_any : ∀ (fuel : Nat) (G : List (Nat × (Heap → Prop))) (listed : Array Bool) (a : Act) (w : World), wpAnyG P ops Q fuel G listed a w → wpAny P .any ops Q fuel listed a w
  | 0, _, _, _, _, h => h
  | fuel + 1, G, listed, a, w, h => ⟨h.1, fun i hi => by
      obtain ⟨_, o, ho, _⟩ := mem_ready.1 hi
      exact wpOp_mono (fun a' w' h' => wpAnyG_any fuel _ _ a' w' h'.2) (h.2 i hi o ho)⟩

theorem wpAnyG_sub : ∀ (fuel : Nat) (G G' : List (Nat × (Heap → Prop))) (listed : Array Bool) (a : Act) (w : World), (∀ g ∈ G', g ∈ G) → wpAnyG P ops Q fuel G listed a w → wpAnyG P ops Q fuel G' listed a w
  | 0, _, _, _, _, _, _, h => h
  | fuel + 1, G, G', listed, a, w, hs, h => ⟨h.1, fun i hi o ho => by
      have hk : ∀ g ∈ keepG o G', g ∈ keepG o G := fun g hg => List.mem_filter.2 ⟨hs g (keepG_mem hg), (List.mem_filter.1 hg).2⟩
      exact wpOp_mono (fun a' w' h' => ⟨fun g hg => h'.1 g (hk g hg), wpAnyG_sub fuel _ _ _ a' w' hk h'.2⟩) (h.2 i hi o ho)⟩

theorem wpAnyG_true (i : Nat) : ∀ (fuel : Nat) (G : List (Nat × (Heap → Prop))) (listed : Array Bool) (a : Act) (w : World), wpAnyG P ops Q fuel G listed a w → wpAnyG P ops Q fuel ((i, fun _ => True) :: G) listed a w
  | 0, _, _, _, _, h => h
  | fuel + 1, G, listed, a, w, h => ⟨h.1, fun j hj o ho => by
      refine wpOp_mono (fun a' w' h' => ⟨fun g hg => ?_, ?_⟩) (h.2 j hj o ho)
      · obtain ⟨h1, h2⟩ := List.mem_filter.1 hg
        rcases List.mem_cons.1 h1 with e | e
        · rw [e]; trivial
        · exact h'.1 g (List.mem_filter.2 ⟨e, h2⟩)
      · have := wpAnyG_true i fuel _ _ a' w' h'.2
        refine wpAnyG_sub fuel _ _ _ a' w' (fun g hg => ?_) this
        obtain ⟨h1, h2⟩ := List.mem_filter.1 hg
        rcases List.mem_cons.1 h1 with e | e
        · rw [e]; exact List.mem_cons_self
        · exact List.mem_cons_of_mem _ (List.mem_filter.2 ⟨e, h2⟩)⟩

theorem waits_false {oj : Oper} {i : Nat} (h : ∀ e ∈ oj.after, Region.binds .any e = true → e.on ≠ i) : waits oj i = false := by
  unfold waits
  rw [List.any_eq_false]
  intro e he
  simp only [Bool.and_eq_true, not_and]
  intro hb hq
  exact h e (by simpa using he) hb (Nat.eq_of_beq_eq_true hq)

theorem wpAnyG_first {i : Nat} {oi : Oper} {v : Value} {S : Heap → Prop} (hi : ops[i]? = some oi) (hsel : ∀ (j : Nat) (o : Oper) cs b, ops[j]? = some o → o.op ≠ .select cs b)
    (hQ : ∀ c a w, Q (.panic c) (a.put oi.dst v) w → Q (.panic c) a w) :
    ∀ (fuel : Nat) (G : List (Nat × (Heap → Prop))) (listed : Array Bool) (a : Act) (w : World),
      (∀ j oj, ops[j]? = some oj → j ≠ i → listed.getD j true = false → (∀ e ∈ oj.after, Region.binds .any e = true → e.on ≠ i) → oi.apart ops oj = true) →
      i ∈ Region.ready .any ops listed → YieldsIf P ops (fun w => S w.heap) oi v a → S w.heap → (∀ g ∈ G, g.2 w.heap) →
      wpAnyG P ops Q fuel ((i, S) :: G) (listed.setIfInBounds i true) (a.put oi.dst v) w → wpAnyG P ops Q (fuel + 1) G listed a w := by
  intro fuel
  induction fuel with
  | zero =>
    intro G listed a w _ hr hy hS hG H
    refine ⟨fun h => (by rw [h] at hr; cases hr), fun j hj o ho => ?_⟩
    by_cases hji : j = i
    · subst hji
      exact hy.wpOp hi hS ⟨fun g hg => hG g (keepG_mem hg), H⟩
    · have := ready_mono hj hji
      rw [H.1] at this
      cases this
  | succ fuel ih =>
    intro G listed a w hfree hr hy hS hG H
    refine ⟨fun h => (by rw [h] at hr; cases hr), fun j hj o ho => ?_⟩
    by_cases hji : j = i
    · subst hji
      refine hy.wpOp hi hS ⟨fun g hg => hG g (keepG_mem hg), wpAnyG_sub _ _ _ _ _ _ (fun g hg => List.mem_cons_of_mem _ (keepG_mem hg)) H⟩
    · have h1 := H.2 j (ready_mono hj hji) o ho
      obtain ⟨hjun, oj, hoj, hall⟩ := mem_ready.1 hj
      obtain rfl : oj = o := by rw [ho] at hoj; exact (Option.some.inj hoj).symm
      have hnot : ∀ e ∈ oj.after, Region.binds .any e = true → e.on ≠ i := fun e he hb heq => by
        have h1 := hall e he hb
        have h0 := (mem_ready.1 hr).1
        rw [heq] at h1
        rcases Nat.lt_or_ge i listed.size with h' | h'
        · simp [h'] at h0 h1; rw [h0] at h1; cases h1
        · simp [Array.getElem?_eq_none h'] at h1
      have hkeep : keepG oj ((i, S) :: G) = (i, S) :: keepG oj G := by
        unfold keepG
        rw [List.filter_cons, if_pos]
        simp [waits_false hnot]
      rw [hkeep] at h1
      have h2 := wpOp_putIf hoj (hfree j oj hoj hji hjun hnot) (fun cs b => hsel i oi cs b hi) (fun cs b => hsel j oj cs b hoj) hQ hy h1
      have hfree' : ∀ k ok, ops[k]? = some ok → k ≠ i → (listed.setIfInBounds j true).getD k true = false →
          (∀ e ∈ ok.after, Region.binds .any e = true → e.on ≠ i) → oi.apart ops ok = true := fun k ok hk hki hun hno => by
        refine hfree k ok hk hki ?_ hno
        by_cases hjk : j = k
        · subst hjk; exact hjun
        · rw [getD_set_ne true hjk] at hun; exact hun
      refine wpOp_mono (fun a' w' h3 => ?_) h2
      obtain ⟨hy', hall', hrest⟩ := h3
      refine ⟨fun g hg => hall' g (List.mem_cons_of_mem _ hg), ?_⟩
      refine ih (keepG oj G) (listed.setIfInBounds j true) a' w' hfree' (ready_mono hr (Ne.symm hji)) hy' (hall' _ List.mem_cons_self) (fun g hg => hall' g (List.mem_cons_of_mem _ hg)) ?_
      rw [Array.setIfInBounds_comm _ _ hji]
      exact hrest
end

/-- which operations are taken first, which are carried out alone -/
def planB (P : Program) (ops : Array Oper) : List Nat → Array Bool → Bool
  | [], listed => (Region.ready .any ops listed).isEmpty
  | i :: rest, listed =>
    (match ops[i]? with
      | some o => (match isRead P o with
        | true => (Region.ready .any ops listed).contains i && Region.free .any ops listed i
        | false => (match Region.ready .any ops listed with | [j] => Nat.beq i j | _ => false))
      | none => false) && planB P ops rest (listed.setIfInBounds i true)
def heldK (h : Heap) (K : Prop) : List (Nat × (Heap → Prop)) → Prop
  | [] => K
  | g :: G => g.2 h ∧ heldK h K G
theorem heldK_ok {h : Heap} {K : Prop} : ∀ {G : List (Nat × (Heap → Prop))}, heldK h K G → (∀ g ∈ G, g.2 h) ∧ K
  | [], hh => ⟨(fun _ hm => by cases hm), hh⟩
  | _ :: _, hh => by
    obtain ⟨h1, h2⟩ := heldK_ok hh.2
    refine ⟨fun g' hm => ?_, h2⟩
    rcases List.mem_cons.1 hm with e | e
    · rw [e]; exact hh.1
    · exact h1 _ e
def addG (i : Nat) (S : Option (Heap → Prop)) (G : List (Nat × (Heap → Prop))) : List (Nat × (Heap → Prop)) :=
  match S with
  | some S => (i, S) :: G
  | none => G

def denPlan (P : Program) (n : Nat) (ops : Array Oper) : List Nat → List (Nat × (Heap → Prop)) → Env → Heap → (Env → Heap → Prop) → Prop
  | [], _, σ, h, K => K σ h
  | i :: rest, G, σ, h, K => (match ops[i]? with
    | some o => gsplit ops o σ
        (fun σ => (match isRead P o with
          | true => denRead P o σ h fun v S => putK n σ o.dst v fun σ' => denPlan P n ops rest (addG i S G) σ' h K
          | false => denEff P o σ h fun v h' => heldK h' (putK n σ o.dst v fun σ' => denPlan P n ops rest (keepG o G) σ' h' K) (keepG o G)))
        (fun σ => putK n σ o.dst undef fun σ' => denPlan P n ops rest G σ' h K)
    | none => False)

theorem denPlan_ok {P : Program} {n : Nat} {ops : Array Oper} {K : Env → Heap → Prop} {a0 : Act} {w0 : World} (hsel : Region.noSelect ops = true) :
    ∀ (plan : List Nat) (listed : Array Bool) (G : List (Nat × (Heap → Prop))) (σ : Env) (a : Act) (w : World),
    planB P ops plan listed = true → Rel n σ a → Same w0 w → Unch (opWrites ops) a0 a → (∀ g ∈ G, g.2 w.heap) → denPlan P n ops plan G σ w.heap K →
    wpAnyG P ops (upR n a0 w0 (opWrites ops) K) plan.length G listed a w
  | [], listed, G, σ, a, w, hp, hr, hs, hu, hG, h => by
    simp only [planB, List.isEmpty_iff] at hp
    exact ⟨hp, rfl, σ, hr, h, hs, hu⟩
  | i :: rest, listed, G, σ, a, w, hp, hr, hs, hu, hG, h => by
    simp only [planB, Bool.and_eq_true] at hp
    obtain ⟨hp1, hp2⟩ := hp
    simp only [denPlan] at h
    split at h
    · rename_i o ho
      simp only [ho] at hp1
      have hQ : ∀ v, ∀ c a w, upR n a0 w0 (opWrites ops) K (.panic c) (a.put o.dst v) w → upR n a0 w0 (opWrites ops) K (.panic c) a w := fun v c a w hq => by cases hq.1
      -- what is taken first
      have take : ∀ (v : Value) (S : Option (Heap → Prop)) (σ' : Env), isRead P o = true → Rel n σ' (a.put o.dst v) → YieldsIf P ops (fun w => okS S w.heap) o v a → okS S w.heap →
          denPlan P n ops rest (addG i S G) σ' w.heap K → wpAnyG P ops (upR n a0 w0 (opWrites ops) K) (rest.length + 1) G listed a w := fun v S σ' hread hr' hy hS hd => by
        rw [hread] at hp1
        simp only [Bool.and_eq_true] at hp1
        have hG' : ∀ g ∈ addG i S G, g.2 w.heap := by
          intro g hg
          cases S with
          | none => exact hG g hg
          | some S =>
            rcases List.mem_cons.1 hg with e | e
            · rw [e]; exact hS
            · exact hG g e
        have ih := denPlan_ok (a0 := a0) (w0 := w0) hsel rest _ (addG i S G) σ' (a.put o.dst v) w hp2 hr' hs (hu.trans (Unch.put (opWrites_mem ho))) hG' hd
        refine wpAnyG_first (S := okS S) ho (Region.noSelect_spec hsel) (hQ v) rest.length G listed a w (Region.free_spec ho hp1.2) (by simpa using hp1.1) hy hS hG ?_
        cases S with
        | none => exact wpAnyG_true i _ _ _ _ _ ih
        | some S => exact ih
      rcases gsplit_ok hr h with ⟨hw, σ', hr', h⟩ | ⟨hw, σ', hr', hskip⟩
      · cases hread : isRead P o with
        | true =>
          rw [hread] at h
          obtain ⟨v, S, h1, h2, h3⟩ := denRead_ok hr'.fits h
          obtain ⟨σ1, hr1, h4⟩ := putK_ok hr' h1
          exact take v S σ1 hread hr1 (.inl ⟨hw, fun w' hS => rd_run _ _ _ (h3 _ hS)⟩) h2 h4
        | false =>
          rw [hread] at h hp1
          simp only at hp1
          have hready : Region.ready .any ops listed = [i] := by
            split at hp1
            · rename_i j hj; rw [hj, Nat.eq_of_beq_eq_true hp1]
            · cases hp1
          refine ⟨(fun e => by rw [hready] at e; cases e), fun j hj o' ho' => ?_⟩
          rw [hready] at hj
          obtain rfl : j = i := by simpa using hj
          obtain rfl : o' = o := by rw [ho] at ho'; exact (Option.some.inj ho').symm
          unfold wpOp
          simp only [ho, hw, if_true]
          refine .inl ((denEff_ok hr'.fits h).wp ?_)
          intro v w' hk hs'
          obtain ⟨h1, h2⟩ := heldK_ok hk
          obtain ⟨σ1, hr1, h3⟩ := putK_ok hr' h2
          exact ⟨h1, denPlan_ok hsel rest _ _ σ1 _ w' hp2 hr1 (hs.trans hs') (hu.trans (Unch.put (opWrites_mem ho))) h1 h3⟩
      · cases hread : isRead P o with
        | true =>
          obtain ⟨σ1, hr1, h4⟩ := putK_ok hr' hskip
          exact take undef none σ1 hread hr1 (.inr ⟨hw, rfl⟩) trivial h4
        | false =>
          rw [hread] at hp1
          simp only at hp1
          have hready : Region.ready .any ops listed = [i] := by
            split at hp1
            · rename_i j hj; rw [hj, Nat.eq_of_beq_eq_true hp1]
            · cases hp1
          refine ⟨(fun e => by rw [hready] at e; cases e), fun j hj o' ho' => ?_⟩
          rw [hready] at hj
          obtain rfl : j = i := by simpa using hj
          obtain rfl : o' = o := by rw [ho] at ho'; exact (Option.some.inj ho').symm
          unfold wpOp
          simp only [ho, hw, Bool.false_eq_true, if_false]
          obtain ⟨σ1, hr1, h3⟩ := putK_ok hr' hskip
          have ih := denPlan_ok (a0 := a0) (w0 := w0) hsel rest _ G σ1 _ w hp2 hr1 hs (hu.trans (Unch.put (opWrites_mem ho))) hG h3
          exact ⟨fun g hg => hG g (keepG_mem hg), wpAnyG_sub _ _ _ _ _ _ (fun g hg => keepG_mem hg) ih⟩
    · exact h.elim

/-! ### code -/
inductive Ann where
  | leaf
  | seq (a b : Ann)
  | cond (a b : Ann)
  | block (a : Ann)
  | loop (L : List (Nat × Sh)) (a : Ann)
  | join (L : List (Nat × Sh)) (a : Ann)
  | plan (p : List Nat)

def writes : Code → List Nat
  | .region _ ops _ => opWrites ops
  | .seq a b => writes a ++ writes b
  | .cond _ a b => writes a ++ writes b
  | .block _ a => writes a
  | .loop a => writes a
  | .scope a => writes a
  | _ => []

def Env.forget (σ : Env) (ws : List Nat) : Env := fun t => bif ws.any (Nat.beq t) then none else σ t
theorem Env.forget_some {σ : Env} {ws : List Nat} {t : Nat} {v : Value} (h : σ.forget ws t = some v) : t ∉ ws ∧ σ t = some v := by
  unfold Env.forget at h
  cases hq : ws.any (Nat.beq t) with
  | true => rw [hq] at h; cases h
  | false =>
    rw [hq] at h
    refine ⟨fun hm => ?_, h⟩
    have := List.any_eq_false.1 hq t hm
    simp at this

def thenK (K : Env → Heap → Prop) (Q : Exit → Env → Heap → Prop) : Exit → Env → Heap → Prop
  | .normal => K
  | e => Q e
def blockK (id : Nat) (Q : Exit → Env → Heap → Prop) : Exit → Env → Heap → Prop
  | .exit i => (match Nat.beq i id with | true => Q .normal | false => Q (.exit i))
  | e => Q e
def JoinP {α : Type} (F : α) (B : α → Prop) : Prop := B F

def den (P : Program) (n : Nat) : Ann → Code → (Exit → Env → Heap → Prop) → Env → Heap → Prop
  | .leaf, c, Q, σ, h => (match c with
    | .skip => Q .normal σ h
    | .label _ => Q .normal σ h
    | .exit id => Q (.exit id) σ h
    | .ret => Q .ret σ h
    | .region _ ops false => denOps P n ops ops.toList σ h (Q .normal)
    | _ => False)
  | .plan p, c, Q, σ, h => (match c with
    | .region _ ops true => (match (P.follows .mixedOrders && Region.noSelect ops && Nat.beq p.length ops.size && planB P ops p (Array.replicate ops.size false)) with
      | true => denPlan P n ops p [] σ h (Q .normal)
      | false => False)
    | _ => False)
  | .seq a b, c, Q, σ, h => (match c with
    | .seq c d => den P n a c (thenK (fun σ' h' => den P n b d Q σ' h') Q) σ h
    | _ => False)
  | .cond a b, c, Q, σ, h => (match c with
    | .cond x c d => (match σ.ev x with
      | some (.bool q) => if q = true then den P n a c Q σ h else den P n b d Q σ h
      | _ => False)
    | _ => False)
  | .block a, c, Q, σ, h => (match c with
    | .block id c => den P n a c (blockK id Q) σ h
    | _ => False)
  | .loop L a, c, Q, σ, h => (match c with
    | .loop c => ∃ (I : Tele (Heap → Prop) L) (μ : Tele (Heap → Nat) L), apE False L I σ (fun f => f h) ∧
        allE L (fun σ' => ∀ h', apE False L I σ' (fun f => f h') →
          den P n a c (thenK (fun σ'' h'' => apE False L I σ'' (fun f => f h'') ∧ apE 0 L μ σ'' (fun f => f h'') < apE 0 L μ σ' (fun f => f h')) Q) σ' h') (σ.forget (writes c))
    | _ => False)
  | .join L a, c, Q, σ, h => JoinP (α := Tele (Heap → Prop) L) (lamE L (fun σ' h' => Q .normal σ' h') (σ.forget (writes c)))
      (fun J => den P n a c (thenK (fun σ' h' => apE False L J σ' (fun f => f h')) Q) σ h)

def up (n : Nat) (a0 : Act) (w0 : World) (W : List Nat) (Q : Exit → Env → Heap → Prop) : Exit → Act → World → Prop :=
  fun e a w => ∃ σ, Rel n σ a ∧ Q e σ w.heap ∧ Same w0 w ∧ Unch W a0 a

theorem up_of_upR {n : Nat} {a0 : Act} {w0 : World} {W : List Nat} {Q : Exit → Env → Heap → Prop} {e : Exit} {a : Act} {w : World} (h : upR n a0 w0 W (Q .normal) e a w) : up n a0 w0 W Q e a w := by
  obtain ⟨rfl, h⟩ := h; exact h

def envOf (a : Act) : Env := fun t => some (a.tmps.getD t undef)

theorem Rel.of_sub {n : Nat} {σ σ' σ'' : Env} {a a' : Act} {W : List Nat} (hr : Rel n σ a) (hr' : Rel n σ' a') (hu : Unch W a a') (hs : Sub σ'' (σ.forget W) σ') : Rel n σ'' a' :=
  ⟨hr'.defers, hr'.size, fun t v hv => by
    rcases hs t v hv with h | h
    · exact hr'.at_ t v h
    · obtain ⟨h1, h2⟩ := Env.forget_some h
      rw [hu t h1]; exact hr.at_ t v h2⟩

theorem apE_envOf {Y : Type} {d : Y} {X : Type} {L : List (Nat × Sh)} {f : Tele X L} {K : X → Y} {n : Nat} {σ : Env} {a : Act} (hr : Rel n σ a) (hd : ∀ t s, (t, s) ∈ L → ∃ v, σ t = some v) : apE d L f (envOf a) K = apE d L f σ K :=
  apE_congr L f fun t s hm => by
    obtain ⟨v, hv⟩ := hd t s hm
    rw [hv]
    unfold envOf
    rw [hr.at_ t v hv]

theorem den_ok {P : Program} {n : Nat} : ∀ (ann : Ann) (c : Code) (Q : Exit → Env → Heap → Prop) (σ : Env) (a : Act) (w : World), Rel n σ a → den P n ann c Q σ w.heap → c.wp P (up n a w (writes c) Q) a w
  | .leaf, c, Q, σ, a, w, hr, h => by
    unfold den at h
    split at h
    · exact wp_skip ⟨σ, hr, h, Same.refl w, Unch.refl _ _⟩
    · exact wp_label ⟨σ, hr, h, Same.refl w, Unch.refl _ _⟩
    · exact wp_exit ⟨σ, hr, h, Same.refl w, Unch.refl _ _⟩
    · exact wp_ret ⟨σ, hr, h, Same.refl w, Unch.refl _ _⟩
    · rename_i id ops
      refine wp_mono (wp_region (Q := upR n a w (opWrites ops) (Q .normal)) ?_) (fun e a' w' hq => up_of_upR hq)
      have := denOps_ok (a0 := a) (w0 := w) ops.toList 0 σ a w (by simp) hr (Same.refl w) (Unch.refl _ _) h
      rw [List.range_eq_range']
      simpa using this
    · exact h.elim
  | .plan p, c, Q, σ, a, w, hr, h => by
    unfold den at h
    split at h
    · rename_i id ops
      split at h
      · rename_i hb
        simp only [Bool.and_eq_true] at hb
        obtain ⟨⟨⟨h1, h2⟩, h3⟩, h4⟩ := hb
        refine wp_mono (wp_region_any (Q := upR n a w (opWrites ops) (Q .normal)) h1 ?_) (fun e a' w' hq => up_of_upR hq)
        have := denPlan_ok (a0 := a) (w0 := w) h2 p (Array.replicate ops.size false) [] σ a { w with drawn := w.drawn + 1 } h4 hr ⟨rfl, rfl, rfl⟩ (Unch.refl _ _) (fun _ hm => by cases hm) h
        rw [Nat.eq_of_beq_eq_true h3] at this
        exact wpAnyG_any _ _ _ _ _ this
      · exact h.elim
    · exact h.elim
  | .seq x y, c, Q, σ, a, w, hr, h => by
    unfold den at h
    split at h
    · rename_i c d
      refine wp_seq (wp_mono (den_ok x c _ σ a w hr h) ?_)
      rintro e a' w' ⟨σ', hr', hq, hs, hu⟩
      have hW : ∀ t, t ∈ writes c → t ∈ writes (.seq c d) := fun t ht => List.mem_append_left _ ht
      cases e with
      | normal =>
        refine wp_mono (den_ok y d Q σ' a' w' hr' hq) ?_
        rintro e2 a2 w2 ⟨σ2, hr2, hq2, hs2, hu2⟩
        exact ⟨σ2, hr2, hq2, hs.trans hs2, (hu.mono hW).trans (hu2.mono fun t ht => List.mem_append_right _ ht)⟩
      | exit id => exact ⟨σ', hr', hq, hs, hu.mono hW⟩
      | goto l => exact ⟨σ', hr', hq, hs, hu.mono hW⟩
      | ret => exact ⟨σ', hr', hq, hs, hu.mono hW⟩
      | panic ch => exact ⟨σ', hr', hq, hs, hu.mono hW⟩
      | outgrown => exact ⟨σ', hr', hq, hs, hu.mono hW⟩
    · exact h.elim
  | .cond x y, c, Q, σ, a, w, hr, h => by
    unfold den at h
    split at h
    · rename_i k c d
      split at h
      · rename_i q hq
        have he := hr.fits _ _ hq
        split at h
        · rename_i ht
          subst ht
          refine wp_cond_true he (wp_mono (den_ok x c Q σ a w hr h) ?_)
          rintro e a' w' ⟨σ', hr', hq, hs, hu⟩
          exact ⟨σ', hr', hq, hs, hu.mono fun t ht => List.mem_append_left _ ht⟩
        · rename_i ht
          have ht : q = false := by simpa using ht
          subst ht
          refine wp_cond_false he (wp_mono (den_ok y d Q σ a w hr h) ?_)
          rintro e a' w' ⟨σ', hr', hq, hs, hu⟩
          exact ⟨σ', hr', hq, hs, hu.mono fun t ht => List.mem_append_right _ ht⟩
      · exact h.elim
    · exact h.elim
  | .block x, c, Q, σ, a, w, hr, h => by
    unfold den at h
    split at h
    · rename_i id c
      refine wp_block (wp_mono (den_ok x c _ σ a w hr h) ?_)
      rintro e a' w' ⟨σ', hr', hq, hs, hu⟩
      cases e with
      | exit id' =>
        simp only [Exit.inBlock]
        simp only [blockK] at hq
        by_cases hid : id' = id
        · subst hid
          simp only [Nat.beq_refl] at hq
          rw [if_pos rfl]; exact ⟨σ', hr', hq, hs, hu⟩
        · rw [if_neg hid]
          have : Nat.beq id' id = false := by cases hb : Nat.beq id' id; rfl; exact absurd (Nat.eq_of_beq_eq_true hb) hid
          rw [this] at hq
          exact ⟨σ', hr', hq, hs, hu⟩
      | normal => exact ⟨σ', hr', hq, hs, hu⟩
      | goto l => exact ⟨σ', hr', hq, hs, hu⟩
      | ret => exact ⟨σ', hr', hq, hs, hu⟩
      | panic ch => exact ⟨σ', hr', hq, hs, hu⟩
      | outgrown => exact ⟨σ', hr', hq, hs, hu⟩
    · exact h.elim
  | .loop L x, c, Q, σ, a, w, hr, h => by
    unfold den at h
    split at h
    · rename_i c
      obtain ⟨I, μ, h0, hstep⟩ := h
      refine wp_loop (fun a' w' => ∃ σ', Rel n σ' a' ∧ apE False L I σ' (fun f => f w'.heap) ∧ Same w w' ∧ Unch (writes c) a a')
        (fun a' w' => apE 0 L μ (envOf a') (fun f => f w'.heap)) ⟨σ, hr, h0, Same.refl w, Unch.refl _ _⟩ ?_
      rintro a' w' ⟨σ', hr', hI, hs, hu⟩
      obtain ⟨σ'', hF, hsub, hL, _⟩ := allE_at L _ I hstep hI
      have hr'' := Rel.of_sub hr hr' hu hsub
      have hI'' : apE False L I σ'' (fun f => f w'.heap) := by rw [apE_congr L I hL]; exact hI
      have hd := hF w'.heap hI''
      refine wp_mono (den_ok x c _ σ'' a' w' hr'' hd) ?_
      rintro e a1 w1 ⟨σ1, hr1, hq, hs1, hu1⟩
      cases e with
      | normal =>
        obtain ⟨hI1, hlt⟩ := hq
        refine ⟨⟨σ1, hr1, hI1, hs.trans hs1, hu.trans hu1⟩, ?_⟩
        rw [apE_envOf hr1 (apE_def L I hI1), apE_envOf hr'' (apE_def L I hI'')]
        exact hlt
      | exit id => exact ⟨σ1, hr1, hq, hs.trans hs1, hu.trans hu1⟩
      | goto l => exact ⟨σ1, hr1, hq, hs.trans hs1, hu.trans hu1⟩
      | ret => exact ⟨σ1, hr1, hq, hs.trans hs1, hu.trans hu1⟩
      | panic ch => exact ⟨σ1, hr1, hq, hs.trans hs1, hu.trans hu1⟩
      | outgrown => exact ⟨σ1, hr1, hq, hs.trans hs1, hu.trans hu1⟩
    · exact h.elim
  | .join L x, c, Q, σ, a, w, hr, h => by
    unfold den at h
    unfold JoinP at h
    refine wp_mono (den_ok x c _ σ a w hr h) ?_
    rintro e a' w' ⟨σ', hr', hq, hs, hu⟩
    cases e with
    | normal =>
      obtain ⟨σ'', hQ, hsub⟩ := apE_lamE L _ hq
      exact ⟨σ'', Rel.of_sub hr hr' hu hsub, hQ, hs, hu⟩
    | exit id => exact ⟨σ', hr', hq, hs, hu⟩
    | goto l => exact ⟨σ', hr', hq, hs, hu⟩
    | ret => exact ⟨σ', hr', hq, hs, hu⟩
    | panic ch => exact ⟨σ', hr', hq, hs, hu⟩
    | outgrown => exact ⟨σ', hr', hq, hs, hu⟩

/-! ### a function -/
def resL (P : Program) : List ResultVar → Env → Heap → (List Value → Prop) → Prop
  | [], _, _, F => F []
  | .tmp t :: rs, σ, h, F => onSome (σ t) fun v => resL P rs σ h fun vs => F (v :: vs)
  | .cell a t :: rs, σ, h, F => (match σ a with
    | some (.pointer p) => onSome p fun ad => denLoad P t h ad fun v _ => resL P rs σ h fun vs => F (v :: vs)
    | _ => False)
def oneOr (vs : List Value) : Value :=
  match vs with
  | [v] => v
  | vs => .tuple vs.toArray
def retK (P : Program) (rs : Array ResultVar) (R : Value → Heap → Prop) : Exit → Env → Heap → Prop
  | .normal, σ, h => resL P rs.toList σ h fun vs => R (oneOr vs) h
  | .ret, σ, h => resL P rs.toList σ h fun vs => R (oneOr vs) h
  | _, _, _ => False
def argEnv (args : List Value) : Env := fun t => args[t]?

def resF (a : Act) : ResultVar → Sem Value
  | .tmp t => pure (a.tmps.getD t undef)
  | .cell ad t => do loadVar t (← asAddr (a.tmps.getD ad undef))
theorem resL_ok {P : Program} {n : Nat} {σ : Env} {a : Act} {h : Heap} (hr : Rel n σ a) : ∀ (rs : List ResultVar) (F : List Value → Prop), resL P rs σ h F → ∃ vs, F vs ∧
    rd P (rs.mapM (resF a)) h = some vs
  | [], F, hh => ⟨[], hh, rfl⟩
  | .tmp t :: rs, F, hh => by
    obtain ⟨v, hv, hh⟩ := onSome_iff.1 hh
    obtain ⟨vs, h1, h2⟩ := resL_ok hr rs _ hh
    refine ⟨v :: vs, h1, ?_⟩
    rw [List.mapM_cons]
    have h6 : rd P (resF a (.tmp t)) h = some v := by
      show some (a.tmps.getD t undef) = some v
      rw [hr.at_ t v hv]
    rw [rd_bind _ _ _ _ h6, rd_bind _ _ _ _ h2]
    rfl
  | .cell ad t :: rs, F, hh => by
    simp only [resL] at hh
    split at hh
    · rename_i p hp
      obtain ⟨b, rfl, hh1⟩ := onSome_iff.1 hh
      obtain ⟨v, S, h1, h2, h3⟩ := denLoad_ok hh1
      obtain ⟨vs, h4, h5⟩ := resL_ok hr rs _ h1
      refine ⟨v :: vs, h4, ?_⟩
      rw [List.mapM_cons]
      have h6 : rd P (resF a (.cell ad t)) h = some v := by
        show rd P (do loadVar t (← asAddr (a.tmps.getD ad undef))) h = _
        rw [hr.at_ ad _ hp]; exact h3 h h2
      rw [rd_bind _ _ _ _ h6, rd_bind _ _ _ _ h5]
      rfl
    · exact hh.elim

theorem results_ok {P : Program} {n : Nat} {σ : Env} {a : Act} {h : Heap} {fn : Func} {F : Value → Prop} (hr : Rel n σ a) (hh : resL P fn.results.toList σ h fun vs => F (oneOr vs)) :
    ∃ v, F v ∧ rd P (results fn a.tmps) h = some v := by
  obtain ⟨vs, h1, h2⟩ := resL_ok hr _ _ hh
  refine ⟨_, h1, ?_⟩
  have h3 : rd P (fn.results.mapM (resF a)) h = some vs.toArray := by
    rw [Array.mapM_eq_mapM_toList]
    show rd P (fn.results.toList.mapM (resF a) >>= fun l => pure (List.toArray l)) h = _
    rw [rd_bind _ _ _ _ h2]
    rfl
  have h4 : results fn a.tmps = fn.results.mapM (resF a) >>= fun vs => pure (if h : vs.size = 1 then vs[0] else .tuple vs) := by
    unfold results
    congr 1
  rw [h4, rd_bind _ _ _ _ h3]
  match vs with
  | [] => rfl
  | [v] => rfl
  | u :: v :: vs => rfl

theorem callsH_of_den {P : Program} {f : FuncId} {fn : Func} {c : Code} {args : List Value} {h : Heap} {R : Value → Heap → Prop} (ann : Ann)
    (hf : P.funcs[f]? = some fn) (hb : fn.body = some c) (hn : Nat.ble args.length fn.ntmps = true)
    (hd : den P fn.ntmps ann c (retK P fn.results R) (argEnv args) h) : CallsH P f args.toArray h R := by
  intro w hw
  subst hw
  have hn := Nat.le_of_ble_eq_true hn
  refine calls_of_wp hf hb ?_
  have hr : Rel fn.ntmps (argEnv args) { tmps := args.toArray ++ Array.replicate (fn.ntmps - args.toArray.size) undef, defers := [] } := by
    refine ⟨rfl, by simp; omega, fun t v hv => ?_⟩
    unfold argEnv at hv
    have hlt : t < args.length := (List.getElem?_eq_some_iff.1 hv).1
    simp only [Array.getD_eq_getD_getElem?]
    rw [Array.getElem?_append_left (by simpa using hlt)]
    simp [hv]
  refine wp_mono (den_ok ann c _ _ _ w hr hd) ?_
  rintro e a w' ⟨σ, hr, hq, hs, _⟩
  have fin : resL P fn.results.toList σ w'.heap (fun vs => R (oneOr vs) w'.heap) → a.defers = [] ∧ ∃ v, (results fn a.tmps).run P w' = .ok v w' ∧ ∃ v', Ending.returned v = .returned v' ∧ R v' w'.heap ∧ Same w w' := fun hh => by
    obtain ⟨v, h1, h2⟩ := results_ok (F := fun v => R v w'.heap) hr hh
    exact ⟨hr.defers, v, rd_run _ _ _ h2, v, rfl, h1, hs⟩
  cases e with
  | normal => exact fin hq
  | ret => exact fin hq
  | exit id => exact hq.elim
  | goto l => exact hq.elim
  | panic ch => exact hq.elim
  | outgrown => exact hq.elim

def bodyOf (fn : Func) : Code := fn.body.getD .skip
theorem callsH_of_body {P : Program} {f : FuncId} {fn : Func} {args : List Value} {h : Heap} {R : Value → Heap → Prop} (ann : Ann)
    (hf : P.funcs[f]? = some fn) (hb : fn.body.isSome = true) (hn : Nat.ble args.length fn.ntmps = true)
    (hd : den P fn.ntmps ann (bodyOf fn) (retK P fn.results R) (argEnv args) h) : CallsH P f args.toArray h R := by
  obtain ⟨c, hc⟩ := Option.isSome_iff_exists.1 hb
  refine callsH_of_den ann hf hc hn ?_
  rw [bodyOf, hc] at hd
  exact hd

end Go.Den
