/-
  What is proved here: parts of the proof, one behind the other (texts of this work, merged by a program; what the theorem does not use is left out). No condition.
-/
import Derived.RangeFuncLeaves
import Derived.RangeFuncRecord
import Derived.RangeFuncCalls
import Derived.OrdersIn
import Derived.Test.YtmoafceggjgecaaGreatDoorMBoced
set_option linter.defProp false
set_option maxRecDepth 100000
set_option maxHeartbeats 4000000
namespace Go.Den
section
variable {r:Option Nat} {m n:Nat} {P:Program} {f:FuncId} {w w0:World} {R K:TyP} {o:Oper} {fn:Func}
def fw (r : Option Nat) : Fence := { Fence.wide with round := r }
theorem calls_fw {args : Array Value} {R : Ending → World → Prop} (h : Calls P f args w R) : CallsIn (fw r) m P f args w R :=
  (callsIn_wide).2 h
theorem fw_depth : (fw r).depth.isSome = true → 1 ≤ m := fun h => by cases h
def RoundH (P : Program) (l : Nat) (args : Array Value) (h : Heap) (R : Value → Heap → Prop) : Prop :=
  ∀ w : World, w.heap = h → ∃ f tmps assign body, (Instr.yield l args).run P w = .ok (.round l f tmps assign body) w ∧
    ∀ r m, RoundIn (fw r) m P l f tmps assign body w (fun e w' => ∃ v, e = .returned v ∧ R v w'.heap ∧ Same w w')
def Act.bare (a : Act) : Act := { a with defers := [] }
theorem Act.bare_put (a : Act) (d : Option Nat) (v : Value) : Act.bare (a.put d v) = (Act.bare a).put d v := by cases d <;> rfl
theorem Act.put_defers (a : Act) (d : Option Nat) (v : Value) : (a.put d v).defers = a.defers := by cases d <;> rfl
variable {a a0:Act} {next:Act→World→Prop} {Q:Exit→Act→World→Prop}
def noDefer (o : Oper) : Bool := match o.op with | .defer _ => false | _ => true
theorem noDefer_ne (h : noDefer o = true) (c : Call) : o.op ≠ .defer c := fun e => by unfold noDefer at h; rw [e] at h; cases h
theorem OpWp.wpIn
    (hh : OpWp P o a.eval w.heap K) (nd : noDefer o = true) (hn : ∀ v w', K v w'.heap → Same w w' → next (a.put o.dst v) w') : o.wpIn (fw r) m P a w next Q := by
  refine ⟨fun _ _ => trivial, ?_⟩
  have ⟨x, w', r1, r2, r3⟩ := denSem_sound _ _ _ hh w rfl
  rw [Oper.semAt_eq _ _ _ (noDefer_ne nd), r1]
  cases x with
  | value v => exact hn _ _ r2 r3
  | skip => exact hn _ _ r2 r3
  | enter f args =>
    refine ⟨fw_depth, CallsIn.mono (calls_fw (r2 w' rfl)) ?_⟩
    rintro e w'' ⟨v, rfl, hR, hs⟩
    exact hn _ _ hR (r3.trans hs)
  | _ => exact r2.elim
def denOpF (P : Program) (o : Oper) (σ : Env) (h : Heap) (K : Value → Heap → Prop) : Prop :=
  match o.op with
  | .call { callee := .value f, args := args, argTypes := _ } => (match σ.ev f, evs σ args.toList with
    | some (.func (.yield l) c _), some vs => RoundH P l (c.toList ++ vs).toArray h fun v h' => ∃ b : Bool, v = .bool b ∧ K (.bool b) h'
    | _, _ => denOp P o σ h K)
  | _ => denOp P o σ h K
theorem denOpF_ok {σ : Env}
    (hf : Fits σ a.eval) (hh : denOpF P o σ w.heap K) (nd : noDefer o = true) (hn : ∀ v w', K v w'.heap → Same w w' → next (a.put o.dst v) w') : o.wpIn (fw r) m P a w next Q := by
  unfold denOpF at hh
  split at hh
  · rename_i f args tys ho
    split at hh
    · rename_i l c0 c1 vs hg hvs
      have ⟨g, tmps, assign, body, hy, hr⟩ := hh w rfl
      refine ⟨fun _ _ => trivial, ?_⟩
      rw [Oper.semAt_eq _ _ _ (noDefer_ne nd)]
      have e : (execOp a.eval o).run P w = (Instr.yield l (c0.toList ++ vs).toArray).run P w := by
        unfold execOp; rw [ho]
        simp only [resolve, args_map hf hvs, hf _ _ hg, Deferred.ofValue]
        have e : c0 ++ vs.toArray = (c0.toList ++ vs).toArray := by
          simp
        rw [e]
        rfl
      rw [e, hy]
      refine ⟨fw_depth, RoundIn.mono (hr r _) ?_⟩
      rintro e w'' ⟨v, rfl, ⟨b, rfl, hK⟩, hs⟩
      exact hn _ _ hK hs
    · exact (denOp_ok hf hh).wpIn nd hn
  · exact (denOp_ok hf hh).wpIn nd hn
def upF (n : Nat) (a0 : Act) (w0 : World) (W : List Nat) (K : Env → Heap → Prop) : Exit → Act → World → Prop :=
  fun e a w => e = .normal ∧ ∃ σ, Rel n σ (Act.bare a) ∧ K σ w.heap ∧ Same w0 w ∧ Unch W (Act.bare a0) (Act.bare a) ∧ a.defers = a0.defers
def denOpsF (P : Program) (n : Nat) (ops : Array Oper) (ty : List (Nat × Sh)) : List Oper → Env → Heap → (Env → Heap → Prop) → Prop
  | [], σ, h, K => K σ h
  | o :: rest, σ, h, K => gsplit ops o σ
      (fun σ => denOpF P o σ h fun v h' => castK ty o.dst v fun v => putK n σ o.dst v fun σ' => denOpsF P n ops ty rest σ' h' K)
      (fun σ => putK n σ o.dst undef fun σ' => denOpsF P n ops ty rest σ' h K)
theorem denOpsF_ok {ops : Array Oper} {ty : List (Nat × Sh)} {K : Env → Heap → Prop} (nd : ops.all noDefer = true) : ∀ (rest : List Oper) (k : Nat) (σ : Env) (a : Act) (w : World),
    (∀ j, rest[j]? = ops[k + j]?) → Rel n σ (Act.bare a) → Same w0 w → Unch (opWrites ops) (Act.bare a0) (Act.bare a) → a.defers = a0.defers → denOpsF P n ops ty rest σ w.heap K → wpOpsIn (fw r) m P ops (upF n a0 w0 (opWrites ops) K) (List.range' k rest.length) a w
  | [], k, σ, a, w, _, hr, hs, hu, hd, h => ⟨rfl, σ, hr, h, hs, hu, hd⟩
  | o :: rest, k, σ, a, w, hj, hr, hs, hu, hd, h => by
    have h0  := by have := hj 0; simpa using this.symm
    have hj' : ∀ j, rest[j]? = ops[k + 1 + j]? := fun j => by have := hj (j + 1); simpa [Nat.add_assoc, Nat.add_comm 1 j] using this
    have hnd : noDefer o = true := by
      grind
    simp only [List.length_cons, List.range'_succ, wpOpsIn, h0]
    rcases gsplit_ok hr h with ⟨hw, σ', hr', h⟩ | ⟨hw, σ', hr', h⟩
    · have hw' : Region.wanted o (yielded ops a.tmps) = true := hw
      rw [if_pos hw']
      refine denOpF_ok (show Fits σ' a.eval from hr'.fits) h hnd ?_
      intro v w' hk hs'
      have ⟨σ1, hr1, h1⟩ := putK_ok hr' (castK_ok hk)
      exact denOpsF_ok nd rest (k + 1) σ1 _ w' hj' (by rw [Act.bare_put]; exact hr1) (hs.trans hs') (by exact hu.trans (Unch.put (opWrites_mem h0))) (by rw [Act.put_defers]; exact hd) h1
    · have hw' : Region.wanted o (yielded ops a.tmps) = false := hw
      rw [if_neg (by grind)]
      have ⟨σ1, hr1, h1⟩ := putK_ok hr' h
      exact ⟨fun _ _ => trivial, denOpsF_ok nd rest (k + 1) σ1 _ w hj' (by rw [Act.bare_put]; exact hr1) hs (by exact hu.trans (Unch.put (opWrites_mem h0))) (by rw [Act.put_defers]; exact hd) h1⟩
theorem opF_of_wp {K K2 : Act → World → Prop} {Q2:Exit→Act→World→Prop} {ds : List Deferred} (nd : noDefer o = true)
    (h : o.wp P a w K Q) (hK : ∀ a' w', K a' w' → a'.defers = [] ∧ K2 { a' with defers := ds } w') (hQ : ∀ e a' w', e ≠ .normal → ¬ Q e a' w') :
    a.defers = [] ∧ o.wpIn (fw r) m P { a with defers := ds } w K2 Q2 := by
  unfold Oper.wp at h
  unfold Oper.wpIn
  rw [Oper.semAt_eq _ _ _ (noDefer_ne nd)]
  have e : (execOp (Act.eval { a with defers := ds }) o).run P w = (execOp a.eval o).run P w := rfl
  rw [e]
  have pd : ∀ (v : Value), ({ a with defers := ds }).put o.dst v = { (a.put o.dst v) with defers := ds } := fun v => by cases o.dst <;> rfl
  generalize (execOp a.eval o).run P w = x at h ⊢
  cases x with
  | ok x w' =>
    cases x with
    | value v => have ⟨h1, h2⟩ := hK _ _ h; rw [Act.put_defers] at h1; exact ⟨h1, fun _ _ => trivial, by simp only [Oper.uponIn, pd]; exact h2⟩
    | skip => have ⟨h1, h2⟩ := hK _ _ h; rw [Act.put_defers] at h1; exact ⟨h1, fun _ _ => trivial, by simp only [Oper.uponIn, pd]; exact h2⟩
    | defer d => have ⟨h1, h2⟩ := hK _ _ h; rw [Act.put_defers] at h1; cases h1
    | enter f args =>
      have hd : a.defers = [] := by
        have ⟨e, w'', fr, hR, _⟩ := h []
        cases e with
        | returned v => have := (hK _ _ hR).1; rwa [Act.put_defers] at this
        | panicked ch => grind
        | outgrown => have ⟨_, _, hq⟩ := hR; exact (hQ _ _ _ (by simp) hq).elim
      refine ⟨hd, fun _ _ => trivial, fw_depth, CallsIn.mono (calls_fw h) ?_⟩
      rintro e w'' hR
      cases e with
      | returned v => grind
      | panicked ch => exact (hQ _ _ _ (by simp) hR).elim
      | outgrown => have ⟨_, _, hq⟩ := hR; exact (hQ _ _ _ (by simp) hq).elim
    | row nm args =>
      have hd : a.defers = [] := by
        have ⟨v, w'', hR, _⟩ := h default []
        have := (hK _ _ hR).1; rwa [Act.put_defers] at this
      refine ⟨hd, fun _ _ => trivial, fw_depth, fun c cs _ => ?_⟩
      have ⟨v, w'', hR, hst⟩ := h c cs
      exact ⟨v, w'', (by grind), stepsIn_wide.2 hst⟩
    | _ => exact h.elim
  | halt x w' => cases x <;> simp only [Oper.upon] at h <;> first | exact h.elim | grind
theorem anyF_of_wp {P : Program} {ops : Array Oper} {Q Q2 : Exit → Act → World → Prop} {r : Option Nat} {m : Nat} {ds : List Deferred} (nd : ops.all noDefer = true)
    (hQ : ∀ e a' w', Q e a' w' → e = .normal ∧ a'.defers = [] ∧ Q2 .normal { a' with defers := ds } w') : ∀ (fuel : Nat) (listed : Array Bool) (a : Act) (w : World),
    wpAny P .any ops Q fuel listed a w → a.defers = [] ∧ wpAnyIn (fw r) m P .any ops Q2 fuel listed { a with defers := ds } w
  | 0, listed, a, w, h => ⟨(hQ _ _ _ h.2).2.1, h.1, (hQ _ _ _ h.2).2.2⟩
  | fuel + 1, listed, a, w, h => by
    have step : ∀ i ∈ Region.ready .any ops listed, a.defers = [] ∧ wpOpIn (fw r) m P ops Q2 i (wpAnyIn (fw r) m P .any ops Q2 fuel (listed.setIfInBounds i true)) { a with defers := ds } w := fun i hi => by
      have hh := h.2 i hi
      have ih := anyF_of_wp (P := P) nd hQ (r := r) (m := m) fuel (listed.setIfInBounds i true)
      unfold wpOp at hh
      unfold wpOpIn
      split at hh
      · grind
      · rename_i o ho
        have hnd : noDefer o = true := by
          grind
        simp only [ho]
        split at hh
        · rename_i hw
          rw [if_pos hw]
          rcases hh with hh | ⟨_, _, _, hq⟩
          · exact opF_of_wp hnd hh ih (fun e a' w' hne hq => hne (hQ _ _ _ hq).1)
          · grind
        · rename_i hw
          rw [if_neg hw]
          have ⟨h1, h2⟩ := ih _ _ hh
          rw [Act.put_defers] at h1
          have pd : ({ a with defers := ds }).put o.dst undef = { (a.put o.dst undef) with defers := ds } := by cases o.dst <;> rfl
          exact ⟨h1, fun _ _ => trivial, by grind⟩
    by_cases hr : Region.ready .any ops listed = []
    · have ⟨_, hd, hq⟩ := hQ _ _ _ (h.1 hr)
      exact ⟨hd, fun _ => hq, fun i hi => (step i hi).2⟩
    · have ⟨i, hi⟩ := List.exists_mem_of_ne_nil _ hr
      exact ⟨(step i hi).1, fun e => absurd e hr, fun i hi => (step i hi).2⟩
def thenF (K : List Nat → Env → Heap → Prop) (Q : Exit → List Nat → Env → Heap → Prop) : Exit → List Nat → Env → Heap → Prop
  | .normal => K
  | e => Q e
def blkE (b : Bool) (A B : Prop) : Prop := match b with | true => A | false => B
def blockF (id : Nat) (Q : Exit → List Nat → Env → Heap → Prop) : Exit → List Nat → Env → Heap → Prop
  | .exit i => fun D σ h => blkE (Nat.beq i id) (Q .normal D σ h) (Q (.exit i) D σ h)
  | e => Q e
def failF : Exit → List Nat → Env → Heap → Prop := fun _ _ _ _ => False
abbrev AtL (h : Heap) (l : Nat) (r : Loop) : Prop := h[l]? = some (.loop r)
abbrev setLoop (h : Heap) (l : Nat) (r : Loop) : Heap := h.setIfInBounds l (.loop r)
abbrev openH (h : Heap) (r : Loop) : Heap := (h.push (.deferred (some []))).push (.loop r)
abbrev Recs := LoopState → Option Code → Loop
def roundF (l : Nat) (rec : Recs) (C : Bool → Heap → Prop) : Exit → List Nat → Env → Heap → Prop
  | .normal, _, _, h => AtL h l (rec .busy none) ∧ C true (setLoop h l (rec .ready none))
  | .ret, _, _, h => AtL h l (rec .busy none) ∧ C false (setLoop h l (rec .done (some .ret)))
  | .exit i, _, _, h => AtL h l (rec .busy none) ∧ C false (setLoop h l (rec .done (some (.exit i))))
  | _, _, _, _ => False
def JumpP (N T : Heap → Prop) (E : Nat → Heap → Prop) : Option Code → Heap → Prop
  | none, h => N h
  | some .ret, h => T h
  | some (.exit i), h => E i h
  | _, _ => False
def putAll (n : Nat) : List Nat → List Value → Env → (Env → Prop) → Prop
  | [], [], σ, K => K σ
  | t :: ts, v :: vs, σ, K => putK n σ (some t) v fun σ' => putAll n ts vs σ' K
  | _, _, _, _ => False
def RangeP (P : Program) (v : Value) (h : Heap) (B : Recs → (Bool → Heap → Prop) → List Value → Heap → Prop) (J : Option Code → Heap → Prop) : Prop :=
  ∃ gf lb, v = .func (.func gf) #[] lb ∧ hasBody P gf = true ∧ ∀ rec : Recs, (∀ s p, (rec s p).state = s ∧ (rec s p).pending = p) →
    (∀ args g C, AtL g (h.size + 1) (rec .ready none) → B rec C args g → RoundH P (h.size + 1) args.toArray g fun v g' => ∃ b, v = .bool b ∧ C b g') →
    CallsH P gf (#[.func (.yield (h.size + 1)) #[] #[]] ++ lb) (openH h (rec .ready none)) fun _ g => ∃ st pe, st ≠ .busy ∧ AtL g (h.size + 1) (rec st pe) ∧ J pe (setLoop g (h.size + 1) (rec .exhausted pe))
def natsEq : List Nat → List Nat → Bool
  | [], [] => true
  | x :: xs, y :: ys => Nat.beq x y && natsEq xs ys
  | _, _ => false
theorem natsEq_eq : ∀ {a b : List Nat}, natsEq a b = true → a = b
  | [], [], _ => rfl
  | x :: xs, y :: ys, h => by
    simp only [natsEq, Bool.and_eq_true] at h
    rw [Nat.eq_of_beq_eq_true h.1, natsEq_eq h.2]
def denF (P : Program) (n : Nat) (rd : Bool) : Ann → Code → (Exit → List Nat → Env → Heap → Prop) → List Nat → Env → Heap → Prop
  | .leaf, c, Q, D, σ, h => (match c with
    | .skip => Q .normal D σ h
    | .label _ => Q .normal D σ h
    | .exit id => Q (.exit id) D σ h
    | .ret => Q .ret D σ h
    | .region _ ops false => (match ops.all noDefer with | true => denOpsF P n ops [] ops.toList σ h (Q .normal D) | false => False)
    | _ => False)
  | .planB kb p, c, Q, D, σ, h => (match c with
    | .region _ ops true => (match (P.follows .mixedOrders && Region.noSelect ops && lenB p ops.size && planB P ops p none (Array.replicate ops.size false)), ops.all noDefer with
      | true, true => denPlanE P [] n ops noE kb p [] [] σ h (Q .normal D)
      | _, _ => False)
    | _ => False)
  | .seq a b, c, Q, D, σ, h => (match c with
    | .seq c d => denF P n rd a c (thenF (fun D' σ' h' => denF P n rd b d Q D' σ' h') Q) D σ h
    | _ => False)
  | .cond a b, c, Q, D, σ, h => (match c with
    | .cond x c d => (match σ.ev x with
      | some (.bool q) => if q = true then denF P n rd a c Q D σ h else denF P n rd b d Q D σ h
      | _ => False)
    | _ => False)
  | .block a, c, Q, D, σ, h => (match c with
    | .block id c => denF P n rd a c (blockF id Q) D σ h
    | _ => False)
  | .loop L a, c, Q, D, σ, h => (match c with
    | .loop c => ∃ (I : Tele (Heap → Prop) L) (μ : Tele (Heap → Nat) L), apE False L I σ (fun f => f h) ∧
        allE L (fun σ' => ∀ h', apE False L I σ' (fun f => f h') →
          denF P n rd a c (thenF (fun D' σ'' h'' => D' = D ∧ apE False L I σ'' (fun f => f h'') ∧ apE 0 L μ σ'' (fun f => f h'') < apE 0 L μ σ' (fun f => f h')) Q) D σ' h') (σ.forget (writes c))
    | _ => False)
  | .join L a, c, Q, D, σ, h => JoinP (α := Tele (Heap → Prop) L) (lamE L (fun σ' h' => Q .normal D σ' h') (σ.forget (writes c)))
      (fun J => denF P n rd a c (thenF (fun D' σ' h' => D' = D ∧ apE False L J σ' (fun f => f h')) Q) D σ h)
  | .scope z L a b, c, Q, D, σ, h => (match c with
    | .rangeFunc g ps assign body => (match rd, natsEq (L.map (·.1)) ps.toList, σ.ev g with
      | false, true, some v => RangeP P v h
          (fun rec C args h1 => exShs (L.map (·.2)) fun vs => args = vs ∧ putAll n (L.map (·.1)) vs σ fun σ1 =>
            denF P n true a assign (thenF (fun D2 σ2 h2 => AtL h2 (h.size + 1) (rec .ready none) ∧ ∀ h3, h3 = setLoop h2 (h.size + 1) (rec .busy none) → denF P n true b body (roundF (h.size + 1) rec C) D2 σ2 h3) failF) [] σ1 h1)
          (JumpP (fun g => Q .normal (h.size :: D) σ g) (fun g => Q .ret (h.size :: D) σ g) (match z with | 0 => fun _ _ => False | _ => fun i g => Q (.exit i) (h.size :: D) σ g))
      | _, _, _ => False)
    | _ => False)
  | .typed _, _, _, _, _, _ => False
def mark (D : Nat) : Deferred := { target := .collected D, args := #[] }
def upG (n : Nat) (a0 : Act) (w0 : World) (W : List Nat) (Q : Exit → List Nat → Env → Heap → Prop) : Exit → Act → World → Prop :=
  fun e a w => ∃ D σ, Rel n σ (Act.bare a) ∧ a.defers = D.map mark ∧ Q e D σ w.heap ∧ Same w0 w ∧ Unch W (Act.bare a0) (Act.bare a)
theorem upG_of_upF {W : List Nat} {Q : Exit → List Nat → Env → Heap → Prop} {D : List Nat} (hd : a0.defers = D.map mark) {e : Exit} (h : upF n a0 w0 W (Q .normal D) e a w) : upG n a0 w0 W Q e a w := by
  obtain ⟨rfl, σ, h1, h2, h3, h4, h5⟩ := h
  exact ⟨D, σ, h1, h5.trans hd, h2, h3, h4⟩
theorem same_alloc (w : World) (o : Obj) : Same w (w.alloc o) := ⟨rfl, rfl, rfl⟩
theorem same_put (w : World) (l : Nat) (o : Obj) : Same w (w.putObj l o) := ⟨rfl, rfl, rfl⟩
theorem putAll_ok {K : Env → Prop} : ∀ (ts : List Nat) (vs : List Value) (σ : Env) (tm : Array Value), Rel n σ { tmps := tm, defers := [] } → putAll n ts vs σ K →
    ts.length = vs.length ∧ ∃ σ', Rel n σ' { tmps := (ts.zip vs).foldl (fun t (p, v) => t.setIfInBounds p v) tm, defers := [] } ∧ K σ'
  | [], [], σ, tm, hr, h => ⟨rfl, σ, hr, h⟩
  | t :: ts, v :: vs, σ, tm, hr, h => by
    have ⟨σ', hr', h'⟩ := putK_ok hr h
    have ⟨h1, h2⟩ := putAll_ok ts vs σ' _ hr' h'
    exact ⟨by simp [h1], h2⟩
  | [], _ :: _, _, _, _, h => h.elim
  | _ :: _, [], _, _, _, h => h.elim
theorem denF_ok : ∀ (ann : Ann) (rd : Option Nat) (m : Nat) (c : Code) (Q : Exit → List Nat → Env → Heap → Prop) (D : List Nat) (σ : Env) (a : Act) (w : World), Rel n σ (Act.bare a) → a.defers = D.map mark →
    denF P n rd.isSome ann c Q D σ w.heap → c.wpIn (fw rd) m P (upG n a w (writes c) Q) a w
  | .leaf, rd, m, c, Q, D, σ, a, w, hr, hd, h => by
    unfold denF at h
    split at h
    · exact wpIn_skip ⟨D, σ, hr, hd, h, Same.refl w, Unch.refl _ _⟩
    · exact wpIn_label ⟨D, σ, hr, hd, h, Same.refl w, Unch.refl _ _⟩
    · exact wpIn_exit ⟨D, σ, hr, hd, h, Same.refl w, Unch.refl _ _⟩
    · exact wpIn_ret ⟨D, σ, hr, hd, h, Same.refl w, Unch.refl _ _⟩
    · rename_i id ops
      split at h
      · rename_i nd
        refine wpIn_mono (wpIn_region (Q := upF n a w (opWrites ops) (Q .normal D)) ?_) (fun e a' w' hq => upG_of_upF hd hq)
        have := denOpsF_ok (a0 := a) (w0 := w) (r := rd) (m := m) nd ops.toList 0 σ a w (by simp) hr (Same.refl w) (Unch.refl _ _) rfl h
        rw [List.range_eq_range']
        simpa using this
      · exact h.elim
    · exact h.elim
  | .typed _, _, _, _, _, _, _, _, _, _, _, h => h.elim
  | .planB kb p, rd, m, c, Q, D, σ, a, w, hr, hd, h => by
    unfold denF at h
    split at h
    · rename_i id ops
      split at h
      · rename_i hb nd
        obtain ⟨h1, h2⟩ := denPlanE_ok (a := Act.bare a) hb hr.D h
        refine wpIn_mono (wpIn_region_any (Q := upF n a w (opWrites ops) (Q .normal D)) h1 ((anyF_of_wp (ds := a.defers) nd (fun e a' w' hq => ?_) _ _ _ _ h2).2)) (fun e a' w' hq => upG_of_upF hd hq)
        obtain ⟨rfl, σ1, hr1, hk, hs, hu⟩ := upR_of_upP hq
        have e : Act.bare { a' with defers := a.defers } = a' := by
          obtain ⟨t, d⟩ := a'
          have : d = [] := hr1.defers
          rw [this]; rfl
        exact ⟨rfl, hr1.defers, rfl, σ1, by rw [e]; exact hr1, hk, hs, by rw [e]; exact hu, rfl⟩
      · exact h.elim
    · exact h.elim
  | .seq x y, rd, m, c, Q, D, σ, a, w, hr, hd, h => by
    unfold denF at h
    split at h
    · rename_i c d
      refine wpIn_seq (wpIn_mono (denF_ok x rd m c _ D σ a w hr hd h) ?_)
      rintro e a' w' ⟨D', σ', hr', hd', hq, hs, hu⟩
      have hW : ∀ t, t ∈ writes c → t ∈ writes (.seq c d) := fun t ht => List.mem_append_left _ ht
      cases e with
      | normal =>
        refine wpIn_mono (denF_ok y rd m d Q D' σ' a' w' hr' hd' hq) ?_
        rintro e2 a2 w2 ⟨D2, σ2, hr2, hd2, hq2, hs2, hu2⟩
        exact ⟨D2, σ2, hr2, hd2, hq2, hs.trans hs2, (hu.mono hW).trans (hu2.mono fun t ht => List.mem_append_right _ ht)⟩
      | _ => exact ⟨D', σ', hr', hd', hq, hs, hu.mono hW⟩
    · exact h.elim
  | .cond x y, rd, m, c, Q, D, σ, a, w, hr, hd, h => by
    unfold denF at h
    split at h
    · rename_i k c d
      split at h
      · rename_i q hq
        have he : a.eval k = .bool q := hr.fits _ _ hq
        split at h
        · rename_i ht
          subst ht
          refine wpIn_cond_true he (wpIn_mono (denF_ok x rd m c Q D σ a w hr hd h) ?_)
          rintro e a' w' ⟨D', σ', hr', hd', hq, hs, hu⟩
          exact ⟨D', σ', hr', hd', hq, hs, hu.mono fun t ht => List.mem_append_left _ ht⟩
        · rename_i ht
          have ht : q = false := by simpa using ht
          subst ht
          refine wpIn_cond_false he (wpIn_mono (denF_ok y rd m d Q D σ a w hr hd h) ?_)
          rintro e a' w' ⟨D', σ', hr', hd', hq, hs, hu⟩
          exact ⟨D', σ', hr', hd', hq, hs, hu.mono fun t ht => List.mem_append_right _ ht⟩
      · exact h.elim
    · exact h.elim
  | .block x, rd, m, c, Q, D, σ, a, w, hr, hd, h => by
    unfold denF at h
    split at h
    · rename_i id c
      refine wpIn_block (wpIn_mono (denF_ok x rd m c _ D σ a w hr hd h) ?_)
      rintro e a' w' ⟨D', σ', hr', hd', hq, hs, hu⟩
      cases e with
      | exit id' =>
        simp only [Exit.inBlock]
        simp only [blockF, blkE] at hq
        by_cases hid : id' = id
        · subst hid
          simp only [Nat.beq_refl] at hq
          rw [if_pos rfl]; exact ⟨D', σ', hr', hd', hq, hs, hu⟩
        · rw [if_neg hid]
          have : Nat.beq id' id = false := by cases hb : Nat.beq id' id; rfl; exact absurd (Nat.eq_of_beq_eq_true hb) hid
          rw [this] at hq
          exact ⟨D', σ', hr', hd', hq, hs, hu⟩
      | _ => exact ⟨D', σ', hr', hd', hq, hs, hu⟩
    · exact h.elim
  | .loop L x, rd, m, c, Q, D, σ, a, w, hr, hd, h => by
    unfold denF at h
    split at h
    · rename_i c
      obtain ⟨I, μ, h0, hstep⟩ := h
      refine wpIn_loop (fun a' w' => ∃ σ', Rel n σ' (Act.bare a') ∧ a'.defers = D.map mark ∧ apE False L I σ' (fun f => f w'.heap) ∧ Same w w' ∧ Unch (writes c) (Act.bare a) (Act.bare a'))
        (fun a' w' => apE 0 L μ (envOf a') (fun f => f w'.heap)) ⟨σ, hr, hd, h0, Same.refl w, Unch.refl _ _⟩ ?_
      rintro a' w' ⟨σ', hr', hd', hI, hs, hu⟩
      obtain ⟨σ'', hF, hsub, hL, _⟩ := allE_at L _ I hstep hI
      have hr'' := Rel.of_sub hr hr' hu hsub
      have hI'' : apE False L I σ'' (fun f => f w'.heap) := by rw [apE_congr L I hL]; exact hI
      have hdn := hF w'.heap hI''
      refine wpIn_mono (denF_ok x rd m c _ D σ'' a' w' hr'' hd' hdn) ?_
      rintro e a1 w1 ⟨D1, σ1, hr1, hd1, hq, hs1, hu1⟩
      have ev : ∀ b : Act, envOf (Act.bare b) = envOf b := fun _ => rfl
      cases e with
      | normal =>
        obtain ⟨rfl, hI1, hlt⟩ := hq
        refine ⟨⟨σ1, hr1, hd1, hI1, hs.trans hs1, hu.trans hu1⟩, ?_⟩
        rw [← ev a1, ← ev a', apE_envOf hr1 (apE_def L I hI1), apE_envOf hr'' (apE_def L I hI'')]
        exact hlt
      | _ => exact ⟨D1, σ1, hr1, hd1, hq, hs.trans hs1, hu.trans hu1⟩
    · exact h.elim
  | .join L x, rd, m, c, Q, D, σ, a, w, hr, hd, h => by
    unfold denF at h
    unfold JoinP at h
    refine wpIn_mono (denF_ok x rd m c _ D σ a w hr hd h) ?_
    rintro e a' w' ⟨D', σ', hr', hd', hq, hs, hu⟩
    cases e with
    | normal =>
      obtain ⟨rfl, hq⟩ := hq
      obtain ⟨σ'', hQ, hsub⟩ := apE_lamE L _ hq
      exact ⟨D', σ'', Rel.of_sub hr hr' hu hsub, hd', hQ, hs, hu⟩
    | _ => exact ⟨D', σ', hr', hd', hq, hs, hu⟩
  | .scope z L x y, rd, m, c, Q, D, σ, a, w, hr, hd, h => by
    unfold denF at h
    split at h
    · rename_i g ps asg bdy
      split at h
      · rename_i v hrd hps hg
        have hrd : rd = none := by cases rd with | none => rfl | some _ => cases hrd
        subst hrd
        have hps := natsEq_eq hps
        obtain ⟨gf, lb, rfl, hb, hc⟩ := h
        have hev : a.eval g = .func (.func gf) #[] lb := hr.fits _ _ hg
        refine wpIn_rangeFunc fun gn _ => ?_
        obtain ⟨rec, hrec⟩ : ∃ rec : Recs, rec = fun s p => { state := s, pending := p, fn := gn, tmps := a.tmps, params := ps, assign := asg, body := bdy, defers := w.heap.size } := ⟨_, rfl⟩
        have hcall := hc rec (fun s p => by rw [hrec]; exact ⟨rfl, rfl⟩) ?round
        case round =>
          intro args g1 C hat hB w1 hw1
          subst hw1
          obtain ⟨vs, rfl, hput⟩ := exShs_some hB
          obtain ⟨hlen, σ1, hr1, hden⟩ := putAll_ok _ _ σ a.tmps hr hput
          have hsz : args.toArray.size = ps.size := by rw [← Array.length_toList (xs := ps), ← hps, hlen]; simp
          refine ⟨gn, (ps.zip args.toArray).foldl (fun tmps (t, a) => tmps.setIfInBounds t a) a.tmps, asg, bdy, ?_, fun r m2 => ?_⟩
          · rw [hrec] at hat
            exact run_yield hat hsz
          have etm : (ps.zip args.toArray).foldl (fun tmps (t, a) => tmps.setIfInBounds t a) a.tmps = ((L.map (·.1)).zip args).foldl (fun t (p, v) => t.setIfInBounds p v) a.tmps := by
            rw [hps, ← Array.foldl_toList, Array.toList_zip]
          refine roundIn_of_wpIn (F := fw r) trivial ?_
          rw [etm]
          refine wpIn_mono (denF_ok x (some (w.heap.size + 1)) m2 asg _ [] σ1 { tmps := ((L.map (·.1)).zip args).foldl (fun t (p, v) => t.setIfInBounds p v) a.tmps, defers := [] } w1 hr1 rfl hden) ?_
          rintro e a2 w2 ⟨D2, σ2, hr2, hd2, hq, hs2, _⟩
          cases e with
          | normal =>
            obtain ⟨hat2, hbody⟩ := hq
            have hb2 : (rec .ready none).state = .ready := by rw [hrec]
            have e2 : ({ (rec .ready none) with state := .busy } : Loop) = rec .busy none := by rw [hrec]
            refine ⟨w2.putObj (w.heap.size + 1) (.loop (rec .busy none)), by rw [← e2]; exact run_beginRound hat2 hb2, ?_⟩
            refine wpIn_mono (denF_ok y (some (w.heap.size + 1)) m2 bdy _ D2 σ2 a2 (w2.putObj (w.heap.size + 1) (.loop (rec .busy none))) hr2 hd2 (hbody _ rfl)) ?_
            rintro e3 a3 w3 ⟨D3, σ3, hr3, hd3, hq3, hs3, _⟩
            have hs4 : ∀ o, Same w1 (w3.putObj (w.heap.size + 1) o) := fun o => hs2.trans ((same_put _ _ _).trans (hs3.trans (same_put _ _ _)))
            have fin : ∀ (j : Option Code), AtL w3.heap (w.heap.size + 1) (rec .busy none) → C j.isNone (setLoop w3.heap (w.heap.size + 1) (rec (if j.isNone then .ready else .done) j)) →
                ∃ v w', (Instr.endRound (w.heap.size + 1) j).run P w3 = .ok v w' ∧ ∃ v', Ending.returned v = .returned v' ∧ (∃ b, v' = .bool b ∧ C b w'.heap) ∧ Same w1 w' := fun j hat3 hC => by
              have e5 : ({ (rec .busy none) with state := if j.isNone then .ready else .done, pending := j } : Loop) = rec (if j.isNone then .ready else .done) j := by rw [hrec]
              refine ⟨_, _, run_endRound j hat3, _, rfl, ⟨_, rfl, ?_⟩, hs4 _⟩
              rw [e5]; exact hC
            cases e3 with
            | normal => exact fin none hq3.1 hq3.2
            | ret => exact fin (some .ret) hq3.1 hq3.2
            | exit i => exact fin (some (.exit i)) hq3.1 hq3.2
            | _ => exact hq3.elim
          | _ => exact hq.elim
        have henter : (callFunc gf (#[.func (.yield (w.heap.size + 1)) #[] #[]] ++ lb)).run P ((w.alloc (.deferred (some []))).alloc (.loop (rec .ready none))) = .ok (.enter gf (#[.func (.yield (w.heap.size + 1)) #[] #[]] ++ lb)) ((w.alloc (.deferred (some []))).alloc (.loop (rec .ready none))) := by
          unfold hasBody at hb
          split at hb
          · rename_i fn' hfn
            simp only [Bool.and_eq_true, Bool.not_eq_true'] at hb
            have hn : fn'.body.isNone = false := by cases hq : fn'.body <;> simp [hq] at hb ⊢
            unfold callFunc
            have h1 : ¬ fn'.name = "runtime.NumGoroutine" := fun e => by have := hb.2; rw [e] at this; cases this
            have h2 : ¬ fn'.body = none := fun e => by rw [e] at hn; cases hn
            simp [go_sem, hfn, h1, h2]
          · cases hb
        refine ⟨w.heap.size + 1, [{ target := .collected w.heap.size, args := #[] }], (w.alloc (.deferred (some []))).alloc (.loop (rec .ready none)), { target := .fn (.func gf) lb, args := #[.func (.yield (w.heap.size + 1)) #[] #[]] }, (w.alloc (.deferred (some []))).alloc (.loop (rec .ready none)), gf, #[.func (.yield (w.heap.size + 1)) #[] #[]] ++ lb, (w.alloc (.deferred (some []))).alloc (.loop (rec .ready none)), ?_, ?_, fun _ _ => trivial, by simp only [invoke]; exact henter, fw_depth, ?_⟩
        · rw [hrec]; exact run_enterLoop_outer gn a.tmps ps asg bdy
        · simp only [resolve, hev]
          simp [go_sem]
        · refine CallsIn.mono (calls_fw (hcall _ rfl)) ?_
          rintro e w3 ⟨v, rfl, ⟨st, pe, hst, hat, hJ⟩, hs⟩
          have hs' : Same w w3 := (same_alloc w _).trans ((same_alloc _ _).trans hs)
          have e5 : ({ (rec st pe) with state := .exhausted } : Loop) = rec .exhausted pe := by rw [hrec]
          refine ⟨(rec st pe).pending, _, run_endLoop hat (by rw [hrec]; exact hst), ?_⟩
          rw [e5, show (rec st pe).pending = pe by rw [hrec]]
          have hs4 : Same w (w3.putObj (w.heap.size + 1) (.loop (rec .exhausted pe))) := hs'.trans (same_put _ _ _)
          have hd' : ([{ target := .collected w.heap.size, args := #[] }] : List Deferred) ++ a.defers = (w.heap.size :: D).map mark := by rw [hd]; rfl
          cases pe with
          | none => exact ⟨w.heap.size :: D, σ, hr, hd', hJ, hs4, Unch.refl _ _⟩
          | some c =>
            cases c with
            | ret => exact wpIn_ret ⟨w.heap.size :: D, σ, hr, hd', hJ, hs4, Unch.refl _ _⟩
            | exit i =>
              cases z with
              | zero => exact hJ.elim
              | succ z => exact wpIn_exit ⟨w.heap.size :: D, σ, hr, hd', hJ, hs4, Unch.refl _ _⟩
            | _ => exact hJ.elim
      · exact h.elim
    · exact h.elim
def marksOff : List Nat → Heap → (Heap → Prop) → Prop
  | [], h, K => K h
  | d :: D, h, K => h[d]? = some (.deferred (some [])) ∧ marksOff D (h.setIfInBounds d (.deferred none)) K
def retF (P : Program) (rs : Array ResultVar) (R : Value → Heap → Prop) : Exit → List Nat → Env → Heap → Prop
  | .normal, D, σ, h => marksOff D h fun h' => resL P rs.toList σ h' fun vs => R (oneOr vs) h'
  | .ret, D, σ, h => marksOff D h fun h' => resL P rs.toList σ h' fun vs => R (oneOr vs) h'
  | _, _, _, _ => False
theorem leaves_ok {tmps : Array Value} {σ : Env} (hr : Rel n σ { tmps := tmps, defers := [] }) : ∀ (D : List Nat) (w : World), Same w0 w →
    marksOff D w.heap (fun h' => resL P fn.results.toList σ h' fun vs => R (oneOr vs) h') →
    LeavesInM (fw none) m P fn tmps (fun e w' => ∃ v, e = .returned v ∧ R v w'.heap ∧ Same w0 w') (D.map mark) .returning w
  | [], w, hs, h => by
    have ⟨v, h1, h2⟩ := results_ok (F := fun v => R v w.heap) hr h
    exact ⟨v, rd_run _ _ _ h2, v, rfl, h1, hs⟩
  | d :: D, w, hs, h => ⟨by simp, .inl ⟨d, w.putObj d (.deferred none), rfl, run_takeDeferred h.1, leaves_ok hr D _ (hs.trans (same_put _ _ _)) h.2⟩⟩
theorem callsH_of_bodyF {args : List Value} {h : Heap} (ann : Ann)
    (hf : P.funcs[f]? = some fn) (hb : fn.body.isSome = true) (hn : Nat.ble args.length fn.ntmps = true)
    (hd : denF P fn.ntmps false ann (bodyOf fn) (retF P fn.results R) [] (argEnv args) h) : CallsH P f args.toArray h R := by
  have ⟨c, hc⟩ := Option.isSome_iff_exists.1 hb
  rw [bodyOf, hc] at hd
  intro w hw
  subst hw
  have hn := Nat.le_of_ble_eq_true hn
  refine (callsIn_wide (n := 0)).1 (callsIn_of_wp_marks hf hc trivial ?_)
  have hr : Rel fn.ntmps (argEnv args) { tmps := args.toArray ++ Array.replicate (fn.ntmps - args.toArray.size) undef, defers := [] } := by
    refine ⟨rfl, by grind, fun t v hv => ?_⟩
    unfold argEnv at hv
    have hlt  := (List.getElem?_eq_some_iff.1 hv).1
    simp only [Array.getD_eq_getD_getElem?]
    rw [Array.getElem?_append_left (by omega)]
    simp [hv]
  refine wpIn_mono (denF_ok ann none 0 c _ [] _ { tmps := args.toArray ++ Array.replicate (fn.ntmps - args.toArray.size) undef, defers := [] } w hr rfl hd) ?_
  rintro e a w' ⟨D, σ, hr, hds, hq, hs, _⟩
  cases e with
  | exit id => exact hq.elim
  | goto l => exact hq.elim
  | panic ch => exact hq.elim
  | outgrown => exact hq.elim
  | _ => show LeavesInM _ _ _ _ _ _ a.defers _ _; rw [hds]; exact leaves_ok hr D w' hs hq

end
end Go.Den
namespace Go.Proofs.YtmoafceggjgecaaGreatDoor
open Go.Den
open IntKind (wrap)
open Int (toNat)
section
variable {h:Heap} {R:TyP}
variable {d b_l b_c:Nat} {b_p:TyO}
theorem disk_Disk_Crash.walk {keep_p : Option Addr} {keep_l keep_c : Nat} (hv :
 Cl 17 #[.pointer (some ⟨d, 0, none⟩)] h fun v h_1 =>
 ∃ t8, v = .int .i64 t8 ∧
 ite (t8 == 0)
 (  R (.int .i64 6) h_1)
 (  ∃ t13_p t13_l t13_c, hcell h_1 ⟨d, 1, none⟩ = some (.slice t13_p t13_l t13_c) ∧
 ∃ (I : Int → Heap → Prop) (mu : Int → Heap → Nat), I 0 h_1 ∧ ∀ t15 h_2, I t15 h_2 →
 ite (decide (t15 < ((t13_l : Nat) : Int)))
 (  JoinP (fun h_3 =>
 (I (IntKind.wrap .i64 (t15 + 1)) h_3 ∧ mu (IntKind.wrap .i64 (t15 + 1)) h_3 < mu t15 h_2))
 (fun J =>
 ((0 : Int) ≤ t15 ∧ t15 < ((t13_l : Nat) : Int)) ∧
 onSome t13_p fun a =>
 LoadB h_2 (a.add (Int.toNat t15 * 129)) ([.int .i64] ++ List.replicate 128 (.int .u8)) fun t19 =>
 NewP h_2 (.cells (([.int .i64 0] ++ List.replicate 128 (.int .u8 0) : List Value)).toArray 114) fun b h_4 =>
 t19.length = 129 ∧ storeL ⟨b, 0, none⟩ t19 0 h_4 fun h_5 =>
 JoinP (fun (t29 : Bool) h_6 =>
 JoinP (fun h_7 =>
 J h_7)
 (fun J_2 =>
 ite t29
 (  ∃ t33_p t33_l t33_c, hcell h_6 ⟨d, 0, none⟩ = some (.slice t33_p t33_l t33_c) ∧
 ∃ t35, hcell h_6 ⟨b, 0, none⟩ = some (.int .i64 t35) ∧
 LoadB h_6 ⟨b, 1, none⟩ (List.replicate 128 (.int .u8)) fun t37 =>
 ((0 : Int) ≤ t35 ∧ t35 < ((t33_l : Nat) : Int)) ∧
 onSome t33_p fun a_1 =>
 t37.length = 128 ∧ storeL (a_1.add (Int.toNat t35 * 128)) t37 0 h_6 fun h_8 =>
 J_2 h_8)
 (  J_2 h_6)))
 (fun J_1 =>
 ite (decide (t15 < ((keep_l : Nat) : Int)))
 (  ((0 : Int) ≤ t15 ∧ t15 < ((keep_l : Nat) : Int)) ∧
 onSome keep_p fun a_2 =>
 ∃ t28, hcell h_5 (a_2.add (Int.toNat t15 * 1)) = some (.bool t28) ∧
 J_1 t28 h_5)
 (  J_1 false h_5))))
 (  StoreP h_2 ⟨d, 1, none⟩ (.slice none 0 0) fun h_9 =>
 R (.int .i64 0) h_9))) : Cl 15 #[.pointer (some ⟨d, 0, none⟩), .slice keep_p keep_l keep_c] h R :=
 callsN [(14, .loop [(15, sI)]), (22, .join []), (26, .join [(29, sB)]), (27, .join []), (28, fun _ => .planK (runP 10 0 .done))] hv
theorem super_get.walk (hv :
 ∃ (I : Int → Int → Heap → Prop) (mu : Int → Int → Heap → Nat), I 0 0 h ∧ ∀ n t8 h_1, I n t8 h_1 →
 ite (decide (t8 < ((b_l : Nat) : Int)))
 (  ((0 : Int) ≤ t8 ∧ t8 < ((b_l : Nat) : Int)) ∧
 onSome b_p fun a =>
 ∃ t11, hcell h_1 (a.add (Int.toNat t8 * 1)) = some (.int .u8 t11) ∧
 (I (IntKind.wrap .u64 ((BitVec.ofInt (IntKind.bits .u64) (IntKind.wrap .u64 (n * 2 ^ min (Int.toNat 8) (IntKind.bits .u64))) ||| BitVec.ofInt (IntKind.bits .u64) (IntKind.wrap .u64 t11)).toNat : Int)) (IntKind.wrap .i64 (t8 + 1)) h_1 ∧ mu (IntKind.wrap .u64 ((BitVec.ofInt (IntKind.bits .u64) (IntKind.wrap .u64 (n * 2 ^ min (Int.toNat 8) (IntKind.bits .u64))) ||| BitVec.ofInt (IntKind.bits .u64) (IntKind.wrap .u64 t11)).toNat : Int)) (IntKind.wrap .i64 (t8 + 1)) h_1 < mu n t8 h_1))
 (  R (.int .u64 n) h_1)) : Cl 210 #[.slice b_p b_l b_c] h R :=
 callsN [(8, .loop [(3, sU), (8, sI)])] hv
theorem super_Read.walk (hv :
 NewP h (.cells super_Super.S.z.arr 140) fun b h_1 =>
 ite (((b_l : Nat) : Int) != 128)
 (  super_Super.STp h_1 ⟨b, 0, none⟩ super_Super.S.z fun h_2 =>
 super_Super.LDp h_2 ⟨b, 0, none⟩ fun r0 =>
 R (.tuple #[r0.agg, .int .i64 3]) h_2)
 (  JoinP (fun (s : Option Addr) h_3 =>
 onSome s fun a =>
 super_Super.LDp h_3 a fun t24 =>
 Cl 170 #[t24.agg] h_3 fun v h_4 =>
 ∃ t25_0_p t25_0_l t25_0_c t25_1, v = .tuple #[.slice t25_0_p t25_0_l t25_0_c, .int .i64 t25_1] ∧
 JoinP (fun (t35 : Bool) h_5 =>
 ite t35
 (  super_Super.STp h_5 ⟨b, 0, none⟩ super_Super.S.z fun h_6 =>
 super_Super.LDp h_6 ⟨b, 0, none⟩ fun r0_1 =>
 R (.tuple #[r0_1.agg, .int .i64 3]) h_6)
 (  onSome s fun a_1 =>
 super_Super.LDp h_5 a_1 fun t37 =>
 super_Super.STp h_5 ⟨b, 0, none⟩ t37 fun h_7 =>
 super_Super.LDp h_7 ⟨b, 0, none⟩ fun r0_2 =>
 R (.tuple #[r0_2.agg, .int .i64 0]) h_7))
 (fun J_1 =>
 ite (t25_1 != 0)
 (  J_1 true h_4)
 (  Cl 168 #[.slice t25_0_p t25_0_l t25_0_c, .slice b_p b_l b_c] h_4 fun v_1 h_8 =>
 ∃ t33, v_1 = .bool t33 ∧
 J_1 (!t33) h_8)))
 (fun J =>
 ((0 : Int) ≤ 12 ∧ 12 ≤ ((b_c : Nat) : Int)) ∧ ((0 : Int) ≤ 4 ∧ (4 : Int) ≤ 12) ∧
 ((0 : Int) ≤ 12 ∧ 12 < ((b_l : Nat) : Int)) ∧
 onSome b_p fun a_2 =>
 ∃ t16, hcell h_1 (a_2.add (Int.toNat 12 * 1)) = some (.int .u8 t16) ∧
 ((0 : Int) ≤ 17 ∧ 17 ≤ ((b_c : Nat) : Int)) ∧ ((0 : Int) ≤ 13 ∧ (13 : Int) ≤ 17) ∧
 (Cl 210 #[.slice (slBase b_p b_c (Int.toNat 4) 1) ((Int.toNat 12) - (Int.toNat 4)) (b_c - (Int.toNat 4))] h_1 fun v_2 h_9 =>
 ∃ t13, v_2 = .int .u64 t13 ∧
 Kp h_1 h_9 [(some (a_2.add (Int.toNat 12 * 1)))] ∧
 (Cl 210 #[.slice (slBase b_p b_c (Int.toNat 13) 1) ((Int.toNat 17) - (Int.toNat 13)) (b_c - (Int.toNat 13))] h_9 fun v_3 h_10 =>
 ∃ t20, v_3 = .int .u64 t20 ∧
 Kp h_9 h_10 [(some (a_2.add (Int.toNat 12 * 1)))] ∧
 NewP h_10 (.cells super_Super.S.z.arr 140) fun b_1 h_11 =>
 Kp h_10 h_11 [(some (a_2.add (Int.toNat 12 * 1)))] ∧
 super_Super.STp h_11 ⟨b_1, 0, none⟩ ⟨t13, (IntKind.wrap .i64 t16), (IntKind.wrap .i64 t20)⟩ fun h_12 =>
 J (some ⟨b_1, 0, none⟩) h_12) ∧
 (NewP h_9 (.cells super_Super.S.z.arr 140) fun b_2 h_13 =>
 Kp h_9 h_13 [(some (a_2.add (Int.toNat 12 * 1)))] ∧
 Cl 210 #[.slice (slBase b_p b_c (Int.toNat 13) 1) ((Int.toNat 17) - (Int.toNat 13)) (b_c - (Int.toNat 13))] h_13 fun v_4 h_14 =>
 ∃ t20_1, v_4 = .int .u64 t20_1 ∧
 Kp h_13 h_14 [(some (a_2.add (Int.toNat 12 * 1)))] ∧
 super_Super.STp h_14 ⟨b_2, 0, none⟩ ⟨t13, (IntKind.wrap .i64 t16), (IntKind.wrap .i64 t20_1)⟩ fun h_15 =>
 J (some ⟨b_2, 0, none⟩) h_15) ∧
 True) ∧
 (NewP h_1 (.cells super_Super.S.z.arr 140) fun b_3 h_16 =>
 Kp h_1 h_16 [(some (a_2.add (Int.toNat 12 * 1)))] ∧
 Cl 210 #[.slice (slBase b_p b_c (Int.toNat 4) 1) ((Int.toNat 12) - (Int.toNat 4)) (b_c - (Int.toNat 4))] h_16 fun v_5 h_17 =>
 ∃ t13_1, v_5 = .int .u64 t13_1 ∧
 Kp h_16 h_17 [(some (a_2.add (Int.toNat 12 * 1)))] ∧
 Cl 210 #[.slice (slBase b_p b_c (Int.toNat 13) 1) ((Int.toNat 17) - (Int.toNat 13)) (b_c - (Int.toNat 13))] h_17 fun v_6 h_18 =>
 ∃ t20_2, v_6 = .int .u64 t20_2 ∧
 Kp h_17 h_18 [(some (a_2.add (Int.toNat 12 * 1)))] ∧
 super_Super.STp h_18 ⟨b_3, 0, none⟩ ⟨t13_1, (IntKind.wrap .i64 t16), (IntKind.wrap .i64 t20_2)⟩ fun h_19 =>
 J (some ⟨b_3, 0, none⟩) h_19) ∧
 True))) : Cl 153 #[.slice b_p b_l b_c] h R :=
 callsN [(11, .join [(4, sP)]), (11, fun _ => .planK (opL [0,1] (runP 6 3 (.alts (.fork 2 (.alts (.fork 9 (runP 4 10 .done) (.fork 12 (runP 3 9 (.op 13 .done)) .noalt))) (.fork 12 (.op 2 (runP 3 9 (.op 13 .done))) .noalt)))))), (16, .join [(35, sB)])] hv
theorem super_Newest.walk (hv :
 NewP h (.cells super_Super.S.z.arr 140) fun b h_1 =>
 NewP h_1 (.cells super_Super.S.z.arr 140) fun b_1 h_2 =>
 ∃ (I : Int → Heap → Prop) (mu : Int → Heap → Nat), I 0 h_2 ∧ ∀ t9 h_3, I t9 h_3 →
 ite (decide (t9 < 2))
 (  JoinP (fun h_4 =>
 (I (IntKind.wrap .i64 (t9 + 1)) h_4 ∧ mu (IntKind.wrap .i64 (t9 + 1)) h_4 < mu t9 h_3))
 (fun J =>
 Cl 152 #[.pointer (some ⟨d, 0, none⟩), .int .i64 t9] h_3 fun v h_5 =>
 ∃ t15_0_p t15_0_l t15_0_c t15_1, v = .tuple #[.slice t15_0_p t15_0_l t15_0_c, .int .i64 t15_1] ∧
 ite (t15_1 != 0)
 (  super_Super.STp h_5 ⟨b, 0, none⟩ super_Super.S.z fun h_6 =>
 super_Super.LDp h_6 ⟨b, 0, none⟩ fun r0 =>
 R (.tuple #[r0.agg, .int .i64 t15_1]) h_6)
 (  Cl 153 #[.slice t15_0_p t15_0_l t15_0_c] h_5 fun v_1 h_7 =>
 super_Super.EX fun t24_0 =>
 ∃ t24_1, v_1 = .tuple #[t24_0.agg, .int .i64 t24_1] ∧
 NewP h_7 (.cells super_Super.S.z.arr 140) fun b_2 h_8 =>
 super_Super.STp h_8 ⟨b_2, 0, none⟩ t24_0 fun h_9 =>
 JoinP (fun (t41 : Bool) h_10 =>
 JoinP (fun h_11 =>
 J h_11)
 (fun J_2 =>
 ite t41
 (  super_Super.LDp h_10 ⟨b_2, 0, none⟩ fun t42 =>
 super_Super.STp h_10 ⟨b_1, 0, none⟩ t42 fun h_12 =>
 J_2 h_12)
 (  J_2 h_10)))
 (fun J_1 =>
 ite (t24_1 == 0)
 (  super_Super.LDp h_9 ⟨b_2, 0, none⟩ fun t30 =>
 Cl 154 #[t30.agg] h_9 fun v_2 h_13 =>
 ∃ t31, v_2 = .int .i64 t31 ∧
 ite (t31 == t9)
 (  ∃ t37, hcell h_13 ⟨b_2, 0, none⟩ = some (.int .u64 t37) ∧
 ∃ t39, hcell h_13 ⟨b_1, 0, none⟩ = some (.int .u64 t39) ∧
 J_1 (decide (t37 > t39)) h_13)
 (  J_1 false h_13))
 (  J_1 false h_9)))))
 (  super_Super.LDp h_3 ⟨b_1, 0, none⟩ fun t44 =>
 ∃ (eq : Bool), Eqz 140 (t44.agg) (super_Super.S.z.agg) eq ∧
 ite eq
 (  super_Super.STp h_3 ⟨b, 0, none⟩ super_Super.S.z fun h_14 =>
 super_Super.LDp h_14 ⟨b, 0, none⟩ fun r0_1 =>
 R (.tuple #[r0_1.agg, .int .i64 4]) h_14)
 (  super_Super.LDp h_3 ⟨b_1, 0, none⟩ fun t48 =>
 super_Super.STp h_3 ⟨b, 0, none⟩ t48 fun h_15 =>
 super_Super.LDp h_15 ⟨b, 0, none⟩ fun r0_2 =>
 R (.tuple #[r0_2.agg, .int .i64 0]) h_15))) : Cl 108 #[.pointer (some ⟨d, 0, none⟩)] h R :=
 callsN [(8, .loop [(9, sI)]), (16, .join []), (32, .join [(41, sB)]), (33, .join [])] hv
theorem area_Get.walk {a : area_Area.S} {v_at : Int} {n : Int} (hv :
 NewP h (.cells a.arr 137) fun b h_1 =>
 ∃ (I : Int → Int → Option Addr → Nat → Nat → Heap → Prop) (mu : Int → Int → Option Addr → Nat → Nat → Heap → Nat), (
 area_Area.LDp h_1 ⟨b, 0, none⟩ fun t17 =>
 Cl 155 #[.pointer (some ⟨d, 0, none⟩), t17.agg, .int .i64 v_at, .int .i64 n] h_1 fun v h_2 =>
 ∃ t20, v = .int .i64 t20 ∧
 ite (t20 != 0)
 (  R (.tuple #[.slice none 0 0, .int .i64 t20]) h_2)
 (  I v_at n none 0 0 h_2)) ∧ ∀ v_at_1 n_1 out_p out_l out_c h_3, I v_at_1 n_1 out_p out_l out_c h_3 →
 ite (decide (n_1 > 0))
 (  ∃ t29, hcell h_3 ⟨b, 0, none⟩ = some (.int .i64 t29) ∧
 Cl 152 #[.pointer (some ⟨d, 0, none⟩), .int .i64 (IntKind.wrap .i64 (t29 + (IntKind.wrap .i64 (Int.tdiv v_at_1 128))))] h_3 fun v_1 h_4 =>
 ∃ t33_0_p t33_0_l t33_0_c t33_1, v_1 = .tuple #[.slice t33_0_p t33_0_l t33_0_c, .int .i64 t33_1] ∧
 ite (t33_1 != 0)
 (  R (.tuple #[.slice none 0 0, .int .i64 t33_1]) h_4)
 (  ((0 : Int) ≤ IntKind.wrap .i64 ((Int.tmod v_at_1 128) + (if IntKind.wrap .i64 (128 - (Int.tmod v_at_1 128)) < n_1 then IntKind.wrap .i64 (128 - (Int.tmod v_at_1 128)) else n_1)) ∧ IntKind.wrap .i64 ((Int.tmod v_at_1 128) + (if IntKind.wrap .i64 (128 - (Int.tmod v_at_1 128)) < n_1 then IntKind.wrap .i64 (128 - (Int.tmod v_at_1 128)) else n_1)) ≤ ((t33_0_c : Nat) : Int)) ∧ ((0 : Int) ≤ Int.tmod v_at_1 128 ∧ Int.tmod v_at_1 128 ≤ IntKind.wrap .i64 ((Int.tmod v_at_1 128) + (if IntKind.wrap .i64 (128 - (Int.tmod v_at_1 128)) < n_1 then IntKind.wrap .i64 (128 - (Int.tmod v_at_1 128)) else n_1))) ∧
 Dsz (Builtin.append_ #[48, 48] 48 #[.slice out_p out_l out_c, .slice (slBase t33_0_p t33_0_c (Int.toNat (Int.tmod v_at_1 128)) 1) ((Int.toNat (IntKind.wrap .i64 ((Int.tmod v_at_1 128) + (if IntKind.wrap .i64 (128 - (Int.tmod v_at_1 128)) < n_1 then IntKind.wrap .i64 (128 - (Int.tmod v_at_1 128)) else n_1)))) - (Int.toNat (Int.tmod v_at_1 128))) (t33_0_c - (Int.toNat (Int.tmod v_at_1 128)))]) h_4 fun v_2 h_5 =>
 ∃ t52_p t52_l t52_c, v_2 = .slice t52_p t52_l t52_c ∧
 (I (IntKind.wrap .i64 (v_at_1 + (if IntKind.wrap .i64 (128 - (Int.tmod v_at_1 128)) < n_1 then IntKind.wrap .i64 (128 - (Int.tmod v_at_1 128)) else n_1))) (IntKind.wrap .i64 (n_1 - (if IntKind.wrap .i64 (128 - (Int.tmod v_at_1 128)) < n_1 then IntKind.wrap .i64 (128 - (Int.tmod v_at_1 128)) else n_1))) t52_p t52_l t52_c h_5 ∧ mu (IntKind.wrap .i64 (v_at_1 + (if IntKind.wrap .i64 (128 - (Int.tmod v_at_1 128)) < n_1 then IntKind.wrap .i64 (128 - (Int.tmod v_at_1 128)) else n_1))) (IntKind.wrap .i64 (n_1 - (if IntKind.wrap .i64 (128 - (Int.tmod v_at_1 128)) < n_1 then IntKind.wrap .i64 (128 - (Int.tmod v_at_1 128)) else n_1))) t52_p t52_l t52_c h_5 < mu v_at_1 n_1 out_p out_l out_c h_3)))
 (  R (.tuple #[.slice out_p out_l out_c, .int .i64 0]) h_3)) : Cl 110 #[.pointer (some ⟨d, 0, none⟩), a.agg, .int .i64 v_at, .int .i64 n] h R :=
 callsN [(2, fun _ => .scope 0 [(2, sI), (3, sI), (11, sS)] (sq (lq (lq (cq ll lf))) (lq ll)) (lq (sq (lq (cq (lq (sq (lq (cq ll lf)) (lq (lq (lq ll))))) lf)) ll)))] hv
theorem journal_records.walk (hv :
 NewP h (.cells #[.slice b_p b_l b_c] 48) fun b h_1 =>
 R (.func (.func 156) #[] #[.pointer (some ⟨b, 0, none⟩)]) h_1) : Cl 111 #[.slice b_p b_l b_c] h R :=
 callsN [] hv
theorem journal_records_1.y.walk {l : Nat} {c0 : Nat} (hv :
 ∃ (I : Heap → Prop) (mu : Heap → Nat), I h ∧ ∀ h_1, I h_1 →
 ∃ t4_p t4_l t4_c, hcell h_1 ⟨c0, 0, none⟩ = some (.slice t4_p t4_l t4_c) ∧
 ite (decide (((t4_l : Nat) : Int) > 0))
 (  ∃ t7_p t7_l t7_c, hcell h_1 ⟨c0, 0, none⟩ = some (.slice t7_p t7_l t7_c) ∧
 ite (decide (((t7_l : Nat) : Int) < 2))
 (  RoundH Tryz.prog l #[.slice none 0 0, .bool false] h_1 fun v h_2 =>
 ∃ (t : Bool), v = .bool t ∧
 R (.tuple #[]) h_2)
 (  ∃ t12_p t12_l t12_c, hcell h_1 ⟨c0, 0, none⟩ = some (.slice t12_p t12_l t12_c) ∧
 ((0 : Int) ≤ 0 ∧ 0 < ((t12_l : Nat) : Int)) ∧
 onSome t12_p fun a =>
 ∃ t14, hcell h_1 (a.add (Int.toNat 0 * 1)) = some (.int .u8 t14) ∧
 ∃ t17_p t17_l t17_c, hcell h_1 ⟨c0, 0, none⟩ = some (.slice t17_p t17_l t17_c) ∧
 ((0 : Int) ≤ 1 ∧ 1 < ((t17_l : Nat) : Int)) ∧
 onSome t17_p fun a_1 =>
 ∃ t19, hcell h_1 (a_1.add (Int.toNat 1 * 1)) = some (.int .u8 t19) ∧
 ∃ t22_p t22_l t22_c, hcell h_1 ⟨c0, 0, none⟩ = some (.slice t22_p t22_l t22_c) ∧
 ((0 : Int) ≤ 2 ∧ 2 ≤ ((t22_l : Nat) : Int)) ∧
 StoreP h_1 ⟨c0, 0, none⟩ (.slice (slBase t22_p t22_c (Int.toNat 2) 1) (t22_l - (Int.toNat 2)) (t22_c - (Int.toNat 2))) fun h_3 =>
 JoinP (fun (t34 : Bool) h_4 =>
 ite t34
 (  RoundH Tryz.prog l #[.slice none 0 0, .bool false] h_4 fun v_1 h_5 =>
 ∃ (t_1 : Bool), v_1 = .bool t_1 ∧
 R (.tuple #[]) h_5)
 (  ∃ t38_p t38_l t38_c, hcell h_4 ⟨c0, 0, none⟩ = some (.slice t38_p t38_l t38_c) ∧
 ((0 : Int) ≤ IntKind.wrap .i64 ((BitVec.ofInt (IntKind.bits .i64) (IntKind.wrap .i64 ((IntKind.wrap .i64 t14) * 2 ^ min (Int.toNat 8) (IntKind.bits .i64))) ||| BitVec.ofInt (IntKind.bits .i64) (IntKind.wrap .i64 t19)).toNat : Int) ∧ IntKind.wrap .i64 ((BitVec.ofInt (IntKind.bits .i64) (IntKind.wrap .i64 ((IntKind.wrap .i64 t14) * 2 ^ min (Int.toNat 8) (IntKind.bits .i64))) ||| BitVec.ofInt (IntKind.bits .i64) (IntKind.wrap .i64 t19)).toNat : Int) ≤ ((t38_c : Nat) : Int)) ∧
 Cl 47 #[.slice (slBase t38_p t38_c 0 1) ((Int.toNat (IntKind.wrap .i64 ((BitVec.ofInt (IntKind.bits .i64) (IntKind.wrap .i64 ((IntKind.wrap .i64 t14) * 2 ^ min (Int.toNat 8) (IntKind.bits .i64))) ||| BitVec.ofInt (IntKind.bits .i64) (IntKind.wrap .i64 t19)).toNat : Int))) - 0) (t38_c - 0)] h_4 fun v_2 h_6 =>
 ∃ t41_p t41_l t41_c, v_2 = .slice t41_p t41_l t41_c ∧
 RoundH Tryz.prog l #[.slice t41_p t41_l t41_c, .bool true] h_6 fun v_3 h_7 =>
 ∃ (t_2 : Bool), v_3 = .bool t_2 ∧
 ite (!t_2)
 (  R (.tuple #[]) h_7)
 (  ∃ t44_p t44_l t44_c, hcell h_7 ⟨c0, 0, none⟩ = some (.slice t44_p t44_l t44_c) ∧
 ((0 : Int) ≤ IntKind.wrap .i64 ((BitVec.ofInt (IntKind.bits .i64) (IntKind.wrap .i64 ((IntKind.wrap .i64 t14) * 2 ^ min (Int.toNat 8) (IntKind.bits .i64))) ||| BitVec.ofInt (IntKind.bits .i64) (IntKind.wrap .i64 t19)).toNat : Int) ∧ IntKind.wrap .i64 ((BitVec.ofInt (IntKind.bits .i64) (IntKind.wrap .i64 ((IntKind.wrap .i64 t14) * 2 ^ min (Int.toNat 8) (IntKind.bits .i64))) ||| BitVec.ofInt (IntKind.bits .i64) (IntKind.wrap .i64 t19)).toNat : Int) ≤ ((t44_l : Nat) : Int)) ∧
 StoreP h_7 ⟨c0, 0, none⟩ (.slice (slBase t44_p t44_c (Int.toNat (IntKind.wrap .i64 ((BitVec.ofInt (IntKind.bits .i64) (IntKind.wrap .i64 ((IntKind.wrap .i64 t14) * 2 ^ min (Int.toNat 8) (IntKind.bits .i64))) ||| BitVec.ofInt (IntKind.bits .i64) (IntKind.wrap .i64 t19)).toNat : Int))) 1) (t44_l - (Int.toNat (IntKind.wrap .i64 ((BitVec.ofInt (IntKind.bits .i64) (IntKind.wrap .i64 ((IntKind.wrap .i64 t14) * 2 ^ min (Int.toNat 8) (IntKind.bits .i64))) ||| BitVec.ofInt (IntKind.bits .i64) (IntKind.wrap .i64 t19)).toNat : Int)))) (t44_c - (Int.toNat (IntKind.wrap .i64 ((BitVec.ofInt (IntKind.bits .i64) (IntKind.wrap .i64 ((IntKind.wrap .i64 t14) * 2 ^ min (Int.toNat 8) (IntKind.bits .i64))) ||| BitVec.ofInt (IntKind.bits .i64) (IntKind.wrap .i64 t19)).toNat : Int))))) fun h_8 =>
 (([] : List Nat) = [] ∧ I h_8 ∧ mu h_8 < mu h_1))))
 (fun J =>
 ∃ t25_p t25_l t25_c, hcell h_3 ⟨c0, 0, none⟩ = some (.slice t25_p t25_l t25_c) ∧
 ite (decide ((IntKind.wrap .i64 ((BitVec.ofInt (IntKind.bits .i64) (IntKind.wrap .i64 ((IntKind.wrap .i64 t14) * 2 ^ min (Int.toNat 8) (IntKind.bits .i64))) ||| BitVec.ofInt (IntKind.bits .i64) (IntKind.wrap .i64 t19)).toNat : Int)) > ((t25_l : Nat) : Int)))
 (  ([] : List Nat) = [] ∧ J true h_3)
 (  ∃ t29_p t29_l t29_c, hcell h_3 ⟨c0, 0, none⟩ = some (.slice t29_p t29_l t29_c) ∧
 ((0 : Int) ≤ IntKind.wrap .i64 ((BitVec.ofInt (IntKind.bits .i64) (IntKind.wrap .i64 ((IntKind.wrap .i64 t14) * 2 ^ min (Int.toNat 8) (IntKind.bits .i64))) ||| BitVec.ofInt (IntKind.bits .i64) (IntKind.wrap .i64 t19)).toNat : Int) ∧ IntKind.wrap .i64 ((BitVec.ofInt (IntKind.bits .i64) (IntKind.wrap .i64 ((IntKind.wrap .i64 t14) * 2 ^ min (Int.toNat 8) (IntKind.bits .i64))) ||| BitVec.ofInt (IntKind.bits .i64) (IntKind.wrap .i64 t19)).toNat : Int) ≤ ((t29_c : Nat) : Int)) ∧
 Cl 78 #[.slice (slBase t29_p t29_c 0 1) ((Int.toNat (IntKind.wrap .i64 ((BitVec.ofInt (IntKind.bits .i64) (IntKind.wrap .i64 ((IntKind.wrap .i64 t14) * 2 ^ min (Int.toNat 8) (IntKind.bits .i64))) ||| BitVec.ofInt (IntKind.bits .i64) (IntKind.wrap .i64 t19)).toNat : Int))) - 0) (t29_c - 0)] h_3 fun v_4 h_9 =>
 ∃ t32, v_4 = .bool t32 ∧
 ([] : List Nat) = [] ∧ J (!t32) h_9))))
 (  R (.tuple #[]) h_1)) : Cl 156 #[.func (.yield l) #[] #[], .pointer (some ⟨c0, 0, none⟩)] h R :=
 callsH_of_bodyF (.block (.loop [] (.seq (.seq .leaf (.cond .leaf .leaf)) (.block (.seq (.seq .leaf (.cond (.seq .leaf .leaf) .leaf)) (.seq (.plan (runP 11 0 .done)) (.seq .leaf (.seq (.seq (.join [(34, .one (.bool))] .leaf) (.cond (.seq .leaf .leaf) .leaf)) (.seq (.seq .leaf (.cond .leaf .leaf)) .leaf))))))))) Tryz.func156 rfl rfl (Eq.mp (by kernel_rfl) hv)
theorem journal_Open.walk (hv :
 NewP h (.cells #[.pointer none] 94) fun b h_1 =>
 NewP h_1 (.cells #[.slice none 0 0] 44) fun b_1 h_2 =>
 NewP h_2 (.cells #[.int .i64 0] 25) fun b_2 h_3 =>
 Cl 108 #[.pointer (some ⟨d, 0, none⟩)] h_3 fun v h_4 =>
 super_Super.EX fun t14_0 =>
 ∃ t14_1, v = .tuple #[t14_0.agg, .int .i64 t14_1] ∧
 NewP h_4 (.cells super_Super.S.z.arr 140) fun b_3 h_5 =>
 super_Super.STp h_5 ⟨b_3, 0, none⟩ t14_0 fun h_6 =>
 ite (t14_1 != 0)
 (  StoreP h_6 ⟨b, 0, none⟩ (.pointer none) fun h_7 =>
 StoreP h_7 ⟨b_1, 0, none⟩ (.slice none 0 0) fun h_8 =>
 StoreP h_8 ⟨b_2, 0, none⟩ (.int .i64 t14_1) fun h_9 =>
 ∃ r0, hcell h_9 ⟨b, 0, none⟩ = some (.pointer r0) ∧
 ∃ r1_p r1_l r1_c, hcell h_9 ⟨b_1, 0, none⟩ = some (.slice r1_p r1_l r1_c) ∧
 ∃ r2, hcell h_9 ⟨b_2, 0, none⟩ = some (.int .i64 r2) ∧
 R (.tuple #[.pointer r0, .slice r1_p r1_l r1_c, .int .i64 r2]) h_9)
 (  super_Super.LDp h_6 ⟨b_3, 0, none⟩ fun t21 =>
 Cl 109 #[.pointer (some ⟨d, 0, none⟩), t21.agg] h_6 fun v_1 h_10 =>
 ∃ t22, v_1 = .pointer t22 ∧
 ∃ t27, hcell h_10 ⟨b_3, 1, none⟩ = some (.int .i64 t27) ∧
 onSome t22 fun a =>
 ((0 : Int) ≤ t27 ∧ t27 < ((2 : Nat) : Int)) ∧
 area_Area.LDp h_10 ((a.add 1).add (Int.toNat t27 * 2)) fun t31 =>
 ∃ t33, hcell h_10 ⟨b_3, 2, none⟩ = some (.int .i64 t33) ∧
 Cl 110 #[.pointer (some ⟨d, 0, none⟩), t31.agg, .int .i64 0, .int .i64 t33] h_10 fun v_2 h_11 =>
 ∃ t34_0_p t34_0_l t34_0_c t34_1, v_2 = .tuple #[.slice t34_0_p t34_0_l t34_0_c, .int .i64 t34_1] ∧
 hcell h_11 ⟨b_3, 1, none⟩ = some (.int .i64 t27) ∧
 ite (t34_1 != 0)
 (  StoreP h_11 ⟨b, 0, none⟩ (.pointer none) fun h_12 =>
 StoreP h_12 ⟨b_1, 0, none⟩ (.slice none 0 0) fun h_13 =>
 StoreP h_13 ⟨b_2, 0, none⟩ (.int .i64 3) fun h_14 =>
 ∃ r0_1, hcell h_14 ⟨b, 0, none⟩ = some (.pointer r0_1) ∧
 ∃ r1_p_1 r1_l_1 r1_c_1, hcell h_14 ⟨b_1, 0, none⟩ = some (.slice r1_p_1 r1_l_1 r1_c_1) ∧
 ∃ r2_1, hcell h_14 ⟨b_2, 0, none⟩ = some (.int .i64 r2_1) ∧
 R (.tuple #[.pointer r0_1, .slice r1_p_1 r1_l_1 r1_c_1, .int .i64 r2_1]) h_14)
 (  NewP h_11 (.cells #[.slice none 0 0] 44) fun b_4 h_15 =>
 Cl 111 #[.slice t34_0_p t34_0_l t34_0_c] h_15 fun v_3 h_16 =>
 ∃ t40, v_3 = t40 ∧
 RangeP Tryz.prog (t40) h_16 (fun rec C args h_17 =>
 ∃ t41_p t41_l t41_c t42, args = [.slice t41_p t41_l t41_c, .bool t42] ∧
 AtL h_17 (h_16.size + 1) (rec .ready none) ∧ ∀ h_18, h_18 = setLoop h_17 (h_16.size + 1) (rec .busy none) →
 ite (!t42)
 (  StoreP h_18 ⟨b, 0, none⟩ (.pointer none) fun h_19 =>
 StoreP h_19 ⟨b_1, 0, none⟩ (.slice none 0 0) fun h_20 =>
 StoreP h_20 ⟨b_2, 0, none⟩ (.int .i64 3) fun h_21 =>
 (AtL h_21 (h_16.size + 1) (rec .busy none) ∧ C false (setLoop h_21 (h_16.size + 1) (rec .done (some .ret)))))
 (  ∃ t45_p t45_l t45_c, hcell h_18 ⟨b_4, 0, none⟩ = some (.slice t45_p t45_l t45_c) ∧
 NewP h_18 (.cells #[.slice t41_p t41_l t41_c] 48) fun b_5 h_22 =>
 Dsz (Builtin.append_ #[44, 44] 44 #[.slice t45_p t45_l t45_c, .slice (some ⟨b_5, 0, none⟩) 1 1]) h_22 fun v_4 h_23 =>
 ∃ t48_p t48_l t48_c, v_4 = .slice t48_p t48_l t48_c ∧
 StoreP h_23 ⟨b_4, 0, none⟩ (.slice t48_p t48_l t48_c) fun h_24 =>
 (AtL h_24 (h_16.size + 1) (rec .busy none) ∧ C true (setLoop h_24 (h_16.size + 1) (rec .ready none)))))
 (JumpP (fun g =>
 ∃ t50_p t50_l t50_c, hcell g ⟨b_4, 0, none⟩ = some (.slice t50_p t50_l t50_c) ∧
 StoreP g ⟨b, 0, none⟩ (.pointer t22) fun h_25 =>
 hcell h_25 ⟨b_4, 0, none⟩ = some (.slice t50_p t50_l t50_c) ∧
 StoreP h_25 ⟨b_1, 0, none⟩ (.slice t50_p t50_l t50_c) fun h_26 =>
 StoreP h_26 ⟨b_2, 0, none⟩ (.int .i64 0) fun h_27 =>
 h_27[h_16.size]? = some (.deferred (some [])) ∧ ∃ r0_2, hcell (h_27.setIfInBounds h_16.size (.deferred none)) ⟨b, 0, none⟩ = some (.pointer r0_2) ∧
 ∃ r1_p_2 r1_l_2 r1_c_2, hcell (h_27.setIfInBounds h_16.size (.deferred none)) ⟨b_1, 0, none⟩ = some (.slice r1_p_2 r1_l_2 r1_c_2) ∧
 ∃ r2_2, hcell (h_27.setIfInBounds h_16.size (.deferred none)) ⟨b_2, 0, none⟩ = some (.int .i64 r2_2) ∧
 R (.tuple #[.pointer r0_2, .slice r1_p_2 r1_l_2 r1_c_2, .int .i64 r2_2]) (h_27.setIfInBounds h_16.size (.deferred none)))
 (fun g_1 =>
 g_1[h_16.size]? = some (.deferred (some [])) ∧ ∃ r0_3, hcell (g_1.setIfInBounds h_16.size (.deferred none)) ⟨b, 0, none⟩ = some (.pointer r0_3) ∧
 ∃ r1_p_3 r1_l_3 r1_c_3, hcell (g_1.setIfInBounds h_16.size (.deferred none)) ⟨b_1, 0, none⟩ = some (.slice r1_p_3 r1_l_3 r1_c_3) ∧
 ∃ r2_3, hcell (g_1.setIfInBounds h_16.size (.deferred none)) ⟨b_2, 0, none⟩ = some (.int .i64 r2_3) ∧
 R (.tuple #[.pointer r0_3, .slice r1_p_3 r1_l_3 r1_c_3, .int .i64 r2_3]) (g_1.setIfInBounds h_16.size (.deferred none)))
 (fun _ _ =>
 False))))) : Cl 69 #[.pointer (some ⟨d, 0, none⟩)] h R :=
 callsH_of_bodyF (.seq .leaf (.seq .leaf (.seq (.seq .leaf (.cond (.seq .leaf .leaf) .leaf)) (.seq .leaf (.seq (.plan (runP 16 0 .done)) (.seq (.seq .leaf (.cond (.seq .leaf .leaf) .leaf)) (.seq .leaf (.seq (.seq .leaf (.block (.scope 0 [(41, .one (.slice)), (42, .one (.bool))] (.seq .leaf .leaf) (.block (.seq (.seq .leaf (.cond (.seq .leaf .leaf) .leaf)) .leaf))))) (.seq (.plan (runP 5 0 .done)) .leaf))))))))) Tryz.func69 rfl rfl (Eq.mp (by kernel_rfl) hv)
theorem journal_Journal_All.walk {j : Nat} (hv :
 Cl 57 #[.pointer (some ⟨j, 0, none⟩)] h fun v h_1 =>
 ∃ t4, v = .bool t4 ∧
 ite (!t4)
 (  R (.int .i64 0) h_1)
 (  ∃ t9, hcell h_1 ⟨j, 14, none⟩ = some (.int .i64 t9) ∧
 R (.int .i64 t9) h_1)) : Cl 29 #[.pointer (some ⟨j, 0, none⟩)] h R :=
 callsN [] hv

end
end Go.Proofs.YtmoafceggjgecaaGreatDoor
namespace Go.Den
theorem iteT {b : Bool} {A B : Prop} (h : b = true) (a : A) : ite (b = true) A B := by rw [if_pos h]; exact a
theorem iteF {b : Bool} {A B : Prop} (h : b = false) (a : B) : ite (b = true) A B := by rw [if_neg (by rw [h]; decide)]; exact a
theorem byteAt {h : Heap} {p : Option Addr} {bs : List UInt8} (hr : Row h p (bc bs)) {i : Nat} (hi : i < bs.length) : ∃ a, p = some a ∧ hcell h (a.add (i * 1)) = some (.int .u8 ((bs[i]).toNat : Int)) := by
  obtain ⟨a, rfl⟩ := hr.some (by intro e; have := congrArg List.length e; rw [bc_len] at this; simp at this; rw [this] at hi; cases hi)
  exact ⟨a, rfl, by rw [Nat.mul_one]; exact hr.cell (by unfold bc; rw [List.getElem?_map, List.getElem?_eq_getElem hi]; rfl)⟩
end Go.Den
namespace Go.Proofs.YtmoafceggjgecaaGreatDoor
open Go.Den
namespace Dsk
variable {h h' : Heap} {R : Value → Heap → Prop} {d n : Nat} {X : Ft} {s : DS}
theorem Crash0_ok {kp : Option Addr} {kl kc : Nat} (H : Dk h d X n s) (hn : 0 < n) (hW : s.W = []) (hk : ∀ h' X', Dk h' d X' n s → StepF X h X' h' → R (.int .i64 0) h') : Cl 15 #[pt d, .slice kp kl kc] h R := by
  refine disk_Disk_Crash.walk (sectors_ok H ⟨_, rfl, iteF (beq_eq_false_iff_ne.2 (by omega)) ?_⟩)
  obtain ⟨lp, wp, wc, x, y, A⟩ := H
  refine ⟨wp, s.W.length, wc, cell_at A.blk rfl, fun t g => t = 0 ∧ g = h, fun _ _ => 0, ⟨rfl, rfl⟩, ?_⟩
  rintro _ g ⟨rfl, hg⟩
  subst hg
  refine iteF (by rw [hW]; rfl) (storeP_blk A.blk (by show 1 < 4; omega) fun h3 d1 d2 d3 => ?_)
  have f : Fr (fun y => y = d) g h3 := Fr.of_eq d2 d3
  have np : ∀ y, ¬ inBlk none y := fun y ⟨a, e, _⟩ => by cases e
  have e0 : s.W.length = 0 := by rw [hW]; rfl
  have b3 : disk_Disk.atp h3 d ⟨lp, n, n, none, s.W.length, 0, x, y⟩ := by rw [e0]; exact d1
  refine hk h3 ⟨fun y => y = d ∨ inBlk lp y ∨ inBlk none y, fun _ => False⟩ ⟨lp, none, 0, x, y, b3, A.l.frame f (fun z q e => A.d1 (e ▸ q)), by rw [hW]; exact .nil rfl rfl rfl rfl, A.ok, fun y => Iff.rfl, fun _ => id, A.d1, np d, fun y _ => np y⟩ ⟨f.mono fun z _ q => (A.m z).2 (.inl q), fun z q => .inl ?_, fun z q => q.elim, fun z q => (A.dd z q).elim⟩
  rcases q with q | q | q
  · exact (A.m z).2 (.inl q)
  · exact (A.m z).2 (.inr (.inl q))
  · exact (np z q).elim
theorem newNo_ok {m : Int} (hm : ¬ (4 ≤ m ∧ m ≤ 4096)) (hk : ∀ g, Fr No h g → R (.tuple #[.pointer none, .int .i64 1]) g) : Cl 4 #[.int .i64 m] h R := by
  refine disk_New.walk (JoinP.of fun J hJ => ?_)
  have t : J true h := by subst hJ; exact iteT rfl (hk h (Fr.refl _ _))
  by_cases c : m < 4
  · exact iteT (decide_eq_true c) t
  · refine iteF (decide_eq_false c) ?_
    rw [decide_eq_true (show m > 4096 by omega)]
    exact t
end Dsk
namespace Sup
open Dsk
variable {h h0 h' : Heap} {R : Value → Heap → Prop} {d n : Nat} {X : Ft} {s : DS} {bs : List UInt8} {p : Option Addr}
def beV (l : List UInt8) : Nat := l.foldl (fun n b => n * 256 + b.toNat) 0
theorem beV_snoc (l : List UInt8) (x : UInt8) : beV (l ++ [x]) = beV l * 256 + x.toNat := by simp [beV]
theorem beV_lt : ∀ (k : Nat) (l : List UInt8), l.length = k → beV l < 256 ^ k
  | 0, l, h => by
    obtain rfl := List.eq_nil_of_length_eq_zero h
    decide
  | k + 1, l, h => by
    obtain ⟨m, x, rfl⟩ : ∃ m x, l = m ++ [x] := ⟨l.dropLast, l.getLast (by intro e; rw [e] at h; cases h), (List.dropLast_concat_getLast _).symm⟩
    have ih := beV_lt k m (by simpa using h)
    have := x.toNat_lt
    rw [beV_snoc, Nat.pow_succ]
    omega
theorem num8 (n c : Nat) (hn : n < 72057594037927936) (hc : c < 256) : IntKind.wrap .u64 ((BitVec.ofInt (IntKind.bits .u64) (IntKind.wrap .u64 ((n : Int) * 2 ^ min (Int.toNat 8) (IntKind.bits .u64))) ||| BitVec.ofInt (IntKind.bits .u64) (IntKind.wrap .u64 (c : Int))).toNat : Int) = ((n * 256 + c : Nat) : Int) := by
  rw [show min (Int.toNat 8) (IntKind.bits .u64) = 8 from rfl, show IntKind.bits .u64 = 64 from rfl, wrap_u64 (n := (n : Int) * 2 ^ 8) (by omega) (by omega), wrap_u64 (n := (c : Int)) (by omega) (by omega),
    show ((n : Int) * 2 ^ 8) = ((2 ^ 8 * n : Nat) : Int) by omega, BitVec.ofInt_natCast, BitVec.ofInt_natCast, BitVec.toNat_or, BitVec.toNat_ofNat, BitVec.toNat_ofNat, Nat.mod_eq_of_lt (by omega), Nat.mod_eq_of_lt (by omega), ← Nat.two_pow_add_eq_or_of_lt (show c < 2 ^ 8 by omega), wrap_u64 (by omega) (by omega)]
  omega
theorem get_ok {l c : Nat} (row : Row h p (bc bs)) (hl : l = bs.length) (h8 : bs.length ≤ 8) (hk : R (.int .u64 (beV bs : Int)) h) : Cl 210 #[.slice p l c] h R := by
  subst hl
  refine super_get.walk ⟨fun n t g => g = h ∧ ∃ i : Nat, t = (i : Int) ∧ i ≤ bs.length ∧ n = (beV (bs.take i) : Int), fun _ t _ => bs.length - t.toNat, ⟨rfl, 0, rfl, Nat.zero_le _, rfl⟩, ?_⟩
  rintro _ _ _ ⟨rfl, i, rfl, hi, rfl⟩
  by_cases c1 : i < bs.length
  · obtain ⟨a, rfl, hc⟩ := byteAt row c1
    have hb := beV_lt i (bs.take i) (by rw [List.length_take]; omega)
    have h7 : 256 ^ i ≤ 256 ^ 7 := Nat.pow_le_pow_right (by decide) (by omega)
    have h7' : (256 : Nat) ^ 7 = 72057594037927936 := by decide
    have hx := (bs[i]).toNat_lt
    have es : beV (bs.take (i + 1)) = beV (bs.take i) * 256 + (bs[i]).toNat := by rw [List.take_add_one, List.getElem?_eq_getElem c1]; exact beV_snoc _ _
    refine iteT (decide_eq_true (by omega)) ⟨⟨by omega, by omega⟩, onSome_some.2 ⟨_, by rw [Int.toNat_natCast]; exact hc, ?_⟩⟩
    rw [num8 _ _ (by omega) (by omega), ← es, wrap_id (by omega) (by omega)]
    exact ⟨⟨rfl, i + 1, rfl, c1, rfl⟩, by show bs.length - Int.toNat ((i : Int) + 1) < bs.length - Int.toNat (i : Int); omega⟩
  · obtain rfl : i = bs.length := by omega
    refine iteF (decide_eq_false (by omega)) ?_
    rw [List.take_length]
    exact hk
theorem rightNo_ok (hk : ∀ g, Fr No h g → R (.bool false) g) : Cl 227 #[(⟨0, 0, 0⟩ : super_Super.S).agg] h R :=
  super_Right.walk (super_Super.boxp fun _ g _ b0 f => ⟨_, cell_at b0 rfl, iteF rfl (hk g f)⟩)
theorem writeNo_ok (hk : ∀ g, Fr No h g → R (.tuple #[.slice none 0 0, .int .i64 3]) g) : Cl 170 #[(⟨0, 0, 0⟩ : super_Super.S).agg] h R :=
  super_Write.walk (super_Super.boxp fun _ _ _ b0 f1 => super_Super.ldp b0 (rightNo_ok fun h2 f2 => ⟨_, rfl, iteT rfl (hk h2 (f1.tt f2))⟩))
theorem words_ok {J : Option Addr → Heap → Prop} (row : Row h p (bc bs)) (hl : bs.length = 128)
    (hJ : ∀ g b, Fr No h g → h.size ≤ b → super_Super.atp g b ⟨beV ((bs.take 12).drop 4), ((bs.getD 12 0).toNat : Int), beV ((bs.take 17).drop 13)⟩ → J (some ⟨b, 0, none⟩) g) :
    ((0 : Int) ≤ 12 ∧ 12 ≤ ((128 : Nat) : Int)) ∧ ((0 : Int) ≤ 4 ∧ (4 : Int) ≤ 12) ∧ ((0 : Int) ≤ 12 ∧ 12 < ((128 : Nat) : Int)) ∧ onSome p fun a_2 => ∃ t16, hcell h (a_2.add (Int.toNat 12 * 1)) = some (.int .u8 t16) ∧
      ((0 : Int) ≤ 17 ∧ 17 ≤ ((128 : Nat) : Int)) ∧ ((0 : Int) ≤ 13 ∧ (13 : Int) ≤ 17) ∧
      (Cl 210 #[.slice (slBase p 128 (Int.toNat 4) 1) ((Int.toNat 12) - (Int.toNat 4)) (128 - (Int.toNat 4))] h fun v_2 h_9 => ∃ t13, v_2 = .int .u64 t13 ∧ Kp h h_9 [(some (a_2.add (Int.toNat 12 * 1)))] ∧
        (Cl 210 #[.slice (slBase p 128 (Int.toNat 13) 1) ((Int.toNat 17) - (Int.toNat 13)) (128 - (Int.toNat 13))] h_9 fun v_3 h_10 => ∃ t20, v_3 = .int .u64 t20 ∧ Kp h_9 h_10 [(some (a_2.add (Int.toNat 12 * 1)))] ∧
          NewP h_10 (.cells super_Super.S.z.arr 140) fun b_1 h_11 => Kp h_10 h_11 [(some (a_2.add (Int.toNat 12 * 1)))] ∧ super_Super.STp h_11 ⟨b_1, 0, none⟩ ⟨t13, (IntKind.wrap .i64 t16), (IntKind.wrap .i64 t20)⟩ fun h_12 => J (some ⟨b_1, 0, none⟩) h_12) ∧
        (NewP h_9 (.cells super_Super.S.z.arr 140) fun b_2 h_13 => Kp h_9 h_13 [(some (a_2.add (Int.toNat 12 * 1)))] ∧
          Cl 210 #[.slice (slBase p 128 (Int.toNat 13) 1) ((Int.toNat 17) - (Int.toNat 13)) (128 - (Int.toNat 13))] h_13 fun v_4 h_14 => ∃ t20_1, v_4 = .int .u64 t20_1 ∧ Kp h_13 h_14 [(some (a_2.add (Int.toNat 12 * 1)))] ∧
          super_Super.STp h_14 ⟨b_2, 0, none⟩ ⟨t13, (IntKind.wrap .i64 t16), (IntKind.wrap .i64 t20_1)⟩ fun h_15 => J (some ⟨b_2, 0, none⟩) h_15) ∧ True) ∧
      (NewP h (.cells super_Super.S.z.arr 140) fun b_3 h_16 => Kp h h_16 [(some (a_2.add (Int.toNat 12 * 1)))] ∧
        Cl 210 #[.slice (slBase p 128 (Int.toNat 4) 1) ((Int.toNat 12) - (Int.toNat 4)) (128 - (Int.toNat 4))] h_16 fun v_5 h_17 => ∃ t13_1, v_5 = .int .u64 t13_1 ∧ Kp h_16 h_17 [(some (a_2.add (Int.toNat 12 * 1)))] ∧
        Cl 210 #[.slice (slBase p 128 (Int.toNat 13) 1) ((Int.toNat 17) - (Int.toNat 13)) (128 - (Int.toNat 13))] h_17 fun v_6 h_18 => ∃ t20_2, v_6 = .int .u64 t20_2 ∧ Kp h_17 h_18 [(some (a_2.add (Int.toNat 12 * 1)))] ∧
        super_Super.STp h_18 ⟨b_3, 0, none⟩ ⟨t13_1, (IntKind.wrap .i64 t16), (IntKind.wrap .i64 t20_2)⟩ fun h_19 => J (some ⟨b_3, 0, none⟩) h_19) ∧ True := by
  have sub : ∀ {g : Heap} (l u : Nat), Row g p (bc bs) → l ≤ u → u ≤ 128 → Row g (slBase p 128 l 1) (bc ((bs.take u).drop l)) := fun l u r h1 h2 => by
    have := r.sub (cap := 128) (l := l) (u := u) (sz := 1) h1 h2
    rw [Nat.mul_one, Nat.mul_one] at this
    unfold bc at this ⊢
    rwa [List.map_drop, List.map_take]
  obtain ⟨a, rfl, hc⟩ := byteAt (i := 12) row (by omega)
  have g1 : ∀ {g : Heap} {R : Value → Heap → Prop}, Fr No h g → R (.int .u64 (beV ((bs.take 12).drop 4) : Int)) g → Cl 210 #[.slice (slBase (some a) 128 (Int.toNat 4) 1) ((Int.toNat 12) - (Int.toNat 4)) (128 - (Int.toNat 4))] g R := fun f hk =>
    get_ok (sub 4 12 (row.frame f (fun _ _ => id)) (by decide) (by decide)) (by rw [List.length_drop, List.length_take]; omega) (by rw [List.length_drop, List.length_take]; omega) hk
  have g2 : ∀ {g : Heap} {R : Value → Heap → Prop}, Fr No h g → R (.int .u64 (beV ((bs.take 17).drop 13) : Int)) g → Cl 210 #[.slice (slBase (some a) 128 (Int.toNat 13) 1) ((Int.toNat 17) - (Int.toNat 13)) (128 - (Int.toNat 13))] g R := fun f hk =>
    get_ok (sub 13 17 (row.frame f (fun _ _ => id)) (by decide) (by decide)) (by rw [List.length_drop, List.length_take]; omega) (by rw [List.length_drop, List.length_take]; omega) hk
  have eb : bs.getD 12 0 = bs[12] := by rw [List.getD_eq_getElem?_getD, List.getElem?_eq_getElem (by omega)]; rfl
  have hx := (bs[12]).toNat_lt
  have hv := beV_lt 4 ((bs.take 17).drop 13) (by rw [List.length_drop, List.length_take]; omega)
  have h4 : (256 : Nat) ^ 4 = 4294967296 := by decide
  rw [eb] at hJ
  refine ⟨by omega, by omega, by omega, onSome_some.2 ⟨_, hc, by omega, by omega, ?_⟩⟩
  rw [wrap_id (n := ((bs[12]).toNat : Int)) (by omega) (by omega)]
  have fp : ∀ (g : Heap), Fr No g (g.push (.cells super_Super.S.z.arr 140)) := fun g => Fr.push _ _
  have rf : Fr No h h := Fr.refl _ _
  have fin : ∀ g b y, Fr No h g → h.size ≤ b → super_Super.atp g b y → super_Super.STp g ⟨b, 0, none⟩ ⟨(beV ((bs.take 12).drop 4) : Int), ((bs[12]).toNat : Int), IntKind.wrap .i64 (beV ((bs.take 17).drop 13) : Int)⟩ fun h_12 => J (some ⟨b, 0, none⟩) h_12 := fun g b y f l d => by
    rw [wrap_id (by omega) (by omega)]
    exact super_Super.setp d fun g' d' f' _ => hJ g' b (f.fresh f' fun z e => by have : z = b := e; omega) l d'
  refine ⟨g1 rf ⟨_, rfl, rf.kp, g2 rf ⟨_, rfl, rf.kp, newP_of ⟨(fp h).kp, fin _ _ _ (fp h) (Nat.le_refl _) push_new⟩⟩, newP_of ⟨(fp h).kp, g2 (fp h) ⟨_, rfl, (Fr.refl _ _).kp, fin _ _ _ (fp h) (Nat.le_refl _) push_new⟩⟩, trivial⟩, newP_of ⟨(fp h).kp, g1 (fp h) ⟨_, rfl, (Fr.refl _ _).kp, g2 (fp h) ⟨_, rfl, (Fr.refl _ _).kp, fin _ _ _ (fp h) (Nat.le_refl _) push_new⟩⟩⟩, trivial⟩
theorem bytesEq_ok {p q : Option Addr} {n m c d : Nat} {a b : List UInt8} (ra : Row h p (bc a)) (rb : Row h q (bc b)) (hn : n = a.length) (hm : m = b.length) (hk : R (.bool (decide (a = b))) h) : Cl 168 #[.slice p n c, .slice q m d] h R := by
  refine bytes_Equal.walk ⟨_, Fld.conv ra hn, _, Fld.conv rb hm, ?_⟩
  rw [str_list, str_list]
  have : (a == b) = decide (a = b) := by grind
  rw [this]; exact hk
abbrev su1 : SU := ⟨1, 0, 0⟩
def rdS (b : Bool) : super_Super.S := if b = true then su1.S else super_Super.S.z
def rdE (b : Bool) : Int := if b = true then 0 else 3
def secB (b : Bool) : List UInt8 := if b = true then supB su1 else zeroS
theorem sec_len (b : Bool) : (secB b).length = 128 := by unfold secB; split; exact supB_len _; rfl
theorem Read_ok (b : Bool) (row : Row h p (bc (secB b))) (hk : ∀ g, Fr No h g → R (.tuple #[(rdS b).agg, .int .i64 (rdE b)]) g) : Cl 153 #[.slice p 128 128] h R := by
  refine super_Read.walk (super_Super.boxp (x := super_Super.S.z) fun bx h1 e1 hb f1 => iteF rfl (JoinP.of fun J hJ => words_ok (row.frame f1 (fun _ _ => id)) (sec_len b) fun g b1 fg l1 d1 => ?_))
  have lb := (Array.getElem?_eq_some_iff.1 hb).1
  have hbg := fg.get hb id
  have F := f1.tt fg
  have ug := F.1
  have rg := row.frame F (fun _ _ => id)
  subst hJ
  cases b with
  | false =>
    have e : (⟨beV (((secB false).take 12).drop 4), (((secB false).getD 12 0).toNat : Int), beV (((secB false).take 17).drop 13)⟩ : super_Super.S) = ⟨0, 0, 0⟩ := by kernel_rfl
    rw [e] at d1
    refine onSome_some.2 (super_Super.ldp d1 (writeNo_ok fun g2 f2 => ⟨_, _, _, _, rfl, JoinP.of fun J1 hJ1 => iteT rfl ?_⟩))
    subst hJ1
    exact iteT rfl (super_Super.setp (x := super_Super.S.z) (f2.get hbg id) fun g3 d3 f3 _ => super_Super.ldp d3 (hk g3 ((F.tt f2).fresh f3 fun z q => by have : z = bx := q; omega)))
  | true =>
    have e : (⟨beV (((secB true).take 12).drop 4), (((secB true).getD 12 0).toNat : Int), beV (((secB true).take 17).drop 13)⟩ : super_Super.S) = su1.S := by kernel_rfl
    rw [e] at d1
    refine onSome_some.2 (super_Super.ldp d1 (write_ok (x := su1) ⟨by decide, by decide, by decide, by decide⟩ fun p2 c2 g2 o2 f2 g2' => ⟨_, _, _, _, rfl, JoinP.of fun J1 hJ1 => iteF rfl ?_⟩))
    refine bytesEq_ok (a := supB su1) (b := supB su1) o2.row' (rg.frame f2 (fun _ _ => id)) (supB_len _).symm (supB_len _).symm ⟨_, rfl, ?_⟩
    rw [decide_eq_true rfl]
    subst hJ1
    exact iteF rfl (onSome_some.2 (super_Super.ldp (f2.get d1 id) (super_Super.setp (x := su1.S) (f2.get hbg id) fun g3 d3 f3 _ => super_Super.ldp d3 (hk g3 ((F.tt f2).fresh f3 fun z q => by have : z = bx := q; omega)))))
theorem Newest_ok (b : Bool) (H : Dk h d X n s) (n2 : 2 ≤ n) (hw : s.W.length ≤ 1000000) (h0 : s.get 0 = secB false) (h1 : s.get 1 = secB b) (hk : ∀ g, Fr No h g → R (.tuple #[(rdS b).agg, .int .i64 (if b = true then 0 else 4)]) g) :
    Cl 108 #[.pointer (some ⟨d, 0, none⟩)] h R := by
  refine super_Newest.walk (super_Super.boxp (x := super_Super.S.z) fun b0 g0 e0 d0 f0 => super_Super.boxp (x := super_Super.S.z) fun b1 g1 e1 d1 f1 => ?_)
  have F1 := f0.tt f1
  have u0 := f0.1
  have u1 := f1.1
  have l0 := (Array.getElem?_eq_some_iff.1 d0).1
  have l1 := (Array.getElem?_eq_some_iff.1 d1).1
  refine ⟨fun t g => ∃ k : Nat, t = (k : Int) ∧ k ≤ 2 ∧ Fr No h g ∧ super_Super.atp g b0 super_Super.S.z ∧ super_Super.atp g b1 (if k = 2 then rdS b else super_Super.S.z), fun t _ => 2 - t.toNat, ⟨0, rfl, by decide, F1, f1.get d0 id, d1⟩, ?_⟩
  rintro _ g ⟨k, rfl, hk2, fg, dg0, dg1⟩
  by_cases c : k < 2
  · refine iteT (decide_eq_true (by omega)) (JoinP.of fun J hJ => Dsk.read_ok (H.on fg) (i := k) (by omega) hw fun g2 p o gp f2 => ⟨_, _, _, _, rfl, iteF rfl ?_⟩)
    rw [if_neg (by omega)] at dg1
    have next : ∀ g', Fr No h g' → super_Super.atp g' b0 super_Super.S.z → super_Super.atp g' b1 (if k + 1 = 2 then rdS b else super_Super.S.z) → J g' := fun g' f' a0 a1 => by
      subst hJ
      refine ⟨⟨k + 1, by rw [wrap_id (by omega) (by omega)]; rfl, by omega, f', a0, a1⟩, ?_⟩
      show 2 - Int.toNat (IntKind.wrap .i64 ((k : Int) + 1)) < 2 - Int.toNat (k : Int)
      rw [wrap_id (by omega) (by omega)]
      omega
    obtain ⟨q, eq, hq⟩ : ∃ q : Bool, s.get k = secB q ∧ (if k + 1 = 2 then rdS b else super_Super.S.z) = (if k = 1 then rdS q else super_Super.S.z) ∧ (q = true → k = 1) := by
      rcases k with _ | _ | k
      · exact ⟨false, h0, rfl, fun e => by cases e⟩
      · exact ⟨b, h1, rfl, fun _ => rfl⟩
      · omega
    rw [eq] at o
    refine Read_ok q o.row' fun g3 f3 => super_Super.ex (rdS q) ⟨_, rfl, super_Super.newp (x := rdS q) fun b2 g4 e4 d4 f4 => ?_⟩
    have F4 := (f2.tt f3).tt f4
    have a0 := F4.get dg0 id
    have a1 := F4.get dg1 id
    have l4 := (Array.getElem?_eq_some_iff.1 a1).1
    have u4 := F4.1
    have lg1 := (Array.getElem?_eq_some_iff.1 dg1).1
    have u3 := (f2.tt f3).1
    refine JoinP.of fun J1 hJ1 => ?_
    cases q with
    | false =>
      refine iteF rfl ?_
      subst hJ1
      refine JoinP.of fun J2 hJ2 => iteF rfl ?_
      subst hJ2
      refine next g4 (fg.tt F4) a0 ?_
      rw [hq.1]
      rw [show (if k = 1 then rdS false else super_Super.S.z) = super_Super.S.z by split <;> rfl]
      exact a1
    | true =>
      obtain rfl := hq.2 rfl
      refine iteT rfl (super_Super.ldp d4 (slot_ok (x := su1) (by decide) fun g5 f5 => ⟨_, rfl, iteT rfl ⟨_, cell_at (f5.get d4 id) rfl, _, cell_at (f5.get a1 id) rfl, ?_⟩⟩))
      subst hJ1
      refine JoinP.of fun J2 hJ2 => iteT rfl (super_Super.ldp (f5.get d4 id) (super_Super.setp (x := rdS true) (f5.get a1 id) fun g6 d6 f6 _ => ?_))
      subst hJ2
      have f6' : Fr (fun y => y = b1) g5 g6 := f6
      refine next g6 (((fg.tt F4).tt f5).fresh f6' fun y e => by omega) (f6'.get (f5.get a0 id) (by omega)) ?_
      rw [hq.1]
      exact d6
  · obtain rfl : k = 2 := by omega
    rw [if_pos rfl] at dg1
    refine iteF rfl (super_Super.ldp dg1 ?_)
    have dd : b0 ≠ b1 := by omega
    cases b with
    | false => exact ⟨true, EqV.of (by kernel_rfl), iteT rfl (super_Super.setp (x := super_Super.S.z) dg0 fun g3 d3 f3 _ => super_Super.ldp d3 (hk g3 (fg.fresh f3 fun y e => by have : y = b0 := e; omega)))⟩
    | true => exact ⟨false, EqV.of (by kernel_rfl), iteF rfl (super_Super.ldp dg1 (super_Super.setp (x := rdS true) dg0 fun g3 d3 f3 _ => super_Super.ldp d3 (hk g3 (fg.fresh f3 fun y e => by have : y = b0 := e; omega))))⟩
end Sup
end Go.Proofs.YtmoafceggjgecaaGreatDoor
namespace Go.Proofs.YtmoafceggjgecaaGreatDoor
open Go.Den
open IntKind (wrap)
open Int (toNat)
abbrev Eid.Ev.s (x : Eid.Ev) : eid_Eid.S := ⟨x.ipn, x.node, x.svc, x.host, x.dem⟩
namespace Flu
open Dsk Jnl Sup
open Stt hiding Good
variable {h h0 h' : Heap} {R : Value → Heap → Prop} {l j d n s : Nat} {X XJ XS XD : Ft} {ds : DS} {x : JN} {I : Ids} {σ σ' : SS} {e : Eid.Ev} {A : List Ses.Ses}
structure LgA (h : Heap) (l j d s : Nat) (XJ XS : Ft) (n : Nat) (x : JN) (ds : DS) (I : Ids) (σ : SS) : Prop where
  blk : h[l]? = some (.cells #[.pointer (some ⟨j, 0, none⟩), pt s, .int .i64 (room n : Int)] 96 (0, 0))
  jn : Jn h j d XJ n x ds
  st : Pt h s XS I σ
  js : ∀ y, XJ.M y → ¬ (XS.M y ∨ XS.D y)
  lj : ¬ XJ.M l
  ls : ¬ (XS.M l ∨ XS.D l)
def ftL (l : Nat) (XJ XS : Ft) : Ft := ⟨fun y => y = l ∨ XJ.M y ∨ XS.M y, XS.D⟩
def Lg (h : Heap) (l : Nat) (X : Ft) (n : Nat) (x : JN) (ds : DS) (σ : SS) : Prop := ∃ j d s XJ XS I, LgA h l j d s XJ XS n x ds I σ ∧ X = ftL l XJ XS
theorem LgA.ll (A : LgA h l j d s XJ XS n x ds I σ) : l < h.size := (Array.getElem?_eq_some_iff.1 A.blk).1
theorem Lg.lt (H : Lg h l X n x ds σ) (y : Nat) (hy : X.M y ∨ X.D y) : y < h.size := by
  obtain ⟨j, d, s, XJ, XS, I, A, rfl⟩ := H
  rcases hy with (rfl | e | e) | e
  · exact A.ll
  · exact A.jn.lt y e
  · exact A.st.lt y (.inl e)
  · exact A.st.lt y (.inr e)
theorem made_ok (A : LgA h l j d s XJ XS n x ds I σ) (hk : R (.bool true) h) : Cl 28 #[.pointer (some ⟨l, 0, none⟩)] h R :=
  flush_Log_made.walk ⟨_, cell_at A.blk rfl, hk⟩
theorem State_ok (A : LgA h l j d s XJ XS n x ds I σ) (hk : R (pt s) h) : Cl 13 #[.pointer (some ⟨l, 0, none⟩)] h R :=
  flush_Log_State.walk ⟨_, cell_at A.blk rfl, hk⟩
theorem Done_ok (H : Lg h l X n x ds σ) (hk : R (.int .i64 x.done) h) : Cl 52 #[.pointer (some ⟨l, 0, none⟩)] h R := by
  obtain ⟨j, d, s, XJ, XS, I, A, rfl⟩ := H
  refine flush_Log_Done.walk (made_ok A ⟨_, rfl, ?_⟩)
  rw [if_neg (by decide)]
  exact ⟨_, cell_at A.blk rfl, Jnl.Done_ok A.jn ⟨_, rfl, hk⟩⟩
theorem LgA.frame {Q : Nat → Prop} (A : LgA h l j d s XJ XS n x ds I σ) (f : Fr Q h h') (hq : ∀ y, (ftL l XJ XS).M y ∨ (ftL l XJ XS).D y → ¬ Q y) : LgA h' l j d s XJ XS n x ds I σ :=
  ⟨f.get A.blk (hq l (.inl (.inl rfl))), A.jn.frame f (fun y e => hq y (.inl (.inr (.inl e)))), A.st.frame f (fun y e => hq y (e.imp (fun e => .inr (.inr e)) id)), A.js, A.lj, A.ls⟩
theorem LgA.lg (A : LgA h l j d s XJ XS n x ds I σ) : Lg h l (ftL l XJ XS) n x ds σ := ⟨j, d, s, XJ, XS, I, A, rfl⟩
def LgD (h : Heap) (l d : Nat) (X : Ft) (n : Nat) (x : JN) (ds : DS) (σ : SS) : Prop := ∃ j s XJ XS I, LgA h l j d s XJ XS n x ds I σ ∧ X = ftL l XJ XS
theorem LgA.lgd (A : LgA h l j d s XJ XS n x ds I σ) : LgD h l d (ftL l XJ XS) n x ds σ := ⟨j, s, XJ, XS, I, A, rfl⟩
theorem LgD.lg (H : LgD h l d X n x ds σ) : Lg h l X n x ds σ := by obtain ⟨j, s, XJ, XS, I, A, rfl⟩ := H; exact A.lg
theorem LgD.frame {Q : Nat → Prop} (H : LgD h l d X n x ds σ) (f : Fr Q h h') (hq : ∀ y, X.M y ∨ X.D y → ¬ Q y) : LgD h' l d X n x ds σ := by obtain ⟨j, s, XJ, XS, I, A, rfl⟩ := H; exact (A.frame f hq).lgd
theorem Format_ok (he : mayE e) (H : Dk h d XD n ds) (h4 : 4 ≤ n) (h5 : n ≤ 4096) (hw : ds.W.length ≤ 1000)
    (hk : ∀ g l X, LgD g l d X n jn0 (ds.put 1 (supB ⟨1, 0, 0⟩)).sync (newS e) → Fr XD.M h g → (∀ y, X.M y ∨ X.D y → XD.M y ∨ h.size ≤ y) → R (.tuple #[pt l, .int .i64 0]) g) :
    Cl 45 #[.pointer (some ⟨d, 0, none⟩), Eid.ev5 e] h R := by
  refine flush_Format.walk (self := e.s) (eid_Eid.boxp fun b h1 eb hb f1 => eid_Eid.ldp hb (Stt.new_ok e (fun _ h2 s XS I H2 u2 => ⟨_, _, rfl, iteF rfl (Jnl.Format_ok (H.on (f1.tt u2.fr)) h4 h5 hw fun h3 j XJ J3 st3 => ⟨_, _, rfl, iteF rfl ?_⟩)⟩) (fun q => absurd he q)))
  have u1 := f1.1
  have z2 := u2.fr.1
  have z3 := st3.fr.1
  have sl : ∀ y, XS.M y ∨ XS.D y → h.size ≤ y ∧ y < h2.size := fun y hy => ⟨by have := u2.ge y hy; omega, H2.lt y hy⟩
  have xl : ∀ y, XD.M y → y < h.size := fun y hy => H.lt y hy
  have S3 := H2.frame st3.fr (fun y hy e => by have := sl y hy; have := xl y e; omega)
  obtain ⟨XD3, q, cq, A3⟩ := id J3
  refine half_ok A3.dk h4 h5 fun h4' f4 => ⟨_, rfl, newP_of ?_⟩
  have z4 := f4.1
  have f5 : Fr No h4' (h4'.push (.cells #[pt j, pt s, .int .i64 (room n : Int)] 96)) := Fr.push _ _
  have jl : ∀ y, XJ.M y → (XD.M y ∨ h2.size ≤ y) ∧ y < h3.size := fun y hy => ⟨st3.newM y hy, J3.lt y hy⟩
  refine hk _ h4'.size _ (LgA.lgd ⟨push_new, (J3.on f4).on f5, (S3.on f4).on f5, fun y hy q => ?_, fun q => ?_, fun q => ?_⟩) ((f1.tt u2.fr).no (st3.fr.on (f4.tt f5))) ?_
  · have := sl y q
    rcases (jl y hy).1 with a | a
    · have := xl y a; omega
    · omega
  · have := (jl _ q).2; omega
  · have := sl _ q; omega
  · rintro y ((a | a | a) | a)
    · exact .inr (by omega)
    · exact (jl y a).1.imp id (fun a => by omega)
    · exact .inr (sl y (.inl a)).1
    · exact .inr (sl y (.inr a)).1
end Flu
section
namespace Area
variable {h h0 h':Heap} {R:TyP} {d n:Nat} {X:Ft} {s:Dsk.DS}
theorem Get0_ok {x : AR} (H : Dsk.Dk h d X n s) (ok : x.ok n) (n5 : n ≤ 4096) (hk : ∀ g, Fr No h g → R (.tuple #[.slice none 0 0, .int .i64 0]) g) : Cl 110 #[.pointer (some ⟨d, 0, none⟩), x.S.agg, .int .i64 0, .int .i64 0] h R := by
  refine area_Get.walk (area_Area.boxp (x := x.S) fun b h1 e1 b1 f1 => ⟨fun a m p l c g => m = 0 ∧ p = none ∧ l = 0 ∧ c = 0 ∧ Fr No h g, fun _ _ _ _ _ _ => 0, area_Area.ldp b1 (ask_ok (a := 0) (m := 0) (H.on f1) ok n5 (Nat.zero_le _) fun h2 f2 => ⟨_, rfl, iteF rfl ⟨rfl, rfl, rfl, rfl, f1.tt f2⟩⟩), ?_⟩)
  rintro _ _ _ _ _ g ⟨rfl, rfl, rfl, rfl, f⟩
  exact iteF rfl (hk g f)
end Area
namespace Jnl
open Dsk Area Sup
variable {h h0 h' : Heap} {R : Value → Heap → Prop} {d n j : Nat} {X XD : Ft} {s : DS}
theorem fr_set {h : Heap} {N : Nat} {o : Obj} : Fr (fun y => y = N) h (h.setIfInBounds N o) := ⟨by simp, fun x _ hn => by rw [Array.getElem?_setIfInBounds, if_neg (fun e => hn e.symm)]⟩
theorem Open1_ok (H : Dk h d XD n s) (h4 : 4 ≤ n) (h5 : n ≤ 4096) (hw : s.W.length ≤ 1000000) (h0 : s.get 0 = secB false) (h1 : s.get 1 = secB true)
    (hk : ∀ g j X, Jn g j d X n jn0 s → Fr No h g → (∀ y, X.M y → XD.M y ∨ h.size ≤ y) → R (.tuple #[pt j, .slice none 0 0, .int .i64 0]) g) : Cl 69 #[.pointer (some ⟨d, 0, none⟩)] h R := by
  refine journal_Open.walk (newP_of (newP_of (newP_of ?_)))
  have p0 : Fr No h (h.push (.cells #[.pointer none] 94)) := Fr.push _ _
  have c0 : (h.push (.cells #[.pointer none] 94))[h.size]? = some (.cells #[.pointer none] 94 (0, 0)) := push_new
  have z0 : (h.push (.cells #[.pointer none] 94)).size = h.size + 1 := Array.size_push _
  generalize h.push (.cells #[.pointer none] 94) = g0 at p0 c0 z0 ⊢
  have p1 : Fr No g0 (g0.push (.cells #[.slice none 0 0] 44)) := Fr.push _ _
  have c1 : (g0.push (.cells #[.slice none 0 0] 44))[g0.size]? = some (.cells #[.slice none 0 0] 44 (0, 0)) := push_new
  have z1 : (g0.push (.cells #[.slice none 0 0] 44)).size = g0.size + 1 := Array.size_push _
  generalize g0.push (.cells #[.slice none 0 0] 44) = g1 at p1 c1 z1 ⊢
  have p2 : Fr No g1 (g1.push (.cells #[.int .i64 0] 25)) := Fr.push _ _
  have c2 : (g1.push (.cells #[.int .i64 0] 25))[g1.size]? = some (.cells #[.int .i64 0] 25 (0, 0)) := push_new
  have z2 : (g1.push (.cells #[.int .i64 0] 25)).size = g1.size + 1 := Array.size_push _
  generalize g1.push (.cells #[.int .i64 0] 25) = g2 at p2 c2 z2 ⊢
  have P2 := (p0.tt p1).tt p2
  refine Newest_ok true (H.on P2) (by omega) hw h0 h1 fun g3 f3 => super_Super.ex su1.S ⟨_, rfl, super_Super.newp (x := su1.S) fun b3 g4 e4 d4 f4 => iteF rfl (super_Super.ldp d4 ?_)⟩
  have F4 := (P2.tt f3).tt f4
  have F4' := f3.tt f4
  refine made_ok (H.on F4) h4 h5 fun g5 j X A f5 lj => ⟨_, rfl, _, cell_at (f5.get d4 id) rfl, onSome_some.2 ⟨by decide, ?_⟩⟩
  have hh := hv_ok h4 0
  refine area_ld (k := 0) A (by decide) ⟨_, cell_at (f5.get d4 id) rfl, Get0_ok A.dk hh.1 h5 fun g6 f6 => ⟨_, _, _, _, rfl, cell_at (f6.get (f5.get d4 id) id) rfl, iteF rfl (newP_of ?_)⟩⟩
  have jl := (Array.getElem?_eq_some_iff.1 A.blk).1
  have u3 := f3.1
  have u4 := f4.1
  have u5 := f5.1
  have u6 := f6.1
  have F6 : Fr No h g6 := (F4.tt f5).tt f6
  have F26 : Fr No g2 g6 := ((f3.tt f4).tt f5).tt f6
  have J6 : Jn g6 j d X n jn0 s := Jn.on ⟨XD, none, 0, A⟩ f6
  have xl : ∀ y, X.M y → XD.M y ∨ h.size ≤ y := fun y hy => by
    rcases (A.m y).1 hy with rfl | ⟨a, e, _⟩ | q
    · have := F4.1; exact .inr (by omega)
    · cases e
    · exact .inl q
  have xs : ∀ y, X.M y → y < g6.size := fun y hy => J6.lt y hy
  have n0 : ∀ y, h.size ≤ y → y < g2.size → ¬ X.M y := fun y a b q => by
    rcases (A.m y).1 q with rfl | ⟨a, e, _⟩ | q
    · have := F4'.1; omega
    · cases e
    · have := H.lt y q; omega
  have k0 := F26.get ((p1.tt p2).get c0 id) id
  have k1 := F26.get (p2.get c1 id) id
  have k2 := F26.get c2 id
  have p7 : Fr No g6 (g6.push (.cells #[.slice none 0 0] 44)) := Fr.push _ _
  have c7 : (g6.push (.cells #[.slice none 0 0] 44))[g6.size]? = some (.cells #[.slice none 0 0] 44 (0, 0)) := push_new
  have z7 : (g6.push (.cells #[.slice none 0 0] 44)).size = g6.size + 1 := Array.size_push _
  generalize g6.push (.cells #[.slice none 0 0] 44) = g7 at p7 c7 z7 ⊢
  refine journal_records.walk (newP_of ⟨_, rfl, ?_⟩)
  have p8 : Fr No g7 (g7.push (.cells #[.slice none 0 0] 48)) := Fr.push _ _
  have c8 : (g7.push (.cells #[.slice none 0 0] 48))[g7.size]? = some (.cells #[.slice none 0 0] 48 (0, 0)) := push_new
  have z8 : (g7.push (.cells #[.slice none 0 0] 48)).size = g7.size + 1 := Array.size_push _
  generalize g7.push (.cells #[.slice none 0 0] 48) = g8 at p8 c8 z8 ⊢
  refine ⟨156, #[.pointer (some ⟨g7.size, 0, none⟩)], rfl, by kernel_rfl, fun rec hrec hround => ?_⟩
  have p9 : Fr No g8 (openH g8 (rec .ready none)) := (Fr.push _ _).tt (Fr.push _ _)
  have b8 : (openH g8 (rec .ready none))[g8.size]? = some (.deferred (some [])) := by unfold openH; rw [Array.getElem?_push, if_neg (by simp), push_new]
  have b9 : (openH g8 (rec .ready none))[g8.size + 1]? = some (.loop (rec .ready none)) := by unfold openH; rw [show g8.size + 1 = (g8.push (.deferred (some []))).size by simp, push_new]
  generalize openH g8 (rec .ready none) = g9 at p9 b8 b9 ⊢
  show Cl 156 #[.func (.yield (g8.size + 1)) #[] #[], .pointer (some ⟨g7.size, 0, none⟩)] g9 _
  refine journal_records_1.y.walk ⟨fun g => g = g9, fun _ => 0, rfl, ?_⟩
  rintro g9 hg9
  subst hg9
  refine ⟨_, _, _, cell_at (p9.get c8 id) rfl, iteF rfl ⟨.ready, none, (by intro e; cases e), b9, ?_⟩⟩
  have fs : Fr (fun y => y = g8.size + 1) g9 (setLoop g9 (g8.size + 1) (rec .exhausted none)) := fr_set
  generalize setLoop g9 (g8.size + 1) (rec .exhausted none) = ga at fs ⊢
  have G7a : Fr (fun y => y = g8.size + 1) g7 ga := (p8.tt p9).no fs
  have u9 := p9.1
  have G6a : Fr (fun y => y = g8.size + 1) g6 ga := p7.no G7a
  have ka := G7a.get c7 (by omega)
  have k0a := G6a.get k0 (by omega)
  have k1a := G6a.get k1 (by omega)
  have k2a := G6a.get k2 (by omega)
  have b8a := fs.get b8 (by omega)
  refine ⟨_, _, _, cell_at ka rfl, storeP_blk k0a (by show 0 < 1; omega) fun gb ib zb qb => ?_⟩
  have fb : Fr (fun y => y = h.size) ga gb := Fr.of_eq zb qb
  refine ⟨cell_at (fb.get ka (by omega)) rfl, storeP_blk (fb.get k1a (by omega)) (by show 0 < 1; omega) fun gc ic zc qc => ?_⟩
  have fc : Fr (fun y => y = g0.size) gb gc := Fr.of_eq zc qc
  refine storeP_blk (fc.get (fb.get k2a (by omega)) (by omega)) (by show 0 < 1; omega) fun gd id' zd qd => ?_
  have fd : Fr (fun y => y = g1.size) gc gd := Fr.of_eq zd qd
  have fe : Fr (fun y => y = g8.size) gd (gd.setIfInBounds g8.size (.deferred none)) := fr_set
  refine ⟨fd.get (fc.get (fb.get b8a (by omega)) (by omega)) (by omega), ?_⟩
  generalize gd.setIfInBounds g8.size (.deferred none) = ge at fe ⊢
  refine ⟨_, cell_at (fe.get (fd.get (fc.get ib (by omega)) (by omega)) (by omega)) rfl, _, _, _, cell_at (fe.get (fd.get ic (by omega)) (by omega)) rfl, _, cell_at (fe.get id' (by omega)) rfl, ?_⟩
  have FQ : Fr (fun y => y = h.size ∨ y = g0.size ∨ y = g1.size ∨ y = g8.size ∨ y = g8.size + 1) g6 ge := by
    refine (((G6a.trans fb (S'' := fun y => y = h.size ∨ y = g0.size ∨ y = g1.size ∨ y = g8.size ∨ y = g8.size + 1) ?_ ?_).trans fc (fun _ _ => id) ?_).trans fd (fun _ _ => id) ?_).trans fe (fun _ _ => id) ?_
    all_goals (intro y _ e; omega)
  exact hk ge j X (J6.frame FQ fun y hy q => by
    have a := xs y hy
    rcases q with q | q | q | q | q
    · exact n0 y (by omega) (by omega) hy
    · exact n0 y (by omega) (by omega) hy
    · exact n0 y (by omega) (by omega) hy
    · omega
    · omega) (F6.fresh FQ fun y q => by omega) xl
end Jnl
end
section
namespace Jnl
open Dsk Area Sup
variable {h h0 h':Heap} {R:TyP} {d n j:Nat} {X XD:Ft} {s:DS}
theorem Open0_ok (H : Dk h d XD n s) (h4 : 4 ≤ n) (hw : s.W.length ≤ 1000000) (h0 : s.get 0 = secB false) (h1 : s.get 1 = secB false)
    (hk : ∀ g, Fr No h g → R (.tuple #[.pointer none, .slice none 0 0, .int .i64 4]) g) : Cl 69 #[.pointer (some ⟨d, 0, none⟩)] h R := by
  refine journal_Open.walk (newP_of (newP_of (newP_of ?_)))
  have p0 : Fr No h (h.push (.cells #[.pointer none] 94)) := Fr.push _ _
  have c0 : (h.push (.cells #[.pointer none] 94))[h.size]? = some (.cells #[.pointer none] 94 (0, 0)) := push_new
  have z0 : (h.push (.cells #[.pointer none] 94)).size = h.size + 1 := Array.size_push _
  generalize h.push (.cells #[.pointer none] 94) = g0 at p0 c0 z0 ⊢
  have p1 : Fr No g0 (g0.push (.cells #[.slice none 0 0] 44)) := Fr.push _ _
  have c1 : (g0.push (.cells #[.slice none 0 0] 44))[g0.size]? = some (.cells #[.slice none 0 0] 44 (0, 0)) := push_new
  have z1 : (g0.push (.cells #[.slice none 0 0] 44)).size = g0.size + 1 := Array.size_push _
  generalize g0.push (.cells #[.slice none 0 0] 44) = g1 at p1 c1 z1 ⊢
  have p2 : Fr No g1 (g1.push (.cells #[.int .i64 0] 25)) := Fr.push _ _
  have c2 : (g1.push (.cells #[.int .i64 0] 25))[g1.size]? = some (.cells #[.int .i64 0] 25 (0, 0)) := push_new
  have z2 : (g1.push (.cells #[.int .i64 0] 25)).size = g1.size + 1 := Array.size_push _
  generalize g1.push (.cells #[.int .i64 0] 25) = g2 at p2 c2 z2 ⊢
  have P2 := (p0.tt p1).tt p2
  refine Newest_ok false (H.on P2) (by omega) hw h0 h1 fun g3 f3 => super_Super.ex super_Super.S.z ⟨_, rfl, super_Super.newp (x := super_Super.S.z) fun b3 g4 e4 d4 f4 => iteT rfl ?_⟩
  have f24 := f3.tt f4
  have k0 := f24.get ((p1.tt p2).get c0 id) id
  have k1 := f24.get (p2.get c1 id) id
  have k2 := f24.get c2 id
  refine storeP_blk k0 (by show 0 < 1; omega) fun gb ib zb qb => ?_
  have fb : Fr (fun y => y = h.size) g4 gb := Fr.of_eq zb qb
  refine storeP_blk (fb.get k1 (by omega)) (by show 0 < 1; omega) fun gc ic zc qc => ?_
  have fc : Fr (fun y => y = g0.size) gb gc := Fr.of_eq zc qc
  refine storeP_blk (fc.get (fb.get k2 (by omega)) (by omega)) (by show 0 < 1; omega) fun gd id' zd qd => ?_
  have fd : Fr (fun y => y = g1.size) gc gd := Fr.of_eq zd qd
  refine ⟨_, cell_at (fd.get (fc.get ib (by omega)) (by omega)) rfl, _, _, _, cell_at (fd.get ic (by omega)) rfl, _, cell_at id' rfl, hk gd ?_⟩
  exact ((((P2.tt f24).fresh fb fun y e => by omega).fresh fc fun y e => by omega).fresh fd fun y e => by omega)
end Jnl
namespace Flu
open Dsk Jnl Sup
open Stt hiding Good
variable {h h0 h' : Heap} {R : Value → Heap → Prop} {l j d n s : Nat} {X XJ XS XD : Ft} {ds : DS} {x : JN} {I : Ids} {σ : SS} {e : Eid.Ev}
theorem said_ok (hk : R (.tuple #[pt s, .int .i64 0]) h) : Cl 70 #[.slice none 0 0, .pointer (some ⟨s, 0, none⟩)] h R := by
  refine flush_said.walk (slices_IndexFunc_s_s_byte_s_byte.other.walk ⟨fun t g => t = 0 ∧ g = h, fun _ _ => 0, ⟨rfl, rfl⟩, ?_⟩)
  rintro _ g ⟨rfl, hg⟩
  subst hg
  refine iteF rfl ⟨_, rfl, JoinP.of fun J hJ => iteT rfl ?_⟩
  subst hJ
  refine JoinP.of fun J1 hJ1 => iteF rfl ?_
  subst hJ1
  refine ⟨⟨Int.le_refl 0, Int.le_refl 0⟩, flush_events.walk ⟨fun p l c t g' => p = none ∧ l = 0 ∧ c = 0 ∧ t = 0 ∧ g' = g, fun _ _ _ _ _ => 0, ⟨rfl, rfl, rfl, rfl, rfl⟩, ?_⟩⟩
  rintro _ _ _ _ g' ⟨rfl, rfl, rfl, rfl, hg⟩
  subst hg
  refine iteF rfl ⟨_, _, _, _, rfl, iteF rfl (arrive_Replay.walk ⟨fun t g => t = 0 ∧ g = g', fun _ _ => 0, ⟨rfl, rfl⟩, ?_⟩)⟩
  rintro _ g2 ⟨rfl, hg⟩
  subst hg
  exact iteF rfl ⟨_, _, rfl, iteF rfl hk⟩
theorem All_ok (H : Lg h l X n x ds σ) (hk : R (.int .i64 x.all) h) : Cl 12 #[.pointer (some ⟨l, 0, none⟩)] h R := by
  obtain ⟨j, d, s, XJ, XS, I, A, rfl⟩ := H
  obtain ⟨_, _, _, B⟩ := id A.jn
  exact flush_Log_All.walk (made_ok A ⟨_, rfl, iteF rfl ⟨_, cell_at A.blk rfl, journal_Journal_All.walk (amade B ⟨_, rfl, iteF rfl ⟨_, cell_at B.blk rfl, _, rfl, hk⟩⟩)⟩⟩)
theorem Open0_ok (he : mayE e) (H : Dk h d XD n ds) (h4 : 4 ≤ n) (hw : ds.W.length ≤ 1000000) (h0 : ds.get 0 = secB false) (h1 : ds.get 1 = secB false)
    (hk : ∀ g, Fr No h g → R (.tuple #[.pointer none, .int .i64 4]) g) : Cl 44 #[.pointer (some ⟨d, 0, none⟩), Eid.ev5 e] h R :=
  flush_Open.walk (self := e.s) (eid_Eid.boxp fun _ _ _ hb f1 => eid_Eid.ldp hb (Stt.new_ok e (fun _ _ _ _ _ _ u2 => ⟨_, _, rfl, iteF rfl (Jnl.Open0_ok (H.on (f1.tt u2.fr)) h4 hw h0 h1 fun g f => ⟨_, _, _, _, _, rfl, iteT rfl (hk g ((f1.tt u2.fr).tt f))⟩)⟩) (fun q => absurd he q)))
theorem Open1_ok (he : mayE e) (H : Dk h d XD n ds) (h4 : 4 ≤ n) (h5 : n ≤ 4096) (hw : ds.W.length ≤ 1000000) (h0 : ds.get 0 = secB false) (h1 : ds.get 1 = secB true)
    (hk : ∀ g l X, LgD g l d X n jn0 ds (newS e) → Fr No h g → (∀ y, X.M y ∨ X.D y → XD.M y ∨ h.size ≤ y) → R (.tuple #[pt l, .int .i64 0]) g) : Cl 44 #[.pointer (some ⟨d, 0, none⟩), Eid.ev5 e] h R := by
  refine flush_Open.walk (self := e.s) (eid_Eid.boxp fun b h1' eb hb f1 => eid_Eid.ldp hb (Stt.new_ok e (fun _ h2 s XS I H2 u2 => ⟨_, _, rfl, iteF rfl (Jnl.Open1_ok (H.on (f1.tt u2.fr)) h4 h5 hw h0 h1 fun h3 j XJ J3 f3 g3 => ⟨_, _, _, _, _, rfl, iteF rfl (said_ok ⟨_, _, rfl, iteF rfl ?_⟩)⟩)⟩) (fun q => absurd he q)))
  have u1 := f1.1
  have z2 := u2.fr.1
  have z3 := f3.1
  have sl : ∀ y, XS.M y ∨ XS.D y → h.size ≤ y ∧ y < h2.size := fun y hy => ⟨by have := u2.ge y hy; omega, H2.lt y hy⟩
  have xl : ∀ y, XD.M y → y < h.size := fun y hy => H.lt y hy
  obtain ⟨XD3, q, cq, A3⟩ := id J3
  refine half_ok A3.dk h4 h5 fun h4' f4 => ⟨_, rfl, newP_of ?_⟩
  have z4 := f4.1
  have f5 : Fr No h4' (h4'.push (.cells #[pt j, pt s, .int .i64 (room n : Int)] 96)) := Fr.push _ _
  have jl : ∀ y, XJ.M y → (XD.M y ∨ h2.size ≤ y) ∧ y < h3.size := fun y hy => ⟨g3 y hy, J3.lt y hy⟩
  refine hk _ h4'.size _ (LgA.lgd ⟨push_new, (J3.on f4).on f5, ((H2.on f3).on f4).on f5, fun y hy q => ?_, fun q => ?_, fun q => ?_⟩) ((f1.tt u2.fr).tt (f3.tt (f4.tt f5))) ?_
  · have := sl y q
    rcases (jl y hy).1 with a | a
    · have := xl y a; omega
    · omega
  · have := (jl _ q).2; omega
  · have := sl _ q; omega
  · rintro y ((a | a | a) | a)
    · exact .inr (by omega)
    · exact (jl y a).1.imp id (fun a => by omega)
    · exact .inr (sl y (.inl a)).1
    · exact .inr (sl y (.inr a)).1
end Flu
namespace Bot
open Dsk Jnl Sup Flu
open Stt hiding Good
variable {h h0 h' : Heap} {R : Value → Heap → Prop} {l j d n s now : Nat} {X XJ XS XD : Ft} {ds : DS} {x : JN} {I : Ids} {σ : SS} {e : Eid.Ev}
def fmt (b : Bool) (ds : DS) : DS := if b = true then ds else (ds.put 1 (supB su1)).sync
structure okD (ds : DS) (b : Bool) : Prop where
  w : ds.W = []
  g0 : ds.get 0 = secB false
  g1 : ds.get 1 = secB b
theorem okD.fmt {b : Bool} (ok : okD ds b) (o : ds.ok n) (n2 : 2 ≤ n) : okD (fmt b ds) true := by
  cases b with
  | true => exact ok
  | false =>
    obtain ⟨L, W⟩ := ds
    obtain ⟨w, g0, g1⟩ := ok
    dsimp only at w
    subst w
    have ll : L.length = n := o.n
    refine ⟨rfl, ?_, ?_⟩
    · show (L.set 1 (supB su1)).getD 0 [] = secB false
      rw [List.getD_eq_getElem?_getD, List.getElem?_set_ne (by decide), ← List.getD_eq_getElem?_getD]
      exact g0
    · show (L.set 1 (supB su1)).getD 1 [] = secB true
      rw [List.getD_eq_getElem?_getD, List.getElem?_set_self (by omega)]
      rfl
theorem okD.new (n : Nat) (h2 : 2 ≤ n) : okD (newD n) false := by
  have g : ∀ i, i < 2 → (newD n).get i = secB false := fun i hi => by
    show (List.replicate n zeroS).getD i [] = zeroS
    rw [List.getD_eq_getElem?_getD, List.getElem?_replicate, if_pos (by omega)]
    rfl
  exact ⟨rfl, g 0 (by decide), g 1 (by decide)⟩
theorem log_ok {b : Bool} (he : mayE e) (H : Dk h d XD n ds) (h4 : 4 ≤ n) (h5 : n ≤ 4096) (ok : okD ds b)
    (hk : ∀ g l X, LgD g l d X n jn0 (fmt b ds) (newS e) → Fr XD.M h g → (∀ y, X.M y ∨ X.D y → XD.M y ∨ h.size ≤ y) → R (.tuple #[pt l, .int .i64 0]) g) : Cl 19 #[.pointer (some ⟨d, 0, none⟩), Eid.ev5 e] h R := by
  have w0 : ds.W.length = 0 := by rw [ok.w]; rfl
  refine boot_log.walk (self := e.s) (eid_Eid.boxp fun b0 h1 eb hb f1 => eid_Eid.ldp hb ?_)
  have u1 := f1.1
  cases b with
  | false =>
    refine Open0_ok he (H.on f1) h4 (by omega) ok.g0 ok.g1 fun h2 f2 => ⟨_, _, rfl, iteT rfl (eid_Eid.ldp (f2.get hb id) (Flu.Format_ok he (H.on (f1.tt f2)) h4 h5 (by omega) fun g l X L f gx => ⟨_, _, rfl, hk g l X L ((f1.tt f2).no f) fun y hy => (gx y hy).imp id fun q => by have := f2.1; omega⟩))⟩
  | true =>
    refine Open1_ok he (H.on f1) h4 h5 (by omega) ok.g0 ok.g1 fun g l X L f gx => ⟨_, _, rfl, iteF rfl (hk g l X L ((f1.tt f).mono fun _ _ q => q.elim) fun y hy => (gx y hy).imp id fun q => by omega)⟩
theorem sure_ok (H : Lg h l X n jn0 ds σ) (hk : R (.int .i64 0) h) : Cl 24 #[.pointer (some ⟨l, 0, none⟩)] h R := by
  refine boot_sure.walk ⟨fun g => g = h, fun _ => 0, rfl, ?_⟩
  rintro g hg
  subst hg
  exact Flu.Done_ok H ⟨_, rfl, Flu.All_ok H ⟨_, rfl, iteF rfl hk⟩⟩
def Db (h : Heap) (x d : Nat) (X : Ft) (n : Nat) (ds : DS) (e : Eid.Ev) (now : Nat) : Prop := ∃ l m q X0, h[x]? = some (.cells #[pt l, .map (some m), .int .i64 1, pt q, .int .u64 (now : Int)] 92 (0, 0)) ∧
  MapP h m Cps.ienc ([] : List (Int × Value)) ∧ LgD h l d X0 n jn0 ds (newS e) ∧ ¬ (X0.M x ∨ X0.D x) ∧ ¬ (X0.M m ∨ X0.D m) ∧ X = ⟨fun y => X0.M y ∨ y = x ∨ y = m, X0.D⟩
theorem Db.on {x : Nat} (H : Db h x d X n ds e now) (f : Fr No h h') : Db h' x d X n ds e now := by
  obtain ⟨l, m, q, X0, a, b, c, r⟩ := H
  exact ⟨l, m, q, X0, f.get a id, b.frame f id, c.frame f (fun _ _ => id), r⟩
theorem Start_ok {b : Bool} (he : mayE e) (H : Dk h d XD n ds) (h4 : 4 ≤ n) (h5 : n ≤ 4096) (ok : okD ds b) (hw : now ≤ 1099511627776)
    (hk : ∀ g x X, Db g x d X n (fmt b ds) e now → Fr XD.M h g → (∀ y, X.M y ∨ X.D y → XD.M y ∨ h.size ≤ y) → R (.tuple #[pt x, .int .i64 0]) g) : Cl 6 #[.pointer (some ⟨d, 0, none⟩), Eid.ev5 e, .int .u64 (now : Int)] h R := by
  refine boot_Start.walk (self := e.s) (eid_Eid.boxp fun b0 h1 eb hb f1 => Dsk.sectors_ok (H.on f1) ⟨_, rfl, iteF (beq_eq_false_iff_ne.2 (by omega)) (JoinP.of fun J hJ => eid_Eid.ldp hb (Eid.right_ok e fun h2 f2 => ⟨_, rfl, ?_⟩))⟩)
  rw [he.1]
  refine iteF rfl (eid_Eid.ldp (f2.get hb id) ⟨_, Eid.eqv' (y := Eid.Ev.zero) rfl rfl, ?_⟩)
  rw [decide_eq_false he.2]
  subst hJ
  refine iteF rfl (iteF (decide_eq_false (by omega)) (eid_Eid.ldp (f2.get hb id) (log_ok he (H.on (f1.tt f2)) h4 h5 ok fun h3 l X L f3 g3 => ⟨_, _, rfl, iteF rfl ?_⟩)))
  obtain ⟨j, s, XJ, XS, I, A, rfl⟩ := id L
  refine Flu.State_ok A ⟨_, rfl, onSome_some.2 ⟨_, cell_at A.st.blk rfl, Flu.State_ok A ⟨_, rfl, onSome_some.2 ⟨_, cell_at A.st.blk rfl, ?_⟩⟩⟩⟩
  obtain ⟨Y, hp, _⟩ := id A.st
  refine Ses.all_ok (hp 0) Ses.okA.nil fun h4' p4 l4 c4 S4 f4 => ⟨_, _, _, rfl, ?_⟩
  have e4 := S4.len
  rw [show (newS e).A = [] from rfl] at e4
  have e4 : l4 = 0 := e4
  subst e4
  refine slices_ContainsFunc_s_sessions_Session_sessions_Session.up.walk (slices_IndexFunc_s_sessions_Session_sessions_Session.up.walk ⟨fun t g => t = 0 ∧ g = h4', fun _ _ => 0, ⟨rfl, rfl⟩, ?_⟩)
  rintro _ g ⟨rfl, hg⟩
  subst hg
  refine iteF rfl ⟨_, rfl, ⟨_, rfl, JoinP.of fun J1 hJ1 => iteF rfl ?_⟩⟩
  subst hJ1
  have L4 := L.frame f4 (fun _ _ => id)
  refine sure_ok L4.lg ⟨_, rfl, iteF rfl ?_⟩
  rw [show (if (((newS e).now : Nat) : Int) > (now : Int) then (((newS e).now : Nat) : Int) else (now : Int)) = (now : Int) from if_neg (by show ¬ ((0 : Nat) : Int) > _; omega)]
  obtain ⟨j', s', XJ', XS', I', A4, eX⟩ := id L4
  refine daemon_New.walk (Flu.State_ok A4 ⟨_, rfl, iteF rfl (JoinP.of fun J2 hJ2 => iteF (decide_eq_false (by omega)) (onSome_some.2 ⟨_, cell_at A4.st.blk rfl, ?_⟩))⟩)
  subst hJ2
  refine iteF (decide_eq_false (by show ¬ (now : Int) < ((0 : Nat) : Int); omega)) (newP_of (pend_New.walk (newP_of ⟨_, rfl, newP_of ⟨_, _, rfl, ?_⟩⟩)))
  have p5 : Fr No g (g.push (.map #[] 0)) := Fr.push _ _
  have M5 : MapP (g.push (.map #[] 0)) g.size Cps.ienc ([] : List (Int × Value)) := MapP.push g _
  have z5 : (g.push (.map #[] 0)).size = g.size + 1 := Array.size_push _
  generalize g.push (.map #[] 0) = g5 at p5 M5 z5 ⊢
  have p6 : Fr No g5 (g5.push (.cells #[.bool true, .slice none 0 0] 190)) := Fr.push _ _
  have z6 : (g5.push (.cells #[.bool true, .slice none 0 0] 190)).size = g5.size + 1 := Array.size_push _
  generalize g5.push (.cells #[.bool true, .slice none 0 0] 190) = g6 at p6 z6 ⊢
  have p7 : Fr No g6 (g6.push (.cells #[.pointer (some ⟨l, 0, none⟩), .map (some g.size), .int .i64 1, .pointer (some ⟨g5.size, 0, none⟩), .int .u64 (now : Int)] 92)) := Fr.push _ _
  have P7 := (p5.tt p6).tt p7
  have u := f1.1
  have u2 := f2.1
  have u3 := f3.1
  have u4 := f4.1
  have lt : ∀ y, (ftL l XJ XS).M y ∨ (ftL l XJ XS).D y → y < g.size := fun y hy => L4.lg.lt y hy
  refine hk _ g6.size _ ⟨l, g.size, g5.size, _, push_new, (M5.frame p6 id).frame p7 id, L4.frame P7 (fun _ _ => id), fun q => ?_, fun q => ?_, rfl⟩ (((f1.tt f2).no f3).on (f4.tt P7)) ?_
  · have := lt _ q; omega
  · have := lt _ q; omega
  · rintro y ((q | q | q) | q)
    · exact (g3 y (.inl q)).imp id fun q => by omega
    · exact .inr (by omega)
    · exact .inr (by omega)
    · exact (g3 y (.inr q)).imp id fun q => by omega
end Bot
end
section
namespace Bot
open Dsk Jnl Sup Flu
open Stt hiding Good
variable {h h0 h':Heap} {R:TyP} {l j d n s now x:Nat} {X XJ XS XD:Ft} {ds:DS} {e:Eid.Ev}
abbrev e7 : Eid.Ev := ⟨true, 7, 0, ⟨#[]⟩, ⟨#[]⟩⟩
theorem self_ok (hk : ∀ h', Fr No h h' → R (Eid.ev5 e7) h') : Cl 7 #[] h R := law26_Self.walk (eid_Eid.newp fun _ h1 _ hb f1 => eid_Eid.ldp hb (hk h1 f1))
theorem may7 : Stt.mayE e7 := ⟨by kernel_rfl, fun e => by cases congrArg Eid.Ev.ipn e⟩
def Keep (h : Heap) (x now : Nat) : Prop := ∃ l m q j s r I, h[x]? = some (.cells #[pt l, .map m, .int .i64 1, pt q, .int .u64 (now : Int)] 92 (0, 0)) ∧ h[l]? = some (.cells #[pt j, pt s, .int .i64 r] 96 (0, 0)) ∧ Bk h s I 0 0
theorem Keep.on (H : Keep h x now) (f : Fr No h h') : Keep h' x now := by
  obtain ⟨l, m, q, j, s, r, I, a, b, c⟩ := H
  exact ⟨l, m, q, j, s, r, I, f.get a id, f.get b id, f.get c id⟩
theorem Db.disk (H : Db h x d X n ds e now) : ∃ XD, Dk h d XD n ds ∧ (∀ y, XD.M y → X.M y) ∧ ¬ XD.M x ∧ ∀ h', Fr XD.M h h' → Keep h' x now := by
  obtain ⟨l, m, q, X0, bx, M, L, nx, nm, rfl⟩ := H
  obtain ⟨j, s, XJ, XS, I, A, rfl⟩ := L
  obtain ⟨XD, p, c, B⟩ := A.jn
  have jx : ∀ y, XD.M y → XJ.M y := fun y q => (B.m y).2 (.inr (.inr q))
  refine ⟨XD, B.dk, fun y q => .inl (.inr (.inl (jx y q))), fun q => nx (.inl (.inr (.inl (jx x q)))), fun h' f => ⟨l, some m, q, j, s, _, I, f.get bx (fun q => nx (.inl (.inr (.inl (jx x q))))), f.get A.blk (fun q => A.lj (jx l q)), ?_⟩⟩
  have bs := A.st.blk
  have hs : XS.M s := by
    obtain ⟨Y, hp, _, hm, _⟩ := A.st
    exact (hm s).2 ⟨6, ((hp 6).2 s).1.2 rfl⟩
  exact f.get bs (fun q => A.js s (jx s q) (.inl hs))
theorem Crash_ok (he : mayE e) {kp : Option Addr} {kl kc : Nat} (H : Db h x d X n ds e now) (h4 : 4 ≤ n) (h5 : n ≤ 4096) (ok : okD ds true) (hw : now ≤ 1099511627776)
    (hk : ∀ g y Y, Db g y d Y n ds e now → Keep g x now → Fr X.M h g → (∀ z, Y.M z ∨ Y.D z → X.M z ∨ h.size ≤ z) → R (.tuple #[pt y, .int .i64 0]) g) : Cl 16 #[.pointer (some ⟨x, 0, none⟩), .pointer (some ⟨d, 0, none⟩), .slice kp kl kc, Eid.ev5 e] h R := by
  obtain ⟨XD, D, dx, xx, keep⟩ := H.disk
  obtain ⟨l, m, q, X0, bx, M, L, nx, nm, eX⟩ := id H
  refine boot_Crash.walk (self := e.s) (eid_Eid.boxp fun b h1 eb hb f1 => daemon_Daemon_Log.walk ⟨_, cell_at (f1.get bx id) rfl, ⟨_, rfl, iteF rfl (Dsk.Crash0_ok (D.on f1) (by omega) ok.w fun h2 XD2 D2 st2 => ⟨_, rfl, iteF rfl ?_⟩)⟩⟩)
  have u1 := f1.1
  have lb := (Array.getElem?_eq_some_iff.1 hb).1
  have nxd : ∀ y, h.size ≤ y → ¬ XD.M y := fun y a q => by have := D.lt y q; omega
  have bx2 := st2.fr.get (f1.get bx id) xx
  refine eid_Eid.ldp (st2.fr.get hb (nxd b (by omega))) (daemon_Daemon_Now.walk ⟨_, cell_at bx2 rfl, ⟨_, rfl, (Fr.refl _ _).kp, Start_ok (b := true) he D2 h4 h5 ok hw fun g y Y Hy fy gy => ⟨_, _, rfl, ?_⟩⟩⟩)
  have u2 := st2.fr.1
  have nD : ∀ z, z < h.size → XD2.M z → XD.M z := fun z zl q => (st2.newM z q).resolve_right (by omega)
  have F : Fr XD.M h g := (f1.no st2.fr).trans fy (fun _ _ => id) (fun z zl q => nD z zl q)
  refine hk g y Y Hy (keep g F) (F.mono fun z _ q => dx z q) fun z hz => ?_
  rcases gy z hz with q | q
  · rcases st2.newM z q with q | q
    · exact .inl (dx z q)
    · exact .inr (by omega)
  · exact .inr (by omega)
theorem made_ok (H : Db h x d X n ds e now) (hk : R (.bool true) h) : Cl 8 #[.pointer (some ⟨x, 0, none⟩)] h R := by
  obtain ⟨l, m, q, X0, bx, M, L, nx, nm, eX⟩ := H
  obtain ⟨j, s, XJ, XS, I, A, rfl⟩ := L
  exact law33_made.walk (daemon_Daemon_Log.walk ⟨_, cell_at bx rfl, ⟨_, rfl, iteT rfl (daemon_Daemon_Log.walk ⟨_, cell_at bx rfl, ⟨_, rfl, Flu.State_ok A ⟨_, rfl, hk⟩⟩⟩)⟩⟩)
theorem Conns_ok (H : Db h x d X n ds e now) (hk : ∀ g, Fr No h g → R (.slice none 0 0) g) : Cl 10 #[.pointer (some ⟨x, 0, none⟩)] h R := by
  obtain ⟨l, m, q, X0, bx, M, L, nx, nm, eX⟩ := H
  have mapTy : MapKy Tryz.prog 89 Cps.ienc (.pointer none) := MapKy.of 3 578 (by kernel_rfl) Cps.ikey (by kernel_rfl)
  refine daemon_Daemon_Conns.walk (daemon_Daemon_made.walk ⟨_, cell_at bx rfl, ⟨_, rfl, JoinP.of fun J hJ => iteT rfl ⟨_, cell_at bx rfl, den_rangeP mapTy M fun it h1 e1 I1 f1 => ⟨_, rfl, fun p l c g => p = none ∧ l = 0 ∧ c = 0 ∧ g = h1, fun _ _ _ _ => 0, ⟨rfl, rfl, rfl, rfl⟩, ?_⟩⟩⟩⟩)
  rintro _ _ _ g ⟨rfl, rfl, rfl, hg⟩
  subst hg
  refine den_nextP I1 (fun _ => .inl ⟨rfl, ?_⟩) (fun a v h' q => by cases q)
  subst hJ
  exact Srt.sort_ok (xs := []) (.nil rfl rfl rfl rfl) rfl .nil (by decide) fun g' zs _ _ _ f => ⟨rfl, hk g' (f1.tt (f.mono fun y _ ⟨a, e, _⟩ => by cases e))⟩
theorem alive_ok (hk : ∀ g, Fr No h g → R (.bool true) g) : Cl 5 #[] h R := by
  refine law33_alive.walk (Dsk.new_ok (n := 40) (by decide) (by decide) fun h1 d XD D1 u1 => ⟨_, _, rfl, JoinP.of fun J hJ => iteF rfl ?_⟩)
  subst hJ
  refine iteF rfl (self_ok fun h2 f2 => eid_Eid.ex e7.s ⟨rfl, Start_ok (b := false) (now := 5) may7 (D1.on f2) (by decide) (by decide) (okD.new 40 (by decide)) (by decide) fun h3 x X H3 f3 g3 => ⟨_, _, rfl, JoinP.of fun J1 hJ1 => iteF rfl (iteF rfl ?_)⟩⟩)
  have ok : okD (fmt false (newD 40)) true := (okD.new 40 (by decide)).fmt (newD_ok 40) (by decide)
  have F2 := u1.fr.tt f2
  have z2 := f2.1
  have F3 : Fr No h h3 := F2.fresh f3 fun y q => u1.ge y (.inl q)
  have X3 : ∀ y, X.M y ∨ X.D y → h.size ≤ y := fun y q => by
    rcases g3 y q with q | q
    · exact u1.ge y (.inl q)
    · have := u1.fr.1; omega
  obtain ⟨l, m, q, X0, bx, M, L, nx, nm, eX⟩ := id H3
  obtain ⟨j, s, XJ, XS, I, A, rfl⟩ := L
  refine daemon_Daemon_Log.walk ⟨_, cell_at bx rfl, ⟨_, rfl, iteF rfl (daemon_Daemon_Log.walk ⟨_, cell_at bx rfl, ⟨_, rfl, Flu.State_ok A ⟨_, rfl, ?_⟩⟩⟩)⟩⟩
  subst hJ1
  refine iteF rfl (self_ok fun h4 f4 => eid_Eid.ex e7.s ⟨rfl, Crash_ok may7 (H3.on f4) (by decide) (by decide) ok (by decide) fun h5 y Y H5 K5 f5 g5 => ⟨_, _, rfl, self_ok fun h6 f6 => eid_Eid.ex e7.s ⟨rfl, ?_⟩⟩⟩)
  refine boot_Start.nil.walk (self := e7.s) (now := 5) (eid_Eid.boxp fun b7 h7 e7' hb7 f7 => disk_Disk_Sectors.nil.walk ⟨_, rfl, iteT rfl ⟨_, _, rfl, ?_⟩⟩)
  obtain ⟨XD5, D5, dx5, xx5, keep5⟩ := H5.disk
  refine boot_Start.walk (self := eid_Eid.S.z) (now := 5) (eid_Eid.boxp fun b8 h8 e8 hb8 f8 => Dsk.sectors_ok (((D5.on f6).on f7).on f8) ⟨_, rfl, iteF rfl (JoinP.of fun J8 hJ8 => eid_Eid.ldp hb8 (Eid.right_ok Eid.Ev.zero fun h9 f9 => ⟨_, rfl, ?_⟩))⟩)
  have P9 := ((f6.tt f7).tt f8).tt f9
  have fin : ∀ g, Fr No h9 g → (J8 true g) := fun g fg => by
    subst hJ8
    have F := (P9.tt fg)
    refine iteT rfl ⟨_, _, rfl, self_ok fun h11 f11 => eid_Eid.ex e7.s ⟨rfl, boot_Crash.nil.walk (self := e7.s) (eid_Eid.boxp fun b12 h12 e12 hb12 f12 => daemon_Daemon_Log.nil.walk ⟨_, rfl, iteT rfl ⟨_, _, rfl, ?_⟩⟩)⟩⟩
    have FF := (F.tt f11).tt f12
    obtain ⟨l', m', q', j', s', r', I', k1, k2, k3⟩ := K5.on FF
    obtain ⟨l2, m2, q2, X2, by2, _⟩ := H5.on FF
    have all : Fr No h h12 := ((F3.tt f4).fresh f5 fun z hz => X3 z (.inl hz)).tt FF
    exact daemon_Daemon_Now.walk ⟨_, cell_at k1 rfl, ⟨_, rfl, iteT rfl (daemon_Daemon_Log.walk ⟨_, cell_at k1 rfl, ⟨_, rfl, flush_Log_State.walk ⟨_, cell_at k2 rfl, ⟨_, rfl, onSome_some.2 ⟨_, cell_at k3 rfl, iteT rfl (iteT rfl (iteT rfl (daemon_Daemon_Now.walk ⟨_, cell_at by2 rfl, ⟨_, rfl, iteT rfl (iteT rfl (iteT rfl (hk h12 all)))⟩⟩)))⟩⟩⟩⟩⟩)⟩⟩
  cases hr : Eid.rightE Eid.Ev.zero with
  | false => exact iteT rfl (fin h9 (Fr.refl _ _))
  | true =>
    refine iteF rfl (eid_Eid.ldp (f9.get hb8 id) ⟨_, Eid.eqv' (x := Eid.Ev.zero) (y := Eid.Ev.zero) rfl rfl, ?_⟩)
    rw [decide_eq_true rfl]
    exact fin h9 (Fr.refl _ _)
def catB (rs : List (List UInt8)) : ByteArray := rs.foldl (fun all r => (all ++ str r) ++ (⟨#[124]⟩ : ByteArray)) ⟨#[]⟩
def tot (rs : List (List UInt8)) : Nat := (rs.map fun r => r.length + 1).sum
theorem catB_snoc (rs : List (List UInt8)) (r : List UInt8) : catB (rs ++ [r]) = (catB rs ++ str r) ++ (⟨#[124]⟩ : ByteArray) := by simp [catB]
theorem size_str (r : List UInt8) : (str r).size = r.length := by simp [str, ByteArray.size]
theorem catB_size : ∀ (k : Nat) (rs : List (List UInt8)), rs.length = k → (catB rs).size = tot rs
  | 0, rs, h => by
    obtain rfl := List.eq_nil_of_length_eq_zero h
    rfl
  | k + 1, rs, h => by
    obtain ⟨m, x, rfl⟩ : ∃ m x, rs = m ++ [x] := ⟨rs.dropLast, rs.getLast (by intro e; rw [e] at h; cases h), (List.dropLast_concat_getLast _).symm⟩
    have ih := catB_size k m (by simpa using h)
    rw [catB_snoc, ByteArray.size_append, ByteArray.size_append, ih, size_str]
    show tot m + x.length + 1 = _
    simp [tot]
    omega
theorem tot_take (rs : List (List UInt8)) (k : Nat) : tot (rs.take k) ≤ tot rs := by
  have e : tot (rs.take k ++ rs.drop k) = tot (rs.take k) + tot (rs.drop k) := by unfold tot; rw [List.map_append, List.sum_append]
  rw [List.take_append_drop] at e
  omega
abbrev RS : List (List UInt8) := headS (newS e7) :: recsS (newS e7)
theorem tot_RS : tot RS ≤ 10000 := of_decide_eq_true (by kernel_rfl)
theorem cat_ok {p : Option Addr} {c:Nat} {rs : List (List UInt8)} {K : ByteArray → Heap → Prop} (B : Fld.BL h0 h p l c rs) (ht : tot rs ≤ 10000) (hk : K (catB rs) h) :
    ∃ (I_1 : ByteArray → Int → Heap → Prop) (mu_1 : ByteArray → Int → Heap → Nat), I_1 (⟨#[]⟩ : ByteArray) 0 h ∧ ∀ all k h_12, I_1 all k h_12 →
      ite (decide (k < ((l : Nat) : Int)))
      (((0 : Int) ≤ k ∧ k < ((l : Nat) : Int)) ∧ onSome p fun a_1 => ∃ t107_p t107_l t107_c, hcell h_12 (a_1.add (Int.toNat k * 1)) = some (.slice t107_p t107_l t107_c) ∧
        ∃ (t108 : ByteArray), ConvV Tryz.prog 48 9 (.slice t107_p t107_l t107_c) h_12 t108 ∧ ((all.size + t108.size : Nat) : Int) ≤ IntKind.max .i64 ∧ (((all ++ t108).size + (⟨#[124]⟩ : ByteArray).size : Nat) : Int) ≤ IntKind.max .i64 ∧
        (I_1 ((all ++ t108) ++ (⟨#[124]⟩ : ByteArray)) (IntKind.wrap .i64 (k + 1)) h_12 ∧ mu_1 ((all ++ t108) ++ (⟨#[124]⟩ : ByteArray)) (IntKind.wrap .i64 (k + 1)) h_12 < mu_1 all k h_12))
      (K all h_12) := by
  obtain ⟨xs, D, rfl, o, em, ok, _, _⟩ := B
  have lx : xs.length = rs.length := by rw [← em, List.length_map]
  have ll : rs.length ≤ 10000 := by
    have : ∀ (ys : List (List UInt8)), ys.length ≤ tot ys := fun ys => by
      induction ys with
      | nil => exact Nat.le_refl _
      | cons y ys ih => simp [tot] at ih ⊢; omega
    have := this rs; omega
  refine ⟨fun all k g => g = h ∧ ∃ i : Nat, k = (i : Int) ∧ i ≤ xs.length ∧ all = catB (rs.take i), fun _ k _ => xs.length - k.toNat, ⟨rfl, 0, rfl, Nat.zero_le _, rfl⟩, ?_⟩
  rintro _ _ g ⟨hg, i, rfl, hi, rfl⟩
  subst hg
  by_cases c1 : i < xs.length
  · have rq : Row g p (xs.flatMap Fld.nenc) := o.row'
    rw [flat_one] at rq
    obtain ⟨a, rfl⟩ := rq.some (by intro e; have := congrArg List.length e; simp at this; rw [this] at c1; cases c1)
    have hx : xs[i]? = some xs[i] := List.getElem?_eq_getElem c1
    have hr : rs[i]? = some (xs[i]).b := by rw [← em, List.getElem?_map, hx]; rfl
    have rz := (ok xs[i] (List.getElem_mem c1)).row
    have es : catB (rs.take (i + 1)) = (catB (rs.take i) ++ str (xs[i]).b) ++ (⟨#[124]⟩ : ByteArray) := by rw [List.take_add_one, hr]; exact catB_snoc _ _
    have s1 := catB_size _ (rs.take i) rfl
    have s2 := catB_size _ (rs.take (i + 1)) rfl
    have t1 := tot_take rs i
    have t2 := tot_take rs (i + 1)
    rw [es, ByteArray.size_append] at s2
    have hm : IntKind.max .i64 = 9223372036854775807 := rfl
    have z1 : (⟨#[124]⟩ : ByteArray).size = 1 := rfl
    have s3 : (catB (rs.take i) ++ str (xs[i]).b).size = (catB (rs.take i)).size + (str (xs[i]).b).size := ByteArray.size_append
    refine iteT (decide_eq_true (by omega)) ⟨⟨by omega, by omega⟩, onSome_some.2 ⟨_, _, _, by rw [Int.toNat_natCast, Nat.mul_one]; exact rq.cell (by rw [List.getElem?_map, hx]; rfl), _, Fld.conv rz rfl, by rw [hm]; omega, by rw [hm, z1]; omega, ?_⟩⟩
    rw [← es, wrap_id (by omega) (by omega)]
    exact ⟨⟨rfl, i + 1, rfl, c1, rfl⟩, by show xs.length - Int.toNat ((i : Int) + 1) < xs.length - Int.toNat (i : Int); omega⟩
  · obtain rfl : i = xs.length := by omega
    refine iteF (decide_eq_false (by omega)) ?_
    rw [lx, List.take_length]
    exact hk
theorem _root_.Go.Proofs.YtmoafceggjgecaaGreatDoor.bootTwice_ok (n : Int) (tp : Option Addr) (tl tc : Nat) (kp : Option Addr) (kl kc : Nat) (_ : (Lit.int .i64 n).wf = true) (ht : RokV Tryz.prog h 22 (.slice tp tl tc)) (_ : RokV Tryz.prog h 23 (.slice kp kl kc)) (tb : Num.Tab h) :
    LawH Tryz.prog 3 #[.int .i64 n, .slice tp tl tc, .slice kp kl kc] h := by
  obtain ⟨ts, rfl, row, twf⟩ := RokV.ints (e := 36) (by kernel_rfl) (by kernel_rfl) (by kernel_rfl) ht
  unfold LawH
  generalize hR : (fun (v : Value) h' => v = .bool true ∧ Fr No h h') = R
  have hk : ∀ h', Fr No h h' → R (.bool true) h' := fun h' hf => by rw [← hR]; exact ⟨rfl, hf⟩
  clear hR
  refine law33_BootTwice.walk ?_
  by_cases cn : 4 ≤ n ∧ n ≤ 4096
  rotate_left
  · refine Dsk.newNo_ok cn fun h1 f1 => ⟨_, _, rfl, JoinP.of fun J hJ => iteT rfl ?_⟩
    subst hJ
    refine iteT rfl (alive_ok fun g f => ⟨_, rfl, iteT rfl ?_⟩)
    have ok := hk g (f1.tt f)
    by_cases c : n ≥ 4
    · refine iteT (decide_eq_true c) ?_
      rw [decide_eq_false (show ¬ n ≤ 4096 by omega)]
      exact ok
    · exact iteF (decide_eq_false c) ok
  obtain ⟨m, rfl⟩ : ∃ m : Nat, n = (m : Int) := ⟨n.toNat, by omega⟩
  have m4 : 4 ≤ m := by omega
  have m5 : m ≤ 4096 := by omega
  refine Dsk.new_ok m4 m5 fun h1 d XD D1 u1 => ⟨_, _, rfl, JoinP.of fun J hJ => iteF rfl (iteF rfl ?_)⟩
  by_cases c80 : (m : Int) > 80
  · rw [decide_eq_true c80]
    subst hJ
    refine iteT rfl (alive_ok fun g f => ⟨_, rfl, iteT rfl (iteT (decide_eq_true (by omega)) ?_)⟩)
    rw [decide_eq_true (show (m : Int) ≤ 4096 by omega)]
    exact hk g (u1.fr.tt f)
  rw [decide_eq_false c80]
  subst hJ
  refine iteF rfl ⟨fun first i g => ∃ (j : Nat) (b : Bool) (XD : Ft) (ds : DS), i = (j : Int) ∧ j ≤ ts.length ∧ j ≤ 10 ∧ Dk g d XD m ds ∧ okD ds b ∧ Fr No h g ∧ (∀ y, XD.M y → h.size ≤ y) ∧ (j ≠ 0 → first = catB RS), fun _ i _ => 10 - i.toNat,
    ⟨0, false, XD, newD m, rfl, Nat.zero_le _, Nat.zero_le _, D1, okD.new m (by omega), u1.fr, fun y q => u1.ge y (.inl q), fun q => absurd rfl q⟩, ?_⟩
  rintro first _ g ⟨j, b, XD, ds, rfl, hj, hj10, D, ok, fg, gX, hf⟩
  refine JoinP.of fun J1 hJ1 => ?_
  have out : J1 false g := by
    subst hJ1
    exact iteF rfl (alive_ok fun g' f => ⟨_, rfl, hk g' (fg.tt f)⟩)
  by_cases c1 : j < ts.length
  rotate_left
  · exact iteF (decide_eq_false (by omega)) out
  refine iteT (decide_eq_true (by omega)) ?_
  by_cases c2 : j < 10
  rotate_left
  · rw [decide_eq_false (show ¬ (j : Int) < 10 by omega)]
    exact out
  rw [decide_eq_true (show (j : Int) < 10 by omega)]
  clear out
  subst hJ1
  obtain ⟨a, rfl, hc⟩ := row_int_at row c1
  have wf := wf_u16 (twf (ts.getD j 0) (by rw [List.getD_eq_getElem?_getD, List.getElem?_eq_getElem c1]; exact List.getElem_mem c1))
  obtain ⟨tn, et⟩ : ∃ tn : Nat, ts.getD j 0 = (tn : Int) := ⟨(ts.getD j 0).toNat, by omega⟩
  rw [et] at hc wf
  have al : a.block < h.size := row_lt row (by intro e; have := congrArg List.length e; simp at this; rw [this] at c1; cases c1) ⟨a, rfl, rfl⟩
  have ab : (a.add (j * 1)).block = a.block := add_block a _
  have ew : IntKind.wrap .u64 (tn : Int) = (tn : Int) := wrap_u64 (by omega) (by omega)
  refine iteT rfl ⟨⟨by omega, by omega⟩, onSome_some.2 ⟨_, by rw [Int.toNat_natCast]; exact fg.cell hc id, self_ok fun h2 f2 => eid_Eid.ex e7.s ⟨rfl, f2.kp, ?_⟩⟩⟩
  rw [ew]
  have F2 := fg.tt f2
  refine Start_ok (b := b) (now := tn) may7 (D.on f2) m4 m5 ok (by omega) fun h3 x X H3 f3 g3 => ⟨_, _, rfl, f3.kps fun p hp y e hy => ?_, JoinP.of fun J2 hJ2 => iteF rfl (made_ok H3 ⟨_, rfl, iteF rfl ⟨⟨by omega, by omega⟩, onSome_some.2 ?_⟩⟩)⟩
  · rw [Int.toNat_natCast, List.mem_singleton] at hp
    subst hp
    cases e
    rw [ab] at hy
    have := gX _ hy
    omega
  have F3 : Fr No h h3 := F2.fresh f3 fun y q => gX y q
  have ok3 := ok.fmt D.ok (by omega)
  have X3 : ∀ y, X.M y ∨ X.D y → h.size ≤ y := fun y q => by
    rcases g3 y q with q | q
    · exact gX y q
    · have := F2.1; omega
  obtain ⟨l, mm, q, X0, bx, M, L, nx, nm, eX⟩ := id H3
  refine ⟨_, by rw [Int.toNat_natCast]; exact F3.cell hc id, daemon_Daemon_Now.walk ⟨_, cell_at bx rfl, ⟨_, rfl, (Fr.refl _ _).kp, iteF (by rw [ew]; exact bne_self_eq_false _) (Conns_ok H3 fun h4 f4 => ⟨_, _, _, rfl, f4.kp, iteF rfl (daemon_Daemon_Log.walk ⟨_, cell_at (f4.get bx id) rfl, ⟨_, rfl, (Fr.refl _ _).kp, Flu.All_ok (L.frame f4 (fun _ _ => id)).lg ⟨_, rfl, (Fr.refl _ _).kp, ?_⟩⟩⟩)⟩)⟩⟩⟩
  subst hJ2
  have L4 := L.frame f4 (fun _ _ => id)
  obtain ⟨jj, s, XJ, XS, I, A, eX0⟩ := id L4
  refine iteF rfl (daemon_Daemon_Log.walk ⟨_, cell_at (f4.get bx id) rfl, ⟨_, rfl, Flu.State_ok A ⟨_, rfl, ?_⟩⟩⟩)
  refine Stt.save_ok A.st (Stt.Good.new may7.1 may7.2 (Int.le_refl 0)) (Nat.zero_le _) (tb.on (F3.tt f4)) fun h5 p5 l5 c5 B5 f5 => ⟨_, _, _, rfl, cat_ok B5 tot_RS (JoinP.of fun J3 hJ3 => ?_)⟩
  have F5 := (F3.tt f4).tt f5
  have last : J3 (catB RS) h5 := by
    subst hJ3
    refine iteF (by simp) ?_
    obtain ⟨XD5, D5, dx5, xx5, keep5⟩ := ((H3.on f4).on f5).disk
    refine Dsk.Crash0_ok D5 (by omega) ok3.w fun h6 X6 D6 st6 => ⟨_, rfl, ⟨j + 1, true, X6, _, by rw [wrap_id (by omega) (by omega)]; rfl, by omega, by omega, D6, ok3, F5.fresh st6.fr fun y q => X3 y (.inl (dx5 y q)), fun y q => ?_, fun _ => rfl⟩, ?_⟩
    · rcases st6.newM y q with q | q
      · exact X3 y (.inl (dx5 y q))
      · have := F5.1; omega
    · show 10 - Int.toNat (IntKind.wrap .i64 ((j : Int) + 1)) < 10 - Int.toNat (j : Int)
      rw [wrap_id (by omega) (by omega)]
      omega
  by_cases c0 : j = 0
  · subst c0
    exact iteT rfl last
  · refine iteF (by simp; exact c0) ?_
    rw [hf c0]
    exact last

end Bot
end
end Go.Proofs.YtmoafceggjgecaaGreatDoor
