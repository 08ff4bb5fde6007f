/-
  What is proved here: parts of the proof, one behind the other (texts of this work, merged by a program; what the theorem does not use is left out). No condition.
-/
import Derived.RangeFuncLeaves
import Derived.RangeFuncRecord
import Derived.RangeFuncCalls
import Derived.OrdersIn
import Derived.Test.YticlajoleibdnaaGreatDoorMAudyc
set_option linter.defProp false
set_option maxRecDepth 100000
set_option maxHeartbeats 4000000
namespace Go.Den
section
variable {r:Option Nat} {m n:Nat} {P:Program} {f:FuncId} {w w0:World} {R K:TyP} {o:Oper} {fn:Func}
def fw (r : Option Nat) : Fence := { Fence.wide with round := r }
theorem calls_fw {args : Array Value} {R : Ending → World → Prop} (h : Calls P f args w R) : CallsIn (fw r) m P f args w R :=
  (callsIn_wide).2 h
theorem fw_depth : (fw r).depth.isSome = true → 1 ≤ m := fun h => by cases h
def RoundH (P : Program) (l : Nat) (args : Array Value) (h : Heap) (R : Value → Heap → Prop) : Prop :=
  ∀ w : World, w.heap = h → ∃ f tmps assign body, (Instr.yield l args).run P w = .ok (.round l f tmps assign body) w ∧
    ∀ r m, RoundIn (fw r) m P l f tmps assign body w (fun e w' => ∃ v, e = .returned v ∧ R v w'.heap ∧ Same w w')
def Act.bare (a : Act) : Act := { a with defers := [] }
theorem Act.bare_put (a : Act) (d : Option Nat) (v : Value) : Act.bare (a.put d v) = (Act.bare a).put d v := by cases d <;> rfl
theorem Act.put_defers (a : Act) (d : Option Nat) (v : Value) : (a.put d v).defers = a.defers := by cases d <;> rfl
variable {a a0:Act} {next:Act→World→Prop} {Q:Exit→Act→World→Prop}
def noDefer (o : Oper) : Bool := match o.op with | .defer _ => false | _ => true
theorem noDefer_ne (h : noDefer o = true) (c : Call) : o.op ≠ .defer c := fun e => by unfold noDefer at h; rw [e] at h; cases h
theorem OpWp.wpIn
    (hh : OpWp P o a.eval w.heap K) (nd : noDefer o = true) (hn : ∀ v w', K v w'.heap → Same w w' → next (a.put o.dst v) w') : o.wpIn (fw r) m P a w next Q := by
  refine ⟨fun _ _ => trivial, ?_⟩
  have ⟨x, w', r1, r2, r3⟩ := denSem_sound _ _ _ hh w rfl
  rw [Oper.semAt_eq _ _ _ (noDefer_ne nd), r1]
  cases x with
  | value v => exact hn _ _ r2 r3
  | skip => exact hn _ _ r2 r3
  | enter f args =>
    refine ⟨fw_depth, CallsIn.mono (calls_fw (r2 w' rfl)) ?_⟩
    rintro e w'' ⟨v, rfl, hR, hs⟩
    exact hn _ _ hR (r3.trans hs)
  | _ => exact r2.elim
def denOpF (P : Program) (o : Oper) (σ : Env) (h : Heap) (K : Value → Heap → Prop) : Prop :=
  match o.op with
  | .call { callee := .value f, args := args, argTypes := _ } => (match σ.ev f, evs σ args.toList with
    | some (.func (.yield l) c _), some vs => RoundH P l (c.toList ++ vs).toArray h fun v h' => ∃ b : Bool, v = .bool b ∧ K (.bool b) h'
    | _, _ => denOp P o σ h K)
  | _ => denOp P o σ h K
theorem denOpF_ok {σ : Env}
    (hf : Fits σ a.eval) (hh : denOpF P o σ w.heap K) (nd : noDefer o = true) (hn : ∀ v w', K v w'.heap → Same w w' → next (a.put o.dst v) w') : o.wpIn (fw r) m P a w next Q := by
  unfold denOpF at hh
  split at hh
  · rename_i f args tys ho
    split at hh
    · rename_i l c0 c1 vs hg hvs
      have ⟨g, tmps, assign, body, hy, hr⟩ := hh w rfl
      refine ⟨fun _ _ => trivial, ?_⟩
      rw [Oper.semAt_eq _ _ _ (noDefer_ne nd)]
      have e : (execOp a.eval o).run P w = (Instr.yield l (c0.toList ++ vs).toArray).run P w := by
        unfold execOp; rw [ho]
        simp only [resolve, args_map hf hvs, hf _ _ hg, Deferred.ofValue]
        have e : c0 ++ vs.toArray = (c0.toList ++ vs).toArray := by
          simp
        rw [e]
        rfl
      rw [e, hy]
      refine ⟨fw_depth, RoundIn.mono (hr r _) ?_⟩
      rintro e w'' ⟨v, rfl, ⟨b, rfl, hK⟩, hs⟩
      exact hn _ _ hK hs
    · exact (denOp_ok hf hh).wpIn nd hn
  · exact (denOp_ok hf hh).wpIn nd hn
def upF (n : Nat) (a0 : Act) (w0 : World) (W : List Nat) (K : Env → Heap → Prop) : Exit → Act → World → Prop :=
  fun e a w => e = .normal ∧ ∃ σ, Rel n σ (Act.bare a) ∧ K σ w.heap ∧ Same w0 w ∧ Unch W (Act.bare a0) (Act.bare a) ∧ a.defers = a0.defers
def denOpsF (P : Program) (n : Nat) (ops : Array Oper) (ty : List (Nat × Sh)) : List Oper → Env → Heap → (Env → Heap → Prop) → Prop
  | [], σ, h, K => K σ h
  | o :: rest, σ, h, K => gsplit ops o σ
      (fun σ => denOpF P o σ h fun v h' => castK ty o.dst v fun v => putK n σ o.dst v fun σ' => denOpsF P n ops ty rest σ' h' K)
      (fun σ => putK n σ o.dst undef fun σ' => denOpsF P n ops ty rest σ' h K)
theorem denOpsF_ok {ops : Array Oper} {ty : List (Nat × Sh)} {K : Env → Heap → Prop} (nd : ops.all noDefer = true) : ∀ (rest : List Oper) (k : Nat) (σ : Env) (a : Act) (w : World),
    (∀ j, rest[j]? = ops[k + j]?) → Rel n σ (Act.bare a) → Same w0 w → Unch (opWrites ops) (Act.bare a0) (Act.bare a) → a.defers = a0.defers → denOpsF P n ops ty rest σ w.heap K → wpOpsIn (fw r) m P ops (upF n a0 w0 (opWrites ops) K) (List.range' k rest.length) a w
  | [], k, σ, a, w, _, hr, hs, hu, hd, h => ⟨rfl, σ, hr, h, hs, hu, hd⟩
  | o :: rest, k, σ, a, w, hj, hr, hs, hu, hd, h => by
    have h0  := by have := hj 0; simpa using this.symm
    have hj' : ∀ j, rest[j]? = ops[k + 1 + j]? := fun j => by have := hj (j + 1); simpa [Nat.add_assoc, Nat.add_comm 1 j] using this
    have hnd : noDefer o = true := by
      grind
    simp only [List.length_cons, List.range'_succ, wpOpsIn, h0]
    rcases gsplit_ok hr h with ⟨hw, σ', hr', h⟩ | ⟨hw, σ', hr', h⟩
    · have hw' : Region.wanted o (yielded ops a.tmps) = true := hw
      rw [if_pos hw']
      refine denOpF_ok (show Fits σ' a.eval from hr'.fits) h hnd ?_
      intro v w' hk hs'
      have ⟨σ1, hr1, h1⟩ := putK_ok hr' (castK_ok hk)
      exact denOpsF_ok nd rest (k + 1) σ1 _ w' hj' (by rw [Act.bare_put]; exact hr1) (hs.trans hs') (by exact hu.trans (Unch.put (opWrites_mem h0))) (by rw [Act.put_defers]; exact hd) h1
    · have hw' : Region.wanted o (yielded ops a.tmps) = false := hw
      rw [if_neg (by grind)]
      have ⟨σ1, hr1, h1⟩ := putK_ok hr' h
      exact ⟨fun _ _ => trivial, denOpsF_ok nd rest (k + 1) σ1 _ w hj' (by rw [Act.bare_put]; exact hr1) hs (by exact hu.trans (Unch.put (opWrites_mem h0))) (by rw [Act.put_defers]; exact hd) h1⟩
theorem opF_of_wp {K K2 : Act → World → Prop} {Q2:Exit→Act→World→Prop} {ds : List Deferred} (nd : noDefer o = true)
    (h : o.wp P a w K Q) (hK : ∀ a' w', K a' w' → a'.defers = [] ∧ K2 { a' with defers := ds } w') (hQ : ∀ e a' w', e ≠ .normal → ¬ Q e a' w') :
    a.defers = [] ∧ o.wpIn (fw r) m P { a with defers := ds } w K2 Q2 := by
  unfold Oper.wp at h
  unfold Oper.wpIn
  rw [Oper.semAt_eq _ _ _ (noDefer_ne nd)]
  have e : (execOp (Act.eval { a with defers := ds }) o).run P w = (execOp a.eval o).run P w := rfl
  rw [e]
  have pd : ∀ (v : Value), ({ a with defers := ds }).put o.dst v = { (a.put o.dst v) with defers := ds } := fun v => by cases o.dst <;> rfl
  generalize (execOp a.eval o).run P w = x at h ⊢
  cases x with
  | ok x w' =>
    cases x with
    | value v => have ⟨h1, h2⟩ := hK _ _ h; rw [Act.put_defers] at h1; exact ⟨h1, fun _ _ => trivial, by simp only [Oper.uponIn, pd]; exact h2⟩
    | skip => have ⟨h1, h2⟩ := hK _ _ h; rw [Act.put_defers] at h1; exact ⟨h1, fun _ _ => trivial, by simp only [Oper.uponIn, pd]; exact h2⟩
    | defer d => have ⟨h1, h2⟩ := hK _ _ h; rw [Act.put_defers] at h1; cases h1
    | enter f args =>
      have hd : a.defers = [] := by
        have ⟨e, w'', fr, hR, _⟩ := h []
        cases e with
        | returned v => have := (hK _ _ hR).1; rwa [Act.put_defers] at this
        | panicked ch => grind
        | outgrown => have ⟨_, _, hq⟩ := hR; exact (hQ _ _ _ (by simp) hq).elim
      refine ⟨hd, fun _ _ => trivial, fw_depth, CallsIn.mono (calls_fw h) ?_⟩
      rintro e w'' hR
      cases e with
      | returned v => grind
      | panicked ch => exact (hQ _ _ _ (by simp) hR).elim
      | outgrown => have ⟨_, _, hq⟩ := hR; exact (hQ _ _ _ (by simp) hq).elim
    | row nm args =>
      have hd : a.defers = [] := by
        have ⟨v, w'', hR, _⟩ := h default []
        have := (hK _ _ hR).1; rwa [Act.put_defers] at this
      refine ⟨hd, fun _ _ => trivial, fw_depth, fun c cs _ => ?_⟩
      have ⟨v, w'', hR, hst⟩ := h c cs
      exact ⟨v, w'', (by grind), stepsIn_wide.2 hst⟩
    | _ => exact h.elim
  | halt x w' => cases x <;> simp only [Oper.upon] at h <;> first | exact h.elim | grind
theorem anyF_of_wp {P : Program} {ops : Array Oper} {Q Q2 : Exit → Act → World → Prop} {r : Option Nat} {m : Nat} {ds : List Deferred} (nd : ops.all noDefer = true)
    (hQ : ∀ e a' w', Q e a' w' → e = .normal ∧ a'.defers = [] ∧ Q2 .normal { a' with defers := ds } w') : ∀ (fuel : Nat) (listed : Array Bool) (a : Act) (w : World),
    wpAny P .any ops Q fuel listed a w → a.defers = [] ∧ wpAnyIn (fw r) m P .any ops Q2 fuel listed { a with defers := ds } w
  | 0, listed, a, w, h => ⟨(hQ _ _ _ h.2).2.1, h.1, (hQ _ _ _ h.2).2.2⟩
  | fuel + 1, listed, a, w, h => by
    have step : ∀ i ∈ Region.ready .any ops listed, a.defers = [] ∧ wpOpIn (fw r) m P ops Q2 i (wpAnyIn (fw r) m P .any ops Q2 fuel (listed.setIfInBounds i true)) { a with defers := ds } w := fun i hi => by
      have hh := h.2 i hi
      have ih := anyF_of_wp (P := P) nd hQ (r := r) (m := m) fuel (listed.setIfInBounds i true)
      unfold wpOp at hh
      unfold wpOpIn
      split at hh
      · grind
      · rename_i o ho
        have hnd : noDefer o = true := by
          grind
        simp only [ho]
        split at hh
        · rename_i hw
          rw [if_pos hw]
          rcases hh with hh | ⟨_, _, _, hq⟩
          · exact opF_of_wp hnd hh ih (fun e a' w' hne hq => hne (hQ _ _ _ hq).1)
          · grind
        · rename_i hw
          rw [if_neg hw]
          have ⟨h1, h2⟩ := ih _ _ hh
          rw [Act.put_defers] at h1
          have pd : ({ a with defers := ds }).put o.dst undef = { (a.put o.dst undef) with defers := ds } := by cases o.dst <;> rfl
          exact ⟨h1, fun _ _ => trivial, by grind⟩
    by_cases hr : Region.ready .any ops listed = []
    · have ⟨_, hd, hq⟩ := hQ _ _ _ (h.1 hr)
      exact ⟨hd, fun _ => hq, fun i hi => (step i hi).2⟩
    · have ⟨i, hi⟩ := List.exists_mem_of_ne_nil _ hr
      exact ⟨(step i hi).1, fun e => absurd e hr, fun i hi => (step i hi).2⟩
def thenF (K : List Nat → Env → Heap → Prop) (Q : Exit → List Nat → Env → Heap → Prop) : Exit → List Nat → Env → Heap → Prop
  | .normal => K
  | e => Q e
def blkE (b : Bool) (A B : Prop) : Prop := match b with | true => A | false => B
def blockF (id : Nat) (Q : Exit → List Nat → Env → Heap → Prop) : Exit → List Nat → Env → Heap → Prop
  | .exit i => fun D σ h => blkE (Nat.beq i id) (Q .normal D σ h) (Q (.exit i) D σ h)
  | e => Q e
def failF : Exit → List Nat → Env → Heap → Prop := fun _ _ _ _ => False
abbrev AtL (h : Heap) (l : Nat) (r : Loop) : Prop := h[l]? = some (.loop r)
abbrev setLoop (h : Heap) (l : Nat) (r : Loop) : Heap := h.setIfInBounds l (.loop r)
abbrev openH (h : Heap) (r : Loop) : Heap := (h.push (.deferred (some []))).push (.loop r)
abbrev Recs := LoopState → Option Code → Loop
def roundF (l : Nat) (rec : Recs) (C : Bool → Heap → Prop) : Exit → List Nat → Env → Heap → Prop
  | .normal, _, _, h => AtL h l (rec .busy none) ∧ C true (setLoop h l (rec .ready none))
  | .ret, _, _, h => AtL h l (rec .busy none) ∧ C false (setLoop h l (rec .done (some .ret)))
  | .exit i, _, _, h => AtL h l (rec .busy none) ∧ C false (setLoop h l (rec .done (some (.exit i))))
  | _, _, _, _ => False
def JumpP (N T : Heap → Prop) (E : Nat → Heap → Prop) : Option Code → Heap → Prop
  | none, h => N h
  | some .ret, h => T h
  | some (.exit i), h => E i h
  | _, _ => False
def putAll (n : Nat) : List Nat → List Value → Env → (Env → Prop) → Prop
  | [], [], σ, K => K σ
  | t :: ts, v :: vs, σ, K => putK n σ (some t) v fun σ' => putAll n ts vs σ' K
  | _, _, _, _ => False
def RangeP (P : Program) (v : Value) (h : Heap) (B : Recs → (Bool → Heap → Prop) → List Value → Heap → Prop) (J : Option Code → Heap → Prop) : Prop :=
  ∃ gf lb, v = .func (.func gf) #[] lb ∧ hasBody P gf = true ∧ ∀ rec : Recs, (∀ s p, (rec s p).state = s ∧ (rec s p).pending = p) →
    (∀ args g C, AtL g (h.size + 1) (rec .ready none) → B rec C args g → RoundH P (h.size + 1) args.toArray g fun v g' => ∃ b, v = .bool b ∧ C b g') →
    CallsH P gf (#[.func (.yield (h.size + 1)) #[] #[]] ++ lb) (openH h (rec .ready none)) fun _ g => ∃ st pe, st ≠ .busy ∧ AtL g (h.size + 1) (rec st pe) ∧ J pe (setLoop g (h.size + 1) (rec .exhausted pe))
def natsEq : List Nat → List Nat → Bool
  | [], [] => true
  | x :: xs, y :: ys => Nat.beq x y && natsEq xs ys
  | _, _ => false
theorem natsEq_eq : ∀ {a b : List Nat}, natsEq a b = true → a = b
  | [], [], _ => rfl
  | x :: xs, y :: ys, h => by
    simp only [natsEq, Bool.and_eq_true] at h
    rw [Nat.eq_of_beq_eq_true h.1, natsEq_eq h.2]
def denF (P : Program) (n : Nat) (rd : Bool) : Ann → Code → (Exit → List Nat → Env → Heap → Prop) → List Nat → Env → Heap → Prop
  | .leaf, c, Q, D, σ, h => (match c with
    | .skip => Q .normal D σ h
    | .label _ => Q .normal D σ h
    | .exit id => Q (.exit id) D σ h
    | .ret => Q .ret D σ h
    | .region _ ops false => (match ops.all noDefer with | true => denOpsF P n ops [] ops.toList σ h (Q .normal D) | false => False)
    | _ => False)
  | .planB kb p, c, Q, D, σ, h => (match c with
    | .region _ ops true => (match (P.follows .mixedOrders && Region.noSelect ops && lenB p ops.size && planB P ops p none (Array.replicate ops.size false)), ops.all noDefer with
      | true, true => denPlanE P [] n ops noE kb p [] [] σ h (Q .normal D)
      | _, _ => False)
    | _ => False)
  | .seq a b, c, Q, D, σ, h => (match c with
    | .seq c d => denF P n rd a c (thenF (fun D' σ' h' => denF P n rd b d Q D' σ' h') Q) D σ h
    | _ => False)
  | .cond a b, c, Q, D, σ, h => (match c with
    | .cond x c d => (match σ.ev x with
      | some (.bool q) => if q = true then denF P n rd a c Q D σ h else denF P n rd b d Q D σ h
      | _ => False)
    | _ => False)
  | .block a, c, Q, D, σ, h => (match c with
    | .block id c => denF P n rd a c (blockF id Q) D σ h
    | _ => False)
  | .loop L a, c, Q, D, σ, h => (match c with
    | .loop c => ∃ (I : Tele (Heap → Prop) L) (μ : Tele (Heap → Nat) L), apE False L I σ (fun f => f h) ∧
        allE L (fun σ' => ∀ h', apE False L I σ' (fun f => f h') →
          denF P n rd a c (thenF (fun D' σ'' h'' => D' = D ∧ apE False L I σ'' (fun f => f h'') ∧ apE 0 L μ σ'' (fun f => f h'') < apE 0 L μ σ' (fun f => f h')) Q) D σ' h') (σ.forget (writes c))
    | _ => False)
  | .join L a, c, Q, D, σ, h => JoinP (α := Tele (Heap → Prop) L) (lamE L (fun σ' h' => Q .normal D σ' h') (σ.forget (writes c)))
      (fun J => denF P n rd a c (thenF (fun D' σ' h' => D' = D ∧ apE False L J σ' (fun f => f h')) Q) D σ h)
  | .scope z L a b, c, Q, D, σ, h => (match c with
    | .rangeFunc g ps assign body => (match rd, natsEq (L.map (·.1)) ps.toList, σ.ev g with
      | false, true, some v => RangeP P v h
          (fun rec C args h1 => exShs (L.map (·.2)) fun vs => args = vs ∧ putAll n (L.map (·.1)) vs σ fun σ1 =>
            denF P n true a assign (thenF (fun D2 σ2 h2 => AtL h2 (h.size + 1) (rec .ready none) ∧ ∀ h3, h3 = setLoop h2 (h.size + 1) (rec .busy none) → denF P n true b body (roundF (h.size + 1) rec C) D2 σ2 h3) failF) [] σ1 h1)
          (JumpP (fun g => Q .normal (h.size :: D) σ g) (fun g => Q .ret (h.size :: D) σ g) (match z with | 0 => fun _ _ => False | _ => fun i g => Q (.exit i) (h.size :: D) σ g))
      | _, _, _ => False)
    | _ => False)
  | .typed _, _, _, _, _, _ => False
def mark (D : Nat) : Deferred := { target := .collected D, args := #[] }
def upG (n : Nat) (a0 : Act) (w0 : World) (W : List Nat) (Q : Exit → List Nat → Env → Heap → Prop) : Exit → Act → World → Prop :=
  fun e a w => ∃ D σ, Rel n σ (Act.bare a) ∧ a.defers = D.map mark ∧ Q e D σ w.heap ∧ Same w0 w ∧ Unch W (Act.bare a0) (Act.bare a)
theorem upG_of_upF {W : List Nat} {Q : Exit → List Nat → Env → Heap → Prop} {D : List Nat} (hd : a0.defers = D.map mark) {e : Exit} (h : upF n a0 w0 W (Q .normal D) e a w) : upG n a0 w0 W Q e a w := by
  obtain ⟨rfl, σ, h1, h2, h3, h4, h5⟩ := h
  exact ⟨D, σ, h1, h5.trans hd, h2, h3, h4⟩
theorem same_alloc (w : World) (o : Obj) : Same w (w.alloc o) := ⟨rfl, rfl, rfl⟩
theorem same_put (w : World) (l : Nat) (o : Obj) : Same w (w.putObj l o) := ⟨rfl, rfl, rfl⟩
theorem putAll_ok {K : Env → Prop} : ∀ (ts : List Nat) (vs : List Value) (σ : Env) (tm : Array Value), Rel n σ { tmps := tm, defers := [] } → putAll n ts vs σ K →
    ts.length = vs.length ∧ ∃ σ', Rel n σ' { tmps := (ts.zip vs).foldl (fun t (p, v) => t.setIfInBounds p v) tm, defers := [] } ∧ K σ'
  | [], [], σ, tm, hr, h => ⟨rfl, σ, hr, h⟩
  | t :: ts, v :: vs, σ, tm, hr, h => by
    have ⟨σ', hr', h'⟩ := putK_ok hr h
    have ⟨h1, h2⟩ := putAll_ok ts vs σ' _ hr' h'
    exact ⟨by simp [h1], h2⟩
  | [], _ :: _, _, _, _, h => h.elim
  | _ :: _, [], _, _, _, h => h.elim
theorem denF_ok : ∀ (ann : Ann) (rd : Option Nat) (m : Nat) (c : Code) (Q : Exit → List Nat → Env → Heap → Prop) (D : List Nat) (σ : Env) (a : Act) (w : World), Rel n σ (Act.bare a) → a.defers = D.map mark →
    denF P n rd.isSome ann c Q D σ w.heap → c.wpIn (fw rd) m P (upG n a w (writes c) Q) a w
  | .leaf, rd, m, c, Q, D, σ, a, w, hr, hd, h => by
    unfold denF at h
    split at h
    · exact wpIn_skip ⟨D, σ, hr, hd, h, Same.refl w, Unch.refl _ _⟩
    · exact wpIn_label ⟨D, σ, hr, hd, h, Same.refl w, Unch.refl _ _⟩
    · exact wpIn_exit ⟨D, σ, hr, hd, h, Same.refl w, Unch.refl _ _⟩
    · exact wpIn_ret ⟨D, σ, hr, hd, h, Same.refl w, Unch.refl _ _⟩
    · rename_i id ops
      split at h
      · rename_i nd
        refine wpIn_mono (wpIn_region (Q := upF n a w (opWrites ops) (Q .normal D)) ?_) (fun e a' w' hq => upG_of_upF hd hq)
        have := denOpsF_ok (a0 := a) (w0 := w) (r := rd) (m := m) nd ops.toList 0 σ a w (by simp) hr (Same.refl w) (Unch.refl _ _) rfl h
        rw [List.range_eq_range']
        simpa using this
      · exact h.elim
    · exact h.elim
  | .typed _, _, _, _, _, _, _, _, _, _, _, h => h.elim
  | .planB kb p, rd, m, c, Q, D, σ, a, w, hr, hd, h => by
    unfold denF at h
    split at h
    · rename_i id ops
      split at h
      · rename_i hb nd
        obtain ⟨h1, h2⟩ := denPlanE_ok (a := Act.bare a) hb hr.D h
        refine wpIn_mono (wpIn_region_any (Q := upF n a w (opWrites ops) (Q .normal D)) h1 ((anyF_of_wp (ds := a.defers) nd (fun e a' w' hq => ?_) _ _ _ _ h2).2)) (fun e a' w' hq => upG_of_upF hd hq)
        obtain ⟨rfl, σ1, hr1, hk, hs, hu⟩ := upR_of_upP hq
        have e : Act.bare { a' with defers := a.defers } = a' := by
          obtain ⟨t, d⟩ := a'
          have : d = [] := hr1.defers
          rw [this]; rfl
        exact ⟨rfl, hr1.defers, rfl, σ1, by rw [e]; exact hr1, hk, hs, by rw [e]; exact hu, rfl⟩
      · exact h.elim
    · exact h.elim
  | .seq x y, rd, m, c, Q, D, σ, a, w, hr, hd, h => by
    unfold denF at h
    split at h
    · rename_i c d
      refine wpIn_seq (wpIn_mono (denF_ok x rd m c _ D σ a w hr hd h) ?_)
      rintro e a' w' ⟨D', σ', hr', hd', hq, hs, hu⟩
      have hW : ∀ t, t ∈ writes c → t ∈ writes (.seq c d) := fun t ht => List.mem_append_left _ ht
      cases e with
      | normal =>
        refine wpIn_mono (denF_ok y rd m d Q D' σ' a' w' hr' hd' hq) ?_
        rintro e2 a2 w2 ⟨D2, σ2, hr2, hd2, hq2, hs2, hu2⟩
        exact ⟨D2, σ2, hr2, hd2, hq2, hs.trans hs2, (hu.mono hW).trans (hu2.mono fun t ht => List.mem_append_right _ ht)⟩
      | _ => exact ⟨D', σ', hr', hd', hq, hs, hu.mono hW⟩
    · exact h.elim
  | .cond x y, rd, m, c, Q, D, σ, a, w, hr, hd, h => by
    unfold denF at h
    split at h
    · rename_i k c d
      split at h
      · rename_i q hq
        have he : a.eval k = .bool q := hr.fits _ _ hq
        split at h
        · rename_i ht
          subst ht
          refine wpIn_cond_true he (wpIn_mono (denF_ok x rd m c Q D σ a w hr hd h) ?_)
          rintro e a' w' ⟨D', σ', hr', hd', hq, hs, hu⟩
          exact ⟨D', σ', hr', hd', hq, hs, hu.mono fun t ht => List.mem_append_left _ ht⟩
        · rename_i ht
          have ht : q = false := by simpa using ht
          subst ht
          refine wpIn_cond_false he (wpIn_mono (denF_ok y rd m d Q D σ a w hr hd h) ?_)
          rintro e a' w' ⟨D', σ', hr', hd', hq, hs, hu⟩
          exact ⟨D', σ', hr', hd', hq, hs, hu.mono fun t ht => List.mem_append_right _ ht⟩
      · exact h.elim
    · exact h.elim
  | .block x, rd, m, c, Q, D, σ, a, w, hr, hd, h => by
    unfold denF at h
    split at h
    · rename_i id c
      refine wpIn_block (wpIn_mono (denF_ok x rd m c _ D σ a w hr hd h) ?_)
      rintro e a' w' ⟨D', σ', hr', hd', hq, hs, hu⟩
      cases e with
      | exit id' =>
        simp only [Exit.inBlock]
        simp only [blockF, blkE] at hq
        by_cases hid : id' = id
        · subst hid
          simp only [Nat.beq_refl] at hq
          rw [if_pos rfl]; exact ⟨D', σ', hr', hd', hq, hs, hu⟩
        · rw [if_neg hid]
          have : Nat.beq id' id = false := by cases hb : Nat.beq id' id; rfl; exact absurd (Nat.eq_of_beq_eq_true hb) hid
          rw [this] at hq
          exact ⟨D', σ', hr', hd', hq, hs, hu⟩
      | _ => exact ⟨D', σ', hr', hd', hq, hs, hu⟩
    · exact h.elim
  | .loop L x, rd, m, c, Q, D, σ, a, w, hr, hd, h => by
    unfold denF at h
    split at h
    · rename_i c
      obtain ⟨I, μ, h0, hstep⟩ := h
      refine wpIn_loop (fun a' w' => ∃ σ', Rel n σ' (Act.bare a') ∧ a'.defers = D.map mark ∧ apE False L I σ' (fun f => f w'.heap) ∧ Same w w' ∧ Unch (writes c) (Act.bare a) (Act.bare a'))
        (fun a' w' => apE 0 L μ (envOf a') (fun f => f w'.heap)) ⟨σ, hr, hd, h0, Same.refl w, Unch.refl _ _⟩ ?_
      rintro a' w' ⟨σ', hr', hd', hI, hs, hu⟩
      obtain ⟨σ'', hF, hsub, hL, _⟩ := allE_at L _ I hstep hI
      have hr'' := Rel.of_sub hr hr' hu hsub
      have hI'' : apE False L I σ'' (fun f => f w'.heap) := by rw [apE_congr L I hL]; exact hI
      have hdn := hF w'.heap hI''
      refine wpIn_mono (denF_ok x rd m c _ D σ'' a' w' hr'' hd' hdn) ?_
      rintro e a1 w1 ⟨D1, σ1, hr1, hd1, hq, hs1, hu1⟩
      have ev : ∀ b : Act, envOf (Act.bare b) = envOf b := fun _ => rfl
      cases e with
      | normal =>
        obtain ⟨rfl, hI1, hlt⟩ := hq
        refine ⟨⟨σ1, hr1, hd1, hI1, hs.trans hs1, hu.trans hu1⟩, ?_⟩
        rw [← ev a1, ← ev a', apE_envOf hr1 (apE_def L I hI1), apE_envOf hr'' (apE_def L I hI'')]
        exact hlt
      | _ => exact ⟨D1, σ1, hr1, hd1, hq, hs.trans hs1, hu.trans hu1⟩
    · exact h.elim
  | .join L x, rd, m, c, Q, D, σ, a, w, hr, hd, h => by
    unfold denF at h
    unfold JoinP at h
    refine wpIn_mono (denF_ok x rd m c _ D σ a w hr hd h) ?_
    rintro e a' w' ⟨D', σ', hr', hd', hq, hs, hu⟩
    cases e with
    | normal =>
      obtain ⟨rfl, hq⟩ := hq
      obtain ⟨σ'', hQ, hsub⟩ := apE_lamE L _ hq
      exact ⟨D', σ'', Rel.of_sub hr hr' hu hsub, hd', hQ, hs, hu⟩
    | _ => exact ⟨D', σ', hr', hd', hq, hs, hu⟩
  | .scope z L x y, rd, m, c, Q, D, σ, a, w, hr, hd, h => by
    unfold denF at h
    split at h
    · rename_i g ps asg bdy
      split at h
      · rename_i v hrd hps hg
        have hrd : rd = none := by cases rd with | none => rfl | some _ => cases hrd
        subst hrd
        have hps := natsEq_eq hps
        obtain ⟨gf, lb, rfl, hb, hc⟩ := h
        have hev : a.eval g = .func (.func gf) #[] lb := hr.fits _ _ hg
        refine wpIn_rangeFunc fun gn _ => ?_
        obtain ⟨rec, hrec⟩ : ∃ rec : Recs, rec = fun s p => { state := s, pending := p, fn := gn, tmps := a.tmps, params := ps, assign := asg, body := bdy, defers := w.heap.size } := ⟨_, rfl⟩
        have hcall := hc rec (fun s p => by rw [hrec]; exact ⟨rfl, rfl⟩) ?round
        case round =>
          intro args g1 C hat hB w1 hw1
          subst hw1
          obtain ⟨vs, rfl, hput⟩ := exShs_some hB
          obtain ⟨hlen, σ1, hr1, hden⟩ := putAll_ok _ _ σ a.tmps hr hput
          have hsz : args.toArray.size = ps.size := by rw [← Array.length_toList (xs := ps), ← hps, hlen]; simp
          refine ⟨gn, (ps.zip args.toArray).foldl (fun tmps (t, a) => tmps.setIfInBounds t a) a.tmps, asg, bdy, ?_, fun r m2 => ?_⟩
          · rw [hrec] at hat
            exact run_yield hat hsz
          have etm : (ps.zip args.toArray).foldl (fun tmps (t, a) => tmps.setIfInBounds t a) a.tmps = ((L.map (·.1)).zip args).foldl (fun t (p, v) => t.setIfInBounds p v) a.tmps := by
            rw [hps, ← Array.foldl_toList, Array.toList_zip]
          refine roundIn_of_wpIn (F := fw r) trivial ?_
          rw [etm]
          refine wpIn_mono (denF_ok x (some (w.heap.size + 1)) m2 asg _ [] σ1 { tmps := ((L.map (·.1)).zip args).foldl (fun t (p, v) => t.setIfInBounds p v) a.tmps, defers := [] } w1 hr1 rfl hden) ?_
          rintro e a2 w2 ⟨D2, σ2, hr2, hd2, hq, hs2, _⟩
          cases e with
          | normal =>
            obtain ⟨hat2, hbody⟩ := hq
            have hb2 : (rec .ready none).state = .ready := by rw [hrec]
            have e2 : ({ (rec .ready none) with state := .busy } : Loop) = rec .busy none := by rw [hrec]
            refine ⟨w2.putObj (w.heap.size + 1) (.loop (rec .busy none)), by rw [← e2]; exact run_beginRound hat2 hb2, ?_⟩
            refine wpIn_mono (denF_ok y (some (w.heap.size + 1)) m2 bdy _ D2 σ2 a2 (w2.putObj (w.heap.size + 1) (.loop (rec .busy none))) hr2 hd2 (hbody _ rfl)) ?_
            rintro e3 a3 w3 ⟨D3, σ3, hr3, hd3, hq3, hs3, _⟩
            have hs4 : ∀ o, Same w1 (w3.putObj (w.heap.size + 1) o) := fun o => hs2.trans ((same_put _ _ _).trans (hs3.trans (same_put _ _ _)))
            have fin : ∀ (j : Option Code), AtL w3.heap (w.heap.size + 1) (rec .busy none) → C j.isNone (setLoop w3.heap (w.heap.size + 1) (rec (if j.isNone then .ready else .done) j)) →
                ∃ v w', (Instr.endRound (w.heap.size + 1) j).run P w3 = .ok v w' ∧ ∃ v', Ending.returned v = .returned v' ∧ (∃ b, v' = .bool b ∧ C b w'.heap) ∧ Same w1 w' := fun j hat3 hC => by
              have e5 : ({ (rec .busy none) with state := if j.isNone then .ready else .done, pending := j } : Loop) = rec (if j.isNone then .ready else .done) j := by rw [hrec]
              refine ⟨_, _, run_endRound j hat3, _, rfl, ⟨_, rfl, ?_⟩, hs4 _⟩
              rw [e5]; exact hC
            cases e3 with
            | normal => exact fin none hq3.1 hq3.2
            | ret => exact fin (some .ret) hq3.1 hq3.2
            | exit i => exact fin (some (.exit i)) hq3.1 hq3.2
            | _ => exact hq3.elim
          | _ => exact hq.elim
        have henter : (callFunc gf (#[.func (.yield (w.heap.size + 1)) #[] #[]] ++ lb)).run P ((w.alloc (.deferred (some []))).alloc (.loop (rec .ready none))) = .ok (.enter gf (#[.func (.yield (w.heap.size + 1)) #[] #[]] ++ lb)) ((w.alloc (.deferred (some []))).alloc (.loop (rec .ready none))) := by
          unfold hasBody at hb
          split at hb
          · rename_i fn' hfn
            simp only [Bool.and_eq_true, Bool.not_eq_true'] at hb
            have hn : fn'.body.isNone = false := by cases hq : fn'.body <;> simp [hq] at hb ⊢
            unfold callFunc
            have h1 : ¬ fn'.name = "runtime.NumGoroutine" := fun e => by have := hb.2; rw [e] at this; cases this
            have h2 : ¬ fn'.body = none := fun e => by rw [e] at hn; cases hn
            simp [go_sem, hfn, h1, h2]
          · cases hb
        refine ⟨w.heap.size + 1, [{ target := .collected w.heap.size, args := #[] }], (w.alloc (.deferred (some []))).alloc (.loop (rec .ready none)), { target := .fn (.func gf) lb, args := #[.func (.yield (w.heap.size + 1)) #[] #[]] }, (w.alloc (.deferred (some []))).alloc (.loop (rec .ready none)), gf, #[.func (.yield (w.heap.size + 1)) #[] #[]] ++ lb, (w.alloc (.deferred (some []))).alloc (.loop (rec .ready none)), ?_, ?_, fun _ _ => trivial, by simp only [invoke]; exact henter, fw_depth, ?_⟩
        · rw [hrec]; exact run_enterLoop_outer gn a.tmps ps asg bdy
        · simp only [resolve, hev]
          simp [go_sem]
        · refine CallsIn.mono (calls_fw (hcall _ rfl)) ?_
          rintro e w3 ⟨v, rfl, ⟨st, pe, hst, hat, hJ⟩, hs⟩
          have hs' : Same w w3 := (same_alloc w _).trans ((same_alloc _ _).trans hs)
          have e5 : ({ (rec st pe) with state := .exhausted } : Loop) = rec .exhausted pe := by rw [hrec]
          refine ⟨(rec st pe).pending, _, run_endLoop hat (by rw [hrec]; exact hst), ?_⟩
          rw [e5, show (rec st pe).pending = pe by rw [hrec]]
          have hs4 : Same w (w3.putObj (w.heap.size + 1) (.loop (rec .exhausted pe))) := hs'.trans (same_put _ _ _)
          have hd' : ([{ target := .collected w.heap.size, args := #[] }] : List Deferred) ++ a.defers = (w.heap.size :: D).map mark := by rw [hd]; rfl
          cases pe with
          | none => exact ⟨w.heap.size :: D, σ, hr, hd', hJ, hs4, Unch.refl _ _⟩
          | some c =>
            cases c with
            | ret => exact wpIn_ret ⟨w.heap.size :: D, σ, hr, hd', hJ, hs4, Unch.refl _ _⟩
            | exit i =>
              cases z with
              | zero => exact hJ.elim
              | succ z => exact wpIn_exit ⟨w.heap.size :: D, σ, hr, hd', hJ, hs4, Unch.refl _ _⟩
            | _ => exact hJ.elim
      · exact h.elim
    · exact h.elim
def marksOff : List Nat → Heap → (Heap → Prop) → Prop
  | [], h, K => K h
  | d :: D, h, K => h[d]? = some (.deferred (some [])) ∧ marksOff D (h.setIfInBounds d (.deferred none)) K
def retF (P : Program) (rs : Array ResultVar) (R : Value → Heap → Prop) : Exit → List Nat → Env → Heap → Prop
  | .normal, D, σ, h => marksOff D h fun h' => resL P rs.toList σ h' fun vs => R (oneOr vs) h'
  | .ret, D, σ, h => marksOff D h fun h' => resL P rs.toList σ h' fun vs => R (oneOr vs) h'
  | _, _, _, _ => False
theorem leaves_ok {tmps : Array Value} {σ : Env} (hr : Rel n σ { tmps := tmps, defers := [] }) : ∀ (D : List Nat) (w : World), Same w0 w →
    marksOff D w.heap (fun h' => resL P fn.results.toList σ h' fun vs => R (oneOr vs) h') →
    LeavesInM (fw none) m P fn tmps (fun e w' => ∃ v, e = .returned v ∧ R v w'.heap ∧ Same w0 w') (D.map mark) .returning w
  | [], w, hs, h => by
    have ⟨v, h1, h2⟩ := results_ok (F := fun v => R v w.heap) hr h
    exact ⟨v, rd_run _ _ _ h2, v, rfl, h1, hs⟩
  | d :: D, w, hs, h => ⟨by simp, .inl ⟨d, w.putObj d (.deferred none), rfl, run_takeDeferred h.1, leaves_ok hr D _ (hs.trans (same_put _ _ _)) h.2⟩⟩
theorem callsH_of_bodyF {args : List Value} {h : Heap} (ann : Ann)
    (hf : P.funcs[f]? = some fn) (hb : fn.body.isSome = true) (hn : Nat.ble args.length fn.ntmps = true)
    (hd : denF P fn.ntmps false ann (bodyOf fn) (retF P fn.results R) [] (argEnv args) h) : CallsH P f args.toArray h R := by
  have ⟨c, hc⟩ := Option.isSome_iff_exists.1 hb
  rw [bodyOf, hc] at hd
  intro w hw
  subst hw
  have hn := Nat.le_of_ble_eq_true hn
  refine (callsIn_wide (n := 0)).1 (callsIn_of_wp_marks hf hc trivial ?_)
  have hr : Rel fn.ntmps (argEnv args) { tmps := args.toArray ++ Array.replicate (fn.ntmps - args.toArray.size) undef, defers := [] } := by
    refine ⟨rfl, by grind, fun t v hv => ?_⟩
    unfold argEnv at hv
    have hlt  := (List.getElem?_eq_some_iff.1 hv).1
    simp only [Array.getD_eq_getD_getElem?]
    rw [Array.getElem?_append_left (by omega)]
    simp [hv]
  refine wpIn_mono (denF_ok ann none 0 c _ [] _ { tmps := args.toArray ++ Array.replicate (fn.ntmps - args.toArray.size) undef, defers := [] } w hr rfl hd) ?_
  rintro e a w' ⟨D, σ, hr, hds, hq, hs, _⟩
  cases e with
  | exit id => exact hq.elim
  | goto l => exact hq.elim
  | panic ch => exact hq.elim
  | outgrown => exact hq.elim
  | _ => show LeavesInM _ _ _ _ _ _ a.defers _ _; rw [hds]; exact leaves_ok hr D w' hs hq

end
end Go.Den
namespace Go.Proofs.YticlajoleibdnaaGreatDoor
open Go.Den
open IntKind (wrap)
open Int (toNat)
section
variable {h:Heap} {R:TyP}
variable {b_p:TyO} {b_l b_c d:Nat}
theorem super_get.walk (hv :
 ∃ (I : Int → Int → Heap → Prop) (mu : Int → Int → Heap → Nat), I 0 0 h ∧ ∀ n t8 h_1, I n t8 h_1 →
 ite (decide (t8 < ((b_l : Nat) : Int)))
 (  ((0 : Int) ≤ t8 ∧ t8 < ((b_l : Nat) : Int)) ∧
 onSome b_p fun a =>
 ∃ t11, hcell h_1 (a.add (Int.toNat t8 * 1)) = some (.int .u8 t11) ∧
 (I (IntKind.wrap .u64 ((BitVec.ofInt (IntKind.bits .u64) (IntKind.wrap .u64 (n * 2 ^ min (Int.toNat 8) (IntKind.bits .u64))) ||| BitVec.ofInt (IntKind.bits .u64) (IntKind.wrap .u64 t11)).toNat : Int)) (IntKind.wrap .i64 (t8 + 1)) h_1 ∧ mu (IntKind.wrap .u64 ((BitVec.ofInt (IntKind.bits .u64) (IntKind.wrap .u64 (n * 2 ^ min (Int.toNat 8) (IntKind.bits .u64))) ||| BitVec.ofInt (IntKind.bits .u64) (IntKind.wrap .u64 t11)).toNat : Int)) (IntKind.wrap .i64 (t8 + 1)) h_1 < mu n t8 h_1))
 (  R (.int .u64 n) h_1)) : Cl 409 #[.slice b_p b_l b_c] h R :=
 callsN [(8, .loop [(3, sU), (8, sI)])] hv
theorem super_Read.walk (hv :
 NewP h (.cells super_Super.S.z.arr 337) fun b h_1 =>
 ite (((b_l : Nat) : Int) != 128)
 (  super_Super.STp h_1 ⟨b, 0, none⟩ super_Super.S.z fun h_2 =>
 super_Super.LDp h_2 ⟨b, 0, none⟩ fun r0 =>
 R (.tuple #[r0.agg, .int .i64 3]) h_2)
 (  JoinP (fun (s : Option Addr) h_3 =>
 onSome s fun a =>
 super_Super.LDp h_3 a fun t24 =>
 Cl 358 #[t24.agg] h_3 fun v h_4 =>
 ∃ t25_0_p t25_0_l t25_0_c t25_1, v = .tuple #[.slice t25_0_p t25_0_l t25_0_c, .int .i64 t25_1] ∧
 JoinP (fun (t35 : Bool) h_5 =>
 ite t35
 (  super_Super.STp h_5 ⟨b, 0, none⟩ super_Super.S.z fun h_6 =>
 super_Super.LDp h_6 ⟨b, 0, none⟩ fun r0_1 =>
 R (.tuple #[r0_1.agg, .int .i64 3]) h_6)
 (  onSome s fun a_1 =>
 super_Super.LDp h_5 a_1 fun t37 =>
 super_Super.STp h_5 ⟨b, 0, none⟩ t37 fun h_7 =>
 super_Super.LDp h_7 ⟨b, 0, none⟩ fun r0_2 =>
 R (.tuple #[r0_2.agg, .int .i64 0]) h_7))
 (fun J_1 =>
 ite (t25_1 != 0)
 (  J_1 true h_4)
 (  Cl 194 #[.slice t25_0_p t25_0_l t25_0_c, .slice b_p b_l b_c] h_4 fun v_1 h_8 =>
 ∃ t33, v_1 = .bool t33 ∧
 J_1 (!t33) h_8)))
 (fun J =>
 ((0 : Int) ≤ 12 ∧ 12 ≤ ((b_c : Nat) : Int)) ∧ ((0 : Int) ≤ 4 ∧ (4 : Int) ≤ 12) ∧
 ((0 : Int) ≤ 12 ∧ 12 < ((b_l : Nat) : Int)) ∧
 onSome b_p fun a_2 =>
 ∃ t16, hcell h_1 (a_2.add (Int.toNat 12 * 1)) = some (.int .u8 t16) ∧
 ((0 : Int) ≤ 17 ∧ 17 ≤ ((b_c : Nat) : Int)) ∧ ((0 : Int) ≤ 13 ∧ (13 : Int) ≤ 17) ∧
 (Cl 409 #[.slice (slBase b_p b_c (Int.toNat 4) 1) ((Int.toNat 12) - (Int.toNat 4)) (b_c - (Int.toNat 4))] h_1 fun v_2 h_9 =>
 ∃ t13, v_2 = .int .u64 t13 ∧
 Kp h_1 h_9 [(some (a_2.add (Int.toNat 12 * 1)))] ∧
 (Cl 409 #[.slice (slBase b_p b_c (Int.toNat 13) 1) ((Int.toNat 17) - (Int.toNat 13)) (b_c - (Int.toNat 13))] h_9 fun v_3 h_10 =>
 ∃ t20, v_3 = .int .u64 t20 ∧
 Kp h_9 h_10 [(some (a_2.add (Int.toNat 12 * 1)))] ∧
 NewP h_10 (.cells super_Super.S.z.arr 337) fun b_1 h_11 =>
 Kp h_10 h_11 [(some (a_2.add (Int.toNat 12 * 1)))] ∧
 super_Super.STp h_11 ⟨b_1, 0, none⟩ ⟨t13, (IntKind.wrap .i64 t16), (IntKind.wrap .i64 t20)⟩ fun h_12 =>
 J (some ⟨b_1, 0, none⟩) h_12) ∧
 (NewP h_9 (.cells super_Super.S.z.arr 337) fun b_2 h_13 =>
 Kp h_9 h_13 [(some (a_2.add (Int.toNat 12 * 1)))] ∧
 Cl 409 #[.slice (slBase b_p b_c (Int.toNat 13) 1) ((Int.toNat 17) - (Int.toNat 13)) (b_c - (Int.toNat 13))] h_13 fun v_4 h_14 =>
 ∃ t20_1, v_4 = .int .u64 t20_1 ∧
 Kp h_13 h_14 [(some (a_2.add (Int.toNat 12 * 1)))] ∧
 super_Super.STp h_14 ⟨b_2, 0, none⟩ ⟨t13, (IntKind.wrap .i64 t16), (IntKind.wrap .i64 t20_1)⟩ fun h_15 =>
 J (some ⟨b_2, 0, none⟩) h_15) ∧
 True) ∧
 (NewP h_1 (.cells super_Super.S.z.arr 337) fun b_3 h_16 =>
 Kp h_1 h_16 [(some (a_2.add (Int.toNat 12 * 1)))] ∧
 Cl 409 #[.slice (slBase b_p b_c (Int.toNat 4) 1) ((Int.toNat 12) - (Int.toNat 4)) (b_c - (Int.toNat 4))] h_16 fun v_5 h_17 =>
 ∃ t13_1, v_5 = .int .u64 t13_1 ∧
 Kp h_16 h_17 [(some (a_2.add (Int.toNat 12 * 1)))] ∧
 Cl 409 #[.slice (slBase b_p b_c (Int.toNat 13) 1) ((Int.toNat 17) - (Int.toNat 13)) (b_c - (Int.toNat 13))] h_17 fun v_6 h_18 =>
 ∃ t20_2, v_6 = .int .u64 t20_2 ∧
 Kp h_17 h_18 [(some (a_2.add (Int.toNat 12 * 1)))] ∧
 super_Super.STp h_18 ⟨b_3, 0, none⟩ ⟨t13_1, (IntKind.wrap .i64 t16), (IntKind.wrap .i64 t20_2)⟩ fun h_19 =>
 J (some ⟨b_3, 0, none⟩) h_19) ∧
 True))) : Cl 348 #[.slice b_p b_l b_c] h R :=
 callsN [(11, .join [(4, sP)]), (11, fun _ => .planK (opL [0,1] (runP 6 3 (.alts (.fork 2 (.alts (.fork 9 (runP 4 10 .done) (.fork 12 (runP 3 9 (.op 13 .done)) .noalt))) (.fork 12 (.op 2 (runP 3 9 (.op 13 .done))) .noalt)))))), (16, .join [(35, sB)])] hv
theorem super_Newest.walk (hv :
 NewP h (.cells super_Super.S.z.arr 337) fun b h_1 =>
 NewP h_1 (.cells super_Super.S.z.arr 337) fun b_1 h_2 =>
 ∃ (I : Int → Heap → Prop) (mu : Int → Heap → Nat), I 0 h_2 ∧ ∀ t9 h_3, I t9 h_3 →
 ite (decide (t9 < 2))
 (  JoinP (fun h_4 =>
 (I (IntKind.wrap .i64 (t9 + 1)) h_4 ∧ mu (IntKind.wrap .i64 (t9 + 1)) h_4 < mu t9 h_3))
 (fun J =>
 Cl 347 #[.pointer (some ⟨d, 0, none⟩), .int .i64 t9] h_3 fun v h_5 =>
 ∃ t15_0_p t15_0_l t15_0_c t15_1, v = .tuple #[.slice t15_0_p t15_0_l t15_0_c, .int .i64 t15_1] ∧
 ite (t15_1 != 0)
 (  super_Super.STp h_5 ⟨b, 0, none⟩ super_Super.S.z fun h_6 =>
 super_Super.LDp h_6 ⟨b, 0, none⟩ fun r0 =>
 R (.tuple #[r0.agg, .int .i64 t15_1]) h_6)
 (  Cl 348 #[.slice t15_0_p t15_0_l t15_0_c] h_5 fun v_1 h_7 =>
 super_Super.EX fun t24_0 =>
 ∃ t24_1, v_1 = .tuple #[t24_0.agg, .int .i64 t24_1] ∧
 NewP h_7 (.cells super_Super.S.z.arr 337) fun b_2 h_8 =>
 super_Super.STp h_8 ⟨b_2, 0, none⟩ t24_0 fun h_9 =>
 JoinP (fun (t41 : Bool) h_10 =>
 JoinP (fun h_11 =>
 J h_11)
 (fun J_2 =>
 ite t41
 (  super_Super.LDp h_10 ⟨b_2, 0, none⟩ fun t42 =>
 super_Super.STp h_10 ⟨b_1, 0, none⟩ t42 fun h_12 =>
 J_2 h_12)
 (  J_2 h_10)))
 (fun J_1 =>
 ite (t24_1 == 0)
 (  super_Super.LDp h_9 ⟨b_2, 0, none⟩ fun t30 =>
 Cl 349 #[t30.agg] h_9 fun v_2 h_13 =>
 ∃ t31, v_2 = .int .i64 t31 ∧
 ite (t31 == t9)
 (  ∃ t37, hcell h_13 ⟨b_2, 0, none⟩ = some (.int .u64 t37) ∧
 ∃ t39, hcell h_13 ⟨b_1, 0, none⟩ = some (.int .u64 t39) ∧
 J_1 (decide (t37 > t39)) h_13)
 (  J_1 false h_13))
 (  J_1 false h_9)))))
 (  super_Super.LDp h_3 ⟨b_1, 0, none⟩ fun t44 =>
 ∃ (eq : Bool), Eqz 337 (t44.agg) (super_Super.S.z.agg) eq ∧
 ite eq
 (  super_Super.STp h_3 ⟨b, 0, none⟩ super_Super.S.z fun h_14 =>
 super_Super.LDp h_14 ⟨b, 0, none⟩ fun r0_1 =>
 R (.tuple #[r0_1.agg, .int .i64 4]) h_14)
 (  super_Super.LDp h_3 ⟨b_1, 0, none⟩ fun t48 =>
 super_Super.STp h_3 ⟨b, 0, none⟩ t48 fun h_15 =>
 super_Super.LDp h_15 ⟨b, 0, none⟩ fun r0_2 =>
 R (.tuple #[r0_2.agg, .int .i64 0]) h_15))) : Cl 285 #[.pointer (some ⟨d, 0, none⟩)] h R :=
 callsN [(8, .loop [(9, sI)]), (16, .join []), (32, .join [(41, sB)]), (33, .join [])] hv
theorem area_Get.walk {a : area_Area.S} {v_at : Int} {n : Int} (hv :
 NewP h (.cells a.arr 334) fun b h_1 =>
 ∃ (I : Int → Int → Option Addr → Nat → Nat → Heap → Prop) (mu : Int → Int → Option Addr → Nat → Nat → Heap → Nat), (
 area_Area.LDp h_1 ⟨b, 0, none⟩ fun t17 =>
 Cl 350 #[.pointer (some ⟨d, 0, none⟩), t17.agg, .int .i64 v_at, .int .i64 n] h_1 fun v h_2 =>
 ∃ t20, v = .int .i64 t20 ∧
 ite (t20 != 0)
 (  R (.tuple #[.slice none 0 0, .int .i64 t20]) h_2)
 (  I v_at n none 0 0 h_2)) ∧ ∀ v_at_1 n_1 out_p out_l out_c h_3, I v_at_1 n_1 out_p out_l out_c h_3 →
 ite (decide (n_1 > 0))
 (  ∃ t29, hcell h_3 ⟨b, 0, none⟩ = some (.int .i64 t29) ∧
 Cl 347 #[.pointer (some ⟨d, 0, none⟩), .int .i64 (IntKind.wrap .i64 (t29 + (IntKind.wrap .i64 (Int.tdiv v_at_1 128))))] h_3 fun v_1 h_4 =>
 ∃ t33_0_p t33_0_l t33_0_c t33_1, v_1 = .tuple #[.slice t33_0_p t33_0_l t33_0_c, .int .i64 t33_1] ∧
 ite (t33_1 != 0)
 (  R (.tuple #[.slice none 0 0, .int .i64 t33_1]) h_4)
 (  ((0 : Int) ≤ IntKind.wrap .i64 ((Int.tmod v_at_1 128) + (if IntKind.wrap .i64 (128 - (Int.tmod v_at_1 128)) < n_1 then IntKind.wrap .i64 (128 - (Int.tmod v_at_1 128)) else n_1)) ∧ IntKind.wrap .i64 ((Int.tmod v_at_1 128) + (if IntKind.wrap .i64 (128 - (Int.tmod v_at_1 128)) < n_1 then IntKind.wrap .i64 (128 - (Int.tmod v_at_1 128)) else n_1)) ≤ ((t33_0_c : Nat) : Int)) ∧ ((0 : Int) ≤ Int.tmod v_at_1 128 ∧ Int.tmod v_at_1 128 ≤ IntKind.wrap .i64 ((Int.tmod v_at_1 128) + (if IntKind.wrap .i64 (128 - (Int.tmod v_at_1 128)) < n_1 then IntKind.wrap .i64 (128 - (Int.tmod v_at_1 128)) else n_1))) ∧
 Dsz (Builtin.append_ #[69, 69] 69 #[.slice out_p out_l out_c, .slice (slBase t33_0_p t33_0_c (Int.toNat (Int.tmod v_at_1 128)) 1) ((Int.toNat (IntKind.wrap .i64 ((Int.tmod v_at_1 128) + (if IntKind.wrap .i64 (128 - (Int.tmod v_at_1 128)) < n_1 then IntKind.wrap .i64 (128 - (Int.tmod v_at_1 128)) else n_1)))) - (Int.toNat (Int.tmod v_at_1 128))) (t33_0_c - (Int.toNat (Int.tmod v_at_1 128)))]) h_4 fun v_2 h_5 =>
 ∃ t52_p t52_l t52_c, v_2 = .slice t52_p t52_l t52_c ∧
 (I (IntKind.wrap .i64 (v_at_1 + (if IntKind.wrap .i64 (128 - (Int.tmod v_at_1 128)) < n_1 then IntKind.wrap .i64 (128 - (Int.tmod v_at_1 128)) else n_1))) (IntKind.wrap .i64 (n_1 - (if IntKind.wrap .i64 (128 - (Int.tmod v_at_1 128)) < n_1 then IntKind.wrap .i64 (128 - (Int.tmod v_at_1 128)) else n_1))) t52_p t52_l t52_c h_5 ∧ mu (IntKind.wrap .i64 (v_at_1 + (if IntKind.wrap .i64 (128 - (Int.tmod v_at_1 128)) < n_1 then IntKind.wrap .i64 (128 - (Int.tmod v_at_1 128)) else n_1))) (IntKind.wrap .i64 (n_1 - (if IntKind.wrap .i64 (128 - (Int.tmod v_at_1 128)) < n_1 then IntKind.wrap .i64 (128 - (Int.tmod v_at_1 128)) else n_1))) t52_p t52_l t52_c h_5 < mu v_at_1 n_1 out_p out_l out_c h_3)))
 (  R (.tuple #[.slice out_p out_l out_c, .int .i64 0]) h_3)) : Cl 287 #[.pointer (some ⟨d, 0, none⟩), a.agg, .int .i64 v_at, .int .i64 n] h R :=
 callsN [(2, fun _ => .scope 0 [(2, sI), (3, sI), (11, sS)] (sq (lq (lq (cq ll lf))) (lq ll)) (lq (sq (lq (cq (lq (sq (lq (cq ll lf)) (lq (lq (lq ll))))) lf)) ll)))] hv
theorem journal_records.walk (hv :
 NewP h (.cells #[.slice b_p b_l b_c] 69) fun b h_1 =>
 R (.func (.func 351) #[] #[.pointer (some ⟨b, 0, none⟩)]) h_1) : Cl 288 #[.slice b_p b_l b_c] h R :=
 callsN [] hv
theorem journal_records_1.y.walk {l : Nat} {c0 : Nat} (hv :
 ∃ (I : Heap → Prop) (mu : Heap → Nat), I h ∧ ∀ h_1, I h_1 →
 ∃ t4_p t4_l t4_c, hcell h_1 ⟨c0, 0, none⟩ = some (.slice t4_p t4_l t4_c) ∧
 ite (decide (((t4_l : Nat) : Int) > 0))
 (  ∃ t7_p t7_l t7_c, hcell h_1 ⟨c0, 0, none⟩ = some (.slice t7_p t7_l t7_c) ∧
 ite (decide (((t7_l : Nat) : Int) < 2))
 (  RoundH Tryz.prog l #[.slice none 0 0, .bool false] h_1 fun v h_2 =>
 ∃ (t : Bool), v = .bool t ∧
 R (.tuple #[]) h_2)
 (  ∃ t12_p t12_l t12_c, hcell h_1 ⟨c0, 0, none⟩ = some (.slice t12_p t12_l t12_c) ∧
 ((0 : Int) ≤ 0 ∧ 0 < ((t12_l : Nat) : Int)) ∧
 onSome t12_p fun a =>
 ∃ t14, hcell h_1 (a.add (Int.toNat 0 * 1)) = some (.int .u8 t14) ∧
 ∃ t17_p t17_l t17_c, hcell h_1 ⟨c0, 0, none⟩ = some (.slice t17_p t17_l t17_c) ∧
 ((0 : Int) ≤ 1 ∧ 1 < ((t17_l : Nat) : Int)) ∧
 onSome t17_p fun a_1 =>
 ∃ t19, hcell h_1 (a_1.add (Int.toNat 1 * 1)) = some (.int .u8 t19) ∧
 ∃ t22_p t22_l t22_c, hcell h_1 ⟨c0, 0, none⟩ = some (.slice t22_p t22_l t22_c) ∧
 ((0 : Int) ≤ 2 ∧ 2 ≤ ((t22_l : Nat) : Int)) ∧
 StoreP h_1 ⟨c0, 0, none⟩ (.slice (slBase t22_p t22_c (Int.toNat 2) 1) (t22_l - (Int.toNat 2)) (t22_c - (Int.toNat 2))) fun h_3 =>
 JoinP (fun (t34 : Bool) h_4 =>
 ite t34
 (  RoundH Tryz.prog l #[.slice none 0 0, .bool false] h_4 fun v_1 h_5 =>
 ∃ (t_1 : Bool), v_1 = .bool t_1 ∧
 R (.tuple #[]) h_5)
 (  ∃ t38_p t38_l t38_c, hcell h_4 ⟨c0, 0, none⟩ = some (.slice t38_p t38_l t38_c) ∧
 ((0 : Int) ≤ IntKind.wrap .i64 ((BitVec.ofInt (IntKind.bits .i64) (IntKind.wrap .i64 ((IntKind.wrap .i64 t14) * 2 ^ min (Int.toNat 8) (IntKind.bits .i64))) ||| BitVec.ofInt (IntKind.bits .i64) (IntKind.wrap .i64 t19)).toNat : Int) ∧ IntKind.wrap .i64 ((BitVec.ofInt (IntKind.bits .i64) (IntKind.wrap .i64 ((IntKind.wrap .i64 t14) * 2 ^ min (Int.toNat 8) (IntKind.bits .i64))) ||| BitVec.ofInt (IntKind.bits .i64) (IntKind.wrap .i64 t19)).toNat : Int) ≤ ((t38_c : Nat) : Int)) ∧
 Cl 152 #[.slice (slBase t38_p t38_c 0 1) ((Int.toNat (IntKind.wrap .i64 ((BitVec.ofInt (IntKind.bits .i64) (IntKind.wrap .i64 ((IntKind.wrap .i64 t14) * 2 ^ min (Int.toNat 8) (IntKind.bits .i64))) ||| BitVec.ofInt (IntKind.bits .i64) (IntKind.wrap .i64 t19)).toNat : Int))) - 0) (t38_c - 0)] h_4 fun v_2 h_6 =>
 ∃ t41_p t41_l t41_c, v_2 = .slice t41_p t41_l t41_c ∧
 RoundH Tryz.prog l #[.slice t41_p t41_l t41_c, .bool true] h_6 fun v_3 h_7 =>
 ∃ (t_2 : Bool), v_3 = .bool t_2 ∧
 ite (!t_2)
 (  R (.tuple #[]) h_7)
 (  ∃ t44_p t44_l t44_c, hcell h_7 ⟨c0, 0, none⟩ = some (.slice t44_p t44_l t44_c) ∧
 ((0 : Int) ≤ IntKind.wrap .i64 ((BitVec.ofInt (IntKind.bits .i64) (IntKind.wrap .i64 ((IntKind.wrap .i64 t14) * 2 ^ min (Int.toNat 8) (IntKind.bits .i64))) ||| BitVec.ofInt (IntKind.bits .i64) (IntKind.wrap .i64 t19)).toNat : Int) ∧ IntKind.wrap .i64 ((BitVec.ofInt (IntKind.bits .i64) (IntKind.wrap .i64 ((IntKind.wrap .i64 t14) * 2 ^ min (Int.toNat 8) (IntKind.bits .i64))) ||| BitVec.ofInt (IntKind.bits .i64) (IntKind.wrap .i64 t19)).toNat : Int) ≤ ((t44_l : Nat) : Int)) ∧
 StoreP h_7 ⟨c0, 0, none⟩ (.slice (slBase t44_p t44_c (Int.toNat (IntKind.wrap .i64 ((BitVec.ofInt (IntKind.bits .i64) (IntKind.wrap .i64 ((IntKind.wrap .i64 t14) * 2 ^ min (Int.toNat 8) (IntKind.bits .i64))) ||| BitVec.ofInt (IntKind.bits .i64) (IntKind.wrap .i64 t19)).toNat : Int))) 1) (t44_l - (Int.toNat (IntKind.wrap .i64 ((BitVec.ofInt (IntKind.bits .i64) (IntKind.wrap .i64 ((IntKind.wrap .i64 t14) * 2 ^ min (Int.toNat 8) (IntKind.bits .i64))) ||| BitVec.ofInt (IntKind.bits .i64) (IntKind.wrap .i64 t19)).toNat : Int)))) (t44_c - (Int.toNat (IntKind.wrap .i64 ((BitVec.ofInt (IntKind.bits .i64) (IntKind.wrap .i64 ((IntKind.wrap .i64 t14) * 2 ^ min (Int.toNat 8) (IntKind.bits .i64))) ||| BitVec.ofInt (IntKind.bits .i64) (IntKind.wrap .i64 t19)).toNat : Int))))) fun h_8 =>
 (([] : List Nat) = [] ∧ I h_8 ∧ mu h_8 < mu h_1))))
 (fun J =>
 ∃ t25_p t25_l t25_c, hcell h_3 ⟨c0, 0, none⟩ = some (.slice t25_p t25_l t25_c) ∧
 ite (decide ((IntKind.wrap .i64 ((BitVec.ofInt (IntKind.bits .i64) (IntKind.wrap .i64 ((IntKind.wrap .i64 t14) * 2 ^ min (Int.toNat 8) (IntKind.bits .i64))) ||| BitVec.ofInt (IntKind.bits .i64) (IntKind.wrap .i64 t19)).toNat : Int)) > ((t25_l : Nat) : Int)))
 (  ([] : List Nat) = [] ∧ J true h_3)
 (  ∃ t29_p t29_l t29_c, hcell h_3 ⟨c0, 0, none⟩ = some (.slice t29_p t29_l t29_c) ∧
 ((0 : Int) ≤ IntKind.wrap .i64 ((BitVec.ofInt (IntKind.bits .i64) (IntKind.wrap .i64 ((IntKind.wrap .i64 t14) * 2 ^ min (Int.toNat 8) (IntKind.bits .i64))) ||| BitVec.ofInt (IntKind.bits .i64) (IntKind.wrap .i64 t19)).toNat : Int) ∧ IntKind.wrap .i64 ((BitVec.ofInt (IntKind.bits .i64) (IntKind.wrap .i64 ((IntKind.wrap .i64 t14) * 2 ^ min (Int.toNat 8) (IntKind.bits .i64))) ||| BitVec.ofInt (IntKind.bits .i64) (IntKind.wrap .i64 t19)).toNat : Int) ≤ ((t29_c : Nat) : Int)) ∧
 Cl 227 #[.slice (slBase t29_p t29_c 0 1) ((Int.toNat (IntKind.wrap .i64 ((BitVec.ofInt (IntKind.bits .i64) (IntKind.wrap .i64 ((IntKind.wrap .i64 t14) * 2 ^ min (Int.toNat 8) (IntKind.bits .i64))) ||| BitVec.ofInt (IntKind.bits .i64) (IntKind.wrap .i64 t19)).toNat : Int))) - 0) (t29_c - 0)] h_3 fun v_4 h_9 =>
 ∃ t32, v_4 = .bool t32 ∧
 ([] : List Nat) = [] ∧ J (!t32) h_9))))
 (  R (.tuple #[]) h_1)) : Cl 351 #[.func (.yield l) #[] #[], .pointer (some ⟨c0, 0, none⟩)] h R :=
 callsH_of_bodyF (.block (.loop [] (.seq (.seq .leaf (.cond .leaf .leaf)) (.block (.seq (.seq .leaf (.cond (.seq .leaf .leaf) .leaf)) (.seq (.plan (runP 11 0 .done)) (.seq .leaf (.seq (.seq (.join [(34, .one (.bool))] .leaf) (.cond (.seq .leaf .leaf) .leaf)) (.seq (.seq .leaf (.cond .leaf .leaf)) .leaf))))))))) Tryz.func351 rfl rfl (Eq.mp (by kernel_rfl) hv)
theorem journal_Open.walk (hv :
 NewP h (.cells #[.pointer none] 231) fun b h_1 =>
 NewP h_1 (.cells #[.slice none 0 0] 164) fun b_1 h_2 =>
 NewP h_2 (.cells #[.int .i64 0] 28) fun b_2 h_3 =>
 Cl 285 #[.pointer (some ⟨d, 0, none⟩)] h_3 fun v h_4 =>
 super_Super.EX fun t14_0 =>
 ∃ t14_1, v = .tuple #[t14_0.agg, .int .i64 t14_1] ∧
 NewP h_4 (.cells super_Super.S.z.arr 337) fun b_3 h_5 =>
 super_Super.STp h_5 ⟨b_3, 0, none⟩ t14_0 fun h_6 =>
 ite (t14_1 != 0)
 (  StoreP h_6 ⟨b, 0, none⟩ (.pointer none) fun h_7 =>
 StoreP h_7 ⟨b_1, 0, none⟩ (.slice none 0 0) fun h_8 =>
 StoreP h_8 ⟨b_2, 0, none⟩ (.int .i64 t14_1) fun h_9 =>
 ∃ r0, hcell h_9 ⟨b, 0, none⟩ = some (.pointer r0) ∧
 ∃ r1_p r1_l r1_c, hcell h_9 ⟨b_1, 0, none⟩ = some (.slice r1_p r1_l r1_c) ∧
 ∃ r2, hcell h_9 ⟨b_2, 0, none⟩ = some (.int .i64 r2) ∧
 R (.tuple #[.pointer r0, .slice r1_p r1_l r1_c, .int .i64 r2]) h_9)
 (  super_Super.LDp h_6 ⟨b_3, 0, none⟩ fun t21 =>
 Cl 286 #[.pointer (some ⟨d, 0, none⟩), t21.agg] h_6 fun v_1 h_10 =>
 ∃ t22, v_1 = .pointer t22 ∧
 ∃ t27, hcell h_10 ⟨b_3, 1, none⟩ = some (.int .i64 t27) ∧
 onSome t22 fun a =>
 ((0 : Int) ≤ t27 ∧ t27 < ((2 : Nat) : Int)) ∧
 area_Area.LDp h_10 ((a.add 1).add (Int.toNat t27 * 2)) fun t31 =>
 ∃ t33, hcell h_10 ⟨b_3, 2, none⟩ = some (.int .i64 t33) ∧
 Cl 287 #[.pointer (some ⟨d, 0, none⟩), t31.agg, .int .i64 0, .int .i64 t33] h_10 fun v_2 h_11 =>
 ∃ t34_0_p t34_0_l t34_0_c t34_1, v_2 = .tuple #[.slice t34_0_p t34_0_l t34_0_c, .int .i64 t34_1] ∧
 hcell h_11 ⟨b_3, 1, none⟩ = some (.int .i64 t27) ∧
 ite (t34_1 != 0)
 (  StoreP h_11 ⟨b, 0, none⟩ (.pointer none) fun h_12 =>
 StoreP h_12 ⟨b_1, 0, none⟩ (.slice none 0 0) fun h_13 =>
 StoreP h_13 ⟨b_2, 0, none⟩ (.int .i64 3) fun h_14 =>
 ∃ r0_1, hcell h_14 ⟨b, 0, none⟩ = some (.pointer r0_1) ∧
 ∃ r1_p_1 r1_l_1 r1_c_1, hcell h_14 ⟨b_1, 0, none⟩ = some (.slice r1_p_1 r1_l_1 r1_c_1) ∧
 ∃ r2_1, hcell h_14 ⟨b_2, 0, none⟩ = some (.int .i64 r2_1) ∧
 R (.tuple #[.pointer r0_1, .slice r1_p_1 r1_l_1 r1_c_1, .int .i64 r2_1]) h_14)
 (  NewP h_11 (.cells #[.slice none 0 0] 164) fun b_4 h_15 =>
 Cl 288 #[.slice t34_0_p t34_0_l t34_0_c] h_15 fun v_3 h_16 =>
 ∃ t40, v_3 = t40 ∧
 RangeP Tryz.prog (t40) h_16 (fun rec C args h_17 =>
 ∃ t41_p t41_l t41_c t42, args = [.slice t41_p t41_l t41_c, .bool t42] ∧
 AtL h_17 (h_16.size + 1) (rec .ready none) ∧ ∀ h_18, h_18 = setLoop h_17 (h_16.size + 1) (rec .busy none) →
 ite (!t42)
 (  StoreP h_18 ⟨b, 0, none⟩ (.pointer none) fun h_19 =>
 StoreP h_19 ⟨b_1, 0, none⟩ (.slice none 0 0) fun h_20 =>
 StoreP h_20 ⟨b_2, 0, none⟩ (.int .i64 3) fun h_21 =>
 (AtL h_21 (h_16.size + 1) (rec .busy none) ∧ C false (setLoop h_21 (h_16.size + 1) (rec .done (some .ret)))))
 (  ∃ t45_p t45_l t45_c, hcell h_18 ⟨b_4, 0, none⟩ = some (.slice t45_p t45_l t45_c) ∧
 NewP h_18 (.cells #[.slice t41_p t41_l t41_c] 69) fun b_5 h_22 =>
 Dsz (Builtin.append_ #[164, 164] 164 #[.slice t45_p t45_l t45_c, .slice (some ⟨b_5, 0, none⟩) 1 1]) h_22 fun v_4 h_23 =>
 ∃ t48_p t48_l t48_c, v_4 = .slice t48_p t48_l t48_c ∧
 StoreP h_23 ⟨b_4, 0, none⟩ (.slice t48_p t48_l t48_c) fun h_24 =>
 (AtL h_24 (h_16.size + 1) (rec .busy none) ∧ C true (setLoop h_24 (h_16.size + 1) (rec .ready none)))))
 (JumpP (fun g =>
 ∃ t50_p t50_l t50_c, hcell g ⟨b_4, 0, none⟩ = some (.slice t50_p t50_l t50_c) ∧
 StoreP g ⟨b, 0, none⟩ (.pointer t22) fun h_25 =>
 hcell h_25 ⟨b_4, 0, none⟩ = some (.slice t50_p t50_l t50_c) ∧
 StoreP h_25 ⟨b_1, 0, none⟩ (.slice t50_p t50_l t50_c) fun h_26 =>
 StoreP h_26 ⟨b_2, 0, none⟩ (.int .i64 0) fun h_27 =>
 h_27[h_16.size]? = some (.deferred (some [])) ∧ ∃ r0_2, hcell (h_27.setIfInBounds h_16.size (.deferred none)) ⟨b, 0, none⟩ = some (.pointer r0_2) ∧
 ∃ r1_p_2 r1_l_2 r1_c_2, hcell (h_27.setIfInBounds h_16.size (.deferred none)) ⟨b_1, 0, none⟩ = some (.slice r1_p_2 r1_l_2 r1_c_2) ∧
 ∃ r2_2, hcell (h_27.setIfInBounds h_16.size (.deferred none)) ⟨b_2, 0, none⟩ = some (.int .i64 r2_2) ∧
 R (.tuple #[.pointer r0_2, .slice r1_p_2 r1_l_2 r1_c_2, .int .i64 r2_2]) (h_27.setIfInBounds h_16.size (.deferred none)))
 (fun g_1 =>
 g_1[h_16.size]? = some (.deferred (some [])) ∧ ∃ r0_3, hcell (g_1.setIfInBounds h_16.size (.deferred none)) ⟨b, 0, none⟩ = some (.pointer r0_3) ∧
 ∃ r1_p_3 r1_l_3 r1_c_3, hcell (g_1.setIfInBounds h_16.size (.deferred none)) ⟨b_1, 0, none⟩ = some (.slice r1_p_3 r1_l_3 r1_c_3) ∧
 ∃ r2_3, hcell (g_1.setIfInBounds h_16.size (.deferred none)) ⟨b_2, 0, none⟩ = some (.int .i64 r2_3) ∧
 R (.tuple #[.pointer r0_3, .slice r1_p_3 r1_l_3 r1_c_3, .int .i64 r2_3]) (g_1.setIfInBounds h_16.size (.deferred none)))
 (fun _ _ =>
 False))))) : Cl 213 #[.pointer (some ⟨d, 0, none⟩)] h R :=
 callsH_of_bodyF (.seq .leaf (.seq .leaf (.seq (.seq .leaf (.cond (.seq .leaf .leaf) .leaf)) (.seq .leaf (.seq (.plan (runP 16 0 .done)) (.seq (.seq .leaf (.cond (.seq .leaf .leaf) .leaf)) (.seq .leaf (.seq (.seq .leaf (.block (.scope 0 [(41, .one (.slice)), (42, .one (.bool))] (.seq .leaf .leaf) (.block (.seq (.seq .leaf (.cond (.seq .leaf .leaf) .leaf)) .leaf))))) (.seq (.plan (runP 5 0 .done)) .leaf))))))))) Tryz.func213 rfl rfl (Eq.mp (by kernel_rfl) hv)
theorem journal_Journal_All.walk {j : Nat} (hv :
 Cl 226 #[.pointer (some ⟨j, 0, none⟩)] h fun v h_1 =>
 ∃ t4, v = .bool t4 ∧
 ite (!t4)
 (  R (.int .i64 0) h_1)
 (  ∃ t9, hcell h_1 ⟨j, 14, none⟩ = some (.int .i64 t9) ∧
 R (.int .i64 t9) h_1)) : Cl 232 #[.pointer (some ⟨j, 0, none⟩)] h R :=
 callsN [] hv

end
end Go.Proofs.YticlajoleibdnaaGreatDoor
namespace Go.Den
theorem iteT {b : Bool} {A B : Prop} (h : b = true) (a : A) : ite (b = true) A B := by rw [if_pos h]; exact a
theorem iteF {b : Bool} {A B : Prop} (h : b = false) (a : B) : ite (b = true) A B := by rw [if_neg (by rw [h]; decide)]; exact a
theorem byteAt {h : Heap} {p : Option Addr} {bs : List UInt8} (hr : Row h p (bc bs)) {i : Nat} (hi : i < bs.length) : ∃ a, p = some a ∧ hcell h (a.add (i * 1)) = some (.int .u8 ((bs[i]).toNat : Int)) := by
  obtain ⟨a, rfl⟩ := hr.some (by intro e; have := congrArg List.length e; rw [bc_len] at this; simp at this; rw [this] at hi; cases hi)
  exact ⟨a, rfl, by rw [Nat.mul_one]; exact hr.cell (by unfold bc; rw [List.getElem?_map, List.getElem?_eq_getElem hi]; rfl)⟩
end Go.Den
namespace Go.Proofs.YticlajoleibdnaaGreatDoor
open Go.Den
namespace Dsk
variable {h h' : Heap} {R : Value → Heap → Prop} {d n : Nat} {X : Ft} {s : DS}
end Dsk
namespace Sup
open Dsk
variable {h h0 h' : Heap} {R : Value → Heap → Prop} {d n : Nat} {X : Ft} {s : DS} {bs : List UInt8} {p : Option Addr}
def beV (l : List UInt8) : Nat := l.foldl (fun n b => n * 256 + b.toNat) 0
theorem beV_snoc (l : List UInt8) (x : UInt8) : beV (l ++ [x]) = beV l * 256 + x.toNat := by simp [beV]
theorem beV_lt : ∀ (k : Nat) (l : List UInt8), l.length = k → beV l < 256 ^ k
  | 0, l, h => by
    obtain rfl := List.eq_nil_of_length_eq_zero h
    decide
  | k + 1, l, h => by
    obtain ⟨m, x, rfl⟩ : ∃ m x, l = m ++ [x] := ⟨l.dropLast, l.getLast (by intro e; rw [e] at h; cases h), (List.dropLast_concat_getLast _).symm⟩
    have ih := beV_lt k m (by simpa using h)
    have := x.toNat_lt
    rw [beV_snoc, Nat.pow_succ]
    omega
theorem num8 (n c : Nat) (hn : n < 72057594037927936) (hc : c < 256) : IntKind.wrap .u64 ((BitVec.ofInt (IntKind.bits .u64) (IntKind.wrap .u64 ((n : Int) * 2 ^ min (Int.toNat 8) (IntKind.bits .u64))) ||| BitVec.ofInt (IntKind.bits .u64) (IntKind.wrap .u64 (c : Int))).toNat : Int) = ((n * 256 + c : Nat) : Int) := by
  rw [show min (Int.toNat 8) (IntKind.bits .u64) = 8 from rfl, show IntKind.bits .u64 = 64 from rfl, wrap_u64 (n := (n : Int) * 2 ^ 8) (by omega) (by omega), wrap_u64 (n := (c : Int)) (by omega) (by omega),
    show ((n : Int) * 2 ^ 8) = ((2 ^ 8 * n : Nat) : Int) by omega, BitVec.ofInt_natCast, BitVec.ofInt_natCast, BitVec.toNat_or, BitVec.toNat_ofNat, BitVec.toNat_ofNat, Nat.mod_eq_of_lt (by omega), Nat.mod_eq_of_lt (by omega), ← Nat.two_pow_add_eq_or_of_lt (show c < 2 ^ 8 by omega), wrap_u64 (by omega) (by omega)]
  omega
theorem get_ok {l c : Nat} (row : Row h p (bc bs)) (hl : l = bs.length) (h8 : bs.length ≤ 8) (hk : R (.int .u64 (beV bs : Int)) h) : Cl 409 #[.slice p l c] h R := by
  subst hl
  refine super_get.walk ⟨fun n t g => g = h ∧ ∃ i : Nat, t = (i : Int) ∧ i ≤ bs.length ∧ n = (beV (bs.take i) : Int), fun _ t _ => bs.length - t.toNat, ⟨rfl, 0, rfl, Nat.zero_le _, rfl⟩, ?_⟩
  rintro _ _ _ ⟨rfl, i, rfl, hi, rfl⟩
  by_cases c1 : i < bs.length
  · obtain ⟨a, rfl, hc⟩ := byteAt row c1
    have hb := beV_lt i (bs.take i) (by rw [List.length_take]; omega)
    have h7 : 256 ^ i ≤ 256 ^ 7 := Nat.pow_le_pow_right (by decide) (by omega)
    have h7' : (256 : Nat) ^ 7 = 72057594037927936 := by decide
    have hx := (bs[i]).toNat_lt
    have es : beV (bs.take (i + 1)) = beV (bs.take i) * 256 + (bs[i]).toNat := by rw [List.take_add_one, List.getElem?_eq_getElem c1]; exact beV_snoc _ _
    refine iteT (decide_eq_true (by omega)) ⟨⟨by omega, by omega⟩, onSome_some.2 ⟨_, by rw [Int.toNat_natCast]; exact hc, ?_⟩⟩
    rw [num8 _ _ (by omega) (by omega), ← es, wrap_id (by omega) (by omega)]
    exact ⟨⟨rfl, i + 1, rfl, c1, rfl⟩, by show bs.length - Int.toNat ((i : Int) + 1) < bs.length - Int.toNat (i : Int); omega⟩
  · obtain rfl : i = bs.length := by omega
    refine iteF (decide_eq_false (by omega)) ?_
    rw [List.take_length]
    exact hk
theorem rightNo_ok (hk : ∀ g, Fr No h g → R (.bool false) g) : Cl 421 #[(⟨0, 0, 0⟩ : super_Super.S).agg] h R :=
  super_Right.walk (super_Super.boxp fun _ g _ b0 f => ⟨_, cell_at b0 rfl, iteF rfl (hk g f)⟩)
theorem writeNo_ok (hk : ∀ g, Fr No h g → R (.tuple #[.slice none 0 0, .int .i64 3]) g) : Cl 358 #[(⟨0, 0, 0⟩ : super_Super.S).agg] h R :=
  super_Write.walk (super_Super.boxp fun _ _ _ b0 f1 => super_Super.ldp b0 (rightNo_ok fun h2 f2 => ⟨_, rfl, iteT rfl (hk h2 (f1.tt f2))⟩))
theorem words_ok {J : Option Addr → Heap → Prop} (row : Row h p (bc bs)) (hl : bs.length = 128)
    (hJ : ∀ g b, Fr No h g → h.size ≤ b → super_Super.atp g b ⟨beV ((bs.take 12).drop 4), ((bs.getD 12 0).toNat : Int), beV ((bs.take 17).drop 13)⟩ → J (some ⟨b, 0, none⟩) g) :
    ((0 : Int) ≤ 12 ∧ 12 ≤ ((128 : Nat) : Int)) ∧ ((0 : Int) ≤ 4 ∧ (4 : Int) ≤ 12) ∧ ((0 : Int) ≤ 12 ∧ 12 < ((128 : Nat) : Int)) ∧ onSome p fun a_2 => ∃ t16, hcell h (a_2.add (Int.toNat 12 * 1)) = some (.int .u8 t16) ∧
      ((0 : Int) ≤ 17 ∧ 17 ≤ ((128 : Nat) : Int)) ∧ ((0 : Int) ≤ 13 ∧ (13 : Int) ≤ 17) ∧
      (Cl 409 #[.slice (slBase p 128 (Int.toNat 4) 1) ((Int.toNat 12) - (Int.toNat 4)) (128 - (Int.toNat 4))] h fun v_2 h_9 => ∃ t13, v_2 = .int .u64 t13 ∧ Kp h h_9 [(some (a_2.add (Int.toNat 12 * 1)))] ∧
        (Cl 409 #[.slice (slBase p 128 (Int.toNat 13) 1) ((Int.toNat 17) - (Int.toNat 13)) (128 - (Int.toNat 13))] h_9 fun v_3 h_10 => ∃ t20, v_3 = .int .u64 t20 ∧ Kp h_9 h_10 [(some (a_2.add (Int.toNat 12 * 1)))] ∧
          NewP h_10 (.cells super_Super.S.z.arr 337) fun b_1 h_11 => Kp h_10 h_11 [(some (a_2.add (Int.toNat 12 * 1)))] ∧ super_Super.STp h_11 ⟨b_1, 0, none⟩ ⟨t13, (IntKind.wrap .i64 t16), (IntKind.wrap .i64 t20)⟩ fun h_12 => J (some ⟨b_1, 0, none⟩) h_12) ∧
        (NewP h_9 (.cells super_Super.S.z.arr 337) fun b_2 h_13 => Kp h_9 h_13 [(some (a_2.add (Int.toNat 12 * 1)))] ∧
          Cl 409 #[.slice (slBase p 128 (Int.toNat 13) 1) ((Int.toNat 17) - (Int.toNat 13)) (128 - (Int.toNat 13))] h_13 fun v_4 h_14 => ∃ t20_1, v_4 = .int .u64 t20_1 ∧ Kp h_13 h_14 [(some (a_2.add (Int.toNat 12 * 1)))] ∧
          super_Super.STp h_14 ⟨b_2, 0, none⟩ ⟨t13, (IntKind.wrap .i64 t16), (IntKind.wrap .i64 t20_1)⟩ fun h_15 => J (some ⟨b_2, 0, none⟩) h_15) ∧ True) ∧
      (NewP h (.cells super_Super.S.z.arr 337) fun b_3 h_16 => Kp h h_16 [(some (a_2.add (Int.toNat 12 * 1)))] ∧
        Cl 409 #[.slice (slBase p 128 (Int.toNat 4) 1) ((Int.toNat 12) - (Int.toNat 4)) (128 - (Int.toNat 4))] h_16 fun v_5 h_17 => ∃ t13_1, v_5 = .int .u64 t13_1 ∧ Kp h_16 h_17 [(some (a_2.add (Int.toNat 12 * 1)))] ∧
        Cl 409 #[.slice (slBase p 128 (Int.toNat 13) 1) ((Int.toNat 17) - (Int.toNat 13)) (128 - (Int.toNat 13))] h_17 fun v_6 h_18 => ∃ t20_2, v_6 = .int .u64 t20_2 ∧ Kp h_17 h_18 [(some (a_2.add (Int.toNat 12 * 1)))] ∧
        super_Super.STp h_18 ⟨b_3, 0, none⟩ ⟨t13_1, (IntKind.wrap .i64 t16), (IntKind.wrap .i64 t20_2)⟩ fun h_19 => J (some ⟨b_3, 0, none⟩) h_19) ∧ True := by
  have sub : ∀ {g : Heap} (l u : Nat), Row g p (bc bs) → l ≤ u → u ≤ 128 → Row g (slBase p 128 l 1) (bc ((bs.take u).drop l)) := fun l u r h1 h2 => by
    have := r.sub (cap := 128) (l := l) (u := u) (sz := 1) h1 h2
    rw [Nat.mul_one, Nat.mul_one] at this
    unfold bc at this ⊢
    rwa [List.map_drop, List.map_take]
  obtain ⟨a, rfl, hc⟩ := byteAt (i := 12) row (by omega)
  have g1 : ∀ {g : Heap} {R : Value → Heap → Prop}, Fr No h g → R (.int .u64 (beV ((bs.take 12).drop 4) : Int)) g → Cl 409 #[.slice (slBase (some a) 128 (Int.toNat 4) 1) ((Int.toNat 12) - (Int.toNat 4)) (128 - (Int.toNat 4))] g R := fun f hk =>
    get_ok (sub 4 12 (row.frame f (fun _ _ => id)) (by decide) (by decide)) (by rw [List.length_drop, List.length_take]; omega) (by rw [List.length_drop, List.length_take]; omega) hk
  have g2 : ∀ {g : Heap} {R : Value → Heap → Prop}, Fr No h g → R (.int .u64 (beV ((bs.take 17).drop 13) : Int)) g → Cl 409 #[.slice (slBase (some a) 128 (Int.toNat 13) 1) ((Int.toNat 17) - (Int.toNat 13)) (128 - (Int.toNat 13))] g R := fun f hk =>
    get_ok (sub 13 17 (row.frame f (fun _ _ => id)) (by decide) (by decide)) (by rw [List.length_drop, List.length_take]; omega) (by rw [List.length_drop, List.length_take]; omega) hk
  have eb : bs.getD 12 0 = bs[12] := by rw [List.getD_eq_getElem?_getD, List.getElem?_eq_getElem (by omega)]; rfl
  have hx := (bs[12]).toNat_lt
  have hv := beV_lt 4 ((bs.take 17).drop 13) (by rw [List.length_drop, List.length_take]; omega)
  have h4 : (256 : Nat) ^ 4 = 4294967296 := by decide
  rw [eb] at hJ
  refine ⟨by omega, by omega, by omega, onSome_some.2 ⟨_, hc, by omega, by omega, ?_⟩⟩
  rw [wrap_id (n := ((bs[12]).toNat : Int)) (by omega) (by omega)]
  have fp : ∀ (g : Heap), Fr No g (g.push (.cells super_Super.S.z.arr 337)) := fun g => Fr.push _ _
  have rf : Fr No h h := Fr.refl _ _
  have fin : ∀ g b y, Fr No h g → h.size ≤ b → super_Super.atp g b y → super_Super.STp g ⟨b, 0, none⟩ ⟨(beV ((bs.take 12).drop 4) : Int), ((bs[12]).toNat : Int), IntKind.wrap .i64 (beV ((bs.take 17).drop 13) : Int)⟩ fun h_12 => J (some ⟨b, 0, none⟩) h_12 := fun g b y f l d => by
    rw [wrap_id (by omega) (by omega)]
    exact super_Super.setp d fun g' d' f' _ => hJ g' b (f.fresh f' fun z e => by have : z = b := e; omega) l d'
  refine ⟨g1 rf ⟨_, rfl, rf.kp, g2 rf ⟨_, rfl, rf.kp, newP_of ⟨(fp h).kp, fin _ _ _ (fp h) (Nat.le_refl _) push_new⟩⟩, newP_of ⟨(fp h).kp, g2 (fp h) ⟨_, rfl, (Fr.refl _ _).kp, fin _ _ _ (fp h) (Nat.le_refl _) push_new⟩⟩, trivial⟩, newP_of ⟨(fp h).kp, g1 (fp h) ⟨_, rfl, (Fr.refl _ _).kp, g2 (fp h) ⟨_, rfl, (Fr.refl _ _).kp, fin _ _ _ (fp h) (Nat.le_refl _) push_new⟩⟩⟩, trivial⟩
theorem bytesEq_ok {p q : Option Addr} {n m c d : Nat} {a b : List UInt8} (ra : Row h p (bc a)) (rb : Row h q (bc b)) (hn : n = a.length) (hm : m = b.length) (hk : R (.bool (decide (a = b))) h) : Cl 194 #[.slice p n c, .slice q m d] h R := by
  refine bytes_Equal.walk ⟨_, Fld.conv ra hn, _, Fld.conv rb hm, ?_⟩
  rw [str_list, str_list]
  have : (a == b) = decide (a = b) := by grind
  rw [this]; exact hk
abbrev su1 : SU := ⟨1, 0, 0⟩
def rdS (b : Bool) : super_Super.S := if b = true then su1.S else super_Super.S.z
def rdE (b : Bool) : Int := if b = true then 0 else 3
def secB (b : Bool) : List UInt8 := if b = true then supB su1 else zeroS
theorem sec_len (b : Bool) : (secB b).length = 128 := by unfold secB; split; exact supB_len _; rfl
theorem Read_ok (b : Bool) (row : Row h p (bc (secB b))) (hk : ∀ g, Fr No h g → R (.tuple #[(rdS b).agg, .int .i64 (rdE b)]) g) : Cl 348 #[.slice p 128 128] h R := by
  refine super_Read.walk (super_Super.boxp (x := super_Super.S.z) fun bx h1 e1 hb f1 => iteF rfl (JoinP.of fun J hJ => words_ok (row.frame f1 (fun _ _ => id)) (sec_len b) fun g b1 fg l1 d1 => ?_))
  have lb := (Array.getElem?_eq_some_iff.1 hb).1
  have hbg := fg.get hb id
  have F := f1.tt fg
  have ug := F.1
  have rg := row.frame F (fun _ _ => id)
  subst hJ
  cases b with
  | false =>
    have e : (⟨beV (((secB false).take 12).drop 4), (((secB false).getD 12 0).toNat : Int), beV (((secB false).take 17).drop 13)⟩ : super_Super.S) = ⟨0, 0, 0⟩ := by kernel_rfl
    rw [e] at d1
    refine onSome_some.2 (super_Super.ldp d1 (writeNo_ok fun g2 f2 => ⟨_, _, _, _, rfl, JoinP.of fun J1 hJ1 => iteT rfl ?_⟩))
    subst hJ1
    exact iteT rfl (super_Super.setp (x := super_Super.S.z) (f2.get hbg id) fun g3 d3 f3 _ => super_Super.ldp d3 (hk g3 ((F.tt f2).fresh f3 fun z q => by have : z = bx := q; omega)))
  | true =>
    have e : (⟨beV (((secB true).take 12).drop 4), (((secB true).getD 12 0).toNat : Int), beV (((secB true).take 17).drop 13)⟩ : super_Super.S) = su1.S := by kernel_rfl
    rw [e] at d1
    refine onSome_some.2 (super_Super.ldp d1 (write_ok (x := su1) ⟨by decide, by decide, by decide, by decide⟩ fun p2 c2 g2 o2 f2 g2' => ⟨_, _, _, _, rfl, JoinP.of fun J1 hJ1 => iteF rfl ?_⟩))
    refine bytesEq_ok (a := supB su1) (b := supB su1) o2.row' (rg.frame f2 (fun _ _ => id)) (supB_len _).symm (supB_len _).symm ⟨_, rfl, ?_⟩
    rw [decide_eq_true rfl]
    subst hJ1
    exact iteF rfl (onSome_some.2 (super_Super.ldp (f2.get d1 id) (super_Super.setp (x := su1.S) (f2.get hbg id) fun g3 d3 f3 _ => super_Super.ldp d3 (hk g3 ((F.tt f2).fresh f3 fun z q => by have : z = bx := q; omega)))))
theorem Newest_ok (b : Bool) (H : Dk h d X n s) (n2 : 2 ≤ n) (hw : s.W.length ≤ 1000000) (h0 : s.get 0 = secB false) (h1 : s.get 1 = secB b) (hk : ∀ g, Fr No h g → R (.tuple #[(rdS b).agg, .int .i64 (if b = true then 0 else 4)]) g) :
    Cl 285 #[.pointer (some ⟨d, 0, none⟩)] h R := by
  refine super_Newest.walk (super_Super.boxp (x := super_Super.S.z) fun b0 g0 e0 d0 f0 => super_Super.boxp (x := super_Super.S.z) fun b1 g1 e1 d1 f1 => ?_)
  have F1 := f0.tt f1
  have u0 := f0.1
  have u1 := f1.1
  have l0 := (Array.getElem?_eq_some_iff.1 d0).1
  have l1 := (Array.getElem?_eq_some_iff.1 d1).1
  refine ⟨fun t g => ∃ k : Nat, t = (k : Int) ∧ k ≤ 2 ∧ Fr No h g ∧ super_Super.atp g b0 super_Super.S.z ∧ super_Super.atp g b1 (if k = 2 then rdS b else super_Super.S.z), fun t _ => 2 - t.toNat, ⟨0, rfl, by decide, F1, f1.get d0 id, d1⟩, ?_⟩
  rintro _ g ⟨k, rfl, hk2, fg, dg0, dg1⟩
  by_cases c : k < 2
  · refine iteT (decide_eq_true (by omega)) (JoinP.of fun J hJ => Dsk.read_ok (H.on fg) (i := k) (by omega) hw fun g2 p o gp f2 => ⟨_, _, _, _, rfl, iteF rfl ?_⟩)
    rw [if_neg (by omega)] at dg1
    have next : ∀ g', Fr No h g' → super_Super.atp g' b0 super_Super.S.z → super_Super.atp g' b1 (if k + 1 = 2 then rdS b else super_Super.S.z) → J g' := fun g' f' a0 a1 => by
      subst hJ
      refine ⟨⟨k + 1, by rw [wrap_id (by omega) (by omega)]; rfl, by omega, f', a0, a1⟩, ?_⟩
      show 2 - Int.toNat (IntKind.wrap .i64 ((k : Int) + 1)) < 2 - Int.toNat (k : Int)
      rw [wrap_id (by omega) (by omega)]
      omega
    obtain ⟨q, eq, hq⟩ : ∃ q : Bool, s.get k = secB q ∧ (if k + 1 = 2 then rdS b else super_Super.S.z) = (if k = 1 then rdS q else super_Super.S.z) ∧ (q = true → k = 1) := by
      rcases k with _ | _ | k
      · exact ⟨false, h0, rfl, fun e => by cases e⟩
      · exact ⟨b, h1, rfl, fun _ => rfl⟩
      · omega
    rw [eq] at o
    refine Read_ok q o.row' fun g3 f3 => super_Super.ex (rdS q) ⟨_, rfl, super_Super.newp (x := rdS q) fun b2 g4 e4 d4 f4 => ?_⟩
    have F4 := (f2.tt f3).tt f4
    have a0 := F4.get dg0 id
    have a1 := F4.get dg1 id
    have l4 := (Array.getElem?_eq_some_iff.1 a1).1
    have u4 := F4.1
    have lg1 := (Array.getElem?_eq_some_iff.1 dg1).1
    have u3 := (f2.tt f3).1
    refine JoinP.of fun J1 hJ1 => ?_
    cases q with
    | false =>
      refine iteF rfl ?_
      subst hJ1
      refine JoinP.of fun J2 hJ2 => iteF rfl ?_
      subst hJ2
      refine next g4 (fg.tt F4) a0 ?_
      rw [hq.1]
      rw [show (if k = 1 then rdS false else super_Super.S.z) = super_Super.S.z by split <;> rfl]
      exact a1
    | true =>
      obtain rfl := hq.2 rfl
      refine iteT rfl (super_Super.ldp d4 (slot_ok (x := su1) (by decide) fun g5 f5 => ⟨_, rfl, iteT rfl ⟨_, cell_at (f5.get d4 id) rfl, _, cell_at (f5.get a1 id) rfl, ?_⟩⟩))
      subst hJ1
      refine JoinP.of fun J2 hJ2 => iteT rfl (super_Super.ldp (f5.get d4 id) (super_Super.setp (x := rdS true) (f5.get a1 id) fun g6 d6 f6 _ => ?_))
      subst hJ2
      have f6' : Fr (fun y => y = b1) g5 g6 := f6
      refine next g6 (((fg.tt F4).tt f5).fresh f6' fun y e => by omega) (f6'.get (f5.get a0 id) (by omega)) ?_
      rw [hq.1]
      exact d6
  · obtain rfl : k = 2 := by omega
    rw [if_pos rfl] at dg1
    refine iteF rfl (super_Super.ldp dg1 ?_)
    have dd : b0 ≠ b1 := by omega
    cases b with
    | false => exact ⟨true, EqV.of (by kernel_rfl), iteT rfl (super_Super.setp (x := super_Super.S.z) dg0 fun g3 d3 f3 _ => super_Super.ldp d3 (hk g3 (fg.fresh f3 fun y e => by have : y = b0 := e; omega)))⟩
    | true => exact ⟨false, EqV.of (by kernel_rfl), iteF rfl (super_Super.ldp dg1 (super_Super.setp (x := rdS true) dg0 fun g3 d3 f3 _ => super_Super.ldp d3 (hk g3 (fg.fresh f3 fun y e => by have : y = b0 := e; omega))))⟩
end Sup
end Go.Proofs.YticlajoleibdnaaGreatDoor
namespace Go.Proofs.YticlajoleibdnaaGreatDoor
open Go.Den
open IntKind (wrap)
open Int (toNat)
section
namespace Aud
open Num
variable {h:Heap} {R:TyP} {s:ByteArray}
variable {c d:Bool} {J:Bool→Heap→Prop}
theorem orJ {X : Prop} (hk : J (c || d) h) (hx : J d h → X) : ite (c = true) (J c h) X := by
  cases c with
  | true => exact hk
  | false => exact hx hk
theorem orE (hk : J (c || d) h) : ite (c = true) (J c h) (J d h) := orJ hk id
theorem iteC {A B : Prop} (t : c = true → A) (f : c = false → B) : ite (c = true) A B := by
  cases c with
  | true => exact t rfl
  | false => exact f rfl
theorem kinds_ok (hk : R (.tuple #[.string (str (kindsQ s).1), .bool (kindsQ s).2]) h) : Cl 45 #[.string s] h R := by
  refine desk_kinds.walk ?_
  simp only [eqs]
  refine JoinP.of fun J hJ => ?_
  have e : J (isS s [99, 111, 110, 110, 101, 99, 116] || (isS s [115, 116, 101, 112] || (isS s [97, 110, 115, 119, 101, 114] || (isS s [116, 97, 107, 101] || (isS s [110, 111, 119] || (isS s [108, 105, 110, 101, 115] || isS s [106, 117, 100, 103, 101])))))) h := by
    subst hJ
    unfold kindsQ at hk
    refine iteC (fun q => by rw [if_pos q] at hk; exact hk) fun q => ?_
    rw [if_neg (Bool.eq_false_iff.1 q)] at hk
    refine JoinP.of fun J hJ => ?_
    have e : J (isS s [99, 108, 111, 115, 101] || (isS s [111, 117, 116] || (isS s [116, 105, 99, 107] || isS s [119, 97, 105, 116, 115]))) h := by
      subst hJ
      refine iteC (fun q => by rw [if_pos q] at hk; exact hk) fun q => ?_
      rw [if_neg (Bool.eq_false_iff.1 q)] at hk
      refine iteC (fun q => by rw [if_pos q] at hk; exact hk) fun q => ?_
      rw [if_neg (Bool.eq_false_iff.1 q)] at hk
      refine iteC (fun q => by rw [if_pos q] at hk; exact hk) fun q => ?_
      rw [if_neg (Bool.eq_false_iff.1 q)] at hk
      refine iteC (fun q => by rw [if_pos q] at hk; exact hk) fun q => ?_
      rw [if_neg (Bool.eq_false_iff.1 q)] at hk
      refine iteC (fun q => by rw [if_pos q] at hk; exact hk) fun q => ?_
      rw [if_neg (Bool.eq_false_iff.1 q)] at hk
      exact hk
    exact orJ e fun e => JoinP.of fun K hK => by
      subst hK
      exact orJ (J := fun t g => J t g) e fun e => JoinP.of fun K hK => by
        subst hK
        exact orE (J := fun t g => J t g) e
  exact orJ e fun e => JoinP.of fun K hK => by
    subst hK
    exact orJ (J := fun t g => J t g) e fun e => JoinP.of fun K hK => by
      subst hK
      exact orJ (J := fun t g => J t g) e fun e => JoinP.of fun K hK => by
        subst hK
        exact orJ (J := fun t g => J t g) e fun e => JoinP.of fun K hK => by
          subst hK
          exact orJ (J := fun t g => J t g) e fun e => JoinP.of fun K hK => by
            subst hK
            exact orE (J := fun t g => J t g) e
theorem number_ok (tb : Tab h) (er : Er h) (hs : s.size ≤ 100000) (hk : ∀ g, Fr No h g → R (.tuple #[.int .u64 (p64V s : Int), .bool (numB s)]) g) : Cl 46 #[.string s] h R := by
  refine desk_number.walk (p64_ok er hs fun g v f e => ⟨_, _, rfl, _, e.eq, ?_⟩)
  have hk := hk
  unfold numB at hk
  cases p : p64Ok s with
  | false =>
    rw [p] at hk
    exact iteF rfl (hk g f)
  | true =>
    rw [p] at hk
    refine iteT rfl ?_
    by_cases c : p64V s ≤ 2147483648
    · rw [decide_eq_true c] at hk
      refine iteT (decide_eq_true (by omega)) (formatUint_ok (tb.on f) (p64_lt s) fun g' f' => ⟨_, rfl, ?_⟩)
      rw [eqs2]
      exact hk g' (f.tt f')
    · rw [decide_eq_false c] at hk
      exact iteF (decide_eq_false (by omega)) (hk g f)
theorem chr_lt (s : ByteArray) (i : Nat) : (chr s i).toNat < 256 := (chr s i).toNat_lt
theorem hex_not (c : UInt8) : decide (Lib.indexByte hexs c < 0) = !hexB c := by simp [hexB]
theorem ofNat_chr (c : UInt8) : UInt8.ofNat c.toNat = c := by simp
theorem tU8 : SlTy Tryz.prog 69 5 1 1 (.int .u8 0) := ⟨by kernel_rfl, by kernel_rfl, rfl⟩
theorem tBo : SlTy Tryz.prog 70 4 1 1 (.bool false) := ⟨by kernel_rfl, by kernel_rfl, rfl⟩
theorem uBo : Tryz.prog.underlying 70 = some (.slice 4) := by kernel_rfl
theorem u8_of (n : Int) : ∃ c : UInt8, IntKind.wrap .u8 n = (c.toNat : Int) := by
  have h := IntKind.wrap_u8 n
  exact ⟨UInt8.ofNat (n % 256).toNat, by rw [h]; simp; omega⟩
theorem u8_beq (c : UInt8) (n : Nat) (hn : n < 256) : (((c.toNat : Nat) : Int) == (n : Int)) = (c == UInt8.ofNat n) :=
  Bool.eq_iff_iff.2 (by rw [beq_iff_eq, beq_iff_eq, ← UInt8.toNat_inj, UInt8.toNat_ofNat', Nat.mod_eq_of_lt hn]; omega)
theorem u8_any {n : Int} {Q : Int → Prop} (h : ∀ c : UInt8, Q (c.toNat : Int)) : Q (IntKind.wrap .u8 n) := by
  obtain ⟨c, hc⟩ := u8_of n
  rw [hc]
  exact h c
theorem bytes_ok (hs : s.size ≤ 100000) (hk : ∀ g p c bs, Fr No h g → Row g p (bc bs) → (∀ y, inBlk p y → h.size ≤ y ∧ y < g.size) → bs.length ≤ s.size ∧ bs.length ≤ c → R (.tuple #[.slice p bs.length c, .bool (bytesB s)]) g) : Cl 47 #[.string s] h R := by
  refine desk_bytes.walk ?_
  simp only [eqs]
  unfold bytesB at hk
  cases d : isS s [45] with
  | true => rw [d] at hk; exact iteT rfl (hk h none 0 [] (Fr.refl _ _) .nil (fun y ⟨a, e, _⟩ => by cases e) ⟨Nat.zero_le _, Nat.le_refl _⟩)
  | false =>
    rw [d] at hk
    refine iteF rfl ⟨fun p l c i g => ∃ (k : Nat) (bs : List UInt8), i = ((2 * k : Nat) : Int) ∧ l = bs.length ∧ bs.length = k ∧ k ≤ s.size / 2 ∧ Den.Own g p l c 1 (bc bs) ∧ (∀ y, inBlk p y → h.size ≤ y) ∧ Fr No h g ∧ ∀ j, j < k → pairB s j = true, fun _ _ _ i _ => s.size - i.toNat,
      ⟨0, [], rfl, rfl, rfl, Nat.zero_le _, .nil rfl rfl rfl rfl, (fun y ⟨a, e, _⟩ => by cases e), Fr.refl _ _, fun j hj => absurd hj (Nat.not_lt_zero _)⟩, ?_⟩
    rintro p _ c _ g ⟨k, bs, rfl, rfl, lk, kl, own, nb, f, all⟩
    have w1 : IntKind.wrap .i64 (((2 * k : Nat) : Int) + 1) = ((2 * k + 1 : Nat) : Int) := by rw [wrap_id (by omega) (by omega)]; omega
    rw [w1]
    by_cases c1 : 2 * k + 1 < s.size
    · refine iteT (decide_eq_true (by omega)) ⟨⟨by omega, by omega⟩, ⟨by omega, by omega⟩, ?_⟩
      rw [Int.toNat_natCast, Int.toNat_natCast]
      refine idxB_ok (s := ⟨hexs.toArray⟩) (chr_lt s (2 * k)) ⟨_, rfl, idxB_ok (s := ⟨hexs.toArray⟩) (chr_lt s (2 * k + 1)) ⟨_, rfl, JoinP.of fun J hJ => ?_⟩⟩
      rw [ofNat_chr, ofNat_chr]
      show ite (decide (Lib.indexByte hexs (chr s (2 * k)) < 0) = true) (J true g) (J (decide (Lib.indexByte hexs (chr s (2 * k + 1)) < 0)) g)
      rw [hex_not, hex_not]
      cases q : pairB s k with
      | false =>
        have no : J true g := by
          subst hJ
          refine iteT rfl ?_
          have := hk g none 0 [] f .nil (fun y ⟨a, e, _⟩ => by cases e) ⟨Nat.zero_le _, Nat.le_refl _⟩
          rw [all_false (k := k) (by omega) q] at this
          exact this
        unfold pairB at q
        cases q1 : hexB (chr s (2 * k)) with
        | false => exact iteT rfl no
        | true =>
          rw [q1] at q
          rw [show hexB (chr s (2 * k + 1)) = false from q]
          exact iteF rfl no
      | true =>
        unfold pairB at q
        rw [Bool.and_eq_true] at q
        rw [q.1, q.2]
        refine iteF rfl ?_
        subst hJ
        refine iteF rfl ?_
        refine u8_any (Q := fun v => NewP g (.cells #[.int .u8 v] 5) _) fun x => ?_
        refine den_append1 tU8 Fld.uU own rfl (fun v hv => by rw [List.mem_singleton.1 hv]; rfl) (by omega) (by omega) fun p' c' g' own' f' n' => ⟨_, _, _, rfl, ⟨k + 1, bs ++ [x], ?_, by simp, by simp [lk], by omega, by rw [bc_append]; exact own', fun y hy => ?_, f.fresh f' nb, fun j hj => ?_⟩, ?_⟩
        · rw [wrap_id (by omega) (by omega)]; omega
        · rcases n' y hy with q | q
          · exact nb y q
          · have := f.1; omega
        · by_cases e : j = k
          · subst e; unfold pairB; rw [q.1, q.2]; rfl
          · exact all j (by omega)
        · show s.size - Int.toNat (IntKind.wrap .i64 (((2 * k : Nat) : Int) + 2)) < s.size - Int.toNat ((2 * k : Nat) : Int)
          rw [wrap_id (by omega) (by omega)]; omega
    · refine iteF (decide_eq_false (by omega)) ?_
      have ek : k = s.size / 2 := by omega
      have := hk g p c bs f own.row' (fun y hy => ⟨nb y hy, own.blk_lt hy⟩) ⟨by omega, own.le⟩
      rw [all_true (n := s.size / 2) (fun j hj => all j (by omega))] at this
      cases e : isS s [] with
      | true => rw [e] at this; exact iteF rfl this
      | false =>
        rw [e] at this
        refine iteT rfl ?_
        have e2 : (Int.tmod ((s.size : Nat) : Int) 2 == 0) = decide (s.size % 2 = 0) := by
          rw [show Int.tmod ((s.size : Nat) : Int) 2 = ((s.size % 2 : Nat) : Int) from rfl]
          exact Bool.eq_iff_iff.2 (by simp; omega)
        rw [e2]
        exact this
theorem bits_ok (hs : s.size ≤ 100000) (hk : ∀ g p l c, Fr No h g → R (.tuple #[.slice p l c, .bool (bitsB s)]) g) : Cl 48 #[.string s] h R := by
  refine desk_bits.walk ?_
  simp only [eqs]
  unfold bitsB at hk
  cases d : isS s [45] with
  | true => rw [d] at hk; exact iteT rfl (hk h none 0 0 (Fr.refl _ _))
  | false =>
    rw [d] at hk
    refine iteF rfl ⟨fun p l c i g => ∃ (k : Nat) (bs : List Value), i = (k : Int) ∧ bs.length = k ∧ l = k ∧ k ≤ s.size ∧ Den.Own g p l c 1 bs ∧ (∀ y, inBlk p y → h.size ≤ y) ∧ Fr No h g ∧ ∀ j, j < k → bitB s j = true, fun _ _ _ i _ => s.size - i.toNat,
      ⟨0, [], rfl, rfl, rfl, Nat.zero_le _, .nil rfl rfl rfl rfl, (fun y ⟨a, e, _⟩ => by cases e), Fr.refl _ _, fun j hj => absurd hj (Nat.not_lt_zero _)⟩, ?_⟩
    rintro p k c _ g ⟨_, bs, rfl, lb, rfl, kl, own, nb, f, all⟩
    by_cases c1 : k < s.size
    · refine iteT (decide_eq_true (by omega)) (JoinP.of fun J hJ => ⟨⟨by omega, by omega⟩, ?_⟩)
      rw [Int.toNat_natCast]
      show ite ((((chr s k).toNat : Int) != 48) = true) _ _
      have e48 : (((chr s k).toNat : Int) != 48) = !(chr s k == 48) := by
        rw [bne]; congr 1
        exact u8_beq (chr s k) 48 (by decide)
      have e49 : (((chr s k).toNat : Int) != 49) = !(chr s k == 49) := by
        rw [bne]; congr 1
        exact u8_beq (chr s k) 49 (by decide)
      cases q : bitB s k with
      | false =>
        unfold bitB at q
        rw [Bool.or_eq_false_iff] at q
        rw [e48, q.1]
        refine iteT rfl ⟨⟨by omega, by omega⟩, ?_⟩
        show J (((chr s k).toNat : Int) != 49) g
        rw [e49, q.2]
        subst hJ
        refine iteT rfl ?_
        have := hk g none 0 0 f
        rw [all_false (P := bitB s) c1 (by unfold bitB; rw [q.1, q.2]; rfl)] at this
        exact this
      | true =>
        have go : J false g := by
          subst hJ
          refine iteF rfl ⟨⟨by omega, by omega⟩, den_append1 tBo uBo own rfl (fun v hv => by rw [List.mem_singleton.1 hv]; rfl) (by omega) (by omega) fun p' c' g' own' f' n' => ⟨_, _, _, rfl, ⟨k + 1, _, ?_, ?_, rfl, by omega, own', fun y hy => ?_, f.fresh f' nb, fun j hj => ?_⟩, ?_⟩⟩
          · rw [wrap_id (by omega) (by omega)]; omega
          · simp [lb]
          · rcases n' y hy with q | q
            · exact nb y q
            · have := f.1; omega
          · by_cases e : j = k
            · subst e; exact q
            · exact all j (by omega)
          · show s.size - Int.toNat (IntKind.wrap .i64 ((k : Int) + 1)) < s.size - Int.toNat (k : Int)
            rw [wrap_id (by omega) (by omega)]; omega
        unfold bitB at q
        rw [e48]
        cases q1 : chr s k == 48 with
        | true => exact iteF rfl go
        | false =>
          rw [q1] at q
          refine iteT rfl ⟨⟨by omega, by omega⟩, ?_⟩
          show J (((chr s k).toNat : Int) != 49) g
          rw [e49, show (chr s k == 49) = true from q]
          exact go
    · refine iteF (decide_eq_false (by omega)) ?_
      obtain rfl : k = s.size := by omega
      have := hk g p s.size c f
      rw [all_true (n := s.size) (fun j hj => all j (by omega))] at this
      cases e : isS s [] with
      | true => rw [e] at this; exact iteF rfl this
      | false =>
        rw [e] at this
        refine iteT rfl ?_
        rw [show decide (((s.size : Nat) : Int) ≤ 64) = decide (s.size ≤ 64) from Bool.eq_iff_iff.2 (by simp; omega)]
        exact this
def nenc (n : Nat) : Value := .int .u64 (n : Int)
structure AskV (g : Heap) (A : desk_ask.S) (v : ByteArray) (ns : List Nat) (bs : List UInt8) (m : Nat) : Prop where
  v : A.f0 = v
  n : Row g A.f1p (ns.map nenc)
  nl : A.f1l = ns.length
  lt : ∀ n ∈ ns, n < 18446744073709551616
  b : Row g A.f2p (bc bs)
  bl : A.f2l = bs.length
  bcap : bs.length ≤ A.f2c
  nm : ∀ y, inBlk A.f1p y → m ≤ y
  bm : ∀ y, inBlk A.f2p y → m ≤ y
theorem AskV.frame {g g' : Heap} {A : desk_ask.S} {v : ByteArray} {ns : List Nat} {bs : List UInt8} {m : Nat} (H : AskV g A v ns bs m) (f : Fr No g g') : AskV g' A v ns bs m :=
  ⟨H.v, H.n.frame f (fun _ _ => id), H.nl, H.lt, H.b.frame f (fun _ _ => id), H.bl, H.bcap, H.nm, H.bm⟩
def numsOf (ks : List UInt8) : Nat := (ks.filter (· == 110)).length
structure AskI (h2 g : Heap) (b1 : Nat) (s : ByteArray) (ks : List UInt8) (k : Nat) (ns : List Nat) (bs : List UInt8) (A : desk_ask.S) : Prop where
  fr : Fr No h2 g
  gb : h2.size ≤ b1
  a : desk_ask.atp g b1 A
  v : A.f0 = wordAt s 0
  n : Den.Own g A.f1p ns.length A.f1c 1 (ns.map nenc)
  nl : A.f1l = ns.length
  nn : ns.length = numsOf (ks.take k)
  lt : ∀ n ∈ ns, n < 18446744073709551616
  bb : Row g A.f2p (bc bs)
  bl : A.f2l = bs.length
  bcap : bs.length ≤ A.f2c
  bs : bs.length ≤ 100000
  sep : ∀ y, inBlk A.f1p y → b1 < y
  sep2 : ∀ y, inBlk A.f2p y → b1 < y ∧ ¬ inBlk A.f1p y ∧ y < g.size
  all : ∀ j, j < k → okW (ks.getD j 0) (wordAt s (j + 1)) = true
theorem t64 : SlTy Tryz.prog 68 62 1 8 (.int .u64 0) := ⟨by kernel_rfl, by kernel_rfl, rfl⟩
theorem u64S : Tryz.prog.underlying 68 = some (.slice 62) := by kernel_rfl
theorem numsOf_snoc (ks : List UInt8) (k : Nat) (hk : k < ks.length) : numsOf (ks.take (k + 1)) = numsOf (ks.take k) + (if ks.getD k 0 = 110 then 1 else 0) := by
  unfold numsOf
  rw [List.take_add_one, List.getElem?_eq_getElem hk, List.getD_eq_getElem?_getD, List.getElem?_eq_getElem hk, List.filter_append, List.length_append]
  congr 1
  by_cases q : ks[k] = 110
  · simp [q]
  · simp [q]
theorem word_get {i : Nat} (hi : i < (words s).length) : ((words s).map Value.string)[i]? = some (.string (wordAt s i)) := by
  unfold wordAt
  rw [List.getElem?_map, List.getElem?_eq_getElem hi, List.getD_eq_getElem?_getD, List.getElem?_eq_getElem hi]; rfl
theorem word_size (i : Nat) : (wordAt s i).size ≤ s.size := words_size i
theorem read_ok (tb : Tab h) (er : Er h) (mx : Mx h) (hs : s.size ≤ 100000)
    (hk : ∀ g A ok, Fr No h g → ok = readB s → (ok = true → ∃ ns bs, AskV g A (wordAt s 0) ns bs h.size ∧ ns.length = numsOf (kindsQ (wordAt s 0)).1 ∧ bs.length ≤ 100000) → R (.tuple #[A.agg, .bool ok]) g) : Cl 31 #[.string s] h R := by
  have wl := words_len s
  refine desk_read.walk (desk_ask.boxp (x := desk_ask.S.z) fun b h1 eb hb f1 => split_ok (mx.on f1) (by omega) fun h2 f2 row => ⟨_, _, _, rfl, ⟨by omega, by omega⟩, onSome_some.2 ⟨_, row.cell (j := 0) (word_get (by omega)), kinds_ok ⟨_, _, rfl, JoinP.of fun J hJ => ?_⟩⟩⟩)
  have F2 : Fr No h h2 := f1.tt f2
  have hb2 := f2.get hb id
  have bl : b < h2.size := lt_of_get hb2
  have zz : ∀ {K : desk_ask.S → Heap → Prop} g, Fr No h2 g → ∀ A, (∀ g', Fr (fun y => y = b) g g' → Fr No h g' → K A g') → desk_ask.STp g ⟨b, 0, none⟩ A fun h_5 => desk_ask.LDp h_5 ⟨b, 0, none⟩ fun r0 => K r0 h_5 := fun g f A q =>
    desk_ask.setp (f.get hb2 id) fun g' a' f' _ => desk_ask.ldp a' (q g' f' ((F2.tt f).fresh f' fun y e => by omega))
  have no : readB s = false → ∀ g, Fr No h2 g → J true g := fun e g f => by
    subst hJ
    exact iteT rfl (zz g f desk_ask.S.z (K := fun r0 h_5 => R (.tuple #[r0.agg, .bool false]) h_5) fun g' _ f' => hk g' _ false f' e.symm (fun q => by cases q))
  have er0 : readB s = ((kindsQ (wordAt s 0)).2 && (decide ((words s).length = (kindsQ (wordAt s 0)).1.length + 1) && (List.range (kindsQ (wordAt s 0)).1.length).all fun i => okW ((kindsQ (wordAt s 0)).1.getD i 0) (wordAt s (i + 1)))) := rfl
  generalize hK : kindsQ (wordAt s 0) = Q at hk er0 hJ ⊢
  obtain ⟨ks, kb⟩ := Q
  dsimp only at hk er0 ⊢
  have kl : ks.length ≤ 2 := by have := kinds_le (wordAt s 0); rw [hK] at this; exact this
  cases kb with
  | false => exact iteT rfl (no (by rw [er0]; rfl) h2 (Fr.refl _ _))
  | true =>
  refine iteF rfl ?_
  have esz : (((words s).length : Int) != IntKind.wrap .i64 (((str ks).size : Int) + 1)) = !decide ((words s).length = ks.length + 1) := by
    have e1 : (str ks).size = ks.length := by simp [str, ByteArray.size]
    rw [e1, wrap_id (by omega) (by omega), bne]
    congr 1
    exact Bool.eq_iff_iff.2 (by simp; omega)
  rw [esz]
  by_cases cl : (words s).length = ks.length + 1
  rotate_left
  · rw [decide_eq_false cl]
    exact no (by rw [er0, decide_eq_false cl]; rfl) h2 (Fr.refl _ _)
  rw [decide_eq_true cl] at er0 ⊢
  subst hJ
  refine iteF rfl ⟨⟨by omega, by omega⟩, onSome_some.2 ⟨_, row.cell (j := 0) (word_get (by omega)), desk_ask.newp (x := ⟨wordAt s 0, none, 0, 0, none, 0, 0, none, 0, 0⟩) fun b1 h7 eb1 hb1 f7 => ⟨⟨by omega, by omega⟩, ?_⟩⟩⟩
  refine ⟨fun i g => ∃ (k : Nat) (ns : List Nat) (bs : List UInt8) (A : desk_ask.S), i = (k : Int) ∧ k ≤ ks.length ∧ AskI h2 g b1 s ks k ns bs A, fun i _ => ks.length - i.toNat,
    ⟨0, [], [], _, rfl, Nat.zero_le _, ⟨f7, by omega, hb1, rfl, .nil rfl rfl rfl rfl, rfl, rfl, (fun n hn => by cases hn), .nil, rfl, Nat.le_refl _, Nat.zero_le _, (fun y ⟨a, e, _⟩ => by cases e), (fun y ⟨a, e, _⟩ => by cases e), fun j hj => absurd hj (Nat.not_lt_zero _)⟩⟩, ?_⟩
  rintro _ g ⟨k, ns, bs, A, rfl, hkl, H⟩
  have ele : (words s).length - Int.toNat 1 = ks.length := by rw [cl]; rfl
  rw [ele]
  by_cases c : k < ks.length
  rotate_left
  · obtain rfl : k = ks.length := by omega
    refine iteF (decide_eq_false (by omega)) (desk_ask.ldp H.a (zz g H.fr A (K := fun r0 h_5 => R (.tuple #[r0.agg, .bool true]) h_5) fun g' fb f' => hk g' A true f' ?_ fun _ => ⟨ns, bs, ⟨H.v, H.n.row'.frame fb fun a e q => ?_, H.nl, H.lt, H.bb.frame fb fun a e q => ?_, H.bl, H.bcap, fun y hy => ?_, fun y hy => ?_⟩, ?_, H.bs⟩))
    · rw [er0, all_true (n := ks.length) H.all]; rfl
    · have := H.sep _ ⟨a, e, rfl⟩
      have := H.gb; omega
    · have := (H.sep2 _ ⟨a, e, rfl⟩).1
      have := H.gb; omega
    · have := H.sep y hy; have := H.gb; have := F2.1; omega
    · have := (H.sep2 y hy).1; have := H.gb; have := F2.1; omega
    · rw [H.nn, List.take_length]
  have rsub : Row g (slBase (some ⟨h1.size, 0, none⟩) (words s).length (Int.toNat 1) 1) (((words s).map Value.string).drop 1) := by
    have := (row.frame H.fr (fun _ _ => id)).sub (cap := (words s).length) (l := 1) (u := (words s).length) (sz := 1) (by omega) (Nat.le_refl _)
    rw [Nat.mul_one, List.take_of_length_le (by simp)] at this
    exact this
  have hw : (((words s).map Value.string).drop 1)[k]? = some (.string (wordAt s (k + 1))) := by rw [List.getElem?_drop, Nat.add_comm]; exact word_get (by omega)
  obtain ⟨a2, ea2⟩ := rsub.some (by intro e; rw [e] at hw; cases hw)
  rw [ea2] at rsub ⊢
  refine iteT (decide_eq_true (by omega)) ⟨⟨by omega, by omega⟩, onSome_some.2 ⟨_, by rw [Int.toNat_natCast, Nat.mul_one]; exact rsub.cell hw, ⟨by omega, by simp [str, ByteArray.size]; omega⟩, JoinP.of fun J1 hJ1 => JoinP.of fun J2 hJ2 => ?_⟩⟩
  have fin : ∀ ok g', ok = okW (ks.getD k 0) (wordAt s (k + 1)) → Fr No h2 g' → (ok = true → ∃ ns bs A, AskI h2 g' b1 s ks (k + 1) ns bs A) → J1 ok g' := fun ok g' eo f' q => by
    subst hJ1
    cases ok with
    | false => exact iteT rfl (zz g' f' desk_ask.S.z (K := fun r0 h_5 => R (.tuple #[r0.agg, .bool false]) h_5) fun g2 _ f2 => hk g2 _ false f2 (by rw [er0, all_false c eo.symm]; rfl) (fun q => by cases q))
    | true =>
      obtain ⟨ns', bs', A', H'⟩ := q rfl
      rw [wrap_id (by omega) (by omega)]
      exact iteF rfl ⟨⟨k + 1, ns', bs', A', rfl, c, H'⟩, by show ks.length - Int.toNat ((k : Int) + 1) < ks.length - Int.toNat (k : Int); omega⟩
  have ech : ∀ n : Nat, n < 256 → (((((str ks).data.toList.getD (Int.toNat (k : Int)) 0).toNat : Nat) : Int) == (n : Int)) = decide (ks.getD k 0 = UInt8.ofNat n) := fun n hn => by
    show (((ks.getD k 0).toNat : Int) == (n : Int)) = _
    rw [u8_beq _ _ hn]
    exact Bool.eq_iff_iff.2 (by simp)
  have wz := word_size (s := s) (k + 1)
  have tbg := (tb.on F2).on H.fr
  have erg := (er.on F2).on H.fr
  have e110 : (((((str ks).data.toList.getD (Int.toNat (k : Int)) 0).toNat : Nat) : Int) == 110) = decide (ks.getD k 0 = 110) := ech 110 (by decide)
  rw [e110]
  by_cases q110 : ks.getD k 0 = 110
  · rw [decide_eq_true q110]
    refine iteT rfl (number_ok tbg erg (by omega) fun g1 f1 => ⟨_, _, rfl, _, _, _, cell_at (f1.get H.a id) rfl, ?_⟩)
    have on1 := H.n.frame f1 (fun _ _ => id)
    rw [H.nl]
    have n2 : numsOf (ks.take k) ≤ 2 := by unfold numsOf; have := List.length_filter_le (· == 110) (ks.take k); have := List.length_take_le k ks; omega
    refine den_append1 t64 u64S on1 rfl (fun v hv => by rw [List.mem_singleton.1 hv]; rfl) (by have := H.nn; omega) (by have := H.nn; omega) fun p' c' g2 own' f2 n2 => ⟨_, _, _, rfl, ?_⟩
    have ab1 : ¬ inBlk A.f1p b1 := fun q => by have := H.sep b1 q; omega
    have a2' := f2.get (f1.get H.a id) ab1
    refine storeP_blk a2' (by show 1 < 4; omega) fun g3 i3 z3 q3 => ?_
    have f3 : Fr (fun y => y = b1) g2 g3 := Fr.of_eq z3 q3
    subst hJ2
    have f1g := H.fr.1
    have zg := f1.1
    refine fin _ g3 (by unfold okW; rw [if_pos q110]) (((H.fr.tt f1).fresh f2 fun y hy => by have := H.sep y hy; have := H.gb; omega).fresh f3 fun y e => by have := H.gb; omega) fun _ =>
      ⟨ns ++ [p64V (wordAt s (k + 1))], bs, { A with f1p := p', f1l := ns.length + 1, f1c := c' }, ⟨?_, H.gb, i3, H.v, ?_, by simp, ?_, ?_, ?_, H.bl, H.bcap, H.bs, ?_, ?_, ?_⟩⟩
    · exact ((H.fr.tt f1).fresh f2 fun y hy => by have := H.sep y hy; have := H.gb; omega).fresh f3 fun y e => by have := H.gb; omega
    · have : Den.Own g2 p' (ns.length + 1) c' 1 ((ns ++ [p64V (wordAt s (k + 1))]).map nenc) := by rw [List.map_append]; exact own'
      rw [List.length_append]
      exact this.frame f3 fun y hy e => by
        rcases n2 y hy with q | q
        · have := H.sep y q; omega
        · have := lt_of_get (f1.get H.a id); omega
    · rw [List.length_append, numsOf_snoc ks k c, if_pos q110, H.nn]; rfl
    · intro n hn
      rcases List.mem_append.1 hn with q | q
      · exact H.lt n q
      · rw [List.mem_singleton.1 q]; exact p64_lt _
    · exact ((H.bb.frame f1 (fun _ _ => id)).frame f2 fun a e q => (H.sep2 _ ⟨a, e, rfl⟩).2.1 q).frame f3 fun a e q => by have := (H.sep2 _ ⟨a, e, rfl⟩).1; omega
    · intro y hy
      rcases n2 y hy with q | q
      · exact H.sep y q
      · have := lt_of_get (f1.get H.a id); omega
    · intro y hy
      obtain ⟨q1, q2, q3'⟩ := H.sep2 y hy
      have := f2.1
      refine ⟨q1, fun q => ?_, by omega⟩
      rcases n2 y q with q | q
      · exact q2 q
      · omega
    · intro j hj
      by_cases e : j = k
      · subst e; unfold okW; rw [if_pos q110]; rename_i ok; exact ok
      · exact H.all j (by omega)
  · rw [decide_eq_false q110]
    refine iteF rfl (JoinP.of fun J3 hJ3 => ?_)
    have e98 : (((((str ks).data.toList.getD (Int.toNat (k : Int)) 0).toNat : Nat) : Int) == 98) = decide (ks.getD k 0 = 98) := ech 98 (by decide)
    rw [e98]
    subst hJ2 hJ3
    have zg := H.fr.1
    have lb1 := lt_of_get H.a
    by_cases q98 : ks.getD k 0 = 98
    · rw [decide_eq_true q98]
      refine iteT rfl (bytes_ok (by omega) fun g1 p c bs1 f1 row1 nb lb => ⟨_, _, _, _, rfl, storeP_blk (f1.get H.a id) (by show 2 < 4; omega) fun g2 i2 z2 q2 => ?_⟩)
      have f2 : Fr (fun y => y = b1) g1 g2 := Fr.of_eq z2 q2
      have FF := (H.fr.tt f1).fresh f2 fun y e => by have := H.gb; omega
      refine fin _ g2 (by unfold okW; rw [if_neg q110, if_pos q98]) FF fun ok => ⟨ns, bs1, { A with f2p := p, f2l := bs1.length, f2c := c }, ⟨FF, H.gb, i2, H.v, ?_, H.nl, ?_, H.lt, ?_, rfl, lb.2, by omega, H.sep, ?_, ?_⟩⟩
      · exact (H.n.frame f1 (fun _ _ => id)).frame f2 fun y hy e => by have := H.sep y hy; omega
      · rw [numsOf_snoc ks k (by omega), if_neg q110, H.nn]; rfl
      · exact row1.frame f2 fun a e q => by have := (nb _ ⟨a, e, rfl⟩).1; omega
      · intro y hy
        have := nb y hy
        refine ⟨by omega, fun q => ?_, by omega⟩
        have := H.n.blk_lt q; omega
      · intro j hj
        by_cases e : j = k
        · subst e; unfold okW; rw [if_neg q110, if_pos q98]; exact ok
        · exact H.all j (by omega)
    · rw [decide_eq_false q98]
      refine iteF rfl (bits_ok (by omega) fun g1 p l c f1 => ⟨_, _, _, _, rfl, storeP_blk (f1.get H.a id) (by show 3 < 4; omega) fun g2 i2 z2 q2 => ?_⟩)
      have f2 : Fr (fun y => y = b1) g1 g2 := Fr.of_eq z2 q2
      have FF := (H.fr.tt f1).fresh f2 fun y e => by have := H.gb; omega
      refine fin _ g2 (by unfold okW; rw [if_neg q110, if_neg q98]) FF fun ok => ⟨ns, bs, { A with f3p := p, f3l := l, f3c := c }, ⟨FF, H.gb, i2, H.v, ?_, H.nl, ?_, H.lt, ?_, H.bl, H.bcap, H.bs, H.sep, ?_, ?_⟩⟩
      · exact (H.n.frame f1 (fun _ _ => id)).frame f2 fun y hy e => by have := H.sep y hy; omega
      · rw [numsOf_snoc ks k (by omega), if_neg q110, H.nn]; rfl
      · exact (H.bb.frame f1 (fun _ _ => id)).frame f2 fun a e q => by have := (H.sep2 _ ⟨a, e, rfl⟩).1; omega
      · intro y hy
        obtain ⟨q1, q2, q3⟩ := H.sep2 y hy
        have := f1.1
        exact ⟨q1, q2, by omega⟩
      · intro j hj
        by_cases e : j = k
        · subst e; unfold okW; rw [if_neg q110, if_neg q98]; exact ok
        · exact H.all j (by omega)

end Aud
end
section
namespace Aud
open Num
variable {h h0 h':Heap} {R:TyP} {s:ByteArray} {p q:TyO} {l c lc b:Nat} {xs ls:List ByteArray} {K:BK}
variable {j:Nat} {ns:List Int} {n e:Int}
structure Bs (h : Heap) : Prop where
  tb : Tab h
  er : Er h
  mx : Mx h
  ut : Ut h
theorem Bs.on (B : Bs h) (f : Fr No h h') : Bs h' := ⟨B.tb.on f, B.er.on f, B.mx.on f, B.ut.on f⟩
def nI (n : Int) : Value := .int .i64 n
theorem tIn : SlTy Tryz.prog 49 3 1 8 (.int .i64 0) := ⟨by kernel_rfl, by kernel_rfl, rfl⟩
theorem uIn : Tryz.prog.underlying 49 = some (.slice 3) := by kernel_rfl
theorem str_at (hj : j < xs.length) : (xs.map Value.string)[j]? = some (.string xs[j]) := by rw [List.getElem?_map, List.getElem?_eq_getElem hj]; rfl
theorem intsQ_len (e : intsQ xs = some ns) : ns.length = xs.length := by
  unfold intsQ at e
  split at e
  · cases e; simp
  · cases e
theorem eqs3 (s : ByteArray) (l : List UInt8) : (s.toList == (str l).toList) = isS s l := by rw [toList_data, toList_data]; rfl
theorem eqs4 (s : ByteArray) (l : List UInt8) : ((str l).toList == s.toList) = isS (str l) s.data.toList := by rw [toList_data, toList_data]; rfl
theorem ints_ok (B : Bs h) (row : Row h p (xs.map Value.string)) (hl : l = xs.length) (hn : xs.length ≤ 100000) (hz : ∀ x ∈ xs, x.size ≤ 100000)
    (hk : ∀ g q m c, Fr No h g → (∀ ns, intsQ xs = some ns → Row g q (ns.map nI) ∧ m = ns.length ∧ m ≤ c ∧ ∀ y, inBlk q y → h.size ≤ y) → R (.tuple #[.slice q m c, .bool (intsQ xs).isSome]) g) : Cl 20 #[.slice p l lc] h R := by
  subst hl
  refine audit_ints.walk ⟨fun q m c i g => ∃ k : Nat, i = (k : Int) ∧ k ≤ xs.length ∧ m = k ∧ Den.Own g q k c 1 ((xs.take k).map fun x => nI (atoiV x)) ∧ (∀ y, inBlk q y → h.size ≤ y) ∧ Fr No h g ∧ ∀ j (hj : j < xs.length), j < k → intB xs[j] = true, fun _ _ _ i _ => xs.length - i.toNat,
    ⟨0, rfl, Nat.zero_le _, rfl, .nil rfl rfl rfl rfl, (fun y ⟨a, e, _⟩ => by cases e), Fr.refl _ _, fun j _ hj => absurd hj (Nat.not_lt_zero _)⟩, ?_⟩
  rintro q m c _ g ⟨k, rfl, hk1, rfl, own, nb, f, all⟩
  by_cases c1 : m < xs.length
  · have rg := row.frame f (fun _ _ => id)
    obtain ⟨a, rfl⟩ := rg.some (by intro e; have := congrArg List.length e; simp at this; rw [this] at c1; simp at c1)
    have zx := hz _ (List.getElem_mem c1)
    have no : intB xs[m] = false → ∀ g', Fr No h g' → R (.tuple #[.slice none 0 0, .bool false]) g' := fun e g' f' => by
      have eq : intsQ xs = none := by
        unfold intsQ
        rw [if_neg]
        intro q
        rw [List.all_eq_true.1 q _ (List.getElem_mem c1)] at e
        cases e
      have := hk g' none 0 0 f' (fun ns e => by rw [eq] at e; cases e)
      rw [eq] at this
      exact this
    refine iteT (decide_eq_true (by omega)) ⟨⟨by omega, by omega⟩, onSome_some.2 ⟨_, by rw [Int.toNat_natCast, Nat.mul_one]; exact rg.cell (str_at c1), atoi_ok (B.on f).er zx fun g1 v f1 ev => ⟨_, _, rfl, JoinP.of fun J hJ => ⟨_, ev.eq, ?_⟩⟩⟩⟩
    have F1 := f.tt f1
    have fin : ∀ ok g', intB xs[m] = ok → Fr No g1 g' → J (!ok) g' := fun ok g' e f' => by
      subst hJ
      cases ok with
      | false => exact iteT rfl (no e g' (F1.tt f'))
      | true =>
        refine iteF rfl (den_append1 tIn uIn (own.frame (f1.tt f') (fun _ _ => id)) rfl (fun v hv => by rw [List.mem_singleton.1 hv]; rfl) (by omega) (by omega) fun p' c' g2 own' f2 n2 => ⟨_, _, _, rfl, ⟨m + 1, by rw [wrap_id (by omega) (by omega)]; rfl, c1, rfl, ?_, fun y hy => ?_, (F1.tt f').fresh f2 nb, fun j hj hj2 => ?_⟩, ?_⟩)
        · rw [List.take_add_one, List.getElem?_eq_getElem c1, List.map_append]
          exact own'
        · rcases n2 y hy with q | q
          · exact nb y q
          · have := (F1.tt f').1; omega
        · by_cases ej : j = m
          · subst ej; exact e
          · exact all j hj (by omega)
        · show xs.length - Int.toNat (IntKind.wrap .i64 ((m : Int) + 1)) < xs.length - Int.toNat (m : Int)
          rw [wrap_id (by omega) (by omega)]
          omega
    unfold intB at fin
    cases ok : atoiOk xs[m] with
    | false =>
      rw [ok] at fin
      exact iteT rfl (fin false g1 rfl (Fr.refl _ _))
    | true =>
      rw [ok] at fin
      refine iteF rfl ?_
      by_cases c0 : atoiV xs[m] < 0
      · rw [decide_eq_true c0] at fin ⊢
        exact iteT rfl (fin false g1 rfl (Fr.refl _ _))
      · rw [decide_eq_false c0] at fin ⊢
        refine iteF rfl (itoa_ok ((B.on F1).tb) (atoiV_in _).1 (atoiV_in _).2 fun g2 f2 => ⟨_, rfl, ?_⟩)
        rw [eqs4]
        cases ei : isS (str (Lib.itoa (atoiV xs[m]))) xs[m].data.toList with
        | false =>
          rw [ei] at fin
          exact iteT rfl (fin false g2 rfl f2)
        | true =>
          rw [ei] at fin
          refine iteF rfl ?_
          have := fin (!decide (xs[m].size > 18)) g2 rfl f2
          rw [Bool.not_not] at this
          rw [show decide (((xs[m].size : Nat) : Int) > 18) = decide (xs[m].size > 18) from Bool.eq_iff_iff.2 (by simp; omega)]
          exact this
  · obtain rfl : m = xs.length := by omega
    have eq : intsQ xs = some (xs.map atoiV) := by
      unfold intsQ
      rw [if_pos]
      refine List.all_eq_true.2 fun x hx => ?_
      obtain ⟨j, hj, rfl⟩ := List.getElem_of_mem hx
      exact all j hj hj
    refine iteF (decide_eq_false (by omega)) ?_
    have := hk g q xs.length c f fun ns e => by
      rw [eq] at e
      cases e
      refine ⟨?_, by simp, own.le, nb⟩
      have r := own.row'
      rw [List.take_length] at r
      rw [List.map_map]
      exact r
    rw [eq] at this
    exact this
theorem isWord_ok (hz : s.size ≤ 100000) (hk : ∀ g, Fr No h g → R (.bool (isWordB s)) g) : Cl 25 #[.string s] h R := by
  refine audit_isWord.walk ?_
  simp only [eqs]
  unfold isWordB at hk
  cases d : isS s [45] with
  | true => rw [d] at hk; exact iteT rfl (hk h (Fr.refl _ _))
  | false =>
    rw [d] at hk
    refine iteF rfl ?_
    cases e : isS s [] with
    | true => rw [e] at hk; exact iteF rfl (hk h (Fr.refl _ _))
    | false =>
      rw [e] at hk
      refine iteT rfl ?_
      have e2 : (Int.tmod ((s.size : Nat) : Int) 2 == 0) = decide (s.size % 2 = 0) := by
        rw [show Int.tmod ((s.size : Nat) : Int) 2 = ((s.size % 2 : Nat) : Int) from rfl]
        exact Bool.eq_iff_iff.2 (by simp; omega)
      rw [e2]
      by_cases c : s.size % 2 = 0
      · rw [decide_eq_true c] at hk ⊢
        refine iteT rfl (trim_ok hz fun g f => ⟨_, rfl, ?_⟩)
        exact hk g f
      · rw [decide_eq_false c] at hk ⊢
        exact iteF rfl (hk h (Fr.refl _ _))
theorem sure_ok (hk : R (.bool (sureB s)) h) : Cl 15 #[.string s] h R := by
  refine audit_sure.walk ?_
  simp only [eqs]
  refine JoinP.of fun J hJ => ?_
  have e : J (sureB s) h := by
    subst hJ
    cases q : sureB s with
    | true => rw [q] at hk; exact iteT rfl hk
    | false => rw [q] at hk; exact iteF rfl hk
  exact orJ e fun e => JoinP.of fun K hK => by
    subst hK
    exact orJ (J := fun t g => J t g) e fun e => JoinP.of fun K hK => by
      subst hK
      exact orJ (J := fun t g => J t g) e fun e => JoinP.of fun K hK => by
        subst hK
        exact orE (J := fun t g => J t g) e
theorem nI_at (hj : j < ns.length) : (ns.map nI)[j]? = some (.int .i64 ns[j]) := by rw [List.getElem?_map, List.getElem?_eq_getElem hj]; rfl
theorem one_ok {most : Int} (B : Bs h) (row : Row h p (xs.map Value.string)) (hl : l = xs.length) (hn : xs.length ≤ 100000) (hz : ∀ x ∈ xs, x.size ≤ 100000) (hk : ∀ g, Fr No h g → R (.bool (oneB xs most)) g) : Cl 14 #[.slice p l lc, .int .i64 most] h R := by
  refine audit_one.walk (ints_ok B row hl hn hz fun g q m c f hr => ⟨_, _, _, _, rfl, ?_⟩)
  have hk := hk g f
  unfold oneB at hk
  cases e : intsQ xs with
  | none => rw [e] at hk; exact iteF rfl hk
  | some ns =>
    rw [e] at hk
    obtain ⟨r, rfl, _⟩ := hr ns e
    refine iteT rfl ?_
    match ns, r, hk with
    | [], r, hk => exact iteF rfl hk
    | [n], r, hk =>
      obtain ⟨a, rfl⟩ := r.some (by intro e; cases e)
      exact iteT rfl ⟨⟨by omega, by simp⟩, onSome_some.2 ⟨_, r.cell (j := 0) rfl, hk⟩⟩
    | n :: n' :: ns, r, hk => exact iteF (beq_eq_false_iff_ne.2 (by simp; omega)) hk
def bkL (K : BK) : Array Value := #[.bool true, .bool K.wrong, .int .i64 K.heard, .int .i64 K.now, .int .i64 K.conns, .int .i64 K.l0, .int .i64 K.l1, .int .i64 K.l2]
def BkA (h : Heap) (b : Nat) (K : BK) : Prop := h[b]? = some (.cells (bkL K) 36 (0, 0))
theorem wr_in (n : Int) : -9223372036854775808 ≤ wr n ∧ wr n ≤ 9223372036854775807 := by unfold wr; rw [IntKind.wrap_i64]; omega
theorem BkA.set {v : Value} {K' : BK} {Q : Heap → Prop} (H : BkA h b K) (hj : j < 8) (e : (bkL K).setIfInBounds j v = bkL K') (hk : ∀ g, BkA g b K' → Fr (fun y => y = b) h g → Q g) : StoreP h ⟨b, j, none⟩ v Q :=
  storeP_blk H hj fun g i z q => hk g (by rw [e] at i; exact i) (Fr.of_eq z q)
theorem BkA.on (H : BkA h b K) (f : Fr No h h') : BkA h' b K := f.get H id
theorem connect_ok (B : Bs h) (H : BkA h b K) (tab : ∀ g, Fr (fun y => y = b) h g → Bs g) (row : Row h p (xs.map Value.string)) (nb : ¬ inBlk p b) (hl : l = xs.length) (hn : xs.length ≤ 100000) (hz : ∀ x ∈ xs, x.size ≤ 100000)
    (hk : ∀ g, Fr (fun y => y = b) h g → BkA g b { K with conns := wr (K.conns + 1) } → R (.bool (oneB xs (wr (K.conns + 1)) && isS (xs.getD 0 ⟨#[]⟩) (Lib.itoa (wr (K.conns + 1))))) g) : Cl 21 #[.pointer (some ⟨b, 0, none⟩), .slice p l lc] h R := by
  refine audit_Book_connect.walk ⟨_, cell_at H rfl, H.set (K' := { K with conns := wr (K.conns + 1) }) (by decide) rfl fun g1 H1 f1 => ⟨_, cell_at H1 rfl, ?_⟩⟩
  have row1 := row.frame f1 fun a e q => nb ⟨a, e, q⟩
  refine one_ok (tab g1 f1) row1 hl hn hz fun g2 f2 => ⟨_, rfl, ?_⟩
  have hk := hk
  cases e1 : oneB xs (wr (K.conns + 1)) with
  | false =>
    rw [e1] at hk
    exact iteF rfl (hk g2 (f1.on f2) (H1.on f2))
  | true =>
    rw [e1] at hk
    have len : xs.length = 1 := by
      unfold oneB at e1
      split at e1
      · rename_i e; have := intsQ_len e; simp at this; omega
      · cases e1
    refine iteT rfl ⟨⟨by omega, by omega⟩, ?_⟩
    have row2 := row1.frame f2 (fun _ _ => id)
    obtain ⟨a, rfl⟩ := row2.some (by intro e; have := congrArg List.length e; simp at this; rw [this] at len; cases len)
    refine onSome_some.2 ⟨_, row2.cell (j := 0) (str_at (by omega)), _, cell_at (H1.on f2) rfl, itoa_ok ((tab g1 f1).on f2).tb (wr_in _).1 (wr_in _).2 fun g3 f3 => ⟨_, rfl, f3.kp, ?_⟩⟩
    rw [eqs3]
    have := hk g3 ((f1.on f2).on f3) ((H1.on f2).on f3)
    rw [List.getD_eq_getElem?_getD, List.getElem?_eq_getElem (by omega)] at this
    exact this
theorem crash_ok (H : BkA h b K) (tab : ∀ g, Fr (fun y => y = b) h g → Bs g) (row : Row h p (xs.map Value.string)) (nb : ¬ inBlk p b) (hl : l = xs.length) (hn : xs.length ≤ 100000) (hz : ∀ x ∈ xs, x.size ≤ 100000)
    (hk : ∀ g, Fr (fun y => y = b) h g → BkA g b { K with conns := 0 } → R (.bool ((intsQ xs).isSome && decide (xs.length = 1))) g) : Cl 22 #[.pointer (some ⟨b, 0, none⟩), .slice p l lc] h R := by
  refine audit_Book_crash.walk (H.set (K' := { K with conns := 0 }) (by decide) rfl fun g1 H1 f1 => ints_ok (tab g1 f1) (row.frame f1 fun a e q => nb ⟨a, e, q⟩) hl hn hz fun g2 q m c f2 _ => ⟨_, _, _, _, rfl, ?_⟩)
  have hk := hk g2 (f1.on f2) (H1.on f2)
  cases e : (intsQ xs).isSome with
  | false => rw [e] at hk; exact iteF rfl hk
  | true =>
    rw [e] at hk
    refine iteT rfl ?_
    rw [show (((l : Nat) : Int) == 1) = decide (xs.length = 1) from Bool.eq_iff_iff.2 (by simp; omega)]
    exact hk
theorem above_ok (row : Row h p (ns.map nI)) (hl : l = ns.length) (hn : ns.length ≤ 100000) (hk : R (.bool (ns.any fun n => decide (n > 0))) h) : Cl 41 #[.slice p l lc, .func (.func 40) #[] #[]] h R := by
  subst hl
  refine slices_ContainsFunc_s_int_int.above.walk (slices_IndexFunc_s_int_int.above.walk ⟨fun t g => g = h ∧ ∃ k : Nat, t = (k : Int) ∧ k ≤ ns.length ∧ ∀ j (hj : j < ns.length), j < k → ¬ ns[j] > 0, fun t _ => ns.length - t.toNat, ⟨rfl, 0, rfl, Nat.zero_le _, fun j _ hj => absurd hj (Nat.not_lt_zero _)⟩, ?_⟩)
  rintro _ g ⟨hg, k, rfl, hk1, all⟩
  subst hg
  by_cases c : k < ns.length
  · obtain ⟨a, rfl⟩ := row.some (by intro e; have := congrArg List.length e; simp at this; rw [this] at c; simp at c)
    refine iteT (decide_eq_true (by omega)) ⟨⟨by omega, by omega⟩, onSome_some.2 ⟨_, by rw [Int.toNat_natCast, Nat.mul_one]; exact row.cell (nI_at c), audit_reply_1.walk ⟨_, rfl, ?_⟩⟩⟩
    by_cases q : ns[k] > 0
    · refine iteT (decide_eq_true q) ⟨_, rfl, ?_⟩
      rw [decide_eq_true (by omega)]
      rw [List.any_eq_true.2 ⟨_, List.getElem_mem c, decide_eq_true q⟩] at hk
      exact hk
    · refine iteF (decide_eq_false q) ⟨⟨rfl, k + 1, by rw [wrap_id (by omega) (by omega)]; rfl, c, fun j hj hj2 => ?_⟩, ?_⟩
      · by_cases e : j = k
        · subst e; exact q
        · exact all j hj (by omega)
      · show ns.length - Int.toNat (IntKind.wrap .i64 ((k : Int) + 1)) < ns.length - Int.toNat (k : Int)
        rw [wrap_id (by omega) (by omega)]
        omega
  · refine iteF (decide_eq_false (by omega)) ⟨_, rfl, ?_⟩
    rw [show decide ((-1 : Int) ≥ 0) = false from rfl]
    have : (ns.any fun n => decide (n > 0)) = false := by
      rw [List.any_eq_false]
      intro n hn
      obtain ⟨j, hj, rfl⟩ := List.getElem_of_mem hn
      simpa using all j hj (by omega)
    rw [this] at hk
    exact hk
theorem judge_ok (B : Bs h) (H : BkA h b K) (row : Row h p (xs.map Value.string)) (hl : l = xs.length) (hn : xs.length ≤ 100000) (hz : ∀ x ∈ xs, x.size ≤ 100000)
    (hk : ∀ g, Fr No h g → R (.bool (match intsQ xs with | some [n] => decide (n ≥ K.l0) | _ => false)) g) : Cl 28 #[.pointer (some ⟨b, 0, none⟩), .slice p l lc] h R := by
  refine audit_Book_judge.walk (ints_ok B row hl hn hz fun g q m c f hr => ⟨_, _, _, _, rfl, ?_⟩)
  have hk := hk g f
  cases e : intsQ xs with
  | none => rw [e] at hk; exact iteF rfl hk
  | some ns =>
    rw [e] at hk
    obtain ⟨r, rfl, _⟩ := hr ns e
    refine iteT rfl ?_
    match ns, r, hk with
    | [], r, hk => exact iteF rfl hk
    | [n], r, hk =>
      obtain ⟨a, rfl⟩ := r.some (by intro e; cases e)
      exact iteT rfl ⟨⟨by omega, by simp⟩, onSome_some.2 ⟨_, r.cell (j := 0) rfl, ⟨by omega, by simp⟩, _, cell_at (H.on f) rfl, hk⟩⟩
    | n :: n' :: ns, r, hk => exact iteF (beq_eq_false_iff_ne.2 (by simp; omega)) hk
theorem tSt : SlTy Tryz.prog 40 9 1 16 (.string ByteArray.empty) := ⟨by kernel_rfl, by kernel_rfl, rfl⟩
theorem uSt : Tryz.prog.underlying 40 = some (.slice 9) := by kernel_rfl
theorem dec_len {u : Nat} (h : u < 18446744073709551616) : (Lib.decDigits u).length ≤ 20 := by
  rw [Lib.decDigits_length]
  by_cases h1 : u < 10
  · rw [Lib.nDigits_small h1]; omega
  · have := Lib.numDigits_eq u (by omega) h
    split at this <;> omega
theorem itoa_len (h0 : -9223372036854775808 ≤ n) (h1 : n ≤ 9223372036854775807) : (Lib.itoa n).length ≤ 21 := by
  unfold Lib.itoa
  split
  · have := dec_len (u := n.natAbs) (by omega)
    simp
    omega
  · have := dec_len (u := n.toNat) (by omega)
    omega
theorem join_len (sep : List UInt8) (hs : sep.length = 1) : ∀ (ls : List (List UInt8)) (N : Nat), (∀ x ∈ ls, x.length ≤ N) → (Lib.join ls sep).length ≤ ls.length * (N + 1)
  | [], _, _ => Nat.zero_le _
  | [x], N, h => by
    have := h x (List.mem_singleton.2 rfl)
    simp [Lib.join]
    omega
  | x :: y :: ls, N, h => by
    have ih := join_len sep hs (y :: ls) N fun z hz => h z (List.mem_cons_of_mem _ hz)
    have hx := h x List.mem_cons_self
    have e : Lib.join (x :: y :: ls) sep = x ++ (sep ++ Lib.join (y :: ls) sep) := by simp [Lib.join, List.intercalate]
    rw [e, List.length_append, List.length_append, hs, List.length_cons]
    rw [Nat.succ_mul]
    omega
theorem size_str (r : List UInt8) : (str r).size = r.length := by simp [str, ByteArray.size]
theorem tell_ok (B : Bs h) (he : 0 ≤ e ∧ e ≤ 1000) (row : Row h p (xs.map Value.string)) (hl : l = xs.length) (hn : xs.length ≤ 20) (hz : ∀ x ∈ xs, x.size ≤ 100000)
    (hk : ∀ g s, Fr No h g → R (.string s) g) : Cl 51 #[.int .i64 e, .slice p l lc] h R := by
  subst hl
  refine desk_tell.walk ?_
  by_cases c : e = 0
  · subst c
    refine iteF rfl (newP_of ?_)
    have f1 : Fr No h (h.push (.cells #[.string (⟨#[111, 107]⟩ : ByteArray)] 9)) := Fr.push _ _
    have e1 : (h.push (.cells #[.string (⟨#[111, 107]⟩ : ByteArray)] 9))[h.size]? = some (.cells #[.string (⟨#[111, 107]⟩ : ByteArray)] 9 (0, 0)) := push_new
    generalize h.push (.cells #[.string (⟨#[111, 107]⟩ : ByteArray)] 9) = g1 at f1 e1 ⊢
    have own : Den.Own g1 (some ⟨h.size, 0, none⟩) 1 1 1 [.string (⟨#[111, 107]⟩ : ByteArray)] := .row h.size 0 _ _ rfl e1 (Nat.le_refl _) (by decide) rfl (fun j v hj => by rw [Nat.zero_add]; simpa using hj)
    refine den_append tSt uSt own (row.frame f1 (fun _ _ => id)) (by simp) (fun v hv => by obtain ⟨x, _, rfl⟩ := List.mem_map.1 hv; rfl) (by omega) (by omega) fun p' c' g2 own' _ f2 _ => ⟨_, _, _, rfl, ?_⟩
    have F2 := f1.fresh f2 fun y ⟨a, e, q⟩ => by cases e; have : h.size = y := q; omega
    obtain ⟨b, off, rfl⟩ := own'.some (by simp)
    have ez : [Value.string (⟨#[111, 107]⟩ : ByteArray)] ++ xs.map Value.string = ((⟨#[111, 107]⟩ : ByteArray) :: xs).map Value.string := rfl
    have r := own'.row'
    rw [ez] at r
    refine join_ok (xs := (⟨#[111, 107]⟩ : ByteArray) :: xs) r (by simp; omega) (own'.blk_lt ⟨_, rfl, rfl⟩) (by simp; omega) own'.le ?_ fun g3 f3 => ⟨_, rfl, hk g3 _ (F2.tt f3)⟩
    have := join_len [32] rfl (((⟨#[111, 107]⟩ : ByteArray) :: xs).map (·.data.toList)) 100000 fun x hx => by
      obtain ⟨y, hy, rfl⟩ := List.mem_map.1 hx
      rcases List.mem_cons.1 hy with rfl | hy
      · decide
      · exact hz y hy
    rw [List.length_map, List.length_cons] at this
    have := Nat.mul_le_mul_right (100000 + 1) (show xs.length + 1 ≤ 21 by omega)
    omega
  · refine iteT (bne_iff_ne.2 c) (itoa_ok B.tb (by omega) (by omega) fun g f => ⟨_, rfl, ?_, hk g _ f⟩)
    have := itoa_len (n := e) (by omega) (by omega)
    rw [size_str]
    have hm : IntKind.max .i64 = 9223372036854775807 := rfl
    rw [hm]
    have : (⟨#[101, 114, 114, 32]⟩ : ByteArray).size = 4 := rfl
    omega
theorem row_of {vs : List ByteArray} {g : Heap} (e : g = h.push (.cells (vs.map Value.string).toArray 9)) : Row g (some ⟨h.size, 0, none⟩) (vs.map Value.string) := by subst e; exact row_new
theorem count_ok (B : Bs h) (hn : -9223372036854775808 ≤ n ∧ n ≤ 9223372036854775807) (he : 0 ≤ e ∧ e ≤ 1000) (hk : ∀ g s, Fr No h g → R (.string s) g) : Cl 49 #[.int .i64 n, .int .i64 e] h R := by
  refine desk_count.walk (itoa_ok B.tb hn.1 hn.2 fun g1 f1 => ⟨_, rfl, newP_of ?_⟩)
  have f2 : Fr No g1 (g1.push (.cells #[.string (str (Lib.itoa n))] 9)) := Fr.push _ _
  exact tell_ok (xs := [str (Lib.itoa n)]) ((B.on f1).on f2) he (row_of (vs := [str (Lib.itoa n)]) rfl) rfl (by simp) (fun x hx => by rw [List.mem_singleton.1 hx, size_str]; have := itoa_len hn.1 hn.2; omega) fun g s f => ⟨_, rfl, hk g s ((f1.tt f2).tt f)⟩
theorem word_nil (hk : R (.string (⟨#[45]⟩ : ByteArray)) h) : Cl 59 #[.slice none 0 0] h R := desk_word.walk (iteT rfl hk)
theorem said_ok {r:Int} (B : Bs h) (hr : 0 ≤ r ∧ r ≤ 1000) (he : 0 ≤ e ∧ e ≤ 1000) (hk : ∀ g s, Fr No h g → R (.string s) g) : Cl 53 #[(⟨0, r, 0, 0, 0, none, 0, 0⟩ : reply_Reply.S).agg, .int .i64 e] h R := by
  refine desk_said.walk (r := ⟨0, r, 0, 0, 0, none, 0, 0⟩) (reply_Reply.boxp fun b h1 eb hb f1 => ⟨_, cell_at hb rfl, _, cell_at hb rfl, _, cell_at hb rfl, _, cell_at hb rfl, _, cell_at hb rfl, _, _, _, cell_at hb rfl, ?_⟩)
  have B1 := B.on f1
  refine formatUint_ok (u := 0) B1.tb (by decide) fun g2 f2 => ⟨_, rfl, f2.kp, itoa_ok (n := r) (B1.on f2).tb (by omega) (by omega) fun g3 f3 => ⟨_, rfl, f3.kp, itoa_ok (n := 0) ((B1.on f2).on f3).tb (by decide) (by decide) fun g4 f4 => ⟨_, rfl, f4.kp, itoa_ok (n := 0) (((B1.on f2).on f3).on f4).tb (by decide) (by decide) fun g5 f5 => ⟨_, rfl, f5.kp, formatUint_ok (u := 0) ((((B1.on f2).on f3).on f4).on f5).tb (by decide) fun g6 f6 => ⟨_, rfl, f6.kp, word_nil ⟨_, rfl, newP_of ?_⟩⟩⟩⟩⟩⟩
  have F6 := ((((f1.tt f2).tt f3).tt f4).tt f5).tt f6
  refine tell_ok (xs := [str (Lib.decDigits 0), str (Lib.itoa r), str (Lib.itoa 0), str (Lib.itoa 0), str (Lib.decDigits 0), ⟨#[45]⟩]) (B.on (F6.tt (Fr.push _ _))) he (row_of (vs := [str (Lib.decDigits 0), str (Lib.itoa r), str (Lib.itoa 0), str (Lib.itoa 0), str (Lib.decDigits 0), ⟨#[45]⟩]) rfl) rfl (by simp) (fun x hx => ?_) fun g s f => ⟨_, rfl, hk g s ((F6.tt (Fr.push _ _)).tt f)⟩
  have d0 := dec_len (u := 0) (by decide)
  have d1 := itoa_len (n := r) (by omega) (by omega)
  have d2 := itoa_len (n := 0) (by decide) (by decide)
  simp only [List.mem_cons, List.not_mem_nil, or_false] at hx
  rcases hx with rfl | rfl | rfl | rfl | rfl | rfl
  all_goals first | (rw [size_str]; omega) | decide

end Aud
end
abbrev Eid.Ev.s (x : Eid.Ev) : eid_Eid.S := ⟨x.ipn, x.node, x.svc, x.host, x.dem⟩
namespace Flu
open Dsk Jnl Sup
open Stt hiding Good
variable {h h0 h' : Heap} {R : Value → Heap → Prop} {l j d n s : Nat} {X XJ XS XD : Ft} {ds : DS} {x : JN} {I : Ids} {σ σ' : SS} {e : Eid.Ev} {A : List Ses.Ses}
structure LgA (h : Heap) (l j d s : Nat) (XJ XS : Ft) (n : Nat) (x : JN) (ds : DS) (I : Ids) (σ : SS) : Prop where
  blk : h[l]? = some (.cells #[.pointer (some ⟨j, 0, none⟩), pt s, .int .i64 (room n : Int)] 233 (0, 0))
  jn : Jn h j d XJ n x ds
  st : Pt h s XS I σ
  js : ∀ y, XJ.M y → ¬ (XS.M y ∨ XS.D y)
  lj : ¬ XJ.M l
  ls : ¬ (XS.M l ∨ XS.D l)
def ftL (l : Nat) (XJ XS : Ft) : Ft := ⟨fun y => y = l ∨ XJ.M y ∨ XS.M y, XS.D⟩
def Lg (h : Heap) (l : Nat) (X : Ft) (n : Nat) (x : JN) (ds : DS) (σ : SS) : Prop := ∃ j d s XJ XS I, LgA h l j d s XJ XS n x ds I σ ∧ X = ftL l XJ XS
theorem LgA.ll (A : LgA h l j d s XJ XS n x ds I σ) : l < h.size := (Array.getElem?_eq_some_iff.1 A.blk).1
theorem Lg.lt (H : Lg h l X n x ds σ) (y : Nat) (hy : X.M y ∨ X.D y) : y < h.size := by
  obtain ⟨j, d, s, XJ, XS, I, A, rfl⟩ := H
  rcases hy with (rfl | e | e) | e
  · exact A.ll
  · exact A.jn.lt y e
  · exact A.st.lt y (.inl e)
  · exact A.st.lt y (.inr e)
theorem made_ok (A : LgA h l j d s XJ XS n x ds I σ) (hk : R (.bool true) h) : Cl 153 #[.pointer (some ⟨l, 0, none⟩)] h R :=
  flush_Log_made.walk ⟨_, cell_at A.blk rfl, hk⟩
theorem State_ok (A : LgA h l j d s XJ XS n x ds I σ) (hk : R (pt s) h) : Cl 86 #[.pointer (some ⟨l, 0, none⟩)] h R :=
  flush_Log_State.walk ⟨_, cell_at A.blk rfl, hk⟩
theorem Done_ok (H : Lg h l X n x ds σ) (hk : R (.int .i64 x.done) h) : Cl 108 #[.pointer (some ⟨l, 0, none⟩)] h R := by
  obtain ⟨j, d, s, XJ, XS, I, A, rfl⟩ := H
  refine flush_Log_Done.walk (made_ok A ⟨_, rfl, ?_⟩)
  rw [if_neg (by decide)]
  exact ⟨_, cell_at A.blk rfl, Jnl.Done_ok A.jn ⟨_, rfl, hk⟩⟩
theorem LgA.frame {Q : Nat → Prop} (A : LgA h l j d s XJ XS n x ds I σ) (f : Fr Q h h') (hq : ∀ y, (ftL l XJ XS).M y ∨ (ftL l XJ XS).D y → ¬ Q y) : LgA h' l j d s XJ XS n x ds I σ :=
  ⟨f.get A.blk (hq l (.inl (.inl rfl))), A.jn.frame f (fun y e => hq y (.inl (.inr (.inl e)))), A.st.frame f (fun y e => hq y (e.imp (fun e => .inr (.inr e)) id)), A.js, A.lj, A.ls⟩
theorem LgA.lg (A : LgA h l j d s XJ XS n x ds I σ) : Lg h l (ftL l XJ XS) n x ds σ := ⟨j, d, s, XJ, XS, I, A, rfl⟩
def LgD (h : Heap) (l d : Nat) (X : Ft) (n : Nat) (x : JN) (ds : DS) (σ : SS) : Prop := ∃ j s XJ XS I, LgA h l j d s XJ XS n x ds I σ ∧ X = ftL l XJ XS
theorem LgA.lgd (A : LgA h l j d s XJ XS n x ds I σ) : LgD h l d (ftL l XJ XS) n x ds σ := ⟨j, s, XJ, XS, I, A, rfl⟩
theorem LgD.lg (H : LgD h l d X n x ds σ) : Lg h l X n x ds σ := by obtain ⟨j, s, XJ, XS, I, A, rfl⟩ := H; exact A.lg
theorem LgD.frame {Q : Nat → Prop} (H : LgD h l d X n x ds σ) (f : Fr Q h h') (hq : ∀ y, X.M y ∨ X.D y → ¬ Q y) : LgD h' l d X n x ds σ := by obtain ⟨j, s, XJ, XS, I, A, rfl⟩ := H; exact (A.frame f hq).lgd
theorem Format_ok (he : mayE e) (H : Dk h d XD n ds) (h4 : 4 ≤ n) (h5 : n ≤ 4096) (hw : ds.W.length ≤ 1000)
    (hk : ∀ g l X, LgD g l d X n jn0 (ds.put 1 (supB ⟨1, 0, 0⟩)).sync (newS e) → Fr XD.M h g → (∀ y, X.M y ∨ X.D y → XD.M y ∨ h.size ≤ y) → R (.tuple #[pt l, .int .i64 0]) g) :
    Cl 150 #[.pointer (some ⟨d, 0, none⟩), Eid.ev5 e] h R := by
  refine flush_Format.walk (self := e.s) (eid_Eid.boxp fun b h1 eb hb f1 => eid_Eid.ldp hb (Stt.new_ok e (fun _ h2 s XS I H2 u2 => ⟨_, _, rfl, iteF rfl (Jnl.Format_ok (H.on (f1.tt u2.fr)) h4 h5 hw fun h3 j XJ J3 st3 => ⟨_, _, rfl, iteF rfl ?_⟩)⟩) (fun q => absurd he q)))
  have u1 := f1.1
  have z2 := u2.fr.1
  have z3 := st3.fr.1
  have sl : ∀ y, XS.M y ∨ XS.D y → h.size ≤ y ∧ y < h2.size := fun y hy => ⟨by have := u2.ge y hy; omega, H2.lt y hy⟩
  have xl : ∀ y, XD.M y → y < h.size := fun y hy => H.lt y hy
  have S3 := H2.frame st3.fr (fun y hy e => by have := sl y hy; have := xl y e; omega)
  obtain ⟨XD3, q, cq, A3⟩ := id J3
  refine half_ok A3.dk h4 h5 fun h4' f4 => ⟨_, rfl, newP_of ?_⟩
  have z4 := f4.1
  have f5 : Fr No h4' (h4'.push (.cells #[pt j, pt s, .int .i64 (room n : Int)] 233)) := Fr.push _ _
  have jl : ∀ y, XJ.M y → (XD.M y ∨ h2.size ≤ y) ∧ y < h3.size := fun y hy => ⟨st3.newM y hy, J3.lt y hy⟩
  refine hk _ h4'.size _ (LgA.lgd ⟨push_new, (J3.on f4).on f5, (S3.on f4).on f5, fun y hy q => ?_, fun q => ?_, fun q => ?_⟩) ((f1.tt u2.fr).no (st3.fr.on (f4.tt f5))) ?_
  · have := sl y q
    rcases (jl y hy).1 with a | a
    · have := xl y a; omega
    · omega
  · have := (jl _ q).2; omega
  · have := sl _ q; omega
  · rintro y ((a | a | a) | a)
    · exact .inr (by omega)
    · exact (jl y a).1.imp id (fun a => by omega)
    · exact .inr (sl y (.inl a)).1
    · exact .inr (sl y (.inr a)).1
end Flu
section
namespace Area
variable {h h0 h':Heap} {R:TyP} {d n:Nat} {X:Ft} {s:Dsk.DS}
theorem Get0_ok {x : AR} (H : Dsk.Dk h d X n s) (ok : x.ok n) (n5 : n ≤ 4096) (hk : ∀ g, Fr No h g → R (.tuple #[.slice none 0 0, .int .i64 0]) g) : Cl 287 #[.pointer (some ⟨d, 0, none⟩), x.S.agg, .int .i64 0, .int .i64 0] h R := by
  refine area_Get.walk (area_Area.boxp (x := x.S) fun b h1 e1 b1 f1 => ⟨fun a m p l c g => m = 0 ∧ p = none ∧ l = 0 ∧ c = 0 ∧ Fr No h g, fun _ _ _ _ _ _ => 0, area_Area.ldp b1 (ask_ok (a := 0) (m := 0) (H.on f1) ok n5 (Nat.zero_le _) fun h2 f2 => ⟨_, rfl, iteF rfl ⟨rfl, rfl, rfl, rfl, f1.tt f2⟩⟩), ?_⟩)
  rintro _ _ _ _ _ g ⟨rfl, rfl, rfl, rfl, f⟩
  exact iteF rfl (hk g f)
end Area
namespace Jnl
open Dsk Area Sup
variable {h h0 h' : Heap} {R : Value → Heap → Prop} {d n j : Nat} {X XD : Ft} {s : DS}
theorem fr_set {h : Heap} {N : Nat} {o : Obj} : Fr (fun y => y = N) h (h.setIfInBounds N o) := ⟨by simp, fun x _ hn => by rw [Array.getElem?_setIfInBounds, if_neg (fun e => hn e.symm)]⟩
theorem Open1_ok (H : Dk h d XD n s) (h4 : 4 ≤ n) (h5 : n ≤ 4096) (hw : s.W.length ≤ 1000000) (h0 : s.get 0 = secB false) (h1 : s.get 1 = secB true)
    (hk : ∀ g j X, Jn g j d X n jn0 s → Fr No h g → (∀ y, X.M y → XD.M y ∨ h.size ≤ y) → R (.tuple #[pt j, .slice none 0 0, .int .i64 0]) g) : Cl 213 #[.pointer (some ⟨d, 0, none⟩)] h R := by
  refine journal_Open.walk (newP_of (newP_of (newP_of ?_)))
  have p0 : Fr No h (h.push (.cells #[.pointer none] 231)) := Fr.push _ _
  have c0 : (h.push (.cells #[.pointer none] 231))[h.size]? = some (.cells #[.pointer none] 231 (0, 0)) := push_new
  have z0 : (h.push (.cells #[.pointer none] 231)).size = h.size + 1 := Array.size_push _
  generalize h.push (.cells #[.pointer none] 231) = g0 at p0 c0 z0 ⊢
  have p1 : Fr No g0 (g0.push (.cells #[.slice none 0 0] 164)) := Fr.push _ _
  have c1 : (g0.push (.cells #[.slice none 0 0] 164))[g0.size]? = some (.cells #[.slice none 0 0] 164 (0, 0)) := push_new
  have z1 : (g0.push (.cells #[.slice none 0 0] 164)).size = g0.size + 1 := Array.size_push _
  generalize g0.push (.cells #[.slice none 0 0] 164) = g1 at p1 c1 z1 ⊢
  have p2 : Fr No g1 (g1.push (.cells #[.int .i64 0] 28)) := Fr.push _ _
  have c2 : (g1.push (.cells #[.int .i64 0] 28))[g1.size]? = some (.cells #[.int .i64 0] 28 (0, 0)) := push_new
  have z2 : (g1.push (.cells #[.int .i64 0] 28)).size = g1.size + 1 := Array.size_push _
  generalize g1.push (.cells #[.int .i64 0] 28) = g2 at p2 c2 z2 ⊢
  have P2 := (p0.tt p1).tt p2
  refine Newest_ok true (H.on P2) (by omega) hw h0 h1 fun g3 f3 => super_Super.ex su1.S ⟨_, rfl, super_Super.newp (x := su1.S) fun b3 g4 e4 d4 f4 => iteF rfl (super_Super.ldp d4 ?_)⟩
  have F4 := (P2.tt f3).tt f4
  have F4' := f3.tt f4
  refine made_ok (H.on F4) h4 h5 fun g5 j X A f5 lj => ⟨_, rfl, _, cell_at (f5.get d4 id) rfl, onSome_some.2 ⟨by decide, ?_⟩⟩
  have hh := hv_ok h4 0
  refine area_ld (k := 0) A (by decide) ⟨_, cell_at (f5.get d4 id) rfl, Get0_ok A.dk hh.1 h5 fun g6 f6 => ⟨_, _, _, _, rfl, cell_at (f6.get (f5.get d4 id) id) rfl, iteF rfl (newP_of ?_)⟩⟩
  have jl := (Array.getElem?_eq_some_iff.1 A.blk).1
  have u3 := f3.1
  have u4 := f4.1
  have u5 := f5.1
  have u6 := f6.1
  have F6 : Fr No h g6 := (F4.tt f5).tt f6
  have F26 : Fr No g2 g6 := ((f3.tt f4).tt f5).tt f6
  have J6 : Jn g6 j d X n jn0 s := Jn.on ⟨XD, none, 0, A⟩ f6
  have xl : ∀ y, X.M y → XD.M y ∨ h.size ≤ y := fun y hy => by
    rcases (A.m y).1 hy with rfl | ⟨a, e, _⟩ | q
    · have := F4.1; exact .inr (by omega)
    · cases e
    · exact .inl q
  have xs : ∀ y, X.M y → y < g6.size := fun y hy => J6.lt y hy
  have n0 : ∀ y, h.size ≤ y → y < g2.size → ¬ X.M y := fun y a b q => by
    rcases (A.m y).1 q with rfl | ⟨a, e, _⟩ | q
    · have := F4'.1; omega
    · cases e
    · have := H.lt y q; omega
  have k0 := F26.get ((p1.tt p2).get c0 id) id
  have k1 := F26.get (p2.get c1 id) id
  have k2 := F26.get c2 id
  have p7 : Fr No g6 (g6.push (.cells #[.slice none 0 0] 164)) := Fr.push _ _
  have c7 : (g6.push (.cells #[.slice none 0 0] 164))[g6.size]? = some (.cells #[.slice none 0 0] 164 (0, 0)) := push_new
  have z7 : (g6.push (.cells #[.slice none 0 0] 164)).size = g6.size + 1 := Array.size_push _
  generalize g6.push (.cells #[.slice none 0 0] 164) = g7 at p7 c7 z7 ⊢
  refine journal_records.walk (newP_of ⟨_, rfl, ?_⟩)
  have p8 : Fr No g7 (g7.push (.cells #[.slice none 0 0] 69)) := Fr.push _ _
  have c8 : (g7.push (.cells #[.slice none 0 0] 69))[g7.size]? = some (.cells #[.slice none 0 0] 69 (0, 0)) := push_new
  have z8 : (g7.push (.cells #[.slice none 0 0] 69)).size = g7.size + 1 := Array.size_push _
  generalize g7.push (.cells #[.slice none 0 0] 69) = g8 at p8 c8 z8 ⊢
  refine ⟨351, #[.pointer (some ⟨g7.size, 0, none⟩)], rfl, by kernel_rfl, fun rec hrec hround => ?_⟩
  have p9 : Fr No g8 (openH g8 (rec .ready none)) := (Fr.push _ _).tt (Fr.push _ _)
  have b8 : (openH g8 (rec .ready none))[g8.size]? = some (.deferred (some [])) := by unfold openH; rw [Array.getElem?_push, if_neg (by simp), push_new]
  have b9 : (openH g8 (rec .ready none))[g8.size + 1]? = some (.loop (rec .ready none)) := by unfold openH; rw [show g8.size + 1 = (g8.push (.deferred (some []))).size by simp, push_new]
  generalize openH g8 (rec .ready none) = g9 at p9 b8 b9 ⊢
  show Cl 351 #[.func (.yield (g8.size + 1)) #[] #[], .pointer (some ⟨g7.size, 0, none⟩)] g9 _
  refine journal_records_1.y.walk ⟨fun g => g = g9, fun _ => 0, rfl, ?_⟩
  rintro g9 hg9
  subst hg9
  refine ⟨_, _, _, cell_at (p9.get c8 id) rfl, iteF rfl ⟨.ready, none, (by intro e; cases e), b9, ?_⟩⟩
  have fs : Fr (fun y => y = g8.size + 1) g9 (setLoop g9 (g8.size + 1) (rec .exhausted none)) := fr_set
  generalize setLoop g9 (g8.size + 1) (rec .exhausted none) = ga at fs ⊢
  have G7a : Fr (fun y => y = g8.size + 1) g7 ga := (p8.tt p9).no fs
  have u9 := p9.1
  have G6a : Fr (fun y => y = g8.size + 1) g6 ga := p7.no G7a
  have ka := G7a.get c7 (by omega)
  have k0a := G6a.get k0 (by omega)
  have k1a := G6a.get k1 (by omega)
  have k2a := G6a.get k2 (by omega)
  have b8a := fs.get b8 (by omega)
  refine ⟨_, _, _, cell_at ka rfl, storeP_blk k0a (by show 0 < 1; omega) fun gb ib zb qb => ?_⟩
  have fb : Fr (fun y => y = h.size) ga gb := Fr.of_eq zb qb
  refine ⟨cell_at (fb.get ka (by omega)) rfl, storeP_blk (fb.get k1a (by omega)) (by show 0 < 1; omega) fun gc ic zc qc => ?_⟩
  have fc : Fr (fun y => y = g0.size) gb gc := Fr.of_eq zc qc
  refine storeP_blk (fc.get (fb.get k2a (by omega)) (by omega)) (by show 0 < 1; omega) fun gd id' zd qd => ?_
  have fd : Fr (fun y => y = g1.size) gc gd := Fr.of_eq zd qd
  have fe : Fr (fun y => y = g8.size) gd (gd.setIfInBounds g8.size (.deferred none)) := fr_set
  refine ⟨fd.get (fc.get (fb.get b8a (by omega)) (by omega)) (by omega), ?_⟩
  generalize gd.setIfInBounds g8.size (.deferred none) = ge at fe ⊢
  refine ⟨_, cell_at (fe.get (fd.get (fc.get ib (by omega)) (by omega)) (by omega)) rfl, _, _, _, cell_at (fe.get (fd.get ic (by omega)) (by omega)) rfl, _, cell_at (fe.get id' (by omega)) rfl, ?_⟩
  have FQ : Fr (fun y => y = h.size ∨ y = g0.size ∨ y = g1.size ∨ y = g8.size ∨ y = g8.size + 1) g6 ge := by
    refine (((G6a.trans fb (S'' := fun y => y = h.size ∨ y = g0.size ∨ y = g1.size ∨ y = g8.size ∨ y = g8.size + 1) ?_ ?_).trans fc (fun _ _ => id) ?_).trans fd (fun _ _ => id) ?_).trans fe (fun _ _ => id) ?_
    all_goals (intro y _ e; omega)
  exact hk ge j X (J6.frame FQ fun y hy q => by
    have a := xs y hy
    rcases q with q | q | q | q | q
    · exact n0 y (by omega) (by omega) hy
    · exact n0 y (by omega) (by omega) hy
    · exact n0 y (by omega) (by omega) hy
    · omega
    · omega) (F6.fresh FQ fun y q => by omega) xl
end Jnl
end
section
namespace Jnl
open Dsk Area Sup
variable {h h0 h':Heap} {R:TyP} {d n j:Nat} {X XD:Ft} {s:DS}
theorem Open0_ok (H : Dk h d XD n s) (h4 : 4 ≤ n) (hw : s.W.length ≤ 1000000) (h0 : s.get 0 = secB false) (h1 : s.get 1 = secB false)
    (hk : ∀ g, Fr No h g → R (.tuple #[.pointer none, .slice none 0 0, .int .i64 4]) g) : Cl 213 #[.pointer (some ⟨d, 0, none⟩)] h R := by
  refine journal_Open.walk (newP_of (newP_of (newP_of ?_)))
  have p0 : Fr No h (h.push (.cells #[.pointer none] 231)) := Fr.push _ _
  have c0 : (h.push (.cells #[.pointer none] 231))[h.size]? = some (.cells #[.pointer none] 231 (0, 0)) := push_new
  have z0 : (h.push (.cells #[.pointer none] 231)).size = h.size + 1 := Array.size_push _
  generalize h.push (.cells #[.pointer none] 231) = g0 at p0 c0 z0 ⊢
  have p1 : Fr No g0 (g0.push (.cells #[.slice none 0 0] 164)) := Fr.push _ _
  have c1 : (g0.push (.cells #[.slice none 0 0] 164))[g0.size]? = some (.cells #[.slice none 0 0] 164 (0, 0)) := push_new
  have z1 : (g0.push (.cells #[.slice none 0 0] 164)).size = g0.size + 1 := Array.size_push _
  generalize g0.push (.cells #[.slice none 0 0] 164) = g1 at p1 c1 z1 ⊢
  have p2 : Fr No g1 (g1.push (.cells #[.int .i64 0] 28)) := Fr.push _ _
  have c2 : (g1.push (.cells #[.int .i64 0] 28))[g1.size]? = some (.cells #[.int .i64 0] 28 (0, 0)) := push_new
  have z2 : (g1.push (.cells #[.int .i64 0] 28)).size = g1.size + 1 := Array.size_push _
  generalize g1.push (.cells #[.int .i64 0] 28) = g2 at p2 c2 z2 ⊢
  have P2 := (p0.tt p1).tt p2
  refine Newest_ok false (H.on P2) (by omega) hw h0 h1 fun g3 f3 => super_Super.ex super_Super.S.z ⟨_, rfl, super_Super.newp (x := super_Super.S.z) fun b3 g4 e4 d4 f4 => iteT rfl ?_⟩
  have f24 := f3.tt f4
  have k0 := f24.get ((p1.tt p2).get c0 id) id
  have k1 := f24.get (p2.get c1 id) id
  have k2 := f24.get c2 id
  refine storeP_blk k0 (by show 0 < 1; omega) fun gb ib zb qb => ?_
  have fb : Fr (fun y => y = h.size) g4 gb := Fr.of_eq zb qb
  refine storeP_blk (fb.get k1 (by omega)) (by show 0 < 1; omega) fun gc ic zc qc => ?_
  have fc : Fr (fun y => y = g0.size) gb gc := Fr.of_eq zc qc
  refine storeP_blk (fc.get (fb.get k2 (by omega)) (by omega)) (by show 0 < 1; omega) fun gd id' zd qd => ?_
  have fd : Fr (fun y => y = g1.size) gc gd := Fr.of_eq zd qd
  refine ⟨_, cell_at (fd.get (fc.get ib (by omega)) (by omega)) rfl, _, _, _, cell_at (fd.get ic (by omega)) rfl, _, cell_at id' rfl, hk gd ?_⟩
  exact ((((P2.tt f24).fresh fb fun y e => by omega).fresh fc fun y e => by omega).fresh fd fun y e => by omega)
end Jnl
namespace Flu
open Dsk Jnl Sup
open Stt hiding Good
variable {h h0 h' : Heap} {R : Value → Heap → Prop} {l j d n s : Nat} {X XJ XS XD : Ft} {ds : DS} {x : JN} {I : Ids} {σ : SS} {e : Eid.Ev}
theorem said_ok (hk : R (.tuple #[pt s, .int .i64 0]) h) : Cl 214 #[.slice none 0 0, .pointer (some ⟨s, 0, none⟩)] h R := by
  refine flush_said.walk (slices_IndexFunc_s_s_byte_s_byte.other.walk ⟨fun t g => t = 0 ∧ g = h, fun _ _ => 0, ⟨rfl, rfl⟩, ?_⟩)
  rintro _ g ⟨rfl, hg⟩
  subst hg
  refine iteF rfl ⟨_, rfl, JoinP.of fun J hJ => iteT rfl ?_⟩
  subst hJ
  refine JoinP.of fun J1 hJ1 => iteF rfl ?_
  subst hJ1
  refine ⟨⟨Int.le_refl 0, Int.le_refl 0⟩, flush_events.walk ⟨fun p l c t g' => p = none ∧ l = 0 ∧ c = 0 ∧ t = 0 ∧ g' = g, fun _ _ _ _ _ => 0, ⟨rfl, rfl, rfl, rfl, rfl⟩, ?_⟩⟩
  rintro _ _ _ _ g' ⟨rfl, rfl, rfl, rfl, hg⟩
  subst hg
  refine iteF rfl ⟨_, _, _, _, rfl, iteF rfl (arrive_Replay.walk ⟨fun t g => t = 0 ∧ g = g', fun _ _ => 0, ⟨rfl, rfl⟩, ?_⟩)⟩
  rintro _ g2 ⟨rfl, hg⟩
  subst hg
  exact iteF rfl ⟨_, _, rfl, iteF rfl hk⟩
theorem All_ok (H : Lg h l X n x ds σ) (hk : R (.int .i64 x.all) h) : Cl 158 #[.pointer (some ⟨l, 0, none⟩)] h R := by
  obtain ⟨j, d, s, XJ, XS, I, A, rfl⟩ := H
  obtain ⟨_, _, _, B⟩ := id A.jn
  exact flush_Log_All.walk (made_ok A ⟨_, rfl, iteF rfl ⟨_, cell_at A.blk rfl, journal_Journal_All.walk (amade B ⟨_, rfl, iteF rfl ⟨_, cell_at B.blk rfl, _, rfl, hk⟩⟩)⟩⟩)
theorem Open0_ok (he : mayE e) (H : Dk h d XD n ds) (h4 : 4 ≤ n) (hw : ds.W.length ≤ 1000000) (h0 : ds.get 0 = secB false) (h1 : ds.get 1 = secB false)
    (hk : ∀ g, Fr No h g → R (.tuple #[.pointer none, .int .i64 4]) g) : Cl 149 #[.pointer (some ⟨d, 0, none⟩), Eid.ev5 e] h R :=
  flush_Open.walk (self := e.s) (eid_Eid.boxp fun _ _ _ hb f1 => eid_Eid.ldp hb (Stt.new_ok e (fun _ _ _ _ _ _ u2 => ⟨_, _, rfl, iteF rfl (Jnl.Open0_ok (H.on (f1.tt u2.fr)) h4 hw h0 h1 fun g f => ⟨_, _, _, _, _, rfl, iteT rfl (hk g ((f1.tt u2.fr).tt f))⟩)⟩) (fun q => absurd he q)))
theorem Open1_ok (he : mayE e) (H : Dk h d XD n ds) (h4 : 4 ≤ n) (h5 : n ≤ 4096) (hw : ds.W.length ≤ 1000000) (h0 : ds.get 0 = secB false) (h1 : ds.get 1 = secB true)
    (hk : ∀ g l X, LgD g l d X n jn0 ds (newS e) → Fr No h g → (∀ y, X.M y ∨ X.D y → XD.M y ∨ h.size ≤ y) → R (.tuple #[pt l, .int .i64 0]) g) : Cl 149 #[.pointer (some ⟨d, 0, none⟩), Eid.ev5 e] h R := by
  refine flush_Open.walk (self := e.s) (eid_Eid.boxp fun b h1' eb hb f1 => eid_Eid.ldp hb (Stt.new_ok e (fun _ h2 s XS I H2 u2 => ⟨_, _, rfl, iteF rfl (Jnl.Open1_ok (H.on (f1.tt u2.fr)) h4 h5 hw h0 h1 fun h3 j XJ J3 f3 g3 => ⟨_, _, _, _, _, rfl, iteF rfl (said_ok ⟨_, _, rfl, iteF rfl ?_⟩)⟩)⟩) (fun q => absurd he q)))
  have u1 := f1.1
  have z2 := u2.fr.1
  have z3 := f3.1
  have sl : ∀ y, XS.M y ∨ XS.D y → h.size ≤ y ∧ y < h2.size := fun y hy => ⟨by have := u2.ge y hy; omega, H2.lt y hy⟩
  have xl : ∀ y, XD.M y → y < h.size := fun y hy => H.lt y hy
  obtain ⟨XD3, q, cq, A3⟩ := id J3
  refine half_ok A3.dk h4 h5 fun h4' f4 => ⟨_, rfl, newP_of ?_⟩
  have z4 := f4.1
  have f5 : Fr No h4' (h4'.push (.cells #[pt j, pt s, .int .i64 (room n : Int)] 233)) := Fr.push _ _
  have jl : ∀ y, XJ.M y → (XD.M y ∨ h2.size ≤ y) ∧ y < h3.size := fun y hy => ⟨g3 y hy, J3.lt y hy⟩
  refine hk _ h4'.size _ (LgA.lgd ⟨push_new, (J3.on f4).on f5, ((H2.on f3).on f4).on f5, fun y hy q => ?_, fun q => ?_, fun q => ?_⟩) ((f1.tt u2.fr).tt (f3.tt (f4.tt f5))) ?_
  · have := sl y q
    rcases (jl y hy).1 with a | a
    · have := xl y a; omega
    · omega
  · have := (jl _ q).2; omega
  · have := sl _ q; omega
  · rintro y ((a | a | a) | a)
    · exact .inr (by omega)
    · exact (jl y a).1.imp id (fun a => by omega)
    · exact .inr (sl y (.inl a)).1
    · exact .inr (sl y (.inr a)).1
end Flu
namespace Bot
open Dsk Jnl Sup Flu
open Stt hiding Good
variable {h h0 h' : Heap} {R : Value → Heap → Prop} {l j d n s now : Nat} {X XJ XS XD : Ft} {ds : DS} {x : JN} {I : Ids} {σ : SS} {e : Eid.Ev}
def fmt (b : Bool) (ds : DS) : DS := if b = true then ds else (ds.put 1 (supB su1)).sync
structure okD (ds : DS) (b : Bool) : Prop where
  w : ds.W = []
  g0 : ds.get 0 = secB false
  g1 : ds.get 1 = secB b
theorem okD.new (n : Nat) (h2 : 2 ≤ n) : okD (newD n) false := by
  have g : ∀ i, i < 2 → (newD n).get i = secB false := fun i hi => by
    show (List.replicate n zeroS).getD i [] = zeroS
    rw [List.getD_eq_getElem?_getD, List.getElem?_replicate, if_pos (by omega)]
    rfl
  exact ⟨rfl, g 0 (by decide), g 1 (by decide)⟩
theorem log_ok {b : Bool} (he : mayE e) (H : Dk h d XD n ds) (h4 : 4 ≤ n) (h5 : n ≤ 4096) (ok : okD ds b)
    (hk : ∀ g l X, LgD g l d X n jn0 (fmt b ds) (newS e) → Fr XD.M h g → (∀ y, X.M y ∨ X.D y → XD.M y ∨ h.size ≤ y) → R (.tuple #[pt l, .int .i64 0]) g) : Cl 85 #[.pointer (some ⟨d, 0, none⟩), Eid.ev5 e] h R := by
  have w0 : ds.W.length = 0 := by rw [ok.w]; rfl
  refine boot_log.walk (self := e.s) (eid_Eid.boxp fun b0 h1 eb hb f1 => eid_Eid.ldp hb ?_)
  have u1 := f1.1
  cases b with
  | false =>
    refine Open0_ok he (H.on f1) h4 (by omega) ok.g0 ok.g1 fun h2 f2 => ⟨_, _, rfl, iteT rfl (eid_Eid.ldp (f2.get hb id) (Flu.Format_ok he (H.on (f1.tt f2)) h4 h5 (by omega) fun g l X L f gx => ⟨_, _, rfl, hk g l X L ((f1.tt f2).no f) fun y hy => (gx y hy).imp id fun q => by have := f2.1; omega⟩))⟩
  | true =>
    refine Open1_ok he (H.on f1) h4 h5 (by omega) ok.g0 ok.g1 fun g l X L f gx => ⟨_, _, rfl, iteF rfl (hk g l X L ((f1.tt f).mono fun _ _ q => q.elim) fun y hy => (gx y hy).imp id fun q => by omega)⟩
theorem sure_ok (H : Lg h l X n jn0 ds σ) (hk : R (.int .i64 0) h) : Cl 91 #[.pointer (some ⟨l, 0, none⟩)] h R := by
  refine boot_sure.walk ⟨fun g => g = h, fun _ => 0, rfl, ?_⟩
  rintro g hg
  subst hg
  exact Flu.Done_ok H ⟨_, rfl, Flu.All_ok H ⟨_, rfl, iteF rfl hk⟩⟩
def Db (h : Heap) (x d : Nat) (X : Ft) (n : Nat) (ds : DS) (e : Eid.Ev) (now : Nat) : Prop := ∃ l m q X0, h[x]? = some (.cells #[pt l, .map (some m), .int .i64 1, pt q, .int .u64 (now : Int)] 249 (0, 0)) ∧
  h[q]? = some (.cells #[.bool true, .slice none 0 0] 346 (0, 0)) ∧ MapP h m Cps.ienc ([] : List (Int × Value)) ∧ LgD h l d X0 n jn0 ds (newS e) ∧ ¬ (X0.M x ∨ X0.D x) ∧ ¬ (X0.M m ∨ X0.D m) ∧ ¬ (X0.M q ∨ X0.D q) ∧ X = ⟨fun y => X0.M y ∨ y = x ∨ y = m ∨ y = q, X0.D⟩
theorem Db.on {x : Nat} (H : Db h x d X n ds e now) (f : Fr No h h') : Db h' x d X n ds e now := by
  obtain ⟨l, m, q, X0, a, aq, b, c, r⟩ := H
  exact ⟨l, m, q, X0, f.get a id, f.get aq id, b.frame f id, c.frame f (fun _ _ => id), r⟩
theorem Start_ok {b : Bool} (he : mayE e) (H : Dk h d XD n ds) (h4 : 4 ≤ n) (h5 : n ≤ 4096) (ok : okD ds b) (hw : now ≤ 1099511627776)
    (hk : ∀ g x X, Db g x d X n (fmt b ds) e now → Fr XD.M h g → (∀ y, X.M y ∨ X.D y → XD.M y ∨ h.size ≤ y) → R (.tuple #[pt x, .int .i64 0]) g) : Cl 43 #[.pointer (some ⟨d, 0, none⟩), Eid.ev5 e, .int .u64 (now : Int)] h R := by
  refine boot_Start.walk (self := e.s) (eid_Eid.boxp fun b0 h1 eb hb f1 => Dsk.sectors_ok (H.on f1) ⟨_, rfl, iteF (beq_eq_false_iff_ne.2 (by omega)) (JoinP.of fun J hJ => eid_Eid.ldp hb (Eid.right_ok e fun h2 f2 => ⟨_, rfl, ?_⟩))⟩)
  rw [he.1]
  refine iteF rfl (eid_Eid.ldp (f2.get hb id) ⟨_, Eid.eqv' (y := Eid.Ev.zero) rfl rfl, ?_⟩)
  rw [decide_eq_false he.2]
  subst hJ
  refine iteF rfl (iteF (decide_eq_false (by omega)) (eid_Eid.ldp (f2.get hb id) (log_ok he (H.on (f1.tt f2)) h4 h5 ok fun h3 l X L f3 g3 => ⟨_, _, rfl, iteF rfl ?_⟩)))
  obtain ⟨j, s, XJ, XS, I, A, rfl⟩ := id L
  refine Flu.State_ok A ⟨_, rfl, onSome_some.2 ⟨_, cell_at A.st.blk rfl, Flu.State_ok A ⟨_, rfl, onSome_some.2 ⟨_, cell_at A.st.blk rfl, ?_⟩⟩⟩⟩
  obtain ⟨Y, hp, _⟩ := id A.st
  refine Ses.all_ok (hp 0) Ses.okA.nil fun h4' p4 l4 c4 S4 f4 => ⟨_, _, _, rfl, ?_⟩
  have e4 := S4.len
  rw [show (newS e).A = [] from rfl] at e4
  have e4 : l4 = 0 := e4
  subst e4
  refine slices_ContainsFunc_s_sessions_Session_sessions_Session.up.walk (slices_IndexFunc_s_sessions_Session_sessions_Session.up.walk ⟨fun t g => t = 0 ∧ g = h4', fun _ _ => 0, ⟨rfl, rfl⟩, ?_⟩)
  rintro _ g ⟨rfl, hg⟩
  subst hg
  refine iteF rfl ⟨_, rfl, ⟨_, rfl, JoinP.of fun J1 hJ1 => iteF rfl ?_⟩⟩
  subst hJ1
  have L4 := L.frame f4 (fun _ _ => id)
  refine sure_ok L4.lg ⟨_, rfl, iteF rfl ?_⟩
  rw [show (if (((newS e).now : Nat) : Int) > (now : Int) then (((newS e).now : Nat) : Int) else (now : Int)) = (now : Int) from if_neg (by show ¬ ((0 : Nat) : Int) > _; omega)]
  obtain ⟨j', s', XJ', XS', I', A4, eX⟩ := id L4
  refine daemon_New.walk (Flu.State_ok A4 ⟨_, rfl, iteF rfl (JoinP.of fun J2 hJ2 => iteF (decide_eq_false (by omega)) (onSome_some.2 ⟨_, cell_at A4.st.blk rfl, ?_⟩))⟩)
  subst hJ2
  refine iteF (decide_eq_false (by show ¬ (now : Int) < ((0 : Nat) : Int); omega)) (newP_of (pend_New.walk (newP_of ⟨_, rfl, newP_of ⟨_, _, rfl, ?_⟩⟩)))
  have p5 : Fr No g (g.push (.map #[] 0)) := Fr.push _ _
  have M5 : MapP (g.push (.map #[] 0)) g.size Cps.ienc ([] : List (Int × Value)) := MapP.push g _
  have z5 : (g.push (.map #[] 0)).size = g.size + 1 := Array.size_push _
  generalize g.push (.map #[] 0) = g5 at p5 M5 z5 ⊢
  have p6 : Fr No g5 (g5.push (.cells #[.bool true, .slice none 0 0] 346)) := Fr.push _ _
  have z6 : (g5.push (.cells #[.bool true, .slice none 0 0] 346)).size = g5.size + 1 := Array.size_push _
  have c6 : (g5.push (.cells #[.bool true, .slice none 0 0] 346))[g5.size]? = some (.cells #[.bool true, .slice none 0 0] 346 (0, 0)) := push_new
  generalize g5.push (.cells #[.bool true, .slice none 0 0] 346) = g6 at p6 z6 c6 ⊢
  have p7 : Fr No g6 (g6.push (.cells #[.pointer (some ⟨l, 0, none⟩), .map (some g.size), .int .i64 1, .pointer (some ⟨g5.size, 0, none⟩), .int .u64 (now : Int)] 249)) := Fr.push _ _
  have P7 := (p5.tt p6).tt p7
  have u := f1.1
  have u2 := f2.1
  have u3 := f3.1
  have u4 := f4.1
  have lt : ∀ y, (ftL l XJ XS).M y ∨ (ftL l XJ XS).D y → y < g.size := fun y hy => L4.lg.lt y hy
  refine hk _ g6.size _ ⟨l, g.size, g5.size, _, push_new, p7.get c6 id, (M5.frame p6 id).frame p7 id, L4.frame P7 (fun _ _ => id), fun q => ?_, fun q => ?_, fun q => ?_, rfl⟩ (((f1.tt f2).no f3).on (f4.tt P7)) ?_
  · have := lt _ q; omega
  · have := lt _ q; omega
  · have := lt _ q; omega
  · rintro y ((q | q | q | q) | q)
    · exact (g3 y (.inl q)).imp id fun q => by omega
    · exact .inr (by omega)
    · exact .inr (by omega)
    · exact .inr (by omega)
    · exact (g3 y (.inr q)).imp id fun q => by omega
end Bot
end
section
namespace Aud
open Num
open Dsk Jnl Sup Flu Bot
variable {h h':Heap} {R:TyP} {s:ByteArray} {q:TyO} {l c b d n0:Nat}
variable {w x y hh:Nat} {X:Ft}
abbrev e7 : Eid.Ev := ⟨true, 7, 0, ⟨#[]⟩, ⟨#[]⟩⟩
theorem may7 : Stt.mayE e7 := ⟨by kernel_rfl, fun e => by cases congrArg Eid.Ev.ipn e⟩
theorem self_ok (hk : ∀ h', Fr No h h' → R (Eid.ev5 e7) h') : Cl 30 #[] h R := desk_self.walk (eid_Eid.newp fun _ h1 _ hb f1 => eid_Eid.ldp hb (hk h1 f1))
structure Fd (g : Heap) (n0 da wa x y ha : Nat) (X : Ft) : Prop where
  d : g[da]? = some (.cells #[pt wa] 67 (0, 0))
  w : g[wa]? = some (.cells #[pt x, pt y, .bool true, .int .u64 7, .int .u64 0, .string ⟨#[]⟩, .string ⟨#[]⟩, pt ha, .int .i64 0, .slice none 0 0] 94 (0, 0))
  hh : g[ha]? = some (.cells #[.bool true, .slice none 0 0, .int .i64 0] 181 (0, 0))
  db : Db g x y X 100 (fmt false (newD 100)) e7 0
  gd : n0 ≤ da
  gw : n0 ≤ wa
  gh : n0 ≤ ha
  gX : ∀ z, X.M z ∨ X.D z → n0 ≤ z
  sd : ¬ (X.M da ∨ X.D da)
  sw : ¬ (X.M wa ∨ X.D wa)
  sh : ¬ (X.M ha ∨ X.D ha)
  dw : da ≠ wa
  wh : wa ≠ ha
  dh : da ≠ ha
  ux : Ux n0 g
theorem Fd.on (H : Fd h n0 d w x y hh X) (f : Fr No h h') : Fd h' n0 d w x y hh X :=
  { H with d := f.get H.d id, w := f.get H.w id, hh := f.get H.hh id, db := H.db.on f, ux := H.ux.on f }
theorem _root_.Go.Proofs.YticlajoleibdnaaGreatDoor.Bot.Db.lt {n : Nat} {ds : DS} {e : Eid.Ev} {now : Nat} (H : Db h x d X n ds e now) (y : Nat) (hy : X.M y ∨ X.D y) : y < h.size := by
  obtain ⟨l, m, q, X0, a, aq, b, c, _, _, _, rfl⟩ := H
  rcases hy with (q | q | q | q) | q
  · exact c.lg.lt y (.inl q)
  · subst q; exact lt_of_get a
  · subst q; exact b.lt
  · subst q; exact lt_of_get aq
  · exact c.lg.lt y (.inr q)
theorem new_desk (U : Ut h) (hk : ∀ g d w x y hh X, Fd g h.size d w x y hh X → Fr No h g → R (pt d) g) : Cl 17 #[] h R := by
  refine desk_New.walk (self_ok fun h1 f1 => eid_Eid.ex e7.s ⟨rfl, world_New.walk (self := e7.s) (eid_Eid.boxp fun b h2 eb hb f2 => Dsk.new_ok (n := 100) (by decide) (by decide) fun h3 y XD D3 u3 => ⟨_, _, rfl, iteF rfl (eid_Eid.ldp (u3.fr.get hb id) (Start_ok (b := false) (now := 0) may7 D3 (by decide) (by decide) (okD.new 100 (by decide)) (by decide) fun h4 x X H4 f4 g4 => ⟨_, _, rfl, iteF rfl ?_⟩))⟩)⟩)
  have z1 := f1.1
  have z2 := f2.1
  have z3 := u3.fr.1
  have z4 := f4.1
  have F4 : Fr No h h4 := ((f1.tt f2).tt u3.fr).fresh f4 fun z q => by have := u3.ge z (.inl q); omega
  have b4 := f4.get (u3.fr.get hb id) fun q => by have := u3.ge _ (.inl q); have := lt_of_get hb; omega
  refine eid_Eid.ldp b4 (history_New.walk (newP_of ⟨_, rfl, (Fr.push _ _).kp, newP_of ⟨(Fr.push _ _).kp, ⟨_, _, rfl, newP_of ?_⟩⟩⟩))
  have p5 : Fr No h4 (h4.push (.cells #[.bool true, .slice none 0 0, .int .i64 0] 181)) := Fr.push _ _
  have c5 : (h4.push (.cells #[.bool true, .slice none 0 0, .int .i64 0] 181))[h4.size]? = some (.cells #[.bool true, .slice none 0 0, .int .i64 0] 181 (0, 0)) := push_new
  have s5 : (h4.push (.cells #[.bool true, .slice none 0 0, .int .i64 0] 181)).size = h4.size + 1 := Array.size_push _
  generalize h4.push (.cells #[.bool true, .slice none 0 0, .int .i64 0] 181) = h5 at p5 c5 s5 ⊢
  have p6 : Fr No h5 (h5.push (.cells #[pt x, pt y, .bool e7.s.f0, .int .u64 e7.s.f1, .int .u64 e7.s.f2, .string e7.s.f3, .string e7.s.f4, pt h4.size, .int .i64 0, .slice none 0 0] 94)) := Fr.push _ _
  have c6 : (h5.push (.cells #[pt x, pt y, .bool e7.s.f0, .int .u64 e7.s.f1, .int .u64 e7.s.f2, .string e7.s.f3, .string e7.s.f4, pt h4.size, .int .i64 0, .slice none 0 0] 94))[h5.size]? = some (.cells #[pt x, pt y, .bool e7.s.f0, .int .u64 e7.s.f1, .int .u64 e7.s.f2, .string e7.s.f3, .string e7.s.f4, pt h4.size, .int .i64 0, .slice none 0 0] 94 (0, 0)) := push_new
  have s6 : (h5.push (.cells #[pt x, pt y, .bool e7.s.f0, .int .u64 e7.s.f1, .int .u64 e7.s.f2, .string e7.s.f3, .string e7.s.f4, pt h4.size, .int .i64 0, .slice none 0 0] 94)).size = h5.size + 1 := Array.size_push _
  generalize h5.push (.cells #[pt x, pt y, .bool e7.s.f0, .int .u64 e7.s.f1, .int .u64 e7.s.f2, .string e7.s.f3, .string e7.s.f4, pt h4.size, .int .i64 0, .slice none 0 0] 94) = h6 at p6 c6 s6 ⊢
  have p7 : Fr No h6 (h6.push (.cells #[pt h5.size] 67)) := Fr.push _ _
  have lt : ∀ z, X.M z ∨ X.D z → z < h4.size := H4.lt
  refine hk _ h6.size h5.size x y h4.size X ⟨push_new, p7.get c6 id, (p6.tt p7).get c5 id, ((H4.on p5).on p6).on p7, by omega, by omega, by omega, fun z q => ?_, fun q => ?_, fun q => ?_, fun q => ?_, by omega, by omega, by omega, U.x (((F4.tt p5).tt p6).tt p7)⟩ (((F4.tt p5).tt p6).tt p7)
  · rcases g4 z q with q | q
    · have := u3.ge z (.inl q); omega
    · omega
  · have := lt _ q; omega
  · have := lt _ q; omega
  · have := lt _ q; omega
theorem daemon_ok (H : Fd h n0 d w x y hh X) (hk : R (pt x) h) : Cl 96 #[.pointer (some ⟨w, 0, none⟩)] h R := world_World_daemon.walk ⟨_, cell_at H.w rfl, hk⟩
theorem mapTy : MapKy Tryz.prog 245 Cps.ienc (.pointer none) := MapKy.of 3 250 (by kernel_rfl) Cps.ikey (by kernel_rfl)
theorem find_none {n : Int} (H : Fd h n0 d w x y hh X) (hk : R (.tuple #[.pointer none, .int .i64 4]) h) : Cl 166 #[.pointer (some ⟨x, 0, none⟩), .int .i64 n] h R := by
  obtain ⟨l, m, q, X0, bx, bq, M, L, nx, nm, nq, eX⟩ := H.db
  have Lk := lookV_P mapTy M n
  exact daemon_Daemon_find.walk (daemon_Daemon_made.walk ⟨_, cell_at bx rfl, _, rfl, iteF rfl ⟨_, cell_at bx rfl, _, Lk, iteT rfl hk⟩⟩)
theorem connect_d (H : Fd h n0 d w x y hh X) (hn : ∀ g, Fr (fun z => n0 ≤ z) h g → R (.tuple #[.int .i64 1, .int .i64 0]) g) : Cl 97 #[.pointer (some ⟨x, 0, none⟩)] h R := by
  obtain ⟨l, m, q, X0, bx, bq, M, L, nx, nm, nq, eX⟩ := H.db
  have gx : n0 ≤ x := H.gX x (.inl (by rw [eX]; exact .inr (.inl rfl)))
  have gm : n0 ≤ m := H.gX m (.inl (by rw [eX]; exact .inr (.inr (.inl rfl))))
  have hne : x ≠ m := fun e0 => by
    obtain ⟨T, ck, M', _⟩ := M
    have := M'.blk
    rw [← e0, bx] at this
    cases this
  refine daemon_Daemon_Connect.walk (daemon_Daemon_made.walk ⟨_, cell_at bx rfl, _, rfl, iteF rfl ⟨_, cell_at bx rfl, _, lenV_P mapTy M, iteF rfl ⟨_, cell_at bx rfl, _, cell_at bx rfl, storeP_blk bx (by show 2 < 5; omega) fun h1 b1 z1 q1 => ⟨_, cell_at b1 rfl, conn_New.walk (frame_New.walk (newP_of ⟨_, rfl, newP_of ?_⟩))⟩⟩⟩⟩)
  have f1 : Fr (fun z => z = x) h h1 := Fr.of_eq z1 q1
  have p2 : Fr No h1 (h1.push (.cells #[.bool true, .slice none 0 0, .int .i64 0] 442)) := Fr.push _ _
  generalize h1.push (.cells #[.bool true, .slice none 0 0, .int .i64 0] 442) = h2 at p2 ⊢
  have p3 : Fr No h2 (h2.push (.cells #[.pointer (some ⟨h1.size, 0, none⟩), .slice none 0 0, .int .i64 0, .slice none 0 0, .int .i64 0] 353)) := Fr.push _ _
  refine ⟨_, rfl, (p2.tt p3).kp, den_putP mapTy (((M.of_get (q1 m fun e0 => hne e0.symm)).frame p2 id).frame p3 id) fun h4 M4 z4 q4 => hn h4 ?_⟩
  have f4 := Fr.of_eq (S := fun z => z = m) z4 q4
  exact ((f1.mono fun z _ e => by rw [e]; exact gx).tt ((p2.tt p3).mono fun _ _ => False.elim)).tt (f4.mono fun z _ e => by rw [e]; exact gm)

end Aud
end
section
namespace Aud
open Num
variable {h h0:Heap} {R:TyP} {s:ByteArray} {p q:TyO} {l c lc b:Nat} {xs ls told:List ByteArray} {K:BK}
variable {t:ByteArray} {es:List (ByteArray × ByteArray)} {k:Nat}
theorem lines_ok (B : Bs h) (H : BkA h b K) (row : Row h p (xs.map Value.string)) (hl : l = xs.length) (hn : xs.length ≤ 100000) (hz : ∀ x ∈ xs, x.size ≤ 100000)
    (hk : ∀ g r, Fr (fun y => y = b) h g → r = (match intsQ xs with
      | some [x0, x1, x2] => if (decide (x1 > x0) || (decide (x2 > x1) || (decide (x0 < K.l0) || decide (x2 < K.l2)))) = true then (K, false) else ({ K with l0 := x0, l1 := x1, l2 := x2 }, true)
      | _ => (K, false)) → BkA g b r.1 → R (.bool r.2) g) : Cl 27 #[.pointer (some ⟨b, 0, none⟩), .slice p l lc] h R := by
  refine audit_Book_lines.walk (ints_ok B row hl hn hz fun g q m c f hr => ⟨_, _, _, _, rfl, JoinP.of fun J hJ => ?_⟩)
  have Hg := H.on f
  have fr : Fr (fun y => y = b) h g := f.mono fun _ _ q => q.elim
  have no : (match intsQ xs with
      | some [x0, x1, x2] => if (decide (x1 > x0) || (decide (x2 > x1) || (decide (x0 < K.l0) || decide (x2 < K.l2)))) = true then (K, false) else ({ K with l0 := x0, l1 := x1, l2 := x2 }, true)
      | _ => (K, false)) = (K, false) → J true g := fun e => by
    subst hJ
    exact iteT rfl (hk g (K, false) fr e.symm Hg)
  cases e : intsQ xs with
  | none => rw [e] at no; exact iteT rfl (no rfl)
  | some ns =>
    rw [e] at no
    obtain ⟨r, rfl, mc, nbq⟩ := hr ns e
    refine iteF rfl ?_
    match ns, r, mc, no, e with
    | [], r, mc, no, e => exact iteT rfl (no rfl)
    | [_], r, mc, no, e => exact iteT rfl (no rfl)
    | [_, _], r, mc, no, e => exact iteT rfl (no rfl)
    | _ :: _ :: _ :: _ :: ns, r, mc, no, e => exact iteT (bne_iff_ne.2 (by simp; omega)) (no rfl)
    | [x0, x1, x2], r, mc, no, e =>
      obtain ⟨a, rfl⟩ := r.some (by intro e; cases e)
      have c0 : hcell g (a.add (Int.toNat 0 * 1)) = some (.int .i64 x0) := r.cell (j := 0) rfl
      have c1 : hcell g (a.add (Int.toNat 1 * 1)) = some (.int .i64 x1) := r.cell (j := 1) rfl
      have c2 : hcell g (a.add (Int.toNat 2 * 1)) = some (.int .i64 x2) := r.cell (j := 2) rfl
      dsimp only at no
      refine iteF rfl ⟨⟨by omega, by simp⟩, onSome_some.2 ⟨_, c1, ⟨by omega, by simp⟩, onSome_some.2 ⟨_, c0, ?_⟩⟩⟩
      by_cases d1 : x1 > x0
      · exact iteT (decide_eq_true d1) (no (by rw [decide_eq_true d1]; rfl))
      refine iteF (decide_eq_false d1) ⟨⟨by omega, by simp⟩, onSome_some.2 ⟨_, c2, ⟨by omega, by simp⟩, onSome_some.2 ⟨_, c1, ?_⟩⟩⟩
      by_cases d2 : x2 > x1
      · exact iteT (decide_eq_true d2) (no (by rw [decide_eq_true d2, Bool.true_or, Bool.or_true]; rfl))
      refine iteF (decide_eq_false d2) ⟨⟨by omega, by simp⟩, onSome_some.2 ⟨_, c0, ⟨by omega, by simp⟩, _, (cell_at Hg rfl : hcell g ⟨b, 5, none⟩ = _), ?_⟩⟩
      by_cases d3 : x0 < K.l0
      · exact iteT (decide_eq_true d3) (no (by rw [decide_eq_true d3, Bool.true_or, Bool.or_true, Bool.or_true]; rfl))
      refine iteF (decide_eq_false d3) ⟨⟨by omega, by simp⟩, onSome_some.2 ⟨_, c2, ⟨by omega, by simp⟩, _, (cell_at Hg rfl : hcell g ⟨b, 7, none⟩ = _), ?_⟩⟩
      by_cases d4 : x2 < K.l2
      · rw [decide_eq_true d4]
        exact no (by rw [decide_eq_true d4, Bool.or_true, Bool.or_true, Bool.or_true]; rfl)
      rw [decide_eq_false d4]
      subst hJ
      refine iteF rfl ⟨Nat.le_refl _, onSome_some.2 ⟨_, by rw [← add_zero_addr a]; exact c0, _, c1, _, c2, Hg.set (K' := { K with l0 := x0 }) (by decide) rfl fun g1 H1 f1 => H1.set (K' := { K with l0 := x0, l1 := x1 }) (by decide) rfl fun g2 H2 f2 => H2.set (K' := { K with l0 := x0, l1 := x1, l2 := x2 }) (by decide) rfl fun g3 H3 f3 => ?_⟩⟩
      refine hk g3 ({ K with l0 := x0, l1 := x1, l2 := x2 }, true) (((fr.tt f1).tt f2).tt f3) ?_ H3
      rw [e]
      dsimp only
      rw [decide_eq_false d1, decide_eq_false d2, decide_eq_false d3, decide_eq_false d4]
      rfl
theorem intsQ_some5 {a b c d e : ByteArray} {ns : List Int} (q : intsQ [a, b, c, d, e] = some ns) : ∃ x0 x1 x2 x3 x4, ns = [x0, x1, x2, x3, x4] := by
  unfold intsQ at q
  split at q
  · cases q; exact ⟨_, _, _, _, _, rfl⟩
  · cases q
theorem reply_ok {nu : Bool} (B : Bs h) (row : Row h p (xs.map Value.string)) (hl : l = xs.length) (hc : l ≤ lc) (hn : xs.length ≤ 100000) (hz : ∀ x ∈ xs, x.size ≤ 100000)
    (hk : ∀ g, Fr No h g → R (.bool (replyB xs nu)) g) : Cl 26 #[.slice p l lc, .bool nu] h R := by
  refine audit_reply.walk (JoinP.of fun J hJ => ?_)
  have no : ∀ g, Fr No h g → replyB xs nu = false → J true g := fun g f e => by
    subst hJ
    have := hk g f
    rw [e] at this
    exact iteT rfl this
  by_cases len : xs.length = 6
  rotate_left
  · refine iteT (bne_iff_ne.2 (by omega)) (no h (Fr.refl _ _) ?_)
    unfold replyB
    split
    · exact absurd rfl len
    · rfl
  obtain ⟨x0, x1, x2, x3, x4, w, rfl⟩ : ∃ x0 x1 x2 x3 x4 w, xs = [x0, x1, x2, x3, x4, w] := by
    match xs, len with
    | [x0, x1, x2, x3, x4, w], _ => exact ⟨_, _, _, _, _, _, rfl⟩
  subst hl
  obtain ⟨a, rfl⟩ := row.some (by intro e; cases e)
  refine iteF rfl ⟨⟨by omega, by simp⟩, onSome_some.2 ⟨_, row.cell (j := 5) rfl, isWord_ok (hz _ (by simp)) fun g1 f1 => ⟨_, rfl, ?_⟩⟩⟩
  have no2 : ∀ g, Fr No h g → replyB [x0, x1, x2, x3, x4, w] nu = false → R (.bool false) g := fun g f e => by have := hk g f; rw [e] at this; exact this
  unfold replyB at no no2 hk
  dsimp only at no no2 hk
  cases ew : isWordB w with
  | false => rw [ew] at no; exact no g1 f1 rfl
  | true =>
  rw [ew] at no2 hk
  subst hJ
  refine iteF rfl ⟨⟨by omega, by omega⟩, ?_⟩
  rw [slBase_zero]
  have r5 : Row g1 (some a) ([x0, x1, x2, x3, x4].map Value.string) := by
    have := (row.frame f1 (fun _ _ => id)).sub (cap := lc) (l := 0) (u := 5) (sz := 1) (Nat.zero_le _) (by have : 6 ≤ lc := hc; omega)
    rw [slBase_zero] at this
    exact this
  refine ints_ok (B.on f1) r5 rfl (by simp) (fun x hx => hz x (show x ∈ [x0, x1, x2, x3, x4] ++ [w] from List.mem_append_left _ hx)) fun g2 q m c f2 hr => ⟨_, _, _, _, rfl, JoinP.of fun J1 hJ1 => ?_⟩
  have F2 := f1.tt f2
  cases ei : intsQ [x0, x1, x2, x3, x4] with
  | none =>
    rw [ei] at no2
    subst hJ1
    exact iteT rfl (iteT rfl (no2 g2 F2 rfl))
  | some ns =>
    obtain ⟨y0, y1, y2, y3, y4, rfl⟩ := intsQ_some5 ei
    rw [ei] at no2 hk
    dsimp only at no2 hk
    obtain ⟨r, em, mc, nbq⟩ := hr _ ei
    subst em
    obtain ⟨d, rfl⟩ := r.some (by intro e; cases e)
    have c0 : hcell g2 (d.add (Int.toNat 0 * 1)) = some (.int .i64 y0) := r.cell (j := 0) rfl
    have c1 : hcell g2 (d.add (Int.toNat 1 * 1)) = some (.int .i64 y1) := r.cell (j := 1) rfl
    have no3 : (!decide (y1 > 99) && ((nu || decide (y0 = 0)) && (decide (y1 = 0) || (!(decide (y2 > 0) || (decide (y3 > 0) || decide (y4 > 0))) && isS w [45])))) = false → J1 true g2 := fun e => by
      subst hJ1
      exact iteT rfl (no2 g2 F2 (by rw [e]; rfl))
    refine iteF rfl ⟨⟨by omega, by simp⟩, onSome_some.2 ⟨_, c1, ?_⟩⟩
    by_cases d1 : y1 > 99
    · exact iteT (decide_eq_true d1) (no3 (by rw [decide_eq_true d1]; rfl))
    rw [decide_eq_false d1] at no3 hk
    refine iteF (decide_eq_false d1) ?_
    have go : (nu || decide (y0 = 0)) = true → J1 false g2 := fun en => by
      rw [en] at hk
      subst hJ1
      refine iteF rfl ⟨⟨by omega, by simp⟩, onSome_some.2 ⟨_, c1, ?_⟩⟩
      by_cases d2 : y1 = 0
      · rw [decide_eq_true d2] at hk
        exact iteT (beq_iff_eq.2 d2) (hk g2 F2)
      rw [decide_eq_false d2] at hk
      refine iteF (beq_eq_false_iff_ne.2 d2) ⟨⟨by omega, by show (2 : Int) ≤ ((5 : Nat) : Int); omega⟩, ?_⟩
      have r3 : Row g2 (slBase (some d) c (Int.toNat 2) 1) ([y2, y3, y4].map nI) := r.sub (cap := c) (l := 2) (u := 5) (sz := 1) (by omega) mc
      refine above_ok r3 rfl (by simp) ⟨_, rfl, ?_⟩
      have ea : ([y2, y3, y4].any fun n => decide (n > 0)) = (decide (y2 > 0) || (decide (y3 > 0) || decide (y4 > 0))) := by simp [List.any]
      rw [ea]
      cases ey : (decide (y2 > 0) || (decide (y3 > 0) || decide (y4 > 0))) with
      | true =>
        rw [ey] at hk
        exact iteF rfl (hk g2 F2)
      | false =>
        rw [ey] at hk
        refine iteT rfl ⟨⟨by omega, by simp⟩, onSome_some.2 ⟨_, (row.frame F2 (fun _ _ => id)).cell (j := 5) rfl, ?_⟩⟩
        rw [eqs]
        exact hk g2 F2
    cases nu with
    | true => exact iteF rfl (go rfl)
    | false =>
      refine iteT rfl ⟨⟨by omega, by simp⟩, onSome_some.2 ⟨_, c0, ?_⟩⟩
      by_cases d2 : y0 = 0
      · rw [show (y0 != 0) = false by simp [d2]]
        exact go (by simp [d2])
      · rw [show (y0 != 0) = true by simp [d2]]
        exact no3 (by simp [d2])
theorem word_at {i : Nat} (row : Row h p (xs.map Value.string)) (hi : i < xs.length) : ∃ a, p = some a ∧ hcell h (a.add (i * 1)) = some (.string (xs.getD i ⟨#[]⟩)) := by
  obtain ⟨a, rfl⟩ := row.some (by intro e; have := congrArg List.length e; simp at this; rw [this] at hi; simp at hi)
  refine ⟨a, rfl, ?_⟩
  rw [Nat.mul_one, List.getD_eq_getElem?_getD, List.getElem?_eq_getElem hi]
  exact row.cell (str_at hi)
theorem ok_ok (B : Bs h) (H : BkA h b K) (hnow : -9223372036854775808 ≤ K.now ∧ K.now ≤ 9223372036854775807) (tab : ∀ g, Fr (fun y => y = b) h g → Bs g) {tl tc : Nat}
    (rl : Row h p (ls.map Value.string)) (nl : ¬ inBlk p b) (hl : l = ls.length) (h1 : 1 ≤ ls.length) (h2 : isS (ls.getD 0 ⟨#[]⟩) [116, 105, 99, 107] = true → 2 ≤ ls.length) (hzl : ∀ x ∈ ls, x.size ≤ 100000)
    (rt : Row h q (told.map Value.string)) (nt : ¬ inBlk q b) (ht : tl = told.length) (htc : tl ≤ tc) (hn : told.length ≤ 100000) (hz : ∀ x ∈ told, x.size ≤ 100000)
    (hk : ∀ g, Fr (fun y => y = b) h g → BkA g b (okQ K ls told).1 → R (.bool (okQ K ls told).2) g) : Cl 16 #[.pointer (some ⟨b, 0, none⟩), .slice p l lc, .slice q tl tc] h R := by
  have no : ∀ g, Fr No h g → Fr (fun y => y = b) h g := fun g f => f.mono fun _ _ q => q.elim
  obtain ⟨a, rfl, ca⟩ := word_at rl (i := 0) (by omega)
  refine audit_Book_ok.walk ⟨⟨by omega, by omega⟩, onSome_some.2 ⟨_, ca, ?_⟩⟩
  simp only [eqs]
  unfold okQ at hk
  dsimp only at hk
  generalize ls.getD 0 ⟨#[]⟩ = v at h2 hk ca ⊢
  cases e1 : isS v [99, 111, 110, 110, 101, 99, 116] with
  | true =>
    rw [e1, if_pos rfl] at hk
    exact iteT rfl (connect_ok B H tab rt nt ht hn hz fun g f H' => ⟨_, rfl, hk g f H'⟩)
  | false =>
  rw [e1, if_neg Bool.false_ne_true] at hk
  refine iteF rfl ?_
  cases e2 : isS v [99, 114, 97, 115, 104] with
  | true =>
    rw [e2, if_pos rfl] at hk
    exact iteT rfl (crash_ok H tab rt nt ht hn hz fun g f H' => ⟨_, rfl, hk g f H'⟩)
  | false =>
  rw [e2, if_neg Bool.false_ne_true] at hk
  refine iteF rfl ?_
  cases e3 : isS v [116, 105, 99, 107] with
  | true =>
    rw [e3, if_pos rfl] at hk
    have h2 := h2 e3
    obtain ⟨a', ea, ca'⟩ := word_at rl (i := 1) (by omega)
    cases ea
    refine iteT rfl ⟨⟨by omega, by omega⟩, onSome_some.2 ⟨_, ca', atoi_ok B.er (by rw [List.getD_eq_getElem?_getD, List.getElem?_eq_getElem (by omega)]; exact hzl _ (List.getElem_mem _)) fun g v f _ => ⟨_, _, rfl, _, cell_at (H.on f) rfl, (H.on f).set (K' := { K with now := wr (K.now + atoiV (ls.getD 1 ⟨#[]⟩)) }) (by decide) rfl fun g' H' f' => ?_⟩⟩⟩
    rw [show (((tl : Nat) : Int) == 0) = decide (told.length = 0) from Bool.eq_iff_iff.2 (by rw [beq_iff_eq, decide_eq_true_eq]; omega)]
    exact hk g' ((no g f).tt f') H'
  | false =>
  rw [e3, if_neg Bool.false_ne_true] at hk
  refine iteF rfl ?_
  cases e4 : isS v [115, 116, 101, 112] with
  | true =>
    rw [e4, if_pos rfl] at hk
    exact iteT rfl (one_ok B rt ht hn hz fun g f => ⟨_, rfl, hk g (no g f) (H.on f)⟩)
  | false =>
  rw [e4, if_neg Bool.false_ne_true] at hk
  refine iteF rfl ?_
  cases e5 : isS v [97, 110, 115, 119, 101, 114] with
  | true =>
    rw [e5, if_pos rfl] at hk
    exact iteT rfl (one_ok B rt ht hn hz fun g f => ⟨_, rfl, hk g (no g f) (H.on f)⟩)
  | false =>
  rw [e5, if_neg Bool.false_ne_true] at hk
  refine iteF rfl ?_
  cases e6 : isS v [119, 97, 105, 116, 115] with
  | true =>
    rw [e6, if_pos rfl] at hk
    exact iteT rfl (one_ok B rt ht hn hz fun g f => ⟨_, rfl, hk g (no g f) (H.on f)⟩)
  | false =>
  rw [e6, if_neg Bool.false_ne_true] at hk
  refine iteF rfl ?_
  have el : (((tl : Nat) : Int) == 1) = decide (told.length = 1) := Bool.eq_iff_iff.2 (by simp; omega)
  cases e7 : isS v [110, 111, 119] with
  | true =>
    rw [e7, if_pos rfl] at hk
    refine iteT rfl ?_
    rw [el]
    by_cases c : told.length = 1
    · rw [decide_eq_true c] at hk
      obtain ⟨d, rfl, cd⟩ := word_at rt (i := 0) (by omega)
      refine iteT (decide_eq_true c) ⟨⟨by omega, by omega⟩, onSome_some.2 ⟨_, cd, _, cell_at H rfl, itoa_ok B.tb hnow.1 hnow.2 fun g f => ⟨_, rfl, f.kp, ?_⟩⟩⟩
      rw [eqs3]
      exact hk g (no g f) (H.on f)
    · rw [decide_eq_false c] at hk
      exact iteF (decide_eq_false c) (hk h (Fr.refl _ _) H)
  | false =>
  rw [e7, if_neg Bool.false_ne_true] at hk
  refine iteF rfl ?_
  cases e8 : isS v [111, 117, 116] with
  | true =>
    rw [e8, if_pos rfl] at hk
    refine iteT rfl ?_
    rw [el]
    by_cases c : told.length = 1
    · rw [decide_eq_true c] at hk
      obtain ⟨d, rfl, cd⟩ := word_at rt (i := 0) (by omega)
      refine iteT (decide_eq_true c) ⟨⟨by omega, by omega⟩, onSome_some.2 ⟨_, cd, isWord_ok (by rw [List.getD_eq_getElem?_getD, List.getElem?_eq_getElem (by omega)]; exact hz _ (List.getElem_mem _)) fun g f => ⟨_, rfl, hk g (no g f) (H.on f)⟩⟩⟩
    · rw [decide_eq_false c] at hk
      exact iteF (decide_eq_false c) (hk h (Fr.refl _ _) H)
  | false =>
  rw [e8, if_neg Bool.false_ne_true] at hk
  refine iteF rfl (JoinP.of fun J hJ => ?_)
  have key : J (isS v [114, 117, 110] || (isS v [97, 114, 114, 105, 118, 101] || isS v [116, 97, 107, 101])) h := by
    subst hJ
    cases e9 : (isS v [114, 117, 110] || (isS v [97, 114, 114, 105, 118, 101] || isS v [116, 97, 107, 101])) with
    | true =>
      rw [e9, if_pos rfl] at hk
      exact iteT rfl ⟨⟨by omega, by omega⟩, onSome_some.2 ⟨_, ca, reply_ok B rt ht htc hn hz fun g f => ⟨_, rfl, hk g (no g f) (H.on f)⟩⟩⟩
    | false =>
    rw [e9, if_neg Bool.false_ne_true] at hk
    refine iteF rfl ?_
    cases e10 : isS v [108, 105, 110, 101, 115] with
    | true =>
      rw [e10, if_pos rfl] at hk
      exact iteT rfl (lines_ok B H rt ht hn hz fun g r f er H' => ⟨_, rfl, by subst er; exact hk g f H'⟩)
    | false =>
    rw [e10, if_neg Bool.false_ne_true] at hk
    refine iteF rfl ?_
    cases e11 : isS v [106, 117, 100, 103, 101] with
    | true =>
      rw [e11, if_pos rfl] at hk
      exact iteT rfl (judge_ok B H rt ht hn hz fun g f => ⟨_, rfl, hk g (no g f) (H.on f)⟩)
    | false =>
    rw [e11, if_neg Bool.false_ne_true] at hk
    refine iteF rfl ?_
    rw [show (((tl : Nat) : Int) == 0) = decide (told.length = 0) from Bool.eq_iff_iff.2 (by rw [beq_iff_eq, decide_eq_true_eq]; omega)]
    exact hk h (Fr.refl _ _) H
  exact orJ key fun e => JoinP.of fun K1 hK => by
    subst hK
    exact orE (J := fun t g => J t g) e
def IsL (s : ByteArray) : Prop := ∀ (h : Heap) (R : Value → Heap → Prop), Bs h → (∀ g, Fr No h g → R (.bool (lineB s)) g) → Cl 12 #[.string s] h R
theorem ite_ind {α : Type} {P : α → Prop} {c : Bool} {a b : α} (ha : P a) (hb : P b) : P (if c = true then a else b) := by cases c <;> assumption
theorem okQ_keep {P : BK → Prop} (K : BK) (ls told : List ByteArray) (h0 : P K) (h1 : ∀ n, P { K with conns := n }) (h2 : ∀ n, P { K with now := wr n }) (h3 : ∀ x0 x1 x2, P { K with l0 := x0, l1 := x1, l2 := x2 }) : P (okQ K ls told).1 := by
  have I := @ite_ind (BK × Bool) (fun r => P r.1)
  unfold okQ
  refine I (h1 _) (I (h1 _) (I (h2 _) (I h0 (I h0 (I h0 (I h0 (I h0 (I h0 (I ?_ (I h0 h0))))))))))
  split
  · exact I h0 (h3 _ _ _)
  · exact h0
theorem okQ_now (K : BK) (ls told : List ByteArray) (hnow : -9223372036854775808 ≤ K.now ∧ K.now ≤ 9223372036854775807) : -9223372036854775808 ≤ (okQ K ls told).1.now ∧ (okQ K ls told).1.now ≤ 9223372036854775807 :=
  okQ_keep (P := fun K => -9223372036854775808 ≤ K.now ∧ K.now ≤ 9223372036854775807) K ls told hnow (fun _ => hnow) (fun _ => wr_in _) fun _ _ _ => hnow
theorem kinds_tick {v : ByteArray} (e : isS v [116, 105, 99, 107] = true) : (kindsQ v).1.length = 1 := by
  have : v.data.toList = [116, 105, 99, 107] := beq_iff_eq.1 e
  unfold kindsQ isS
  rw [this]
  rfl
theorem line_words (e : lineB s = true) (et : isS (wordAt s 0) [116, 105, 99, 107] = true) : 2 ≤ (words s).length := by
  unfold lineB readB at e
  simp only [Bool.and_eq_true, decide_eq_true_eq] at e
  rw [kinds_tick et] at e
  omega
theorem fits_ok (L : IsL s) (B : Bs h) (H : BkA h b K) (hnow : -9223372036854775808 ≤ K.now ∧ K.now ≤ 9223372036854775807) (tab : ∀ g, Fr (fun y => y = b) h g → Bs g) (hs : s.size ≤ 10000) (ht : t.size ≤ 10000)
    (hk : ∀ g, Fr (fun y => y = b) h g → BkA g b (fitsQ K s t).1 → R (.bool (fitsQ K s t).2) g) : Cl 11 #[.pointer (some ⟨b, 0, none⟩), .agg #[.string s, .string t]] h R := by
  have lb : b < h.size := lt_of_get H
  have no : ∀ g, Fr No h g → Fr (fun y => y = b) h g := fun g f => f.mono fun _ _ q => q.elim
  refine audit_Book_fits.walk (newP_of ?_)
  have f1 : Fr No h (h.push (.cells #[.string s, .string t] 32)) := Fr.push _ _
  have e1 : (h.push (.cells #[.string s, .string t] 32))[h.size]? = some (.cells #[.string s, .string t] 32 (0, 0)) := push_new
  generalize h.push (.cells #[.string s, .string t] 32) = g1 at f1 e1 ⊢
  refine ⟨_, cell_at e1 rfl, L g1 _ (B.on f1) fun g2 f2 => ⟨_, rfl, ?_⟩⟩
  have F2 := f1.tt f2
  have e2 := f2.get e1 id
  unfold fitsQ at hk
  cases el : lineB s with
  | false =>
    rw [el, if_neg Bool.false_ne_true] at hk
    refine iteT rfl ⟨_, cell_at e2 rfl, ?_⟩
    rw [eqs]
    exact hk g2 (no g2 F2) (H.on F2)
  | true =>
  rw [el, if_pos rfl] at hk
  have w1 := words_le s
  have w2 := words_le t
  have l1 := words_len s
  have l2 := words_len t
  refine iteF rfl ⟨_, cell_at e2 rfl, _, cell_at e2 rfl, split_ok (B.on F2).mx (by omega) fun g3 f3 r3 => ⟨_, _, _, rfl, f3.kp, split_ok ((B.on F2).on f3).mx (by omega) fun g4 f4 r4 => ⟨_, _, _, rfl, ⟨by omega, by omega⟩, ?_⟩⟩⟩
  have F4 := (F2.tt f3).tt f4
  have B4 := B.on F4
  have H4 := H.on F4
  have r3 := r3.frame f4 (fun _ _ => id)
  have z2 := F2.1
  have z3 := f3.1
  have tab4 : ∀ g, Fr (fun y => y = b) g4 g → Bs g := fun g f => tab g ((no g4 F4).tt f)
  obtain ⟨a, ea, ca⟩ := word_at r4 (i := 0) (by omega)
  cases ea
  have rd : Row g4 (slBase (some ⟨g3.size, 0, none⟩) (words t).length (Int.toNat 1) 1) (((words t).drop 1).map Value.string) := by
    have := r4.sub (cap := (words t).length) (l := 1) (u := (words t).length) (sz := 1) (by omega) (Nat.le_refl _)
    rw [Nat.mul_one, List.take_of_length_le (by simp)] at this
    rw [List.map_drop]
    exact this
  have nd : ¬ inBlk (slBase (some ⟨g3.size, 0, none⟩) (words t).length (Int.toNat 1) 1) b := fun q => by
    obtain ⟨a, e, q⟩ := inBlk_sub q
    cases e
    have : g3.size = b := q
    omega
  have ld : (words t).length - Int.toNat 1 = ((words t).drop 1).length := by rw [List.length_drop]; rfl
  have zd : ∀ x ∈ (words t).drop 1, x.size ≤ 100000 := fun x hx => by have := words_mem (List.mem_of_mem_drop hx); omega
  refine onSome_some.2 ⟨_, ca, ?_⟩
  simp only [eqs]
  dsimp only at hk
  cases et : isS ((words t).getD 0 ⟨#[]⟩) [101, 114, 114] with
  | true =>
    rw [et, if_pos rfl] at hk
    refine iteT rfl ⟨⟨by omega, by omega⟩, one_ok B4 rd ld (by rw [List.length_drop]; omega) zd fun g5 f5 => ⟨_, rfl, ?_⟩⟩
    have hk := fun g (f : Fr No g5 g) => hk g (no g ((F4.tt f5).tt f)) (H.on ((F4.tt f5).tt f))
    cases eo : oneB ((words t).drop 1) 99 with
    | false => rw [eo] at hk; exact iteF rfl (hk g5 (Fr.refl _ _))
    | true =>
      rw [eo] at hk
      have len : 2 ≤ (words t).length := by
        unfold oneB at eo
        split at eo
        · rename_i e; have := intsQ_len e; rw [List.length_drop] at this; simp at this; omega
        · cases eo
      obtain ⟨a, ea, ca⟩ := word_at (r4.frame f5 (fun _ _ => id)) (i := 1) (by omega)
      cases ea
      refine iteT rfl ⟨⟨by omega, by omega⟩, onSome_some.2 ⟨_, ca, ?_⟩⟩
      cases e0 : isS ((words t).getD 1 ⟨#[]⟩) [48] with
      | true => rw [e0] at hk; exact iteF rfl (hk g5 (Fr.refl _ _))
      | false =>
        rw [e0] at hk
        obtain ⟨a, ea, ca⟩ := word_at (r3.frame f5 (fun _ _ => id)) (i := 0) (by omega)
        cases ea
        exact iteT rfl ⟨⟨by omega, by omega⟩, onSome_some.2 ⟨_, ca, sure_ok ⟨_, rfl, hk g5 (Fr.refl _ _)⟩⟩⟩
  | false =>
  rw [et, if_neg Bool.false_ne_true] at hk
  refine iteF rfl ⟨⟨by omega, by omega⟩, onSome_some.2 ⟨_, ca, ?_⟩⟩
  cases eo : isS ((words t).getD 0 ⟨#[]⟩) [111, 107] with
  | false =>
    rw [eo, if_neg Bool.false_ne_true] at hk
    exact iteT rfl (hk g4 (no g4 F4) H4)
  | true =>
    rw [eo, if_pos rfl] at hk
    refine iteF rfl ⟨⟨by omega, by omega⟩, ok_ok B4 H4 hnow tab4 (ls := words s) r3 (fun ⟨a, e, q⟩ => by cases e; have : g2.size = b := q; omega) rfl (by omega) (fun q => line_words el q) (fun x hx => by have := words_mem hx; omega) rd nd ld (Nat.le_refl _) (by rw [List.length_drop]; omega) zd fun g5 f5 H5 => ⟨_, rfl, hk g5 ((no g4 F4).tt f5) H5⟩⟩
theorem fitsQ_now (K : BK) (s t : ByteArray) (hnow : -9223372036854775808 ≤ K.now ∧ K.now ≤ 9223372036854775807) : -9223372036854775808 ≤ (fitsQ K s t).1.now ∧ (fitsQ K s t).1.now ≤ 9223372036854775807 := by
  unfold fitsQ
  dsimp only
  repeat' split
  all_goals first | exact hnow | exact okQ_now _ _ _ hnow
theorem hearQ_now (K : BK) (x : ByteArray × ByteArray) (hnow : -9223372036854775808 ≤ K.now ∧ K.now ≤ 9223372036854775807) : -9223372036854775808 ≤ (hearQ K x).1.now ∧ (hearQ K x).1.now ≤ 9223372036854775807 := by
  unfold hearQ
  split
  · exact hnow
  · exact fitsQ_now { K with heard := wr (K.heard + 1) } x.1 x.2 hnow
theorem hear_ok (L : IsL s) (B : Bs h) (H : BkA h b K) (hnow : -9223372036854775808 ≤ K.now ∧ K.now ≤ 9223372036854775807) (tab : ∀ g, Fr (fun y => y = b) h g → Bs g) (hs : s.size ≤ 10000) (ht : t.size ≤ 10000)
    (hk : ∀ g, Fr (fun y => y = b) h g → BkA g b (hearQ K (s, t)).1 → R (.tuple #[.bool (hearQ K (s, t)).2.1, .int .i64 (hearQ K (s, t)).2.2]) g) : Cl 9 #[.pointer (some ⟨b, 0, none⟩), .agg #[.string s, .string t]] h R := by
  have no : ∀ g, Fr No h g → Fr (fun y => y = b) h g := fun g f => f.mono fun _ _ q => q.elim
  have lb : b < h.size := lt_of_get H
  refine audit_Book_Hear.walk (newP_of ?_)
  have f1 : Fr No h (h.push (.cells #[.string s, .string t] 32)) := Fr.push _ _
  have e1 : (h.push (.cells #[.string s, .string t] 32))[h.size]? = some (.cells #[.string s, .string t] 32 (0, 0)) := push_new
  generalize h.push (.cells #[.string s, .string t] 32) = g1 at f1 e1 ⊢
  refine JoinP.of fun J hJ => ⟨_, cell_at (H.on f1) rfl, ?_⟩
  subst hJ
  refine iteF rfl ⟨_, cell_at (H.on f1) rfl, ?_⟩
  cases ew : K.wrong with
  | true =>
    rw [show hearQ K (s, t) = (K, false, 7) from if_pos ew] at hk
    exact iteT rfl (hk g1 (no g1 f1) (H.on f1))
  | false =>
    rw [show hearQ K (s, t) = ({ (fitsQ { K with heard := wr (K.heard + 1) } s t).1 with wrong := !(fitsQ { K with heard := wr (K.heard + 1) } s t).2 }, (fitsQ { K with heard := wr (K.heard + 1) } s t).2, 0) from if_neg (by rw [ew]; decide)] at hk
    refine iteF rfl ⟨_, cell_at (H.on f1) rfl, (H.on f1).set (K' := { K with heard := wr (K.heard + 1) }) (by decide) rfl fun g2 H2 f2 => ?_⟩
    have e2 := f2.get e1 (by omega)
    have F2 := (no g1 f1).tt f2
    refine ⟨_, cell_at e2 rfl, _, cell_at e2 rfl, fits_ok L (tab g2 F2) H2 hnow (fun g f => tab g (F2.tt f)) hs ht fun g3 f3 H3 => ⟨_, rfl, H3.set (K' := { (fitsQ { K with heard := wr (K.heard + 1) } s t).1 with wrong := !(fitsQ { K with heard := wr (K.heard + 1) } s t).2 }) (by decide) rfl fun g4 H4 f4 => ⟨_, cell_at H4 rfl, ?_⟩⟩⟩
    rw [Bool.not_not]
    exact hk g4 ((F2.tt f3).tt f4) H4
theorem new_ok (hk : ∀ g, BkA g h.size bk0 → Fr No h g → R (.pointer (some ⟨h.size, 0, none⟩)) g) : Cl 8 #[] h R := audit_New.walk (newP_of (hk _ push_new (Fr.push _ _)))
def eenc (x : ByteArray × ByteArray) : List Value := [.string x.1, .string x.2]
def bookQ (K : BK) : List (ByteArray × ByteArray) → BK
  | [] => K
  | x :: l => bookQ (hearQ K x).1 l
theorem bookQ_snoc : ∀ (K : BK) (l : List (ByteArray × ByteArray)) (x : ByteArray × ByteArray), bookQ K (l ++ [x]) = (hearQ (bookQ K l) x).1
  | _, [], _ => rfl
  | K, y :: l, x => bookQ_snoc (hearQ K y).1 l x
theorem bookQ_now : ∀ (K : BK) (l : List (ByteArray × ByteArray)), (-9223372036854775808 ≤ K.now ∧ K.now ≤ 9223372036854775807) → -9223372036854775808 ≤ (bookQ K l).now ∧ (bookQ K l).now ≤ 9223372036854775807
  | _, [], h => h
  | K, x :: l, h => bookQ_now _ l (hearQ_now K x h)
theorem judgeQ_snoc : ∀ (K : BK) (l m : List (ByteArray × ByteArray)), judgeQ K l = l.length → judgeQ K (l ++ m) = l.length + judgeQ (bookQ K l) m
  | _, [], _, _ => by simp [bookQ]
  | K, x :: l, m, h => by
    unfold judgeQ at h
    split at h
    · rename_i q
      have ih := judgeQ_snoc (hearQ K x).1 l m (by simpa using h)
      show (if (hearQ K x).2.1 = true then judgeQ (hearQ K x).1 (l ++ m) + 1 else 0) = (l.length + 1) + judgeQ (bookQ (hearQ K x).1 l) m
      rw [if_pos q, ih]
      omega
    · cases h
theorem eenc_at {a : Addr} (row : Row h (some a) (es.flatMap eenc)) (hk : k < es.length) : hcell h (a.add (k * 2)) = some (.string es[k].1) ∧ hcell h ((a.add (k * 2)).add 1) = some (.string es[k].2) := by
  have hh := row.heldAt (enc := eenc) (sz := 2) (fun _ => rfl) (List.getElem?_eq_getElem hk)
  obtain ⟨q0, q1, _⟩ := hh
  rw [add_zero_addr] at q0
  exact ⟨q0, q1⟩
theorem entry_new {Q : Nat → Heap → Prop} (hk : ∀ b g, b = h.size → g[b]? = some (.cells #[.string s, .string t] 32 (0, 0)) → Fr No h g → Q b g) :
    NewP h (.cells #[.string (⟨#[]⟩ : ByteArray), .string (⟨#[]⟩ : ByteArray)] 32) fun b h_1 => StoreP h_1 ⟨b, 0, none⟩ (.string s) fun h_2 => StoreP h_2 ⟨b, 1, none⟩ (.string t) fun h_3 => Q b h_3 :=
  newP_of (storeP_push (by show 0 < 2; omega) (storeP_push (by show 1 < 2; omega) (hk _ _ rfl push_new (Fr.push _ _))))
theorem flat_ne (hk : k < es.length) : es.flatMap eenc ≠ [] := by
  match es, hk with
  | x :: l, _ => exact fun e => by simp [eenc] at e
theorem judge_all (B : Bs h) (L : ∀ x ∈ es, IsL x.1 ∧ x.1.size ≤ 10000 ∧ x.2.size ≤ 10000) (row : Row h p (es.flatMap eenc)) (hl : l = es.length) (hn : es.length ≤ 1000)
    (hk : ∀ g, Fr No h g → R (.int .i64 (judgeQ bk0 es : Int)) g) : Cl 7 #[.slice p l c] h R := by
  subst hl
  refine audit_Judge.walk (new_ok fun g0 H0 f0 => ⟨_, rfl, fun i g => ∃ k : Nat, i = (k : Int) ∧ k ≤ es.length ∧ Fr (fun y => y = h.size) g0 g ∧ BkA g h.size (bookQ bk0 (es.take k)) ∧ judgeQ bk0 (es.take k) = k, fun i _ => es.length - i.toNat,
    ⟨0, rfl, Nat.zero_le _, Fr.refl _ _, H0, rfl⟩, ?_⟩)
  rintro _ g ⟨k, rfl, hk1, f, H, jq⟩
  have z0 := f0.1
  have fh : Fr No h g := f0.fresh f fun y e => by omega
  by_cases c1 : k < es.length
  · obtain ⟨a, rfl⟩ := row.some (flat_ne c1)
    obtain ⟨r0, r1⟩ := eenc_at (row.frame fh (fun _ _ => id)) c1
    refine iteT (decide_eq_true (by omega)) ⟨⟨by omega, by omega⟩, onSome_some.2 ⟨_, by rw [Int.toNat_natCast]; exact r0, _, by rw [Int.toNat_natCast]; exact r1, entry_new fun bq g2 ebq e2 f2 => ?_⟩⟩
    have Lk := L _ (List.getElem_mem c1)
    refine ⟨_, cell_at e2 rfl, _, cell_at e2 rfl, hear_ok Lk.1 (B.on (fh.tt f2)) (H.on f2) (bookQ_now _ _ ⟨by decide, by decide⟩) (fun g' f' => B.on ((fh.tt f2).fresh f' fun y e => by omega)) Lk.2.1 Lk.2.2 fun g3 f3 H3 => ⟨_, _, rfl, ?_⟩⟩
    have fh3 : Fr No h g3 := (fh.tt f2).fresh f3 fun y e => by omega
    have et : es.take (k + 1) = es.take k ++ [es[k]] := by rw [List.take_add_one, List.getElem?_eq_getElem c1]; rfl
    have es0 : es = es.take k ++ es[k] :: es.drop (k + 1) := by rw [← List.drop_eq_getElem_cons c1, List.take_append_drop]
    have lt : (es.take k).length = k := by rw [List.length_take]; omega
    cases q : (hearQ (bookQ bk0 (es.take k)) (es[k].1, es[k].2)).2.1 with
    | false =>
      have e : judgeQ bk0 es = k := by
        rw [es0, judgeQ_snoc bk0 (es.take k) _ (by rw [jq, lt]), lt]
        unfold judgeQ
        rw [if_neg (by rw [show es[k] = (es[k].1, es[k].2) from rfl, q]; decide)]
        rfl
      rw [e] at hk
      exact iteT rfl (hk g3 fh3)
    | true =>
      refine iteF rfl ⟨⟨k + 1, by rw [wrap_id (by omega) (by omega)]; rfl, c1, (f.on f2).tt f3, ?_, ?_⟩, ?_⟩
      · rw [et, bookQ_snoc]; exact H3
      · rw [et, judgeQ_snoc bk0 (es.take k) _ (by rw [jq, lt]), lt]
        unfold judgeQ
        rw [if_pos (by rw [show es[k] = (es[k].1, es[k].2) from rfl, q])]
        rfl
      · show es.length - Int.toNat (IntKind.wrap .i64 ((k : Int) + 1)) < es.length - Int.toNat (k : Int)
        rw [wrap_id (by omega) (by omega)]
        omega
  · obtain rfl : k = es.length := by omega
    rw [List.take_length] at jq
    rw [jq] at hk
    exact iteF (decide_eq_false (by omega)) (hk g fh)

end Aud
end
section
namespace Aud
open Num
open Dsk Jnl Sup Flu Bot
variable {h:Heap} {R:TyP} {s:ByteArray} {p q:TyO} {c b d n0:Nat} {xs:List ByteArray}
def DoL (v : ByteArray) : Prop := ∀ (h : Heap) (R : Value → Heap → Prop) (n0 d w x y hh : Nat) (X : Ft) (A : desk_ask.S) (ns : List Nat) (bs : List UInt8) (m : Nat), (∀ g, Fr (fun z => n0 ≤ z) h g → Bs g) → Fd h n0 d w x y hh X → n0 ≤ h.size → (d < m ∧ w < m ∧ hh < m ∧ ∀ z, X.M z ∨ X.D z → z < m) → AskV h A v ns bs m → ns.length = numsOf (kindsQ v).1 → bs.length ≤ 100000 →
  (∀ g s, Fr (fun z => n0 ≤ z) h g → R (.string s) g) → Cl 32 #[pt d, A.agg] h R
theorem line_of (hs : s.size ≤ 100000) (D : readB s = true → DoL (wordAt s 0)) : IsL s := fun h R B hk => by
  refine audit_isLine.walk (new_desk B.ut fun h1 d w x y hh X H f1 => ⟨_, rfl, desk_Desk_Line.walk (JoinP.of fun J hJ => ⟨_, cell_at H.d rfl, ?_⟩)⟩)
  subst hJ
  refine iteF rfl ?_
  unfold lineB at hk
  by_cases c : s.size ≤ 4096
  rotate_left
  · rw [decide_eq_false c] at hk
    exact iteT (decide_eq_true (by omega)) ⟨_, _, rfl, hk h1 f1⟩
  rw [decide_eq_true c] at hk
  have B1 := B.on f1
  refine iteF (decide_eq_false (by omega)) (read_ok B1.tb B1.er B1.mx hs fun h2 A ok f2 eok av => desk_ask.ex A ⟨_, rfl, desk_ask.newp (x := A) fun b h3 eb hb f3 => ?_⟩)
  have F3 := (f1.tt f2).tt f3
  rw [← eok] at hk
  cases ok with
  | false => exact iteT rfl ⟨_, _, rfl, hk h3 F3⟩
  | true =>
    obtain ⟨ns, bs, V, ln, lb⟩ := av rfl
    have z1 := F3.1
    refine iteF rfl (desk_ask.ldp hb (D eok.symm h3 _ h.size d w x y hh X A ns bs h1.size (fun g f => B.on (F3.fresh f fun z q => q)) ((H.on f2).on f3) z1 ⟨lt_of_get H.d, lt_of_get H.w, lt_of_get H.hh, H.db.lt⟩ (V.frame f3) ln lb fun g s f => ⟨_, rfl, _, _, rfl, hk g (F3.fresh f fun z q => q)⟩))
theorem no {g g' : Heap} (f : Fr No g g') : Fr (fun z => n0 ≤ z) g g' := f.mono fun _ _ q => q.elim
theorem do_connect : DoL (str [99, 111, 110, 110, 101, 99, 116]) := fun h R n0 d w x y hh X A ns bs m B H z0 lt V ln lb hk => by
  refine desk_Desk_do.walk (a := A) (desk_ask.boxp fun b h1 eb hb f1 => ⟨_, cell_at hb rfl, ?_⟩)
  rw [V.v]
  simp only [eqs]
  have H1 := H.on f1
  refine iteT rfl ⟨_, cell_at H1.d rfl, world_World_Connect.walk (daemon_ok H1 ⟨_, rfl, connect_d H1 fun h2 f2 => ⟨_, _, rfl, _, _, rfl, count_ok (B h2 ((no f1).tt f2)) ⟨by decide, by decide⟩ ⟨by decide, by decide⟩ fun g s f => ⟨_, rfl, hk g s (((no f1).tt f2).tt (no f))⟩⟩⟩)⟩
theorem num_at {ns : List Nat} {i : Nat} (row : Row h p (ns.map nenc)) (hi : i < ns.length) : ∃ a n, p = some a ∧ ns[i]? = some n ∧ hcell h (a.add (i * 1)) = some (.int .u64 (n : Int)) := by
  obtain ⟨a, rfl⟩ := row.some (by intro e; have := congrArg List.length e; simp at this; rw [this] at hi; simp at hi)
  refine ⟨a, ns[i], rfl, List.getElem?_eq_getElem hi, ?_⟩
  rw [Nat.mul_one]
  exact row.cell (by rw [List.getElem?_map, List.getElem?_eq_getElem hi]; rfl)
theorem do_tick : DoL (str [116, 105, 99, 107]) := fun h R n0 d w x y hh X A ns bs m B H z0 lt V ln lb hk => by
  refine desk_Desk_do.walk (a := A) (desk_ask.boxp fun b h1 eb hb f1 => ⟨_, cell_at hb rfl, ?_⟩)
  rw [V.v]
  simp only [eqs]
  have H1 := H.on f1
  have V1 := V.frame f1
  have ln : ns.length = 1 := ln
  obtain ⟨a, n, ea, en, ca⟩ := num_at V1.n (i := 0) (by omega)
  have nl := V1.nl
  refine iteF rfl (iteF rfl (iteF rfl (iteF rfl (iteF rfl (iteF rfl (iteF rfl (iteF rfl (iteF rfl (iteT rfl ⟨_, cell_at H1.d rfl, _, _, _, cell_at hb rfl, ⟨by omega, by rw [nl]; omega⟩, ?_⟩)))))))))
  rw [ea]
  refine onSome_some.2 ⟨_, ca, world_World_Tick.walk (daemon_ok H1 ⟨_, rfl, ?_⟩)⟩
  obtain ⟨lg, m, q, X0, bx, bq, M, L, nx, nm, nq, eX⟩ := H1.db
  have gx : n0 ≤ x := H.gX x (.inl (by rw [eX]; exact .inr (.inl rfl)))
  have xb : b ≠ x := fun e => by have := H.db.lt x (.inl (by rw [eX]; exact .inr (.inl rfl))); omega
  refine daemon_Daemon_Tick.walk (daemon_Daemon_made.walk ⟨_, cell_at bx rfl, _, rfl, iteF rfl ⟨_, cell_at bx rfl, ?_⟩⟩)
  have fin : ∀ e g, 0 ≤ e ∧ e ≤ 1000 → Fr (fun z => z = x) h1 g → ∃ t8, Value.int .i64 e = .int .i64 t8 ∧ ∃ t138, Value.int .i64 t8 = .int .i64 t138 ∧ Kp h1 g [(some ⟨b, 1, none⟩)] ∧ Cl 51 #[.int .i64 t138, .slice none 0 0] g fun v_20 h_23 => ∃ t139, v_20 = .string t139 ∧ Kp g h_23 [(some ⟨b, 1, none⟩)] ∧ R (.string t139) h_23 := fun e g he f => by
    have fn : Fr (fun z => n0 ≤ z) h1 g := f.mono fun z _ e => by rw [e]; exact gx
    refine ⟨_, rfl, _, rfl, f.kps fun p hp y e hy => ?_, tell_ok (xs := []) (B g ((no f1).tt fn)) he .nil rfl (by simp) (fun x hx => by cases hx) fun g' s f' => ⟨_, rfl, f'.kp, hk g' s (((no f1).tt fn).tt (no f'))⟩⟩
    rw [List.mem_singleton] at hp
    subst hp
    cases e
    exact xb hy
  split
  · exact fin 1 h1 ⟨by decide, by decide⟩ (Fr.refl _ _)
  · exact ⟨_, cell_at bx rfl, storeP_blk bx (by show 4 < 5; omega) fun g i z q => fin 0 g ⟨by decide, by decide⟩ (Fr.of_eq z q)⟩
theorem do_now : DoL (str [110, 111, 119]) := fun h R n0 d w x y hh X A ns bs m B H z0 lt V ln lb hk => by
  refine desk_Desk_do.walk (a := A) (desk_ask.boxp fun b h1 eb hb f1 => ⟨_, cell_at hb rfl, ?_⟩)
  rw [V.v]
  simp only [eqs]
  refine iteF rfl (iteF rfl (iteF rfl (iteF rfl (iteF rfl (iteF rfl (iteF rfl (iteF rfl (iteF rfl (iteF rfl (iteF rfl (desk_ask.ldp hb (desk_Desk_look.walk (a := A) (desk_ask.boxp fun b2 h2 eb2 hb2 f2 => ⟨_, cell_at hb2 rfl, ?_⟩)))))))))))))
  rw [V.v]
  simp only [eqs]
  have F2 := f1.tt f2
  have H2 := H.on F2
  obtain ⟨lg, m, q, X0, bx, bq, M, L, nx, nm, nq, eX⟩ := H2.db
  refine iteF rfl (iteT rfl ⟨_, cell_at H2.d rfl, world_World_Daemon.walk (daemon_ok H2 ⟨_, rfl, _, rfl, daemon_Daemon_Now.walk ⟨_, cell_at bx rfl, _, rfl, formatUint_ok (u := 0) (B h2 (no F2)).tb (by decide) fun h3 f3 => ⟨_, rfl, newP_of ?_⟩⟩⟩)⟩)
  refine tell_ok (xs := [str (Lib.decDigits 0)]) (B _ (no ((F2.tt f3).tt (Fr.push _ _)))) ⟨by decide, by decide⟩ (row_of (vs := [str (Lib.decDigits 0)]) rfl) rfl (by simp) (fun x hx => by rw [List.mem_singleton.1 hx, size_str]; have := dec_len (u := 0) (by decide); omega) fun g s f => ⟨_, rfl, _, rfl, hk g s (no (((F2.tt f3).tt (Fr.push _ _)).tt f))⟩
theorem run_none {w x y hh : Nat} {X : Ft} {n dr : Int} (H : Fd h n0 d w x y hh X) (hk : ∀ g, Fr No h g → R (.tuple #[(⟨0, 0, 0, 0, 0, none, 0, 0⟩ : reply_Reply.S).agg, .int .i64 4]) g) : Cl 54 #[.pointer (some ⟨w, 0, none⟩), .int .i64 n, .int .u64 dr] h R := by
  refine world_World_Run.walk (reply_Reply.boxp (x := reply_Reply.S.z) fun b h1 eb hb f1 => daemon_ok (H.on f1) ⟨_, rfl, daemon_Daemon_Run.walk (daemon_Deed.boxp (x := daemon_Deed.S.z) fun b2 h2 eb2 hb2 f2 => find_none ((H.on f1).on f2) ⟨_, _, rfl, iteT rfl (daemon_Deed.setp hb2 fun h3 hb3 f3 z3 => daemon_Deed.ldp hb3 (daemon_Deed.ex _ ⟨_, rfl, daemon_Deed.newp (x := daemon_Deed.S.z) fun b4 h4 eb4 hb4 f4 => iteT rfl ?_⟩))⟩)⟩)
  have z1 := f1.1
  have z2 := f2.1
  have F3 : Fr No h h3 := (f1.tt f2).fresh f3 fun z e => by omega
  have hb' := f4.get (f3.get (f2.get hb id) (by have := lt_of_get hb; omega)) id
  exact reply_Reply.setp hb' fun h5 hb5 f5 z5 => reply_Reply.ldp hb5 (hk h5 ((F3.tt f4).fresh f5 fun z e => by omega))
theorem do_run : DoL (str [114, 117, 110]) := fun h R n0 d w x y hh X A ns bs m B H z0 lt V ln lb hk => by
  refine desk_Desk_do.walk (a := A) (desk_ask.boxp fun b h1 eb hb f1 => ⟨_, cell_at hb rfl, ?_⟩)
  rw [V.v]
  simp only [eqs]
  have H1 := H.on f1
  have V1 := V.frame f1
  have ln : ns.length = 2 := ln
  obtain ⟨a, n, ea, en, ca⟩ := num_at V1.n (i := 0) (by omega)
  obtain ⟨a', n', ea', en', ca'⟩ := num_at V1.n (i := 1) (by omega)
  rw [ea] at ea'
  cases ea'
  have nl := V1.nl
  refine iteF rfl (iteF rfl (iteT rfl ⟨_, cell_at H1.d rfl, _, _, _, cell_at hb rfl, ⟨by omega, by rw [nl]; omega⟩, ?_⟩))
  rw [ea]
  refine onSome_some.2 ⟨_, ca, _, _, _, cell_at hb rfl, ⟨by omega, by rw [nl]; omega⟩, ?_⟩
  rw [ea]
  exact onSome_some.2 ⟨_, ca', run_none H1 fun g f => reply_Reply.ex _ ⟨_, rfl, f.kp, said_ok (r := 0) (e := 4) (B g (no (f1.tt f))) ⟨by decide, by decide⟩ ⟨by decide, by decide⟩ fun g' s f' => ⟨_, rfl, f'.kp, hk g' s (no ((f1.tt f).tt f'))⟩⟩⟩

end Aud
end
section
namespace Aud
open Num
variable {h h':Heap} {R:TyP} {s t:ByteArray} {p q:TyO} {l c b:Nat} {es:List (ByteArray × ByteArray)}
variable {cs:Array Value} {n:Nat}
abbrev lCon : ByteArray := ⟨#[99, 111, 110, 110, 101, 99, 116]⟩
abbrev lTick : ByteArray := ⟨#[116, 105, 99, 107, 32, 53]⟩
abbrev lNow : ByteArray := ⟨#[110, 111, 119]⟩
abbrev lWhat : ByteArray := ⟨#[119, 104, 97, 116]⟩
abbrev lRun : ByteArray := ⟨#[114, 117, 110, 32, 49, 32, 55]⟩
theorem isl_con : IsL lCon := line_of (by decide) fun _ => by
  rw [show wordAt lCon 0 = str [99, 111, 110, 110, 101, 99, 116] from by kernel_rfl]
  exact do_connect
theorem isl_tick : IsL lTick := line_of (by decide) fun _ => by
  rw [show wordAt lTick 0 = str [116, 105, 99, 107] from by kernel_rfl]
  exact do_tick
theorem isl_now : IsL lNow := line_of (by decide) fun _ => by
  rw [show wordAt lNow 0 = str [110, 111, 119] from by kernel_rfl]
  exact do_now
theorem isl_what : IsL lWhat := line_of (by decide) fun q => by
  rw [show readB lWhat = false from by kernel_rfl] at q
  cases q
theorem isl_run : IsL lRun := line_of (by decide) fun _ => by
  rw [show wordAt lRun 0 = str [114, 117, 110] from by kernel_rfl]
  exact do_run
theorem great_ok (row : Row h p (es.flatMap eenc)) (hl : l = es.length)
    (hk : ∀ b : Bool, (b = false → es.length ≤ 40 ∧ ∀ x ∈ es, x.1.size ≤ 4200 ∧ x.2.size ≤ 3000) → R (.bool b) h) : Cl 5 #[.slice p l c] h R := by
  subst hl
  refine law38_Great.walk ⟨fun all i g => ∃ k : Nat, i = (k : Int) ∧ k ≤ es.length ∧ g = h ∧ (0 < k → es.length ≤ 40) ∧ ∀ j (hj : j < es.length), j < k → es[j].1.size ≤ 4200 ∧ es[j].2.size ≤ 3000, fun _ i _ => es.length - i.toNat, ⟨0, rfl, Nat.zero_le _, rfl, fun q => absurd q (by decide), fun j _ q => absurd q (Nat.not_lt_zero _)⟩, ?_⟩
  rintro all _ g ⟨k, rfl, hk1, hg, h40, ho⟩
  subst hg
  by_cases c1 : k < es.length
  · obtain ⟨a, rfl⟩ := row.some (flat_ne c1)
    obtain ⟨r0, r1⟩ := eenc_at row c1
    refine iteT (decide_eq_true (by omega)) (JoinP.of fun J hJ => ?_)
    have yes : J true g := by subst hJ; exact iteT rfl (hk true fun q => by cases q)
    have bd : (0 : Int) ≤ (k : Int) ∧ (k : Int) < ((es.length : Nat) : Int) := ⟨by omega, by omega⟩
    have c0' : hcell g (a.add (Int.toNat (k : Int) * 2)) = some (.string es[k].1) := by rw [Int.toNat_natCast]; exact r0
    have c1' : hcell g ((a.add (Int.toNat (k : Int) * 2)).add 1) = some (.string es[k].2) := by rw [Int.toNat_natCast]; exact r1
    by_cases d1 : es.length > 40
    · exact iteT (decide_eq_true (by omega)) yes
    refine iteF (decide_eq_false (by omega)) ⟨bd, onSome_some.2 ⟨_, c0', ?_⟩⟩
    have last : es[k].1.size ≤ 4200 → ((0 : Int) ≤ (k : Int) ∧ (k : Int) < ((es.length : Nat) : Int)) ∧ onSome (some a) fun a_4 => ∃ t46, hcell g ((a_4.add (Int.toNat (k : Int) * 2)).add 1) = some (.string t46) ∧ J (decide (((t46.size : Nat) : Int) > 3000)) g := fun d3 => by
      refine ⟨bd, onSome_some.2 ⟨_, c1', ?_⟩⟩
      by_cases d4 : es[k].2.size > 3000
      · rw [decide_eq_true (by omega)]; exact yes
      · rw [decide_eq_false (by omega)]
        subst hJ
        refine iteF rfl ⟨bd, onSome_some.2 ⟨_, c0', ⟨k + 1, by rw [wrap_id (by omega) (by omega)]; rfl, c1, rfl, fun _ => by omega, fun j hj hj2 => ?_⟩, ?_⟩⟩
        · by_cases e : j = k
          · subst e; exact ⟨d3, by omega⟩
          · exact ho j hj (by omega)
        · show es.length - Int.toNat (IntKind.wrap .i64 ((k : Int) + 1)) < es.length - Int.toNat (k : Int)
          rw [wrap_id (by omega) (by omega)]
          omega
    by_cases d2 : es[k].1.size > 1000
    · refine iteT (decide_eq_true (by omega)) ⟨bd, onSome_some.2 ⟨_, c0', ?_⟩⟩
      by_cases d3 : es[k].1.size ≤ 4096
      · exact iteT (decide_eq_true (by omega)) yes
      refine iteF (decide_eq_false (by omega)) ⟨bd, onSome_some.2 ⟨_, c0', ?_⟩⟩
      by_cases d4 : es[k].1.size > 4200
      · exact iteT (decide_eq_true (by omega)) yes
      · exact iteF (decide_eq_false (by omega)) (last (by omega))
    · exact iteF (decide_eq_false (by omega)) ⟨bd, onSome_some.2 ⟨_, c0', iteF (decide_eq_false (by omega)) (last (by omega))⟩⟩
  · refine iteF (decide_eq_false (by omega)) (hk _ fun _ => ⟨?_, fun x hx => ?_⟩)
    · by_cases e : es.length = 0
      · omega
      · exact h40 (by omega)
    · obtain ⟨j, hj, rfl⟩ := List.getElem_of_mem hx
      exact ho j hj (by omega)
abbrev tA : ByteArray := ⟨#[111, 107, 32, 49]⟩
abbrev tB : ByteArray := ⟨#[111, 107]⟩
abbrev tC : ByteArray := ⟨#[111, 107, 32, 53]⟩
abbrev tD : ByteArray := ⟨#[98, 97, 100]⟩
abbrev tE : ByteArray := ⟨#[111, 107, 32, 51, 32, 52, 32, 49, 32, 48, 32, 48, 32, 45]⟩
theorem j4 : judgeQ bk0 [(lCon, tA), (lTick, tB), (lWhat, tD), (lNow, tC), (lRun, tE)] = 4 := by kernel_rfl
theorem j1 : judgeQ bk0 [(lCon, tA), (lCon, tA)] = 1 := by kernel_rfl
theorem j0 : judgeQ bk0 [(lNow, tC)] = 0 := by kernel_rfl
theorem isl_all {x : ByteArray × ByteArray} (hx : x ∈ [(lCon, tA), (lTick, tB), (lWhat, tD), (lNow, tC), (lRun, tE)]) : IsL x.1 ∧ x.1.size ≤ 10000 ∧ x.2.size ≤ 10000 := by
  simp only [List.mem_cons, List.not_mem_nil, or_false] at hx
  rcases hx with rfl | rfl | rfl | rfl | rfl
  · exact ⟨isl_con, by decide, by decide⟩
  · exact ⟨isl_tick, by decide, by decide⟩
  · exact ⟨isl_what, by decide, by decide⟩
  · exact ⟨isl_now, by decide, by decide⟩
  · exact ⟨isl_run, by decide, by decide⟩
theorem judge_lit {Q : Value → Heap → Prop} (B : Bs h) (hc : cs = (es.flatMap eenc).toArray) (hn : n = es.length) (hl : es.length ≤ 1000) (L : ∀ x ∈ es, IsL x.1 ∧ x.1.size ≤ 10000 ∧ x.2.size ≤ 10000)
    (hk : ∀ g, Fr No h g → Q (.int .i64 (judgeQ bk0 es : Int)) g) : NewP h (.cells cs 32) fun b g => Cl 7 #[.slice (some ⟨b, 0, none⟩) n n] g Q := by
  subst hc
  refine newP_of (judge_all (B.on (Fr.push _ _)) L row_new hn hl fun g f => hk g ((Fr.push _ _).tt f))
theorem alive_ok (B : Bs h) (hk : ∀ g, Fr No h g → R (.bool true) g) : Cl 6 #[] h R := by
  refine law38_alive.walk (entry_new fun b1 g1 e1 c1 f1 => entry_new fun b2 g2 e2 c2 f2 => entry_new fun b3 g3 e3 c3 f3 => entry_new fun b4 g4 e4 c4 f4 => entry_new fun b5 g5 e5 c5 f5 => ?_)
  have d4 := f5.get c4 id
  have d3 := f5.get (f4.get c3 id) id
  have d2 := f5.get (f4.get (f3.get c2 id) id) id
  have d1 := f5.get (f4.get (f3.get (f2.get c1 id) id) id) id
  have F5 := (((f1.tt f2).tt f3).tt f4).tt f5
  refine ⟨_, cell_at d1 rfl, _, cell_at d1 rfl, _, cell_at d2 rfl, _, cell_at d2 rfl, _, cell_at d4 rfl, _, cell_at d4 rfl, _, cell_at d3 rfl, _, cell_at d3 rfl, _, cell_at c5 rfl, _, cell_at c5 rfl, ?_⟩
  refine judge_lit (es := [(lCon, tA), (lTick, tB), (lWhat, tD), (lNow, tC), (lRun, tE)]) (B.on F5) rfl rfl (by decide) (fun x hx => isl_all hx) fun g f => ⟨_, rfl, ?_⟩
  rw [j4]
  have a1 := f.get d1 id
  refine iteT rfl ⟨_, cell_at a1 rfl, _, cell_at a1 rfl, _, cell_at a1 rfl, _, cell_at a1 rfl, judge_lit (es := [(lCon, tA), (lCon, tA)]) (B.on (F5.tt f)) rfl rfl (by decide) (fun x hx => ?_) fun g' f' => ⟨_, rfl, ?_⟩⟩
  · simp only [List.mem_cons, List.not_mem_nil, or_false, or_self] at hx
    subst hx
    exact ⟨isl_con, by decide, by decide⟩
  rw [j1]
  have a3 := f'.get (f.get d3 id) id
  refine iteT rfl ⟨_, cell_at a3 rfl, _, cell_at a3 rfl, judge_lit (es := [(lNow, tC)]) (B.on ((F5.tt f).tt f')) rfl rfl (by decide) (fun x hx => ?_) fun g2 f2' => ⟨_, rfl, ?_⟩⟩
  · rw [List.mem_singleton] at hx
    subst hx
    exact ⟨isl_now, by decide, by decide⟩
  rw [j0]
  refine iteT rfl (judge_all (es := []) (B.on (((F5.tt f).tt f').tt f2')) (fun x hx => by cases hx) .nil rfl (by decide) fun g3 f3' => ⟨_, rfl, hk g3 ((((F5.tt f).tt f').tt f2').tt f3')⟩)
theorem rok_str {v : Value} (hr : Rok Tryz.prog h n 9 [v]) : ∃ s, v = .string s := by
  have uS : Tryz.prog.underlying 9 = some .string := by kernel_rfl
  cases n with
  | zero => exact hr.elim
  | succ m =>
    unfold Rok at hr
    rw [uS] at hr
    obtain ⟨s, e, _⟩ := hr
    exact ⟨s, by simpa using e⟩
theorem en_tl : tleaves Tryz.prog 5 32 = some [9, 9] := by kernel_rfl
theorem entry_arg (hs : cs.size = Tryz.prog.cellsOf 32) (hv : RokV Tryz.prog h 32 (.agg cs)) : ∃ s t : ByteArray, Value.agg cs = .agg #[.string s, .string t] := by
  obtain ⟨n, hn⟩ := hv
  have hs2 : cs.toList.length = 2 := by rw [Array.length_toList, hs]; kernel_rfl
  have L := tleaves_ok 5 n _ _ cs.toList en_tl (by rw [hs2]; rfl) hn
  obtain ⟨l, rfl⟩ : ∃ l : List Value, cs = l.toArray := ⟨cs.toList, by simp⟩
  simp only [List.toList_toArray] at L hs2
  match l, hs2 with
  | [a, b], _ =>
    obtain ⟨m0, hm0⟩ := L.get 0 rfl rfl
    obtain ⟨k0, rfl⟩ := rok_str hm0
    obtain ⟨m1, hm1⟩ := L.get 1 rfl rfl
    obtain ⟨k1, rfl⟩ := rok_str hm1
    exact ⟨k0, k1, rfl⟩
theorem _root_.Go.Proofs.YticlajoleibdnaaGreatDoor.auditNobody_ok (xs : Array Value) (sx : xs.size = Tryz.prog.cellsOf 32) (hx : RokV Tryz.prog h 32 (.agg xs)) (tb : Num.Tab h) (er : Num.Er h) (mx : Num.Mx h) : LawH Tryz.prog 4 #[.agg xs] h := by
  obtain ⟨s, t, ex⟩ := entry_arg sx hx
  rw [ex]
  have B : Bs h := ⟨tb, er, mx, trivial⟩
  clear hx sx ex
  unfold LawH
  generalize hR : (fun (v : Value) h' => v = .bool true ∧ Fr No h h') = R
  have hk : ∀ h', Fr No h h' → R (.bool true) h' := fun h' hf => by rw [← hR]; exact ⟨rfl, hf⟩
  clear hR
  refine law38_AuditNobody.walk (newP_of ?_)
  have f1 : Fr No h (h.push (.cells #[.string s, .string t] 32)) := Fr.push _ _
  have e1 : (h.push (.cells #[.string s, .string t] 32))[h.size]? = some (.cells #[.string s, .string t] 32 (0, 0)) := push_new
  generalize h.push (.cells #[.string s, .string t] 32) = g1 at f1 e1 ⊢
  refine ⟨_, cell_at e1 rfl, _, cell_at e1 rfl, newP_of ?_⟩
  have f2 : Fr No g1 (g1.push (.cells #[.string s, .string t] 32)) := Fr.push _ _
  have r2 : Row (g1.push (.cells #[.string s, .string t] 32)) (some ⟨g1.size, 0, none⟩) ([(s, t)].flatMap eenc) := row_new (cs := [.string s, .string t])
  generalize g1.push (.cells #[.string s, .string t] 32) = g2 at f2 r2 ⊢
  have F2 := f1.tt f2
  refine great_ok r2 rfl fun b _ => ⟨_, rfl, ?_⟩
  cases b with
  | true => exact iteT rfl (alive_ok (B.on F2) fun g f => ⟨_, rfl, hk g (F2.tt f)⟩)
  | false =>
    refine iteF rfl (audit_Book.boxp (x := audit_Book.S.z) fun bb g3 eb hb f3 => ?_)
    have e3 := f3.get (f2.get e1 id) id
    refine ⟨_, cell_at e3 rfl, _, cell_at e3 rfl, audit_Book_Hear.nil.walk (newP_of (JoinP.of fun J hJ => ?_))⟩
    subst hJ
    have f4 : Fr No g3 (g3.push (.cells #[.string s, .string t] 32)) := Fr.push _ _
    generalize g3.push (.cells #[.string s, .string t] 32) = g4 at f4 ⊢
    have e4 := f4.get e3 id
    refine iteT rfl ⟨_, _, rfl, _, cell_at e4 rfl, _, cell_at e4 rfl, audit_Book_Hear.walk (newP_of (JoinP.of fun J hJ => ?_))⟩
    have f5 : Fr No g4 (g4.push (.cells #[.string s, .string t] 32)) := Fr.push _ _
    generalize g4.push (.cells #[.string s, .string t] 32) = g5 at f5 ⊢
    have b5 := f5.get (f4.get hb id) id
    subst hJ
    refine ⟨_, cell_at b5 rfl, iteT rfl ⟨_, _, rfl, alive_ok (B.on (((F2.tt f3).tt f4).tt f5)) fun g f => ⟨_, rfl, iteT rfl (iteT rfl (iteT rfl (iteT rfl (iteT rfl (audit_Book_Heard.nil.walk ⟨_, rfl, audit_Book_Heard.walk ⟨_, cell_at (f.get b5 id) rfl, _, rfl, hk g ((((F2.tt f3).tt f4).tt f5).tt f)⟩⟩)))))⟩⟩⟩

end Aud
end
end Go.Proofs.YticlajoleibdnaaGreatDoor
