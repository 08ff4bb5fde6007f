/-
  What is proved here: the reading of code ('den') is enough for the model's own 'Calls' ('callsH_of_den'). No condition.
-/
import Derived.Test.YtgccegnmggjkjaaDoorOpsOk
namespace Go.Den

/-! ### slots with types -/
def Leaf.T (X : Type) : Leaf → Type
  | .int _ => Int → X
  | .bool => Bool → X
  | .str => ByteArray → X
  | .ptr => Option Addr → X
  | .slice => Option Addr → Nat → Nat → X
  | .map => Option Nat → X
  | .raw => Value → X
def leavesT (X : Type) : List Leaf → Type
  | [] => X
  | l :: ls => l.T (leavesT X ls)
def Sh.T (X : Type) : Sh → Type
  | .one l => l.T X
  | .agg ls => leavesT X ls
def Tele (X : Type) : List (Nat × Sh) → Type
  | [] => X
  | s :: L => s.2.T (Tele X L)

def Leaf.lam {X : Type} : (l : Leaf) → (Value → X) → l.T X
  | .int k, F => fun n : Int => F (.int k n)
  | .bool, F => fun b : Bool => F (.bool b)
  | .str, F => fun s : ByteArray => F (.string s)
  | .ptr, F => fun p : Option Addr => F (.pointer p)
  | .slice, F => fun (p : Option Addr) (l c : Nat) => F (.slice p l c)
  | .map, F => fun m : Option Nat => F (.map m)
  | .raw, F => fun v : Value => F v
def lams {X : Type} : (ls : List Leaf) → (List Value → X) → leavesT X ls
  | [], F => F []
  | l :: ls, F => l.lam fun v => lams ls fun vs => F (v :: vs)
def Sh.lam {X : Type} : (s : Sh) → (Value → X) → s.T X
  | .one l, F => l.lam F
  | .agg ls, F => lams ls fun vs => F (.agg vs.toArray)
def lamE {X : Type} : (L : List (Nat × Sh)) → (Env → X) → Env → Tele X L
  | [], F, σ => F σ
  | (t, s) :: L, F, σ => s.lam fun v => lamE L F (σ.set t v)

def Leaf.ap {X Y : Type} (d : Y) : (l : Leaf) → l.T X → Value → (X → Y) → Y
  | .int k, f, .int k' n, K => (match decide (k = k') with | true => K (f n) | false => d)
  | .bool, f, .bool b, K => K (f b)
  | .str, f, .string s, K => K (f s)
  | .ptr, f, .pointer p, K => K (f p)
  | .slice, f, .slice p l c, K => K (f p l c)
  | .map, f, .map m, K => K (f m)
  | .raw, f, v, K => K (f v)
  | _, _, _, _ => d
def aps {X Y : Type} (d : Y) : (ls : List Leaf) → leavesT X ls → List Value → (X → Y) → Y
  | [], f, [], K => K f
  | l :: ls, f, v :: vs, K => l.ap d f v fun g => aps d ls g vs K
  | _, _, _, _ => d
def Sh.ap {X Y : Type} (d : Y) : (s : Sh) → s.T X → Value → (X → Y) → Y
  | .one l, f, v, K => l.ap d f v K
  | .agg ls, f, .agg vs, K => aps d ls f vs.toList K
  | _, _, _, _ => d
def apE {X Y : Type} (d : Y) : (L : List (Nat × Sh)) → Tele X L → Env → (X → Y) → Y
  | [], f, _, K => K f
  | (t, s) :: L, f, σ, K => (match σ t with | some v => s.ap d f v fun g => apE d L g σ K | none => d)

def Leaf.all : Leaf → (Value → Prop) → Prop
  | .int k, F => ∀ n : Int, F (.int k n)
  | .bool, F => ∀ b : Bool, F (.bool b)
  | .str, F => ∀ s : ByteArray, F (.string s)
  | .ptr, F => ∀ p : Option Addr, F (.pointer p)
  | .slice, F => ∀ (p : Option Addr) (l c : Nat), F (.slice p l c)
  | .map, F => ∀ m : Option Nat, F (.map m)
  | .raw, F => ∀ v : Value, F v
def alls : List Leaf → (List Value → Prop) → Prop
  | [], F => F []
  | l :: ls, F => l.all fun v => alls ls fun vs => F (v :: vs)
def Sh.all : Sh → (Value → Prop) → Prop
  | .one l, F => l.all F
  | .agg ls, F => alls ls fun vs => F (.agg vs.toArray)
def allE : List (Nat × Sh) → (Env → Prop) → Env → Prop
  | [], F, σ => F σ
  | (t, s) :: L, F, σ => s.all fun v => allE L F (σ.set t v)

/-! 'ap' at 'lam' -/
theorem Leaf.ap_shape {X Y : Type} {d : Y} {l : Leaf} {f : l.T X} {v : Value} {K : X → Y} : l.ap d f v K = d ∨ ((∃ g : X, l.ap d f v K = K g) ∧ ∀ (Z : Type) (F : Value → Z), ∀ (W : Type) (e : W) (J : Z → W), l.ap e (l.lam F) v J = J (F v)) := by
  cases l <;> cases v <;> first
    | exact .inl rfl
    | exact .inr ⟨⟨_, rfl⟩, fun _ _ _ _ _ => rfl⟩
    | skip
  rename_i k k' n
  by_cases hk : k = k'
  · subst hk
    refine .inr ⟨⟨f n, ?_⟩, fun Z F W e J => ?_⟩ <;> simp [Leaf.ap, Leaf.lam]
  · exact .inl (by simp [Leaf.ap, hk])

theorem Leaf.ap_ok {X : Type} {l : Leaf} {f : l.T X} {v : Value} {K : X → Prop} (h : l.ap False f v K) :
    (∃ g : X, K g) ∧ (∀ (Z W : Type) (F : Value → Z) (e : W) (J : Z → W), l.ap e (l.lam F) v J = J (F v)) := by
  rcases Leaf.ap_shape (d := False) (l := l) (f := f) (v := v) (K := K) with h1 | ⟨⟨g, h1⟩, h2⟩
  · rw [h1] at h; exact h.elim
  · exact ⟨⟨g, by rw [h1] at h; exact h⟩, fun Z W F e J => h2 Z F W e J⟩

theorem Leaf.all_at {l : Leaf} {F : Value → Prop} (h : l.all F) {X : Type} {f : l.T X} {v : Value} {K : X → Prop} (ha : l.ap False f v K) : F v := by
  cases l <;> cases v <;> first
    | exact ha.elim
    | exact h _
    | exact h _ _ _
    | skip
  rename_i k k' n
  by_cases hk : k = k'
  · subst hk; exact h n
  · simp [Leaf.ap, hk] at ha

theorem Leaf.ap_mono {X : Type} {l : Leaf} {f : l.T X} {v : Value} {K K' : X → Prop} (h : l.ap False f v K) (hk : ∀ g, K g → K' g) : l.ap False f v K' := by
  cases l <;> cases v <;> first
    | exact h.elim
    | exact hk _ h
    | skip
  rename_i k k' n
  by_cases hq : k = k'
  · subst hq; simp [Leaf.ap] at h ⊢; exact hk _ h
  · simp [Leaf.ap, hq] at h

theorem Leaf.ap_lam {X : Type} {l : Leaf} {F : Value → X} {v : Value} {K : X → Prop} (h : l.ap False (l.lam F) v K) : K (F v) := by
  have := (Leaf.ap_ok h).2 X Prop F False K
  rw [this] at h; exact h

theorem aps_lam {X : Type} : ∀ {ls : List Leaf} {F : List Value → X} {vs : List Value} {K : X → Prop}, aps False ls (lams ls F) vs K → K (F vs)
  | [], _, [], _, h => h
  | [], _, _ :: _, _, h => h.elim
  | _ :: _, _, [], _, h => h.elim
  | _ :: ls, F, v :: vs, _, h => aps_lam (ls := ls) (F := fun us => F (v :: us)) (vs := vs) (Leaf.ap_lam h)

theorem Sh.ap_lam {X : Type} {s : Sh} {F : Value → X} {v : Value} {K : X → Prop} (h : s.ap False (s.lam F) v K) : K (F v) := by
  cases s with
  | one l => exact Leaf.ap_lam h
  | agg ls =>
    cases v <;> first | exact h.elim | skip
    rename_i cs
    have := aps_lam (F := fun vs => F (.agg vs.toArray)) h
    simpa using this

theorem alls_at {X : Type} : ∀ {ls : List Leaf} {F : List Value → Prop} {f : leavesT X ls} {vs : List Value} {K : X → Prop}, alls ls F → aps False ls f vs K → F vs
  | [], _, _, [], _, h, _ => h
  | [], _, _, _ :: _, _, _, h => h.elim
  | _ :: _, _, _, [], _, _, h => h.elim
  | l :: ls, F, f, v :: vs, K, h, ha => by
    obtain ⟨⟨g, hg⟩, _⟩ := Leaf.ap_ok ha
    have h1 := Leaf.all_at h ha
    exact alls_at (ls := ls) (F := fun us => F (v :: us)) (vs := vs) h1 hg

theorem Sh.all_at {s : Sh} {F : Value → Prop} (h : s.all F) {X : Type} {f : s.T X} {v : Value} {K : X → Prop} (ha : s.ap False f v K) : F v := by
  cases s with
  | one l => exact Leaf.all_at h ha
  | agg ls =>
    cases v <;> first | exact ha.elim | skip
    have := alls_at h ha
    simpa using this

theorem aps_some {X : Type} : ∀ {ls : List Leaf} {f : leavesT X ls} {vs : List Value} {K : X → Prop}, aps False ls f vs K → ∃ g, K g
  | [], f, [], _, h => ⟨f, h⟩
  | [], _, _ :: _, _, h => h.elim
  | _ :: _, _, [], _, h => h.elim
  | _ :: _, _, _ :: _, _, h => by
    obtain ⟨⟨g, hg⟩, _⟩ := Leaf.ap_ok h
    exact aps_some hg
theorem Sh.ap_some {X : Type} {s : Sh} {f : s.T X} {v : Value} {K : X → Prop} (h : s.ap False f v K) : ∃ g, K g := by
  cases s with
  | one l => exact (Leaf.ap_ok h).1
  | agg ls => cases v <;> first | exact h.elim | exact aps_some h

/-- what the slots of L hold in σ', the rest as in σ0 -/
def Sub (σ'' σ0 σ' : Env) : Prop := ∀ t v, σ'' t = some v → σ' t = some v ∨ σ0 t = some v
theorem Env.set_eq (σ : Env) (d t : Nat) (v : Value) : σ.set d v t = if t = d then some v else σ t := by
  unfold Env.set
  by_cases h : t = d
  · subst h; simp
  · have : Nat.beq t d = false := by cases hb : Nat.beq t d; rfl; exact absurd (Nat.eq_of_beq_eq_true hb) h
    simp [this, h]
theorem Sub.set {σ'' σ0 σ' : Env} {t : Nat} {v : Value} (ht : σ' t = some v) (h : Sub σ'' (σ0.set t v) σ') : Sub σ'' σ0 σ' := fun u x hu => by
  rcases h u x hu with h1 | h1
  · exact .inl h1
  · rw [Env.set_eq] at h1
    split at h1
    · rename_i e; subst e; exact .inl (ht.trans h1)
    · exact .inr h1

theorem apE_lamE {G : Env → Heap → Prop} {h : Heap} {σ' : Env} : ∀ (L : List (Nat × Sh)) (σ0 : Env), apE False L (lamE (X := Heap → Prop) L G σ0) σ' (fun f => f h) → ∃ σ'', G σ'' h ∧ Sub σ'' σ0 σ'
  | [], σ0, hh => ⟨σ0, hh, fun _ _ h => .inr h⟩
  | (t, s) :: L, σ0, hh => by
    simp only [apE] at hh
    split at hh
    · rename_i v hv
      have h1 := Sh.ap_lam hh
      obtain ⟨σ'', h2, h3⟩ := apE_lamE L _ h1
      exact ⟨σ'', h2, h3.set hv⟩
    · exact hh.elim

theorem allE_at {X : Type} {F : Env → Prop} {σ' : Env} {K : X → Prop} : ∀ (L : List (Nat × Sh)) (σ0 : Env) (f : Tele X L), allE L F σ0 → apE False L f σ' K →
    ∃ σ'', F σ'' ∧ Sub σ'' σ0 σ' ∧ ((∀ t s, (t, s) ∈ L → σ'' t = σ' t) ∧ ∀ t, (∀ s, (t, s) ∉ L) → σ'' t = σ0 t)
  | [], σ0, _, h, _ => ⟨σ0, h, fun _ _ h => .inr h, (fun _ _ h => by cases h), fun _ _ => rfl⟩
  | (t, s) :: L, σ0, f, h, ha => by
    simp only [apE] at ha
    split at ha
    · rename_i v hv
      have h1 := Sh.all_at h ha
      obtain ⟨g, hg⟩ := Sh.ap_some ha
      obtain ⟨σ'', h2, h3, h4, h5⟩ := allE_at L _ g h1 hg
      refine ⟨σ'', h2, h3.set hv, fun u s' hm => ?_, fun u hm => ?_⟩
      · by_cases hin : ∃ s'', (u, s'') ∈ L
        · obtain ⟨s'', hin⟩ := hin; exact h4 u s'' hin
        · have hu : u = t := by
            rcases List.mem_cons.1 hm with e | e
            · exact (Prod.mk.inj e).1
            · exact absurd ⟨s', e⟩ hin
          subst hu
          rw [h5 u (fun s'' hs => hin ⟨s'', hs⟩), Env.set_eq, if_pos rfl, hv]
      · rw [h5 u (fun s' hs => hm s' (List.mem_cons_of_mem _ hs)), Env.set_eq, if_neg]
        intro e; subst e; exact hm s List.mem_cons_self
    · exact ha.elim

theorem apE_congr {X Y : Type} {d : Y} {σ σ' : Env} {K : X → Y} : ∀ (L : List (Nat × Sh)) (f : Tele X L), (∀ t s, (t, s) ∈ L → σ t = σ' t) → apE d L f σ K = apE d L f σ' K
  | [], _, _ => rfl
  | (t, s) :: L, f, h => by
    simp only [apE]
    rw [h t s List.mem_cons_self]
    have : (fun g => apE d L g σ K) = (fun g => apE d L g σ' K) := funext fun g => apE_congr L g (fun t s hm => h t s (List.mem_cons_of_mem _ hm))
    rw [this]

theorem apE_def {X : Type} {σ : Env} {K : X → Prop} : ∀ (L : List (Nat × Sh)) (f : Tele X L), apE False L f σ K → ∀ t s, (t, s) ∈ L → ∃ v, σ t = some v
  | [], _, _, _, _, h => by cases h
  | (t, s) :: L, f, h, u, s', hm => by
    simp only [apE] at h
    split at h
    · rename_i v hv
      rcases List.mem_cons.1 hm with e | e
      · exact ⟨v, by rw [(Prod.mk.inj e).1]; exact hv⟩
      · obtain ⟨g, hg⟩ := Sh.ap_some h
        exact apE_def L g hg u s' e
    · exact h.elim

/-! ### the frame -/
structure Rel (n : Nat) (σ : Env) (a : Act) : Prop where
  defers : a.defers = []
  size : a.tmps.size = n
  at_ : ∀ t v, σ t = some v → a.tmps.getD t undef = v
theorem Rel.fits {n : Nat} {σ : Env} {a : Act} (h : Rel n σ a) : Fits σ a.eval := by
  intro x v hv
  cases x with
  | tmp t => exact h.at_ t v hv
  | const c => simpa [Env.ev, Act.eval] using hv
  | global g => simpa [Env.ev, Act.eval] using hv
  | func f => simpa [Env.ev, Act.eval] using hv
theorem Rel.sub {n : Nat} {σ σ' : Env} {a : Act} (h : Rel n σ a) (hs : ∀ t v, σ' t = some v → σ t = some v) : Rel n σ' a :=
  ⟨h.defers, h.size, fun t v hv => h.at_ t v (hs t v hv)⟩
def putK (n : Nat) (σ : Env) (dst : Option Nat) (v : Value) (K : Env → Prop) : Prop :=
  match dst with
  | none => K σ
  | some d => (match Nat.blt d n with | true => K (σ.set d v) | false => False)
theorem getD_set {xs : Array Value} {d t : Nat} {v : Value} (hd : d < xs.size) : (xs.setIfInBounds d v).getD t undef = if t = d then v else xs.getD t undef := by
  by_cases h : t = d
  · subst h; simp [hd]
  · simp [h, Ne.symm h]
theorem putK_ok {n : Nat} {σ : Env} {a : Act} {dst : Option Nat} {v : Value} {K : Env → Prop} (hr : Rel n σ a) (h : putK n σ dst v K) : ∃ σ', Rel n σ' (a.put dst v) ∧ K σ' := by
  unfold putK at h
  split at h
  · exact ⟨σ, hr, h⟩
  · rename_i d
    split at h
    · rename_i hd
      have hd : d < a.tmps.size := by rw [hr.size]; exact (Nat.blt_eq ▸ hd)
      refine ⟨_, ⟨hr.defers, by simp [Act.put, hr.size], fun t u hu => ?_⟩, h⟩
      simp only [Act.put]
      rw [getD_set hd]
      rw [Env.set_eq] at hu
      split
      · rename_i e; rw [if_pos e] at hu; exact Option.some.inj hu
      · rename_i e; rw [if_neg e] at hu; exact hr.at_ t u hu
    · exact h.elim
def Unch (W : List Nat) (a a' : Act) : Prop := ∀ t, t ∉ W → a'.tmps.getD t undef = a.tmps.getD t undef
theorem Unch.refl (W : List Nat) (a : Act) : Unch W a a := fun _ _ => rfl
theorem Unch.trans {W : List Nat} {a b c : Act} (h : Unch W a b) (h' : Unch W b c) : Unch W a c := fun t ht => (h' t ht).trans (h t ht)
theorem Unch.mono {W W' : List Nat} {a b : Act} (h : Unch W a b) (hw : ∀ t, t ∈ W → t ∈ W') : Unch W' a b := fun t ht => h t (fun hm => ht (hw t hm))
theorem Unch.put {W : List Nat} {a : Act} {dst : Option Nat} {v : Value} (h : ∀ d, dst = some d → d ∈ W) : Unch W a (a.put dst v) := by
  intro t ht
  cases dst with
  | none => rfl
  | some d =>
    have hne : t ≠ d := fun e => ht (e ▸ h d rfl)
    simp [Act.put, Ne.symm hne]

/-! ### a region -/
def gsplit (ops : Array Oper) (o : Oper) (σ : Env) (run skip : Env → Prop) : Prop :=
  match o.guard with
  | none => run σ
  | some (j, pol) => (match (ops[j]?).bind (·.dst) with
    | some g => (match σ g with
      | some (.bool b) => if b = true then (match pol with | true => run (σ.set g (.bool true)) | false => skip (σ.set g (.bool true)))
          else (match pol with | true => skip (σ.set g (.bool false)) | false => run (σ.set g (.bool false)))
      | some (.tuple _) => skip σ
      | _ => False)
    | none => False)

theorem getD_some {xs : Array Value} {t : Nat} {v : Value} (h : xs.getD t undef = v) (hv : v ≠ undef) : xs[t]? = some v := by
  rw [Array.getD_eq_getD_getElem?] at h
  cases hq : xs[t]? with
  | none => rw [hq] at h; exact absurd h.symm hv
  | some u => rw [hq] at h; exact congrArg some h

theorem gsplit_ok {n : Nat} {ops : Array Oper} {o : Oper} {σ : Env} {a : Act} {run skip : Env → Prop} (hr : Rel n σ a) (h : gsplit ops o σ run skip) :
    (Region.wanted o (yielded ops a.tmps) = true ∧ ∃ σ', Rel n σ' a ∧ run σ') ∨ (Region.wanted o (yielded ops a.tmps) = false ∧ ∃ σ', Rel n σ' a ∧ skip σ') := by
  unfold gsplit at h
  split at h
  · rename_i hg
    exact .inl ⟨by simp [Region.wanted, hg], σ, hr, h⟩
  · rename_i j pol hg
    split at h
    · rename_i g hgd
      split at h
      · rename_i b hb
        have hat := hr.at_ g _ hb
        have hsome := getD_some hat (by unfold undef; intro e; cases e)
        have hy : yielded ops a.tmps j = some b := by simp [yielded, hgd, hsome]
        have hset : Rel n (σ.set g (.bool b)) a := ⟨hr.defers, hr.size, fun t u hu => by
          rw [Env.set_eq] at hu
          split at hu
          · rename_i e; subst e; rw [hat]; exact Option.some.inj hu
          · exact hr.at_ t u hu⟩
        split at h
        · rename_i hbt
          subst hbt
          split at h
          · exact .inl ⟨by simp [Region.wanted, hg, hy], _, hset, h⟩
          · exact .inr ⟨by simp [Region.wanted, hg, hy], _, hset, h⟩
        · rename_i hbf
          have hbf : b = false := by simpa using hbf
          subst hbf
          split at h
          · exact .inr ⟨by simp [Region.wanted, hg, hy], _, hset, h⟩
          · exact .inl ⟨by simp [Region.wanted, hg, hy], _, hset, h⟩
      · rename_i x hx
        have hat := hr.at_ g _ hx
        have hy : yielded ops a.tmps j = none := by
          simp only [yielded, hgd, Option.bind_some]
          rw [Array.getD_eq_getD_getElem?] at hat
          cases hq : a.tmps[g]? with
          | none => rfl
          | some u => rw [hq] at hat; simp at hat; subst hat; rfl
        exact .inr ⟨by simp [Region.wanted, hg, hy], σ, hr, h⟩
      · exact h.elim
    · exact h.elim

def denOp (P : Program) (o : Oper) (σ : Env) (h : Heap) (K : Value → Heap → Prop) : Prop :=
  match isRead P o with
  | true => denRead P o σ h fun v _ => K v h
  | false => denEff P o σ h K
theorem denOp_ok {P : Program} {o : Oper} {σ : Env} {ρ : Operand → Value} {h : Heap} {K : Value → Heap → Prop} (hf : Fits σ ρ) (hh : denOp P o σ h K) : OpWp P o ρ h K := by
  unfold denOp at hh
  split at hh
  · obtain ⟨v, S, h1, h2, h3⟩ := denRead_ok hf hh
    exact rd_den _ _ _ (h3 h h2) _ h1
  · exact denEff_ok hf hh

def denOps (P : Program) (n : Nat) (ops : Array Oper) : List Oper → Env → Heap → (Env → Heap → Prop) → Prop
  | [], σ, h, K => K σ h
  | o :: rest, σ, h, K => gsplit ops o σ
      (fun σ => denOp P o σ h fun v h' => putK n σ o.dst v fun σ' => denOps P n ops rest σ' h' K)
      (fun σ => putK n σ o.dst undef fun σ' => denOps P n ops rest σ' h K)

def opWrites (ops : Array Oper) : List Nat := ops.toList.filterMap (·.dst)
theorem opWrites_mem {ops : Array Oper} {i : Nat} {o : Oper} (ho : ops[i]? = some o) : ∀ d, o.dst = some d → d ∈ opWrites ops := fun d hd => by
  unfold opWrites
  rw [List.mem_filterMap]
  exact ⟨o, by simpa using Array.mem_of_getElem? ho, hd⟩

/-- the end of a region -/
def upR (n : Nat) (a0 : Act) (w0 : World) (W : List Nat) (K : Env → Heap → Prop) : Exit → Act → World → Prop :=
  fun e a w => e = .normal ∧ ∃ σ, Rel n σ a ∧ K σ w.heap ∧ Same w0 w ∧ Unch W a0 a

theorem denOps_ok {P : Program} {n : Nat} {ops : Array Oper} {K : Env → Heap → Prop} {a0 : Act} {w0 : World} : ∀ (rest : List Oper) (k : Nat) (σ : Env) (a : Act) (w : World),
    (∀ j, rest[j]? = ops[k + j]?) → Rel n σ a → Same w0 w → Unch (opWrites ops) a0 a → denOps P n ops rest σ w.heap K → wpOps P ops (upR n a0 w0 (opWrites ops) K) (List.range' k rest.length) a w
  | [], k, σ, a, w, _, hr, hs, hu, h => ⟨rfl, σ, hr, h, hs, hu⟩
  | o :: rest, k, σ, a, w, hj, hr, hs, hu, h => by
    have h0 : ops[k]? = some o := by have := hj 0; simpa using this.symm
    have hj' : ∀ j, rest[j]? = ops[k + 1 + j]? := fun j => by have := hj (j + 1); simpa [Nat.add_assoc, Nat.add_comm 1 j] using this
    simp only [List.length_cons, List.range'_succ, wpOps, h0]
    simp only [denOps] at h
    rcases gsplit_ok hr h with ⟨hw, σ', hr', h⟩ | ⟨hw, σ', hr', h⟩
    · rw [if_pos hw]
      refine .inl ((denOp_ok hr'.fits h).wp ?_)
      intro v w' hk hs'
      obtain ⟨σ1, hr1, h1⟩ := putK_ok hr' hk
      exact denOps_ok rest (k + 1) σ1 _ w' hj' hr1 (hs.trans hs') (hu.trans (Unch.put (opWrites_mem h0))) h1
    · rw [if_neg (by rw [hw]; simp)]
      obtain ⟨σ1, hr1, h1⟩ := putK_ok hr' h
      exact denOps_ok rest (k + 1) σ1 _ w hj' hr1 hs (hu.trans (Unch.put (opWrites_mem h0))) h1

/-! a region of which some slots are told their shapes -/
def lookSh : List (Nat × Sh) → Nat → Option Sh
  | [], _ => none
  | (t, s) :: L, d => (match Nat.beq t d with | true => some s | false => lookSh L d)
def castK (ty : List (Nat × Sh)) (dst : Option Nat) (v : Value) (F : Value → Prop) : Prop :=
  match dst with
  | none => F v
  | some d => (match lookSh ty d with | some s => s.ex fun v' => v = v' ∧ F v' | none => F v)
theorem castK_ok {ty : List (Nat × Sh)} {dst : Option Nat} {v : Value} {F : Value → Prop} (h : castK ty dst v F) : F v := by
  unfold castK at h
  split at h
  · exact h
  · split at h
    · obtain ⟨v', e, h⟩ := Sh.ex_some h; subst e; exact h
    · exact h
def denOpsT (P : Program) (n : Nat) (ops : Array Oper) (ty : List (Nat × Sh)) : List Oper → Env → Heap → (Env → Heap → Prop) → Prop
  | [], σ, h, K => K σ h
  | o :: rest, σ, h, K => gsplit ops o σ
      (fun σ => denOp P o σ h fun v h' => castK ty o.dst v fun v => putK n σ o.dst v fun σ' => denOpsT P n ops ty rest σ' h' K)
      (fun σ => putK n σ o.dst undef fun σ' => denOpsT P n ops ty rest σ' h K)
theorem denOpsT_ok {P : Program} {n : Nat} {ops : Array Oper} {ty : List (Nat × Sh)} {K : Env → Heap → Prop} {a0 : Act} {w0 : World} : ∀ (rest : List Oper) (k : Nat) (σ : Env) (a : Act) (w : World),
    (∀ j, rest[j]? = ops[k + j]?) → Rel n σ a → Same w0 w → Unch (opWrites ops) a0 a → denOpsT P n ops ty rest σ w.heap K → wpOps P ops (upR n a0 w0 (opWrites ops) K) (List.range' k rest.length) a w
  | [], k, σ, a, w, _, hr, hs, hu, h => ⟨rfl, σ, hr, h, hs, hu⟩
  | o :: rest, k, σ, a, w, hj, hr, hs, hu, h => by
    have h0 : ops[k]? = some o := by have := hj 0; simpa using this.symm
    have hj' : ∀ j, rest[j]? = ops[k + 1 + j]? := fun j => by have := hj (j + 1); simpa [Nat.add_assoc, Nat.add_comm 1 j] using this
    simp only [List.length_cons, List.range'_succ, wpOps, h0]
    simp only [denOpsT] at h
    rcases gsplit_ok hr h with ⟨hw, σ', hr', h⟩ | ⟨hw, σ', hr', h⟩
    · rw [if_pos hw]
      refine .inl ((denOp_ok hr'.fits h).wp ?_)
      intro v w' hk hs'
      obtain ⟨σ1, hr1, h1⟩ := putK_ok hr' (castK_ok hk)
      exact denOpsT_ok rest (k + 1) σ1 _ w' hj' hr1 (hs.trans hs') (hu.trans (Unch.put (opWrites_mem h0))) h1
    · rw [if_neg (by rw [hw]; simp)]
      obtain ⟨σ1, hr1, h1⟩ := putK_ok hr' h
      exact denOpsT_ok rest (k + 1) σ1 _ w hj' hr1 hs (hu.trans (Unch.put (opWrites_mem h0))) h1

end Go.Den
