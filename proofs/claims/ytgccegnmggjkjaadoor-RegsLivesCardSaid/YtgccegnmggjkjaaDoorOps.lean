/-
  What is proved here: the reading of single operations ('denRead', 'denEff') is enough for the model's own run of them. No condition.
-/
import Derived.Test.YtgccegnmggjkjaaDoorDen
namespace Go.Den

/-! ### values by type -/
inductive Leaf where
  | int (k : IntKind)
  | bool
  | str
  | ptr
  | slice
  | map
  | raw

inductive Sh where
  | one (l : Leaf)
  | agg (ls : List Leaf)

def Leaf.ex : Leaf → (Value → Prop) → Prop
  | .int k, F => ∃ n : Int, F (.int k n)
  | .bool, F => ∃ b : Bool, F (.bool b)
  | .str, F => ∃ s : ByteArray, F (.string s)
  | .ptr, F => ∃ p : Option Addr, F (.pointer p)
  | .slice, F => ∃ (p : Option Addr) (l c : Nat), F (.slice p l c)
  | .map, F => ∃ m : Option Nat, F (.map m)
  | .raw, F => ∃ v : Value, F v
def exs : List Leaf → (List Value → Prop) → Prop
  | [], F => F []
  | l :: ls, F => l.ex fun v => exs ls fun vs => F (v :: vs)
def Sh.ex : Sh → (Value → Prop) → Prop
  | .one l, F => l.ex F
  | .agg ls, F => exs ls fun vs => F (.agg vs.toArray)
def exShs : List Sh → (List Value → Prop) → Prop
  | [], F => F []
  | s :: ss, F => s.ex fun v => exShs ss fun vs => F (v :: vs)

theorem Leaf.ex_some {l : Leaf} {F : Value → Prop} (h : l.ex F) : ∃ v, F v := by
  cases l <;> simp only [Leaf.ex] at h
  all_goals first
    | (obtain ⟨a, b, c, h⟩ := h; exact ⟨_, h⟩)
    | (obtain ⟨a, h⟩ := h; exact ⟨_, h⟩)
theorem exs_some : ∀ {ls : List Leaf} {F : List Value → Prop}, exs ls F → ∃ vs, vs.length = ls.length ∧ F vs
  | [], _, h => ⟨[], rfl, h⟩
  | _ :: _, _, h => by
    obtain ⟨v, h⟩ := Leaf.ex_some h
    obtain ⟨vs, hl, h⟩ := exs_some h
    exact ⟨v :: vs, by simp [hl], h⟩
theorem Sh.ex_some {s : Sh} {F : Value → Prop} (h : s.ex F) : ∃ v, F v := by
  cases s with
  | one l => exact Leaf.ex_some h
  | agg ls => obtain ⟨vs, _, h⟩ := exs_some h; exact ⟨_, h⟩
theorem exShs_some : ∀ {ls : List Sh} {F : List Value → Prop}, exShs ls F → ∃ vs, F vs
  | [], _, h => ⟨[], h⟩
  | _ :: _, _, h => by
    obtain ⟨v, h⟩ := Sh.ex_some h
    obtain ⟨vs, h⟩ := exShs_some h
    exact ⟨v :: vs, h⟩

def leafOf (P : Program) (t : TypeId) : Option Leaf :=
  match P.underlying t with
  | some .bool => some .bool
  | some (.int k) => some (.int k)
  | some .string => some .str
  | some (.pointer _) => some .ptr
  | some (.slice _) => some .slice
  | some (.map _ _) => some .map
  | some (.struct _) => none
  | some (.array _ _) => none
  | some (.tuple _) => none
  | some _ => some .raw
  | none => none
def leavesOf (P : Program) : Nat → TypeId → Option (List Leaf)
  | 0, _ => none
  | n + 1, t =>
    match P.underlying t with
    | some (.struct fs) => fs.toList.foldr (fun f acc => match leavesOf P n f.type, acc with | some a, some b => some (a ++ b) | _, _ => none) (some [])
    | some (.array m e) => (leavesOf P n e).map fun l => (List.replicate m l).flatten
    | _ => (leafOf P t).map ([·])
def isAggB (P : Program) (t : TypeId) : Bool :=
  match P.underlying t with
  | some (.struct _) => true
  | some (.array _ _) => true
  | _ => false
def shOf (P : Program) (t : TypeId) : Option Sh :=
  match isAggB P t with
  | true => (leavesOf P 20 t).map .agg
  | false => (leafOf P t).map .one
def shsOf (P : Program) : List TypeId → Option (List Sh)
  | [] => some []
  | t :: ts => match shOf P t, shsOf P ts with
    | some s, some ss => some (s :: ss)
    | _, _ => none
/-- some value of a type -/
def retEx (P : Program) (t : TypeId) (F : Value → Prop) : Prop :=
  match P.underlying t with
  | some (.tuple ts) => (match shsOf P ts.toList with | some l => exShs l fun vs => F (.tuple vs.toArray) | none => False)
  | _ => (match shOf P t with | some s => s.ex F | none => False)
theorem retEx_some {P : Program} {t : TypeId} {F : Value → Prop} (h : retEx P t F) : ∃ v, F v := by
  unfold retEx at h
  split at h
  · split at h
    · obtain ⟨_, h⟩ := exShs_some h; exact ⟨_, h⟩
    · exact h.elim
  · split at h
    · exact Sh.ex_some h
    · exact h.elim
theorem retEx_eq {P : Program} {t : TypeId} {v : Value} {K : Value → Prop} (h : retEx P t fun v' => v = v' ∧ K v') : K v := by
  obtain ⟨v', rfl, h⟩ := retEx_some h
  exact h

def onSome {α : Type} (p : Option α) (F : α → Prop) : Prop :=
  match p with
  | some a => F a
  | none => False
theorem onSome_iff {α : Type} {p : Option α} {F : α → Prop} : onSome p F ↔ ∃ a, p = some a ∧ F a := by
  cases p <;> simp [onSome]
@[simp] theorem onSome_some {α : Type} {a : α} {F : α → Prop} : onSome (some a) F ↔ F a := Iff.rfl
@[simp] theorem onSome_none {α : Type} {F : α → Prop} : onSome (none : Option α) F ↔ False := Iff.rfl

/-! ### environments -/
def Env.set (σ : Env) (d : Nat) (v : Value) : Env := fun t => bif Nat.beq t d then some v else σ t
def Env.ev (σ : Env) : Operand → Option Value
  | .tmp t => σ t
  | .const v => some v
  | .global g => some (.pointer (some ⟨g, 0, none⟩))
  | .func f => some (.func (.func f) #[] #[])
def Env.tot (σ : Env) : Operand → Value := fun x => (σ.ev x).getD undef
def defd (σ : Env) (o : Oper) : Bool := o.op.operands.toList.all fun x => (σ.ev x).isSome
/-- the frame agrees with what is known -/
def Fits (σ : Env) (ρ : Operand → Value) : Prop := ∀ x v, σ.ev x = some v → ρ x = v

/-! ### operations that touch no heap -/
def runPure (P : Program) {α : Type} : Sem α → Option α
  | .pure a => some a
  | .program k => runPure P (k P)
  | .mark _ k => runPure P k
  | _ => none
theorem runPure_den {P : Program} {α : Type} (s : Sem α) : ∀ (a : α), runPure P s = some a → ∀ (h : Heap) (K : α → Heap → Prop), K a h → denSem P s h K := by
  induction s with
  | pure b => intro a e h K hk; simp only [runPure, Option.some.injEq] at e; subst e; exact hk
  | program k ih => intro a e h K hk; exact ih P a e h K hk
  | mark m k ih => intro a e h K hk; exact ih a e h K hk
  | _ => intro a e; simp [runPure] at e
theorem runPure_rd {P : Program} {α : Type} (s : Sem α) : ∀ (a : α), runPure P s = some a → ∀ (h : Heap), rd P s h = some a := by
  induction s with
  | pure b => intro a e h; exact e
  | program k ih => intro a e h; exact ih P a e h
  | mark m k ih => intro a e h; exact ih a e h
  | _ => intro a e; simp [runPure] at e
def runNew (P : Program) {α : Type} : Sem α → Option (Obj × (Nat → Sem α))
  | .new o k => some (o, k)
  | .program k => runNew P (k P)
  | .mark _ k => runNew P k
  | _ => none
theorem runNew_den {P : Program} {α : Type} (s : Sem α) : ∀ (o : Obj) (f : Nat → Sem α), runNew P s = some (o, f) → ∀ (h : Heap) (K : α → Heap → Prop), denSem P (f h.size) (h.push o) K → denSem P s h K := by
  induction s with
  | new b k ih => intro o f e h K hk; simp only [runNew, Option.some.injEq, Prod.mk.injEq] at e; obtain ⟨rfl, rfl⟩ := e; exact hk
  | program k ih => intro o f e h K hk; exact ih P o f e h K hk
  | mark m k ih => intro o f e h K hk; exact ih o f e h K hk
  | _ => intro o f e; simp [runNew] at e

theorem exec_tot {σ : Env} {ρ : Operand → Value} (hf : Fits σ ρ) (o : Oper) (hd : defd σ o = true) (hs : ∀ cs b, o.op ≠ .select cs b) : execOp σ.tot o = execOp ρ o := by
  refine execOp_congr o hs fun x hx => ?_
  have h1 := List.all_eq_true.1 hd x (by simpa using hx)
  obtain ⟨v, hv⟩ := Option.isSome_iff_exists.1 h1
  rw [hf x v hv]
  simp [Env.tot, hv]

/-! ### heap steps with a name for what comes of them -/
def NewP (h : Heap) (o : Obj) (K : Nat → Heap → Prop) : Prop := ∀ b h', b = h.size → h' = h.push o → K b h'
def StoreP (h : Heap) (a : Addr) (v : Value) (K : Heap → Prop) : Prop :=
  (hcell h a).isSome = true ∧ hfrozen h a = false ∧ ∀ h', h' = hset h a v → K h'
def storeL (a : Addr) : List Value → Nat → Heap → (Heap → Prop) → Prop
  | [], _, h, K => K h
  | v :: vs, i, h, K => (match oneCell v with | true => StoreP h (a.add i) v fun h' => storeL a vs (i + 1) h' K | false => False)
def loadL (h : Heap) (a : Addr) : List Leaf → Nat → (List Value → Prop) → Prop
  | [], _, F => F []
  | l :: ls, i, F => l.ex fun v => hcell h (a.add i) = some v ∧ loadL h a ls (i + 1) fun vs => F (v :: vs)
def heldL (a : Addr) : List Value → Nat → Heap → Prop
  | [], _, _ => True
  | v :: vs, i, h => hcell h (a.add i) = some v ∧ heldL a vs (i + 1) h

def denLoad (P : Program) (t : TypeId) (h : Heap) (a : Addr) (K : Value → Option (Heap → Prop) → Prop) : Prop :=
  match isAggB P t with
  | true => (match leavesOf P 20 t, P.info? t with
    | some ls, some i => (match Nat.beq i.size ls.length with
      | true => loadL h a ls 0 fun vs => K (.agg vs.toArray) (some (heldL a vs 0))
      | false => False)
    | _, _ => False)
  | false => (match leafOf P t with
    | some l => l.ex fun v => hcell h a = some v ∧ K v (some fun h' => hcell h' a = some v)
    | none => False)

/-- v against nil -/
def nilCmp (P : Program) (t : TypeId) (u v : Value) : Option Bool :=
  match v with
  | .pointer none => (match u, P.underlying t with | .pointer p, some (.pointer _) => some p.isNone | _, _ => none)
  | .map none => (match u, P.underlying t with | .map m, some (.map _ _) => some m.isNone | _, _ => none)
  | .slice none _ _ => (match u, P.underlying t with | .slice p _ _, some (.slice _) => some p.isNone | _, _ => none)
  | _ => none

def pureK (P : Program) (o : Oper) (σ : Env) (K : Value → Option (Heap → Prop) → Prop) : Prop :=
  match defd σ o with
  | true => (match runPure P (execOp σ.tot o) with | some (.value v) => K v none | _ => False)
  | false => False

/-- two values are (not) equal, wherever -/
def EqV (P : Program) (t : TypeId) (u v : Value) (b : Bool) : Prop := ∀ h, rd P (Op.equal t u v) h = some b
def constY (o : Oper) : Bool :=
  match o.op with
  | .binOp _ _ _ (.const _) _ => true
  | _ => false
/-- pointers (neither of them a constant), structs and arrays, and what is held against the literal nil of an interface: compared by 'EqV' -/
def eqForm (P : Program) (o : Oper) (t : TypeId) (u v : Value) : Bool :=
  match v with
  | .nilIface => constY o
  | .agg _ => (match u with | .agg _ => !P.eqGuardType P.depth t | _ => false)
  | .pointer _ => (match u with | .pointer _ => !constY o | _ => false)
  | _ => false
def denBin (P : Program) (o : Oper) (op : BinOp) (t : TypeId) (u v : Value) (σ : Env) (K : Value → Option (Heap → Prop) → Prop) : Prop :=
  match op with
  | .eql => (match eqForm P o t u v with
    | true => ∃ b : Bool, EqV P t u v b ∧ K (.bool b) none
    | false => (match nilCmp P t u v with | some b => K (.bool b) none | none => pureK P o σ K))
  | .neq => (match eqForm P o t u v with
    | true => ∃ b : Bool, EqV P t u v b ∧ K (.bool (!b)) none
    | false => (match nilCmp P t u v with | some b => K (.bool (!b)) none | none => pureK P o σ K))
  | .quo => (match u, v with
    | .int k a, .int k' b => (match decide (k = k') with | true => if b = 0 then False else K (.int k (k.wrap (a.tdiv b))) none | false => False)
    | _, _ => False)
  | .rem => (match u, v with
    | .int k a, .int k' b => (match decide (k = k') with | true => if b = 0 then False else K (.int k (a.tmod b)) none | false => False)
    | _, _ => False)
  | .shl => (match u, v with
    | .int k a, .int _ b => if b < 0 then False else K (.int k (k.wrap (a * 2 ^ min b.toNat k.bits))) none
    | _, _ => False)
  | .shr => (match u, v with
    | .int k a, .int _ b => if b < 0 then False else K (.int k (a.fdiv (2 ^ min b.toNat k.bits))) none
    | _, _ => False)
  | .add => (match u, v with
    | .string a, .string b => ((a.size + b.size : Nat) : Int) ≤ IntKind.i64.max ∧ K (.string (a ++ b)) none
    | _, _ => pureK P o σ K)
  | _ => pureK P o σ K

def fieldOff (P : Program) (s : TypeId) (f : Nat) : Option Nat :=
  match P.underlying s with
  | some (.struct fs) => (match fs[f]? with
    | some fl => (match P.info? fl.type with | some i => (match Nat.beq i.size 0 with | true => none | false => some fl.offset) | none => none)
    | none => none)
  | _ => none

def idxAll (n : Int) : List Value → Nat → (Value → Prop) → Prop
  | [], _, _ => True
  | v :: vs, i, F => (n = (i : Int) → F v) ∧ idxAll n vs (i + 1) F

def optInt (σ : Env) : Option Operand → Option (Option Int)
  | none => some none
  | some x => match σ.ev x with
    | some (.int _ n) => some (some n)
    | _ => none
def sliceK (len cap : Nat) : Option Int → Option Int → (Nat → Nat → Prop) → Prop
  | none, none, F => F 0 len
  | none, some b, F => (0 ≤ b ∧ b ≤ (cap : Int)) ∧ F 0 b.toNat
  | some a, none, F => (0 ≤ a ∧ a ≤ (len : Int)) ∧ F a.toNat len
  | some a, some b, F => (0 ≤ b ∧ b ≤ (cap : Int)) ∧ (0 ≤ a ∧ a ≤ b) ∧ F a.toNat b.toNat
def slBase (p : Option Addr) (m l size : Nat) : Option Addr := if m = l then p else p.map (·.add (l * size))

def mapSame (m : Value) (h h' : Heap) : Prop :=
  match m with
  | .map (some r) => h'[r]? = h[r]?
  | _ => True
/-- a look-up in a map yields v, and so wherever the map is as it is here -/
def LookV (P : Program) (t : TypeId) (m k : Value) (ok : Bool) (h : Heap) (v : Value) : Prop :=
  ∀ h', mapSame m h h' → rd P (Instr.lookup t m k ok) h' = some v
def LenV (P : Program) (tys : Array TypeId) (ty : TypeId) (m : Value) (h : Heap) (v : Value) : Prop :=
  ∀ h', mapSame m h h' → rd P (Builtin.len_ tys ty #[m]) h' = some v

/-- what becomes a string -/
def ConvV (P : Program) (s d : TypeId) (v : Value) (h : Heap) (b : ByteArray) : Prop := rd P (convert s d v) h = some (.string b)

def isMapV : Value → Bool
  | .map _ => true
  | _ => false

/-- an operation that leaves the heap alone: its value, and on what of the heap it hangs -/
def denRead (P : Program) (o : Oper) (σ : Env) (h : Heap) (K : Value → Option (Heap → Prop) → Prop) : Prop :=
  match o.op with
  | .pick c a b => (match σ.ev c, σ.ev a, σ.ev b with
    | some (.bool q), some va, some vb => if q = true then K va none else K vb none
    | _, _, _ => False)
  | .load t x => (match σ.ev x with
    | some (.pointer p) => onSome p fun a => denLoad P t h a K
    | _ => False)
  | .nilCheck x => (match σ.ev x with
    | some (.pointer p) => onSome p fun a => K (.pointer (some a)) none
    | _ => pureK P o σ K)
  | .binOp op t x y _ => (match σ.ev x, σ.ev y with
    | some u, some v => denBin P o op t u v σ K
    | _, _ => False)
  | .fieldAddr s x f => (match σ.ev x, fieldOff P s f with
    | some (.pointer p), some off => onSome p fun a => K (.pointer (some (a.add off))) none
    | _, _ => False)
  | .indexAddr t x i => (match P.underlying t, σ.ev x, σ.ev i with
    | some (.slice e), some (.slice base len _), some (.int _ n) => (match P.info? e with
      | some i => (0 ≤ n ∧ n < (len : Int)) ∧ onSome base fun a => K (.pointer (some (a.add (n.toNat * i.size)))) none
      | none => False)
    | some (.array len e), some (.pointer base), some (.int _ n) => (match P.info? e with
      | some i => (0 ≤ n ∧ n < (len : Int)) ∧ onSome base fun a => K (.pointer (some (a.add (n.toNat * i.size)))) none
      | none => False)
    | _, _, _ => False)
  | .index t x i => (match P.underlying t, σ.ev x, σ.ev i with
    | some .string, some (.string s), some (.int _ n) => (0 ≤ n ∧ n < (s.size : Int)) ∧ K (.int .u8 (s.data.toList.getD n.toNat 0).toNat) none
    | some (.array len e), some (.agg cs), some (.int _ n) => (match leafOf P e, P.info? e, Nat.beq len cs.toList.length with
      | some _, some i, true => (match Nat.beq i.size 1 with
        | true => (0 ≤ n ∧ n < (len : Int)) ∧ idxAll n cs.toList 0 fun v => K v none
        | false => False)
      | _, _, _ => False)
    | _, _, _ => False)
  | .slice t x lo hi mx => (match mx, P.underlying t, σ.ev x, optInt σ lo, optInt σ hi with
    | none, some (.slice e), some (.slice p len cap), some l, some hh => (match P.info? e with
      | some i => sliceK len cap l hh fun a b => K (.slice (slBase p cap a i.size) (b - a) (cap - a)) none
      | none => False)
    | none, some .string, some (.string s), some l, some hh => sliceK s.size s.size l hh fun a b => K (.string (s.extract a b)) none
    | none, some (.array n e), some (.pointer p), some l, some hh => (match P.info? e with
      | some i => onSome p fun ad => sliceK n n l hh fun a b => K (.slice (slBase (some ad) n a i.size) (b - a) (n - a)) none
      | none => False)
    | _, _, _, _, _ => False)
  | .lookup t x i ok => (match σ.ev x, σ.ev i with
    | some m, some k => retEx P o.type fun v => LookV P t m k ok h v ∧ K v (some (mapSame m h))
    | _, _ => False)
  | .call { callee := .builtin .len, args := args, argTypes := tys } => (match args.toList with
    | [x] => (match σ.ev x with
      | some m => (match isMapV m with
        | true => ∃ n : Int, LenV P tys o.type m h (.int .i64 n) ∧ K (.int .i64 n) (some (mapSame m h))
        | false => pureK P o σ K)
      | none => False)
    | _ => False)
  | .convert s d x => (match P.underlying d with
    | some .string => (match σ.ev x with
      | some v => ∃ b : ByteArray, ConvV P s d v h b ∧ K (.string b) (some fun h' => ConvV P s d v h' b)
      | none => False)
    | _ => pureK P o σ K)
  | .select _ _ => False
  | _ => pureK P o σ K

def isRead (P : Program) (o : Oper) : Bool :=
  match o.op with
  | .move _ | .assign _ | .pick .. | .load .. | .nilCheck _ | .binOp .. | .unOp .. | .makeInterface .. | .makeFunc .. | .slice .. | .fieldAddr .. | .field .. | .indexAddr .. | .index .. | .lookup .. | .extract .. | .build .. => true
  | .convert _ d _ => (match P.underlying d with | some (.int _) => true | some .string => true | _ => false)
  | .call { callee := .builtin b, .. } => (match b with | .len | .cap | .min | .max => true | _ => false)
  | _ => false

def hasBody (P : Program) (g : FuncId) : Bool :=
  match P.funcs[g]? with
  | some fn => fn.body.isSome && !(fn.name == "runtime.NumGoroutine")
  | none => false
def evs (σ : Env) : List Operand → Option (List Value)
  | [] => some []
  | x :: xs => match σ.ev x, evs σ xs with
    | some v, some vs => some (v :: vs)
    | _, _ => none
def builtinSem (b : Builtin) (tys : Array TypeId) (ty : TypeId) (vs : Array Value) : Option (Sem Value) :=
  match b with
  | .append => some (Builtin.append_ tys ty vs)
  | .copy => some (Builtin.copy_ tys ty vs)
  | .delete => some (Builtin.delete_ tys ty vs)
  | .clear => some (Builtin.clear_ tys ty vs)
  | _ => none

def newK (P : Program) (o : Oper) (σ : Env) (h : Heap) (K : Value → Heap → Prop) : Prop :=
  match defd σ o with
  | true => (match runNew P (execOp σ.tot o) with
    | some (ob, k) => NewP h ob fun b h' => (match runPure P (k b) with | some (.value v) => K v h' | _ => False)
    | none => False)
  | false => False

def denEff (P : Program) (o : Oper) (σ : Env) (h : Heap) (K : Value → Heap → Prop) : Prop :=
  match o.op with
  | .alloc _ => newK P o σ h K
  | .box _ _ => newK P o σ h K
  | .buildSlice _ _ _ => newK P o σ h K
  | .makeMap _ _ => newK P o σ h K
  | .store t x y => (match σ.ev x, σ.ev y with
    | some (.pointer p), some v => onSome p fun a => (match P.info? t with
      | some i => (match Nat.beq i.size v.cells.toList.length with | true => storeL a v.cells.toList 0 h (K undef) | false => False)
      | none => False)
    | _, _ => False)
  | .mapUpdate t m k x => (match σ.ev m, σ.ev k, σ.ev x with
    | some m, some k, some x => denSem P (Instr.mapUpdate t m k x) h fun _ h' => K undef h'
    | _, _, _ => False)
  | .insert t m k x => (match σ.ev m, σ.ev k, σ.ev x with
    | some m, some k, some x => denSem P (Instr.mapUpdate t m k x) h fun _ h' => K undef h'
    | _, _, _ => False)
  | .makeSlice t l c => (match σ.ev l, σ.ev c with
    | some l, some c => denSem P (Instr.makeSlice t l c) h fun v h' => retEx P o.type fun v' => v = v' ∧ K v' h'
    | _, _ => False)
  | .convert s d x => (match σ.ev x with
    | some x => denSem P (convert s d x) h fun v h' => retEx P o.type fun v' => v = v' ∧ K v' h'
    | none => False)
  | .call { callee := .builtin b, args := args, argTypes := tys } => (match evs σ args.toList with
    | some vs => (match builtinSem b tys o.type vs.toArray with
      | some s => denSem P s h fun v h' => retEx P o.type fun v' => v = v' ∧ K v' h'
      | none => False)
    | none => False)
  | .call { callee := .value f, args := args, argTypes := _ } => (match σ.ev f, evs σ args.toList with
    | some (.func (.func g) first captured), some vs => (match hasBody P g with
      | true => CallsH P g (first.toList ++ vs ++ captured.toList).toArray h fun v h' => retEx P o.type fun v' => v = v' ∧ K v' h'
      | false => False)
    | _, _ => False)
  | .range t x => (match σ.ev x with
    | some x => denSem P (Instr.range t x) h fun v h' => ∃ r : Nat, v = .pointer (some ⟨r, 0, none⟩) ∧ K (.pointer (some ⟨r, 0, none⟩)) h'
    | none => False)
  | .next it b => (match σ.ev it with
    | some it => denSem P (Instr.next it b o.type) h fun v h' => (v = .tuple #[.bool false] ∧ K (.tuple #[.bool false]) h') ∨ ∃ k x : Value, v = .tuple #[.bool true, k, x] ∧ K (.tuple #[.bool true, k, x]) h'
    | none => False)
  | .entry it => (match σ.ev it with
    | some it => denSem P (Instr.entry it) h fun v h' => ∃ k x : Value, v = .tuple #[k, x] ∧ K (.tuple #[k, x]) h'
    | none => False)
  | _ => False

end Go.Den
