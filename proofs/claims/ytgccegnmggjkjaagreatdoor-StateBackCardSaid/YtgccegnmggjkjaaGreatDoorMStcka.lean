/-
  What is proved here: parts of the proof, one behind the other (texts of this work, merged by a program; what the theorem does not use is left out). No condition.
-/
import Derived.OrdersHeld
import Derived.Scope
import Derived.KernelRfl
import Derived.Test.YtgccegnmggjkjaaGreatDoorProg
import Derived.IntWalk
import Derived.ProofKit
import Derived.ChangeOld
import Derived.Below
import Derived.Carry
import Derived.OpenShut
namespace Go.Den
abbrev Heap:=Array Obj
abbrev Env:=Nat→Option Value
def hcell (h:Heap) (a:Addr):Option Value:=
 match h[a.block]? with
 |some (.cells c _ _)=>if a.spot.isSome then none else c[a.off]?
 |_=>none
def hshape (h:Heap) (r:Nat):Option (TypeId×Nat):=
 match h[r]? with
 |some (.cells c elem _)=>some (elem,c.size)
 |_=>none
def hfrozen (h:Heap) (a:Addr):Bool:=
 match h[a.block]? with
 |some (.cells _ _ (lo,hi))=>lo≤a.off && a.off<hi
 |_=>false
def hfreeze (h:Heap) (a:Addr) (n:Nat):Heap:=
 if n=0 then h else
 h.modify a.block fun
   | .cells c elem (lo,hi)=> .cells c elem (if lo==hi then(a.off,a.off+n) else(min lo a.off,max hi (a.off+n)))
   |o=>o
def hset (h:Heap) (a:Addr) (v:Value):Heap:=
 h.modify a.block fun
   | .cells c elem frozen=> .cells (if a.spot.isSome then c else c.setIfInBounds a.off v) elem frozen
   |o=>o
theorem cell_eq (w:World) (a:Addr):w.cell? a=hcell w.heap a:=rfl
theorem shape_eq (w:World) (r:Nat):w.shape? r=hshape w.heap r:=rfl
theorem frozen_eq (w:World) (a:Addr):w.frozen? a=hfrozen w.heap a:=rfl
theorem set_eq (w:World) (a:Addr) (v:Value):(w.setCell a v).heap=hset w.heap a v:=rfl
theorem freeze_eq (w:World) (a:Addr) (n:Nat):(w.freeze a n).heap=hfreeze w.heap a n:=by
 unfold World.freeze hfreeze;split<;>rfl
def Same (w w':World):Prop:=w'.os=w.os∧w'.output=w.output∧w'.tape=w.tape
theorem Same.refl (w:World):Same w w:=⟨rfl,rfl,rfl⟩
theorem Same.trans {a b c:World} (h:Same a b) (h':Same b c):Same a c:=⟨h'.1.trans h.1,h'.2.1.trans h.2.1,h'.2.2.trans h.2.2⟩
def oneCell:Value→Bool
 | .agg _| .tuple _=>false
 |_=>true
def denSem (P:Program) {α:Type} :Sem α→Heap→(α→Heap→Prop)→Prop
 | .pure a,h,K=>K a h
 | .load _ a k,h,K=> ∃v,hcell h a=some v∧denSem P (k v) h K
 | .store _ a v k,h,K=>oneCell v=true∧(hcell h a).isSome=true∧hfrozen h a=false∧denSem P k (hset h a v) K
 | .new o k,h,K=>denSem P (k h.size) (h.push o) K
 | .shape r k,h,K=>denSem P (k (hshape h r)) h K
 | .freeze a n k,h,K=>denSem P k (hfreeze h a n) K
 | .frozen a k,h,K=>denSem P (k (hfrozen h a)) h K
 | .getObj r k,h,K=> ∃o,h[r]? =some o∧(∀c e f,o≠ .cells c e f)∧denSem P (k o) h K
 | .setObj r o k,h,K=>(∃o',h[r]? =some o'∧(∀c e f,o'≠ .cells c e f))∧denSem P k (h.setIfInBounds r o) K
 | .choose q k,h,K=>if q.forced=true then denSem P (k 0) h K else∀t,denSem P (k (q.cut t)) h K
 | .sys _ _,_,_=>False
 | .program k,h,K=>denSem P (k P) h K
 | .mark _ k,h,K=>denSem P k h K
 | .halt _,_,_=>False
theorem denSem_mono {P:Program} {α:Type} (s:Sem α): ∀(h:Heap) {K K':α→Heap→Prop},(∀a h,K a h→K' a h)→denSem P s h K→denSem P s h K':=by
 induction s with
 |pure a=>intro h K K' hk hh;exact hk _ _ hh
 |load m a k ih=>intro h K K' hk hh;obtain⟨v,h1,h2⟩:=hh;exact⟨v,h1,ih v h hk h2⟩
 |store m a v k ih=>intro h K K' hk hh;obtain⟨h1,h2,h3,h4⟩:=hh;exact⟨h1,h2,h3,ih _ hk h4⟩
 |new o k ih=>intro h K K' hk hh;exact ih _ _ hk hh
 |shape r k ih=>intro h K K' hk hh;exact ih _ _ hk hh
 |freeze a n k ih=>intro h K K' hk hh;exact ih _ hk hh
 |frozen a k ih=>intro h K K' hk hh;exact ih _ _ hk hh
 |getObj r k ih=>intro h K K' hk hh;obtain⟨o,h1,h2,h3⟩:=hh;exact⟨o,h1,h2,ih _ _ hk h3⟩
 |setObj r o k ih=>intro h K K' hk hh;exact⟨hh.1,ih _ hk hh.2⟩
 |choose q k ih=>
  intro h K K' hk hh
  unfold denSem at hh⊢
  split
  ·rename_i hq;rw[if_pos hq] at hh;exact ih _ _ hk hh
  ·rename_i hq;rw[if_neg hq] at hh;exact fun t=>ih _ _ hk (hh t)
 |sys c k ih=>intro h K K' hk hh;exact hh
 |program k ih=>intro h K K' hk hh;exact ih _ _ hk hh
 |mark m k ih=>intro h K K' hk hh;exact ih _ hk hh
 |halt x=>intro h K K' hk hh;exact hh
theorem denSem_bind {P:Program} {α β:Type} (s:Sem α) (f:α→Sem β): ∀(h:Heap) (K:β→Heap→Prop),denSem P (s.bind f) h K↔denSem P s h (fun a h'=>denSem P (f a) h' K):=by
 induction s with
 |pure a=>intro h K;exact Iff.rfl
 |load m a k ih=>intro h K;simp only[Sem.bind,denSem,ih]
 |store m a v k ih=>intro h K;simp only[Sem.bind,denSem,ih]
 |new o k ih=>intro h K;simp only[Sem.bind,denSem,ih]
 |shape r k ih=>intro h K;simp only[Sem.bind,denSem,ih]
 |freeze a n k ih=>intro h K;simp only[Sem.bind,denSem,ih]
 |frozen a k ih=>intro h K;simp only[Sem.bind,denSem,ih]
 |getObj r k ih=>intro h K;simp only[Sem.bind,denSem,ih]
 |setObj r o k ih=>intro h K;simp only[Sem.bind,denSem,ih]
 |choose q k ih=>intro h K;simp only[Sem.bind,denSem,ih]
 |sys c k ih=>intro h K;simp only[Sem.bind,denSem]
 |program k ih=>intro h K;simp only[Sem.bind,denSem,ih]
 |mark m k ih=>intro h K;simp only[Sem.bind,denSem,ih]
 |halt x=>intro h K;simp only[Sem.bind,denSem]
theorem denSem_sound {P:Program} {α:Type} (s:Sem α): ∀(h:Heap) (K:α→Heap→Prop),denSem P s h K→
  ∀w:World,w.heap=h→ ∃a w',s.run P w= .ok a w'∧K a w'.heap∧Same w w':=by
 induction s with
 |pure a=>intro h K hh w hw;subst hw;exact⟨a,w,rfl,hh,Same.refl w⟩
 |load m a k ih=>
  intro h K hh w hw;subst hw
  obtain⟨v,h1,h2⟩:=hh
  obtain⟨x,w',r1,r2⟩:=ih v _ _ h2 w rfl
  exact⟨x,w',by simp[Sem.run,cell_eq,h1,r1],r2⟩
 |store m a v k ih=>
  intro h K hh w hw;subst hw
  obtain⟨h1,h2,h3,h4⟩:=hh
  obtain⟨u,hu⟩:=Option.isSome_iff_exists.1 h2
  obtain⟨x,w',r1,r2,r3⟩:=ih _ _ h4 (w.setCell a v) (set_eq w a v)
  refine⟨x,w', ?_,r2,r3⟩
  rw[←cell_eq] at hu
  rw[←frozen_eq] at h3
  cases v<;>simp[oneCell] at h1<;>simp[Sem.run,hu,h3,r1]
 |new o k ih=>
  intro h K hh w hw;subst hw
  obtain⟨x,w',r1,r2,r3⟩:=ih _ _ _ hh { w with heap:=w.heap.push o } rfl
  exact⟨x,w',r1,r2,r3⟩
 |shape r k ih=>
  intro h K hh w hw;subst hw
  obtain⟨x,w',r1,r2⟩:=ih _ _ _ hh w rfl
  exact⟨x,w',by rw[←shape_eq] at r1;simp[Sem.run,r1],r2⟩
 |freeze a n k ih=>
  intro h K hh w hw;subst hw
  obtain⟨x,w',r1,r2,r3⟩:=ih _ _ hh (w.freeze a n) (freeze_eq w a n)
  refine⟨x,w',by simp[Sem.run,r1],r2, ?_⟩
  refine Same.trans ?_ r3
  unfold World.freeze;split<;>exact⟨rfl,rfl,rfl⟩
 |frozen a k ih=>
  intro h K hh w hw;subst hw
  obtain⟨x,w',r1,r2⟩:=ih _ _ _ hh w rfl
  exact⟨x,w',by rw[←frozen_eq] at r1;simp[Sem.run,r1],r2⟩
 |getObj r k ih=>
  intro h K hh w hw;subst hw
  obtain⟨o,h1,h2,h3⟩:=hh
  obtain⟨x,w',r1,r2⟩:=ih _ _ _ h3 w rfl
  refine⟨x,w', ?_,r2⟩
  cases o<;>first|exact absurd rfl (h2 _ _ _)|simp[Sem.run,h1,r1]
 |setObj r o k ih=>
  intro h K hh w hw;subst hw
  obtain⟨⟨o',h1,h2⟩,h3⟩:=hh
  obtain⟨x,w',r1,r2,r3⟩:=ih _ _ h3 { w with heap:=w.heap.setIfInBounds r o } rfl
  refine⟨x,w', ?_,r2,r3⟩
  cases o'<;>first|exact absurd rfl (h2 _ _ _)|simp[Sem.run,h1,r1]
 |choose q k ih=>
  intro h K hh w hw;subst hw
  unfold denSem at hh
  split at hh
  ·rename_i hq
   obtain⟨x,w',r1,r2⟩:=ih _ _ _ hh w rfl
   exact⟨x,w',by simp[Sem.run,hq,r1],r2⟩
  ·rename_i hq
   obtain⟨x,w',r1,r2,r3⟩:=ih _ _ _ (hh (w.tape w.drawn q)) { w with drawn:=w.drawn+1 } rfl
   exact⟨x,w',by simp only[Sem.run,if_neg hq];exact r1,r2,r3⟩
 |sys c k ih=>intro h K hh;exact hh.elim
 |program k ih=>
  intro h K hh w hw;subst hw
  obtain⟨x,w',r1,r2⟩:=ih _ _ _ hh w rfl
  exact⟨x,w',by simp[Sem.run,r1],r2⟩
 |mark m k ih=>
  intro h K hh w hw;subst hw
  obtain⟨x,w',r1,r2⟩:=ih _ _ hh w rfl
  exact⟨x,w',by simp[Sem.run,r1],r2⟩
 |halt x=>intro h K hh;exact hh.elim
def rd (P:Program) {α:Type} :Sem α→Heap→Option α
 | .pure a,_=>some a
 | .load _ a k,h=>(match hcell h a with|some v=>rd P (k v) h|none=>none)
 | .shape r k,h=>rd P (k (hshape h r)) h
 | .frozen a k,h=>rd P (k (hfrozen h a)) h
 | .getObj r k,h=>(match h[r]? with|some (.cells _ _ _)=>none|some o=>rd P (k o) h|none=>none)
 | .program k,h=>rd P (k P) h
 | .mark _ k,h=>rd P k h
 |_,_=>none
theorem rd_den {P:Program} {α:Type} (s:Sem α): ∀(h:Heap) (a:α),rd P s h=some a→ ∀K:α→Heap→Prop,K a h→denSem P s h K:=by
 induction s with
 |pure b=>intro h a e K hk;simp only[rd,Option.some.injEq] at e;subst e;exact hk
 |load m b k ih=>
  intro h a e K hk
  simp only[rd] at e
  split at e
  ·rename_i v hv;exact⟨v,hv,ih v h a e K hk⟩
  ·cases e
 |shape r k ih=>intro h a e K hk;exact ih _ h a e K hk
 |frozen b k ih=>intro h a e K hk;exact ih _ h a e K hk
 |getObj r k ih=>
  intro h a e K hk
  simp only[rd] at e
  split at e
  ·cases e
  ·rename_i o hne ho
   exact⟨o,ho,fun c e f hc=>hne c e f (hc▸rfl),ih _ h a e K hk⟩
  ·cases e
 |program k ih=>intro h a e K hk;exact ih _ h a e K hk
 |mark m k ih=>intro h a e K hk;exact ih h a e K hk
 |_=>intro h a e;simp[rd] at e
theorem rd_run {P:Program} {α:Type} (s:Sem α): ∀(w:World) (a:α),rd P s w.heap=some a→s.run P w= .ok a w:=by
 induction s with
 |pure b=>intro w a e;simp only[rd,Option.some.injEq] at e;subst e;rfl
 |load m b k ih=>
  intro w a e
  simp only[rd] at e
  split at e
  ·rename_i v hv;rw[←cell_eq] at hv;simp only[Sem.run,hv];exact ih v w a e
  ·cases e
 |shape r k ih=>intro w a e;exact ih _ w a e
 |frozen b k ih=>intro w a e;exact ih _ w a e
 |getObj r k ih=>
  intro w a e
  simp only[rd] at e
  split at e
  ·cases e
  ·rename_i o hne ho
   cases o<;>first|exact absurd rfl (hne _ _ _)|(simp only[Sem.run,ho];exact ih _ w a e)
  ·cases e
 |program k ih=>intro w a e;exact ih _ w a e
 |mark m k ih=>intro w a e;exact ih w a e
 |_=>intro w a e;simp[rd] at e
theorem rd_bind {P:Program} {α β:Type} (s:Sem α) (f:α→Sem β): ∀(h:Heap) (a:α),rd P s h=some a→rd P (s>>=f) h=rd P (f a) h:=by
 show∀(h:Heap) (a:α),rd P s h=some a→rd P (s.bind f) h=rd P (f a) h
 induction s with
 |pure b=>intro h a e;simp only[rd,Option.some.injEq] at e;subst e;rfl
 |load m b k ih=>
  intro h a e
  simp only[rd] at e
  split at e
  ·rename_i v hv;simp only[Sem.bind,rd,hv];exact ih v h a e
  ·cases e
 |shape r k ih=>intro h a e;exact ih _ h a e
 |frozen b k ih=>intro h a e;exact ih _ h a e
 |getObj r k ih=>
  intro h a e
  simp only[rd] at e
  split at e
  ·cases e
  ·rename_i o hne ho
   cases o<;>first|exact absurd rfl (hne _ _ _)|(simp only[Sem.bind,rd,ho];exact ih _ h a e)
  ·cases e
 |program k ih=>intro h a e;exact ih _ h a e
 |mark m k ih=>intro h a e;exact ih h a e
 |_=>intro h a e;simp[rd] at e
def CallsH (P:Program) (f:FuncId) (args:Array Value) (h:Heap) (R:Value→Heap→Prop):Prop:=
 ∀w:World,w.heap=h→Calls P f args w (fun e w'=> ∃v,e= .returned v∧R v w'.heap∧Same w w')
theorem CallsH.mono {P:Program} {f:FuncId} {args:Array Value} {h:Heap} {R R':Value→Heap→Prop} (hh:CallsH P f args h R) (hr: ∀v h',R v h'→R' v h'):CallsH P f args h R':=
 fun w hw=>(hh w hw).mono fun _ _ ⟨v,he,hR,hs⟩=>⟨v,he,hr _ _ hR,hs⟩
def nextK (P:Program) (K:Value→Heap→Prop):Next→Heap→Prop
 | .value v,h=>K v h
 | .skip,h=>K undef h
 | .enter f args,h=>CallsH P f args h K
 |_,_=>False
def OpWp (P:Program) (o:Oper) (ρ:Operand→Value) (h:Heap) (K:Value→Heap→Prop):Prop:=
 denSem P (execOp ρ o) h (nextK P K)
theorem OpWp.wp {P:Program} {o:Oper} {a:Act} {w:World} {K:Value→Heap→Prop} {next:Act→World→Prop} {Q:Exit→Act→World→Prop}
  (hh:OpWp P o a.eval w.heap K) (hn: ∀v w',K v w'.heap→Same w w'→next (a.put o.dst v) w'):o.wp P a w next Q:=by
 obtain⟨x,w',r1,r2,r3⟩:=denSem_sound _ _ _ hh w rfl
 unfold Oper.wp
 rw[r1]
 cases x with
 |value v=>exact hn _ _ r2 r3
 |skip=>exact hn _ _ r2 r3
 |enter f args=>
  refine(r2 w' rfl).mono ?_
  rintro e w'' ⟨v,rfl,hR,hs⟩
  exact hn _ _ hR (r3.trans hs)
 |_=>exact r2.elim
end Go.Den
namespace Go.Den
inductive Leaf where
 |int (k:IntKind)
 |bool
 |str
 |ptr
 |slice
 |map
 |raw
inductive Sh where
 |one (l:Leaf)
 |agg (ls:List Leaf)
def Leaf.ex:Leaf→(Value→Prop)→Prop
 | .int k,F=> ∃n:Int,F (.int k n)
 | .bool,F=> ∃b:Bool,F (.bool b)
 | .str,F=> ∃s:ByteArray,F (.string s)
 | .ptr,F=> ∃p:Option Addr,F (.pointer p)
 | .slice,F=> ∃(p:Option Addr) (l c:Nat),F (.slice p l c)
 | .map,F=> ∃m:Option Nat,F (.map m)
 | .raw,F=> ∃v:Value,F v
def exs:List Leaf→(List Value→Prop)→Prop
 | [],F=>F []
 |l::ls,F=>l.ex fun v=>exs ls fun vs=>F (v::vs)
def Sh.ex:Sh→(Value→Prop)→Prop
 | .one l,F=>l.ex F
 | .agg ls,F=>exs ls fun vs=>F (.agg vs.toArray)
def exShs:List Sh→(List Value→Prop)→Prop
 | [],F=>F []
 |s::ss,F=>s.ex fun v=>exShs ss fun vs=>F (v::vs)
theorem Leaf.ex_some {l:Leaf} {F:Value→Prop} (h:l.ex F): ∃v,F v:=by
 cases l<;>simp only[Leaf.ex] at h
 all_goals first
  |(obtain⟨a,b,c,h⟩:=h;exact⟨_,h⟩)
  |(obtain⟨a,h⟩:=h;exact⟨_,h⟩)
theorem exs_some: ∀ {ls:List Leaf} {F:List Value→Prop},exs ls F→ ∃vs,vs.length=ls.length∧F vs
 | [],_,h=>⟨[],rfl,h⟩
 |_::_,_,h=>by
  obtain⟨v,h⟩:=Leaf.ex_some h
  obtain⟨vs,hl,h⟩:=exs_some h
  exact⟨v::vs,by simp[hl],h⟩
theorem Sh.ex_some {s:Sh} {F:Value→Prop} (h:s.ex F): ∃v,F v:=by
 cases s with
 |one l=>exact Leaf.ex_some h
 |agg ls=>obtain⟨vs,_,h⟩:=exs_some h;exact⟨_,h⟩
theorem exShs_some: ∀ {ls:List Sh} {F:List Value→Prop},exShs ls F→ ∃vs,F vs
 | [],_,h=>⟨[],h⟩
 |_::_,_,h=>by
  obtain⟨v,h⟩:=Sh.ex_some h
  obtain⟨vs,h⟩:=exShs_some h
  exact⟨v::vs,h⟩
def leafOf (P:Program) (t:TypeId):Option Leaf:=
 match P.underlying t with
 |some .bool=>some .bool
 |some (.int k)=>some (.int k)
 |some .string=>some .str
 |some (.pointer _)=>some .ptr
 |some (.slice _)=>some .slice
 |some (.map _ _)=>some .map
 |some (.struct _)=>none
 |some (.array _ _)=>none
 |some (.tuple _)=>none
 |some _=>some .raw
 |none=>none
def leavesOf (P:Program):Nat→TypeId→Option (List Leaf)
 |0,_=>none
 |n+1,t=>
  match P.underlying t with
  |some (.struct fs)=>fs.toList.foldr (fun f acc=>match leavesOf P n f.type,acc with|some a,some b=>some (a++b)|_,_=>none) (some [])
  |some (.array m e)=>(leavesOf P n e).map fun l=>(List.replicate m l).flatten
  |_=>(leafOf P t).map ([·])
def isAggB (P:Program) (t:TypeId):Bool:=
 match P.underlying t with
 |some (.struct _)=>true
 |some (.array _ _)=>true
 |_=>false
def shOf (P:Program) (t:TypeId):Option Sh:=
 match isAggB P t with
 |true=>(leavesOf P 20 t).map .agg
 |false=>(leafOf P t).map .one
def shsOf (P:Program):List TypeId→Option (List Sh)
 | []=>some []
 |t::ts=>match shOf P t,shsOf P ts with
  |some s,some ss=>some (s::ss)
  |_,_=>none
def retEx (P:Program) (t:TypeId) (F:Value→Prop):Prop:=
 match P.underlying t with
 |some (.tuple ts)=>(match shsOf P ts.toList with|some l=>exShs l fun vs=>F (.tuple vs.toArray)|none=>False)
 |_=>(match shOf P t with|some s=>s.ex F|none=>False)
theorem retEx_some {P:Program} {t:TypeId} {F:Value→Prop} (h:retEx P t F): ∃v,F v:=by
 unfold retEx at h
 split at h
 ·split at h
  ·obtain⟨_,h⟩:=exShs_some h;exact⟨_,h⟩
  ·exact h.elim
 ·split at h
  ·exact Sh.ex_some h
  ·exact h.elim
theorem retEx_eq {P:Program} {t:TypeId} {v:Value} {K:Value→Prop} (h:retEx P t fun v'=>v=v'∧K v'):K v:=by
 obtain⟨v',rfl,h⟩:=retEx_some h
 exact h
def onSome {α:Type} (p:Option α) (F:α→Prop):Prop:=
 match p with
 |some a=>F a
 |none=>False
theorem onSome_iff {α:Type} {p:Option α} {F:α→Prop} :onSome p F↔ ∃a,p=some a∧F a:=by
 cases p<;>simp[onSome]
@[simp] theorem onSome_some {α:Type} {a:α} {F:α→Prop} :onSome (some a) F↔F a:=Iff.rfl
def Env.set (σ:Env) (d:Nat) (v:Value):Env:=fun t=>bif Nat.beq t d then some v else σ t
def Env.ev (σ:Env):Operand→Option Value
 | .tmp t=>σ t
 | .const v=>some v
 | .global g=>some (.pointer (some ⟨g,0,none⟩))
 | .func f=>some (.func (.func f) #[] #[])
def Env.tot (σ:Env):Operand→Value:=fun x=>(σ.ev x).getD undef
def defd (σ:Env) (o:Oper):Bool:=o.op.operands.toList.all fun x=>(σ.ev x).isSome
def Fits (σ:Env) (ρ:Operand→Value):Prop:= ∀x v,σ.ev x=some v→ρ x=v
def runPure (P:Program) {α:Type} :Sem α→Option α
 | .pure a=>some a
 | .program k=>runPure P (k P)
 | .mark _ k=>runPure P k
 |_=>none
theorem runPure_den {P:Program} {α:Type} (s:Sem α): ∀(a:α),runPure P s=some a→ ∀(h:Heap) (K:α→Heap→Prop),K a h→denSem P s h K:=by
 induction s with
 |pure b=>intro a e h K hk;simp only[runPure,Option.some.injEq] at e;subst e;exact hk
 |program k ih=>intro a e h K hk;exact ih P a e h K hk
 |mark m k ih=>intro a e h K hk;exact ih a e h K hk
 |_=>intro a e;simp[runPure] at e
theorem runPure_rd {P:Program} {α:Type} (s:Sem α): ∀(a:α),runPure P s=some a→ ∀(h:Heap),rd P s h=some a:=by
 induction s with
 |pure b=>intro a e h;exact e
 |program k ih=>intro a e h;exact ih P a e h
 |mark m k ih=>intro a e h;exact ih a e h
 |_=>intro a e;simp[runPure] at e
def runNew (P:Program) {α:Type} :Sem α→Option (Obj×(Nat→Sem α))
 | .new o k=>some (o,k)
 | .program k=>runNew P (k P)
 | .mark _ k=>runNew P k
 |_=>none
theorem runNew_den {P:Program} {α:Type} (s:Sem α): ∀(o:Obj) (f:Nat→Sem α),runNew P s=some (o,f)→ ∀(h:Heap) (K:α→Heap→Prop),denSem P (f h.size) (h.push o) K→denSem P s h K:=by
 induction s with
 |new b k ih=>intro o f e h K hk;simp only[runNew,Option.some.injEq,Prod.mk.injEq] at e;obtain⟨rfl,rfl⟩:=e;exact hk
 |program k ih=>intro o f e h K hk;exact ih P o f e h K hk
 |mark m k ih=>intro o f e h K hk;exact ih o f e h K hk
 |_=>intro o f e;simp[runNew] at e
theorem exec_tot {σ:Env} {ρ:Operand→Value} (hf:Fits σ ρ) (o:Oper) (hd:defd σ o=true) (hs: ∀cs b,o.op≠ .select cs b):execOp σ.tot o=execOp ρ o:=by
 refine execOp_congr o hs fun x hx=> ?_
 have h1:=List.all_eq_true.1 hd x (by simpa using hx)
 obtain⟨v,hv⟩:=Option.isSome_iff_exists.1 h1
 rw[hf x v hv]
 simp[Env.tot,hv]
def NewP (h:Heap) (o:Obj) (K:Nat→Heap→Prop):Prop:= ∀b h',b=h.size→h'=h.push o→K b h'
def StoreP (h:Heap) (a:Addr) (v:Value) (K:Heap→Prop):Prop:=
 (hcell h a).isSome=true∧hfrozen h a=false∧ ∀h',h'=hset h a v→K h'
def storeL (a:Addr):List Value→Nat→Heap→(Heap→Prop)→Prop
 | [],_,h,K=>K h
 |v::vs,i,h,K=>(match oneCell v with|true=>StoreP h (a.add i) v fun h'=>storeL a vs (i+1) h' K|false=>False)
def loadL (h:Heap) (a:Addr):List Leaf→Nat→(List Value→Prop)→Prop
 | [],_,F=>F []
 |l::ls,i,F=>l.ex fun v=>hcell h (a.add i)=some v∧loadL h a ls (i+1) fun vs=>F (v::vs)
def heldL (a:Addr):List Value→Nat→Heap→Prop
 | [],_,_=>True
 |v::vs,i,h=>hcell h (a.add i)=some v∧heldL a vs (i+1) h
def denLoad (P:Program) (t:TypeId) (h:Heap) (a:Addr) (K:Value→Option (Heap→Prop)→Prop):Prop:=
 match isAggB P t with
 |true=>(match leavesOf P 20 t,P.info? t with
  |some ls,some i=>(match Nat.beq i.size ls.length with
   |true=>loadL h a ls 0 fun vs=>K (.agg vs.toArray) (some (heldL a vs 0))
   |false=>False)
  |_,_=>False)
 |false=>(match leafOf P t with
  |some l=>l.ex fun v=>hcell h a=some v∧K v (some fun h'=>hcell h' a=some v)
  |none=>False)
def nilCmp (P:Program) (t:TypeId) (u v:Value):Option Bool:=
 match v with
 | .pointer none=>(match u,P.underlying t with| .pointer p,some (.pointer _)=>some p.isNone|_,_=>none)
 | .map none=>(match u,P.underlying t with| .map m,some (.map _ _)=>some m.isNone|_,_=>none)
 | .slice none _ _=>(match u,P.underlying t with| .slice p _ _,some (.slice _)=>some p.isNone|_,_=>none)
 |_=>none
def pureK (P:Program) (o:Oper) (σ:Env) (K:Value→Option (Heap→Prop)→Prop):Prop:=
 match defd σ o with
 |true=>(match runPure P (execOp σ.tot o) with|some (.value v)=>K v none|_=>False)
 |false=>False
def EqV (P:Program) (t:TypeId) (u v:Value) (b:Bool):Prop:= ∀h,rd P (Op.equal t u v) h=some b
def constY (o:Oper):Bool:=
 match o.op with
 | .binOp _ _ _ (.const _) _=>true
 |_=>false
def eqForm (P:Program) (o:Oper) (t:TypeId) (u v:Value):Bool:=
 match v with
 | .nilIface=>constY o
 | .agg _=>(match u with| .agg _=> !P.eqGuardType P.depth t|_=>false)
 | .pointer _=>(match u with| .pointer _=> !constY o|_=>false)
 |_=>false
def denBin (P:Program) (o:Oper) (op:BinOp) (t:TypeId) (u v:Value) (σ:Env) (K:Value→Option (Heap→Prop)→Prop):Prop:=
 match op with
 | .eql=>(match eqForm P o t u v with
  |true=> ∃b:Bool,EqV P t u v b∧K (.bool b) none
  |false=>(match nilCmp P t u v with|some b=>K (.bool b) none|none=>pureK P o σ K))
 | .neq=>(match eqForm P o t u v with
  |true=> ∃b:Bool,EqV P t u v b∧K (.bool (!b)) none
  |false=>(match nilCmp P t u v with|some b=>K (.bool (!b)) none|none=>pureK P o σ K))
 | .quo=>(match u,v with
  | .int k a, .int k' b=>(match decide (k=k') with|true=>if b=0 then False else K (.int k (k.wrap (a.tdiv b))) none|false=>False)
  |_,_=>False)
 | .rem=>(match u,v with
  | .int k a, .int k' b=>(match decide (k=k') with|true=>if b=0 then False else K (.int k (a.tmod b)) none|false=>False)
  |_,_=>False)
 | .shl=>(match u,v with
  | .int k a, .int _ b=>if b<0 then False else K (.int k (k.wrap (a*2 ^ min b.toNat k.bits))) none
  |_,_=>False)
 | .shr=>(match u,v with
  | .int k a, .int _ b=>if b<0 then False else K (.int k (a.fdiv (2 ^ min b.toNat k.bits))) none
  |_,_=>False)
 | .add=>(match u,v with
  | .string a, .string b=>((a.size+b.size:Nat):Int)≤IntKind.i64.max∧K (.string (a++b)) none
  |_,_=>pureK P o σ K)
 |_=>pureK P o σ K
def fieldOff (P:Program) (s:TypeId) (f:Nat):Option Nat:=
 match P.underlying s with
 |some (.struct fs)=>(match fs[f]? with
  |some fl=>(match P.info? fl.type with|some i=>(match Nat.beq i.size 0 with|true=>none|false=>some fl.offset)|none=>none)
  |none=>none)
 |_=>none
def idxAll (n:Int):List Value→Nat→(Value→Prop)→Prop
 | [],_,_=>True
 |v::vs,i,F=>(n=(i:Int)→F v)∧idxAll n vs (i+1) F
def optInt (σ:Env):Option Operand→Option (Option Int)
 |none=>some none
 |some x=>match σ.ev x with
  |some (.int _ n)=>some (some n)
  |_=>none
def sliceK (len cap:Nat):Option Int→Option Int→(Nat→Nat→Prop)→Prop
 |none,none,F=>F 0 len
 |none,some b,F=>(0≤b∧b≤(cap:Int))∧F 0 b.toNat
 |some a,none,F=>(0≤a∧a≤(len:Int))∧F a.toNat len
 |some a,some b,F=>(0≤b∧b≤(cap:Int))∧(0≤a∧a≤b)∧F a.toNat b.toNat
def slBase (p:Option Addr) (m l size:Nat):Option Addr:=if m=l then p else p.map (·.add (l*size))
def mapSame (m:Value) (h h':Heap):Prop:=
 match m with
 | .map (some r)=>h'[r]? =h[r]?
 |_=>True
def LookV (P:Program) (t:TypeId) (m k:Value) (ok:Bool) (h:Heap) (v:Value):Prop:=
 ∀h',mapSame m h h'→rd P (Instr.lookup t m k ok) h'=some v
def LenV (P:Program) (tys:Array TypeId) (ty:TypeId) (m:Value) (h:Heap) (v:Value):Prop:=
 ∀h',mapSame m h h'→rd P (Builtin.len_ tys ty #[m]) h'=some v
def ConvV (P:Program) (s d:TypeId) (v:Value) (h:Heap) (b:ByteArray):Prop:=rd P (convert s d v) h=some (.string b)
def isMapV:Value→Bool
 | .map _=>true
 |_=>false
def denRead (P:Program) (o:Oper) (σ:Env) (h:Heap) (K:Value→Option (Heap→Prop)→Prop):Prop:=
 match o.op with
 | .pick c a b=>(match σ.ev c,σ.ev a,σ.ev b with
  |some (.bool q),some va,some vb=>if q=true then K va none else K vb none
  |_,_,_=>False)
 | .load t x=>(match σ.ev x with
  |some (.pointer p)=>onSome p fun a=>denLoad P t h a K
  |_=>False)
 | .nilCheck x=>(match σ.ev x with
  |some (.pointer p)=>onSome p fun a=>K (.pointer (some a)) none
  |_=>pureK P o σ K)
 | .binOp op t x y _=>(match σ.ev x,σ.ev y with
  |some u,some v=>denBin P o op t u v σ K
  |_,_=>False)
 | .fieldAddr s x f=>(match σ.ev x,fieldOff P s f with
  |some (.pointer p),some off=>onSome p fun a=>K (.pointer (some (a.add off))) none
  |_,_=>False)
 | .indexAddr t x i=>(match P.underlying t,σ.ev x,σ.ev i with
  |some (.slice e),some (.slice base len _),some (.int _ n)=>(match P.info? e with
   |some i=>(0≤n∧n<(len:Int))∧onSome base fun a=>K (.pointer (some (a.add (n.toNat*i.size)))) none
   |none=>False)
  |some (.array len e),some (.pointer base),some (.int _ n)=>(match P.info? e with
   |some i=>(0≤n∧n<(len:Int))∧onSome base fun a=>K (.pointer (some (a.add (n.toNat*i.size)))) none
   |none=>False)
  |_,_,_=>False)
 | .index t x i=>(match P.underlying t,σ.ev x,σ.ev i with
  |some .string,some (.string s),some (.int _ n)=>(0≤n∧n<(s.size:Int))∧K (.int .u8 (s.data.toList.getD n.toNat 0).toNat) none
  |some (.array len e),some (.agg cs),some (.int _ n)=>(match leafOf P e,P.info? e,Nat.beq len cs.toList.length with
   |some _,some i,true=>(match Nat.beq i.size 1 with
    |true=>(0≤n∧n<(len:Int))∧idxAll n cs.toList 0 fun v=>K v none
    |false=>False)
   |_,_,_=>False)
  |_,_,_=>False)
 | .slice t x lo hi mx=>(match mx,P.underlying t,σ.ev x,optInt σ lo,optInt σ hi with
  |none,some (.slice e),some (.slice p len cap),some l,some hh=>(match P.info? e with
   |some i=>sliceK len cap l hh fun a b=>K (.slice (slBase p cap a i.size) (b - a) (cap - a)) none
   |none=>False)
  |none,some .string,some (.string s),some l,some hh=>sliceK s.size s.size l hh fun a b=>K (.string (s.extract a b)) none
  |none,some (.array n e),some (.pointer p),some l,some hh=>(match P.info? e with
   |some i=>onSome p fun ad=>sliceK n n l hh fun a b=>K (.slice (slBase (some ad) n a i.size) (b - a) (n - a)) none
   |none=>False)
  |_,_,_,_,_=>False)
 | .lookup t x i ok=>(match σ.ev x,σ.ev i with
  |some m,some k=>retEx P o.type fun v=>LookV P t m k ok h v∧K v (some (mapSame m h))
  |_,_=>False)
 | .call { callee:= .builtin .len,args:=args,argTypes:=tys } =>(match args.toList with
  | [x]=>(match σ.ev x with
   |some m=>(match isMapV m with
    |true=> ∃n:Int,LenV P tys o.type m h (.int .i64 n)∧K (.int .i64 n) (some (mapSame m h))
    |false=>pureK P o σ K)
   |none=>False)
  |_=>False)
 | .convert s d x=>(match P.underlying d with
  |some .string=>(match σ.ev x with
   |some v=> ∃b:ByteArray,ConvV P s d v h b∧K (.string b) (some fun h'=>ConvV P s d v h' b)
   |none=>False)
  |_=>pureK P o σ K)
 | .select _ _=>False
 |_=>pureK P o σ K
def isRead (P:Program) (o:Oper):Bool:=
 match o.op with
 | .move _| .assign _| .pick .. | .load .. | .nilCheck _| .binOp .. | .unOp .. | .makeInterface .. | .makeFunc .. | .slice .. | .fieldAddr .. | .field .. | .indexAddr .. | .index .. | .lookup .. | .extract .. | .build .. =>true
 | .convert _ d _=>(match P.underlying d with|some (.int _)=>true|some .string=>true|_=>false)
 | .call { callee:= .builtin b, .. } =>(match b with| .len| .cap| .min| .max=>true|_=>false)
 |_=>false
def hasBody (P:Program) (g:FuncId):Bool:=
 match P.funcs[g]? with
 |some fn=>fn.body.isSome && !(fn.name== "runtime.NumGoroutine")
 |none=>false
def evs (σ:Env):List Operand→Option (List Value)
 | []=>some []
 |x::xs=>match σ.ev x,evs σ xs with
  |some v,some vs=>some (v::vs)
  |_,_=>none
def builtinSem (b:Builtin) (tys:Array TypeId) (ty:TypeId) (vs:Array Value):Option (Sem Value):=
 match b with
 | .append=>some (Builtin.append_ tys ty vs)
 | .copy=>some (Builtin.copy_ tys ty vs)
 | .delete=>some (Builtin.delete_ tys ty vs)
 | .clear=>some (Builtin.clear_ tys ty vs)
 |_=>none
def newK (P:Program) (o:Oper) (σ:Env) (h:Heap) (K:Value→Heap→Prop):Prop:=
 match defd σ o with
 |true=>(match runNew P (execOp σ.tot o) with
  |some (ob,k)=>NewP h ob fun b h'=>(match runPure P (k b) with|some (.value v)=>K v h'|_=>False)
  |none=>False)
 |false=>False
def denEff (P:Program) (o:Oper) (σ:Env) (h:Heap) (K:Value→Heap→Prop):Prop:=
 match o.op with
 | .alloc _=>newK P o σ h K
 | .box _ _=>newK P o σ h K
 | .buildSlice _ _ _=>newK P o σ h K
 | .makeMap _ _=>newK P o σ h K
 | .store t x y=>(match σ.ev x,σ.ev y with
  |some (.pointer p),some v=>onSome p fun a=>(match P.info? t with
   |some i=>(match Nat.beq i.size v.cells.toList.length with|true=>storeL a v.cells.toList 0 h (K undef)|false=>False)
   |none=>False)
  |_,_=>False)
 | .mapUpdate t m k x=>(match σ.ev m,σ.ev k,σ.ev x with
  |some m,some k,some x=>denSem P (Instr.mapUpdate t m k x) h fun _ h'=>K undef h'
  |_,_,_=>False)
 | .insert t m k x=>(match σ.ev m,σ.ev k,σ.ev x with
  |some m,some k,some x=>denSem P (Instr.mapUpdate t m k x) h fun _ h'=>K undef h'
  |_,_,_=>False)
 | .makeSlice t l c=>(match σ.ev l,σ.ev c with
  |some l,some c=>denSem P (Instr.makeSlice t l c) h fun v h'=>retEx P o.type fun v'=>v=v'∧K v' h'
  |_,_=>False)
 | .convert s d x=>(match σ.ev x with
  |some x=>denSem P (convert s d x) h fun v h'=>retEx P o.type fun v'=>v=v'∧K v' h'
  |none=>False)
 | .call { callee:= .builtin b,args:=args,argTypes:=tys } =>(match evs σ args.toList with
  |some vs=>(match builtinSem b tys o.type vs.toArray with
   |some s=>denSem P s h fun v h'=>retEx P o.type fun v'=>v=v'∧K v' h'
   |none=>False)
  |none=>False)
 | .call { callee:= .value f,args:=args,argTypes:=_ } =>(match σ.ev f,evs σ args.toList with
  |some (.func (.func g) first captured),some vs=>(match hasBody P g with
   |true=>CallsH P g (first.toList++vs++captured.toList).toArray h fun v h'=>retEx P o.type fun v'=>v=v'∧K v' h'
   |false=>False)
  |_,_=>False)
 | .range t x=>(match σ.ev x with
  |some x=>denSem P (Instr.range t x) h fun v h'=> ∃r:Nat,v= .pointer (some ⟨r,0,none⟩)∧K (.pointer (some ⟨r,0,none⟩)) h'
  |none=>False)
 | .next it b=>(match σ.ev it with
  |some it=>denSem P (Instr.next it b o.type) h fun v h'=>(v= .tuple #[.bool false]∧K (.tuple #[.bool false]) h')∨ ∃k x:Value,v= .tuple #[.bool true,k,x]∧K (.tuple #[.bool true,k,x]) h'
  |none=>False)
 | .entry it=>(match σ.ev it with
  |some it=>denSem P (Instr.entry it) h fun v h'=> ∃k x:Value,v= .tuple #[k,x]∧K (.tuple #[k,x]) h'
  |none=>False)
 |_=>False
end Go.Den
namespace Go.Den
section
variable {P : Program} {h : Heap}
theorem den_pure {α:Type} (a:α) (K:α→Heap→Prop):denSem P (pure a:Sem α) h K↔K a h:=Iff.rfl
theorem den_bind {α β:Type} (s:Sem α) (f:α→Sem β) (K:β→Heap→Prop):denSem P (s>>=f) h K↔denSem P s h (fun a h'=>denSem P (f a) h' K):=denSem_bind s f h K
theorem den_underlying {t:TypeId} {d:TypeDesc} (hd:P.underlying t=some d) (K:TypeDesc→Heap→Prop):denSem P (underlying t) h K↔K d h:=by
 unfold underlying
 rw[den_bind]
 show denSem P (match P.underlying t with|some d=>pure d|none=>stuck "no such type") h K↔_
 rw[hd];exact Iff.rfl
theorem den_typeInfo {t:TypeId} {i:TypeInfo} (hi:P.info? t=some i) (K:TypeInfo→Heap→Prop):denSem P (typeInfo t) h K↔K i h:=by
 unfold typeInfo
 rw[den_bind]
 show denSem P (match P.info? t with|some d=>pure d|none=>stuck "no such type") h K↔_
 rw[hi];exact Iff.rfl
theorem den_sizeOf {t:TypeId} {i:TypeInfo} (hi:P.info? t=some i) (K:Nat→Heap→Prop):denSem P (sizeOf t) h K↔K i.size h:=by
 unfold sizeOf
 rw[den_bind,den_typeInfo hi];exact Iff.rfl
theorem rd_pure {α:Type} (a:α):rd P (pure a:Sem α) h=some a:=rfl
theorem rd_underlying {t:TypeId} {d:TypeDesc} (hd:P.underlying t=some d):rd P (underlying t) h=some d:=by
 show rd P (match P.underlying t with|some d=>pure d|none=>stuck "no such type") h=_
 rw[hd];rfl
theorem rd_typeInfo {t:TypeId} {i:TypeInfo} (hi:P.info? t=some i):rd P (typeInfo t) h=some i:=by
 show rd P (match P.info? t with|some d=>pure d|none=>stuck "no such type") h=_
 rw[hi];rfl
theorem rd_sizeOf {t:TypeId} {i:TypeInfo} (hi:P.info? t=some i):rd P (sizeOf t) h=some i.size:=by
 unfold sizeOf
 rw[rd_bind _ _ _ _ (rd_typeInfo hi)];rfl
theorem isAggB_some {t:TypeId} (hb:isAggB P t=true): ∃d,P.underlying t=some d∧((∃fs,d= .struct fs)∨ ∃n e,d= .array n e):=by
 unfold isAggB at hb
 split at hb
 ·rename_i fs e;exact⟨_,e, .inl ⟨_,rfl⟩⟩
 ·rename_i n el e;exact⟨_,e, .inr ⟨_,_,rfl⟩⟩
 ·cases hb
theorem rd_isAgg_true {t:TypeId} (hb:isAggB P t=true):rd P (isAgg t) h=some true:=by
 obtain⟨d,hd,hh⟩:=isAggB_some hb
 unfold isAgg
 rw[rd_bind _ _ _ _ (rd_underlying hd)]
 rcases hh with⟨fs,rfl⟩|⟨n,e,rfl⟩<;>rfl
theorem rd_isAgg_false {t:TypeId} {l:Leaf} (hl:leafOf P t=some l):rd P (isAgg t) h=some false:=by
 unfold leafOf at hl
 unfold isAgg
 cases hd:P.underlying t with
 |none=>rw[hd] at hl;cases hl
 |some d=>rw[rd_bind _ _ _ _ (rd_underlying hd)];rw[hd] at hl;cases d<;>first|rfl|cases hl
end
section
variable {P : Program}
theorem rd_load {a:Addr} {h:Heap} {v:Value} (hc:hcell h a=some v):rd P (load a) h=some v:=by
 unfold load
 simp only[rd,hc]
theorem rd_loadCellsFrom {a:Addr} : ∀(vs:List Value) (i:Nat) (acc:Array Value) (h:Heap),heldL a vs i h→rd P (loadCellsFrom a i vs.length acc) h=some (acc++vs.toArray)
 | [],i,acc,h,_=>by simp[loadCellsFrom,rd_pure]
 |v::vs,i,acc,h,hh=>by
  obtain⟨h1,h2⟩:=hh
  simp only[List.length_cons,loadCellsFrom]
  rw[rd_bind _ _ _ _ (rd_load h1),rd_loadCellsFrom vs (i+1) _ h h2]
  simp
theorem loadL_held {h:Heap} {a:Addr} : ∀(ls:List Leaf) (i:Nat) (F:List Value→Prop),loadL h a ls i F→ ∃vs,vs.length=ls.length∧heldL a vs i h∧F vs
 | [],_,_,hh=>⟨[],rfl,trivial,hh⟩
 |_::ls,i,_,hh=>by
  obtain⟨v,h1,h2⟩:=Leaf.ex_some hh
  obtain⟨vs,hl,h3,h4⟩:=loadL_held ls (i+1) _ h2
  exact⟨v::vs,by simp[hl],⟨h1,h3⟩,h4⟩
def okS:Option (Heap→Prop)→Heap→Prop
 |some S,h=>S h
 |none,_=>True
def Yv (P:Program) (s:Sem Value) (S:Option (Heap→Prop)) (v:Value):Prop:=
 ∀h',okS S h'→rd P s h'=some v
theorem denLoad_ok {t:TypeId} {h:Heap} {a:Addr} {K:Value→Option (Heap→Prop)→Prop} (hh:denLoad P t h a K):
  ∃v S,K v S∧okS S h∧Yv P (loadVar t a) S v:=by
 unfold denLoad at hh
 split at hh
 ·rename_i hb
  split at hh
  ·rename_i ls i hls hi
   split at hh
   ·rename_i hn
    obtain⟨vs,hl,h1,h2⟩:=loadL_held _ _ _ hh
    refine⟨_,_,h2,h1,fun h' hs=> ?_⟩
    unfold loadVar
    rw[rd_bind _ _ _ _ (rd_isAgg_true hb)]
    simp only[if_true]
    rw[rd_bind _ _ _ _ (rd_sizeOf hi)]
    have e:i.size=vs.length:=by rw[hl];exact Nat.eq_of_beq_eq_true hn
    unfold loadCells
    rw[e,rd_bind _ _ _ _ (rd_loadCellsFrom vs 0 #[] h' hs)]
    simp[rd_pure]
   ·exact hh.elim
  ·exact hh.elim
 ·split at hh
  ·rename_i l hl
   obtain⟨v,h1,h2⟩:=Leaf.ex_some hh
   refine⟨v,_,h2,h1,fun h' hs=> ?_⟩
   unfold loadVar
   rw[rd_bind _ _ _ _ (rd_isAgg_false hl)]
   exact rd_load hs
  ·exact hh.elim
theorem pureK_ok {o:Oper} {σ:Env} {ρ:Operand→Value} {K:Value→Option (Heap→Prop)→Prop} (hf:Fits σ ρ) (hs: ∀cs b,o.op≠ .select cs b) (hh:pureK P o σ K):
  ∃v,K v none∧ ∀h',rd P (execOp ρ o) h'=some (.value v):=by
 unfold pureK at hh
 split at hh
 ·rename_i hd
  split at hh
  ·rename_i v hv
   exact⟨v,hh,fun h'=>runPure_rd _ _ (by rw[←exec_tot hf o hd hs];exact hv) _⟩
  ·exact hh.elim
 ·exact hh.elim
theorem nilCmp_ok {t:TypeId} {u v:Value} {b:Bool} (hh:nilCmp P t u v=some b): ∀h',rd P (Op.equal t u v) h'=some b:=by
 intro h'
 unfold Op.equal Op.maxDepth
 unfold nilCmp at hh
 split at hh
 ·split at hh
  ·rename_i p e he
   simp only[Option.some.injEq] at hh
   subst hh
   unfold Op.equalIn
   rw[rd_bind _ _ _ _ (rd_underlying he)]
   cases p<;>rfl
  ·cases hh
 ·split at hh
  ·rename_i m k e he
   simp only[Option.some.injEq] at hh
   subst hh
   unfold Op.equalIn
   rw[rd_bind _ _ _ _ (rd_underlying he)]
   cases m<;>rfl
  ·cases hh
 ·split at hh
  ·rename_i p _ _ e he
   simp only[Option.some.injEq] at hh
   subst hh
   unfold Op.equalIn
   rw[rd_bind _ _ _ _ (rd_underlying he)]
   cases p<;>rfl
  ·cases hh
 ·cases hh
theorem nilCmp_guard {op:BinOp} {t:TypeId} {x y:Operand} {u v:Value} {b:Bool} (hh:nilCmp P t u v=some b): ∀h',rd P (eqGuard op t x y u v) h'=some ():=by
 intro h'
 unfold nilCmp at hh
 unfold eqGuard
 split at hh
 ·split at hh
  ·split<;>exact rfl
  ·cases hh
 ·split at hh
  ·split<;>exact rfl
  ·cases hh
 ·split at hh
  ·split<;>exact rfl
  ·cases hh
 ·cases hh
theorem nilCmp_form {t:TypeId} {u v:Value} {b:Bool} (hh:nilCmp P t u v=some b):
  (∃p,u= .pointer p∧v= .pointer none)∨(∃m,u= .map m∧v= .map none)∨(∃p l c l' c',u= .slice p l c∧v= .slice none l' c'):=by
 unfold nilCmp at hh
 split at hh
 ·split at hh
  ·exact .inl ⟨_,rfl,rfl⟩
  ·cases hh
 ·split at hh
  ·exact .inr (.inl ⟨_,rfl,rfl⟩)
  ·cases hh
 ·split at hh
  ·exact .inr (.inr ⟨_,_,_,_,_,rfl,rfl⟩)
  ·cases hh
 ·cases hh
theorem eqGuard_other {op:BinOp} {t:TypeId} {x y:Operand} {u v:Value} (h1:op≠ .eql) (h2:op≠ .neq):eqGuard op t x y u v=pure ():=by
 cases op<;>first|rfl|exact absurd rfl h1|exact absurd rfl h2
theorem exec_bin {o:Oper} {op:BinOp} {t t':TypeId} {x y:Operand} {ρ:Operand→Value} {u v r:Value} {h:Heap} (ho:o.op= .binOp op t x y t') (hx:ρ x=u) (hy:ρ y=v)
  (h1:rd P (eqGuard op t x y u v) h=some ()) (h2:rd P (binOp op t u v) h=some r):rd P (execOp ρ o) h=some (.value r):=by
 unfold execOp;rw[ho]
 simp only[hx,hy]
 have h3:rd P (do eqGuard op t x y u v;binOp op t u v) h=some r:=by rw[rd_bind _ _ _ _ h1];exact h2
 rw[rd_bind _ _ _ _ h3];rfl
theorem eqForm_ok {o:Oper} {op:BinOp} {t t':TypeId} {x y:Operand} {ρ:Operand→Value} {u v:Value} (ho:o.op= .binOp op t x y t') (hop:op= .eql∨op= .neq) (hx:ρ x=u) (hy:ρ y=v) (hq:eqForm P o t u v=true) {b:Bool} (hb:EqV P t u v b):
  ∀h',rd P (execOp ρ o) h'=some (.value (.bool (if op= .eql then b else !b))):=by
 intro h'
 have hguard:rd P (eqGuard op t x y u v) h'=some ():=by
  unfold eqForm at hq
  split at hq
  ·have hc: ∃c,y= .const c:=by
    unfold constY at hq
    rw[ho] at hq
    cases y<;>first|exact⟨_,rfl⟩|cases hq
   obtain⟨c,rfl⟩:=hc
   unfold eqGuard
   rcases hop with rfl|rfl<;>cases u<;>first|rfl|(cases x<;>rfl)
  ·split at hq
   ·unfold eqGuard
    rcases hop with rfl|rfl
    ·show rd P (program>>=fun p=>program>>=fun q=>if(!p.eqGuardType q.depth t)=true then pure () else _) h'=some ()
     rw[rd_bind _ _ _ _ (show rd P program h'=some P from rfl),rd_bind _ _ _ _ (show rd P program h'=some P from rfl),if_pos hq]
     rfl
    ·show rd P (program>>=fun p=>program>>=fun q=>if(!p.eqGuardType q.depth t)=true then pure () else _) h'=some ()
     rw[rd_bind _ _ _ _ (show rd P program h'=some P from rfl),rd_bind _ _ _ _ (show rd P program h'=some P from rfl),if_pos hq]
     rfl
   ·cases hq
  ·split at hq
   ·unfold eqGuard
    split<;>exact rfl
   ·cases hq
  ·cases hq
 refine exec_bin ho hx hy hguard ?_
 have key: ∀u v:Value,(eqForm P o t u v=true)→EqV P t u v b→rd P (binOp op t u v) h'=some (.bool (if op= .eql then b else !b)):=by
  intro u v hq hb
  unfold eqForm at hq
  split at hq
  ·rcases hop with rfl|rfl
   ·have:binOp .eql t u .nilIface=(Op.equal t u .nilIface>>=fun q=>pure (Value.bool q)):=by cases u<;>rfl
    rw[this,rd_bind _ _ _ _ (hb h')];rfl
   ·have:binOp .neq t u .nilIface=(Op.equal t u .nilIface>>=fun q=>pure (Value.bool (!q))):=by cases u<;>rfl
    rw[this,rd_bind _ _ _ _ (hb h')];rfl
  ·split at hq
   ·rcases hop with rfl|rfl
    ·show rd P (Op.equal t _ _>>=fun q=>pure (Value.bool q)) h'=_
     rw[rd_bind _ _ _ _ (hb h')];rfl
    ·show rd P (Op.equal t _ _>>=fun q=>pure (Value.bool (!q))) h'=_
     rw[rd_bind _ _ _ _ (hb h')];rfl
   ·cases hq
  ·split at hq
   ·rcases hop with rfl|rfl
    ·show rd P (Op.equal t _ _>>=fun q=>pure (Value.bool q)) h'=_
     rw[rd_bind _ _ _ _ (hb h')];rfl
    ·show rd P (Op.equal t _ _>>=fun q=>pure (Value.bool (!q))) h'=_
     rw[rd_bind _ _ _ _ (hb h')];rfl
   ·cases hq
  ·cases hq
 exact key u v hq hb
theorem denBin_ok {o:Oper} {op:BinOp} {t t':TypeId} {x y:Operand} {σ:Env} {ρ:Operand→Value} {u v:Value} {K:Value→Option (Heap→Prop)→Prop}
  (ho:o.op= .binOp op t x y t') (hf:Fits σ ρ) (hx:ρ x=u) (hy:ρ y=v) (hh:denBin P o op t u v σ K):
  ∃v,K v none∧ ∀h',rd P (execOp ρ o) h'=some (.value v):=by
 have hs: ∀cs b,o.op≠ .select cs b:=by rw[ho];intro cs b e;cases e
 unfold denBin at hh
 split at hh
 ·split at hh
  ·rename_i hq
   obtain⟨b,hb,hK⟩:=hh
   exact⟨_,hK,eqForm_ok ho (.inl rfl) hx hy hq hb⟩
  ·split at hh
   ·rename_i b hb
    refine⟨_,hh,fun h'=>exec_bin ho hx hy (nilCmp_guard hb h') ?_⟩
    have hb':binOp .eql t u v=(do pure (.bool (←Op.equal t u v))):=by
     rcases nilCmp_form hb with⟨p,rfl,rfl⟩|⟨m,rfl,rfl⟩|⟨p,l,c,l',c',rfl,rfl⟩<;>rfl
    rw[hb',rd_bind _ _ _ _ (nilCmp_ok hb h')];rfl
   ·exact pureK_ok hf hs hh
 ·split at hh
  ·rename_i hq
   obtain⟨b,hb,hK⟩:=hh
   exact⟨_,hK,eqForm_ok ho (.inr rfl) hx hy hq hb⟩
  ·split at hh
   ·rename_i b hb
    refine⟨_,hh,fun h'=>exec_bin ho hx hy (nilCmp_guard hb h') ?_⟩
    have hb':binOp .neq t u v=(do pure (.bool (!(←Op.equal t u v)))):=by
     rcases nilCmp_form hb with⟨p,rfl,rfl⟩|⟨m,rfl,rfl⟩|⟨p,l,c,l',c',rfl,rfl⟩<;>rfl
    rw[hb',rd_bind _ _ _ _ (nilCmp_ok hb h')];rfl
   ·exact pureK_ok hf hs hh
 ·split at hh
  ·rename_i k a k' b
   split at hh
   ·rename_i hk
    obtain rfl:k=k':=of_decide_eq_true hk
    split at hh
    ·exact hh.elim
    ·rename_i hb
     refine⟨_,hh,fun h'=>exec_bin ho hx hy (by rw[eqGuard_other (by simp) (by simp)];rfl) ?_⟩
     simp only[binOp,ne_eq,not_true,if_false,Op.intDiv,hb]
     rfl
   ·exact hh.elim
  ·exact hh.elim
 ·split at hh
  ·rename_i k a k' b
   split at hh
   ·rename_i hk
    obtain rfl:k=k':=of_decide_eq_true hk
    split at hh
    ·exact hh.elim
    ·rename_i hb
     refine⟨_,hh,fun h'=>exec_bin ho hx hy (by rw[eqGuard_other (by simp) (by simp)];rfl) ?_⟩
     simp only[binOp,ne_eq,not_true,if_false,Op.intDiv,hb]
     rfl
   ·exact hh.elim
  ·exact hh.elim
 ·split at hh
  ·split at hh
   ·exact hh.elim
   ·rename_i hb
    refine⟨_,hh,fun h'=>exec_bin ho hx hy (by rw[eqGuard_other (by simp) (by simp)];rfl) ?_⟩
    simp only[binOp,Op.shift,hb,if_false]
    rfl
  ·exact hh.elim
 ·split at hh
  ·split at hh
   ·exact hh.elim
   ·rename_i hb
    refine⟨_,hh,fun h'=>exec_bin ho hx hy (by rw[eqGuard_other (by simp) (by simp)];rfl) ?_⟩
    simp only[binOp,Op.shift,hb,if_false]
    rfl
  ·exact hh.elim
 ·split at hh
  ·obtain⟨hb,hh⟩:=hh
   refine⟨_,hh,fun h'=>exec_bin ho hx hy (by rw[eqGuard_other (by simp) (by simp)];rfl) ?_⟩
   simp only[binOp,Op.stringOp]
   rw[if_neg (by omega)]
   rfl
  ·exact pureK_ok hf hs hh
 ·exact pureK_ok hf hs hh
theorem sliceBound_ok {x:Value} {k:IntKind} {n:Int} {y:Nat} {code:BoundsCode} {h:Heap} (hx:x= .int k n) (h1:0≤n) (h2:n≤(y:Int)):rd P (Instr.sliceBound x y code) h=some n.toNat:=by
 subst hx
 show rd P (if 0≤n∧n≤(y:Int) then _ else _) h=_
 rw[if_pos ⟨h1,h2⟩]
 rfl
theorem optInt_some {σ:Env} {ρ:Operand→Value} (hf:Fits σ ρ) {x:Option Operand} {n:Option Int} (hh:optInt σ x=some n):
  (x=none∧n=none)∨ ∃k m,n=some m∧x.map ρ=some (.int k m):=by
 cases x with
 |none=>simp only[optInt,Option.some.injEq] at hh;exact .inl ⟨rfl,hh.symm⟩
 |some x=>
  simp only[optInt] at hh
  split at hh
  ·rename_i k m hm
   simp only[Option.some.injEq] at hh
   exact .inr ⟨k,m,hh.symm,by simp[hf _ _ hm]⟩
  ·cases hh
theorem sliceBounds_ok {σ:Env} {ρ:Operand→Value} (hf:Fits σ ρ) {lo hi:Option Operand} {l r:Option Int} (hl:optInt σ lo=some l) (hr:optInt σ hi=some r)
  {isS:Bool} {len cap:Nat} {F:Nat→Nat→Prop} (hh:sliceK len cap l r F): ∃a b,F a b∧ ∀(h:Heap),
   rd P (Instr.sliceBounds isS len cap (lo.map ρ) (hi.map ρ) none) h=some (a,b,cap):=by
 rcases optInt_some hf hl with⟨rfl,rfl⟩|⟨k1,m1,rfl,e1⟩<;>rcases optInt_some hf hr with⟨rfl,rfl⟩|⟨k2,m2,rfl,e2⟩
 ·exact⟨0,len,hh,fun h=>rfl⟩
 ·obtain⟨⟨h1,h2⟩,hF⟩:=hh
  refine⟨0,m2.toNat,hF,fun h=> ?_⟩
  unfold Instr.sliceBounds
  rw[e2,rd_bind _ _ _ _ (rd_pure _),rd_bind _ _ _ _ (sliceBound_ok rfl h1 h2)]
  rfl
 ·obtain⟨⟨h1,h2⟩,hF⟩:=hh
  refine⟨m1.toNat,len,hF,fun h=> ?_⟩
  unfold Instr.sliceBounds
  rw[e1,rd_bind _ _ _ _ (rd_pure _)]
  simp only[Option.map_none]
  rw[rd_bind _ _ _ _ (rd_pure _),rd_bind _ _ _ _ (sliceBound_ok rfl h1 h2)]
  rfl
 ·obtain⟨⟨h1,h2⟩,⟨h3,h4⟩,hF⟩:=hh
  refine⟨m1.toNat,m2.toNat,hF,fun h=> ?_⟩
  unfold Instr.sliceBounds
  rw[e1,e2,rd_bind _ _ _ _ (rd_pure _),rd_bind _ _ _ _ (sliceBound_ok rfl h1 h2),rd_bind _ _ _ _ (sliceBound_ok rfl h3 (by omega))]
  rfl
theorem idxAll_at {n:Int} : ∀(vs:List Value) (i:Nat) (F:Value→Prop),idxAll n vs i F→ ∀j,n=((i+j:Nat):Int)→ ∀v,vs[j]? =some v→F v
 | [],_,_,_,j,_,v,hv=>by simp at hv
 |u::vs,i,F,hh,j,hn,v,hv=>by
  obtain⟨h1,h2⟩:=hh
  cases j with
  |zero=>simp only[List.getElem?_cons_zero,Option.some.injEq] at hv;subst hv;exact h1 hn
  |succ j=>exact idxAll_at vs (i+1) F h2 j (by omega) v (by simpa using hv)
theorem exec_v {s:Sem Value} {v:Value} {h:Heap} (hh:rd P s h=some v):rd P (do pure (Next.value (←s))) h=some (.value v):=by
 rw[rd_bind _ _ _ _ hh];rfl
theorem denRead_ok {o:Oper} {σ:Env} {ρ:Operand→Value} {h:Heap} {K:Value→Option (Heap→Prop)→Prop} (hf:Fits σ ρ) (hh:denRead P o σ h K):
  ∃v S,K v S∧okS S h∧ ∀h',okS S h'→rd P (execOp ρ o) h'=some (.value v):=by
 have viaPure:(∀cs b,o.op≠ .select cs b)→pureK P o σ K→ ∃v S,K v S∧okS S h∧ ∀h',okS S h'→rd P (execOp ρ o) h'=some (.value v):=fun hs hp=>by
  obtain⟨v,h1,h2⟩:=pureK_ok hf hs hp
  exact⟨v,none,h1,trivial,fun h' _=>h2 h'⟩
 unfold denRead at hh
 split at hh
 ·rename_i c a b ho
  split at hh
  ·rename_i q va vb hc ha hb
   have e:execOp ρ o=pure (.value (if q then va else vb)):=by
    unfold execOp;rw[ho]
    simp only[hf _ _ hc,hf _ _ ha,hf _ _ hb];rfl
   split at hh
   ·rename_i hq
    exact⟨va,none,hh,trivial,fun h' _=>by rw[e,if_pos hq];rfl⟩
   ·rename_i hq
    exact⟨vb,none,hh,trivial,fun h' _=>by rw[e,if_neg hq];rfl⟩
  ·exact hh.elim
 ·rename_i t x ho
  split at hh
  ·rename_i p hp
   obtain⟨a,rfl,hh⟩:=onSome_iff.1 hh
   obtain⟨v,S,h1,h2,h3⟩:=denLoad_ok hh
   refine⟨v,S,h1,h2,fun h' hs=> ?_⟩
   unfold execOp;rw[ho]
   simp only[hf _ _ hp]
   exact exec_v (h3 h' hs)
  ·exact hh.elim
 ·rename_i x ho
  split at hh
  ·rename_i p hp
   obtain⟨a,rfl,hh⟩:=onSome_iff.1 hh
   refine⟨_,none,hh,trivial,fun h' _=> ?_⟩
   unfold execOp;rw[ho]
   simp only[hf _ _ hp]
   rfl
  ·exact viaPure (by rw[ho];intro cs b e;cases e) hh
 ·rename_i op t x y t' ho
  split at hh
  ·rename_i u v hu hv
   obtain⟨v,h1,h2⟩:=denBin_ok ho hf (hf _ _ hu) (hf _ _ hv) hh
   exact⟨v,none,h1,trivial,fun h' _=>h2 h'⟩
  ·exact hh.elim
 ·rename_i s x f ho
  split at hh
  ·rename_i p off hp hoff
   obtain⟨a,rfl,hh⟩:=onSome_iff.1 hh
   refine⟨_,none,hh,trivial,fun h' _=> ?_⟩
   unfold fieldOff at hoff
   split at hoff
   ·rename_i fs hfs
    split at hoff
    ·rename_i fl hfl
     split at hoff
     ·rename_i i hi
      split at hoff
      ·cases hoff
      ·rename_i hz
       simp only[Option.some.injEq] at hoff
       subst hoff
       unfold execOp;rw[ho]
       simp only[hf _ _ hp]
       refine exec_v ?_
       unfold Instr.fieldAt
       rw[rd_bind _ _ _ _ (rd_underlying hfs)]
       simp only[hfl]
       show rd P (do let y←fieldPlace a fl;pure (Value.pointer (some y))) h'=_
       have hne: ¬i.size=0:=fun e=>by rw[e] at hz;cases hz
       have h1:rd P (fieldPlace a fl) h'=some (a.add fl.offset):=by
        unfold fieldPlace
        rw[rd_bind _ _ _ _ (rd_sizeOf hi),if_neg hne];rfl
       rw[rd_bind _ _ _ _ h1];rfl
     ·cases hoff
    ·cases hoff
   ·cases hoff
  ·exact hh.elim
 ·rename_i t x ix ho
  split at hh
  ·rename_i e base len cap k n ht hx hi
   split at hh
   ·rename_i i hie
    obtain⟨⟨h1,h2⟩,hh⟩:=hh
    obtain⟨a,rfl,hh⟩:=onSome_iff.1 hh
    refine⟨_,none,hh,trivial,fun h' _=> ?_⟩
    unfold execOp;rw[ho]
    simp only[hf _ _ hx,hf _ _ hi]
    refine exec_v ?_
    unfold Instr.indexAt
    show rd P (do let x←underlying t;_) h'=_
    rw[rd_bind _ _ _ _ (rd_underlying ht)]
    simp only
    rw[rd_bind _ _ _ _ (rd_pure _)]
    simp only
    rw[rd_bind _ _ _ _ (rd_underlying ht)]
    simp only
    rw[if_pos ⟨h1,h2⟩,rd_bind _ _ _ _ (rd_sizeOf hie)]
    rfl
   ·exact hh.elim
  ·rename_i len e base k n ht hx hi
   split at hh
   ·rename_i i hie
    obtain⟨⟨h1,h2⟩,hh⟩:=hh
    obtain⟨a,rfl,hh⟩:=onSome_iff.1 hh
    refine⟨_,none,hh,trivial,fun h' _=> ?_⟩
    unfold execOp;rw[ho]
    simp only[hf _ _ hx,hf _ _ hi]
    refine exec_v ?_
    unfold Instr.indexAt
    show rd P (do let x←underlying t;_) h'=_
    rw[rd_bind _ _ _ _ (rd_underlying ht)]
    simp only[Instr.sureAddr]
    rw[rd_bind _ _ _ _ (rd_pure _),rd_bind _ _ _ _ (rd_pure _)]
    simp only
    rw[rd_bind _ _ _ _ (rd_underlying ht)]
    simp only
    rw[if_pos ⟨h1,h2⟩,rd_bind _ _ _ _ (rd_sizeOf hie)]
    rfl
   ·exact hh.elim
  ·exact hh.elim
 ·rename_i t x ix ho
  split at hh
  ·rename_i s k n ht hx hi
   obtain⟨⟨h1,h2⟩,hh⟩:=hh
   refine⟨_,none,hh,trivial,fun h' _=> ?_⟩
   unfold execOp;rw[ho]
   simp only[hf _ _ hx,hf _ _ hi]
   refine exec_v ?_
   unfold Instr.index
   show rd P (do let x←underlying t;_) h'=_
   rw[rd_bind _ _ _ _ (rd_underlying ht)]
   have hlt:n.toNat<s.size:=by omega
   have hg:s[n.toNat]? =some (s.data.toList.getD n.toNat 0):=by
    rw[getElem?_pos s n.toNat hlt]
    congr 1
    rw[List.getD_eq_getElem?_getD,List.getElem?_eq_getElem (by simpa using hlt)]
    rfl
   simp only[if_pos h1,hg]
   rfl
  ·rename_i len e cs k n ht hx hi
   split at hh
   ·rename_i i hb hie hlen
    split at hh
    ·rename_i hsz
     obtain⟨⟨h1,h2⟩,hh⟩:=hh
     have hlen:=Nat.eq_of_beq_eq_true hlen
     have hsz:=Nat.eq_of_beq_eq_true hsz
     have hlt:n.toNat<cs.toList.length:=by omega
     have hF:=idxAll_at _ _ _ hh n.toNat (by omega) _ (List.getElem?_eq_getElem hlt)
     refine⟨_,none,hF,trivial,fun h' _=> ?_⟩
     unfold execOp;rw[ho]
     simp only[hf _ _ hx,hf _ _ hi]
     refine exec_v ?_
     unfold Instr.index
     show rd P (do let x←underlying t;_) h'=_
     rw[rd_bind _ _ _ _ (rd_underlying ht)]
     simp only
     rw[if_pos ⟨h1,h2⟩,rd_bind _ _ _ _ (rd_sizeOf hie)]
     unfold part
     rw[rd_bind _ _ _ _ (rd_isAgg_false hb)]
     simp only[Bool.false_eq_true,if_false]
     rw[hsz,Nat.mul_one]
     have hg:cs[n.toNat]? =some (cs.toList[n.toNat]'hlt):=by simp
     rw[hg]
     rfl
    ·exact hh.elim
   ·exact hh.elim
  ·exact hh.elim
 ·rename_i t x lo hi mx ho
  split at hh
  ·rename_i e p len cap l hh' ht hx hl hhi
   split at hh
   ·rename_i i hie
    obtain⟨a,b,hF,hb⟩:=sliceBounds_ok (P:=P) (isS:=true) hf hl hhi hh
    refine⟨_,none,hF,trivial,fun h' _=> ?_⟩
    unfold execOp;rw[ho]
    simp only[hf _ _ hx,Option.map_none]
    refine exec_v ?_
    unfold Instr.sliceAt
    rw[rd_bind _ _ _ _ (rd_underlying ht)]
    unfold Instr.slice
    simp only
    rw[rd_bind _ _ _ _ (rd_underlying ht)]
    simp only
    rw[rd_bind _ _ _ _ (hb _)]
    simp only
    rw[rd_bind _ _ _ _ (rd_sizeOf hie)]
    rfl
   ·exact hh.elim
  ·rename_i s l hh' ht hx hl hhi
   obtain⟨a,b,hF,hb⟩:=sliceBounds_ok (P:=P) (isS:=false) hf hl hhi hh
   refine⟨_,none,hF,trivial,fun h' _=> ?_⟩
   unfold execOp;rw[ho]
   simp only[hf _ _ hx,Option.map_none]
   refine exec_v ?_
   unfold Instr.sliceAt
   rw[rd_bind _ _ _ _ (rd_underlying ht)]
   unfold Instr.slice
   simp only
   rw[rd_bind _ _ _ _ (rd_underlying ht)]
   simp only[Option.isSome_none,Bool.false_eq_true,if_false]
   rw[rd_bind _ _ _ _ (hb _)]
   rfl
  ·rename_i n e p l hh' ht hx hl hhi
   split at hh
   ·rename_i i hie
    obtain⟨ad,rfl,hh⟩:=onSome_iff.1 hh
    obtain⟨a,b,hF,hb⟩:=sliceBounds_ok (P:=P) (isS:=false) hf hl hhi hh
    refine⟨_,none,hF,trivial,fun h' _=> ?_⟩
    unfold execOp;rw[ho]
    simp only[hf _ _ hx,Option.map_none]
    refine exec_v ?_
    unfold Instr.sliceAt
    rw[rd_bind _ _ _ _ (rd_underlying ht)]
    simp only[Instr.sureAddr]
    rw[rd_bind _ _ _ _ (rd_pure _),rd_bind _ _ _ _ (hb _)]
    simp only
    rw[rd_bind _ _ _ _ (rd_sizeOf hie)]
    show some _=some _
    unfold slBase
    congr 2
    split<;>rfl
   ·exact hh.elim
  ·exact hh.elim
 ·rename_i t x i ok ho
  split at hh
  ·rename_i m k hm hk
   obtain⟨v,h1,h2⟩:=retEx_some hh
   refine⟨v,_,h2, ?_,fun h' hs=> ?_⟩
   ·show mapSame m h h
    unfold mapSame;split<;>trivial
   ·unfold execOp;rw[ho]
    simp only[hf _ _ hm,hf _ _ hk]
    exact exec_v (h1 h' hs)
  ·exact hh.elim
 ·rename_i args tys ho
  split at hh
  ·rename_i x hargs
   split at hh
   ·rename_i m hm
    split at hh
    ·obtain⟨n,h1,h2⟩:=hh
     refine⟨_,_,h2, ?_,fun h' hs=> ?_⟩
     ·show mapSame m h h
      unfold mapSame;split<;>trivial
     ·have ha:args= #[x]:=by rw[←Array.toArray_toList (xs:=args),hargs]
      unfold execOp;rw[ho]
      simp only[resolve,ha]
      rw[rd_bind _ _ _ _ (rd_pure _)]
      simp only[invoke,builtin,List.map_toArray,List.map_cons,List.map_nil,hf _ _ hm]
      exact exec_v (h1 h' hs)
    ·exact viaPure (by rw[ho];intro cs b e;cases e) hh
   ·exact hh.elim
  ·exact hh.elim
 ·rename_i s d x ho
  split at hh
  ·split at hh
   ·rename_i v hv
    obtain⟨b,h1,h2⟩:=hh
    refine⟨_,_,h2,h1,fun h' hs=> ?_⟩
    unfold execOp;rw[ho]
    simp only[hf _ _ hv]
    exact exec_v hs
   ·exact hh.elim
  ·exact viaPure (by rw[ho];intro cs b e;cases e) hh
 ·exact hh.elim
 ·rename_i hsel
  exact viaPure hsel hh
theorem evs_map {σ:Env} {ρ:Operand→Value} (hf:Fits σ ρ): ∀(xs:List Operand) (vs:List Value),evs σ xs=some vs→xs.map ρ=vs
 | [],vs,hh=>by simp only[evs,Option.some.injEq] at hh;exact hh
 |x::xs,vs,hh=>by
  simp only[evs] at hh
  split at hh
  ·rename_i v vs' h1 h2
   simp only[Option.some.injEq] at hh
   rw[List.map_cons,hf _ _ h1,evs_map hf xs vs' h2,hh]
  ·cases hh
theorem args_map {σ:Env} {ρ:Operand→Value} (hf:Fits σ ρ) {args:Array Operand} {vs:List Value} (hh:evs σ args.toList=some vs):args.map ρ=vs.toArray:=by
 have:=evs_map hf _ _ hh
 rw[←this]
 apply Array.ext'
 simp
theorem newK_ok {o:Oper} {σ:Env} {ρ:Operand→Value} {h:Heap} {K:Value→Heap→Prop} (hf:Fits σ ρ) (hs: ∀cs b,o.op≠ .select cs b) (hh:newK P o σ h K):OpWp P o ρ h K:=by
 unfold newK at hh
 split at hh
 ·rename_i hd
  split at hh
  ·rename_i ob k hr
   have h1:=hh _ _ rfl rfl
   dsimp only at h1
   split at h1
   ·rename_i v hv
    refine runNew_den _ ob k (by rw[←exec_tot hf o hd hs];exact hr) _ _ ?_
    exact runPure_den _ _ hv _ _ h1
   ·exact h1.elim
  ·exact hh.elim
 ·exact hh.elim
theorem storeL_ok {a:Addr} : ∀(vs:List Value) (i:Nat) (h:Heap) (K:Heap→Prop),storeL a vs i h K→denSem P (storeCells a vs i) h (fun _ h'=>K h')
 | [],_,_,_,hh=>hh
 |v::vs,i,h,K,hh=>by
  simp only[storeL] at hh
  split at hh
  ·rename_i h1
   obtain⟨h2,h3,h4⟩:=hh
   simp only[storeCells]
   rw[den_bind]
   exact⟨h1,h2,h3,storeL_ok vs (i+1) _ K (h4 _ rfl)⟩
  ·exact hh.elim
theorem den_retEx {s:Sem Value} {h:Heap} {t:TypeId} {K:Value→Heap→Prop} (hh:denSem P s h fun v h'=>retEx P t fun v'=>v=v'∧K v' h'):denSem P s h K:=
 denSem_mono _ _ (fun _ _ hr=>retEx_eq hr) hh
theorem denEff_ok {o:Oper} {σ:Env} {ρ:Operand→Value} {h:Heap} {K:Value→Heap→Prop} (hf:Fits σ ρ) (hh:denEff P o σ h K):OpWp P o ρ h K:=by
 unfold denEff at hh
 split at hh
 ·rename_i ho;exact newK_ok hf (by rw[ho];intro cs b e;cases e) hh
 ·rename_i ho;exact newK_ok hf (by rw[ho];intro cs b e;cases e) hh
 ·rename_i ho;exact newK_ok hf (by rw[ho];intro cs b e;cases e) hh
 ·rename_i ho;exact newK_ok hf (by rw[ho];intro cs b e;cases e) hh
 ·rename_i t x y ho
  split at hh
  ·rename_i p v hx hy
   obtain⟨a,rfl,hh⟩:=onSome_iff.1 hh
   split at hh
   ·rename_i i hi
    split at hh
    ·rename_i hn
     unfold OpWp execOp;rw[ho]
     simp only[hf _ _ hx,hf _ _ hy]
     rw[den_bind]
     unfold Instr.storeAt
     rw[den_bind]
     show denSem P (storeVar t a v) h _
     unfold storeVar
     rw[den_bind,den_sizeOf hi]
     have e:v.cells.size=i.size:=by have:=Nat.eq_of_beq_eq_true hn;simpa using this.symm
     simp only[e,ne_eq,not_true,if_false]
     exact storeL_ok _ _ _ _ hh
    ·exact hh.elim
   ·exact hh.elim
  ·exact hh.elim
 ·rename_i t m k x ho
  split at hh
  ·rename_i m k x hm hk hx
   unfold OpWp execOp;rw[ho]
   simp only[hf _ _ hm,hf _ _ hk,hf _ _ hx]
   rw[den_bind]
   exact hh
  ·exact hh.elim
 ·rename_i t m k x ho
  split at hh
  ·rename_i m k x hm hk hx
   unfold OpWp execOp;rw[ho]
   simp only[hf _ _ hm,hf _ _ hk,hf _ _ hx]
   rw[den_bind]
   exact hh
  ·exact hh.elim
 ·rename_i t l c ho
  split at hh
  ·rename_i l c hl hc
   unfold OpWp execOp;rw[ho]
   simp only[hf _ _ hl,hf _ _ hc]
   rw[den_bind]
   exact den_retEx hh
  ·exact hh.elim
 ·rename_i s d x ho
  split at hh
  ·rename_i x hx
   unfold OpWp execOp;rw[ho]
   simp only[hf _ _ hx]
   rw[den_bind]
   exact den_retEx hh
  ·exact hh.elim
 ·rename_i b args tys ho
  split at hh
  ·rename_i vs hvs
   split at hh
   ·rename_i s hs
    unfold OpWp execOp;rw[ho]
    simp only[resolve,args_map hf hvs]
    rw[den_bind,den_pure]
    simp only[invoke]
    cases b<;>simp only[builtinSem] at hs<;>first|cases hs|skip
    all_goals (simp only[builtin];rw[den_bind];exact den_retEx hh)
   ·exact hh.elim
  ·exact hh.elim
 ·rename_i f args tys ho
  split at hh
  ·rename_i g first captured vs hg hvs
   split at hh
   ·rename_i hb
    unfold OpWp execOp;rw[ho]
    simp only[resolve,args_map hf hvs,hf _ _ hg,Deferred.ofValue]
    rw[den_bind,den_pure]
    simp only[invoke,callFunc]
    rw[den_bind]
    unfold hasBody at hb
    split at hb
    ·rename_i fn hfn
     simp only[Bool.and_eq_true,Bool.not_eq_true'] at hb
     show denSem P (match P.funcs[g]? with|none=>_|some fn=>_) h _
     rw[hfn]
     have hn:fn.body.isNone=false:=by cases hq:fn.body<;>simp[hq] at hb⊢
     simp only[hb.2,hn,Bool.false_eq_true,if_false]
     have e:(first++vs.toArray++captured)=(first.toList++vs++captured.toList).toArray:=by
      apply Array.ext'
      simp
     rw[e]
     exact hh.mono fun v h' hr=>retEx_eq hr
    ·cases hb
   ·exact hh.elim
  ·exact hh.elim
 ·rename_i t x ho
  split at hh
  ·rename_i x hx
   unfold OpWp execOp;rw[ho]
   simp only[hf _ _ hx]
   rw[den_bind]
   exact denSem_mono _ _ (fun v h' ⟨r,e,hr⟩=>by subst e;exact hr) hh
  ·exact hh.elim
 ·rename_i it b ho
  split at hh
  ·rename_i it hx
   unfold OpWp execOp;rw[ho]
   simp only[hf _ _ hx]
   rw[den_bind]
   refine denSem_mono _ _ (fun v h' hr=> ?_) hh
   rcases hr with⟨e,hr⟩|hr
   ·subst e;exact hr
   ·obtain⟨k,x,e,hr⟩:=hr;subst e;exact hr
  ·exact hh.elim
 ·rename_i it ho
  split at hh
  ·rename_i it hx
   unfold OpWp execOp;rw[ho]
   simp only[hf _ _ hx]
   rw[den_bind]
   refine denSem_mono _ _ (fun v h' hr=> ?_) hh
   obtain⟨k,x,e,hr⟩:=hr;subst e;exact hr
  ·exact hh.elim
 ·exact hh.elim
end
end Go.Den
namespace Go.Den
def Leaf.T (X:Type):Leaf→Type
 | .int _=>Int→X
 | .bool=>Bool→X
 | .str=>ByteArray→X
 | .ptr=>Option Addr→X
 | .slice=>Option Addr→Nat→Nat→X
 | .map=>Option Nat→X
 | .raw=>Value→X
def leavesT (X:Type):List Leaf→Type
 | []=>X
 |l::ls=>l.T (leavesT X ls)
def Sh.T (X:Type):Sh→Type
 | .one l=>l.T X
 | .agg ls=>leavesT X ls
def Tele (X:Type):List (Nat×Sh)→Type
 | []=>X
 |s::L=>s.2.T (Tele X L)
def Leaf.lam {X:Type} :(l:Leaf)→(Value→X)→l.T X
 | .int k,F=>fun n:Int=>F (.int k n)
 | .bool,F=>fun b:Bool=>F (.bool b)
 | .str,F=>fun s:ByteArray=>F (.string s)
 | .ptr,F=>fun p:Option Addr=>F (.pointer p)
 | .slice,F=>fun(p:Option Addr) (l c:Nat)=>F (.slice p l c)
 | .map,F=>fun m:Option Nat=>F (.map m)
 | .raw,F=>fun v:Value=>F v
def lams {X:Type} :(ls:List Leaf)→(List Value→X)→leavesT X ls
 | [],F=>F []
 |l::ls,F=>l.lam fun v=>lams ls fun vs=>F (v::vs)
def Sh.lam {X:Type} :(s:Sh)→(Value→X)→s.T X
 | .one l,F=>l.lam F
 | .agg ls,F=>lams ls fun vs=>F (.agg vs.toArray)
def lamE {X:Type} :(L:List (Nat×Sh))→(Env→X)→Env→Tele X L
 | [],F,σ=>F σ
 |(t,s)::L,F,σ=>s.lam fun v=>lamE L F (σ.set t v)
def Leaf.ap {X Y:Type} (d:Y):(l:Leaf)→l.T X→Value→(X→Y)→Y
 | .int k,f, .int k' n,K=>(match decide (k=k') with|true=>K (f n)|false=>d)
 | .bool,f, .bool b,K=>K (f b)
 | .str,f, .string s,K=>K (f s)
 | .ptr,f, .pointer p,K=>K (f p)
 | .slice,f, .slice p l c,K=>K (f p l c)
 | .map,f, .map m,K=>K (f m)
 | .raw,f,v,K=>K (f v)
 |_,_,_,_=>d
def aps {X Y:Type} (d:Y):(ls:List Leaf)→leavesT X ls→List Value→(X→Y)→Y
 | [],f, [],K=>K f
 |l::ls,f,v::vs,K=>l.ap d f v fun g=>aps d ls g vs K
 |_,_,_,_=>d
def Sh.ap {X Y:Type} (d:Y):(s:Sh)→s.T X→Value→(X→Y)→Y
 | .one l,f,v,K=>l.ap d f v K
 | .agg ls,f, .agg vs,K=>aps d ls f vs.toList K
 |_,_,_,_=>d
def apE {X Y:Type} (d:Y):(L:List (Nat×Sh))→Tele X L→Env→(X→Y)→Y
 | [],f,_,K=>K f
 |(t,s)::L,f,σ,K=>(match σ t with|some v=>s.ap d f v fun g=>apE d L g σ K|none=>d)
def Leaf.all:Leaf→(Value→Prop)→Prop
 | .int k,F=> ∀n:Int,F (.int k n)
 | .bool,F=> ∀b:Bool,F (.bool b)
 | .str,F=> ∀s:ByteArray,F (.string s)
 | .ptr,F=> ∀p:Option Addr,F (.pointer p)
 | .slice,F=> ∀(p:Option Addr) (l c:Nat),F (.slice p l c)
 | .map,F=> ∀m:Option Nat,F (.map m)
 | .raw,F=> ∀v:Value,F v
def alls:List Leaf→(List Value→Prop)→Prop
 | [],F=>F []
 |l::ls,F=>l.all fun v=>alls ls fun vs=>F (v::vs)
def Sh.all:Sh→(Value→Prop)→Prop
 | .one l,F=>l.all F
 | .agg ls,F=>alls ls fun vs=>F (.agg vs.toArray)
def allE:List (Nat×Sh)→(Env→Prop)→Env→Prop
 | [],F,σ=>F σ
 |(t,s)::L,F,σ=>s.all fun v=>allE L F (σ.set t v)
theorem Leaf.ap_shape {X Y:Type} {d:Y} {l:Leaf} {f:l.T X} {v:Value} {K:X→Y} :l.ap d f v K=d∨((∃g:X,l.ap d f v K=K g)∧ ∀(Z:Type) (F:Value→Z),∀(W:Type) (e:W) (J:Z→W),l.ap e (l.lam F) v J=J (F v)):=by
 cases l<;>cases v<;>first
  |exact .inl rfl
  |exact .inr ⟨⟨_,rfl⟩,fun _ _ _ _ _=>rfl⟩
  |skip
 rename_i k k' n
 by_cases hk:k=k'
 ·subst hk
  refine .inr ⟨⟨f n, ?_⟩,fun Z F W e J=> ?_⟩<;>simp[Leaf.ap,Leaf.lam]
 ·exact .inl (by simp[Leaf.ap,hk])
theorem Leaf.ap_ok {X:Type} {l:Leaf} {f:l.T X} {v:Value} {K:X→Prop} (h:l.ap False f v K):
  (∃g:X,K g)∧(∀(Z W:Type) (F:Value→Z) (e:W) (J:Z→W),l.ap e (l.lam F) v J=J (F v)):=by
 rcases Leaf.ap_shape (d:=False) (l:=l) (f:=f) (v:=v) (K:=K) with h1|⟨⟨g,h1⟩,h2⟩
 ·rw[h1] at h;exact h.elim
 ·exact⟨⟨g,by rw[h1] at h;exact h⟩,fun Z W F e J=>h2 Z F W e J⟩
theorem Leaf.all_at {l:Leaf} {F:Value→Prop} (h:l.all F) {X:Type} {f:l.T X} {v:Value} {K:X→Prop} (ha:l.ap False f v K):F v:=by
 cases l<;>cases v<;>first
  |exact ha.elim
  |exact h _
  |exact h _ _ _
  |skip
 rename_i k k' n
 by_cases hk:k=k'
 ·subst hk;exact h n
 ·simp[Leaf.ap,hk] at ha
theorem Leaf.ap_lam {X:Type} {l:Leaf} {F:Value→X} {v:Value} {K:X→Prop} (h:l.ap False (l.lam F) v K):K (F v):=by
 have:=(Leaf.ap_ok h).2 X Prop F False K
 rw[this] at h;exact h
theorem aps_lam {X:Type} : ∀ {ls:List Leaf} {F:List Value→X} {vs:List Value} {K:X→Prop},aps False ls (lams ls F) vs K→K (F vs)
 | [],_, [],_,h=>h
 | [],_,_::_,_,h=>h.elim
 |_::_,_, [],_,h=>h.elim
 |_::ls,F,v::vs,_,h=>aps_lam (ls:=ls) (F:=fun us=>F (v::us)) (vs:=vs) (Leaf.ap_lam h)
theorem Sh.ap_lam {X:Type} {s:Sh} {F:Value→X} {v:Value} {K:X→Prop} (h:s.ap False (s.lam F) v K):K (F v):=by
 cases s with
 |one l=>exact Leaf.ap_lam h
 |agg ls=>
  cases v<;>first|exact h.elim|skip
  rename_i cs
  have:=aps_lam (F:=fun vs=>F (.agg vs.toArray)) h
  simpa using this
theorem alls_at {X:Type} : ∀ {ls:List Leaf} {F:List Value→Prop} {f:leavesT X ls} {vs:List Value} {K:X→Prop},alls ls F→aps False ls f vs K→F vs
 | [],_,_, [],_,h,_=>h
 | [],_,_,_::_,_,_,h=>h.elim
 |_::_,_,_, [],_,_,h=>h.elim
 |l::ls,F,f,v::vs,K,h,ha=>by
  obtain⟨⟨g,hg⟩,_⟩:=Leaf.ap_ok ha
  have h1:=Leaf.all_at h ha
  exact alls_at (ls:=ls) (F:=fun us=>F (v::us)) (vs:=vs) h1 hg
theorem Sh.all_at {s:Sh} {F:Value→Prop} (h:s.all F) {X:Type} {f:s.T X} {v:Value} {K:X→Prop} (ha:s.ap False f v K):F v:=by
 cases s with
 |one l=>exact Leaf.all_at h ha
 |agg ls=>
  cases v<;>first|exact ha.elim|skip
  have:=alls_at h ha
  simpa using this
theorem aps_some {X:Type} : ∀ {ls:List Leaf} {f:leavesT X ls} {vs:List Value} {K:X→Prop},aps False ls f vs K→ ∃g,K g
 | [],f, [],_,h=>⟨f,h⟩
 | [],_,_::_,_,h=>h.elim
 |_::_,_, [],_,h=>h.elim
 |_::_,_,_::_,_,h=>by
  obtain⟨⟨g,hg⟩,_⟩:=Leaf.ap_ok h
  exact aps_some hg
theorem Sh.ap_some {X:Type} {s:Sh} {f:s.T X} {v:Value} {K:X→Prop} (h:s.ap False f v K): ∃g,K g:=by
 cases s with
 |one l=>exact(Leaf.ap_ok h).1
 |agg ls=>cases v<;>first|exact h.elim|exact aps_some h
def Sub (σ'' σ0 σ':Env):Prop:= ∀t v,σ'' t=some v→σ' t=some v∨σ0 t=some v
theorem Env.set_eq (σ:Env) (d t:Nat) (v:Value):σ.set d v t=if t=d then some v else σ t:=by
 unfold Env.set
 by_cases h:t=d
 ·subst h;simp
 ·have:Nat.beq t d=false:=by cases hb:Nat.beq t d;rfl;exact absurd (Nat.eq_of_beq_eq_true hb) h
  simp[this,h]
theorem Sub.set {σ'' σ0 σ':Env} {t:Nat} {v:Value} (ht:σ' t=some v) (h:Sub σ'' (σ0.set t v) σ'):Sub σ'' σ0 σ':=fun u x hu=>by
 rcases h u x hu with h1|h1
 ·exact .inl h1
 ·rw[Env.set_eq] at h1
  split at h1
  ·rename_i e;subst e;exact .inl (ht.trans h1)
  ·exact .inr h1
theorem apE_lamE {G:Env→Heap→Prop} {h:Heap} {σ':Env} : ∀(L:List (Nat×Sh)) (σ0:Env),apE False L (lamE (X:=Heap→Prop) L G σ0) σ' (fun f=>f h)→ ∃σ'',G σ'' h∧Sub σ'' σ0 σ'
 | [],σ0,hh=>⟨σ0,hh,fun _ _ h=> .inr h⟩
 |(t,s)::L,σ0,hh=>by
  simp only[apE] at hh
  split at hh
  ·rename_i v hv
   have h1:=Sh.ap_lam hh
   obtain⟨σ'',h2,h3⟩:=apE_lamE L _ h1
   exact⟨σ'',h2,h3.set hv⟩
  ·exact hh.elim
theorem allE_at {X : Type} {F : Env → Prop} {σ' : Env} {K : X → Prop} : ∀ (L : List (Nat × Sh)) (σ0 : Env) (f : Tele X L), allE L F σ0 → apE False L f σ' K →
    ∃ σ'', F σ'' ∧ Sub σ'' σ0 σ' ∧ ((∀ t s, (t, s) ∈ L → σ'' t = σ' t) ∧ ∀ t, (∀ s, (t, s) ∉ L) → σ'' t = σ0 t)
  | [], σ0, _, h, _ => ⟨σ0, h, fun _ _ h => .inr h, (fun _ _ h => by cases h), fun _ _ => rfl⟩
  | (t, s) :: L, σ0, f, h, ha => by
    simp only [apE] at ha
    split at ha
    · rename_i v hv
      have h1 := Sh.all_at h ha
      obtain ⟨g, hg⟩ := Sh.ap_some ha
      obtain ⟨σ'', h2, h3, h4, h5⟩ := allE_at L _ g h1 hg
      refine ⟨σ'', h2, h3.set hv, fun u s' hm => ?_, fun u hm => ?_⟩
      · by_cases hin : ∃ s'', (u, s'') ∈ L
        · obtain ⟨s'', hin⟩ := hin; exact h4 u s'' hin
        · have hu : u = t := by
            rcases List.mem_cons.1 hm with e | e
            · exact (Prod.mk.inj e).1
            · exact absurd ⟨s', e⟩ hin
          subst hu
          rw [h5 u (fun s'' hs => hin ⟨s'', hs⟩), Env.set_eq, if_pos rfl, hv]
      · rw [h5 u (fun s' hs => hm s' (List.mem_cons_of_mem _ hs)), Env.set_eq, if_neg]
        intro e; subst e; exact hm s List.mem_cons_self
    · exact ha.elim
theorem apE_congr {X Y:Type} {d:Y} {σ σ':Env} {K:X→Y} : ∀(L:List (Nat×Sh)) (f:Tele X L),(∀t s,(t,s)∈L→σ t=σ' t)→apE d L f σ K=apE d L f σ' K
 | [],_,_=>rfl
 |(t,s)::L,f,h=>by
  simp only[apE]
  rw[h t s List.mem_cons_self]
  have:(fun g=>apE d L g σ K)=(fun g=>apE d L g σ' K):=funext fun g=>apE_congr L g (fun t s hm=>h t s (List.mem_cons_of_mem _ hm))
  rw[this]
theorem apE_def {X : Type} {σ : Env} {K : X → Prop} : ∀ (L : List (Nat × Sh)) (f : Tele X L), apE False L f σ K → ∀ t s, (t, s) ∈ L → ∃ v, σ t = some v
  | [], _, _, _, _, h => by cases h
  | (t, s) :: L, f, h, u, s', hm => by
    simp only [apE] at h
    split at h
    · rename_i v hv
      rcases List.mem_cons.1 hm with e | e
      · exact ⟨v, by rw [(Prod.mk.inj e).1]; exact hv⟩
      · obtain ⟨g, hg⟩ := Sh.ap_some h
        exact apE_def L g hg u s' e
    · exact h.elim
structure Rel (n:Nat) (σ:Env) (a:Act):Prop where
 defers:a.defers= []
 size:a.tmps.size=n
 at_: ∀t v,σ t=some v→a.tmps.getD t undef=v
theorem Rel.fits {n:Nat} {σ:Env} {a:Act} (h:Rel n σ a):Fits σ a.eval:=by
 intro x v hv
 cases x with
 |tmp t=>exact h.at_ t v hv
 |const c=>simpa[Env.ev,Act.eval] using hv
 |global g=>simpa[Env.ev,Act.eval] using hv
 |func f=>simpa[Env.ev,Act.eval] using hv
def putK (n:Nat) (σ:Env) (dst:Option Nat) (v:Value) (K:Env→Prop):Prop:=
 match dst with
 |none=>K σ
 |some d=>(match Nat.blt d n with|true=>K (σ.set d v)|false=>False)
theorem getD_set {xs:Array Value} {d t:Nat} {v:Value} (hd:d<xs.size):(xs.setIfInBounds d v).getD t undef=if t=d then v else xs.getD t undef:=by
 by_cases h:t=d
 ·subst h;simp[hd]
 ·simp[h,Ne.symm h]
theorem putK_ok {n:Nat} {σ:Env} {a:Act} {dst:Option Nat} {v:Value} {K:Env→Prop} (hr:Rel n σ a) (h:putK n σ dst v K): ∃σ',Rel n σ' (a.put dst v)∧K σ':=by
 unfold putK at h
 split at h
 ·exact⟨σ,hr,h⟩
 ·rename_i d
  split at h
  ·rename_i hd
   have hd:d<a.tmps.size:=by rw[hr.size];exact(Nat.blt_eq▸hd)
   refine⟨_,⟨hr.defers,by simp[Act.put,hr.size],fun t u hu=> ?_⟩,h⟩
   simp only[Act.put]
   rw[getD_set hd]
   rw[Env.set_eq] at hu
   split
   ·rename_i e;rw[if_pos e] at hu;exact Option.some.inj hu
   ·rename_i e;rw[if_neg e] at hu;exact hr.at_ t u hu
  ·exact h.elim
def Unch (W:List Nat) (a a':Act):Prop:= ∀t,t∉W→a'.tmps.getD t undef=a.tmps.getD t undef
theorem Unch.refl (W:List Nat) (a:Act):Unch W a a:=fun _ _=>rfl
theorem Unch.trans {W:List Nat} {a b c:Act} (h:Unch W a b) (h':Unch W b c):Unch W a c:=fun t ht=>(h' t ht).trans (h t ht)
theorem Unch.mono {W W':List Nat} {a b:Act} (h:Unch W a b) (hw: ∀t,t∈W→t∈W'):Unch W' a b:=fun t ht=>h t (fun hm=>ht (hw t hm))
theorem Unch.put {W:List Nat} {a:Act} {dst:Option Nat} {v:Value} (h: ∀d,dst=some d→d∈W):Unch W a (a.put dst v):=by
 intro t ht
 cases dst with
 |none=>rfl
 |some d=>
  have hne:t≠d:=fun e=>ht (e▸h d rfl)
  simp[Act.put,Ne.symm hne]
def gsplit (ops : Array Oper) (o : Oper) (σ : Env) (run skip : Env → Prop) : Prop :=
  match o.guard with
  | none => run σ
  | some (j, pol) => (match (ops[j]?).bind (·.dst) with
    | some g => (match σ g with
      | some (.bool b) => if b = true then (match pol with | true => run (σ.set g (.bool true)) | false => skip (σ.set g (.bool true)))
          else (match pol with | true => skip (σ.set g (.bool false)) | false => run (σ.set g (.bool false)))
      | some (.tuple _) => skip σ
      | _ => False)
    | none => False)
theorem getD_some {xs:Array Value} {t:Nat} {v:Value} (h:xs.getD t undef=v) (hv:v≠undef):xs[t]? =some v:=by
 rw[Array.getD_eq_getD_getElem?] at h
 cases hq:xs[t]? with
 |none=>rw[hq] at h;exact absurd h.symm hv
 |some u=>rw[hq] at h;exact congrArg some h
theorem gsplit_ok {n:Nat} {ops:Array Oper} {o:Oper} {σ:Env} {a:Act} {run skip:Env→Prop} (hr:Rel n σ a) (h:gsplit ops o σ run skip):
  (Region.wanted o (yielded ops a.tmps)=true∧ ∃σ',Rel n σ' a∧run σ')∨(Region.wanted o (yielded ops a.tmps)=false∧ ∃σ',Rel n σ' a∧skip σ'):=by
 unfold gsplit at h
 split at h
 ·rename_i hg
  exact .inl ⟨by simp[Region.wanted,hg],σ,hr,h⟩
 ·rename_i j pol hg
  split at h
  ·rename_i g hgd
   split at h
   ·rename_i b hb
    have hat:=hr.at_ g _ hb
    have hsome:=getD_some hat (by unfold undef;intro e;cases e)
    have hy:yielded ops a.tmps j=some b:=by simp[yielded,hgd,hsome]
    have hset:Rel n (σ.set g (.bool b)) a:=⟨hr.defers,hr.size,fun t u hu=>by
     rw[Env.set_eq] at hu
     split at hu
     ·rename_i e;subst e;rw[hat];exact Option.some.inj hu
     ·exact hr.at_ t u hu⟩
    split at h
    ·rename_i hbt
     subst hbt
     split at h
     ·exact .inl ⟨by simp[Region.wanted,hg,hy],_,hset,h⟩
     ·exact .inr ⟨by simp[Region.wanted,hg,hy],_,hset,h⟩
    ·rename_i hbf
     have hbf:b=false:=by simpa using hbf
     subst hbf
     split at h
     ·exact .inr ⟨by simp[Region.wanted,hg,hy],_,hset,h⟩
     ·exact .inl ⟨by simp[Region.wanted,hg,hy],_,hset,h⟩
   ·rename_i x hx
    have hat:=hr.at_ g _ hx
    have hy:yielded ops a.tmps j=none:=by
     simp only[yielded,hgd,Option.bind_some]
     rw[Array.getD_eq_getD_getElem?] at hat
     cases hq:a.tmps[g]? with
     |none=>rfl
     |some u=>rw[hq] at hat;simp at hat;subst hat;rfl
    exact .inr ⟨by simp[Region.wanted,hg,hy],σ,hr,h⟩
   ·exact h.elim
  ·exact h.elim
def denOp (P:Program) (o:Oper) (σ:Env) (h:Heap) (K:Value→Heap→Prop):Prop:=
 match isRead P o with
 |true=>denRead P o σ h fun v _=>K v h
 |false=>denEff P o σ h K
theorem denOp_ok {P:Program} {o:Oper} {σ:Env} {ρ:Operand→Value} {h:Heap} {K:Value→Heap→Prop} (hf:Fits σ ρ) (hh:denOp P o σ h K):OpWp P o ρ h K:=by
 unfold denOp at hh
 split at hh
 ·obtain⟨v,S,h1,h2,h3⟩:=denRead_ok hf hh
  exact rd_den _ _ _ (h3 h h2) _ h1
 ·exact denEff_ok hf hh
def denOps (P:Program) (n:Nat) (ops:Array Oper):List Oper→Env→Heap→(Env→Heap→Prop)→Prop
 | [],σ,h,K=>K σ h
 |o::rest,σ,h,K=>gsplit ops o σ
   (fun σ=>denOp P o σ h fun v h'=>putK n σ o.dst v fun σ'=>denOps P n ops rest σ' h' K)
   (fun σ=>putK n σ o.dst undef fun σ'=>denOps P n ops rest σ' h K)
def opWrites (ops:Array Oper):List Nat:=ops.toList.filterMap (·.dst)
theorem opWrites_mem {ops:Array Oper} {i:Nat} {o:Oper} (ho:ops[i]? =some o): ∀d,o.dst=some d→d∈opWrites ops:=fun d hd=>by
 unfold opWrites
 rw[List.mem_filterMap]
 exact⟨o,by simpa using Array.mem_of_getElem? ho,hd⟩
def upR (n:Nat) (a0:Act) (w0:World) (W:List Nat) (K:Env→Heap→Prop):Exit→Act→World→Prop:=
 fun e a w=>e= .normal∧ ∃σ,Rel n σ a∧K σ w.heap∧Same w0 w∧Unch W a0 a
theorem denOps_ok {P:Program} {n:Nat} {ops:Array Oper} {K:Env→Heap→Prop} {a0:Act} {w0:World} : ∀(rest:List Oper) (k:Nat) (σ:Env) (a:Act) (w:World),
  (∀j,rest[j]? =ops[k+j]?)→Rel n σ a→Same w0 w→Unch (opWrites ops) a0 a→denOps P n ops rest σ w.heap K→wpOps P ops (upR n a0 w0 (opWrites ops) K) (List.range' k rest.length) a w
 | [],k,σ,a,w,_,hr,hs,hu,h=>⟨rfl,σ,hr,h,hs,hu⟩
 |o::rest,k,σ,a,w,hj,hr,hs,hu,h=>by
  have h0:ops[k]? =some o:=by have:=hj 0;simpa using this.symm
  have hj': ∀j,rest[j]? =ops[k+1+j]? :=fun j=>by have:=hj (j+1);simpa[Nat.add_assoc,Nat.add_comm 1 j] using this
  simp only[List.length_cons,List.range'_succ,wpOps,h0]
  simp only[denOps] at h
  rcases gsplit_ok hr h with⟨hw,σ',hr',h⟩|⟨hw,σ',hr',h⟩
  ·rw[if_pos hw]
   refine .inl ((denOp_ok hr'.fits h).wp ?_)
   intro v w' hk hs'
   obtain⟨σ1,hr1,h1⟩:=putK_ok hr' hk
   exact denOps_ok rest (k+1) σ1 _ w' hj' hr1 (hs.trans hs') (hu.trans (Unch.put (opWrites_mem h0))) h1
  ·rw[if_neg (by rw[hw];simp)]
   obtain⟨σ1,hr1,h1⟩:=putK_ok hr' h
   exact denOps_ok rest (k+1) σ1 _ w hj' hr1 hs (hu.trans (Unch.put (opWrites_mem h0))) h1
def lookSh:List (Nat×Sh)→Nat→Option Sh
 | [],_=>none
 |(t,s)::L,d=>(match Nat.beq t d with|true=>some s|false=>lookSh L d)
def castK (ty:List (Nat×Sh)) (dst:Option Nat) (v:Value) (F:Value→Prop):Prop:=
 match dst with
 |none=>F v
 |some d=>(match lookSh ty d with|some s=>s.ex fun v'=>v=v'∧F v'|none=>F v)
theorem castK_ok {ty:List (Nat×Sh)} {dst:Option Nat} {v:Value} {F:Value→Prop} (h:castK ty dst v F):F v:=by
 unfold castK at h
 split at h
 ·exact h
 ·split at h
  ·obtain⟨v',e,h⟩:=Sh.ex_some h;subst e;exact h
  ·exact h
def denOpsT (P:Program) (n:Nat) (ops:Array Oper) (ty:List (Nat×Sh)):List Oper→Env→Heap→(Env→Heap→Prop)→Prop
 | [],σ,h,K=>K σ h
 |o::rest,σ,h,K=>gsplit ops o σ
   (fun σ=>denOp P o σ h fun v h'=>castK ty o.dst v fun v=>putK n σ o.dst v fun σ'=>denOpsT P n ops ty rest σ' h' K)
   (fun σ=>putK n σ o.dst undef fun σ'=>denOpsT P n ops ty rest σ' h K)
theorem denOpsT_ok {P:Program} {n:Nat} {ops:Array Oper} {ty:List (Nat×Sh)} {K:Env→Heap→Prop} {a0:Act} {w0:World} : ∀(rest:List Oper) (k:Nat) (σ:Env) (a:Act) (w:World),
  (∀j,rest[j]? =ops[k+j]?)→Rel n σ a→Same w0 w→Unch (opWrites ops) a0 a→denOpsT P n ops ty rest σ w.heap K→wpOps P ops (upR n a0 w0 (opWrites ops) K) (List.range' k rest.length) a w
 | [],k,σ,a,w,_,hr,hs,hu,h=>⟨rfl,σ,hr,h,hs,hu⟩
 |o::rest,k,σ,a,w,hj,hr,hs,hu,h=>by
  have h0:ops[k]? =some o:=by have:=hj 0;simpa using this.symm
  have hj': ∀j,rest[j]? =ops[k+1+j]? :=fun j=>by have:=hj (j+1);simpa[Nat.add_assoc,Nat.add_comm 1 j] using this
  simp only[List.length_cons,List.range'_succ,wpOps,h0]
  simp only[denOpsT] at h
  rcases gsplit_ok hr h with⟨hw,σ',hr',h⟩|⟨hw,σ',hr',h⟩
  ·rw[if_pos hw]
   refine .inl ((denOp_ok hr'.fits h).wp ?_)
   intro v w' hk hs'
   obtain⟨σ1,hr1,h1⟩:=putK_ok hr' (castK_ok hk)
   exact denOpsT_ok rest (k+1) σ1 _ w' hj' hr1 (hs.trans hs') (hu.trans (Unch.put (opWrites_mem h0))) h1
  ·rw[if_neg (by rw[hw];simp)]
   obtain⟨σ1,hr1,h1⟩:=putK_ok hr' h
   exact denOpsT_ok rest (k+1) σ1 _ w hj' hr1 hs (hu.trans (Unch.put (opWrites_mem h0))) h1
end Go.Den
namespace Go.Den
def waits (o:Oper) (i:Nat):Bool:=o.after.toList.any fun e=>Region.binds .any e && Nat.beq e.on i
def keepG (o:Oper) (G:List (Nat×(Heap→Prop))):List (Nat×(Heap→Prop)):=G.filter fun g=> !waits o g.1
theorem keepG_mem {o:Oper} {G:List (Nat×(Heap→Prop))} {g:Nat×(Heap→Prop)} (h:g∈keepG o G):g∈G:=(List.mem_filter.1 h).1
def wpAnyG (P:Program) (ops:Array Oper) (Q:Exit→Act→World→Prop):Nat→List (Nat×(Heap→Prop))→Array Bool→Act→World→Prop
 |0,_,listed,a,w=>Region.ready .any ops listed= []∧Q .normal a w
 |fuel+1,G,listed,a,w=>
  (Region.ready .any ops listed= []→Q .normal a w)∧
  ∀j∈Region.ready .any ops listed,∀o,ops[j]? =some o→wpOp P ops Q j (fun a' w'=>(∀g∈keepG o G,g.2 w'.heap)∧wpAnyG P ops Q fuel (keepG o G) (listed.setIfInBounds j true) a' w') a w
section
variable {P : Program} {ops : Array Oper} {Q : Exit → Act → World → Prop}
theorem wpAnyG_any: ∀(fuel:Nat) (G:List (Nat×(Heap→Prop))) (listed:Array Bool) (a:Act) (w:World),wpAnyG P ops Q fuel G listed a w→wpAny P .any ops Q fuel listed a w
 |0,_,_,_,_,h=>h
 |fuel+1,G,listed,a,w,h=>⟨h.1,fun i hi=>by
   obtain⟨_,o,ho,_⟩:=mem_ready.1 hi
   exact wpOp_mono (fun a' w' h'=>wpAnyG_any fuel _ _ a' w' h'.2) (h.2 i hi o ho)⟩
theorem wpAnyG_sub: ∀(fuel:Nat) (G G':List (Nat×(Heap→Prop))) (listed:Array Bool) (a:Act) (w:World),(∀g∈G',g∈G)→wpAnyG P ops Q fuel G listed a w→wpAnyG P ops Q fuel G' listed a w
 |0,_,_,_,_,_,_,h=>h
 |fuel+1,G,G',listed,a,w,hs,h=>⟨h.1,fun i hi o ho=>by
   have hk: ∀g∈keepG o G',g∈keepG o G:=fun g hg=>List.mem_filter.2 ⟨hs g (keepG_mem hg),(List.mem_filter.1 hg).2⟩
   exact wpOp_mono (fun a' w' h'=>⟨fun g hg=>h'.1 g (hk g hg),wpAnyG_sub fuel _ _ _ a' w' hk h'.2⟩) (h.2 i hi o ho)⟩
theorem wpAnyG_true (i:Nat): ∀(fuel:Nat) (G:List (Nat×(Heap→Prop))) (listed:Array Bool) (a:Act) (w:World),wpAnyG P ops Q fuel G listed a w→wpAnyG P ops Q fuel ((i,fun _=>True)::G) listed a w
 |0,_,_,_,_,h=>h
 |fuel+1,G,listed,a,w,h=>⟨h.1,fun j hj o ho=>by
   refine wpOp_mono (fun a' w' h'=>⟨fun g hg=> ?_, ?_⟩) (h.2 j hj o ho)
   ·obtain⟨h1,h2⟩:=List.mem_filter.1 hg
    rcases List.mem_cons.1 h1 with e|e
    ·rw[e];trivial
    ·exact h'.1 g (List.mem_filter.2 ⟨e,h2⟩)
   ·have:=wpAnyG_true i fuel _ _ a' w' h'.2
    refine wpAnyG_sub fuel _ _ _ a' w' (fun g hg=> ?_) this
    obtain⟨h1,h2⟩:=List.mem_filter.1 hg
    rcases List.mem_cons.1 h1 with e|e
    ·rw[e];exact List.mem_cons_self
    ·exact List.mem_cons_of_mem _ (List.mem_filter.2 ⟨e,h2⟩)⟩
theorem waits_false {oj:Oper} {i:Nat} (h: ∀e∈oj.after,Region.binds .any e=true→e.on≠i):waits oj i=false:=by
 unfold waits
 rw[List.any_eq_false]
 intro e he
 simp only[Bool.and_eq_true,not_and]
 intro hb hq
 exact h e (by simpa using he) hb (Nat.eq_of_beq_eq_true hq)
theorem wpAnyG_first {i:Nat} {oi:Oper} {v:Value} {S:Heap→Prop} (hi:ops[i]? =some oi) (hsel: ∀(j:Nat) (o:Oper) cs b,ops[j]? =some o→o.op≠ .select cs b)
  (hQ: ∀c a w,Q (.panic c) (a.put oi.dst v) w→Q (.panic c) a w):
  ∀(fuel:Nat) (G:List (Nat×(Heap→Prop))) (listed:Array Bool) (a:Act) (w:World),
   (∀j oj,ops[j]? =some oj→j≠i→listed.getD j true=false→(∀e∈oj.after,Region.binds .any e=true→e.on≠i)→oi.apart ops oj=true)→
   i∈Region.ready .any ops listed→YieldsIf P ops (fun w=>S w.heap) oi v a→S w.heap→(∀g∈G,g.2 w.heap)→
   wpAnyG P ops Q fuel ((i,S)::G) (listed.setIfInBounds i true) (a.put oi.dst v) w→wpAnyG P ops Q (fuel+1) G listed a w:=by
 intro fuel
 induction fuel with
 |zero=>
  intro G listed a w _ hr hy hS hG H
  refine⟨fun h=>(by rw[h] at hr;cases hr),fun j hj o ho=> ?_⟩
  by_cases hji:j=i
  ·subst hji
   exact hy.wpOp hi hS ⟨fun g hg=>hG g (keepG_mem hg),H⟩
  ·have:=ready_mono hj hji
   rw[H.1] at this
   cases this
 |succ fuel ih=>
  intro G listed a w hfree hr hy hS hG H
  refine⟨fun h=>(by rw[h] at hr;cases hr),fun j hj o ho=> ?_⟩
  by_cases hji:j=i
  ·subst hji
   refine hy.wpOp hi hS ⟨fun g hg=>hG g (keepG_mem hg),wpAnyG_sub _ _ _ _ _ _ (fun g hg=>List.mem_cons_of_mem _ (keepG_mem hg)) H⟩
  ·have h1:=H.2 j (ready_mono hj hji) o ho
   obtain⟨hjun,oj,hoj,hall⟩:=mem_ready.1 hj
   obtain rfl:oj=o:=by rw[ho] at hoj;exact(Option.some.inj hoj).symm
   have hnot: ∀e∈oj.after,Region.binds .any e=true→e.on≠i:=fun e he hb heq=>by
    have h1:=hall e he hb
    have h0:=(mem_ready.1 hr).1
    rw[heq] at h1
    rcases Nat.lt_or_ge i listed.size with h'|h'
    ·simp[h'] at h0 h1;rw[h0] at h1;cases h1
    ·simp[Array.getElem?_eq_none h'] at h1
   have hkeep:keepG oj ((i,S)::G)=(i,S)::keepG oj G:=by
    unfold keepG
    rw[List.filter_cons,if_pos]
    simp[waits_false hnot]
   rw[hkeep] at h1
   have h2:=wpOp_putIf hoj (hfree j oj hoj hji hjun hnot) (fun cs b=>hsel i oi cs b hi) (fun cs b=>hsel j oj cs b hoj) hQ hy h1
   have hfree': ∀k ok,ops[k]? =some ok→k≠i→(listed.setIfInBounds j true).getD k true=false→
     (∀e∈ok.after,Region.binds .any e=true→e.on≠i)→oi.apart ops ok=true:=fun k ok hk hki hun hno=>by
    refine hfree k ok hk hki ?_ hno
    by_cases hjk:j=k
    ·subst hjk;exact hjun
    ·rw[getD_set_ne true hjk] at hun;exact hun
   refine wpOp_mono (fun a' w' h3=> ?_) h2
   obtain⟨hy',hall',hrest⟩:=h3
   refine⟨fun g hg=>hall' g (List.mem_cons_of_mem _ hg), ?_⟩
   refine ih (keepG oj G) (listed.setIfInBounds j true) a' w' hfree' (ready_mono hr (Ne.symm hji)) hy' (hall' _ List.mem_cons_self) (fun g hg=>hall' g (List.mem_cons_of_mem _ hg)) ?_
   rw[Array.setIfInBounds_comm _ _ hji]
   exact hrest
end
inductive Plan where
 |done
 |op (i:Nat) (p:Plan)
 |alts (q:Plan)
 |fork (i:Nat) (p q:Plan)
 |noalt
def lenB:Plan→Nat→Bool
 | .done,n=>Nat.beq n 0
 | .op _ p,n+1=>lenB p n
 | .alts q,n+1=>lenB q (n+1)
 | .fork _ p q,n+1=>lenB p n && lenB q (n+1)
 | .noalt,_=>true
 |_,_=>false
def planB (P:Program) (ops:Array Oper):Plan→Option (List Nat)→Array Bool→Bool
 | .done,none,listed=>(Region.ready .any ops listed).isEmpty
 | .op i rest,none,listed=>
  (match ops[i]? with
   |some o=>(match isRead P o with
    |true=>(Region.ready .any ops listed).contains i && Region.free .any ops listed i
    |false=>(match Region.ready .any ops listed with| [j]=>Nat.beq i j|_=>false))
   |none=>false) && planB P ops rest none (listed.setIfInBounds i true)
 | .alts q,none,listed=>(match Region.ready .any ops listed with| []=>false|j::js=>planB P ops q (some (j::js)) listed)
 | .fork i p q,some R,listed=>(match ops[i]? with
   |some o=> !isRead P o
   |none=>false) && planB P ops p none (listed.setIfInBounds i true) && planB P ops q (some (R.filter fun j=> !Nat.beq i j)) listed
 | .noalt,some R,_=>R.isEmpty
 |_,_,_=>false
def heldK (h:Heap) (K:Prop):List (Nat×(Heap→Prop))→Prop
 | []=>K
 |g::G=>g.2 h∧heldK h K G
theorem heldK_ok {h:Heap} {K:Prop} : ∀ {G:List (Nat×(Heap→Prop))},heldK h K G→(∀g∈G,g.2 h)∧K
 | [],hh=>⟨(fun _ hm=>by cases hm),hh⟩
 |_::_,hh=>by
  obtain⟨h1,h2⟩:=heldK_ok hh.2
  refine⟨fun g' hm=> ?_,h2⟩
  rcases List.mem_cons.1 hm with e|e
  ·rw[e];exact hh.1
  ·exact h1 _ e
def addG (i:Nat) (S:Option (Heap→Prop)) (G:List (Nat×(Heap→Prop))):List (Nat×(Heap→Prop)):=
 match S with
 |some S=>(i,S)::G
 |none=>G
def denPlan (P:Program) (n:Nat) (ops:Array Oper):Plan→List (Nat×(Heap→Prop))→Env→Heap→(Env→Heap→Prop)→Prop
 | .done,_,σ,h,K=>K σ h
 | .op i rest,G,σ,h,K=>(match ops[i]? with
  |some o=>gsplit ops o σ
    (fun σ=>(match isRead P o with
     |true=>denRead P o σ h fun v S=>putK n σ o.dst v fun σ'=>denPlan P n ops rest (addG i S G) σ' h K
     |false=>denEff P o σ h fun v h'=>heldK h' (putK n σ o.dst v fun σ'=>denPlan P n ops rest (keepG o G) σ' h' K) (keepG o G)))
    (fun σ=>putK n σ o.dst undef fun σ'=>denPlan P n ops rest G σ' h K)
  |none=>False)
 | .alts q,G,σ,h,K=>denPlan P n ops q G σ h K
 | .fork i rest q,G,σ,h,K=>(match ops[i]? with
  |some o=>gsplit ops o σ
    (fun σ=>denEff P o σ h fun v h'=>heldK h' (putK n σ o.dst v fun σ'=>denPlan P n ops rest (keepG o G) σ' h' K) (keepG o G))
    (fun σ=>putK n σ o.dst undef fun σ'=>denPlan P n ops rest G σ' h K)
  |none=>False)∧denPlan P n ops q G σ h K
 | .noalt,_,_,_,_=>True
theorem denStep_ok {P:Program} {n:Nat} {ops:Array Oper} {K:Env→Heap→Prop} {a0:Act} {w0:World} {rest:Plan} {i m:Nat} {o:Oper} {listed:Array Bool} {G:List (Nat×(Heap→Prop))} {σ:Env} {a:Act} {w:World}
  (ih: ∀G σ a w,Rel n σ a→Same w0 w→Unch (opWrites ops) a0 a→(∀g∈G,g.2 w.heap)→denPlan P n ops rest G σ w.heap K→wpAnyG P ops (upR n a0 w0 (opWrites ops) K) m G (listed.setIfInBounds i true) a w)
  (ho:ops[i]? =some o) (hr:Rel n σ a) (hs:Same w0 w) (hu:Unch (opWrites ops) a0 a) (hG: ∀g∈G,g.2 w.heap)
  (h:gsplit ops o σ (fun σ=>denEff P o σ w.heap fun v h'=>heldK h' (putK n σ o.dst v fun σ'=>denPlan P n ops rest (keepG o G) σ' h' K) (keepG o G)) (fun σ=>putK n σ o.dst undef fun σ'=>denPlan P n ops rest G σ' w.heap K)):
  wpOp P ops (upR n a0 w0 (opWrites ops) K) i (fun a' w'=>(∀g∈keepG o G,g.2 w'.heap)∧wpAnyG P ops (upR n a0 w0 (opWrites ops) K) m (keepG o G) (listed.setIfInBounds i true) a' w') a w:=by
 rcases gsplit_ok hr h with⟨hw,σ',hr',h⟩|⟨hw,σ',hr',hskip⟩
 ·unfold wpOp
  simp only[ho,hw,if_true]
  refine .inl ((denEff_ok hr'.fits h).wp ?_)
  intro v w' hk hs'
  obtain⟨h1,h2⟩:=heldK_ok hk
  obtain⟨σ1,hr1,h3⟩:=putK_ok hr' h2
  exact⟨h1,ih _ σ1 _ w' hr1 (hs.trans hs') (hu.trans (Unch.put (opWrites_mem ho))) h1 h3⟩
 ·unfold wpOp
  simp only[ho,hw,Bool.false_eq_true,if_false]
  obtain⟨σ1,hr1,h3⟩:=putK_ok hr' hskip
  have ih:=ih G σ1 _ w hr1 hs (hu.trans (Unch.put (opWrites_mem ho))) hG h3
  exact⟨fun g hg=>hG g (keepG_mem hg),wpAnyG_sub _ _ _ _ _ _ (fun g hg=>keepG_mem hg) ih⟩
theorem denPlan_both {P:Program} {n:Nat} {ops:Array Oper} {K:Env→Heap→Prop} {a0:Act} {w0:World} (hsel:Region.noSelect ops=true) (plan:Plan):
  (∀(m:Nat) (listed:Array Bool) (G:List (Nat×(Heap→Prop))) (σ:Env) (a:Act) (w:World),lenB plan m=true→
   planB P ops plan none listed=true→Rel n σ a→Same w0 w→Unch (opWrites ops) a0 a→(∀g∈G,g.2 w.heap)→denPlan P n ops plan G σ w.heap K→
   wpAnyG P ops (upR n a0 w0 (opWrites ops) K) m G listed a w)∧
  (∀(m:Nat) (R:List Nat) (listed:Array Bool) (G:List (Nat×(Heap→Prop))) (σ:Env) (a:Act) (w:World),lenB plan (m+1)=true→
   planB P ops plan (some R) listed=true→Rel n σ a→Same w0 w→Unch (opWrites ops) a0 a→(∀g∈G,g.2 w.heap)→denPlan P n ops plan G σ w.heap K→
   ∀j∈R,∀o,ops[j]? =some o→wpOp P ops (upR n a0 w0 (opWrites ops) K) j (fun a' w'=>(∀g∈keepG o G,g.2 w'.heap)∧wpAnyG P ops (upR n a0 w0 (opWrites ops) K) m (keepG o G) (listed.setIfInBounds j true) a' w') a w):=by
 induction plan with
 |done=>
  refine⟨fun m listed G σ a w hl hp hr hs hu hG h=> ?_,fun m R listed G σ a w hl hp=>by cases hp⟩
  obtain rfl:m=0:=Nat.eq_of_beq_eq_true hl
  simp only[planB,List.isEmpty_iff] at hp
  exact⟨hp,rfl,σ,hr,h,hs,hu⟩
 |noalt=>
  refine⟨fun m listed G σ a w hl hp=>(by cases hp),fun m R listed G σ a w hl hp hr hs hu hG h j hj=> ?_⟩
  simp only[planB,List.isEmpty_iff] at hp
  subst hp;cases hj
 |alts q ih=>
  refine⟨fun m listed G σ a w hl hp hr hs hu hG h=> ?_,fun m R listed G σ a w hl hp=>by cases hp⟩
  cases m with
  |zero=>cases hl
  |succ m=>
   simp only[planB] at hp
   split at hp
   ·cases hp
   ·rename_i j js hready
    refine⟨(fun e=>by rw[hready] at e;cases e),fun j' hj' o ho=> ?_⟩
    rw[hready] at hj'
    exact ih.2 m _ listed G σ a w hl hp hr hs hu hG h j' hj' o ho
 |fork i rest q ih1 ih2=>
  refine⟨fun m listed G σ a w hl hp=>(by cases hp),fun m R listed G σ a w hl hp hr hs hu hG h j hj o ho=> ?_⟩
  simp only[planB,Bool.and_eq_true] at hp
  obtain⟨⟨hp1,hp2⟩,hp3⟩:=hp
  simp only[lenB,Bool.and_eq_true] at hl
  simp only[denPlan] at h
  by_cases hji:i=j
  ·subst hji
   have h:=h.1
   rw[ho] at h
   exact denStep_ok (fun G σ a w hr hs hu hG h=>ih1.1 m _ G σ a w hl.1 hp2 hr hs hu hG h) ho hr hs hu hG h
  ·refine ih2.2 m _ listed G σ a w hl.2 hp3 hr hs hu hG h.2 j (List.mem_filter.2 ⟨hj, ?_⟩) o ho
   have:Nat.beq i j=false:=by cases hb:Nat.beq i j;rfl;exact absurd (Nat.eq_of_beq_eq_true hb) hji
   simp[this]
 |op i rest ih=>
  refine⟨fun m listed G σ a w hl hp hr hs hu hG h=> ?_,fun m R listed G σ a w hl hp=>by cases hp⟩
  cases m with
  |zero=>cases hl
  |succ m=>
   simp only[planB,Bool.and_eq_true] at hp
   obtain⟨hp1,hp2⟩:=hp
   simp only[denPlan] at h
   split at h
   ·rename_i o ho
    simp only[ho] at hp1
    have hQ: ∀v,∀c a w,upR n a0 w0 (opWrites ops) K (.panic c) (a.put o.dst v) w→upR n a0 w0 (opWrites ops) K (.panic c) a w:=fun v c a w hq=>by cases hq.1
    have take: ∀(v:Value) (S:Option (Heap→Prop)) (σ':Env),isRead P o=true→Rel n σ' (a.put o.dst v)→YieldsIf P ops (fun w=>okS S w.heap) o v a→okS S w.heap→
      denPlan P n ops rest (addG i S G) σ' w.heap K→wpAnyG P ops (upR n a0 w0 (opWrites ops) K) (m+1) G listed a w:=fun v S σ' hread hr' hy hS hd=>by
     rw[hread] at hp1
     simp only[Bool.and_eq_true] at hp1
     have hG': ∀g∈addG i S G,g.2 w.heap:=by
      intro g hg
      cases S with
      |none=>exact hG g hg
      |some S=>
       rcases List.mem_cons.1 hg with e|e
       ·rw[e];exact hS
       ·exact hG g e
     have ih:=ih.1 m _ (addG i S G) σ' (a.put o.dst v) w hl hp2 hr' hs (hu.trans (Unch.put (opWrites_mem ho))) hG' hd
     refine wpAnyG_first (S:=okS S) ho (Region.noSelect_spec hsel) (hQ v) m G listed a w (Region.free_spec ho hp1.2) (by simpa using hp1.1) hy hS hG ?_
     cases S with
     |none=>exact wpAnyG_true i _ _ _ _ _ ih
     |some S=>exact ih
    cases hread:isRead P o with
    |true=>
     rcases gsplit_ok hr h with⟨hw,σ',hr',h⟩|⟨hw,σ',hr',hskip⟩
     ·rw[hread] at h
      obtain⟨v,S,h1,h2,h3⟩:=denRead_ok hr'.fits h
      obtain⟨σ1,hr1,h4⟩:=putK_ok hr' h1
      exact take v S σ1 hread hr1 (.inl ⟨hw,fun w' hS=>rd_run _ _ _ (h3 _ hS)⟩) h2 h4
     ·obtain⟨σ1,hr1,h4⟩:=putK_ok hr' hskip
      exact take undef none σ1 hread hr1 (.inr ⟨hw,rfl⟩) trivial h4
    |false=>
     rw[hread] at hp1 h
     simp only at hp1 h
     have hready:Region.ready .any ops listed= [i]:=by
      split at hp1
      ·rename_i j hj;rw[hj,Nat.eq_of_beq_eq_true hp1]
      ·cases hp1
     refine⟨(fun e=>by rw[hready] at e;cases e),fun j hj o' ho'=> ?_⟩
     rw[hready] at hj
     obtain rfl:j=i:=by simpa using hj
     obtain rfl:o'=o:=by rw[ho] at ho';exact(Option.some.inj ho').symm
     exact denStep_ok (fun G σ a w hr hs hu hG h=>ih.1 m _ G σ a w hl hp2 hr hs hu hG h) ho hr hs hu hG h
   ·exact h.elim
inductive Ann where
 |leaf
 |seq (a b:Ann)
 |cond (a b:Ann)
 |block (a:Ann)
 |loop (L:List (Nat×Sh)) (a:Ann)
 |join (L:List (Nat×Sh)) (a:Ann)
 |plan (p:Plan)
 |scope (l:Nat) (L:List (Nat×Sh)) (a b:Ann)
 |typed (ty:List (Nat×Sh))
def writes:Code→List Nat
 | .region _ ops _=>opWrites ops
 | .seq a b=>writes a++writes b
 | .cond _ a b=>writes a++writes b
 | .block _ a=>writes a
 | .loop a=>writes a
 | .scope a=>writes a
 |_=> []
def Env.forget (σ:Env) (ws:List Nat):Env:=fun t=>bif ws.any (Nat.beq t) then none else σ t
theorem Env.forget_some {σ:Env} {ws:List Nat} {t:Nat} {v:Value} (h:σ.forget ws t=some v):t∉ws∧σ t=some v:=by
 unfold Env.forget at h
 cases hq:ws.any (Nat.beq t) with
 |true=>rw[hq] at h;cases h
 |false=>
  rw[hq] at h
  refine⟨fun hm=> ?_,h⟩
  have:=List.any_eq_false.1 hq t hm
  simp at this
def thenK (K:Env→Heap→Prop) (Q:Exit→Env→Heap→Prop):Exit→Env→Heap→Prop
 | .normal=>K
 |e=>Q e
def blockK (id:Nat) (Q:Exit→Env→Heap→Prop):Exit→Env→Heap→Prop
 | .exit i=>(match Nat.beq i id with|true=>Q .normal|false=>Q (.exit i))
 |e=>Q e
def JoinP {α:Type} (F:α) (B:α→Prop):Prop:=B F
def gotoK (l:Nat) (K:Env→Heap→Prop) (Q:Exit→Env→Heap→Prop):Exit→Env→Heap→Prop
 | .goto l'=>(match Nat.beq l' l with|true=>K|false=>fun _ _=>False)
 |e=>Q e
def hasLabel:Code→Nat→Bool
 | .seq a b,l=>hasLabel a l||hasLabel b l
 | .label l',l=>Nat.beq l' l
 |_,_=>false
def den (P:Program) (n:Nat):Ann→Option Nat→Code→(Exit→Env→Heap→Prop)→Env→Heap→Prop
 | .leaf,none,c,Q,σ,h=>(match c with
  | .skip=>Q .normal σ h
  | .label _=>Q .normal σ h
  | .exit id=>Q (.exit id) σ h
  | .goto l=>Q (.goto l) σ h
  | .ret=>Q .ret σ h
  | .region _ ops false=>denOps P n ops ops.toList σ h (Q .normal)
  |_=>False)
 | .leaf,some l,c,Q,σ,h=>(match c with
  | .label l'=>(match Nat.beq l' l with|true=>Q (.goto l) σ h|false=>False)
  |_=>False)
 | .plan p,none,c,Q,σ,h=>(match c with
  | .region _ ops true=>(match (P.follows .mixedOrders && Region.noSelect ops && lenB p ops.size && planB P ops p none (Array.replicate ops.size false)) with
   |true=>denPlan P n ops p [] σ h (Q .normal)
   |false=>False)
  |_=>False)
 | .seq a b,none,c,Q,σ,h=>(match c with
  | .seq c d=>den P n a none c (thenK (fun σ' h'=>den P n b none d Q σ' h') Q) σ h
  |_=>False)
 | .seq a b,some l,c,Q,σ,h=>(match c with
  | .seq c d=>(match hasLabel c l with
   |true=>den P n a (some l) c Q σ h
   |false=>den P n a none c (thenK (fun σ' h'=>den P n b (some l) d Q σ' h') Q) σ h)
  |_=>False)
 | .cond a b,none,c,Q,σ,h=>(match c with
  | .cond x c d=>(match σ.ev x with
   |some (.bool q)=>if q=true then den P n a none c Q σ h else den P n b none d Q σ h
   |_=>False)
  |_=>False)
 | .block a,none,c,Q,σ,h=>(match c with
  | .block id c=>den P n a none c (blockK id Q) σ h
  |_=>False)
 | .loop L a,none,c,Q,σ,h=>(match c with
  | .loop c=> ∃(I:Tele (Heap→Prop) L) (μ:Tele (Heap→Nat) L),apE False L I σ (fun f=>f h)∧
    allE L (fun σ'=> ∀h',apE False L I σ' (fun f=>f h')→
     den P n a none c (thenK (fun σ'' h''=>apE False L I σ'' (fun f=>f h'')∧apE 0 L μ σ'' (fun f=>f h'')<apE 0 L μ σ' (fun f=>f h')) Q) σ' h') (σ.forget (writes c))
  |_=>False)
 | .join L a,none,c,Q,σ,h=>JoinP (α:=Tele (Heap→Prop) L) (lamE L (fun σ' h'=>Q .normal σ' h') (σ.forget (writes c)))
   (fun J=>den P n a none c (thenK (fun σ' h'=>apE False L J σ' (fun f=>f h')) Q) σ h)
 | .typed ty,none,c,Q,σ,h=>(match c with
  | .region _ ops false=>denOpsT P n ops ty ops.toList σ h (Q .normal)
  |_=>False)
 | .scope l L a b,none,c,Q,σ,h=>(match c with
  | .scope c=>(match findLabel c l with
   |some r=> ∃(I:Tele (Heap→Prop) L) (μ:Tele (Heap→Nat) L),
     den P n a (some l) c (gotoK l (fun σ' h'=>apE False L I σ' (fun f=>f h')) Q) σ h∧
     allE L (fun σ'=> ∀h',apE False L I σ' (fun f=>f h')→
      den P n b none r (gotoK l (fun σ'' h''=>apE False L I σ'' (fun f=>f h'')∧apE 0 L μ σ'' (fun f=>f h'')<apE 0 L μ σ' (fun f=>f h')) Q) σ' h') (σ.forget (writes c))
   |none=>False)
  |_=>False)
 |_,_,_,_,_,_=>False
def opened:Code→List Code
 | .skip=> []
 | .seq a b=>opened a++ [b]
 |c=> [c]
theorem opened_steps {P:Program} {b:Frame} {a:Act} {cs:List Frame} {w:World} : ∀(c:Code) (k:List Item),Steps P (lone (b.at a (.code c::k)) cs w) (lone (b.at a ((opened c).map Item.code++k)) cs w)
 | .skip,k=> .one step_skip
 | .seq x y,k=>by
  simp only[opened,List.map_append,List.map_cons,List.map_nil,List.append_assoc,List.cons_append,List.nil_append]
  exact .head step_seq (opened_steps x (.code y::k))
 | .region _ _ _,_=> .refl _ _
 | .cond _ _ _,_=> .refl _ _
 | .block _ _,_=> .refl _ _
 | .loop _,_=> .refl _ _
 | .rangeFunc _ _ _ _,_=> .refl _ _
 | .exit _,_=> .refl _ _
 | .scope _,_=> .refl _ _
 | .label _,_=> .refl _ _
 | .goto _,_=> .refl _ _
 | .ret,_=> .refl _ _
 | .refuse _,_=> .refl _ _
theorem hasLabel_find: ∀(c:Code) (l:Nat),hasLabel c l=(findLabel c l).isSome
 | .seq a b,l=>by
  unfold hasLabel findLabel
  rw[hasLabel_find a l,hasLabel_find b l]
  cases findLabel a l<;>simp
 | .label l',l=>by
  unfold hasLabel findLabel
  by_cases h:l'=l
  ·subst h;simp
  ·have:Nat.beq l' l=false:=by cases hb:Nat.beq l' l;rfl;exact absurd (Nat.eq_of_beq_eq_true hb) h
   simp[this,h]
 | .skip,_=>rfl
 | .region _ _ _,_=>rfl
 | .cond _ _ _,_=>rfl
 | .block _ _,_=>rfl
 | .loop _,_=>rfl
 | .rangeFunc _ _ _ _,_=>rfl
 | .exit _,_=>rfl
 | .scope _,_=>rfl
 | .goto _,_=>rfl
 | .ret,_=>rfl
 | .refuse _,_=>rfl
theorem findLabel_writes: ∀(c:Code) (l:Nat) (r:Code),findLabel c l=some r→ ∀t,t∈writes r→t∈writes c
 | .seq a b,l,r,h,t,ht=>by
  unfold findLabel at h
  split at h
  ·rename_i rest hr
   simp only[Option.some.injEq] at h
   subst h
   rcases List.mem_append.1 ht with ht|ht
   ·exact List.mem_append_left _ (findLabel_writes a l rest hr t ht)
   ·exact List.mem_append_right _ ht
  ·exact List.mem_append_right _ (findLabel_writes b l r h t ht)
 | .label l',l,r,h,t,ht=>by
  unfold findLabel at h
  split at h
  ·simp only[Option.some.injEq] at h;subst h;cases ht
  ·cases h
 | .skip,_,_,h,_,_=>by cases h
 | .region _ _ _,_,_,h,_,_=>by cases h
 | .cond _ _ _,_,_,h,_,_=>by cases h
 | .block _ _,_,_,h,_,_=>by cases h
 | .loop _,_,_,h,_,_=>by cases h
 | .rangeFunc _ _ _ _,_,_,h,_,_=>by cases h
 | .exit _,_,_,h,_,_=>by cases h
 | .scope _,_,_,h,_,_=>by cases h
 | .goto _,_,_,h,_,_=>by cases h
 | .ret,_,_,h,_,_=>by cases h
 | .refuse _,_,_,h,_,_=>by cases h
def wpTo (P:Program) (l:Nat) (c:Code) (Q:Exit→Act→World→Prop) (a:Act) (w:World):Prop:=
 ∀(b:Frame) (k:List Item) (cs:List Frame),
  (∃e a' w',Q e a' w'∧e≠ .normal∧Arrives P (lone (b.at a (.code c::k)) cs w) b k cs e a' w')∨
  (∃a' w' r,Q (.goto l) a' w'∧findLabel c l=some r∧Steps P (lone (b.at a (.code c::k)) cs w) (lone (b.at a' ((opened r).map Item.code++k)) cs w'))
def up (n:Nat) (a0:Act) (w0:World) (W:List Nat) (Q:Exit→Env→Heap→Prop):Exit→Act→World→Prop:=
 fun e a w=> ∃σ,Rel n σ a∧Q e σ w.heap∧Same w0 w∧Unch W a0 a
theorem up_of_upR {n:Nat} {a0:Act} {w0:World} {W:List Nat} {Q:Exit→Env→Heap→Prop} {e:Exit} {a:Act} {w:World} (h:upR n a0 w0 W (Q .normal) e a w):up n a0 w0 W Q e a w:=by
 obtain⟨rfl,h⟩:=h;exact h
def envOf (a:Act):Env:=fun t=>some (a.tmps.getD t undef)
theorem Rel.of_sub {n:Nat} {σ σ' σ'':Env} {a a':Act} {W:List Nat} (hr:Rel n σ a) (hr':Rel n σ' a') (hu:Unch W a a') (hs:Sub σ'' (σ.forget W) σ'):Rel n σ'' a':=
 ⟨hr'.defers,hr'.size,fun t v hv=>by
  rcases hs t v hv with h|h
  ·exact hr'.at_ t v h
  ·obtain⟨h1,h2⟩:=Env.forget_some h
   rw[hu t h1];exact hr.at_ t v h2⟩
theorem apE_envOf {Y:Type} {d:Y} {X:Type} {L:List (Nat×Sh)} {f:Tele X L} {K:X→Y} {n:Nat} {σ:Env} {a:Act} (hr:Rel n σ a) (hd: ∀t s,(t,s)∈L→ ∃v,σ t=some v):apE d L f (envOf a) K=apE d L f σ K:=
 apE_congr L f fun t s hm=>by
  obtain⟨v,hv⟩:=hd t s hm
  rw[hv]
  unfold envOf
  rw[hr.at_ t v hv]
def wpo (P:Program) (c:Code) (Q:Exit→Act→World→Prop) (a:Act) (w:World):Prop:=
 ∀(b:Frame) (k:List Item) (cs:List Frame),∃e a' w',Q e a' w'∧Arrives P (lone (b.at a ((opened c).map Item.code++k)) cs w) b k cs e a' w'
theorem wpo.wp {P:Program} {c:Code} {Q:Exit→Act→World→Prop} {a:Act} {w:World} (h:wpo P c Q a w):c.wp P Q a w:=fun b k cs=>by
 obtain⟨e,a',w',hq,harr⟩:=h b k cs
 exact⟨e,a',w',hq, .of_steps (opened_steps c k) harr⟩
theorem wpo_of_wp {P:Program} {c:Code} {Q:Exit→Act→World→Prop} {a:Act} {w:World} (hc:opened c= [c]) (h:c.wp P Q a w):wpo P c Q a w:=fun b k cs=>by
 rw[hc];exact h b k cs
theorem wpo_mono {P:Program} {c:Code} {Q Q':Exit→Act→World→Prop} {a:Act} {w:World} (h:wpo P c Q a w) (hq: ∀e a w,Q e a w→Q' e a w):wpo P c Q' a w:=
 fun b k cs=>let ⟨e,a',w',q,r⟩:=h b k cs;⟨e,a',w',hq _ _ _ q,r⟩
theorem wpo_seq {P:Program} {x y:Code} {Q:Exit→Act→World→Prop} {a:Act} {w:World} (h:wpo P x (Exit.then (wpo P y Q) Q) a w):wpo P (.seq x y) Q a w:=by
 intro b k cs
 simp only[opened,List.map_append,List.map_cons,List.map_nil,List.append_assoc,List.cons_append,List.nil_append]
 obtain⟨e,a₁,w₁,hq,harr⟩:=h b (.code y::k) cs
 cases e with
 |normal=>
  obtain⟨e₂,a₂,w₂,hq₂,harr₂⟩:=hq b k cs
  exact⟨e₂,a₂,w₂,hq₂, .of_steps (Steps.trans harr (opened_steps y k)) harr₂⟩
 |exit id=>exact⟨_,a₁,w₁,hq, .pass (x:= .code y) rfl (fun _ _=> .inl (by simp)) harr⟩
 |goto l=>exact⟨_,a₁,w₁,hq, .pass (x:= .code y) rfl (fun _ _=> .inl (by simp)) harr⟩
 |ret=>exact⟨_,a₁,w₁,hq, .pass (x:= .code y) rfl (fun _ _=> .inl (by simp)) harr⟩
 |panic ch=>exact⟨_,a₁,w₁,hq, .pass (x:= .code y) rfl (fun _ _=> .inl (by simp)) harr⟩
 |outgrown=>exact⟨_,a₁,w₁,hq, .pass (x:= .code y) rfl (fun _ _=> .inl (by simp)) harr⟩
theorem wp_scope_label {P:Program} {Q:Exit→Act→World→Prop} {a:Act} {w:World} {c r:Code} {l:Nat} (hf:findLabel c l=some r) (I:Act→World→Prop) (μ:Act→World→Nat)
  (Q1:Exit→Act→World→Prop) (Q2:Act→World→Exit→Act→World→Prop)
  (h0:wpTo P l c Q1 a w) (h1: ∀a' w',Q1 (.goto l) a' w'→I a' w') (h1': ∀e a' w',e≠ .goto l→e≠ .normal→Q1 e a' w'→Q e a' w'∧ ∀x,e≠ .goto x)
  (round: ∀a w,I a w→wpo P r (Q2 a w) a w) (h2: ∀a w a' w',I a w→Q2 a w (.goto l) a' w'→I a' w'∧μ a' w'<μ a w) (h2': ∀a w e a' w',I a w→e≠ .goto l→Q2 a w e a' w'→Q e a' w'∧ ∀x,e≠ .goto x):
  (Code.scope c).wp P Q a w:=by
 intro b k cs
 have out: ∀(m:Machine) (e:Exit) (a':Act) (w':World),(∀x,e≠ .goto x)→Arrives P m b (.inScope c::k) cs e a' w'→Arrives P m b k cs e a' w':=by
  intro m e a' w' hne harr
  cases e with
  |normal=>exact Steps.trans harr (.one step_inScope)
  |exit id=>exact fun k' hk=>harr k' (by simp[exitTo,hk])
  |goto x=>exact absurd rfl (hne x)
  |ret=>exact harr
  |panic ch=>exact harr
  |outgrown=>exact harr
 have key: ∀n a w,μ a w=n→I a w→ ∃e a' w',Q e a' w'∧Arrives P (lone (b.at a ((opened r).map Item.code++ .inScope c::k)) cs w) b k cs e a' w':=by
  intro n
  induction n using Nat.strongRecOn with
  |_ n ih=>
   intro a w hn hI
   obtain⟨e,a1,w1,hq,harr⟩:=round a w hI b (.inScope c::k) cs
   by_cases he:e= .goto l
   ·subst he
    obtain⟨hI1,hlt⟩:=h2 a w a1 w1 hI hq
    have hst:=harr (.code r:: .inScope c::k) (by simp[gotoIn,hf])
    obtain⟨e2,a2,w2,hq2,harr2⟩:=ih (μ a1 w1) (hn▸hlt) a1 w1 rfl hI1
    exact⟨e2,a2,w2,hq2, .of_steps (Steps.trans hst (opened_steps r _)) harr2⟩
   ·obtain⟨hQ,hne⟩:=h2' a w e a1 w1 hI he hq
    exact⟨e,a1,w1,hQ,out _ e a1 w1 hne harr⟩
 rcases h0 b (.inScope c::k) cs with⟨e,a',w',hq,he2,harr⟩|⟨a',w',r',hq,hr,hst⟩
 ·by_cases he1:e= .goto l
  ·subst he1
   have hst:=harr (.code r:: .inScope c::k) (by simp[gotoIn,hf])
   obtain⟨e2,a2,w2,hq2,harr2⟩:=key _ a' w' rfl (h1 a' w' hq)
   exact⟨e2,a2,w2,hq2, .of_steps (.head step_scope (Steps.trans hst (opened_steps r _))) harr2⟩
  ·obtain⟨hQ,hne⟩:=h1' e a' w' he1 he2 hq
   exact⟨e,a',w',hQ, .of_steps (.one step_scope) (out _ e a' w' hne harr)⟩
 ·rw[hf] at hr
  cases hr
  obtain⟨e2,a2,w2,hq2,harr2⟩:=key _ a' w' rfl (h1 a' w' hq)
  exact⟨e2,a2,w2,hq2, .of_steps (.head step_scope hst) harr2⟩
def Shows (P:Program) (c:Code) (Q:Exit→Act→World→Prop) (a:Act) (w:World):Option Nat→Prop
 |none=>wpo P c Q a w
 |some l=>wpTo P l c Q a w
theorem den_ok {P:Program} {n:Nat} : ∀(ann:Ann) (m:Option Nat) (c:Code) (Q:Exit→Env→Heap→Prop) (σ:Env) (a:Act) (w:World),Rel n σ a→den P n ann m c Q σ w.heap→Shows P c (up n a w (writes c) Q) a w m
 | .leaf,none,c,Q,σ,a,w,hr,h=>by
  unfold den at h
  split at h
  ·exact fun b k cs=>⟨.normal,a,w,⟨σ,hr,h,Same.refl w,Unch.refl _ _⟩, .refl _ _⟩
  ·exact wpo_of_wp rfl (wp_label ⟨σ,hr,h,Same.refl w,Unch.refl _ _⟩)
  ·exact wpo_of_wp rfl (wp_exit ⟨σ,hr,h,Same.refl w,Unch.refl _ _⟩)
  ·exact wpo_of_wp rfl (wp_goto ⟨σ,hr,h,Same.refl w,Unch.refl _ _⟩)
  ·exact wpo_of_wp rfl (wp_ret ⟨σ,hr,h,Same.refl w,Unch.refl _ _⟩)
  ·rename_i id ops
   refine wpo_of_wp rfl (wp_mono (wp_region (Q:=upR n a w (opWrites ops) (Q .normal)) ?_) (fun e a' w' hq=>up_of_upR hq))
   have:=denOps_ok (a0:=a) (w0:=w) ops.toList 0 σ a w (by simp) hr (Same.refl w) (Unch.refl _ _) h
   rw[List.range_eq_range']
   simpa using this
  ·exact h.elim
 | .leaf,some l,c,Q,σ,a,w,hr,h=>by
  unfold den at h
  split at h
  ·rename_i l'
   split at h
   ·rename_i hl
    obtain rfl:l'=l:=Nat.eq_of_beq_eq_true hl
    exact fun b k cs=> .inr ⟨a,w, .skip,⟨σ,hr,h,Same.refl w,Unch.refl _ _⟩,by simp[findLabel], .one step_label⟩
   ·exact h.elim
  ·exact h.elim
 | .plan p,none,c,Q,σ,a,w,hr,h=>by
  unfold den at h
  split at h
  ·rename_i id ops
   split at h
   ·rename_i hb
    simp only[Bool.and_eq_true] at hb
    obtain⟨⟨⟨h1,h2⟩,h3⟩,h4⟩:=hb
    refine wpo_of_wp rfl (wp_mono (wp_region_any (Q:=upR n a w (opWrites ops) (Q .normal)) h1 ?_) (fun e a' w' hq=>up_of_upR hq))
    have:=(denPlan_both (a0:=a) (w0:=w) h2 p).1 ops.size (Array.replicate ops.size false) [] σ a { w with drawn:=w.drawn+1 } h3 h4 hr ⟨rfl,rfl,rfl⟩ (Unch.refl _ _) (fun _ hm=>by cases hm) h
    exact wpAnyG_any _ _ _ _ _ this
   ·exact h.elim
  ·exact h.elim
 | .seq x y,none,c,Q,σ,a,w,hr,h=>by
  unfold den at h
  split at h
  ·rename_i c d
   refine wpo_seq (wpo_mono (den_ok x none c _ σ a w hr h) ?_)
   rintro e a' w' ⟨σ',hr',hq,hs,hu⟩
   have hW: ∀t,t∈writes c→t∈writes (.seq c d):=fun t ht=>List.mem_append_left _ ht
   cases e with
   |normal=>
    refine wpo_mono (den_ok y none d Q σ' a' w' hr' hq) ?_
    rintro e2 a2 w2 ⟨σ2,hr2,hq2,hs2,hu2⟩
    exact⟨σ2,hr2,hq2,hs.trans hs2,(hu.mono hW).trans (hu2.mono fun t ht=>List.mem_append_right _ ht)⟩
   |exit id=>exact⟨σ',hr',hq,hs,hu.mono hW⟩
   |goto l=>exact⟨σ',hr',hq,hs,hu.mono hW⟩
   |ret=>exact⟨σ',hr',hq,hs,hu.mono hW⟩
   |panic ch=>exact⟨σ',hr',hq,hs,hu.mono hW⟩
   |outgrown=>exact⟨σ',hr',hq,hs,hu.mono hW⟩
  ·exact h.elim
 | .seq x y,some l,c,Q,σ,a,w,hr,h=>by
  unfold den at h
  split at h
  ·rename_i c d
   have hW: ∀t,t∈writes c→t∈writes (.seq c d):=fun t ht=>List.mem_append_left _ ht
   have hW2: ∀t,t∈writes d→t∈writes (.seq c d):=fun t ht=>List.mem_append_right _ ht
   split at h
   ·rename_i hl
    have ih:=den_ok x (some l) c Q σ a w hr h
    intro b k cs
    rcases ih b (.code d::k) cs with⟨e,a',w',hq,he2,harr⟩|⟨a',w',r,hq,hf,hst⟩
    ·obtain⟨σ',hr',hq,hs,hu⟩:=hq
     exact .inl ⟨e,a',w',⟨σ',hr',hq,hs,hu.mono hW⟩,he2, .of_steps (.one step_seq) (.pass (x:= .code d) rfl (fun _ _=> .inl he2) harr)⟩
    ·obtain⟨σ',hr',hq,hs,hu⟩:=hq
     refine .inr ⟨a',w', .seq r d,⟨σ',hr',hq,hs,hu.mono hW⟩,by simp[findLabel,hf], .head step_seq ?_⟩
     simpa[opened] using hst
   ·rename_i hl
    have ih:=den_ok x none c _ σ a w hr h
    have hfc:findLabel c l=none:=by
     have:=hasLabel_find c l
     rw[hl] at this
     cases hq:findLabel c l with
     |none=>rfl
     |some r=>rw[hq] at this;cases this
    intro b k cs
    obtain⟨e,a',w',⟨σ',hr',hq,hs,hu⟩,harr⟩:=ih.wp b (.code d::k) cs
    cases e with
    |normal=>
     rcases den_ok y (some l) d Q σ' a' w' hr' hq b k cs with⟨e2,a2,w2,hq2,he2,harr2⟩|⟨a2,w2,r,hq2,hf2,hst2⟩
     ·obtain⟨σ2,hr2,hq2,hs2,hu2⟩:=hq2
      exact .inl ⟨e2,a2,w2,⟨σ2,hr2,hq2,hs.trans hs2,(hu.mono hW).trans (hu2.mono hW2)⟩,he2, .of_steps (.head step_seq harr) harr2⟩
     ·obtain⟨σ2,hr2,hq2,hs2,hu2⟩:=hq2
      exact .inr ⟨a2,w2,r,⟨σ2,hr2,hq2,hs.trans hs2,(hu.mono hW).trans (hu2.mono hW2)⟩,by simp[findLabel,hfc,hf2], .head step_seq (Steps.trans harr hst2)⟩
    |exit id=>exact .inl ⟨_,a',w',⟨σ',hr',hq,hs,hu.mono hW⟩,by simp, .of_steps (.one step_seq) (.pass (x:= .code d) rfl (fun _ _=> .inl (by simp)) harr)⟩
    |goto l'=>exact .inl ⟨_,a',w',⟨σ',hr',hq,hs,hu.mono hW⟩,by simp, .of_steps (.one step_seq) (.pass (x:= .code d) rfl (fun _ _=> .inl (by simp)) harr)⟩
    |ret=>exact .inl ⟨_,a',w',⟨σ',hr',hq,hs,hu.mono hW⟩,by simp, .of_steps (.one step_seq) (.pass (x:= .code d) rfl (fun _ _=> .inl (by simp)) harr)⟩
    |panic ch=>exact .inl ⟨_,a',w',⟨σ',hr',hq,hs,hu.mono hW⟩,by simp, .of_steps (.one step_seq) (.pass (x:= .code d) rfl (fun _ _=> .inl (by simp)) harr)⟩
    |outgrown=>exact .inl ⟨_,a',w',⟨σ',hr',hq,hs,hu.mono hW⟩,by simp, .of_steps (.one step_seq) (.pass (x:= .code d) rfl (fun _ _=> .inl (by simp)) harr)⟩
  ·exact h.elim
 | .cond x y,none,c,Q,σ,a,w,hr,h=>by
  unfold den at h
  split at h
  ·rename_i k c d
   split at h
   ·rename_i q hq
    have he:=hr.fits _ _ hq
    split at h
    ·rename_i ht
     subst ht
     refine wpo_of_wp rfl (wp_cond_true he (wp_mono (den_ok x none c Q σ a w hr h).wp ?_))
     rintro e a' w' ⟨σ',hr',hq,hs,hu⟩
     exact⟨σ',hr',hq,hs,hu.mono fun t ht=>List.mem_append_left _ ht⟩
    ·rename_i ht
     have ht:q=false:=by simpa using ht
     subst ht
     refine wpo_of_wp rfl (wp_cond_false he (wp_mono (den_ok y none d Q σ a w hr h).wp ?_))
     rintro e a' w' ⟨σ',hr',hq,hs,hu⟩
     exact⟨σ',hr',hq,hs,hu.mono fun t ht=>List.mem_append_right _ ht⟩
   ·exact h.elim
  ·exact h.elim
 | .block x,none,c,Q,σ,a,w,hr,h=>by
  unfold den at h
  split at h
  ·rename_i id c
   refine wpo_of_wp rfl (wp_block (wp_mono (den_ok x none c _ σ a w hr h).wp ?_))
   rintro e a' w' ⟨σ',hr',hq,hs,hu⟩
   cases e with
   |exit id'=>
    simp only[Exit.inBlock]
    simp only[blockK] at hq
    by_cases hid:id'=id
    ·subst hid
     simp only[Nat.beq_refl] at hq
     rw[if_pos rfl];exact⟨σ',hr',hq,hs,hu⟩
    ·rw[if_neg hid]
     have:Nat.beq id' id=false:=by cases hb:Nat.beq id' id;rfl;exact absurd (Nat.eq_of_beq_eq_true hb) hid
     rw[this] at hq
     exact⟨σ',hr',hq,hs,hu⟩
   |normal=>exact⟨σ',hr',hq,hs,hu⟩
   |goto l=>exact⟨σ',hr',hq,hs,hu⟩
   |ret=>exact⟨σ',hr',hq,hs,hu⟩
   |panic ch=>exact⟨σ',hr',hq,hs,hu⟩
   |outgrown=>exact⟨σ',hr',hq,hs,hu⟩
  ·exact h.elim
 | .loop L x,none,c,Q,σ,a,w,hr,h=>by
  unfold den at h
  split at h
  ·rename_i c
   obtain⟨I,μ,h0,hstep⟩:=h
   refine wpo_of_wp rfl (wp_loop (fun a' w'=> ∃σ',Rel n σ' a'∧apE False L I σ' (fun f=>f w'.heap)∧Same w w'∧Unch (writes c) a a')
    (fun a' w'=>apE 0 L μ (envOf a') (fun f=>f w'.heap)) ⟨σ,hr,h0,Same.refl w,Unch.refl _ _⟩ ?_)
   rintro a' w' ⟨σ',hr',hI,hs,hu⟩
   obtain⟨σ'',hF,hsub,hL,_⟩:=allE_at L _ I hstep hI
   have hr'':=Rel.of_sub hr hr' hu hsub
   have hI'':apE False L I σ'' (fun f=>f w'.heap):=by rw[apE_congr L I hL];exact hI
   have hd:=hF w'.heap hI''
   refine wp_mono (den_ok x none c _ σ'' a' w' hr'' hd).wp ?_
   rintro e a1 w1 ⟨σ1,hr1,hq,hs1,hu1⟩
   cases e with
   |normal=>
    obtain⟨hI1,hlt⟩:=hq
    refine⟨⟨σ1,hr1,hI1,hs.trans hs1,hu.trans hu1⟩, ?_⟩
    rw[apE_envOf hr1 (apE_def L I hI1),apE_envOf hr'' (apE_def L I hI'')]
    exact hlt
   |exit id=>exact⟨σ1,hr1,hq,hs.trans hs1,hu.trans hu1⟩
   |goto l=>exact⟨σ1,hr1,hq,hs.trans hs1,hu.trans hu1⟩
   |ret=>exact⟨σ1,hr1,hq,hs.trans hs1,hu.trans hu1⟩
   |panic ch=>exact⟨σ1,hr1,hq,hs.trans hs1,hu.trans hu1⟩
   |outgrown=>exact⟨σ1,hr1,hq,hs.trans hs1,hu.trans hu1⟩
  ·exact h.elim
 | .join L x,none,c,Q,σ,a,w,hr,h=>by
  unfold den at h
  unfold JoinP at h
  refine wpo_mono (den_ok x none c _ σ a w hr h) ?_
  rintro e a' w' ⟨σ',hr',hq,hs,hu⟩
  cases e with
  |normal=>
   obtain⟨σ'',hQ,hsub⟩:=apE_lamE L _ hq
   exact⟨σ'',Rel.of_sub hr hr' hu hsub,hQ,hs,hu⟩
  |exit id=>exact⟨σ',hr',hq,hs,hu⟩
  |goto l=>exact⟨σ',hr',hq,hs,hu⟩
  |ret=>exact⟨σ',hr',hq,hs,hu⟩
  |panic ch=>exact⟨σ',hr',hq,hs,hu⟩
  |outgrown=>exact⟨σ',hr',hq,hs,hu⟩
 | .scope l L x y,none,c,Q,σ,a,w,hr,h=>by
  unfold den at h
  split at h
  ·rename_i c
   split at h
   ·rename_i r hf
    obtain⟨I,μ,h0,hstep⟩:=h
    have hWr:=findLabel_writes c l r hf
    have isGoto: ∀(K:Env→Heap→Prop) (e:Exit) (σ':Env) (h':Heap),e≠ .goto l→gotoK l K Q e σ' h'→Q e σ' h'∧ ∀z,e≠ .goto z:=by
     intro K e σ' h' hne hq
     cases e with
     |goto z=>
      simp only[gotoK] at hq
      have:Nat.beq z l=false:=by cases hb:Nat.beq z l;rfl;exact absurd (by rw[Nat.eq_of_beq_eq_true hb]) hne
      rw[this] at hq
      exact hq.elim
     |normal=>exact⟨hq,fun z hz=>by cases hz⟩
     |exit id=>exact⟨hq,fun z hz=>by cases hz⟩
     |ret=>exact⟨hq,fun z hz=>by cases hz⟩
     |panic ch=>exact⟨hq,fun z hz=>by cases hz⟩
     |outgrown=>exact⟨hq,fun z hz=>by cases hz⟩
    refine wpo_of_wp rfl (wp_scope_label hf (fun a' w'=> ∃σ',Rel n σ' a'∧apE False L I σ' (fun f=>f w'.heap)∧Same w w'∧Unch (writes c) a a')
     (fun a' w'=>apE 0 L μ (envOf a') (fun f=>f w'.heap)) _
     (fun a0 w0 e a' w'=> ∃σ',Rel n σ' a'∧gotoK l (fun σ'' h''=>apE False L I σ'' (fun f=>f h'')∧apE 0 L μ σ'' (fun f=>f h'')<apE 0 L μ (envOf a0) (fun f=>f w0.heap)) Q e σ' w'.heap∧Same w w'∧Unch (writes c) a a')
     (den_ok x (some l) c _ σ a w hr h0) ?_ ?_ ?_ ?_ ?_)
    ·rintro a' w' ⟨σ',hr',hq,hs,hu⟩
     simp only[gotoK,Nat.beq_refl] at hq
     exact⟨σ',hr',hq,hs,hu⟩
    ·rintro e a' w' he1 _ ⟨σ',hr',hq,hs,hu⟩
     obtain⟨hq1,hq2⟩:=isGoto _ e σ' _ he1 hq
     exact⟨⟨σ',hr',hq1,hs,hu⟩,hq2⟩
    ·rintro a' w' ⟨σ',hr',hI,hs,hu⟩
     obtain⟨σ'',hF,hsub,hL,_⟩:=allE_at L _ I hstep hI
     have hr'':=Rel.of_sub hr hr' hu hsub
     have hI'':apE False L I σ'' (fun f=>f w'.heap):=by rw[apE_congr L I hL];exact hI
     have hd:=hF w'.heap hI''
     refine wpo_mono (den_ok y none r _ σ'' a' w' hr'' hd) ?_
     rintro e a1 w1 ⟨σ1,hr1,hq,hs1,hu1⟩
     refine⟨σ1,hr1, ?_,hs.trans hs1,hu.trans (hu1.mono hWr)⟩
     cases e with
     |goto z=>
      simp only[gotoK] at hq⊢
      cases hz:Nat.beq z l with
      |false=>rw[hz] at hq;exact hq.elim
      |true=>
       rw[hz] at hq
       obtain⟨q1,q2⟩:=hq
       exact⟨q1,by rw[apE_envOf hr'' (apE_def L I hI'')];exact q2⟩
     |normal=>exact hq
     |exit id=>exact hq
     |ret=>exact hq
     |panic ch=>exact hq
     |outgrown=>exact hq
    ·rintro a0 w0 a' w' _ ⟨σ',hr',hq,hs,hu⟩
     simp only[gotoK,Nat.beq_refl] at hq
     obtain⟨q1,q2⟩:=hq
     refine⟨⟨σ',hr',q1,hs,hu⟩, ?_⟩
     rw[apE_envOf hr' (apE_def L I q1)]
     exact q2
    ·rintro a0 w0 e a' w' _ he ⟨σ',hr',hq,hs,hu⟩
     obtain⟨hq1,hq2⟩:=isGoto _ e σ' _ he hq
     exact⟨⟨σ',hr',hq1,hs,hu⟩,hq2⟩
   ·exact h.elim
  ·exact h.elim
 | .plan _,some _,_,_,_,_,_,_,h=>h.elim
 | .cond _ _,some _,_,_,_,_,_,_,h=>h.elim
 | .block _,some _,_,_,_,_,_,_,h=>h.elim
 | .loop _ _,some _,_,_,_,_,_,_,h=>h.elim
 | .join _ _,some _,_,_,_,_,_,_,h=>h.elim
 | .scope _ _ _ _,some _,_,_,_,_,_,_,h=>h.elim
 | .typed _,some _,_,_,_,_,_,_,h=>h.elim
 | .typed ty,none,c,Q,σ,a,w,hr,h=>by
  unfold den at h
  split at h
  ·rename_i id ops
   refine wpo_of_wp rfl (wp_mono (wp_region (Q:=upR n a w (opWrites ops) (Q .normal)) ?_) (fun e a' w' hq=>up_of_upR hq))
   have:=denOpsT_ok (a0:=a) (w0:=w) ops.toList 0 σ a w (by simp) hr (Same.refl w) (Unch.refl _ _) h
   rw[List.range_eq_range']
   simpa using this
  ·exact h.elim
def resL (P:Program):List ResultVar→Env→Heap→(List Value→Prop)→Prop
 | [],_,_,F=>F []
 | .tmp t::rs,σ,h,F=>onSome (σ t) fun v=>resL P rs σ h fun vs=>F (v::vs)
 | .cell a t::rs,σ,h,F=>(match σ a with
  |some (.pointer p)=>onSome p fun ad=>denLoad P t h ad fun v _=>resL P rs σ h fun vs=>F (v::vs)
  |_=>False)
def oneOr (vs:List Value):Value:=
 match vs with
 | [v]=>v
 |vs=> .tuple vs.toArray
def retK (P:Program) (rs:Array ResultVar) (R:Value→Heap→Prop):Exit→Env→Heap→Prop
 | .normal,σ,h=>resL P rs.toList σ h fun vs=>R (oneOr vs) h
 | .ret,σ,h=>resL P rs.toList σ h fun vs=>R (oneOr vs) h
 |_,_,_=>False
def argEnv (args:List Value):Env:=fun t=>args[t]?
def resF (a:Act):ResultVar→Sem Value
 | .tmp t=>pure (a.tmps.getD t undef)
 | .cell ad t=>do loadVar t (←asAddr (a.tmps.getD ad undef))
theorem resL_ok {P:Program} {n:Nat} {σ:Env} {a:Act} {h:Heap} (hr:Rel n σ a): ∀(rs:List ResultVar) (F:List Value→Prop),resL P rs σ h F→ ∃vs,F vs∧
  rd P (rs.mapM (resF a)) h=some vs
 | [],F,hh=>⟨[],hh,rfl⟩
 | .tmp t::rs,F,hh=>by
  obtain⟨v,hv,hh⟩:=onSome_iff.1 hh
  obtain⟨vs,h1,h2⟩:=resL_ok hr rs _ hh
  refine⟨v::vs,h1, ?_⟩
  rw[List.mapM_cons]
  have h6:rd P (resF a (.tmp t)) h=some v:=by
   show some (a.tmps.getD t undef)=some v
   rw[hr.at_ t v hv]
  rw[rd_bind _ _ _ _ h6,rd_bind _ _ _ _ h2]
  rfl
 | .cell ad t::rs,F,hh=>by
  simp only[resL] at hh
  split at hh
  ·rename_i p hp
   obtain⟨b,rfl,hh1⟩:=onSome_iff.1 hh
   obtain⟨v,S,h1,h2,h3⟩:=denLoad_ok hh1
   obtain⟨vs,h4,h5⟩:=resL_ok hr rs _ h1
   refine⟨v::vs,h4, ?_⟩
   rw[List.mapM_cons]
   have h6:rd P (resF a (.cell ad t)) h=some v:=by
    show rd P (do loadVar t (←asAddr (a.tmps.getD ad undef))) h=_
    rw[hr.at_ ad _ hp];exact h3 h h2
   rw[rd_bind _ _ _ _ h6,rd_bind _ _ _ _ h5]
   rfl
  ·exact hh.elim
theorem results_ok {P:Program} {n:Nat} {σ:Env} {a:Act} {h:Heap} {fn:Func} {F:Value→Prop} (hr:Rel n σ a) (hh:resL P fn.results.toList σ h fun vs=>F (oneOr vs)):
  ∃v,F v∧rd P (results fn a.tmps) h=some v:=by
 obtain⟨vs,h1,h2⟩:=resL_ok hr _ _ hh
 refine⟨_,h1, ?_⟩
 have h3:rd P (fn.results.mapM (resF a)) h=some vs.toArray:=by
  rw[Array.mapM_eq_mapM_toList]
  show rd P (fn.results.toList.mapM (resF a)>>=fun l=>pure (List.toArray l)) h=_
  rw[rd_bind _ _ _ _ h2]
  rfl
 have h4:results fn a.tmps=fn.results.mapM (resF a)>>=fun vs=>pure (if h:vs.size=1 then vs[0] else .tuple vs):=by
  unfold results
  congr 1
 rw[h4,rd_bind _ _ _ _ h3]
 match vs with
 | []=>rfl
 | [v]=>rfl
 |u::v::vs=>rfl
theorem callsH_of_den {P:Program} {f:FuncId} {fn:Func} {c:Code} {args:List Value} {h:Heap} {R:Value→Heap→Prop} (ann:Ann)
  (hf:P.funcs[f]? =some fn) (hb:fn.body=some c) (hn:Nat.ble args.length fn.ntmps=true)
  (hd:den P fn.ntmps ann none c (retK P fn.results R) (argEnv args) h):CallsH P f args.toArray h R:=by
 intro w hw
 subst hw
 have hn:=Nat.le_of_ble_eq_true hn
 refine calls_of_wp hf hb ?_
 have hr:Rel fn.ntmps (argEnv args) { tmps:=args.toArray++Array.replicate (fn.ntmps - args.toArray.size) undef,defers:= [] } :=by
  refine⟨rfl,by simp;omega,fun t v hv=> ?_⟩
  unfold argEnv at hv
  have hlt:t<args.length:=(List.getElem?_eq_some_iff.1 hv).1
  simp only[Array.getD_eq_getD_getElem?]
  rw[Array.getElem?_append_left (by simpa using hlt)]
  simp[hv]
 refine wp_mono (den_ok ann none c _ _ _ w hr hd).wp ?_
 rintro e a w' ⟨σ,hr,hq,hs,_⟩
 have fin:resL P fn.results.toList σ w'.heap (fun vs=>R (oneOr vs) w'.heap)→a.defers= []∧ ∃v,(results fn a.tmps).run P w'= .ok v w'∧ ∃v',Ending.returned v= .returned v'∧R v' w'.heap∧Same w w':=fun hh=>by
  obtain⟨v,h1,h2⟩:=results_ok (F:=fun v=>R v w'.heap) hr hh
  exact⟨hr.defers,v,rd_run _ _ _ h2,v,rfl,h1,hs⟩
 cases e with
 |normal=>exact fin hq
 |ret=>exact fin hq
 |exit id=>exact hq.elim
 |goto l=>exact hq.elim
 |panic ch=>exact hq.elim
 |outgrown=>exact hq.elim
def bodyOf (fn:Func):Code:=fn.body.getD .skip
theorem callsH_of_body {P:Program} {f:FuncId} {fn:Func} {args:List Value} {h:Heap} {R:Value→Heap→Prop} (ann:Ann)
  (hf:P.funcs[f]? =some fn) (hb:fn.body.isSome=true) (hn:Nat.ble args.length fn.ntmps=true)
  (hd:den P fn.ntmps ann none (bodyOf fn) (retK P fn.results R) (argEnv args) h):CallsH P f args.toArray h R:=by
 obtain⟨c,hc⟩:=Option.isSome_iff_exists.1 hb
 refine callsH_of_den ann hf hc hn ?_
 rw[bodyOf,hc] at hd
 exact hd
end Go.Den
set_option maxRecDepth 100000
set_option maxHeartbeats 4000000
namespace Go.Proofs.YtgccegnmggjkjaaGreatDoor
open Go.Den
abbrev Cl:=CallsH Tryz.prog
namespace F
abbrev law26_StateBack:Nat:=8
abbrev copies_New:Nat:=9
abbrev copies_Table_Add:Nat:=17
abbrev law19_Same:Nat:=20
abbrev copies_Table_Save:Nat:=21
abbrev copies_Table_Pass:Nat:=25
abbrev copies_Table_All:Nat:=27
abbrev regs_New:Nat:=29
abbrev regs_Table_Add:Nat:=32
abbrev regs_Table_Save:Nat:=35
abbrev regs_Load:Nat:=36
abbrev copies_Load:Nat:=38
abbrev law26_alive:Nat:=39
abbrev state_New:Nat:=40
abbrev law26_whole:Nat:=42
abbrev state_State_Put:Nat:=46
abbrev state_State_Take:Nat:=47
abbrev state_State_Pass:Nat:=48
abbrev state_State_Cancel:Nat:=49
abbrev state_State_Save:Nat:=50
abbrev law26_Self:Nat:=51
abbrev law26_do:Nat:=52
abbrev quota_Purse_All:Nat:=54
abbrev law26_pure:Nat:=55
abbrev state_Load:Nat:=56
abbrev alarm_New:Nat:=57
abbrev copies_Table_of:Nat:=67
abbrev copies_Table_made:Nat:=69
abbrev copies_isCopy:Nat:=70
abbrev slices_Clone_s_byte_byte:Nat:=71
abbrev alarm_Alarm_Set:Nat:=72
abbrev fields_New:Nat:=74
abbrev fields_Writer_Int:Nat:=75
abbrev fields_Writer_Bytes:Nat:=76
abbrev copies_Table_numbers:Nat:=77
abbrev copies_record:Nat:=78
abbrev copies_Table_remove:Nat:=84
abbrev copies_Table_free:Nat:=85
abbrev alarm_Alarm_Ring:Nat:=86
abbrev alarm_Alarm_Len:Nat:=87
abbrev regs_Table_made:Nat:=89
abbrev regs_right:Nat:=90
abbrev regs_isPolicy:Nat:=92
abbrev regs_Table_All:Nat:=93
abbrev regs_record:Nat:=94
abbrev fields_Read:Nat:=95
abbrev eid_Parse:Nat:=96
abbrev fields_Reader_Text:Nat:=97
abbrev fields_Reader_Int:Nat:=98
abbrev fields_Reader_End:Nat:=99
abbrev bytes_Equal:Nat:=100
abbrev slices_EqualFunc_s_s_byte_s_s_byte_s_byte_s_byte:Nat:=101
abbrev copies_Table_load:Nat:=102
abbrev quota_Purse_Used:Nat:=103
abbrev ident_New:Nat:=104
abbrev quota_New:Nat:=105
abbrev sessions_New:Nat:=106
abbrev outbox_New:Nat:=107
abbrev sessions_Table_Open:Nat:=113
abbrev law26_home:Nat:=115
abbrev state_State_made:Nat:=118
abbrev outbox_Box_All:Nat:=119
abbrev quota_Purse_Fits:Nat:=120
abbrev outbox_Box_Add:Nat:=121
abbrev quota_Purse_Take:Nat:=122
abbrev outbox_Box_Take:Nat:=123
abbrev quota_Purse_Give:Nat:=124
abbrev outbox_Box_Pass:Nat:=125
abbrev outbox_Box_Cancel:Nat:=126
abbrev slices_IndexFunc_s_outbox_Item_outbox_Item:Nat:=127
abbrev state_State_Cancel_1:Nat:=128
abbrev ident_Maker_Last:Nat:=129
abbrev eid_Text:Nat:=130
abbrev sessions_Table_Save:Nat:=131
abbrev outbox_Box_Save:Nat:=132
abbrev fields_Writer_Text:Nat:=133
abbrev fields_Writer_Num:Nat:=134
abbrev slices_Concat_s_s_byte_s_byte:Nat:=135
abbrev outbox_Box_made:Nat:=136
abbrev quota_Purse_made:Nat:=137
abbrev fields_Reader_Num:Nat:=138
abbrev ident_Maker_Keep:Nat:=139
abbrev state_State_loadParts:Nat:=140
abbrev slices_DeleteFunc_s_int_int:Nat:=143
abbrev copies_Table_of_1:Nat:=144
abbrev eid_Right:Nat:=145
abbrev alarm_Alarm_made:Nat:=146
abbrev alarm_Alarm_Drop:Nat:=147
abbrev alarm_Alarm_put:Nat:=148
abbrev alarm_Alarm_up:Nat:=149
abbrev slices_Sort_s_int_int:Nat:=150
abbrev alarm_Alarm_Next:Nat:=152
abbrev slices_SortFunc_s_regs_Reg_regs_Reg:Nat:=153
abbrev regs_Table_All_1:Nat:=154
abbrev eid_Less:Nat:=155
abbrev strings_CutPrefix:Nat:=156
abbrev eid_parseNumbers:Nat:=157
abbrev eid_parsePath:Nat:=158
abbrev fields_Reader_fine:Nat:=159
abbrev fields_fault_fail:Nat:=160
abbrev fields_Reader_atMost:Nat:=161
abbrev sessions_Table_of:Nat:=166
abbrev outbox_copied:Nat:=171
abbrev quota_Purse_ask:Nat:=172
abbrev outbox_right:Nat:=173
abbrev outbox_Box_cut:Nat:=174
abbrev outbox_Box_find:Nat:=175
abbrev strconv_FormatUint:Nat:=176
abbrev eid_path:Nat:=177
abbrev sessions_Table_All:Nat:=178
abbrev fields_Writer_Bool:Nat:=179
abbrev slices_Grow_s_s_byte_s_byte:Nat:=180
abbrev state_parts:Nat:=183
abbrev sessions_Load:Nat:=184
abbrev outbox_Load:Nat:=185
abbrev slices_IndexFunc_s_int_int:Nat:=186
abbrev eid_plain:Nat:=187
abbrev alarm_Alarm_down:Nat:=188
abbrev alarm_ahead:Nat:=189
abbrev math_bits_Len:Nat:=191
abbrev slices_pdqsortCmpFunc_regs_Reg:Nat:=192
abbrev eid_class:Nat:=193
abbrev strings_Cut:Nat:=195
abbrev strconv_ParseUint:Nat:=196
abbrev slices_Concat_s_outbox_Item_outbox_Item:Nat:=199
abbrev outbox_Box_find_1:Nat:=200
abbrev internal_strconv_FormatUint:Nat:=201
abbrev state_parts_1:Nat:=202
abbrev sessions_loader_session:Nat:=203
abbrev math_bits_Len64:Nat:=214
abbrev slices_insertionSortCmpFunc_regs_Reg:Nat:=215
abbrev slices_heapSortCmpFunc_regs_Reg:Nat:=216
abbrev slices_breakPatternsCmpFunc_regs_Reg:Nat:=217
abbrev slices_choosePivotCmpFunc_regs_Reg:Nat:=218
abbrev slices_reverseRangeCmpFunc_regs_Reg:Nat:=219
abbrev slices_partialInsertionSortCmpFunc_regs_Reg:Nat:=220
abbrev slices_partitionEqualCmpFunc_regs_Reg:Nat:=221
abbrev slices_partitionCmpFunc_regs_Reg:Nat:=222
abbrev slices_Grow_s_outbox_Item_outbox_Item:Nat:=227
abbrev internal_strconv_small:Nat:=228
abbrev internal_strconv_numDigits:Nat:=229
abbrev internal_strconv_formatBase10:Nat:=230
abbrev internal_strconv_formatBits:Nat:=231
abbrev sessions_loader_next:Nat:=232
abbrev fields_Reader_Bool:Nat:=233
abbrev sessions_loader_need:Nat:=234
abbrev sessions_Table_Kept:Nat:=235
abbrev sessions_Table_Keep:Nat:=236
abbrev sessions_isNote:Nat:=237
abbrev sessions_Table_find:Nat:=258
abbrev slices_IndexFunc_s_sessions_Answer_sessions_Answer:Nat:=259
abbrev sessions_Table_Kept_1:Nat:=260
abbrev slices_DeleteFunc_s_sessions_Answer_sessions_Answer:Nat:=261
abbrev sessions_Table_Keep_1:Nat:=262
abbrev slices_Clone_s_sessions_Answer_sessions_Answer:Nat:=263
end F
namespace T
abbrev tup_:Nat:=0
abbrev int:Nat:=3
abbrev bool:Nat:=4
abbrev uint8:Nat:=5
abbrev st7:Nat:=7
abbrev string:Nat:=9
abbrev st13:Nat:=13
abbrev uint64:Nat:=23
abbrev eid_Eid:Nat:=25
abbrev p_copies_Table:Nat:=26
abbrev s_uint8:Nat:=34
abbrev m_int_p_copies_Copy:Nat:=43
abbrev copies_Table:Nat:=46
abbrev copies_Copy:Nat:=52
abbrev s_s_uint8:Nat:=56
abbrev s_int:Nat:=59
abbrev s_copies_Copy:Nat:=62
abbrev regs_Reg:Nat:=73
abbrev s_law26_Op:Nat:=86
abbrev p_state_State:Nat:=87
abbrev law26_Op:Nat:=94
abbrev state_State:Nat:=102
abbrev outbox_Item:Nat:=105
abbrev p_copies_Copy:Nat:=128
abbrev m_eid_Eid_regs_Reg:Nat:=146
abbrev regs_Table:Nat:=148
abbrev s_regs_Reg:Nat:=152
abbrev s_outbox_Item:Nat:=191
abbrev ident_Ident:Nat:=198
abbrev a4_s_s_uint8:Nat:=202
abbrev outbox_Box:Nat:=208
abbrev m_int_int:Nat:=209
abbrev quota_Purse:Nat:=211
abbrev a4_int:Nat:=213
abbrev s_alarm_entry:Nat:=216
abbrev alarm_Alarm:Nat:=218
abbrev alarm_entry:Nat:=225
abbrev fields_Writer:Nat:=228
abbrev fields_Reader:Nat:=239
abbrev ident_Maker:Nat:=247
abbrev s_p_sessions_Session:Nat:=248
abbrev sessions_Table:Nat:=250
abbrev p_sessions_Session:Nat:=252
abbrev s_sessions_Answer:Nat:=254
abbrev sessions_Session:Nat:=256
abbrev s_sessions_Session:Nat:=266
abbrev sessions_Answer:Nat:=270
abbrev error:Nat:=291
abbrev sessions_loader:Nat:=303
abbrev a24_uint8:Nat:=325
abbrev a20_uint64:Nat:=350
end T
abbrev a4_s_s_uint8.LD (h:Heap) (a:Addr) (K:Option Addr→Nat→Nat→Option Addr→Nat→Nat→Option Addr→Nat→Nat→Option Addr→Nat→Nat→Prop):Prop:= ∃(t0p:Option Addr) (t0l t0c:Nat),hcell h a=some (.slice t0p t0l t0c)∧ ∃(t1p:Option Addr) (t1l t1c:Nat),hcell h (a.add 1)=some (.slice t1p t1l t1c)∧ ∃(t2p:Option Addr) (t2l t2c:Nat),hcell h (a.add 2)=some (.slice t2p t2l t2c)∧ ∃(t3p:Option Addr) (t3l t3c:Nat),hcell h (a.add 3)=some (.slice t3p t3l t3c)∧K t0p t0l t0c t1p t1l t1c t2p t2l t2c t3p t3l t3c
abbrev a4_s_s_uint8.ST (h:Heap) (a:Addr) (f0p:Option Addr) (f0l f0c:Nat) (f1p:Option Addr) (f1l f1c:Nat) (f2p:Option Addr) (f2l f2c:Nat) (f3p:Option Addr) (f3l f3c:Nat) (K:Heap→Prop):Prop:=StoreP h a (.slice f0p f0l f0c) fun h_1=>StoreP h_1 (a.add 1) (.slice f1p f1l f1c) fun h_2=>StoreP h_2 (a.add 2) (.slice f2p f2l f2c) fun h_3=>StoreP h_3 (a.add 3) (.slice f3p f3l f3c) fun h_4=>K h_4
abbrev copies_Copy.LD (h:Heap) (a:Addr) (K:Int→Bool→Int→Int→ByteArray→ByteArray→Option Addr→Nat→Nat→Int→Int→Int→Prop):Prop:= ∃(t0:Int),hcell h a=some (.int .i64 t0)∧ ∃(t1:Bool),hcell h (a.add 1)=some (.bool t1)∧ ∃(t2:Int),hcell h (a.add 2)=some (.int .u64 t2)∧ ∃(t3:Int),hcell h (a.add 3)=some (.int .u64 t3)∧ ∃(t4:ByteArray),hcell h (a.add 4)=some (.string t4)∧ ∃(t5:ByteArray),hcell h (a.add 5)=some (.string t5)∧ ∃(t6p:Option Addr) (t6l t6c:Nat),hcell h (a.add 6)=some (.slice t6p t6l t6c)∧ ∃(t7:Int),hcell h (a.add 7)=some (.int .u64 t7)∧ ∃(t8:Int),hcell h (a.add 8)=some (.int .i64 t8)∧ ∃(t9:Int),hcell h (a.add 9)=some (.int .u64 t9)∧K t0 t1 t2 t3 t4 t5 t6p t6l t6c t7 t8 t9
abbrev copies_Copy.ST (h:Heap) (a:Addr) (f0:Int) (f1:Bool) (f2:Int) (f3:Int) (f4:ByteArray) (f5:ByteArray) (f6p:Option Addr) (f6l f6c:Nat) (f7:Int) (f8:Int) (f9:Int) (K:Heap→Prop):Prop:=StoreP h a (.int .i64 f0) fun h_1=>StoreP h_1 (a.add 1) (.bool f1) fun h_2=>StoreP h_2 (a.add 2) (.int .u64 f2) fun h_3=>StoreP h_3 (a.add 3) (.int .u64 f3) fun h_4=>StoreP h_4 (a.add 4) (.string f4) fun h_5=>StoreP h_5 (a.add 5) (.string f5) fun h_6=>StoreP h_6 (a.add 6) (.slice f6p f6l f6c) fun h_7=>StoreP h_7 (a.add 7) (.int .u64 f7) fun h_8=>StoreP h_8 (a.add 8) (.int .i64 f8) fun h_9=>StoreP h_9 (a.add 9) (.int .u64 f9) fun h_10=>K h_10
abbrev eid_Eid.LD (h:Heap) (a:Addr) (K:Bool→Int→Int→ByteArray→ByteArray→Prop):Prop:= ∃(t0:Bool),hcell h a=some (.bool t0)∧ ∃(t1:Int),hcell h (a.add 1)=some (.int .u64 t1)∧ ∃(t2:Int),hcell h (a.add 2)=some (.int .u64 t2)∧ ∃(t3:ByteArray),hcell h (a.add 3)=some (.string t3)∧ ∃(t4:ByteArray),hcell h (a.add 4)=some (.string t4)∧K t0 t1 t2 t3 t4
abbrev eid_Eid.ST (h:Heap) (a:Addr) (f0:Bool) (f1:Int) (f2:Int) (f3:ByteArray) (f4:ByteArray) (K:Heap→Prop):Prop:=StoreP h a (.bool f0) fun h_1=>StoreP h_1 (a.add 1) (.int .u64 f1) fun h_2=>StoreP h_2 (a.add 2) (.int .u64 f2) fun h_3=>StoreP h_3 (a.add 3) (.string f3) fun h_4=>StoreP h_4 (a.add 4) (.string f4) fun h_5=>K h_5
abbrev ident_Ident.LD (h:Heap) (a:Addr) (K:Bool→Int→Int→ByteArray→ByteArray→Int→Int→Prop):Prop:= ∃(t0:Bool),hcell h a=some (.bool t0)∧ ∃(t1:Int),hcell h (a.add 1)=some (.int .u64 t1)∧ ∃(t2:Int),hcell h (a.add 2)=some (.int .u64 t2)∧ ∃(t3:ByteArray),hcell h (a.add 3)=some (.string t3)∧ ∃(t4:ByteArray),hcell h (a.add 4)=some (.string t4)∧ ∃(t5:Int),hcell h (a.add 5)=some (.int .u64 t5)∧ ∃(t6:Int),hcell h (a.add 6)=some (.int .u64 t6)∧K t0 t1 t2 t3 t4 t5 t6
abbrev ident_Ident.ST (h:Heap) (a:Addr) (f0:Bool) (f1:Int) (f2:Int) (f3:ByteArray) (f4:ByteArray) (f5:Int) (f6:Int) (K:Heap→Prop):Prop:=StoreP h a (.bool f0) fun h_1=>StoreP h_1 (a.add 1) (.int .u64 f1) fun h_2=>StoreP h_2 (a.add 2) (.int .u64 f2) fun h_3=>StoreP h_3 (a.add 3) (.string f3) fun h_4=>StoreP h_4 (a.add 4) (.string f4) fun h_5=>StoreP h_5 (a.add 5) (.int .u64 f5) fun h_6=>StoreP h_6 (a.add 6) (.int .u64 f6) fun h_7=>K h_7
abbrev law26_Op.LD (h:Heap) (a:Addr) (K:Int→Int→Int→Option Addr→Nat→Nat→Int→Prop):Prop:= ∃(t0:Int),hcell h a=some (.int .i64 t0)∧ ∃(t1:Int),hcell h (a.add 1)=some (.int .i64 t1)∧ ∃(t2:Int),hcell h (a.add 2)=some (.int .i64 t2)∧ ∃(t3p:Option Addr) (t3l t3c:Nat),hcell h (a.add 3)=some (.slice t3p t3l t3c)∧ ∃(t4:Int),hcell h (a.add 4)=some (.int .u64 t4)∧K t0 t1 t2 t3p t3l t3c t4
abbrev outbox_Item.LD (h:Heap) (a:Addr) (K:Int→Int→Option Addr→Nat→Nat→Int→Prop):Prop:= ∃(t0:Int),hcell h a=some (.int .i64 t0)∧ ∃(t1:Int),hcell h (a.add 1)=some (.int .i64 t1)∧ ∃(t2p:Option Addr) (t2l t2c:Nat),hcell h (a.add 2)=some (.slice t2p t2l t2c)∧ ∃(t3:Int),hcell h (a.add 3)=some (.int .u64 t3)∧K t0 t1 t2p t2l t2c t3
abbrev outbox_Item.ST (h:Heap) (a:Addr) (f0:Int) (f1:Int) (f2p:Option Addr) (f2l f2c:Nat) (f3:Int) (K:Heap→Prop):Prop:=StoreP h a (.int .i64 f0) fun h_1=>StoreP h_1 (a.add 1) (.int .i64 f1) fun h_2=>StoreP h_2 (a.add 2) (.slice f2p f2l f2c) fun h_3=>StoreP h_3 (a.add 3) (.int .u64 f3) fun h_4=>K h_4
abbrev regs_Reg.LD (h:Heap) (a:Addr) (K:Bool→Int→Int→ByteArray→ByteArray→Int→Int→Prop):Prop:= ∃(t0:Bool),hcell h a=some (.bool t0)∧ ∃(t1:Int),hcell h (a.add 1)=some (.int .u64 t1)∧ ∃(t2:Int),hcell h (a.add 2)=some (.int .u64 t2)∧ ∃(t3:ByteArray),hcell h (a.add 3)=some (.string t3)∧ ∃(t4:ByteArray),hcell h (a.add 4)=some (.string t4)∧ ∃(t5:Int),hcell h (a.add 5)=some (.int .i64 t5)∧ ∃(t6:Int),hcell h (a.add 6)=some (.int .i64 t6)∧K t0 t1 t2 t3 t4 t5 t6
abbrev regs_Reg.ST (h:Heap) (a:Addr) (f0:Bool) (f1:Int) (f2:Int) (f3:ByteArray) (f4:ByteArray) (f5:Int) (f6:Int) (K:Heap→Prop):Prop:=StoreP h a (.bool f0) fun h_1=>StoreP h_1 (a.add 1) (.int .u64 f1) fun h_2=>StoreP h_2 (a.add 2) (.int .u64 f2) fun h_3=>StoreP h_3 (a.add 3) (.string f3) fun h_4=>StoreP h_4 (a.add 4) (.string f4) fun h_5=>StoreP h_5 (a.add 5) (.int .i64 f5) fun h_6=>StoreP h_6 (a.add 6) (.int .i64 f6) fun h_7=>K h_7
abbrev sessions_Answer.LD (h:Heap) (a:Addr) (K:Int→Option Addr→Nat→Nat→Prop):Prop:= ∃(t0:Int),hcell h a=some (.int .u64 t0)∧ ∃(t1p:Option Addr) (t1l t1c:Nat),hcell h (a.add 1)=some (.slice t1p t1l t1c)∧K t0 t1p t1l t1c
abbrev sessions_Answer.ST (h:Heap) (a:Addr) (f0:Int) (f1p:Option Addr) (f1l f1c:Nat) (K:Heap→Prop):Prop:=StoreP h a (.int .u64 f0) fun h_1=>StoreP h_1 (a.add 1) (.slice f1p f1l f1c) fun h_2=>K h_2
abbrev sessions_Session.LD (h:Heap) (a:Addr) (K:Int→Int→Bool→Bool→Option Addr→Nat→Nat→Option Addr→Nat→Nat→Prop):Prop:= ∃(t0:Int),hcell h a=some (.int .i64 t0)∧ ∃(t1:Int),hcell h (a.add 1)=some (.int .u64 t1)∧ ∃(t2:Bool),hcell h (a.add 2)=some (.bool t2)∧ ∃(t3:Bool),hcell h (a.add 3)=some (.bool t3)∧ ∃(t4p:Option Addr) (t4l t4c:Nat),hcell h (a.add 4)=some (.slice t4p t4l t4c)∧ ∃(t5p:Option Addr) (t5l t5c:Nat),hcell h (a.add 5)=some (.slice t5p t5l t5c)∧K t0 t1 t2 t3 t4p t4l t4c t5p t5l t5c
abbrev sessions_Session.ST (h:Heap) (a:Addr) (f0:Int) (f1:Int) (f2:Bool) (f3:Bool) (f4p:Option Addr) (f4l f4c:Nat) (f5p:Option Addr) (f5l f5c:Nat) (K:Heap→Prop):Prop:=StoreP h a (.int .i64 f0) fun h_1=>StoreP h_1 (a.add 1) (.int .u64 f1) fun h_2=>StoreP h_2 (a.add 2) (.bool f2) fun h_3=>StoreP h_3 (a.add 3) (.bool f3) fun h_4=>StoreP h_4 (a.add 4) (.slice f4p f4l f4c) fun h_5=>StoreP h_5 (a.add 5) (.slice f5p f5l f5c) fun h_6=>K h_6
end Go.Proofs.YtgccegnmggjkjaaGreatDoor
set_option maxRecDepth 100000
set_option maxHeartbeats 4000000
namespace Go.Proofs.YtgccegnmggjkjaaGreatDoor
open Go.Den
variable {h : Heap} {R : Value → Heap → Prop}
theorem slices_Clone_s_byte_byte.walk {s_p : Option Addr} {s_l s_c : Nat} (hv :
 if s_p.isNone = true then
 R (.slice none 0 0) h
 else
 NewP h (.cells #[] T.uint8) fun b h_1 =>
 denSem Tryz.prog (Builtin.append_ #[T.s_uint8, T.s_uint8] T.s_uint8 #[.slice (some ⟨b, 0, none⟩) 0 0, .slice s_p s_l s_c]) h_1 fun v h_2 =>
 ∃ t7_p t7_l t7_c, v = .slice t7_p t7_l t7_c ∧
 R (.slice t7_p t7_l t7_c) h_2) : CallsH Tryz.prog F.slices_Clone_s_byte_byte #[.slice s_p s_l s_c] h R :=
 callsH_of_body (.seq .leaf (.seq (.seq .leaf (.cond (.seq .leaf .leaf) .leaf)) (.seq .leaf .leaf))) Tryz.func71 rfl rfl (Eq.mp (by kernel_rfl) hv)
theorem fields_New.walk  (hv :
 NewP h (.cells #[.bool true, .slice none 0 0] T.fields_Writer) fun b h_1 =>
 R (.pointer (some ⟨b, 0, none⟩)) h_1) : CallsH Tryz.prog F.fields_New #[] h R :=
 callsH_of_body (.seq .leaf (.seq .leaf .leaf)) Tryz.func74 rfl rfl (Eq.mp (by kernel_rfl) hv)
theorem fields_Writer_Num.walk {w : Nat} {n : Int} (hv :
 JoinP (fun (t13 : Bool) (h_1 : Heap) =>
 if t13 = true then
 R (.pointer (some ⟨w, 0, none⟩)) h_1
 else
 ∃ (I : Int → Heap → Prop) (mu : Int → Heap → Nat), I n h_1 ∧ ∀ (n_1 : Int) (h_2 : Heap), I n_1 h_2 →
 if (decide (n_1 > 127)) = true then
 ∃ t21_p t21_l t21_c, hcell h_2 ⟨w, 1, none⟩ = some (.slice t21_p t21_l t21_c) ∧
 NewP h_2 (.cells #[.int .u8 (IntKind.wrap .u8 ((BitVec.ofInt (IntKind.bits .u8) (IntKind.wrap .u8 n_1) ||| BitVec.ofInt (IntKind.bits .u8) 128).toNat : Int))] T.uint8) fun b h_3 =>
 denSem Tryz.prog (Builtin.append_ #[T.s_uint8, T.s_uint8] T.s_uint8 #[.slice t21_p t21_l t21_c, .slice (some ⟨b, 0, none⟩) 1 1]) h_3 fun v h_4 =>
 ∃ t26_p t26_l t26_c, v = .slice t26_p t26_l t26_c ∧
 StoreP h_4 ⟨w, 1, none⟩ (.slice t26_p t26_l t26_c) fun h_5 =>
 (I (Int.fdiv n_1 (2 ^ min (Int.toNat 7) (IntKind.bits .u64))) h_5 ∧ mu (Int.fdiv n_1 (2 ^ min (Int.toNat 7) (IntKind.bits .u64))) h_5 < mu n_1 h_2)
 else
 ∃ t35_p t35_l t35_c, hcell h_2 ⟨w, 1, none⟩ = some (.slice t35_p t35_l t35_c) ∧
 NewP h_2 (.cells #[.int .u8 (IntKind.wrap .u8 n_1)] T.uint8) fun b_1 h_6 =>
 denSem Tryz.prog (Builtin.append_ #[T.s_uint8, T.s_uint8] T.s_uint8 #[.slice t35_p t35_l t35_c, .slice (some ⟨b_1, 0, none⟩) 1 1]) h_6 fun v_1 h_7 =>
 ∃ t39_p t39_l t39_c, v_1 = .slice t39_p t39_l t39_c ∧
 StoreP h_7 ⟨w, 1, none⟩ (.slice t39_p t39_l t39_c) fun h_8 =>
 R (.pointer (some ⟨w, 0, none⟩)) h_8)
 (fun J =>
 ∃ t11, hcell h ⟨w, 0, none⟩ = some (.bool t11) ∧
 J (!t11) h)) : CallsH Tryz.prog F.fields_Writer_Num #[.pointer (some ⟨w, 0, none⟩), .int .u64 n] h R :=
 callsH_of_body (.seq .leaf (.seq (.seq (.join [(13, .one (.bool))] .leaf) (.cond (.seq .leaf .leaf) .leaf)) (.seq (.block (.loop [(1, .one (.int .u64))] (.seq (.seq .leaf (.cond .leaf .leaf)) (.block (.seq .leaf .leaf))))) (.seq .leaf (.seq .leaf .leaf))))) Tryz.func134 rfl rfl (Eq.mp (by kernel_rfl) hv)
theorem fields_Writer_Int.walk {w : Nat} {n : Int} (hv :
 Cl F.fields_Writer_Num #[.pointer (some ⟨w, 0, none⟩), .int .u64 (IntKind.wrap .u64 (if 0 > n then 0 else n))] h fun v h_1 =>
 ∃ t9, v = .pointer t9 ∧
 R (.pointer t9) h_1) : CallsH Tryz.prog F.fields_Writer_Int #[.pointer (some ⟨w, 0, none⟩), .int .i64 n] h R :=
 callsH_of_body (.seq .leaf (.seq .leaf .leaf)) Tryz.func75 rfl rfl (Eq.mp (by kernel_rfl) hv)
theorem fields_Writer_Bool.walk {w : Nat} {is : Bool} (hv :
 if is = true then
 Cl F.fields_Writer_Num #[.pointer (some ⟨w, 0, none⟩), .int .u64 1] h fun v h_1 =>
 ∃ t7, v = .pointer t7 ∧
 R (.pointer t7) h_1
 else
 Cl F.fields_Writer_Num #[.pointer (some ⟨w, 0, none⟩), .int .u64 0] h fun v_1 h_2 =>
 ∃ t9, v_1 = .pointer t9 ∧
 R (.pointer t9) h_2) : CallsH Tryz.prog F.fields_Writer_Bool #[.pointer (some ⟨w, 0, none⟩), .bool is] h R :=
 callsH_of_body (.seq .leaf (.seq (.seq .leaf (.cond (.seq .leaf .leaf) .leaf)) (.seq .leaf .leaf))) Tryz.func179 rfl rfl (Eq.mp (by kernel_rfl) hv)
theorem fields_Writer_Text.walk {w : Nat} {b_p : Option Addr} {b_l b_c : Nat} (hv :
 Cl F.fields_Writer_Num #[.pointer (some ⟨w, 0, none⟩), .int .u64 (IntKind.wrap .u64 ((b_l : Nat) : Int))] h fun v h_1 =>
 ∃ t9, v = .pointer t9 ∧
 JoinP (fun (t17 : Bool) (h_2 : Heap) =>
 JoinP (fun (h_3 : Heap) =>
 R (.pointer (some ⟨w, 0, none⟩)) h_3)
 (fun J_1 =>
 if t17 = true then
 ∃ t22_p t22_l t22_c, hcell h_2 ⟨w, 1, none⟩ = some (.slice t22_p t22_l t22_c) ∧
 denSem Tryz.prog (Builtin.append_ #[T.s_uint8, T.s_uint8] T.s_uint8 #[.slice t22_p t22_l t22_c, .slice b_p b_l b_c]) h_2 fun v_1 h_4 =>
 ∃ t24_p t24_l t24_c, v_1 = .slice t24_p t24_l t24_c ∧
 StoreP h_4 ⟨w, 1, none⟩ (.slice t24_p t24_l t24_c) fun h_5 =>
 J_1 h_5
 else
 J_1 h_2))
 (fun J =>
 ∃ t16, hcell h_1 ⟨w, 0, none⟩ = some (.bool t16) ∧
 J t16 h_1)) : CallsH Tryz.prog F.fields_Writer_Text #[.pointer (some ⟨w, 0, none⟩), .slice b_p b_l b_c] h R :=
 callsH_of_body (.seq .leaf (.seq .leaf (.seq (.seq (.join [(17, .one (.bool))] .leaf) (.join [] (.cond .leaf .leaf))) (.seq .leaf .leaf)))) Tryz.func133 rfl rfl (Eq.mp (by kernel_rfl) hv)
theorem fields_Writer_Bytes.walk {w : Nat} (hv :
 ∃ t8_p t8_l t8_c, hcell h ⟨w, 1, none⟩ = some (.slice t8_p t8_l t8_c) ∧
 Cl F.slices_Clone_s_byte_byte #[.slice t8_p t8_l t8_c] h fun v h_1 =>
 ∃ t9_p t9_l t9_c, v = .slice t9_p t9_l t9_c ∧
 R (.slice t9_p t9_l t9_c) h_1) : CallsH Tryz.prog F.fields_Writer_Bytes #[.pointer (some ⟨w, 0, none⟩)] h R :=
 callsH_of_body (.seq .leaf (.seq (.seq .leaf (.cond (.seq .leaf .leaf) .leaf)) (.seq .leaf .leaf))) Tryz.func76 rfl rfl (Eq.mp (by kernel_rfl) hv)
theorem fields_fault_fail.walk {f : Nat} {e : Int} (hv :
 ∃ t7, hcell h ⟨f, 0, none⟩ = some (.int .i64 t7) ∧
 if (t7 == 0) = true then
 StoreP h ⟨f, 0, none⟩ (.int .i64 e) fun h_1 =>
 R (.tuple #[]) h_1
 else
 R (.tuple #[]) h) : CallsH Tryz.prog F.fields_fault_fail #[.pointer (some ⟨f, 0, none⟩), .int .i64 e] h R :=
 callsH_of_body (.seq .leaf (.cond .leaf .leaf)) Tryz.func160 rfl rfl (Eq.mp (by kernel_rfl) hv)
theorem fields_Read.walk {b_p : Option Addr} {b_l b_c : Nat} (hv :
 Cl F.slices_Clone_s_byte_byte #[.slice b_p b_l b_c] h fun v h_1 =>
 ∃ t4_p t4_l t4_c, v = .slice t4_p t4_l t4_c ∧
 NewP h_1 (.cells #[.int .i64 0, .bool true, .slice t4_p t4_l t4_c] T.fields_Reader) fun b h_2 =>
 R (.pointer (some ⟨b, 0, none⟩)) h_2) : CallsH Tryz.prog F.fields_Read #[.slice b_p b_l b_c] h R :=
 callsH_of_body (.seq .leaf (.seq .leaf .leaf)) Tryz.func95 rfl rfl (Eq.mp (by kernel_rfl) hv)
theorem fields_Reader_fine.walk {r : Nat} (hv :
 ∃ t9, hcell h ⟨r, 1, none⟩ = some (.bool t9) ∧
 if t9 = true then
 ∃ t16, hcell h ⟨r, 0, none⟩ = some (.int .i64 t16) ∧
 R (.bool (t16 == 0)) h
 else
 R (.bool false) h) : CallsH Tryz.prog F.fields_Reader_fine #[.pointer (some ⟨r, 0, none⟩)] h R :=
 callsH_of_body (.seq .leaf (.seq .leaf .leaf)) Tryz.func159 rfl rfl (Eq.mp (by kernel_rfl) hv)
theorem fields_Reader_Num.walk {r : Nat} (hv :
 JoinP (fun (h_1 : Heap) =>
 R (.int .u64 0) h_1)
 (fun J =>
 ∃ (I : Int → Int → Heap → Prop) (mu : Int → Int → Heap → Nat), I 0 0 h ∧ ∀ (n : Int) (i : Int) (h_2 : Heap), I n i h_2 →
 Cl F.fields_Reader_fine #[.pointer (some ⟨r, 0, none⟩)] h_2 fun v h_3 =>
 ∃ t7, v = .bool t7 ∧
 if t7 = true then
 ∃ t13_p t13_l t13_c, hcell h_3 ⟨r, 2, none⟩ = some (.slice t13_p t13_l t13_c) ∧
 if (((t13_l : Nat) : Int) == 0) = true then
 Cl F.fields_fault_fail #[.pointer (some ⟨r, 0, none⟩), .int .i64 8] h_3 fun v_1 h_4 =>
 v_1 = .tuple #[] ∧
 J h_4
 else
 ∃ t23_p t23_l t23_c, hcell h_3 ⟨r, 2, none⟩ = some (.slice t23_p t23_l t23_c) ∧
 ((0 : Int) ≤ 0 ∧ 0 < ((t23_l : Nat) : Int)) ∧
 onSome t23_p fun a =>
 ∃ t25, hcell h_3 (a.add (Int.toNat 0 * 1)) = some (.int .u8 t25) ∧
 ∃ t30_p t30_l t30_c, hcell h_3 ⟨r, 2, none⟩ = some (.slice t30_p t30_l t30_c) ∧
 ((0 : Int) ≤ 1 ∧ 1 ≤ ((t30_l : Nat) : Int)) ∧
 StoreP h_3 ⟨r, 2, none⟩ (.slice (slBase t30_p t30_c (Int.toNat 1) 1) (t30_l - (Int.toNat 1)) (t30_c - (Int.toNat 1))) fun h_5 =>
 JoinP (fun (t52 : Bool) (h_6 : Heap) =>
 if t52 = true then
 Cl F.fields_fault_fail #[.pointer (some ⟨r, 0, none⟩), .int .i64 3] h_6 fun v_2 h_7 =>
 v_2 = .tuple #[] ∧
 J h_7
 else
 if IntKind.wrap .i64 (7 * i) < 0 then False else
 if ((IntKind.wrap .u8 ((BitVec.ofInt (IntKind.bits .u8) t25 &&& BitVec.ofInt (IntKind.bits .u8) 128).toNat : Int)) == 0) = true then
 R (.int .u64 (IntKind.wrap .u64 ((BitVec.ofInt (IntKind.bits .u64) n ||| BitVec.ofInt (IntKind.bits .u64) (IntKind.wrap .u64 ((IntKind.wrap .u64 (IntKind.wrap .u8 ((BitVec.ofInt (IntKind.bits .u8) t25 &&& BitVec.ofInt (IntKind.bits .u8) 127).toNat : Int))) * 2 ^ min (Int.toNat (IntKind.wrap .i64 (7 * i))) (IntKind.bits .u64)))).toNat : Int))) h_6
 else
 (I (IntKind.wrap .u64 ((BitVec.ofInt (IntKind.bits .u64) n ||| BitVec.ofInt (IntKind.bits .u64) (IntKind.wrap .u64 ((IntKind.wrap .u64 (IntKind.wrap .u8 ((BitVec.ofInt (IntKind.bits .u8) t25 &&& BitVec.ofInt (IntKind.bits .u8) 127).toNat : Int))) * 2 ^ min (Int.toNat (IntKind.wrap .i64 (7 * i))) (IntKind.bits .u64)))).toNat : Int)) (IntKind.wrap .i64 (i + 1)) h_6 ∧ mu (IntKind.wrap .u64 ((BitVec.ofInt (IntKind.bits .u64) n ||| BitVec.ofInt (IntKind.bits .u64) (IntKind.wrap .u64 ((IntKind.wrap .u64 (IntKind.wrap .u8 ((BitVec.ofInt (IntKind.bits .u8) t25 &&& BitVec.ofInt (IntKind.bits .u8) 127).toNat : Int))) * 2 ^ min (Int.toNat (IntKind.wrap .i64 (7 * i))) (IntKind.bits .u64)))).toNat : Int)) (IntKind.wrap .i64 (i + 1)) h_6 < mu n i h_2))
 (fun J_1 =>
 if (i == 10) = true then
 J_1 true h_5
 else
 if ((IntKind.wrap .i64 (i * 7)) == 63) = true then
 if (decide (t25 > 1)) = true then
 J_1 true h_5
 else
 if (t25 == 0) = true then
 J_1 (decide (i > 0)) h_5
 else
 J_1 false h_5
 else
 if (t25 == 0) = true then
 J_1 (decide (i > 0)) h_5
 else
 J_1 false h_5)
 else
 J h_3)) : CallsH Tryz.prog F.fields_Reader_Num #[.pointer (some ⟨r, 0, none⟩)] h R :=
 callsH_of_body (.seq .leaf (.seq .leaf (.seq (.seq .leaf (.join [] (.block (.loop [(3, .one (.int .u64)), (4, .one (.int .i64))] (.seq (.seq .leaf (.cond .leaf .leaf)) (.seq (.block (.seq (.seq .leaf (.cond (.seq .leaf .leaf) .leaf)) (.seq .leaf (.seq .leaf (.seq (.seq (.join [(52, .one (.bool))] .leaf) (.cond (.seq .leaf .leaf) .leaf)) (.seq .leaf (.seq .leaf (.cond (.seq .leaf .leaf) .leaf)))))))) .leaf)))))) (.seq .leaf .leaf)))) Tryz.func138 rfl rfl (Eq.mp (by kernel_rfl) hv)
theorem fields_Reader_atMost.walk {r : Nat} {top : Int} (hv :
 Cl F.fields_Reader_Num #[.pointer (some ⟨r, 0, none⟩)] h fun v h_1 =>
 ∃ t7, v = .int .u64 t7 ∧
 if (decide (t7 > top)) = true then
 Cl F.fields_fault_fail #[.pointer (some ⟨r, 0, none⟩), .int .i64 3] h_1 fun v_1 h_2 =>
 v_1 = .tuple #[] ∧
 R (.int .u64 0) h_2
 else
 R (.int .u64 t7) h_1) : CallsH Tryz.prog F.fields_Reader_atMost #[.pointer (some ⟨r, 0, none⟩), .int .u64 top] h R :=
 callsH_of_body (.seq .leaf (.seq .leaf (.seq (.seq .leaf (.cond (.seq .leaf (.seq .leaf .leaf)) .leaf)) (.seq .leaf .leaf)))) Tryz.func161 rfl rfl (Eq.mp (by kernel_rfl) hv)
theorem fields_Reader_Int.walk {r : Nat} (hv :
 Cl F.fields_Reader_atMost #[.pointer (some ⟨r, 0, none⟩), .int .u64 1099511627776] h fun v h_1 =>
 ∃ t4, v = .int .u64 t4 ∧
 R (.int .i64 (IntKind.wrap .i64 t4)) h_1) : CallsH Tryz.prog F.fields_Reader_Int #[.pointer (some ⟨r, 0, none⟩)] h R :=
 callsH_of_body (.seq .leaf (.seq .leaf .leaf)) Tryz.func98 rfl rfl (Eq.mp (by kernel_rfl) hv)
theorem fields_Reader_Bool.walk {r : Nat} (hv :
 Cl F.fields_Reader_atMost #[.pointer (some ⟨r, 0, none⟩), .int .u64 1] h fun v h_1 =>
 ∃ t4, v = .int .u64 t4 ∧
 R (.bool (t4 == 1)) h_1) : CallsH Tryz.prog F.fields_Reader_Bool #[.pointer (some ⟨r, 0, none⟩)] h R :=
 callsH_of_body (.seq .leaf (.seq .leaf .leaf)) Tryz.func233 rfl rfl (Eq.mp (by kernel_rfl) hv)
theorem fields_Reader_Text.walk {r : Nat} (hv :
 Cl F.fields_Reader_Num #[.pointer (some ⟨r, 0, none⟩)] h fun v h_1 =>
 ∃ t6, v = .int .u64 t6 ∧
 Cl F.fields_Reader_fine #[.pointer (some ⟨r, 0, none⟩)] h_1 fun v_1 h_2 =>
 ∃ t8, v_1 = .bool t8 ∧
 if (!t8) = true then
 R (.slice none 0 0) h_2
 else
 ∃ t14_p t14_l t14_c, hcell h_2 ⟨r, 2, none⟩ = some (.slice t14_p t14_l t14_c) ∧
 if (decide (t6 > (IntKind.wrap .u64 ((t14_l : Nat) : Int)))) = true then
 Cl F.fields_fault_fail #[.pointer (some ⟨r, 0, none⟩), .int .i64 8] h_2 fun v_2 h_3 =>
 v_2 = .tuple #[] ∧
 R (.slice none 0 0) h_3
 else
 ∃ t25_p t25_l t25_c, hcell h_2 ⟨r, 2, none⟩ = some (.slice t25_p t25_l t25_c) ∧
 ((0 : Int) ≤ t6 ∧ t6 ≤ ((t25_c : Nat) : Int)) ∧
 Cl F.slices_Clone_s_byte_byte #[.slice (slBase t25_p t25_c 0 1) ((Int.toNat t6) - 0) (t25_c - 0)] h_2 fun v_3 h_4 =>
 ∃ t28_p t28_l t28_c, v_3 = .slice t28_p t28_l t28_c ∧
 ∃ t33_p t33_l t33_c, hcell h_4 ⟨r, 2, none⟩ = some (.slice t33_p t33_l t33_c) ∧
 ((0 : Int) ≤ t6 ∧ t6 ≤ ((t33_l : Nat) : Int)) ∧
 StoreP h_4 ⟨r, 2, none⟩ (.slice (slBase t33_p t33_c (Int.toNat t6) 1) (t33_l - (Int.toNat t6)) (t33_c - (Int.toNat t6))) fun h_5 =>
 R (.slice t28_p t28_l t28_c) h_5) : CallsH Tryz.prog F.fields_Reader_Text #[.pointer (some ⟨r, 0, none⟩)] h R :=
 callsH_of_body (.seq .leaf (.seq .leaf (.seq (.seq .leaf (.cond (.seq .leaf .leaf) .leaf)) (.seq (.seq .leaf (.cond (.seq .leaf (.seq .leaf .leaf)) .leaf)) (.seq .leaf (.seq .leaf (.seq .leaf .leaf))))))) Tryz.func97 rfl rfl (Eq.mp (by kernel_rfl) hv)
theorem fields_Reader_End.walk {r : Nat} (hv :
 JoinP (fun (t3 : Bool) (h_1 : Heap) =>
 if t3 = true then
 R (.int .i64 6) h_1
 else
 ∃ t18, hcell h_1 ⟨r, 0, none⟩ = some (.int .i64 t18) ∧
 if (t18 != 0) = true then
 ∃ t24, hcell h_1 ⟨r, 0, none⟩ = some (.int .i64 t24) ∧
 R (.int .i64 t24) h_1
 else
 ∃ t29_p t29_l t29_c, hcell h_1 ⟨r, 2, none⟩ = some (.slice t29_p t29_l t29_c) ∧
 if (decide (((t29_l : Nat) : Int) > 0)) = true then
 R (.int .i64 2) h_1
 else
 R (.int .i64 0) h_1)
 (fun J =>
 ∃ t10, hcell h ⟨r, 1, none⟩ = some (.bool t10) ∧
 J (!t10) h)) : CallsH Tryz.prog F.fields_Reader_End #[.pointer (some ⟨r, 0, none⟩)] h R :=
 callsH_of_body (.seq .leaf (.seq (.block (.seq (.join [(3, .one (.bool))] .leaf) (.cond (.seq .leaf .leaf) (.seq .leaf (.cond (.seq .leaf .leaf) (.seq .leaf (.cond (.seq .leaf .leaf) .leaf))))))) (.seq .leaf .leaf))) Tryz.func99 rfl rfl (Eq.mp (by kernel_rfl) hv)
end Go.Proofs.YtgccegnmggjkjaaGreatDoor
namespace Go.Den
theorem hcell_blk {h:Heap} {b i:Nat} {c:Array Value} {t:TypeId} {f:Nat×Nat} (hb:h[b]? =some (.cells c t f)):hcell h ⟨b,i,none⟩=c[i]? :=by
 simp[hcell,hb]
theorem hfrozen_blk {h:Heap} {b i:Nat} {c:Array Value} {t:TypeId} (hb:h[b]? =some (.cells c t (0,0))):hfrozen h ⟨b,i,none⟩=false:=by
 simp[hfrozen,hb]
theorem hcell_some {h:Heap} {a:Addr} {v:Value} (hc:hcell h a=some v): ∃c t f,h[a.block]? =some (.cells c t f)∧a.spot=none∧c[a.off]? =some v:=by
 unfold hcell at hc
 split at hc
 ·rename_i c t f hb
  split at hc
  ·cases hc
  ·rename_i hs
   exact⟨c,t,f,hb,by simpa using hs,hc⟩
 ·cases hc
theorem lt_of_get {h:Heap} {b:Nat} {o:Obj} (hb:h[b]? =some o):b<h.size:=(Array.getElem?_eq_some_iff.1 hb).1
theorem push_old {h:Heap} {b:Nat} {o x:Obj} (hb:h[b]? =some o):(h.push x)[b]? =some o:=by
 rw[Array.getElem?_push,if_neg (Nat.ne_of_lt (lt_of_get hb)),hb]
theorem push_new {h:Heap} {x:Obj} :(h.push x)[h.size]? =some x:=by simp
theorem hset_same {h:Heap} {b i:Nat} {c:Array Value} {t:TypeId} {f:Nat×Nat} {v:Value} (hb:h[b]? =some (.cells c t f)):(hset h ⟨b,i,none⟩ v)[b]? =some (.cells (c.setIfInBounds i v) t f):=by
 simp[hset,Array.getElem?_modify,hb]
theorem hset_other {h:Heap} {a:Addr} {b:Nat} {v:Value} (hne:b≠a.block):(hset h a v)[b]? =h[b]? :=by
 simp[hset,Array.getElem?_modify,Ne.symm hne]
theorem hset_size {h:Heap} {a:Addr} {v:Value} :(hset h a v).size=h.size:=by simp[hset]
theorem add_blk (b o n:Nat):(⟨b,o,none⟩:Addr).add n=⟨b,o+n,none⟩:=by
 unfold Addr.add
 split
 ·rename_i hn;subst hn;rfl
 ·rfl
theorem add_add (a:Addr) (m n:Nat):(a.add m).add n=a.add (m+n):=by
 unfold Addr.add
 split
 ·rename_i hn;subst hn
  simp
 ·split
  ·rename_i hn hm;subst hm;simp[hn]
  ·rename_i hn hm
   have:m+n≠0:=by omega
   rw[if_neg this]
   simp[Nat.add_assoc]
def Fr (S:Nat→Prop) (h h':Heap):Prop:=h.size≤h'.size∧ ∀c,c<h.size→ ¬S c→h'[c]? =h[c]?
theorem Fr.refl (S:Nat→Prop) (h:Heap):Fr S h h:=⟨Nat.le_refl _,fun _ _ _=>rfl⟩
theorem Fr.get {S:Nat→Prop} {h h':Heap} (hf:Fr S h h') {c:Nat} {o:Obj} (hc:h[c]? =some o) (hn: ¬S c):h'[c]? =some o:=
 (hf.2 c (lt_of_get hc) hn).trans hc
theorem Fr.trans {S S' S'':Nat→Prop} {h h1 h2:Heap} (hf:Fr S h h1) (hf':Fr S' h1 h2) (hs: ∀c,c<h.size→S c→S'' c) (hs': ∀c,c<h.size→S' c→S'' c):Fr S'' h h2:=
 ⟨Nat.le_trans hf.1 hf'.1,fun c hc hn=>(hf'.2 c (Nat.lt_of_lt_of_le hc hf.1) (fun hq=>hn (hs' c hc hq))).trans (hf.2 c hc (fun hq=>hn (hs c hc hq)))⟩
theorem Fr.mono {S S':Nat→Prop} {h h':Heap} (hf:Fr S h h') (hs: ∀c,c<h.size→S c→S' c):Fr S' h h':=
 ⟨hf.1,fun c hc hn=>hf.2 c hc (fun hq=>hn (hs c hc hq))⟩
theorem Fr.push {S:Nat→Prop} (h:Heap) (o:Obj):Fr S h (h.push o):=
 ⟨by simp,fun c hc _=>by rw[Array.getElem?_push,if_neg (Nat.ne_of_lt hc)]⟩
theorem Fr.cell {S:Nat→Prop} {h h':Heap} (hf:Fr S h h') {a:Addr} {v:Value} (hc:hcell h a=some v) (hn: ¬S a.block):hcell h' a=some v:=by
 obtain⟨c,t,f,hb,hs,hv⟩:=hcell_some hc
 have:=hf.get hb hn
 unfold hcell
 rw[this]
 simp[hs,hv]
def mget (l:List (Int×Value)) (k:Int):Option Value:=(l.find? (·.1==k)).map (·.2)
def mput (l:List (Int×Value)) (k:Int) (v:Value):List (Int×Value):=if(mget l k).isSome=true then l.map (fun e=>if e.1==k then(k,v) else e) else l++ [(k,v)]
def mdel (l:List (Int×Value)) (k:Int):List (Int×Value):=l.filter (fun e=> !(e.1==k))
theorem mget_nil (k:Int):mget [] k=none:=rfl
theorem mget_cons (e:Int×Value) (l:List (Int×Value)) (k:Int):mget (e::l) k=if e.1=k then some e.2 else mget l k:=by
 unfold mget
 by_cases h:e.1=k<;>simp[h]
theorem mget_mem {l:List (Int×Value)} {k:Int} :(mget l k).isSome=true↔k∈l.map (·.1):=by
 induction l with
 |nil=>simp[mget]
 |cons e l ih=>
  rw[mget_cons,List.map_cons,List.mem_cons]
  by_cases h:e.1=k
  ·simp[h]
  ·rw[if_neg h,ih];constructor
   ·exact fun hm=> .inr hm
   ·rintro(e'|hm)
    ·exact absurd e'.symm h
    ·exact hm
theorem mget_map_other (l:List (Int×Value)) (k k':Int) (v:Value) (hne:k'≠k):mget (l.map (fun e=>if e.1==k then(k,v) else e)) k'=mget l k':=by
 induction l with
 |nil=>rfl
 |cons e l ih=>
  rw[List.map_cons,mget_cons,mget_cons,ih]
  by_cases h:e.1=k
  ·simp[h,Ne.symm hne]
  ·simp[h]
theorem mget_map_same (l:List (Int×Value)) (k:Int) (v:Value) (hm:(mget l k).isSome=true):mget (l.map (fun e=>if e.1==k then(k,v) else e)) k=some v:=by
 induction l with
 |nil=>simp[mget] at hm
 |cons e l ih=>
  rw[List.map_cons,mget_cons]
  by_cases h:e.1=k
  ·simp[h]
  ·rw[mget_cons,if_neg h] at hm
   have hb:(e.1==k)=false:=by simp[h]
   rw[hb]
   simp only[Bool.false_eq_true,if_false,if_neg h]
   exact ih hm
theorem mget_append (l l':List (Int×Value)) (k:Int):mget (l++l') k=(mget l k).or (mget l' k):=by
 induction l with
 |nil=>simp[mget]
 |cons e l ih=>
  rw[List.cons_append,mget_cons,mget_cons,ih]
  by_cases h:e.1=k<;>simp[h]
theorem mget_mput (l:List (Int×Value)) (k k':Int) (v:Value):mget (mput l k v) k'=if k'=k then some v else mget l k':=by
 unfold mput
 by_cases hm:(mget l k).isSome=true
 ·rw[if_pos hm]
  by_cases h:k'=k
  ·subst h;rw[if_pos rfl,mget_map_same _ _ _ hm]
  ·rw[if_neg h,mget_map_other _ _ _ _ h]
 ·rw[if_neg hm,mget_append,mget_cons,mget_nil]
  have hn:mget l k=none:=by simpa using hm
  by_cases h:k'=k
  ·subst h;simp[hn]
  ·simp[h,Ne.symm h]
theorem mget_mdel (l:List (Int×Value)) (k k':Int):mget (mdel l k) k'=if k'=k then none else mget l k':=by
 unfold mdel
 induction l with
 |nil=>simp[mget]
 |cons e l ih=>
  rw[List.filter_cons,mget_cons]
  by_cases h:e.1=k
  ·subst h
   simp only[beq_self_eq_true,Bool.not_true,Bool.false_eq_true,if_false]
   rw[ih]
   by_cases hk:k'=e.1
   ·simp[hk]
   ·simp[hk,Ne.symm hk]
  ·have hb:(!(e.1==k))=true:=by simp[h]
   rw[if_pos hb,mget_cons,ih]
   by_cases hk:k'=k
   ·subst hk;simp[h]
   ·simp[hk]
theorem mput_keys (l:List (Int×Value)) (k:Int) (v:Value) (hn:(l.map (·.1)).Nodup):((mput l k v).map (·.1)).Nodup:=by
 unfold mput
 by_cases hm:(mget l k).isSome=true
 ·rw[if_pos hm]
  have:(l.map (fun e=>if e.1==k then(k,v) else e)).map (·.1)=l.map (·.1):=by
   rw[List.map_map]
   apply List.map_congr_left
   intro e _
   by_cases h:e.1=k<;>simp[h]
  rw[this];exact hn
 ·rw[if_neg hm,List.map_append]
  rw[mget_mem] at hm
  rw[List.nodup_append]
  exact⟨hn,by simp,by intro a ha b hb;simp at hb;subst hb;intro e;subst e;exact hm ha⟩
theorem mdel_keys (l:List (Int×Value)) (k:Int) (hn:(l.map (·.1)).Nodup):((mdel l k).map (·.1)).Nodup:=
 List.Sublist.nodup (List.Sublist.map _ List.filter_sublist) hn
def MapL (h:Heap) (m:Nat) (l:List (Int×Value)):Prop:=
 ∃(es:Array MapEntry) (clock:Nat),h[m]? =some (.map es clock)∧es.toList.map (fun e=>(e.key,e.val))=l.map (fun e=>(Value.int .i64 e.1,e.2))∧(l.map (·.1)).Nodup∧
  (∀e∈es.toList,e.born<clock)∧(es.toList.map (·.born)).Nodup
def MapF (h:Heap) (m:Nat) (f:Int→Option Value):Prop:= ∃l,MapL h m l∧ ∀k,mget l k=f k
theorem MapL.of_get {h h':Heap} {m:Nat} {l:List (Int×Value)} (hm:MapL h m l) (he:h'[m]? =h[m]?):MapL h' m l:=by
 obtain⟨es,clock,h1,h2⟩:=hm
 exact⟨es,clock,he.trans h1,h2⟩
theorem MapL.lt {h:Heap} {m:Nat} {l:List (Int×Value)} (hm:MapL h m l):m<h.size:=by
 obtain⟨es,clock,h1,_⟩:=hm;exact lt_of_get h1
theorem MapL.frame {S:Nat→Prop} {h h':Heap} {m:Nat} {l:List (Int×Value)} (hm:MapL h m l) (hf:Fr S h h') (hn: ¬S m):MapL h' m l:=
 hm.of_get (hf.2 m hm.lt hn)
theorem MapF.of_get {h h':Heap} {m:Nat} {f:Int→Option Value} (hm:MapF h m f) (he:h'[m]? =h[m]?):MapF h' m f:=by
 obtain⟨l,h1,h2⟩:=hm;exact⟨l,h1.of_get he,h2⟩
theorem MapF.lt {h:Heap} {m:Nat} {f:Int→Option Value} (hm:MapF h m f):m<h.size:=by
 obtain⟨l,h1,_⟩:=hm;exact h1.lt
theorem MapF.frame {S:Nat→Prop} {h h':Heap} {m:Nat} {f:Int→Option Value} (hm:MapF h m f) (hf:Fr S h h') (hn: ¬S m):MapF h' m f:=by
 obtain⟨l,h1,h2⟩:=hm;exact⟨l,h1.frame hf hn,h2⟩
theorem MapF.map {h:Heap} {m:Nat} {f:Int→Option Value} (hm:MapF h m f): ∃es clock,h[m]? =some (.map es clock):=by
 obtain⟨l,⟨es,clock,h1,_⟩,_⟩:=hm;exact⟨es,clock,h1⟩
theorem MapL.push (h:Heap):MapL (h.push (.map #[] 0)) h.size []:=⟨#[],0,push_new,rfl,by simp,by simp,by simp⟩
theorem MapF.push (h:Heap):MapF (h.push (.map #[] 0)) h.size (fun _=>none):=⟨[],MapL.push h,fun _=>rfl⟩
theorem findNow_int {k:Int} : ∀(es:List MapEntry) (l:List (Int×Value)) (i:Nat) (d:IntKind),es.map (fun e=>(e.key,e.val))=l.map (fun e=>(Value.int .i64 e.1,e.2))→
  (mget l k=none→Instr.findNow (.int d) (.int .i64 k) es i=some none)∧
  (∀v,mget l k=some v→ ∃j,Instr.findNow (.int d) (.int .i64 k) es i=some (some (i+j,v))∧ ∃e,es[j]? =some e∧e.key= .int .i64 k∧e.val=v)
 | [],l,i,d,h=>by
  have:l= []:=by cases l<;>simp at h⊢
  subst this
  exact⟨fun _=>rfl,fun v hv=>by simp[mget] at hv⟩
 |e::es,l,i,d,h=>by
  cases l with
  |nil=>simp at h
  |cons x l=>
   simp only[List.map_cons,List.cons.injEq,Prod.mk.injEq] at h
   obtain⟨⟨hk,hv⟩,hrest⟩:=h
   have ih:=findNow_int (k:=k) es l (i+1) d hrest
   have hs:Instr.sameNow (.int d) (.int .i64 k) e.key=some (k==x.1):=by rw[hk];simp[Instr.sameNow]
   by_cases hkx:x.1=k
   ·refine⟨(fun hn=>by rw[mget_cons,if_pos hkx] at hn;cases hn),fun v hv'=>⟨0, ?_,e,rfl,by rw[hk,hkx], ?_⟩⟩
    ·rw[mget_cons,if_pos hkx] at hv'
     simp only[Option.some.injEq] at hv'
     simp[Instr.findNow,hs,hkx,hv,hv']
    ·rw[mget_cons,if_pos hkx] at hv'
     simp only[Option.some.injEq] at hv'
     rw[hv,hv']
   ·have hkf:(k==x.1)=false:=by simp[Ne.symm hkx]
    rw[hkf] at hs
    refine⟨fun hn=> ?_,fun v hv'=> ?_⟩
    ·rw[mget_cons,if_neg hkx] at hn
     simp only[Instr.findNow,hs]
     exact ih.1 hn
    ·rw[mget_cons,if_neg hkx] at hv'
     obtain⟨j,h1,e',h2,h3⟩:=ih.2 v hv'
     refine⟨j+1, ?_,e',by simpa using h2,h3⟩
     simp only[Instr.findNow,hs]
     rw[h1,show i+1+j=i+(j+1) by omega]
section
variable {P : Program}
theorem rd_checkKey {empty:Bool} {n:Nat} {t:TypeId} {d:IntKind} {v:Value} {h:Heap} (ht:P.underlying t=some (.int d)):rd P (Instr.checkKey empty (n+1) t v) h=some ():=by
 unfold Instr.checkKey
 rw[rd_bind _ _ _ _ (rd_underlying ht)]
 rfl
theorem rd_findKey_none {t:TypeId} {d:IntKind} {k:Int} {es:List MapEntry} {l:List (Int×Value)} {h:Heap} (ht:P.underlying t=some (.int d))
  (hl:es.map (fun e=>(e.key,e.val))=l.map (fun e=>(Value.int .i64 e.1,e.2))) (hk:mget l k=none):rd P (Instr.findKey t (.int .i64 k) es) h=some none:=by
 unfold Instr.findKey
 rw[rd_bind _ _ _ _ (rd_underlying ht)]
 simp only[(findNow_int es l 0 d hl).1 hk]
 rfl
theorem rd_findKey_some {t:TypeId} {d:IntKind} {k:Int} {v:Value} {es:List MapEntry} {l:List (Int×Value)} {h:Heap} (ht:P.underlying t=some (.int d))
  (hl:es.map (fun e=>(e.key,e.val))=l.map (fun e=>(Value.int .i64 e.1,e.2))) (hk:mget l k=some v): ∃j,rd P (Instr.findKey t (.int .i64 k) es) h=some (some (j,v))∧ ∃e,es[j]? =some e∧e.key= .int .i64 k∧e.val=v:=by
 obtain⟨j,h1,h2⟩:=(findNow_int es l 0 d hl).2 v hk
 refine⟨j, ?_,h2⟩
 unfold Instr.findKey
 rw[rd_bind _ _ _ _ (rd_underlying ht)]
 simp only[h1,Nat.zero_add]
 rfl
theorem rd_zeroValue {t:TypeId} {i:TypeInfo} {z:Value} {h:Heap} (hi:P.info? t=some i) (hz:i.zero=some z):rd P (zeroValue t) h=some z:=by
 unfold zeroValue
 rw[rd_bind _ _ _ _ (rd_typeInfo hi),hz];rfl
theorem rd_getObj {r:Nat} {es:Array MapEntry} {c:Nat} {h:Heap} (hr:h[r]? =some (.map es c)):rd P (getObj r) h=some (.map es c):=by
 unfold getObj
 simp only[rd,hr]
structure MapTy (P:Program) (t:TypeId) (z:Value):Prop where
 ty: ∃k e d,P.underlying t=some (.map k e)∧P.underlying k=some (.int d)∧ ∃i,P.info? e=some i∧i.zero=some z
theorem MapTy.of {P:Program} {t:TypeId} {z:Value} (k e:TypeId) (d:IntKind) (h1:P.underlying t=some (.map k e)) (h2:P.underlying k=some (.int d)) (h3:(P.info? e).bind (·.zero)=some z):MapTy P t z:=by
 cases hi:P.info? e with
 |none=>rw[hi] at h3;cases h3
 |some i=>exact⟨k,e,d,h1,h2,i,hi,by rw[hi] at h3;exact h3⟩
theorem look_map {t:TypeId} {z:Value} (T:MapTy P t z) {h:Heap} {m:Nat} {l:List (Int×Value)} (hm:MapL h m l) (k:Int):
  rd P (Instr.lookup t (.map (some m)) (.int .i64 k) false) h=some ((mget l k).getD z)∧
  rd P (Instr.lookup t (.map (some m)) (.int .i64 k) true) h=some (.tuple #[(mget l k).getD z, .bool (mget l k).isSome]):=by
 obtain⟨kt,e,d,ht,hk,i,hi,hz⟩:=T.ty
 obtain⟨es,clock,hb,hl,_⟩:=hm
 have gen: ∀ok:Bool,rd P (Instr.lookup t (.map (some m)) (.int .i64 k) ok) h=some (if ok then .tuple #[(mget l k).getD z, .bool (mget l k).isSome] else(mget l k).getD z):=fun ok=>by
  unfold Instr.lookup
  rw[rd_bind _ _ _ _ (rd_underlying ht)]
  simp only
  rw[rd_bind _ _ _ _ (rd_getObj hb)]
  simp only
  rw[rd_bind _ _ _ _ (rd_pure _),rd_bind _ _ _ _ (rd_checkKey hk)]
  cases hg:mget l k with
  |none=>
   rw[rd_bind _ _ _ _ (rd_findKey_none hk hl hg)]
   simp only
   rw[rd_bind _ _ _ _ (rd_zeroValue hi hz)]
   cases ok<;>rfl
  |some v=>
   obtain⟨j,h2,_⟩:=rd_findKey_some (h:=h) hk hl hg
   rw[rd_bind _ _ _ _ h2]
   simp only
   cases ok<;>rfl
 exact⟨gen false,gen true⟩
theorem lookV_map {t:TypeId} {z:Value} (T:MapTy P t z) {h:Heap} {m:Nat} {f:Int→Option Value} (hm:MapF h m f) (k:Int):
  LookV P t (.map (some m)) (.int .i64 k) false h ((f k).getD z):=fun h' hs=>by
 obtain⟨l,hl,hf⟩:=hm
 rw[←hf k]
 exact(look_map T (hl.of_get hs) k).1
theorem lookV_map_ok {t:TypeId} {z:Value} (T:MapTy P t z) {h:Heap} {m:Nat} {f:Int→Option Value} (hm:MapF h m f) (k:Int):
  LookV P t (.map (some m)) (.int .i64 k) true h (.tuple #[(f k).getD z, .bool (f k).isSome]):=fun h' hs=>by
 obtain⟨l,hl,hf⟩:=hm
 rw[←hf k]
 exact(look_map T (hl.of_get hs) k).2
theorem den_of_rd {α β:Type} {s:Sem α} {g:α→Sem β} {h:Heap} {a:α} {K:β→Heap→Prop} (hr:rd P s h=some a) (hk:denSem P (g a) h K):denSem P (s>>=g) h K:=
 (den_bind s g K).2 (rd_den s h a hr _ hk)
theorem map_modify {es:List MapEntry} {l:List (Int×Value)} {k:Int} {v:Value} {j:Nat} (hl:es.map (fun e=>(e.key,e.val))=l.map (fun e=>(Value.int .i64 e.1,e.2))) (hn:(l.map (·.1)).Nodup)
  {e:MapEntry} (he:es[j]? =some e) (hk:e.key= .int .i64 k) (f:MapEntry→MapEntry) (hf: ∀e:MapEntry,(f e).key= .int .i64 k∧(f e).val=v):
  (es.modify j f).map (fun e=>(e.key,e.val))=(l.map (fun e=>if e.1==k then(k,v) else e)).map (fun e=>(Value.int .i64 e.1,e.2)):=by
 apply List.ext_getElem?
 intro i
 have hli: ∀i:Nat,(es[i]?).map (fun e:MapEntry=>(e.key,e.val))=(l[i]?).map (fun e:Int×Value=>(Value.int .i64 e.1,e.2)):=fun i=>by
  have:=congrArg (·[i]?) hl;simpa using this
 have hlj:=hli j
 rw[he] at hlj
 cases hlq:l[j]? with
 |none=>rw[hlq] at hlj;simp at hlj
 |some x=>
  rw[hlq] at hlj
  simp only[Option.map_some,Option.some.injEq,Prod.mk.injEq] at hlj
  have hxk:x.1=k:=by have:=hlj.1.symm.trans hk;simpa using this
  simp only[List.getElem?_map,List.getElem?_modify,Option.map_map]
  by_cases hij:j=i
  ·subst hij
   simp[he,hlq,hf,hxk]
  ·have h1:=hli i
   cases hei:es[i]? with
   |none=>
    rw[hei] at h1
    cases hq:l[i]? with
    |none=>simp
    |some y=>rw[hq] at h1;simp at h1
   |some e'=>
    rw[hei] at h1
    cases hq:l[i]? with
    |none=>rw[hq] at h1;simp at h1
    |some y=>
     rw[hq] at h1
     simp only[Option.map_some,Option.some.injEq,Prod.mk.injEq] at h1
     have hyk:y.1≠k:=by
      intro hy
      apply hij
      have hji:j<(l.map (·.1)).length:=by simpa using (List.getElem?_eq_some_iff.1 hlq).1
      refine(List.getElem?_inj hji hn).1 ?_
      simp[hlq,hq,hxk,hy]
     simp[hij,hyk,h1.1,h1.2]
theorem den_mapUpdate {t:TypeId} {z:Value} (T:MapTy P t z) {h:Heap} {m:Nat} {l:List (Int×Value)} (hm:MapL h m l) {k:Int} {v:Value} {K:Unit→Heap→Prop}
  (hk: ∀h',MapL h' m (mput l k v)→h'.size=h.size→(∀c,c≠m→h'[c]? =h[c]?)→K () h'):denSem P (Instr.mapUpdate t (.map (some m)) (.int .i64 k) v) h K:=by
 obtain⟨kt,e,d,ht,hkt,_⟩:=T.ty
 obtain⟨es,clock,hb,hl,hn,hst,hnd⟩:=hm
 have hlt:=lt_of_get hb
 unfold Instr.mapUpdate
 refine den_of_rd (rd_underlying ht) ?_
 simp only
 refine den_of_rd (rd_getObj hb) ?_
 simp only
 refine den_of_rd (rd_checkKey hkt) ?_
 have fin: ∀(es':Array MapEntry) (clock':Nat),es'.toList.map (fun e=>(e.key,e.val))=(mput l k v).map (fun e=>(Value.int .i64 e.1,e.2))→(∀e∈es'.toList,e.born<clock')→(es'.toList.map (·.born)).Nodup→
   denSem P (setObj m (.map es' clock')) h K:=fun es' clock' h1 h2 h3=>by
  refine⟨⟨_,hb,fun c e f he=>by cases he⟩, ?_⟩
  refine hk _ ⟨es',clock',by simp[hlt],h1,mput_keys l k v hn,h2,h3⟩ (by simp) (fun c hc=> ?_)
  rw[Array.getElem?_setIfInBounds,if_neg (Ne.symm hc)]
 cases hg:mget l k with
 |none=>
  refine den_of_rd (rd_findKey_none hkt hl hg) ?_
  simp only
  refine fin _ _ ?_ ?_ ?_
  ·unfold mput
   rw[hg]
   simp[hl]
  ·intro e' he'
   simp only[Array.toList_push,List.mem_append,List.mem_singleton] at he'
   rcases he' with he'|rfl
   ·exact Nat.lt_succ_of_lt (hst _ he')
   ·exact Nat.lt_succ_self _
  ·simp only[Array.toList_push,List.map_append,List.map_cons,List.map_nil]
   rw[List.nodup_append]
   refine⟨hnd,by simp, ?_⟩
   intro a ha b hb'
   simp at hb'
   subst hb'
   obtain⟨e',he',rfl⟩:=List.mem_map.1 ha
   exact Nat.ne_of_lt (hst _ he')
 |some u=>
  obtain⟨j,h1,e',he',hke,_⟩:=rd_findKey_some (h:=h) hkt hl hg
  refine den_of_rd h1 ?_
  simp only
  have he2:es[j]? =some e':=by simpa using he'
  have hst1:rd P (Instr.keyThatStays (((es[j]?).map (·.key)).getD (.int .i64 k)) (.int .i64 k)) h=some (.int .i64 k):=by
   rw[he2]
   simp only[Option.map_some,Option.getD_some,hke]
   unfold Instr.keyThatStays
   have:Instr.sameBits 10000 (.int .i64 k) (.int .i64 k)=true:=by unfold Instr.sameBits;simp
   rw[if_pos this];rfl
  refine den_of_rd hst1 ?_
  refine fin _ _ ?_ ?_ ?_
  ·unfold mput
   rw[hg]
   simp only[Option.isSome_some,if_true]
   rw[Array.toList_modify]
   exact map_modify hl hn he' hke _ (fun e=>⟨rfl,rfl⟩)
  ·intro e2 he2'
   rw[Array.toList_modify] at he2'
   obtain⟨i,hi⟩:=List.getElem?_of_mem he2'
   rw[List.getElem?_modify] at hi
   cases hq:es.toList[i]? with
   |none=>rw[hq] at hi;simp at hi
   |some e3=>
    rw[hq] at hi
    have:=hst e3 (List.mem_of_getElem? hq)
    simp only[Option.map_eq_map,Option.map_some,Option.some.injEq] at hi
    subst hi
    split<;>exact this
  ·rw[Array.toList_modify]
   have:(es.toList.modify j fun e=> { e with key:=Value.int .i64 k,val:=v }).map (·.born)=es.toList.map (·.born):=by
    apply List.ext_getElem?
    intro i
    simp only[List.getElem?_map,List.getElem?_modify]
    cases es.toList[i]? with
    |none=>rfl
    |some e3=>simp only[Option.map_eq_map,Option.map_some];split<;>rfl
   rw[this];exact hnd
theorem den_mapUpdateF {t:TypeId} {z:Value} (T:MapTy P t z) {h:Heap} {m:Nat} {f:Int→Option Value} (hm:MapF h m f) {k:Int} {v:Value} {K:Unit→Heap→Prop}
  (hk: ∀h',MapF h' m (fun x=>if x=k then some v else f x)→h'.size=h.size→(∀c,c≠m→h'[c]? =h[c]?)→K () h'):denSem P (Instr.mapUpdate t (.map (some m)) (.int .i64 k) v) h K:=by
 obtain⟨l,hl,hf⟩:=hm
 refine den_mapUpdate T hl fun h' h1 h2 h3=>hk h' ⟨_,h1,fun x=> ?_⟩ h2 h3
 rw[mget_mput,hf]
theorem erase_filter {es:List MapEntry} {l:List (Int×Value)} {k:Int} (hl:es.map (fun e=>(e.key,e.val))=l.map (fun e=>(Value.int .i64 e.1,e.2))) (hn:(l.map (·.1)).Nodup):
  ∀ {j:Nat} {e:MapEntry},es[j]? =some e→e.key= .int .i64 k→(es.eraseIdx j).map (fun e=>(e.key,e.val))=(mdel l k).map (fun e=>(Value.int .i64 e.1,e.2)):=by
 induction es generalizing l with
 |nil=>intro j e he;simp at he
 |cons x es ih=>
  intro j e he hk
  cases l with
  |nil=>simp at hl
  |cons y l=>
   simp only[List.map_cons,List.cons.injEq,Prod.mk.injEq] at hl
   obtain⟨⟨h1,h2⟩,h3⟩:=hl
   simp only[List.map_cons,List.nodup_cons] at hn
   obtain⟨hy,hn⟩:=hn
   cases j with
   |zero=>
    simp only[List.getElem?_cons_zero,Option.some.injEq] at he
    subst he
    have hyk:y.1=k:=by have:=h1.symm.trans hk;simpa using this
    have:mdel (y::l) k=l:=by
     unfold mdel
     rw[List.filter_cons,if_neg (by simp[hyk])]
     rw[List.filter_eq_self]
     intro a ha
     have:a.1≠k:=fun e=>hy (by rw[hyk,←e];exact List.mem_map_of_mem ha)
     simp[this]
    rw[this]
    simpa using h3
   |succ j=>
    have he':es[j]? =some e:=by simpa using he
    have hyk:y.1≠k:=by
     intro hyk
     apply hy
     have hli:=congrArg (·[j]?) h3
     simp only[List.getElem?_map,he',Option.map_some] at hli
     cases hq:l[j]? with
     |none=>rw[hq] at hli;simp at hli
     |some z=>
      rw[hq] at hli
      simp only[Option.map_some,Option.some.injEq,Prod.mk.injEq] at hli
      have hzk:z.1=k:=by have:=hli.1.symm.trans hk;simpa using this
      rw[hyk,←hzk]
      exact List.mem_map_of_mem (List.mem_of_getElem? hq)
    have:mdel (y::l) k=y::mdel l k:=by
     unfold mdel;rw[List.filter_cons,if_pos (by simp[hyk])]
    rw[this]
    simp only[List.eraseIdx_cons_succ,List.map_cons,h1,h2]
    rw[ih h3 hn he' hk]
theorem den_delete {t kt' ty:TypeId} {z:Value} (T:MapTy P t z) {h:Heap} {m:Nat} {l:List (Int×Value)} (hm:MapL h m l) {k:Int} {K:Value→Heap→Prop}
  (hk: ∀h',MapL h' m (mdel l k)→h'.size=h.size→(∀c,c≠m→h'[c]? =h[c]?)→K (.tuple #[]) h'):denSem P (Builtin.delete_ #[t,kt'] ty #[.map (some m), .int .i64 k]) h K:=by
 obtain⟨kt,e,d,ht,hkt,_⟩:=T.ty
 obtain⟨es,clock,hb,hl,hn,hst,hnd⟩:=hm
 have hlt:=lt_of_get hb
 unfold Builtin.delete_
 refine den_of_rd (rd_underlying ht) ?_
 show denSem P (do
   let __x←getObj m
   match __x with
    |Obj.map es clock=>do
     Instr.checkKey es.isEmpty 10000 kt (Value.int IntKind.i64 k)
     let __do_lift←Instr.findKey kt (Value.int IntKind.i64 k) es.toList
     match __do_lift with
      |some (i,_)=>do
       setObj m (Obj.map (es.eraseIdxIfInBounds i) clock)
       pure (Value.tuple #[])
      |none=>do
       setObj m (Obj.map es clock)
       pure (Value.tuple #[])
    |_=>do
     stuck "delete: map expected"
     pure (Value.tuple #[])) h K
 refine den_of_rd (rd_getObj hb) ?_
 simp only
 refine den_of_rd (rd_checkKey hkt) ?_
 have fin: ∀(es':Array MapEntry),es'.toList.map (fun e=>(e.key,e.val))=(mdel l k).map (fun e=>(Value.int .i64 e.1,e.2))→(∀e∈es'.toList,e.born<clock)→(es'.toList.map (·.born)).Nodup→
   denSem P (do setObj m (.map es' clock);pure (Value.tuple #[])) h K:=fun es' h1 h2 h3=>by
  rw[den_bind]
  refine⟨⟨_,hb,fun c e f he=>by cases he⟩, ?_⟩
  refine hk _ ⟨es',clock,by simp[hlt],h1,mdel_keys l k hn,h2,h3⟩ (by simp) (fun c hc=> ?_)
  rw[Array.getElem?_setIfInBounds,if_neg (Ne.symm hc)]
 cases hg:mget l k with
 |none=>
  refine den_of_rd (rd_findKey_none hkt hl hg) ?_
  refine fin es ?_ hst hnd
  have:mdel l k=l:=by
   unfold mdel
   rw[List.filter_eq_self]
   intro a ha
   have:a.1≠k:=fun e=>by
    have hm:k∈l.map (·.1):=e▸List.mem_map_of_mem ha
    rw[←mget_mem,hg] at hm;cases hm
   simp[this]
  rw[this];exact hl
 |some u=>
  obtain⟨j,h1,e',he',hke,_⟩:=rd_findKey_some (h:=h) hkt hl hg
  refine den_of_rd h1 ?_
  have hsub:List.Sublist (es.eraseIdxIfInBounds j).toList es.toList:=by
   rw[Array.toList_eraseIdxIfInBounds];exact List.eraseIdx_sublist _ _
  refine fin _ ?_ ?_ ?_
  ·rw[Array.toList_eraseIdxIfInBounds]
   exact erase_filter hl hn he' hke
  ·intro e2 he2;exact hst e2 (hsub.subset he2)
  ·exact(hsub.map _).nodup hnd
theorem den_deleteF {t kt' ty:TypeId} {z:Value} (T:MapTy P t z) {h:Heap} {m:Nat} {f:Int→Option Value} (hm:MapF h m f) {k:Int} {K:Value→Heap→Prop}
  (hk: ∀h',MapF h' m (fun x=>if x=k then none else f x)→h'.size=h.size→(∀c,c≠m→h'[c]? =h[c]?)→K (.tuple #[]) h'):denSem P (Builtin.delete_ #[t,kt'] ty #[.map (some m), .int .i64 k]) h K:=by
 obtain⟨l,hl,hf⟩:=hm
 refine den_delete T hl fun h' h1 h2 h3=>hk h' ⟨_,h1,fun x=> ?_⟩ h2 h3
 rw[mget_mdel,hf]
end
end Go.Den
namespace Go.Den
theorem cell_at {h:Heap} {b i:Nat} {c:Array Value} {t:TypeId} {f:Nat×Nat} {v:Value} (hb:h[b]? =some (.cells c t f)) (hi:c[i]? =some v):hcell h ⟨b,i,none⟩=some v:=by
 rw[hcell_blk hb,hi]
theorem storeP_blk {h:Heap} {b i:Nat} {c:Array Value} {t:TypeId} {v:Value} {K:Heap→Prop} (hb:h[b]? =some (.cells c t (0,0))) (hi:i<c.size)
  (hk: ∀h',h'[b]? =some (.cells (c.setIfInBounds i v) t (0,0))→h'.size=h.size→(∀x,x≠b→h'[x]? =h[x]?)→K h'):StoreP h ⟨b,i,none⟩ v K:=by
 refine⟨?_,hfrozen_blk hb, ?_⟩
 ·rw[hcell_blk hb];simp[hi]
 ·rintro _ rfl
  exact hk _ (hset_same hb) hset_size (fun x hx=>hset_other hx)
theorem Fr.of_eq {S:Nat→Prop} {h h':Heap} (hs:h'.size=h.size) (ho: ∀c,¬S c→h'[c]? =h[c]?):Fr S h h':=⟨by omega,fun c _ hn=>ho c hn⟩
theorem wrap_id {n:Int} (h1: -9223372036854775808≤n) (h2:n≤9223372036854775807):IntKind.wrap .i64 n=n:=IntWalk.i64_in n ⟨h1,h2⟩
theorem wrap_u64 {n:Int} (h1:0≤n) (h2:n≤18446744073709551615):IntKind.wrap .u64 n=n:=IntWalk.u64_in n ⟨h1,h2⟩
theorem Fr.no {h1 h2 h3:Heap} {S:Nat→Prop} (h12:Fr (fun _=>False) h1 h2) (h23:Fr S h2 h3):Fr S h1 h3:=h12.trans h23 (fun _ _=>False.elim) (fun _ _=>id)
theorem Fr.on {h1 h2 h3:Heap} {S:Nat→Prop} (h12:Fr S h1 h2) (h23:Fr (fun _=>False) h2 h3):Fr S h1 h3:=h12.trans h23 (fun _ _=>id) (fun _ _=>False.elim)
theorem Fr.tt {h1 h2 h3:Heap} {S:Nat→Prop} (h12:Fr S h1 h2) (h23:Fr S h2 h3):Fr S h1 h3:=h12.trans h23 (fun _ _=>id) (fun _ _=>id)
theorem Fr.step {S:Nat→Prop} {h h1 h2:Heap} (hf:Fr (fun _=>False) h h1) (hs:Fr S h1 h2) (hn: ∀c,c<h.size→ ¬S c):Fr (fun _=>False) h h2:=
 hf.trans hs (fun _ _ hx=>hx) (fun c hc hx=>hn c hc hx)
end Go.Den
namespace Go.Den
def Row (h:Heap) (p:Option Addr) (cs:List Value):Prop:=cs= []∨ ∃a,p=some a∧heldL a cs 0 h
theorem Row.nil {h:Heap} {p:Option Addr} :Row h p []:= .inl rfl
theorem heldL_at {h:Heap} {a:Addr} : ∀ {cs:List Value} {i:Nat},heldL a cs i h↔ ∀j v,cs[j]? =some v→hcell h (a.add (i+j))=some v
 | [],i=>by simp[heldL]
 |c::cs,i=>by
  simp only[heldL]
  rw[heldL_at (cs:=cs)]
  constructor
  ·rintro⟨h1,h2⟩ j v hj
   cases j with
   |zero=>simp only[List.getElem?_cons_zero,Option.some.injEq] at hj;subst hj;exact h1
   |succ j=>have:=h2 j v (by simpa using hj);rwa[show i+1+j=i+(j+1) by omega] at this
  ·intro hh
   refine⟨hh 0 c rfl,fun j v hj=> ?_⟩
   have:=hh (j+1) v (by simpa using hj)
   rwa[show i+(j+1)=i+1+j by omega] at this
theorem heldL_blk {h:Heap} {b off:Nat} {c:Array Value} {t:TypeId} {f:Nat×Nat} {cs:List Value} (hb:h[b]? =some (.cells c t f)) (hc: ∀j v,cs[j]? =some v→c[off+j]? =some v):heldL ⟨b,off,none⟩ cs 0 h:=by
 rw[heldL_at]
 intro j v hj
 rw[Nat.zero_add,add_blk,hcell_blk hb]
 exact hc j v hj
theorem heldL_frame {S:Nat→Prop} {h h':Heap} (hf:Fr S h h') {a:Addr} (hn: ¬S a.block): ∀ {cs:List Value} {i:Nat},heldL a cs i h→heldL a cs i h'
 | [],_,_=>trivial
 |_::_,i,hh=>⟨hf.cell hh.1 (by unfold Addr.add;split<;>exact hn),heldL_frame hf hn hh.2⟩
theorem Row.frame {S:Nat→Prop} {h h':Heap} (hf:Fr S h h') {p:Option Addr} {cs:List Value} (hr:Row h p cs) (hn: ∀a,p=some a→ ¬S a.block):Row h' p cs:=by
 rcases hr with rfl|⟨a,rfl,hh⟩
 ·exact .inl rfl
 ·exact .inr ⟨a,rfl,heldL_frame hf (hn a rfl) hh⟩
theorem Row.cell {h:Heap} {a:Addr} {cs:List Value} (hr:Row h (some a) cs) {j:Nat} {v:Value} (hj:cs[j]? =some v):hcell h (a.add j)=some v:=by
 rcases hr with rfl|⟨a',e,hh⟩
 ·simp at hj
 ·cases e
  have:=heldL_at.1 hh j v hj
  rwa[Nat.zero_add] at this
theorem Row.some {h:Heap} {p:Option Addr} {cs:List Value} (hr:Row h p cs) (hn:cs≠ []): ∃a,p=some a:=by
 rcases hr with rfl|⟨a,e,_⟩
 ·exact absurd rfl hn
 ·exact⟨a,e⟩
section
variable {P : Program}
theorem rd_firstCells {h:Heap} {q:Option Addr} {n cq sz:Nat} {ds:List Value} (hq:Row h q ds) (hl:ds.length=n*sz):rd P (Builtin.firstCells sz n (.slice q n cq)) h=some ds.toArray:=by
 cases q with
 |none=>
  have:ds= []:=by
   rcases hq with rfl|⟨a,e,_⟩
   ·rfl
   ·cases e
  subst this;rfl
 |some a=>
  show rd P (loadCells a (n*sz)) h=_
  have hh:heldL a ds 0 h:=by
   rcases hq with rfl|⟨a',e,hh⟩
   ·trivial
   ·cases e;exact hh
  unfold loadCells
  rw[←hl,rd_loadCellsFrom ds 0 #[] h hh]
  simp
theorem growBy_le {need:Nat} : ∀(r c:Nat),c<2*need→256≤c→Builtin.growBy need r c≤2*need
 |0,c,h,_=>by unfold Builtin.growBy;omega
 |r+1,c,h,h2=>by
  unfold Builtin.growBy
  split
  ·omega
  ·rename_i hc
   by_cases hlt:c+(c+768)/4<2*need
   ·exact growBy_le r _ hlt (by omega)
   ·have:c+(c+768)/4≤2*need:=by omega
    cases r with
    |zero=>unfold Builtin.growBy;exact this
    |succ r=>unfold Builtin.growBy;rw[if_pos (by omega)];exact this
theorem nextslicecap_le {need cap:Nat} (h:cap<need):Builtin.nextslicecap need cap≤2*need:=by
 unfold Builtin.nextslicecap
 split
 ·omega
 ·split
  ·omega
  ·exact growBy_le 4 cap (by omega) (by omega)
inductive Own (h:Heap) (p:Option Addr) (len cap sz:Nat) (cs:List Value):Prop
 |nil (hp:p=none) (hl:len=0) (hc:cap=0) (hcs:cs= [])
 |row (b off:Nat) (c:Array Value) (t:TypeId) (hp:p=some ⟨b,off,none⟩) (hb:h[b]? =some (.cells c t (0,0))) (hl:len≤cap) (hc:off+cap*sz≤c.size) (hn:cs.length=len*sz) (hcs: ∀j v,cs[j]? =some v→c[off+j]? =some v)
def inBlk (p:Option Addr) (c:Nat):Prop:= ∃a,p=some a∧a.block=c
theorem Own.length {h:Heap} {p:Option Addr} {len cap sz:Nat} {cs:List Value} (o:Own h p len cap sz cs):cs.length=len*sz:=by
 cases o with
 |nil _ hl _ hcs=>subst hl hcs;simp
 |row b off c t _ _ _ _ hn _=>exact hn
theorem Own.row' {h:Heap} {p:Option Addr} {len cap sz:Nat} {cs:List Value} (o:Own h p len cap sz cs):Row h p cs:=by
 cases o with
 |nil _ _ _ hcs=>exact .inl hcs
 |row b off c t hp hb _ _ _ hcs=>exact .inr ⟨_,hp,heldL_blk hb hcs⟩
theorem Own.frame {S:Nat→Prop} {h h':Heap} {p:Option Addr} {len cap sz:Nat} {cs:List Value} (o:Own h p len cap sz cs) (hf:Fr S h h') (hn: ∀c,inBlk p c→ ¬S c):Own h' p len cap sz cs:=by
 cases o with
 |nil hp hl hc hcs=>exact .nil hp hl hc hcs
 |row b off c t hp hb hl hc hlen hcs=>exact .row b off c t hp (hf.get hb (hn b ⟨_,hp,rfl⟩)) hl hc hlen hcs
theorem Own.blk_lt {h:Heap} {p:Option Addr} {len cap sz:Nat} {cs:List Value} (o:Own h p len cap sz cs) {c:Nat} (hc:inBlk p c):c<h.size:=by
 obtain⟨a,e,rfl⟩:=hc
 cases o with
 |nil hp _ _ _=>rw[hp] at e;cases e
 |row b off c t hp hb _ _ _ _=>rw[hp] at e;cases e;exact lt_of_get hb
theorem Own.cells {h:Heap} {p:Option Addr} {len cap sz:Nat} {cs:List Value} (o:Own h p len cap sz cs) {b:Nat} (hb:inBlk p b): ∃c t,h[b]? =some (.cells c t (0,0)):=by
 obtain⟨a,e,rfl⟩:=hb
 cases o with
 |nil hp _ _ _=>rw[hp] at e;cases e
 |row b off c t hp hb _ _ _ _=>rw[hp] at e;cases e;exact⟨c,t,hb⟩
theorem Own.le {h:Heap} {p:Option Addr} {len cap sz:Nat} {cs:List Value} (o:Own h p len cap sz cs):len≤cap:=by
 cases o with
 |nil _ hl hc _=>omega
 |row b off c t _ _ hl _ _ _=>exact hl
theorem Own.some {h:Heap} {p:Option Addr} {len cap sz:Nat} {cs:List Value} (o:Own h p len cap sz cs) (hn:0<cs.length): ∃b off,p=some ⟨b,off,none⟩:=by
 cases o with
 |nil _ _ _ hcs=>subst hcs;simp at hn
 |row b off c t hp _ _ _ _ _=>exact⟨b,off,hp⟩
theorem Own.cell {h:Heap} {a:Addr} {len cap sz:Nat} {cs:List Value} (o:Own h (.some a) len cap sz cs) {j:Nat} {v:Value} (hj:cs[j]? = .some v):hcell h (a.add j)= .some v:=o.row'.cell hj
theorem Own.store {h:Heap} {a:Addr} {len cap sz:Nat} {cs:List Value} {j:Nat} {v:Value} {K:Heap→Prop} (o:Own h (.some a) len cap sz cs) (hj:j<cs.length)
  (hk: ∀h',Own h' (.some a) len cap sz (cs.set j v)→h'.size=h.size→(∀x,¬inBlk (.some a) x→h'[x]? =h[x]?)→K h'):StoreP h (a.add j) v K:=by
 cases o with
 |nil hp _ _ _=>cases hp
 |row b off c t hp hb hl hc hn hcs=>
  cases hp
  rw[add_blk]
  have hmul:len*sz≤cap*sz:=Nat.mul_le_mul_right _ hl
  refine storeP_blk hb (by omega) fun h' h1 h2 h3=>hk h' (.row b off _ t rfl h1 hl (by simpa using hc) (by simpa using hn) ?_) h2 (fun x hx=>h3 x (fun e=>hx ⟨_,rfl,e.symm⟩))
  intro i w hi
  rw[List.getElem?_set] at hi
  rw[Array.getElem?_setIfInBounds]
  by_cases e:j=i
  ·subst e
   rw[if_pos rfl,if_pos hj] at hi
   rw[if_pos rfl,if_pos (by omega)]
   exact hi
  ·rw[if_neg e] at hi
   rw[if_neg (by omega)]
   exact hcs i w hi
theorem Own.sub {h:Heap} {p:Option Addr} {len cap sz:Nat} {cs:List Value} (o:Own h p len cap sz cs) {l u:Nat} (h1:l≤u) (h2:u≤len):Own h (slBase p cap l sz) (u - l) (cap - l) sz ((cs.take (u*sz)).drop (l*sz)):=by
 cases o with
 |nil hp hl hc hcs=>
  subst hp hl hc hcs
  refine .nil ?_ (by omega) (by omega) (by simp)
  unfold slBase;split<;>rfl
 |row b off c t hp hb hl hc hn hcs=>
  subst hp
  have m1:u*sz≤len*sz:=Nat.mul_le_mul_right _ h2
  have m2:l*sz≤u*sz:=Nat.mul_le_mul_right _ h1
  have m3:len*sz≤cap*sz:=Nat.mul_le_mul_right _ hl
  have hget: ∀j v,((cs.take (u*sz)).drop (l*sz))[j]? = .some v→c[off+l*sz+j]? = .some v:=fun j v hj=>by
   rw[List.getElem?_drop,List.getElem?_take] at hj
   split at hj
   ·have:=hcs _ v hj
    rwa[←Nat.add_assoc] at this
   ·cases hj
  have hlen:((cs.take (u*sz)).drop (l*sz)).length=(u - l)*sz:=by
   rw[List.length_drop,List.length_take,Nat.sub_mul];omega
  have hcap:(cap - l)*sz=cap*sz - l*sz:=Nat.sub_mul _ _ _
  unfold slBase
  split
  ·rename_i e
   have e1:u - l=0:=by omega
   refine .row b off c t rfl hb (by omega) (by omega) hlen (fun j v hj=> ?_)
   have hz:((cs.take (u*sz)).drop (l*sz)).length=0:=by rw[hlen,e1];simp
   rw[List.eq_nil_of_length_eq_zero hz] at hj
   cases hj
  ·show Own h (.some ((⟨b,off,none⟩:Addr).add (l*sz))) _ _ _ _
   rw[add_blk]
   exact .row b (off+l*sz) c t rfl hb (by omega) (by omega) hlen hget
theorem inBlk_sub {p:Option Addr} {cap l sz c:Nat} (hc:inBlk (slBase p cap l sz) c):inBlk p c:=by
 obtain⟨a,e,rfl⟩:=hc
 unfold slBase at e
 split at e
 ·exact⟨a,e,rfl⟩
 ·cases p with
  |none=>cases e
  |some b=>cases e;exact⟨b,rfl,by unfold Addr.add;split<;>rfl⟩
theorem splice_set {c:Array Value} {off:Nat} : ∀(ds:List Value) (i:Nat) (h:Heap) (b:Nat) (t:TypeId) (K:Unit→Heap→Prop),(∀v∈ds,oneCell v=true)→h[b]? =some (.cells c t (0,0))→off+i+ds.length≤c.size→
  (∀h' c',h'[b]? =some (.cells c' t (0,0))→c'.size=c.size→(∀j,j<off+i∨off+i+ds.length≤j→c'[j]? =c[j]?)→(∀j v,ds[j]? =some v→c'[off+i+j]? =some v)→h'.size=h.size→(∀x,x≠b→h'[x]? =h[x]?)→K () h')→
  denSem P (storeCells ⟨b,off,none⟩ ds i) h K
 | [],i,h,b,t,K,_,hb,_,hk=>by
  refine hk h c hb rfl (fun _ _=>rfl) (fun j v hj=>by simp at hj) rfl (fun _ _=>rfl)
 |v::ds,i,h,b,t,K,hv,hb,hlen,hk=>by
  simp only[storeCells]
  rw[den_bind]
  simp only[List.length_cons] at hlen
  have hlt:off+i<c.size:=by omega
  refine⟨hv v List.mem_cons_self, ?_, ?_, ?_⟩
  ·rw[add_blk,hcell_blk hb];simp[hlt]
  ·rw[add_blk];exact hfrozen_blk hb
  ·rw[add_blk]
   show denSem P (storeCells ⟨b,off,none⟩ ds (i+1)) (hset h ⟨b,off+i,none⟩ v) K
   refine splice_set (c:=c.setIfInBounds (off+i) v) ds (i+1) _ b t K (fun u hu=>hv u (List.mem_cons_of_mem _ hu)) (hset_same hb) (by simp;omega) ?_
   intro h' c' hb' hs' ho' hn' hsz hoth
   refine hk h' c' hb' (by rw[hs'];simp) (fun j hj=> ?_) (fun j u hj=> ?_) (by rw[hsz,hset_size]) (fun x hx=>by rw[hoth x hx,hset_other hx])
   ·simp only[List.length_cons] at hj
    rw[ho' j (by omega),Array.getElem?_setIfInBounds,if_neg (by omega)]
   ·cases j with
    |zero=>
     simp only[List.getElem?_cons_zero,Option.some.injEq] at hj
     subst hj
     rw[ho' (off+i+0) (by omega)]
     simp[hlt]
    |succ j=>
     have:=hn' j u (by simpa using hj)
     rwa[show off+(i+1)+j=off+i+(j+1) by omega] at this
theorem den_append_i {sT xT ty elem eT:TypeId} {i:TypeInfo} {z:Value} {h:Heap} {p q:Option Addr} {len cap n cq:Nat} {cs ds:List Value} {K:Value→Heap→Prop}
  (hs:P.underlying sT=some (.slice elem)) (hx:P.underlying xT=some (.slice eT)) (hi:P.info? elem=some i) (hz:i.zero=some z) (hsz:z.cells.size=i.size)
  (own:Own h p len cap i.size cs) (hq:Row h q ds) (hd:ds.length=n*i.size) (hone: ∀v∈ds,oneCell v=true) (hb:(len+n)*i.bytes≤70368744177664) (hb2:len+n≤9223372036854775807)
  (hk: ∀p' cap' h',Own h' p' (len+n) cap' i.size (cs++ds)→Own h' p len cap i.size cs→Fr (inBlk p) h h'→(∀c,inBlk p' c→inBlk p c∨h.size≤c)→K (.slice p' (len+n) cap') h'):
  denSem P (Builtin.append_ #[sT,xT] ty #[.slice p len cap, .slice q n cq]) h K:=by
 unfold Builtin.append_
 refine den_of_rd (s:=underlying sT) (rd_underlying hs) ?_
 refine den_of_rd (s:=sizeOf elem) (rd_sizeOf hi) ?_
 refine den_of_rd (s:=underlying xT) (rd_underlying hx) ?_
 refine den_of_rd (s:=(pure false:Sem Bool)) (a:=false) rfl ?_
 refine den_of_rd (s:=Builtin.lenOf (.slice q n cq)) (a:=n) rfl ?_
 show denSem P (if len+n≤cap then _ else _) h K
 by_cases hcap:len+n≤cap
 ·rw[if_pos hcap]
  refine den_of_rd (s:=Builtin.firstCells i.size n (.slice q n cq)) (a:=ds.toArray) (rd_firstCells hq hd) ?_
  cases own with
  |nil hp hl hc hcs=>
   subst hp hl hc hcs
   have hn0:n=0:=by omega
   subst hn0
   have hds:ds= []:=by simpa using hd
   subst hds
   exact hk none 0 h (.nil rfl rfl rfl rfl) (.nil rfl rfl rfl rfl) (Fr.refl _ _) (fun c ⟨a,e,_⟩=>by cases e)
  |row b off c t hp hbk hl hc hlen hcs=>
   subst hp
   show denSem P (storeCells ((⟨b,off,none⟩:Addr).add (len*i.size)) ds>>=fun _=>pure (.slice (some ⟨b,off,none⟩) (len+n) cap)) h K
   rw[add_blk]
   have hmul:(len+n)*i.size≤cap*i.size:=Nat.mul_le_mul_right _ hcap
   rw[Nat.add_mul] at hmul
   rw[den_bind]
   refine splice_set (c:=c) (off:=off+len*i.size) ds 0 h b t _ hone hbk (by omega) ?_
   intro h' c' hb' hs' ho' hn' hsz hoth
   show K (.slice (some ⟨b,off,none⟩) (len+n) cap) h'
   refine hk _ cap h' (.row b off c' t rfl hb' hcap (by omega) (by rw[List.length_append,hlen,hd,Nat.add_mul]) ?_) (.row b off c' t rfl hb' hl (by omega) hlen ?_) (Fr.of_eq hsz fun x hx=>hoth x (fun e=>hx ⟨_,rfl,e.symm⟩)) (fun c hc=> .inl hc)
   ·intro j v hj
    by_cases hjl:j<cs.length
    ·rw[List.getElem?_append_left hjl] at hj
     rw[ho' _ (by omega)];exact hcs j v hj
    ·rw[List.getElem?_append_right (by omega)] at hj
     have:=hn' _ v hj
     rw[hlen] at this
     rwa[show off+len*i.size+0+(j - len*i.size)=off+j by omega] at this
   ·intro j v hj
    have hjl:j<cs.length:=(List.getElem?_eq_some_iff.1 hj).1
    rw[ho' _ (by omega)];exact hcs j v hj
 ·rw[if_neg hcap]
  have hle:=nextslicecap_le (need:=len+n) (cap:=cap) (by omega)
  refine den_of_rd (s:=typeInfo elem) (rd_typeInfo hi) ?_
  have hmax: ¬(((len+n:Nat):Int)>IntKind.max .i64∧(False∨i.bytes=0)):=fun hc=>by
   have:IntKind.max .i64=9223372036854775807:=rfl
   rw[this] at hc;omega
  show denSem P (if(((len+n:Nat):Int)>IntKind.max .i64∧(false=true∨i.bytes=0)) then _ else _) h K
  rw[if_neg (by simpa using hmax)]
  refine den_of_rd (s:=typeInfo elem) (rd_typeInfo hi) ?_
  have hnext: ¬(Builtin.nextslicecap (len+n) cap*i.bytes>2 ^ 48):=by
   have h1:Builtin.nextslicecap (len+n) cap*i.bytes≤2*(len+n)*i.bytes:=Nat.mul_le_mul_right _ hle
   rw[Nat.mul_assoc] at h1
   omega
  show denSem P (if Builtin.nextslicecap (len+n) cap*i.bytes>2 ^ 48 then _ else _) h K
  rw[if_neg hnext]
  show denSem P (choose (.appendCap (len+n) cap elem)>>=_) h K
  rw[den_bind]
  unfold choose
  simp only[denSem,Question.forced,Bool.false_eq_true,if_false,Question.cut]
  intro tq
  refine den_of_rd (s:=typeInfo elem) (rd_typeInfo hi) ?_
  rw[den_bind]
  have hroom: ∀(m:Nat) (K':Unit→Heap→Prop),K' () h→denSem P (askRoom m) h K':=fun m K' hk'=>by
   unfold askRoom
   split
   ·exact hk'
   ·exact hk'
  refine hroom _ _ ?_
  refine den_of_rd (s:=Builtin.firstCells i.size len (.slice p len cap)) (a:=cs.toArray) (rd_firstCells own.row' own.length) ?_
  refine den_of_rd (s:=Builtin.firstCells i.size n (.slice q n cq)) (a:=ds.toArray) (rd_firstCells hq hd) ?_
  refine den_of_rd (s:=zeroValue elem) (rd_zeroValue hi hz) ?_
  generalize hcap':len+n+tq%(2 ^ 63 - (len+n))=cap'
  have hge:len+n≤cap':=by omega
  show K (.slice (some ⟨h.size,0,none⟩) (len+n) cap') (h.push (.cells (cs.toArray++ds.toArray++Builtin.zeroCells z.cells (cap' - (len+n))) elem))
  have hsize:(cs.toArray++ds.toArray++Builtin.zeroCells z.cells (cap' - (len+n))).size=cap'*i.size:=by
   have h1:(Builtin.zeroCells z.cells (cap' - (len+n))).size=(cap' - (len+n))*i.size:=by simp[Builtin.zeroCells,hsz]
   have h2:=own.length
   rw[Array.size_append,Array.size_append,h1]
   simp only[List.size_toArray]
   rw[h2,hd,←Nat.add_mul,←Nat.add_mul]
   congr 1;omega
  refine hk _ cap' _ (.row h.size 0 _ elem rfl push_new hge (by rw[hsize];omega) (by rw[List.length_append,own.length,hd,Nat.add_mul]) ?_) (own.frame (Fr.push (S:=fun _=>False) _ _) (fun _ _=>id)) (Fr.push _ _) ?_
  ·intro j v hj
   rw[Nat.zero_add]
   have hjl:j<(cs++ds).length:=(List.getElem?_eq_some_iff.1 hj).1
   rw[Array.getElem?_append_left (by simpa using hjl)]
   simpa using hj
  ·rintro c ⟨a,e,rfl⟩
   cases e
   exact .inr (Nat.le_refl _)
structure SlTy (P:Program) (sT elem:TypeId) (sz bytes:Nat) (z:Value):Prop where
 u:P.underlying sT=some (.slice elem)
 info:(P.info? elem).map (fun i=>(i.size,i.bytes,i.zero))=some (sz,bytes,some z)
 zs:z.cells.size=sz
theorem SlTy.i {sT elem:TypeId} {sz bytes:Nat} {z:Value} (T:SlTy P sT elem sz bytes z): ∃i,P.info? elem=some i∧i.size=sz∧i.bytes=bytes∧i.zero=some z:=by
 have:=T.info
 cases hi:P.info? elem with
 |none=>rw[hi] at this;cases this
 |some i=>
  rw[hi] at this
  simp only[Option.map_some,Option.some.injEq,Prod.mk.injEq] at this
  exact⟨i,rfl,this⟩
theorem den_append {sT xT ty elem eT:TypeId} {sz bytes:Nat} {z:Value} {h:Heap} {p q:Option Addr} {len cap n cq:Nat} {cs ds:List Value} {K:Value→Heap→Prop}
  (T:SlTy P sT elem sz bytes z) (hx:P.underlying xT=some (.slice eT))
  (own:Own h p len cap sz cs) (hq:Row h q ds) (hd:ds.length=n*sz) (hone: ∀v∈ds,oneCell v=true) (hb:(len+n)*bytes≤70368744177664) (hb2:len+n≤9223372036854775807)
  (hk: ∀p' cap' h',Own h' p' (len+n) cap' sz (cs++ds)→Own h' p len cap sz cs→Fr (inBlk p) h h'→(∀c,inBlk p' c→inBlk p c∨h.size≤c)→K (.slice p' (len+n) cap') h'):
  denSem P (Builtin.append_ #[sT,xT] ty #[.slice p len cap, .slice q n cq]) h K:=by
 obtain⟨i,hi,rfl,rfl,hz⟩:=T.i
 exact den_append_i T.u hx hi hz T.zs own hq hd hone hb hb2 hk
end
end Go.Den
namespace Go.Den
open Go.RowKit
def Rok (P:Program) (h:Heap):Nat→TypeId→List Value→Prop
 |0,_,_=>False
 |n+1,t,cs=>
  match P.underlying t with
  |some .bool=> ∃b,cs= [.bool b]
  |some (.int k)=> ∃a,cs= [.int k a]∧(Lit.int k a).wf=true
  |some .string=> ∃s,cs= [.string s]∧s.size≤maxLen
  |some (.pointer e)=>cs= [.pointer none]∨ ∃a cs',cs= [.pointer (some a)]∧cs'.length=P.cellsOf e∧heldL a cs' 0 h∧Rok P h n e cs'
  |some (.slice e)=>cs= [.slice none 0 0]∨ ∃a len cap,cs= [.slice (some a) len cap]∧len≤cap∧cap≤maxLen∧ ∀i,i<len→ ∃cs',cs'.length=P.cellsOf e∧heldL (a.add (i*P.cellsOf e)) cs' 0 h∧Rok P h n e cs'
  |some (.struct fs)=>cs.length=P.cellsOf t∧ ∀f∈fs.toList,Rok P h n f.type ((cs.drop f.offset).take (P.cellsOf f.type))
  |some (.array m e)=>cs.length=P.cellsOf t∧ ∀i,i<m→Rok P h n e ((cs.drop (i*P.cellsOf e)).take (P.cellsOf e))
  |_=>True
theorem cells_held {w:World} {base:Nat} {a:Addr} {n:Nat} {cs:List Value} (h:w.cells? base a n=some cs):cs.length=n∧heldL a cs 0 w.heap:=by
 obtain⟨_,hl,hc⟩:=World.cells?_some h
 refine⟨hl,heldL_at.2 fun j v hj=> ?_⟩
 have hjl:j<cs.length:=(List.getElem?_eq_some_iff.1 hj).1
 have:=hc j (by omega)
 rw[cell_eq,hj] at this
 rw[Nat.zero_add];exact this
theorem rok_of_trod {H:Type} {enc:TypeId×Value→H} {P:Program} {w:World} {base:Nat} {spare:Nat→Bool} {held:Bool} :
  ∀(fuel:Nat) (t:TypeId) (cs:List Value) (x:DataW H×List MemPlace),DataW.trod enc P w base spare held fuel t cs=some x→Rok P w.heap fuel t cs
 |0,_,_,_,h=>by simp[DataW.trod] at h
 |fuel+1,t,cs,x,h=>by
  unfold Rok
  cases hd:P.underlying t with
  |none=>trivial
  |some d=>
   cases d<;>simp only<;>first|trivial|skip
   case bool=>obtain⟨b,hc,_⟩:=DataW.trod_bool hd h;exact⟨b,hc⟩
   case int k=>obtain⟨n,hc,_,hw⟩:=DataW.trod_int hd h;exact⟨n,hc,hw⟩
   case string=>obtain⟨s,hc,_,hw⟩:=DataW.trod_string hd h;exact⟨s,hc,hw⟩
   case pointer e=>
    rcases DataW.trod_pointer hd h with⟨hc,_⟩|⟨a,cs',y,n,hn,hc,_,hcell,hy⟩
    ·exact .inl hc
    ·obtain⟨hl,hh⟩:=cells_held hcell
     obtain rfl:n=fuel:=by omega
     exact .inr ⟨a,cs',hc,hl,hh,rok_of_trod n e cs' y hy⟩
   case slice e=>
    rcases DataW.trod_slice hd h with⟨hc,_⟩|⟨a,len,cap,elems,rest,n,hn,hc,_,_,hl,hm,hlen,hel,_⟩
    ·exact .inl hc
    ·obtain rfl:n=fuel:=by omega
     refine .inr ⟨a,len,cap,hc,hl,hm,fun i hi=> ?_⟩
     have h1:=hel i hi
     rw[List.getElem?_eq_getElem (by omega)] at h1
     cases hcell:w.cells? base (a.add (i*P.cellsOf e)) (P.cellsOf e) with
     |none=>rw[hcell] at h1;cases h1
     |some cs'=>
      rw[hcell] at h1
      obtain⟨hl',hh⟩:=cells_held hcell
      exact⟨cs',hl',hh,rok_of_trod n e cs' _ h1⟩
   case struct fs=>
    obtain⟨xs,n,hn,_,hl,hxs,hf⟩:=DataW.trod_struct hd h
    obtain rfl:n=fuel:=by omega
    refine⟨hl,fun f hm=> ?_⟩
    obtain⟨i,hi⟩:=List.getElem?_of_mem hm
    have hi':fs[i]? =some f:=by simpa using hi
    have h1:=hf i f hi'
    have hlt:i<xs.length:=by rw[hxs];exact(Array.getElem?_eq_some_iff.1 hi').1
    rw[List.getElem?_eq_getElem hlt] at h1
    exact rok_of_trod n _ _ _ h1
   case array m e=>
    obtain⟨xs,n,hn,_,hl,hxs,hf⟩:=DataW.trod_array hd h
    obtain rfl:n=fuel:=by omega
    refine⟨hl,fun i hi=> ?_⟩
    have h1:=hf i hi
    rw[List.getElem?_eq_getElem (by omega)] at h1
    exact rok_of_trod n _ _ _ h1
def RokV (P:Program) (h:Heap) (t:TypeId) (v:Value):Prop:= ∃n,Rok P h n t v.cells.toList
theorem RokV.of {H:Type} {enc:TypeId×Value→H} {P:Program} {w:World} {base:Nat} {spare:Nat→Bool} {held:Bool} {t:TypeId} {v:Value} {d:DataW H} {ps:List MemPlace}
  (h:DataW.Trod enc P w base spare held t v d ps):RokV P w.heap t v:=by
 obtain⟨n,hn⟩:=h
 exact⟨n,rok_of_trod n _ _ _ hn⟩
theorem below_of {w w':World} (hf:Fr (fun _=>False) w.heap w'.heap) (hs:Same w w'):Below w.heap.size w w':=
 ⟨hs.1,hs.2.2,hs.2.1,hf.1,fun k hk=>hf.2 k hk id⟩
def LawH (P:Program) (f:FuncId) (args:Array Value) (h:Heap):Prop:=CallsH P f args h (fun v h'=>v= .bool true∧Fr (fun _=>False) h h')
theorem LawH.calls {P:Program} {f:FuncId} {args:Array Value} {w:World} (hl:LawH P f args w.heap):Calls P f args w fun e w'=>e= .returned (.bool true)∧Below w.heap.size w w':=
 (hl w rfl).mono fun _ _ ⟨_,he,⟨hv,hf⟩,hs⟩=>⟨by rw[he,hv],below_of hf hs⟩
theorem wf_u64 {a:Int} (h:(Lit.int .u64 a).wf=true):0≤a∧a≤18446744073709551615:=by
 simpa[Lit.wf,IntKind.min,IntKind.max,IntKind.bits,IntKind.signed] using h
theorem wf_u8 {a:Int} (h:(Lit.int .u8 a).wf=true):0≤a∧a≤255:=by
 simpa[Lit.wf,IntKind.min,IntKind.max,IntKind.bits,IntKind.signed] using h
section
variable {P : Program} {h : Heap} {t : TypeId} {v : Value}
theorem heldL_append {h:Heap} {a:Addr} {cs ds:List Value} :heldL a (cs++ds) 0 h↔heldL a cs 0 h∧heldL (a.add cs.length) ds 0 h:=by
 simp only[heldL_at,Nat.zero_add]
 constructor
 ·intro hh
  refine⟨fun j v hj=>hh j v ?_,fun j v hj=> ?_⟩
  ·rw[List.getElem?_append_left (List.getElem?_eq_some_iff.1 hj).1];exact hj
  ·rw[add_add]
   refine hh _ v ?_
   rw[List.getElem?_append_right (by omega)]
   simpa using hj
 ·rintro⟨h1,h2⟩ j v hj
  by_cases hlt:j<cs.length
  ·rw[List.getElem?_append_left hlt] at hj;exact h1 j v hj
  ·rw[List.getElem?_append_right (by omega)] at hj
   have:=h2 _ v hj
   rw[add_add] at this
   rwa[show cs.length+(j - cs.length)=j by omega] at this
theorem flat_len {α:Type} (enc:α→List Value) (sz:Nat) (henc: ∀x,(enc x).length=sz): ∀xs:List α,(xs.flatMap enc).length=xs.length*sz
 | []=>by simp
 |x::xs=>by
  rw[List.flatMap_cons,List.length_append,henc,flat_len enc sz henc xs,List.length_cons,Nat.add_mul];omega
theorem flat_at {α:Type} (enc:α→List Value) (sz:Nat) (henc: ∀x,(enc x).length=sz): ∀(xs:List α) (i:Nat) (x:α),xs[i]? =some x→ ∀j v,(enc x)[j]? =some v→(xs.flatMap enc)[i*sz+j]? =some v
 | [],i,x,h,_,_,_=>by simp at h
 |y::xs,0,x,h,j,v,hj=>by
  simp at h;subst h
  have hlt:=(List.getElem?_eq_some_iff.1 hj).1
  rw[List.flatMap_cons,Nat.zero_mul,Nat.zero_add,List.getElem?_append_left hlt];exact hj
 |y::xs,i+1,x,h,j,v,hj=>by
  have:=flat_at enc sz henc xs i x (by simpa using h) j v hj
  rw[List.flatMap_cons,List.getElem?_append_right (by rw[henc,Nat.add_mul];omega),henc]
  rwa[show(i+1)*sz+j - sz=i*sz+j by rw[Nat.add_mul];omega]
theorem RokV.slice {α:Type} {e:TypeId} {p:Option Addr} {len cap:Nat} (enc:α→List Value) (sz:Nat) (Q:α→Prop) (hsz:P.cellsOf e=sz) (henc: ∀x,(enc x).length=sz)
  (hdec: ∀n cs',cs'.length=sz→Rok P h n e cs'→ ∃x,cs'=enc x∧Q x) (ht:P.underlying t=some (.slice e)) (hv:RokV P h t (.slice p len cap)):
  ∃xs:List α,xs.length=len∧len≤cap∧cap≤maxLen∧Row h p (xs.flatMap enc)∧ ∀x∈xs,Q x:=by
 obtain⟨n,hn⟩:=hv
 cases n with
 |zero=>exact hn.elim
 |succ n=>
  unfold Rok at hn
  rw[ht] at hn
  rcases hn with hc|⟨a,len',cap',hc,hl,hm,hel⟩
  ·simp[Value.cells] at hc
   obtain⟨rfl,rfl,rfl⟩:=hc
   exact⟨[],rfl,Nat.le_refl _,Nat.zero_le _, .inl rfl,fun _ hx=>by cases hx⟩
  ·simp[Value.cells] at hc
   obtain⟨rfl,rfl,rfl⟩:=hc
   have key: ∀k,k≤len→ ∃xs:List α,xs.length=k∧heldL a (xs.flatMap enc) 0 h∧ ∀x∈xs,Q x:=by
    intro k
    induction k with
    |zero=>intro _;exact⟨[],rfl,trivial,fun _ hx=>by cases hx⟩
    |succ k ih=>
     intro hk
     obtain⟨xs,hx1,hx2,hx3⟩:=ih (by omega)
     obtain⟨cs',h1,h2,h3⟩:=hel k (by omega)
     obtain⟨x,rfl,hq⟩:=hdec n cs' (by rw[h1,hsz]) h3
     refine⟨xs++ [x],by simp[hx1], ?_, ?_⟩
     ·rw[List.flatMap_append,heldL_append]
      refine⟨hx2, ?_⟩
      rw[flat_len enc sz henc,hx1,←hsz]
      simpa using h2
     ·intro y hy
      rcases List.mem_append.1 hy with hy|hy
      ·exact hx3 y hy
      ·simp at hy;subst hy;exact hq
   obtain⟨xs,hx1,hx2,hx3⟩:=key len (Nat.le_refl _)
   exact⟨xs,hx1,hl,hm, .inr ⟨a,rfl,hx2⟩,hx3⟩
theorem Rok.int {k:IntKind} {n:Nat} {cs:List Value} (ht:P.underlying t=some (.int k)) (hr:Rok P h n t cs): ∃a,cs= [.int k a]∧(Lit.int k a).wf=true:=by
 cases n with
 |zero=>exact hr.elim
 |succ n=>unfold Rok at hr;rw[ht] at hr;exact hr
end
def tlFields (P:Program) (r:TypeId→Option (List TypeId)):List Field→Nat→Option (List TypeId)
 | [],_=>some []
 |f::fs,off=>(match Nat.beq f.offset off,r f.type with
  |true,some ts=>(match Nat.beq ts.length (P.cellsOf f.type),tlFields P r fs (off+ts.length) with
   |true,some us=>some (ts++us)
   |_,_=>none)
  |_,_=>none)
def tleaves (P:Program):Nat→TypeId→Option (List TypeId)
 |0,_=>none
 |n+1,t=>(match P.underlying t with
  |some (.struct fs)=>tlFields P (tleaves P n) fs.toList 0
  |some (.array _ _)=>none
  |_=>some [t])
def Leaves (P:Program) (h:Heap) (ts:List TypeId) (cs:List Value):Prop:= ∀(i:Nat) (ti:TypeId),ts[i]? =some ti→ ∃v m,cs[i]? =some v∧Rok P h m ti [v]
theorem Leaves.append {P:Program} {h:Heap} {ts us:List TypeId} {cs:List Value} (h1:Leaves P h ts (cs.take ts.length)) (h2:Leaves P h us (cs.drop ts.length)):Leaves P h (ts++us) cs:=by
 intro i ti hi
 by_cases hlt:i<ts.length
 ·rw[List.getElem?_append_left hlt] at hi
  obtain⟨v,m,hv,hr⟩:=h1 i ti hi
  rw[List.getElem?_take,if_pos hlt] at hv
  exact⟨v,m,hv,hr⟩
 ·rw[List.getElem?_append_right (by omega)] at hi
  obtain⟨v,m,hv,hr⟩:=h2 _ ti hi
  rw[List.getElem?_drop] at hv
  exact⟨v,m,by rwa[show ts.length+(i - ts.length)=i by omega] at hv,hr⟩
theorem tlFields_ok {P:Program} {h:Heap} {r:TypeId→Option (List TypeId)} {n:Nat}
  (hr: ∀t ts cs,r t=some ts→cs.length=ts.length→Rok P h n t cs→Leaves P h ts cs):
  ∀(fs:List Field) (off:Nat) (us:List TypeId) (cs:List Value),tlFields P r fs off=some us→off+us.length≤cs.length→(∀f∈fs,Rok P h n f.type ((cs.drop f.offset).take (P.cellsOf f.type)))→
   Leaves P h us (cs.drop off)
 | [],off,us,cs,hu,_,_=>by simp only[tlFields,Option.some.injEq] at hu;subst hu;intro i ti hi;simp at hi
 |f::fs,off,us,cs,hu,hlen,hf=>by
  simp only[tlFields] at hu
  split at hu
  ·rename_i ts hoff hts
   split at hu
   ·rename_i us' hl hus
    simp only[Option.some.injEq] at hu
    subst hu
    have hoff:=Nat.eq_of_beq_eq_true hoff
    have hl:=Nat.eq_of_beq_eq_true hl
    rw[List.length_append] at hlen
    have h1:=hf f List.mem_cons_self
    rw[hoff,←hl] at h1
    refine Leaves.append (hr _ _ _ hts (by simp;omega) h1) ?_
    rw[List.drop_drop]
    exact tlFields_ok hr fs _ us' cs hus (by omega) (fun f' hm=>hf f' (List.mem_cons_of_mem _ hm))
   ·cases hu
  ·cases hu
theorem tleaves_ok {P:Program} {h:Heap} : ∀(d n:Nat) (t:TypeId) (ts:List TypeId) (cs:List Value),tleaves P d t=some ts→cs.length=ts.length→Rok P h n t cs→Leaves P h ts cs
 |0,_,_,_,_,ht,_,_=>by simp[tleaves] at ht
 |d+1,n,t,ts,cs,ht,hl,hr=>by
  simp only[tleaves] at ht
  cases n with
  |zero=>exact hr.elim
  |succ n=>
   split at ht
   ·rename_i fs hfs
    unfold Rok at hr
    rw[hfs] at hr
    have:=tlFields_ok (fun t ts cs h1 h2 h3=>tleaves_ok d n t ts cs h1 h2 h3) fs.toList 0 ts cs ht (by omega) hr.2
    simpa using this
   ·cases ht
   ·simp only[Option.some.injEq] at ht
    subst ht
    intro i ti hi
    match cs,hl with
    | [v],_=>
     cases i with
     |zero=>simp at hi;subst hi;exact⟨v,n+1,rfl,hr⟩
     |succ i=>simp at hi
theorem Leaves.get {P:Program} {h:Heap} {ts:List TypeId} {cs:List Value} (hl:Leaves P h ts cs) (i:Nat) {ti:TypeId} {v:Value} (hi:ts[i]? =some ti) (hv:cs[i]? =some v): ∃m,Rok P h m ti [v]:=by
 obtain⟨u,m,hu,hr⟩:=hl i ti hi
 rw[hu] at hv;cases hv
 exact⟨m,hr⟩
theorem Leaves.int {P:Program} {h:Heap} {ts:List TypeId} {cs:List Value} (hl:Leaves P h ts cs) (i:Nat) {ti:TypeId} {v:Value} {k:IntKind} (hi:ts[i]? =some ti) (hv:cs[i]? =some v) (ht:P.underlying ti=some (.int k)): ∃a,v= .int k a∧(Lit.int k a).wf=true:=by
 obtain⟨m,hr⟩:=hl.get i hi hv
 obtain⟨a,ha,hw⟩:=Rok.int ht hr
 exact⟨a,by simpa using ha,hw⟩
theorem JoinP.of {α:Type} {F:α} {B:α→Prop} (h: ∀J,J=F→B J):JoinP F B:=h F rfl
theorem RokV.ints {P:Program} {h:Heap} {t e:TypeId} {k:IntKind} {p:Option Addr} {len cap:Nat} (he:P.cellsOf e=1) (hk:P.underlying e=some (.int k)) (ht:P.underlying t=some (.slice e)) (hv:RokV P h t (.slice p len cap)):
  ∃xs:List Int,xs.length=len∧Row h p (xs.map (.int k ·))∧ ∀x∈xs,(Lit.int k x).wf=true:=by
 obtain⟨xs,h1,_,_,h2,h3⟩:=RokV.slice (e:=e) (fun x:Int=> [Value.int k x]) 1 (fun x=>(Lit.int k x).wf=true) he (fun _=>rfl) (fun n cs' _ hr=>Rok.int hk hr) ht hv
 refine⟨xs,h1, ?_,h3⟩
 have:xs.flatMap (fun x:Int=> [Value.int k x])=xs.map (.int k ·):=by
  clear h1 h2 h3
  induction xs with
  |nil=>rfl
  |cons x xs ih=>rw[List.flatMap_cons,ih];rfl
 rwa[this] at h2
end Go.Den
namespace Go.Den
def bc (bs:List UInt8):List Value:=bs.map fun b=> .int .u8 (b.toNat:Int)
theorem bc_len (bs:List UInt8):(bc bs).length=bs.length:=by simp[bc]
theorem bc_append (bs cs:List UInt8):bc (bs++cs)=bc bs++bc cs:=by simp[bc]
theorem bc_take (bs:List UInt8) (n:Nat):(bc bs).take n=bc (bs.take n):=by simp[bc,List.map_take]
theorem bc_drop (bs:List UInt8) (n:Nat):(bc bs).drop n=bc (bs.drop n):=by simp[bc,List.map_drop]
theorem bc_one (bs:List UInt8): ∀v∈bc bs,oneCell v=true:=by
 intro v hv
 simp only[bc,List.mem_map] at hv
 obtain⟨b,_,rfl⟩:=hv
 rfl
def str (bs:List UInt8):ByteArray:=⟨bs.toArray⟩
theorem toList_loop (b:ByteArray): ∀(k i:Nat) (r:List UInt8),b.size - i=k→i≤b.size→ByteArray.toList.loop b i r=r.reverse++b.data.toList.drop i
 |0,i,r,hk,hi=>by
  have:i=b.size:=by omega
  unfold ByteArray.toList.loop
  rw[if_neg (by omega)]
  have:b.data.toList.length≤i:=by rw[Array.length_toList];exact Nat.le_of_eq this.symm
  rw[List.drop_of_length_le this];simp
 |k+1,i,r,hk,hi=>by
  have hlt:i<b.size:=by omega
  unfold ByteArray.toList.loop
  rw[if_pos hlt,toList_loop b k (i+1) _ (by omega) (by omega)]
  have hl:i<b.data.toList.length:=by rw[Array.length_toList];exact hlt
  rw[List.drop_eq_getElem_cons hl]
  have:b.get! i=b.data.toList[i]:=by
   show b.data[i]! =_
   rw[getElem!_pos b.data i hlt];simp
  rw[this];simp
theorem toList_data (b:ByteArray):b.toList=b.data.toList:=by
 unfold ByteArray.toList
 rw[toList_loop b _ 0 [] rfl (Nat.zero_le _)];simp
theorem str_list (bs:List UInt8):(str bs).toList=bs:=by rw[toList_data];simp[str]
theorem str_data (s:ByteArray):str s.data.toList=s:=by cases s;simp[str]
section
variable {P : Program}
theorem rd_forBytes (h:Heap): ∀(bs:List UInt8) (s:ByteArray),rd P (forIn (bc bs).toArray s fun c s=>(do
   let .int .u8 n:=c|stuck "bytesToString: byte expected"
   pure (ForInStep.yield (s.push (UInt8.ofNat n.toNat))))) h=some ⟨s.data++bs.toArray⟩:=by
 intro bs
 simp only[List.forIn_toArray]
 induction bs with
 |nil=>intro s;simp only[bc,List.map_nil,List.forIn_nil];show some s=_;cases s;simp
 |cons b bs ih=>
  intro s
  have e:bc (b::bs)= .int .u8 (b.toNat:Int)::bc bs:=rfl
  rw[e,List.forIn_cons]
  rw[rd_bind _ _ h (ForInStep.yield (s.push b)) (by show some (ForInStep.yield (s.push (UInt8.ofNat b.toNat)))=_;simp)]
  show rd P (forIn (bc bs) (s.push b) _) h=_
  rw[ih]
  simp[ByteArray.push]
theorem conv_str {sT dT e:TypeId} {h:Heap} {p:Option Addr} {c n:Nat} {bs:List UInt8} (hs:P.underlying sT=some (.slice e)) (he:P.underlying e=some (.int .u8)) (hd:P.underlying dT=some .string)
  (hr:Row h p (bc bs)) (hn:n=bs.length):ConvV P sT dT (.slice p n c) h (str bs):=by
 subst hn
 unfold ConvV convert
 rw[rd_bind _ _ _ _ (rd_underlying hs),rd_bind _ _ _ _ (rd_underlying hd)]
 show rd P (underlying e>>=_) h=_
 rw[rd_bind _ _ _ _ (rd_underlying he)]
 show rd P (Conv.bytesToString (.slice p bs.length c)) h=_
 cases p with
 |none=>
  have:bs= []:=by
   rcases hr with hr|⟨a,e,_⟩
   ·cases bs with
    |nil=>rfl
    |cons b bs=>cases hr
   ·cases e
  subst this
  rfl
 |some a=>
  have hh:heldL a (bc bs) 0 h:=by
   rcases hr with hr|⟨a',e,hh⟩
   ·rw[hr];trivial
   ·cases e;exact hh
  have hl:rd P (loadCells a bs.length) h=some (bc bs).toArray:=by
   unfold loadCells
   rw[←bc_len,rd_loadCellsFrom (bc bs) 0 #[] h hh];simp
  show rd P (loadCells a bs.length>>=fun cells=>(forIn cells ByteArray.empty fun c s=>(do
   let .int .u8 n:=c|stuck "bytesToString: byte expected"
   pure (ForInStep.yield (s.push (UInt8.ofNat n.toNat)))))>>=fun s=>pure (Value.string s)) h=_
  rw[rd_bind _ _ _ _ hl,rd_bind _ _ _ _ (rd_forBytes h bs ByteArray.empty)]
  show some (Value.string ⟨ByteArray.empty.data++bs.toArray⟩)=_
  have:(⟨ByteArray.empty.data++bs.toArray⟩:ByteArray)=str bs:=by
   unfold str;congr 1;show #[]++bs.toArray=bs.toArray;simp
  rw[this]
theorem den_lit {t e:TypeId} {h:Heap} {a:Addr} {n c:Nat} {K:Value→Heap→Prop} (hs:P.underlying t=some (.slice e)) (he:P.underlying e=some (.int .u8)) {cs:Array Value} {ct:TypeId} {f:Nat×Nat} (hb:h[a.block]? =some (.cells cs ct f))
  (hk: ∀h' f',h'[a.block]? =some (.cells cs ct f')→h'.size=h.size→(∀x,x≠a.block→h'[x]? =h[x]?)→K (.slice (some a) n c) h'):denSem P (convert t t (.slice (some a) n c)) h K:=by
 unfold convert
 refine den_of_rd (s:=underlying t) (rd_underlying hs) ?_
 refine den_of_rd (s:=underlying t) (rd_underlying hs) ?_
 show denSem P (underlying e>>=_) h K
 refine den_of_rd (s:=underlying e) (rd_underlying he) ?_
 have ht:(t==t)=true:=by simp
 rw[ht]
 show denSem P (markStringish a>>=fun _=>pure (.slice (some a) n c)) h K
 rw[den_bind]
 unfold markStringish shape
 have hsh:hshape h a.block=some (ct,cs.size):=by simp[hshape,hb]
 show denSem P (match hshape h a.block with|some (_,n)=>freeze { block:=a.block,off:=n } 1|_=>pure ()) h _
 rw[hsh]
 show K (.slice (some a) n c) (hfreeze h { block:=a.block,off:=cs.size } 1)
 unfold hfreeze
 rw[if_neg (by omega)]
 obtain⟨lo,hi⟩:=f
 refine hk _ (if lo==hi then(cs.size,cs.size+1) else(min lo cs.size,max hi (cs.size+1))) ?_ (by simp) (fun x hx=> ?_)
 ·simp[Array.getElem?_modify,hb]
 ·simp[Array.getElem?_modify,Ne.symm hx]
theorem RokV.bytes {h:Heap} {t e:TypeId} {p:Option Addr} {len cap:Nat} (he:P.cellsOf e=1) (hk:P.underlying e=some (.int .u8)) (ht:P.underlying t=some (.slice e)) (hv:RokV P h t (.slice p len cap)):
  ∃bs:List UInt8,bs.length=len∧Row h p (bc bs):=by
 obtain⟨xs,h1,h2,h3⟩:=RokV.ints he hk ht hv
 refine⟨xs.map fun x=>UInt8.ofNat x.toNat,by simpa using h1, ?_⟩
 have:bc (xs.map fun x=>UInt8.ofNat x.toNat)=xs.map (.int .u8 ·):=by
  unfold bc
  rw[List.map_map]
  refine List.map_congr_left fun x hx=> ?_
  have:=wf_u8 (h3 x hx)
  simp only[Function.comp,UInt8.toNat_ofNat',Value.int.injEq,true_and]
  omega
 rw[this];exact h2
end
theorem Rok.bytes {P:Program} {h:Heap} {t e:TypeId} {n:Nat} {v:Value} (he:P.cellsOf e=1) (hk:P.underlying e=some (.int .u8)) (ht:P.underlying t=some (.slice e)) (hr:Rok P h n t [v]): ∃p c bs,v= .slice p (bs:List UInt8).length c∧Row h p (bc bs):=by
 have: ∃p l c,v= .slice p l c:=by
  cases n with
  |zero=>exact hr.elim
  |succ n=>
   unfold Rok at hr
   rw[ht] at hr
   rcases hr with hc|⟨a,l,c,hc,_⟩
   ·simp at hc;exact⟨_,_,_,hc⟩
   ·simp at hc;exact⟨_,_,_,hc⟩
 obtain⟨p,l,c,rfl⟩:=this
 obtain⟨bs,hl,hrow⟩:=RokV.bytes he hk ht ⟨n,hr⟩
 subst hl
 exact⟨p,c,bs,rfl,hrow⟩
theorem wrap_u8_nat (n:Nat):IntKind.wrap .u8 (n:Int)=((n%256:Nat):Int):=by
 show(n:Int)%256=_
 omega
theorem wrap_u64_nat {n:Nat} (h:n<18446744073709551616):IntKind.wrap .u64 (n:Int)=(n:Int):=wrap_u64 (by omega) (by omega)
set_option maxRecDepth 100000 in
theorem or128 (n:Nat):IntKind.wrap .u8 ((BitVec.ofInt (IntKind.bits .u8) (IntKind.wrap .u8 (n:Int))|||BitVec.ofInt (IntKind.bits .u8) 128).toNat:Int)=((UInt8.ofNat (n%128+128)).toNat:Int):=by
 have key: ∀m:Fin 256,(((BitVec.ofInt 8 ((m.val:Nat):Int)|||BitVec.ofInt 8 128).toNat%256:Nat))=m.val%128+128:=by decide
 rw[wrap_u8_nat n,wrap_u8_nat]
 have k:=key ⟨n%256,by omega⟩
 simp only at k
 have e:IntKind.bits .u8=8:=rfl
 rw[e,k]
 rw[UInt8.toNat_ofNat']
 omega
set_option maxRecDepth 100000 in
theorem and128 (c:UInt8):(IntKind.wrap .u8 ((BitVec.ofInt (IntKind.bits .u8) (c.toNat:Int) &&& BitVec.ofInt (IntKind.bits .u8) 128).toNat:Int)==0)=decide (c.toNat<128):=by
 have key: ∀m:Fin 256,(((((BitVec.ofInt 8 ((m.val:Nat):Int) &&& BitVec.ofInt 8 128).toNat%256:Nat):Int))==0)=decide (m.val<128):=by decide
 rw[wrap_u8_nat]
 exact key ⟨c.toNat,c.toNat_lt⟩
set_option maxRecDepth 100000 in
theorem and127 (c:UInt8):IntKind.wrap .u8 ((BitVec.ofInt (IntKind.bits .u8) (c.toNat:Int) &&& BitVec.ofInt (IntKind.bits .u8) 127).toNat:Int)=((c.toNat%128:Nat):Int):=by
 have key: ∀m:Fin 256,((BitVec.ofInt 8 ((m.val:Nat):Int) &&& BitVec.ofInt 8 127).toNat%256:Nat)=m.val%128:=by decide
 rw[wrap_u8_nat]
 exact congrArg (fun x:Nat=>(x:Int)) (key ⟨c.toNat,c.toNat_lt⟩)
theorem or_shl {n d i:Nat} (hn:n<2 ^ i) (hd:d*2 ^ i<18446744073709551616) (hi:i≤64):
  IntKind.wrap .u64 ((BitVec.ofInt (IntKind.bits .u64) (n:Int)|||BitVec.ofInt (IntKind.bits .u64) (IntKind.wrap .u64 ((d:Int)*2 ^ min (Int.toNat (i:Int)) (IntKind.bits .u64)))).toNat:Int)=((n+d*2 ^ i:Nat):Int):=by
 have e64:IntKind.bits .u64=64:=rfl
 have hp:(0:Nat)<2 ^ i:=Nat.two_pow_pos i
 rw[Int.toNat_natCast,e64,Nat.min_eq_left hi]
 have e1:((d:Int)*2 ^ i)=((d*2 ^ i:Nat):Int):=by simp
 rw[e1,wrap_u64_nat hd]
 have hn64:n<18446744073709551616:=by
  have:(2:Nat) ^ i≤2 ^ 64:=Nat.pow_le_pow_right (by omega) hi
  omega
 have e2: ∀m:Nat,m<18446744073709551616→(BitVec.ofInt 64 (m:Int)).toNat=m:=fun m hm=>by
  rw[BitVec.toNat_ofInt];omega
 rw[BitVec.toNat_or,e2 n hn64,e2 _ hd]
 have e3:n|||d*2 ^ i=n+d*2 ^ i:=by
  rw[Nat.or_comm,Nat.mul_comm,←Nat.two_pow_add_eq_or_of_lt hn d];omega
 rw[e3]
 refine wrap_u64_nat ?_
 have hdiv:d<2 ^ (64 - i):=by
  have:(18446744073709551616:Nat)=2 ^ (64 - i)*2 ^ i:=by rw[←Nat.pow_add,Nat.sub_add_cancel hi]
  rw[this] at hd
  exact Nat.lt_of_mul_lt_mul_right hd
 have:(d+1)*2 ^ i≤2 ^ (64 - i)*2 ^ i:=Nat.mul_le_mul_right _ hdiv
 rw[←Nat.pow_add,Nat.sub_add_cancel hi,Nat.add_mul] at this
 omega
theorem shr7 {n:Nat} :Int.fdiv (n:Int) (2 ^ min (Int.toNat 7) (IntKind.bits .u64))=((n/128:Nat):Int):=by
 show Int.fdiv (n:Int) 128=_
 rw[Int.fdiv_eq_ediv_of_nonneg _ (by omega)];omega
end Go.Den
namespace Go.Den
structure Step (S:Nat→Prop) (h:Heap) (S':Nat→Prop) (h':Heap):Prop where
 fr:Fr S h h'
 new: ∀c,S' c→S c∨h.size≤c
theorem Step.refl (S:Nat→Prop) (h:Heap):Step S h S h:=⟨Fr.refl _ _,fun _=> .inl⟩
theorem Step.trans {S S1 S2:Nat→Prop} {h h1 h2:Heap} (a:Step S h S1 h1) (b:Step S1 h1 S2 h2):Step S h S2 h2:=
 ⟨a.fr.trans b.fr (fun _ _=>id) (fun c hc hx=>(a.new c hx).resolve_right (by omega)),fun c hc=>by
  rcases b.new c hc with hc|hc
  ·exact a.new c hc
  ·have:=a.fr.1;exact .inr (by omega)⟩
theorem Fr.fresh {S:Nat→Prop} {h h1 h2:Heap} (f:Fr (fun _=>False) h h1) (g:Fr S h1 h2) (hs: ∀c,S c→h.size≤c):Fr (fun _=>False) h h2:=
 f.step g fun c hc hx=>by have:=hs c hx;omega
theorem hset_push {h:Heap} {c:Array Value} {t:TypeId} {f:Nat×Nat} {i:Nat} {v:Value} :hset (h.push (.cells c t f)) ⟨h.size,i,none⟩ v=h.push (.cells (c.setIfInBounds i v) t f):=by
 apply Array.ext
 ·simp[hset]
 ·intro j h1 h2
  have e: ∀(x:Heap) (hx:j<x.size),x[j]? =some x[j]:=fun x hx=>Array.getElem?_eq_getElem hx
  have:(hset (h.push (.cells c t f)) ⟨h.size,i,none⟩ v)[j]? =(h.push (.cells (c.setIfInBounds i v) t f))[j]? :=by
   by_cases q:j=h.size
   ·subst q
    rw[hset_same push_new,push_new]
   ·rw[hset_other q]
    rw[Array.getElem?_push,Array.getElem?_push,if_neg q,if_neg q]
  rw[e _ h1,e _ h2] at this
  exact Option.some.inj this
theorem storeP_push {h:Heap} {c:Array Value} {t:TypeId} {i:Nat} {v:Value} {K:Heap→Prop} (hi:i<c.size) (hk:K (h.push (.cells (c.setIfInBounds i v) t (0,0)))):StoreP (h.push (.cells c t (0,0))) ⟨h.size,i,none⟩ v K:=by
 refine⟨?_,hfrozen_blk push_new, ?_⟩
 ·rw[hcell_blk push_new];simp[hi]
 ·rintro _ rfl
  rw[hset_push];exact hk
theorem newP_of {h:Heap} {o:Obj} {K:Nat→Heap→Prop} (hk:K h.size (h.push o)):NewP h o K:=by
 rintro b h' rfl rfl;exact hk
section
variable {P : Program}
theorem den_append1 {sT xT ty elem eT t:TypeId} {sz bytes:Nat} {z:Value} {h:Heap} {p:Option Addr} {len cap:Nat} {cs:List Value} {xs:Array Value} {K:Value→Heap→Prop}
  (T:SlTy P sT elem sz bytes z) (hx:P.underlying xT=some (.slice eT))
  (own:Own h p len cap sz cs) (hxs:xs.size=sz) (hone: ∀v∈xs.toList,oneCell v=true) (hb:(len+1)*bytes≤70368744177664) (hb2:len+1≤9223372036854775807)
  (hk: ∀p' cap' h',Own h' p' (len+1) cap' sz (cs++xs.toList)→Fr (inBlk p) h h'→(∀c,inBlk p' c→inBlk p c∨h.size≤c)→K (.slice p' (len+1) cap') h'):
  NewP h (.cells xs t) fun b h1=>denSem P (Builtin.append_ #[sT,xT] ty #[.slice p len cap, .slice (some ⟨b,0,none⟩) 1 1]) h1 K:=by
 refine newP_of ?_
 have f1:Fr (fun _=>False) h (h.push (.cells xs t)):=Fr.push _ _
 refine den_append T hx (own.frame f1 (fun _ _=>id)) (ds:=xs.toList) (.inr ⟨_,rfl,heldL_blk push_new (fun j v hj=>by rw[Nat.zero_add];simpa using hj)⟩) (by simp[hxs]) hone hb hb2 ?_
 intro p' cap' h' o1 _ f2 g
 exact hk p' cap' h' o1 (Fr.no f1 f2) (fun c hc=>(g c hc).imp id (fun h2=>by simp at h2;omega))
end
end Go.Den
namespace Go.Den
structure Up (h0:Heap) (S:Nat→Prop) (h:Heap):Prop where
 fr:Fr (fun _=>False) h0 h
 ge: ∀c,S c→h0.size≤c
theorem Up.step {h0 h h':Heap} {S S':Nat→Prop} (u:Up h0 S h) (st:Step S h S' h'):Up h0 S' h':=
 ⟨u.fr.fresh st.fr u.ge,fun c hc=>by
  rcases st.new c hc with h1|h1
  ·exact u.ge c h1
  ·have:=u.fr.1;omega⟩
theorem row_new {h:Heap} {cs:List Value} {t:TypeId} :Row (h.push (.cells cs.toArray t)) (some ⟨h.size,0,none⟩) cs:= .inr ⟨_,rfl,heldL_blk push_new (fun j v hj=>by rw[Nat.zero_add];simpa using hj)⟩
theorem add_zero_addr (a:Addr):a.add 0=a:=by simp[Addr.add]
theorem add_block (a:Addr) (n:Nat):(a.add n).block=a.block:=by unfold Addr.add;split<;>rfl
theorem row_lt {h:Heap} {p:Option Addr} {cs:List Value} (hr:Row h p cs) (hn:cs≠ []) {x:Nat} (hx:inBlk p x):x<h.size:=by
 obtain⟨a,rfl,rfl⟩:=hx
 rcases hr with hh|⟨a',e,hh⟩
 ·exact absurd hh hn
 ·cases e
  cases cs with
  |nil=>exact absurd rfl hn
  |cons c cs=>
   obtain⟨_,_,_,hb,_⟩:=hcell_some hh.1
   have:=lt_of_get hb
   rwa[add_block] at this
theorem Row.sub {h:Heap} {p:Option Addr} {cs:List Value} (hr:Row h p cs) {cap l u sz:Nat} (h1:l≤u) (h2:u≤cap):Row h (slBase p cap l sz) ((cs.take (u*sz)).drop (l*sz)):=by
 by_cases hc:cap=l
 ·left
  have:u=l:=by omega
  subst this
  rw[List.drop_eq_nil_iff,List.length_take]
  exact Nat.min_le_left _ _
 ·unfold slBase
  rw[if_neg hc]
  rcases hr with rfl|⟨a,rfl,hh⟩
  ·left;simp
  ·refine .inr ⟨a.add (l*sz),rfl,heldL_at.2 fun j v hj=> ?_⟩
   rw[add_add,Nat.zero_add]
   rw[List.getElem?_drop,List.getElem?_take] at hj
   split at hj
   ·have:=heldL_at.1 hh (l*sz+j) v hj
    rwa[Nat.zero_add] at this
   ·cases hj
structure Ft where
 M:Nat→Prop
 D:Nat→Prop
structure StepF (F:Ft) (h:Heap) (F':Ft) (h':Heap):Prop where
 fr:Fr F.M h h'
 newM: ∀c,F'.M c→F.M c∨h.size≤c
 newD: ∀c,F'.D c→F.D c∨h.size≤c
 oldD: ∀c,F.D c→F'.D c
theorem StepF.refl (F:Ft) (h:Heap):StepF F h F h:=⟨Fr.refl _ _,fun _=> .inl,fun _=> .inl,fun _=>id⟩
theorem StepF.trans {F F1 F2:Ft} {h h1 h2:Heap} (a:StepF F h F1 h1) (b:StepF F1 h1 F2 h2):StepF F h F2 h2:=by
 have z:=a.fr.1
 refine⟨a.fr.trans b.fr (fun _ _=>id) (fun c hc hx=>(a.newM c hx).resolve_right (by omega)),fun c hc=> ?_,fun c hc=> ?_,fun c hc=>b.oldD c (a.oldD c hc)⟩
 ·rcases b.newM c hc with hc|hc
  ·exact a.newM c hc
  ·exact .inr (by omega)
 ·rcases b.newD c hc with hc|hc
  ·exact a.newD c hc
  ·exact .inr (by omega)
theorem StepF.of_fr {F:Ft} {h h':Heap} (f:Fr F.M h h'):StepF F h F h':=⟨f,fun _=> .inl,fun _=> .inl,fun _=>id⟩
theorem StepF.of_no {F:Ft} {h h':Heap} (f:Fr (fun _=>False) h h'):StepF F h F h':= .of_fr (f.mono fun _ _=>False.elim)
theorem StepF.no {F F1:Ft} {h h1 h2:Heap} (f:Fr (fun _=>False) h h1) (b:StepF F h1 F1 h2):StepF F h F1 h2:=(StepF.of_no f).trans b
theorem StepF.on {F F1:Ft} {h h1 h2:Heap} (a:StepF F h F1 h1) (f:Fr (fun _=>False) h1 h2):StepF F h F1 h2:=a.trans (StepF.of_no f)
theorem StepF.apart {F F':Ft} {Q:Nat→Prop} {h h':Heap} (st:StepF F h F' h') (hd: ∀c,F.M c∨F.D c→ ¬Q c) (hq: ∀c,Q c→c<h.size): ∀c,F'.M c∨F'.D c→ ¬Q c:=fun c hc hx=>by
 have:=hq c hx
 rcases hc with hc|hc
 ·rcases st.newM c hc with h1|h1
  ·exact hd c (.inl h1) hx
  ·omega
 ·rcases st.newD c hc with h1|h1
  ·exact hd c (.inr h1) hx
  ·omega
structure UpF (h0:Heap) (F:Ft) (h:Heap):Prop where
 fr:Fr (fun _=>False) h0 h
 ge: ∀c,F.M c∨F.D c→h0.size≤c
theorem UpF.step {h0 h h':Heap} {F F':Ft} (u:UpF h0 F h) (st:StepF F h F' h'):UpF h0 F' h':=by
 have z:=u.fr.1
 refine⟨u.fr.fresh st.fr (fun c hc=>u.ge c (.inl hc)),fun c hc=> ?_⟩
 rcases hc with hc|hc
 ·rcases st.newM c hc with h1|h1
  ·exact u.ge c (.inl h1)
  ·omega
 ·rcases st.newD c hc with h1|h1
  ·exact u.ge c (.inr h1)
  ·omega
theorem UpF.on {h0 h h':Heap} {F:Ft} (u:UpF h0 F h) (f:Fr (fun _=>False) h h'):UpF h0 F h':=⟨u.fr.tt f,u.ge⟩
theorem storeL_from {b:Nat} {t:TypeId} : ∀(vs:List Value) (i:Nat) (h:Heap) (c:Array Value) (K:Heap→Prop),h[b]? =some (.cells c t (0,0))→i+vs.length≤c.size→vs.all oneCell=true→
  (∀h' c',h'[b]? =some (.cells c' t (0,0))→c'.size=c.size→(∀j,j<i∨i+vs.length≤j→c'[j]? =c[j]?)→(∀j v,vs[j]? =some v→c'[i+j]? =some v)→h'.size=h.size→(∀x,x≠b→h'[x]? =h[x]?)→K h')→
  storeL ⟨b,0,none⟩ vs i h K
 | [],i,h,c,K,hb,_,_,hk=>hk h c hb rfl (fun _ _=>rfl) (fun j v hj=>by simp at hj) rfl (fun _ _=>rfl)
 |v::vs,i,h,c,K,hb,hl,hv,hk=>by
  rw[List.all_cons,Bool.and_eq_true] at hv
  rw[List.length_cons] at hl
  unfold storeL
  rw[hv.1]
  dsimp only
  rw[add_blk,Nat.zero_add]
  refine storeP_blk hb (by omega) fun h1 a1 s1 o1=> ?_
  refine storeL_from vs (i+1) h1 _ K a1 (by rw[Array.size_setIfInBounds];omega) hv.2 fun h2 c2 b2 z2 q2 r2 s2 o2=>hk h2 c2 b2 (by rw[z2,Array.size_setIfInBounds]) (fun j hj=> ?_) (fun j u hj=> ?_) (by omega) (fun x hx=>by rw[o2 x hx,o1 x hx])
  ·rw[List.length_cons] at hj
   rw[q2 j (by omega),Array.getElem?_setIfInBounds,if_neg (by omega)]
  ·cases j with
   |zero=>
    simp only[List.getElem?_cons_zero,Option.some.injEq] at hj
    subst hj
    rw[Nat.add_zero,q2 i (by omega)]
    rw[Array.getElem?_setIfInBounds,if_pos rfl,if_pos (by omega)]
   |succ j=>
    have:=r2 j u (by simpa using hj)
    rwa[show i+1+j=i+(j+1) by omega] at this
theorem storeL_full {h:Heap} {b:Nat} {c:Array Value} {t:TypeId} {vs:List Value} {K:Heap→Prop} (hb:h[b]? =some (.cells c t (0,0))) (hl:vs.length=c.size) (hv:vs.all oneCell=true)
  (hk: ∀h',h'[b]? =some (.cells vs.toArray t (0,0))→h'.size=h.size→(∀x,x≠b→h'[x]? =h[x]?)→K h'):storeL ⟨b,0,none⟩ vs 0 h K:=by
 refine storeL_from vs 0 h c K hb (by omega) hv fun h' c' b' z _ r s o=>hk h' ?_ s o
 have:c'=vs.toArray:=by
  apply Array.ext'
  apply List.ext_getElem?
  intro j
  by_cases hj:j<vs.length
  ·have e:=List.getElem?_eq_getElem hj
   have:=r j _ e
   rw[Nat.zero_add] at this
   rw[Array.getElem?_toList,this]
   exact e.symm
  ·rw[List.getElem?_eq_none (by rw[Array.length_toList];omega),List.getElem?_eq_none (by simpa using hj)]
 rw[←this];exact b'
theorem new_full {h:Heap} {c:Array Value} {t:TypeId} {vs:List Value} {K:Nat→Heap→Prop} (hl:vs.length=c.size) (hv:vs.all oneCell=true)
  (hk: ∀b h',b=h.size→h'[b]? =some (.cells vs.toArray t (0,0))→Fr (fun _=>False) h h'→K b h'):NewP h (.cells c t) fun b h0=>storeL ⟨b,0,none⟩ vs 0 h0 (K b):=
 newP_of (storeL_full push_new hl hv fun h' b' s o=>hk _ h' rfl b' ((Fr.push h _).fresh (S:=fun y=>y=h.size) ⟨by omega,fun y _ hn=>o y hn⟩ (fun y e=>Nat.le_of_eq e.symm)))
end Go.Den
set_option maxRecDepth 100000
namespace Go.Proofs.YtgccegnmggjkjaaGreatDoor
open Go.Den
namespace Fld
variable {h h0 : Heap} {bs : List UInt8} {R : Value → Heap → Prop}
theorem tU:SlTy Tryz.prog T.s_uint8 T.uint8 1 1 (.int .u8 0):=⟨by kernel_rfl,by kernel_rfl,rfl⟩
theorem uU:Tryz.prog.underlying T.s_uint8=some (.slice T.uint8):=by kernel_rfl
theorem u8:Tryz.prog.underlying T.uint8=some (.int .u8):=by kernel_rfl
theorem uS:Tryz.prog.underlying T.string=some .string:=by kernel_rfl
theorem conv {p:Option Addr} {n c:Nat} (hr:Row h p (bc bs)) (hn:n=bs.length):ConvV Tryz.prog T.s_uint8 T.string (.slice p n c) h (str bs):=conv_str uU u8 uS hr hn
theorem clone_ok {p:Option Addr} {c n:Nat} (hr:Row h p (bc bs)) (hn:n=bs.length) (hl:bs.length≤70368744177664)
  (hk: ∀p' c' h',Own h' p' bs.length c' 1 (bc bs)→Fr (fun _=>False) h h'→(∀x,inBlk p' x→h.size≤x)→R (.slice p' bs.length c') h'):
  CallsH Tryz.prog F.slices_Clone_s_byte_byte #[.slice p n c] h R:=by
 subst hn
 refine slices_Clone_s_byte_byte.walk ?_
 cases p with
 |none=>
  have:bs= []:=by
   rcases hr with hr|⟨a,e,_⟩
   ·cases bs with
    |nil=>rfl
    |cons b bs=>cases hr
   ·cases e
  subst this
  exact hk none 0 h (.nil rfl rfl rfl rfl) (Fr.refl _ _) (fun x ⟨a,e,_⟩=>by cases e)
 |some a=>
  simp only[Option.isNone_some,Bool.false_eq_true,if_false]
  refine newP_of ?_
  have f1:Fr (fun _=>False) h (h.push (.cells #[] T.uint8)):=Fr.push _ _
  refine den_append (cs:= []) tU uU (.row h.size 0 #[] T.uint8 rfl push_new (Nat.le_refl _) (by simp) rfl (fun j v hj=>by cases hj)) (hr.frame f1 (fun _ _=>id)) (by rw[bc_len,Nat.mul_one]) (bc_one bs) (by omega) (by omega) ?_
  intro p' c' h' o1 _ f2 g
  rw[Nat.zero_add,List.nil_append] at o1
  refine⟨_,_,_,rfl, ?_⟩
  rw[Nat.zero_add]
  have g': ∀x,inBlk p' x→h.size≤x:=fun x hx=>by
   rcases g x hx with⟨a,e,rfl⟩|h2
   ·cases e;exact Nat.le_refl _
   ·simp at h2;omega
  exact hk p' c' h' o1 (f1.step f2 (fun c hc ⟨a,e,e2⟩=>by cases e;simp at e2;omega)) g'
theorem lit_ok {bs:List UInt8} {n:Nat} {cs:Array Value} {K:Option Addr→Nat→Nat→Heap→Prop} (hc:cs=(bc bs).toArray) (hk: ∀h',Row h' (some ⟨h.size,0,none⟩) (bc bs)→Fr (fun _=>False) h h'→K (some ⟨h.size,0,none⟩) n n h'):
  NewP h (.cells cs T.uint8) fun b h_4=>denSem Tryz.prog (convert T.s_uint8 T.s_uint8 (.slice (some ⟨b,0,none⟩) n n)) h_4 fun v h_5=> ∃(p:Option Addr) (l c:Nat),v= .slice p l c∧K p l c h_5:=by
 subst hc
 refine newP_of (den_lit uU u8 (a:=⟨h.size,0,none⟩) push_new fun h4 fz4 hb4 sz4 ot4=>⟨_,_,_,rfl, ?_⟩)
 refine hk h4 (.inr ⟨_,rfl,heldL_blk hb4 (fun j v hj=>by rw[Nat.zero_add];simpa using hj)⟩) ⟨by rw[sz4];simp,fun c hc _=>by rw[ot4 c (by simp;omega),Array.getElem?_push,if_neg (by omega)]⟩
end Fld
end Go.Proofs.YtgccegnmggjkjaaGreatDoor
set_option maxRecDepth 100000
namespace Go.Fields
def encN:Nat→Nat→List UInt8
 |0,n=> [UInt8.ofNat n]
 |f+1,n=>if n>127 then UInt8.ofNat (n%128+128)::encN f (n/128) else [UInt8.ofNat n]
def encNum (n:Nat):List UInt8:=encN 9 n
theorem encN_mono: ∀(f n:Nat),n<128 ^ (f+1)→encN (f+1) n=encN f n
 |0,n,h=>by
  unfold encN
  rw[if_neg (by omega)]
 |f+1,n,h=>by
  rw[show encN (f+1+1) n=if n>127 then UInt8.ofNat (n%128+128)::encN (f+1) (n/128) else [UInt8.ofNat n] from rfl,
   show encN (f+1) n=if n>127 then UInt8.ofNat (n%128+128)::encN f (n/128) else [UInt8.ofNat n] from rfl]
  split
  ·rw[encN_mono f (n/128) (by rw[Nat.pow_succ] at h;omega)]
  ·rfl
theorem encNum_step {n:Nat} (h:n<18446744073709551616):encNum n=if n>127 then UInt8.ofNat (n%128+128)::encNum (n/128) else [UInt8.ofNat n]:=by
 unfold encNum
 rw[encN]
 split
 ·rw[←encN_mono 8 (n/128) (by omega)]
 ·rfl
theorem encN_len: ∀(f n:Nat),1≤(encN f n).length∧(encN f n).length≤f+1
 |0,n=>by simp[encN]
 |f+1,n=>by
  have:=encN_len f (n/128)
  rw[encN];split
  ·simp only[List.length_cons];omega
  ·simp
theorem encNum_len (n:Nat):1≤(encNum n).length∧(encNum n).length≤10:=encN_len 9 n
def rdN:Nat→Nat→List UInt8→Nat×Int×List UInt8
 |_,_, []=>(0,8, [])
 |i,n,c::bs=>
  if i=10∨(i=9∧c.toNat>1)∨(c.toNat=0∧i>0) then(0,3,bs)
  else if c.toNat<128 then(n+c.toNat%128*2 ^ (7*i),0,bs)
  else rdN (i+1) (n+c.toNat%128*2 ^ (7*i)) bs
def readNum (e:Int) (bs:List UInt8):Nat×Int×List UInt8:=if e=0 then rdN 0 0 bs else(0,e,bs)
theorem rdN_lt: ∀(bs:List UInt8) (i n:Nat),i≤10→n<2 ^ (7*i)→n<18446744073709551616→(rdN i n bs).1<18446744073709551616
 | [],_,_,_,_,_=>by simp[rdN]
 |c::bs,i,n,hi,hn,hn2=>by
  rw[rdN]
  split
  ·simp
  ·rename_i hno
   have hc:c.toNat%128<128:=Nat.mod_lt _ (by omega)
   have hsum:n+c.toNat%128*2 ^ (7*i)<18446744073709551616∧n+c.toNat%128*2 ^ (7*i)<2 ^ (7*(i+1)):=by
    have hp:(2:Nat) ^ (7*(i+1))=128*2 ^ (7*i):=by rw[Nat.mul_add,Nat.pow_add,Nat.mul_comm]
    have h1:(c.toNat%128+1)*2 ^ (7*i)≤128*2 ^ (7*i):=Nat.mul_le_mul_right _ (by omega)
    rw[Nat.add_mul] at h1
    refine⟨?_,by omega⟩
    by_cases h9:i=9
    ·subst h9
     have:c.toNat≤1:=by omega
     have:c.toNat%128≤1:=by omega
     omega
    ·have:(2:Nat) ^ (7*(i+1))≤2 ^ 63:=Nat.pow_le_pow_right (by omega) (by omega)
     omega
   split
   ·exact hsum.1
   ·exact rdN_lt bs (i+1) _ (by omega) hsum.2 hsum.1
theorem readNum_lt (e:Int) (bs:List UInt8):(readNum e bs).1<18446744073709551616:=by
 unfold readNum
 split
 ·exact rdN_lt bs 0 0 (by omega) (by simp) (by omega)
 ·simp
theorem rdN_len: ∀(bs:List UInt8) (i n:Nat),(rdN i n bs).2.2.length≤bs.length
 | [],_,_=>by simp[rdN]
 |c::bs,i,n=>by
  rw[rdN]
  split
  ·simp
  ·split
   ·simp
   ·have:=rdN_len bs (i+1) (n+c.toNat%128*2 ^ (7*i));simp only[List.length_cons];omega
theorem rdN_enc: ∀(f n i acc:Nat) (rest:List UInt8),i+f=9→n*2 ^ (7*i)<18446744073709551616→(n=0→i=0)→rdN i acc (encN f n++rest)=(acc+n*2 ^ (7*i),0,rest)
 |0,n,i,acc,rest,hf,hn,h0=>by
  have hi:i=9:=by omega
  subst hi
  have hn2:n<2:=by
   have:n*2 ^ 63<2*2 ^ 63:=hn
   exact Nat.lt_of_mul_lt_mul_right this
  have hne:n≠0:=fun e=>by have:=h0 e;omega
  obtain rfl:n=1:=by omega
  simp[encN,rdN]
 |f+1,n,i,acc,rest,hf,hn,h0=>by
  have hp:(2:Nat) ^ (7*(i+1))=128*2 ^ (7*i):=by rw[Nat.mul_add,Nat.pow_add,Nat.mul_comm]
  have hn':n<18446744073709551616:=by
   have:n*1≤n*2 ^ (7*i):=Nat.mul_le_mul_left _ (Nat.two_pow_pos _)
   omega
  rw[encN]
  split
  ·rename_i hgt
   rw[List.cons_append,rdN]
   have hc:(UInt8.ofNat (n%128+128)).toNat=n%128+128:=by rw[UInt8.toNat_ofNat'];omega
   rw[hc,if_neg (by omega),if_neg (by omega)]
   have e1:(n%128+128)%128=n%128:=by omega
   have hdm:n=128*(n/128)+n%128:=(Nat.div_add_mod n 128).symm
   rw[rdN_enc f (n/128) (i+1) _ rest (by omega) ?_ (fun e=>by omega),e1]
   ·refine Prod.ext ?_ rfl
    simp only
    rw[hp]
    have:n/128*(128*2 ^ (7*i))=(128*(n/128))*2 ^ (7*i):=by rw[Nat.mul_comm 128 (n/128),Nat.mul_assoc]
    rw[this,Nat.add_assoc,←Nat.add_mul,Nat.add_comm (n%128),←hdm]
   ·rw[hp]
    have:n/128*(128*2 ^ (7*i))=(128*(n/128))*2 ^ (7*i):=by rw[Nat.mul_comm 128 (n/128),Nat.mul_assoc]
    rw[this]
    refine Nat.lt_of_le_of_lt (Nat.mul_le_mul_right _ ?_) hn
    omega
  ·rename_i hle
   rw[List.cons_append,List.nil_append,rdN]
   have hc:(UInt8.ofNat n).toNat=n:=by rw[UInt8.toNat_ofNat'];omega
   rw[hc,if_neg (by omega),if_pos (by omega),Nat.mod_eq_of_lt (by omega)]
theorem readNum_enc {n:Nat} (hn:n<18446744073709551616) (rest:List UInt8):readNum 0 (encNum n++rest)=(n,0,rest):=by
 unfold readNum encNum
 rw[if_pos rfl,rdN_enc 9 n 0 0 rest (by omega) (by simpa using hn) (fun _=>rfl)]
 simp
end Go.Fields
set_option maxRecDepth 100000
namespace Go.Fields
def natOf (n:Int):Nat:=n.toNat
def bit (b:Bool):Nat:=if b=true then 1 else 0
def encText (t:List UInt8):List UInt8:=encNum t.length++t
def failE (e e':Int):Int:=if e=0 then e' else e
def readMost (top:Nat) (e:Int) (bs:List UInt8):Nat×Int×List UInt8:=
 if(readNum e bs).1>top then(0,failE (readNum e bs).2.1 3,(readNum e bs).2.2) else readNum e bs
theorem readMost_le (top:Nat) (e:Int) (bs:List UInt8):(readMost top e bs).1≤top:=by
 unfold readMost
 split
 ·exact Nat.zero_le _
 ·rename_i h;exact Nat.le_of_not_lt h
def readInt (e:Int) (bs:List UInt8):Nat×Int×List UInt8:=readMost 1099511627776 e bs
def readText (e:Int) (bs:List UInt8):List UInt8×Int×List UInt8:=
 if(readNum e bs).2.1=0 then
  (if(readNum e bs).1>(readNum e bs).2.2.length then([],8,(readNum e bs).2.2)
  else((readNum e bs).2.2.take (readNum e bs).1,0,(readNum e bs).2.2.drop (readNum e bs).1))
 else([],(readNum e bs).2.1,(readNum e bs).2.2)
def readEnd (e:Int) (bs:List UInt8):Int:=if e=0 then(if bs= [] then 0 else 2) else e
theorem readMost_enc {top n:Nat} (hn:n≤top) (ht:top<18446744073709551616) (y:List UInt8):readMost top 0 (encNum n++y)=(n,0,y):=by
 unfold readMost
 rw[readNum_enc (by omega)]
 rw[if_neg (by show¬n>top;omega)]
theorem readText_enc {t:List UInt8} (ht:t.length<18446744073709551616) (y:List UInt8):readText 0 (encText t++y)=(t,0,y):=by
 unfold readText encText
 rw[List.append_assoc,readNum_enc ht]
 dsimp only
 rw[if_pos rfl,if_neg (by rw[List.length_append];omega)]
 simp
theorem bit_le (b:Bool):bit b≤1:=by unfold bit;split<;>omega
theorem readNum_len (e:Int) (bs:List UInt8):(readNum e bs).2.2.length≤bs.length:=by
 unfold readNum;split
 ·exact rdN_len bs 0 0
 ·exact Nat.le_refl _
theorem readText_len (e:Int) (bs:List UInt8):(readText e bs).2.2.length≤bs.length∧(readText e bs).1.length≤bs.length:=by
 have:=readNum_len e bs
 unfold readText
 split
 ·split
  ·exact⟨this,by simp⟩
  ·refine⟨by rw[List.length_drop];omega,by rw[List.length_take];omega⟩
 ·exact⟨this,by simp⟩
end Go.Fields
