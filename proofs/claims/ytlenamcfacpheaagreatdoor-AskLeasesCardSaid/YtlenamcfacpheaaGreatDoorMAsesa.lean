/-
  TU is proved here: parts of Jr proof, one behind Jr other (texts of this work, merged by a program; ZU Jr theorem ZV not use is left out). No condition.
-/
import Derived.OrdersHeld
import Derived.Scope
import Derived.KernelRfl
import Derived.IntWalk
import Derived.ProofKit
import Derived.ChangeOld
import Derived.Below
import Derived.Carry
import Derived.OpenShut
set_option maxRecDepth 100000
set_option maxHeartbeats 4000000
namespace Go
abbrev bU:=Option Addr
abbrev iI:=Value→Array Obj→Prop
abbrev j9:ByteArray:=⟨#[]⟩
abbrev AA (b i:Nat):Addr:=⟨b,i,none⟩
abbrev Value.I (x:Int):Value:=.int .i64 x
abbrev Value.U (x:Int):Value:=.int .u64 x
abbrev Value.P (b i:Nat):Value:=.pointer (some ⟨b,i,none⟩)
abbrev Value.Z:Value:=.slice none 0 0
theorem dL {c:Prop} {i:Decidable c} {α:Sort _} {t e:α} (h: ¬c:=by first|decide|omega|(simp only[decide_eq_true_eq];omega)):ite c t e=e:=if_neg h
theorem jy {c:Prop} {i:Decidable c} {α:Sort _} {t e:α} (h:c:=by first|decide|omega|exact decide_eq_true (by omega)):ite c t e=t:=if_pos h
def gC:= @Array.getD_eq_getD_getElem?
def eX:= @Array.getElem?_append_left
def fD:= @Array.getElem?_modify
def iA:= @Array.getElem?_push
def cK:= @Array.getElem?_setIfInBounds
def ee:= @Array.getElem?_toList
def fT:= @Array.length_toList
def fO:= @Array.size_push
def aW:= @Bool.and_eq_true
def gK:= @Bool.false_and
def aA:= @Bool.false_eq_true
def gL:= @Bool.not_false
def dW:= @Bool.not_true
def fu:= @Bool.true_and
def fY:= @Iff.rfl
def mG:= @Int.eq_ofNat_of_zero_le
def ga:= @Int.le_refl
def aL:= @Int.toNat_natCast
def iK:= @List.Pairwise.filter
def gM:= @List.Pairwise.sublist
def iD:= @List.Sublist.map
def dU:= @List.append_assoc
def fv:= @List.cons_append
def da:= @List.drop_eq_getElem_cons
def fL:= @List.drop_of_length_le
def jT:= @List.drop_zero
def im:= @List.ext_getElem?
def iE:= @List.filter_append
def fF:= @List.filter_congr
def cC:= @List.filter_cons
def cH:= @List.filter_eq_self
def eK:= @List.filter_map
def cU:= @List.filter_sublist
def dK:= @List.findIdx?_eq_none_iff
def cO:= @List.findIdx?_eq_some_iff_getElem
def dI:= @List.flatMap_append
def iS:= @List.flatMap_cons
def ba:= @List.getD_eq_getElem?_getD
def dx:= @List.getElem?_append_left
def dk:= @List.getElem?_append_right
def eM:= @List.getElem?_cons_succ
def eO:= @List.getElem?_cons_zero
def iL:= @List.getElem?_drop
def au:= @List.getElem?_eq_getElem
def eg:= @List.getElem?_eq_none
def aG:= @List.getElem?_eq_some_iff
def fU:= @List.getElem?_inj
def aO:= @List.getElem?_map
def bG:= @List.getElem?_of_mem
def eH:= @List.getElem?_set
def dq:= @List.getElem?_take
def fw:= @List.getElem_mem
def aF:= @List.length_append
def bj:= @List.length_cons
def cf:= @List.length_drop
def cI:= @List.length_filter_le
def aN:= @List.length_map
def bC:= @List.length_nil
def eU:= @List.length_set
def fj:= @List.length_singleton
def bQ:= @List.length_take
def bm:= @List.map_append
def fV:= @List.map_congr_left
def cA:= @List.map_cons
def fG:= @List.map_map
def bT:= @List.mem_append
def fJ:= @List.mem_append_left
def fZ:= @List.mem_append_right
def bP:= @List.mem_cons
def cM:= @List.mem_cons_of_mem
def dX:= @List.mem_cons_self
def aY:= @List.mem_filter
def bn:= @List.mem_map
def bB:= @List.mem_map_of_mem
def bt:= @List.mem_of_getElem?
def bV:= @List.mem_singleton
def fk:= @List.nil_append
def gh:= @List.nodup_append
def gu:= @List.nodup_cons
def fi:= @List.pairwise_cons
def gi:= @List.pairwise_map
def fx:= @List.perm_append_singleton
def iM:= @List.range_eq_range'
def bY:= @List.take_add_one
def iF:= @List.take_length
def bR:= @List.take_of_length_le
def jb:= @List.take_succ_cons
def fM:= @List.take_zero
def gj:= @Nat.add_mul
def cg:= @Nat.eq_of_beq_eq_true
def bh:= @Nat.le_refl
def dv:= @Nat.le_trans
def cS:= @Nat.lt_of_lt_of_le
def jl:= @Nat.mod_eq_of_lt
def je:= @Nat.mul_comm
def db:= @Nat.mul_le_mul_right
def cN:= @Nat.mul_one
def iN:= @Nat.pow_le_pow_right
def bZ:= @Nat.zero_add
def cj:= @Nat.zero_le
def ie:= @Ne.symm
def gO:= @Option.isSome_iff_exists
def dy:= @Option.map_some
def bz:= @Option.some.inj
def bE:= @Option.some.injEq
def jK:= @Prod.mk.injEq
def gV:= @UInt8.toNat_ofNat'
def dz:= @beq_iff_eq
def fK:= @bne_iff_ne
def bp:= @congrArg
def ay:= @decide_eq_true
def bf:= @decide_eq_true_eq
def aU:= @if_false
def ai:= @if_neg
def ag:= @if_pos
def bA:= @if_true
def iq:= @ne_eq
end Go
namespace Go.Den
abbrev aj:=Array Obj
abbrev Env:=Nat->Option Value
def ak (h:aj) (a:Addr):Option Value:=
 match h[a.block]? with
 |some (.cells c _ _)=>if a.spot.isSome then none else c[a.off]?
 |_=>none
def Ad (h:aj) (r:Nat):Option (TypeId×Nat):=
 match h[r]? with
 |some (.cells c elem _)=>some (elem,c.size)
 |_=>none
def Ae (h:aj) (a:Addr):Bool:=
 match h[a.block]? with
 |some (.cells _ _ (lo,hi))=>lo<=a.off && a.off<hi
 |_=>false
def Af (h:aj) (a:Addr) (n:Nat):aj:=
 if n=0 then h else
 h.modify a.block fun
   | .cells c elem (lo,hi)=> .cells c elem (if lo==hi then(a.off,a.off+n) else(min lo a.off,max hi (a.off+n)))
   |o=>o
def yW (h:aj) (a:Addr) (v:Value):aj:=
 h.modify a.block fun
   | .cells c elem frozen=> .cells (if a.spot.isSome then c else c.setIfInBounds a.off v) elem frozen
   |o=>o
theorem uD (w:World) (a:Addr):w.cell? a=ak w.heap a:=rfl
theorem abt (w:World) (r:Nat):w.shape? r=Ad w.heap r:=rfl
theorem Gm (w:World) (a:Addr):w.frozen? a=Ae w.heap a:=rfl
theorem Ef (w:World) (a:Addr) (v:Value):(w.setCell a v).heap=yW w.heap a v:=rfl
theorem ZW (w:World) (a:Addr) (n:Nat):(w.freeze a n).heap=Af w.heap a n:=by
 unfold World.freeze Af;split<;>rfl
def iC (w w':World):Prop:=w'.os=w.os/\w'.output=w.output/\w'.tape=w.tape
theorem iC.refl (w:World):iC w w:=⟨rfl,rfl,rfl⟩
theorem iC.trans {a b c:World} (h:iC a b) (h':iC b c):iC a c:=⟨h'.1.trans h.1,h'.2.1.trans h.2.1,h'.2.2.trans h.2.2⟩
def jg:Value->Bool
 | .agg _| .tuple _=>false
 |_=>true
def aX (P:Program) {α:Type} :Sem α->aj->(α->aj->Prop)->Prop
 | .pure a,h,K=>K a h
 | .load _ a k,h,K=> ∃v,ak h a=some v/\aX P (k v) h K
 | .store _ a v k,h,K=>jg v=true/\(ak h a).isSome=true/\Ae h a=false/\aX P k (yW h a v) K
 | .new o k,h,K=>aX P (k h.size) (h.push o) K
 | .shape r k,h,K=>aX P (k (Ad h r)) h K
 | .freeze a n k,h,K=>aX P k (Af h a n) K
 | .frozen a k,h,K=>aX P (k (Ae h a)) h K
 | .getObj r k,h,K=> ∃o,h[r]? =some o/\(∀c e f,o≠ .cells c e f)/\aX P (k o) h K
 | .setObj r o k,h,K=>(∃o',h[r]? =some o'/\(∀c e f,o'≠ .cells c e f))/\aX P k (h.setIfInBounds r o) K
 | .choose q k,h,K=>if q.forced=true then aX P (k 0) h K else∀t,aX P (k (q.cut t)) h K
 | .sys _ _,_,_=>False
 | .program k,h,K=>aX P (k P) h K
 | .mark _ k,h,K=>aX P k h K
 | .halt _,_,_=>False
theorem sr {P:Program} {α:Type} (s:Sem α): ∀(h:aj) {K K':α->aj->Prop},(∀a h,K a h->K' a h)->aX P s h K->aX P s h K':=by
 induction s with
 |pure a=>intro h K K' hk hh;exact hk _ _ hh
 |load m a k ih=>intro h K K' hk hh;obtain⟨v,h1,h2⟩:=hh;exact⟨v,h1,ih v h hk h2⟩
 |store m a v k ih=>intro h K K' hk hh;obtain⟨h1,h2,h3,h4⟩:=hh;exact⟨h1,h2,h3,ih _ hk h4⟩
 |new o k ih=>intro h K K' hk hh;exact ih _ _ hk hh
 |shape r k ih=>intro h K K' hk hh;exact ih _ _ hk hh
 |freeze a n k ih=>intro h K K' hk hh;exact ih _ hk hh
 |frozen a k ih=>intro h K K' hk hh;exact ih _ _ hk hh
 |getObj r k ih=>intro h K K' hk hh;obtain⟨o,h1,h2,h3⟩:=hh;exact⟨o,h1,h2,ih _ _ hk h3⟩
 |setObj r o k ih=>intro h K K' hk hh;exact⟨hh.1,ih _ hk hh.2⟩
 |choose q k ih=>
  intro h K K' hk hh;unfold aX at hh⊢;split
  ·rename_i hq;rw[ag hq] at hh;exact ih _ _ hk hh
  ·rename_i hq;rw[ai hq] at hh;exact λt=>ih _ _ hk (hh t)
 |sys c k ih=>intro h K K' hk hh;exact hh
 |program k ih=>intro h K K' hk hh;exact ih _ _ hk hh
 |mark m k ih=>intro h K K' hk hh;exact ih _ hk hh
 |halt x=>intro h K K' hk hh;exact hh
theorem QR {P:Program} {α β:Type} (s:Sem α) (f:α->Sem β): ∀(h:aj) (K:β->aj->Prop),aX P (s.bind f) h K↔aX P s h (λa h'=>aX P (f a) h' K):=by
 induction s with
 |pure a=>intro h K;exact fY
 |load m a k ih=>intro h K;simp only[Sem.bind,aX,ih]
 |store m a v k ih=>intro h K;simp only[Sem.bind,aX,ih]
 |new o k ih=>intro h K;simp only[Sem.bind,aX,ih]
 |shape r k ih=>intro h K;simp only[Sem.bind,aX,ih]
 |freeze a n k ih=>intro h K;simp only[Sem.bind,aX,ih]
 |frozen a k ih=>intro h K;simp only[Sem.bind,aX,ih]
 |getObj r k ih=>intro h K;simp only[Sem.bind,aX,ih]
 |setObj r o k ih=>intro h K;simp only[Sem.bind,aX,ih]
 |choose q k ih=>intro h K;simp only[Sem.bind,aX,ih]
 |sys c k ih=>intro h K;simp only[Sem.bind,aX]
 |program k ih=>intro h K;simp only[Sem.bind,aX,ih]
 |mark m k ih=>intro h K;simp only[Sem.bind,aX,ih]
 |halt x=>intro h K;simp only[Sem.bind,aX]
theorem Ag {P:Program} {α:Type} (s:Sem α): ∀(h:aj) (K:α->aj->Prop),aX P s h K->
  ∀w:World,w.heap=h->∃a w',s.run P w=.ok a w'/\K a w'.heap/\iC w w':=by
 induction s with
 |pure a=>intro h K hh w hw;subst hw;exact⟨a,w,rfl,hh,iC.refl w⟩
 |load m a k ih=>
  intro h K hh w hw;subst hw;obtain⟨v,h1,h2⟩:=hh;obtain⟨x,w',r1,r2⟩:=ih v _ _ h2 w rfl;exact⟨x,w',by simp[Sem.run,uD,h1,r1],r2⟩
 |store m a v k ih=>
  intro h K hh w hw;subst hw;obtain⟨h1,h2,h3,h4⟩:=hh;obtain⟨u,hu⟩:=gO.1 h2;obtain⟨x,w',r1,r2,r3⟩:=ih _ _ h4 (w.setCell a v) (Ef w a v);refine⟨x,w',?_,r2,r3⟩;rw[<-uD] at hu;rw[<-Gm] at h3;cases v<;>simp[jg] at h1<;>simp[Sem.run,hu,h3,r1]
 |new o k ih=>
  intro h K hh w hw;subst hw;obtain⟨x,w',r1,r2,r3⟩:=ih _ _ _ hh { w with heap:=w.heap.push o } rfl;exact⟨x,w',r1,r2,r3⟩
 |shape r k ih=>
  intro h K hh w hw;subst hw;obtain⟨x,w',r1,r2⟩:=ih _ _ _ hh w rfl;exact⟨x,w',by rw[<-abt] at r1;simp[Sem.run,r1],r2⟩
 |freeze a n k ih=>
  intro h K hh w hw;subst hw;obtain⟨x,w',r1,r2,r3⟩:=ih _ _ hh (w.freeze a n) (ZW w a n);refine⟨x,w',by simp[Sem.run,r1],r2,?_⟩;refine iC.trans ?_ r3;unfold World.freeze;split<;>exact⟨rfl,rfl,rfl⟩
 |frozen a k ih=>
  intro h K hh w hw;subst hw;obtain⟨x,w',r1,r2⟩:=ih _ _ _ hh w rfl;exact⟨x,w',by rw[<-Gm] at r1;simp[Sem.run,r1],r2⟩
 |getObj r k ih=>
  intro h K hh w hw;subst hw;obtain⟨o,h1,h2,h3⟩:=hh;obtain⟨x,w',r1,r2⟩:=ih _ _ _ h3 w rfl;refine⟨x,w',?_,r2⟩;cases o<;>first|exact absurd rfl (h2 _ _ _)|simp[Sem.run,h1,r1]
 |setObj r o k ih=>
  intro h K hh w hw;subst hw;obtain⟨⟨o',h1,h2⟩,h3⟩:=hh;obtain⟨x,w',r1,r2,r3⟩:=ih _ _ h3 { w with heap:=w.heap.setIfInBounds r o } rfl;refine⟨x,w',?_,r2,r3⟩;cases o'<;>first|exact absurd rfl (h2 _ _ _)|simp[Sem.run,h1,r1]
 |choose q k ih=>
  intro h K hh w hw;subst hw;unfold aX at hh;split at hh
  ·rename_i hq;obtain⟨x,w',r1,r2⟩:=ih _ _ _ hh w rfl;exact⟨x,w',by simp[Sem.run,hq,r1],r2⟩
  ·rename_i hq;obtain⟨x,w',r1,r2,r3⟩:=ih _ _ _ (hh (w.tape w.drawn q)) { w with drawn:=w.drawn+1 } rfl;exact⟨x,w',by simp only[Sem.run,ai hq];exact r1,r2,r3⟩
 |sys c k ih=>intro h K hh;exact hh.elim
 |program k ih=>
  intro h K hh w hw;subst hw;obtain⟨x,w',r1,r2⟩:=ih _ _ _ hh w rfl;exact⟨x,w',by simp[Sem.run,r1],r2⟩
 |mark m k ih=>
  intro h K hh w hw;subst hw;obtain⟨x,w',r1,r2⟩:=ih _ _ hh w rfl;exact⟨x,w',by simp[Sem.run,r1],r2⟩
 |halt x=>intro h K hh;exact hh.elim
def rd (P:Program) {α:Type} :Sem α->aj->Option α
 | .pure a,_=>some a
 | .load _ a k,h=>(match ak h a with|some v=>rd P (k v) h|none=>none)
 | .shape r k,h=>rd P (k (Ad h r)) h
 | .frozen a k,h=>rd P (k (Ae h a)) h
 | .getObj r k,h=>(match h[r]? with|some (.cells _ _ _)=>none|some o=>rd P (k o) h|none=>none)
 | .program k,h=>rd P (k P) h
 | .mark _ k,h=>rd P k h
 |_,_=>none
theorem abu {P:Program} {α:Type} (s:Sem α): ∀(h:aj) (a:α),rd P s h=some a->∀K:α->aj->Prop,K a h->aX P s h K:=by
 induction s with
 |pure b=>intro h a e K hk;simp only[rd,bE] at e;subst e;exact hk
 |load m b k ih=>
  intro h a e K hk;simp only[rd] at e;split at e
  ·rename_i v hv;exact⟨v,hv,ih v h a e K hk⟩
  ·cases e
 |shape r k ih=>intro h a e K hk;exact ih _ h a e K hk
 |frozen b k ih=>intro h a e K hk;exact ih _ h a e K hk
 |getObj r k ih=>
  intro h a e K hk;simp only[rd] at e;split at e
  ·cases e
  ·rename_i o kA ho;exact⟨o,ho,λc e f hc=>kA c e f (hc▸rfl),ih _ h a e K hk⟩
  ·cases e
 |program k ih=>intro h a e K hk;exact ih _ h a e K hk
 |mark m k ih=>intro h a e K hk;exact ih h a e K hk
 |_=>intro h a e;simp[rd] at e
theorem BQ {P:Program} {α:Type} (s:Sem α): ∀(w:World) (a:α),rd P s w.heap=some a->s.run P w=.ok a w:=by
 induction s with
 |pure b=>intro w a e;simp only[rd,bE] at e;subst e;rfl
 |load m b k ih=>
  intro w a e;simp only[rd] at e;split at e
  ·rename_i v hv;rw[<-uD] at hv;simp only[Sem.run,hv];exact ih v w a e
  ·cases e
 |shape r k ih=>intro w a e;exact ih _ w a e
 |frozen b k ih=>intro w a e;exact ih _ w a e
 |getObj r k ih=>
  intro w a e;simp only[rd] at e;split at e
  ·cases e
  ·rename_i o kA ho;cases o<;>first|exact absurd rfl (kA _ _ _)|(simp only[Sem.run,ho];exact ih _ w a e)
  ·cases e
 |program k ih=>intro w a e;exact ih _ w a e
 |mark m k ih=>intro w a e;exact ih w a e
 |_=>intro w a e;simp[rd] at e
theorem bu {P:Program} {α β:Type} (s:Sem α) (f:α->Sem β): ∀(h:aj) (a:α),rd P s h=some a->rd P (s>>=f) h=rd P (f a) h:=by
 show∀(h:aj) (a:α),rd P s h=some a->rd P (s.bind f) h=rd P (f a) h;induction s with
 |pure b=>intro h a e;simp only[rd,bE] at e;subst e;rfl
 |load m b k ih=>
  intro h a e;simp only[rd] at e;split at e
  ·rename_i v hv;simp only[Sem.bind,rd,hv];exact ih v h a e
  ·cases e
 |shape r k ih=>intro h a e;exact ih _ h a e
 |frozen b k ih=>intro h a e;exact ih _ h a e
 |getObj r k ih=>
  intro h a e;simp only[rd] at e;split at e
  ·cases e
  ·rename_i o kA ho;cases o<;>first|exact absurd rfl (kA _ _ _)|(simp only[Sem.bind,rd,ho];exact ih _ h a e)
  ·cases e
 |program k ih=>intro h a e;exact ih _ h a e
 |mark m k ih=>intro h a e;exact ih h a e
 |_=>intro h a e;simp[rd] at e
def wD (P:Program) (f:FuncId) (args:Array Value) (h:aj) (R:iI):Prop:=
 ∀w:World,w.heap=h->Calls P f args w (λe w'=> ∃v,e=.returned v/\R v w'.heap/\iC w w')
theorem wD.mono {P:Program} {f:FuncId} {args:Array Value} {h:aj} {R R':iI} (hh:wD P f args h R) (hr: ∀v h',R v h'->R' v h'):wD P f args h R':=
 λw hw=>(hh w hw).mono λ_ _ ⟨v,he,hR,hs⟩=>⟨v,he,hr _ _ hR,hs⟩
def al5 (P:Program) (K:iI):Next->aj->Prop
 | .value v,h=>K v h
 | .skip,h=>K undef h
 | .enter f args,h=>wD P f args h K
 |_,_=>False
def BR (P:Program) (o:Oper) (ρ:Operand->Value) (h:aj) (K:iI):Prop:=
 aX P (execOp ρ o) h (al5 P K)
theorem BR.wp {P:Program} {o:Oper} {a:Act} {w:World} {K:iI} {next:Act->World->Prop} {Q:Exit->Act->World->Prop}
  (hh:BR P o a.eval w.heap K) (hn: ∀v w',K v w'.heap->iC w w'->next (a.put o.dst v) w'):o.wp P a w next Q:=by
 obtain⟨x,w',r1,r2,r3⟩:=Ag _ _ _ hh w rfl;unfold Oper.wp;rw[r1];cases x with
 |value v=>exact hn _ _ r2 r3
 |skip=>exact hn _ _ r2 r3
 |enter f args=>
  refine(r2 w' rfl).mono ?_;rintro e w'' ⟨v,rfl,hR,hs⟩;exact hn _ _ hR (r3.trans hs)
 |_=>exact r2.elim
inductive jU where
 |int (k:IntKind)
 |bool
 |str
 |ptr
 |slice
 |map
 |raw
inductive Sh where
 |one (l:jU)
 |agg (ls:List jU)
def jU.ex:jU->(Value->Prop)->Prop
 | .int k,F=> ∃n:Int,F (.int k n)
 | .bool,F=> ∃b:Bool,F (.bool b)
 | .str,F=> ∃s:ByteArray,F (.string s)
 | .ptr,F=> ∃p:bU,F (.pointer p)
 | .slice,F=> ∃(p:bU) (l c:Nat),F (.slice p l c)
 | .map,F=> ∃m:Option Nat,F (.map m)
 | .raw,F=> ∃v:Value,F v
def exs:List jU->(List Value->Prop)->Prop
 | [],F=>F []
 |l::ls,F=>l.ex λv=>exs ls λvs=>F (v::vs)
def Sh.ex:Sh->(Value->Prop)->Prop
 | .one l,F=>l.ex F
 | .agg ls,F=>exs ls λvs=>F (.agg vs.toArray)
def abv:List Sh->(List Value->Prop)->Prop
 | [],F=>F []
 |s::ss,F=>s.ex λv=>abv ss λvs=>F (v::vs)
theorem jU.vP {l:jU} {F:Value->Prop} (h:l.ex F): ∃v,F v:=by
 cases l<;>simp only[jU.ex] at h
 all_goals first
  |(obtain⟨a,b,c,h⟩:=h;exact⟨_,h⟩)
  |(obtain⟨a,h⟩:=h;exact⟨_,h⟩)
theorem QS: ∀ {ls:List jU} {F:List Value->Prop},exs ls F->∃vs,vs.length=ls.length/\F vs
 | [],_,h=>⟨[],rfl,h⟩
 |_::_,_,h=>by
  obtain⟨v,h⟩:=jU.vP h;obtain⟨vs,hl,h⟩:=QS h;exact⟨v::vs,by simp[hl],h⟩
theorem Sh.vP {s:Sh} {F:Value->Prop} (h:s.ex F): ∃v,F v:=by
 cases s with
 |one l=>exact jU.vP h
 |agg ls=>obtain⟨vs,_,h⟩:=QS h;exact⟨_,h⟩
theorem Js: ∀ {ls:List Sh} {F:List Value->Prop},abv ls F->∃vs,F vs
 | [],_,h=>⟨[],h⟩
 |_::_,_,h=>by
  obtain⟨v,h⟩:=Sh.vP h;obtain⟨vs,h⟩:=Js h;exact⟨v::vs,h⟩
def Gn (P:Program) (t:TypeId):Option jU:=
 match P.underlying t with
 |some .bool=>some .bool
 |some (.int k)=>some (.int k)
 |some .string=>some .str
 |some (.pointer _)=>some .ptr
 |some (.slice _)=>some .slice
 |some (.map _ _)=>some .map
 |some (.struct _)=>none
 |some (.array _ _)=>none
 |some (.tuple _)=>none
 |some _=>some .raw
 |none=>none
def EO (P:Program):Nat->TypeId->Option (List jU)
 |0,_=>none
 |n+1,t=>
  match P.underlying t with
  |some (.struct fs)=>fs.toList.foldr (λf acc=>match EO P n f.type,acc with|some a,some b=>some (a++b)|_,_=>none) (some [])
  |some (.array m e)=>(EO P n e).map λl=>(List.replicate m l).flatten
  |_=>(Gn P t).map ([·])
def Jt (P:Program) (t:TypeId):Bool:=
 match P.underlying t with
 |some (.struct _)=>true
 |some (.array _ _)=>true
 |_=>false
def al6 (P:Program) (t:TypeId):Option Sh:=
 match Jt P t with
 |true=>(EO P 20 t).map .agg
 |false=>(Gn P t).map .one
def ahP (P:Program):List TypeId->Option (List Sh)
 | []=>some []
 |t::ts=>match al6 P t,ahP P ts with
  |some s,some ss=>some (s::ss)
  |_,_=>none
def DO (P:Program) (t:TypeId) (F:Value->Prop):Prop:=
 match P.underlying t with
 |some (.tuple ts)=>(match ahP P ts.toList with|some l=>abv l λvs=>F (.tuple vs.toArray)|none=>False)
 |_=>(match al6 P t with|some s=>s.ex F|none=>False)
theorem Ju {P:Program} {t:TypeId} {F:Value->Prop} (h:DO P t F): ∃v,F v:=by
 unfold DO at h;split at h
 ·split at h
  ·obtain⟨_,h⟩:=Js h;exact⟨_,h⟩
  ·exact h.elim
 ·split at h
  ·exact Sh.vP h
  ·exact h.elim
theorem Jv {P:Program} {t:TypeId} {v:Value} {K:Value->Prop} (h:DO P t λv'=>v=v'/\K v'):K v:=by
 obtain⟨v',rfl,h⟩:=Ju h;exact h
def aP {α:Type} (p:Option α) (F:α->Prop):Prop:=
 match p with
 |some a=>F a
 |none=>False
theorem cG {α:Type} {p:Option α} {F:α->Prop} :aP p F↔ ∃a,p=some a/\F a:=by
 cases p<;>simp[aP]
@[simp] theorem aB {α:Type} {a:α} {F:α->Prop} :aP (some a) F↔F a:=fY
def Env.set (σ:Env) (d:Nat) (v:Value):Env:=λt=>bif Nat.beq t d then some v else σ t
def Env.ev (σ:Env):Operand->Option Value
 | .tmp t=>σ t
 | .const v=>some v
 | .global g=>some (.pointer (some ⟨g,0,none⟩))
 | .func f=>some (.func (.func f) #[] #[])
def Env.Hn (σ:Env):Operand->Value:=λx=>(σ.ev x).getD undef
def ajs (σ:Env) (o:Oper):Bool:=o.op.operands.toList.all λx=>(σ.ev x).isSome
def Fits (σ:Env) (ρ:Operand->Value):Prop:= ∀x v,σ.ev x=some v->ρ x=v
def sN (P:Program) {α:Type} :Sem α->Option α
 | .pure a=>some a
 | .program k=>sN P (k P)
 | .mark _ k=>sN P k
 |_=>none
theorem QT {P:Program} {α:Type} (s:Sem α): ∀(a:α),sN P s=some a->∀(h:aj) (K:α->aj->Prop),K a h->aX P s h K:=by
 induction s with
 |pure b=>intro a e h K hk;simp only[sN,bE] at e;subst e;exact hk
 |program k ih=>intro a e h K hk;exact ih P a e h K hk
 |mark m k ih=>intro a e h K hk;exact ih a e h K hk
 |_=>intro a e;simp[sN] at e
theorem Eh {P:Program} {α:Type} (s:Sem α): ∀(a:α),sN P s=some a->∀(h:aj),rd P s h=some a:=by
 induction s with
 |pure b=>intro a e h;exact e
 |program k ih=>intro a e h;exact ih P a e h
 |mark m k ih=>intro a e h;exact ih a e h
 |_=>intro a e;simp[sN] at e
def Gp (P:Program) {α:Type} :Sem α->Option (Obj×(Nat->Sem α))
 | .new o k=>some (o,k)
 | .program k=>Gp P (k P)
 | .mark _ k=>Gp P k
 |_=>none
theorem TV {P:Program} {α:Type} (s:Sem α): ∀(o:Obj) (f:Nat->Sem α),Gp P s=some (o,f)->∀(h:aj) (K:α->aj->Prop),aX P (f h.size) (h.push o) K->aX P s h K:=by
 induction s with
 |new b k ih=>intro o f e h K hk;simp only[Gp,bE,jK] at e;obtain⟨rfl,rfl⟩:=e;exact hk
 |program k ih=>intro o f e h K hk;exact ih P o f e h K hk
 |mark m k ih=>intro o f e h K hk;exact ih o f e h K hk
 |_=>intro o f e;simp[Gp] at e
theorem QU {σ:Env} {ρ:Operand->Value} (hf:Fits σ ρ) (o:Oper) (hd:ajs σ o=true) (hs: ∀cs b,o.op≠ .select cs b):execOp σ.Hn o=execOp ρ o:=by
 refine execOp_congr o hs λx hx=> ?_
 have h1:=List.all_eq_true.1 hd x (by simpa using hx);obtain⟨v,hv⟩:=gO.1 h1;rw[hf x v hv];simp[Env.Hn,hv]
def aV (h:aj) (o:Obj) (K:Nat->aj->Prop):Prop:= ∀b h',b=h.size->h'=h.push o->K b h'
def aH (h:aj) (a:Addr) (v:Value) (K:aj->Prop):Prop:=
 (ak h a).isSome=true/\Ae h a=false/\∀h',h'=yW h a v->K h'
def gY (a:Addr):List Value->Nat->aj->(aj->Prop)->Prop
 | [],_,h,K=>K h
 |v::vs,i,h,K=>(match jg v with|true=>aH h (a.add i) v λh'=>gY a vs (i+1) h' K|false=>False)
def abw (h:aj) (a:Addr):List jU->Nat->(List Value->Prop)->Prop
 | [],_,F=>F []
 |l::ls,i,F=>l.ex λv=>ak h (a.add i)=some v/\abw h a ls (i+1) λvs=>F (v::vs)
def fE (a:Addr):List Value->Nat->aj->Prop
 | [],_,_=>True
 |v::vs,i,h=>ak h (a.add i)=some v/\fE a vs (i+1) h
def Dg (P:Program) (t:TypeId) (h:aj) (a:Addr) (K:Value->Option (aj->Prop)->Prop):Prop:=
 match Jt P t with
 |true=>(match EO P 20 t,P.info? t with
  |some ls,some i=>(match Nat.beq i.size ls.length with
   |true=>abw h a ls 0 λvs=>K (.agg vs.toArray) (some (fE a vs 0))
   |false=>False)
  |_,_=>False)
 |false=>(match Gn P t with
  |some l=>l.ex λv=>ak h a=some v/\K v (some λh'=>ak h' a=some v)
  |none=>False)
def BT (P:Program) (t:TypeId) (u v:Value):Option Bool:=
 match v with
 | .pointer none=>(match u,P.underlying t with| .pointer p,some (.pointer _)=>some p.isNone|_,_=>none)
 | .map none=>(match u,P.underlying t with| .map m,some (.map _ _)=>some m.isNone|_,_=>none)
 | .slice none _ _=>(match u,P.underlying t with| .slice p _ _,some (.slice _)=>some p.isNone|_,_=>none)
 |_=>none
def BU (P:Program) (o:Oper) (σ:Env) (K:Value->Option (aj->Prop)->Prop):Prop:=
 match ajs σ o with
 |true=>(match sN P (execOp σ.Hn o) with|some (.value v)=>K v none|_=>False)
 |false=>False
def Ho (P:Program) (t:TypeId) (u v:Value) (b:Bool):Prop:= ∀h,rd P (Op.equal t u v) h=some b
def TW (o:Oper):Bool:=
 match o.op with
 | .binOp _ _ _ (.const _) _=>true
 |_=>false
def Gq (P:Program) (o:Oper) (t:TypeId) (u v:Value):Bool:=
 match v with
 | .nilIface=>TW o
 | .agg _=>(match u with| .agg _=> !P.eqGuardType P.depth t|_=>false)
 | .pointer _=>(match u with| .pointer _=> !TW o|_=>false)
 |_=>false
def TZ (P:Program) (o:Oper) (op:BinOp) (t:TypeId) (u v:Value) (σ:Env) (K:Value->Option (aj->Prop)->Prop):Prop:=
 match op with
 | .eql=>(match Gq P o t u v with
  |true=> ∃b:Bool,Ho P t u v b/\K (.bool b) none
  |false=>(match BT P t u v with|some b=>K (.bool b) none|none=>BU P o σ K))
 | .neq=>(match Gq P o t u v with
  |true=> ∃b:Bool,Ho P t u v b/\K (.bool (!b)) none
  |false=>(match BT P t u v with|some b=>K (.bool (!b)) none|none=>BU P o σ K))
 | .quo=>(match u,v with
  | .int k a,.int k' b=>(match decide (k=k') with|true=>if b=0 then False else K (.int k (k.wrap (a.tdiv b))) none|false=>False)
  |_,_=>False)
 | .rem=>(match u,v with
  | .int k a,.int k' b=>(match decide (k=k') with|true=>if b=0 then False else K (.int k (a.tmod b)) none|false=>False)
  |_,_=>False)
 | .shl=>(match u,v with
  | .int k a,.int _ b=>if b<0 then False else K (.int k (k.wrap (a*2 ^ min b.toNat k.bits))) none
  |_,_=>False)
 | .shr=>(match u,v with
  | .int k a,.int _ b=>if b<0 then False else K (.int k (a.fdiv (2 ^ min b.toNat k.bits))) none
  |_,_=>False)
 | .add=>(match u,v with
  | .string a,.string b=>((a.size+b.size:Nat):Int)<=IntKind.i64.max/\K (.string (a++b)) none
  |_,_=>BU P o σ K)
 |_=>BU P o σ K
def QV (P:Program) (s:TypeId) (f:Nat):Option Nat:=
 match P.underlying s with
 |some (.struct fs)=>(match fs[f]? with
  |some fl=>(match P.info? fl.type with|some i=>(match Nat.beq i.size 0 with|true=>none|false=>some fl.offset)|none=>none)
  |none=>none)
 |_=>none
def T0 (n:Int):List Value->Nat->(Value->Prop)->Prop
 | [],_,_=>True
 |v::vs,i,F=>(n=(i:Int)->F v)/\T0 n vs (i+1) F
def Ei (σ:Env):Option Operand->Option (Option Int)
 |none=>some none
 |some x=>match σ.ev x with
  |some (.int _ n)=>some (some n)
  |_=>none
def OB (len cap:Nat):Option Int->Option Int->(Nat->Nat->Prop)->Prop
 |none,none,F=>F 0 len
 |none,some b,F=>(0<=b/\b<=(cap:Int))/\F 0 b.toNat
 |some a,none,F=>(0<=a/\a<=(len:Int))/\F a.toNat len
 |some a,some b,F=>(0<=b/\b<=(cap:Int))/\(0<=a/\a<=b)/\F a.toNat b.toNat
def cZ (p:bU) (m l size:Nat):bU:=if m=l then p else p.map (·.add (l*size))
def sO (m:Value) (h h':aj):Prop:=
 match m with
 | .map (some r)=>h'[r]? =h[r]?
 |_=>True
def mC (P:Program) (t:TypeId) (m k:Value) (ok:Bool) (h:aj) (v:Value):Prop:=
 ∀h',sO m h h'->rd P (Instr.lookup t m k ok) h'=some v
def afd (P:Program) (QW:Array TypeId) (ty:TypeId) (m:Value) (h:aj) (v:Value):Prop:=
 ∀h',sO m h h'->rd P (Builtin.len_ QW ty #[m]) h'=some v
def DP (P:Program) (s d:TypeId) (v:Value) (h:aj) (b:ByteArray):Prop:=rd P (convert s d v) h=some (.string b)
def ajt:Value->Bool
 | .map _=>true
 |_=>false
def xV (P:Program) (o:Oper) (σ:Env) (h:aj) (K:Value->Option (aj->Prop)->Prop):Prop:=
 match o.op with
 | .pick c a b=>(match σ.ev c,σ.ev a,σ.ev b with
  |some (.bool q),some va,some vb=>if q=true then K va none else K vb none
  |_,_,_=>False)
 | .load t x=>(match σ.ev x with
  |some (.pointer p)=>aP p λa=>Dg P t h a K
  |_=>False)
 | .nilCheck x=>(match σ.ev x with
  |some (.pointer p)=>aP p λa=>K (.pointer (some a)) none
  |_=>BU P o σ K)
 | .binOp op t x y _=>(match σ.ev x,σ.ev y with
  |some u,some v=>TZ P o op t u v σ K
  |_,_=>False)
 | .fieldAddr s x f=>(match σ.ev x,QV P s f with
  |some (.pointer p),some off=>aP p λa=>K (.pointer (some (a.add off))) none
  |_,_=>False)
 | .indexAddr t x i=>(match P.underlying t,σ.ev x,σ.ev i with
  |some (.slice e),some (.slice base len _),some (.int _ n)=>(match P.info? e with
   |some i=>(0<=n/\n<(len:Int))/\aP base λa=>K (.pointer (some (a.add (n.toNat*i.size)))) none
   |none=>False)
  |some (.array len e),some (.pointer base),some (.int _ n)=>(match P.info? e with
   |some i=>(0<=n/\n<(len:Int))/\aP base λa=>K (.pointer (some (a.add (n.toNat*i.size)))) none
   |none=>False)
  |_,_,_=>False)
 | .index t x i=>(match P.underlying t,σ.ev x,σ.ev i with
  |some .string,some (.string s),some (.int _ n)=>(0<=n/\n<(s.size:Int))/\K (.int .u8 (s.data.toList.getD n.toNat 0).toNat) none
  |some (.array len e),some (.agg cs),some (.int _ n)=>(match Gn P e,P.info? e,Nat.beq len cs.toList.length with
   |some _,some i,true=>(match Nat.beq i.size 1 with
    |true=>(0<=n/\n<(len:Int))/\T0 n cs.toList 0 λv=>K v none
    |false=>False)
   |_,_,_=>False)
  |_,_,_=>False)
 | .slice t x lo hi mx=>(match mx,P.underlying t,σ.ev x,Ei σ lo,Ei σ hi with
  |none,some (.slice e),some (.slice p len cap),some l,some hh=>(match P.info? e with
   |some i=>OB len cap l hh λa b=>K (.slice (cZ p cap a i.size) (b - a) (cap - a)) none
   |none=>False)
  |none,some .string,some (.string s),some l,some hh=>OB s.size s.size l hh λa b=>K (.string (s.extract a b)) none
  |none,some (.array n e),some (.pointer p),some l,some hh=>(match P.info? e with
   |some i=>aP p λad=>OB n n l hh λa b=>K (.slice (cZ (some ad) n a i.size) (b - a) (n - a)) none
   |none=>False)
  |some mo,some (.slice e),some (.slice p _ cap),some none,some (some b)=>(match σ.ev mo,P.info? e with
   |some (.int _ m),some i=>(0<=m/\m<=(cap:Int))/\(0<=b/\b<=m)/\K (.slice (cZ p m.toNat 0 i.size) b.toNat m.toNat) none
   |_,_=>False)
  |_,_,_,_,_=>False)
 | .lookup t x i ok=>(match σ.ev x,σ.ev i with
  |some m,some k=>DO P o.type λv=>mC P t m k ok h v/\K v (some (sO m h))
  |_,_=>False)
 | .call { callee:=.builtin .len,args:=args,argTypes:=QW } =>(match args.toList with
  | [x]=>(match σ.ev x with
   |some m=>(match ajt m with
    |true=> ∃n:Int,afd P QW o.type m h (.int .i64 n)/\K (.int .i64 n) (some (sO m h))
    |false=>BU P o σ K)
   |none=>False)
  |_=>False)
 | .convert s d x=>(match P.underlying d with
  |some .string=>(match σ.ev x with
   |some v=> ∃b:ByteArray,DP P s d v h b/\K (.string b) (some λh'=>DP P s d v h' b)
   |none=>False)
  |_=>BU P o σ K)
 | .select _ _=>False
 |_=>BU P o σ K
def vw (P:Program) (o:Oper):Bool:=
 match o.op with
 | .move _| .assign _| .pick .. | .load .. | .nilCheck _| .binOp .. | .unOp .. | .makeInterface .. | .makeFunc .. | .slice .. | .fieldAddr .. | .field .. | .indexAddr .. | .index .. | .lookup .. | .extract .. | .build .. =>true
 | .convert _ d _=>(match P.underlying d with|some (.int _)=>true|some .string=>true|_=>false)
 | .call { callee:=.builtin b,.. } =>(match b with| .len| .cap| .min| .max=>true|_=>false)
 |_=>false
def Ah (P:Program) (g:FuncId):Bool:=
 match P.funcs[g]? with
 |some fn=>fn.body.isSome && !(fn.name== "runtime.NumGoroutine")
 |none=>false
def evs (σ:Env):List Operand->Option (List Value)
 | []=>some []
 |x::xs=>match σ.ev x,evs σ xs with
  |some v,some vs=>some (v::vs)
  |_,_=>none
def Jw (b:Builtin) (QW:Array TypeId) (ty:TypeId) (vs:Array Value):Option (Sem Value):=
 match b with
 | .append=>some (Builtin.append_ QW ty vs)
 | .copy=>some (Builtin.copy_ QW ty vs)
 | .delete=>some (Builtin.delete_ QW ty vs)
 | .clear=>some (Builtin.clear_ QW ty vs)
 |_=>none
def ZX (P:Program) (o:Oper) (σ:Env) (h:aj) (K:iI):Prop:=
 match ajs σ o with
 |true=>(match Gp P (execOp σ.Hn o) with
  |some (ob,k)=>aV h ob λb h'=>(match sN P (k b) with|some (.value v)=>K v h'|_=>False)
  |none=>False)
 |false=>False
def Ai (P:Program) (o:Oper) (σ:Env) (h:aj) (K:iI):Prop:=
 match o.op with
 | .alloc _=>ZX P o σ h K
 | .box _ _=>ZX P o σ h K
 | .buildSlice _ _ _=>ZX P o σ h K
 | .makeMap _ _=>ZX P o σ h K
 | .store t x y=>(match σ.ev x,σ.ev y with
  |some (.pointer p),some v=>aP p λa=>(match P.info? t with
   |some i=>(match Nat.beq i.size v.cells.toList.length with|true=>gY a v.cells.toList 0 h (K undef)|false=>False)
   |none=>False)
  |_,_=>False)
 | .mapUpdate t m k x=>(match σ.ev m,σ.ev k,σ.ev x with
  |some m,some k,some x=>aX P (Instr.mapUpdate t m k x) h λ_ h'=>K undef h'
  |_,_,_=>False)
 | .insert t m k x=>(match σ.ev m,σ.ev k,σ.ev x with
  |some m,some k,some x=>aX P (Instr.mapUpdate t m k x) h λ_ h'=>K undef h'
  |_,_,_=>False)
 | .makeSlice t l c=>(match σ.ev l,σ.ev c with
  |some l,some c=>aX P (Instr.makeSlice t l c) h λv h'=>DO P o.type λv'=>v=v'/\K v' h'
  |_,_=>False)
 | .convert s d x=>(match σ.ev x with
  |some x=>aX P (convert s d x) h λv h'=>DO P o.type λv'=>v=v'/\K v' h'
  |none=>False)
 | .call { callee:=.builtin b,args:=args,argTypes:=QW } =>(match evs σ args.toList with
  |some vs=>(match Jw b QW o.type vs.toArray with
   |some s=>aX P s h λv h'=>DO P o.type λv'=>v=v'/\K v' h'
   |none=>False)
  |none=>False)
 | .call { callee:=.value f,args:=args,argTypes:=_ } =>(match σ.ev f,evs σ args.toList with
  |some (.func (.func g) first captured),some vs=>(match Ah P g with
   |true=>wD P g (first.toList++vs++captured.toList).toArray h λv h'=>DO P o.type λv'=>v=v'/\K v' h'
   |false=>False)
  |_,_=>False)
 | .range t x=>(match σ.ev x with
  |some x=>aX P (Instr.range t x) h λv h'=> ∃r:Nat,v=.pointer (some ⟨r,0,none⟩)/\K (.pointer (some ⟨r,0,none⟩)) h'
  |none=>False)
 | .next it b=>(match σ.ev it with
  |some it=>aX P (Instr.next it b o.type) h λv h'=>(v=.tuple #[.bool false]/\K (.tuple #[.bool false]) h')\/∃k x:Value,v=.tuple #[.bool true,k,x]/\K (.tuple #[.bool true,k,x]) h'
  |none=>False)
 | .entry it=>(match σ.ev it with
  |some it=>aX P (Instr.entry it) h λv h'=> ∃k x:Value,v=.tuple #[k,x]/\K (.tuple #[k,x]) h'
  |none=>False)
 |_=>False
section
variable {P : Program} {h : aj}
theorem Jx {α:Type} (a:α) (K:α->aj->Prop):aX P (pure a:Sem α) h K↔K a h:=fY
theorem eZ {α β:Type} (s:Sem α) (f:α->Sem β) (K:β->aj->Prop):aX P (s>>=f) h K↔aX P s h (λa h'=>aX P (f a) h' K):=QR s f h K
theorem abx {t:TypeId} {d:TypeDesc} (hd:P.underlying t=some d) (K:TypeDesc->aj->Prop):aX P (underlying t) h K↔K d h:=by
 unfold underlying;rw[eZ];show aX P (match P.underlying t with|some d=>pure d|none=>stuck "no such type") h K↔_;rw[hd];exact fY
theorem OC {t:TypeId} {i:TypeInfo} (hi:P.info? t=some i) (K:TypeInfo->aj->Prop):aX P (typeInfo t) h K↔K i h:=by
 unfold typeInfo;rw[eZ];show aX P (match P.info? t with|some d=>pure d|none=>stuck "no such type") h K↔_;rw[hi];exact fY
theorem T1 {t:TypeId} {i:TypeInfo} (hi:P.info? t=some i) (K:Nat->aj->Prop):aX P (sizeOf t) h K↔K i.size h:=by
 unfold sizeOf;rw[eZ,OC hi];exact fY
theorem pI {α:Type} (a:α):rd P (pure a:Sem α) h=some a:=rfl
theorem bD {t:TypeId} {d:TypeDesc} (hd:P.underlying t=some d):rd P (underlying t) h=some d:=by
 show rd P (match P.underlying t with|some d=>pure d|none=>stuck "no such type") h=_;rw[hd];rfl
theorem lK {t:TypeId} {i:TypeInfo} (hi:P.info? t=some i):rd P (typeInfo t) h=some i:=by
 show rd P (match P.info? t with|some d=>pure d|none=>stuck "no such type") h=_;rw[hi];rfl
theorem lP {t:TypeId} {i:TypeInfo} (hi:P.info? t=some i):rd P (sizeOf t) h=some i.size:=by
 unfold sizeOf;rw[bu _ _ _ _ (lK hi)];rfl
theorem QX {t:TypeId} (hb:Jt P t=true): ∃d,P.underlying t=some d/\((∃fs,d=.struct fs)\/∃n e,d=.array n e):=by
 unfold Jt at hb;split at hb
 ·rename_i fs e;exact⟨_,e,.inl ⟨_,rfl⟩⟩
 ·rename_i n el e;exact⟨_,e,.inr ⟨_,_,rfl⟩⟩
 ·cases hb
theorem DQ {t:TypeId} (hb:Jt P t=true):rd P (isAgg t) h=some true:=by
 obtain⟨d,hd,hh⟩:=QX hb;unfold isAgg;rw[bu _ _ _ _ (bD hd)];rcases hh with⟨fs,rfl⟩|⟨n,e,rfl⟩<;>rfl
theorem wE {t:TypeId} {l:jU} (hl:Gn P t=some l):rd P (isAgg t) h=some false:=by
 unfold Gn at hl;unfold isAgg;cases hd:P.underlying t with
 |none=>rw[hd] at hl;cases hl
 |some d=>rw[bu _ _ _ _ (bD hd)];rw[hd] at hl;cases d<;>first|rfl|cases hl
end
section
variable {P : Program}
theorem OD {a:Addr} {h:aj} {v:Value} (hc:ak h a=some v):rd P (load a) h=some v:=by
 unfold load;simp only[rd,hc]
theorem nP {a:Addr} : ∀(vs:List Value) (i:Nat) (acc:Array Value) (h:aj),fE a vs i h->rd P (loadCellsFrom a i vs.length acc) h=some (acc++vs.toArray)
 | [],i,acc,h,_=>by simp[loadCellsFrom,pI]
 |v::vs,i,acc,h,hh=>by
  obtain⟨h1,h2⟩:=hh;simp only[bj,loadCellsFrom];rw[bu _ _ _ _ (OD h1),nP vs (i+1) _ h h2];simp
theorem Ej {h:aj} {a:Addr} : ∀(ls:List jU) (i:Nat) (F:List Value->Prop),abw h a ls i F->∃vs,vs.length=ls.length/\fE a vs i h/\F vs
 | [],_,_,hh=>⟨[],rfl,trivial,hh⟩
 |_::ls,i,_,hh=>by
  obtain⟨v,h1,h2⟩:=jU.vP hh;obtain⟨vs,hl,h3,h4⟩:=Ej ls (i+1) _ h2;exact⟨v::vs,by simp[hl],⟨h1,h3⟩,h4⟩
def Gr:Option (aj->Prop)->aj->Prop
 |some S,h=>S h
 |none,_=>True
def Yv (P:Program) (s:Sem Value) (S:Option (aj->Prop)) (v:Value):Prop:=
 ∀h',Gr S h'->rd P s h'=some v
theorem Jy {t:TypeId} {h:aj} {a:Addr} {K:Value->Option (aj->Prop)->Prop} (hh:Dg P t h a K):
  ∃v S,K v S/\Gr S h/\Yv P (loadVar t a) S v:=by
 unfold Dg at hh;split at hh
 ·rename_i hb;split at hh
  ·rename_i ls i hls hi;split at hh
   ·rename_i hn;obtain⟨vs,hl,h1,h2⟩:=Ej _ _ _ hh;refine⟨_,_,h2,h1,λh' hs=> ?_⟩;unfold loadVar;rw[bu _ _ _ _ (DQ hb)];simp only[bA];rw[bu _ _ _ _ (lP hi)];have e:i.size=vs.length:=by rw[hl];exact cg hn
    unfold loadCells;rw[e,bu _ _ _ _ (nP vs 0 #[] h' hs)];simp[pI]
   ·exact hh.elim
  ·exact hh.elim
 ·split at hh
  ·rename_i l hl;obtain⟨v,h1,h2⟩:=jU.vP hh;refine⟨v,_,h2,h1,λh' hs=> ?_⟩;unfold loadVar;rw[bu _ _ _ _ (wE hl)];exact OD hs
  ·exact hh.elim
theorem BW {o:Oper} {σ:Env} {ρ:Operand->Value} {K:Value->Option (aj->Prop)->Prop} (hf:Fits σ ρ) (hs: ∀cs b,o.op≠ .select cs b) (hh:BU P o σ K):
  ∃v,K v none/\∀h',rd P (execOp ρ o) h'=some (.value v):=by
 unfold BU at hh;split at hh
 ·rename_i hd;split at hh
  ·rename_i v hv;exact⟨v,hh,λh'=>Eh _ _ (by rw[<-QU hf o hd hs];exact hv) _⟩
  ·exact hh.elim
 ·exact hh.elim
theorem MB {t:TypeId} {u v:Value} {b:Bool} (hh:BT P t u v=some b): ∀h',rd P (Op.equal t u v) h'=some b:=by
 intro h';unfold Op.equal Op.maxDepth;unfold BT at hh;split at hh
 ·split at hh
  ·rename_i p e he;simp only[bE] at hh;subst hh;unfold Op.equalIn;rw[bu _ _ _ _ (bD he)];cases p<;>rfl
  ·cases hh
 ·split at hh
  ·rename_i m k e he;simp only[bE] at hh;subst hh;unfold Op.equalIn;rw[bu _ _ _ _ (bD he)];cases m<;>rfl
  ·cases hh
 ·split at hh
  ·rename_i p _ _ e he;simp only[bE] at hh;subst hh;unfold Op.equalIn;rw[bu _ _ _ _ (bD he)];cases p<;>rfl
  ·cases hh
 ·cases hh
theorem EP {op:BinOp} {t:TypeId} {x y:Operand} {u v:Value} {b:Bool} (hh:BT P t u v=some b): ∀h',rd P (eqGuard op t x y u v) h'=some ():=by
 intro h';unfold BT at hh;unfold eqGuard;split at hh
 ·split at hh
  ·split<;>exact rfl
  ·cases hh
 ·split at hh
  ·split<;>exact rfl
  ·cases hh
 ·split at hh
  ·split<;>exact rfl
  ·cases hh
 ·cases hh
theorem Hq {t:TypeId} {u v:Value} {b:Bool} (hh:BT P t u v=some b):
  (∃p,u=.pointer p/\v=.pointer none)\/(∃m,u=.map m/\v=.map none)\/(∃p l c l' c',u=.slice p l c/\v=.slice none l' c'):=by
 unfold BT at hh;split at hh
 ·split at hh
  ·exact .inl ⟨_,rfl,rfl⟩
  ·cases hh
 ·split at hh
  ·exact .inr (.inl ⟨_,rfl,rfl⟩)
  ·cases hh
 ·split at hh
  ·exact .inr (.inr ⟨_,_,_,_,_,rfl,rfl⟩)
  ·cases hh
 ·cases hh
theorem qU {op:BinOp} {t:TypeId} {x y:Operand} {u v:Value} (h1:op≠ .eql) (h2:op≠ .neq):eqGuard op t x y u v=pure ():=by
 cases op<;>first|rfl|exact absurd rfl h1|exact absurd rfl h2
theorem uL {o:Oper} {op:BinOp} {t t':TypeId} {x y:Operand} {ρ:Operand->Value} {u v r:Value} {h:aj} (ho:o.op=.binOp op t x y t') (hx:ρ x=u) (hy:ρ y=v)
  (h1:rd P (eqGuard op t x y u v) h=some ()) (h2:rd P (binOp op t u v) h=some r):rd P (execOp ρ o) h=some (.value r):=by
 unfold execOp;rw[ho];simp only[hx,hy];have h3:rd P (do eqGuard op t x y u v;binOp op t u v) h=some r:=by rw[bu _ _ _ _ h1];exact h2
 rw[bu _ _ _ _ h3];rfl
theorem MC {o:Oper} {op:BinOp} {t t':TypeId} {x y:Operand} {ρ:Operand->Value} {u v:Value} (ho:o.op=.binOp op t x y t') (QJ:op=.eql\/op=.neq) (hx:ρ x=u) (hy:ρ y=v) (hq:Gq P o t u v=true) {b:Bool} (hb:Ho P t u v b):
  ∀h',rd P (execOp ρ o) h'=some (.value (.bool (if op=.eql then b else !b))):=by
 intro h';have aju:rd P (eqGuard op t x y u v) h'=some ():=by
  unfold Gq at hq;split at hq
  ·have hc: ∃c,y=.const c:=by
    unfold TW at hq;rw[ho] at hq;cases y<;>first|exact⟨_,rfl⟩|cases hq
   obtain⟨c,rfl⟩:=hc;unfold eqGuard;rcases QJ with rfl|rfl<;>cases u<;>first|rfl|(cases x<;>rfl)
  ·split at hq
   ·unfold eqGuard;rcases QJ with rfl|rfl
    ·show rd P (program>>=λp=>program>>=λq=>if(!p.eqGuardType q.depth t)=true then pure () else _) h'=some ();rw[bu _ _ _ _ (show rd P program h'=some P from rfl),bu _ _ _ _ (show rd P program h'=some P from rfl),ag hq];rfl
    ·show rd P (program>>=λp=>program>>=λq=>if(!p.eqGuardType q.depth t)=true then pure () else _) h'=some ();rw[bu _ _ _ _ (show rd P program h'=some P from rfl),bu _ _ _ _ (show rd P program h'=some P from rfl),ag hq];rfl
   ·cases hq
  ·split at hq
   ·unfold eqGuard;split<;>exact rfl
   ·cases hq
  ·cases hq
 refine uL ho hx hy aju ?_;have key: ∀u v:Value,(Gq P o t u v=true)->Ho P t u v b->rd P (binOp op t u v) h'=some (.bool (if op=.eql then b else !b)):=by
  intro u v hq hb;unfold Gq at hq;split at hq
  ·rcases QJ with rfl|rfl
   ·have:binOp .eql t u .nilIface=(Op.equal t u .nilIface>>=λq=>pure (Value.bool q)):=by cases u<;>rfl
    rw[this,bu _ _ _ _ (hb h')];rfl
   ·have:binOp .neq t u .nilIface=(Op.equal t u .nilIface>>=λq=>pure (Value.bool (!q))):=by cases u<;>rfl
    rw[this,bu _ _ _ _ (hb h')];rfl
  ·split at hq
   ·rcases QJ with rfl|rfl
    ·show rd P (Op.equal t _ _>>=λq=>pure (Value.bool q)) h'=_;rw[bu _ _ _ _ (hb h')];rfl
    ·show rd P (Op.equal t _ _>>=λq=>pure (Value.bool (!q))) h'=_;rw[bu _ _ _ _ (hb h')];rfl
   ·cases hq
  ·split at hq
   ·rcases QJ with rfl|rfl
    ·show rd P (Op.equal t _ _>>=λq=>pure (Value.bool q)) h'=_;rw[bu _ _ _ _ (hb h')];rfl
    ·show rd P (Op.equal t _ _>>=λq=>pure (Value.bool (!q))) h'=_;rw[bu _ _ _ _ (hb h')];rfl
   ·cases hq
  ·cases hq
 exact key u v hq hb
theorem ZY {o:Oper} {op:BinOp} {t t':TypeId} {x y:Operand} {σ:Env} {ρ:Operand->Value} {u v:Value} {K:Value->Option (aj->Prop)->Prop}
  (ho:o.op=.binOp op t x y t') (hf:Fits σ ρ) (hx:ρ x=u) (hy:ρ y=v) (hh:TZ P o op t u v σ K):
  ∃v,K v none/\∀h',rd P (execOp ρ o) h'=some (.value v):=by
 have hs: ∀cs b,o.op≠ .select cs b:=by rw[ho];intro cs b e;cases e
 unfold TZ at hh;split at hh
 ·split at hh
  ·rename_i hq;obtain⟨b,hb,hK⟩:=hh;exact⟨_,hK,MC ho (.inl rfl) hx hy hq hb⟩
  ·split at hh
   ·rename_i b hb;refine⟨_,hh,λh'=>uL ho hx hy (EP hb h') ?_⟩;have wF:binOp .eql t u v=(do pure (.bool (<-Op.equal t u v))):=by
     rcases Hq hb with⟨p,rfl,rfl⟩|⟨m,rfl,rfl⟩|⟨p,l,c,l',c',rfl,rfl⟩<;>rfl
    rw[wF,bu _ _ _ _ (MB hb h')];rfl
   ·exact BW hf hs hh
 ·split at hh
  ·rename_i hq;obtain⟨b,hb,hK⟩:=hh;exact⟨_,hK,MC ho (.inr rfl) hx hy hq hb⟩
  ·split at hh
   ·rename_i b hb;refine⟨_,hh,λh'=>uL ho hx hy (EP hb h') ?_⟩;have wF:binOp .neq t u v=(do pure (.bool (!(<-Op.equal t u v)))):=by
     rcases Hq hb with⟨p,rfl,rfl⟩|⟨m,rfl,rfl⟩|⟨p,l,c,l',c',rfl,rfl⟩<;>rfl
    rw[wF,bu _ _ _ _ (MB hb h')];rfl
   ·exact BW hf hs hh
 ·split at hh
  ·rename_i k a k' b;split at hh
   ·rename_i hk;obtain rfl:k=k':=of_decide_eq_true hk;split at hh
    ·exact hh.elim
    ·rename_i hb;refine⟨_,hh,λh'=>uL ho hx hy (by rw[qU (by simp) (by simp)];rfl) ?_⟩;simp only[binOp,iq,not_true,aU,Op.intDiv,hb];rfl
   ·exact hh.elim
  ·exact hh.elim
 ·split at hh
  ·rename_i k a k' b;split at hh
   ·rename_i hk;obtain rfl:k=k':=of_decide_eq_true hk;split at hh
    ·exact hh.elim
    ·rename_i hb;refine⟨_,hh,λh'=>uL ho hx hy (by rw[qU (by simp) (by simp)];rfl) ?_⟩;simp only[binOp,iq,not_true,aU,Op.intDiv,hb];rfl
   ·exact hh.elim
  ·exact hh.elim
 ·split at hh
  ·split at hh
   ·exact hh.elim
   ·rename_i hb;refine⟨_,hh,λh'=>uL ho hx hy (by rw[qU (by simp) (by simp)];rfl) ?_⟩;simp only[binOp,Op.shift,hb,aU];rfl
  ·exact hh.elim
 ·split at hh
  ·split at hh
   ·exact hh.elim
   ·rename_i hb;refine⟨_,hh,λh'=>uL ho hx hy (by rw[qU (by simp) (by simp)];rfl) ?_⟩;simp only[binOp,Op.shift,hb,aU];rfl
  ·exact hh.elim
 ·split at hh
  ·obtain⟨hb,hh⟩:=hh;refine⟨_,hh,λh'=>uL ho hx hy (by rw[qU (by simp) (by simp)];rfl) ?_⟩;simp only[binOp,Op.stringOp];rw[dL];rfl
  ·exact BW hf hs hh
 ·exact BW hf hs hh
theorem pf {x:Value} {k:IntKind} {n:Int} {y:Nat} {code:BoundsCode} {h:aj} (hx:x=.int k n) (h1:0<=n) (h2:n<=(y:Int)):rd P (Instr.sliceBound x y code) h=some n.toNat:=by
 subst hx;show rd P (if 0<=n/\n<=(y:Int) then _ else _) h=_;rw[ag ⟨h1,h2⟩];rfl
theorem xW {σ:Env} {ρ:Operand->Value} (hf:Fits σ ρ) {x:Option Operand} {n:Option Int} (hh:Ei σ x=some n):
  (x=none/\n=none)\/∃k m,n=some m/\x.map ρ=some (.int k m):=by
 cases x with
 |none=>simp only[Ei,bE] at hh;exact .inl ⟨rfl,hh.symm⟩
 |some x=>
  simp only[Ei] at hh;split at hh
  ·rename_i k m hm;simp only[bE] at hh;exact .inr ⟨k,m,hh.symm,by simp[hf _ _ hm]⟩
  ·cases hh
theorem wG {σ:Env} {ρ:Operand->Value} (hf:Fits σ ρ) {lo hi:Option Operand} {l r:Option Int} (hl:Ei σ lo=some l) (hr:Ei σ hi=some r)
  {isS:Bool} {len cap:Nat} {F:Nat->Nat->Prop} (hh:OB len cap l r F): ∃a b,F a b/\∀(h:aj),
   rd P (Instr.sliceBounds isS len cap (lo.map ρ) (hi.map ρ) none) h=some (a,b,cap):=by
 rcases xW hf hl with⟨rfl,rfl⟩|⟨k1,m1,rfl,e1⟩<;>rcases xW hf hr with⟨rfl,rfl⟩|⟨k2,m2,rfl,e2⟩
 ·exact⟨0,len,hh,λh=>rfl⟩
 ·obtain⟨⟨h1,h2⟩,hF⟩:=hh;refine⟨0,m2.toNat,hF,λh=> ?_⟩;unfold Instr.sliceBounds;rw[e2,bu _ _ _ _ (pI _),bu _ _ _ _ (pf rfl h1 h2)];rfl
 ·obtain⟨⟨h1,h2⟩,hF⟩:=hh;refine⟨m1.toNat,len,hF,λh=> ?_⟩;unfold Instr.sliceBounds;rw[e1,bu _ _ _ _ (pI _)];simp only[Option.map_none];rw[bu _ _ _ _ (pI _),bu _ _ _ _ (pf rfl h1 h2)];rfl
 ·obtain⟨⟨h1,h2⟩,⟨h3,h4⟩,hF⟩:=hh;refine⟨m1.toNat,m2.toNat,hF,λh=> ?_⟩;unfold Instr.sliceBounds;rw[e1,e2,bu _ _ _ _ (pI _),bu _ _ _ _ (pf rfl h1 h2),bu _ _ _ _ (pf rfl h3 (by omega))];rfl
theorem MD {n:Int} : ∀(vs:List Value) (i:Nat) (F:Value->Prop),T0 n vs i F->∀j,n=((i+j:Nat):Int)->∀v,vs[j]? =some v->F v
 | [],_,_,_,j,_,v,hv=>by simp at hv
 |u::vs,i,F,hh,j,hn,v,hv=>by
  obtain⟨h1,h2⟩:=hh;cases j with
  |zero=>simp only[eO,bE] at hv;subst hv;exact h1 hn
  |succ j=>exact MD vs (i+1) F h2 j (by omega) v (by simpa using hv)
theorem sP {s:Sem Value} {v:Value} {h:aj} (hh:rd P s h=some v):rd P (do pure (Next.value (<-s))) h=some (.value v):=by
 rw[bu _ _ _ _ hh];rfl
theorem Aj {o:Oper} {σ:Env} {ρ:Operand->Value} {h:aj} {K:Value->Option (aj->Prop)->Prop} (hf:Fits σ ρ) (hh:xV P o σ h K):
  ∃v S,K v S/\Gr S h/\∀h',Gr S h'->rd P (execOp ρ o) h'=some (.value v):=by
 have I3:(∀cs b,o.op≠ .select cs b)->BU P o σ K->∃v S,K v S/\Gr S h/\∀h',Gr S h'->rd P (execOp ρ o) h'=some (.value v):=λhs hp=>by
  obtain⟨v,h1,h2⟩:=BW hf hs hp;exact⟨v,none,h1,trivial,λh' _=>h2 h'⟩
 unfold xV at hh;split at hh
 ·rename_i c a b ho;split at hh
  ·rename_i q va vb hc ha hb;have e:execOp ρ o=pure (.value (if q then va else vb)):=by
    unfold execOp;rw[ho];simp only[hf _ _ hc,hf _ _ ha,hf _ _ hb];rfl
   split at hh
   ·rename_i hq;exact⟨va,none,hh,trivial,λh' _=>by rw[e,ag hq];rfl⟩
   ·rename_i hq;exact⟨vb,none,hh,trivial,λh' _=>by rw[e,ai hq];rfl⟩
  ·exact hh.elim
 ·rename_i t x ho;split at hh
  ·rename_i p hp;obtain⟨a,rfl,hh⟩:=cG.1 hh;obtain⟨v,S,h1,h2,h3⟩:=Jy hh;refine⟨v,S,h1,h2,λh' hs=> ?_⟩;unfold execOp;rw[ho];simp only[hf _ _ hp];exact sP (h3 h' hs)
  ·exact hh.elim
 ·rename_i x ho;split at hh
  ·rename_i p hp;obtain⟨a,rfl,hh⟩:=cG.1 hh;refine⟨_,none,hh,trivial,λh' _=> ?_⟩;unfold execOp;rw[ho];simp only[hf _ _ hp];rfl
  ·exact I3 (by rw[ho];intro cs b e;cases e) hh
 ·rename_i op t x y t' ho;split at hh
  ·rename_i u v hu hv;obtain⟨v,h1,h2⟩:=ZY ho hf (hf _ _ hu) (hf _ _ hv) hh;exact⟨v,none,h1,trivial,λh' _=>h2 h'⟩
  ·exact hh.elim
 ·rename_i s x f ho;split at hh
  ·rename_i p off hp Jz;obtain⟨a,rfl,hh⟩:=cG.1 hh;refine⟨_,none,hh,trivial,λh' _=> ?_⟩;unfold QV at Jz;split at Jz
   ·rename_i fs hfs;split at Jz
    ·rename_i fl hfl;split at Jz
     ·rename_i i hi;split at Jz
      ·cases Jz
      ·rename_i hz;simp only[bE] at Jz;subst Jz;unfold execOp;rw[ho];simp only[hf _ _ hp];refine sP ?_;unfold Instr.fieldAt;rw[bu _ _ _ _ (bD hfs)];simp only[hfl];show rd P (do let y<-fieldPlace a fl;pure (Value.pointer (some y))) h'=_;have kA: ¬i.size=0:=λe=>by rw[e] at hz;cases hz
       have h1:rd P (fieldPlace a fl) h'=some (a.add fl.offset):=by
        unfold fieldPlace;rw[bu _ _ _ _ (lP hi),ai kA];rfl
       rw[bu _ _ _ _ h1];rfl
     ·cases Jz
    ·cases Jz
   ·cases Jz
  ·exact hh.elim
 ·rename_i t x ix ho;split at hh
  ·rename_i e base len cap k n ht hx hi;split at hh
   ·rename_i i hie;obtain⟨⟨h1,h2⟩,hh⟩:=hh;obtain⟨a,rfl,hh⟩:=cG.1 hh;refine⟨_,none,hh,trivial,λh' _=> ?_⟩;unfold execOp;rw[ho];simp only[hf _ _ hx,hf _ _ hi];refine sP ?_;unfold Instr.indexAt;show rd P (do let x<-underlying t;_) h'=_;rw[bu _ _ _ _ (bD ht)];simp only;rw[bu _ _ _ _ (pI _)];simp only;rw[bu _ _ _ _ (bD ht)];simp only;rw[ag ⟨h1,h2⟩,bu _ _ _ _ (lP hie)];rfl
   ·exact hh.elim
  ·rename_i len e base k n ht hx hi;split at hh
   ·rename_i i hie;obtain⟨⟨h1,h2⟩,hh⟩:=hh;obtain⟨a,rfl,hh⟩:=cG.1 hh;refine⟨_,none,hh,trivial,λh' _=> ?_⟩;unfold execOp;rw[ho];simp only[hf _ _ hx,hf _ _ hi];refine sP ?_;unfold Instr.indexAt;show rd P (do let x<-underlying t;_) h'=_;rw[bu _ _ _ _ (bD ht)];simp only[Instr.sureAddr];rw[bu _ _ _ _ (pI _),bu _ _ _ _ (pI _)];simp only;rw[bu _ _ _ _ (bD ht)];simp only;rw[ag ⟨h1,h2⟩,bu _ _ _ _ (lP hie)];rfl
   ·exact hh.elim
  ·exact hh.elim
 ·rename_i t x ix ho;split at hh
  ·rename_i s k n ht hx hi;obtain⟨⟨h1,h2⟩,hh⟩:=hh;refine⟨_,none,hh,trivial,λh' _=> ?_⟩;unfold execOp;rw[ho];simp only[hf _ _ hx,hf _ _ hi];refine sP ?_;unfold Instr.index;show rd P (do let x<-underlying t;_) h'=_;rw[bu _ _ _ _ (bD ht)];have jc:n.toNat<s.size:=by omega
   have hg:s[n.toNat]? =some (s.data.toList.getD n.toNat 0):=by
    rw[getElem?_pos s n.toNat jc];congr 1
    rw[ba,au (by simpa using jc)];rfl
   simp only[ag h1,hg];rfl
  ·rename_i len e cs k n ht hx hi;split at hh
   ·rename_i i hb hie hlen;split at hh
    ·rename_i JA;obtain⟨⟨h1,h2⟩,hh⟩:=hh;have hlen:=cg hlen;have JA:=cg JA;have jc:n.toNat<cs.toList.length:=by omega
     have hF:=MD _ _ _ hh n.toNat (by omega) _ (au jc);refine⟨_,none,hF,trivial,λh' _=> ?_⟩;unfold execOp;rw[ho];simp only[hf _ _ hx,hf _ _ hi];refine sP ?_;unfold Instr.index;show rd P (do let x<-underlying t;_) h'=_;rw[bu _ _ _ _ (bD ht)];simp only;rw[ag ⟨h1,h2⟩,bu _ _ _ _ (lP hie)];unfold part;rw[bu _ _ _ _ (wE hb)];simp only[aA,aU];rw[JA,cN];have hg:cs[n.toNat]? =some (cs.toList[n.toNat]'jc):=by simp
     rw[hg];rfl
    ·exact hh.elim
   ·exact hh.elim
  ·exact hh.elim
 ·rename_i t x lo hi mx ho;split at hh
  ·rename_i e p len cap l hh' ht hx hl hhi;split at hh
   ·rename_i i hie;obtain⟨a,b,hF,hb⟩:=wG (P:=P) (isS:=true) hf hl hhi hh;refine⟨_,none,hF,trivial,λh' _=> ?_⟩;unfold execOp;rw[ho];simp only[hf _ _ hx,Option.map_none];refine sP ?_;unfold Instr.sliceAt;rw[bu _ _ _ _ (bD ht)];unfold Instr.slice;simp only;rw[bu _ _ _ _ (bD ht)];simp only;rw[bu _ _ _ _ (hb _)];simp only;rw[bu _ _ _ _ (lP hie)];rfl
   ·exact hh.elim
  ·rename_i s l hh' ht hx hl hhi;obtain⟨a,b,hF,hb⟩:=wG (P:=P) (isS:=false) hf hl hhi hh;refine⟨_,none,hF,trivial,λh' _=> ?_⟩;unfold execOp;rw[ho];simp only[hf _ _ hx,Option.map_none];refine sP ?_;unfold Instr.sliceAt;rw[bu _ _ _ _ (bD ht)];unfold Instr.slice;simp only;rw[bu _ _ _ _ (bD ht)];simp only[Option.isSome_none,aA,aU];rw[bu _ _ _ _ (hb _)];rfl
  ·rename_i n e p l hh' ht hx hl hhi;split at hh
   ·rename_i i hie;obtain⟨ad,rfl,hh⟩:=cG.1 hh;obtain⟨a,b,hF,hb⟩:=wG (P:=P) (isS:=false) hf hl hhi hh;refine⟨_,none,hF,trivial,λh' _=> ?_⟩;unfold execOp;rw[ho];simp only[hf _ _ hx,Option.map_none];refine sP ?_;unfold Instr.sliceAt;rw[bu _ _ _ _ (bD ht)];simp only[Instr.sureAddr];rw[bu _ _ _ _ (pI _),bu _ _ _ _ (hb _)];simp only;rw[bu _ _ _ _ (lP hie)];show some _=some _;unfold cZ;congr 2
    split<;>rfl
   ·exact hh.elim
  ·rename_i mo e p len cap b ht hx hl hhi;split at hh
   ·rename_i k m i hm hie;obtain⟨⟨h1,h2⟩,⟨h3,h4⟩,hF⟩:=hh;rcases xW hf hl with⟨rfl,_⟩|⟨_,_,e1,_⟩
    case inr=>cases e1
    rcases xW hf hhi with⟨_,e1⟩|⟨k2,m2,e1,e2⟩
    ·cases e1
    cases e1;refine⟨_,none,hF,trivial,λh' _=> ?_⟩;unfold execOp;rw[ho];simp only[hf _ _ hx,hf _ _ hm,e2,Option.map_none,dy];refine sP ?_;unfold Instr.sliceAt;rw[bu _ _ _ _ (bD ht)];unfold Instr.slice;simp only;rw[bu _ _ _ _ (bD ht)];simp only;have hb:rd P (Instr.sliceBounds true len cap none (some (.int k2 b)) (some (.int k m))) h'=some (0,b.toNat,m.toNat):=by
     unfold Instr.sliceBounds;simp only;rw[bu _ _ _ _ (pf rfl h1 h2),bu _ _ _ _ (pf rfl h3 (by omega))];rfl
    rw[bu _ _ _ _ hb];simp only;rw[bu _ _ _ _ (lP hie)];rfl
   ·exact hh.elim
  ·exact hh.elim
 ·rename_i t x i ok ho;split at hh
  ·rename_i m k hm hk;obtain⟨v,h1,h2⟩:=Ju hh;refine⟨v,_,h2,?_,λh' hs=> ?_⟩
   ·show sO m h h;unfold sO;split<;>trivial
   ·unfold execOp;rw[ho];simp only[hf _ _ hm,hf _ _ hk];exact sP (h1 h' hs)
  ·exact hh.elim
 ·rename_i args QW ho;split at hh
  ·rename_i x ahQ;split at hh
   ·rename_i m hm;split at hh
    ·obtain⟨n,h1,h2⟩:=hh;refine⟨_,_,h2,?_,λh' hs=> ?_⟩
     ·show sO m h h;unfold sO;split<;>trivial
     ·have ha:args= #[x]:=by rw[<-Array.toArray_toList (xs:=args),ahQ]
      unfold execOp;rw[ho];simp only[resolve,ha];rw[bu _ _ _ _ (pI _)];simp only[invoke,builtin,List.map_toArray,cA,List.map_nil,hf _ _ hm];exact sP (h1 h' hs)
    ·exact I3 (by rw[ho];intro cs b e;cases e) hh
   ·exact hh.elim
  ·exact hh.elim
 ·rename_i s d x ho;split at hh
  ·split at hh
   ·rename_i v hv;obtain⟨b,h1,h2⟩:=hh;refine⟨_,_,h2,h1,λh' hs=> ?_⟩;unfold execOp;rw[ho];simp only[hf _ _ hv];exact sP hs
   ·exact hh.elim
  ·exact I3 (by rw[ho];intro cs b e;cases e) hh
 ·exact hh.elim
 ·rename_i LQ;exact I3 LQ hh
def uM (p:bU) (h h':aj):Prop:= ∀x,p=some x->x.block<h.size->h'[x.block]? =h[x.block]?
def Kp (h h':aj) (l:List (bU)):Prop:= ∀p∈l,uM p h h'
def OE (σ:Env) (o:Oper):Option (bU):=
 match o.op with
 | .load _ x=>(match σ.ev x with
  |some (.pointer p)=>some p
  |_=>some none)
 |_=>none
theorem BX {h:aj} {a:Addr} {v:Value} (hc:ak h a=some v):a.block<h.size:=by
 unfold ak at hc;split at hc
 ·rename_i hb;exact(Array.getElem?_eq_some_iff.1 hb).1
 ·cases hc
theorem uM.cell {h h':aj} {a b:Addr} {v:Value} (hs:uM (some a) h h') (hb:b.block=a.block) (hc:ak h b=some v):ak h' b=some v:=by
 have:=hs a rfl (by rw[<-hb];exact BX hc);rw[<-hb] at this;unfold ak at hc⊢;rw[this];exact hc
theorem uM.trans {p:bU} {h h1 h2:aj} (a:uM p h h1) (b:uM p h1 h2):uM p h h2:=λx e hx=>by
 have h1':=a x e hx;rw[b x e ?_,h1'];have:=Array.getElem?_eq_getElem hx;rw[this] at h1';exact(Array.getElem?_eq_some_iff.1 h1').1
theorem uM.held {h h':aj} {a:Addr} (hs:uM (some a) h h'): ∀(vs:List Value) (i:Nat),fE a vs i h->fE a vs i h'
 | [],_,_=>trivial
 |_::vs,i,hh=>⟨hs.cell (by unfold Addr.add;split<;>rfl) hh.1,uM.held hs vs (i+1) hh.2⟩
theorem LS {t:TypeId} {h:aj} {a:Addr} {K:Value->Option (aj->Prop)->Prop} (hh:Dg P t h a K):
  ∃v S,K v (some S)/\S h/\(∀h',uM (some a) h h'->S h')/\Yv P (loadVar t a) (some S) v:=by
 have hh':=hh;unfold Dg at hh;split at hh
 ·rename_i hb;split at hh
  ·rename_i ls i hls hi;split at hh
   ·rename_i hn;obtain⟨vs,hl,h1,h2⟩:=Ej _ _ _ hh;refine⟨_,_,h2,h1,λh' hs=>hs.held _ _ h1,λh' hs=> ?_⟩;unfold loadVar;rw[bu _ _ _ _ (DQ hb)];simp only[bA];rw[bu _ _ _ _ (lP hi)];have e:i.size=vs.length:=by rw[hl];exact cg hn
    unfold loadCells;rw[e,bu _ _ _ _ (nP vs 0 #[] h' hs)];simp[pI]
   ·exact hh.elim
  ·exact hh.elim
 ·split at hh
  ·rename_i l hl;obtain⟨v,h1,h2⟩:=jU.vP hh;refine⟨v,_,h2,h1,λh' hs=>hs.cell rfl h1,λh' hs=> ?_⟩;unfold loadVar;rw[bu _ _ _ _ (wE hl)];exact OD hs
  ·exact hh.elim
theorem OF {o:Oper} {σ:Env} {ρ:Operand->Value} {h:aj} {K:Value->Option (aj->Prop)->Prop} {p:bU} (hf:Fits σ ρ) (hl:OE σ o=some p) (hh:xV P o σ h K):
  ∃v S,K v (some S)/\S h/\(∀h',uM p h h'->S h')/\∀h',S h'->rd P (execOp ρ o) h'=some (.value v):=by
 unfold OE at hl;unfold xV at hh;split at hl
 ·rename_i t x ho;simp only[ho] at hh;split at hh
  ·rename_i q hp;simp only[hp,bE] at hl;subst hl;obtain⟨a,rfl,hh⟩:=cG.1 hh;obtain⟨v,S,h1,h2,h4,h3⟩:=LS hh;refine⟨v,S,h1,h2,h4,λh' hs=> ?_⟩;unfold execOp;rw[ho];simp only[hf _ _ hp];exact sP (h3 h' hs)
  ·exact hh.elim
 ·cases hl
theorem VU {σ:Env} {ρ:Operand->Value} (hf:Fits σ ρ): ∀(xs:List Operand) (vs:List Value),evs σ xs=some vs->xs.map ρ=vs
 | [],vs,hh=>by simp only[evs,bE] at hh;exact hh
 |x::xs,vs,hh=>by
  simp only[evs] at hh;split at hh
  ·rename_i v vs' h1 h2;simp only[bE] at hh;rw[cA,hf _ _ h1,VU hf xs vs' h2,hh]
  ·cases hh
theorem ER {σ:Env} {ρ:Operand->Value} (hf:Fits σ ρ) {args:Array Operand} {vs:List Value} (hh:evs σ args.toList=some vs):args.map ρ=vs.toArray:=by
 have:=VU hf _ _ hh;rw[<-this];apply Array.ext'
 simp
theorem I4 {o:Oper} {σ:Env} {ρ:Operand->Value} {h:aj} {K:iI} (hf:Fits σ ρ) (hs: ∀cs b,o.op≠ .select cs b) (hh:ZX P o σ h K):BR P o ρ h K:=by
 unfold ZX at hh;split at hh
 ·rename_i hd;split at hh
  ·rename_i ob k hr;have h1:=hh _ _ rfl rfl;dsimp only at h1;split at h1
   ·rename_i v hv;refine TV _ ob k (by rw[<-QU hf o hd hs];exact hr) _ _ ?_;exact QT _ _ hv _ _ h1
   ·exact h1.elim
  ·exact hh.elim
 ·exact hh.elim
theorem ME {a:Addr} : ∀(vs:List Value) (i:Nat) (h:aj) (K:aj->Prop),gY a vs i h K->aX P (storeCells a vs i) h (λ_ h'=>K h')
 | [],_,_,_,hh=>hh
 |v::vs,i,h,K,hh=>by
  simp only[gY] at hh;split at hh
  ·rename_i h1;obtain⟨h2,h3,h4⟩:=hh;simp only[storeCells];rw[eZ];exact⟨h1,h2,h3,ME vs (i+1) _ K (h4 _ rfl)⟩
  ·exact hh.elim
theorem Gs {s:Sem Value} {h:aj} {t:TypeId} {K:iI} (hh:aX P s h λv h'=>DO P t λv'=>v=v'/\K v' h'):aX P s h K:=
 sr _ _ (λ_ _ hr=>Jv hr) hh
theorem Gt {o:Oper} {σ:Env} {ρ:Operand->Value} {h:aj} {K:iI} (hf:Fits σ ρ) (hh:Ai P o σ h K):BR P o ρ h K:=by
 unfold Ai at hh;split at hh
 ·rename_i ho;exact I4 hf (by rw[ho];intro cs b e;cases e) hh
 ·rename_i ho;exact I4 hf (by rw[ho];intro cs b e;cases e) hh
 ·rename_i ho;exact I4 hf (by rw[ho];intro cs b e;cases e) hh
 ·rename_i ho;exact I4 hf (by rw[ho];intro cs b e;cases e) hh
 ·rename_i t x y ho;split at hh
  ·rename_i p v hx hy;obtain⟨a,rfl,hh⟩:=cG.1 hh;split at hh
   ·rename_i i hi;split at hh
    ·rename_i hn;unfold BR execOp;rw[ho];simp only[hf _ _ hx,hf _ _ hy];rw[eZ];unfold Instr.storeAt;rw[eZ];show aX P (storeVar t a v) h _;unfold storeVar;rw[eZ,T1 hi];have e:v.cells.size=i.size:=by have:=cg hn;simpa using this.symm
     simp only[e,iq,not_true,aU];exact ME _ _ _ _ hh
    ·exact hh.elim
   ·exact hh.elim
  ·exact hh.elim
 ·rename_i t m k x ho;split at hh
  ·rename_i m k x hm hk hx;unfold BR execOp;rw[ho];simp only[hf _ _ hm,hf _ _ hk,hf _ _ hx];rw[eZ];exact hh
  ·exact hh.elim
 ·rename_i t m k x ho;split at hh
  ·rename_i m k x hm hk hx;unfold BR execOp;rw[ho];simp only[hf _ _ hm,hf _ _ hk,hf _ _ hx];rw[eZ];exact hh
  ·exact hh.elim
 ·rename_i t l c ho;split at hh
  ·rename_i l c hl hc;unfold BR execOp;rw[ho];simp only[hf _ _ hl,hf _ _ hc];rw[eZ];exact Gs hh
  ·exact hh.elim
 ·rename_i s d x ho;split at hh
  ·rename_i x hx;unfold BR execOp;rw[ho];simp only[hf _ _ hx];rw[eZ];exact Gs hh
  ·exact hh.elim
 ·rename_i b args QW ho;split at hh
  ·rename_i vs hvs;split at hh
   ·rename_i s hs;unfold BR execOp;rw[ho];simp only[resolve,ER hf hvs];rw[eZ,Jx];simp only[invoke];cases b<;>simp only[Jw] at hs<;>first|cases hs|skip
    all_goals (simp only[builtin];rw[eZ];exact Gs hh)
   ·exact hh.elim
  ·exact hh.elim
 ·rename_i f args QW ho;split at hh
  ·rename_i g first captured vs hg hvs;split at hh
   ·rename_i hb;unfold BR execOp;rw[ho];simp only[resolve,ER hf hvs,hf _ _ hg,Deferred.ofValue];rw[eZ,Jx];simp only[invoke,callFunc];rw[eZ];unfold Ah at hb;split at hb
    ·rename_i fn hfn;simp only[aW,Bool.not_eq_true'] at hb;show aX P (match P.funcs[g]? with|none=>_|some fn=>_) h _;rw[hfn];have hn:fn.body.isNone=false:=by cases hq:fn.body<;>simp[hq] at hb⊢
     simp only[hb.2,hn,aA,aU];have e:(first++vs.toArray++captured)=(first.toList++vs++captured.toList).toArray:=by
      apply Array.ext'
      simp
     rw[e];exact hh.mono λv h' hr=>Jv hr
    ·cases hb
   ·exact hh.elim
  ·exact hh.elim
 ·rename_i t x ho;split at hh
  ·rename_i x hx;unfold BR execOp;rw[ho];simp only[hf _ _ hx];rw[eZ];exact sr _ _ (λv h' ⟨r,e,hr⟩=>by subst e;exact hr) hh
  ·exact hh.elim
 ·rename_i it b ho;split at hh
  ·rename_i it hx;unfold BR execOp;rw[ho];simp only[hf _ _ hx];rw[eZ];refine sr _ _ (λv h' hr=> ?_) hh;rcases hr with⟨e,hr⟩|hr
   ·subst e;exact hr
   ·obtain⟨k,x,e,hr⟩:=hr;subst e;exact hr
  ·exact hh.elim
 ·rename_i it ho;split at hh
  ·rename_i it hx;unfold BR execOp;rw[ho];simp only[hf _ _ hx];rw[eZ];refine sr _ _ (λv h' hr=> ?_) hh;obtain⟨k,x,e,hr⟩:=hr;subst e;exact hr
  ·exact hh.elim
 ·exact hh.elim
end
def jU.T (X:Type):jU->Type
 | .int _=>Int->X
 | .bool=>Bool->X
 | .str=>ByteArray->X
 | .ptr=>bU->X
 | .slice=>bU->Nat->Nat->X
 | .map=>Option Nat->X
 | .raw=>Value->X
def Dh (X:Type):List jU->Type
 | []=>X
 |l::ls=>l.T (Dh X ls)
def Sh.T (X:Type):Sh->Type
 | .one l=>l.T X
 | .agg ls=>Dh X ls
def Ek (X:Type):List (Nat×Sh)->Type
 | []=>X
 |s::L=>s.2.T (Ek X L)
def jU.lam {X:Type} :(l:jU)->(Value->X)->l.T X
 | .int k,F=>λn:Int=>F (.int k n)
 | .bool,F=>λb:Bool=>F (.bool b)
 | .str,F=>λs:ByteArray=>F (.string s)
 | .ptr,F=>λp:bU=>F (.pointer p)
 | .slice,F=>λ(p:bU) (l c:Nat)=>F (.slice p l c)
 | .map,F=>λm:Option Nat=>F (.map m)
 | .raw,F=>λv:Value=>F v
def ajv {X:Type} :(ls:List jU)->(List Value->X)->Dh X ls
 | [],F=>F []
 |l::ls,F=>l.lam λv=>ajv ls λvs=>F (v::vs)
def Sh.lam {X:Type} :(s:Sh)->(Value->X)->s.T X
 | .one l,F=>l.lam F
 | .agg ls,F=>ajv ls λvs=>F (.agg vs.toArray)
def afe {X:Type} :(L:List (Nat×Sh))->(Env->X)->Env->Ek X L
 | [],F,σ=>F σ
 |(t,s)::L,F,σ=>s.lam λv=>afe L F (σ.set t v)
def jU.ap {X Y:Type} (d:Y):(l:jU)->l.T X->Value->(X->Y)->Y
 | .int k,f,.int k' n,K=>(match decide (k=k') with|true=>K (f n)|false=>d)
 | .bool,f,.bool b,K=>K (f b)
 | .str,f,.string s,K=>K (f s)
 | .ptr,f,.pointer p,K=>K (f p)
 | .slice,f,.slice p l c,K=>K (f p l c)
 | .map,f,.map m,K=>K (f m)
 | .raw,f,v,K=>K (f v)
 |_,_,_,_=>d
def aps {X Y:Type} (d:Y):(ls:List jU)->Dh X ls->List Value->(X->Y)->Y
 | [],f, [],K=>K f
 |l::ls,f,v::vs,K=>l.ap d f v λg=>aps d ls g vs K
 |_,_,_,_=>d
def Sh.ap {X Y:Type} (d:Y):(s:Sh)->s.T X->Value->(X->Y)->Y
 | .one l,f,v,K=>l.ap d f v K
 | .agg ls,f,.agg vs,K=>aps d ls f vs.toList K
 |_,_,_,_=>d
def yG {X Y:Type} (d:Y):(L:List (Nat×Sh))->Ek X L->Env->(X->Y)->Y
 | [],f,_,K=>K f
 |(t,s)::L,f,σ,K=>(match σ t with|some v=>s.ap d f v λg=>yG d L g σ K|none=>d)
def jU.all:jU->(Value->Prop)->Prop
 | .int k,F=> ∀n:Int,F (.int k n)
 | .bool,F=> ∀b:Bool,F (.bool b)
 | .str,F=> ∀s:ByteArray,F (.string s)
 | .ptr,F=> ∀p:bU,F (.pointer p)
 | .slice,F=> ∀(p:bU) (l c:Nat),F (.slice p l c)
 | .map,F=> ∀m:Option Nat,F (.map m)
 | .raw,F=> ∀v:Value,F v
def ajw:List jU->(List Value->Prop)->Prop
 | [],F=>F []
 |l::ls,F=>l.all λv=>ajw ls λvs=>F (v::vs)
def Sh.all:Sh->(Value->Prop)->Prop
 | .one l,F=>l.all F
 | .agg ls,F=>ajw ls λvs=>F (.agg vs.toArray)
def aby:List (Nat×Sh)->(Env->Prop)->Env->Prop
 | [],F,σ=>F σ
 |(t,s)::L,F,σ=>s.all λv=>aby L F (σ.set t v)
theorem jU.abz {X Y:Type} {d:Y} {l:jU} {f:l.T X} {v:Value} {K:X->Y} :l.ap d f v K=d\/((∃g:X,l.ap d f v K=K g)/\∀(Z:Type) (F:Value->Z),∀(W:Type) (e:W) (J:Z->W),l.ap e (l.lam F) v J=J (F v)):=by
 cases l<;>cases v<;>first
  |exact .inl rfl
  |exact .inr ⟨⟨_,rfl⟩,λ_ _ _ _ _=>rfl⟩
  |skip
 rename_i k k' n;by_cases hk:k=k'
 ·subst hk;refine .inr ⟨⟨f n,?_⟩,λZ F W e J=> ?_⟩<;>simp[jU.ap,jU.lam]
 ·exact .inl (by simp[jU.ap,hk])
theorem jU.VV {X:Type} {l:jU} {f:l.T X} {v:Value} {K:X->Prop} (h:l.ap False f v K):
  (∃g:X,K g)/\(∀(Z W:Type) (F:Value->Z) (e:W) (J:Z->W),l.ap e (l.lam F) v J=J (F v)):=by
 rcases jU.abz (d:=False) (l:=l) (f:=f) (v:=v) (K:=K) with h1|⟨⟨g,h1⟩,h2⟩
 ·rw[h1] at h;exact h.elim
 ·exact⟨⟨g,by rw[h1] at h;exact h⟩,λZ W F e J=>h2 Z F W e J⟩
theorem jU.OG {l:jU} {F:Value->Prop} (h:l.all F) {X:Type} {f:l.T X} {v:Value} {K:X->Prop} (ha:l.ap False f v K):F v:=by
 cases l<;>cases v<;>first
  |exact ha.elim
  |exact h _
  |exact h _ _ _
  |skip
 rename_i k k' n;by_cases hk:k=k'
 ·subst hk;exact h n
 ·simp[jU.ap,hk] at ha
theorem jU.OH {X:Type} {l:jU} {F:Value->X} {v:Value} {K:X->Prop} (h:l.ap False (l.lam F) v K):K (F v):=by
 have:=(jU.VV h).2 X Prop F False K;rw[this] at h;exact h
theorem VW {X:Type} : ∀ {ls:List jU} {F:List Value->X} {vs:List Value} {K:X->Prop},aps False ls (ajv ls F) vs K->K (F vs)
 | [],_, [],_,h=>h
 | [],_,_::_,_,h=>h.elim
 |_::_,_, [],_,h=>h.elim
 |_::ls,F,v::vs,_,h=>VW (ls:=ls) (F:=λus=>F (v::us)) (vs:=vs) (jU.OH h)
theorem Sh.OH {X:Type} {s:Sh} {F:Value->X} {v:Value} {K:X->Prop} (h:s.ap False (s.lam F) v K):K (F v):=by
 cases s with
 |one l=>exact jU.OH h
 |agg ls=>
  cases v<;>first|exact h.elim|skip
  rename_i cs;have:=VW (F:=λvs=>F (.agg vs.toArray)) h;simpa using this
theorem VX {X:Type} : ∀ {ls:List jU} {F:List Value->Prop} {f:Dh X ls} {vs:List Value} {K:X->Prop},ajw ls F->aps False ls f vs K->F vs
 | [],_,_, [],_,h,_=>h
 | [],_,_,_::_,_,_,h=>h.elim
 |_::_,_,_, [],_,_,h=>h.elim
 |l::ls,F,f,v::vs,K,h,ha=>by
  obtain⟨⟨g,hg⟩,_⟩:=jU.VV ha;have h1:=jU.OG h ha;exact VX (ls:=ls) (F:=λus=>F (v::us)) (vs:=vs) h1 hg
theorem Sh.OG {s:Sh} {F:Value->Prop} (h:s.all F) {X:Type} {f:s.T X} {v:Value} {K:X->Prop} (ha:s.ap False f v K):F v:=by
 cases s with
 |one l=>exact jU.OG h ha
 |agg ls=>
  cases v<;>first|exact ha.elim|skip
  have:=VX h ha;simpa using this
theorem QY {X:Type} : ∀ {ls:List jU} {f:Dh X ls} {vs:List Value} {K:X->Prop},aps False ls f vs K->∃g,K g
 | [],f, [],_,h=>⟨f,h⟩
 | [],_,_::_,_,h=>h.elim
 |_::_,_, [],_,h=>h.elim
 |_::_,_,_::_,_,h=>by
  obtain⟨⟨g,hg⟩,_⟩:=jU.VV h;exact QY hg
theorem Sh.VY {X:Type} {s:Sh} {f:s.T X} {v:Value} {K:X->Prop} (h:s.ap False f v K): ∃g,K g:=by
 cases s with
 |one l=>exact(jU.VV h).1
 |agg ls=>cases v<;>first|exact h.elim|exact QY h
def Sub (mb QZ cT:Env):Prop:= ∀t v,mb t=some v->cT t=some v\/QZ t=some v
theorem Env.Ef (σ:Env) (d t:Nat) (v:Value):σ.set d v t=if t=d then some v else σ t:=by
 unfold Env.set;by_cases h:t=d
 ·subst h;simp
 ·have:Nat.beq t d=false:=by cases hb:Nat.beq t d;rfl;exact absurd (cg hb) h
  simp[this,h]
theorem Sub.set {mb QZ cT:Env} {t:Nat} {v:Value} (ht:cT t=some v) (h:Sub mb (QZ.set t v) cT):Sub mb QZ cT:=λu x hu=>by
 rcases h u x hu with h1|h1
 ·exact .inl h1
 ·rw[Env.Ef] at h1;split at h1
  ·rename_i e;subst e;exact .inl (ht.trans h1)
  ·exact .inr h1
theorem JB {G:Env->aj->Prop} {h:aj} {cT:Env} : ∀(L:List (Nat×Sh)) (QZ:Env),yG False L (afe (X:=aj->Prop) L G QZ) cT (λf=>f h)->∃mb,G mb h/\Sub mb QZ cT
 | [],QZ,hh=>⟨QZ,hh,λ_ _ h=> .inr h⟩
 |(t,s)::L,QZ,hh=>by
  simp only[yG] at hh;split at hh
  ·rename_i v hv;have h1:=Sh.OH hh;obtain⟨mb,h2,h3⟩:=JB L _ h1;exact⟨mb,h2,h3.set hv⟩
  ·exact hh.elim
theorem I5 {X : Type} {F : Env -> Prop} {cT : Env} {K : X -> Prop} : ∀ (L : List (Nat × Sh)) (QZ : Env) (f : Ek X L), aby L F QZ -> yG False L f cT K ->
    ∃ mb, F mb /\ Sub mb QZ cT /\ ((∀ t s, (t, s) ∈ L -> mb t = cT t) /\ ∀ t, (∀ s, (t, s) ∉ L) -> mb t = QZ t)
  | [], QZ, _, h, _ => ⟨QZ, h, λ_ _ h => .inr h, (λ_ _ h => by cases h), λ_ _ => rfl⟩
  | (t, s) :: L, QZ, f, h, ha => by
    simp only [yG] at ha
    split at ha
    · rename_i v hv
      have h1 := Sh.OG h ha
      obtain ⟨g, hg⟩ := Sh.VY ha
      obtain ⟨mb, h2, h3, h4, h5⟩ := I5 L _ g h1 hg
      refine ⟨mb, h2, h3.set hv, λu s' hm => ?_, λu hm => ?_⟩
      · by_cases nQ : ∃ s'', (u, s'') ∈ L
        · obtain ⟨s'', nQ⟩ := nQ; exact h4 u s'' nQ
        · have hu : u = t := by
            rcases bP.1 hm with e | e
            · exact (Prod.mk.inj e).1
            · exact absurd ⟨s', e⟩ nQ
          subst hu
          rw [h5 u (λs'' hs => nQ ⟨s'', hs⟩), Env.Ef, ag rfl, hv]
      · rw [h5 u (λs' hs => hm s' (cM _ hs)), Env.Ef, ai]
        intro e; subst e; exact hm s dX
    · exact ha.elim
theorem yX {X Y:Type} {d:Y} {σ cT:Env} {K:X->Y} : ∀(L:List (Nat×Sh)) (f:Ek X L),(∀t s,(t,s)∈L->σ t=cT t)->yG d L f σ K=yG d L f cT K
 | [],_,_=>rfl
 |(t,s)::L,f,h=>by
  simp only[yG];rw[h t s dX];have:(λg=>yG d L g σ K)=(λg=>yG d L g cT K):=funext λg=>yX L g (λt s hm=>h t s (cM _ hm))
  rw[this]
theorem Ak {X : Type} {σ : Env} {K : X -> Prop} : ∀ (L : List (Nat × Sh)) (f : Ek X L), yG False L f σ K -> ∀ t s, (t, s) ∈ L -> ∃ v, σ t = some v
  | [], _, _, _, _, h => by cases h
  | (t, s) :: L, f, h, u, s', hm => by
    simp only [yG] at h
    split at h
    · rename_i v hv
      rcases bP.1 hm with e | e
      · exact ⟨v, by rw [(Prod.mk.inj e).1]; exact hv⟩
      · obtain ⟨g, hg⟩ := Sh.VY h
        exact Ak L g hg u s' e
    · exact h.elim
structure Rel (n:Nat) (σ:Env) (a:Act):Prop where
 defers:a.defers= []
 size:a.tmps.size=n
 at_: ∀t v,σ t=some v->a.tmps.getD t undef=v
theorem Rel.fits {n:Nat} {σ:Env} {a:Act} (h:Rel n σ a):Fits σ a.eval:=by
 intro x v hv;cases x with
 |tmp t=>exact h.at_ t v hv
 |const c=>simpa[Env.ev,Act.eval] using hv
 |global g=>simpa[Env.ev,Act.eval] using hv
 |func f=>simpa[Env.ev,Act.eval] using hv
def nL (n:Nat) (σ:Env) (dst:Option Nat) (v:Value) (K:Env->Prop):Prop:=
 match dst with
 |none=>K σ
 |some d=>(match Nat.blt d n with|true=>K (σ.set d v)|false=>False)
theorem abA {xs:Array Value} {d t:Nat} {v:Value} (hd:d<xs.size):(xs.setIfInBounds d v).getD t undef=if t=d then v else xs.getD t undef:=by
 by_cases h:t=d
 ·subst h;simp[hd]
 ·simp[h,ie h]
theorem oJ {n:Nat} {σ:Env} {a:Act} {dst:Option Nat} {v:Value} {K:Env->Prop} (hr:Rel n σ a) (h:nL n σ dst v K): ∃cT,Rel n cT (a.put dst v)/\K cT:=by
 unfold nL at h;split at h
 ·exact⟨σ,hr,h⟩
 ·rename_i d;split at h
  ·rename_i hd;have hd:d<a.tmps.size:=by rw[hr.size];exact(Nat.blt_eq▸hd)
   refine⟨_,⟨hr.defers,by simp[Act.put,hr.size],λt u hu=> ?_⟩,h⟩;simp only[Act.put];rw[abA hd];rw[Env.Ef] at hu;split
   ·rename_i e;rw[ag e] at hu;exact bz hu
   ·rename_i e;rw[ai e] at hu;exact hr.at_ t u hu
  ·exact h.elim
def hY (W:List Nat) (a a':Act):Prop:= ∀t,t∉W->a'.tmps.getD t undef=a.tmps.getD t undef
theorem hY.refl (W:List Nat) (a:Act):hY W a a:=λ_ _=>rfl
theorem hY.trans {W:List Nat} {a b c:Act} (h:hY W a b) (h':hY W b c):hY W a c:=λt ht=>(h' t ht).trans (h t ht)
theorem hY.mono {W W':List Nat} {a b:Act} (h:hY W a b) (hw: ∀t,t∈W->t∈W'):hY W' a b:=λt ht=>h t (λhm=>ht (hw t hm))
theorem hY.put {W:List Nat} {a:Act} {dst:Option Nat} {v:Value} (h: ∀d,dst=some d->d∈W):hY W a (a.put dst v):=by
 intro t ht;cases dst with
 |none=>rfl
 |some d=>
  have kA:t≠d:=λe=>ht (e▸h d rfl)
  simp[Act.put,ie kA]
def pB (ops : Array Oper) (o : Oper) (σ : Env) (run skip : Env -> Prop) : Prop :=
  match o.guard with
  | none => run σ
  | some (j, uE) => (match (ops[j]?).bind (·.dst) with
    | some g => (match σ g with
      | some (.bool b) => if b = true then (match uE with | true => run (σ.set g (.bool true)) | false => skip (σ.set g (.bool true)))
          else (match uE with | true => skip (σ.set g (.bool false)) | false => run (σ.set g (.bool false)))
      | some (.tuple _) => skip σ
      | _ => False)
    | none => False)
theorem getD_some {xs:Array Value} {t:Nat} {v:Value} (h:xs.getD t undef=v) (hv:v≠undef):xs[t]? =some v:=by
 rw[gC] at h;cases hq:xs[t]? with
 |none=>rw[hq] at h;exact absurd h.symm hv
 |some u=>rw[hq] at h;exact bp some h
theorem qC {n:Nat} {ops:Array Oper} {o:Oper} {σ:Env} {a:Act} {run skip:Env->Prop} (hr:Rel n σ a) (h:pB ops o σ run skip):
  (Region.wanted o (yielded ops a.tmps)=true/\∃cT,Rel n cT a/\run cT)\/(Region.wanted o (yielded ops a.tmps)=false/\∃cT,Rel n cT a/\skip cT):=by
 unfold pB at h;split at h
 ·rename_i hg;exact .inl ⟨by simp[Region.wanted,hg],σ,hr,h⟩
 ·rename_i j uE hg;split at h
  ·rename_i g hgd;split at h
   ·rename_i b hb;have ES:=hr.at_ g _ hb;have al7:=getD_some ES (by unfold undef;intro e;cases e);have hy:yielded ops a.tmps j=some b:=by simp[yielded,hgd,al7]
    have yW:Rel n (σ.set g (.bool b)) a:=⟨hr.defers,hr.size,λt u hu=>by
     rw[Env.Ef] at hu;split at hu
     ·rename_i e;subst e;rw[ES];exact bz hu
     ·exact hr.at_ t u hu⟩
    split at h
    ·rename_i hbt;subst hbt;split at h
     ·exact .inl ⟨by simp[Region.wanted,hg,hy],_,yW,h⟩
     ·exact .inr ⟨by simp[Region.wanted,hg,hy],_,yW,h⟩
    ·rename_i hbf;have hbf:b=false:=by simpa using hbf
     subst hbf;split at h
     ·exact .inr ⟨by simp[Region.wanted,hg,hy],_,yW,h⟩
     ·exact .inl ⟨by simp[Region.wanted,hg,hy],_,yW,h⟩
   ·rename_i x hx;have ES:=hr.at_ g _ hx;have hy:yielded ops a.tmps j=none:=by
     simp only[yielded,hgd,Option.bind_some];rw[gC] at ES;cases hq:a.tmps[g]? with
     |none=>rfl
     |some u=>rw[hq] at ES;simp at ES;subst ES;rfl
    exact .inr ⟨by simp[Region.wanted,hg,hy],σ,hr,h⟩
   ·exact h.elim
  ·exact h.elim
def Hr (P:Program) (o:Oper) (σ:Env) (h:aj) (K:iI):Prop:=
 match vw P o with
 |true=>xV P o σ h λv _=>K v h
 |false=>Ai P o σ h K
theorem yY {P:Program} {o:Oper} {σ:Env} {ρ:Operand->Value} {h:aj} {K:iI} (hf:Fits σ ρ) (hh:Hr P o σ h K):BR P o ρ h K:=by
 unfold Hr at hh;split at hh
 ·obtain⟨v,S,h1,h2,h3⟩:=Aj hf hh;exact abu _ _ _ (h3 h h2) _ h1
 ·exact Gt hf hh
def JC (P:Program) (n:Nat) (ops:Array Oper):List Oper->Env->aj->(Env->aj->Prop)->Prop
 | [],σ,h,K=>K σ h
 |o::rest,σ,h,K=>pB ops o σ
   (λσ=>Hr P o σ h λv h'=>nL n σ o.dst v λcT=>JC P n ops rest cT h' K)
   (λσ=>nL n σ o.dst undef λcT=>JC P n ops rest cT h K)
def cR (ops:Array Oper):List Nat:=ops.toList.filterMap (·.dst)
theorem fW {ops:Array Oper} {i:Nat} {o:Oper} (ho:ops[i]? =some o): ∀d,o.dst=some d->d∈cR ops:=λd hd=>by
 unfold cR;rw[List.mem_filterMap];exact⟨o,by simpa using Array.mem_of_getElem? ho,hd⟩
def Iu (n:Nat) (a0:Act) (w0:World) (W:List Nat) (K:Env->aj->Prop):Exit->Act->World->Prop:=
 λe a w=>e=.normal/\∃σ,Rel n σ a/\K σ w.heap/\iC w0 w/\hY W a0 a
theorem Gu {P:Program} {n:Nat} {ops:Array Oper} {K:Env->aj->Prop} {a0:Act} {w0:World} : ∀(rest:List Oper) (k:Nat) (σ:Env) (a:Act) (w:World),
  (∀j,rest[j]? =ops[k+j]?)->Rel n σ a->iC w0 w->hY (cR ops) a0 a->JC P n ops rest σ w.heap K->wpOps P ops (Iu n a0 w0 (cR ops) K) (List.range' k rest.length) a w
 | [],k,σ,a,w,_,hr,hs,hu,h=>⟨rfl,σ,hr,h,hs,hu⟩
 |o::rest,k,σ,a,w,hj,hr,hs,hu,h=>by
  have h0:ops[k]? =some o:=by have:=hj 0;simpa using this.symm
  have OI: ∀j,rest[j]? =ops[k+1+j]? :=λj=>by have:=hj (j+1);simpa[Nat.add_assoc,Nat.add_comm 1 j] using this
  simp only[bj,List.range'_succ,wpOps,h0];simp only[JC] at h;rcases qC hr h with⟨hw,cT,gA,h⟩|⟨hw,cT,gA,h⟩
  ·rw[ag hw];refine .inl ((yY gA.fits h).wp ?_);intro v w' hk DC;obtain⟨tR,pJ,h1⟩:=oJ gA hk;exact Gu rest (k+1) tR _ w' OI pJ (hs.trans DC) (hu.trans (hY.put (fW h0))) h1
  ·rw[ai (by rw[hw];simp)];obtain⟨tR,pJ,h1⟩:=oJ gA h;exact Gu rest (k+1) tR _ w OI pJ hs (hu.trans (hY.put (fW h0))) h1
def abB:List (Nat×Sh)->Nat->Option Sh
 | [],_=>none
 |(t,s)::L,d=>(match Nat.beq t d with|true=>some s|false=>abB L d)
def Q0 (ty:List (Nat×Sh)) (dst:Option Nat) (v:Value) (F:Value->Prop):Prop:=
 match dst with
 |none=>F v
 |some d=>(match abB ty d with|some s=>s.ex λv'=>v=v'/\F v'|none=>F v)
theorem BY {ty:List (Nat×Sh)} {dst:Option Nat} {v:Value} {F:Value->Prop} (h:Q0 ty dst v F):F v:=by
 unfold Q0 at h;split at h
 ·exact h
 ·split at h
  ·obtain⟨v',e,h⟩:=Sh.vP h;subst e;exact h
  ·exact h
def ET (P:Program) (n:Nat) (ops:Array Oper) (ty:List (Nat×Sh)):List Oper->Env->aj->(Env->aj->Prop)->Prop
 | [],σ,h,K=>K σ h
 |o::rest,σ,h,K=>pB ops o σ
   (λσ=>Hr P o σ h λv h'=>Q0 ty o.dst v λv=>nL n σ o.dst v λcT=>ET P n ops ty rest cT h' K)
   (λσ=>nL n σ o.dst undef λcT=>ET P n ops ty rest cT h K)
theorem El {P:Program} {n:Nat} {ops:Array Oper} {ty:List (Nat×Sh)} {K:Env->aj->Prop} {a0:Act} {w0:World} : ∀(rest:List Oper) (k:Nat) (σ:Env) (a:Act) (w:World),
  (∀j,rest[j]? =ops[k+j]?)->Rel n σ a->iC w0 w->hY (cR ops) a0 a->ET P n ops ty rest σ w.heap K->wpOps P ops (Iu n a0 w0 (cR ops) K) (List.range' k rest.length) a w
 | [],k,σ,a,w,_,hr,hs,hu,h=>⟨rfl,σ,hr,h,hs,hu⟩
 |o::rest,k,σ,a,w,hj,hr,hs,hu,h=>by
  have h0:ops[k]? =some o:=by have:=hj 0;simpa using this.symm
  have OI: ∀j,rest[j]? =ops[k+1+j]? :=λj=>by have:=hj (j+1);simpa[Nat.add_assoc,Nat.add_comm 1 j] using this
  simp only[bj,List.range'_succ,wpOps,h0];simp only[ET] at h;rcases qC hr h with⟨hw,cT,gA,h⟩|⟨hw,cT,gA,h⟩
  ·rw[ag hw];refine .inl ((yY gA.fits h).wp ?_);intro v w' hk DC;obtain⟨tR,pJ,h1⟩:=oJ gA (BY hk);exact El rest (k+1) tR _ w' OI pJ (hs.trans DC) (hu.trans (hY.put (fW h0))) h1
  ·rw[ai (by rw[hw];simp)];obtain⟨tR,pJ,h1⟩:=oJ gA h;exact El rest (k+1) tR _ w OI pJ hs (hu.trans (hY.put (fW h0))) h1
def waits (o:Oper) (i:Nat):Bool:=o.after.toList.any λe=>Region.binds .any e && Nat.beq e.on i
def iJ (o:Oper) (G:List (Nat×(aj->Prop))):List (Nat×(aj->Prop)):=G.filter λg=> !waits o g.1
theorem pg {o:Oper} {G:List (Nat×(aj->Prop))} {g:Nat×(aj->Prop)} (h:g∈iJ o G):g∈G:=(aY.1 h).1
def mc (P:Program) (ops:Array Oper) (Q:Exit->Act->World->Prop):Nat->List (Nat×(aj->Prop))->Array Bool->Act->World->Prop
 |0,_,listed,a,w=>Region.ready .any ops listed= []/\Q .normal a w
 |fuel+1,G,listed,a,w=>
  (Region.ready .any ops listed= []->Q .normal a w)/\
  ∀j∈Region.ready .any ops listed,∀o,ops[j]? =some o->wpOp P ops Q j (λa' w'=>(∀g∈iJ o G,g.2 w'.heap)/\mc P ops Q fuel (iJ o G) (listed.setIfInBounds j true) a' w') a w
section
variable {P : Program} {ops : Array Oper} {Q : Exit → Act → World → Prop}
theorem Am: ∀(fuel:Nat) (G:List (Nat×(aj->Prop))) (listed:Array Bool) (a:Act) (w:World),mc P ops Q fuel G listed a w->wpAny P .any ops Q fuel listed a w
 |0,_,_,_,_,h=>h
 |fuel+1,G,listed,a,w,h=>⟨h.1,λi hi=>by
   obtain⟨_,o,ho,_⟩:=mem_ready.1 hi;exact wpOp_mono (λa' w' h'=>Am fuel _ _ a' w' h'.2) (h.2 i hi o ho)⟩
theorem uo: ∀(fuel:Nat) (G G':List (Nat×(aj->Prop))) (listed:Array Bool) (a:Act) (w:World),(∀g∈G',g∈G)->mc P ops Q fuel G listed a w->mc P ops Q fuel G' listed a w
 |0,_,_,_,_,_,_,h=>h
 |fuel+1,G,G',listed,a,w,hs,h=>⟨h.1,λi hi o ho=>by
   have hk: ∀g∈iJ o G',g∈iJ o G:=λg hg=>aY.2 ⟨hs g (pg hg),(aY.1 hg).2⟩
   exact wpOp_mono (λa' w' h'=>⟨λg hg=>h'.1 g (hk g hg),uo fuel _ _ _ a' w' hk h'.2⟩) (h.2 i hi o ho)⟩
theorem xX (i:Nat): ∀(fuel:Nat) (G:List (Nat×(aj->Prop))) (listed:Array Bool) (a:Act) (w:World),mc P ops Q fuel G listed a w->mc P ops Q fuel ((i,λ_=>True)::G) listed a w
 |0,_,_,_,_,h=>h
 |fuel+1,G,listed,a,w,h=>⟨h.1,λj hj o ho=>by
   refine wpOp_mono (λa' w' h'=>⟨λg hg=> ?_,?_⟩) (h.2 j hj o ho)
   ·obtain⟨h1,h2⟩:=aY.1 hg;rcases bP.1 h1 with e|e
    ·rw[e];trivial
    ·exact h'.1 g (aY.2 ⟨e,h2⟩)
   ·have:=xX i fuel _ _ a' w' h'.2;refine uo fuel _ _ _ a' w' (λg hg=> ?_) this;obtain⟨h1,h2⟩:=aY.1 hg;rcases bP.1 h1 with e|e
    ·rw[e];exact dX
    ·exact cM _ (aY.2 ⟨e,h2⟩)⟩
theorem Q3 {oj:Oper} {i:Nat} (h: ∀e∈oj.after,Region.binds .any e=true->e.on≠i):waits oj i=false:=by
 unfold waits;rw[List.any_eq_false];intro e he;simp only[aW,not_and];intro hb hq;exact h e (by simpa using he) hb (cg hq)
theorem An {i:Nat} {oi:Oper} {v:Value} {S:aj->Prop} (hi:ops[i]? =some oi) (LQ: ∀(j:Nat) (o:Oper) cs b,ops[j]? =some o->o.op≠ .select cs b)
  (hQ: ∀c a w,Q (.panic c) (a.put oi.dst v) w->Q (.panic c) a w):
  ∀(fuel:Nat) (G:List (Nat×(aj->Prop))) (listed:Array Bool) (a:Act) (w:World),
   (∀j oj,ops[j]? =some oj->j≠i->listed.getD j true=false->(∀e∈oj.after,Region.binds .any e=true->e.on≠i)->oi.apart ops oj=true)->
   i∈Region.ready .any ops listed->YieldsIf P ops (λw=>S w.heap) oi v a->S w.heap->(∀g∈G,g.2 w.heap)->
   mc P ops Q fuel ((i,S)::G) (listed.setIfInBounds i true) (a.put oi.dst v) w->mc P ops Q (fuel+1) G listed a w:=by
 intro fuel;induction fuel with
 |zero=>
  intro G listed a w _ hr hy hS hG H;refine⟨λh=>(by rw[h] at hr;cases hr),λj hj o ho=> ?_⟩;by_cases BD:j=i
  ·subst BD;exact hy.wpOp hi hS ⟨λg hg=>hG g (pg hg),H⟩
  ·have:=ready_mono hj BD;rw[H.1] at this;cases this
 |succ fuel ih=>
  intro G listed a w ahR hr hy hS hG H;refine⟨λh=>(by rw[h] at hr;cases hr),λj hj o ho=> ?_⟩;by_cases BD:j=i
  ·subst BD;refine hy.wpOp hi hS ⟨λg hg=>hG g (pg hg),uo _ _ _ _ _ _ (λg hg=>cM _ (pg hg)) H⟩
  ·have h1:=H.2 j (ready_mono hj BD) o ho;obtain⟨al8,oj,hoj,kz⟩:=mem_ready.1 hj;obtain rfl:oj=o:=by rw[ho] at hoj;exact(bz hoj).symm
   have al9: ∀e∈oj.after,Region.binds .any e=true->e.on≠i:=λe he hb heq=>by
    have h1:=kz e he hb;have h0:=(mem_ready.1 hr).1;rw[heq] at h1;rcases Nat.lt_or_ge i listed.size with h'|h'
    ·simp[h'] at h0 h1;rw[h0] at h1;cases h1
    ·simp[Array.getElem?_eq_none h'] at h1
   have ama:iJ oj ((i,S)::G)=(i,S)::iJ oj G:=by
    unfold iJ;rw[cC,ag];simp[Q3 al9]
   rw[ama] at h1;have h2:=wpOp_putIf hoj (ahR j oj hoj BD al8 al9) (λcs b=>LQ i oi cs b hi) (λcs b=>LQ j oj cs b hoj) hQ hy h1;have ajx: ∀k ok,ops[k]? =some ok->k≠i->(listed.setIfInBounds j true).getD k true=false->
     (∀e∈ok.after,Region.binds .any e=true->e.on≠i)->oi.apart ops ok=true:=λk ok hk Q4 hun Gv=>by
    refine ahR k ok hk Q4 ?_ Gv;by_cases hjk:j=k
    ·subst hjk;exact al8
    ·rw[getD_set_ne true hjk] at hun;exact hun
   refine wpOp_mono (λa' w' h3=> ?_) h2;obtain⟨hy',abC,abD⟩:=h3;refine⟨λg hg=>abC g (cM _ hg),?_⟩;refine ih (iJ oj G) (listed.setIfInBounds j true) a' w' ajx (ready_mono hr (ie BD)) hy' (abC _ dX) (λg hg=>abC g (cM _ hg)) ?_;rw[Array.setIfInBounds_comm _ _ BD];exact abD
end
inductive BE where
 |done
 |op (i:Nat) (p:BE)
 |alts (q:BE)
 |fork (i:Nat) (p q:BE)
 |mD
def DD:BE->Nat->Bool
 | .done,n=>Nat.beq n 0
 | .op _ p,n+1=>DD p n
 | .alts q,n+1=>DD q (n+1)
 | .fork _ p q,n+1=>DD p n && DD q (n+1)
 | .mD,_=>true
 |_,_=>false
def nH (P:Program) (ops:Array Oper):BE->Option (List Nat)->Array Bool->Bool
 | .done,none,listed=>(Region.ready .any ops listed).isEmpty
 | .op i rest,none,listed=>
  (match ops[i]? with
   |some o=>(match vw P o with
    |true=>(Region.ready .any ops listed).contains i && Region.free .any ops listed i
    |false=>(match Region.ready .any ops listed with| [j]=>Nat.beq i j|_=>false))
   |none=>false) && nH P ops rest none (listed.setIfInBounds i true)
 | .alts q,none,listed=>(match Region.ready .any ops listed with| []=>false|j::js=>nH P ops q (some (j::js)) listed)
 | .fork i p q,some R,listed=>(match ops[i]? with
   |some o=> !vw P o
   |none=>false) && nH P ops p none (listed.setIfInBounds i true) && nH P ops q (some (R.filter λj=> !Nat.beq i j)) listed
 | .mD,some R,_=>R.isEmpty
 |_,_,_=>false
def BZ (h:aj) (K:Prop):List (Nat×(aj->Prop))->Prop
 | []=>K
 |g::G=>g.2 h/\BZ h K G
theorem EU {h:aj} {K:Prop} : ∀ {G:List (Nat×(aj->Prop))},BZ h K G->(∀g∈G,g.2 h)/\K
 | [],hh=>⟨(λ_ hm=>by cases hm),hh⟩
 |_::_,hh=>by
  obtain⟨h1,h2⟩:=EU hh.2;refine⟨λg' hm=> ?_,h2⟩;rcases bP.1 hm with e|e
  ·rw[e];exact hh.1
  ·exact h1 _ e
def EV (i:Nat) (S:Option (aj->Prop)) (G:List (Nat×(aj->Prop))):List (Nat×(aj->Prop)):=
 match S with
 |some S=>(i,S)::G
 |none=>G
def nN (P:Program) (n:Nat) (ops:Array Oper):BE->List (Nat×(aj->Prop))->Env->aj->(Env->aj->Prop)->Prop
 | .done,_,σ,h,K=>K σ h
 | .op i rest,G,σ,h,K=>(match ops[i]? with
  |some o=>pB ops o σ
    (λσ=>(match vw P o with
     |true=>xV P o σ h λv S=>nL n σ o.dst v λcT=>nN P n ops rest (EV i S G) cT h K
     |false=>Ai P o σ h λv h'=>BZ h' (nL n σ o.dst v λcT=>nN P n ops rest (iJ o G) cT h' K) (iJ o G)))
    (λσ=>nL n σ o.dst undef λcT=>nN P n ops rest G cT h K)
  |none=>False)
 | .alts q,G,σ,h,K=>nN P n ops q G σ h K
 | .fork i rest q,G,σ,h,K=>(match ops[i]? with
  |some o=>pB ops o σ
    (λσ=>Ai P o σ h λv h'=>BZ h' (nL n σ o.dst v λcT=>nN P n ops rest (iJ o G) cT h' K) (iJ o G))
    (λσ=>nL n σ o.dst undef λcT=>nN P n ops rest G cT h K)
  |none=>False)/\nN P n ops q G σ h K
 | .mD,_,_,_,_=>True
theorem JD {P:Program} {n:Nat} {ops:Array Oper} {K:Env->aj->Prop} {a0:Act} {w0:World} {rest:BE} {i m:Nat} {o:Oper} {listed:Array Bool} {G:List (Nat×(aj->Prop))} {σ:Env} {a:Act} {w:World}
  (ih: ∀G σ a w,Rel n σ a->iC w0 w->hY (cR ops) a0 a->(∀g∈G,g.2 w.heap)->nN P n ops rest G σ w.heap K->mc P ops (Iu n a0 w0 (cR ops) K) m G (listed.setIfInBounds i true) a w)
  (ho:ops[i]? =some o) (hr:Rel n σ a) (hs:iC w0 w) (hu:hY (cR ops) a0 a) (hG: ∀g∈G,g.2 w.heap)
  (h:pB ops o σ (λσ=>Ai P o σ w.heap λv h'=>BZ h' (nL n σ o.dst v λcT=>nN P n ops rest (iJ o G) cT h' K) (iJ o G)) (λσ=>nL n σ o.dst undef λcT=>nN P n ops rest G cT w.heap K)):
  wpOp P ops (Iu n a0 w0 (cR ops) K) i (λa' w'=>(∀g∈iJ o G,g.2 w'.heap)/\mc P ops (Iu n a0 w0 (cR ops) K) m (iJ o G) (listed.setIfInBounds i true) a' w') a w:=by
 rcases qC hr h with⟨hw,cT,gA,h⟩|⟨hw,cT,gA,B1⟩
 ·unfold wpOp;simp only[ho,hw,bA];refine .inl ((Gt gA.fits h).wp ?_);intro v w' hk DC;obtain⟨h1,h2⟩:=EU hk;obtain⟨tR,pJ,h3⟩:=oJ gA h2;exact⟨h1,ih _ tR _ w' pJ (hs.trans DC) (hu.trans (hY.put (fW ho))) h1 h3⟩
 ·unfold wpOp;simp only[ho,hw,aA,aU];obtain⟨tR,pJ,h3⟩:=oJ gA B1;have ih:=ih G tR _ w pJ hs (hu.trans (hY.put (fW ho))) hG h3;exact⟨λg hg=>hG g (pg hg),uo _ _ _ _ _ _ (λg hg=>pg hg) ih⟩
theorem OJ {P:Program} {n:Nat} {ops:Array Oper} {K:Env->aj->Prop} {a0:Act} {w0:World} (LQ:Region.noSelect ops=true) (mB:BE):
  (∀(m:Nat) (listed:Array Bool) (G:List (Nat×(aj->Prop))) (σ:Env) (a:Act) (w:World),DD mB m=true->
   nH P ops mB none listed=true->Rel n σ a->iC w0 w->hY (cR ops) a0 a->(∀g∈G,g.2 w.heap)->nN P n ops mB G σ w.heap K->
   mc P ops (Iu n a0 w0 (cR ops) K) m G listed a w)/\
  (∀(m:Nat) (R:List Nat) (listed:Array Bool) (G:List (Nat×(aj->Prop))) (σ:Env) (a:Act) (w:World),DD mB (m+1)=true->
   nH P ops mB (some R) listed=true->Rel n σ a->iC w0 w->hY (cR ops) a0 a->(∀g∈G,g.2 w.heap)->nN P n ops mB G σ w.heap K->
   ∀j∈R,∀o,ops[j]? =some o->wpOp P ops (Iu n a0 w0 (cR ops) K) j (λa' w'=>(∀g∈iJ o G,g.2 w'.heap)/\mc P ops (Iu n a0 w0 (cR ops) K) m (iJ o G) (listed.setIfInBounds j true) a' w') a w):=by
 induction mB with
 |done=>
  refine⟨λm listed G σ a w hl hp hr hs hu hG h=> ?_,λm R listed G σ a w hl hp=>by cases hp⟩;obtain rfl:m=0:=cg hl;simp only[nH,List.isEmpty_iff] at hp;exact⟨hp,rfl,σ,hr,h,hs,hu⟩
 |mD=>
  refine⟨λm listed G σ a w hl hp=>(by cases hp),λm R listed G σ a w hl hp hr hs hu hG h j hj=> ?_⟩;simp only[nH,List.isEmpty_iff] at hp;subst hp;cases hj
 |alts q ih=>
  refine⟨λm listed G σ a w hl hp hr hs hu hG h=> ?_,λm R listed G σ a w hl hp=>by cases hp⟩;cases m with
  |zero=>cases hl
  |succ m=>
   simp only[nH] at hp;split at hp
   ·cases hp
   ·rename_i j js pY;refine⟨(λe=>by rw[pY] at e;cases e),λj' OI o ho=> ?_⟩;rw[pY] at OI;exact ih.2 m _ listed G σ a w hl hp hr hs hu hG h j' OI o ho
 |fork i rest q ih1 ih2=>
  refine⟨λm listed G σ a w hl hp=>(by cases hp),λm R listed G σ a w hl hp hr hs hu hG h j hj o ho=> ?_⟩;simp only[nH,aW] at hp;obtain⟨⟨xR,JE⟩,hp3⟩:=hp;simp only[DD,aW] at hl;simp only[nN] at h;by_cases BD:i=j
  ·subst BD;have h:=h.1;rw[ho] at h;exact JD (λG σ a w hr hs hu hG h=>ih1.1 m _ G σ a w hl.1 JE hr hs hu hG h) ho hr hs hu hG h
  ·refine ih2.2 m _ listed G σ a w hl.2 hp3 hr hs hu hG h.2 j (aY.2 ⟨hj,?_⟩) o ho;have:Nat.beq i j=false:=by cases hb:Nat.beq i j;rfl;exact absurd (cg hb) BD
   simp[this]
 |op i rest ih=>
  refine⟨λm listed G σ a w hl hp hr hs hu hG h=> ?_,λm R listed G σ a w hl hp=>by cases hp⟩;cases m with
  |zero=>cases hl
  |succ m=>
   simp only[nH,aW] at hp;obtain⟨xR,JE⟩:=hp;simp only[nN] at h;split at h
   ·rename_i o ho;simp only[ho] at xR;have hQ: ∀v,∀c a w,Iu n a0 w0 (cR ops) K (.panic c) (a.put o.dst v) w->Iu n a0 w0 (cR ops) K (.panic c) a w:=λv c a w hq=>by cases hq.1
    have take: ∀(v:Value) (S:Option (aj->Prop)) (cT:Env),vw P o=true->Rel n cT (a.put o.dst v)->YieldsIf P ops (λw=>Gr S w.heap) o v a->Gr S w.heap->
      nN P n ops rest (EV i S G) cT w.heap K->mc P ops (Iu n a0 w0 (cR ops) K) (m+1) G listed a w:=λv S cT qV gA hy hS hd=>by
     rw[qV] at xR;simp only[aW] at xR;have hG': ∀g∈EV i S G,g.2 w.heap:=by
      intro g hg;cases S with
      |none=>exact hG g hg
      |some S=>
       rcases bP.1 hg with e|e
       ·rw[e];exact hS
       ·exact hG g e
     have ih:=ih.1 m _ (EV i S G) cT (a.put o.dst v) w hl JE gA hs (hu.trans (hY.put (fW ho))) hG' hd;refine An (S:=Gr S) ho (Region.noSelect_spec LQ) (hQ v) m G listed a w (Region.free_spec ho xR.2) (by simpa using xR.1) hy hS hG ?_;cases S with
     |none=>exact xX i _ _ _ _ _ ih
     |some S=>exact ih
    cases qV:vw P o with
    |true=>
     rcases qC hr h with⟨hw,cT,gA,h⟩|⟨hw,cT,gA,B1⟩
     ·rw[qV] at h;obtain⟨v,S,h1,h2,h3⟩:=Aj gA.fits h;obtain⟨tR,pJ,h4⟩:=oJ gA h1;exact take v S tR qV pJ (.inl ⟨hw,λw' hS=>BQ _ _ _ (h3 _ hS)⟩) h2 h4
     ·obtain⟨tR,pJ,h4⟩:=oJ gA B1;exact take undef none tR qV pJ (.inr ⟨hw,rfl⟩) trivial h4
    |false=>
     rw[qV] at xR h;simp only at xR h;have pY:Region.ready .any ops listed= [i]:=by
      split at xR
      ·rename_i j hj;rw[hj,cg xR]
      ·cases xR
     refine⟨(λe=>by rw[pY] at e;cases e),λj hj o' TF=> ?_⟩;rw[pY] at hj;obtain rfl:j=i:=by simpa using hj
     obtain rfl:o'=o:=by rw[ho] at TF;exact(bz TF).symm
     exact JD (λG σ a w hr hs hu hG h=>ih.1 m _ G σ a w hl JE hr hs hu hG h) ho hr hs hu hG h
   ·exact h.elim
def jh:Nat->Nat->BE->BE
 |0,_,p=>p
 |k+1,i,p=> .op i (jh k (i+1) p)
def DR (o:Oper) (B:List (Nat×bU)):List (Nat×bU):=B.filter λg=> !waits o g.1
def kpK (h h':aj) (K:Prop):List (Nat×bU)->Prop
 | []=>K
 |B=>Kp h h' (B.map (·.2))/\K
theorem ajy {h h':aj} {K:Prop} {B:List (Nat×bU)} (hh:kpK h h' K B):(∀g∈B,uM g.2 h h')/\K:=by
 cases B with
 |nil=>exact⟨(λ_ hm=>by cases hm),hh⟩
 |cons b B=>exact⟨λg hg=>hh.1 g.2 (bn.2 ⟨g,hg,rfl⟩),hh.2⟩
def ka (P:Program) (n:Nat) (ops:Array Oper):BE->List (Nat×(aj->Prop))->List (Nat×bU)->Env->aj->(Env->aj->Prop)->Prop
 | .done,_,_,σ,h,K=>K σ h
 | .op i rest,G,B,σ,h,K=>(match ops[i]? with
  |some o=>pB ops o σ
    (λσ=>(match vw P o with
     |true=>xV P o σ h λv S=>nL n σ o.dst v λcT=>(match OE σ o with
      |some p=>ka P n ops rest G ((i,p)::B) cT h K
      |none=>ka P n ops rest (EV i S G) B cT h K)
     |false=>Ai P o σ h λv h'=>BZ h' (kpK h h' (nL n σ o.dst v λcT=>ka P n ops rest (iJ o G) (DR o B) cT h' K) (DR o B)) (iJ o G)))
    (λσ=>nL n σ o.dst undef λcT=>ka P n ops rest G B cT h K)
  |none=>False)
 | .alts q,G,B,σ,h,K=>ka P n ops q G B σ h K
 | .fork i rest q,G,B,σ,h,K=>(match ops[i]? with
  |some o=>pB ops o σ
    (λσ=>Ai P o σ h λv h'=>BZ h' (kpK h h' (nL n σ o.dst v λcT=>ka P n ops rest (iJ o G) (DR o B) cT h' K) (DR o B)) (iJ o G))
    (λσ=>nL n σ o.dst undef λcT=>ka P n ops rest G B cT h K)
  |none=>False)/\ka P n ops q G B σ h K
 | .mD,_,_,_,_,_=>True
def GB (F G:List (Nat×(aj->Prop))) (B:List (Nat×bU)) (h:aj):Prop:= ∀f∈F,f∈G\/∃p,(f.1,p)∈B/\∀h',uM p h h'->f.2 h'
theorem GB.step {F G:List (Nat×(aj->Prop))} {B:List (Nat×bU)} {h h':aj} {o:Oper} (H:GB F G B h) (h1: ∀g∈iJ o G,g.2 h') (h2: ∀g∈DR o B,uM g.2 h h'):(∀f∈iJ o F,f.2 h')/\GB (iJ o F) (iJ o G) (DR o B) h':=by
 have key: ∀f∈iJ o F,f.2 h'/\(f∈iJ o G\/∃p,(f.1,p)∈DR o B/\∀OK,uM p h' OK->f.2 OK):=λf hf=>by
  obtain⟨hf1,hf2⟩:=aY.1 hf;rcases H f hf1 with a|⟨p,hp,hk⟩
  ·have:f∈iJ o G:=aY.2 ⟨a,hf2⟩;exact⟨h1 f this,.inl this⟩
  ·have hm:(f.1,p)∈DR o B:=aY.2 ⟨hp,hf2⟩;have hs:=h2 _ hm;exact⟨hk _ hs,.inr ⟨p,hm,λOK q=>hk _ (uM.trans hs q)⟩⟩
 exact⟨λf hf=>(key f hf).1,λf hf=>(key f hf).2⟩
theorem Ht {P:Program} {n:Nat} {ops:Array Oper} {K:Env->aj->Prop} {a0:Act} {w0:World} {rest:BE} {i m:Nat} {o:Oper} {listed:Array Bool} {F G:List (Nat×(aj->Prop))} {B:List (Nat×bU)} {σ:Env} {a:Act} {w:World}
  (ih: ∀F G B σ a w,Rel n σ a->iC w0 w->hY (cR ops) a0 a->(∀g∈F,g.2 w.heap)->GB F G B w.heap->ka P n ops rest G B σ w.heap K->mc P ops (Iu n a0 w0 (cR ops) K) m F (listed.setIfInBounds i true) a w)
  (ho:ops[i]? =some o) (hr:Rel n σ a) (hs:iC w0 w) (hu:hY (cR ops) a0 a) (hF: ∀g∈F,g.2 w.heap) (OL:GB F G B w.heap)
  (h:pB ops o σ (λσ=>Ai P o σ w.heap λv h'=>BZ h' (kpK w.heap h' (nL n σ o.dst v λcT=>ka P n ops rest (iJ o G) (DR o B) cT h' K) (DR o B)) (iJ o G)) (λσ=>nL n σ o.dst undef λcT=>ka P n ops rest G B cT w.heap K)):
  wpOp P ops (Iu n a0 w0 (cR ops) K) i (λa' w'=>(∀g∈iJ o F,g.2 w'.heap)/\mc P ops (Iu n a0 w0 (cR ops) K) m (iJ o F) (listed.setIfInBounds i true) a' w') a w:=by
 rcases qC hr h with⟨hw,cT,gA,h⟩|⟨hw,cT,gA,B1⟩
 ·unfold wpOp;simp only[ho,hw,bA];refine .inl ((Gt gA.fits h).wp ?_);intro v w' hk DC;obtain⟨h1,h2⟩:=EU hk;obtain⟨h2,h3⟩:=ajy h2;obtain⟨tR,pJ,h3⟩:=oJ gA h3;obtain⟨q1,q2⟩:=OL.step h1 h2;exact⟨q1,ih _ _ _ tR _ w' pJ (hs.trans DC) (hu.trans (hY.put (fW ho))) q1 q2 h3⟩
 ·unfold wpOp;simp only[ho,hw,aA,aU];obtain⟨tR,pJ,h3⟩:=oJ gA B1;have ih:=ih F G B tR _ w pJ hs (hu.trans (hY.put (fW ho))) hF OL h3;exact⟨λg hg=>hF g (pg hg),uo _ _ _ _ _ _ (λg hg=>pg hg) ih⟩
theorem LU {P:Program} {n:Nat} {ops:Array Oper} {K:Env->aj->Prop} {a0:Act} {w0:World} (LQ:Region.noSelect ops=true) (mB:BE):
  (∀(m:Nat) (listed:Array Bool) (F G:List (Nat×(aj->Prop))) (B:List (Nat×bU)) (σ:Env) (a:Act) (w:World),DD mB m=true->
   nH P ops mB none listed=true->Rel n σ a->iC w0 w->hY (cR ops) a0 a->(∀g∈F,g.2 w.heap)->GB F G B w.heap->ka P n ops mB G B σ w.heap K->
   mc P ops (Iu n a0 w0 (cR ops) K) m F listed a w)/\
  (∀(m:Nat) (R:List Nat) (listed:Array Bool) (F G:List (Nat×(aj->Prop))) (B:List (Nat×bU)) (σ:Env) (a:Act) (w:World),DD mB (m+1)=true->
   nH P ops mB (some R) listed=true->Rel n σ a->iC w0 w->hY (cR ops) a0 a->(∀g∈F,g.2 w.heap)->GB F G B w.heap->ka P n ops mB G B σ w.heap K->
   ∀j∈R,∀o,ops[j]? =some o->wpOp P ops (Iu n a0 w0 (cR ops) K) j (λa' w'=>(∀g∈iJ o F,g.2 w'.heap)/\mc P ops (Iu n a0 w0 (cR ops) K) m (iJ o F) (listed.setIfInBounds j true) a' w') a w):=by
 induction mB with
 |done=>
  refine⟨λm listed F G B σ a w hl hp hr hs hu hF OL h=> ?_,λm R listed F G B σ a w hl hp=>by cases hp⟩;obtain rfl:m=0:=cg hl;simp only[nH,List.isEmpty_iff] at hp;exact⟨hp,rfl,σ,hr,h,hs,hu⟩
 |mD=>
  refine⟨λm listed F G B σ a w hl hp=>(by cases hp),λm R listed F G B σ a w hl hp hr hs hu hF OL h j hj=> ?_⟩;simp only[nH,List.isEmpty_iff] at hp;subst hp;cases hj
 |alts q ih=>
  refine⟨λm listed F G B σ a w hl hp hr hs hu hF OL h=> ?_,λm R listed F G B σ a w hl hp=>by cases hp⟩;cases m with
  |zero=>cases hl
  |succ m=>
   simp only[nH] at hp;split at hp
   ·cases hp
   ·rename_i j js pY;refine⟨(λe=>by rw[pY] at e;cases e),λj' OI o ho=> ?_⟩;rw[pY] at OI;exact ih.2 m _ listed F G B σ a w hl hp hr hs hu hF OL h j' OI o ho
 |fork i rest q ih1 ih2=>
  refine⟨λm listed F G B σ a w hl hp=>(by cases hp),λm R listed F G B σ a w hl hp hr hs hu hF OL h j hj o ho=> ?_⟩;simp only[nH,aW] at hp;obtain⟨⟨xR,JE⟩,hp3⟩:=hp;simp only[DD,aW] at hl;simp only[ka] at h;by_cases BD:i=j
  ·subst BD;have h:=h.1;rw[ho] at h;exact Ht (λF G B σ a w hr hs hu hF OL h=>ih1.1 m _ F G B σ a w hl.1 JE hr hs hu hF OL h) ho hr hs hu hF OL h
  ·refine ih2.2 m _ listed F G B σ a w hl.2 hp3 hr hs hu hF OL h.2 j (aY.2 ⟨hj,?_⟩) o ho;have:Nat.beq i j=false:=by cases hb:Nat.beq i j;rfl;exact absurd (cg hb) BD
   simp[this]
 |op i rest ih=>
  refine⟨λm listed F G B σ a w hl hp hr hs hu hF OL h=> ?_,λm R listed F G B σ a w hl hp=>by cases hp⟩;cases m with
  |zero=>cases hl
  |succ m=>
   simp only[nH,aW] at hp;obtain⟨xR,JE⟩:=hp;simp only[ka] at h;split at h
   ·rename_i o ho;simp only[ho] at xR;have hQ: ∀v,∀c a w,Iu n a0 w0 (cR ops) K (.panic c) (a.put o.dst v) w->Iu n a0 w0 (cR ops) K (.panic c) a w:=λv c a w hq=>by cases hq.1
    have take: ∀(v:Value) (S:Option (aj->Prop)) (cT:Env) (G':List (Nat×(aj->Prop))) (B':List (Nat×bU)),vw P o=true->Rel n cT (a.put o.dst v)->YieldsIf P ops (λw=>Gr S w.heap) o v a->Gr S w.heap->GB (EV i S F) G' B' w.heap->
      ka P n ops rest G' B' cT w.heap K->mc P ops (Iu n a0 w0 (cR ops) K) (m+1) F listed a w:=λv S cT G' B' qV gA hy hS apI hd=>by
     rw[qV] at xR;simp only[aW] at xR;have hF': ∀g∈EV i S F,g.2 w.heap:=by
      intro g hg;cases S with
      |none=>exact hF g hg
      |some S=>
       rcases bP.1 hg with e|e
       ·rw[e];exact hS
       ·exact hF g e
     have ih:=ih.1 m _ (EV i S F) G' B' cT (a.put o.dst v) w hl JE gA hs (hu.trans (hY.put (fW ho))) hF' apI hd;refine An (S:=Gr S) ho (Region.noSelect_spec LQ) (hQ v) m F listed a w (Region.free_spec ho xR.2) (by simpa using xR.1) hy hS hF ?_;cases S with
     |none=>exact xX i _ _ _ _ _ ih
     |some S=>exact ih
    have gb: ∀(S:Option (aj->Prop)),GB (EV i S F) (EV i S G) B w.heap:=λS f hf=>by
     cases S with
     |none=>exact OL f hf
     |some S=>
      rcases bP.1 hf with e|e
      ·exact .inl (e▸dX)
      ·exact(OL f e).imp (cM _) id
    cases qV:vw P o with
    |true=>
     rcases qC hr h with⟨hw,cT,gA,h⟩|⟨hw,cT,gA,B1⟩
     ·rw[qV] at h;dsimp only at h;cases hlo:OE cT o with
      |some p=>
       rw[hlo] at h;obtain⟨v,S,h1,h2,h4,h3⟩:=OF gA.fits hlo h;obtain⟨tR,pJ,h4'⟩:=oJ gA h1;refine take v (some S) tR G ((i,p)::B) qV pJ (.inl ⟨hw,λw' hS=>BQ _ _ _ (h3 _ hS)⟩) h2 (λf hf=> ?_) h4';rcases bP.1 hf with e|e
       ·exact .inr ⟨p,e▸dX,e▸h4⟩
       ·exact(OL f e).imp id λ⟨q,hq,hk⟩=>⟨q,cM _ hq,hk⟩
      |none=>
       rw[hlo] at h;obtain⟨v,S,h1,h2,h3⟩:=Aj gA.fits h;obtain⟨tR,pJ,h4⟩:=oJ gA h1;exact take v S tR _ B qV pJ (.inl ⟨hw,λw' hS=>BQ _ _ _ (h3 _ hS)⟩) h2 (gb S) h4
     ·obtain⟨tR,pJ,h4⟩:=oJ gA B1;exact take undef none tR G B qV pJ (.inr ⟨hw,rfl⟩) trivial OL h4
    |false=>
     rw[qV] at xR h;simp only at xR h;have pY:Region.ready .any ops listed= [i]:=by
      split at xR
      ·rename_i j hj;rw[hj,cg xR]
      ·cases xR
     refine⟨(λe=>by rw[pY] at e;cases e),λj hj o' TF=> ?_⟩;rw[pY] at hj;obtain rfl:j=i:=by simpa using hj
     obtain rfl:o'=o:=by rw[ho] at TF;exact(bz TF).symm
     exact Ht (λF G B σ a w hr hs hu hF OL h=>ih.1 m _ F G B σ a w hl JE hr hs hu hF OL h) ho hr hs hu hF OL h
   ·exact h.elim
inductive EN where
 |leaf
 |seq (a b:EN)
 |cond (a b:EN)
 |block (a:EN)
 |loop (L:List (Nat×Sh)) (a:EN)
 |join (L:List (Nat×Sh)) (a:EN)
 |mB (p:BE)
 |qW (p:BE)
 |scope (l:Nat) (L:List (Nat×Sh)) (a b:EN)
 |typed (ty:List (Nat×Sh))
def writes:Code->List Nat
 | .region _ ops _=>cR ops
 | .seq a b=>writes a++writes b
 | .cond _ a b=>writes a++writes b
 | .block _ a=>writes a
 | .loop a=>writes a
 | .scope a=>writes a
 |_=> []
def Env.forget (σ:Env) (ws:List Nat):Env:=λt=>bif ws.any (Nat.beq t) then none else σ t
theorem Env.Hv {σ:Env} {ws:List Nat} {t:Nat} {v:Value} (h:σ.forget ws t=some v):t∉ws/\σ t=some v:=by
 unfold Env.forget at h;cases hq:ws.any (Nat.beq t) with
 |true=>rw[hq] at h;cases h
 |false=>
  rw[hq] at h;refine⟨λhm=> ?_,h⟩;have:=List.any_eq_false.1 hq t hm;simp at this
def VZ (K:Env->aj->Prop) (Q:Exit->Env->aj->Prop):Exit->Env->aj->Prop
 | .normal=>K
 |e=>Q e
def abE (id:Nat) (Q:Exit->Env->aj->Prop):Exit->Env->aj->Prop
 | .exit i=>(match Nat.beq i id with|true=>Q .normal|false=>Q (.exit i))
 |e=>Q e
def aK {α:Type} (F:α) (B:α->Prop):Prop:=B F
def Hw (l:Nat) (K:Env->aj->Prop) (Q:Exit->Env->aj->Prop):Exit->Env->aj->Prop
 | .goto l'=>(match Nat.beq l' l with|true=>K|false=>λ_ _=>False)
 |e=>Q e
def yZ:Code->Nat->Bool
 | .seq a b,l=>yZ a l||yZ b l
 | .label l',l=>Nat.beq l' l
 |_,_=>false
def den (P:Program) (n:Nat):EN->Option Nat->Code->(Exit->Env->aj->Prop)->Env->aj->Prop
 | .leaf,none,c,Q,σ,h=>(match c with
  | .skip=>Q .normal σ h
  | .label _=>Q .normal σ h
  | .exit id=>Q (.exit id) σ h
  | .goto l=>Q (.goto l) σ h
  | .ret=>Q .ret σ h
  | .region _ ops false=>JC P n ops ops.toList σ h (Q .normal)
  |_=>False)
 | .leaf,some l,c,Q,σ,h=>(match c with
  | .label l'=>(match Nat.beq l' l with|true=>Q (.goto l) σ h|false=>False)
  |_=>False)
 | .mB p,none,c,Q,σ,h=>(match c with
  | .region _ ops true=>(match (P.follows .mixedOrders && Region.noSelect ops && DD p ops.size && nH P ops p none (Array.replicate ops.size false)) with
   |true=>nN P n ops p [] σ h (Q .normal)
   |false=>False)
  |_=>False)
 | .qW p,none,c,Q,σ,h=>(match c with
  | .region _ ops true=>(match (P.follows .mixedOrders && Region.noSelect ops && DD p ops.size && nH P ops p none (Array.replicate ops.size false)) with
   |true=>ka P n ops p [] [] σ h (Q .normal)
   |false=>False)
  |_=>False)
 | .seq a b,none,c,Q,σ,h=>(match c with
  | .seq c d=>den P n a none c (VZ (λcT h'=>den P n b none d Q cT h') Q) σ h
  |_=>False)
 | .seq a b,some l,c,Q,σ,h=>(match c with
  | .seq c d=>(match yZ c l with
   |true=>den P n a (some l) c Q σ h
   |false=>den P n a none c (VZ (λcT h'=>den P n b (some l) d Q cT h') Q) σ h)
  |_=>False)
 | .cond a b,none,c,Q,σ,h=>(match c with
  | .cond x c d=>(match σ.ev x with
   |some (.bool q)=>if q=true then den P n a none c Q σ h else den P n b none d Q σ h
   |_=>False)
  |_=>False)
 | .block a,none,c,Q,σ,h=>(match c with
  | .block id c=>den P n a none c (abE id Q) σ h
  |_=>False)
 | .loop L a,none,c,Q,σ,h=>(match c with
  | .loop c=> ∃(I:Ek (aj->Prop) L) (μ:Ek (aj->Nat) L),yG False L I σ (λf=>f h)/\
    aby L (λcT=> ∀h',yG False L I cT (λf=>f h')->
     den P n a none c (VZ (λmb OK=>yG False L I mb (λf=>f OK)/\yG 0 L μ mb (λf=>f OK)<yG 0 L μ cT (λf=>f h')) Q) cT h') (σ.forget (writes c))
  |_=>False)
 | .join L a,none,c,Q,σ,h=>aK (α:=Ek (aj->Prop) L) (afe L (λcT h'=>Q .normal cT h') (σ.forget (writes c)))
   (λJ=>den P n a none c (VZ (λcT h'=>yG False L J cT (λf=>f h')) Q) σ h)
 | .typed ty,none,c,Q,σ,h=>(match c with
  | .region _ ops false=>ET P n ops ty ops.toList σ h (Q .normal)
  |_=>False)
 | .scope l L a b,none,c,Q,σ,h=>(match c with
  | .scope c=>(match findLabel c l with
   |some r=> ∃(I:Ek (aj->Prop) L) (μ:Ek (aj->Nat) L),
     den P n a (some l) c (Hw l (λcT h'=>yG False L I cT (λf=>f h')) Q) σ h/\
     aby L (λcT=> ∀h',yG False L I cT (λf=>f h')->
      den P n b none r (Hw l (λmb OK=>yG False L I mb (λf=>f OK)/\yG 0 L μ mb (λf=>f OK)<yG 0 L μ cT (λf=>f h')) Q) cT h') (σ.forget (writes c))
   |none=>False)
  |_=>False)
 |_,_,_,_,_,_=>False
def opened:Code->List Code
 | .skip=> []
 | .seq a b=>opened a++ [b]
 |c=> [c]
theorem sQ {P:Program} {b:Frame} {a:Act} {cs:List Frame} {w:World} : ∀(c:Code) (k:List Item),Steps P (lone (b.at a (.code c::k)) cs w) (lone (b.at a ((opened c).map Item.code++k)) cs w)
 | .skip,k=> .one step_skip
 | .seq x y,k=>by
  simp only[opened,bm,cA,List.map_nil,dU,fv,fk];exact .head step_seq (sQ x (.code y::k))
 | .region _ _ _,_=> .refl _ _
 | .cond _ _ _,_=> .refl _ _
 | .block _ _,_=> .refl _ _
 | .loop _,_=> .refl _ _
 | .rangeFunc _ _ _ _,_=> .refl _ _
 | .exit _,_=> .refl _ _
 | .scope _,_=> .refl _ _
 | .label _,_=> .refl _ _
 | .goto _,_=> .refl _ _
 | .ret,_=> .refl _ _
 | .refuse _,_=> .refl _ _
theorem yH: ∀(c:Code) (l:Nat),yZ c l=(findLabel c l).isSome
 | .seq a b,l=>by
  unfold yZ findLabel;rw[yH a l,yH b l];cases findLabel a l<;>simp
 | .label l',l=>by
  unfold yZ findLabel;by_cases h:l'=l
  ·subst h;simp
  ·have:Nat.beq l' l=false:=by cases hb:Nat.beq l' l;rfl;exact absurd (cg hb) h
   simp[this,h]
 | .skip,_=>rfl
 | .region _ _ _,_=>rfl
 | .cond _ _ _,_=>rfl
 | .block _ _,_=>rfl
 | .loop _,_=>rfl
 | .rangeFunc _ _ _ _,_=>rfl
 | .exit _,_=>rfl
 | .scope _,_=>rfl
 | .goto _,_=>rfl
 | .ret,_=>rfl
 | .refuse _,_=>rfl
theorem uq: ∀(c:Code) (l:Nat) (r:Code),findLabel c l=some r->∀t,t∈writes r->t∈writes c
 | .seq a b,l,r,h,t,ht=>by
  unfold findLabel at h;split at h
  ·rename_i rest hr;simp only[bE] at h;subst h;rcases bT.1 ht with ht|ht
   ·exact fJ _ (uq a l rest hr t ht)
   ·exact fZ _ ht
  ·exact fZ _ (uq b l r h t ht)
 | .label l',l,r,h,t,ht=>by
  unfold findLabel at h;split at h
  ·simp only[bE] at h;subst h;cases ht
  ·cases h
 | .skip,_,_,h,_,_=>by cases h
 | .region _ _ _,_,_,h,_,_=>by cases h
 | .cond _ _ _,_,_,h,_,_=>by cases h
 | .block _ _,_,_,h,_,_=>by cases h
 | .loop _,_,_,h,_,_=>by cases h
 | .rangeFunc _ _ _ _,_,_,h,_,_=>by cases h
 | .exit _,_,_,h,_,_=>by cases h
 | .scope _,_,_,h,_,_=>by cases h
 | .goto _,_,_,h,_,_=>by cases h
 | .ret,_,_,h,_,_=>by cases h
 | .refuse _,_,_,h,_,_=>by cases h
def amb (P:Program) (l:Nat) (c:Code) (Q:Exit->Act->World->Prop) (a:Act) (w:World):Prop:=
 ∀(b:Frame) (k:List Item) (cs:List Frame),
  (∃e a' w',Q e a' w'/\e≠ .normal/\Arrives P (lone (b.at a (.code c::k)) cs w) b k cs e a' w')\/
  (∃a' w' r,Q (.goto l) a' w'/\findLabel c l=some r/\Steps P (lone (b.at a (.code c::k)) cs w) (lone (b.at a' ((opened r).map Item.code++k)) cs w'))
def up (n:Nat) (a0:Act) (w0:World) (W:List Nat) (Q:Exit->Env->aj->Prop):Exit->Act->World->Prop:=
 λe a w=> ∃σ,Rel n σ a/\Q e σ w.heap/\iC w0 w/\hY W a0 a
theorem Di {n:Nat} {a0:Act} {w0:World} {W:List Nat} {Q:Exit->Env->aj->Prop} {e:Exit} {a:Act} {w:World} (h:Iu n a0 w0 W (Q .normal) e a w):up n a0 w0 W Q e a w:=by
 obtain⟨rfl,h⟩:=h;exact h
def Hx (a:Act):Env:=λt=>some (a.tmps.getD t undef)
theorem Rel.Em {n:Nat} {σ cT mb:Env} {a a':Act} {W:List Nat} (hr:Rel n σ a) (gA:Rel n cT a') (hu:hY W a a') (hs:Sub mb (σ.forget W) cT):Rel n mb a':=
 ⟨gA.defers,gA.size,λt v hv=>by
  rcases hs t v hv with h|h
  ·exact gA.at_ t v h
  ·obtain⟨h1,h2⟩:=Env.Hv h;rw[hu t h1];exact hr.at_ t v h2⟩
theorem wi {Y:Type} {d:Y} {X:Type} {L:List (Nat×Sh)} {f:Ek X L} {K:X->Y} {n:Nat} {σ:Env} {a:Act} (hr:Rel n σ a) (hd: ∀t s,(t,s)∈L->∃v,σ t=some v):yG d L f (Hx a) K=yG d L f σ K:=
 yX L f λt s hm=>by
  obtain⟨v,hv⟩:=hd t s hm;rw[hv];unfold Hx;rw[hr.at_ t v hv]
def wpo (P:Program) (c:Code) (Q:Exit->Act->World->Prop) (a:Act) (w:World):Prop:=
 ∀(b:Frame) (k:List Item) (cs:List Frame),∃e a' w',Q e a' w'/\Arrives P (lone (b.at a ((opened c).map Item.code++k)) cs w) b k cs e a' w'
theorem wpo.wp {P:Program} {c:Code} {Q:Exit->Act->World->Prop} {a:Act} {w:World} (h:wpo P c Q a w):c.wp P Q a w:=λb k cs=>by
 obtain⟨e,a',w',hq,qX⟩:=h b k cs;exact⟨e,a',w',hq,.of_steps (sQ c k) qX⟩
theorem lQ {P:Program} {c:Code} {Q:Exit->Act->World->Prop} {a:Act} {w:World} (hc:opened c= [c]) (h:c.wp P Q a w):wpo P c Q a w:=λb k cs=>by
 rw[hc];exact h b k cs
theorem EW {P:Program} {c:Code} {Q Q':Exit->Act->World->Prop} {a:Act} {w:World} (h:wpo P c Q a w) (hq: ∀e a w,Q e a w->Q' e a w):wpo P c Q' a w:=
 λb k cs=>let ⟨e,a',w',q,r⟩:=h b k cs;⟨e,a',w',hq _ _ _ q,r⟩
theorem aff {P:Program} {x y:Code} {Q:Exit->Act->World->Prop} {a:Act} {w:World} (h:wpo P x (Exit.then (wpo P y Q) Q) a w):wpo P (.seq x y) Q a w:=by
 intro b k cs;simp only[opened,bm,cA,List.map_nil,dU,fv,fk];obtain⟨e,abF,abG,hq,qX⟩:=h b (.code y::k) cs;cases e with
 |normal=>
  obtain⟨apJ,apK,apL,amc,afg⟩:=hq b k cs;exact⟨apJ,apK,apL,amc,.of_steps (Steps.trans qX (sQ y k)) afg⟩
 |exit id=>exact⟨_,abF,abG,hq,.pass (x:=.code y) rfl (λ_ _=> .inl (by simp)) qX⟩
 |goto l=>exact⟨_,abF,abG,hq,.pass (x:=.code y) rfl (λ_ _=> .inl (by simp)) qX⟩
 |ret=>exact⟨_,abF,abG,hq,.pass (x:=.code y) rfl (λ_ _=> .inl (by simp)) qX⟩
 |panic ch=>exact⟨_,abF,abG,hq,.pass (x:=.code y) rfl (λ_ _=> .inl (by simp)) qX⟩
 |outgrown=>exact⟨_,abF,abG,hq,.pass (x:=.code y) rfl (λ_ _=> .inl (by simp)) qX⟩
theorem JF {P:Program} {Q:Exit->Act->World->Prop} {a:Act} {w:World} {c r:Code} {l:Nat} (hf:findLabel c l=some r) (I:Act->World->Prop) (μ:Act->World->Nat)
  (Q1:Exit->Act->World->Prop) (Q2:Act->World->Exit->Act->World->Prop)
  (h0:amb P l c Q1 a w) (h1: ∀a' w',Q1 (.goto l) a' w'->I a' w') (h1': ∀e a' w',e≠ .goto l->e≠ .normal->Q1 e a' w'->Q e a' w'/\∀x,e≠ .goto x)
  (round: ∀a w,I a w->wpo P r (Q2 a w) a w) (h2: ∀a w a' w',I a w->Q2 a w (.goto l) a' w'->I a' w'/\μ a' w'<μ a w) (h2': ∀a w e a' w',I a w->e≠ .goto l->Q2 a w e a' w'->Q e a' w'/\∀x,e≠ .goto x):
  (Code.scope c).wp P Q a w:=by
 intro b k cs;have out: ∀(m:Machine) (e:Exit) (a':Act) (w':World),(∀x,e≠ .goto x)->Arrives P m b (.inScope c::k) cs e a' w'->Arrives P m b k cs e a' w':=by
  intro m e a' w' kA qX;cases e with
  |normal=>exact Steps.trans qX (.one step_inScope)
  |exit id=>exact λk' hk=>qX k' (by simp[exitTo,hk])
  |goto x=>exact absurd rfl (kA x)
  |ret=>exact qX
  |panic ch=>exact qX
  |outgrown=>exact qX
 have key: ∀n a w,μ a w=n->I a w->∃e a' w',Q e a' w'/\Arrives P (lone (b.at a ((opened r).map Item.code++ .inScope c::k)) cs w) b k cs e a' w':=by
  intro n;induction n using Nat.strongRecOn with
  |_ n ih=>
   intro a w hn hI;obtain⟨e,a1,w1,hq,qX⟩:=round a w hI b (.inScope c::k) cs;by_cases he:e=.goto l
   ·subst he;obtain⟨hI1,jc⟩:=h2 a w a1 w1 hI hq;have xM:=qX (.code r:: .inScope c::k) (by simp[gotoIn,hf]);obtain⟨e2,a2,w2,Gw,JG⟩:=ih (μ a1 w1) (hn▸jc) a1 w1 rfl hI1;exact⟨e2,a2,w2,Gw,.of_steps (Steps.trans xM (sQ r _)) JG⟩
   ·obtain⟨hQ,kA⟩:=h2' a w e a1 w1 hI he hq;exact⟨e,a1,w1,hQ,out _ e a1 w1 kA qX⟩
 rcases h0 b (.inScope c::k) cs with⟨e,a',w',hq,he2,qX⟩|⟨a',w',r',hq,hr,xM⟩
 ·by_cases he1:e=.goto l
  ·subst he1;have xM:=qX (.code r:: .inScope c::k) (by simp[gotoIn,hf]);obtain⟨e2,a2,w2,Gw,JG⟩:=key _ a' w' rfl (h1 a' w' hq);exact⟨e2,a2,w2,Gw,.of_steps (.head step_scope (Steps.trans xM (sQ r _))) JG⟩
  ·obtain⟨hQ,kA⟩:=h1' e a' w' he1 he2 hq;exact⟨e,a',w',hQ,.of_steps (.one step_scope) (out _ e a' w' kA qX)⟩
 ·rw[hf] at hr;cases hr;obtain⟨e2,a2,w2,Gw,JG⟩:=key _ a' w' rfl (h1 a' w' hq);exact⟨e2,a2,w2,Gw,.of_steps (.head step_scope xM) JG⟩
def amd (P:Program) (c:Code) (Q:Exit->Act->World->Prop) (a:Act) (w:World):Option Nat->Prop
 |none=>wpo P c Q a w
 |some l=>amb P l c Q a w
theorem sR {P:Program} {n:Nat} : ∀(Gh:EN) (m:Option Nat) (c:Code) (Q:Exit->Env->aj->Prop) (σ:Env) (a:Act) (w:World),Rel n σ a->den P n Gh m c Q σ w.heap->amd P c (up n a w (writes c) Q) a w m
 | .leaf,none,c,Q,σ,a,w,hr,h=>by
  unfold den at h;split at h
  ·exact λb k cs=>⟨.normal,a,w,⟨σ,hr,h,iC.refl w,hY.refl _ _⟩,.refl _ _⟩
  ·exact lQ rfl (wp_label ⟨σ,hr,h,iC.refl w,hY.refl _ _⟩)
  ·exact lQ rfl (wp_exit ⟨σ,hr,h,iC.refl w,hY.refl _ _⟩)
  ·exact lQ rfl (wp_goto ⟨σ,hr,h,iC.refl w,hY.refl _ _⟩)
  ·exact lQ rfl (wp_ret ⟨σ,hr,h,iC.refl w,hY.refl _ _⟩)
  ·rename_i id ops;refine lQ rfl (wp_mono (wp_region (Q:=Iu n a w (cR ops) (Q .normal)) ?_) (λe a' w' hq=>Di hq));have:=Gu (a0:=a) (w0:=w) ops.toList 0 σ a w (by simp) hr (iC.refl w) (hY.refl _ _) h;rw[iM];simpa using this
  ·exact h.elim
 | .leaf,some l,c,Q,σ,a,w,hr,h=>by
  unfold den at h;split at h
  ·rename_i l';split at h
   ·rename_i hl;obtain rfl:l'=l:=cg hl;exact λb k cs=> .inr ⟨a,w,.skip,⟨σ,hr,h,iC.refl w,hY.refl _ _⟩,by simp[findLabel],.one step_label⟩
   ·exact h.elim
  ·exact h.elim
 | .mB p,none,c,Q,σ,a,w,hr,h=>by
  unfold den at h;split at h
  ·rename_i id ops;split at h
   ·rename_i hb;simp only[aW] at hb;obtain⟨⟨⟨h1,h2⟩,h3⟩,h4⟩:=hb;refine lQ rfl (wp_mono (wp_region_any (Q:=Iu n a w (cR ops) (Q .normal)) h1 ?_) (λe a' w' hq=>Di hq));have:=(OJ (a0:=a) (w0:=w) h2 p).1 ops.size (Array.replicate ops.size false) [] σ a { w with drawn:=w.drawn+1 } h3 h4 hr ⟨rfl,rfl,rfl⟩ (hY.refl _ _) (λ_ hm=>by cases hm) h;exact Am _ _ _ _ _ this
   ·exact h.elim
  ·exact h.elim
 | .qW p,none,c,Q,σ,a,w,hr,h=>by
  unfold den at h;split at h
  ·rename_i id ops;split at h
   ·rename_i hb;simp only[aW] at hb;obtain⟨⟨⟨h1,h2⟩,h3⟩,h4⟩:=hb;refine lQ rfl (wp_mono (wp_region_any (Q:=Iu n a w (cR ops) (Q .normal)) h1 ?_) (λe a' w' hq=>Di hq));have:=(LU (a0:=a) (w0:=w) h2 p).1 ops.size (Array.replicate ops.size false) [] [] [] σ a { w with drawn:=w.drawn+1 } h3 h4 hr ⟨rfl,rfl,rfl⟩ (hY.refl _ _) (λ_ hm=>by cases hm) (λ_ hm=>by cases hm) h;exact Am _ _ _ _ _ this
   ·exact h.elim
  ·exact h.elim
 | .seq x y,none,c,Q,σ,a,w,hr,h=>by
  unfold den at h;split at h
  ·rename_i c d;refine aff (EW (sR x none c _ σ a w hr h) ?_);rintro e a' w' ⟨cT,gA,hq,hs,hu⟩;have hW: ∀t,t∈writes c->t∈writes (.seq c d):=λt ht=>fJ _ ht
   cases e with
   |normal=>
    refine EW (sR y none d Q cT a' w' gA hq) ?_;rintro e2 a2 w2 ⟨σ2,hr2,Gw,hs2,hu2⟩;exact⟨σ2,hr2,Gw,hs.trans hs2,(hu.mono hW).trans (hu2.mono λt ht=>fZ _ ht)⟩
   |exit id=>exact⟨cT,gA,hq,hs,hu.mono hW⟩
   |goto l=>exact⟨cT,gA,hq,hs,hu.mono hW⟩
   |ret=>exact⟨cT,gA,hq,hs,hu.mono hW⟩
   |panic ch=>exact⟨cT,gA,hq,hs,hu.mono hW⟩
   |outgrown=>exact⟨cT,gA,hq,hs,hu.mono hW⟩
  ·exact h.elim
 | .seq x y,some l,c,Q,σ,a,w,hr,h=>by
  unfold den at h;split at h
  ·rename_i c d;have hW: ∀t,t∈writes c->t∈writes (.seq c d):=λt ht=>fJ _ ht
   have hW2: ∀t,t∈writes d->t∈writes (.seq c d):=λt ht=>fZ _ ht
   split at h
   ·rename_i hl;have ih:=sR x (some l) c Q σ a w hr h;intro b k cs;rcases ih b (.code d::k) cs with⟨e,a',w',hq,he2,qX⟩|⟨a',w',r,hq,hf,xM⟩
    ·obtain⟨cT,gA,hq,hs,hu⟩:=hq;exact .inl ⟨e,a',w',⟨cT,gA,hq,hs,hu.mono hW⟩,he2,.of_steps (.one step_seq) (.pass (x:=.code d) rfl (λ_ _=> .inl he2) qX)⟩
    ·obtain⟨cT,gA,hq,hs,hu⟩:=hq;refine .inr ⟨a',w',.seq r d,⟨cT,gA,hq,hs,hu.mono hW⟩,by simp[findLabel,hf],.head step_seq ?_⟩;simpa[opened] using xM
   ·rename_i hl;have ih:=sR x none c _ σ a w hr h;have hfc:findLabel c l=none:=by
     have:=yH c l;rw[hl] at this;cases hq:findLabel c l with
     |none=>rfl
     |some r=>rw[hq] at this;cases this
    intro b k cs;obtain⟨e,a',w',⟨cT,gA,hq,hs,hu⟩,qX⟩:=ih.wp b (.code d::k) cs;cases e with
    |normal=>
     rcases sR y (some l) d Q cT a' w' gA hq b k cs with⟨e2,a2,w2,Gw,he2,JG⟩|⟨a2,w2,r,Gw,hf2,apM⟩
     ·obtain⟨σ2,hr2,Gw,hs2,hu2⟩:=Gw;exact .inl ⟨e2,a2,w2,⟨σ2,hr2,Gw,hs.trans hs2,(hu.mono hW).trans (hu2.mono hW2)⟩,he2,.of_steps (.head step_seq qX) JG⟩
     ·obtain⟨σ2,hr2,Gw,hs2,hu2⟩:=Gw;exact .inr ⟨a2,w2,r,⟨σ2,hr2,Gw,hs.trans hs2,(hu.mono hW).trans (hu2.mono hW2)⟩,by simp[findLabel,hfc,hf2],.head step_seq (Steps.trans qX apM)⟩
    |exit id=>exact .inl ⟨_,a',w',⟨cT,gA,hq,hs,hu.mono hW⟩,by simp,.of_steps (.one step_seq) (.pass (x:=.code d) rfl (λ_ _=> .inl (by simp)) qX)⟩
    |goto l'=>exact .inl ⟨_,a',w',⟨cT,gA,hq,hs,hu.mono hW⟩,by simp,.of_steps (.one step_seq) (.pass (x:=.code d) rfl (λ_ _=> .inl (by simp)) qX)⟩
    |ret=>exact .inl ⟨_,a',w',⟨cT,gA,hq,hs,hu.mono hW⟩,by simp,.of_steps (.one step_seq) (.pass (x:=.code d) rfl (λ_ _=> .inl (by simp)) qX)⟩
    |panic ch=>exact .inl ⟨_,a',w',⟨cT,gA,hq,hs,hu.mono hW⟩,by simp,.of_steps (.one step_seq) (.pass (x:=.code d) rfl (λ_ _=> .inl (by simp)) qX)⟩
    |outgrown=>exact .inl ⟨_,a',w',⟨cT,gA,hq,hs,hu.mono hW⟩,by simp,.of_steps (.one step_seq) (.pass (x:=.code d) rfl (λ_ _=> .inl (by simp)) qX)⟩
  ·exact h.elim
 | .cond x y,none,c,Q,σ,a,w,hr,h=>by
  unfold den at h;split at h
  ·rename_i k c d;split at h
   ·rename_i q hq;have he:=hr.fits _ _ hq;split at h
    ·rename_i ht;subst ht;refine lQ rfl (wp_cond_true he (wp_mono (sR x none c Q σ a w hr h).wp ?_));rintro e a' w' ⟨cT,gA,hq,hs,hu⟩;exact⟨cT,gA,hq,hs,hu.mono λt ht=>fJ _ ht⟩
    ·rename_i ht;have ht:q=false:=by simpa using ht
     subst ht;refine lQ rfl (wp_cond_false he (wp_mono (sR y none d Q σ a w hr h).wp ?_));rintro e a' w' ⟨cT,gA,hq,hs,hu⟩;exact⟨cT,gA,hq,hs,hu.mono λt ht=>fZ _ ht⟩
   ·exact h.elim
  ·exact h.elim
 | .block x,none,c,Q,σ,a,w,hr,h=>by
  unfold den at h;split at h
  ·rename_i id c;refine lQ rfl (wp_block (wp_mono (sR x none c _ σ a w hr h).wp ?_));rintro e a' w' ⟨cT,gA,hq,hs,hu⟩;cases e with
   |exit id'=>
    simp only[Exit.inBlock];simp only[abE] at hq;by_cases hid:id'=id
    ·subst hid;simp only[Nat.beq_refl] at hq;rw[ag rfl];exact⟨cT,gA,hq,hs,hu⟩
    ·rw[ai hid];have:Nat.beq id' id=false:=by cases hb:Nat.beq id' id;rfl;exact absurd (cg hb) hid
     rw[this] at hq;exact⟨cT,gA,hq,hs,hu⟩
   |normal=>exact⟨cT,gA,hq,hs,hu⟩
   |goto l=>exact⟨cT,gA,hq,hs,hu⟩
   |ret=>exact⟨cT,gA,hq,hs,hu⟩
   |panic ch=>exact⟨cT,gA,hq,hs,hu⟩
   |outgrown=>exact⟨cT,gA,hq,hs,hu⟩
  ·exact h.elim
 | .loop L x,none,c,Q,σ,a,w,hr,h=>by
  unfold den at h;split at h
  ·rename_i c;obtain⟨I,μ,h0,Q5⟩:=h;refine lQ rfl (wp_loop (λa' w'=> ∃cT,Rel n cT a'/\yG False L I cT (λf=>f w'.heap)/\iC w w'/\hY (writes c) a a')
    (λa' w'=>yG 0 L μ (Hx a') (λf=>f w'.heap)) ⟨σ,hr,h0,iC.refl w,hY.refl _ _⟩ ?_)
   rintro a' w' ⟨cT,gA,hI,hs,hu⟩;obtain⟨mb,hF,qY,hL,_⟩:=I5 L _ I Q5 hI;have Q6:=Rel.Em hr gA hu qY;have Q7:yG False L I mb (λf=>f w'.heap):=by rw[yX L I hL];exact hI
   have hd:=hF w'.heap Q7;refine wp_mono (sR x none c _ mb a' w' Q6 hd).wp ?_;rintro e a1 w1 ⟨tR,pJ,hq,EY,T8⟩;cases e with
   |normal=>
    obtain⟨hI1,jc⟩:=hq;refine⟨⟨tR,pJ,hI1,hs.trans EY,hu.trans T8⟩,?_⟩;rw[wi pJ (Ak L I hI1),wi Q6 (Ak L I Q7)];exact jc
   |exit id=>exact⟨tR,pJ,hq,hs.trans EY,hu.trans T8⟩
   |goto l=>exact⟨tR,pJ,hq,hs.trans EY,hu.trans T8⟩
   |ret=>exact⟨tR,pJ,hq,hs.trans EY,hu.trans T8⟩
   |panic ch=>exact⟨tR,pJ,hq,hs.trans EY,hu.trans T8⟩
   |outgrown=>exact⟨tR,pJ,hq,hs.trans EY,hu.trans T8⟩
  ·exact h.elim
 | .join L x,none,c,Q,σ,a,w,hr,h=>by
  unfold den at h;unfold aK at h;refine EW (sR x none c _ σ a w hr h) ?_;rintro e a' w' ⟨cT,gA,hq,hs,hu⟩;cases e with
  |normal=>
   obtain⟨mb,hQ,qY⟩:=JB L _ hq;exact⟨mb,Rel.Em hr gA hu qY,hQ,hs,hu⟩
  |exit id=>exact⟨cT,gA,hq,hs,hu⟩
  |goto l=>exact⟨cT,gA,hq,hs,hu⟩
  |ret=>exact⟨cT,gA,hq,hs,hu⟩
  |panic ch=>exact⟨cT,gA,hq,hs,hu⟩
  |outgrown=>exact⟨cT,gA,hq,hs,hu⟩
 | .scope l L x y,none,c,Q,σ,a,w,hr,h=>by
  unfold den at h;split at h
  ·rename_i c;split at h
   ·rename_i r hf;obtain⟨I,μ,h0,Q5⟩:=h;have hWr:=uq c l r hf;have abH: ∀(K:Env->aj->Prop) (e:Exit) (cT:Env) (h':aj),e≠ .goto l->Hw l K Q e cT h'->Q e cT h'/\∀z,e≠ .goto z:=by
     intro K e cT h' kA hq;cases e with
     |goto z=>
      simp only[Hw] at hq;have:Nat.beq z l=false:=by cases hb:Nat.beq z l;rfl;exact absurd (by rw[cg hb]) kA
      rw[this] at hq;exact hq.elim
     |normal=>exact⟨hq,λz hz=>by cases hz⟩
     |exit id=>exact⟨hq,λz hz=>by cases hz⟩
     |ret=>exact⟨hq,λz hz=>by cases hz⟩
     |panic ch=>exact⟨hq,λz hz=>by cases hz⟩
     |outgrown=>exact⟨hq,λz hz=>by cases hz⟩
    refine lQ rfl (JF hf (λa' w'=> ∃cT,Rel n cT a'/\yG False L I cT (λf=>f w'.heap)/\iC w w'/\hY (writes c) a a')
     (λa' w'=>yG 0 L μ (Hx a') (λf=>f w'.heap)) _
     (λa0 w0 e a' w'=> ∃cT,Rel n cT a'/\Hw l (λmb OK=>yG False L I mb (λf=>f OK)/\yG 0 L μ mb (λf=>f OK)<yG 0 L μ (Hx a0) (λf=>f w0.heap)) Q e cT w'.heap/\iC w w'/\hY (writes c) a a')
     (sR x (some l) c _ σ a w hr h0) ?_ ?_ ?_ ?_ ?_)
    ·rintro a' w' ⟨cT,gA,hq,hs,hu⟩;simp only[Hw,Nat.beq_refl] at hq;exact⟨cT,gA,hq,hs,hu⟩
    ·rintro e a' w' he1 _ ⟨cT,gA,hq,hs,hu⟩;obtain⟨Hz,Gw⟩:=abH _ e cT _ he1 hq;exact⟨⟨cT,gA,Hz,hs,hu⟩,Gw⟩
    ·rintro a' w' ⟨cT,gA,hI,hs,hu⟩;obtain⟨mb,hF,qY,hL,_⟩:=I5 L _ I Q5 hI;have Q6:=Rel.Em hr gA hu qY;have Q7:yG False L I mb (λf=>f w'.heap):=by rw[yX L I hL];exact hI
     have hd:=hF w'.heap Q7;refine EW (sR y none r _ mb a' w' Q6 hd) ?_;rintro e a1 w1 ⟨tR,pJ,hq,EY,T8⟩;refine⟨tR,pJ,?_,hs.trans EY,hu.trans (T8.mono hWr)⟩;cases e with
     |goto z=>
      simp only[Hw] at hq⊢;cases hz:Nat.beq z l with
      |false=>rw[hz] at hq;exact hq.elim
      |true=>
       rw[hz] at hq;obtain⟨q1,q2⟩:=hq;exact⟨q1,by rw[wi Q6 (Ak L I Q7)];exact q2⟩
     |normal=>exact hq
     |exit id=>exact hq
     |ret=>exact hq
     |panic ch=>exact hq
     |outgrown=>exact hq
    ·rintro a0 w0 a' w' _ ⟨cT,gA,hq,hs,hu⟩;simp only[Hw,Nat.beq_refl] at hq;obtain⟨q1,q2⟩:=hq;refine⟨⟨cT,gA,q1,hs,hu⟩,?_⟩;rw[wi gA (Ak L I q1)];exact q2
    ·rintro a0 w0 e a' w' _ he ⟨cT,gA,hq,hs,hu⟩;obtain⟨Hz,Gw⟩:=abH _ e cT _ he hq;exact⟨⟨cT,gA,Hz,hs,hu⟩,Gw⟩
   ·exact h.elim
  ·exact h.elim
 | .mB _,some _,_,_,_,_,_,_,h=>h.elim
 | .qW _,some _,_,_,_,_,_,_,h=>h.elim
 | .cond _ _,some _,_,_,_,_,_,_,h=>h.elim
 | .block _,some _,_,_,_,_,_,_,h=>h.elim
 | .loop _ _,some _,_,_,_,_,_,_,h=>h.elim
 | .join _ _,some _,_,_,_,_,_,_,h=>h.elim
 | .scope _ _ _ _,some _,_,_,_,_,_,_,h=>h.elim
 | .typed _,some _,_,_,_,_,_,_,h=>h.elim
 | .typed ty,none,c,Q,σ,a,w,hr,h=>by
  unfold den at h;split at h
  ·rename_i id ops;refine lQ rfl (wp_mono (wp_region (Q:=Iu n a w (cR ops) (Q .normal)) ?_) (λe a' w' hq=>Di hq));have:=El (a0:=a) (w0:=w) ops.toList 0 σ a w (by simp) hr (iC.refl w) (hY.refl _ _) h;rw[iM];simpa using this
  ·exact h.elim
def Eo (P:Program):List ResultVar->Env->aj->(List Value->Prop)->Prop
 | [],_,_,F=>F []
 | .tmp t::rs,σ,h,F=>aP (σ t) λv=>Eo P rs σ h λvs=>F (v::vs)
 | .cell a t::rs,σ,h,F=>(match σ a with
  |some (.pointer p)=>aP p λad=>Dg P t h ad λv _=>Eo P rs σ h λvs=>F (v::vs)
  |_=>False)
def HA (vs:List Value):Value:=
 match vs with
 | [v]=>v
 |vs=> .tuple vs.toArray
def ajz (P:Program) (rs:Array ResultVar) (R:iI):Exit->Env->aj->Prop
 | .normal,σ,h=>Eo P rs.toList σ h λvs=>R (HA vs) h
 | .ret,σ,h=>Eo P rs.toList σ h λvs=>R (HA vs) h
 |_,_,_=>False
def wH (args:List Value):Env:=λt=>args[t]?
def ZZ (a:Act):ResultVar->Sem Value
 | .tmp t=>pure (a.tmps.getD t undef)
 | .cell ad t=>do loadVar t (<-asAddr (a.tmps.getD ad undef))
theorem OM {P:Program} {n:Nat} {σ:Env} {a:Act} {h:aj} (hr:Rel n σ a): ∀(rs:List ResultVar) (F:List Value->Prop),Eo P rs σ h F->∃vs,F vs/\
  rd P (rs.mapM (ZZ a)) h=some vs
 | [],F,hh=>⟨[],hh,rfl⟩
 | .tmp t::rs,F,hh=>by
  obtain⟨v,hv,hh⟩:=cG.1 hh;obtain⟨vs,h1,h2⟩:=OM hr rs _ hh;refine⟨v::vs,h1,?_⟩;rw[List.mapM_cons];have h6:rd P (ZZ a (.tmp t)) h=some v:=by
   show some (a.tmps.getD t undef)=some v;rw[hr.at_ t v hv]
  rw[bu _ _ _ _ h6,bu _ _ _ _ h2];rfl
 | .cell ad t::rs,F,hh=>by
  simp only[Eo] at hh;split at hh
  ·rename_i p hp;obtain⟨b,rfl,V0⟩:=cG.1 hh;obtain⟨v,S,h1,h2,h3⟩:=Jy V0;obtain⟨vs,h4,h5⟩:=OM hr rs _ h1;refine⟨v::vs,h4,?_⟩;rw[List.mapM_cons];have h6:rd P (ZZ a (.cell ad t)) h=some v:=by
    show rd P (do loadVar t (<-asAddr (a.tmps.getD ad undef))) h=_;rw[hr.at_ ad _ hp];exact h3 h h2
   rw[bu _ _ _ _ h6,bu _ _ _ _ h5];rfl
  ·exact hh.elim
theorem Ep {P:Program} {n:Nat} {σ:Env} {a:Act} {h:aj} {fn:Func} {F:Value->Prop} (hr:Rel n σ a) (hh:Eo P fn.results.toList σ h λvs=>F (HA vs)):
  ∃v,F v/\rd P (results fn a.tmps) h=some v:=by
 obtain⟨vs,h1,h2⟩:=OM hr _ _ hh;refine⟨_,h1,?_⟩;have h3:rd P (fn.results.mapM (ZZ a)) h=some vs.toArray:=by
  rw[Array.mapM_eq_mapM_toList];show rd P (fn.results.toList.mapM (ZZ a)>>=λl=>pure (List.toArray l)) h=_;rw[bu _ _ _ _ h2];rfl
 have h4:results fn a.tmps=fn.results.mapM (ZZ a)>>=λvs=>pure (if h:vs.size=1 then vs[0] else .tuple vs):=by
  unfold results;congr 1
 rw[h4,bu _ _ _ _ h3]
 match vs with
 | []=>rfl
 | [v]=>rfl
 |u::v::vs=>rfl
theorem LV {P:Program} {f:FuncId} {fn:Func} {c:Code} {args:List Value} {h:aj} {R:iI} (Gh:EN)
  (hf:P.funcs[f]? =some fn) (hb:fn.body=some c) (hn:Nat.ble args.length fn.ntmps=true)
  (hd:den P fn.ntmps Gh none c (ajz P fn.results R) (wH args) h):wD P f args.toArray h R:=by
 intro w hw;subst hw;have hn:=Nat.le_of_ble_eq_true hn;refine calls_of_wp hf hb ?_;have hr:Rel fn.ntmps (wH args) { tmps:=args.toArray++Array.replicate (fn.ntmps - args.toArray.size) undef,defers:= [] } :=by
  refine⟨rfl,by simp;omega,λt v hv=> ?_⟩;unfold wH at hv;have jc:t<args.length:=(aG.1 hv).1;simp only[gC];rw[eX (by simpa using jc)];simp[hv]
 refine wp_mono (sR Gh none c _ _ _ w hr hd).wp ?_;rintro e a w' ⟨σ,hr,hq,hs,_⟩;have fin:Eo P fn.results.toList σ w'.heap (λvs=>R (HA vs) w'.heap)->a.defers= []/\∃v,(results fn a.tmps).run P w'=.ok v w'/\∃v',Ending.returned v=.returned v'/\R v' w'.heap/\iC w w':=λhh=>by
  obtain⟨v,h1,h2⟩:=Ep (F:=λv=>R v w'.heap) hr hh;exact⟨hr.defers,v,BQ _ _ _ h2,v,rfl,h1,hs⟩
 cases e with
 |normal=>exact fin hq
 |ret=>exact fin hq
 |exit id=>exact hq.elim
 |goto l=>exact hq.elim
 |panic ch=>exact hq.elim
 |outgrown=>exact hq.elim
def Er (fn:Func):Code:=fn.body.getD .skip
theorem JH {P:Program} {f:FuncId} {fn:Func} {args:List Value} {h:aj} {R:iI} (Gh:EN)
  (hf:P.funcs[f]? =some fn) (hb:fn.body.isSome=true) (hn:Nat.ble args.length fn.ntmps=true)
  (hd:den P fn.ntmps Gh none (Er fn) (ajz P fn.results R) (wH args) h):wD P f args.toArray h R:=by
 obtain⟨c,hc⟩:=gO.1 hb;refine LV Gh hf hc hn ?_;rw[Er,hc] at hd;exact hd
end Go.Den
namespace Go.Den
theorem wj {h:aj} {b i:Nat} {c:Array Value} {t:TypeId} {f:Nat×Nat} (hb:h[b]? =some (.cells c t f)):ak h (AA b i)=c[i]? :=by
 simp[ak,hb]
theorem xY {h:aj} {b i:Nat} {c:Array Value} {t:TypeId} (hb:h[b]? =some (.cells c t (0,0))):Ae h (AA b i)=false:=by
 simp[Ae,hb]
theorem JI {h:aj} {a:Addr} {v:Value} (hc:ak h a=some v): ∃c t f,h[a.block]? =some (.cells c t f)/\a.spot=none/\c[a.off]? =some v:=by
 unfold ak at hc;split at hc
 ·rename_i c t f hb;split at hc
  ·cases hc
  ·rename_i hs;exact⟨c,t,f,hb,by simpa using hs,hc⟩
 ·cases hc
theorem aI {h:aj} {b:Nat} {o:Obj} (hb:h[b]? =some o):b<h.size:=(Array.getElem?_eq_some_iff.1 hb).1
theorem JJ {h:aj} {b:Nat} {o x:Obj} (hb:h[b]? =some o):(h.push x)[b]? =some o:=by
 rw[iA,ai (Nat.ne_of_lt (aI hb)),hb]
theorem cz {h:aj} {x:Obj} :(h.push x)[h.size]? =some x:=by simp
theorem Gx {h:aj} {b i:Nat} {c:Array Value} {t:TypeId} {f:Nat×Nat} {v:Value} (hb:h[b]? =some (.cells c t f)):(yW h (AA b i) v)[b]? =some (.cells (c.setIfInBounds i v) t f):=by
 simp[yW,fD,hb]
theorem Es {h:aj} {a:Addr} {b:Nat} {v:Value} (kA:b≠a.block):(yW h a v)[b]? =h[b]? :=by
 simp[yW,fD,ie kA]
theorem MF {h:aj} {a:Addr} {v:Value} :(yW h a v).size=h.size:=by simp[yW]
theorem kB (b o n:Nat):((AA b o):Addr).add n=(AA b (o+n)):=by
 unfold Addr.add;split
 ·rename_i hn;subst hn;rfl
 ·rfl
theorem add_add (a:Addr) (m n:Nat):(a.add m).add n=a.add (m+n):=by
 unfold Addr.add;split
 ·rename_i hn;subst hn;simp
 ·split
  ·rename_i hn hm;subst hm;simp[hn]
  ·rename_i hn hm;have:m+n≠0:=by omega
   rw[ai this];simp[Nat.add_assoc]
def Fr (S:Nat->Prop) (h h':aj):Prop:=h.size<=h'.size/\∀c,c<h.size->¬S c->h'[c]? =h[c]?
theorem Fr.refl (S:Nat->Prop) (h:aj):Fr S h h:=⟨bh _,λ_ _ _=>rfl⟩
theorem Fr.get {S:Nat->Prop} {h h':aj} (hf:Fr S h h') {c:Nat} {o:Obj} (hc:h[c]? =some o) (hn: ¬S c):h'[c]? =some o:=
 (hf.2 c (aI hc) hn).trans hc
theorem Fr.trans {S S' S'':Nat->Prop} {h h1 h2:aj} (hf:Fr S h h1) (hf':Fr S' h1 h2) (hs: ∀c,c<h.size->S c->S'' c) (DC: ∀c,c<h.size->S' c->S'' c):Fr S'' h h2:=
 ⟨dv hf.1 hf'.1,λc hc hn=>(hf'.2 c (cS hc hf.1) (λhq=>hn (DC c hc hq))).trans (hf.2 c hc (λhq=>hn (hs c hc hq)))⟩
theorem Fr.mono {S S':Nat->Prop} {h h':aj} (hf:Fr S h h') (hs: ∀c,c<h.size->S c->S' c):Fr S' h h':=
 ⟨hf.1,λc hc hn=>hf.2 c hc (λhq=>hn (hs c hc hq))⟩
theorem Fr.push {S:Nat->Prop} (h:aj) (o:Obj):Fr S h (h.push o):=
 ⟨by simp,λc hc _=>by rw[iA,ai (Nat.ne_of_lt hc)]⟩
theorem Fr.cell {S:Nat->Prop} {h h':aj} (hf:Fr S h h') {a:Addr} {v:Value} (hc:ak h a=some v) (hn: ¬S a.block):ak h' a=some v:=by
 obtain⟨c,t,f,hb,hs,hv⟩:=JI hc;have:=hf.get hb hn;unfold ak;rw[this];simp[hs,hv]
def oK (l:List (Int×Value)) (k:Int):Option Value:=(l.find? (·.1==k)).map (·.2)
def Q8 (l:List (Int×Value)) (k:Int) (v:Value):List (Int×Value):=if(oK l k).isSome=true then l.map (λe=>if e.1==k then(k,v) else e) else l++ [(k,v)]
def Gy (l:List (Int×Value)) (k:Int):List (Int×Value):=l.filter (λe=> !(e.1==k))
theorem abI (k:Int):oK [] k=none:=rfl
theorem jV (e:Int×Value) (l:List (Int×Value)) (k:Int):oK (e::l) k=if e.1=k then some e.2 else oK l k:=by
 unfold oK;by_cases h:e.1=k<;>simp[h]
theorem Q9 {l:List (Int×Value)} {k:Int} :(oK l k).isSome=true↔k∈l.map (·.1):=by
 induction l with
 |nil=>simp[oK]
 |cons e l ih=>
  rw[jV,cA,bP];by_cases h:e.1=k
  ·simp[h]
  ·rw[ai h,ih];constructor
   ·exact λhm=> .inr hm
   ·rintro(e'|hm)
    ·exact absurd e'.symm h
    ·exact hm
theorem JK (l:List (Int×Value)) (k k':Int) (v:Value) (kA:k'≠k):oK (l.map (λe=>if e.1==k then(k,v) else e)) k'=oK l k':=by
 induction l with
 |nil=>rfl
 |cons e l ih=>
  rw[cA,jV,jV,ih];by_cases h:e.1=k
  ·simp[h,ie kA]
  ·simp[h]
theorem LW (l:List (Int×Value)) (k:Int) (v:Value) (hm:(oK l k).isSome=true):oK (l.map (λe=>if e.1==k then(k,v) else e)) k=some v:=by
 induction l with
 |nil=>simp[oK] at hm
 |cons e l ih=>
  rw[cA,jV];by_cases h:e.1=k
  ·simp[h]
  ·rw[jV,ai h] at hm;have hb:(e.1==k)=false:=by simp[h]
   rw[hb];simp only[aA,aU,ai h];exact ih hm
theorem Ra (l l':List (Int×Value)) (k:Int):oK (l++l') k=(oK l k).or (oK l' k):=by
 induction l with
 |nil=>simp[oK]
 |cons e l ih=>
  rw[fv,jV,jV,ih];by_cases h:e.1=k<;>simp[h]
theorem Z6 (l:List (Int×Value)) (k k':Int) (v:Value):oK (Q8 l k v) k'=if k'=k then some v else oK l k':=by
 unfold Q8;by_cases hm:(oK l k).isSome=true
 ·rw[ag hm];by_cases h:k'=k
  ·subst h;rw[ag rfl,LW _ _ _ hm]
  ·rw[ai h,JK _ _ _ _ h]
 ·rw[ai hm,Ra,jV,abI];have hn:oK l k=none:=by simpa using hm
  by_cases h:k'=k
  ·subst h;simp[hn]
  ·simp[h,ie h]
theorem Z9 (l:List (Int×Value)) (k k':Int):oK (Gy l k) k'=if k'=k then none else oK l k':=by
 unfold Gy;induction l with
 |nil=>simp[oK]
 |cons e l ih=>
  rw[cC,jV];by_cases h:e.1=k
  ·subst h;simp only[beq_self_eq_true,dW,aA,aU];rw[ih];by_cases hk:k'=e.1
   ·simp[hk]
   ·simp[hk,ie hk]
  ·have hb:(!(e.1==k))=true:=by simp[h]
   rw[ag hb,jV,ih];by_cases hk:k'=k
   ·subst hk;simp[h]
   ·simp[hk]
theorem aaa (l:List (Int×Value)) (k:Int) (v:Value) (hn:(l.map (·.1)).Nodup):((Q8 l k v).map (·.1)).Nodup:=by
 unfold Q8;by_cases hm:(oK l k).isSome=true
 ·rw[ag hm];have:(l.map (λe=>if e.1==k then(k,v) else e)).map (·.1)=l.map (·.1):=by
   rw[fG];apply fV
   intro e _;by_cases h:e.1=k<;>simp[h]
  rw[this];exact hn
 ·rw[ai hm,bm];rw[Q9] at hm;rw[gh];exact⟨hn,by simp,by intro a ha b hb;simp at hb;subst hb;intro e;subst e;exact hm ha⟩
theorem aab (l:List (Int×Value)) (k:Int) (hn:(l.map (·.1)).Nodup):((Gy l k).map (·.1)).Nodup:=
 List.Sublist.nodup (iD _ cU) hn
def B5 (h:aj) (m:Nat) (l:List (Int×Value)):Prop:=
 ∃(es:Array MapEntry) (clock:Nat),h[m]? =some (.map es clock)/\es.toList.map (λe=>(e.key,e.val))=l.map (λe=>(Value.int .i64 e.1,e.2))/\(l.map (·.1)).Nodup/\
  (∀e∈es.toList,e.born<clock)/\(es.toList.map (·.born)).Nodup
def xS (h:aj) (m:Nat) (f:Int->Option Value):Prop:= ∃l,B5 h m l/\∀k,oK l k=f k
theorem B5.wI {h h':aj} {m:Nat} {l:List (Int×Value)} (hm:B5 h m l) (he:h'[m]? =h[m]?):B5 h' m l:=by
 obtain⟨es,clock,h1,h2⟩:=hm;exact⟨es,clock,he.trans h1,h2⟩
theorem B5.lt {h:aj} {m:Nat} {l:List (Int×Value)} (hm:B5 h m l):m<h.size:=by
 obtain⟨es,clock,h1,_⟩:=hm;exact aI h1
theorem B5.frame {S:Nat->Prop} {h h':aj} {m:Nat} {l:List (Int×Value)} (hm:B5 h m l) (hf:Fr S h h') (hn: ¬S m):B5 h' m l:=
 hm.wI (hf.2 m hm.lt hn)
theorem xS.wI {h h':aj} {m:Nat} {f:Int->Option Value} (hm:xS h m f) (he:h'[m]? =h[m]?):xS h' m f:=by
 obtain⟨l,h1,h2⟩:=hm;exact⟨l,h1.wI he,h2⟩
theorem xS.lt {h:aj} {m:Nat} {f:Int->Option Value} (hm:xS h m f):m<h.size:=by
 obtain⟨l,h1,_⟩:=hm;exact h1.lt
theorem xS.frame {S:Nat->Prop} {h h':aj} {m:Nat} {f:Int->Option Value} (hm:xS h m f) (hf:Fr S h h') (hn: ¬S m):xS h' m f:=by
 obtain⟨l,h1,h2⟩:=hm;exact⟨l,h1.frame hf hn,h2⟩
theorem xS.map {h:aj} {m:Nat} {f:Int->Option Value} (hm:xS h m f): ∃es clock,h[m]? =some (.map es clock):=by
 obtain⟨l,⟨es,clock,h1,_⟩,_⟩:=hm;exact⟨es,clock,h1⟩
theorem B5.push (h:aj):B5 (h.push (.map #[] 0)) h.size []:=⟨#[],0,cz,rfl,by simp,by simp,by simp⟩
theorem xS.push (h:aj):xS (h.push (.map #[] 0)) h.size (λ_=>none):=⟨[],B5.push h,λ_=>rfl⟩
theorem Ca {k:Int} : ∀(es:List MapEntry) (l:List (Int×Value)) (i:Nat) (d:IntKind),es.map (λe=>(e.key,e.val))=l.map (λe=>(Value.I e.1,e.2))->
  (oK l k=none->Instr.findNow (.int d) (.I k) es i=some none)/\
  (∀v,oK l k=some v->∃j,Instr.findNow (.int d) (.I k) es i=some (some (i+j,v))/\∃e,es[j]? =some e/\e.key=.I k/\e.val=v)
 | [],l,i,d,h=>by
  have:l= []:=by cases l<;>simp at h⊢
  subst this;exact⟨λ_=>rfl,λv hv=>by simp[oK] at hv⟩
 |e::es,l,i,d,h=>by
  cases l with
  |nil=>simp at h
  |cons x l=>
   simp only[cA,List.cons.injEq,jK] at h;obtain⟨⟨hk,hv⟩,abD⟩:=h;have ih:=Ca (k:=k) es l (i+1) d abD;have hs:Instr.sameNow (.int d) (.I k) e.key=some (k==x.1):=by rw[hk];simp[Instr.sameNow]
   by_cases hkx:x.1=k
   ·refine⟨(λhn=>by rw[jV,ag hkx] at hn;cases hn),λv hv'=>⟨0,?_,e,rfl,by rw[hk,hkx],?_⟩⟩
    ·rw[jV,ag hkx] at hv';simp only[bE] at hv';simp[Instr.findNow,hs,hkx,hv,hv']
    ·rw[jV,ag hkx] at hv';simp only[bE] at hv';rw[hv,hv']
   ·have hkf:(k==x.1)=false:=by simp[ie hkx]
    rw[hkf] at hs;refine⟨λhn=> ?_,λv hv'=> ?_⟩
    ·rw[jV,ai hkx] at hn;simp only[Instr.findNow,hs];exact ih.1 hn
    ·rw[jV,ai hkx] at hv';obtain⟨j,h1,e',h2,h3⟩:=ih.2 v hv';refine⟨j+1,?_,e',by simpa using h2,h3⟩;simp only[Instr.findNow,hs];rw[h1,show i+1+j=i+(j+1) by omega]
section
variable {P : Program}
theorem Cc {empty:Bool} {n:Nat} {t:TypeId} {d:IntKind} {v:Value} {h:aj} (ht:P.underlying t=some (.int d)):rd P (Instr.checkKey empty (n+1) t v) h=some ():=by
 unfold Instr.checkKey;rw[bu _ _ _ _ (bD ht)];rfl
theorem vx {t:TypeId} {d:IntKind} {k:Int} {es:List MapEntry} {l:List (Int×Value)} {h:aj} (ht:P.underlying t=some (.int d))
  (hl:es.map (λe=>(e.key,e.val))=l.map (λe=>(Value.I e.1,e.2))) (hk:oK l k=none):rd P (Instr.findKey t (.I k) es) h=some none:=by
 unfold Instr.findKey;rw[bu _ _ _ _ (bD ht)];simp only[(Ca es l 0 d hl).1 hk];rfl
theorem vy {t:TypeId} {d:IntKind} {k:Int} {v:Value} {es:List MapEntry} {l:List (Int×Value)} {h:aj} (ht:P.underlying t=some (.int d))
  (hl:es.map (λe=>(e.key,e.val))=l.map (λe=>(Value.I e.1,e.2))) (hk:oK l k=some v): ∃j,rd P (Instr.findKey t (.I k) es) h=some (some (j,v))/\∃e,es[j]? =some e/\e.key=.I k/\e.val=v:=by
 obtain⟨j,h1,h2⟩:=(Ca es l 0 d hl).2 v hk;refine⟨j,?_,h2⟩;unfold Instr.findKey;rw[bu _ _ _ _ (bD ht)];simp only[h1,bZ];rfl
theorem oL {t:TypeId} {i:TypeInfo} {z:Value} {h:aj} (hi:P.info? t=some i) (hz:i.zero=some z):rd P (zeroValue t) h=some z:=by
 unfold zeroValue;rw[bu _ _ _ _ (lK hi),hz];rfl
theorem ph {r:Nat} {es:Array MapEntry} {c:Nat} {h:aj} (hr:h[r]? =some (.map es c)):rd P (getObj r) h=some (.map es c):=by
 unfold getObj;simp only[rd,hr]
structure Cd (P:Program) (t:TypeId) (z:Value):Prop where
 ty: ∃k e d,P.underlying t=some (.map k e)/\P.underlying k=some (.int d)/\∃i,P.info? e=some i/\i.zero=some z
theorem Cd.of {P:Program} {t:TypeId} {z:Value} (k e:TypeId) (d:IntKind) (h1:P.underlying t=some (.map k e)) (h2:P.underlying k=some (.int d)) (h3:(P.info? e).bind (·.zero)=some z):Cd P t z:=by
 cases hi:P.info? e with
 |none=>rw[hi] at h3;cases h3
 |some i=>exact⟨k,e,d,h1,h2,i,hi,by rw[hi] at h3;exact h3⟩
theorem Rb {t:TypeId} {z:Value} (T:Cd P t z) {h:aj} {m:Nat} {l:List (Int×Value)} (hm:B5 h m l) (k:Int):
  rd P (Instr.lookup t (.map (some m)) (.I k) false) h=some ((oK l k).getD z)/\
  rd P (Instr.lookup t (.map (some m)) (.I k) true) h=some (.tuple #[(oK l k).getD z,.bool (oK l k).isSome]):=by
 obtain⟨kt,e,d,ht,hk,i,hi,hz⟩:=T.ty;obtain⟨es,clock,hb,hl,_⟩:=hm;have gen: ∀ok:Bool,rd P (Instr.lookup t (.map (some m)) (.I k) ok) h=some (if ok then .tuple #[(oK l k).getD z,.bool (oK l k).isSome] else(oK l k).getD z):=λok=>by
  unfold Instr.lookup;rw[bu _ _ _ _ (bD ht)];simp only;rw[bu _ _ _ _ (ph hb)];simp only;rw[bu _ _ _ _ (pI _),bu _ _ _ _ (Cc hk)];cases hg:oK l k with
  |none=>
   rw[bu _ _ _ _ (vx hk hl hg)];simp only;rw[bu _ _ _ _ (oL hi hz)];cases ok<;>rfl
  |some v=>
   obtain⟨j,h2,_⟩:=vy (h:=h) hk hl hg;rw[bu _ _ _ _ h2];simp only;cases ok<;>rfl
 exact⟨gen false,gen true⟩
theorem MG {t:TypeId} {z:Value} (T:Cd P t z) {h:aj} {m:Nat} {f:Int->Option Value} (hm:xS h m f) (k:Int):
  mC P t (.map (some m)) (.I k) false h ((f k).getD z):=λh' hs=>by
 obtain⟨l,hl,hf⟩:=hm;rw[<-hf k];exact(Rb T (hl.wI hs) k).1
theorem ON {t:TypeId} {z:Value} (T:Cd P t z) {h:aj} {m:Nat} {f:Int->Option Value} (hm:xS h m f) (k:Int):
  mC P t (.map (some m)) (.I k) true h (.tuple #[(f k).getD z,.bool (f k).isSome]):=λh' hs=>by
 obtain⟨l,hl,hf⟩:=hm;rw[<-hf k];exact(Rb T (hl.wI hs) k).2
theorem bX {α β:Type} {s:Sem α} {g:α->Sem β} {h:aj} {a:α} {K:β->aj->Prop} (hr:rd P s h=some a) (hk:aX P (g a) h K):aX P (s>>=g) h K:=
 (eZ s g K).2 (abu s h a hr _ hk)
theorem Ua {es:List MapEntry} {l:List (Int×Value)} {k:Int} {v:Value} {j:Nat} (hl:es.map (λe=>(e.key,e.val))=l.map (λe=>(Value.I e.1,e.2))) (hn:(l.map (·.1)).Nodup)
  {e:MapEntry} (he:es[j]? =some e) (hk:e.key=.I k) (f:MapEntry->MapEntry) (hf: ∀e:MapEntry,(f e).key=.I k/\(f e).val=v):
  (es.modify j f).map (λe=>(e.key,e.val))=(l.map (λe=>if e.1==k then(k,v) else e)).map (λe=>(Value.I e.1,e.2)):=by
 apply im
 intro i;have hli: ∀i:Nat,(es[i]?).map (λe:MapEntry=>(e.key,e.val))=(l[i]?).map (λe:Int×Value=>(Value.I e.1,e.2)):=λi=>by
  have:=bp (·[i]?) hl;simpa using this
 have hlj:=hli j;rw[he] at hlj;cases hlq:l[j]? with
 |none=>rw[hlq] at hlj;simp at hlj
 |some x=>
  rw[hlq] at hlj;simp only[dy,bE,jK] at hlj;have hxk:x.1=k:=by have:=hlj.1.symm.trans hk;simpa using this
  simp only[aO,List.getElem?_modify,Option.map_map];by_cases hij:j=i
  ·subst hij;simp[he,hlq,hf,hxk]
  ·have h1:=hli i;cases hei:es[i]? with
   |none=>
    rw[hei] at h1;cases hq:l[i]? with
    |none=>simp
    |some y=>rw[hq] at h1;simp at h1
   |some e'=>
    rw[hei] at h1;cases hq:l[i]? with
    |none=>rw[hq] at h1;simp at h1
    |some y=>
     rw[hq] at h1;simp only[dy,bE,jK] at h1;have hyk:y.1≠k:=by
      intro hy;apply hij
      have BD:j<(l.map (·.1)).length:=by simpa using (aG.1 hlq).1
      refine(fU BD hn).1 ?_;simp[hlq,hq,hxk,hy]
     simp[hij,hyk,h1.1,h1.2]
theorem LZ {t:TypeId} {z:Value} (T:Cd P t z) {h:aj} {m:Nat} {l:List (Int×Value)} (hm:B5 h m l) {k:Int} {v:Value} {K:Unit->aj->Prop}
  (hk: ∀h',B5 h' m (Q8 l k v)->h'.size=h.size->(∀c,c≠m->h'[c]? =h[c]?)->K () h'):aX P (Instr.mapUpdate t (.map (some m)) (.I k) v) h K:=by
 obtain⟨kt,e,d,ht,Ub,_⟩:=T.ty;obtain⟨es,clock,hb,hl,hn,xM,Rc⟩:=hm;have jc:=aI hb;unfold Instr.mapUpdate;refine bX (bD ht) ?_;simp only;refine bX (ph hb) ?_;simp only;refine bX (Cc Ub) ?_;have fin: ∀(yI:Array MapEntry) (OO:Nat),yI.toList.map (λe=>(e.key,e.val))=(Q8 l k v).map (λe=>(Value.I e.1,e.2))->(∀e∈yI.toList,e.born<OO)->(yI.toList.map (·.born)).Nodup->
   aX P (setObj m (.map yI OO)) h K:=λyI OO h1 h2 h3=>by
  refine⟨⟨_,hb,λc e f he=>by cases he⟩,?_⟩;refine hk _ ⟨yI,OO,by simp[jc],h1,aaa l k v hn,h2,h3⟩ (by simp) (λc hc=> ?_);rw[cK,ai (ie hc)]
 cases hg:oK l k with
 |none=>
  refine bX (vx Ub hl hg) ?_;simp only;refine fin _ _ ?_ ?_ ?_
  ·unfold Q8;rw[hg];simp[hl]
  ·intro e' I6;simp only[Array.toList_push,bT,bV] at I6;rcases I6 with I6|rfl
   ·exact Nat.lt_succ_of_lt (xM _ I6)
   ·exact Nat.lt_succ_self _
  ·simp only[Array.toList_push,bm,cA,List.map_nil];rw[gh];refine⟨Rc,by simp,?_⟩;intro a ha b wF;simp at wF;subst wF;obtain⟨e',I6,rfl⟩:=bn.1 ha;exact Nat.ne_of_lt (xM _ I6)
 |some u=>
  obtain⟨j,h1,e',I6,hke,_⟩:=vy (h:=h) Ub hl hg;refine bX h1 ?_;simp only;have he2:es[j]? =some e':=by simpa using I6
  have apN:rd P (Instr.keyThatStays (((es[j]?).map (·.key)).getD (.I k)) (.I k)) h=some (.I k):=by
   rw[he2];simp only[dy,Option.getD_some,hke];unfold Instr.keyThatStays;have:Instr.sameBits 10000 (.I k) (.I k)=true:=by unfold Instr.sameBits;simp
   rw[ag this];rfl
  refine bX apN ?_;refine fin _ _ ?_ ?_ ?_
  ·unfold Q8;rw[hg];simp only[Option.isSome_some,bA];rw[Array.toList_modify];exact Ua hl hn I6 hke _ (λe=>⟨rfl,rfl⟩)
  ·intro e2 ame;rw[Array.toList_modify] at ame;obtain⟨i,hi⟩:=bG ame;rw[List.getElem?_modify] at hi;cases hq:es.toList[i]? with
   |none=>rw[hq] at hi;simp at hi
   |some e3=>
    rw[hq] at hi;have:=xM e3 (bt hq);simp only[Option.map_eq_map,dy,bE] at hi;subst hi;split<;>exact this
  ·rw[Array.toList_modify];have:(es.toList.modify j λe=> { e with key:=Value.I k,val:=v }).map (·.born)=es.toList.map (·.born):=by
    apply im
    intro i;simp only[aO,List.getElem?_modify];cases es.toList[i]? with
    |none=>rfl
    |some e3=>simp only[Option.map_eq_map,dy];split<;>rfl
   rw[this];exact Rc
theorem wJ {t:TypeId} {z:Value} (T:Cd P t z) {h:aj} {m:Nat} {f:Int->Option Value} (hm:xS h m f) {k:Int} {v:Value} {K:Unit->aj->Prop}
  (hk: ∀h',xS h' m (λx=>if x=k then some v else f x)->h'.size=h.size->(∀c,c≠m->h'[c]? =h[c]?)->K () h'):aX P (Instr.mapUpdate t (.map (some m)) (.I k) v) h K:=by
 obtain⟨l,hl,hf⟩:=hm;refine LZ T hl λh' h1 h2 h3=>hk h' ⟨_,h1,λx=> ?_⟩ h2 h3
 rw[Z6,hf]
theorem erase_filter {es:List MapEntry} {l:List (Int×Value)} {k:Int} (hl:es.map (λe=>(e.key,e.val))=l.map (λe=>(Value.I e.1,e.2))) (hn:(l.map (·.1)).Nodup):
  ∀ {j:Nat} {e:MapEntry},es[j]? =some e->e.key=.I k->(es.eraseIdx j).map (λe=>(e.key,e.val))=(Gy l k).map (λe=>(Value.I e.1,e.2)):=by
 induction es generalizing l with
 |nil=>intro j e he;simp at he
 |cons x es ih=>
  intro j e he hk;cases l with
  |nil=>simp at hl
  |cons y l=>
   simp only[cA,List.cons.injEq,jK] at hl;obtain⟨⟨h1,h2⟩,h3⟩:=hl;simp only[cA,gu] at hn;obtain⟨hy,hn⟩:=hn;cases j with
   |zero=>
    simp only[eO,bE] at he;subst he;have hyk:y.1=k:=by have:=h1.symm.trans hk;simpa using this
    have:Gy (y::l) k=l:=by
     unfold Gy;rw[cC,ai (by simp[hyk])];rw[cH];intro a ha;have:a.1≠k:=λe=>hy (by rw[hyk,<-e];exact bB ha)
     simp[this]
    rw[this];simpa using h3
   |succ j=>
    have I6:es[j]? =some e:=by simpa using he
    have hyk:y.1≠k:=by
     intro hyk;apply hy
     have hli:=bp (·[j]?) h3;simp only[aO,I6,dy] at hli;cases hq:l[j]? with
     |none=>rw[hq] at hli;simp at hli
     |some z=>
      rw[hq] at hli;simp only[dy,bE,jK] at hli;have hzk:z.1=k:=by have:=hli.1.symm.trans hk;simpa using this
      rw[hyk,<-hzk];exact bB (bt hq)
    have:Gy (y::l) k=y::Gy l k:=by
     unfold Gy;rw[cC,ag (by simp[hyk])]
    rw[this];simp only[List.eraseIdx_cons_succ,cA,h1,h2];rw[ih h3 hn I6 hk]
theorem Uc {t kt' ty:TypeId} {z:Value} (T:Cd P t z) {h:aj} {m:Nat} {l:List (Int×Value)} (hm:B5 h m l) {k:Int} {K:iI}
  (hk: ∀h',B5 h' m (Gy l k)->h'.size=h.size->(∀c,c≠m->h'[c]? =h[c]?)->K (.tuple #[]) h'):aX P (Builtin.delete_ #[t,kt'] ty #[.map (some m),.I k]) h K:=by
 obtain⟨kt,e,d,ht,Ub,_⟩:=T.ty;obtain⟨es,clock,hb,hl,hn,xM,Rc⟩:=hm;have jc:=aI hb;unfold Builtin.delete_;refine bX (bD ht) ?_;show aX P (do
   let __x<-getObj m
   match __x with
    |Obj.map es clock=>do
     Instr.checkKey es.isEmpty 10000 kt (Value.int IntKind.i64 k)
     let __do_lift<-Instr.findKey kt (Value.int IntKind.i64 k) es.toList
     match __do_lift with
      |some (i,_)=>do
       setObj m (Obj.map (es.eraseIdxIfInBounds i) clock)
       pure (Value.tuple #[])
      |none=>do
       setObj m (Obj.map es clock)
       pure (Value.tuple #[])
    |_=>do
     stuck "delete: map expected"
     pure (Value.tuple #[])) h K
 refine bX (ph hb) ?_;simp only;refine bX (Cc Ub) ?_;have fin: ∀(yI:Array MapEntry),yI.toList.map (λe=>(e.key,e.val))=(Gy l k).map (λe=>(Value.I e.1,e.2))->(∀e∈yI.toList,e.born<clock)->(yI.toList.map (·.born)).Nodup->
   aX P (do setObj m (.map yI clock);pure (Value.tuple #[])) h K:=λyI h1 h2 h3=>by
  rw[eZ];refine⟨⟨_,hb,λc e f he=>by cases he⟩,?_⟩;refine hk _ ⟨yI,clock,by simp[jc],h1,aab l k hn,h2,h3⟩ (by simp) (λc hc=> ?_);rw[cK,ai (ie hc)]
 cases hg:oK l k with
 |none=>
  refine bX (vx Ub hl hg) ?_;refine fin es ?_ xM Rc;have:Gy l k=l:=by
   unfold Gy;rw[cH];intro a ha;have:a.1≠k:=λe=>by
    have hm:k∈l.map (·.1):=e▸bB ha;rw[<-Q9,hg] at hm;cases hm
   simp[this]
  rw[this];exact hl
 |some u=>
  obtain⟨j,h1,e',I6,hke,_⟩:=vy (h:=h) Ub hl hg;refine bX h1 ?_;have qY:List.Sublist (es.eraseIdxIfInBounds j).toList es.toList:=by
   rw[Array.toList_eraseIdxIfInBounds];exact List.eraseIdx_sublist _ _
  refine fin _ ?_ ?_ ?_
  ·rw[Array.toList_eraseIdxIfInBounds];exact erase_filter hl hn I6 hke
  ·intro e2 he2;exact xM e2 (qY.subset he2)
  ·exact(qY.map _).nodup Rc
theorem HB {t kt' ty:TypeId} {z:Value} (T:Cd P t z) {h:aj} {m:Nat} {f:Int->Option Value} (hm:xS h m f) {k:Int} {K:iI}
  (hk: ∀h',xS h' m (λx=>if x=k then none else f x)->h'.size=h.size->(∀c,c≠m->h'[c]? =h[c]?)->K (.tuple #[]) h'):aX P (Builtin.delete_ #[t,kt'] ty #[.map (some m),.I k]) h K:=by
 obtain⟨l,hl,hf⟩:=hm;refine Uc T hl λh' h1 h2 h3=>hk h' ⟨_,h1,λx=> ?_⟩ h2 h3
 rw[Z9,hf]
end
end Go.Den
namespace Go.Den
theorem af {h:aj} {b i:Nat} {c:Array Value} {t:TypeId} {f:Nat×Nat} {v:Value} (hb:h[b]? =some (.cells c t f)) (hi:c[i]? =some v):ak h (AA b i)=some v:=by
 rw[wj hb,hi]
theorem bL {h:aj} {b i:Nat} {c:Array Value} {t:TypeId} {v:Value} {K:aj->Prop} (hb:h[b]? =some (.cells c t (0,0))) (hi:i<c.size)
  (hk: ∀h',h'[b]? =some (.cells (c.setIfInBounds i v) t (0,0))->h'.size=h.size->(∀x,x≠b->h'[x]? =h[x]?)->K h'):aH h (AA b i) v K:=by
 refine⟨?_,xY hb,?_⟩
 ·rw[wj hb];simp[hi]
 ·rintro _ rfl;exact hk _ (Gx hb) MF (λx hx=>Es hx)
theorem Fr.of_eq {S:Nat->Prop} {h h':aj} (hs:h'.size=h.size) (ho: ∀c,¬S c->h'[c]? =h[c]?):Fr S h h':=⟨by omega,λc _ hn=>ho c hn⟩
theorem bK {n:Int} (h1: -9223372036854775808<=n) (h2:n<=9223372036854775807):IntKind.wrap .i64 n=n:=IntWalk.i64_in n ⟨h1,h2⟩
theorem wrap_u64 {n:Int} (h1:0<=n) (h2:n<=18446744073709551615):IntKind.wrap .u64 n=n:=IntWalk.u64_in n ⟨h1,h2⟩
theorem wrap_u8 {n:Int} (h1:0<=n) (h2:n<=255):IntKind.wrap .u8 n=n:=IntWalk.u8_in n ⟨h1,h2⟩
theorem Fr.kp {h h':aj} {l:List (bU)} (f:Fr (λ_=>False) h h'):Kp h h' l:=λ_ _ x _ hx=>f.2 x.block hx id
theorem Fr.kps {S:Nat->Prop} {h h':aj} {l:List (bU)} (f:Fr S h h') (hn: ∀p∈l,∀x,p=some x->¬S x.block):Kp h h' l:=λp hp x e hx=>f.2 x.block hx (hn p hp x e)
theorem Fr.no {h1 h2 h3:aj} {S:Nat->Prop} (mE:Fr (λ_=>False) h1 h2) (h23:Fr S h2 h3):Fr S h1 h3:=mE.trans h23 (λ_ _=>False.elim) (λ_ _=>id)
theorem Fr.on {h1 h2 h3:aj} {S:Nat->Prop} (mE:Fr S h1 h2) (h23:Fr (λ_=>False) h2 h3):Fr S h1 h3:=mE.trans h23 (λ_ _=>id) (λ_ _=>False.elim)
theorem Fr.tt {h1 h2 h3:aj} {S:Nat->Prop} (mE:Fr S h1 h2) (h23:Fr S h2 h3):Fr S h1 h3:=mE.trans h23 (λ_ _=>id) (λ_ _=>id)
theorem Fr.step {S:Nat->Prop} {h h1 h2:aj} (hf:Fr (λ_=>False) h h1) (hs:Fr S h1 h2) (hn: ∀c,c<h.size->¬S c):Fr (λ_=>False) h h2:=
 hf.trans hs (λ_ _ hx=>hx) (λc hc hx=>hn c hc hx)
end Go.Den
namespace Go.Den
abbrev JL (h:aj) (a:Addr) (K:Int->Prop):Prop:= ∃t,ak h a=some (.int .u64 t)/\K t
abbrev Re (h:aj) (a:Addr) (K:Int->Prop):Prop:= ∃t,ak h a=some (.int .i64 t)/\K t
abbrev V1 (h:aj) (a:Addr) (K:Int->Prop):Prop:= ∃t,ak h a=some (.int .u8 t)/\K t
abbrev Hb' (h:aj) (a:Addr) (K:Bool->Prop):Prop:= ∃t,ak h a=some (.bool t)/\K t
abbrev LN (h:aj) (a:Addr) (K:bU->Prop):Prop:= ∃t,ak h a=some (.pointer t)/\K t
abbrev Hs' (h:aj) (a:Addr) (K:ByteArray->Prop):Prop:= ∃t,ak h a=some (.string t)/\K t
abbrev L3 (h:aj) (a:Addr) (K:bU->Nat->Nat->Prop):Prop:= ∃p l c,ak h a=some (.slice p l c)/\K p l c
abbrev Hu (h:aj) (b i:Nat) (K:Int->Prop):Prop:= ∃t,ak h ⟨b,i,none⟩=some (.int .u64 t)/\K t
abbrev Hi (h:aj) (b i:Nat) (K:Int->Prop):Prop:= ∃t,ak h ⟨b,i,none⟩=some (.int .i64 t)/\K t
abbrev Hy (h:aj) (b i:Nat) (K:Int->Prop):Prop:= ∃t,ak h ⟨b,i,none⟩=some (.int .u8 t)/\K t
abbrev Hb (h:aj) (b i:Nat) (K:Bool->Prop):Prop:= ∃t,ak h ⟨b,i,none⟩=some (.bool t)/\K t
abbrev Hp (h:aj) (b i:Nat) (K:bU->Prop):Prop:= ∃t,ak h ⟨b,i,none⟩=some (.pointer t)/\K t
abbrev Hs (h:aj) (b i:Nat) (K:ByteArray->Prop):Prop:= ∃t,ak h ⟨b,i,none⟩=some (.string t)/\K t
abbrev Hl (h:aj) (b i:Nat) (K:bU->Nat->Nat->Prop):Prop:= ∃p l c,ak h ⟨b,i,none⟩=some (.slice p l c)/\K p l c
abbrev Vb (v:Value) (K:Bool->Prop):Prop:= ∃t,v=.bool t/\K t
abbrev Vi (v:Value) (K:Int->Prop):Prop:= ∃t,v=.int .i64 t/\K t
abbrev Vu (v:Value) (K:Int->Prop):Prop:= ∃t,v=.int .u64 t/\K t
abbrev Vp (v:Value) (K:bU->Prop):Prop:= ∃t,v=.pointer t/\K t
abbrev Vl (v:Value) (K:bU->Nat->Nat->Prop):Prop:= ∃p l c,v=.slice p l c/\K p l c
abbrev Bd (i:Int) (n:Nat):Prop:=(0:Int)<=i/\i<(n:Int)
abbrev No:Nat->Prop:=λ_=>False
abbrev lf:EN:=.leaf
abbrev ll:EN:=.seq .leaf .leaf
abbrev lq (a:EN):EN:=.seq .leaf a
abbrev sq (a b:EN):EN:=.seq a b
abbrev cq (a b:EN):EN:=.cond a b
abbrev bq (a:EN):EN:=.block a
abbrev pK (n:Nat):EN:=.qW (jh n 0 .done)
abbrev pN (n:Nat):EN:=.mB (jh n 0 .done)
theorem aS {P:Program} {f:FuncId} {fn:Func} {args:List Value} {h:aj} {R:iI} {A:Prop} (Gh:EN) (hf:P.funcs[f]? =some fn) (hv:A)
  (hb:fn.body.isSome=true:=by rfl) (hn:Nat.ble args.length fn.ntmps=true:=by rfl)
  (e:A=den P fn.ntmps Gh none (Er fn) (ajz P fn.results R) (wH args) h:=by kernel_rfl):wD P f args.toArray h R:=JH Gh hf hb hn (Eq.mp e hv)
def Row (h:aj) (p:bU) (cs:List Value):Prop:=cs= []\/∃a,p=some a/\fE a cs 0 h
theorem Row.nil {h:aj} {p:bU} :Row h p []:=.inl rfl
theorem sS {h:aj} {a:Addr} : ∀ {cs:List Value} {i:Nat},fE a cs i h↔ ∀j v,cs[j]? =some v->ak h (a.add (i+j))=some v
 | [],i=>by simp[fE]
 |c::cs,i=>by
  simp only[fE];rw[sS (cs:=cs)];constructor
  ·rintro⟨h1,h2⟩ j v hj;cases j with
   |zero=>simp only[eO,bE] at hj;subst hj;exact h1
   |succ j=>have:=h2 j v (by simpa using hj);rwa[show i+1+j=i+(j+1) by omega] at this
  ·intro hh;refine⟨hh 0 c rfl,λj v hj=> ?_⟩;have:=hh (j+1) v (by simpa using hj);rwa[show i+(j+1)=i+1+j by omega] at this
theorem lR {h:aj} {b off:Nat} {c:Array Value} {t:TypeId} {f:Nat×Nat} {cs:List Value} (hb:h[b]? =some (.cells c t f)) (hc: ∀j v,cs[j]? =some v->c[off+j]? =some v):fE (AA b off) cs 0 h:=by
 rw[sS];intro j v hj;rw[bZ,kB,wj hb];exact hc j v hj
theorem uO {S:Nat->Prop} {h h':aj} (hf:Fr S h h') {a:Addr} (hn: ¬S a.block): ∀ {cs:List Value} {i:Nat},fE a cs i h->fE a cs i h'
 | [],_,_=>trivial
 |_::_,i,hh=>⟨hf.cell hh.1 (by unfold Addr.add;split<;>exact hn),uO hf hn hh.2⟩
theorem Row.frame {S:Nat->Prop} {h h':aj} (hf:Fr S h h') {p:bU} {cs:List Value} (hr:Row h p cs) (hn: ∀a,p=some a->¬S a.block):Row h' p cs:=by
 rcases hr with rfl|⟨a,rfl,hh⟩
 ·exact .inl rfl
 ·exact .inr ⟨a,rfl,uO hf (hn a rfl) hh⟩
theorem Row.cell {h:aj} {a:Addr} {cs:List Value} (hr:Row h (some a) cs) {j:Nat} {v:Value} (hj:cs[j]? =some v):ak h (a.add j)=some v:=by
 rcases hr with rfl|⟨a',e,hh⟩
 ·simp at hj
 ·cases e;have:=sS.1 hh j v hj;rwa[bZ] at this
theorem Row.some {h:aj} {p:bU} {cs:List Value} (hr:Row h p cs) (hn:cs≠ []): ∃a,p=some a:=by
 rcases hr with rfl|⟨a,e,_⟩
 ·exact absurd rfl hn
 ·exact⟨a,e⟩
section
variable {P : Program}
theorem uF {h:aj} {q:bU} {n cq sz:Nat} {ds:List Value} (hq:Row h q ds) (hl:ds.length=n*sz):rd P (Builtin.firstCells sz n (.slice q n cq)) h=some ds.toArray:=by
 cases q with
 |none=>
  have:ds= []:=by
   rcases hq with rfl|⟨a,e,_⟩
   ·rfl
   ·cases e
  subst this;rfl
 |some a=>
  show rd P (loadCells a (n*sz)) h=_;have hh:fE a ds 0 h:=by
   rcases hq with rfl|⟨a',e,hh⟩
   ·trivial
   ·cases e;exact hh
  unfold loadCells;rw[<-hl,nP ds 0 #[] h hh];simp
theorem MH {need:Nat} : ∀(r c:Nat),c<2*need->256<=c->Builtin.growBy need r c<=2*need
 |0,c,h,_=>by unfold Builtin.growBy;omega
 |r+1,c,h,h2=>by
  unfold Builtin.growBy;split
  ·omega
  ·rename_i hc;by_cases jc:c+(c+768)/4<2*need
   ·exact MH r _ jc (by omega)
   ·have:c+(c+768)/4<=2*need:=by omega
    cases r with
    |zero=>unfold Builtin.growBy;exact this
    |succ r=>unfold Builtin.growBy;rw[jy];exact this
theorem nextslicecap_le {need cap:Nat} (h:cap<need):Builtin.nextslicecap need cap<=2*need:=by
 unfold Builtin.nextslicecap;split
 ·omega
 ·split
  ·omega
  ·exact MH 4 cap (by omega) (by omega)
inductive iR (h:aj) (p:bU) (len cap sz:Nat) (cs:List Value):Prop
 |nil (hp:p=none) (hl:len=0) (hc:cap=0) (BF:cs= [])
 |row (b off:Nat) (c:Array Value) (t:TypeId) (hp:p=some ⟨b,off,none⟩) (hb:h[b]? =some (.cells c t (0,0))) (hl:len<=cap) (hc:off+cap*sz<=c.size) (hn:cs.length=len*sz) (BF: ∀j v,cs[j]? =some v->c[off+j]? =some v)
def aQ (p:bU) (c:Nat):Prop:= ∃a,p=some a/\a.block=c
theorem iR.length {h:aj} {p:bU} {len cap sz:Nat} {cs:List Value} (o:iR h p len cap sz cs):cs.length=len*sz:=by
 cases o with
 |nil _ hl _ BF=>subst hl BF;simp
 |row b off c t _ _ _ _ hn _=>exact hn
theorem iR.pZ {h:aj} {p:bU} {len cap sz:Nat} {cs:List Value} (o:iR h p len cap sz cs):Row h p cs:=by
 cases o with
 |nil _ _ _ BF=>exact .inl BF
 |row b off c t hp hb _ _ _ BF=>exact .inr ⟨_,hp,lR hb BF⟩
theorem iR.frame {S:Nat->Prop} {h h':aj} {p:bU} {len cap sz:Nat} {cs:List Value} (o:iR h p len cap sz cs) (hf:Fr S h h') (hn: ∀c,aQ p c->¬S c):iR h' p len cap sz cs:=by
 cases o with
 |nil hp hl hc BF=>exact .nil hp hl hc BF
 |row b off c t hp hb hl hc hlen BF=>exact .row b off c t hp (hf.get hb (hn b ⟨_,hp,rfl⟩)) hl hc hlen BF
theorem iR.gm {h:aj} {p:bU} {len cap sz:Nat} {cs:List Value} (o:iR h p len cap sz cs) {c:Nat} (hc:aQ p c):c<h.size:=by
 obtain⟨a,e,rfl⟩:=hc;cases o with
 |nil hp _ _ _=>rw[hp] at e;cases e
 |row b off c t hp hb _ _ _ _=>rw[hp] at e;cases e;exact aI hb
theorem iR.cells {h:aj} {p:bU} {len cap sz:Nat} {cs:List Value} (o:iR h p len cap sz cs) {b:Nat} (hb:aQ p b): ∃c t,h[b]? =some (.cells c t (0,0)):=by
 obtain⟨a,e,rfl⟩:=hb;cases o with
 |nil hp _ _ _=>rw[hp] at e;cases e
 |row b off c t hp hb _ _ _ _=>rw[hp] at e;cases e;exact⟨c,t,hb⟩
theorem iR.le {h:aj} {p:bU} {len cap sz:Nat} {cs:List Value} (o:iR h p len cap sz cs):len<=cap:=by
 cases o with
 |nil _ hl hc _=>omega
 |row b off c t _ _ hl _ _ _=>exact hl
theorem iR.some {h:aj} {p:bU} {len cap sz:Nat} {cs:List Value} (o:iR h p len cap sz cs) (hn:0<cs.length): ∃b off,p=some (AA b off):=by
 cases o with
 |nil _ _ _ BF=>subst BF;simp at hn
 |row b off c t hp _ _ _ _ _=>exact⟨b,off,hp⟩
theorem iR.cell {h:aj} {a:Addr} {len cap sz:Nat} {cs:List Value} (o:iR h (.some a) len cap sz cs) {j:Nat} {v:Value} (hj:cs[j]? =.some v):ak h (a.add j)=.some v:=o.pZ.cell hj
theorem iR.store {h:aj} {a:Addr} {len cap sz:Nat} {cs:List Value} {j:Nat} {v:Value} {K:aj->Prop} (o:iR h (.some a) len cap sz cs) (hj:j<cs.length)
  (hk: ∀h',iR h' (.some a) len cap sz (cs.set j v)->h'.size=h.size->(∀x,¬aQ (.some a) x->h'[x]? =h[x]?)->K h'):aH h (a.add j) v K:=by
 cases o with
 |nil hp _ _ _=>cases hp
 |row b off c t hp hb hl hc hn BF=>
  cases hp;rw[kB];have hmul:len*sz<=cap*sz:=db _ hl;refine bL hb (by omega) λh' h1 h2 h3=>hk h' (.row b off _ t rfl h1 hl (by simpa using hc) (by simpa using hn) ?_) h2 (λx hx=>h3 x (λe=>hx ⟨_,rfl,e.symm⟩))
  intro i w hi;rw[eH] at hi;rw[cK];by_cases e:j=i
  ·subst e;rw[ag rfl,ag hj] at hi;rw[ag rfl,jy];exact hi
  ·rw[ai e] at hi;rw[dL];exact BF i w hi
theorem iR.sub {h:aj} {p:bU} {len cap sz:Nat} {cs:List Value} (o:iR h p len cap sz cs) {l u:Nat} (h1:l<=u) (h2:u<=len):iR h (cZ p cap l sz) (u - l) (cap - l) sz ((cs.take (u*sz)).drop (l*sz)):=by
 cases o with
 |nil hp hl hc BF=>
  subst hp hl hc BF;refine .nil ?_ (by omega) (by omega) (by simp);unfold cZ;split<;>rfl
 |row b off c t hp hb hl hc hn BF=>
  subst hp;have m1:u*sz<=len*sz:=db _ h2;have m2:l*sz<=u*sz:=db _ h1;have m3:len*sz<=cap*sz:=db _ hl;have ajA: ∀j v,((cs.take (u*sz)).drop (l*sz))[j]? =.some v->c[off+l*sz+j]? =.some v:=λj v hj=>by
   rw[iL,dq] at hj;split at hj
   ·have:=BF _ v hj;rwa[<-Nat.add_assoc] at this
   ·cases hj
  have hlen:((cs.take (u*sz)).drop (l*sz)).length=(u - l)*sz:=by
   rw[cf,bQ,Nat.sub_mul];omega
  have OQ:(cap - l)*sz=cap*sz - l*sz:=Nat.sub_mul _ _ _;unfold cZ;split
  ·rename_i e;have e1:u - l=0:=by omega
   refine .row b off c t rfl hb (by omega) (by omega) hlen (λj v hj=> ?_);have hz:((cs.take (u*sz)).drop (l*sz)).length=0:=by rw[hlen,e1];simp
   rw[List.eq_nil_of_length_eq_zero hz] at hj;cases hj
  ·show iR h (.some (((AA b off):Addr).add (l*sz))) _ _ _ _;rw[kB];exact .row b (off+l*sz) c t rfl hb (by omega) (by omega) hlen ajA
theorem wk {p:bU} {cap l sz c:Nat} (hc:aQ (cZ p cap l sz) c):aQ p c:=by
 obtain⟨a,e,rfl⟩:=hc;unfold cZ at e;split at e
 ·exact⟨a,e,rfl⟩
 ·cases p with
  |none=>cases e
  |some b=>cases e;exact⟨b,rfl,by unfold Addr.add;split<;>rfl⟩
theorem Et {c:Array Value} {off:Nat} : ∀(ds:List Value) (i:Nat) (h:aj) (b:Nat) (t:TypeId) (K:Unit->aj->Prop),(∀v∈ds,jg v=true)->h[b]? =some (.cells c t (0,0))->off+i+ds.length<=c.size->
  (∀h' c',h'[b]? =some (.cells c' t (0,0))->c'.size=c.size->(∀j,j<off+i\/off+i+ds.length<=j->c'[j]? =c[j]?)->(∀j v,ds[j]? =some v->c'[off+i+j]? =some v)->h'.size=h.size->(∀x,x≠b->h'[x]? =h[x]?)->K () h')->
  aX P (storeCells (AA b off) ds i) h K
 | [],i,h,b,t,K,_,hb,_,hk=>by
  refine hk h c hb rfl (λ_ _=>rfl) (λj v hj=>by simp at hj) rfl (λ_ _=>rfl)
 |v::ds,i,h,b,t,K,hv,hb,hlen,hk=>by
  simp only[storeCells];rw[eZ];simp only[bj] at hlen;have jc:off+i<c.size:=by omega
  refine⟨hv v dX,?_,?_,?_⟩
  ·rw[kB,wj hb];simp[jc]
  ·rw[kB];exact xY hb
  ·rw[kB];show aX P (storeCells (AA b off) ds (i+1)) (yW h (AA b (off+i)) v) K;refine Et (c:=c.setIfInBounds (off+i) v) ds (i+1) _ b t K (λu hu=>hv u (cM _ hu)) (Gx hb) (by simp;omega) ?_;intro h' c' wF DC TF hn' JA abJ;refine hk h' c' wF (by rw[DC];simp) (λj hj=> ?_) (λj u hj=> ?_) (by rw[JA,MF]) (λx hx=>by rw[abJ x hx,Es hx])
   ·simp only[bj] at hj;rw[TF j (by omega),cK,dL]
   ·cases j with
    |zero=>
     simp only[eO,bE] at hj;subst hj;rw[TF (off+i+0) (by omega)];simp[jc]
    |succ j=>
     have:=hn' j u (by simpa using hj);rwa[show off+(i+1)+j=off+i+(j+1) by omega] at this
theorem OR {sT xT ty elem eT:TypeId} {i:TypeInfo} {z:Value} {h:aj} {p q:bU} {len cap n cq:Nat} {cs ds:List Value} {K:iI}
  (hs:P.underlying sT=some (.slice elem)) (hx:P.underlying xT=some (.slice eT)) (hi:P.info? elem=some i) (hz:i.zero=some z) (JA:z.cells.size=i.size)
  (own:iR h p len cap i.size cs) (hq:Row h q ds) (hd:ds.length=n*i.size) (OS: ∀v∈ds,jg v=true) (hb:(len+n)*i.bytes<=70368744177664) (fI:len+n<=9223372036854775807)
  (hk: ∀p' nj h',iR h' p' (len+n) nj i.size (cs++ds)->iR h' p len cap i.size cs->Fr (aQ p) h h'->(∀c,aQ p' c->aQ p c\/h.size<=c)->K (.slice p' (len+n) nj) h'):
  aX P (Builtin.append_ #[sT,xT] ty #[.slice p len cap,.slice q n cq]) h K:=by
 unfold Builtin.append_;refine bX (s:=underlying sT) (bD hs) ?_;refine bX (s:=sizeOf elem) (lP hi) ?_;refine bX (s:=underlying xT) (bD hx) ?_;refine bX (s:=(pure false:Sem Bool)) (a:=false) rfl ?_;refine bX (s:=Builtin.lenOf (.slice q n cq)) (a:=n) rfl ?_;show aX P (if len+n<=cap then _ else _) h K;by_cases OQ:len+n<=cap
 ·rw[ag OQ];refine bX (s:=Builtin.firstCells i.size n (.slice q n cq)) (a:=ds.toArray) (uF hq hd) ?_;cases own with
  |nil hp hl hc BF=>
   subst hp hl hc BF;have hn0:n=0:=by omega
   subst hn0;have hds:ds= []:=by simpa using hd
   subst hds;exact hk none 0 h (.nil rfl rfl rfl rfl) (.nil rfl rfl rfl rfl) (Fr.refl _ _) (λc ⟨a,e,_⟩=>by cases e)
  |row b off c t hp hbk hl hc hlen BF=>
   subst hp;show aX P (storeCells (((AA b off):Addr).add (len*i.size)) ds>>=λ_=>pure (.slice (some (AA b off)) (len+n) cap)) h K;rw[kB];have hmul:(len+n)*i.size<=cap*i.size:=db _ OQ;rw[gj] at hmul;rw[eZ];refine Et (c:=c) (off:=off+len*i.size) ds 0 h b t _ OS hbk (by omega) ?_;intro h' c' wF DC TF hn' JA abJ;show K (.slice (some (AA b off)) (len+n) cap) h';refine hk _ cap h' (.row b off c' t rfl wF OQ (by omega) (by rw[aF,hlen,hd,gj]) ?_) (.row b off c' t rfl wF hl (by omega) hlen ?_) (Fr.of_eq JA λx hx=>abJ x (λe=>hx ⟨_,rfl,e.symm⟩)) (λc hc=> .inl hc)
   ·intro j v hj;by_cases Cf:j<cs.length
    ·rw[dx Cf] at hj;rw[TF _ (by omega)];exact BF j v hj
    ·rw[dk (by omega)] at hj;have:=hn' _ v hj;rw[hlen] at this;rwa[show off+len*i.size+0+(j - len*i.size)=off+j by omega] at this
   ·intro j v hj;have Cf:j<cs.length:=(aG.1 hj).1;rw[TF _ (by omega)];exact BF j v hj
 ·rw[ai OQ];have hle:=nextslicecap_le (need:=len+n) (cap:=cap) (by omega);refine bX (s:=typeInfo elem) (lK hi) ?_;have ajB: ¬(((len+n:Nat):Int)>IntKind.max .i64/\(False\/i.bytes=0)):=λhc=>by
   have:IntKind.max .i64=9223372036854775807:=rfl;rw[this] at hc;omega
  show aX P (if(((len+n:Nat):Int)>IntKind.max .i64/\(false=true\/i.bytes=0)) then _ else _) h K;rw[ai (by simpa using ajB)];refine bX (s:=typeInfo elem) (lK hi) ?_;have abK: ¬(Builtin.nextslicecap (len+n) cap*i.bytes>2 ^ 48):=by
   have h1:Builtin.nextslicecap (len+n) cap*i.bytes<=2*(len+n)*i.bytes:=db _ hle;rw[Nat.mul_assoc] at h1;omega
  show aX P (if Builtin.nextslicecap (len+n) cap*i.bytes>2 ^ 48 then _ else _) h K;rw[ai abK];show aX P (choose (.appendCap (len+n) cap elem)>>=_) h K;rw[eZ];unfold choose;simp only[aX,Question.forced,aA,aU,Question.cut];intro tq;refine bX (s:=typeInfo elem) (lK hi) ?_;rw[eZ];have Rf: ∀(m:Nat) (K':Unit->aj->Prop),K' () h->aX P (askRoom m) h K':=λm K' V2=>by
   unfold askRoom;split
   ·exact V2
   ·exact V2
  refine Rf _ _ ?_;refine bX (s:=Builtin.firstCells i.size len (.slice p len cap)) (a:=cs.toArray) (uF own.pZ own.length) ?_;refine bX (s:=Builtin.firstCells i.size n (.slice q n cq)) (a:=ds.toArray) (uF hq hd) ?_;refine bX (s:=zeroValue elem) (oL hi hz) ?_;generalize amf:len+n+tq%(2 ^ 63 - (len+n))=nj;have hge:len+n<=nj:=by omega
  show K (.slice (some (AA h.size 0)) (len+n) nj) (h.push (.cells (cs.toArray++ds.toArray++Builtin.zeroCells z.cells (nj - (len+n))) elem));have amg:(cs.toArray++ds.toArray++Builtin.zeroCells z.cells (nj - (len+n))).size=nj*i.size:=by
   have h1:(Builtin.zeroCells z.cells (nj - (len+n))).size=(nj - (len+n))*i.size:=by simp[Builtin.zeroCells,JA]
   have h2:=own.length;rw[Array.size_append,Array.size_append,h1];simp only[List.size_toArray];rw[h2,hd,<-gj,<-gj];congr 1;omega
  refine hk _ nj _ (.row h.size 0 _ elem rfl cz hge (by rw[amg];omega) (by rw[aF,own.length,hd,gj]) ?_) (own.frame (Fr.push (S:=λ_=>False) _ _) (λ_ _=>id)) (Fr.push _ _) ?_
  ·intro j v hj;rw[bZ];have Cf:j<(cs++ds).length:=(aG.1 hj).1;rw[eX (by simpa using Cf)];simpa using hj
  ·rintro c ⟨a,e,rfl⟩;cases e;exact .inr (bh _)
structure Ao (P:Program) (sT elem:TypeId) (sz bytes:Nat) (z:Value):Prop where
 u:P.underlying sT=some (.slice elem)
 info:(P.info? elem).map (λi=>(i.size,i.bytes,i.zero))=some (sz,bytes,some z)
 zs:z.cells.size=sz
theorem Ao.i {sT elem:TypeId} {sz bytes:Nat} {z:Value} (T:Ao P sT elem sz bytes z): ∃i,P.info? elem=some i/\i.size=sz/\i.bytes=bytes/\i.zero=some z:=by
 have:=T.info;cases hi:P.info? elem with
 |none=>rw[hi] at this;cases this
 |some i=>
  rw[hi] at this;simp only[dy,bE,jK] at this;exact⟨i,rfl,this⟩
theorem fQ {sT xT ty elem eT:TypeId} {sz bytes:Nat} {z:Value} {h:aj} {p q:bU} {len cap n cq:Nat} {cs ds:List Value} {K:iI}
  (T:Ao P sT elem sz bytes z) (hx:P.underlying xT=some (.slice eT))
  (own:iR h p len cap sz cs) (hq:Row h q ds) (hd:ds.length=n*sz) (OS: ∀v∈ds,jg v=true) (hb:(len+n)*bytes<=70368744177664) (fI:len+n<=9223372036854775807)
  (hk: ∀p' nj h',iR h' p' (len+n) nj sz (cs++ds)->iR h' p len cap sz cs->Fr (aQ p) h h'->(∀c,aQ p' c->aQ p c\/h.size<=c)->K (.slice p' (len+n) nj) h'):
  aX P (Builtin.append_ #[sT,xT] ty #[.slice p len cap,.slice q n cq]) h K:=by
 obtain⟨i,hi,rfl,rfl,hz⟩:=T.i;exact OR T.u hx hi hz T.zs own hq hd OS hb fI hk
end
section
open Go.RowKit
def Rh (P:Program) (h:aj):Nat->TypeId->List Value->Prop
 |0,_,_=>False
 |n+1,t,cs=>
  match P.underlying t with
  |some .bool=> ∃b,cs= [.bool b]
  |some (.int k)=> ∃a,cs= [.int k a]/\(Lit.int k a).wf=true
  |some .string=> ∃s,cs= [.string s]/\s.size<=maxLen
  |some (.pointer e)=>cs= [.pointer none]\/∃a Iv,cs= [.pointer (some a)]/\Iv.length=P.cellsOf e/\fE a Iv 0 h/\Rh P h n e Iv
  |some (.slice e)=>cs= [.slice none 0 0]\/∃a len cap,cs= [.slice (some a) len cap]/\len<=cap/\cap<=maxLen/\∀i,i<len->∃Iv,Iv.length=P.cellsOf e/\fE (a.add (i*P.cellsOf e)) Iv 0 h/\Rh P h n e Iv
  |some (.struct fs)=>cs.length=P.cellsOf t/\∀f∈fs.toList,Rh P h n f.type ((cs.drop f.offset).take (P.cellsOf f.type))
  |some (.array m e)=>cs.length=P.cellsOf t/\∀i,i<m->Rh P h n e ((cs.drop (i*P.cellsOf e)).take (P.cellsOf e))
  |_=>True
theorem JM {w:World} {base:Nat} {a:Addr} {n:Nat} {cs:List Value} (h:w.cells? base a n=some cs):cs.length=n/\fE a cs 0 w.heap:=by
 obtain⟨_,hl,hc⟩:=World.cells?_some h;refine⟨hl,sS.2 λj v hj=> ?_⟩;have Cf:j<cs.length:=(aG.1 hj).1;have:=hc j (by omega);rw[uD,hj] at this;rw[bZ];exact this
theorem uQ {H:Type} {enc:TypeId×Value->H} {P:Program} {w:World} {base:Nat} {spare:Nat->Bool} {held:Bool} :
  ∀(fuel:Nat) (t:TypeId) (cs:List Value) (x:DataW H×List MemPlace),DataW.trod enc P w base spare held fuel t cs=some x->Rh P w.heap fuel t cs
 |0,_,_,_,h=>by simp[DataW.trod] at h
 |fuel+1,t,cs,x,h=>by
  unfold Rh;cases hd:P.underlying t with
  |none=>trivial
  |some d=>
   cases d<;>simp only<;>first|trivial|skip
   case bool=>obtain⟨b,hc,_⟩:=DataW.trod_bool hd h;exact⟨b,hc⟩
   case int k=>obtain⟨n,hc,_,hw⟩:=DataW.trod_int hd h;exact⟨n,hc,hw⟩
   case string=>obtain⟨s,hc,_,hw⟩:=DataW.trod_string hd h;exact⟨s,hc,hw⟩
   case pointer e=>
    rcases DataW.trod_pointer hd h with⟨hc,_⟩|⟨a,Iv,y,n,hn,hc,_,ak,hy⟩
    ·exact .inl hc
    ·obtain⟨hl,hh⟩:=JM ak;obtain rfl:n=fuel:=by omega
     exact .inr ⟨a,Iv,hc,hl,hh,uQ n e Iv y hy⟩
   case slice e=>
    rcases DataW.trod_slice hd h with⟨hc,_⟩|⟨a,len,cap,elems,rest,n,hn,hc,_,_,hl,hm,hlen,hel,_⟩
    ·exact .inl hc
    ·obtain rfl:n=fuel:=by omega
     refine .inr ⟨a,len,cap,hc,hl,hm,λi hi=> ?_⟩;have h1:=hel i hi;rw[au (by omega)] at h1;cases ak:w.cells? base (a.add (i*P.cellsOf e)) (P.cellsOf e) with
     |none=>rw[ak] at h1;cases h1
     |some Iv=>
      rw[ak] at h1;obtain⟨hl',hh⟩:=JM ak;exact⟨Iv,hl',hh,uQ n e Iv _ h1⟩
   case struct fs=>
    obtain⟨xs,n,hn,_,hl,hxs,hf⟩:=DataW.trod_struct hd h;obtain rfl:n=fuel:=by omega
    refine⟨hl,λf hm=> ?_⟩;obtain⟨i,hi⟩:=bG hm;have hi':fs[i]? =some f:=by simpa using hi
    have h1:=hf i f hi';have jc:i<xs.length:=by rw[hxs];exact(Array.getElem?_eq_some_iff.1 hi').1
    rw[au jc] at h1;exact uQ n _ _ _ h1
   case array m e=>
    obtain⟨xs,n,hn,_,hl,hxs,hf⟩:=DataW.trod_array hd h;obtain rfl:n=fuel:=by omega
    refine⟨hl,λi hi=> ?_⟩;have h1:=hf i hi;rw[au (by omega)] at h1;exact uQ n _ _ _ h1
def Eu (P:Program) (h:aj) (t:TypeId) (v:Value):Prop:= ∃n,Rh P h n t v.cells.toList
theorem Eu.of {H:Type} {enc:TypeId×Value->H} {P:Program} {w:World} {base:Nat} {spare:Nat->Bool} {held:Bool} {t:TypeId} {v:Value} {d:DataW H} {ps:List MemPlace}
  (h:DataW.Trod enc P w base spare held t v d ps):Eu P w.heap t v:=by
 obtain⟨n,hn⟩:=h;exact⟨n,uQ n _ _ _ hn⟩
theorem abL {w w':World} (hf:Fr (λ_=>False) w.heap w'.heap) (hs:iC w w'):Below w.heap.size w w':=
 ⟨hs.1,hs.2.2,hs.2.1,hf.1,λk hk=>hf.2 k hk id⟩
def abM (P:Program) (f:FuncId) (args:Array Value) (h:aj):Prop:=wD P f args h (λv h'=>v=.bool true/\Fr (λ_=>False) h h')
theorem abM.calls {P:Program} {f:FuncId} {args:Array Value} {w:World} (hl:abM P f args w.heap):Calls P f args w λe w'=>e=.returned (.bool true)/\Below w.heap.size w w':=
 (hl w rfl).mono λ_ _ ⟨_,he,⟨hv,hf⟩,hs⟩=>⟨by rw[he,hv],abL hf hs⟩
theorem wf_u8 {a:Int} (h:(Lit.int .u8 a).wf=true):0<=a/\a<=255:=by
 simpa[Lit.wf,IntKind.min,IntKind.max,IntKind.bits,IntKind.signed] using h
section
variable {P : Program} {h : aj} {t : TypeId} {v : Value}
theorem Eu.int {k:IntKind} (ht:P.underlying t=some (.int k)) (hv:Eu P h t v) (hc: ∀a,v.cells.toList= [.int k a]->v=.int k a): ∃a,v=.int k a/\(Lit.int k a).wf=true:=by
 obtain⟨n,hn⟩:=hv;cases n with
 |zero=>exact hn.elim
 |succ n=>
  unfold Rh at hn;rw[ht] at hn;obtain⟨a,ha,hw⟩:=hn;exact⟨a,hc a ha,hw⟩
theorem OT {h:aj} {a:Addr} {cs ds:List Value} :fE a (cs++ds) 0 h↔fE a cs 0 h/\fE (a.add cs.length) ds 0 h:=by
 simp only[sS,bZ];constructor
 ·intro hh;refine⟨λj v hj=>hh j v ?_,λj v hj=> ?_⟩
  ·rw[dx (aG.1 hj).1];exact hj
  ·rw[add_add];refine hh _ v ?_;rw[dk (by omega)];simpa using hj
 ·rintro⟨h1,h2⟩ j v hj;by_cases jc:j<cs.length
  ·rw[dx jc] at hj;exact h1 j v hj
  ·rw[dk (by omega)] at hj;have:=h2 _ v hj;rw[add_add] at this;rwa[show cs.length+(j - cs.length)=j by omega] at this
theorem gW {α:Type} (enc:α->List Value) (sz:Nat) (qZ: ∀x,(enc x).length=sz): ∀xs:List α,(xs.flatMap enc).length=xs.length*sz
 | []=>by simp
 |x::xs=>by
  rw[iS,aF,qZ,gW enc sz qZ xs,bj,gj];omega
theorem Dj {α:Type} (enc:α->List Value) (sz:Nat) (qZ: ∀x,(enc x).length=sz): ∀(xs:List α) (i:Nat) (x:α),xs[i]? =some x->∀j v,(enc x)[j]? =some v->(xs.flatMap enc)[i*sz+j]? =some v
 | [],i,x,h,_,_,_=>by simp at h
 |y::xs,0,x,h,j,v,hj=>by
  simp at h;subst h;have jc:=(aG.1 hj).1;rw[iS,Nat.zero_mul,bZ,dx jc];exact hj
 |y::xs,i+1,x,h,j,v,hj=>by
  have:=Dj enc sz qZ xs i x (by simpa using h) j v hj;rw[iS,dk (by rw[qZ,gj];omega),qZ];rwa[show(i+1)*sz+j - sz=i*sz+j by rw[gj];omega]
theorem Eu.slice {α:Type} {e:TypeId} {p:bU} {len cap:Nat} (enc:α->List Value) (sz:Nat) (Q:α->Prop) (JA:P.cellsOf e=sz) (qZ: ∀x,(enc x).length=sz)
  (afh: ∀n Iv,Iv.length=sz->Rh P h n e Iv->∃x,Iv=enc x/\Q x) (ht:P.underlying t=some (.slice e)) (hv:Eu P h t (.slice p len cap)):
  ∃xs:List α,xs.length=len/\len<=cap/\cap<=maxLen/\Row h p (xs.flatMap enc)/\∀x∈xs,Q x:=by
 obtain⟨n,hn⟩:=hv;cases n with
 |zero=>exact hn.elim
 |succ n=>
  unfold Rh at hn;rw[ht] at hn;rcases hn with hc|⟨a,arL,nj,hc,hl,hm,hel⟩
  ·simp[Value.cells] at hc;obtain⟨rfl,rfl,rfl⟩:=hc;exact⟨[],rfl,bh _,cj _,.inl rfl,λ_ hx=>by cases hx⟩
  ·simp[Value.cells] at hc;obtain⟨rfl,rfl,rfl⟩:=hc;have key: ∀k,k<=len->∃xs:List α,xs.length=k/\fE a (xs.flatMap enc) 0 h/\∀x∈xs,Q x:=by
    intro k;induction k with
    |zero=>intro _;exact⟨[],rfl,trivial,λ_ hx=>by cases hx⟩
    |succ k ih=>
     intro hk;obtain⟨xs,hx1,hx2,hx3⟩:=ih (by omega);obtain⟨Iv,h1,h2,h3⟩:=hel k (by omega);obtain⟨x,rfl,hq⟩:=afh n Iv (by rw[h1,JA]) h3;refine⟨xs++ [x],by simp[hx1],?_,?_⟩
     ·rw[dI,OT];refine⟨hx2,?_⟩;rw[gW enc sz qZ,hx1,<-JA];simpa using h2
     ·intro y hy;rcases bT.1 hy with hy|hy
      ·exact hx3 y hy
      ·simp at hy;subst hy;exact hq
   obtain⟨xs,hx1,hx2,hx3⟩:=key len (bh _);exact⟨xs,hx1,hl,hm,.inr ⟨a,rfl,hx2⟩,hx3⟩
theorem Rh.int {k:IntKind} {n:Nat} {cs:List Value} (ht:P.underlying t=some (.int k)) (hr:Rh P h n t cs): ∃a,cs= [.int k a]/\(Lit.int k a).wf=true:=by
 cases n with
 |zero=>exact hr.elim
 |succ n=>unfold Rh at hr;rw[ht] at hr;exact hr
theorem Rh.bool {n:Nat} {cs:List Value} (ht:P.underlying t=some .bool) (hr:Rh P h n t cs): ∃b,cs= [.bool b]:=by
 cases n with
 |zero=>exact hr.elim
 |succ n=>unfold Rh at hr;rw[ht] at hr;exact hr
end
theorem aK.of {α:Type} {F:α} {B:α->Prop} (h: ∀J,J=F->B J):aK F B:=h F rfl
theorem Eu.ints {P:Program} {h:aj} {t e:TypeId} {k:IntKind} {p:bU} {len cap:Nat} (he:P.cellsOf e=1) (hk:P.underlying e=some (.int k)) (ht:P.underlying t=some (.slice e)) (hv:Eu P h t (.slice p len cap)):
  ∃xs:List Int,xs.length=len/\Row h p (xs.map (.int k ·))/\∀x∈xs,(Lit.int k x).wf=true:=by
 obtain⟨xs,h1,_,_,h2,h3⟩:=Eu.slice (e:=e) (λx:Int=> [Value.int k x]) 1 (λx=>(Lit.int k x).wf=true) he (λ_=>rfl) (λn Iv _ hr=>Rh.int hk hr) ht hv;refine⟨xs,h1,?_,h3⟩;have:xs.flatMap (λx:Int=> [Value.int k x])=xs.map (.int k ·):=by
  clear h1 h2 h3;induction xs with
  |nil=>rfl
  |cons x xs ih=>rw[iS,ih];rfl
 rwa[this] at h2
theorem Ud {h:aj} {p:bU} {k:IntKind} {xs:List Int} (hr:Row h p (xs.map (.int k ·))) {i:Nat} (hi:i<xs.length): ∃a,p=some a/\ak h (a.add (i*1))=some (.int k (xs.getD i 0)):=by
 have hc:(xs.map (Value.int k ·))[i]? =some (.int k (xs.getD i 0)):=by simp[hi]
 obtain⟨a,rfl⟩:=hr.some (λe=>by rw[e] at hc;simp at hc);exact⟨a,rfl,by rw[cN];exact hr.cell hc⟩
theorem abN {xs:List Int} {i:Nat} (hi:i<xs.length):xs.getD i 0∈xs:=by
 rw[ba,au hi];exact fw hi
end
def bc (bs:List UInt8):List Value:=bs.map λb=> .int .u8 (b.toNat:Int)
theorem sU (bs:List UInt8):(bc bs).length=bs.length:=by simp[bc]
theorem su (bs cs:List UInt8):bc (bs++cs)=bc bs++bc cs:=by simp[bc]
theorem afi (bs:List UInt8) (n:Nat):(bc bs).take n=bc (bs.take n):=by simp[bc,List.map_take]
theorem afj (bs:List UInt8) (n:Nat):(bc bs).drop n=bc (bs.drop n):=by simp[bc,List.map_drop]
theorem Cg (bs:List UInt8): ∀v∈bc bs,jg v=true:=by
 intro v hv;simp only[bc,bn] at hv;obtain⟨b,_,rfl⟩:=hv;rfl
def str (bs:List UInt8):ByteArray:=⟨bs.toArray⟩
theorem HC (b:ByteArray): ∀(k i:Nat) (r:List UInt8),b.size - i=k->i<=b.size->ByteArray.toList.loop b i r=r.reverse++b.data.toList.drop i
 |0,i,r,hk,hi=>by
  have:i=b.size:=by omega
  unfold ByteArray.toList.loop;rw[dL];have:b.data.toList.length<=i:=by rw[fT];exact Nat.le_of_eq this.symm
  rw[fL this];simp
 |k+1,i,r,hk,hi=>by
  have jc:i<b.size:=by omega
  unfold ByteArray.toList.loop;rw[ag jc,HC b k (i+1) _ (by omega) (by omega)];have hl:i<b.data.toList.length:=by rw[fT];exact jc
  rw[da hl];have:b.get! i=b.data.toList[i]:=by
   show b.data[i]! =_;rw[getElem!_pos b.data i jc];simp
  rw[this];simp
theorem toList_data (b:ByteArray):b.toList=b.data.toList:=by
 unfold ByteArray.toList;rw[HC b _ 0 [] rfl (cj _)];simp
theorem EZ (bs:List UInt8):(str bs).toList=bs:=by rw[toList_data];simp[str]
theorem abO (s:ByteArray):str s.data.toList=s:=by cases s;simp[str]
section
variable {P : Program}
theorem Ri (h:aj): ∀(bs:List UInt8) (s:ByteArray),rd P (forIn (bc bs).toArray s λc s=>(do
   let .int .u8 n:=c|stuck "bytesToString: byte expected"
   pure (ForInStep.yield (s.push (UInt8.ofNat n.toNat))))) h=some ⟨s.data++bs.toArray⟩:=by
 intro bs;simp only[List.forIn_toArray];induction bs with
 |nil=>intro s;simp only[bc,List.map_nil,List.forIn_nil];show some s=_;cases s;simp
 |cons b bs ih=>
  intro s;have e:bc (b::bs)=.int .u8 (b.toNat:Int)::bc bs:=rfl;rw[e,List.forIn_cons];rw[bu _ _ h (ForInStep.yield (s.push b)) (by show some (ForInStep.yield (s.push (UInt8.ofNat b.toNat)))=_;simp)];show rd P (forIn (bc bs) (s.push b) _) h=_;rw[ih];simp[ByteArray.push]
theorem abP {sT dT e:TypeId} {h:aj} {p:bU} {c n:Nat} {bs:List UInt8} (hs:P.underlying sT=some (.slice e)) (he:P.underlying e=some (.int .u8)) (hd:P.underlying dT=some .string)
  (hr:Row h p (bc bs)) (hn:n=bs.length):DP P sT dT (.slice p n c) h (str bs):=by
 subst hn;unfold DP convert;rw[bu _ _ _ _ (bD hs),bu _ _ _ _ (bD hd)];show rd P (underlying e>>=_) h=_;rw[bu _ _ _ _ (bD he)];show rd P (Conv.bytesToString (.slice p bs.length c)) h=_;cases p with
 |none=>
  have:bs= []:=by
   rcases hr with hr|⟨a,e,_⟩
   ·cases bs with
    |nil=>rfl
    |cons b bs=>cases hr
   ·cases e
  subst this;rfl
 |some a=>
  have hh:fE a (bc bs) 0 h:=by
   rcases hr with hr|⟨a',e,hh⟩
   ·rw[hr];trivial
   ·cases e;exact hh
  have hl:rd P (loadCells a bs.length) h=some (bc bs).toArray:=by
   unfold loadCells;rw[<-sU,nP (bc bs) 0 #[] h hh];simp
  show rd P (loadCells a bs.length>>=λcells=>(forIn cells ByteArray.empty λc s=>(do
   let .int .u8 n:=c|stuck "bytesToString: byte expected"
   pure (ForInStep.yield (s.push (UInt8.ofNat n.toNat)))))>>=λs=>pure (Value.string s)) h=_
  rw[bu _ _ _ _ hl,bu _ _ _ _ (Ri h bs ByteArray.empty)];show some (Value.string ⟨ByteArray.empty.data++bs.toArray⟩)=_;have:(⟨ByteArray.empty.data++bs.toArray⟩:ByteArray)=str bs:=by
   unfold str;congr 1;show #[]++bs.toArray=bs.toArray;simp
  rw[this]
theorem afk {t e:TypeId} {h:aj} {a:Addr} {n c:Nat} {K:iI} (hs:P.underlying t=some (.slice e)) (he:P.underlying e=some (.int .u8)) {cs:Array Value} {ct:TypeId} {f:Nat×Nat} (hb:h[a.block]? =some (.cells cs ct f))
  (hk: ∀h' f',h'[a.block]? =some (.cells cs ct f')->h'.size=h.size->(∀x,x≠a.block->h'[x]? =h[x]?)->K (.slice (some a) n c) h'):aX P (convert t t (.slice (some a) n c)) h K:=by
 unfold convert;refine bX (s:=underlying t) (bD hs) ?_;refine bX (s:=underlying t) (bD hs) ?_;show aX P (underlying e>>=_) h K;refine bX (s:=underlying e) (bD he) ?_;have ht:(t==t)=true:=by simp
 rw[ht];show aX P (markStringish a>>=λ_=>pure (.slice (some a) n c)) h K;rw[eZ];unfold markStringish shape;have hsh:Ad h a.block=some (ct,cs.size):=by simp[Ad,hb]
 show aX P (match Ad h a.block with|some (_,n)=>freeze { block:=a.block,off:=n } 1|_=>pure ()) h _;rw[hsh];show K (.slice (some a) n c) (Af h { block:=a.block,off:=cs.size } 1);unfold Af;rw[dL];obtain⟨lo,hi⟩:=f;refine hk _ (if lo==hi then(cs.size,cs.size+1) else(min lo cs.size,max hi (cs.size+1))) ?_ (by simp) (λx hx=> ?_)
 ·simp[fD,hb]
 ·simp[fD,ie hx]
theorem Eu.bytes {h:aj} {t e:TypeId} {p:bU} {len cap:Nat} (he:P.cellsOf e=1) (hk:P.underlying e=some (.int .u8)) (ht:P.underlying t=some (.slice e)) (hv:Eu P h t (.slice p len cap)):
  ∃bs:List UInt8,bs.length=len/\Row h p (bc bs):=by
 obtain⟨xs,h1,h2,h3⟩:=Eu.ints he hk ht hv;refine⟨xs.map λx=>UInt8.ofNat x.toNat,by simpa using h1,?_⟩;have:bc (xs.map λx=>UInt8.ofNat x.toNat)=xs.map (.int .u8 ·):=by
  unfold bc;rw[fG];refine fV λx hx=> ?_
  have:=wf_u8 (h3 x hx);simp only[Function.comp,gV,Value.int.injEq,true_and];omega
 rw[this];exact h2
end
theorem uR (n:Nat):IntKind.wrap .u8 (n:Int)=((n%256:Nat):Int):=by
 show(n:Int)%256=_;omega
theorem Ap {n:Nat} (h:n<18446744073709551616):IntKind.wrap .u64 (n:Int)=(n:Int):=wrap_u64 (by omega) (by omega)
theorem amh (n:Nat):IntKind.wrap .u8 ((BitVec.ofInt (IntKind.bits .u8) (IntKind.wrap .u8 (n:Int))|||BitVec.ofInt (IntKind.bits .u8) 128).toNat:Int)=((UInt8.ofNat (n%128+128)).toNat:Int):=by
 have key: ∀m:Fin 256,(((BitVec.ofInt 8 (m.val:Int)|||BitVec.ofInt 8 128).toNat%256:Nat))=m.val%128+128:=by decide
 rw[uR n,uR];have k:=key ⟨n%256,by omega⟩;simp only at k;have e:IntKind.bits .u8=8:=rfl;rw[e,k];rw[gV];omega
theorem ajC (c:UInt8):(IntKind.wrap .u8 ((BitVec.ofInt (IntKind.bits .u8) (c.toNat:Int) &&& BitVec.ofInt (IntKind.bits .u8) 128).toNat:Int)==0)=decide (c.toNat<128):=by
 have key: ∀m:Fin 256,(((((BitVec.ofInt 8 (m.val:Int) &&& BitVec.ofInt 8 128).toNat%256:Nat):Int))==0)=decide (m.val<128):=by decide
 rw[uR];exact key ⟨c.toNat,c.toNat_lt⟩
theorem ajD (c:UInt8):IntKind.wrap .u8 ((BitVec.ofInt (IntKind.bits .u8) (c.toNat:Int) &&& BitVec.ofInt (IntKind.bits .u8) 127).toNat:Int)=((c.toNat%128:Nat):Int):=by
 have key: ∀m:Fin 256,((BitVec.ofInt 8 (m.val:Int) &&& BitVec.ofInt 8 127).toNat%256:Nat)=m.val%128:=by decide
 rw[uR];exact bp (λx:Nat=>(x:Int)) (key ⟨c.toNat,c.toNat_lt⟩)
theorem ajE {n d i:Nat} (hn:n<2 ^ i) (hd:d*2 ^ i<18446744073709551616) (hi:i<=64):
  IntKind.wrap .u64 ((BitVec.ofInt (IntKind.bits .u64) (n:Int)|||BitVec.ofInt (IntKind.bits .u64) (IntKind.wrap .u64 ((d:Int)*2 ^ min (Int.toNat (i:Int)) (IntKind.bits .u64)))).toNat:Int)=((n+d*2 ^ i:Nat):Int):=by
 have e64:IntKind.bits .u64=64:=rfl;have hp:(0:Nat)<2 ^ i:=Nat.two_pow_pos i;rw[aL,e64,Nat.min_eq_left hi];have e1:((d:Int)*2 ^ i)=((d*2 ^ i:Nat):Int):=by simp
 rw[e1,Ap hd];have apO:n<18446744073709551616:=by
  have:(2:Nat) ^ i<=2 ^ 64:=iN (by omega) hi;omega
 have e2: ∀m:Nat,m<18446744073709551616->(BitVec.ofInt 64 (m:Int)).toNat=m:=λm hm=>by
  rw[BitVec.toNat_ofInt];omega
 rw[BitVec.toNat_or,e2 n apO,e2 _ hd];have e3:n|||d*2 ^ i=n+d*2 ^ i:=by
  rw[Nat.or_comm,je,<-Nat.two_pow_add_eq_or_of_lt hn d];omega
 rw[e3];refine Ap ?_;have hdiv:d<2 ^ (64 - i):=by
  have:(18446744073709551616:Nat)=2 ^ (64 - i)*2 ^ i:=by rw[<-Nat.pow_add,Nat.sub_add_cancel hi]
  rw[this] at hd;exact Nat.lt_of_mul_lt_mul_right hd
 have:(d+1)*2 ^ i<=2 ^ (64 - i)*2 ^ i:=db _ hdiv;rw[<-Nat.pow_add,Nat.sub_add_cancel hi,gj] at this;omega
theorem apP {n:Nat} :Int.fdiv (n:Int) (2 ^ min (Int.toNat 7) (IntKind.bits .u64))=((n/128:Nat):Int):=by
 show Int.fdiv (n:Int) 128=_;rw[Int.fdiv_eq_ediv_of_nonneg _ (by omega)];omega
end Go.Den
namespace Go.Den
structure Step (S:Nat->Prop) (h:aj) (S':Nat->Prop) (h':aj):Prop where
 fr:Fr S h h'
 new: ∀c,S' c->S c\/h.size<=c
theorem Step.refl (S:Nat->Prop) (h:aj):Step S h S h:=⟨Fr.refl _ _,λ_=> .inl⟩
theorem Step.trans {S S1 S2:Nat->Prop} {h h1 h2:aj} (a:Step S h S1 h1) (b:Step S1 h1 S2 h2):Step S h S2 h2:=
 ⟨a.fr.trans b.fr (λ_ _=>id) (λc hc hx=>(a.new c hx).resolve_right (by omega)),λc hc=>by
  rcases b.new c hc with hc|hc
  ·exact a.new c hc
  ·have:=a.fr.1;exact .inr (by omega)⟩
theorem Step.apart {S S' Q:Nat->Prop} {h h':aj} (st:Step S h S' h') (hd: ∀c,S c->¬Q c) (hq: ∀c,Q c->c<h.size): ∀c,S' c->¬Q c:=λc hc hx=>by
 rcases st.new c hc with h1|h1
 ·exact hd c h1 hx
 ·have:=hq c hx;omega
theorem Fr.fresh {S:Nat->Prop} {h h1 h2:aj} (f:Fr (λ_=>False) h h1) (g:Fr S h1 h2) (hs: ∀c,S c->h.size<=c):Fr (λ_=>False) h h2:=
 f.step g λc hc hx=>by have:=hs c hx;omega
theorem aac {h:aj} {c:Array Value} {t:TypeId} {f:Nat×Nat} {i:Nat} {v:Value} :yW (h.push (.cells c t f)) (AA h.size i) v=h.push (.cells (c.setIfInBounds i v) t f):=by
 apply Array.ext
 ·simp[yW]
 ·intro j h1 h2;have e: ∀(x:aj) (hx:j<x.size),x[j]? =some x[j]:=λx hx=>Array.getElem?_eq_getElem hx
  have:(yW (h.push (.cells c t f)) (AA h.size i) v)[j]? =(h.push (.cells (c.setIfInBounds i v) t f))[j]? :=by
   by_cases q:j=h.size
   ·subst q;rw[Gx cz,cz]
   ·rw[Es q];rw[iA,iA,ai q,ai q]
  rw[e _ h1,e _ h2] at this;exact bz this
theorem HD {h:aj} {c:Array Value} {t:TypeId} {i:Nat} {v:Value} {K:aj->Prop} (hi:i<c.size) (hk:K (h.push (.cells (c.setIfInBounds i v) t (0,0)))):aH (h.push (.cells c t (0,0))) (AA h.size i) v K:=by
 refine⟨?_,xY cz,?_⟩
 ·rw[wj cz];simp[hi]
 ·rintro _ rfl;rw[aac];exact hk
theorem cX {h:aj} {o:Obj} {K:Nat->aj->Prop} (hk:K h.size (h.push o)):aV h o K:=by
 rintro b h' rfl rfl;exact hk
section
variable {P : Program}
theorem qa {sT xT ty elem eT t:TypeId} {sz bytes:Nat} {z:Value} {h:aj} {p:bU} {len cap:Nat} {cs:List Value} {xs:Array Value} {K:iI}
  (T:Ao P sT elem sz bytes z) (hx:P.underlying xT=some (.slice eT))
  (own:iR h p len cap sz cs) (hxs:xs.size=sz) (OS: ∀v∈xs.toList,jg v=true) (hb:(len+1)*bytes<=70368744177664) (fI:len+1<=9223372036854775807)
  (hk: ∀p' nj h',iR h' p' (len+1) nj sz (cs++xs.toList)->Fr (aQ p) h h'->(∀c,aQ p' c->aQ p c\/h.size<=c)->K (.slice p' (len+1) nj) h'):
  aV h (.cells xs t) λb h1=>aX P (Builtin.append_ #[sT,xT] ty #[.slice p len cap,.slice (some (AA b 0)) 1 1]) h1 K:=by
 refine cX ?_;have f1:Fr (λ_=>False) h (h.push (.cells xs t)):=Fr.push _ _;refine fQ T hx (own.frame f1 (λ_ _=>id)) (ds:=xs.toList) (.inr ⟨_,rfl,lR cz (λj v hj=>by rw[bZ];simpa using hj)⟩) (by simp[hxs]) OS hb fI ?_;intro p' nj h' o1 _ f2 g;exact hk p' nj h' o1 (Fr.no f1 f2) (λc hc=>(g c hc).imp id (λh2=>by simp at h2;omega))
end
end Go.Den
namespace Go.Den
structure Up (h0:aj) (S:Nat->Prop) (h:aj):Prop where
 fr:Fr (λ_=>False) h0 h
 ge: ∀c,S c->h0.size<=c
theorem Up.step {h0 h h':aj} {S S':Nat->Prop} (u:Up h0 S h) (st:Step S h S' h'):Up h0 S' h':=
 ⟨u.fr.fresh st.fr u.ge,λc hc=>by
  rcases st.new c hc with h1|h1
  ·exact u.ge c h1
  ·have:=u.fr.1;omega⟩
theorem Up.MI {h0 h h':aj} {S Q:Nat->Prop} (u:Up h0 S h) (f:Fr Q h h') (hq: ∀c,Q c->S c):Up h0 S h':=⟨u.fr.fresh f (λc hc=>u.ge c (hq c hc)),u.ge⟩
theorem rV {h:aj} {cs:List Value} {t:TypeId} :Row (h.push (.cells cs.toArray t)) (some (AA h.size 0)) cs:=.inr ⟨_,rfl,lR cz (λj v hj=>by rw[bZ];simpa using hj)⟩
theorem jz (a:Addr):a.add 0=a:=by simp[Addr.add]
theorem wm (a:Addr) (n:Nat):(a.add n).block=a.block:=by unfold Addr.add;split<;>rfl
theorem qN {h:aj} {p:bU} {cs:List Value} (hr:Row h p cs) (hn:cs≠ []) {x:Nat} (hx:aQ p x):x<h.size:=by
 obtain⟨a,rfl,rfl⟩:=hx;rcases hr with hh|⟨a',e,hh⟩
 ·exact absurd hh hn
 ·cases e;cases cs with
  |nil=>exact absurd rfl hn
  |cons c cs=>
   obtain⟨_,_,_,hb,_⟩:=JI hh.1;have:=aI hb;rwa[wm] at this
theorem Row.sub {h:aj} {p:bU} {cs:List Value} (hr:Row h p cs) {cap l u sz:Nat} (h1:l<=u) (h2:u<=cap):Row h (cZ p cap l sz) ((cs.take (u*sz)).drop (l*sz)):=by
 by_cases hc:cap=l
 ·left;have:u=l:=by omega
  subst this;rw[List.drop_eq_nil_iff,bQ];exact Nat.min_le_left _ _
 ·unfold cZ;rw[ai hc];rcases hr with rfl|⟨a,rfl,hh⟩
  ·left;simp
  ·refine .inr ⟨a.add (l*sz),rfl,sS.2 λj v hj=> ?_⟩;rw[add_add,bZ];rw[iL,dq] at hj;split at hj
   ·have:=sS.1 hh (l*sz+j) v hj;rwa[bZ] at this
   ·cases hj
structure Ft where
 M:Nat->Prop
 D:Nat->Prop
structure bM (F:Ft) (h:aj) (F':Ft) (h':aj):Prop where
 fr:Fr F.M h h'
 re: ∀c,F'.M c->F.M c\/h.size<=c
 wK: ∀c,F'.D c->F.D c\/h.size<=c
 Iw: ∀c,F.D c->F'.D c
theorem bM.refl (F:Ft) (h:aj):bM F h F h:=⟨Fr.refl _ _,λ_=> .inl,λ_=> .inl,λ_=>id⟩
theorem bM.trans {F F1 F2:Ft} {h h1 h2:aj} (a:bM F h F1 h1) (b:bM F1 h1 F2 h2):bM F h F2 h2:=by
 have z:=a.fr.1;refine⟨a.fr.trans b.fr (λ_ _=>id) (λc hc hx=>(a.re c hx).resolve_right (by omega)),λc hc=> ?_,λc hc=> ?_,λc hc=>b.Iw c (a.Iw c hc)⟩
 ·rcases b.re c hc with hc|hc
  ·exact a.re c hc
  ·exact .inr (by omega)
 ·rcases b.wK c hc with hc|hc
  ·exact a.wK c hc
  ·exact .inr (by omega)
theorem bM.E0 {F:Ft} {h h':aj} (f:Fr F.M h h'):bM F h F h':=⟨f,λ_=> .inl,λ_=> .inl,λ_=>id⟩
theorem bM.nI {F:Ft} {h h':aj} (f:Fr (λ_=>False) h h'):bM F h F h':=.E0 (f.mono λ_ _=>False.elim)
theorem bM.no {F F1:Ft} {h h1 h2:aj} (f:Fr (λ_=>False) h h1) (b:bM F h1 F1 h2):bM F h F1 h2:=(bM.nI f).trans b
theorem bM.on {F F1:Ft} {h h1 h2:aj} (a:bM F h F1 h1) (f:Fr (λ_=>False) h1 h2):bM F h F1 h2:=a.trans (bM.nI f)
theorem bM.apart {F F':Ft} {Q:Nat->Prop} {h h':aj} (st:bM F h F' h') (hd: ∀c,F.M c\/F.D c->¬Q c) (hq: ∀c,Q c->c<h.size): ∀c,F'.M c\/F'.D c->¬Q c:=λc hc hx=>by
 have:=hq c hx;rcases hc with hc|hc
 ·rcases st.re c hc with h1|h1
  ·exact hd c (.inl h1) hx
  ·omega
 ·rcases st.wK c hc with h1|h1
  ·exact hd c (.inr h1) hx
  ·omega
structure UpF (h0:aj) (F:Ft) (h:aj):Prop where
 fr:Fr (λ_=>False) h0 h
 ge: ∀c,F.M c\/F.D c->h0.size<=c
theorem UpF.step {h0 h h':aj} {F F':Ft} (u:UpF h0 F h) (st:bM F h F' h'):UpF h0 F' h':=by
 have z:=u.fr.1;refine⟨u.fr.fresh st.fr (λc hc=>u.ge c (.inl hc)),λc hc=> ?_⟩;rcases hc with hc|hc
 ·rcases st.re c hc with h1|h1
  ·exact u.ge c (.inl h1)
  ·omega
 ·rcases st.wK c hc with h1|h1
  ·exact u.ge c (.inr h1)
  ·omega
theorem UpF.on {h0 h h':aj} {F:Ft} (u:UpF h0 F h) (f:Fr (λ_=>False) h h'):UpF h0 F h':=⟨u.fr.tt f,u.ge⟩
theorem Ch {b:Nat} {t:TypeId} : ∀(vs:List Value) (i:Nat) (h:aj) (c:Array Value) (K:aj->Prop),h[b]? =some (.cells c t (0,0))->i+vs.length<=c.size->vs.all jg=true->
  (∀h' c',h'[b]? =some (.cells c' t (0,0))->c'.size=c.size->(∀j,j<i\/i+vs.length<=j->c'[j]? =c[j]?)->(∀j v,vs[j]? =some v->c'[i+j]? =some v)->h'.size=h.size->(∀x,x≠b->h'[x]? =h[x]?)->K h')->
  gY (AA b 0) vs i h K
 | [],i,h,c,K,hb,_,_,hk=>hk h c hb rfl (λ_ _=>rfl) (λj v hj=>by simp at hj) rfl (λ_ _=>rfl)
 |v::vs,i,h,c,K,hb,hl,hv,hk=>by
  rw[List.all_cons,aW] at hv;rw[bj] at hl;unfold gY;rw[hv.1];dsimp only;rw[kB,bZ];refine bL hb (by omega) λh1 a1 s1 o1=> ?_
  refine Ch vs (i+1) h1 _ K a1 (by rw[Array.size_setIfInBounds];omega) hv.2 λh2 c2 b2 z2 q2 r2 s2 o2=>hk h2 c2 b2 (by rw[z2,Array.size_setIfInBounds]) (λj hj=> ?_) (λj u hj=> ?_) (by omega) (λx hx=>by rw[o2 x hx,o1 x hx])
  ·rw[bj] at hj;rw[q2 j (by omega),cK,dL]
  ·cases j with
   |zero=>
    simp only[eO,bE] at hj;subst hj;rw[Nat.add_zero,q2 i (by omega)];rw[cK,ag rfl,jy]
   |succ j=>
    have:=r2 j u (by simpa using hj);rwa[show i+1+j=i+(j+1) by omega] at this
theorem gF {h:aj} {b:Nat} {c:Array Value} {t:TypeId} {vs:List Value} {K:aj->Prop} (hb:h[b]? =some (.cells c t (0,0))) (hl:vs.length=c.size) (hv:vs.all jg=true)
  (hk: ∀h',h'[b]? =some (.cells vs.toArray t (0,0))->h'.size=h.size->(∀x,x≠b->h'[x]? =h[x]?)->K h'):gY (AA b 0) vs 0 h K:=by
 refine Ch vs 0 h c K hb (by omega) hv λh' c' b' z _ r s o=>hk h' ?_ s o
 have:c'=vs.toArray:=by
  apply Array.ext'
  apply im
  intro j;by_cases hj:j<vs.length
  ·have e:=au hj;have:=r j _ e;rw[bZ] at this;rw[ee,this];exact e.symm
  ·rw[eg (by rw[fT];omega),eg (by simpa using hj)]
 rw[<-this];exact b'
theorem kV {h:aj} {c:Array Value} {t:TypeId} {vs:List Value} {K:Nat->aj->Prop} (hl:vs.length=c.size) (hv:vs.all jg=true)
  (hk: ∀b h',b=h.size->h'[b]? =some (.cells vs.toArray t (0,0))->Fr (λ_=>False) h h'->K b h'):aV h (.cells c t) λb h0=>gY (AA b 0) vs 0 h0 (K b):=
 cX (gF cz hl hv λh' b' s o=>hk _ h' rfl b' ((Fr.push h _).fresh (S:=λy=>y=h.size) ⟨by omega,λy _ hn=>o y hn⟩ (λy e=>Nat.le_of_eq e.symm)))
end Go.Den
namespace Go.Den
structure BV where
 p:bU
 c:Nat
 b:List UInt8
abbrev BV.val (x:BV):Value:=.slice x.p x.b.length x.c
structure BV.ok (h:aj) (D:Nat->Prop) (x:BV):Prop where
 row:Row h x.p (bc x.b)
 own:x.b≠ []->∀c,aQ x.p c->D c
 cap:x.b.length<=x.c
theorem BV.ok.frame {h h':aj} {D Q:Nat->Prop} {x:BV} (H:x.ok h D) (f:Fr Q h h') (hn: ∀c,D c->¬Q c):x.ok h' D:=by
 refine⟨?_,H.own,H.cap⟩;by_cases hc:x.b= []
 ·rw[hc];exact .inl rfl
 ·exact H.row.frame f (λa e=>hn a.block (H.own hc a.block ⟨a,e,rfl⟩))
theorem BV.ok.mono {h:aj} {D D':Nat->Prop} {x:BV} (H:x.ok h D) (hd: ∀c,D c->D' c):x.ok h D':=⟨H.row,λhc c hx=>hd c (H.own hc c hx),H.cap⟩
theorem BV.wL {h:aj} {D:Nat->Prop} {p:bU} {c:Nat} {b:List UInt8} (o:iR h p b.length c 1 (bc b)) (hd: ∀x,aQ p x->D x):BV.ok h D ⟨p,c,b⟩:=⟨o.pZ,λ_=>hd,o.le⟩
theorem sw (p:bU) (m sz:Nat):cZ p m 0 sz=p:=by
 unfold cZ;split
 ·rfl
 ·cases p with
  |none=>rfl
  |some a=>simp[Addr.add]
theorem iR.lj {h:aj} {a:Addr} {len cap sz:Nat} {α:Type} {enc:α->List Value} {xs:List α} (own:iR h (.some a) len cap sz (xs.flatMap enc)) (qZ: ∀x,(enc x).length=sz) {i:Nat} {x:α} (hi:xs[i]? =.some x):fE (a.add (i*sz)) (enc x) 0 h:=by
 refine sS.2 λj v hj=> ?_
 rw[bZ,add_add];exact own.cell (Dj enc sz qZ xs i x hi j v hj)
theorem Row.lj {h:aj} {a:Addr} {sz:Nat} {α:Type} {enc:α->List Value} {xs:List α} (own:Row h (.some a) (xs.flatMap enc)) (qZ: ∀x,(enc x).length=sz) {i:Nat} {x:α} (hi:xs[i]? =.some x):fE (a.add (i*sz)) (enc x) 0 h:=by
 refine sS.2 λj v hj=> ?_
 rw[bZ,add_add];exact own.cell (Dj enc sz qZ xs i x hi j v hj)
theorem iR.addr {h:aj} {p:bU} {len cap sz:Nat} {cs:List Value} (own:iR h p len cap sz cs) (hl:0<len): ∃b off,p=.some (AA b off):=by
 cases own with
 |nil _ h2 _ _=>omega
 |row b off c t hp _ _ _ _ _=>exact⟨b,off,hp⟩
theorem iR.pre {h:aj} {p:bU} {len cap sz:Nat} {cs:List Value} (own:iR h p len cap sz cs) {i:Nat} (hi:i<=len):iR h p i cap sz (cs.take (i*sz)):=by
 have:=own.sub (l:=0) (u:=i) (cj _) hi;rwa[sw,Nat.zero_mul,jT] at this
theorem wo {α:Type} (enc:α->List Value) (sz:Nat) (qZ: ∀x,(enc x).length=sz): ∀(xs:List α) (i:Nat),(xs.flatMap enc).take (i*sz)=(xs.take i).flatMap enc
 | [],i=>by simp
 |x::xs,0=>by simp
 |x::xs,i+1=>by
  rw[iS,jb,iS,List.take_append,qZ,bR (by rw[qZ,gj];omega),show(i+1)*sz - sz=i*sz by rw[gj];omega,wo enc sz qZ xs i]
theorem y7 {α:Type} (enc:α->List Value) (sz:Nat) (qZ: ∀x,(enc x).length=sz): ∀(xs:List α) (i:Nat),(xs.flatMap enc).drop (i*sz)=(xs.drop i).flatMap enc
 | [],i=>by simp
 |x::xs,0=>by simp
 |x::xs,i+1=>by
  rw[iS,List.drop_succ_cons,List.drop_append,qZ,fL (by rw[qZ,gj];omega),fk,show(i+1)*sz - sz=i*sz by rw[gj];omega,y7 enc sz qZ xs i]
theorem abQ {α:Type} (enc:α->List Value) (sz:Nat) (qZ: ∀x,(enc x).length=sz): ∀(xs:List α) (i:Nat) (y:α),i<xs.length->∀(cs:List Value),cs.length=(xs.flatMap enc).length->(∀j,j/sz≠i\/sz=0->cs[j]? =(xs.flatMap enc)[j]?)->(∀j v,j<sz->(enc y)[j]? =some v->cs[i*sz+j]? =some v)->cs=(xs.set i y).flatMap enc:=by
 intro xs i y hi cs hl h1 h2;apply im
 intro j;by_cases JA:sz=0
 ·rw[h1 j (.inr JA)];have e1: ∀zs:List α,zs.flatMap enc= []:=λzs=>by
   have:=gW enc sz qZ zs;rw[JA,Nat.mul_zero] at this;exact List.eq_nil_of_length_eq_zero this
  rw[e1,e1]
 have Ue:0<sz:=by omega
 by_cases hj:j/sz=i
 ·have hjm:j=i*sz+j%sz:=by rw[<-hj,je];exact(Nat.div_add_mod j sz).symm
  have hm:=Nat.mod_lt j Ue;have hy:(enc y)[j%sz]? =some ((enc y)[j%sz]'(by rw[qZ];exact hm)):=au _;have a:=h2 _ _ hm hy;have b:=Dj enc sz qZ (xs.set i y) i y (by simp[hi]) _ _ hy;rw[<-hjm] at a b;rw[a,b]
 ·rw[h1 j (.inl hj)];by_cases Cf:j/sz<xs.length
  ·have hjm:j=(j/sz)*sz+j%sz:=by rw[je];exact(Nat.div_add_mod j sz).symm
   have hm:=Nat.mod_lt j Ue;have hx:xs[j/sz]? =some (xs[j/sz]):=au Cf;have hx':(xs.set i y)[j/sz]? =some (xs[j/sz]):=by rw[eH,ai (λe=>hj e.symm)];exact hx
   have hy:(enc xs[j/sz])[j%sz]? =some ((enc xs[j/sz])[j%sz]'(by rw[qZ];exact hm)):=au _;have a:=Dj enc sz qZ xs _ _ hx _ _ hy;have b:=Dj enc sz qZ (xs.set i y) _ _ hx' _ _ hy;rw[<-hjm] at a b;rw[a,b]
  ·have hge:xs.length*sz<=j:=by
    have:=(Nat.le_div_iff_mul_le Ue).1 (Nat.le_of_not_lt Cf);exact this
   rw[eg (by rw[gW enc sz qZ];exact hge),eg (by rw[gW enc sz qZ,eU];exact hge)]
section
variable {P : Program}
theorem MJ {sT elem ty:TypeId} {sz bytes:Nat} {z:Value} {h:aj} {p:bU} {len cap i:Nat} {cs:List Value} {K:iI} (T:Ao P sT elem sz bytes z) (OS: ∀v∈z.cells.toList,jg v=true)
  (own:iR h p len cap sz cs) (hi:i<=len) (hk: ∀h',iR h' p i cap sz (cs.take (i*sz))->Fr (aQ p) h h'->K (.tuple #[]) h'):aX P (Builtin.clear_ #[sT] ty #[.slice (cZ p cap i sz) (len - i) (cap - i)]) h K:=by
 have fin:K (.tuple #[]) h:=hk h (own.pre hi) (Fr.refl _ _);obtain⟨inf,apQ,JA,_,hz⟩:=T.i;unfold Builtin.clear_;show aX P (underlying sT>>=_) h K;refine bX (s:=underlying sT) (bD T.u) ?_;cases own with
 |nil hp hl hc BF=>
  subst hp;have:cZ none cap i sz=none:=by unfold cZ;split<;>rfl
  rw[this];exact fin
 |row b off c t hp hb hl hc hlen BF=>
  subst hp;by_cases MK:len - i=0
  ·rw[MK];cases hq:cZ (some (AA b off)) cap i sz with
   |none=>exact fin
   |some a=>exact fin
  ·obtain⟨n,hn⟩: ∃n,len - i=n+1:=⟨len - i - 1,by omega⟩;have hci:cap≠i:=by omega
   have hb0:cZ (some (AA b off)) cap i sz=some ⟨b,off+i*sz,none⟩:=by
    unfold cZ;rw[ai hci];show some (((AA b off):Addr).add (i*sz))=_;rw[kB]
   rw[hb0,hn];show aX P (zeroValue elem>>=λz=>storeCells ⟨b,off+i*sz,none⟩ (Builtin.zeroCells z.cells (n+1)).toList>>=λ_=>pure (Value.tuple #[])) h K;refine bX (s:=zeroValue elem) (oL apQ hz) ?_;rw[eZ];have hzs:=T.zs;have hzl:(Builtin.zeroCells z.cells (n+1)).toList.length=(n+1)*sz:=by simp[Builtin.zeroCells,hzs]
   have nQ:off+i*sz+(n+1)*sz<=off+cap*sz:=by
    rw[<-hn,Nat.sub_mul];have m1:i*sz<=len*sz:=db _ hi;have m2:len*sz<=cap*sz:=db _ hl;omega
   refine Et (c:=c) (off:=off+i*sz) _ 0 h b t _ ?_ hb (by rw[hzl];omega) ?_
   ·intro v hv;simp only[Builtin.zeroCells,Array.toList_map,bn] at hv;obtain⟨k,QK,rfl⟩:=hv;have Ue:0<z.cells.size:=by
     rcases Nat.eq_zero_or_pos z.cells.size with e|e
     ·simp[e] at QK
     ·exact e
    have hm:=Nat.mod_lt k Ue;rw[getElem!_pos z.cells _ hm];exact OS _ (by simp)
   ·intro h' c' wF DC TF hn' apR abJ;refine hk h' (.row b off c' t rfl wF (by omega) (by omega) ?_ ?_) (Fr.of_eq apR λx hx=>abJ x (λe=>hx ⟨_,rfl,e.symm⟩))
    ·rw[bQ,hlen];have m1:i*sz<=len*sz:=db _ hi;omega
    ·intro j v hj;rw[dq] at hj;split at hj
     ·rename_i BD;rw[TF (off+j) (by omega)];exact BF j v hj
     ·cases hj
theorem Gz {sT xT ty elem eT t:TypeId} {sz bytes:Nat} {z:Value} {h:aj} {q:bU} {n cq:Nat} {ds:List Value} {K:iI}
  (T:Ao P sT elem sz bytes z) (hx:P.underlying xT=some (.slice eT)) (hq:Row h q ds) (hd:ds.length=n*sz) (OS: ∀v∈ds,jg v=true) (hb:n*bytes<=70368744177664) (fI:n<=9223372036854775807)
  (hk: ∀p' nj h',iR h' p' n nj sz ds->Fr (λ_=>False) h h'->(∀c,aQ p' c->h.size<=c)->K (.slice p' n nj) h'):
  aV h (.cells #[] t) λb h1=>aX P (Builtin.append_ #[sT,xT] ty #[.slice (some (AA b 0)) 0 0,.slice q n cq]) h1 K:=by
 refine cX ?_;have f1:Fr (λ_=>False) h (h.push (.cells #[] t)):=Fr.push _ _;refine fQ (cs:= []) T hx (.row h.size 0 #[] t rfl cz (bh _) (by simp) (by simp) (λj v hj=>by cases hj)) (hq.frame f1 (λ_ _=>id)) hd OS (by simpa using hb) (by omega) ?_;intro p' c' h' o1 _ f2 g;rw[bZ,fk] at o1;rw[bZ];refine hk p' c' h' o1 (f1.step f2 (λc hc ⟨a,e,e2⟩=>by cases e;simp at e2;omega)) (λx hx=> ?_);rcases g x hx with⟨a,e,rfl⟩|h2
 ·cases e;exact bh _
 ·simp at h2;omega
end
theorem aad {α:Type} {enc:α->List Value} (qZ: ∀x,(enc x).length=2) {xs:List α} {i:Nat} {y:α} {v0 v1:Value} (hi:i<xs.length) (hy:enc y= [v0,v1]):((xs.flatMap enc).set (i*2) v0).set (i*2+1) v1=(xs.set i y).flatMap enc:=by
 have hl:=gW enc 2 qZ xs;refine abQ enc 2 qZ xs i y hi _ (by simp) (λj hj=> ?_) (λj v hj hv=> ?_)
 ·have hj:j/2≠i:=by omega
  rw[eH,eH,dL,dL]
 ·rw[hy] at hv
  match j,hj with
  |0,_=>
   simp only[eO,bE] at hv;rw[eH,dL,eH,jy,jy,hv]
  |1,_=>
   simp only[eM,eO,bE] at hv;rw[eH,ag rfl,ag (by rw[eU];omega),hv]
end Go.Den
namespace Go.Proofs.YtlenamcfacpheaaGreatDoor
open Go.Den
open IntKind (wrap)
open Int (toNat)
section
namespace Cb
inductive Tr where
 |mk (k:Int) (n:Nat) (b:List UInt8) (l:List Tr)
namespace Tr
def k:Tr->Int| .mk k _ _ _=>k
def n:Tr->Nat| .mk _ n _ _=>n
def b:Tr->List UInt8| .mk _ _ b _=>b
def l:Tr->List Tr| .mk _ _ _ l=>l
end Tr
abbrev num (n:Nat):Tr:=.mk 0 n [] []
abbrev BG (b:List UInt8):Tr:=.mk 2 0 b []
abbrev DE (l:List Tr):Tr:=.mk 4 0 [] l
def V4:Tr:=.mk 0 0 [] []
mutual
def yV:Tr->Tr->Bool
 | .mk k n b l,.mk k' n' b' l'=>decide (k=k') && decide (n=n') && decide (b=b') && DF l l'
def DF:List Tr->List Tr->Bool
 | [], []=>true
 |t::ts,u::us=>yV t u && DF ts us
 |_,_=>false
end
mutual
theorem afl: ∀(a b:Tr),yV a b=true↔a=b
 | .mk k n b l,.mk k' n' b' l'=>by
  simp only[yV,Bool.and_eq_true,decide_eq_true_eq,JN,Tr.mk.injEq,and_assoc]
theorem JN: ∀(a b:List Tr),DF a b=true↔a=b
 | [], []=>by simp[DF]
 |t::ts,u::us=>by simp only[DF,Bool.and_eq_true,afl t u,JN ts us,List.cons.injEq]
 | [],u::us=>by simp[DF]
 |t::ts, []=>by simp[DF]
end
def abR (V:List UInt8->Bool) (k:Int) (n:Nat) (b:List UInt8) (l:List Tr):Bool:=
 if k=0 then b.isEmpty && l.isEmpty else if k=2 then decide (n=0) && l.isEmpty else if k=3 then decide (n=0) && l.isEmpty && V b else if k=4 then decide (n=0) && b.isEmpty else false
mutual
def xZ (V:List UInt8->Bool):Tr->Int->Int->Int
 | .mk k n b l,d,left=>if d>6\/left<1 then -1 else if abR V k n b l=true then wM V l (d+1) (left - 1) else -1
def wM (V:List UInt8->Bool):List Tr->Int->Int->Int
 | [],_,left=>left
 |t::ts,d,left=>if xZ V t d left<0 then -1 else wM V ts d (xZ V t d left)
end
mutual
theorem Rj {V:List UInt8->Bool} : ∀ {t:Tr} {d left:Int},xZ V t d left= -1\/0<=xZ V t d left/\xZ V t d left<left
 | .mk k n b l,d,left=>by
  unfold xZ;split
  ·exact .inl rfl
  ·split
   ·rcases ML (V:=V) (ts:=l) (d:=d+1) (left:=left - 1) (by omega) with h|h
    ·exact .inl h
    ·exact .inr (by omega)
   ·exact .inl rfl
theorem ML {V:List UInt8->Bool} : ∀ {ts:List Tr} {d left:Int},0<=left->wM V ts d left= -1\/0<=wM V ts d left/\wM V ts d left<=left
 | [],d,left,hl=>by unfold wM;exact .inr ⟨hl,Int.le_refl _⟩
 |t::ts,d,left,hl=>by
  unfold wM;split
  ·exact .inl rfl
  ·rcases Rj (V:=V) (t:=t) (d:=d) (left:=left) with h1|h1
   ·omega
   ·rcases ML (V:=V) (ts:=ts) (d:=d) (left:=xZ V t d left) (by omega) with h|h
    ·exact .inl h
    ·exact .inr (by omega)
end
def lu (V:List UInt8->Bool) (t:Tr):Bool:=decide (xZ V t 1 256≥0)
def Rk (n:Nat):Nat:=if n<24 then 0 else if n<256 then 1 else if n<65536 then 2 else if n<4294967296 then 4 else 8
def Ix (n:Nat):Nat:=if n<24 then n else if n<256 then 24 else if n<65536 then 25 else if n<4294967296 then 26 else 27
def beB (k n:Nat):List UInt8:=(List.range k).map λi=>UInt8.ofNat (n/2 ^ (8*(k - 1 - i)))
def hdB (m:Int) (n:Nat):List UInt8:=if 0<=m/\m<=7 then UInt8.ofNat (32*m.toNat+Ix n)::beB (Rk n) n else []
theorem V5 (n:Nat):Rk n<=8:=by unfold Rk;repeat (first|omega|split)
theorem I7 (k n:Nat):(beB k n).length=k:=by simp[beB]
theorem V6 (m:Int) (n:Nat):(hdB m n).length<=9:=by
 unfold hdB;split
 ·rw[bj,I7];have:=V5 n;omega
 ·simp
def beN (l:List UInt8):Nat:=l.foldl (λv b=>v*256+b.toNat) 0
theorem Rl (l:List UInt8) (b:UInt8):beN (l++ [b])=beN l*256+b.toNat:=by simp[beN]
theorem abS (l:List UInt8):beN l<256 ^ l.length:=by
 suffices h: ∀(n:Nat) (l:List UInt8),l.length=n->beN l<256 ^ n from h _ l rfl
 intro n;induction n with
 |zero=>intro l hl;rw[List.length_eq_zero_iff.1 hl];simp[beN]
 |succ n ih=>
  intro l hl;obtain⟨a,b,rfl⟩: ∃a b,l=a++ [b]:=⟨l.dropLast,l.getLast (by intro e;rw[e] at hl;simp at hl),(List.dropLast_concat_getLast _).symm⟩;rw[aF] at hl;have:=ih a (by simpa using hl);rw[Rl,Nat.pow_succ];have:=b.toNat_lt;omega
def Ci (m:Nat):Bool:=decide (2<=m/\m<=5)||decide (m=7)
def QL (bs:List UInt8) (pos:Nat):Except Int (Nat×Nat×Bool×Nat):=
 match bs[pos]? with
 |none=> .error 8
 |some x=>
  if x.toNat%32<24 then .ok (x.toNat/32,x.toNat%32,false,pos+1)
  else if x.toNat%32=31/\Ci (x.toNat/32)=true then .ok (x.toNat/32,0,true,pos+1)
  else if x.toNat%32>27 then .error 3
  else if pos+1+2 ^ (x.toNat%32 - 24)>bs.length then .error 8
  else .ok (x.toNat/32,beN ((bs.drop (pos+1)).take (2 ^ (x.toNat%32 - 24))),false,pos+1+2 ^ (x.toNat%32 - 24))
theorem JO {bs:List UInt8} {pos m n nx:Nat} {o:Bool} (h:QL bs pos=.ok (m,n,o,nx)):pos<nx/\nx<=bs.length/\n<18446744073709551616/\m<8/\pos<bs.length:=by
 unfold QL at h;split at h
 ·cases h
 ·rename_i x hx;have hp:=(aG.1 hx).1;have:=x.toNat_lt;split at h
  ·cases h;omega
  ·split at h
   ·cases h;omega
   ·split at h
    ·cases h
    ·split at h
     ·cases h
     ·rename_i h1 h2 h3 h4;cases h;have hl:=abS ((bs.drop (pos+1)).take (2 ^ (x.toNat%32 - 24)));have:((bs.drop (pos+1)).take (2 ^ (x.toNat%32 - 24))).length<=8:=by
       rw[bQ];have:x.toNat%32 - 24=0\/x.toNat%32 - 24=1\/x.toNat%32 - 24=2\/x.toNat%32 - 24=3:=by omega
       rcases this with e|e|e|e<;>rw[e]<;>omega
      have:=iN (n:=256) (by omega) this;have h1:1<=2 ^ (x.toNat%32 - 24):=Nat.one_le_two_pow;refine⟨by omega,by omega,?_,by omega,hp⟩
      calc _<_:=hl
       _<=_:=this
       _=18446744073709551616:=by decide
def wN (V:List UInt8->Bool) (bs:List UInt8) (pos m n:Nat):Except Int (List UInt8):=
 if n<=bs.length - pos then(if m≠3\/V ((bs.drop pos).take n)=true then .ok ((bs.drop pos).take n) else .error 3) else .error 8
def E9 (bs:List UInt8) (pos:Nat):Bool:=match bs[pos]? with|some x=>decide (x.toNat=255)|none=>false
def Rm (V:List UInt8->Bool) (bs:List UInt8) (m:Nat):Nat->Nat->List UInt8->Except Int (List UInt8×Nat)
 |0,_,_=> .error 8
 |k+1,pos,acc=>if E9 bs pos=true then .ok (acc,pos+1) else match QL bs pos with
  | .error e=> .error e
  | .ok (m',n',o',nx)=>if m'=m/\o'=false then(match wN V bs nx m' n' with| .error e=> .error e| .ok w=>Rm V bs m k (nx+n') (acc++w)) else .error 3
def OU (V:List UInt8->Bool) (bs:List UInt8) (pos m n:Nat) (o:Bool):Except Int (List UInt8×Nat):=
 match o with
 |true=>Rm V bs m (bs.length+1) pos []
 |false=>match wN V bs pos m n with| .error e=> .error e| .ok w=> .ok (w,pos+n)
abbrev RF:=Nat->Nat->Except Int (Tr×Nat×Nat)
def HE (bs:List UInt8) (f:RF):Nat->Nat->Nat->List Tr->Except Int (List Tr×Nat×Nat)
 |0,_,_,_=> .error 8
 |k+1,pos,left,ts=>if E9 bs pos=true then .ok (ts,pos+1,left) else match f pos left with
  | .error e=> .error e
  | .ok (t,nx,lf)=>HE bs f k nx lf (ts++ [t])
def Fa (f:RF):Nat->Nat->Nat->List Tr->Except Int (List Tr×Nat×Nat)
 |0,pos,left,ts=> .ok (ts,pos,left)
 |k+1,pos,left,ts=>match f pos left with
  | .error e=> .error e
  | .ok (t,nx,lf)=>Fa f k nx lf (ts++ [t])
def x4 (bs:List UInt8) (f:RF) (pos left n:Nat) (o:Bool):Except Int (List Tr×Nat×Nat):=
 match o with
 |true=>HE bs f (bs.length+1) pos left []
 |false=>if n<=bs.length - pos then Fa f n pos left [] else .error 8
def lL (V : List UInt8 -> Bool) (bs : List UInt8) : Nat -> RF
  | lv, pos, left => match QL bs pos with
    | .error e => .error e
    | .ok (m, n, o, nx) => if m = 0 \/ m = 2 \/ m = 3 \/ m = 4 then (match lv with
      | 0 => .error 9
      | lv + 1 => if left = 0 then .error 2 else if m = 0 then .ok (num n, nx, left - 1)
        else if m = 4 then (match x4 bs (lL V bs lv) nx (left - 1) n o with | .error e => .error e | .ok (ts, p, lf) => .ok (DE ts, p, lf))
        else (match OU V bs nx m n o with | .error e => .error e | .ok (w, p) => .ok (.mk m 0 w [], p, left - 1))) else .error 3
def A8 (V:List UInt8->Bool) (bs:List UInt8):Except Int (Tr×Nat):=match lL V bs 6 0 256 with| .error e=> .error e| .ok (t,nx,_)=> .ok (t,nx)
mutual
def room:Tr->Nat
 | .mk _ _ b l=>9+b.length+dY l
def dY:List Tr->Nat
 | []=>0
 |t::ts=>room t+dY ts
end
-- how deep an item is
mutual
def deep:Tr->Nat
 | .mk _ _ _ l=>1+V7 l
def V7:List Tr->Nat
 | []=>0
 |t::ts=>max (deep t) (V7 ts)
end
theorem mP {a b:List Tr} :dY (a++b)=dY a+dY b:=by
 induction a with
 |nil=>simp[dY]
 |cons t a ih=>simp only[fv,dY,ih];omega
theorem Dk {t:Tr} {l:List Tr} (h:t∈l):deep t<=V7 l:=by
 induction l with
 |nil=>cases h
 |cons u l ih=>
  simp only[V7];rcases bP.1 h with rfl|h
  ·omega
  ·have:=ih h;omega
def HF (k:Int) (n:Nat) (b:List UInt8) (l:List Tr):Nat:=if k=2\/k=3 then b.length else if k=4 then l.length else n
mutual
def enc:Tr->List UInt8
 | .mk k n b l=>hdB k (HF k n b l)++b++Iz l
def Iz:List Tr->List UInt8
 | []=> []
 |t::ts=>enc t++Iz ts
end
mutual
theorem rW: ∀(t:Tr),(enc t).length<=room t
 | .mk k n b l=>by
  simp only[enc,room,List.length_append];have:=V6 k (HF k n b l);have:=JP l;omega
theorem JP: ∀(l:List Tr),(Iz l).length<=dY l
 | []=>Nat.zero_le _
 |t::ts=>by
  simp only[Iz,dY,List.length_append];have:=rW t;have:=JP ts;omega
end
theorem aae (l:List Tr) (t:Tr):Iz (l++ [t])=Iz l++enc t:=by
 induction l with
 |nil=>simp[Iz]
 |cons u l ih=>simp only[fv,Iz,ih,dU]
theorem afm {V:List UInt8->Bool} {bs:List UInt8} {m:Nat} : ∀(k pos:Nat) (acc w:List UInt8) (nx:Nat),pos<=bs.length->Rm V bs m k pos acc=.ok (w,nx)->w.length+pos<=acc.length+nx/\pos<nx/\nx<=bs.length:=by
 intro k;induction k with
 |zero=>intro pos acc w nx _ h;cases h
 |succ k ih=>
  intro pos acc w nx hp h;unfold Rm at h;split at h
  ·rename_i he;cases h;unfold E9 at he;split at he
   ·rename_i x hx;have:=(aG.1 hx).1;omega
   ·cases he
  ·split at h
   ·cases h
   ·rename_i m' n' o' nx' hh;have h1:=JO hh;split at h
    ·split at h
     ·cases h
     ·rename_i v hv;unfold wN at hv;split at hv
      ·split at hv
       ·cases hv;have:=ih _ _ _ _ (by omega) h;rw[aF,bQ,cf] at this;omega
       ·cases hv
      ·cases hv
    ·cases h
def ajF (bs:List UInt8) (f:RF):Prop:= ∀pos left t nx lf,pos<=bs.length->f pos left=.ok (t,nx,lf)->room t<=10*(nx - pos)/\pos<nx/\nx<=bs.length/\lf<=left
theorem abT {bs:List UInt8} {f:RF} (hf:ajF bs f): ∀(k pos left:Nat) (ts us:List Tr) (nx lf:Nat),pos<=bs.length->HE bs f k pos left ts=.ok (us,nx,lf)->dY us+10*pos<=dY ts+10*nx/\pos<=nx/\nx<=bs.length/\lf<=left:=by
 intro k;induction k with
 |zero=>intro pos left ts us nx lf _ h;cases h
 |succ k ih=>
  intro pos left ts us nx lf hp h;unfold HE at h;split at h
  ·rename_i he;cases h;unfold E9 at he;split at he
   ·rename_i x hx;have:=(aG.1 hx).1;omega
   ·cases he
  ·split at h
   ·cases h
   ·rename_i t nx' lf' hh;have h1:=hf _ _ _ _ _ hp hh;have h2:=ih _ _ _ _ _ _ (by omega) h;rw[mP] at h2;simp only[dY] at h2;omega
theorem abU {bs:List UInt8} {f:RF} (hf:ajF bs f): ∀(k pos left:Nat) (ts us:List Tr) (nx lf:Nat),pos<=bs.length->Fa f k pos left ts=.ok (us,nx,lf)->dY us+10*pos<=dY ts+10*nx/\pos<=nx/\nx<=bs.length/\lf<=left:=by
 intro k;induction k with
 |zero=>intro pos left ts us nx lf _ h;cases h;omega
 |succ k ih=>
  intro pos left ts us nx lf hp h;unfold Fa at h;split at h
  ·cases h
  ·rename_i t nx' lf' hh;have h1:=hf _ _ _ _ _ hp hh;have h2:=ih _ _ _ _ _ _ (by omega) h;rw[mP] at h2;simp only[dY] at h2;omega
theorem Rn {V:List UInt8->Bool} {bs:List UInt8} : ∀lv,ajF bs (lL V bs lv):=by
 intro lv;induction lv with
 |zero=>
  intro pos left t nx lf hp h;unfold lL at h;split at h
  ·cases h
  ·split at h<;>cases h
 |succ lv ih=>
  intro pos left t nx lf hp h;unfold lL at h;split at h
  ·cases h
  ·rename_i m n o nx' hh;have h1:=JO hh;split at h
   ·dsimp only at h;split at h
    ·cases h
    ·split at h
     ·cases h;simp only[room,dY,bC];omega
     ·split at h
      ·split at h
       ·cases h
       ·rename_i ts p lf' hl;cases h;have:dY ts+10*nx'<=10*nx/\nx'<=nx/\nx<=bs.length/\lf<=left - 1:=by
         unfold x4 at hl;split at hl
         ·have:=abT ih _ _ _ _ _ _ _ (by omega) hl;simpa[dY] using this
         ·split at hl
          ·have:=abU ih _ _ _ _ _ _ _ (by omega) hl;simpa[dY] using this
          ·cases hl
        simp only[room,bC];omega
      ·split at h
       ·cases h
       ·rename_i w p hs;cases h;have:w.length+nx'<=nx/\nx'<=nx/\nx<=bs.length:=by
         unfold OU at hs;split at hs
         ·have:=afm _ _ _ _ _ (by omega) hs;simp only[bC] at this;omega
         ·split at hs
          ·cases hs
          ·rename_i v hv;cases hs;unfold wN at hv;split at hv
           ·split at hv
            ·cases hv;rw[bQ,cf];omega
            ·cases hv
           ·cases hv
        simp only[room,dY];omega
   ·cases h
theorem OV {bs:List UInt8} {pos:Nat} {e:Int} (h:QL bs pos=.error e):e≠0:=by
 unfold QL at h;repeat (first|decide|cases h|split at h)
theorem JQ {V:List UInt8->Bool} {bs:List UInt8} {pos m n:Nat} {e:Int} (h:wN V bs pos m n=.error e):e≠0:=by
 unfold wN at h;repeat (first|decide|cases h|split at h)
theorem abV {V:List UInt8->Bool} {bs:List UInt8} {m:Nat} {e:Int} : ∀(k pos:Nat) (acc:List UInt8),Rm V bs m k pos acc=.error e->e≠0:=by
 intro k;induction k with
 |zero=>intro pos acc h;cases h;decide
 |succ k ih=>
  intro pos acc h;unfold Rm at h;split at h
  ·cases h
  ·split at h
   ·rename_i hh;cases h;exact OV hh
   ·split at h
    ·split at h
     ·rename_i hh;cases h;exact JQ hh
     ·exact ih _ _ h
    ·cases h;decide
def RFe (f:RF):Prop:= ∀pos left e,f pos left=.error e->e≠0
theorem aaf {bs:List UInt8} {f:RF} (hf:RFe f) {pos left n:Nat} {o:Bool} {e:Int} (h:x4 bs f pos left n o=.error e):e≠0:=by
 have op: ∀(k pos left:Nat) (ts:List Tr),HE bs f k pos left ts=.error e->e≠0:=by
  intro k;induction k with
  |zero=>intro pos left ts h;cases h;decide
  |succ k ih=>
   intro pos left ts h;unfold HE at h;split at h
   ·cases h
   ·split at h
    ·rename_i hh;cases h;exact hf _ _ _ hh
    ·exact ih _ _ _ h
 have mn: ∀(k pos left:Nat) (ts:List Tr),Fa f k pos left ts=.error e->e≠0:=by
  intro k;induction k with
  |zero=>intro pos left ts h;cases h
  |succ k ih=>
   intro pos left ts h;unfold Fa at h;split at h
   ·rename_i hh;cases h;exact hf _ _ _ hh
   ·exact ih _ _ _ h
 unfold x4 at h;split at h
 ·exact op _ _ _ _ h
 ·split at h
  ·exact mn _ _ _ _ h
  ·cases h;decide
theorem aag {V:List UInt8->Bool} {bs:List UInt8} : ∀lv,RFe (lL V bs lv):=by
 intro lv;induction lv with
 |zero=>
  intro pos left e h;unfold lL at h;split at h
  ·rename_i hh;cases h;exact OV hh
  ·split at h<;>(cases h;decide)
 |succ lv ih=>
  intro pos left e h;unfold lL at h;split at h
  ·rename_i hh;cases h;exact OV hh
  ·split at h
   ·dsimp only at h;split at h
    ·cases h;decide
    ·split at h
     ·cases h
     ·split at h
      ·split at h
       ·rename_i hh;cases h;exact aaf ih hh
       ·cases h
      ·split at h
       ·rename_i hh;cases h;unfold OU at hh;split at hh
        ·exact abV _ _ _ hh
        ·split at hh
         ·rename_i h2;cases hh;exact JQ h2
         ·cases hh
       ·cases h
   ·cases h;decide
theorem Dm {V:List UInt8->Bool} {bs:List UInt8} {e:Int} (h:A8 V bs=.error e):e≠0:=by
 unfold A8 at h;split at h
 ·rename_i hh;cases h;exact aag 6 _ _ _ hh
 ·cases h
theorem JR {V:List UInt8->Bool} {bs:List UInt8} {t:Tr} {nx:Nat} (h:A8 V bs=.ok (t,nx)):room t<=10*bs.length/\nx<=bs.length:=by
 unfold A8 at h;split at h
 ·cases h
 ·rename_i t nx' lf hh;cases h;have:=Rn 6 _ _ _ _ _ (cj _) hh;omega
end Cb
end
end Go.Proofs.YtlenamcfacpheaaGreatDoor
