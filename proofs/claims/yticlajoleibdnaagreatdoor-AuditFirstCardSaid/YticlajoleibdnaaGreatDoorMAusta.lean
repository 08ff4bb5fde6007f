/-
  IY is proved here: parts of AH proof, one behind AH other (texts of this work, merged by a program; KW AH theorem KX not use is left out). No condition.
-/
import Derived.OrdersHeld
import Derived.Scope
import Derived.KernelRfl
import Derived.Recover
import Derived.IntWalk
import Derived.ProofKit
import Derived.ChangeOld
import Derived.Below
import Derived.Carry
import Derived.OpenShut
set_option linter.defProp false
set_option maxRecDepth 100000
set_option maxHeartbeats 4000000
namespace Go
section
variable {c p q r:Prop}
abbrev bH:=Option Addr
abbrev cO:=List UInt8
abbrev dH:=Value→Array Obj→Prop
abbrev cM:=Array Obj→Prop
abbrev fZ:=Nat→Prop
abbrev mv:=List UInt8→Bool
abbrev iT:=Int→Array Obj→Prop
abbrev iW:=Int→Array Obj→Nat
abbrev IZ:=Exit→Act→World→Prop
abbrev bC:=ByteArray
abbrev ZM:ByteArray:=⟨#[]⟩
abbrev wI(x:Int):Int:=IntKind.wrap .i64 x
abbrev wU(x:Int):Int:=IntKind.wrap .u64 x
abbrev AA(b i:Nat):Addr:=⟨b,i,none⟩
abbrev Sa(b i:Nat):Option Addr:=some ⟨b,i,none⟩
abbrev Value.I(x:Int):Value:=.int .i64 x
abbrev Value.U(x:Int):Value:=.int .u64 x
abbrev Value.Q(p:Option Addr):Value:=.pointer p
abbrev Value.P(b i:Nat):Value:=.pointer (some ⟨b,i,none⟩)
abbrev Value.L(p:Option Addr)(l c:Nat):Value:=.slice p l c
abbrev Value.B(b:Bool):Value:=.bool b
abbrev Value.S(s:ByteArray):Value:=.string s
abbrev Value.T(v:Array Value):Value:=.tuple v
abbrev Obj.C(c:Array Value)(t:TypeId)(f:Nat×Nat:=(0,0)):Obj:=.cells c t f
abbrev Value.Z:Value:=.slice none 0 0
def fe{i:Decidable c}{a:Sort _}{t e:a}(h: ¬c:=by first|decide|omega|(simp only[decide_eq_true_eq];omega)):ite c t e=e:=if_neg h
def iE{i:Decidable c}{a:Sort _}{t e:a}(h:c:=by first|decide|omega|exact decide_eq_true (by omega)):ite c t e=t:=if_pos h
def bD{d:Sort _}{f:d→Sort _}{e:(a:d)→f a→Prop}: ∀a b,e a b→e a b:=λ_ _=>id
def ae(h:p:=by omega):p:=h
def bA(h:p:=by decide):p:=h
def bO(h:p:=by simp):p:=h
def zzkr(h:p:=by kernel_rfl):p:=h
def cv(h:q)(g:q→p:=by intro;omega):p:=g h
def iI(h:q)(k:r)(g:q→r→p:=by intro _ _;omega):p:=g h k
def Pv{s:Prop}(h:q)(k:r)(l:s)(g:q→r→s→p:=by intro _ _ _;omega):p:=g h k l
def dQ(h:q)(g:q→p:=by intro h;simpa using h):p:=g h
def dN:type_of% @Array.getD_eq_getD_getElem?:=@Array.getD_eq_getD_getElem?
def cH:type_of% @Array.getElem?_append_left:=@Array.getElem?_append_left
def eU:type_of% @Array.getElem?_eq_none:=@Array.getElem?_eq_none
def bP:type_of% @Array.getElem?_eq_some_iff:=@Array.getElem?_eq_some_iff
def cX:type_of% @Array.getElem?_modify:=@Array.getElem?_modify
def eV:type_of% @Array.getElem?_push:=@Array.getElem?_push
def cS:type_of% @Array.getElem?_setIfInBounds:=@Array.getElem?_setIfInBounds
def eu:type_of% @Array.getElem?_toList:=@Array.getElem?_toList
def bK:type_of% @Array.size_push:=@Array.size_push
def fG:type_of% @BitVec.ofInt_natCast:=@BitVec.ofInt_natCast
def gg:type_of% @BitVec.toNat_ofNat:=@BitVec.toNat_ofNat
def fx:type_of% @Bool.and_assoc:=@Bool.and_assoc
def bE:type_of% @Bool.and_eq_true:=@Bool.and_eq_true
def dA:type_of% @Bool.eq_iff_iff:=@Bool.eq_iff_iff
def aV:type_of% @Bool.false_eq_true:=@Bool.false_eq_true
def cT:type_of% @Bool.false_ne_true:=@Bool.false_ne_true
def dY:type_of% @Iff.rfl:=@Iff.rfl
def fi:type_of% @Int.eq_ofNat_of_zero_le:=@Int.eq_ofNat_of_zero_le
def aG:type_of% @Int.toNat_natCast:=@Int.toNat_natCast
def eG:type_of% @List.all_eq_true:=@List.all_eq_true
def cP:type_of% @List.append_assoc:=@List.append_assoc
def eH:type_of% @List.cons_append:=@List.cons_append
def cK:type_of% @List.drop_eq_getElem_cons:=@List.drop_eq_getElem_cons
def dR:type_of% @List.drop_of_length_le:=@List.drop_of_length_le
def dK:type_of% @List.filter_cons:=@List.filter_cons
def cZ:type_of% @List.filter_eq_self:=@List.filter_eq_self
def dX:type_of% @List.filter_sublist:=@List.filter_sublist
def cC:type_of% @List.flatMap_append:=@List.flatMap_append
def eM:type_of% @List.flatMap_cons:=@List.flatMap_cons
def aL:type_of% @List.getD_eq_getElem?_getD:=@List.getD_eq_getElem?_getD
def dC:type_of% @List.getElem?_append_right:=@List.getElem?_append_right
def fj:type_of% @List.getElem?_drop:=@List.getElem?_drop
def ai:type_of% @List.getElem?_eq_getElem:=@List.getElem?_eq_getElem
def aS:type_of% @List.getElem?_eq_some_iff:=@List.getElem?_eq_some_iff
def eK:type_of% @List.getElem?_inj:=@List.getElem?_inj
def aP:type_of% @List.getElem?_map:=@List.getElem?_map
def cd:type_of% @List.getElem?_of_mem:=@List.getElem?_of_mem
def eC:type_of% @List.getElem?_take:=@List.getElem?_take
def cx:type_of% @List.getElem_mem:=@List.getElem_mem
def ak:type_of% @List.length_append:=@List.length_append
def bw:type_of% @List.length_cons:=@List.length_cons
def cj:type_of% @List.length_drop:=@List.length_drop
def gi:type_of% @List.length_filter_le:=@List.length_filter_le
def aM:type_of% @List.length_map:=@List.length_map
def bZ:type_of% @List.length_nil:=@List.length_nil
def fz:type_of% @List.length_set:=@List.length_set
def bM:type_of% @List.length_take:=@List.length_take
def bB:type_of% @List.map_append:=@List.map_append
def cp:type_of% @List.map_cons:=@List.map_cons
def fu:type_of% @List.map_map:=@List.map_map
def cG:type_of% @List.mem_append:=@List.mem_append
def dp:type_of% @List.mem_append_left:=@List.mem_append_left
def dI:type_of% @List.mem_append_right:=@List.mem_append_right
def bG:type_of% @List.mem_cons:=@List.mem_cons
def cD:type_of% @List.mem_cons_of_mem:=@List.mem_cons_of_mem
def dz:type_of% @List.mem_cons_self:=@List.mem_cons_self
def bW:type_of% @List.mem_filter:=@List.mem_filter
def bR:type_of% @List.mem_map:=@List.mem_map
def cm:type_of% @List.mem_map_of_mem:=@List.mem_map_of_mem
def aW:type_of% @List.mem_of_getElem?:=@List.mem_of_getElem?
def bT:type_of% @List.mem_singleton:=@List.mem_singleton
def dJ:type_of% @List.nil_append:=@List.nil_append
def fN:type_of% @List.nodup_append:=@List.nodup_append
def fT:type_of% @List.nodup_cons:=@List.nodup_cons
def dU:type_of% @List.not_mem_nil:=@List.not_mem_nil
def gj:type_of% @List.pairwise_cons:=@List.pairwise_cons
def ec:type_of% @List.pairwise_map:=@List.pairwise_map
def bt:type_of% @List.take_add_one:=@List.take_add_one
def fk:type_of% @List.take_length:=@List.take_length
def bz:type_of% @List.take_of_length_le:=@List.take_of_length_le
def fy:type_of% @List.take_zero:=@List.take_zero
def fW:type_of% @Nat.add_mul:=@Nat.add_mul
def ct:type_of% @Nat.eq_of_beq_eq_true:=@Nat.eq_of_beq_eq_true
def bf:type_of% @Nat.le_refl:=@Nat.le_refl
def cw:type_of% @Nat.le_trans:=@Nat.le_trans
def cN:type_of% @Nat.lt_of_lt_of_le:=@Nat.lt_of_lt_of_le
def fo:type_of% @Nat.mod_eq_of_lt:=@Nat.mod_eq_of_lt
def dP:type_of% @Nat.mul_le_mul_right:=@Nat.mul_le_mul_right
def bJ:type_of% @Nat.mul_one:=@Nat.mul_one
def dS:type_of% @Nat.xor_lt_two_pow:=@Nat.xor_lt_two_pow
def aX:type_of% @Nat.zero_add:=@Nat.zero_add
def bg:type_of% @Nat.zero_le:=@Nat.zero_le
def dV:type_of% @Option.isSome_iff_exists:=@Option.isSome_iff_exists
def dB:type_of% @Option.map_some:=@Option.map_some
def bL:type_of% @Option.some.inj:=@Option.some.inj
def cr:type_of% @Option.some.injEq:=@Option.some.injEq
def fV:type_of% @beq_eq_false_iff_ne:=@beq_eq_false_iff_ne
def cU:type_of% @beq_iff_eq:=@beq_iff_eq
def fp:type_of% @bne_iff_ne:=@bne_iff_ne
def bY:type_of% @congrArg:=@congrArg
def aA:type_of% @decide_eq_false:=@decide_eq_false
def aq:type_of% @decide_eq_true:=@decide_eq_true
def bN:type_of% @decide_eq_true_eq:=@decide_eq_true_eq
def fC:type_of% @decide_false:=@decide_false
def di:type_of% @decide_true:=@decide_true
def bQ:type_of% @if_false:=@if_false
def af:type_of% @if_neg:=@if_neg
def ah:type_of% @if_pos:=@if_pos
def cI:type_of% @if_true:=@if_true
def fh:type_of% @of_decide_eq_false:=@of_decide_eq_false
def bj:type_of% @of_decide_eq_true:=@of_decide_eq_true

end
end Go
namespace Go.Den
section
variable {P:Program} {F:Value->Prop} {t:TypeId}
abbrev Heap:=Array Obj
abbrev Env:=Nat->Option Value
def aQ(h:Heap)(a:Addr):Option Value:=
 match h[a.block]? with
 |some (.cells c _ _)=>if a.spot.isSome then none else c[a.off]?
 |_=>none
def qu(h:Heap)(r:Nat):Option (TypeId×Nat):=
 match h[r]? with
 |some (.cells c elem _)=>some (elem,c.size)
 |_=>none
def qx(h:Heap)(a:Addr):Bool:=
 match h[a.block]? with
 |some (.cells _ _ (l,H))=>l<=a.off && a.off<H
 |_=>false
def oo(h:Heap)(a:Addr)(n:Nat):Heap:=
 if n=0 then h else
 h.modify a.block fun
   | .cells c elem (l,H)=> .cells c elem (if l==H then(a.off,a.off+n)else(min l a.off,max H (a.off+n)))
   |o=>o
def sO(h:Heap)(a:Addr)(v:Value):Heap:=
 h.modify a.block fun
   | .cells c elem frozen=> .cells (if a.spot.isSome then c else c.setIfInBounds a.off v) elem frozen
   |o=>o
def kk(w:World)(a:Addr):w.cell? a=aQ w.heap a:=rfl
def Pw(w:World)(r:Nat):w.shape? r=qu w.heap r:=rfl
def vi(w:World)(a:Addr):w.frozen? a=qx w.heap a:=rfl
def wD(w:World)(a:Addr)(v:Value):(w.setCell a v).heap=sO w.heap a v:=rfl
def Gm(w:World)(a:Addr)(n:Nat):(w.freeze a n).heap=oo w.heap a n:=by unfold World.freeze oo;split<;>rfl
def eJ(w a:World):Prop:=a.os=w.os/\a.output=w.output/\a.tape=w.tape
def eJ.refl(w:World):eJ w w:=⟨rfl,rfl,rfl⟩
def eJ.trans{a b c:World}(h:eJ a b)(H:eJ b c):eJ a c:=⟨H.1.trans h.1,H.2.1.trans h.2.1,H.2.2.trans h.2.2⟩
def fH:Value->Bool
 | .agg _| .tuple _=>false
 |_=>true
def bu(P:Program){b:Type}:Sem b->Heap->(b->cM)->Prop
 | .pure a,h,K=>K a h
 | .load _ a k,h,K=> ∃v,aQ h a=some v/\bu P (k v) h K
 | .store _ a v k,h,K=>fH v=true/\(aQ h a).isSome=true/\qx h a=false/\bu P k (sO h a v) K
 | .new o k,h,K=>bu P (k h.size) (h.push o) K
 | .shape r k,h,K=>bu P (k (qu h r)) h K
 | .freeze a n k,h,K=>bu P k (oo h a n) K
 | .frozen a k,h,K=>bu P (k (qx h a)) h K
 | .getObj r k,h,K=> ∃o,h[r]? =some o/\(∀c e f,o≠ .cells c e f)/\bu P (k o) h K
 | .setObj r o k,h,K=>(∃O,h[r]? =some O/\(∀c e f,O≠ .cells c e f))/\bu P k (h.setIfInBounds r o) K
 | .choose q k,h,K=>if q.forced=true then bu P (k 0) h K else∀t,bu P (k (q.cut t)) h K
 | .sys _ _,_,_=>False
 | .program k,h,K=>bu P (k P) h K
 | .mark _ k,h,K=>bu P k h K
 | .halt _,_,_=>False
theorem jB{j:Type}(s:Sem j): ∀(h:Heap){K d:j->cM},(∀a h,K a h->d a h)->bu P s h K->bu P s h d:=by
 induction s with
 |pure a=>intro h K d b H;exact b _ _ H
 |load m a k i=>intro h K d b H;have⟨v,e,f⟩:=H;exact⟨v,e,i v h b f⟩
 |store m a v k i=>intro h K d b H;have⟨e,f,g,l⟩:=H;exact⟨e,f,g,i _ b l⟩
 |new o k i=>intro h K d b H;exact i _ _ b H
 |shape r k i=>intro h K d b H;exact i _ _ b H
 |freeze a n k i=>intro h K d b H;exact i _ b H
 |frozen a k i=>intro h K d b H;exact i _ _ b H
 |getObj r k i=>intro h K d b H;have⟨o,e,f,g⟩:=H;exact⟨o,e,f,i _ _ b g⟩
 |setObj r o k i=>intro h K d b H;exact⟨H.1,i _ b H.2⟩
 |choose q k i=>intro h K d b H;unfold bu at H⊢;split;grind;grind
 |sys c k i=>intro h K d b H;exact H
 |program k i=>intro h K d b H;exact i _ _ b H
 |mark m k i=>intro h K d b H;exact i _ b H
 |halt x=>intro h K d b H;exact H
def I0{b d:Type}(s:Sem b)(f:b->Sem d): ∀(h:Heap)(K:d->cM),bu P (s.bind f) h K↔bu P s h (λa H=>bu P (f a) H K):=by
 induction s with
 |pure a=>intro h K;exact dY
 |load m a k i=>intro h K;simp only[Sem.bind,bu,i]
 |store m a v k i=>intro h K;simp only[Sem.bind,bu,i]
 |new o k i=>intro h K;simp only[Sem.bind,bu,i]
 |shape r k i=>intro h K;simp only[Sem.bind,bu,i]
 |freeze a n k i=>intro h K;simp only[Sem.bind,bu,i]
 |frozen a k i=>intro h K;simp only[Sem.bind,bu,i]
 |getObj r k i=>intro h K;simp only[Sem.bind,bu,i]
 |setObj r o k i=>intro h K;simp only[Sem.bind,bu,i]
 |choose q k i=>intro h K;simp only[Sem.bind,bu,i]
 |sys c k i=>intro h K;simp only[Sem.bind,bu]
 |program k i=>intro h K;simp only[Sem.bind,bu,i]
 |mark m k i=>intro h K;simp only[Sem.bind,bu,i]
 |halt x=>intro h K;simp only[Sem.bind,bu]
theorem mw{z:Type}(s:Sem z): ∀(h:Heap)(K:z->cM),bu P s h K->
  ∀w:World,w.heap=h->∃a b,s.run P w=.ok a b/\K a b.heap/\eJ w b:=by
 induction s with
 |pure a=>intro h K H w d;subst d;exact⟨a,w,rfl,H,eJ.refl w⟩
 |load m a k i=>intro h K H w d;subst d;obtain⟨v,g,j⟩:=H;obtain⟨x,b,R,e⟩:=i v _ _ j w rfl;exact⟨x,b,by simp[Sem.run,kk,g,R],e⟩
 |store m a v k i=>intro h K H w d;subst d;obtain⟨g,j,l,A⟩:=H;obtain⟨u,y⟩:=dV.1 j;obtain⟨x,b,R,e,f⟩:=i _ _ A (w.setCell a v) (wD w a v);refine⟨x,b,?_,e,f⟩;rw[<-kk]at y;rw[<-vi]at l;cases v<;>simp[fH]at g<;>simp[Sem.run,y,l,R]
 |new o k i=>intro h K H w d;subst d;obtain⟨x,b,R,e,f⟩:=i _ _ _ H { w with heap:=w.heap.push o } rfl;exact⟨x,b,R,e,f⟩
 |shape r k i=>intro h K H w d;subst d;obtain⟨x,b,R,e⟩:=i _ _ _ H w rfl;exact⟨x,b,by rw[<-Pw]at R;simp[Sem.run,R],e⟩
 |freeze a n k i=>intro h K H w d;subst d;obtain⟨x,b,R,e,f⟩:=i _ _ H (w.freeze a n) (Gm w a n);refine⟨x,b,by simp[Sem.run,R],e,?_⟩;refine eJ.trans ?_ f;unfold World.freeze;split<;>exact⟨rfl,rfl,rfl⟩
 |frozen a k i=>intro h K H w d;subst d;obtain⟨x,b,R,e⟩:=i _ _ _ H w rfl;exact⟨x,b,by rw[<-vi]at R;simp[Sem.run,R],e⟩
 |getObj r k i=>intro h K H w d;subst d;obtain⟨o,g,j,l⟩:=H;obtain⟨x,b,R,e⟩:=i _ _ _ l w rfl;refine⟨x,b,?_,e⟩;cases o<;>first|exact absurd rfl (j _ _ _)|simp[Sem.run,g,R]
 |setObj r o k i=>intro h K H w d;subst d;obtain⟨⟨O,g,j⟩,l⟩:=H;obtain⟨x,b,R,e,f⟩:=i _ _ l { w with heap:=w.heap.setIfInBounds r o } rfl;refine⟨x,b,?_,e,f⟩;cases O<;>first|grind|simp[Sem.run,g,R]
 |choose q k i=>intro h K H w d;subst d;unfold bu at H;split at H;rename_i p;obtain⟨x,b,R,e⟩:=i _ _ _ H w rfl;exact⟨x,b,by simp[Sem.run,p,R],e⟩;rename_i p;obtain⟨x,b,R,e,f⟩:=i _ _ _ (H (w.tape w.drawn q)) { w with drawn:=w.drawn+1 } rfl;exact⟨x,b,by simp only[Sem.run,af p];exact R,e,f⟩
 |sys c k i=>intro h K H;exact H.elim
 |program k i=>intro h K H w d;subst d;obtain⟨x,b,R,e⟩:=i _ _ _ H w rfl;exact⟨x,b,by simp[Sem.run,R],e⟩
 |mark m k i=>intro h K H w d;subst d;obtain⟨x,b,R,e⟩:=i _ _ H w rfl;exact⟨x,b,by simp[Sem.run,R],e⟩
 |halt x=>intro h K H;exact H.elim
def rd(P:Program){b:Type}:Sem b->Heap->Option b
 | .pure a,_=>some a
 | .load _ a k,h=>(match aQ h a with|some v=>rd P (k v) h|none=>none)
 | .shape r k,h=>rd P (k (qu h r)) h
 | .frozen a k,h=>rd P (k (qx h a)) h
 | .getObj r k,h=>(match h[r]? with|some (.cells _ _ _)=>none|some o=>rd P (k o) h|none=>none)
 | .program k,h=>rd P (k P) h
 | .mark _ k,h=>rd P k h
 |_,_=>none
def Px{d:Type}(s:Sem d): ∀(h:Heap)(a:d),rd P s h=some a->∀K:d->cM,K a h->bu P s h K:=by
 induction s with
 |pure b=>intro h a e K H;simp only[rd,cr]at e;subst e;exact H
 |load m b k i=>intro h a e K H;simp only[rd]at e;split at e;rename_i v n;exact⟨v,n,i v h a e K H⟩;cases e
 |shape r k i=>intro h a e K H;exact i _ h a e K H
 |frozen b k i=>intro h a e K H;exact i _ h a e K H
 |getObj r k i=>intro h a e K H;simp only[rd]at e;split at e;cases e;rename_i o j l;exact⟨o,l,λc e f g=>j c e f (g▸rfl),i _ h a e K H⟩;cases e
 |program k i=>intro h a e K H;exact i _ h a e K H
 |mark m k i=>intro h a e K H;exact i h a e K H
 |_=>intro h a e;simp[rd]at e
theorem wE{c:Type}(s:Sem c): ∀(w:World)(a:c),rd P s w.heap=some a->s.run P w=.ok a w:=by
 induction s with
 |pure b=>intro w a e;simp only[rd,cr]at e;subst e;rfl
 |load m b k i=>intro w a e;simp only[rd]at e;split at e;rename_i v h;rw[<-kk]at h;simp only[Sem.run,h];exact i v w a e;cases e
 |shape r k i=>intro w a e;exact i _ w a e
 |frozen b k i=>intro w a e;exact i _ w a e
 |getObj r k i=>
  intro w a e;simp only[rd]at e;split at e;cases e
  .rename_i o d H;cases o<;>first|grind|(simp only[Sem.run,H];exact i _ w a e)
  cases e
 |program k i=>intro w a e;exact i _ w a e
 |mark m k i=>intro w a e;exact i w a e
 |_=>intro w a e;simp[rd]at e
theorem ba{c g:Type}(s:Sem c)(f:c->Sem g): ∀(h:Heap)(a:c),rd P s h=some a->rd P (s>>=f) h=rd P (f a) h:=by
 show∀(h:Heap)(a:c),rd P s h=some a->rd P (s.bind f) h=rd P (f a) h;induction s with
 |pure b=>intro h a e;simp only[rd,cr]at e;subst e;rfl
 |load m b k i=>intro h a e;simp only[rd]at e;split at e;rename_i v d;simp only[Sem.bind,rd,d];exact i v h a e;cases e
 |shape r k i=>intro h a e;exact i _ h a e
 |frozen b k i=>intro h a e;exact i _ h a e
 |getObj r k i=>
  intro h a e;simp only[rd]at e;split at e;cases e
  .rename_i o j H;cases o<;>first|grind|(simp only[Sem.bind,rd,H];exact i _ h a e)
  cases e
 |program k i=>intro h a e;exact i _ h a e
 |mark m k i=>intro h a e;exact i h a e
 |_=>intro h a e;simp[rd]at e
def jS(P:Program)(f:FuncId)(args:Array Value)(h:Heap)(R:dH):Prop:=
 ∀w:World,w.heap=h->Calls P f args w (λe a=> ∃v,e=.returned v/\R v a.heap/\eJ w a)
def jS.mono{f:FuncId}{args:Array Value}{h:Heap}{R r:dH}(c:jS P f args h R)(d: ∀v H,R v H->r v H):jS P f args h r:=
 λw g=>(c w g).mono λ_ _ ⟨v,b,a,e⟩=>⟨v,b,d _ _ a,e⟩
def We(P:Program)(K:dH):Next->cM
 | .value v,h=>K v h
 | .skip,h=>K undef h
 | .enter f args,h=>jS P f args h K
 |_,_=>False
def nP(P:Program)(o:Oper)(a:Operand->Value)(h:Heap)(K:dH):Prop:=
 bu P (execOp a o) h (We P K)
def nP.wp{o:Oper}{a:Act}{w:World}{K:dH}{next:Act->World->Prop}{Q:IZ}(c:nP P o a.eval w.heap K)(h: ∀v b,K v b.heap->eJ w b->next (a.put o.dst v) b):o.wp P a w next Q:=by
 have⟨x,b,g,r,R⟩:=mw _ _ _ c w rfl;unfold Oper.wp;rw[g];cases x with
 |value v=>exact h _ _ r R
 |skip=>exact h _ _ r R
 |enter f args=>refine(r b rfl).mono ?_;rintro e i ⟨v,rfl,H,d⟩;exact h _ _ H (R.trans d)
 |_=>exact r.elim
inductive gF where
 |int (k:IntKind)
 |bool
 |str
 |ptr
 |slice
 |map
 |raw
inductive Sh where
 |one (l:gF)
 |agg (ls:List gF)
def gF.ex:gF->(Value->Prop)->Prop
 | .int k,F=> ∃n:Int,F (.int k n)
 | .bool,F=> ∃b:Bool,F (.bool b)
 | .str,F=> ∃s:bC,F (.string s)
 | .ptr,F=> ∃p:bH,F (.pointer p)
 | .slice,F=> ∃(p:bH)(l c:Nat),F (.slice p l c)
 | .map,F=> ∃m:Option Nat,F (.map m)
 | .raw,F=> ∃v:Value,F v
def V5:List gF->(List Value->Prop)->Prop
 | [],F=>F []
 |l::L,F=>l.ex λv=>V5 L λV=>F (v::V)
def Sh.ex:Sh->(Value->Prop)->Prop
 | .one l,F=>l.ex F
 | .agg L,F=>V5 L λv=>F (.agg v.toArray)
def Mo:List Sh->(List Value->Prop)->Prop
 | [],F=>F []
 |s::S,F=>s.ex λv=>Mo S λV=>F (v::V)
theorem gF.my{l:gF}(h:l.ex F): ∃v,F v:=by cases l<;>simp only[gF.ex]at h;all_goals grind
def I1: ∀{l:List gF}{F:List Value->Prop},V5 l F->∃V,V.length=l.length/\F V
 | [],_,h=>⟨[],rfl,h⟩
 |_::_,_,h=>by have⟨v,h⟩:=gF.my h;have⟨V,H,h⟩:=I1 h;exact⟨v::V,by simp[H],h⟩
def Sh.my{s:Sh}(h:s.ex F): ∃v,F v:=by
 cases s with
 |one l=>exact gF.my h
 |agg L=>have⟨V,_,h⟩:=I1 h;exact⟨_,h⟩
def wF: ∀{l:List Sh}{F:List Value->Prop},Mo l F->∃V,F V
 | [],_,h=>⟨[],h⟩
 |_::_,_,h=>by have⟨v,h⟩:=Sh.my h;have⟨V,h⟩:=wF h;exact⟨v::V,h⟩
def y8(P:Program)(t:TypeId):Option gF:=
 match P.underlying t with
 |some .bool=>some .bool
 |some (.int k)=>some (.int k)
 |some .string=>some .str
 |some (.pointer _)=>some .ptr
 |some (.slice _)=>some .slice
 |some (.map _ _)=>some .map
 |some (.struct _)=>none
 |some (.array _ _)=>none
 |some (.tuple _)=>none
 |some _=>some .raw
 |none=>none
def xI(P:Program):Nat->TypeId->Option (List gF)
 |0,_=>none
 |n+1,t=>
  match P.underlying t with
  |some (.struct fs)=>fs.toList.foldr (λf A=>match xI P n f.type,A with|some a,some b=>some (a++b)|_,_=>none) (some [])
  |some (.array m e)=>(xI P n e).map λl=>(List.replicate m l).flatten
  |_=>(y8 P t).map ([·])
def CM(P:Program)(t:TypeId):Bool:=
 match P.underlying t with
 |some (.struct _)=>true
 |some (.array _ _)=>true
 |_=>false
def Wf(P:Program)(t:TypeId):Option Sh:=
 match CM P t with
 |true=>(xI P 20 t).map .agg
 |false=>(y8 P t).map .one
def Ue(P:Program):List TypeId->Option (List Sh)
 | []=>some []
 |t::T=>match Wf P t,Ue P T with
  |some s,some S=>some (s::S)
  |_,_=>none
def mR(P:Program)(t:TypeId)(F:Value->Prop):Prop:=
 match P.underlying t with
 |some (.tuple T)=>(match Ue P T.toList with|some l=>Mo l λv=>F (.tuple v.toArray)|none=>False)
 |_=>(match Wf P t with|some s=>s.ex F|none=>False)
theorem qA(h:mR P t F): ∃v,F v:=by
 unfold mR at h;split at h;split at h
 have⟨_,h⟩:=wF h;exact⟨_,h⟩;exact h.elim;split at h
 exact Sh.my h;grind
def xJ{v:Value}{K:Value->Prop}(h:mR P t λV=>v=V/\K V):K v:=by obtain⟨V,rfl,h⟩:=qA h;exact h
def aJ{b:Type}(p:Option b)(F:b->Prop):Prop:=
 match p with
 |some a=>F a
 |none=>False
def cf{b:Type}{p:Option b}{F:b->Prop}:aJ p F↔ ∃a,p=some a/\F a:=by cases p<;>simp[aJ]
@[simp] theorem av{b:Type}{a:b}{F:b->Prop}:aJ (some a) F↔F a:=dY
def Env.set(a:Env)(d:Nat)(v:Value):Env:=λt=>bif Nat.beq t d then some v else a t
def Env.ev(a:Env):Operand->Option Value
 | .tmp t=>a t
 | .const v=>some v
 | .global g=>some (.pointer (some ⟨g,0,none⟩))
 | .func f=>some (.func (.func f) #[] #[])
def Env.IS(a:Env):Operand->Value:=λx=>(a.ev x).getD undef
def UL(a:Env)(o:Oper):Bool:=o.op.operands.toList.all λx=>(a.ev x).isSome
def Fits(b:Env)(a:Operand->Value):Prop:= ∀x v,b.ev x=some v->a x=v
def km(P:Program){b:Type}:Sem b->Option b
 | .pure a=>some a
 | .program k=>km P (k P)
 | .mark _ k=>km P k
 |_=>none
def I2{c:Type}(s:Sem c): ∀(a:c),km P s=some a->∀(h:Heap)(K:c->cM),K a h->bu P s h K:=by
 induction s with
 |pure b=>intro a e h K H;simp only[km,cr]at e;subst e;exact H
 |program k i=>intro a e h K H;exact i P a e h K H
 |mark m k i=>intro a e h K H;exact i a e h K H
 |_=>intro a e;simp[km]at e
def wG{c:Type}(s:Sem c): ∀(a:c),km P s=some a->∀(h:Heap),rd P s h=some a:=by
 induction s with
 |pure b=>intro a e h;exact e
 |program k i=>intro a e h;exact i P a e h
 |mark m k i=>intro a e h;exact i a e h
 |_=>intro a e;simp[km]at e
def CN(P:Program){a:Type}:Sem a->Option (Obj×(Nat->Sem a))
 | .new o k=>some (o,k)
 | .program k=>CN P (k P)
 | .mark _ k=>CN P k
 |_=>none
def KY{a:Type}(s:Sem a): ∀(o:Obj)(f:Nat->Sem a),CN P s=some (o,f)->∀(h:Heap)(K:a->cM),bu P (f h.size) (h.push o) K->bu P s h K:=by
 induction s with
 |new b k i=>intro o f e h K H;obtain⟨rfl,rfl⟩:=e;exact H
 |program k i=>intro o f e h K H;exact i P o f e h K H
 |mark m k i=>intro o f e h K H;exact i o f e h K H
 |_=>intro o f e;simp[CN]at e
theorem I3{a:Env}{c:Operand->Value}(d:Fits a c)(o:Oper)(H:UL a o=true)(e: ∀C b,o.op≠ .select C b):execOp a.IS o=execOp c o:=by refine execOp_congr o e λx f=> ?_;have⟨v,h⟩:=dV.1 (eG.1 H x (by grind));rw[d x v h];simp[Env.IS,h]
def aT(h:Heap)(o:Obj)(K:Nat->cM):Prop:= ∀b H,b=h.size->H=h.push o->K b H
def aI(h:Heap)(a:Addr)(v:Value)(K:cM):Prop:=
 (aQ h a).isSome=true/\qx h a=false/\∀H,H=sO h a v->K H
def cQ(a:Addr):List Value->Nat->Heap->(cM)->Prop
 | [],_,h,K=>K h
 |v::V,i,h,K=>(match fH v with|true=>aI h (a.add i) v λH=>cQ a V (i+1) H K|false=>False)
def AI(h:Heap)(a:Addr):List gF->Nat->(List Value->Prop)->Prop
 | [],_,F=>F []
 |l::L,i,F=>l.ex λv=>aQ h (a.add i)=some v/\AI h a L (i+1) λV=>F (v::V)
def cz(a:Addr):List Value->Nat->cM
 | [],_,_=>True
 |v::V,i,h=>aQ h (a.add i)=some v/\cz a V (i+1) h
structure sQ (h:Heap) (a:Addr) (ls:List gF) (F:List Value->Prop):Prop where
 run:AI h a ls 0 F
def vj(P:Program)(t:TypeId)(h:Heap)(a:Addr)(K:Value->Option (cM)->Prop):Prop:=
 match CM P t with
 |true=>(match xI P 20 t,P.info? t with
  |some L,some i=>(match Nat.beq i.size L.length with
   |true=>(match Nat.ble 100 i.size with
    |true=>sQ h a L λV=>K (.agg V.toArray) (some (cz a V 0))
    |false=>AI h a L 0 λV=>K (.agg V.toArray) (some (cz a V 0)))
   |false=>False)
  |_,_=>False)
 |false=>(match y8 P t with
  |some l=>l.ex λv=>aQ h a=some v/\K v (some λH=>aQ H a=some v)
  |none=>False)
def sR(P:Program)(t:TypeId)(u v:Value):Option Bool:=
 match v with
 | .pointer none=>(match u,P.underlying t with| .pointer p,some (.pointer _)=>some p.isNone|_,_=>none)
 | .map none=>(match u,P.underlying t with| .map m,some (.map _ _)=>some m.isNone|_,_=>none)
 | .slice none _ _=>(match u,P.underlying t with| .slice p _ _,some (.slice _)=>some p.isNone|_,_=>none)
 |_=>none
def ph(P:Program)(o:Oper)(a:Env)(K:Value->Option (cM)->Prop):Prop:=
 match UL a o with
 |true=>(match km P (execOp a.IS o)with|some (.value v)=>K v none|_=>False)
 |false=>False
def NB(P:Program)(t:TypeId)(u v:Value)(b:Bool):Prop:= ∀h,rd P (Op.equal t u v) h=some b
def KZ(o:Oper):Bool:=
 match o.op with
 | .binOp _ _ _ (.const _) _=>true
 |_=>false
def y9(P:Program)(o:Oper)(t:TypeId)(u v:Value):Bool:=
 match v with
 | .nilIface=>KZ o
 | .agg _=>(match u with| .agg _=> !P.eqGuardType P.depth t|_=>false)
 | .pointer _=>(match u with| .pointer _=> !KZ o|_=>false)
 |_=>false
def K0(P:Program)(o:Oper)(O:BinOp)(t:TypeId)(u v:Value)(c:Env)(K:Value->Option (cM)->Prop):Prop:=
 match O with
 | .eql=>(match y9 P o t u v with
  |true=> ∃b:Bool,NB P t u v b/\K (.bool b) none
  |false=>(match sR P t u v with|some b=>K (.bool b) none|none=>ph P o c K))
 | .neq=>(match y9 P o t u v with
  |true=> ∃b:Bool,NB P t u v b/\K (.bool (!b)) none
  |false=>(match sR P t u v with|some b=>K (.bool (!b)) none|none=>ph P o c K))
 | .quo=>(match u,v with
  | .int k a,.int d b=>(match decide (k=d)with|true=>if b=0 then False else K (.int k (k.wrap (a.tdiv b))) none|false=>False)
  |_,_=>False)
 | .rem=>(match u,v with
  | .int k a,.int d b=>(match decide (k=d)with|true=>if b=0 then False else K (.int k (a.tmod b)) none|false=>False)
  |_,_=>False)
 | .shl=>(match u,v with
  | .int k a,.int _ b=>if b<0 then False else K (.int k (k.wrap (a*2 ^ min b.toNat k.bits))) none
  |_,_=>False)
 | .shr=>(match u,v with
  | .int k a,.int _ b=>if b<0 then False else K (.int k (a.fdiv (2 ^ min b.toNat k.bits))) none
  |_,_=>False)
 | .add=>(match u,v with
  | .string a,.string b=>((a.size+b.size:Nat):Int)<=IntKind.i64.max/\K (.string (a++b)) none
  |_,_=>ph P o c K)
 |_=>ph P o c K
def I4(P:Program)(s:TypeId)(f:Nat):Option Nat:=
 match P.underlying s with
 |some (.struct fs)=>(match fs[f]? with
  |some a=>(match P.info? a.type with|some i=>(match Nat.beq i.size 0 with|true=>none|false=>some a.offset)|none=>none)
  |none=>none)
 |_=>none
def K2(n:Int):List Value->Nat->(Value->Prop)->Prop
 | [],_,_=>True
 |v::V,i,F=>(n=(i:Int)->F v)/\K2 n V (i+1) F
def UM(P:Program)(t:TypeId):Bool:=
 match P.info? t with
 |some i=>Nat.ble 100 i.size
 |none=>false
def Wg(P:Program)(t:TypeId):Bool:=
 match P.underlying t with
 |some (.slice e)=>UM P e
 |_=>false
def ze(a:Env):List (Nat×Operand)->Option (List (Nat×Value))
 | []=>some []
 |(i,x)::r=>match a.ev x,ze a r with
  |some v,some l=>some ((i,v)::l)
  |_,_=>none
def Uf(n:Next)(F:Value->Prop):Prop:=match n with| .value v=>F v|_=>False
def UN(P:Program)(s:TypeId)(v:Value)(f:Nat)(u:Value):Prop:= ∀h,rd P (Instr.field s v f) h=some u
def K3(P:Program)(t:TypeId)(l:Array (Nat×Value))(u:Value):Prop:= ∀h,rd P (Instr.build t l) h=some u
def wH(a:Env):Option Operand->Option (Option Int)
 |none=>some none
 |some x=>match a.ev x with
  |some (.int _ n)=>some (some n)
  |_=>none
def HD(len cap:Nat):Option Int->Option Int->(Nat->fZ)->Prop
 |none,none,F=>F 0 len
 |none,some b,F=>(0<=b/\b<=(cap:Int))/\F 0 b.toNat
 |some a,none,F=>(0<=a/\a<=(len:Int))/\F a.toNat len
 |some a,some b,F=>(0<=b/\b<=(cap:Int))/\(0<=a/\a<=b)/\F a.toNat b.toNat
def bV(p:bH)(m l size:Nat):bH:=if m=l then p else p.map (·.add (l*size))
def mz(m:Value)(h H:Heap):Prop:=
 match m with
 | .map (some r)=>H[r]? =h[r]?
 |_=>True
def xK(P:Program)(t:TypeId)(m k:Value)(o:Bool)(h:Heap)(v:Value):Prop:=
 ∀H,mz m h H->rd P (Instr.lookup t m k o) H=some v
def Sm(P:Program)(a:Array TypeId)(T:TypeId)(m:Value)(h:Heap)(v:Value):Prop:=
 ∀H,mz m h H->rd P (Builtin.len_ a T #[m]) H=some v
def xL(P:Program)(s d:TypeId)(v:Value)(h:Heap)(b:bC):Prop:=rd P (convert s d v) h=some (.string b)
def UO:Value->Bool
 | .map _=>true
 |_=>false
def vk(P:Program)(o:Oper)(g:Env)(h:Heap)(K:Value->Option (cM)->Prop):Prop:=
 match o.op with
 | .pick c a b=>(match g.ev c,g.ev a,g.ev b with
  |some (.bool q),some V,some E=>if q=true then K V none else K E none
  |_,_,_=>False)
 | .load t x=>(match g.ev x with
  |some (.pointer p)=>aJ p λa=>vj P t h a K
  |_=>False)
 | .nilCheck x=>(match g.ev x with
  |some (.pointer p)=>aJ p λa=>K (.pointer (some a)) none
  |_=>ph P o g K)
 | .binOp D t x y _=>(match g.ev x,g.ev y with
  |some u,some v=>K0 P o D t u v g K
  |_,_=>False)
 | .fieldAddr s x f=>(match g.ev x,I4 P s f with
  |some (.pointer p),some O=>aJ p λa=>K (.pointer (some (a.add O))) none
  |_,_=>False)
 | .indexAddr t x i=>(match P.underlying t,g.ev x,g.ev i with
  |some (.slice e),some (.slice B len _),some (.int _ n)=>(match P.info? e with
   |some i=>(0<=n/\n<(len:Int))/\aJ B λa=>K (.pointer (some (a.add (n.toNat*i.size)))) none
   |none=>False)
  |some (.array len e),some (.pointer B),some (.int _ n)=>(match P.info? e with
   |some i=>(0<=n/\n<(len:Int))/\aJ B λa=>K (.pointer (some (a.add (n.toNat*i.size)))) none
   |none=>False)
  |_,_,_=>False)
 | .index t x i=>(match P.underlying t,g.ev x,g.ev i with
  |some .string,some (.string s),some (.int _ n)=>(0<=n/\n<(s.size:Int))/\K (.int .u8 (s.data.toList.getD n.toNat 0).toNat) none
  |some (.array len e),some (.agg C),some (.int _ n)=>(match y8 P e,P.info? e,Nat.beq len C.toList.length with
   |some _,some i,true=>(match Nat.beq i.size 1 with
    |true=>(0<=n/\n<(len:Int))/\K2 n C.toList 0 λv=>K v none
    |false=>False)
   |_,_,_=>False)
  |_,_,_=>False)
 | .slice t x L r w=>(match w,P.underlying t,g.ev x,wH g L,wH g r with
  |none,some (.slice e),some (.slice p len cap),some l,some H=>(match P.info? e with
   |some i=>HD len cap l H λa b=>K (.slice (bV p cap a i.size) (b - a) (cap - a)) none
   |none=>False)
  |none,some .string,some (.string s),some l,some H=>HD s.size s.size l H λa b=>K (.string (s.extract a b)) none
  |none,some (.array n e),some (.pointer p),some l,some H=>(match P.info? e with
   |some i=>aJ p λA=>HD n n l H λa b=>K (.slice (bV (some A) n a i.size) (b - a) (n - a)) none
   |none=>False)
  |some M,some (.slice e),some (.slice p _ cap),some none,some (some b)=>(match g.ev M,P.info? e with
   |some (.int _ m),some i=>(0<=m/\m<=(cap:Int))/\(0<=b/\b<=m)/\K (.slice (bV p m.toNat 0 i.size) b.toNat m.toNat) none
   |_,_=>False)
  |some M,some (.slice e),some (.slice p _ cap),some (some a),some (some b)=>(match g.ev M,P.info? e with
   |some (.int _ m),some i=>(0<=m/\m<=(cap:Int))/\(0<=b/\b<=m)/\(0<=a/\a<=b)/\K (.slice (bV p m.toNat a.toNat i.size) (b.toNat - a.toNat) (m.toNat - a.toNat)) none
   |_,_=>False)
  |_,_,_,_,_=>False)
 | .lookup t x i z=>(match g.ev x,g.ev i with
  |some m,some k=>mR P o.type λv=>xK P t m k z h v/\K v (some (mz m h))
  |_,_=>False)
 | .call { callee:=.builtin .len,args:=args,argTypes:=T } =>(match args.toList with
  | [x]=>(match g.ev x with
   |some m=>(match UO m with
    |true=> ∃n:Int,Sm P T o.type m h (.int .i64 n)/\K (.int .i64 n) (some (mz m h))
    |false=>ph P o g K)
   |none=>False)
  |_=>False)
 | .convert s d x=>(match P.underlying d with
  |some .string=>(match g.ev x with
   |some v=> ∃b:bC,xL P s d v h b/\K (.string b) (some λj=>xL P s d v j b)
   |none=>False)
  |_=>ph P o g K)
 | .field s x f=>(match UM P s with
  |true=>(match g.ev x with
   |some v=>mR P o.type λu=>UN P s v f u/\K u none
   |none=>False)
  |false=>ph P o g K)
 | .build t parts=>(match UM P t with
  |true=>(match ze g parts.toList with
   |some l=>mR P o.type λu=>K3 P t l.toArray u/\K u none
   |none=>False)
  |false=>ph P o g K)
 | .sliceToArrayPointer t x=>(match P.underlying t,g.ev x with
  |some (.array n _),some (.slice p len _)=>n<=len/\K (.pointer p) none
  |_,_=>False)
 | .select _ _=>False
 |_=>ph P o g K
def zj(P:Program)(o:Oper):Bool:=
 match o.op with
 | .move _| .assign _| .pick .. | .load .. | .nilCheck _| .binOp .. | .unOp .. | .makeInterface .. | .makeFunc .. | .slice .. | .fieldAddr .. | .field .. | .indexAddr .. | .index .. | .lookup .. | .extract .. | .build .. | .sliceToArrayPointer .. =>true
 | .convert _ d _=>(match P.underlying d with|some (.int _)=>true|some .string=>true|_=>false)
 | .call { callee:=.builtin b,.. } =>(match b with| .len| .cap| .min| .max=>true|_=>false)
 |_=>false
def lC(P:Program)(g:FuncId):Bool:=
 match P.funcs[g]? with
 |some f=>f.body.isSome && !(f.name== "runtime.NumGoroutine")
 |none=>false
def Py(a:Env):List Operand->Option (List Value)
 | []=>some []
 |x::X=>match a.ev x,Py a X with
  |some v,some V=>some (v::V)
  |_,_=>none
def CO(b:Builtin)(a:Array TypeId)(T:TypeId)(v:Array Value):Option (Sem Value):=
 match b with
 | .append=>some (Builtin.append_ a T v)
 | .copy=>some (Builtin.copy_ a T v)
 | .delete=>some (Builtin.delete_ a T v)
 | .clear=>some (Builtin.clear_ a T v)
 |_=>none
def NC(P:Program)(o:Oper)(a:Env)(h:Heap)(K:dH):Prop:=
 match UL a o with
 |true=>(match CN P (execOp a.IS o)with
  |some (O,k)=>aT h O λb H=>(match km P (k b)with|some (.value v)=>K v H|_=>False)
  |none=>False)
 |false=>False
def K4(P:Program)(o:Oper)(e:Env)(h:Heap)(K:dH):Prop:=
 match o.op with
 | .alloc _=>NC P o e h K
 | .box _ _=>NC P o e h K
 | .buildSlice t len parts=>(match Wg P t with
  |true=>(match ze e parts.toList with
   |some l=>bu P (Instr.buildSlice t len l.toArray) h λv H=>mR P o.type λV=>v=V/\K V H
   |none=>False)
  |false=>NC P o e h K)
 | .makeMap _ _=>NC P o e h K
 | .store t x y=>(match e.ev x,e.ev y with
  |some (.pointer p),some v=>aJ p λa=>(match P.info? t with
   |some i=>(match Nat.ble 100 i.size with
    |true=>v.cells.toList.length=i.size/\cQ a v.cells.toList 0 h (K undef)
    |false=>(match Nat.beq i.size v.cells.toList.length with|true=>cQ a v.cells.toList 0 h (K undef)|false=>False))
   |none=>False)
  |_,_=>False)
 | .mapUpdate t m k x=>(match e.ev m,e.ev k,e.ev x with
  |some m,some k,some x=>bu P (Instr.mapUpdate t m k x) h λ_ H=>K undef H
  |_,_,_=>False)
 | .insert t m k x=>(match e.ev m,e.ev k,e.ev x with
  |some m,some k,some x=>bu P (Instr.mapUpdate t m k x) h λ_ H=>K undef H
  |_,_,_=>False)
 | .makeSlice t l c=>(match e.ev l,e.ev c with
  |some l,some c=>bu P (Instr.makeSlice t l c) h λv H=>mR P o.type λV=>v=V/\K V H
  |_,_=>False)
 | .convert s d x=>(match e.ev x with
  |some x=>bu P (convert s d x) h λv H=>mR P o.type λV=>v=V/\K V H
  |none=>False)
 | .call { callee:=.builtin b,args:=args,argTypes:=T } =>(match Py e args.toList with
  |some j=>(match CO b T o.type j.toArray with
   |some s=>bu P s h λv H=>mR P o.type λV=>v=V/\K V H
   |none=>False)
  |none=>False)
 | .call { callee:=.value f,args:=args,argTypes:=_ } =>(match e.ev f,Py e args.toList with
  |some (.func (.func g) first C),some j=>(match lC P g with
   |true=>jS P g (first.toList++j++C.toList).toArray h λv H=>mR P o.type λV=>v=V/\K V H
   |false=>bu P (callFunc g (first.toList++j++C.toList).toArray) h λn H=>Uf n λv=>mR P o.type λV=>v=V/\K V H)
  |_,_=>False)
 | .range t x=>(match e.ev x with
  |some x=>bu P (Instr.range t x) h λv H=> ∃r:Nat,v=.pointer (some ⟨r,0,none⟩)/\K (.pointer (some ⟨r,0,none⟩)) H
  |none=>False)
 | .next I b=>(match e.ev I with
  |some I=>bu P (Instr.next I b o.type) h λv H=>(v=.tuple #[.bool false]/\K (.tuple #[.bool false]) H)\/∃k x:Value,v=.tuple #[.bool true,k,x]/\K (.tuple #[.bool true,k,x]) H
  |none=>False)
 | .entry I=>(match e.ev I with
  |some I=>bu P (Instr.entry I) h λv H=> ∃k x:Value,v=.tuple #[k,x]/\K (.tuple #[k,x]) H
  |none=>False)
 |_=>False

end
section
variable {P : Program} {h : Heap}
def CP{b:Type}(a:b)(K:b->cM):bu P (pure a:Sem b) h K↔K a h:=dY
def cY{b c:Type}(s:Sem b)(f:b->Sem c)(K:c->cM):bu P (s>>=f) h K↔bu P s h (λa H=>bu P (f a) H K):=I0 s f h K
def HE{t:TypeId}{i:TypeInfo}(H:P.info? t=some i)(K:TypeInfo->cM):bu P (typeInfo t) h K↔K i h:=by show bu P (match P.info? t with|some d=>pure d|none=>stuck "no such type") h K↔_;rw[H];exact dY
def CQ{t:TypeId}{i:TypeInfo}(H:P.info? t=some i)(K:Nat->cM):bu P (sizeOf t) h K↔K i.size h:=by unfold sizeOf;rw[cY,HE H];exact dY
def jG{b:Type}(a:b):rd P (pure a:Sem b) h=some a:=rfl
def bh{t:TypeId}{d:TypeDesc}(H:P.underlying t=some d):rd P (underlying t) h=some d:=by show rd P (match P.underlying t with|some d=>pure d|none=>stuck "no such type") h=_;rw[H];rfl
def eE{t:TypeId}{i:TypeInfo}(H:P.info? t=some i):rd P (typeInfo t) h=some i:=by show rd P (match P.info? t with|some d=>pure d|none=>stuck "no such type") h=_;rw[H];rfl
def fI{t:TypeId}{i:TypeInfo}(H:P.info? t=some i):rd P (sizeOf t) h=some i.size:=by unfold sizeOf;rw[ba _ _ _ _ (eE H)];rfl
theorem I5{t:TypeId}(H:CM P t=true): ∃d,P.underlying t=some d/\((∃fs,d=.struct fs)\/∃n e,d=.array n e):=by unfold CM at H;split at H;grind;grind;cases H
def wg{t:TypeId}(H:CM P t=true):rd P (isAgg t) h=some true:=by have⟨d,a,b⟩:=I5 H;unfold isAgg;rw[ba _ _ _ _ (bh a)];rcases b with⟨fs,rfl⟩|⟨n,e,rfl⟩<;>rfl
theorem mS{t:TypeId}{l:gF}(H:y8 P t=some l):rd P (isAgg t) h=some false:=by
 unfold y8 at H;unfold isAgg;cases a:P.underlying t with
 |none=>grind
 |some d=>rw[ba _ _ _ _ (bh a)];rw[a]at H;cases d<;>first|rfl|cases H
end
section
variable {P : Program}
def HF{a:Addr}{h:Heap}{v:Value}(H:aQ h a=some v):rd P (load a) h=some v:=by unfold load;simp only[rd,H]
def iM{a:Addr}: ∀(V:List Value)(i:Nat)(A:Array Value)(h:Heap),cz a V i h->rd P (loadCellsFrom a i V.length A) h=some (A++V.toArray)
 | [],i,A,h,_=>by rfl
 |v::V,i,A,h,c=>by have⟨H,b⟩:=c;simp only[bw,loadCellsFrom];rw[ba _ _ _ _ (HF H),iM V (i+1) _ h b];simp
def wJ{h:Heap}{a:Addr}: ∀(l:List gF)(i:Nat)(F:List Value->Prop),AI h a l i F->∃V,V.length=l.length/\cz a V i h/\F V
 | [],_,_,H=>⟨[],rfl,trivial,H⟩
 |_::l,i,_,H=>by have⟨v,b,c⟩:=gF.my H;have⟨V,f,d,e⟩:=wJ l (i+1) _ c;exact⟨v::V,by simp[f],⟨b,d⟩,e⟩
def Cy:Option (cM)->cM
 |some S,h=>S h
 |none,_=>True
def Yv(P:Program)(s:Sem Value)(S:Option (cM))(v:Value):Prop:=
 ∀h,Cy S h->rd P s h=some v
theorem CR{t:TypeId}{h:Heap}{a:Addr}{K:Value->Option (cM)->Prop}(H:vj P t h a K):
  ∃v S,K v S/\Cy S h/\Yv P (loadVar t a) S v:=by
 unfold vj at H;split at H;rename_i j;split at H;rename_i L i m k;split at H;rename_i n;have H:AI h a L 0 λV=>K (.agg V.toArray) (some (cz a V 0)):=by
  split at H
  exact H.run;exact H
 have⟨V,g,b,c⟩:=wJ _ _ _ H;refine⟨_,_,c,b,λf d=> ?_⟩;unfold loadVar;rw[ba _ _ _ _ (wg j)];rw[ah rfl];rw[ba _ _ _ _ (fI k)];have e:i.size=V.length:=by simp_all
 unfold loadCells;rw[e,ba _ _ _ _ (iM V 0 #[] f d)];simp[jG];grind;exact H.elim;split at H
 rename_i l g;have⟨v,b,c⟩:=gF.my H;refine⟨v,_,c,b,λf d=> ?_⟩;unfold loadVar;rw[ba _ _ _ _ (mS g)];exact HF d;grind
theorem sV{o:Oper}{c:Env}{a:Operand->Value}{K:Value->Option (cM)->Prop}(e:Fits c a)(f: ∀C b,o.op≠ .select C b)(h:ph P o c K):
  ∃v,K v none/\∀H,rd P (execOp a o) H=some (.value v):=by
 unfold ph at h;split at h;rename_i d;split at h;rename_i v g;exact⟨v,h,λH=>wG _ _ (by rw[<-I3 e o d f];exact g) _⟩;grind;grind
def Gn{t:TypeId}{u v:Value}{b:Bool}(h:sR P t u v=some b): ∀a,rd P (Op.equal t u v) a=some b:=by
 intro a;unfold Op.equal Op.maxDepth;unfold sR at h;split at h;split at h
 rename_i p e H;simp only[cr]at h;subst h;unfold Op.equalIn;rw[ba _ _ _ _ (bh H)];cases p<;>rfl;cases h;split at h
 rename_i m k e H;simp only[cr]at h;subst h;unfold Op.equalIn;rw[ba _ _ _ _ (bh H)];cases m<;>rfl;cases h;split at h
 rename_i p _ _ e H;simp only[cr]at h;subst h;unfold Op.equalIn;rw[ba _ _ _ _ (bh H)];cases p<;>rfl;cases h;cases h
def xM{o:BinOp}{t:TypeId}{x y:Operand}{u v:Value}{b:Bool}(h:sR P t u v=some b): ∀H,rd P (eqGuard o t x y u v) H=some ():=by
 intro H;unfold sR at h;unfold eqGuard;split at h;split at h
 split<;>exact rfl
 cases h;split at h
 split<;>exact rfl
 cases h;split at h
 split<;>exact rfl
 cases h;cases h
theorem AJ{t:TypeId}{u v:Value}{b:Bool}(h:sR P t u v=some b):
  (∃p,u=.Q p/\v=.Q none)\/(∃m,u=.map m/\v=.map none)\/(∃p l c L C,u=.L p l c/\v=.L none L C):=by
 unfold sR at h;split at h;grind;grind;grind;cases h
def lK{o:Oper}{O:BinOp}{t T:TypeId}{x y:Operand}{a:Operand->Value}{u v r:Value}{h:Heap}(d:o.op=.binOp O t x y T)(e:a x=u)(f:a y=v)(H:rd P (eqGuard O t x y u v) h=some ())(b:rd P (binOp O t u v) h=some r):rd P (execOp a o) h=some (.value r):=by
 unfold execOp;rw[d];simp only[e,f];have c:rd P (do eqGuard O t x y u v;binOp O t u v) h=some r:=by rw[ba _ _ _ _ H];exact b
 rw[ba _ _ _ _ c];rfl
theorem Gp{o:Oper}{O:BinOp}{t T:TypeId}{x y:Operand}{e:Operand->Value}{u v:Value}(f:o.op=.binOp O t x y T)(d:O=.eql\/O=.neq)(j:e x=u)(k:e y=v)(h:y9 P o t u v=true){b:Bool}(a:NB P t u v b):
  ∀H,rd P (execOp e o) H=some (.value (.B (if O=.eql then b else !b))):=by
 intro H;have i:rd P (eqGuard O t x y u v) H=some ():=by
  unfold y9 at h;split at h
  .have g: ∃c,y=.const c:=by
    unfold KZ at h;rw[f]at h;cases y<;>first|grind|cases h
   obtain⟨c,rfl⟩:=g;rcases d with rfl|rfl<;>cases u<;>first|rfl|(cases x<;>rfl)
  split at h
  rcases d with rfl|rfl;show rd P (program>>=λp=>program>>=λq=>if(!p.eqGuardType q.depth t)=true then pure ()else _) H=some ();rw[ba _ _ _ _ (show rd P program H=some P from rfl),ba _ _ _ _ (show rd P program H=some P from rfl),ah h];rfl;show rd P (program>>=λp=>program>>=λq=>if(!p.eqGuardType q.depth t)=true then pure ()else _) H=some ();rw[ba _ _ _ _ (show rd P program H=some P from rfl),ba _ _ _ _ (show rd P program H=some P from rfl),ah h];rfl;cases h;split at h
  unfold eqGuard;split<;>exact rfl;cases h;cases h
 refine lK f j k i ?_;have K: ∀u v:Value,(y9 P o t u v=true)->NB P t u v b->rd P (binOp O t u v) H=some (.B (if O=.eql then b else !b)):=by
  intro u v h a;unfold y9 at h;split at h;rcases d with rfl|rfl;have:binOp .eql t u .nilIface=(Op.equal t u .nilIface>>=λq=>pure (Value.bool q)):=by cases u<;>rfl
  rw[this,ba _ _ _ _ (a H)];rfl;have:binOp .neq t u .nilIface=(Op.equal t u .nilIface>>=λq=>pure (Value.bool (!q))):=by cases u<;>rfl
  rw[this,ba _ _ _ _ (a H)];rfl;split at h
  rcases d with rfl|rfl;show rd P (Op.equal t _ _>>=λq=>pure (Value.bool q)) H=_;rw[ba _ _ _ _ (a H)];rfl;show rd P (Op.equal t _ _>>=λq=>pure (Value.bool (!q))) H=_;rw[ba _ _ _ _ (a H)];rfl;cases h;split at h
  rcases d with rfl|rfl;show rd P (Op.equal t _ _>>=λq=>pure (Value.bool q)) H=_;rw[ba _ _ _ _ (a H)];rfl;show rd P (Op.equal t _ _>>=λq=>pure (Value.bool (!q))) H=_;rw[ba _ _ _ _ (a H)];rfl;cases h;cases h
 exact K u v h a
theorem ND{o:Oper}{O:BinOp}{t T:TypeId}{x y:Operand}{A:Env}{n:Operand->Value}{u v:Value}{K:Value->Option (cM)->Prop}(e:o.op=.binOp O t x y T)(i:Fits A n)(f:n x=u)(g:n y=v)(h:K0 P o O t u v A K):
  ∃v,K v none/\∀d,rd P (execOp n o) d=some (.value v):=by
 have j: ∀B b,o.op≠ .select B b:=by grind
 unfold K0 at h;split at h;split at h;rename_i w;have⟨b,H,q⟩:=h;exact⟨_,q,Gp e (.inl rfl) f g w H⟩;split at h;rename_i b H;refine⟨_,h,λd=>lK e f g (xM H d) ?_⟩;have r:binOp .eql t u v=(do pure (.B (<-Op.equal t u v))):=by rcases AJ H with⟨p,rfl,rfl⟩|⟨m,rfl,rfl⟩|⟨p,l,c,L,C,rfl,rfl⟩<;>rfl
 rw[r,ba _ _ _ _ (Gn H d)];rfl;exact sV i j h;split at h;rename_i w;have⟨b,H,q⟩:=h;exact⟨_,q,Gp e (.inr rfl) f g w H⟩;split at h;rename_i b H;refine⟨_,h,λd=>lK e f g (xM H d) ?_⟩;have r:binOp .neq t u v=(do pure (.B (!(<-Op.equal t u v)))):=by rcases AJ H with⟨p,rfl,rfl⟩|⟨m,rfl,rfl⟩|⟨p,l,c,L,C,rfl,rfl⟩<;>rfl
 rw[r,ba _ _ _ _ (Gn H d)];rfl;exact sV i j h;split at h;rename_i k a z b;split at h;rename_i s;obtain rfl:k=z:=bj s;split at h;exact h.elim;rename_i H;refine⟨_,h,λd=>lK e f g (by rfl) ?_⟩;simp only[binOp,ne_eq,not_true,bQ,Op.intDiv,H];rfl;exact h.elim;exact h.elim;split at h;rename_i k a z b;split at h;rename_i s;obtain rfl:k=z:=bj s;split at h;exact h.elim;rename_i H;refine⟨_,h,λd=>lK e f g (by rfl) ?_⟩;simp only[binOp,ne_eq,not_true,bQ,Op.intDiv,H];rfl;grind;grind;split at h;split at h;exact h.elim;rename_i H;refine⟨_,h,λd=>lK e f g (by rfl) ?_⟩;simp only[binOp,Op.shift,H,bQ];rfl;exact h.elim;split at h;split at h;exact h.elim;rename_i H;refine⟨_,h,λd=>lK e f g (by rfl) ?_⟩;simp only[binOp,Op.shift,H,bQ];rfl;exact h.elim;split at h;have⟨H,h⟩:=h;refine⟨_,h,λd=>lK e f g (by rfl) ?_⟩;simp only[binOp,Op.stringOp];rw[fe];rfl;exact sV i j h;exact sV i j h
def gQ{x:Value}{k:IntKind}{n:Int}{y:Nat}{c:BoundsCode}{h:Heap}(b:x=.int k n)(H:0<=n)(a:n<=(y:Int)):rd P (Instr.sliceBound x y c) h=some n.toNat:=by subst b;show rd P (if 0<=n/\n<=(y)then _ else _) h=_;rw[ah ⟨H,a⟩];rfl
def jW{b:Env}{a:Operand->Value}(H:Fits b a){x:Option Operand}{n:Option Int}(h:wH b x=some n):
  (x=none/\n=none)\/∃k m,n=some m/\x.map a=some (.int k m):=by
 cases x with
 |none=>simp only[wH,cr]at h;exact .inl ⟨rfl,h.symm⟩
 |some x=>simp only[wH]at h;split at h;rename_i k m c;simp only[cr]at h;exact .inr ⟨k,m,h.symm,by simp[H _ _ c]⟩;cases h
def mT{g:Env}{f:Operand->Value}(j:Fits g f){L k:Option Operand}{l r:Option Int}(o:wH g L=some l)(p:wH g k=some r){isS:Bool}{len cap:Nat}{F:Nat->fZ}(e:HD len cap l r F): ∃a b,F a b/\∀(h:Heap),
   rd P (Instr.sliceBounds isS len cap (L.map f) (k.map f) none) h=some (a,b,cap):=by
 rcases jW j o with⟨rfl,rfl⟩|⟨K,m,rfl,E⟩<;>rcases jW j p with⟨rfl,rfl⟩|⟨s,M,rfl,i⟩;exact⟨0,len,e,λh=>rfl⟩;have⟨⟨H,c⟩,d⟩:=e;refine⟨0,M.toNat,d,λh=> ?_⟩;unfold Instr.sliceBounds;rw[i,ba _ _ _ _ (jG _),ba _ _ _ _ (gQ rfl H c)];rfl;have⟨⟨H,c⟩,d⟩:=e;refine⟨m.toNat,len,d,λh=> ?_⟩;unfold Instr.sliceBounds;rw[E,ba _ _ _ _ (jG _)];simp only[Option.map_none];rw[ba _ _ _ _ (jG _),ba _ _ _ _ (gQ rfl H c)];rfl;have⟨⟨H,c⟩,⟨n,q⟩,d⟩:=e;refine⟨m.toNat,M.toNat,d,λh=> ?_⟩;unfold Instr.sliceBounds;rw[E,i,ba _ _ _ _ (jG _),ba _ _ _ _ (gQ rfl H c),ba _ _ _ _ (gQ rfl n ae)];rfl
theorem Gq{n:Int}: ∀(V:List Value)(i:Nat)(F:Value->Prop),K2 n V i F->∀j,n=((i+j:Nat):Int)->∀v,V[j]? =some v->F v
 | [],_,_,_,j,_,v,h=>by simp at h
 |u::V,i,F,a,j,c,v,h=>by
  have⟨b,H⟩:=a;cases j with
  |zero=>grind
  |succ j=>exact Gq V (i+1) F H j ae v (by grind)
def jo{s:Sem Value}{v:Value}{h:Heap}(H:rd P s h=some v):rd P (do pure (Next.value (<-s))) h=some (.value v):=by rw[ba _ _ _ _ H];rfl
def Gr{b:Env}{a:Operand->Value}(H:Fits b a): ∀(X:List (Nat×Operand))(l:List (Nat×Value)),ze b X=some l->X.map (λ(i,x)=>(i,a x))=l
 | [],l,h=>by cases h;rfl
 |(i,x)::r,l,h=>by unfold ze at h;split at h;rename_i v L d c;cases h;rw[cp,Gr H r L c];dsimp only;rw[H _ _ d];cases h
def CS{b:Env}{a:Operand->Value}(H:Fits b a){X:Array (Nat×Operand)}{l:List (Nat×Value)}(h:ze b X.toList=some l):X.map (λ(i,x)=>(i,a x))=l.toArray:=by rw[<-Gr H _ _ h,<-List.map_toArray,Array.toArray_toList]
def CT{o:Oper}{σ:Env}{O:Operand->Value}{h:Heap}{K:Value->Option (cM)->Prop}(d:Fits σ O)(H:vk P o σ h K):
  ∃v S,K v S/\Cy S h/\∀c,Cy S c->rd P (execOp O o) c=some (.value v):=by
 have V:(∀C b,o.op≠ .select C b)->ph P o σ K->∃v S,K v S/\Cy S h/\∀c,Cy S c->rd P (execOp O o) c=some (.value v):=λF I=>by obtain⟨v,g,j⟩:=sV d F I;exact⟨v,none,g,trivial,λc _=>j c⟩
 unfold vk at H;split at H;rename_i f' a b f;split at H;rename_i m' va vb hc T r;have e:execOp O o=pure (.value (if m' then va else vb)):=by unfold execOp;rw[f];simp only[d _ _ hc,d _ _ T,d _ _ r];rfl
 split at H
 rename_i X;exact⟨va,none,H,trivial,λc _=>by rw[e,ah X];rfl⟩;rename_i X;exact⟨vb,none,H,trivial,λc _=>by rw[e,af X];rfl⟩;exact H.elim;rename_i t x f;split at H;rename_i p I;obtain⟨a,rfl,H⟩:=cf.1 H;obtain⟨v,S,g,j,J⟩:=CR H;refine⟨v,S,g,j,λc F=> ?_⟩;unfold execOp;rw[f];simp only[d _ _ I];exact jo (J c F);exact H.elim;rename_i x f;split at H;rename_i p I;obtain⟨a,rfl,H⟩:=cf.1 H;refine⟨_,none,H,trivial,λc _=> ?_⟩;unfold execOp;rw[f];simp only[d _ _ I];rfl;exact V (by rw[f];intro C b e;cases e) H;rename_i op t x d' t' f;split at H;rename_i u v hu M;obtain⟨v,g,j⟩:=ND f d (d _ _ hu) (d _ _ M) H;exact⟨v,none,g,trivial,λc _=>j c⟩;exact H.elim;rename_i s x g' f;split at H;rename_i p o' I A;obtain⟨a,rfl,H⟩:=cf.1 H;refine⟨_,none,H,trivial,λc _=> ?_⟩;unfold I4 at A;split at A;rename_i fs j';split at A;rename_i R i';split at A;rename_i i B;split at A;cases A;rename_i hz;simp only[cr]at A;subst A;unfold execOp;rw[f];simp only[d _ _ I];refine jo ?_;unfold Instr.fieldAt;rw[ba _ _ _ _ (bh j')];simp only[i'];show rd P (do let d'<-fieldPlace a R;pure (Value.pointer (some d'))) c=_;have k': ¬i.size=0:=λe=>by rw[e]at hz;cases hz
 have g:rd P (fieldPlace a R) c=some (a.add R.offset):=by unfold fieldPlace;rw[ba _ _ _ _ (fI B),af k'];rfl
 rw[ba _ _ _ _ g];rfl;cases A;cases A;cases A;exact H.elim;rename_i t x ix f;split at H;rename_i e e' len cap k n l q B;split at H;rename_i i w;obtain⟨⟨g,j⟩,H⟩:=H;obtain⟨a,rfl,H⟩:=cf.1 H;refine⟨_,none,H,trivial,λc _=> ?_⟩;unfold execOp;rw[f];simp only[d _ _ q,d _ _ B];refine jo ?_;unfold Instr.indexAt;show rd P (do let x<-underlying t;_) c=_;rw[ba _ _ _ _ (bh l)];simp only;rw[ba _ _ _ _ (jG _)];simp only;rw[ba _ _ _ _ (bh l)];simp only;rw[ah ⟨g,j⟩,ba _ _ _ _ (fI w)];rfl;exact H.elim;rename_i len e e' k n l q B;split at H;rename_i i w;obtain⟨⟨g,j⟩,H⟩:=H;obtain⟨a,rfl,H⟩:=cf.1 H;refine⟨_,none,H,trivial,λc _=> ?_⟩;unfold execOp;rw[f];simp only[d _ _ q,d _ _ B];refine jo ?_;unfold Instr.indexAt;show rd P (do let x<-underlying t;_) c=_;rw[ba _ _ _ _ (bh l)];simp only[Instr.sureAddr];rw[ba _ _ _ _ (jG _),ba _ _ _ _ (jG _)];simp only;rw[ba _ _ _ _ (bh l)];simp only;rw[ah ⟨g,j⟩,ba _ _ _ _ (fI w)];rfl;exact H.elim;exact H.elim;rename_i t x ix f;split at H;rename_i s k n l q B;obtain⟨⟨g,j⟩,H⟩:=H;refine⟨_,none,H,trivial,λc _=> ?_⟩;unfold execOp;rw[f];simp only[d _ _ q,d _ _ B];refine jo ?_;unfold Instr.index;show rd P (do let x<-underlying t;_) c=_;rw[ba _ _ _ _ (bh l)];have L:n.toNat<s.size:=ae
 have U:s[n.toNat]? =some (s.data.toList.getD n.toNat 0):=by rw[getElem?_pos s n.toNat L];congr 1;rw[aL,ai (by simpa using L)];rfl
 simp only[ah g,U];rfl;rename_i len e C k n l q B;split at H;rename_i i r w c';split at H;rename_i Z;obtain⟨⟨g,j⟩,H⟩:=H;have c':=ct c';have Z:=ct Z;have L:n.toNat<C.toList.length:=ae
 have y:=Gq _ _ _ H n.toNat ae _ (ai L);refine⟨_,none,y,trivial,λc _=> ?_⟩;unfold execOp;rw[f];simp only[d _ _ q,d _ _ B];refine jo ?_;unfold Instr.index;show rd P (do let x<-underlying t;_) c=_;rw[ba _ _ _ _ (bh l)];simp only;rw[ah ⟨g,j⟩,ba _ _ _ _ (fI w)];unfold part;rw[ba _ _ _ _ (mS r)];simp only[aV,bQ];rw[Z,bJ];have U:C[n.toNat]? =some (C.toList[n.toNat]'L):=bO
 rw[U];rfl;exact H.elim;exact H.elim;exact H.elim
 .rename_i t x lo B mx f;split at H;rename_i e p len cap a' b' l q z D;split at H;rename_i i w;obtain⟨a,b,y,r⟩:=mT (P:=P) (isS:=true) d z D H;refine⟨_,none,y,trivial,λc _=> ?_⟩;unfold execOp;rw[f];simp only[d _ _ q,Option.map_none];refine jo ?_;unfold Instr.sliceAt;rw[ba _ _ _ _ (bh l)];unfold Instr.slice;simp only;rw[ba _ _ _ _ (bh l)];simp only;rw[ba _ _ _ _ (r _)];simp only;rw[ba _ _ _ _ (fI w)];rfl;exact H.elim;rename_i s a' b' l q z D;obtain⟨a,b,y,r⟩:=mT (P:=P) (isS:=false) d z D H;refine⟨_,none,y,trivial,λc _=> ?_⟩;unfold execOp;rw[f];simp only[d _ _ q,Option.map_none];refine jo ?_;unfold Instr.sliceAt;rw[ba _ _ _ _ (bh l)];unfold Instr.slice;simp only;rw[ba _ _ _ _ (bh l)];simp only[Option.isSome_none,aV,bQ];rw[ba _ _ _ _ (r _)];rfl;rename_i n e p a' b' l q z D;split at H;rename_i i w;obtain⟨ad,rfl,H⟩:=cf.1 H;obtain⟨a,b,y,r⟩:=mT (P:=P) (isS:=false) d z D H;refine⟨_,none,y,trivial,λc _=> ?_⟩;unfold execOp;rw[f];simp only[d _ _ q,Option.map_none];refine jo ?_;unfold Instr.sliceAt;rw[ba _ _ _ _ (bh l)];simp only[Instr.sureAddr];rw[ba _ _ _ _ (jG _),ba _ _ _ _ (r _)];simp only;rw[ba _ _ _ _ (fI w)];show some _=some _;unfold bV;congr 2;split<;>rfl;exact H.elim
  .rename_i mo e p len cap b l q z D;split at H
   .rename_i k m i G w;obtain⟨⟨g,j⟩,⟨J,h4⟩,y⟩:=H;rcases jW d z with⟨rfl,_⟩|⟨_,_,E,_⟩
    case inr=>cases E
    rcases jW d D with⟨_,E⟩|⟨k2,m2,E,Q⟩;cases E;cases E;refine⟨_,none,y,trivial,λc _=> ?_⟩;unfold execOp;rw[f];simp only[d _ _ q,d _ _ G,Q,Option.map_none,dB];refine jo ?_;unfold Instr.sliceAt;rw[ba _ _ _ _ (bh l)];unfold Instr.slice;simp only;rw[ba _ _ _ _ (bh l)];simp only;have r:rd P (Instr.sliceBounds true len cap none (some (.int k2 b)) (some (.int k m))) c=some (0,b.toNat,m.toNat):=by unfold Instr.sliceBounds;simp only;rw[ba _ _ _ _ (gQ rfl g j),ba _ _ _ _ (gQ rfl J ae)];rfl
    rw[ba _ _ _ _ r];simp only;rw[ba _ _ _ _ (fI w)];rfl
   exact H.elim
  rename_i mo e p len cap a0 b l q z D;split at H;rename_i k m i G w;obtain⟨⟨g,j⟩,⟨J,h4⟩,⟨h5,h6⟩,y⟩:=H;rcases jW d z with⟨_,E⟩|⟨k3,m3,E,e3⟩;cases E;cases E;rcases jW d D with⟨_,E⟩|⟨k2,m2,E,Q⟩;cases E;cases E;refine⟨_,none,y,trivial,λc _=> ?_⟩;unfold execOp;rw[f];simp only[d _ _ q,d _ _ G,Q,e3,dB];refine jo ?_;unfold Instr.sliceAt;rw[ba _ _ _ _ (bh l)];unfold Instr.slice;simp only;rw[ba _ _ _ _ (bh l)];simp only;have r:rd P (Instr.sliceBounds true len cap (some (.int k3 a0)) (some (.int k2 b)) (some (.int k m))) c=some (a0.toNat,b.toNat,m.toNat):=by unfold Instr.sliceBounds;simp only;rw[ba _ _ _ _ (gQ rfl g j),ba _ _ _ _ (gQ rfl J ae),ba _ _ _ _ (gQ rfl h5 ae)];rfl
  rw[ba _ _ _ _ r];simp only;rw[ba _ _ _ _ (fI w)];rfl;exact H.elim;exact H.elim
 rename_i t x i ok f;split at H;rename_i m k G hk;obtain⟨v,g,j⟩:=qA H;refine⟨v,_,j,?_,λc F=> ?_⟩;show mz m h h;unfold mz;split<;>trivial;unfold execOp;rw[f];simp only[d _ _ G,d _ _ hk];exact jo (g c F);exact H.elim;rename_i args p' f;split at H;rename_i x h';split at H;rename_i m G;split at H;obtain⟨n,g,j⟩:=H;refine⟨_,_,j,?_,λc F=> ?_⟩;show mz m h h;unfold mz;split<;>trivial;have T:args= #[x]:=by rw[<-Array.toArray_toList (xs:=args),h']
 unfold execOp;rw[f];simp only[resolve,T];rw[ba _ _ _ _ (jG _)];simp only[invoke,builtin,List.map_toArray,cp,List.map_nil,d _ _ G];exact jo (g c F);exact V (by rw[f];intro C b e;cases e) H;exact H.elim;exact H.elim;rename_i s n' x f;split at H;split at H;rename_i v M;obtain⟨b,g,j⟩:=H;refine⟨_,_,j,g,λc F=> ?_⟩;unfold execOp;rw[f];simp only[d _ _ M];exact jo F;exact H.elim;exact V (by rw[f];intro C b e;cases e) H;rename_i s x g' f;split at H;split at H;rename_i v M;obtain⟨u,g,j⟩:=qA H;refine⟨u,none,j,trivial,λc _=> ?_⟩;unfold execOp;rw[f];simp only[d _ _ M];exact jo (g c);exact H.elim;exact V (by rw[f];intro C b e;cases e) H;rename_i t parts f;split at H;split at H;rename_i a' z;obtain⟨u,g,j⟩:=qA H;refine⟨u,none,j,trivial,λc _=> ?_⟩;unfold execOp;rw[f];simp only[CS d z];exact jo (g c);exact H.elim;exact V (by rw[f];intro C b e;cases e) H;rename_i t x f;split at H;rename_i n el p len f' l q;obtain⟨g,j⟩:=H;refine⟨_,none,j,trivial,λc _=> ?_⟩;unfold execOp;rw[f];simp only[d _ _ q];refine jo ?_;unfold Instr.arrayAt;rw[ba _ _ _ _ (bh l)];simp only;rw[fe];rfl;exact H.elim;exact H.elim;rename_i l';exact V l' H
def lL(p:bH)(h H:Heap):Prop:= ∀x,p=some x->x.block<h.size->H[x.block]? =h[x.block]?
def Kp(h H:Heap)(l:List (bH)):Prop:= ∀p∈l,lL p h H
def HG(a:Env)(o:Oper):Option (bH):=
 match o.op with
 | .load _ x=>(match a.ev x with
  |some (.pointer p)=>some p
  |_=>some none)
 |_=>none
theorem sW{h:Heap}{a:Addr}{v:Value}(H:aQ h a=some v):a.block<h.size:=by unfold aQ at H;split at H;grind;cases H
def lL.cell{h c:Heap}{a b:Addr}{v:Value}(e:lL (some a) h c)(d:b.block=a.block)(H:aQ h b=some v):aQ c b=some v:=by have:=e a rfl (by rw[<-d];exact sW H);rw[<-d]at this;unfold aQ at H⊢;rw[this];exact H
def lL.trans{p:bH}{h c d:Heap}(a:lL p h c)(b:lL p c d):lL p h d:=λx e f=>by have H:=a x e f;rw[b x e ?_,H];have:=Array.getElem?_eq_getElem f;rw[this]at H;exact(bP.1 H).1
def lL.held{h H:Heap}{a:Addr}(c:lL (some a) h H): ∀(v:List Value)(i:Nat),cz a v i h->cz a v i H
 | [],_,_=>trivial
 |_::v,i,b=>⟨c.cell (by unfold Addr.add;split<;>rfl) b.1,lL.held c v (i+1) b.2⟩
theorem Fy{t:TypeId}{h:Heap}{a:Addr}{K:Value->Option (cM)->Prop}(H:vj P t h a K):
  ∃v S,K v (some S)/\S h/\(∀b,lL (some a) h b->S b)/\Yv P (loadVar t a) (some S) v:=by
 unfold vj at H;split at H;rename_i j;split at H;rename_i L i m k;split at H;rename_i n;have H:AI h a L 0 λV=>K (.agg V.toArray) (some (cz a V 0)):=by
  split at H
  exact H.run;exact H
 have⟨V,g,d,f⟩:=wJ _ _ _ H;refine⟨_,_,f,d,λb c=>c.held _ _ d,λb c=> ?_⟩;unfold loadVar;rw[ba _ _ _ _ (wg j)];simp only[cI];rw[ba _ _ _ _ (fI k)];have e:i.size=V.length:=by simp_all
 unfold loadCells;rw[e,ba _ _ _ _ (iM V 0 #[] b c)];simp[jG];exact H.elim;exact H.elim;split at H
 rename_i l g;have⟨v,d,f⟩:=gF.my H;refine⟨v,_,f,d,λb c=>c.cell rfl d,λb c=> ?_⟩;unfold loadVar;rw[ba _ _ _ _ (mS g)];exact HF c;grind
theorem HH{o:Oper}{d:Env}{g:Operand->Value}{h:Heap}{K:Value->Option (cM)->Prop}{p:bH}(m:Fits d g)(c:HG d o=some p)(b:vk P o d h K):
  ∃v S,K v (some S)/\S h/\(∀H,lL p h H->S H)/\∀H,S H->rd P (execOp g o) H=some (.value v):=by
 unfold HG at c;unfold vk at b;split at c;rename_i t x e;simp only[e]at b;split at b;rename_i q f;simp only[f,cr]at c;subst c;obtain⟨a,rfl,b⟩:=cf.1 b;have⟨v,S,i,j,l,k⟩:=Fy b;refine⟨v,S,i,j,l,λH n=> ?_⟩;unfold execOp;rw[e];simp only[m _ _ f];exact jo (k H n);grind;cases c
def Mq{b:Env}{a:Operand->Value}(H:Fits b a): ∀(X:List Operand)(V:List Value),Py b X=some V->X.map a=V
 | [],V,h=>by simp only[Py,cr]at h;exact h
 |x::X,V,h=>by simp only[Py]at h;split at h;rename_i v e c d;simp only[cr]at h;rw[cp,H _ _ c,Mq H X e d,h];cases h
def pj{b:Env}{a:Operand->Value}(h:Fits b a){args:Array Operand}{v:List Value}(H:Py b args.toList=some v):args.map a=v.toArray:=by have:=Mq h _ _ H;rw[<-this];apply Array.ext';simp
theorem Cz{o:Oper}{d:Env}{c:Operand->Value}{h:Heap}{K:dH}(f:Fits d c)(i: ∀C b,o.op≠ .select C b)(H:NC P o d h K):nP P o c h K:=by unfold NC at H;split at H;rename_i e;split at H;rename_i O k g;have a:=H _ _ rfl rfl;dsimp only at a;split at a;rename_i v j;refine KY _ O k (by rw[<-I3 f o e i];exact g) _ _ (I2 _ _ j _ _ a);grind;exact H.elim;grind
theorem zp{a:Addr}: ∀(V:List Value)(i:Nat)(h:Heap)(K:cM),cQ a V i h K->bu P (storeCells a V i) h (λ_ b=>K b)
 | [],_,_,_,H=>H
 |v::V,i,h,K,H=>by simp only[cQ]at H;split at H;rename_i c;have⟨d,e,f⟩:=H;exact⟨c,d,e,zp V (i+1) _ K (f _ rfl)⟩;grind
def vm{s:Sem Value}{h:Heap}{t:TypeId}{K:dH}(a:bu P s h λv H=>mR P t λV=>v=V/\K V H):bu P s h K:=
 jB _ _ (λ_ _ b=>xJ b) a
def NF{o:Oper}{Q:Env}{O:Operand->Value}{h:Heap}{K:dH}(n:Fits Q O)(H:K4 P o Q h K):nP P o O h K:=by
 unfold K4 at H;split at H;rename_i j;exact Cz n (by rw[j];intro y b e;cases e) H;rename_i j;exact Cz n (by rw[j];intro y b e;cases e) H;rename_i t len parts j;split at H;split at H;rename_i l A;unfold nP execOp;rw[j];simp only[CS n A];rw[cY];exact vm H;exact H.elim;exact Cz n (by rw[j];intro y b e;cases e) H;rename_i j;exact Cz n (by rw[j];intro y b e;cases e) H;rename_i t x b' j;split at H;rename_i p v q L;obtain⟨a,rfl,H⟩:=cf.1 H;split at H;rename_i i G;split at H;have e:v.cells.size=i.size:=by have:=H.1;simpa using this
 unfold nP execOp;rw[j];simp only[n _ _ q,n _ _ L];rw[cY];unfold Instr.storeAt;rw[cY];show bu P (storeVar t a v) h _;unfold storeVar;rw[cY,CQ G];simp only[e,ne_eq,not_true,bQ];exact zp _ _ _ _ H.2;split at H;rename_i D;unfold nP execOp;rw[j];simp only[n _ _ q,n _ _ L];rw[cY];unfold Instr.storeAt;rw[cY];show bu P (storeVar t a v) h _;unfold storeVar;rw[cY,CQ G];have e:v.cells.size=i.size:=by have:=ct D;simpa using this.symm
 simp only[e,ne_eq,not_true,bQ];exact zp _ _ _ _ H;exact H.elim;exact H.elim;exact H.elim;rename_i t m k x j;split at H;rename_i m k x B z q;unfold nP execOp;rw[j];simp only[n _ _ B,n _ _ z,n _ _ q];rw[cY];exact H;exact H.elim;rename_i t m k x j;split at H;rename_i m k x B z q;unfold nP execOp;rw[j];simp only[n _ _ B,n _ _ z,n _ _ q];rw[cY];exact H;exact H.elim;rename_i t l c j;split at H;rename_i l c A R;unfold nP execOp;rw[j];simp only[n _ _ A,n _ _ R];rw[cY];exact vm H;exact H.elim;rename_i s d x j;split at H;rename_i x q;unfold nP execOp;rw[j];simp only[n _ _ q];rw[cY];exact vm H;exact H.elim
 .rename_i b args Z j;split at H
  .rename_i V w;split at H
   .rename_i s J;unfold nP execOp;rw[j];simp only[resolve,pj n w];rw[cY,CP];simp only[invoke];cases b<;>simp only[CO]at J<;>first|cases J|skip
    all_goals (simp only[builtin];rw[cY];exact vm H)
   exact H.elim
  exact H.elim
 .rename_i f args Z j;split at H
  .rename_i g first C V E w;split at H
   .rename_i r;unfold nP execOp;rw[j];simp only[resolve,pj n w,n _ _ E,Deferred.ofValue];rw[cY,CP];simp only[invoke,callFunc];rw[cY];unfold lC at r;split at r
    .rename_i F S;simp only[bE,Bool.not_eq_true']at r;show bu P (match P.funcs[g]? with|none=>_|some F=>_) h _;rw[S];have D:F.body.isNone=false:=by cases T:F.body<;>simp[T]at r⊢
     simp only[r.2,D,aV,bQ];have e:(first++V.toArray++C)=(first.toList++V++C.toList).toArray:=by apply Array.ext';simp
     rw[e];exact H.mono λv u hr=>xJ hr
    cases r
   .unfold nP execOp;rw[j];simp only[resolve,pj n w,n _ _ E,Deferred.ofValue];rw[cY,CP];simp only[invoke];have e:(first++V.toArray++C)=(first.toList++V++C.toList).toArray:=by
     apply Array.ext';simp
    rw[e];refine jB _ _ (λX u hr=> ?_) H;cases X with
    |value v=>have U:mR P o.type (λM=>v=M/\K M u):=hr;exact xJ U
    |_=>exact hr.elim
  exact H.elim
 rename_i t x j;split at H;rename_i x q;unfold nP execOp;rw[j];simp only[n _ _ q];rw[cY];exact jB _ _ (λv u ⟨a',e,hr⟩=>by subst e;exact hr) H;exact H.elim;rename_i I b j;split at H;rename_i I q;unfold nP execOp;rw[j];simp only[n _ _ q];rw[cY];refine jB _ _ (λv u hr=> ?_) H;rcases hr with⟨e,hr⟩|hr;subst e;exact hr;obtain⟨k,x,e,hr⟩:=hr;subst e;exact hr;exact H.elim;rename_i I j;split at H;rename_i I q;unfold nP execOp;rw[j];simp only[n _ _ q];rw[cY];refine jB _ _ (λv u hr=> ?_) H;obtain⟨k,x,e,hr⟩:=hr;subst e;exact hr;exact H.elim;exact H.elim
end
section
variable {X y:Type} {v:Value} {F:Value->Prop} {t n:Nat} {h:Heap} {a b:Act} {x:Array Value} {D:Option Nat} {w:List Nat} {O:Array Oper} {o:Oper}
def gF.T(X:Type):gF->Type
 | .int _=>Int->X
 | .bool=>Bool->X
 | .str=>bC->X
 | .ptr=>bH->X
 | .slice=>bH->Nat->Nat->X
 | .map=>Option Nat->X
 | .raw=>Value->X
def vo(X:Type):List gF->Type
 | []=>X
 |l::L=>l.T (vo X L)
def Sh.T(X:Type):Sh->Type
 | .one l=>l.T X
 | .agg L=>vo X L
def rS(X:Type):List (Nat×Sh)->Type
 | []=>X
 |s::L=>s.2.T (rS X L)
def gF.lam{X:Type}:(l:gF)->(Value->X)->l.T X
 | .int k,F=>λn:Int=>F (.int k n)
 | .bool,F=>λb:Bool=>F (.bool b)
 | .str,F=>λs:bC=>F (.string s)
 | .ptr,F=>λp:bH=>F (.pointer p)
 | .slice,F=>λ(p:bH) (l c:Nat)=>F (.slice p l c)
 | .map,F=>λm:Option Nat=>F (.map m)
 | .raw,F=>λv:Value=>F v
def UP{X:Type}:(L:List gF)->(List Value->X)->vo X L
 | [],F=>F []
 |l::L,F=>l.lam λv=>UP L λV=>F (v::V)
def Sh.lam{X:Type}:(s:Sh)->(Value->X)->s.T X
 | .one l,F=>l.lam F
 | .agg L,F=>UP L λV=>F (.agg V.toArray)
def Pz{X:Type}:(L:List (Nat×Sh))->(Env->X)->Env->rS X L
 | [],F,c=>F c
 |(t,s)::L,F,c=>s.lam λv=>Pz L F (c.set t v)
def gF.ap{X y:Type}(d:y):(l:gF)->l.T X->Value->(X->y)->y
 | .int k,f,.int e n,K=>(match decide (k=e)with|true=>K (f n)|false=>d)
 | .bool,f,.bool b,K=>K (f b)
 | .str,f,.string s,K=>K (f s)
 | .ptr,f,.pointer p,K=>K (f p)
 | .slice,f,.slice p l c,K=>K (f p l c)
 | .map,f,.map m,K=>K (f m)
 | .raw,f,v,K=>K (f v)
 |_,_,_,_=>d
def Wh{X y:Type}(d:y):(L:List gF)->vo X L->List Value->(X->y)->y
 | [],f, [],K=>K f
 |l::L,f,v::V,K=>l.ap d f v λg=>Wh d L g V K
 |_,_,_,_=>d
def Sh.ap{X y:Type}(d:y):(s:Sh)->s.T X->Value->(X->y)->y
 | .one l,f,v,K=>l.ap d f v K
 | .agg L,f,.agg V,K=>Wh d L f V.toList K
 |_,_,_,_=>d
def mb{X y:Type}(d:y):(L:List (Nat×Sh))->rS X L->Env->(X->y)->y
 | [],f,_,K=>K f
 |(t,s)::L,f,c,K=>(match c t with|some v=>s.ap d f v λg=>mb d L g c K|none=>d)
def gF.all:gF->(Value->Prop)->Prop
 | .int k,F=> ∀n:Int,F (.int k n)
 | .bool,F=> ∀b:Bool,F (.bool b)
 | .str,F=> ∀s:bC,F (.string s)
 | .ptr,F=> ∀p:bH,F (.pointer p)
 | .slice,F=> ∀(p:bH)(l c:Nat),F (.slice p l c)
 | .map,F=> ∀m:Option Nat,F (.map m)
 | .raw,F=> ∀v:Value,F v
def UQ:List gF->(List Value->Prop)->Prop
 | [],F=>F []
 |l::L,F=>l.all λv=>UQ L λV=>F (v::V)
def Sh.all:Sh->(Value->Prop)->Prop
 | .one l,F=>l.all F
 | .agg L,F=>UQ L λV=>F (.agg V.toArray)
def NG:List (Nat×Sh)->(Env->Prop)->Env->Prop
 | [],F,c=>F c
 |(t,s)::L,F,c=>s.all λv=>NG L F (c.set t v)
def gF.PA{d:y}{l:gF}{f:l.T X}{K:X->y}:l.ap d f v K=d\/((∃g:X,l.ap d f v K=K g)/\∀(Z:Type)(F:Value->Z),∀(w:Type)(e:w)(J:Z->w),l.ap e (l.lam F) v J=J (F v)):=by
 cases l<;>cases v<;>first
  |exact .inl rfl
  |exact .inr ⟨⟨_,rfl⟩,λ_ _ _ _ _=>rfl⟩
  |skip
 rename_i k c n;by_cases H:k=c;subst H;refine .inr ⟨⟨f n,?_⟩,λZ F w e J=> ?_⟩<;>simp[gF.ap,gF.lam];exact .inl (by simp[gF.ap,H])
theorem gF.Mr{l:gF}{f:l.T X}{K:X->Prop}(h:l.ap False f v K):
  (∃g:X,K g)/\(∀(Z w:Type)(F:Value->Z)(e:w)(J:Z->w),l.ap e (l.lam F) v J=J (F v)):=by
 rcases gF.PA (d:=False) (f:=f) (v:=v) (K:=K)with H|⟨⟨g,H⟩,c⟩;grind;grind
def gF.HI{l:gF}(h:l.all F){f:l.T X}{K:X->Prop}(H:l.ap False f v K):F v:=by
 cases l<;>cases v<;>first
  |exact H.elim
  |exact h _
  |exact h _ _ _
  |skip
 rename_i k d n;by_cases c:k=d;subst c;exact h n;simp[gF.ap,c]at H
def gF.HJ{l:gF}{F:Value->X}{K:X->Prop}(h:l.ap False (l.lam F) v K):K (F v):=by have:=(gF.Mr h).2 X Prop F False K;rw[this]at h;exact h
variable {l:gF}
def Ms : ∀{L:List gF}{F:List Value->X}{V:List Value}{K:X->Prop},Wh False L (UP L F) V K->K (F V)
 | [],_, [],_,h=>h
 | [],_,_::_,_,h=>h.elim
 |_::_,_, [],_,h=>h.elim
 |_::L,F,v::V,_,h=>Ms (F:=λu=>F (v::u)) (gF.HJ h)
def Sh.HJ{s:Sh}{F:Value->X}{K:X->Prop}(h:s.ap False (s.lam F) v K):K (F v):=by
 cases s with
 |one l=>exact gF.HJ h
 |agg L=>
  cases v<;>first|exact h.elim|skip
  rename_i c;have:=Ms h;simpa using this
theorem Mt {X : Type} : ∀ {ls : List gF} {F : List Value → Prop} {f : vo X ls} {vs : List Value} {K : X → Prop}, UQ ls F → Wh False ls f vs K → F vs
  | [], _, _, [], _, h, _ => h
  | [], _, _, _ :: _, _, _, h => h.elim
  | _ :: _, _, _, [], _, _, h => h.elim
  | l :: ls, F, f, v :: vs, K, h, ha => by
    have ⟨⟨g, hg⟩, _⟩ := gF.Mr ha
    exact Mt (vs := vs) (gF.HI h ha) hg
def Sh.HI{s:Sh}(h:s.all F){f:s.T X}{K:X->Prop}(H:s.ap False f v K):F v:=by
 cases s with
 |one l=>exact gF.HI h H
 |agg L=>
  cases v<;>first|exact H.elim|skip
  have:=Mt h H;simpa using this
def I6 : ∀{L:List gF}{f:vo X L}{V:List Value}{K:X->Prop},Wh False L f V K->∃g,K g
 | [],f, [],_,h=>⟨f,h⟩
 | [],_,_::_,_,h=>h.elim
 |_::_,_, [],_,h=>h.elim
 |_::_,_,_::_,_,h=>by have⟨⟨g,H⟩,_⟩:=gF.Mr h;exact I6 H
def Sh.Mu{s:Sh}{f:s.T X}{K:X->Prop}(h:s.ap False f v K): ∃g,K g:=by
 cases s with
 |one l=>exact(gF.Mr h).1
 |agg L=>cases v<;>first|exact h.elim|exact I6 h
variable {s:Sh}
def Sub(d e c:Env):Prop:= ∀t v,d t=some v->c t=some v\/e t=some v
def Env.wD(c:Env)(d t:Nat)(v:Value):c.set d v t=if t=d then some v else c t:=by unfold Env.set;by_cases h:t=d;simp;simp
theorem Sub.set{d e c:Env}(g:c t=some v)(h:Sub d (e.set t v) c):Sub d e c:=λu f H=>by rcases h u f H with h1|h1;grind;rw[Env.wD]at h1;split at h1;grind;grind
theorem xN{G:Env->cM}{e:Env}: ∀(L:List (Nat×Sh))(c:Env),mb False L (Pz (X:=cM) L G c) e (λf=>f h)->∃d,G d h/\Sub d c e
 | [],c,H=>⟨c,H,λ_ _ h=> .inr h⟩
 |(t,s)::L,c,H=>by simp only[mb]at H;split at H;rename_i v j;have⟨d,g,i⟩:=xN L _ (Sh.HJ H);exact⟨d,g,i.set j⟩;grind
theorem xO{F : Env -> Prop}{k : Env}{K : X -> Prop}: ∀(L : List (Nat × Sh))(d : Env)(f : rS X L), NG L F d -> mb False L f k K ->
    ∃ c, F c /\ Sub c d k /\ ((∀ t s, (t, s) ∈ L -> c t = k t) /\ ∀ t, (∀ s, (t, s) ∉ L) -> c t = d t)
  | [], d, _, h, _ => ⟨d, h, λ_ _ h => .inr h, (λ_ _ h => by cases h), λ_ _ => rfl⟩
  | (t, s) :: L, d, f, h, H => by
    simp only [mb] at H
    split at H
    · rename_i v p
      have ⟨g, A⟩ := Sh.Mu H
      have ⟨c, r, z, E, m⟩ := xO L _ g (Sh.HI h H) A
      refine ⟨c, r, z.set p, λu q i => ?_, λu i => ?_⟩
      · by_cases B : ∃ S, (u, S) ∈ L
        · grind
        · have C : u = t := by
            grind
          subst C
          rw [m u (λS j => B ⟨S, j⟩), Env.wD, ah rfl, p]
      · rw [m u (λq j => i q (cD _ j)), Env.wD, af]
        intro e; subst e; exact i s dz
    · grind
def mJ{d:y}{c e:Env}{K:X->y}: ∀(L:List (Nat×Sh))(f:rS X L),(∀t s,(t,s)∈L->c t=e t)->mb d L f c K=mb d L f e K
 | [],_,_=>rfl
 |(t,s)::L,f,h=>by simp only[mb];rw[h t s dz];have:(λg=>mb d L g c K)=(λg=>mb d L g e K):=funext λg=>mJ L g (λt s H=>h t s (cD _ H));rw[this]
theorem mA{c : Env}{K : X -> Prop}: ∀(L : List (Nat × Sh))(f : rS X L), mb False L f c K -> ∀ t s, (t, s) ∈ L -> ∃ v, c t = some v
  | [], _, _, _, _, h => by cases h
  | (t, s) :: L, f, h, u, S, d => by
    simp only [mb] at h
    split at h
    · rename_i v i
      rcases bG.1 d with e | e
      · grind
      · have ⟨g, H⟩ := Sh.Mu h
        exact mA L g H u S e
    · grind
structure Rel (n:Nat) (σ:Env) (a:Act):Prop where
 defers:a.defers= []
 size:a.tmps.size=n
 at_: ∀t v,σ t=some v->a.tmps.getD t undef=v
def Rel.fits{d:Env}(h:Rel n d a):Fits d a.eval:=by
 intro e v H;cases e with
 |tmp t=>exact h.at_ t v H
 |const c=>simpa[Env.ev,Act.eval]using H
 |global g=>simpa[Env.ev,Act.eval]using H
 |func f=>simpa[Env.ev,Act.eval]using H
def kV(n:Nat)(c:Env)(D:Option Nat)(v:Value)(K:Env->Prop):Prop:=
 match D with
 |none=>K c
 |some d=>(match Nat.blt d n with|true=>K (c.set d v)|false=>False)
theorem PB{d:Nat}(H:d<x.size):(x.setIfInBounds d v).getD t undef=if t=d then v else x.getD t undef:=by by_cases h:t=d;simp_all;simp[h,Ne.symm h]
theorem xP{g:Env}{K:Env->Prop}(H:Rel n g a)(h:kV n g D v K): ∃i,Rel n i (a.put D v)/\K i:=by
 unfold kV at h;split at h;exact⟨g,H,h⟩;rename_i d;split at h;rename_i c;have c:d<a.tmps.size:=by rw[H.size];exact(Nat.blt_eq▸c)
 refine⟨_,⟨H.defers,by simp[Act.put,H.size],λt u f=> ?_⟩,h⟩;simp only[Act.put];rw[PB c];rw[Env.wD]at f;split;grind;rename_i e;rw[af e]at f;exact H.at_ t u f;grind
def fK(w:List Nat)(a A:Act):Prop:= ∀t,t∉w->A.tmps.getD t undef=a.tmps.getD t undef
def fK.refl(w:List Nat)(a:Act):fK w a a:=λ_ _=>rfl
def fK.trans{c:Act}(h:fK w a b)(d:fK w b c):fK w a c:=λt H=>(d t H).trans (h t H)
def fK.mono{c:List Nat}(h:fK w a b)(e: ∀t,t∈w->t∈c):fK c a b:=λt d=>h t (λH=>d (e t H))
def fK.put(h: ∀d,D=some d->d∈w):fK w a (a.put D v):=by
 intro t c;cases D with
 |none=>rfl
 |some d=>have H:t≠d:=λe=>c (e▸h d rfl);simp[Act.put,Ne.symm H]
def mU(O : Array Oper)(o : Oper)(c : Env)(r skip : Env -> Prop): Prop :=
  match o.guard with
  | none => r c
  | some (j, p) => (match (O[j]?).bind (·.dst) with
    | some g => (match c g with
      | some (.bool b) => if b = true then (match p with | true => r (c.set g (.bool true)) | false => skip (c.set g (.bool true)))
          else (match p with | true => skip (c.set g (.bool false)) | false => r (c.set g (.bool false)))
      | some (.tuple _) => skip c
      | _ => False)
    | none => False)
theorem getD_some(h:x.getD t undef=v)(c:v≠undef):x[t]? =some v:=by
 rw[dN]at h;cases H:x[t]? with
 |none=>grind
 |some u=>grind
theorem vp{f:Env}{r skip:Env->Prop}(c:Rel n f a)(h:mU O o f r skip):
  (Region.wanted o (yielded O a.tmps)=true/\∃i,Rel n i a/\r i)\/(Region.wanted o (yielded O a.tmps)=false/\∃i,Rel n i a/\skip i):=by
 unfold mU at h;split at h;rename_i H;exact .inl ⟨by simp[Region.wanted,H],f,c,h⟩;rename_i j P H;split at h;rename_i g q;split at h;rename_i b z;have k:=c.at_ g _ z;have d:yielded O a.tmps j=some b:=by simp[yielded,q,(getD_some k (by intro e;cases e))]
 have sO:Rel n (f.set g (.B b)) a:=⟨c.defers,c.size,λt u m=>by rw[Env.wD]at m;split at m;grind;exact c.at_ t u m⟩;split at h
 rename_i A;subst A;split at h;exact .inl ⟨by simp[Region.wanted,H,d],_,sO,h⟩;exact .inr ⟨by simp[Region.wanted,H,d],_,sO,h⟩;rename_i p;have p:b=false:=by grind
 subst p;split at h;exact .inr ⟨by simp[Region.wanted,H,d],_,sO,h⟩;exact .inl ⟨by simp[Region.wanted,H,d],_,sO,h⟩;rename_i E B;have k:=c.at_ g _ B;have d:yielded O a.tmps j=none:=by
  simp only[yielded,q,Option.bind_some];rw[dN]at k;cases C:a.tmps[g]? with
  |none=>rfl
  |some u=>grind
 exact .inr ⟨by simp[Region.wanted,H,d],f,c,h⟩;exact h.elim;grind
def AK(P:Program)(o:Oper)(c:Env)(h:Heap)(K:dH):Prop:=
 match zj P o with
 |true=>vk P o c h λv _=>K v h
 |false=>K4 P o c h K
def pk{P:Program}{e:Env}{d:Operand->Value}{K:dH}(c:Fits e d)(H:AK P o e h K):nP P o d h K:=by unfold AK at H;split at H;have⟨v,S,f,g,i⟩:=CT c H;exact Px _ _ _ (i h g) _ f;exact NF c H
def eW(O:Array Oper):List Nat:=O.toList.filterMap (·.dst)
theorem gR{i:Nat}(c:O[i]? =some o): ∀d,o.dst=some d->d∈eW O:=λd H=>by unfold eW;rw[List.mem_filterMap];exact⟨o,by grind,H⟩
def XD(n:Nat)(A:Act)(f:World)(w:List Nat)(K:Env->cM):IZ:=
 λe a c=>e=.normal/\∃d,Rel n d a/\K d c.heap/\eJ f c/\fK w A a
def PC:List (Nat×Sh)->Nat->Option Sh
 | [],_=>none
 |(t,s)::L,d=>(match Nat.beq t d with|true=>some s|false=>PC L d)
def I7(T:List (Nat×Sh))(D:Option Nat)(v:Value)(F:Value->Prop):Prop:=
 match D with
 |none=>F v
 |some d=>(match PC T d with|some s=>s.ex λV=>v=V/\F V|none=>F v)
def sX{T:List (Nat×Sh)}(h:I7 T D v F):F v:=by
 unfold I7 at h;split at h;exact h;split at h
 have⟨V,e,h⟩:=Sh.my h;subst e;exact h;exact h

end
def waits(o:Oper)(i:Nat):Bool:=o.after.toList.any λe=>Region.binds .any e && Nat.beq e.on i
def iU(o:Oper)(G:List (Nat×(cM))):List (Nat×(cM)):=G.filter λg=> !waits o g.1
def mK{o:Oper}{G:List (Nat×(cM))}{g:Nat×(cM)}(h:g∈iU o G):g∈G:=(bW.1 h).1
def kW(P:Program)(O:Array Oper)(Q:IZ):Nat->List (Nat×(cM))->Array Bool->Act->World->Prop
 |0,_,l,a,w=>Region.ready .any O l= []/\Q .normal a w
 |fuel+1,G,l,a,w=>
  (Region.ready .any O l= []->Q .normal a w)/\
  ∀j∈Region.ready .any O l,∀o,O[j]? =some o->wpOp P O Q j (λA b=>(∀g∈iU o G,g.2 b.heap)/\kW P O Q fuel (iU o G) (l.setIfInBounds j true) A b) a w
section
variable {P : Program} {o : Array Oper} {Q : Exit → Act → World → Prop}
def CU: ∀(fuel:Nat)(G:List (Nat×(cM)))(l:Array Bool)(a:Act)(w:World),kW P o Q fuel G l a w->wpAny P .any o Q fuel l a w
 |0,_,_,_,_,h=>h
 |fuel+1,G,l,a,w,h=>⟨h.1,λi H=>by have⟨_,O,c,_⟩:=mem_ready.1 H;exact wpOp_mono (λA d b=>CU fuel _ _ A d b.2) (h.2 i H O c)⟩
def qB: ∀(fuel:Nat)(G b:List (Nat×(cM)))(l:Array Bool)(a:Act)(w:World),(∀g∈b,g∈G)->kW P o Q fuel G l a w->kW P o Q fuel b l a w
 |0,_,_,_,_,_,_,h=>h
 |fuel+1,G,b,l,a,w,j,h=>⟨h.1,λi e O f=>by have d: ∀g∈iU O b,g∈iU O G:=λg H=>bW.2 ⟨j g (mK H),(bW.1 H).2⟩;exact wpOp_mono (λA k c=>⟨λg H=>c.1 g (d g H),qB fuel _ _ _ A k d c.2⟩) (h.2 i e O f)⟩
theorem AL(i:Nat): ∀(fuel:Nat)(G:List (Nat×(cM)))(l:Array Bool)(a:Act)(w:World),kW P o Q fuel G l a w->kW P o Q fuel ((i,λ_=>True)::G) l a w
 |0,_,_,_,_,h=>h
 |fuel+1,G,l,a,w,h=>⟨h.1,λj k O m=>by refine wpOp_mono (λA f d=>⟨λg c=> ?_,?_⟩) (h.2 j k O m);have⟨H,b⟩:=bW.1 c;rcases bG.1 H with e|e;grind;exact d.1 g (bW.2 ⟨e,b⟩);have:=AL i fuel _ _ A f d.2;refine qB fuel _ _ _ A f (λg c=> ?_) this;have⟨H,b⟩:=bW.1 c;rcases bG.1 H with e|e;grind;exact cD _ (bW.2 ⟨e,b⟩)⟩
theorem I8{O:Oper}{i:Nat}(h: ∀e∈O.after,Region.binds .any e=true->e.on≠i):waits O i=false:=by unfold waits;rw[List.any_eq_false];intro e b;simp only[bE,not_and];intro H a;exact h e (by grind) H (ct a)
theorem HK{i:Nat}{m:Oper}{v:Value}{S:cM}(x:o[i]? =some m)(I: ∀(j:Nat) (n:Oper) C b,o[j]? =some n->n.op≠ .select C b)(L: ∀c a w,Q (.panic c) (a.put m.dst v) w->Q (.panic c) a w):
  ∀(F:Nat)(G:List (Nat×(cM)))(l:Array Bool)(a:Act)(w:World),
   (∀j O,o[j]? =some O->j≠i->l.getD j true=false->(∀e∈O.after,Region.binds .any e=true->e.on≠i)->m.apart o O=true)->
   i∈Region.ready .any o l->YieldsIf P o (λw=>S w.heap) m v a->S w.heap->(∀g∈G,g.2 w.heap)->
   kW P o Q F ((i,S)::G) (l.setIfInBounds i true) (a.put m.dst v) w->kW P o Q (F+1) G l a w:=by
 intro F;induction F with
 |zero=>intro G l a w _ z r t s H;refine⟨λh=>(by grind),λj q n E=> ?_⟩;by_cases f:j=i;subst f;exact r.wpOp x t ⟨λg d=>s g (mK d),H⟩;have:=ready_mono q f;rw[H.1]at this;cases this
 |succ F ih=>
  intro G l a w B z r t s H;refine⟨λh=>(by grind),λj q n E=> ?_⟩;by_cases f:j=i;subst f;refine r.wpOp x t ⟨λg d=>s g (mK d),qB _ _ _ _ _ _ (λg d=>cD _ (mK d)) H⟩;have A:=H.2 j (ready_mono q f) n E;have⟨R,O,y,b'⟩:=mem_ready.1 q;obtain rfl:O=n:=by grind
  have D: ∀e∈O.after,Region.binds .any e=true->e.on≠i:=λe he hb c'=>by have h0:=(mem_ready.1 z).1;rcases Nat.lt_or_ge i l.size with h'|h';grind;grind
  have U:iU O ((i,S)::G)=(i,S)::iU O G:=by unfold iU;simp[I8 D]
  rw[U]at A;have M: ∀k p,o[k]? =some p->k≠i->(l.setIfInBounds j true).getD k true=false->
    (∀e∈p.after,Region.binds .any e=true->e.on≠i)->m.apart o p=true:=λk p T V e' X=>by
   refine B k p T V ?_ X;by_cases d':j=k;grind;simp_all
  refine wpOp_mono (λJ w' K=> ?_) (wpOp_putIf y (B j O y f R D) (λC b=>I i m C b x) (λC b=>I j O C b y) L r A);have⟨a',u,Z⟩:=K;refine⟨λg d=>u g (cD _ d),(ih (iU O G) (l.setIfInBounds j true) J w' M (ready_mono z (Ne.symm f)) a' (u _ dz) (λg d=>u g (cD _ d)) ?_)⟩;rw[Array.setIfInBounds_comm _ _ f];exact Z
end
inductive xQ where
 |done
 |op (i:Nat) (p:xQ)
 |alts (q:xQ)
 |fork (i:Nat) (p q:xQ)
 |iH
def CW:xQ->Nat->Bool
 | .done,n=>Nat.beq n 0
 | .op _ p,n+1=>CW p n
 | .alts q,n+1=>CW q (n+1)
 | .fork _ p q,n+1=>CW p n && CW q (n+1)
 | .iH,_=>true
 |_,_=>false
def je(P:Program)(O:Array Oper):xQ->Option (List Nat)->Array Bool->Bool
 | .done,none,l=>(Region.ready .any O l).isEmpty
 | .op i r,none,l=>
  (match O[i]? with
   |some o=>(match zj P o with
    |true=>(Region.ready .any O l).contains i && Region.free .any O l i
    |false=>(match Region.ready .any O l with| [j]=>Nat.beq i j|_=>false))
   |none=>false) && je P O r none (l.setIfInBounds i true)
 | .alts q,none,l=>(match Region.ready .any O l with| []=>false|j::J=>je P O q (some (j::J)) l)
 | .fork i p q,some R,l=>(match O[i]? with
   |some o=> !zj P o
   |none=>false) && je P O p none (l.setIfInBounds i true) && je P O q (some (R.filter λj=> !Nat.beq i j)) l
 | .iH,some R,_=>R.isEmpty
 |_,_,_=>false
def I9(h:Heap)(K:Prop):List (Nat×(cM))->Prop
 | []=>K
 |g::G=>g.2 h/\I9 h K G
theorem Ja{h:Heap}{K:Prop}: ∀{G:List (Nat×(cM))},I9 h K G->(∀g∈G,g.2 h)/\K
 | [],H=>⟨(λ_ a=>by cases a),H⟩
 |_::_,H=>by have⟨d,b⟩:=Ja H.2;refine⟨λc a=> ?_,b⟩;rcases bG.1 a with e|e;rw[e];exact H.1;grind
def PD(i:Nat)(S:Option (cM))(G:List (Nat×(cM))):List (Nat×(cM)):=
 match S with
 |some S=>(i,S)::G
 |none=>G
abbrev ring(v:Value):List PanicEntry:= [{ v,recovered:=false }]
def iX(P:Program)(f:FuncId)(args:Array Value)(h:Heap)(R E:dH):Prop:=
 ∀w:World,w.heap=h->Calls P f args w λe a=>eJ w a/\((∃v,e=.returned v/\R v a.heap)\/∃v,e=.panicked (ring v)/\E v a.heap)
section
variable {P : Program} {f : FuncId} {args : Array Value} {h : Heap} {R r E e : Value → Heap → Prop}
end
def iX.Y2{P:Program}{f:FuncId}{args:Array Value}{h:Heap}{R:dH}(H:iX P f args h R (λ_ _=>False)):jS P f args h R:=
 λw c=>(H w c).mono λ_ _ ⟨b,a⟩=>a.elim (λ⟨v,e,h⟩=>⟨v,e,h,b⟩) (λ⟨_,_,h⟩=>h.elim)
def zq(P:Program)(p:List Nat)(o:Oper)(a:Env)(h:Heap)(K E:dH):Prop:=
 match o.op with
 | .panic x=>(match a.ev x with
  |some (.iface t v)=>E (.iface t v) h
  |_=>False)
 | .call { callee:=.value f,args:=args,argTypes:=_ } =>(match a.ev f,Py a args.toList with
  |some (.func (.func g) first c),some b=>(match p.any (Nat.beq g)with
   |true=>(match lC P g with
    |true=>iX P g (first.toList++b++c.toList).toArray h (λv H=>mR P o.type λV=>v=V/\K V H) E
    |false=>False)
   |false=>AK P o a h K)
  |_,_=>AK P o a h K)
 |_=>AK P o a h K
theorem PE{P:Program}{o:Oper}{a:Env}{d:Operand->Value}{h:Heap}{f:Operand}{args:Array Operand}{t:Array TypeId}{g:FuncId}{first c:Array Value}{v:List Value}(b:Fits a d)(m:o.op=.call { callee:=.value f,args:=args,argTypes:=t })(k:a.ev f=some (.func (.func g) first c))(n:Py a args.toList=some v)(H:lC P g=true):
  bu P (execOp d o) h λx i=>x=.enter g (first.toList++v++c.toList).toArray/\i=h:=by
 unfold execOp;rw[m];simp only[resolve,pj b n,b _ _ k,Deferred.ofValue];unfold lC at H;split at H
 .rename_i F j;simp only[bE,Bool.not_eq_true']at H;show bu P (match P.funcs[g]? with|none=>_|some F=>_) h _;rw[j];have l:F.body.isNone=false:=by simp_all
  simp only[H.2,l,aV,bQ];have e:(first++v.toArray++c)=(first.toList++v++c.toList).toArray:=bO
  rw[e];exact⟨rfl,rfl⟩
 cases H
theorem Gs{P:Program}{y:List Nat}{o:Oper}{l:Env}{a:Act}{w:World}{K E:dH}{next:Act->World->Prop}{Q:IZ}(H:Fits l a.eval)(h:zq P y o l w.heap K E)(c: ∀v b,K v b.heap->eJ w b->next (a.put o.dst v) b)(i: ∀v b,E v b.heap->eJ w b->Q (.panic (ring v)) a b):o.wp P a w next Q:=by
 unfold zq at h;split at h;rename_i x d;split at h;rename_i t v u;unfold Oper.wp execOp;rw[d];simp only[H _ _ u];exact i _ _ h (eJ.refl w);grind
 .rename_i f args T d;split at h
  .rename_i g first C V q r;split at h
   split at h
   rename_i p;obtain⟨x,b,R,⟨rfl,s⟩,j⟩:=mw _ _ _ (PE H d q r p) w rfl;unfold Oper.wp;rw[R];refine(h b s).mono ?_;rintro e z ⟨k,⟨v,rfl,n⟩|⟨v,rfl,m⟩⟩;exact c _ _ (xJ n) (j.trans k);exact i _ _ m (j.trans k);grind;exact(pk H h).wp c
  exact(pk H h).wp c
 exact(pk H h).wp c
structure jq (n:Nat) (D:List Deferred) (σ:Env) (a:Act):Prop where
 size:a.tmps.size=n
 at_: ∀t v,σ t=some v->a.tmps.getD t undef=v
 defs:a.defers=D
def jq.fits{n:Nat}{D:List Deferred}{b:Env}{a:Act}(h:jq n D b a):Fits b a.eval:=by
 intro x v H;cases x with
 |tmp t=>exact h.at_ t v H
 |_=>simpa[Env.ev,Act.eval]using H
def jq.bare{n:Nat}{D:List Deferred}{b:Env}{a:Act}(h:jq n D b a):Rel n b { a with defers:= [] } :=⟨rfl,h.size,h.at_⟩
def jq.of{n:Nat}{D:List Deferred}{b:Env}{a:Act}(h:Rel n b { a with defers:= [] })(H:a.defers=D):jq n D b a:=⟨h.size,h.at_,H⟩
def Jb(a:Act)(d:Option Nat)(v:Value):(a.put d v).defers=a.defers:=by cases d<;>rfl
def oq{n:Nat}{D:List Deferred}{c:Env}{a:Act}{d:Option Nat}{v:Value}{K:Env->Prop}(H:jq n D c a)(h:kV n c d v K): ∃b,jq n D b (a.put d v)/\K b:=by
 have⟨b,f,g⟩:=xP H.bare h;refine⟨b,.of ?_ ((Jb _ _ _).trans H.defs),g⟩;have e:({ a with defers:= [] }).put d v= { (a.put d v)with defers:= [] } :=by cases d<;>rfl
 rw[<-e];exact f
def qC{n:Nat}{D:List Deferred}{O:Array Oper}{o:Oper}{f:Env}{a:Act}{r skip:Env->Prop}(e:jq n D f a)(h:mU O o f r skip):
  (Region.wanted o (yielded O a.tmps)=true/\∃b,jq n D b a/\r b)\/(Region.wanted o (yielded O a.tmps)=false/\∃b,jq n D b a/\skip b):=by
 rcases vp e.bare h with⟨H,b,c,d⟩|⟨H,b,c,d⟩;exact .inl ⟨H,b,.of c e.defs,d⟩;exact .inr ⟨H,b,.of c e.defs,d⟩
def Ug(n:Nat)(D:List Deferred)(A:Act)(c:World)(b:List Nat)(K:List Deferred->Env->cM)(E:dH):IZ:=
 λe a w=>(e=.normal/\∃d f,jq n d f a/\K d f w.heap/\eJ c w/\fK b A a)\/(a.defers=D/\a.tmps.size=n/\fK b A a/\eJ c w/\∃v,e=.panic (ring v)/\E v w.heap)
def CX(o:Oper)(D:List Deferred)(a:Env):Option (List Deferred):=
 match o.op with
 | .defer { callee:=.value f,args:=args,argTypes:=_ } =>(match a.ev f,Py a args.toList with
  |some (.func g first c),some v=>some ({ target:=.fn g c,args:=(first.toList++v).toArray } ::D)
  |_,_=>none)
 |_=>none
def Jc{P:Program}{o:Oper}{b:Env}{a:Act}{w:World}{D d:List Deferred}{next:Act->World->Prop}{Q:IZ}(H:Fits b a.eval)(c:a.defers=D)(h:CX o D b=some d)(j:next ({ a with defers:=d }.put o.dst undef) w):o.wp P a w next Q:=by
 unfold CX at h;split at h
 .rename_i f args t k;split at h
  .rename_i g first C v i l;cases h;subst c;unfold Oper.wp execOp;rw[k];simp only[resolve,pj H l,H _ _ i,Deferred.ofValue];have e:first++v.toArray=(first.toList++v).toArray:=bO
   rw[e];exact j
  cases h
 cases h
def lD(P:Program)(p:List Nat)(n:Nat)(O:Array Oper)(t:List (Nat×Sh))(E:dH):List Oper->List Deferred->Env->Heap->(List Deferred->Env->cM)->Prop
 | [],D,a,h,K=>K D a h
 |o::r,D,a,h,K=>(match o.op with
  | .defer _=>mU O o a
   (λa=>(match CX o D a with
    |some d=>(match r with| []=>kV n a o.dst undef λb=>K d b h|_=>False)
    |none=>False))
   (λa=>kV n a o.dst undef λb=>lD P p n O t E r D b h K)
  |_=>mU O o a
   (λa=>zq P p o a h (λv H=>I7 t o.dst v λv=>kV n a o.dst v λb=>lD P p n O t E r D b H K) E)
   (λa=>kV n a o.dst undef λb=>lD P p n O t E r D b h K))
theorem qD{P:Program}{y:List Nat}{n:Nat}{O:Array Oper}{T:List (Nat×Sh)}{E:dH}{D:List Deferred}{K:List Deferred->Env->cM}{a0:Act}{w0:World}: ∀(r:List Oper)(k:Nat)(l:Env)(a:Act)(w:World),
  (∀j,r[j]? =O[k+j]?)->jq n D l a->eJ w0 w->fK (eW O) a0 a->lD P y n O T E r D l w.heap K->wpOps P O (Ug n D a0 w0 (eW O) K E) (List.range' k r.length) a w
 | [],k,l,a,w,_,q,d,e,h=> .inl ⟨rfl,D,l,q,h,d,e⟩
 |o::r,k,l,a,w,u,q,d,e,h=>by
  have p:=by have:=u 0;simpa using this.symm
  have x: ∀j,r[j]? =O[k+1+j]? :=λj=>by have:=u (j+1);simpa[Nat.add_assoc,Nat.add_comm 1 j]using this
  simp only[bw,List.range'_succ,wpOps,p];have skip: ∀{b:Env},Region.wanted o (yielded O a.tmps)=false->jq n D b a->(kV n b o.dst undef λb=>lD P y n O T E r D b w.heap K)->
    (if Region.wanted o (yielded O a.tmps)=true then o.wp P a w (wpOps P O (Ug n D a0 w0 (eW O) K E) (List.range' (k+1) r.length)) (Ug n D a0 w0 (eW O) K E)\/(o.asks P a w/\LetsOut (Ug n D a0 w0 (eW O) K E))else wpOps P O (Ug n D a0 w0 (eW O) K E) (List.range' (k+1) r.length) (a.put o.dst undef) w):=by
   intro b f H h;rw[af (by grind)];have⟨m,i,g⟩:=oq H h;exact qD r (k+1) m _ w x i d (e.trans (fK.put (gR p))) g
  unfold lD at h;split at h;rename_i c F;rcases qC q h with⟨f,b,H,h⟩|⟨f,b,H,h⟩;rw[ah f];split at h;rename_i t A;split at h;have⟨m,i,g⟩:=oq (a:= { a with defers:=t }) ⟨H.size,H.at_,rfl⟩ h;exact .inl (Jc H.fits H.defs A (.inl ⟨rfl,t,m,i,g,d,e.trans (fK.put (gR p))⟩));grind;grind;grind;rcases qC q h with⟨f,b,H,h⟩|⟨f,b,H,h⟩;rw[ah f];refine .inl (Gs H.fits h (λv z C s=> ?_) (λv z B s=> .inr ⟨H.defs,H.size,e,d.trans s,v,rfl,B⟩));have⟨m,i,g⟩:=oq H (sX C);exact qD r (k+1) m _ z x i (d.trans s) (e.trans (fK.put (gR p))) g;grind
def fE:Nat->Nat->xQ->xQ
 |0,_,p=>p
 |k+1,i,p=> .op i (fE k (i+1) p)
def wi(o:Oper)(B:List (Nat×bH)):List (Nat×bH):=B.filter λg=> !waits o g.1
def Xs(h H:Heap)(K:Prop):List (Nat×bH)->Prop
 | []=>K
 |B=>Kp h H (B.map (·.2))/\K
def UR{h a:Heap}{K:Prop}{B:List (Nat×bH)}(H:Xs h a K B):(∀g∈B,lL g.2 h a)/\K:=by
 cases B with
 |nil=>exact⟨(λ_ d=>by cases d),H⟩
 |cons b B=>exact⟨λg c=>H.1 g.2 (bR.2 ⟨g,c,rfl⟩),H.2⟩
def Wi(k:Bool)(a:Env)(o:Oper):Option (bH):=match k with|true=>HG a o|false=>none
def gk(P:Program)(b:List Nat)(n:Nat)(O:Array Oper)(E:dH)(k:Bool):xQ->List (Nat×(cM))->List (Nat×bH)->Env->Heap->(Env->cM)->Prop
 | .done,_,_,a,h,K=>K a h
 | .op i r,G,B,a,h,K=>(match O[i]? with
  |some o=>mU O o a
    (λa=>(match zj P o with
     |true=>vk P o a h λv S=>kV n a o.dst v λc=>(match Wi k a o with
      |some p=>gk P b n O E k r G ((i,p)::B) c h K
      |none=>gk P b n O E k r (PD i S G) B c h K)
     |false=>zq P b o a h (λv H=>I9 H (Xs h H (kV n a o.dst v λc=>gk P b n O E k r (iU o G) (wi o B) c H K) (wi o B)) (iU o G)) E))
    (λa=>kV n a o.dst undef λc=>gk P b n O E k r G B c h K)
  |none=>False)
 | .alts q,G,B,a,h,K=>gk P b n O E k q G B a h K
 | .fork i r q,G,B,a,h,K=>(match O[i]? with
  |some o=>mU O o a
    (λa=>zq P b o a h (λv H=>I9 H (Xs h H (kV n a o.dst v λc=>gk P b n O E k r (iU o G) (wi o B) c H K) (wi o B)) (iU o G)) E)
    (λa=>kV n a o.dst undef λc=>gk P b n O E k r G B c h K)
  |none=>False)/\gk P b n O E k q G B a h K
 | .iH,_,_,_,_,_=>True
def GB(F G:List (Nat×(cM)))(B:List (Nat×bH))(h:Heap):Prop:= ∀f∈F,f∈G\/∃p,(f.1,p)∈B/\∀H,lL p h H->f.2 H
def GB.step{F G:List (Nat×(cM))}{B:List (Nat×bH)}{h b:Heap}{o:Oper}(H:GB F G B h)(l: ∀g∈iU o G,g.2 b)(m: ∀g∈wi o B,lL g.2 h b):(∀f∈iU o F,f.2 b)/\GB (iU o F) (iU o G) (wi o B) b:=by
 have K: ∀f∈iU o F,f.2 b/\(f∈iU o G\/∃p,(f.1,p)∈wi o B/\∀d,lL p b d->f.2 d):=λf c=>by have⟨n,e⟩:=bW.1 c;rcases H f n with a|⟨p,r,i⟩;have:f∈iU o G:=bW.2 ⟨a,e⟩;exact⟨l f this,.inl this⟩;have j:(f.1,p)∈wi o B:=bW.2 ⟨r,e⟩;have k:=m _ j;exact⟨i _ k,.inr ⟨p,j,λd q=>i _ (lL.trans k q)⟩⟩
 exact⟨λf c=>(K f c).1,λf c=>(K f c).2⟩
def fK.Wj{w:List Nat}{a b:Act}{D:Option Nat}{v:Value}(h: ∀d,D=some d->d∈w)(f:fK w a (b.put D v)):fK w a b:=λt H=>by
 rw[<-f t H];cases D with
 |none=>rfl
 |some d=>have c:t≠d:=λe=>H (e▸h d rfl);simp[Act.put,Ne.symm c]
section
variable {P : Program} {p : List Nat} {n : Nat} {o : Array Oper} {E : Value → Heap → Prop} {k : Bool} {D : List Deferred} {K : Env → Heap → Prop} {a0 : Act} {w0 : World}
abbrev PF(n:Nat)(D:List Deferred)(a0:Act)(w0:World)(o:Array Oper)(K:Env->cM)(E:dH):=Ug n D a0 w0 (eW o) (λd a h=>d=D/\K a h) E
def AM{R:xQ}{i m:Nat}{O:Oper}{L:Array Bool}{F G:List (Nat×(cM))}{B:List (Nat×bH)}{b:Env}{a:Act}{w:World}(I: ∀F G B b a w,jq n D b a->eJ w0 w->fK (eW o) a0 a->(∀g∈F,g.2 w.heap)->GB F G B w.heap->gk P p n o E k R G B b w.heap K->kW P o (PF n D a0 w0 o K E) m F (L.setIfInBounds i true) a w)(f:o[i]? =some O)(T:jq n D b a)(s:eJ w0 w)(u:fK (eW o) a0 a)(z: ∀g∈F,g.2 w.heap)(A:GB F G B w.heap)
  (h:mU o O b (λb=>zq P p O b w.heap (λv j=>I9 j (Xs w.heap j (kV n b O.dst v λe=>gk P p n o E k R (iU O G) (wi O B) e j K) (wi O B)) (iU O G)) E) (λb=>kV n b O.dst undef λe=>gk P p n o E k R G B e w.heap K)):
  wpOp P o (PF n D a0 w0 o K E) i (λC d=>(∀g∈iU O F,g.2 d.heap)/\kW P o (PF n D a0 w0 o K E) m (iU O F) (L.setIfInBounds i true) C d) a w:=by
 rcases qC T h with⟨x,e,H,h⟩|⟨x,e,H,U⟩;unfold wpOp;simp only[f,x,cI];refine .inl (Gs H.fits h (λv d S t=> ?_) (λv d M t=> .inr ⟨H.defs,H.size,u,s.trans t,v,rfl,M⟩));have⟨J,l⟩:=Ja S;have⟨l,c⟩:=UR l;have⟨y,r,c⟩:=oq H c;have⟨Q,V⟩:=A.step J l;exact⟨Q,I _ _ _ y _ d r (s.trans t) (u.trans (fK.put (gR f))) Q V c⟩;unfold wpOp;simp only[f,x,aV,bQ];have⟨y,r,c⟩:=oq H U;exact⟨λg q=>z g (mK q),qB _ _ _ _ _ _ (λg q=>mK q) (I F G B y _ w r s (u.trans (fK.put (gR f))) z A c)⟩
theorem Fz(s':Region.noSelect o=true)(C:xQ):
  (∀(m:Nat)(l:Array Bool)(F G:List (Nat×(cM)))(B:List (Nat×bH))(b:Env)(a:Act)(w:World),CW C m=true->
   je P o C none l=true->jq n D b a->eJ w0 w->fK (eW o) a0 a->(∀g∈F,g.2 w.heap)->GB F G B w.heap->gk P p n o E k C G B b w.heap K->
   kW P o (PF n D a0 w0 o K E) m F l a w)/\
  (∀(m:Nat)(R:List Nat)(l:Array Bool)(F G:List (Nat×(cM)))(B:List (Nat×bH))(b:Env)(a:Act)(w:World),CW C (m+1)=true->
   je P o C (some R) l=true->jq n D b a->eJ w0 w->fK (eW o) a0 a->(∀g∈F,g.2 w.heap)->GB F G B w.heap->gk P p n o E k C G B b w.heap K->
   ∀j∈R,∀O,o[j]? =some O->wpOp P o (PF n D a0 w0 o K E) j (λa' w'=>(∀g∈iU O F,g.2 w'.heap)/\kW P o (PF n D a0 w0 o K E) m (iU O F) (l.setIfInBounds j true) a' w') a w):=by
 induction C with
 |done=>refine⟨λm l F G B b a w c H q r s f d h=> ?_,λm R l F G B b a w c H=>by cases H⟩;obtain rfl:m=0:=ct c;simp only[je,List.isEmpty_iff]at H;exact⟨H,.inl ⟨rfl,D,b,q,⟨rfl,h⟩,r,s⟩⟩
 |iH=>refine⟨λm l F G B b a w c H=>(by cases H),λm R l F G B b a w c H q r s f d h j x=> ?_⟩;simp only[je,List.isEmpty_iff]at H;subst H;cases x
 |alts f' I=>
  refine⟨λm l F G B b a w c H q r s f d h=> ?_,λm R l F G B b a w c H=>by cases H⟩;cases m with
  |zero=>cases c
  |succ m=>simp only[je]at H;split at H;cases H;rename_i j js V;refine⟨(λe=>by rw[V]at e;cases e),λj' g' O t=> ?_⟩;rw[V]at g';exact I.2 m _ l F G B b a w c H q r s f d h j' g' O t
 |fork i l' f' u' v'=>
  refine⟨λm l F G B b a w c H=>(by cases H),λm R l F G B b a w c H q r s f d h j x O t=> ?_⟩;simp only[je,bE]at H;obtain⟨⟨u,d'⟩,r'⟩:=H;simp only[CW,bE]at c;simp only[gk]at h;by_cases h':i=j;subst h';have h:=h.1;rw[t]at h;exact AM (λF G B b a w q r s f d h=>u'.1 m _ F G B b a w c.1 d' q r s f d h) t q r s f d h;refine v'.2 m _ l F G B b a w c.2 r' q r s f d h.2 j (bW.2 ⟨x,?_⟩) O t;have:Nat.beq i j=false:=by cases hb:Nat.beq i j;rfl;exact absurd (ct hb) h'
  simp[this]
 |op i l' I=>
  refine⟨λm l F G B b a w c H q r s f d h=> ?_,λm R l F G B b a w c H=>by cases H⟩;cases m with
  |zero=>cases c
  |succ m=>
   simp only[je,bE]at H;obtain⟨u,d'⟩:=H;simp only[gk]at h;split at h;rename_i O t;simp only[t]at u;have hQ: ∀v,∀e' a w,PF n D a0 w0 o K E (.panic e') (a.put O.dst v) w->PF n D a0 w0 o K E (.panic e') a w:=λv e' a w hq=>by rcases hq with⟨e,_⟩|⟨M,Q,T,J⟩;cases e;refine .inr ⟨(Jb _ _ _).symm.trans M,?_,T.Wj (gR t),J⟩;rw[<-Q];cases O.dst<;>simp[Act.put]
   have take: ∀(v:Value)(S:Option (cM))(z:Env)(G':List (Nat×(cM)))(Z:List (Nat×bH)),zj P O=true->jq n D z (a.put O.dst v)->YieldsIf P o (λw=>Cy S w.heap) O v a->Cy S w.heap->GB (PD i S F) G' Z w.heap->
     gk P p n o E k l' G' Z z w.heap K->kW P o (PF n D a0 w0 o K E) (m+1) F l a w:=λv S z G' Z A y hy L p' hd=>by
    rw[A]at u;simp only[bE]at u;have n': ∀g∈PD i S F,g.2 w.heap:=by
     intro g hg;cases S with
     |none=>exact f g hg
     |some S=>rcases bG.1 hg with e|e;rw[e];exact L;exact f g e
    have I:=I.1 m _ (PD i S F) G' Z z (a.put O.dst v) w c d' y r (s.trans (fK.put (gR t))) n' p' hd;refine HK (S:=Cy S) t (Region.noSelect_spec s') (hQ v) m F l a w (Region.free_spec t u.2) (by simpa using u.1) hy L f ?_;cases S with
    |none=>exact AL i _ _ _ _ _ I
    |some S=>exact I
   cases A:zj P O with
   |true=>
    rcases qC q h with⟨hw,z,y,h⟩|⟨hw,z,y,t'⟩;rw[A]at h;dsimp only at h;cases c':Wi k z O with
    |some k'=>
     have q':HG z O=some k':=by cases k with|true=>exact c'|false=>cases c'
     rw[c']at h;obtain⟨v,S,M,Q,J,T⟩:=HH y.fits q' h;obtain⟨X,U,m'⟩:=oq y M;refine take v (some S) X G ((i,k')::B) A U (.inl ⟨hw,λw' L=>wE _ _ _ (T _ L)⟩) Q (λb' hf=> ?_) m';rcases bG.1 hf with e|e;simp_all;exact(d b' e).imp id λ⟨f',hq,hk⟩=>⟨f',cD _ hq,hk⟩
    |none=>
     rw[c']at h;obtain⟨v,S,M,Q,T⟩:=CT y.fits h;obtain⟨X,U,J⟩:=oq y M;refine take v S X (PD i S G) B A U (.inl ⟨hw,λw' L=>wE _ _ _ (T _ L)⟩) Q (λb' hf=> ?_) J;cases S with
     |none=>exact d b' hf
     |some S=>rcases bG.1 hf with e|e;exact .inl (e▸dz);exact(d b' e).imp (cD _) id
    obtain⟨X,U,J⟩:=oq y t';exact take undef none X G B A U (.inr ⟨hw,rfl⟩) trivial d J
   |false=>
    rw[A]at u h;simp only at u h;have V:Region.ready .any o l= [i]:=by
     split at u
     rename_i j x;rw[x,ct u];cases u
    refine⟨(λe=>by rw[V]at e;cases e),λj x o' i'=> ?_⟩;rw[V]at x;obtain rfl:j=i:=by simpa using x
    obtain rfl:o'=O:=by rw[t]at i';exact(bL i').symm
    exact AM (λF G B b a w q r s f d h=>I.1 m _ F G B b a w c d' q r s f d h) t q r s f d h
   exact h.elim
def sY{b:xQ}{c:Env}{a:Act}{w:World}(d:(P.follows .mixedOrders && Region.noSelect o && CW b o.size && je P o b none (Array.replicate o.size false))=true)(j:jq n D c a)(h:gk P p n o E k b [] [] c w.heap K):P.follows .mixedOrders=true/\wpAny P .any o (PF n D a w o K E) o.size (Array.replicate o.size false) a { w with drawn:=w.drawn+1 } :=by
 simp only[bE]at d;obtain⟨⟨⟨e,f⟩,g⟩,i⟩:=d;exact⟨e,CU _ _ _ _ _ ((Fz (a0:=a) (w0:=w) f b).1 o.size (Array.replicate o.size false) [] [] [] c a { w with drawn:=w.drawn+1 } g i j ⟨rfl,rfl,rfl⟩ (fK.refl _ _) (λ_ H=>by cases H) (λ_ H=>by cases H) h)⟩
end
def US:dH:=λ_ _=>False
def Mv(K:Env->cM):List Deferred->Env->cM
 | []=>K
 |_=>λ_ _=>False
def Rel.D{n:Nat}{b:Env}{a:Act}(h:Rel n b a):jq n [] b a:=⟨h.size,h.at_,h.defers⟩
def jq.R{n:Nat}{b:Env}{a:Act}(h:jq n [] b a):Rel n b a:=⟨h.defs,h.size,h.at_⟩
def CY{n:Nat}{o:Array Oper}{K:Env->cM}{A a:Act}{b w:World}{e:Exit}(h:PF n [] A b o K US e a w):XD n A b (eW o) K e a w:=by rcases h with⟨d,D,j,H,⟨rfl,f⟩,g,i⟩|⟨_,_,_,_,_,_,c⟩;exact⟨d,j,H.R,f,g,i⟩;exact c.elim
def K5{n:Nat}{b:List Nat}{K:Env->cM}{A a:Act}{c w:World}{e:Exit}(h:Ug n [] A c b (Mv K) US e a w):XD n A c b K e a w:=by
 rcases h with⟨g,D,k,d,H,i,j⟩|⟨_,_,_,_,_,_,f⟩;cases D with
 |nil=>exact⟨g,k,d.R,H,i,j⟩
 |cons=>exact H.elim
 exact f.elim
section
variable {P:Program} {a i A:Act} {w g:World} {n:Nat} {j:List Nat} {Q:Exit->Act->World->Prop} {e:Exit} {c:Code} {O:Array Oper} {t:List (Nat×Sh)} {h:Heap} {d:Func} {F:Value->Prop} {f:FuncId} {args:List Value} {R:dH} {D:List Deferred} {r:Option Value} {o:Oper} {c0:Frame} {cs0:List Frame}
inductive nQ where
 |leaf
 |seq (a b:nQ)
 |cond (a b:nQ)
 |block (a:nQ)
 |loop (L:List (Nat×Sh)) (a:nQ)
 |join (L:List (Nat×Sh)) (a:nQ)
 |je (kb:Bool) (p:xQ)
 |scope (l:Nat) (L:List (Nat×Sh)) (a b:nQ)
 |typed (t:List (Nat×Sh))
abbrev nQ.pn:=je false
abbrev nQ.ju:=je true
def writes:Code->List Nat
 | .region _ O _=>eW O
 | .seq a b=>writes a++writes b
 | .cond _ a b=>writes a++writes b
 | .block _ a=>writes a
 | .loop a=>writes a
 | .scope a=>writes a
 |_=> []
def Env.forget(k:Env)(b:List Nat):Env:=λT=>bif b.any (Nat.beq T)then none else k T
theorem Env.AN{k:Env}{b:List Nat}{T:Nat}{v:Value}(h:k.forget b T=some v):T∉b/\k T=some v:=by
 unfold Env.forget at h;cases H:b.any (Nat.beq T)with
 |true=>grind
 |false=>rw[H]at h;refine⟨λl=> ?_,h⟩;have:=List.any_eq_false.1 H T l;simp at this
variable {E:List Deferred->Env->dH}
def Mw(K:Env->cM)(Q:Exit->Env->cM):Exit->Env->cM
 | .normal=>K
 |e=>Q e
def PG(id:Nat)(Q:Exit->Env->cM):Exit->Env->cM
 | .exit I=>(match Nat.beq I id with|true=>Q .normal|false=>Q (.exit I))
 |e=>Q e
def ay{α:Type}(F:α)(B:α->Prop):Prop:=B F
def AO(l:Nat)(K:Env->cM)(Q:Exit->Env->cM):Exit->Env->cM
 | .goto L=>(match Nat.beq L l with|true=>K|false=>λ_ _=>False)
 |e=>Q e
def pq:Code->Nat->Bool
 | .seq a b,l=>pq a l||pq b l
 | .label L,l=>Nat.beq L l
 |_,_=>false
def den(P:Program)(n:Nat):nQ->Option Nat->Code->(Exit->Env->cM)->Env->cM
 | .leaf,none,c,Q,k,h=>(match c with
  | .skip=>Q .normal k h
  | .label _=>Q .normal k h
  | .exit id=>Q (.exit id) k h
  | .goto l=>Q (.goto l) k h
  | .ret=>Q .ret k h
  | .region _ O false=>lD P [] n O [] US O.toList [] k h (Mv (Q .normal))
  |_=>False)
 | .leaf,some l,c,Q,k,h=>(match c with
  | .label z=>(match Nat.beq z l with|true=>Q (.goto l) k h|false=>False)
  |_=>False)
 | .je K p,none,c,Q,k,h=>(match c with
  | .region _ O true=>(match (P.follows .mixedOrders && Region.noSelect O && CW p O.size && je P O p none (Array.replicate O.size false))with
   |true=>gk P [] n O US K p [] [] k h (Q .normal)
   |false=>False)
  |_=>False)
 | .seq a b,none,c,Q,k,h=>(match c with
  | .seq c s=>den P n a none c (Mw (λm H=>den P n b none s Q m H) Q) k h
  |_=>False)
 | .seq a b,some l,c,Q,k,h=>(match c with
  | .seq c s=>(match pq c l with
   |true=>den P n a (some l) c Q k h
   |false=>den P n a none c (Mw (λm H=>den P n b (some l) s Q m H) Q) k h)
  |_=>False)
 | .cond a b,none,c,Q,k,h=>(match c with
  | .cond x c s=>(match k.ev x with
   |some (.bool q)=>if q=true then den P n a none c Q k h else den P n b none s Q k h
   |_=>False)
  |_=>False)
 | .block a,none,c,Q,k,h=>(match c with
  | .block id c=>den P n a none c (PG id Q) k h
  |_=>False)
 | .loop L a,none,c,Q,k,h=>(match c with
  | .loop c=> ∃(I:rS (cM) L)(v:rS (Heap->Nat) L),mb False L I k (λf=>f h)/\
    NG L (λm=> ∀H,mb False L I m (λf=>f H)->
     den P n a none c (Mw (λy u=>mb False L I y (λf=>f u)/\mb 0 L v y (λf=>f u)<mb 0 L v m (λf=>f H)) Q) m H) (k.forget (writes c))
  |_=>False)
 | .join L a,none,c,Q,k,h=>ay (α:=rS (cM) L) (Pz L (λm H=>Q .normal m H) (k.forget (writes c)))
   (λJ=>den P n a none c (Mw (λm H=>mb False L J m (λf=>f H)) Q) k h)
 | .typed t,none,c,Q,k,h=>(match c with
  | .region _ O false=>lD P [] n O t US O.toList [] k h (Mv (Q .normal))
  |_=>False)
 | .scope l L a b,none,c,Q,k,h=>(match c with
  | .scope c=>(match findLabel c l with
   |some B=> ∃(I:rS (cM) L)(v:rS (Heap->Nat) L),
     den P n a (some l) c (AO l (λm H=>mb False L I m (λf=>f H)) Q) k h/\
     NG L (λm=> ∀H,mb False L I m (λf=>f H)->
      den P n b none B (AO l (λy u=>mb False L I y (λf=>f u)/\mb 0 L v y (λf=>f u)<mb 0 L v m (λf=>f H)) Q) m H) (k.forget (writes c))
   |none=>False)
  |_=>False)
 |_,_,_,_,_,_=>False
def opened:Code->List Code
 | .skip=> []
 | .seq a b=>opened a++ [b]
 |c=> [c]
def mB{b:Frame}{C:List Frame}(c:Code): ∀(k:List Item),Steps P (lone (b.at a (.code c::k)) C w) (lone (b.at a ((opened c).map Item.code++k)) C w):=by
 induction c with
 |skip=>exact λk=> .one step_skip
 |seq x y H l=>intro k;simp only[opened,bB,cp,List.map_nil,cP,eH,dJ];exact .head step_seq (H (.code y::k))
 |_=>exact λk=> .refl _ _
theorem FA(c:Code)(l:Nat):pq c l=(findLabel c l).isSome:=by
 induction c with
 |seq a b k H=>unfold pq findLabel;rw[k,H];cases findLabel a l<;>simp
 |label L=>
  unfold pq findLabel;by_cases h:L=l;simp_all;have:Nat.beq L l=false:=by cases H:Nat.beq L l;rfl;exact absurd (ct H) h
  simp[this,h]
 |_=>rfl
def zt(c:Code)(l:Nat): ∀(k:Code),findLabel c l=some k->∀T,T∈writes k->T∈writes c:=by
 induction c with
 |seq a b m p=>intro k h T H;unfold findLabel at h;split at h;rename_i s q;cases h;exact cG.2 ((cG.1 H).imp (m s q T) id);exact dI _ (p k h T H)
 |label L=>intro k h T H;unfold findLabel at h;split at h;cases h;cases H;cases h
 |_=>exact λk h=>by cases h
def Wk(P:Program)(l:Nat)(c:Code)(Q:IZ)(a:Act)(w:World):Prop:=
 ∀(b:Frame)(k:List Item)(C:List Frame),
  (∃e A m,Q e A m/\e≠ .normal/\Arrives P (lone (b.at a (.code c::k)) C w) b k C e A m)\/
  (∃A m p,Q (.goto l) A m/\findLabel c l=some p/\Steps P (lone (b.at a (.code c::k)) C w) (lone (b.at A ((opened p).map Item.code++k)) C m))
def up(n:Nat)(i:Act)(g:World)(j:List Nat)(Q:Exit->Env->cM):IZ:=
 λe a w=> ∃b,Rel n b a/\Q e b w.heap/\eJ g w/\fK j i a
def Gt{Q:Exit->Env->cM}(h:XD n i g j (Q .normal) e a w):up n i g j Q e a w:=by obtain⟨rfl,h⟩:=h;exact h
def sZ(a:Act):Env:=λT=>some (a.tmps.getD T undef)
def Rel.qE{b k l:Env}(q:Rel n b a)(H:Rel n k A)(u:fK j a A)(s:Sub l (b.forget j) k):Rel n l A:=
 ⟨H.defers,H.size,λT v x=>by rcases s T v x with h|h;exact H.at_ T v h;have⟨m,p⟩:=Env.AN h;rw[u T m];exact q.at_ T v p⟩
def jX{y:Type}{k:y}{X:Type}{L:List (Nat×Sh)}{f:rS X L}{K:X->y}{b:Env}(p:Rel n b a)(l: ∀T s,(T,s)∈L->∃v,b T=some v):mb k L f (sZ a) K=mb k L f b K:=
 mJ L f λT s m=>by have⟨v,H⟩:=l T s m;rw[H];unfold sZ;rw[p.at_ T v H]
def PH(P:Program)(c:Code)(Q:IZ)(a:Act)(w:World):Prop:=
 ∀(b:Frame)(k:List Item)(C:List Frame),∃e A l,Q e A l/\Arrives P (lone (b.at a ((opened c).map Item.code++k)) C w) b k C e A l
def PH.wp(h:PH P c Q a w):c.wp P Q a w:=λb k C=>by have⟨e,A,m,l,H⟩:=h b k C;exact⟨e,A,m,l,.of_steps (mB c k) H⟩
def iN(H:opened c= [c])(h:c.wp P Q a w):PH P c Q a w:=λb k C=>by rw[H];exact h b k C
def xR{l:IZ}(h:PH P c Q a w)(H: ∀e a w,Q e a w->l e a w):PH P c l a w:=
 λb k C=>let ⟨e,A,p,q,m⟩:=h b k C;⟨e,A,p,H _ _ _ q,m⟩
def Sn{x y:Code}(h:PH P x (Exit.then (PH P y Q) Q) a w):PH P (.seq x y) Q a w:=by
 intro b k C;simp only[opened,bB,cp,List.map_nil,cP,eH,dJ];have⟨e,m,p,l,H⟩:=h b (.code y::k) C;cases e with
 |normal=>have⟨s,q,z,v,u⟩:=l b k C;exact⟨s,q,z,v,.of_steps (Steps.trans H (mB y k)) u⟩
 |outgrown=>exact⟨_,m,p,l,.pass rfl (λ_ _=> .inl bO) H⟩
 |_=>exact⟨_,m,p,l,.pass rfl (λ_ _=> .inl bO) H⟩
def CZ{s:Code}{l:Nat}(X:findLabel c l=some s)(I:Act->World->Prop)(M:Act->World->Nat)(S:IZ)(T:Act->World->IZ)(h0:Wk P l c S a w)(Z: ∀A p,S (.goto l) A p->I A p)(d': ∀e A p,e≠ .goto l->e≠ .normal->S e A p->Q e A p/\∀x,e≠ .goto x)(round: ∀a w,I a w->PH P s (T a w) a w)(h2: ∀a w A p,I a w->T a w (.goto l) A p->I A p/\M A p<M a w)(e': ∀a w e A p,I a w->e≠ .goto l->T a w e A p->Q e A p/\∀x,e≠ .goto x):
  (Code.scope c).wp P Q a w:=by
 intro b k C;have c': ∀(m:Machine)(e:Exit)(A:Act)(p:World),(∀x,e≠ .goto x)->Arrives P m b (.inScope c::k) C e A p->Arrives P m b k C e A p:=by
  intro m e A p G H;cases e with
  |normal=>exact Steps.trans H (.one step_inScope)
  |exit id=>exact λk' hk=>H k' (by simp[exitTo,hk])
  |goto x=>exact absurd rfl (G x)
  |_=>exact H
 have b': ∀n a w,M a w=n->I a w->∃e A p,Q e A p/\Arrives P (lone (b.at a ((opened s).map Item.code++ .inScope c::k)) C w) b k C e A p:=by
  intro n;induction n using Nat.strongRecOn with
  |_ n ih=>intro a w hn U;obtain⟨e,u,v,q,H⟩:=round a w U b (.inScope c::k) C;by_cases he:e=.goto l;subst he;obtain⟨f',h'⟩:=h2 a w u v U q;have K:=H (.code s:: .inScope c::k) (by simp[gotoIn,X]);obtain⟨z,y,L,J,B⟩:=ih (M u v) (hn▸h') u v rfl f';exact⟨z,y,L,J,.of_steps (Steps.trans K (mB s _)) B⟩;obtain⟨V,G⟩:=e' a w e u v U he q;exact⟨e,u,v,V,c' _ e u v G H⟩
 rcases h0 b (.inScope c::k) C with⟨e,A,p,q,g',H⟩|⟨A,p,r',q,hr,K⟩;by_cases a':e=.goto l;subst a';have K:=H (.code s:: .inScope c::k) (by simp[gotoIn,X]);obtain⟨z,y,L,J,B⟩:=b' _ A p rfl (Z A p q);exact⟨z,y,L,J,.of_steps (.head step_scope (Steps.trans K (mB s _))) B⟩;obtain⟨V,G⟩:=d' e A p a' g' q;exact⟨e,A,p,V,.of_steps (.one step_scope) (c' _ e A p G H)⟩;rw[X]at hr;cases hr;obtain⟨z,y,L,J,B⟩:=b' _ A p rfl (Z A p q);exact⟨z,y,L,J,.of_steps (.head step_scope K) B⟩
def Wl(P:Program)(c:Code)(Q:IZ)(a:Act)(w:World):Option Nat->Prop
 |none=>PH P c Q a w
 |some l=>Wk P l c Q a w
def region{id:Nat}{Q:Exit->Env->cM}{b:Env}(k:Rel n b a)(h:lD P [] n O t US O.toList [] b w.heap (Mv (Q .normal))):PH P (.region id O false) (up n a w (eW O) Q) a w:=by refine iN rfl (wp_mono (wp_region ?_) (λe A l H=>Gt (K5 H)));have:=qD O.toList 0 b a w bO k.D (eJ.refl w) (fK.refl _ _) h;rw[List.range_eq_range'];simpa using this
def kq : ∀(w':nQ)(m:Option Nat)(c:Code)(Q:Exit->Env->cM)(C:Env)(a:Act)(w:World),Rel n C a->den P n w' m c Q C w.heap->Wl P c (up n a w (writes c) Q) a w m
 | .leaf,none,c,Q,C,a,w,B,h=>by unfold den at h;split at h;exact λb k V=>⟨.normal,a,w,⟨C,B,h,eJ.refl w,fK.refl _ _⟩,.refl _ _⟩;exact iN rfl (wp_label ⟨C,B,h,eJ.refl w,fK.refl _ _⟩);exact iN rfl (wp_exit ⟨C,B,h,eJ.refl w,fK.refl _ _⟩);exact iN rfl (wp_goto ⟨C,B,h,eJ.refl w,fK.refl _ _⟩);exact iN rfl (wp_ret ⟨C,B,h,eJ.refl w,fK.refl _ _⟩);rename_i id O;exact region B h;exact h.elim
 | .leaf,some l,c,Q,C,a,w,B,h=>by unfold den at h;split at h;rename_i l';split at h;rename_i hl;obtain rfl:l'=l:=ct hl;exact λb k V=> .inr ⟨a,w,.skip,⟨C,B,h,eJ.refl w,fK.refl _ _⟩,by simp[findLabel],.one step_label⟩;exact h.elim;exact h.elim
 | .je kb H',none,c,Q,C,a,w,B,h=>by unfold den at h;split at h;split at h;rename_i hb;obtain⟨h1,h2⟩:=sY hb B.D h;exact iN rfl (wp_mono (wp_region_any h1 h2) (λe A q H=>Gt (CY H)));exact h.elim;exact h.elim
 | .seq x y,none,c,Q,C,a,w,B,h=>by
  unfold den at h;split at h;rename_i c J;refine Sn (xR (kq x none c _ C a w B h) ?_);rintro e A q ⟨p,v,H,u,s⟩;have S: ∀T,T∈writes c->T∈writes (.seq c J):=λT G=>dp _ G;cases e with
  |normal=>refine xR (kq y none J Q p A q v H) ?_;rintro e2 a2 w2 ⟨i',d',K,e',g'⟩;exact⟨i',d',K,u.trans e',(s.mono S).trans (g'.mono λT G=>dI _ G)⟩
  |_=>exact⟨p,v,H,u,s.mono S⟩
  exact h.elim
 | .seq x y,some l,c,Q,C,a,w,B,h=>by
  unfold den at h;split at h;rename_i c J;have S: ∀T,T∈writes c->T∈writes (.seq c J):=λT G=>dp _ G;have u': ∀T,T∈writes J->T∈writes (.seq c J):=λT G=>dI _ G;split at h;rename_i hl;have ih:=kq x (some l) c Q C a w B h;intro b k V;rcases ih b (.code J::k) V with⟨e,A,q,H,j',X⟩|⟨A,q,U,H,hf,E'⟩;obtain⟨p,v,H,u,s⟩:=H;exact .inl ⟨e,A,q,⟨p,v,H,u,s.mono S⟩,j',.of_steps (.one step_seq) (.pass (x:=.code J) rfl (λ_ _=> .inl j') X)⟩;obtain⟨p,v,H,u,s⟩:=H;refine .inr ⟨A,q,.seq U J,⟨p,v,H,u,s.mono S⟩,by simp[findLabel,hf],.head step_seq ?_⟩;simpa[opened]using E';rename_i hl;have ih:=kq x none c _ C a w B h;have B':findLabel c l=none:=by
   have:=FA c l;rw[hl]at this;cases H:findLabel c l with
   |none=>rfl
   |some U=>rw[H]at this;cases this
  intro b k V;obtain⟨e,A,q,⟨p,v,H,u,s⟩,X⟩:=ih.wp b (.code J::k) V;cases e with
  |normal=>rcases kq y (some l) J Q p A q v H b k V with⟨e2,a2,w2,K,j',y'⟩|⟨a2,w2,U,K,A',F'⟩;obtain⟨i',d',K,e',g'⟩:=K;exact .inl ⟨e2,a2,w2,⟨i',d',K,u.trans e',(s.mono S).trans (g'.mono u')⟩,j',.of_steps (.head step_seq X) y'⟩;obtain⟨i',d',K,e',g'⟩:=K;exact .inr ⟨a2,w2,U,⟨i',d',K,u.trans e',(s.mono S).trans (g'.mono u')⟩,by simp[findLabel,B',A'],.head step_seq (Steps.trans X F')⟩
  |goto l'=>exact .inl ⟨_,A,q,⟨p,v,H,u,s.mono S⟩,bO,.of_steps (.one step_seq) (.pass (x:=.code J) rfl (λ_ _=> .inl bO) X)⟩
  |_=>exact .inl ⟨_,A,q,⟨p,v,H,u,s.mono S⟩,bO,.of_steps (.one step_seq) (.pass (x:=.code J) rfl (λ_ _=> .inl bO) X)⟩
  exact h.elim
 | .cond x y,none,c,Q,C,a,w,B,h=>by
  unfold den at h;split at h;rename_i k c J;split at h;rename_i G' H;have he:=B.fits _ _ H;split at h;rename_i G;subst G;refine iN rfl (wp_cond_true he (wp_mono (kq x none c Q C a w B h).wp ?_));rintro e A q ⟨p,v,H,u,s⟩;exact⟨p,v,H,u,s.mono λT G=>dp _ G⟩;rename_i G;have G:G'=false:=by simpa using G
  subst G;refine iN rfl (wp_cond_false he (wp_mono (kq y none J Q C a w B h).wp ?_));rintro e A q ⟨p,v,H,u,s⟩;exact⟨p,v,H,u,s.mono λT G=>dI _ G⟩;exact h.elim;exact h.elim
 | .block x,none,c,Q,C,a,w,B,h=>by
  unfold den at h;split at h;rename_i id c;refine iN rfl (wp_block (wp_mono (kq x none c _ C a w B h).wp ?_));rintro e A q ⟨p,v,H,u,s⟩;cases e with
  |exit q'=>
   simp only[Exit.inBlock];simp only[PG]at H;by_cases hid:q'=id;subst hid;simp only[Nat.beq_refl]at H;rw[ah rfl];exact⟨p,v,H,u,s⟩;rw[af hid];have:Nat.beq q' id=false:=by cases hb:Nat.beq q' id;rfl;exact absurd (ct hb) hid
   rw[this]at H;exact⟨p,v,H,u,s⟩
  |_=>exact⟨p,v,H,u,s⟩
  exact h.elim
 | .loop L x,none,c,Q,C,a,w,B,h=>by
  unfold den at h;split at h;rename_i c;obtain⟨I,μ,h0,p'⟩:=h;refine iN rfl (wp_loop (λA q=> ∃p,Rel n p A/\mb False L I p (λf=>f q.heap)/\eJ w q/\fK (writes c) a A)
   (λA q=>mb 0 L μ (sZ A) (λf=>f q.heap)) ⟨C,B,h0,eJ.refl w,fK.refl _ _⟩ ?_)
  rintro A q ⟨p,v,Z,u,s⟩;obtain⟨M,hF,f',hL,_⟩:=xO L _ I p' Z;have b':=Rel.qE B v s f';have a':mb False L I M (λf=>f q.heap):=by rw[mJ L I hL];exact Z
  have hd:=hF q.heap a';refine wp_mono (kq x none c _ M A q b' hd).wp ?_;rintro e a1 w1 ⟨n',c',H,k',m'⟩;cases e with
  |normal=>obtain⟨t',C'⟩:=H;refine⟨⟨n',c',t',u.trans k',s.trans m'⟩,?_⟩;rw[jX c' (mA L I t'),jX b' (mA L I a')];exact C'
  |_=>exact⟨n',c',H,u.trans k',s.trans m'⟩
  exact h.elim
 | .join L x,none,c,Q,C,a,w,B,h=>by
  unfold den at h;unfold ay at h;refine xR (kq x none c _ C a w B h) ?_;rintro e A q ⟨p,v,H,u,s⟩;cases e with
  |normal=>obtain⟨M,hQ,f'⟩:=xN L _ H;exact⟨M,Rel.qE B v s f',hQ,u,s⟩
  |_=>exact⟨p,v,H,u,s⟩
 | .scope l L x y,none,c,Q,C,a,w,B,h=>by
  unfold den at h;split at h;rename_i c;split at h;rename_i U hf;obtain⟨I,μ,h0,p'⟩:=h;have x':=zt c l U hf;have v': ∀(r':Env->cM)(e:Exit)(p:Env)(h':Heap),e≠ .goto l->AO l r' Q e p h'->Q e p h'/\∀z,e≠ .goto z:=by
   intro r' e p h' D' H;cases e with
   |goto z=>
    simp only[AO]at H;have:Nat.beq z l=false:=by cases hb:Nat.beq z l;rfl;exact absurd (by rw[ct hb]) D'
    rw[this]at H;exact H.elim
   |_=>exact⟨H,λz hz=>by cases hz⟩
  refine iN rfl (CZ hf (λA q=> ∃p,Rel n p A/\mb False L I p (λf=>f q.heap)/\eJ w q/\fK (writes c) a A)
   (λA q=>mb 0 L μ (sZ A) (λf=>f q.heap)) _
   (λi g e A q=> ∃p,Rel n p A/\AO l (λM s'=>mb False L I M (λf=>f s')/\mb 0 L μ M (λf=>f s')<mb 0 L μ (sZ i) (λf=>f g.heap)) Q e p q.heap/\eJ w q/\fK (writes c) a A)
   (kq x (some l) c _ C a w B h0) ?_ ?_ ?_ ?_ ?_)
  rintro A q ⟨p,v,H,u,s⟩;simp only[AO,Nat.beq_refl]at H;exact⟨p,v,H,u,s⟩;rintro e A q z' _ ⟨p,v,H,u,s⟩;obtain⟨o',K⟩:=v' _ e p _ z' H;exact⟨⟨p,v,o',u,s⟩,K⟩;rintro A q ⟨p,v,Z,u,s⟩;obtain⟨M,hF,f',hL,_⟩:=xO L _ I p' Z;have b':=Rel.qE B v s f';have a':mb False L I M (λf=>f q.heap):=by rw[mJ L I hL];exact Z
  have hd:=hF q.heap a';refine xR (kq y none U _ M A q b' hd) ?_;rintro e a1 w1 ⟨n',c',H,k',m'⟩;refine⟨n',c',?_,u.trans k',s.trans (m'.mono x')⟩;cases e with
  |goto z=>
   simp only[AO]at H⊢;cases hz:Nat.beq z l with
   |false=>rw[hz]at H;exact H.elim
   |true=>rw[hz]at H;obtain⟨q1,q2⟩:=H;exact⟨q1,by rw[jX b' (mA L I a')];exact q2⟩
  |_=>exact H
  rintro i g A q _ ⟨p,v,H,u,s⟩;simp only[AO,Nat.beq_refl]at H;obtain⟨q1,q2⟩:=H;refine⟨⟨p,v,q1,u,s⟩,?_⟩;rw[jX v (mA L I q1)];exact q2;rintro i g e A q _ he ⟨p,v,H,u,s⟩;obtain⟨o',K⟩:=v' _ e p _ he H;exact⟨⟨p,v,o',u,s⟩,K⟩;exact h.elim;exact h.elim
 | .je _ _,some _,_,_,_,_,_,_,h=>h.elim
 | .cond _ _,some _,_,_,_,_,_,_,h=>h.elim
 | .block _,some _,_,_,_,_,_,_,h=>h.elim
 | .loop _ _,some _,_,_,_,_,_,_,h=>h.elim
 | .join _ _,some _,_,_,_,_,_,_,h=>h.elim
 | .scope _ _ _ _,some _,_,_,_,_,_,_,h=>h.elim
 | .typed _,some _,_,_,_,_,_,_,h=>h.elim
 | .typed t,none,c,Q,C,a,w,B,h=>by unfold den at h;split at h;exact region B h;exact h.elim
def rT(P:Program):List ResultVar->Env->Heap->(List Value->Prop)->Prop
 | [],_,_,F=>F []
 | .tmp T::k,b,h,F=>aJ (b T) λv=>rT P k b h λV=>F (v::V)
 | .cell a T::k,b,h,F=>(match b a with
  |some (.pointer p)=>aJ p λl=>vj P T h l λv _=>rT P k b h λV=>F (v::V)
  |_=>False)
def te(vs:List Value):Value:=
 match vs with
 | [v]=>v
 |vs=> .tuple vs.toArray
def UU(P:Program)(k:Array ResultVar)(R:dH):Exit->Env->cM
 | .normal,b,h=>rT P k.toList b h λv=>R (te v) h
 | .ret,b,h=>rT P k.toList b h λv=>R (te v) h
 |_,_,_=>False
def ku(args:List Value):Env:=λT=>args[T]?
def NH(a:Act):ResultVar->Sem Value
 | .tmp T=>pure (a.tmps.getD T undef)
 | .cell b T=>do loadVar T (<-asAddr (a.tmps.getD b undef))
theorem HL{x:Env}(l:Rel n x a): ∀(k:List ResultVar)(F:List Value->Prop),rT P k x h F->∃V,F V/\
  rd P (k.mapM (NH a)) h=some V
 | [],F,H=>⟨[],H,rfl⟩
 | .tmp T::k,F,H=>by
  have⟨v,I,H⟩:=cf.1 H;have⟨V,q,s⟩:=HL l k _ H;refine⟨v::V,q,?_⟩;rw[List.mapM_cons];have u:rd P (NH a (.tmp T)) h=some v:=by show some (a.tmps.getD T undef)=some v;rw[l.at_ T v I]
  rw[ba _ _ _ _ u,ba _ _ _ _ s];rfl
 | .cell m T::k,F,H=>by
  simp only[rT]at H;split at H;rename_i p G;obtain⟨b,rfl,C⟩:=cf.1 H;have⟨v,S,q,s,y⟩:=CR C;have⟨V,z,B⟩:=HL l k _ q;refine⟨v::V,z,?_⟩;rw[List.mapM_cons];have u:rd P (NH a (.cell m T)) h=some v:=by show rd P (do loadVar T (<-asAddr (a.tmps.getD m undef))) h=_;rw[l.at_ m _ G];exact y h s
  rw[ba _ _ _ _ u,ba _ _ _ _ B];rfl;grind
def qF{b:Env}(s:Rel n b a)(q:rT P d.results.toList b h λV=>F (te V)):
  ∃v,F v/\rd P (results d a.tmps) h=some v:=by
 have⟨V,H,k⟩:=HL s _ _ q;refine⟨_,H,?_⟩;have m:rd P (d.results.mapM (NH a)) h=some V.toArray:=by rw[Array.mapM_eq_mapM_toList];show rd P (d.results.toList.mapM (NH a)>>=λl=>pure (List.toArray l)) h=_;rw[ba _ _ _ _ k];rfl
 have p:results d a.tmps=d.results.mapM (NH a)>>=λV=>pure (if h:V.size=1 then V[0]else .T V):=by rfl
 rw[p,ba _ _ _ _ m]
 match V with
 | []=>rfl
 | [v]=>rfl
 |u::v::V=>rfl
theorem FB(m:nQ)(z:P.funcs[f]? =some d)(x:d.body=some c)(q:Nat.ble args.length d.ntmps=true)(y:den P d.ntmps m none c (UU P d.results R) (ku args) h):jS P f args.toArray h R:=by
 intro w G;subst G;have q:=Nat.le_of_ble_eq_true q;refine calls_of_wp z x ?_;have k:Rel d.ntmps (ku args) { tmps:=args.toArray++Array.replicate (d.ntmps - args.toArray.size) undef,defers:= [] } :=by refine⟨rfl,by grind,λT v l=> ?_⟩;unfold ku at l;have K:=(aS.1 l).1;simp only[dN];rw[cH ae];simp[l]
 refine wp_mono (kq m none c _ _ _ w k y).wp ?_;rintro e a b ⟨J,k,H,C,_⟩;have p:rT P d.results.toList J b.heap (λI=>R (te I) b.heap)->a.defers= []/\∃v,(results d a.tmps).run P b=.ok v b/\∃V,Ending.returned v=.returned V/\R V b.heap/\eJ w b:=λB=>by have⟨v,s,u⟩:=qF (F:=λv=>R v b.heap) k B;exact⟨k.defers,v,wE _ _ _ u,v,rfl,s,C⟩
 cases e with
 |normal=>exact p H
 |ret=>exact p H
 |outgrown=>exact H.elim
 |_=>exact H.elim
def oL(d:Func):Code:=d.body.getD .skip
def C1(b:nQ)(m:P.funcs[f]? =some d)(l:d.body.isSome=true)(p:Nat.ble args.length d.ntmps=true)(k:den P d.ntmps b none (oL d) (UU P d.results R) (ku args) h):jS P f args.toArray h R:=by
 have⟨c,H⟩:=dV.1 l;refine FB b m H p ?_;rw[oL,H]at k;exact k
def PI(K:List Deferred->Env->cM)(Q:Exit->List Deferred->Env->cM):Exit->List Deferred->Env->cM
 | .normal=>K
 |e=>Q e
def PJ(id:Nat)(Q:Exit->List Deferred->Env->cM):Exit->List Deferred->Env->cM
 | .exit I=>(match Nat.beq I id with|true=>Q .normal|false=>Q (.exit I))
 |e=>Q e
def tf(P : Program)(l : List Nat)(n : Nat)(E : List Deferred -> Env -> dH): nQ -> Code -> (Exit -> List Deferred -> Env -> Heap -> Prop) -> List Deferred -> Env -> Heap -> Prop
  | .leaf, c, Q, D, k, h => (match c with
    | .skip => Q .normal D k h
    | .label _ => Q .normal D k h
    | .exit id => Q (.exit id) D k h
    | .ret => Q .ret D k h
    | .region _ O false => lD P l n O [] (E D (k.forget (eW O))) O.toList D k h (Q .normal)
    | _ => False)
  | .je K p, c, Q, D, k, h => (match c with
    | .region _ O true => (match (P.follows .mixedOrders && Region.noSelect O && CW p O.size && je P O p none (Array.replicate O.size false)) with
      | true => gk P l n O (E D (k.forget (eW O))) K p [] [] k h (Q .normal D)
      | false => False)
    | _ => False)
  | .seq a b, c, Q, D, k, h => (match c with
    | .seq c u => tf P l n E a c (PI (λs m H => tf P l n E b u Q s m H) Q) D k h
    | _ => False)
  | .cond a b, c, Q, D, k, h => (match c with
    | .cond x c u => (match k.ev x with
      | some (.bool q) => if q = true then tf P l n E a c Q D k h else tf P l n E b u Q D k h
      | _ => False)
    | _ => False)
  | .block a, c, Q, D, k, h => (match c with
    | .block id c => tf P l n E a c (PJ id Q) D k h
    | _ => False)
  | .loop L a, c, Q, D, k, h => (match c with
    | .loop c => ∃(I : rS (Heap -> Prop) L)(y : rS (Heap -> Nat) L), mb False L I k (λf => f h) /\
        NG L (λm => ∀ H, mb False L I m (λf => f H) ->
          tf P l n E a c (PI (λs z v => s = D /\ mb False L I z (λf => f v) /\ mb 0 L y z (λf => f v) < mb 0 L y m (λf => f H)) Q) D m H) (k.forget (writes c))
    | _ => False)
  | .join L a, c, Q, D, k, h => ay (α := rS (Heap -> Prop) L) (Pz L (λm H => Q .normal D m H) (k.forget (writes c)))
      (λJ => tf P l n E a c (PI (λs m H => s = D /\ mb False L J m (λf => f H)) Q) D k h)
  | _, _, _, _, _, _ => False
def UW(n:Nat)(i:Act)(g:World)(j:List Nat)(Q:Exit->List Deferred->Env->cM)(E:List Deferred->Env->dH):IZ:=
 λe a w=>eJ g w/\fK j i a/\((∃D b,jq n D b a/\Q e D b w.heap/\∀C,e≠ .panic C)\/∃D b v,jq n D b a/\e=.panic (ring v)/\E D b v w.heap)
def jq.qE{b:List Deferred}{k l m:Env}(p:jq n D k a)(H:jq n b l A)(s:fK j a A)(q:Sub m (k.forget j) l):jq n b m A:=
 .of (Rel.qE p.bare H.bare s q) H.defs
def C2{m:Env}{Q:Exit->List Deferred->Env->cM}(s:jq n D m i)(h:Ug n D i g j (Q .normal) (E D (m.forget j)) e a w):UW n i g j Q E e a w:=by
 rcases h with⟨rfl,p,B,b,k,H,l⟩|⟨b,k,H,l,v,rfl,q⟩;exact⟨H,l,.inl ⟨p,B,b,k,λ_ e=>by cases e⟩⟩;refine⟨l,H,.inr ⟨D,_,v,⟨k,λT u x=> ?_,b⟩,rfl,q⟩⟩;have⟨y,z⟩:=Env.AN x;rw[H T y];exact s.at_ T u z
def xS{b:List Nat}{Q:Exit->List Deferred->Env->cM}(H: ∀T,T∈j->T∈b)(h:UW n i g j Q E e a w):UW n i g b Q E e a w:=
 ⟨h.1,h.2.1.mono H,h.2.2⟩
def NI{b:Act}{k:World}{Q:Exit->List Deferred->Env->cM}(H:eJ g k)(l:fK j i b)(h:UW n b k j Q E e a w):UW n i g j Q E e a w:=
 ⟨H.trans h.1,l.trans h.2.1,h.2.2⟩
theorem ot{k':List Nat}: ∀(g':nQ)(c:Code)(Q:Exit->List Deferred->Env->cM)(D:List Deferred)(l:Env)(a:Act)(w:World),jq n D l a->
  tf P k' n E g' c Q D l w.heap->c.wp P (UW n a w (writes c) Q E) a w
 | .leaf,c,Q,D,l,a,w,H,h=>by unfold tf at h;have J: ∀e,(∀C,e≠ .panic C)->Q e D l w.heap->UW n a w (writes c) Q E e a w:=λe p hq=>⟨eJ.refl w,fK.refl _ _,.inl ⟨D,l,H,hq,p⟩⟩;split at h;exact wp_skip (J _ (λ_ e=>by cases e) h);exact wp_label (J _ (λ_ e=>by cases e) h);exact wp_exit (J _ (λ_ e=>by cases e) h);exact wp_ret (J _ (λ_ e=>by cases e) h);rename_i id O;refine wp_mono (wp_region ?_) (λe A u hq=>C2 H hq);have:=qD (a0:=a) (w0:=w) O.toList 0 l a w bO H (eJ.refl w) (fK.refl _ _) h;rw[List.range_eq_range'];rw[Array.length_toList]at this;exact this;exact h.elim
 | .je kb m',c,Q,D,l,a,w,H,h=>by unfold tf at h;split at h;rename_i id O;split at h;rename_i U;obtain⟨h1,h2⟩:=sY U H h;refine wp_mono (wp_region_any h1 h2) (λe A u hq=>C2 (Q:=Q) H ?_);rcases hq with⟨e,y,m,q1,⟨rfl,q2⟩,q3⟩|hq;exact .inl ⟨e,_,m,q1,q2,q3⟩;exact .inr hq;exact h.elim;exact h.elim
 | .seq x b',c,Q,D,l,a,w,H,h=>by
  unfold tf at h;split at h;rename_i c G;have hW: ∀T,T∈writes c->T∈writes (.seq c G):=λT z=>dp _ z;refine wp_seq (wp_mono (ot x c _ D l a w H h) ?_);rintro e A u hq;have hq:=xS hW hq;obtain⟨q,b,⟨y,m,s,hq,p⟩|⟨y,m,v,s,rfl,hE⟩⟩:=hq;cases e with
  |normal=>exact wp_mono (ot b' G Q y m A u s hq) (λe2 a2 w2 i'=>NI q b (xS (λT z=>dI _ z) i'))
  |panic C=>grind
  |_=>exact⟨q,b,.inl ⟨y,m,s,hq,p⟩⟩
  exact⟨q,b,.inr ⟨y,m,v,s,rfl,hE⟩⟩;exact h.elim
 | .cond x b',c,Q,D,l,a,w,H,h=>by
  unfold tf at h;split at h;rename_i k c G;split at h;rename_i l' hq;have p:=H.fits _ _ hq;split at h;rename_i z;subst z;exact wp_cond_true p (wp_mono (ot x c Q D l a w H h) (λ_ _ _=>xS λT z=>dp _ z));rename_i z;have z:l'=false:=by simpa using z
  subst z;exact wp_cond_false p (wp_mono (ot b' G Q D l a w H h) (λ_ _ _=>xS λT z=>dI _ z));exact h.elim;exact h.elim
 | .block x,c,Q,D,l,a,w,H,h=>by
  unfold tf at h;split at h;rename_i id c;refine wp_block (wp_mono (ot x c _ D l a w H h) ?_);rintro e A u ⟨q,b,⟨y,m,s,hq,p⟩|⟨y,m,v,s,rfl,hE⟩⟩;cases e with
  |exit a'=>
   simp only[Exit.inBlock];simp only[PJ]at hq;by_cases hid:a'=id;subst hid;simp only[Nat.beq_refl]at hq;rw[ah rfl];exact⟨q,b,.inl ⟨y,m,s,hq,λ_ e=>by cases e⟩⟩;rw[af hid];have:Nat.beq a' id=false:=by cases U:Nat.beq a' id;rfl;exact absurd (ct U) hid
   rw[this]at hq;exact⟨q,b,.inl ⟨y,m,s,hq,p⟩⟩
  |panic C=>exact absurd rfl (p C)
  |_=>exact⟨q,b,.inl ⟨y,m,s,hq,p⟩⟩
  exact⟨q,b,.inr ⟨y,m,v,s,rfl,hE⟩⟩;exact h.elim
 | .loop L x,c,Q,D,l,a,w,H,h=>by
  unfold tf at h;split at h;rename_i c;obtain⟨I,μ,h0,j'⟩:=h;refine wp_loop (λA u=> ∃m,jq n D m A/\mb False L I m (λf=>f u.heap)/\eJ w u/\fK (writes c) a A)
   (λA u=>mb 0 L μ (sZ A) (λf=>f u.heap)) ⟨l,H,h0,eJ.refl w,fK.refl _ _⟩ ?_
  rintro A u ⟨m,s,hI,q,b⟩;obtain⟨K,hF,X,hL,_⟩:=xO L _ I j' hI;have f':=jq.qE H s b X;have d':mb False L I K (λf=>f u.heap):=by rw[mJ L I hL];exact hI
  have hd:=hF u.heap d';refine wp_mono (ot x c _ D K A u f' hd) ?_;rintro e a1 w1 ⟨V,Z,⟨S,M,B,hq,p⟩|⟨S,M,v,B,rfl,hE⟩⟩;cases e with
  |normal=>obtain⟨rfl,e',h'⟩:=hq;refine⟨⟨M,B,e',q.trans V,b.trans Z⟩,?_⟩;have ev: ∀c':Act,sZ { c' with defers:= [] } =sZ c':=λ_=>rfl;rw[<-ev a1,<-ev A,jX B.bare (mA L I e'),jX f'.bare (mA L I d')];exact h'
  |panic C=>exact absurd rfl (p C)
  |_=>exact⟨q.trans V,b.trans Z,.inl ⟨S,M,B,hq,p⟩⟩
  exact⟨q.trans V,b.trans Z,.inr ⟨S,M,v,B,rfl,hE⟩⟩;exact h.elim
 | .join L x,c,Q,D,l,a,w,H,h=>by
  unfold tf at h;unfold ay at h;refine wp_mono (ot x c _ D l a w H h) ?_;rintro e A u ⟨q,b,⟨y,m,s,hq,p⟩|hE⟩;cases e with
  |normal=>obtain⟨rfl,hq⟩:=hq;obtain⟨K,hQ,X⟩:=xN L _ hq;exact⟨q,b,.inl ⟨_,K,jq.qE H s b X,hQ,p⟩⟩
  |panic C=>exact absurd rfl (p C)
  |_=>exact⟨q,b,.inl ⟨y,m,s,hq,p⟩⟩
  exact⟨q,b,.inr hE⟩
 | .scope _ _ _ _,_,_,_,_,_,_,_,h=>by unfold tf at h;exact h.elim
def AP:Option Value->FrameMode
 |none=> .returning
 |some v=> .panicking (ring v)
def tg(P:Program)(G:FuncId)(args:Array Value)(r:Option Value)(h:Heap)(K:Option Value->cM):Prop:=
 ∀w:World,w.heap=h->CallsD P G args (AP r) w λe u k=>(∃v,e=.returned v)/\eJ w k/\∃b,settle u=AP b/\K b k.heap
def PK(b:cM)(E:dH):Option Value->cM
 |none,h=>b h
 |some v,h=>E v h
def C4(P:Program)(l:List ResultVar)(R E:dH):List Deferred->Option Value->Env->cM
 | [],none,b,h=>rT P l b h λV=>R (te V) h
 | [],some v,_,h=>E v h
 | [k],r,b,h=>(match k.target with
  | .fn (.func G) cap=>(match lC P G with
   |true=>tg P G (k.args.toList++cap.toList).toArray r h (PK (λH=>rT P l b H λV=>R (te V) H) E)
   |false=>False)
  |_=>False)
 |_::_::_,_,_,_=>False
def Sp{b:Env}(k:jq n D b a)(H:rT P d.results.toList b h λV=>F (te V)): ∃v,F v/\rd P (results d a.tmps) h=some v:=
 qF (a:= { a with defers:= [] }) k.bare H
theorem Jd{E:dH}{q:Env}(K:jq n D q a)(k:eJ g w)(h:C4 P d.results.toList R E D r q w.heap):
  Leaves P d a.tmps (λe b=>eJ g b/\((∃v,e=.returned v/\R v b.heap)\/∃v,e=.panicked (ring v)/\E v b.heap)) D (AP r) w:=by
 have s: ∀(r:Option Value)(w:World),eJ g w->(match r with|none=>rT P d.results.toList q w.heap λV=>R (te V) w.heap|some v=>E v w.heap)->
   Leaves P d a.tmps (λe b=>eJ g b/\((∃v,e=.returned v/\R v b.heap)\/∃v,e=.panicked (ring v)/\E v b.heap)) [] (AP r) w:=by
  intro r w k h;cases r with
  |none=>have⟨v,m,p⟩:=Sp (F:=λv=>R v w.heap) K h;exact⟨v,wE _ _ _ p,k,.inl ⟨v,rfl,m⟩⟩
  |some v=>exact⟨k,.inr ⟨v,rfl,h⟩⟩
 match D,h with
 | [],h=>refine s r w k ?_;cases r<;>exact h
 | [l],h=>
  simp only[C4]at h;split at h;rename_i G cap u;split at h;rename_i H;refine⟨by cases r<;>simp[AP],.func G,cap,G,(l.args.toList++cap.toList).toArray,u,?_,?_⟩;rw[u];unfold lC at H;split at H;rename_i y I;simp only[bE,Bool.not_eq_true']at H;have J:y.body.isNone=false:=by simp_all
  have e:l.args++cap=(l.args.toList++cap.toList).toArray:=bO
  rw[<-e];refine wE _ _ _ ?_;show rd P (match P.funcs[G]? with|none=>_|some d=>_) w.heap=_;rw[I];simp only[H.2,J,aV,bQ];rfl;cases H;intro c C M;obtain⟨e,U,b,z,⟨⟨v,rfl⟩,L,x,m,p⟩,B⟩:=h w rfl c C M;refine⟨_,U,b,z,?_,B⟩;show Leaves P d a.tmps _ [] (settle U) b;rw[m];exact s x b (k.trans L) (by cases x<;>exact p);grind;exact h.elim
 |_::_::_,h=>exact h.elim
def XE(P:Program)(k:Array ResultVar)(R E:dH):Exit->List Deferred->Env->cM
 | .normal,D,b,h=>C4 P k.toList R E D none b h
 | .ret,D,b,h=>C4 P k.toList R E D none b h
 |_,_,_,_=>False
theorem ig{E:dH}(p:nQ)(G:List Nat)(B:P.funcs[f]? =some d)(z:d.body.isSome=true)(x:Nat.ble args.length d.ntmps=true)(u:tf P G d.ntmps (λD m v h=>C4 P d.results.toList R E D (some v) m h) p (oL d) (XE P d.results R E) [] (ku args) h):iX P f args.toArray h R E:=by
 have⟨c,s⟩:=dV.1 z;rw[oL,s]at u;intro w C;subst C;have x:=Nat.le_of_ble_eq_true x;refine calls_of_wp_defers B s ?_;have H:jq d.ntmps [] (ku args) { tmps:=args.toArray++Array.replicate (d.ntmps - args.toArray.size) undef,defers:= [] } :=by refine⟨by grind,λT v k=> ?_,rfl⟩;unfold ku at k;have K:=(aS.1 k).1;simp only[dN];rw[cH ae];simp[k]
 refine wp_mono (ot p c _ _ _ _ w H u) ?_;rintro e a L ⟨y,_,⟨D,m,H,b,J⟩|⟨D,m,v,H,rfl,q⟩⟩;cases e with
 |exit id=>exact b.elim
 |goto l=>exact b.elim
 |panic I=>grind
 |outgrown=>exact b.elim
 |_=>rw[<-H.defs]at b H;exact Jd H y b
 rw[<-H.defs]at q H;exact Jd H y q
inductive RS where
 |calm
 |Sq (v:Value)
 |done (v:Value)
def RS.mode:RS->FrameMode
 | .calm=> .returning
 | .Sq v=> .panicking (ring v)
 | .done v=> .panicking [{ v,recovered:=true }]
def RS.left:RS->Option Value
 | .Sq v=>some v
 |_=>none
def RS.of:Option Value->RS
 |none=> .calm
 |some v=> .Sq v
def RS.settle(b:RS):settle b.mode=AP b.left:=by cases b<;>rfl
def RS.Sr(r:Option Value):(RS.of r).mode=AP r:=by cases r<;>rfl
def isRec(o:Oper):Bool:=match o.op with
 | .call { callee:=.builtin .recover,args:=_,argTypes:=_ } =>true
 |_=>false
def NJ{b:Operand->Value}(h:isRec o=true):(execOp b o).run P w=.ok .recover w:=by unfold isRec at h;split at h;rename_i H;unfold execOp;rw[H];rfl;cases h
def K6(P:Program)(o:Oper)(b:Env)(h:Heap)(K:dH):Prop:=
 match o.op with
 | .typeAssert x X k l=>(match b.ev x with
  |some v=>bu P (Instr.typeAssert v X k l) h K
  |none=>False)
 |_=>AK P o b h K
theorem NK{l:Env}{k:Operand->Value}{K:dH}(b:Fits l k)(H:K6 P o l h K):nP P o k h K:=by unfold K6 at H;split at H;rename_i x X q s m;split at H;rename_i v p;unfold nP execOp;rw[m];simp only[b _ _ p];rw[cY];exact H;grind;exact pk b H
def jv(P:Program)(n:Nat)(O:Array Oper)(t:List (Nat×Sh)):List Oper->RS->Env->Heap->(RS->Env->cM)->Prop
 | [],m,b,h,K=>K m b h
 |o::l,m,b,h,K=>(match isRec o with
  |true=>mU O o b
   (λb=>(match m with
    | .Sq v=>kV n b o.dst v λk=>jv P n O t l (.done v) k h K
    | .calm=>kV n b o.dst .nilIface λk=>jv P n O t l .calm k h K
    | .done v=>kV n b o.dst .nilIface λk=>jv P n O t l (.done v) k h K))
   (λb=>kV n b o.dst undef λk=>jv P n O t l m k h K)
  |false=>mU O o b
   (λb=>K6 P o b h λv H=>I7 t o.dst v λv=>kV n b o.dst v λk=>jv P n O t l m k H K)
   (λb=>kV n b o.dst undef λk=>jv P n O t l m k h K))
def V6(n:Nat)(i:Act)(g:World)(j:List Nat)(c0:Frame)(cs0:List Frame)(Q:Exit->RS->Env->cM):Exit->Act->List Frame->World->Prop:=
 λe a C w=> ∃b k,C= { c0 with mode:=b.mode } ::cs0/\Rel n k a/\Q e b k w.heap/\eJ g w/\fK j i a
def PL(K:RS->Env->cM):Exit->RS->Env->cM
 | .normal=>K
 |_=>λ_ _ _=>False
theorem C5{K:RS->Env->cM}: ∀(l:List Oper)(k:Nat)(p:RS)(s:Env)(a:Act)(w:World),
  (∀J,l[J]? =O[k+J]?)->Rel n s a->eJ g w->fK (eW O) i a->jv P n O t l p s w.heap K->wpOpsS P O (V6 n i g (eW O) c0 cs0 (PL K)) (List.range' k l.length) a ({ c0 with mode:=p.mode } ::cs0) w
 | [],k,p,s,a,w,_,u,B,G,h=>⟨p,s,rfl,u,h,B,G⟩
 |o::l,k,p,s,a,w,M,u,B,G,h=>by
  have L:=by have:=M 0;simpa using this.symm
  have U: ∀J,l[J]? =O[k+1+J]? :=λJ=>by have:=M (J+1);simpa[Nat.add_assoc,Nat.add_comm 1 J]using this
  simp only[bw,List.range'_succ,wpOpsS,L];unfold jv at h;have next: ∀{b:Env}{v:Value}{z:RS}{m:World},eJ w m->Rel n b a->(kV n b o.dst v λb=>jv P n O t l z b m.heap K)->
    wpOpsS P O (V6 n i g (eW O) c0 cs0 (PL K)) (List.range' (k+1) l.length) (a.put o.dst v) ({ c0 with mode:=z.mode } ::cs0) m:=by
   intro b v z m C H h;have⟨a',V,S⟩:=xP H h;exact C5 l (k+1) z a' _ m U V (B.trans C) (G.trans (fK.put (gR L))) S
  split at h
  .rename_i X;rcases vp u h with⟨q,b,H,h⟩|⟨q,b,H,h⟩
   .rw[ah q,NJ X];cases p with
    |_=>exact next (eJ.refl w) H h
   .rw[af (by grind)];exact next (eJ.refl w) H h
  .rcases vp u h with⟨q,b,H,h⟩|⟨q,b,H,h⟩
   .rw[ah q];have⟨x,m,Z,y,I⟩:=mw _ _ _ (NK H.fits h) w rfl;rw[Z];cases x with
    |value v=>exact next I H (sX (F:=λv=>kV n b o.dst v λb=>jv P n O t l p b m.heap K) y)
    |skip=>exact next I H (sX (F:=λv=>kV n b o.dst v λb=>jv P n O t l p b m.heap K) y)
    |enter f args=>refine(y m rfl).mono ?_;rintro e b' ⟨v,rfl,T,C⟩;exact next (I.trans C) H (sX T)
    |_=>exact y.elim
   .rw[af (by grind)];exact next (eJ.refl w) H h
def thenS(K:RS->Env->cM)(Q:Exit->RS->Env->cM):Exit->RS->Env->cM
 | .normal=>K
 |e=>Q e
def K7(P:Program)(n:Nat):nQ->Code->(Exit->RS->Env->cM)->RS->Env->cM
 | .seq a b,c,Q,k,l,h=>(match c with
  | .seq c p=>K7 P n a c (thenS (λq m H=>K7 P n b p Q q m H) Q) k l h
  |_=>False)
 | .typed t,c,Q,k,l,h=>(match c with
  | .region _ O false=>jv P n O t O.toList k l h (Q .normal)
  |_=>False)
 | .leaf,c,Q,k,l,h=>(match c with
  | .region _ O false=>jv P n O [] O.toList k l h (Q .normal)
  |c=>den P n .leaf none c (λe m H=>Q e k m H) l h)
 |Y3,c,Q,k,l,h=>den P n Y3 none c (λe m H=>Q e k m H) l h
theorem Ss : ∀(q:nQ)(c:Code)(Q:Exit->RS->Env->cM)(l:RS)(m:Env)(a:Act)(w:World),Rel n m a->K7 P n q c Q l m w.heap->
  c.wpS P (V6 n a w (writes c) c0 cs0 Q) a ({ c0 with mode:=l.mode } ::cs0) w:=by
 have M: ∀{c:Code}{Q J:Exit->Act->List Frame->World->Prop}{a:Act}{C:List Frame}{w:World},c.wpS P Q a C w->(∀e a C w,Q e a C w->J e a C w)->c.wpS P J a C w:=
  λh x b k Z H=>let ⟨e,A,z,u,h',i'⟩:=h b k Z H;⟨e,A,z,u,x _ _ _ _ h',i'⟩
 have g': ∀(q:nQ)(c:Code)(Q:Exit->RS->Env->cM)(l:RS)(m:Env)(a:Act)(w:World),Rel n m a->den P n q none c (λe p X=>Q e l p X) m w.heap->
   c.wpS P (V6 n a w (writes c) c0 cs0 Q) a ({ c0 with mode:=l.mode } ::cs0) w:=λq c Q l m a w H h=>
  wpS_of_wp (wp_mono (kq q none c _ m a w H h).wp λe A u ⟨p,s,B,v,G⟩=>⟨l,p,rfl,s,B,v,G⟩)
 have region: ∀(id:Nat)(O:Array Oper)(t:List (Nat×Sh))(Q:Exit->RS->Env->cM)(l:RS)(m:Env)(a:Act)(w:World),Rel n m a->jv P n O t O.toList l m w.heap (Q .normal)->
   (Code.region id O false).wpS P (V6 n a w (eW O) c0 cs0 Q) a ({ c0 with mode:=l.mode } ::cs0) w:=λid O t Q l m a w H h=>by
  refine M (wpS_region (Q:=V6 n a w (eW O) c0 cs0 (PL (Q .normal))) ?_) ?_;have:=C5 (c0:=c0) (cs0:=cs0) O.toList 0 l m a w bO H (eJ.refl w) (fK.refl _ _) h;rw[List.range_eq_range'];exact this;rintro e A z u ⟨y,p,s,B,v,G⟩;cases e with
  |normal=>exact⟨y,p,s,B,v,G⟩
  |_=>exact v.elim
 intro q;induction q with
 |seq m' n' e' f'=>
  intro c Q l m a w H h;unfold K7 at h;split at h;rename_i c K;have L: ∀T,T∈writes c->T∈writes (.seq c K):=λT I=>dp _ I;refine wpS_seq (M (e' c _ l m a w H h) ?_);rintro e A z u ⟨y,p,rfl,S,x,U,V⟩;cases e with
  |normal=>refine M (f' K Q y p A u S x) ?_;rintro e2 a2 l' w2 ⟨j',k',s,b',a',c',d'⟩;exact⟨j',k',s,b',a',U.trans c',(V.mono L).trans (d'.mono λT I=>dI _ I)⟩
  |_=>exact⟨y,p,rfl,S,x,U,V.mono L⟩
  grind
 |typed t=>intro c Q l m a w H h;unfold K7 at h;split at h;exact region _ _ t Q l m a w H h;grind
 |leaf=>intro c Q l m a w H h;unfold K7 at h;split at h;exact region _ _ [] Q l m a w H h;grind
 |_=>exact λc Q l m a w H h=>g' _ c Q l m a w H h
def XF(P:Program)(l:Array ResultVar)(K:Option Value->cM):Exit->RS->Env->cM
 | .normal,b,k,h=>rT P l.toList k h λ_=>K b.left h
 | .ret,b,k,h=>rT P l.toList k h λ_=>K b.left h
 |_,_,_,_=>False
theorem th{K:Option Value->cM}(s:nQ)(T:P.funcs[f]? =some d)(H:d.body.isSome=true)(z:Nat.ble args.length d.ntmps=true)(y:K7 P d.ntmps s (oL d) (XF P d.results K) (RS.of r) (ku args) h):tg P f args.toArray r h K:=by
 have⟨c,x⟩:=dV.1 H;rw[oL,x]at y;intro w hw;subst hw;have z:=Nat.le_of_ble_eq_true z;refine callsD_of_wpS T x λc0 C X=> ?_;have J:c0= { c0 with mode:=(RS.of r).mode } :=by rw[RS.Sr,<-X]
 have Z:Rel d.ntmps (ku args) { tmps:=args.toArray++Array.replicate (d.ntmps - args.toArray.size) undef,defers:= [] } :=by refine⟨rfl,by grind,λd' v q=> ?_⟩;unfold ku at q;have c':=(aS.1 q).1;simp only[dN];rw[cH ae];simp[q]
 have G:=Ss (c0:=c0) (cs0:=C) s c _ (RS.of r) _ _ w Z y;rw[<-J]at G;intro b k H a';obtain⟨e,A,b',l,⟨m,σ,rfl,B,p,hs,_⟩,S⟩:=G b k H a';refine⟨e,A,_,l,?_,S⟩;have u:(rT P d.results.toList σ l.heap λ_=>K m.left l.heap)->A.defers= []/\∃U,({ c0 with mode:=m.mode } ::C)= { c0 with mode:=U } ::C/\∃v,(results d A.tmps).run P l=.ok v l/\(∃v',Ending.returned v=.returned v')/\eJ w l/\∃I,Go.settle U=AP I/\K I l.heap:=λV=>by have⟨v,L,M⟩:=qF (F:=λ_=>K m.left l.heap) B V;exact⟨B.defers,m.mode,rfl,v,wE _ _ _ M,⟨v,rfl⟩,hs,m.left,RS.settle m,L⟩
 cases e with
 |normal=>exact u p
 |ret=>exact u p
 |_=>exact p.elim

end
end Go.Den
namespace Go.Den
def jY{h:Heap}{b i:Nat}{c:Array Value}{t:TypeId}{f:Nat×Nat}(H:h[b]? =some (.C c t f)):aQ h (AA b i)=c[i]? :=by simp[aQ,H]
def lM{h:Heap}{b i:Nat}{c:Array Value}{t:TypeId}(H:h[b]? =some (.C c t (0,0))):qx h (AA b i)=false:=by simp[qx,H]
theorem C6{h:Heap}{a:Addr}{v:Value}(H:aQ h a=some v): ∃c t f,h[a.block]? =some (.C c t f)/\a.spot=none/\c[a.off]? =some v:=by unfold aQ at H;split at H;simp_all;cases H
def aE{h:Heap}{b:Nat}{o:Obj}(H:h[b]? =some o):b<h.size:=(bP.1 H).1
theorem xT{h:Heap}{b:Nat}{o x:Obj}(H:h[b]? =some o):(h.push x)[b]? =some o:=by grind
def aU{h:Heap}{x:Obj}:(h.push x)[h.size]? =some x:=bO
def zw{h:Heap}{b i:Nat}{c:Array Value}{t:TypeId}{f:Nat×Nat}{v:Value}(H:h[b]? =some (.C c t f)):(sO h (AA b i) v)[b]? =some (.C (c.setIfInBounds i v) t f):=by simp[sO,cX,H]
def wK{h:Heap}{a:Addr}{b:Nat}{v:Value}(H:b≠a.block):(sO h a v)[b]? =h[b]? :=by simp[sO,cX,Ne.symm H]
def Gu{h:Heap}{a:Addr}{v:Value}:(sO h a v).size=h.size:=by simp[sO]
theorem hH(b o n:Nat):((AA b o):Addr).add n=(AA b (o+n)):=by unfold Addr.add;split;grind;rfl
theorem add_add(a:Addr)(m n:Nat):(a.add m).add n=a.add (m+n):=by unfold Addr.add;split;grind;grind
def Fr(S:fZ)(h H:Heap):Prop:=h.size<=H.size/\∀c,c<h.size->¬S c->H[c]? =h[c]?
def Fr.refl(S:fZ)(h:Heap):Fr S h h:=⟨bf _,λ_ _ _=>rfl⟩
def Fr.get{S:fZ}{h H:Heap}(b:Fr S h H){c:Nat}{o:Obj}(a:h[c]? =some o)(d: ¬S c):H[c]? =some o:=
 (b.2 c (aE a) d).trans a
def Fr.trans{S s S'':fZ}{h d e:Heap}(a:Fr S h d)(f:Fr s d e)(i: ∀c,c<h.size->S c->S'' c)(j: ∀c,c<h.size->s c->S'' c):Fr S'' h e:=
 ⟨cw a.1 f.1,λc H g=>(f.2 c (cN H a.1) (λb=>g (j c H b))).trans (a.2 c H (λb=>g (i c H b)))⟩
def Fr.mono{S s:fZ}{h H:Heap}(b:Fr S h H)(f: ∀c,c<h.size->S c->s c):Fr s h H:=
 ⟨b.1,λc a d=>b.2 c a (λe=>d (f c a e))⟩
theorem Fr.push{S:fZ}(h:Heap)(o:Obj):Fr S h (h.push o):=
 ⟨bO,λc H _=>by grind⟩
def Fr.cell{S:fZ}{h H:Heap}(e:Fr S h H){a:Addr}{v:Value}(d:aQ h a=some v)(g: ¬S a.block):aQ H a=some v:=by have⟨c,t,f,b,i,j⟩:=C6 d;have:=e.get b g;unfold aQ;rw[this];simp[i,j]
def jf(l:List (Int×Value))(k:Int):Option Value:=(l.find? (·.1==k)).map (·.2)
def Je(l:List (Int×Value))(k:Int)(v:Value):List (Int×Value):=if(jf l k).isSome=true then l.map (λe=>if e.1==k then(k,v)else e)else l++ [(k,v)]
def zA(l:List (Int×Value))(k:Int):List (Int×Value):=l.filter (λe=> !(e.1==k))
def PM(k:Int):jf [] k=none:=rfl
def gK(e:Int×Value)(l:List (Int×Value))(k:Int):jf (e::l) k=if e.1=k then some e.2 else jf l k:=by unfold jf;by_cases h:e.1=k<;>simp[h]
theorem Jf{l:List (Int×Value)}{k:Int}:(jf l k).isSome=true↔k∈l.map (·.1):=by
 induction l with
 |nil=>simp[jf]
 |cons e l i=>rw[gK,cp,bG];by_cases h:e.1=k;simp[h];grind
theorem C7(l:List (Int×Value))(k K:Int)(v:Value)(H:K≠k):jf (l.map (λe=>if e.1==k then(k,v)else e)) K=jf l K:=by
 induction l with
 |nil=>rfl
 |cons e l i=>rw[cp,gK,gK,i];by_cases h:e.1=k;grind;simp[h]
def FC(l:List (Int×Value))(k:Int)(v:Value)(H:(jf l k).isSome=true):jf (l.map (λe=>if e.1==k then(k,v)else e)) k=some v:=by
 induction l with
 |nil=>simp[jf]at H
 |cons e l i=>
  rw[cp,gK];by_cases h:e.1=k;simp[h];rw[gK,af h]at H;have a:(e.1==k)=false:=by simp[h]
  rw[a];simp only[aV,bQ,af h];exact i H
def Jg(l L:List (Int×Value))(k:Int):jf (l++L) k=(jf l k).or (jf L k):=by
 induction l with
 |nil=>rfl
 |cons e l i=>rw[eH,gK,gK,i];by_cases h:e.1=k<;>simp[h]
theorem NL(l:List (Int×Value))(k K:Int)(v:Value):jf (Je l k v) K=if K=k then some v else jf l K:=by
 unfold Je;by_cases H:(jf l k).isSome=true;rw[ah H];by_cases h:K=k;subst h;rw[ah rfl,FC _ _ _ H];rw[af h,C7 _ _ _ _ h];rw[af H,Jg,gK,PM];have a:jf l k=none:=by simp_all
 by_cases h:K=k;grind;grind
theorem NM(l:List (Int×Value))(k K:Int):jf (zA l k) K=if K=k then none else jf l K:=by
 unfold zA;induction l with
 |nil=>simp[jf]
 |cons e l i=>
  rw[dK,gK];by_cases h:e.1=k;grind;have H:(!(e.1==k))=true:=by simp[h]
  rw[ah H,gK,i];by_cases a:K=k;grind;simp[a]
theorem NN(l:List (Int×Value))(k:Int)(v:Value)(H:(l.map (·.1)).Nodup):((Je l k v).map (·.1)).Nodup:=by unfold Je;by_cases h:(jf l k).isSome=true;grind;rw[af h,bB];rw[Jf]at h;rw[fN];exact⟨H,bO,by grind⟩
def NO(l:List (Int×Value))(k:Int)(h:(l.map (·.1)).Nodup):((zA l k).map (·.1)).Nodup:=
 List.Sublist.nodup (List.Sublist.map _ dX) h
def tj(h:Heap)(m:Nat)(l:List (Int×Value)):Prop:=
 ∃(E:Array MapEntry)(c:Nat),h[m]? =some (.map E c)/\E.toList.map (λe=>(e.key,e.val))=l.map (λe=>(Value.int .i64 e.1,e.2))/\(l.map (·.1)).Nodup/\
  (∀e∈E.toList,e.born<c)/\(E.toList.map (·.born)).Nodup
def nR(h:Heap)(m:Nat)(f:Int->Option Value):Prop:= ∃l,tj h m l/\∀k,jf l k=f k
def tj.mV{h H:Heap}{m:Nat}{l:List (Int×Value)}(f:tj h m l)(d:H[m]? =h[m]?):tj H m l:=by have⟨e,c,a,b⟩:=f;exact⟨e,c,d.trans a,b⟩
def tj.lt{h:Heap}{m:Nat}{l:List (Int×Value)}(a:tj h m l):m<h.size:=by have⟨e,c,H,_⟩:=a;exact aE H
def tj.frame{S:fZ}{h H:Heap}{m:Nat}{l:List (Int×Value)}(a:tj h m l)(b:Fr S h H)(c: ¬S m):tj H m l:=
 a.mV (b.2 m a.lt c)
def nR.mV{h H:Heap}{m:Nat}{f:Int->Option Value}(d:nR h m f)(c:H[m]? =h[m]?):nR H m f:=by have⟨l,a,b⟩:=d;exact⟨l,a.mV c,b⟩
def nR.lt{h:Heap}{m:Nat}{f:Int->Option Value}(a:nR h m f):m<h.size:=by have⟨l,H,_⟩:=a;exact H.lt
def nR.frame{S:fZ}{h H:Heap}{m:Nat}{f:Int->Option Value}(d:nR h m f)(c:Fr S h H)(e: ¬S m):nR H m f:=by have⟨l,a,b⟩:=d;exact⟨l,a.frame c e,b⟩
def nR.map{h:Heap}{m:Nat}{f:Int->Option Value}(a:nR h m f): ∃e c,h[m]? =some (.map e c):=by have⟨l,⟨e,c,H,_⟩,_⟩:=a;exact⟨e,c,H⟩
def tj.push(h:Heap):tj (h.push (.map #[] 0)) h.size []:=⟨#[],0,aU,rfl,bO,bO,bO⟩
def nR.push(h:Heap):nR (h.push (.map #[] 0)) h.size (λ_=>none):=⟨[],tj.push h,λ_=>rfl⟩
theorem tn{k:Int}: ∀(E:List MapEntry)(l:List (Int×Value))(i:Nat)(d:IntKind),E.map (λe=>(e.key,e.val))=l.map (λe=>(Value.I e.1,e.2))->
  (jf l k=none->Instr.findNow (.int d) (.I k) E i=some none)/\
  (∀v,jf l k=some v->∃j,Instr.findNow (.int d) (.I k) E i=some (some (i+j,v))/\∃e,E[j]? =some e/\e.key=.I k/\e.val=v)
 | [],l,i,d,h=>by
  have:l= []:=by simp_all
  subst this;exact⟨λ_=>rfl,λv f=>by simp[jf]at f⟩
 |e::E,l,i,d,h=>by
  cases l with
  |nil=>simp at h
  |cons x l=>
   simp only[cp,List.cons.injEq,Prod.mk.injEq]at h;have⟨⟨o,f⟩,q⟩:=h;have I:=tn (k:=k) E l (i+1) d q;have c:Instr.sameNow (.int d) (.I k) e.key=some (k==x.1):=by rw[o];simp[Instr.sameNow]
   by_cases a:x.1=k;refine⟨(λb=>by rw[gK,ah a]at b;cases b),λv H=>⟨0,?_,e,rfl,by grind,?_⟩⟩;rw[gK,ah a]at H;simp only[cr]at H;simp[Instr.findNow,c,a,f,H];rw[gK,ah a]at H;simp only[cr]at H;rw[f,H];have p:(k==x.1)=false:=by grind
   rw[p]at c;refine⟨λb=> ?_,λv H=> ?_⟩;rw[gK,af a]at b;simp only[Instr.findNow,c];exact I.1 b;rw[gK,af a]at H;have⟨j,m,g,r,n⟩:=I.2 v H;refine⟨j+1,?_,g,by grind,n⟩;simp only[Instr.findNow,c];rw[m,show i+1+j=i+(j+1) by omega]
section
variable {P : Program}
def tF{empty:Bool}{n:Nat}{t:TypeId}{d:IntKind}{v:Value}{h:Heap}(H:P.underlying t=some (.int d)):rd P (Instr.checkKey empty (n+1) t v) h=some ():=by unfold Instr.checkKey;rw[ba _ _ _ _ (bh H)];rfl
def mf{t:TypeId}{d:IntKind}{k:Int}{E:List MapEntry}{l:List (Int×Value)}{h:Heap}(b:P.underlying t=some (.int d))(a:E.map (λe=>(e.key,e.val))=l.map (λe=>(Value.I e.1,e.2)))(H:jf l k=none):rd P (Instr.findKey t (.I k) E) h=some none:=by
 unfold Instr.findKey;rw[ba _ _ _ _ (bh b)];simp only[(tn E l 0 d a).1 H];rfl
def mg{t:TypeId}{d:IntKind}{k:Int}{v:Value}{E:List MapEntry}{l:List (Int×Value)}{h:Heap}(f:P.underlying t=some (.int d))(c:E.map (λe=>(e.key,e.val))=l.map (λe=>(Value.I e.1,e.2)))(b:jf l k=some v): ∃j,rd P (Instr.findKey t (.I k) E) h=some (some (j,v))/\∃e,E[j]? =some e/\e.key=.I k/\e.val=v:=by
 have⟨j,H,a⟩:=(tn E l 0 d c).2 v b;refine⟨j,?_,a⟩;unfold Instr.findKey;rw[ba _ _ _ _ (bh f)];simp only[H,aX];rfl
def gu{t:TypeId}{i:TypeInfo}{z:Value}{h:Heap}(H:P.info? t=some i)(a:i.zero=some z):rd P (zeroValue t) h=some z:=by unfold zeroValue;rw[ba _ _ _ _ (eE H),a];rfl
def jj{r:Nat}{e:Array MapEntry}{c:Nat}{h:Heap}(H:h[r]? =some (.map e c)):rd P (getObj r) h=some (.map e c):=by unfold getObj;simp only[rd,H]
structure tH (P:Program) (t:TypeId) (z:Value):Prop where
 ty: ∃k e d,P.underlying t=some (.map k e)/\P.underlying k=some (.int d)/\∃i,P.info? e=some i/\i.zero=some z
theorem tH.of{P:Program}{t:TypeId}{z:Value}(k e:TypeId)(d:IntKind)(h:P.underlying t=some (.map k e))(H:P.underlying k=some (.int d))(b:(P.info? e).bind (·.zero)=some z):tH P t z:=by
 cases a:P.info? e with
 |none=>grind
 |some i=>exact⟨k,e,d,h,H,i,a,by grind⟩
def Jh{t:TypeId}{z:Value}(T:tH P t z){h:Heap}{m:Nat}{l:List (Int×Value)}(n:tj h m l)(k:Int):
  rd P (Instr.lookup t (.map (some m)) (.I k) false) h=some ((jf l k).getD z)/\
  rd P (Instr.lookup t (.map (some m)) (.I k) true) h=some (.T #[(jf l k).getD z,.B (jf l k).isSome]):=by
 have⟨K,e,d,p,H,i,g,q⟩:=T.ty;have⟨E,C,f,b,_⟩:=n;have gen: ∀o,rd P (Instr.lookup t (.map (some m)) (.I k) o) h=some (if o then .T #[(jf l k).getD z,.B (jf l k).isSome]else(jf l k).getD z):=λo=>by
  unfold Instr.lookup;rw[ba _ _ _ _ (bh p),ba _ _ _ _ (jj f),ba _ _ _ _ (jG _),ba _ _ _ _ (tF H)];cases a:jf l k with
  |none=>rw[ba _ _ _ _ (mf H b a),ba _ _ _ _ (gu g q)];cases o<;>rfl
  |some v=>have⟨j,c,_⟩:=mg (h:=h) H b a;rw[ba _ _ _ _ c];cases o<;>rfl
 exact⟨gen false,gen true⟩
def Gv{t:TypeId}{z:Value}(T:tH P t z){h:Heap}{m:Nat}{f:Int->Option Value}(b:nR h m f)(k:Int):
  xK P t (.map (some m)) (.I k) false h ((f k).getD z):=λd c=>by
 have⟨l,a,H⟩:=b;rw[<-H k];exact(Jh T (a.mV c) k).1
def HM{t:TypeId}{z:Value}(T:tH P t z){h:Heap}{m:Nat}{f:Int->Option Value}(b:nR h m f)(k:Int):
  xK P t (.map (some m)) (.I k) true h (.T #[(f k).getD z,.B (f k).isSome]):=λd c=>by
 have⟨l,a,H⟩:=b;rw[<-H k];exact(Jh T (a.mV c) k).2
def aZ{b c:Type}{s:Sem b}{g:b->Sem c}{h:Heap}{a:b}{K:c->cM}(d:rd P s h=some a)(H:bu P (g a) h K):bu P (s>>=g) h K:=
 (cY s g K).2 (Px s h a d _ H)
theorem K8{E:List MapEntry}{l:List (Int×Value)}{k:Int}{v:Value}{j:Nat}(d:E.map (λe=>(e.key,e.val))=l.map (λe=>(Value.I e.1,e.2)))(n:(l.map (·.1)).Nodup){e:MapEntry}(s:E[j]? =some e)(u:e.key=.I k)(f:MapEntry->MapEntry)(t: ∀e:MapEntry,(f e).key=.I k/\(f e).val=v):
  (E.modify j f).map (λe=>(e.key,e.val))=(l.map (λe=>if e.1==k then(k,v)else e)).map (λe=>(Value.I e.1,e.2)):=by
 apply List.ext_getElem?;intro i;have g: ∀i:Nat,(E[i]?).map (λe=>(e.key,e.val))=(l[i]?).map (λe=>(Value.I e.1,e.2)):=λi=>by have:=bY (·[i]?) d;simpa using this
 cases m:l[j]? with
 |none=>grind
 |some x=>
  have o:x.1=k:=by grind
  simp only[aP,List.getElem?_modify,Option.map_map];by_cases H:j=i;grind;have h:=g i;cases b:E[i]? with
  |none=>grind
  |some r=>
   rw[b]at h;cases a:l[i]? with
   |none=>grind
   |some y=>
    rw[a]at h;simp only[dB,cr,Prod.mk.injEq]at h;have q:y.1≠k:=by
     intro p;apply H;have c:j<(l.map (·.1)).length:=by grind
     refine(eK c n).1 ?_;simp[m,a,o,p]
    simp[H,q,h.1,h.2]
def FD{t:TypeId}{z:Value}(T:tH P t z){h:Heap}{m:Nat}{l:List (Int×Value)}(U:tj h m l){k:Int}{v:Value}{K:Unit->cM}(R: ∀g,tj g m (Je l k v)->g.size=h.size->(∀c,c≠m->g[c]? =h[c]?)->K () g):bu P (Instr.mapUpdate t (.map (some m)) (.I k) v) h K:=by
 obtain⟨kt,e,a',X,s,_⟩:=T.ty;obtain⟨E,Z,r,o,D,w,G⟩:=U;have S:=aE r;unfold Instr.mapUpdate;refine aZ (bh X) ?_;simp only;refine aZ (jj r) ?_;simp only;refine aZ (tF s) ?_;have F: ∀(d:Array MapEntry)(C:Nat),d.toList.map (λe=>(e.key,e.val))=(Je l k v).map (λe=>(Value.I e.1,e.2))->(∀e∈d.toList,e.born<C)->(d.toList.map (·.born)).Nodup->
   bu P (setObj m (.map d C)) h K:=λd C q I J=>by
  refine⟨⟨_,r,λc e b' O=>by cases O⟩,?_⟩;refine R _ ⟨d,C,by simp[S],q,NN l k v D,I,J⟩ bO (λc M=> ?_);rw[cS,af (Ne.symm M)]
 cases n:jf l k with
 |none=>refine aZ (mf s o n) ?_;simp only;refine F _ _ ?_ ?_ ?_;unfold Je;rw[n];simp[o];intro p H;simp only[Array.toList_push,cG,bT]at H;rcases H with H|rfl;exact Nat.lt_succ_of_lt (w _ H);exact Nat.lt_succ_self _;simp only[Array.toList_push,bB,cp,List.map_nil];rw[fN];refine⟨G,bO,?_⟩;intro a L b y;simp at y;subst y;obtain⟨p,H,rfl⟩:=bR.1 L;exact Nat.ne_of_lt (w _ H)
 |some c'=>
  obtain⟨j,q,p,H,B,_⟩:=mg (h:=h) s o n;refine aZ q ?_;simp only;have Q:E[j]? =some p:=by simpa using H
  have V:rd P (Instr.keyThatStays (((E[j]?).map (·.key)).getD (.I k)) (.I k)) h=some (.I k):=by
   rw[Q];simp only[dB,Option.getD_some,B];unfold Instr.keyThatStays;have:Instr.sameBits 10000 (.I k) (.I k)=true:=by unfold Instr.sameBits;simp
   rw[ah this];rfl
  refine aZ V ?_;refine F _ _ ?_ ?_ ?_;unfold Je;rw[n];simp only[Option.isSome_some,cI];rw[Array.toList_modify];exact K8 o D H B _ (λe=>⟨rfl,rfl⟩);intro e2 A;rw[Array.toList_modify]at A;obtain⟨i,f⟩:=cd A;rw[List.getElem?_modify]at f;cases u:E.toList[i]? with
  |none=>rw[u]at f;simp at f
  |some x=>rw[u]at f;have:=w x (aW u);simp only[Option.map_eq_map,dB,cr]at f;subst f;split<;>exact this
  rw[Array.toList_modify];have:(E.toList.modify j λe=> { e with key:=Value.I k,val:=v }).map (·.born)=E.toList.map (·.born):=by
   apply List.ext_getElem?;intro i;simp only[aP,List.getElem?_modify];cases E.toList[i]? with
   |none=>rfl
   |some x=>simp only[Option.map_eq_map,dB];split<;>rfl
  rw[this];exact G
def tJ{t:TypeId}{z:Value}(T:tH P t z){h:Heap}{m:Nat}{f:Int->Option Value}(j:nR h m f){k:Int}{v:Value}{K:Unit->cM}(g: ∀H,nR H m (λx=>if x=k then some v else f x)->H.size=h.size->(∀c,c≠m->H[c]? =h[c]?)->K () H):bu P (Instr.mapUpdate t (.map (some m)) (.I k) v) h K:=by
 have⟨l,i,e⟩:=j;refine FD T i λH a b d=>g H ⟨_,a,λx=> ?_⟩ b d;rw[NL,e]
theorem erase_filter{E:List MapEntry}{l:List (Int×Value)}{k:Int}(c:E.map (λe=>(e.key,e.val))=l.map (λe=>(Value.I e.1,e.2)))(h:(l.map (·.1)).Nodup):
  ∀{j:Nat}{e:MapEntry},E[j]? =some e->e.key=.I k->(E.eraseIdx j).map (λe=>(e.key,e.val))=(zA l k).map (λe=>(Value.I e.1,e.2)):=by
 induction E generalizing l with
 |nil=>simp
 |cons x E I=>
  intro j e o m;cases l with
  |nil=>simp at c
  |cons y l=>
   simp only[cp,List.cons.injEq,Prod.mk.injEq]at c;have⟨⟨f,g⟩,b⟩:=c;simp only[cp,fT]at h;have⟨d,h⟩:=h;cases j with
   |zero=>
    have H:y.1=k:=by grind
    have:zA (y::l) k=l:=by unfold zA;rw[dK,af (by simp[H]),cZ];intro a n;have:a.1≠k:=λe=>d (by grind);simp[this]
    rw[this];simpa using b
   |succ j=>
    have i:E[j]? =some e:=by grind
    have H:y.1≠k:=by
     intro H;apply d;have p:=bY (·[j]?) b;cases q:l[j]? with
     |none=>grind
     |some z=>grind
    have:zA (y::l) k=y::zA l k:=by unfold zA;rw[dK,ah (by simp[H])]
    rw[this];simp only[List.eraseIdx_cons_succ,cp,f,g];rw[I b h i m]
def K9{t U V:TypeId}{z:Value}(T:tH P t z){h:Heap}{m:Nat}{l:List (Int×Value)}(n:tj h m l){k:Int}{K:dH}(O: ∀H,tj H m (zA l k)->H.size=h.size->(∀c,c≠m->H[c]? =h[c]?)->K (.T #[]) H):bu P (Builtin.delete_ #[t,U] V #[.map (some m),.I k]) h K:=by
 obtain⟨y,e,d,S,r,_⟩:=T.ty;obtain⟨E,C,p,g,s,w,v⟩:=n;have R:=aE p;unfold Builtin.delete_;refine aZ (bh S) ?_;show bu P (do
   let __x<-getObj m
   match __x with
    |Obj.map E C=>do
     Instr.checkKey E.isEmpty 10000 y (Value.int IntKind.i64 k)
     let __do_lift<-Instr.findKey y (Value.int IntKind.i64 k) E.toList
     match __do_lift with
      |some (i,_)=>do
       setObj m (Obj.map (E.eraseIdxIfInBounds i) C)
       pure (Value.tuple #[])
      |none=>do
       setObj m (Obj.map E C)
       pure (Value.tuple #[])
    |_=>do
     stuck "delete: map expected"
     pure (Value.tuple #[])) h K
 refine aZ (jj p) ?_;simp only;refine aZ (tF r) ?_;have F: ∀(b:Array MapEntry),b.toList.map (λe=>(e.key,e.val))=(zA l k).map (λe=>(Value.I e.1,e.2))->(∀e∈b.toList,e.born<C)->(b.toList.map (·.born)).Nodup->
   bu P (do setObj m (.map b C);pure (Value.tuple #[])) h K:=λb o B D=>by
  rw[cY];refine⟨⟨_,p,λc e f J=>by cases J⟩,?_⟩;refine O _ ⟨b,C,by simp[R],o,NO l k s,B,D⟩ bO (λc I=> ?_);rw[cS,af (Ne.symm I)]
 cases q:jf l k with
 |none=>
  refine aZ (mf r g q) ?_;refine F E ?_ w v;have:zA l k=l:=by
   unfold zA;rw[cZ];intro a G;have:a.1≠k:=λe=>by have n:k∈l.map (·.1):=e▸cm G;rw[<-Jf,q]at n;cases n
   simp[this]
  rw[this];exact g
 |some u=>
  obtain⟨j,o,X,L,Q,_⟩:=mg (h:=h) r g q;refine aZ o ?_;have x:List.Sublist (E.eraseIdxIfInBounds j).toList E.toList:=by rw[Array.toList_eraseIdxIfInBounds];exact List.eraseIdx_sublist _ _
  refine F _ ?_ ?_ ?_;rw[Array.toList_eraseIdxIfInBounds];exact erase_filter g s L Q;intro A M;exact w A (x.subset M);exact(x.map _).nodup v
def AQ{t n o:TypeId}{z:Value}(T:tH P t z){h:Heap}{m:Nat}{f:Int->Option Value}(j:nR h m f){k:Int}{K:dH}(g: ∀H,nR H m (λx=>if x=k then none else f x)->H.size=h.size->(∀c,c≠m->H[c]? =h[c]?)->K (.T #[]) H):bu P (Builtin.delete_ #[t,n] o #[.map (some m),.I k]) h K:=by
 have⟨l,i,e⟩:=j;refine K9 T i λH a b d=>g H ⟨_,a,λx=> ?_⟩ b d;rw[NM,e]
end
end Go.Den
namespace Go.Den
def fY{h:Heap}{b i:Nat}{c:Array Value}{t:TypeId}{f:Nat×Nat}{v:Value}(H:h[b]? =some (.C c t f))(a:c[i]? =some v):aQ h (AA b i)=some v:=by rw[jY H,a]
def aY{h:Heap}{b i:Nat}{c:Array Value}{t:TypeId}{v:Value}{K:cM}(a:h[b]? =some (.C c t (0,0)))(d:i<c.size)(e: ∀H,H[b]? =some (.C (c.setIfInBounds i v) t (0,0))->H.size=h.size->(∀x,x≠b->H[x]? =h[x]?)->K H):aI h (AA b i) v K:=by
 refine⟨?_,lM a,?_⟩;rw[jY a];simp[d];rintro _ rfl;exact e _ (zw a) Gu (λx f=>wK f)
def Fr.of_eq{S:fZ}{h H:Heap}(d:H.size=h.size)(b: ∀c,¬S c->H[c]? =h[c]?):Fr S h H:=⟨ae,λc _ a=>b c a⟩
def df{n:Int}(h: -9223372036854775808<=n)(H:n<=9223372036854775807):IntKind.wrap .i64 n=n:=IntWalk.i64_in n ⟨h,H⟩
def wrap_u64{n:Int}(h:0<=n)(H:n<=18446744073709551615):IntKind.wrap .u64 n=n:=IntWalk.u64_in n ⟨h,H⟩
def wrap_u8{n:Int}(h:0<=n)(H:n<=255):IntKind.wrap .u8 n=n:=IntWalk.u8_in n ⟨h,H⟩
def Fr.kp{h H:Heap}{l:List (bH)}(f:Fr (λ_=>False) h H):Kp h H l:=λ_ _ x _ a=>f.2 x.block a id
def Fr.St{S:fZ}{h H:Heap}{l:List (bH)}(f:Fr S h H)(a: ∀p∈l,∀x,p=some x->¬S x.block):Kp h H l:=λp b x e c=>f.2 x.block c (a p b x e)
def Fr.no{h H a:Heap}{S:fZ}(b:Fr (λ_=>False) h H)(c:Fr S H a):Fr S h a:=b.trans c (λ_ _=>False.elim) bD
def Fr.on{h H a:Heap}{S:fZ}(b:Fr S h H)(c:Fr (λ_=>False) H a):Fr S h a:=b.trans c bD (λ_ _=>False.elim)
def Fr.tt{h H a:Heap}{S:fZ}(b:Fr S h H)(c:Fr S H a):Fr S h a:=b.trans c bD bD
def Fr.step{S:fZ}{h a b:Heap}(e:Fr (λ_=>False) h a)(g:Fr S a b)(f: ∀c,c<h.size->¬S c):Fr (λ_=>False) h b:=
 e.trans g (λ_ _ H=>H) (λc d H=>f c d H)
end Go.Den
namespace Go.Den
section
variable {h:Heap} {n:Int}
abbrev fM(h:Heap)(a:Addr)(K:Int→Prop):Prop:= ∃t,aQ h a=some (.int .u64 t)∧K t
abbrev iw(h:Heap)(a:Addr)(K:Int→Prop):Prop:= ∃t,aQ h a=some (.int .i64 t)∧K t
abbrev Ji(h:Heap)(a:Addr)(K:Int→Prop):Prop:= ∃t,aQ h a=some (.int .u8 t)∧K t
abbrev wj(h:Heap)(a:Addr)(K:Bool→Prop):Prop:= ∃t,aQ h a=some (.bool t)∧K t
abbrev UX(h:Heap)(a:Addr)(K:Option Addr→Prop):Prop:= ∃t,aQ h a=some (.pointer t)∧K t
abbrev jZ(h:Heap)(a:Addr)(K:ByteArray→Prop):Prop:= ∃t,aQ h a=some (.string t)∧K t
abbrev oM(h:Heap)(a:Addr)(K:Option Addr→Nat→Nat→Prop):Prop:= ∃p l c,aQ h a=some (.slice p l c)∧K p l c
abbrev Hu(h:Heap)(b i:Nat)(K:Int→Prop):Prop:= ∃t,aQ h ⟨b,i,none⟩=some (.int .u64 t)∧K t
abbrev Hi(h:Heap)(b i:Nat)(K:Int→Prop):Prop:= ∃t,aQ h ⟨b,i,none⟩=some (.int .i64 t)∧K t
abbrev Hy(h:Heap)(b i:Nat)(K:Int→Prop):Prop:= ∃t,aQ h ⟨b,i,none⟩=some (.int .u8 t)∧K t
abbrev Hb(h:Heap)(b i:Nat)(K:Bool→Prop):Prop:= ∃t,aQ h ⟨b,i,none⟩=some (.bool t)∧K t
abbrev Hp(h:Heap)(b i:Nat)(K:Option Addr→Prop):Prop:= ∃t,aQ h ⟨b,i,none⟩=some (.pointer t)∧K t
abbrev Hs(h:Heap)(b i:Nat)(K:ByteArray→Prop):Prop:= ∃t,aQ h ⟨b,i,none⟩=some (.string t)∧K t
abbrev Hl(h:Heap)(b i:Nat)(K:Option Addr→Nat→Nat→Prop):Prop:= ∃p l c,aQ h ⟨b,i,none⟩=some (.slice p l c)∧K p l c
abbrev Vb(v:Value)(K:Bool→Prop):Prop:= ∃t,v=.bool t∧K t
abbrev Vi(v:Value)(K:Int→Prop):Prop:= ∃t,v=.int .i64 t∧K t
abbrev Vu(v:Value)(K:Int→Prop):Prop:= ∃t,v=.int .u64 t∧K t
abbrev Vp(v:Value)(K:Option Addr→Prop):Prop:= ∃t,v=.pointer t∧K t
abbrev Vl(v:Value)(K:Option Addr→Nat→Nat→Prop):Prop:= ∃p l c,v=.slice p l c∧K p l c
abbrev Bd(i:Int)(n:Nat):Prop:=(0:Int)≤i∧i<((n:Nat):Int)
abbrev Cc(h:Heap)(b i:Nat)(v:Value):Prop:=aQ h ⟨b,i,none⟩=some v
abbrev No:Nat→Prop:=λ_=>False
abbrev lf:nQ:=.leaf
abbrev ll:nQ:=.seq .leaf .leaf
abbrev lq(a:nQ):nQ:=.seq .leaf a
abbrev sq(a b:nQ):nQ:=.seq a b
abbrev cq(a b:nQ):nQ:=.cond a b
abbrev bq(a:nQ):nQ:=.block a
abbrev pK(n:Nat):nQ:=.ju (fE n 0 .done)
abbrev pN(n:Nat):nQ:=.pn (fE n 0 .done)
abbrev sI:Sh:=.one (.int .i64)
abbrev sU:Sh:=.one (.int .u64)
abbrev sB:Sh:=.one .bool
abbrev sP:Sh:=.one .ptr
abbrev sS:Sh:=.one .slice
def mL:List Nat→xQ→xQ
 | [],p=>p
 |i::l,p=> .op i (mL l p)
def UY(l:List (Nat×(nQ→nQ)))(i:Nat)(a:nQ):nQ:=match l with
 | []=>a
 |(j,f)::l=>match Nat.beq i j with
  |true=>f (UY l i a)
  |false=>UY l i a
def sk(l:List (Nat×(nQ→nQ))):Code→Nat→(nQ→Nat→nQ×Nat)→nQ×Nat
 | .seq a b,i,K=>sk l a (i+1) λx j=>sk l b j λy k=>K (UY l i (.seq x y)) k
 | .cond _ a b,i,K=>sk l a (i+1) λx j=>sk l b j λy k=>K (UY l i (.cond x y)) k
 | .block _ a,i,K=>sk l a (i+1) λx j=>K (UY l i (.block x)) j
 | .loop a,i,K=>sk l a (i+1) λx j=>K (UY l i x) j
 |_,i,K=>K (UY l i .leaf) (i+1)
def aD{P:Program}{f:FuncId}{args:List Value}{R:Value→Heap→Prop}{A:Prop}(l:List (Nat×(nQ→nQ)))(c:A)(H:P.funcs[f]?.isSome=true:=by kernel_rfl)(a:(P.funcs[f]?.get H).body.isSome=true:=by kernel_rfl)(b:Nat.ble args.length (P.funcs[f]?.get H).ntmps=true:=by kernel_rfl)(e:A=den P (P.funcs[f]?.get H).ntmps (sk l (oL (P.funcs[f]?.get H)) 0 Prod.mk).1 none (oL (P.funcs[f]?.get H)) (UU P (P.funcs[f]?.get H).results R) (ku args) h:=by kernel_rfl):jS P f args.toArray h R:=C1 _ (Option.some_get H).symm a b (Eq.mp e c)
def aj{b i:Nat}{c:Array Value}{t:TypeId}{f:Nat×Nat}(H:h[b]? =some (.cells c t f)):aQ h ⟨b,i,none⟩=c[i]? :=jY H
def eY(H: -9223372036854775808≤n:=by omega)(a:n≤9223372036854775807:=by omega):IntKind.wrap .i64 n=n:=df H a
def HN(H:0≤n:=by omega)(a:n≤18446744073709551615:=by omega):IntKind.wrap .u64 n=n:=wrap_u64 H a
abbrev jA(h:Heap)(R:Value→Heap→Prop)(v:Value):Prop:= ∀H,Fr (λ_=>False) h H→R v H
abbrev ry(x:Int):BitVec (IntKind.bits .u64):=BitVec.ofInt (IntKind.bits .u64) x
abbrev vq(x:Int):BitVec (IntKind.bits .u8):=BitVec.ofInt (IntKind.bits .u8) x

end
def Row(h:Heap)(p:bH)(c:List Value):Prop:=c= []\/∃a,p=some a/\cz a c 0 h
def Row.nil{h:Heap}{p:bH}:Row h p []:=.inl rfl
theorem kx{h:Heap}{a:Addr}: ∀{C:List Value}{i:Nat},cz a C i h↔ ∀j v,C[j]? =some v->aQ h (a.add (i+j))=some v
 | [],i=>by simp[cz]
 |c::C,i=>by simp only[cz];rw[kx];constructor;grind;intro H;refine⟨H 0 c rfl,λj v b=> ?_⟩;have:=H (j+1) v (by grind);rwa[show i+(j+1)=i+1+j by omega]at this
def dy{h:Heap}{b o:Nat}{c:Array Value}{t:TypeId}{f:Nat×Nat}{C:List Value}(H:h[b]? =some (.C c t f))(a: ∀j v,C[j]? =some v->c[o+j]? =some v):cz (AA b o) C 0 h:=by rw[kx];intro j v d;rw[aX,hH,jY H];exact a j v d
def lO{S:fZ}{h H:Heap}(b:Fr S h H){a:Addr}(e: ¬S a.block): ∀{c:List Value}{i:Nat},cz a c i h->cz a c i H
 | [],_,_=>trivial
 |_::_,i,d=>⟨b.cell d.1 (by unfold Addr.add;split<;>exact e),lO b e d.2⟩
def Row.frame{S:fZ}{h H:Heap}(b:Fr S h H){p:bH}{c:List Value}(f:Row h p c)(e: ∀a,p=some a->¬S a.block):Row H p c:=by rcases f with rfl|⟨a,rfl,d⟩;exact .inl rfl;exact .inr ⟨a,rfl,lO b (e a rfl) d⟩
def Row.cell{h:Heap}{a:Addr}{c:List Value}(d:Row h (some a) c){j:Nat}{v:Value}(H:c[j]? =some v):aQ h (a.add j)=some v:=by rcases d with rfl|⟨A,e,b⟩;simp at H;cases e;have:=kx.1 b j v H;rwa[aX]at this
theorem Row.some{h:Heap}{p:bH}{c:List Value}(H:Row h p c)(b:c≠ []): ∃a,p=some a:=by rcases H with rfl|⟨a,e,_⟩;grind;grind
def Row.any{b:Type}{E:b->List Value}{n:Nat}{X:List b}{h:Heap}{p:bH}(d:Row h p (X.flatMap E))(H: ∀x,(E x).length=n+1)(c:0<X.length:=by omega): ∃a,p=Option.some a:=
 d.some (by
  cases X with
  |nil=>cases c
  |cons x X=>intro e;have:=bY List.length e;rw[eM,ak,H]at this;simp at this)
def tL{a:Type}{l:List a}{i:Nat}(h:i<l.length): ∃x,l[i]? =some x:=⟨_,ai h⟩
def Wm{a:Type}(l:List a)(i:Nat)(h:i<l.length:=by omega): ∃x,l[i]? =some x:=⟨_,ai h⟩
section
variable {P : Program}
theorem iF{h:Heap}{q:bH}{n cq s:Nat}{d:List Value}(b:Row h q d)(c:d.length=n*s):rd P (Builtin.firstCells s n (.L q n cq)) h=some d.toArray:=by
 cases q with
 |none=>
  have:d= []:=by rcases b with rfl|⟨a,e,_⟩;rfl;cases e
  subst this;rfl
 |some a=>
  show rd P (loadCells a (n*s)) h=_;have H:cz a d 0 h:=by rcases b with rfl|⟨A,e,H⟩;trivial;grind
  unfold loadCells;rw[<-c,iM d 0 #[] h H];simp
theorem Gw{n:Nat}: ∀(r c:Nat),c<2*n->256<=c->Builtin.growBy n r c<=2*n
 |0,c,h,_=>by unfold Builtin.growBy;omega
 |r+1,c,h,a=>by unfold Builtin.growBy;split;omega;rename_i b;by_cases H:c+(c+768)/4<2*n;exact Gw r _ H ae;grind
def nextslicecap_le{need cap:Nat}(h:cap<need):Builtin.nextslicecap need cap<=2*need:=by
 unfold Builtin.nextslicecap;split;omega;split
 omega;exact Gw 4 cap ae ae
inductive Own (h:Heap) (p:bH) (len cap sz:Nat) (cs:List Value):Prop
 |nil (hp:p=none) (hl:len=0) (hc:cap=0) (Y4:cs= [])
 |row (b off:Nat) (c:Array Value) (t:TypeId) (hp:p=some ⟨b,off,none⟩) (hb:h[b]? =some (.cells c t (0,0))) (hl:len<=cap) (hc:off+cap*sz<=c.size) (hn:cs.length=len*sz) (Y4: ∀j v,cs[j]? =some v->c[off+j]? =some v)
def aN(p:bH)(c:Nat):Prop:= ∃a,p=some a/\a.block=c
theorem Own.length{h:Heap}{p:bH}{len cap s:Nat}{C:List Value}(o:Own h p len cap s C):C.length=len*s:=by
 cases o with
 |nil _ d _ a=>grind
 |row b O c t _ _ _ _ H _=>exact H
def Own.iy{h:Heap}{p:bH}{len cap s:Nat}{C:List Value}(o:Own h p len cap s C):Row h p C:=by
 cases o with
 |nil _ _ _ H=>exact .inl H
 |row b O c t d a _ _ _ H=>exact .inr ⟨_,d,dy a H⟩
def Own.frame{S:fZ}{h f:Heap}{p:bH}{len cap s:Nat}{C:List Value}(o:Own h p len cap s C)(i:Fr S h f)(k: ∀c,aN p c->¬S c):Own f p len cap s C:=by
 cases o with
 |nil H e a d=>exact .nil H e a d
 |row b O c t H g e a j d=>exact .row b O c t H (i.get g (k b ⟨_,H,rfl⟩)) e a j d
theorem Own.dW{h:Heap}{p:bH}{len cap s:Nat}{C:List Value}(o:Own h p len cap s C){c:Nat}(H:aN p c):c<h.size:=by
 obtain⟨a,e,rfl⟩:=H;cases o with
 |nil d _ _ _=>grind
 |row b O c t d f _ _ _ _=>grind
theorem Own.cells{h:Heap}{p:bH}{len cap s:Nat}{C:List Value}(o:Own h p len cap s C){b:Nat}(H:aN p b): ∃c t,h[b]? =some (.C c t (0,0)):=by
 obtain⟨a,e,rfl⟩:=H;cases o with
 |nil d _ _ _=>grind
 |row b O c t d H _ _ _ _=>grind
def Own.le{h:Heap}{p:bH}{len cap s:Nat}{C:List Value}(o:Own h p len cap s C):len<=cap:=by
 cases o with
 |nil _ H a _=>omega
 |row b O c t _ _ H _ _ _=>exact H
theorem Own.some{h:Heap}{p:bH}{len cap s:Nat}{C:List Value}(o:Own h p len cap s C)(a:0<C.length): ∃b O,p=some (AA b O):=by
 cases o with
 |nil _ _ _ H=>grind
 |row b O c t d _ _ _ _ _=>grind
def Own.cell{h:Heap}{a:Addr}{len cap s:Nat}{c:List Value}(o:Own h (.some a) len cap s c){j:Nat}{v:Value}(H:c[j]? =.some v):aQ h (a.add j)=.some v:=o.iy.cell H
def Own.store{h:Heap}{a:Addr}{len cap s:Nat}{cs:List Value}{j:Nat}{v:Value}{K:cM}(o:Own h (.some a) len cap s cs)(r:j<cs.length)(u: ∀H,Own H (.some a) len cap s (cs.set j v)->H.size=h.size->(∀x,¬aN (.some a) x->H[x]? =h[x]?)->K H):aI h (a.add j) v K:=by
 cases o with
 |nil f _ _ _=>cases f
 |row b O c t f n g p y q=>cases f;rw[hH];have A:len*s<=cap*s:=dP _ g;refine aY n ae λH k l m=>u H (.row b O _ t rfl k g (dQ p) (by simpa using y) ?_) l (λx z=>m x (λe=>z ⟨_,rfl,e.symm⟩));intro i w d;rw[List.getElem?_set]at d;rw[cS];by_cases e:j=i;subst e;rw[ah rfl,ah r]at d;rw[ah rfl,iE];exact d;rw[af e]at d;rw[fe];exact q i w d
def Own.sub{h:Heap}{p:bH}{len cap sz:Nat}{C:List Value}(o:Own h p len cap sz C){l u:Nat}(m:l<=u)(n:u<=len):Own h (bV p cap l sz) (u - l) (cap - l) sz ((C.take (u*sz)).drop (l*sz)):=by
 cases o with
 |nil g d k a=>subst g d k a;refine .nil ?_ ae ae bO;unfold bV;split<;>rfl
 |row b O c t g i d k w a=>
  subst g;have M:u*sz<=len*sz:=dP _ n;have x:l*sz<=u*sz:=dP _ m;have y:len*sz<=cap*sz:=dP _ d;have q: ∀j v,((C.take (u*sz)).drop (l*sz))[j]? =.some v->c[O+l*sz+j]? =.some v:=λj v H=>by rw[fj,eC]at H;split at H;have:=a _ v H;rwa[<-Nat.add_assoc]at this;cases H
  have f:((C.take (u*sz)).drop (l*sz)).length=(u - l)*sz:=by rw[cj,bM,Nat.sub_mul];omega
  have s:(cap - l)*sz=cap*sz - l*sz:=Nat.sub_mul _ _ _;unfold bV;split;rename_i e;have E:u - l=0:=ae
  refine .row b O c t rfl i ae ae f (λj v H=> ?_);have r:((C.take (u*sz)).drop (l*sz)).length=0:=by rw[f,E];simp
  rw[List.eq_nil_of_length_eq_zero r]at H;cases H;show Own h (.some (((AA b O):Addr).add (l*sz))) _ _ _ _;rw[hH];exact .row b (O+l*sz) c t rfl i ae ae f q
def NP{p:bH}{cap l s c:Nat}(h:aN (bV p cap l s) c):aN p c:=by
 obtain⟨a,e,rfl⟩:=h;unfold bV at e;split at e;exact⟨a,e,rfl⟩;cases p with
 |none=>cases e
 |some b=>cases e;exact⟨b,rfl,by unfold Addr.add;split<;>rfl⟩
theorem wL{c:Array Value}{off:Nat}: ∀(d:List Value)(i:Nat)(h:Heap)(b:Nat)(t:TypeId)(K:Unit->cM),(∀v∈d,fH v=true)->h[b]? =some (.C c t (0,0))->off+i+d.length<=c.size->
  (∀H C,H[b]? =some (.C C t (0,0))->C.size=c.size->(∀j,j<off+i\/off+i+d.length<=j->C[j]? =c[j]?)->(∀j v,d[j]? =some v->C[off+i+j]? =some v)->H.size=h.size->(∀x,x≠b->H[x]? =h[x]?)->K () H)->
  bu P (storeCells (AA b off) d i) h K
 | [],i,h,b,t,K,_,a,_,f=>by refine f h c a rfl (λ_ _=>rfl) (λj v e=>by simp at e) rfl (λ_ _=>rfl)
 |v::d,i,h,b,t,K,g,a,m,f=>by
  simp only[bw]at m;have n:off+i<c.size:=ae
  refine⟨g v dz,?_,?_,?_⟩;rw[hH,jY a];simp[n];rw[hH];exact lM a;rw[hH];refine wL d (i+1) _ b t K (λu q=>g u (cD _ q)) (zw a) (by grind) ?_;intro H C l w s r p o;refine f H C l (by grind) (λj e=> ?_) (λj u e=> ?_) (by rw[p,Gu]) (λx k=>by rw[o x k,wK k]);grind;grind
def HO{S X ty elem T:TypeId}{i:TypeInfo}{z:Value}{h:Heap}{p q:bH}{len cap n cq:Nat}{f d:List Value}{K:dH}(hs:P.underlying S=some (.slice elem))(G:P.underlying X=some (.slice T))(r:P.info? elem=some i)(hz:i.zero=some z)(F:z.cells.size=i.size)(O:Own h p len cap i.size f)(R:Row h q d)(l:d.length=n*i.size)(h': ∀v∈d,fH v=true)(hb:(len+n)*i.bytes<=70368744177664)(m':len+n<=9223372036854775807)(A: ∀I C g,Own g I (len+n) C i.size (f++d)->Own g p len cap i.size f->Fr (aN p) h g->(∀c,aN I c->aN p c\/h.size<=c)->K (.L I (len+n) C) g):
  bu P (Builtin.append_ #[S,X] ty #[.L p len cap,.L q n cq]) h K:=by
 unfold Builtin.append_;refine aZ (s:=underlying S) (bh hs) ?_;refine aZ (s:=sizeOf elem) (fI r) ?_;refine aZ (s:=underlying X) (bh G) ?_;refine aZ (s:=(pure false:Sem Bool)) (a:=false) rfl ?_;refine aZ (s:=Builtin.lenOf (.L q n cq)) (a:=n) rfl ?_;show bu P (if len+n<=cap then _ else _) h K;by_cases s:len+n<=cap;rw[ah s];refine aZ (s:=Builtin.firstCells i.size n (.L q n cq)) (a:=d.toArray) (iF R l) ?_;cases O with
 |nil E B k u=>
  subst E B k u;have f':n=0:=ae
  subst f';have Z:d= []:=by simpa using l
  subst Z;exact A none 0 h (.nil rfl rfl rfl rfl) (.nil rfl rfl rfl rfl) (Fr.refl _ _) (λc ⟨a,e,_⟩=>by cases e)
 |row b o c t E V B k D u=>subst E;show bu P (storeCells (((AA b o):Addr).add (len*i.size)) d>>=λ_=>pure (.L (Sa b o) (len+n) cap)) h K;rw[hH];have d':(len+n)*i.size<=cap*i.size:=dP _ s;rw[fW]at d';rw[cY];refine wL (c:=c) (off:=o+len*i.size) d 0 h b t _ h' V ae ?_;intro g J L o' Q e' F i';show K (.L (Sa b o) (len+n) cap) g;refine A _ cap g (.row b o J t rfl L s ae (by rw[ak,D,l,fW]) ?_) (.row b o J t rfl L B ae D ?_) (Fr.of_eq F λl' G=>i' l' (λe=>G ⟨_,rfl,e.symm⟩)) (λc k=> .inl k);intro j v H;by_cases w:j<f.length;rw[List.getElem?_append_left w]at H;rw[Q _ ae];exact u j v H;rw[dC ae]at H;have:=e' _ v H;rw[D]at this;rwa[show o+len*i.size+0+(j - len*i.size)=o+j by omega]at this;intro j v H;have w:j<f.length:=(aS.1 H).1;rw[Q _ ae];exact u j v H
 rw[af s];have b':=nextslicecap_le (need:=len+n) (cap:=cap) ae;refine aZ (s:=typeInfo elem) (eE r) ?_;have c': ¬(((len+n:Nat):Int)>IntKind.max .i64/\(False\/i.bytes=0)):=λk=>by have:IntKind.max .i64=9223372036854775807:=rfl;rw[this]at k;omega
 show bu P (if(((len+n:Nat):Int)>IntKind.max .i64/\(false=true\/i.bytes=0))then _ else _) h K;rw[af (dQ c')];refine aZ (s:=typeInfo elem) (eE r) ?_;have g': ¬(Builtin.nextslicecap (len+n) cap*i.bytes>2 ^ 48):=by have y:Builtin.nextslicecap (len+n) cap*i.bytes<=2*(len+n)*i.bytes:=dP _ b';rw[Nat.mul_assoc]at y;omega
 show bu P (if Builtin.nextslicecap (len+n) cap*i.bytes>2 ^ 48 then _ else _) h K;rw[af g'];show bu P (choose (.appendCap (len+n) cap elem)>>=_) h K;rw[cY];unfold choose;simp only[bu,Question.forced,aV,bQ,Question.cut];intro tq;refine aZ (s:=typeInfo elem) (eE r) ?_;rw[cY];have j': ∀(m:Nat)(x:Unit->cM),x () h->bu P (askRoom m) h x:=λm x M=>by unfold askRoom;split;exact M;exact M
 refine j' _ _ ?_;refine aZ (s:=Builtin.firstCells i.size len (.L p len cap)) (a:=f.toArray) (iF O.iy O.length) ?_;refine aZ (s:=Builtin.firstCells i.size n (.L q n cq)) (a:=d.toArray) (iF R l) ?_;refine aZ (s:=zeroValue elem) (gu r hz) ?_;generalize n':len+n+tq%(2 ^ 63 - (len+n))=C;have a':len+n<=C:=ae
 show K (.L (Sa h.size 0) (len+n) C) (h.push (.C (f.toArray++d.toArray++Builtin.zeroCells z.cells (C - (len+n))) elem));have k':(f.toArray++d.toArray++Builtin.zeroCells z.cells (C - (len+n))).size=C*i.size:=by
  have y:(Builtin.zeroCells z.cells (C - (len+n))).size=(C - (len+n))*i.size:=by simp[Builtin.zeroCells,F]
  have U:=O.length;rw[Array.size_append,Array.size_append,y];simp only[List.size_toArray];rw[U,l,<-fW,<-fW];congr 1;omega
 refine A _ C _ (.row h.size 0 _ elem rfl aU a' (by rw[k'];omega) (by rw[ak,O.length,l,fW]) ?_) (O.frame (Fr.push (S:=λ_=>False) _ _) bD) (Fr.push _ _) ?_;intro j v H;rw[aX];have w:j<(f++d).length:=(aS.1 H).1;rw[cH (dQ w)];simpa using H;rintro c ⟨a,e,rfl⟩;cases e;exact .inr (bf _)
structure jL (P:Program) (sT elem:TypeId) (sz bytes:Nat) (z:Value):Prop where
 u:P.underlying sT=some (.slice elem)
 info:(P.info? elem).map (λi=>(i.size,i.bytes,i.zero))=some (sz,bytes,some z)
 zs:z.cells.size=sz
theorem jL.i{S elem:TypeId}{s bytes:Nat}{z:Value}(T:jL P S elem s bytes z): ∃i,P.info? elem=some i/\i.size=s/\i.bytes=bytes/\i.zero=some z:=by
 have:=T.info;cases h:P.info? elem with
 |none=>grind
 |some i=>grind
def du{S x t elem eT:TypeId}{s bytes:Nat}{z:Value}{h:Heap}{p q:bH}{len cap n cq:Nat}{cs ds:List Value}{K:dH}(T:jL P S elem s bytes z)(l:P.underlying x=some (.slice eT))(o:Own h p len cap s cs)(k:Row h q ds)(e:ds.length=n*s)(j: ∀v∈ds,fH v=true)(b:(len+n)*bytes<=70368744177664)(d:len+n<=9223372036854775807)(g: ∀a C H,Own H a (len+n) C s (cs++ds)->Own H p len cap s cs->Fr (aN p) h H->(∀c,aN a c->aN p c\/h.size<=c)->K (.L a (len+n) C) H):
  bu P (Builtin.append_ #[S,x] t #[.L p len cap,.L q n cq]) h K:=by
 obtain⟨i,f,rfl,rfl,m⟩:=T.i;exact HO T.u l f m T.zs o k e j b d g
end
section
open Go.RowKit
def C8(P:Program)(h:Heap):Nat->TypeId->List Value->Prop
 |0,_,_=>False
 |n+1,t,c=>
  match P.underlying t with
  |some .bool=> ∃b,c= [.bool b]
  |some (.int k)=> ∃a,c= [.int k a]/\(Lit.int k a).wf=true
  |some .string=> ∃s,c= [.string s]/\s.size<=maxLen
  |some (.pointer e)=>c= [.pointer none]\/∃a C,c= [.pointer (some a)]/\C.length=P.cellsOf e/\cz a C 0 h/\C8 P h n e C
  |some (.slice e)=>c= [.slice none 0 0]\/∃a len cap,c= [.slice (some a) len cap]/\len<=cap/\cap<=maxLen/\∀i,i<len->∃C,C.length=P.cellsOf e/\cz (a.add (i*P.cellsOf e)) C 0 h/\C8 P h n e C
  |some (.struct fs)=>c.length=P.cellsOf t/\∀f∈fs.toList,C8 P h n f.type ((c.drop f.offset).take (P.cellsOf f.type))
  |some (.array m e)=>c.length=P.cellsOf t/\∀i,i<m->C8 P h n e ((c.drop (i*P.cellsOf e)).take (P.cellsOf e))
  |_=>True
def C9{w:World}{b:Nat}{a:Addr}{n:Nat}{c:List Value}(h:w.cells? b a n=some c):c.length=n/\cz a c 0 w.heap:=by have⟨_,e,d⟩:=World.cells?_some h;refine⟨e,kx.2 λj v H=> ?_⟩;have f:=(aS.1 H).1;have:=d j ae;rw[kk,H]at this;rw[aX];exact this
theorem lP{H:Type}{E:TypeId×Value->H}{P:Program}{w:World}{B:Nat}{S:Nat->Bool}{F:Bool}:
  ∀(fuel:Nat)(t:TypeId)(p:List Value)(x:DataW H×List MemPlace),DataW.trod E P w B S F fuel t p=some x->C8 P w.heap fuel t p
 |0,_,_,_,h=>by simp[DataW.trod]at h
 |fuel+1,t,p,x,h=>by
  unfold C8;cases j:P.underlying t with
  |none=>trivial
  |some d=>
   cases d<;>simp only<;>first|trivial|skip
   case bool=>obtain⟨b,c,_⟩:=DataW.trod_bool j h;exact⟨b,c⟩
   case int k=>obtain⟨n,c,_,A⟩:=DataW.trod_int j h;exact⟨n,c,A⟩
   case string=>obtain⟨s,c,_,A⟩:=DataW.trod_string j h;exact⟨s,c,A⟩
   case pointer e=>
    rcases DataW.trod_pointer j h with⟨c,_⟩|⟨a,C,y,n,z,c,_,aQ,L⟩;exact .inl c;obtain⟨l,r⟩:=C9 aQ;obtain rfl:n=fuel:=ae
    exact .inr ⟨a,C,c,l,r,lP n e C y L⟩
   case slice e=>
    rcases DataW.trod_slice j h with⟨c,_⟩|⟨a,len,cap,M,R,n,z,c,_,_,l,u,O,D,_⟩;exact .inl c;obtain rfl:n=fuel:=ae
    refine .inr ⟨a,len,cap,c,l,u,λi o=> ?_⟩;have g:=D i o;rw[ai ae]at g;cases aQ:w.cells? B (a.add (i*P.cellsOf e)) (P.cellsOf e)with
    |none=>grind
    |some C=>rw[aQ]at g;obtain⟨I,r⟩:=C9 aQ;exact⟨C,I,r,lP n e C _ g⟩
   case struct fs=>
    obtain⟨X,n,z,_,l,K,q⟩:=DataW.trod_struct j h;obtain rfl:n=fuel:=ae
    refine⟨l,λf u=> ?_⟩;obtain⟨i,o⟩:=cd u;have G:fs[i]? =some f:=by simpa using o
    have g:=q i f G;have J:i<X.length:=by grind
    rw[ai J]at g;exact lP n _ _ _ g
   case array m e=>
    obtain⟨X,n,z,_,l,K,q⟩:=DataW.trod_array j h;obtain rfl:n=fuel:=ae
    refine⟨l,λi o=> ?_⟩;have g:=q i o;rw[ai ae]at g;exact lP n _ _ _ g
def HP(P:Program)(h:Heap)(t:TypeId)(v:Value):Prop:= ∃n,C8 P h n t v.cells.toList
def HP.of{H:Type}{e:TypeId×Value->H}{P:Program}{w:World}{b:Nat}{s:Nat->Bool}{a:Bool}{t:TypeId}{v:Value}{d:DataW H}{p:List MemPlace}(h:DataW.Trod e P w b s a t v d p):HP P w.heap t v:=by
 have⟨n,c⟩:=h;exact⟨n,lP n _ _ _ c⟩
def PN{w a:World}(b:Fr (λ_=>False) w.heap a.heap)(H:eJ w a):Below w.heap.size w a:=
 ⟨H.1,H.2.2,H.2.1,b.1,λk c=>b.2 k c id⟩
def PO(P:Program)(f:FuncId)(args:Array Value)(h:Heap):Prop:=jS P f args h (λv H=>v=.bool true/\Fr (λ_=>False) h H)
theorem PO.calls{P:Program}{f:FuncId}{args:Array Value}{w:World}(a:PO P f args w.heap):Calls P f args w λe c=>e=.returned (.B true)/\Below w.heap.size w c:=
 (a w rfl).mono λ_ _ ⟨_,d,⟨g,H⟩,b⟩=>⟨by grind,PN H b⟩
section
variable {P : Program} {h : Heap} {t : TypeId} {v : Value}
def HP.int{k:IntKind}(d:P.underlying t=some (.int k))(e:HP P h t v)(c: ∀a,v.cells.toList= [.int k a]->v=.int k a): ∃a,v=.int k a/\(Lit.int k a).wf=true:=by
 have⟨n,H⟩:=e;cases n with
 |zero=>exact H.elim
 |succ n=>unfold C8 at H;rw[d]at H;have⟨a,b,f⟩:=H;exact⟨a,c a b,f⟩
theorem HQ{h:Heap}{a:Addr}{c d:List Value}:cz a (c++d) 0 h↔cz a c 0 h/\cz (a.add c.length) d 0 h:=by simp only[kx,aX];constructor;intro b;refine⟨λj v H=>b j v ?_,λj v H=> ?_⟩;grind;rw[add_add];refine b _ v ?_;rw[dC ae];simpa using H;rintro⟨f,e⟩ j v H;by_cases g:j<c.length;grind;rw[dC ae]at H;have:=e _ v H;rw[add_add]at this;rwa[show c.length+(j - c.length)=j by omega]at this
def ky{a:Type}(e:a->List Value)(s:Nat)(H: ∀x,(e x).length=s): ∀X:List a,(X.flatMap e).length=X.length*s
 | []=>bO
 |x::X=>by rw[eM,ak,H,ky e s H X,bw,fW];omega
theorem vr{a:Type}(e:a->List Value)(s:Nat)(H: ∀x,(e x).length=s): ∀(X:List a)(i:Nat)(x:a),X[i]? =some x->∀j v,(e x)[j]? =some v->(X.flatMap e)[i*s+j]? =some v
 | [],i,x,h,_,_,_=>by simp at h
 |y::X,0,x,h,j,v,b=>by grind
 |y::X,i+1,x,h,j,v,b=>by have:=vr e s H X i x (by grind) j v b;rw[eM,dC (by grind),H];rwa[show(i+1)*s+j - s=i*s+j by grind]
def HP.slice{f:Type}{e:TypeId}{p:bH}{len cap:Nat}(E:f->List Value)(s:Nat)(Q:f->Prop)(l:P.cellsOf e=s)(w: ∀x,(E x).length=s)(r: ∀n c,c.length=s->C8 P h n e c->∃x,c=E x/\Q x)(C:P.underlying t=some (.slice e))(D:HP P h t (.L p len cap)):
  ∃X:List f,X.length=len/\len<=cap/\cap<=maxLen/\Row h p (X.flatMap E)/\∀x∈X,Q x:=by
 obtain⟨n,b⟩:=D;cases n with
 |zero=>exact b.elim
 |succ n=>
  unfold C8 at b;rw[C]at b;rcases b with H|⟨a,L,F,H,z,A,u⟩;simp[Value.cells]at H;obtain⟨rfl,rfl,rfl⟩:=H;exact⟨[],rfl,bf _,bg _,.inl rfl,λ_ g=>by cases g⟩;simp[Value.cells]at H;obtain⟨rfl,rfl,rfl⟩:=H;have K: ∀k,k<=len->∃X:List f,X.length=k/\cz a (X.flatMap E) 0 h/\∀x∈X,Q x:=by
   intro k;induction k with
   |zero=>intro _;exact⟨[],rfl,trivial,λ_ g=>by cases g⟩
   |succ k I=>intro G;obtain⟨X,d,i,j⟩:=I ae;obtain⟨c,m,o,q⟩:=u k ae;obtain⟨x,rfl,B⟩:=r n c (by rw[m,l]) q;refine⟨X++ [x],by simp[d],?_,?_⟩;rw[cC,HQ];refine⟨i,?_⟩;rw[ky E s w,d,<-l];simpa using o;intro y hy;rcases cG.1 hy with hy|hy;exact j y hy;simp at hy;subst hy;exact B
  obtain⟨X,d,i,j⟩:=K len (bf _);exact⟨X,d,z,A,.inr ⟨a,rfl,i⟩,j⟩
def C8.int{k:IntKind}{n:Nat}{c:List Value}(b:P.underlying t=some (.int k))(H:C8 P h n t c): ∃a,c= [.int k a]/\(Lit.int k a).wf=true:=by
 cases n with
 |zero=>exact H.elim
 |succ n=>unfold C8 at H;rw[b]at H;exact H
end
def tM(P:Program)(r:TypeId->Option (List TypeId)):List Field->Nat->Option (List TypeId)
 | [],_=>some []
 |f::fs,o=>(match Nat.beq f.offset o,r f.type with
  |true,some T=>(match Nat.beq T.length (P.cellsOf f.type),tM P r fs (o+T.length)with
   |true,some u=>some (T++u)
   |_,_=>none)
  |_,_=>none)
def xU(P:Program):Nat->TypeId->Option (List TypeId)
 |0,_=>none
 |n+1,t=>(match P.underlying t with
  |some (.struct fs)=>tM P (xU P n) fs.toList 0
  |some (.array _ _)=>none
  |_=>some [t])
def Leaves(P:Program)(h:Heap)(a:List TypeId)(c:List Value):Prop:= ∀(i:Nat)(T:TypeId),a[i]? =some T->∃v m,c[i]? =some v/\C8 P h m T [v]
theorem Leaves.append{P:Program}{h:Heap}{T u:List TypeId}{c:List Value}(f:Leaves P h T (c.take T.length))(g:Leaves P h u (c.drop T.length)):Leaves P h (T++u) c:=by intro i e H;by_cases d:i<T.length;rw[List.getElem?_append_left d]at H;have⟨v,m,b,a⟩:=f i e H;rw[eC,ah d]at b;exact⟨v,m,b,a⟩;rw[dC ae]at H;have⟨v,m,b,a⟩:=g _ e H;exact⟨v,m,by grind,a⟩
theorem AS{P:Program}{h:Heap}{r:TypeId->Option (List TypeId)}{n:Nat}(d: ∀t T c,r t=some T->c.length=T.length->C8 P h n t c->Leaves P h T c):
  ∀(fs:List Field)(o:Nat)(u:List TypeId)(c:List Value),tM P r fs o=some u->o+u.length<=c.length->(∀f∈fs,C8 P h n f.type ((c.drop f.offset).take (P.cellsOf f.type)))->
   Leaves P h u (c.drop o)
 | [],o,u,c,H,_,_=>by simp only[tM,cr]at H;subst H;intro i q e;simp at e
 |f::fs,o,u,c,H,j,b=>by simp only[tM]at H;split at H;rename_i T l m;split at H;rename_i U g p;simp only[cr]at H;subst H;rw[ak]at j;have a:=b f dz;rw[(ct l),<-(ct g)]at a;refine Leaves.append (d _ _ _ m (by grind) a) ?_;rw[List.drop_drop];exact AS d fs _ U c p ae (λF k=>b F (cD _ k));cases H;cases H
theorem Da{P:Program}{h:Heap}: ∀(d n:Nat)(t:TypeId)(T:List TypeId)(c:List Value),xU P d t=some T->c.length=T.length->C8 P h n t c->Leaves P h T c
 |0,_,_,_,_,H,_,_=>by simp[xU]at H
 |d+1,n,t,T,c,H,j,a=>by
  simp only[xU]at H;cases n with
  |zero=>exact a.elim
  |succ n=>
   split at H
   rename_i fs g;unfold C8 at a;rw[g]at a;have:=AS (λt T c b e f=>Da d n t T c b e f) fs.toList 0 T c H ae a.2;simpa using this;cases H;simp only[cr]at H;subst H;intro i l k
   match c,j with
   | [v],_=>grind
def Leaves.get{P:Program}{h:Heap}{a:List TypeId}{c:List Value}(d:Leaves P h a c)(i:Nat){T:TypeId}{v:Value}(b:a[i]? =some T)(H:c[i]? =some v): ∃m,C8 P h m T [v]:=by have⟨u,m,f,e⟩:=d i T b;rw[f]at H;cases H;exact⟨m,e⟩
theorem Leaves.int{P:Program}{h:Heap}{b:List TypeId}{c:List Value}(d:Leaves P h b c)(i:Nat){T:TypeId}{v:Value}{k:IntKind}(H:b[i]? =some T)(g:c[i]? =some v)(f:P.underlying T=some (.int k)): ∃a,v=.int k a/\(Lit.int k a).wf=true:=by have⟨m,e⟩:=d.get i H g;have⟨a,l,j⟩:=C8.int f e;exact⟨a,by grind,j⟩
def ay.of{a:Type}{F:a}{B:a->Prop}(h: ∀J,J=F->B J):ay F B:=h F rfl
theorem La{h:Heap}{p:bH}{k:IntKind}{x:List Int}(H:Row h p (x.map (.int k ·))){i:Nat}(c:i<x.length): ∃a,p=some a/\aQ h (a.add (i*1))=some (.int k (x.getD i 0)):=by
 have b:(x.map (Value.int k ·))[i]? =some (.int k (x.getD i 0)):=by simp[c]
 obtain⟨a,rfl⟩:=H.some (λe=>by grind);exact⟨a,rfl,by rw[bJ];exact H.cell b⟩
end
end Go.Den
namespace Go.Den
structure Step (S:fZ) (h:Heap) (S':fZ) (h':Heap):Prop where
 fr:Fr S h h'
 new: ∀c,S' c->S c\/h.size<=c
def Step.refl(S:fZ)(h:Heap):Step S h S h:=⟨Fr.refl _ _,λ_=> .inl⟩
def Step.trans{S s d:fZ}{h H e:Heap}(a:Step S h s H)(b:Step s H d e):Step S h d e:=
 ⟨a.fr.trans b.fr bD (λc hc f=>(a.new c f).resolve_right ae),λc hc=>by rcases b.new c hc with hc|hc;exact a.new c hc;have:=a.fr.1;exact .inr ae⟩
theorem Step.apart{S s Q:fZ}{h H:Heap}(b:Step S h s H)(d: ∀c,S c->¬Q c)(e: ∀c,Q c->c<h.size): ∀c,s c->¬Q c:=λc a f=>by rcases b.new c a with h1|h1;grind;grind
def Fr.fresh{S:fZ}{h H a:Heap}(f:Fr (λ_=>False) h H)(g:Fr S H a)(b: ∀c,S c->h.size<=c):Fr (λ_=>False) h a:=
 f.step g λc e d=>by have:=b c d;omega
def NQ{h:Heap}{c:Array Value}{t:TypeId}{f:Nat×Nat}{i:Nat}{v:Value}:sO (h.push (.C c t f)) (AA h.size i) v=h.push (.C (c.setIfInBounds i v) t f):=by
 apply Array.ext;simp[sO];intro j a b;have e: ∀(x:Heap)(H:j<x.size),x[j]? =some x[j]:=λx H=>Array.getElem?_eq_getElem H;have:(sO (h.push (.C c t f)) (AA h.size i) v)[j]? =(h.push (.C (c.setIfInBounds i v) t f))[j]? :=by by_cases q:j=h.size;subst q;rw[zw aU,aU];rw[wK q,eV,eV,af q,af q]
 rw[e _ a,e _ b]at this;exact bL this
def lQ{h:Heap}{c:Array Value}{t:TypeId}{i:Nat}{v:Value}{K:cM}(H:i<c.size)(a:K (h.push (.C (c.setIfInBounds i v) t (0,0)))):aI (h.push (.C c t (0,0))) (AA h.size i) v K:=by refine⟨?_,lM aU,?_⟩;rw[jY aU];simp[H];rintro _ rfl;rw[NQ];exact a
def bn{h:Heap}{o:Obj}{K:Nat->cM}(H:K h.size (h.push o)):aT h o K:=by rintro b a rfl rfl;exact H
section
variable {P : Program}
theorem hX{S X w elem e t:TypeId}{s bytes:Nat}{z:Value}{h:Heap}{p:bH}{len cap:Nat}{d:List Value}{x:Array Value}{K:dH}(T:jL P S elem s bytes z)(q:P.underlying X=some (.slice e))(u:Own h p len cap s d)(r:x.size=s)(o: ∀v∈x.toList,fH v=true)(k:(len+1)*bytes<=70368744177664)(l:len+1<=9223372036854775807)(n: ∀a C H,Own H a (len+1) C s (d++x.toList)->Fr (aN p) h H->(∀c,aN a c->aN p c\/h.size<=c)->K (.L a (len+1) C) H):
  aT h (.C x t) λb i=>bu P (Builtin.append_ #[S,X] w #[.L p len cap,.L (Sa b 0) 1 1]) i K:=by
 refine bn ?_;have f:Fr (λ_=>False) h (h.push (.C x t)):=Fr.push _ _;refine du T q (u.frame f bD) (.inr ⟨_,rfl,dy aU (λj v A=>by grind)⟩) (by simp[r]) o k l ?_;intro a C H O _ F g;exact n a C H O (Fr.no f F) (λc m=>(g c m).imp id (λy=>by grind))
end
end Go.Den
namespace Go.Den
structure Up (h0:Heap) (S:fZ) (h:Heap):Prop where
 fr:Fr (λ_=>False) h0 h
 ge: ∀c,S c->h0.size<=c
def Up.step{a h H:Heap}{S s:fZ}(u:Up a S h)(b:Step S h s H):Up a s H:=
 ⟨u.fr.fresh b.fr u.ge,λc d=>by rcases b.new c d with h1|h1;exact u.ge c h1;have:=u.fr.1;omega⟩
def gW{h:Heap}{cs:List Value}{t:TypeId}:Row (h.push (.C cs.toArray t)) (Sa h.size 0) cs:=.inr ⟨_,rfl,dy aU (λj v H=>by rw[aX];simpa using H)⟩
def cA(a:Addr):a.add 0=a:=by simp[Addr.add]
def kX(a:Addr)(n:Nat):(a.add n).block=a.block:=by unfold Addr.add;split<;>rfl
def jT{h:Heap}{p:bH}{C:List Value}(f:Row h p C)(b:C≠ []){x:Nat}(g:aN p x):x<h.size:=by
 obtain⟨a,rfl,rfl⟩:=g;rcases f with H|⟨A,e,H⟩;exact absurd H b;cases e;cases C with
 |nil=>exact absurd rfl b
 |cons c C=>obtain⟨_,_,_,d,_⟩:=C6 H.1;have:=aE d;rwa[kX]at this
def Row.sub{h:Heap}{p:bH}{c:List Value}(e:Row h p c){cap l u sz:Nat}(f:l<=u)(g:u<=cap):Row h (bV p cap l sz) ((c.take (u*sz)).drop (l*sz)):=by
 by_cases b:cap=l;left;have:u=l:=ae
 subst this;rw[List.drop_eq_nil_iff,bM];exact Nat.min_le_left _ _;unfold bV;rw[af b];rcases e with rfl|⟨a,rfl,d⟩;left;simp;refine .inr ⟨a.add (l*sz),rfl,kx.2 λj v H=> ?_⟩;rw[add_add,aX];rw[fj,eC]at H;split at H;have:=kx.1 d (l*sz+j) v H;rwa[aX]at this;cases H
structure Ft where
 M:fZ
 D:fZ
structure cW (F:Ft) (h:Heap) (F':Ft) (h':Heap):Prop where
 fr:Fr F.M h h'
 nT: ∀c,F'.M c->F.M c\/h.size<=c
 qG: ∀c,F'.D c->F.D c\/h.size<=c
 NR: ∀c,F.D c->F'.D c
def cW.refl(F:Ft)(h:Heap):cW F h F h:=⟨Fr.refl _ _,λ_=> .inl,λ_=> .inl,λ_=>id⟩
def cW.trans{F f d:Ft}{h H e:Heap}(a:cW F h f H)(b:cW f H d e):cW F h d e:=by have z:=a.fr.1;refine⟨a.fr.trans b.fr bD (λc hc g=>(a.nT c g).resolve_right ae),λc hc=> ?_,λc hc=> ?_,λc hc=>b.NR c (a.NR c hc)⟩;rcases b.nT c hc with hc|hc;exact a.nT c hc;omega;rcases b.qG c hc with hc|hc;exact a.qG c hc;exact .inr ae
def cW.Gx{F:Ft}{h H:Heap}(f:Fr F.M h H):cW F h F H:=⟨f,λ_=> .inl,λ_=> .inl,λ_=>id⟩
def cW.My{F:Ft}{h H:Heap}(f:Fr (λ_=>False) h H):cW F h F H:=.Gx (f.mono λ_ _=>False.elim)
def cW.no{F a:Ft}{h H c:Heap}(f:Fr (λ_=>False) h H)(b:cW F H a c):cW F h a c:=(cW.My f).trans b
def cW.on{F b:Ft}{h H c:Heap}(a:cW F h b H)(f:Fr (λ_=>False) H c):cW F h b c:=a.trans (cW.My f)
theorem cW.apart{F f:Ft}{Q:fZ}{h H:Heap}(s:cW F h f H)(d: ∀c,F.M c\/F.D c->¬Q c)(a: ∀c,Q c->c<h.size): ∀c,f.M c\/f.D c->¬Q c:=λc hc b=>by have:=a c b;rcases hc with hc|hc;rcases s.nT c hc with h1|h1;grind;omega;rcases s.qG c hc with h1|h1;grind;omega
def cW.PQ{F f:Ft}{Q:fZ}{h a:Heap}(s:cW F h f a)(d: ∀c,F.M c->¬Q c)(e: ∀c,Q c->c<h.size): ∀c,f.M c->¬Q c:=λc b H=>by have:=e c H;rcases s.nT c b with h1|h1;exact d c h1 H;omega
structure Xt (h0:Heap) (F:Ft) (h:Heap):Prop where
 fr:Fr (λ_=>False) h0 h
 ge: ∀c,F.M c\/F.D c->h0.size<=c
theorem tO{b:Nat}{t:TypeId}: ∀(V:List Value)(i:Nat)(h:Heap)(c:Array Value)(K:cM),h[b]? =some (.C c t (0,0))->i+V.length<=c.size->V.all fH=true->
  (∀H C,H[b]? =some (.C C t (0,0))->C.size=c.size->(∀j,j<i\/i+V.length<=j->C[j]? =c[j]?)->(∀j v,V[j]? =some v->C[i+j]? =some v)->H.size=h.size->(∀x,x≠b->H[x]? =h[x]?)->K H)->
  cQ (AA b 0) V i h K
 | [],i,h,c,K,a,_,_,e=>e h c a rfl (λ_ _=>rfl) (λj v d=>by simp at d) rfl (λ_ _=>rfl)
 |v::V,i,h,c,K,a,m,f,e=>by rw[List.all_cons,bE]at f;rw[bw]at m;unfold cQ;rw[f.1];rw[hH,aX];refine aY a ae λk A s o=>(tO V (i+1) k _ K A (by grind) f.2 λl g B z q r S O=>e l g B (by grind) (λj d=> ?_) (λj u d=> ?_) ae (λx n=>by grind));grind;grind
theorem dM{h:Heap}{b:Nat}{c:Array Value}{t:TypeId}{v:List Value}{K:cM}(a:h[b]? =some (.C c t (0,0)))(g:v.length=c.size)(e:v.all fH=true)(d: ∀H,H[b]? =some (.C v.toArray t (0,0))->H.size=h.size->(∀x,x≠b->H[x]? =h[x]?)->K H):cQ (AA b 0) v 0 h K:=by
 refine tO v 0 h c K a ae e λH C B z _ r s o=>d H ?_ s o;have:C=v.toArray:=by apply Array.ext';apply List.ext_getElem?;intro j;by_cases f:j<v.length;grind;grind
 rw[<-this];exact B
def fL{h:Heap}{c:Array Value}{t:TypeId}{vs:List Value}{K:Nat->cM}(f:vs.length=c.size)(i:vs.all fH=true)(d: ∀b H,b=h.size->H[b]? =some (.C vs.toArray t (0,0))->Fr (λ_=>False) h H->K b H):aT h (.C c t) λb a=>cQ (AA b 0) vs 0 a (K b):=
 bn (dM aU f i λH B s o=>d _ H rfl B ((Fr.push h _).fresh ⟨ae,λy _ g=>o y g⟩ (λy e=>Nat.le_of_eq e.symm)))
def xV{R:dH}{h:Heap}{b B c:Bool}{A:Prop}(H:R (.B (b && c)) h)(a:R (.B c) h->A)(e:B=b:=by rfl):if B=true then A else R (.B false) h:=by
 subst e;cases B with
 |true=>exact a H
 |false=>exact H
def jM{R:dH}{a h:Heap}{b B c:Bool}{A:Prop}(d: ∀H,Fr (λ_=>False) a H->R (.B (b && c)) H)(f:Fr (λ_=>False) a h)(g:(∀H,Fr (λ_=>False) a H->R (.B c) H)->A)(e:B=b:=by rfl):if B=true then A else R (.B false) h:=by
 subst e;cases B with
 |true=>exact g d
 |false=>exact d h f
end Go.Den
namespace Go.Den
def bc(B:cO):List Value:=B.map λb=> .int .u8 (b.toNat:Int)
def fO(b:cO):(bc b).length=b.length:=by simp[bc]
def hZ(b c:cO):bc (b++c)=bc b++bc c:=by simp[bc]
def kY(B:cO): ∀v∈bc B,fH v=true:=by intro v h;simp only[bc,bR]at h;obtain⟨b,_,rfl⟩:=h;rfl
def str(b:cO):bC:=⟨b.toArray⟩
theorem AT(b:bC): ∀(k i:Nat)(r:cO),b.size - i=k->i<=b.size->ByteArray.toList.loop b i r=r.reverse++b.data.toList.drop i
 |0,i,r,a,H=>by
  have:i=b.size:=ae
  unfold ByteArray.toList.loop;rw[fe];have:b.data.toList.length<=i:=by simp_all
  rw[dR this];simp
 |k+1,i,r,a,H=>by
  have h:i<b.size:=ae
  unfold ByteArray.toList.loop;rw[ah h,AT b k (i+1) _ ae ae];have c:i<b.data.toList.length:=by simp_all
  rw[cK c];have:b.get! i=b.data.toList[i]:=by show b.data[i]! =_;rw[getElem!_pos b.data i h];simp
  rw[this];simp
def toList_data(b:bC):b.toList=b.data.toList:=by unfold ByteArray.toList;rw[AT b _ 0 [] rfl (bg _)];simp
def ps(b:cO):(str b).toList=b:=by simp[str]
def Jj(s:bC):str s.data.toList=s:=by cases s;simp[str]
section
variable {P : Program}
def Jk(h:Heap): ∀(B:cO)(s:bC),rd P (forIn (bc B).toArray s λc s=>(do
   let .int .u8 n:=c|stuck "bytesToString: byte expected"
   pure (ForInStep.yield (s.push (UInt8.ofNat n.toNat))))) h=some ⟨s.data++B.toArray⟩:=by
 intro B;simp only[List.forIn_toArray];induction B with
 |nil=>intro s;show some s=_;cases s;simp
 |cons b B i=>intro s;have e:bc (b::B)=.int .u8 (b.toNat)::bc B:=rfl;rw[e,List.forIn_cons,ba _ _ h (ForInStep.yield (s.push b)) (by show some (ForInStep.yield (s.push (UInt8.ofNat b.toNat)))=_;simp)];rw[i];simp[ByteArray.push]
def Jl{S D e:TypeId}{h:Heap}{p:bH}{c n:Nat}{B:cO}(k:P.underlying S=some (.slice e))(g:P.underlying e=some (.int .u8))(f:P.underlying D=some .string)(H:Row h p (bc B))(j:n=B.length):xL P S D (.L p n c) h (str B):=by
 subst j;unfold xL convert;rw[ba _ _ _ _ (bh k),ba _ _ _ _ (bh f)];show rd P (underlying e>>=_) h=_;rw[ba _ _ _ _ (bh g)];show rd P (Conv.bytesToString (.L p B.length c)) h=_;cases p with
 |none=>
  have:B= []:=by
   rcases H with H|⟨a,e,_⟩;cases B with
   |nil=>rfl
   |cons b B=>cases H
   cases e
  subst this;rfl
 |some a=>
  have d:cz a (bc B) 0 h:=by rcases H with H|⟨A,e,d⟩;rw[H];trivial;cases e;exact d
  have i:rd P (loadCells a B.length) h=some (bc B).toArray:=by unfold loadCells;rw[<-fO,iM (bc B) 0 #[] h d];simp
  show rd P (loadCells a B.length>>=λC=>(forIn C ByteArray.empty λc s=>(do
   let .int .u8 n:=c|stuck "bytesToString: byte expected"
   pure (ForInStep.yield (s.push (UInt8.ofNat n.toNat)))))>>=λs=>pure (Value.string s)) h=_
  rw[ba _ _ _ _ i,ba _ _ _ _ (Jk h B ByteArray.empty)];show some (Value.string ⟨ByteArray.empty.data++B.toArray⟩)=_;have:(⟨ByteArray.empty.data++B.toArray⟩:bC)=str B:=by unfold str;congr 1;show #[]++B.toArray=B.toArray;simp
  rw[this]
def Su{t e:TypeId}{h:Heap}{a:Addr}{n c:Nat}{K:dH}(i:P.underlying t=some (.slice e))(j:P.underlying e=some (.int .u8)){C:Array Value}{b:TypeId}{f:Nat×Nat}(d:h[a.block]? =some (.C C b f))(k: ∀H F,H[a.block]? =some (.C C b F)->H.size=h.size->(∀x,x≠a.block->H[x]? =h[x]?)->K (.L (some a) n c) H):bu P (convert t t (.L (some a) n c)) h K:=by
 unfold convert;refine aZ (s:=underlying t) (bh i) ?_;refine aZ (s:=underlying t) (bh i) ?_;show bu P (underlying e>>=_) h K;refine aZ (s:=underlying e) (bh j) ?_;have o:(t==t)=true:=bO
 rw[o];show bu P (markStringish a>>=λ_=>pure (.L (some a) n c)) h K;rw[cY];unfold markStringish shape;have m:qu h a.block=some (b,C.size):=by simp[qu,d]
 show bu P (match qu h a.block with|some (_,n)=>freeze { block:=a.block,off:=n } 1|_=>pure ()) h _;rw[m];show K (.L (some a) n c) (oo h { block:=a.block,off:=C.size } 1);unfold oo;rw[fe];obtain⟨l,g⟩:=f;refine k _ (if l==g then(C.size,C.size+1)else(min l C.size,max g (C.size+1))) ?_ bO (λx p=> ?_);simp[cX,d];simp[cX,Ne.symm p]
end
def tP(n:Nat):IntKind.wrap .u8 (n:Int)=((n%256:Nat):Int):=by rfl
def Wn(n:Nat):IntKind.wrap .u8 ((BitVec.ofInt (IntKind.bits .u8) (IntKind.wrap .u8 (n:Int))|||BitVec.ofInt (IntKind.bits .u8) 128).toNat:Int)=((UInt8.ofNat (n%128+128)).toNat:Int):=by
 have K: ∀m:Fin 256,(((BitVec.ofInt 8 (m.val:Int)|||BitVec.ofInt 8 128).toNat%256))=m.val%128+128:=bA
 rw[tP n,tP];have k:=K ⟨n%256,ae⟩;simp only at k;have e:IntKind.bits .u8=8:=rfl;rw[e,k,UInt8.toNat_ofNat'];omega
def XG{n:Nat}:Int.fdiv (n:Int) (2 ^ min (Int.toNat 7) (IntKind.bits .u64))=((n/128:Nat):Int):=by show Int.fdiv (n) 128=_;rw[Int.fdiv_eq_ediv_of_nonneg _ ae];omega
structure BV where
 p:bH
 c:Nat
 b:cO
abbrev BV.val(x:BV):Value:=.slice x.p x.b.length x.c
structure BV.ok (h:Heap) (D:fZ) (x:BV):Prop where
 row:Row h x.p (bc x.b)
 own:x.b≠ []->∀c,aN x.p c->D c
 cap:x.b.length<=x.c
def BV.ok.frame{h b:Heap}{D Q:fZ}{x:BV}(H:x.ok h D)(f:Fr Q h b)(g: ∀c,D c->¬Q c):x.ok b D:=by refine⟨?_,H.own,H.cap⟩;by_cases d:x.b= [];rw[d];exact .inl rfl;exact H.row.frame f (λa e=>g a.block (H.own d a.block ⟨a,e,rfl⟩))
def BV.ok.mono{h:Heap}{D D':fZ}{x:BV}(H:x.ok h D)(b: ∀c,D c->D' c):x.ok h D':=⟨H.row,λa c d=>b c (H.own a c d),H.cap⟩
def BV.kZ{h:Heap}{D:fZ}{p:bH}{c:Nat}{b:cO}(o:Own h p b.length c 1 (bc b))(H: ∀x,aN p x->D x):BV.ok h D ⟨p,c,b⟩:=⟨o.iy,λ_=>H,o.le⟩
def iV(p:bH)(m s:Nat):bV p m 0 s=p:=by
 unfold bV;split;rfl;cases p with
 |none=>rfl
 |some a=>simp[Addr.add]
def Own.gL{h:Heap}{a:Addr}{len cap sz:Nat}{b:Type}{enc:b->List Value}{X:List b}(o:Own h (.some a) len cap sz (X.flatMap enc))(H: ∀x,(enc x).length=sz){i:Nat}{x:b}(c:X[i]? =.some x):cz (a.add (i*sz)) (enc x) 0 h:=by refine kx.2 λj v d=> ?_;rw[aX,add_add];exact o.cell (vr enc sz H X i x c j v d)
def Row.gL{h:Heap}{a:Addr}{sz:Nat}{b:Type}{enc:b->List Value}{X:List b}(o:Row h (.some a) (X.flatMap enc))(H: ∀x,(enc x).length=sz){i:Nat}{x:b}(c:X[i]? =.some x):cz (a.add (i*sz)) (enc x) 0 h:=by refine kx.2 λj v d=> ?_;rw[aX,add_add];exact o.cell (vr enc sz H X i x c j v d)
theorem Own.addr{h:Heap}{p:bH}{len cap s:Nat}{C:List Value}(O:Own h p len cap s C)(a:0<len): ∃b o,p=.some (AA b o):=by
 cases O with
 |nil _ H _ _=>omega
 |row b o c t d _ _ _ _ _=>grind
theorem mM{a:Type}(e:a->List Value)(s:Nat)(h: ∀x,(e x).length=s): ∀(X:List a)(i:Nat),(X.flatMap e).take (i*s)=(X.take i).flatMap e
 | [],i=>bO
 |x::X,0=>bO
 |x::X,i+1=>by rw[eM,List.take_succ_cons,eM,List.take_append,h,bz (by grind),show(i+1)*s - s=i*s by grind,mM e s h X i]
theorem zB{a:Type}(e:a->List Value)(s:Nat)(h: ∀x,(e x).length=s): ∀(X:List a)(i:Nat),(X.flatMap e).drop (i*s)=(X.drop i).flatMap e
 | [],i=>bO
 |x::X,0=>bO
 |x::X,i+1=>by rw[eM,List.drop_succ_cons,List.drop_append,h,dR (by grind),dJ,show(i+1)*s - s=i*s by grind,zB e s h X i]
theorem PR{d:Type}(e:d->List Value)(s:Nat)(h: ∀x,(e x).length=s): ∀(X:List d)(i:Nat)(y:d),i<X.length->∀(c:List Value),c.length=(X.flatMap e).length->(∀j,j/s≠i\/s=0->c[j]? =(X.flatMap e)[j]?)->(∀j v,j<s->(e y)[j]? =some v->c[i*s+j]? =some v)->c=(X.set i y).flatMap e:=by
 intro X i y p c u k o;apply List.ext_getElem?;intro j;by_cases r:s=0;rw[k j (.inr r)];have E: ∀z:List d,z.flatMap e= []:=λz=>by simp_all
 rw[E,E];have g:0<s:=ae
 by_cases m:j/s=i;have f:j=i*s+j%s:=by rw[<-m,Nat.mul_comm];exact(Nat.div_add_mod j s).symm
 have q:=Nat.mod_lt j g;have H:(e y)[j%s]? =some ((e y)[j%s]'(by grind)):=ai _;have a:=o _ _ q H;have b:=vr e s h (X.set i y) i y (by simp[p]) _ _ H;rw[<-f]at a b;rw[a,b];rw[k j (.inl m)];by_cases n:j/s<X.length;have f:j=(j/s)*s+j%s:=by rw[Nat.mul_comm];exact(Nat.div_add_mod j s).symm
 have t:(X.set i y)[j/s]? =some (X[j/s]):=by grind
 have H:(e X[j/s])[j%s]? =some ((e X[j/s])[j%s]'(by rw[h];exact(Nat.mod_lt j g))):=ai _;have a:=vr e s h X _ _ (ai n) _ _ H;have b:=vr e s h (X.set i y) _ _ t _ _ H;rw[<-f]at a b;rw[a,b];have l:=by have:=(Nat.le_div_iff_mul_le g).1 (Nat.le_of_not_lt n);exact this
 rw[List.getElem?_eq_none (by rw[ky e s h];exact l),List.getElem?_eq_none (by rw[ky e s h,fz];exact l)]
section
variable {P : Program}
def NS{S X D elem k t:TypeId}{s bytes:Nat}{z:Value}{h:Heap}{q:bH}{n cq:Nat}{d:List Value}{K:dH}(T:jL P S elem s bytes z)(f:P.underlying X=some (.slice k))(B:Row h q d)(u:d.length=n*s)(A: ∀v∈d,fH v=true)(r:n*bytes<=70368744177664)(G:n<=9223372036854775807)(y: ∀p C H,Own H p n C s d->Fr (λ_=>False) h H->(∀c,aN p c->h.size<=c)->K (.L p n C) H):
  aT h (.C #[] t) λb m=>bu P (Builtin.append_ #[S,X] D #[.L (Sa b 0) 0 0,.L q n cq]) m K:=by
 refine bn ?_;have F:Fr (λ_=>False) h (h.push (.C #[] t)):=Fr.push _ _;refine du (cs:= []) T f (.row h.size 0 #[] t rfl aU (bf _) bO bO (λj v w=>by cases w)) (B.frame F bD) u A (dQ r) ae ?_;intro p i H o _ l g;rw[aX,dJ]at o;rw[aX];refine y p i H o (F.step l (λc I ⟨a,e,E⟩=>by cases e;simp at E;omega)) (λx f=> ?_);rcases g x f with⟨a,e,rfl⟩|h2;cases e;exact bf _;simp at h2;omega
end
def Gy{P:Program}{S X B elem E t:TypeId}{s bytes:Nat}{z:Value}{h:Heap}{p:bH}{n c:Nat}{D:List Value}{R:dH}(T:jL P S elem s bytes z)(A:P.underlying X=some (.slice E))(F:0<s)(m:Row h p D)(j:D.length=n*s)(y: ∀v∈D,fH v=true)(u:n*bytes<=70368744177664)(w:n<=9223372036854775807)(k: ∀i C H,Own H i n C s D->Fr (λ_=>False) h H->(∀x,aN i x->h.size<=x)->R (.L i n C) H):
  if p.isNone=true then R (.Z) h else aT h (.C #[] t) λb q=>bu P (Builtin.append_ #[S,X] B #[.L (Sa b 0) 0 0,.L p n c]) q λv r=> ∃a l d,v=.L a l d/\R (.L a l d) r:=by
 cases p with
 |none=>
  rcases m with rfl|⟨a,e,_⟩;obtain rfl:n=0:=by
   cases n with
   |zero=>rfl
   |succ n=>rw[bZ,Nat.succ_mul]at j;omega
  exact k none 0 h (.nil rfl rfl rfl rfl) (Fr.refl _ _) (λx ⟨a,e,_⟩=>by cases e);cases e
 |some a=>exact NS T A m j y u w λi C H o f g=>⟨_,_,_,rfl,k i C H o f g⟩
theorem Dc{a:Type}(f:a->Value)(X:List a):X.flatMap (λx=> [f x])=X.map f:=by
 induction X with
 |nil=>rfl
 |cons x X i=>grind
end Go.Den
