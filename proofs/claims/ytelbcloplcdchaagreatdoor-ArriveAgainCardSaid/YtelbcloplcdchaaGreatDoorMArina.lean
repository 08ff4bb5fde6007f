/-
  IF is proved here: parts of zp proof, one behind zp other (texts of this work, merged by a program; JW zp theorem JX not use is left out). No condition.
-/
import Derived.OrdersHeld
import Derived.Scope
import Derived.KernelRfl
import Derived.Recover
import Derived.IntWalk
import Derived.ProofKit
import Derived.ChangeOld
import Derived.Below
import Derived.Carry
import Derived.OpenShut
set_option linter.defProp false
set_option maxRecDepth 100000
set_option maxHeartbeats 4000000
namespace Go
section
variable {c p q r:Prop}
abbrev bZ:=Option Addr
abbrev cQ:=List UInt8
abbrev fp:=Value→Array Obj→Prop
abbrev dw:=Array Obj→Prop
abbrev gF:=Nat→Prop
abbrev kF:=List UInt8→Bool
abbrev kj:=Int→Array Obj→Prop
abbrev kG:=Int→Array Obj→Nat
abbrev JY:=Exit→Act→World→Prop
abbrev cF:=ByteArray
abbrev Zp:ByteArray:=⟨#[]⟩
abbrev wI(x:Int):Int:=IntKind.wrap .i64 x
abbrev wU(x:Int):Int:=IntKind.wrap .u64 x
abbrev AA(b i:Nat):Addr:=⟨b,i,none⟩
abbrev Sa(b i:Nat):Option Addr:=some ⟨b,i,none⟩
abbrev Value.I(x:Int):Value:=.int .i64 x
abbrev Value.U(x:Int):Value:=.int .u64 x
abbrev Value.Q(p:Option Addr):Value:=.pointer p
abbrev Value.P(b i:Nat):Value:=.pointer (some ⟨b,i,none⟩)
abbrev Value.L(p:Option Addr)(l c:Nat):Value:=.slice p l c
abbrev Value.B(b:Bool):Value:=.bool b
abbrev Value.S(s:ByteArray):Value:=.string s
abbrev Value.T(v:Array Value):Value:=.tuple v
abbrev Obj.C(c:Array Value)(t:TypeId)(f:Nat×Nat:=(0,0)):Obj:=.cells c t f
abbrev Value.Z:Value:=.slice none 0 0
def dz{i:Decidable c}{a:Sort _}{t e:a}(h: ¬c:=by first|decide|omega|(simp only[decide_eq_true_eq];omega)):ite c t e=e:=if_neg h
def gH{i:Decidable c}{a:Sort _}{t e:a}(h:c:=by first|decide|omega|exact decide_eq_true (by omega)):ite c t e=t:=if_pos h
def bC{d:Sort _}{f:d→Sort _}{e:(a:d)→f a→Prop}: ∀a b,e a b→e a b:=λ_ _=>id
def ae(h:p:=by omega):p:=h
def cW(h:p:=by decide):p:=h
def bt(h:p:=by simp):p:=h
def cZ(h:p:=by kernel_rfl):p:=h
def bN(h:q)(g:q→p:=by intro;omega):p:=g h
def gM(h:q)(k:r)(g:q→r→p:=by intro _ _;omega):p:=g h k
def zq{s:Prop}(h:q)(k:r)(l:s)(g:q→r→s→p:=by intro _ _ _;omega):p:=g h k l
def dH(h:q)(g:q→p:=by intro h;simpa using h):p:=g h
def eU:type_of% @Array.getD_eq_getD_getElem?:=@Array.getD_eq_getD_getElem?
def dU:type_of% @Array.getElem?_append_left:=@Array.getElem?_append_left
def dD:type_of% @Array.getElem?_modify:=@Array.getElem?_modify
def dh:type_of% @Array.getElem?_push:=@Array.getElem?_push
def dK:type_of% @Array.getElem?_setIfInBounds:=@Array.getElem?_setIfInBounds
def dP:type_of% @Array.getElem?_toList:=@Array.getElem?_toList
def cI:type_of% @Array.size_push:=@Array.size_push
def gu:type_of% @Bool.and_assoc:=@Bool.and_assoc
def aZ:type_of% @Bool.and_eq_true:=@Bool.and_eq_true
def az:type_of% @Bool.false_eq_true:=@Bool.false_eq_true
def fI:type_of% @Bool.not_eq_true':=@Bool.not_eq_true'
def ee:type_of% @Bool.not_false:=@Bool.not_false
def df:type_of% @Bool.not_true:=@Bool.not_true
def gU:type_of% @Bool.true_and:=@Bool.true_and
def eV:type_of% @Iff.rfl:=@Iff.rfl
def dE:type_of% @Int.eq_ofNat_of_zero_le:=@Int.eq_ofNat_of_zero_le
def gv:type_of% @Int.le_refl:=@Int.le_refl
def aK:type_of% @Int.toNat_natCast:=@Int.toNat_natCast
def gJ:type_of% @List.Pairwise.filter:=@List.Pairwise.filter
def fL:type_of% @List.Pairwise.sublist:=@List.Pairwise.sublist
def gD:type_of% @List.Sublist.map:=@List.Sublist.map
def cu:type_of% @List.append_assoc:=@List.append_assoc
def fy:type_of% @List.append_nil:=@List.append_nil
def dC:type_of% @List.cons_append:=@List.cons_append
def cG:type_of% @List.drop_eq_getElem_cons:=@List.drop_eq_getElem_cons
def dW:type_of% @List.drop_of_length_le:=@List.drop_of_length_le
def gK:type_of% @List.drop_zero:=@List.drop_zero
def fH:type_of% @List.ext_getElem?:=@List.ext_getElem?
def fz:type_of% @List.filter_append:=@List.filter_append
def eO:type_of% @List.filter_congr:=@List.filter_congr
def di:type_of% @List.filter_cons:=@List.filter_cons
def cK:type_of% @List.filter_eq_self:=@List.filter_eq_self
def dT:type_of% @List.filter_map:=@List.filter_map
def da:type_of% @List.filter_sublist:=@List.filter_sublist
def fY:type_of% @List.find?_eq_some_iff_getElem:=@List.find?_eq_some_iff_getElem
def dp:type_of% @List.findIdx?_eq_some_iff_getElem:=@List.findIdx?_eq_some_iff_getElem
def cO:type_of% @List.flatMap_append:=@List.flatMap_append
def fJ:type_of% @List.flatMap_cons:=@List.flatMap_cons
def bx:type_of% @List.getD_eq_getElem?_getD:=@List.getD_eq_getElem?_getD
def fj:type_of% @List.getElem?_append_left:=@List.getElem?_append_left
def du:type_of% @List.getElem?_append_right:=@List.getElem?_append_right
def fC:type_of% @List.getElem?_drop:=@List.getElem?_drop
def au:type_of% @List.getElem?_eq_getElem:=@List.getElem?_eq_getElem
def aJ:type_of% @List.getElem?_eq_some_iff:=@List.getElem?_eq_some_iff
def eE:type_of% @List.getElem?_inj:=@List.getElem?_inj
def aN:type_of% @List.getElem?_map:=@List.getElem?_map
def bA:type_of% @List.getElem?_of_mem:=@List.getElem?_of_mem
def db:type_of% @List.getElem?_take:=@List.getElem?_take
def fZ:type_of% @List.getElem_mem:=@List.getElem_mem
def aq:type_of% @List.length_append:=@List.length_append
def ba:type_of% @List.length_cons:=@List.length_cons
def cR:type_of% @List.length_drop:=@List.length_drop
def gO:type_of% @List.length_eq_zero_iff:=@List.length_eq_zero_iff
def cS:type_of% @List.length_filter_le:=@List.length_filter_le
def aw:type_of% @List.length_map:=@List.length_map
def cA:type_of% @List.length_nil:=@List.length_nil
def fS:type_of% @List.length_set:=@List.length_set
def fk:type_of% @List.length_singleton:=@List.length_singleton
def bT:type_of% @List.length_take:=@List.length_take
def aS:type_of% @List.map_append:=@List.map_append
def fh:type_of% @List.map_congr_left:=@List.map_congr_left
def cp:type_of% @List.map_cons:=@List.map_cons
def dR:type_of% @List.map_map:=@List.map_map
def bP:type_of% @List.mem_append:=@List.mem_append
def dY:type_of% @List.mem_append_left:=@List.mem_append_left
def dy:type_of% @List.mem_append_right:=@List.mem_append_right
def bG:type_of% @List.mem_cons:=@List.mem_cons
def bQ:type_of% @List.mem_cons_of_mem:=@List.mem_cons_of_mem
def dN:type_of% @List.mem_cons_self:=@List.mem_cons_self
def bD:type_of% @List.mem_filter:=@List.mem_filter
def bh:type_of% @List.mem_map:=@List.mem_map
def bL:type_of% @List.mem_map_of_mem:=@List.mem_map_of_mem
def aG:type_of% @List.mem_of_getElem?:=@List.mem_of_getElem?
def bW:type_of% @List.mem_singleton:=@List.mem_singleton
def dj:type_of% @List.nil_append:=@List.nil_append
def ft:type_of% @List.nodup_append:=@List.nodup_append
def gz:type_of% @List.nodup_cons:=@List.nodup_cons
def gX:type_of% @List.not_mem_nil:=@List.not_mem_nil
def dF:type_of% @List.pairwise_cons:=@List.pairwise_cons
def dM:type_of% @List.pairwise_map:=@List.pairwise_map
def eJ:type_of% @List.perm_append_singleton:=@List.perm_append_singleton
def aV:type_of% @List.take_add_one:=@List.take_add_one
def fM:type_of% @List.take_append_drop:=@List.take_append_drop
def dA:type_of% @List.take_length:=@List.take_length
def aX:type_of% @List.take_of_length_le:=@List.take_of_length_le
def fN:type_of% @List.take_zero:=@List.take_zero
def gG:type_of% @Nat.add_mul:=@Nat.add_mul
def cT:type_of% @Nat.eq_of_beq_eq_true:=@Nat.eq_of_beq_eq_true
def bu:type_of% @Nat.le_refl:=@Nat.le_refl
def cD:type_of% @Nat.le_trans:=@Nat.le_trans
def bX:type_of% @Nat.lt_of_lt_of_le:=@Nat.lt_of_lt_of_le
def dc:type_of% @Nat.mul_le_mul_right:=@Nat.mul_le_mul_right
def cC:type_of% @Nat.mul_one:=@Nat.mul_one
def gL:type_of% @Nat.pow_le_pow_right:=@Nat.pow_le_pow_right
def bj:type_of% @Nat.zero_add:=@Nat.zero_add
def bK:type_of% @Nat.zero_le:=@Nat.zero_le
def dL:type_of% @Option.isSome_iff_exists:=@Option.isSome_iff_exists
def eu:type_of% @Option.map_some:=@Option.map_some
def bF:type_of% @Option.some.inj:=@Option.some.inj
def cM:type_of% @Option.some.injEq:=@Option.some.injEq
def fU:type_of% @UInt8.toNat_ofNat':=@UInt8.toNat_ofNat'
def dQ:type_of% @beq_iff_eq:=@beq_iff_eq
def gy:type_of% @bne_eq_false_iff_eq:=@bne_eq_false_iff_eq
def fi:type_of% @bne_iff_ne:=@bne_iff_ne
def bV:type_of% @congrArg:=@congrArg
def aT:type_of% @decide_eq_false:=@decide_eq_false
def eK:type_of% @decide_eq_false_iff_not:=@decide_eq_false_iff_not
def aC:type_of% @decide_eq_true:=@decide_eq_true
def bn:type_of% @decide_eq_true_eq:=@decide_eq_true_eq
def cU:type_of% @decide_false:=@decide_false
def ct:type_of% @decide_true:=@decide_true
def aY:type_of% @if_false:=@if_false
def af:type_of% @if_neg:=@if_neg
def ag:type_of% @if_pos:=@if_pos
def bJ:type_of% @if_true:=@if_true
def fV:type_of% @of_decide_eq_false:=@of_decide_eq_false
def bk:type_of% @of_decide_eq_true:=@of_decide_eq_true

end
end Go
namespace Go.Den
section
variable {P:Program} {F:Value->Prop} {t:TypeId}
abbrev aA:=Array Obj
abbrev Env:=Nat->Option Value
def aU(h:aA)(a:Addr):Option Value:=
 match h[a.block]? with
 |some (.cells c _ _)=>if a.spot.isSome then none else c[a.off]?
 |_=>none
def rR(h:aA)(r:Nat):Option (TypeId×Nat):=
 match h[r]? with
 |some (.cells c elem _)=>some (elem,c.size)
 |_=>none
def rT(h:aA)(a:Addr):Bool:=
 match h[a.block]? with
 |some (.cells _ _ (l,H))=>l<=a.off && a.off<H
 |_=>false
def pU(h:aA)(a:Addr)(n:Nat):aA:=
 if n=0 then h else
 h.modify a.block fun
   | .cells c elem (l,H)=> .cells c elem (if l==H then(a.off,a.off+n)else(min l a.off,max H (a.off+n)))
   |o=>o
def rU(h:aA)(a:Addr)(v:Value):aA:=
 h.modify a.block fun
   | .cells c elem frozen=> .cells (if a.spot.isSome then c else c.setIfInBounds a.off v) elem frozen
   |o=>o
def mT(w:World)(a:Addr):w.cell? a=aU w.heap a:=rfl
def Qt(w:World)(r:Nat):w.shape? r=rR w.heap r:=rfl
def wV(w:World)(a:Addr):w.frozen? a=rT w.heap a:=rfl
def x6(w:World)(a:Addr)(v:Value):(w.setCell a v).heap=rU w.heap a v:=rfl
def G0(w:World)(a:Addr)(n:Nat):(w.freeze a n).heap=pU w.heap a n:=by unfold World.freeze pU;split<;>rfl
def fQ(w a:World):Prop:=a.os=w.os/\a.output=w.output/\a.tape=w.tape
def fQ.refl(w:World):fQ w w:=⟨rfl,rfl,rfl⟩
def fQ.trans{a b c:World}(h:fQ a b)(H:fQ b c):fQ a c:=⟨H.1.trans h.1,H.2.1.trans h.2.1,H.2.2.trans h.2.2⟩
def gk:Value->Bool
 | .agg _| .tuple _=>false
 |_=>true
def bM(P:Program){b:Type}:Sem b->aA->(b->dw)->Prop
 | .pure a,h,K=>K a h
 | .load _ a k,h,K=> ∃v,aU h a=some v/\bM P (k v) h K
 | .store _ a v k,h,K=>gk v=true/\(aU h a).isSome=true/\rT h a=false/\bM P k (rU h a v) K
 | .new o k,h,K=>bM P (k h.size) (h.push o) K
 | .shape r k,h,K=>bM P (k (rR h r)) h K
 | .freeze a n k,h,K=>bM P k (pU h a n) K
 | .frozen a k,h,K=>bM P (k (rT h a)) h K
 | .getObj r k,h,K=> ∃o,h[r]? =some o/\(∀c e f,o≠ .cells c e f)/\bM P (k o) h K
 | .setObj r o k,h,K=>(∃O,h[r]? =some O/\(∀c e f,O≠ .cells c e f))/\bM P k (h.setIfInBounds r o) K
 | .choose q k,h,K=>if q.forced=true then bM P (k 0) h K else∀t,bM P (k (q.cut t)) h K
 | .sys _ _,_,_=>False
 | .program k,h,K=>bM P (k P) h K
 | .mark _ k,h,K=>bM P k h K
 | .halt _,_,_=>False
theorem lK{j:Type}(s:Sem j): ∀(h:aA){K d:j->dw},(∀a h,K a h->d a h)->bM P s h K->bM P s h d:=by
 induction s with
 |pure a=>intro h K d b H;exact b _ _ H
 |load m a k i=>intro h K d b H;have⟨v,e,f⟩:=H;exact⟨v,e,i v h b f⟩
 |store m a v k i=>intro h K d b H;have⟨e,f,g,l⟩:=H;exact⟨e,f,g,i _ b l⟩
 |new o k i=>intro h K d b H;exact i _ _ b H
 |shape r k i=>intro h K d b H;exact i _ _ b H
 |freeze a n k i=>intro h K d b H;exact i _ b H
 |frozen a k i=>intro h K d b H;exact i _ _ b H
 |getObj r k i=>intro h K d b H;have⟨o,e,f,g⟩:=H;exact⟨o,e,f,i _ _ b g⟩
 |setObj r o k i=>intro h K d b H;exact⟨H.1,i _ b H.2⟩
 |choose q k i=>intro h K d b H;unfold bM at H⊢;split;grind;grind
 |sys c k i=>intro h K d b H;exact H
 |program k i=>intro h K d b H;exact i _ _ b H
 |mark m k i=>intro h K d b H;exact i _ b H
 |halt x=>intro h K d b H;exact H
def JZ{b d:Type}(s:Sem b)(f:b->Sem d): ∀(h:aA)(K:d->dw),bM P (s.bind f) h K↔bM P s h (λa H=>bM P (f a) H K):=by
 induction s with
 |pure a=>intro h K;exact eV
 |load m a k i=>intro h K;simp only[Sem.bind,bM,i]
 |store m a v k i=>intro h K;simp only[Sem.bind,bM,i]
 |new o k i=>intro h K;simp only[Sem.bind,bM,i]
 |shape r k i=>intro h K;simp only[Sem.bind,bM,i]
 |freeze a n k i=>intro h K;simp only[Sem.bind,bM,i]
 |frozen a k i=>intro h K;simp only[Sem.bind,bM,i]
 |getObj r k i=>intro h K;simp only[Sem.bind,bM,i]
 |setObj r o k i=>intro h K;simp only[Sem.bind,bM,i]
 |choose q k i=>intro h K;simp only[Sem.bind,bM,i]
 |sys c k i=>intro h K;simp only[Sem.bind,bM]
 |program k i=>intro h K;simp only[Sem.bind,bM,i]
 |mark m k i=>intro h K;simp only[Sem.bind,bM,i]
 |halt x=>intro h K;simp only[Sem.bind,bM]
theorem oq{z:Type}(s:Sem z): ∀(h:aA)(K:z->dw),bM P s h K->
  ∀w:World,w.heap=h->∃a b,s.run P w=.ok a b/\K a b.heap/\fQ w b:=by
 induction s with
 |pure a=>intro h K H w d;subst d;exact⟨a,w,rfl,H,fQ.refl w⟩
 |load m a k i=>intro h K H w d;subst d;obtain⟨v,g,j⟩:=H;obtain⟨x,b,R,e⟩:=i v _ _ j w rfl;exact⟨x,b,by simp[Sem.run,mT,g,R],e⟩
 |store m a v k i=>intro h K H w d;subst d;obtain⟨g,j,l,A⟩:=H;obtain⟨u,y⟩:=dL.1 j;obtain⟨x,b,R,e,f⟩:=i _ _ A (w.setCell a v) (x6 w a v);refine⟨x,b,?_,e,f⟩;rw[<-mT]at y;rw[<-wV]at l;cases v<;>simp[gk]at g<;>simp[Sem.run,y,l,R]
 |new o k i=>intro h K H w d;subst d;obtain⟨x,b,R,e,f⟩:=i _ _ _ H { w with heap:=w.heap.push o } rfl;exact⟨x,b,R,e,f⟩
 |shape r k i=>intro h K H w d;subst d;obtain⟨x,b,R,e⟩:=i _ _ _ H w rfl;exact⟨x,b,by rw[<-Qt]at R;simp[Sem.run,R],e⟩
 |freeze a n k i=>intro h K H w d;subst d;obtain⟨x,b,R,e,f⟩:=i _ _ H (w.freeze a n) (G0 w a n);refine⟨x,b,by simp[Sem.run,R],e,?_⟩;refine fQ.trans ?_ f;unfold World.freeze;split<;>exact⟨rfl,rfl,rfl⟩
 |frozen a k i=>intro h K H w d;subst d;obtain⟨x,b,R,e⟩:=i _ _ _ H w rfl;exact⟨x,b,by rw[<-wV]at R;simp[Sem.run,R],e⟩
 |getObj r k i=>intro h K H w d;subst d;obtain⟨o,g,j,l⟩:=H;obtain⟨x,b,R,e⟩:=i _ _ _ l w rfl;refine⟨x,b,?_,e⟩;cases o<;>first|exact absurd rfl (j _ _ _)|simp[Sem.run,g,R]
 |setObj r o k i=>intro h K H w d;subst d;obtain⟨⟨O,g,j⟩,l⟩:=H;obtain⟨x,b,R,e,f⟩:=i _ _ l { w with heap:=w.heap.setIfInBounds r o } rfl;refine⟨x,b,?_,e,f⟩;cases O<;>first|grind|simp[Sem.run,g,R]
 |choose q k i=>intro h K H w d;subst d;unfold bM at H;split at H;rename_i p;obtain⟨x,b,R,e⟩:=i _ _ _ H w rfl;exact⟨x,b,by simp[Sem.run,p,R],e⟩;rename_i p;obtain⟨x,b,R,e,f⟩:=i _ _ _ (H (w.tape w.drawn q)) { w with drawn:=w.drawn+1 } rfl;exact⟨x,b,by simp only[Sem.run,af p];exact R,e,f⟩
 |sys c k i=>intro h K H;exact H.elim
 |program k i=>intro h K H w d;subst d;obtain⟨x,b,R,e⟩:=i _ _ _ H w rfl;exact⟨x,b,by simp[Sem.run,R],e⟩
 |mark m k i=>intro h K H w d;subst d;obtain⟨x,b,R,e⟩:=i _ _ H w rfl;exact⟨x,b,by simp[Sem.run,R],e⟩
 |halt x=>intro h K H;exact H.elim
def rd(P:Program){b:Type}:Sem b->aA->Option b
 | .pure a,_=>some a
 | .load _ a k,h=>(match aU h a with|some v=>rd P (k v) h|none=>none)
 | .shape r k,h=>rd P (k (rR h r)) h
 | .frozen a k,h=>rd P (k (rT h a)) h
 | .getObj r k,h=>(match h[r]? with|some (.cells _ _ _)=>none|some o=>rd P (k o) h|none=>none)
 | .program k,h=>rd P (k P) h
 | .mark _ k,h=>rd P k h
 |_,_=>none
def Qu{d:Type}(s:Sem d): ∀(h:aA)(a:d),rd P s h=some a->∀K:d->dw,K a h->bM P s h K:=by
 induction s with
 |pure b=>intro h a e K H;simp only[rd,cM]at e;subst e;exact H
 |load m b k i=>intro h a e K H;simp only[rd]at e;split at e;rename_i v n;exact⟨v,n,i v h a e K H⟩;cases e
 |shape r k i=>intro h a e K H;exact i _ h a e K H
 |frozen b k i=>intro h a e K H;exact i _ h a e K H
 |getObj r k i=>intro h a e K H;simp only[rd]at e;split at e;cases e;rename_i o j l;exact⟨o,l,λc e f g=>j c e f (g▸rfl),i _ h a e K H⟩;cases e
 |program k i=>intro h a e K H;exact i _ h a e K H
 |mark m k i=>intro h a e K H;exact i h a e K H
 |_=>intro h a e;simp[rd]at e
theorem x7{c:Type}(s:Sem c): ∀(w:World)(a:c),rd P s w.heap=some a->s.run P w=.ok a w:=by
 induction s with
 |pure b=>intro w a e;simp only[rd,cM]at e;subst e;rfl
 |load m b k i=>intro w a e;simp only[rd]at e;split at e;rename_i v h;rw[<-mT]at h;simp only[Sem.run,h];exact i v w a e;cases e
 |shape r k i=>intro w a e;exact i _ w a e
 |frozen b k i=>intro w a e;exact i _ w a e
 |getObj r k i=>
  intro w a e;simp only[rd]at e;split at e;cases e
  .rename_i o d H;cases o<;>first|grind|(simp only[Sem.run,H];exact i _ w a e)
  cases e
 |program k i=>intro w a e;exact i _ w a e
 |mark m k i=>intro w a e;exact i w a e
 |_=>intro w a e;simp[rd]at e
theorem bE{c g:Type}(s:Sem c)(f:c->Sem g): ∀(h:aA)(a:c),rd P s h=some a->rd P (s>>=f) h=rd P (f a) h:=by
 show∀(h:aA)(a:c),rd P s h=some a->rd P (s.bind f) h=rd P (f a) h;induction s with
 |pure b=>intro h a e;simp only[rd,cM]at e;subst e;rfl
 |load m b k i=>intro h a e;simp only[rd]at e;split at e;rename_i v d;simp only[Sem.bind,rd,d];exact i v h a e;cases e
 |shape r k i=>intro h a e;exact i _ h a e
 |frozen b k i=>intro h a e;exact i _ h a e
 |getObj r k i=>
  intro h a e;simp only[rd]at e;split at e;cases e
  .rename_i o j H;cases o<;>first|grind|(simp only[Sem.bind,rd,H];exact i _ h a e)
  cases e
 |program k i=>intro h a e;exact i _ h a e
 |mark m k i=>intro h a e;exact i h a e
 |_=>intro h a e;simp[rd]at e
def mJ(P:Program)(f:FuncId)(args:Array Value)(h:aA)(R:fp):Prop:=
 ∀w:World,w.heap=h->Calls P f args w (λe a=> ∃v,e=.returned v/\R v a.heap/\fQ w a)
def mJ.mono{f:FuncId}{args:Array Value}{h:aA}{R r:fp}(c:mJ P f args h R)(d: ∀v H,R v H->r v H):mJ P f args h r:=
 λw g=>(c w g).mono λ_ _ ⟨v,b,a,e⟩=>⟨v,b,d _ _ a,e⟩
def Ws(P:Program)(K:fp):Next->dw
 | .value v,h=>K v h
 | .skip,h=>K undef h
 | .enter f args,h=>mJ P f args h K
 |_,_=>False
def rV(P:Program)(o:Oper)(a:Operand->Value)(h:aA)(K:fp):Prop:=
 bM P (execOp a o) h (Ws P K)
def rV.wp{o:Oper}{a:Act}{w:World}{K:fp}{next:Act->World->Prop}{Q:JY}(c:rV P o a.eval w.heap K)(h: ∀v b,K v b.heap->fQ w b->next (a.put o.dst v) b):o.wp P a w next Q:=by
 have⟨x,b,g,r,R⟩:=oq _ _ _ c w rfl;unfold Oper.wp;rw[g];cases x with
 |value v=>exact h _ _ r R
 |skip=>exact h _ _ r R
 |enter f args=>refine(r b rfl).mono ?_;rintro e i ⟨v,rfl,H,d⟩;exact h _ _ H (R.trans d)
 |_=>exact r.elim
inductive iu where
 |int (k:IntKind)
 |bool
 |str
 |ptr
 |slice
 |map
 |raw
inductive Sh where
 |one (l:iu)
 |agg (ls:List iu)
def iu.ex:iu->(Value->Prop)->Prop
 | .int k,F=> ∃n:Int,F (.int k n)
 | .bool,F=> ∃b:Bool,F (.bool b)
 | .str,F=> ∃s:cF,F (.string s)
 | .ptr,F=> ∃p:bZ,F (.pointer p)
 | .slice,F=> ∃(p:bZ)(l c:Nat),F (.slice p l c)
 | .map,F=> ∃m:Option Nat,F (.map m)
 | .raw,F=> ∃v:Value,F v
def XA:List iu->(List Value->Prop)->Prop
 | [],F=>F []
 |l::L,F=>l.ex λv=>XA L λV=>F (v::V)
def Sh.ex:Sh->(Value->Prop)->Prop
 | .one l,F=>l.ex F
 | .agg L,F=>XA L λv=>F (.agg v.toArray)
def Nu:List Sh->(List Value->Prop)->Prop
 | [],F=>F []
 |s::S,F=>s.ex λv=>Nu S λV=>F (v::V)
theorem iu.ot{l:iu}(h:l.ex F): ∃v,F v:=by cases l<;>simp only[iu.ex]at h;all_goals grind
def J0: ∀{l:List iu}{F:List Value->Prop},XA l F->∃V,V.length=l.length/\F V
 | [],_,h=>⟨[],rfl,h⟩
 |_::_,_,h=>by have⟨v,h⟩:=iu.ot h;have⟨V,H,h⟩:=J0 h;exact⟨v::V,by simp[H],h⟩
def Sh.ot{s:Sh}(h:s.ex F): ∃v,F v:=by
 cases s with
 |one l=>exact iu.ot h
 |agg L=>have⟨V,_,h⟩:=J0 h;exact⟨_,h⟩
def x8: ∀{l:List Sh}{F:List Value->Prop},Nu l F->∃V,F V
 | [],_,h=>⟨[],h⟩
 |_::_,_,h=>by have⟨v,h⟩:=Sh.ot h;have⟨V,h⟩:=x8 h;exact⟨v::V,h⟩
def AP(P:Program)(t:TypeId):Option iu:=
 match P.underlying t with
 |some .bool=>some .bool
 |some (.int k)=>some (.int k)
 |some .string=>some .str
 |some (.pointer _)=>some .ptr
 |some (.slice _)=>some .slice
 |some (.map _ _)=>some .map
 |some (.struct _)=>none
 |some (.array _ _)=>none
 |some (.tuple _)=>none
 |some _=>some .raw
 |none=>none
def zt(P:Program):Nat->TypeId->Option (List iu)
 |0,_=>none
 |n+1,t=>
  match P.underlying t with
  |some (.struct fs)=>fs.toList.foldr (λf A=>match zt P n f.type,A with|some a,some b=>some (a++b)|_,_=>none) (some [])
  |some (.array m e)=>(zt P n e).map λl=>(List.replicate m l).flatten
  |_=>(AP P t).map ([·])
def DQ(P:Program)(t:TypeId):Bool:=
 match P.underlying t with
 |some (.struct _)=>true
 |some (.array _ _)=>true
 |_=>false
def Wt(P:Program)(t:TypeId):Option Sh:=
 match DQ P t with
 |true=>(zt P 20 t).map .agg
 |false=>(AP P t).map .one
def UN(P:Program):List TypeId->Option (List Sh)
 | []=>some []
 |t::T=>match Wt P t,UN P T with
  |some s,some S=>some (s::S)
  |_,_=>none
def xT(P:Program)(t:TypeId)(F:Value->Prop):Prop:=
 match P.underlying t with
 |some (.tuple T)=>(match UN P T.toList with|some l=>Nu l λv=>F (.tuple v.toArray)|none=>False)
 |_=>(match Wt P t with|some s=>s.ex F|none=>False)
theorem DR(h:xT P t F): ∃v,F v:=by
 unfold xT at h;split at h;split at h
 have⟨_,h⟩:=x8 h;exact⟨_,h⟩;exact h.elim;split at h
 exact Sh.ot h;grind
def DS{v:Value}{K:Value->Prop}(h:xT P t λV=>v=V/\K V):K v:=by obtain⟨V,rfl,h⟩:=DR h;exact h
def aH{b:Type}(p:Option b)(F:b->Prop):Prop:=
 match p with
 |some a=>F a
 |none=>False
def bU{b:Type}{p:Option b}{F:b->Prop}:aH p F↔ ∃a,p=some a/\F a:=by cases p<;>simp[aH]
@[simp] theorem ar{b:Type}{a:b}{F:b->Prop}:aH (some a) F↔F a:=eV
def Env.set(a:Env)(d:Nat)(v:Value):Env:=λt=>bif Nat.beq t d then some v else a t
def Env.ev(a:Env):Operand->Option Value
 | .tmp t=>a t
 | .const v=>some v
 | .global g=>some (.pointer (some ⟨g,0,none⟩))
 | .func f=>some (.func (.func f) #[] #[])
def Env.xp(a:Env):Operand->Value:=λx=>(a.ev x).getD undef
def Vm(a:Env)(o:Oper):Bool:=o.op.operands.toList.all λx=>(a.ev x).isSome
def Fits(b:Env)(a:Operand->Value):Prop:= ∀x v,b.ev x=some v->a x=v
def lX(P:Program){b:Type}:Sem b->Option b
 | .pure a=>some a
 | .program k=>lX P (k P)
 | .mark _ k=>lX P k
 |_=>none
def Ka{c:Type}(s:Sem c): ∀(a:c),lX P s=some a->∀(h:aA)(K:c->dw),K a h->bM P s h K:=by
 induction s with
 |pure b=>intro a e h K H;simp only[lX,cM]at e;subst e;exact H
 |program k i=>intro a e h K H;exact i P a e h K H
 |mark m k i=>intro a e h K H;exact i a e h K H
 |_=>intro a e;simp[lX]at e
def x9{c:Type}(s:Sem c): ∀(a:c),lX P s=some a->∀(h:aA),rd P s h=some a:=by
 induction s with
 |pure b=>intro a e h;exact e
 |program k i=>intro a e h;exact i P a e h
 |mark m k i=>intro a e h;exact i a e h
 |_=>intro a e;simp[lX]at e
def DT(P:Program){a:Type}:Sem a->Option (Obj×(Nat->Sem a))
 | .new o k=>some (o,k)
 | .program k=>DT P (k P)
 | .mark _ k=>DT P k
 |_=>none
def LX{a:Type}(s:Sem a): ∀(o:Obj)(f:Nat->Sem a),DT P s=some (o,f)->∀(h:aA)(K:a->dw),bM P (f h.size) (h.push o) K->bM P s h K:=by
 induction s with
 |new b k i=>intro o f e h K H;obtain⟨rfl,rfl⟩:=e;exact H
 |program k i=>intro o f e h K H;exact i P o f e h K H
 |mark m k i=>intro o f e h K H;exact i o f e h K H
 |_=>intro o f e;simp[DT]at e
theorem Kb{a:Env}{c:Operand->Value}(d:Fits a c)(o:Oper)(H:Vm a o=true)(e: ∀C b,o.op≠ .select C b):execOp a.xp o=execOp c o:=by refine execOp_congr o e λx f=> ?_;have⟨v,h⟩:=dL.1 (List.all_eq_true.1 H x (by grind));rw[d x v h];simp[Env.xp,h]
def aW(h:aA)(o:Obj)(K:Nat->dw):Prop:= ∀b H,b=h.size->H=h.push o->K b H
def aO(h:aA)(a:Addr)(v:Value)(K:dw):Prop:=
 (aU h a).isSome=true/\rT h a=false/\∀H,H=rU h a v->K H
def dG(a:Addr):List Value->Nat->aA->(dw)->Prop
 | [],_,h,K=>K h
 |v::V,i,h,K=>(match gk v with|true=>aO h (a.add i) v λH=>dG a V (i+1) H K|false=>False)
def Qv(h:aA)(a:Addr):List iu->Nat->(List Value->Prop)->Prop
 | [],_,F=>F []
 |l::L,i,F=>l.ex λv=>aU h (a.add i)=some v/\Qv h a L (i+1) λV=>F (v::V)
def cH(a:Addr):List Value->Nat->dw
 | [],_,_=>True
 |v::V,i,h=>aU h (a.add i)=some v/\cH a V (i+1) h
def wW(P:Program)(t:TypeId)(h:aA)(a:Addr)(K:Value->Option (dw)->Prop):Prop:=
 match DQ P t with
 |true=>(match zt P 20 t,P.info? t with
  |some L,some i=>(match Nat.beq i.size L.length with
   |true=>Qv h a L 0 λV=>K (.agg V.toArray) (some (cH a V 0))
   |false=>False)
  |_,_=>False)
 |false=>(match AP P t with
  |some l=>l.ex λv=>aU h a=some v/\K v (some λH=>aU H a=some v)
  |none=>False)
def u9(P:Program)(t:TypeId)(u v:Value):Option Bool:=
 match v with
 | .pointer none=>(match u,P.underlying t with| .pointer p,some (.pointer _)=>some p.isNone|_,_=>none)
 | .map none=>(match u,P.underlying t with| .map m,some (.map _ _)=>some m.isNone|_,_=>none)
 | .slice none _ _=>(match u,P.underlying t with| .slice p _ _,some (.slice _)=>some p.isNone|_,_=>none)
 |_=>none
def vc(P:Program)(o:Oper)(a:Env)(K:Value->Option (dw)->Prop):Prop:=
 match Vm a o with
 |true=>(match lX P (execOp a.xp o)with|some (.value v)=>K v none|_=>False)
 |false=>False
def Ox(P:Program)(t:TypeId)(u v:Value)(b:Bool):Prop:= ∀h,rd P (Op.equal t u v) h=some b
def LY(o:Oper):Bool:=
 match o.op with
 | .binOp _ _ _ (.const _) _=>true
 |_=>false
def AQ(P:Program)(o:Oper)(t:TypeId)(u v:Value):Bool:=
 match v with
 | .nilIface=>LY o
 | .agg _=>(match u with| .agg _=> !P.eqGuardType P.depth t|_=>false)
 | .pointer _=>(match u with| .pointer _=> !LY o|_=>false)
 |_=>false
def LZ(P:Program)(o:Oper)(O:BinOp)(t:TypeId)(u v:Value)(c:Env)(K:Value->Option (dw)->Prop):Prop:=
 match O with
 | .eql=>(match AQ P o t u v with
  |true=> ∃b:Bool,Ox P t u v b/\K (.bool b) none
  |false=>(match u9 P t u v with|some b=>K (.bool b) none|none=>vc P o c K))
 | .neq=>(match AQ P o t u v with
  |true=> ∃b:Bool,Ox P t u v b/\K (.bool (!b)) none
  |false=>(match u9 P t u v with|some b=>K (.bool (!b)) none|none=>vc P o c K))
 | .quo=>(match u,v with
  | .int k a,.int d b=>(match decide (k=d)with|true=>if b=0 then False else K (.int k (k.wrap (a.tdiv b))) none|false=>False)
  |_,_=>False)
 | .rem=>(match u,v with
  | .int k a,.int d b=>(match decide (k=d)with|true=>if b=0 then False else K (.int k (a.tmod b)) none|false=>False)
  |_,_=>False)
 | .shl=>(match u,v with
  | .int k a,.int _ b=>if b<0 then False else K (.int k (k.wrap (a*2 ^ min b.toNat k.bits))) none
  |_,_=>False)
 | .shr=>(match u,v with
  | .int k a,.int _ b=>if b<0 then False else K (.int k (a.fdiv (2 ^ min b.toNat k.bits))) none
  |_,_=>False)
 | .add=>(match u,v with
  | .string a,.string b=>((a.size+b.size:Nat):Int)<=IntKind.i64.max/\K (.string (a++b)) none
  |_,_=>vc P o c K)
 |_=>vc P o c K
def Kc(P:Program)(s:TypeId)(f:Nat):Option Nat:=
 match P.underlying s with
 |some (.struct fs)=>(match fs[f]? with
  |some a=>(match P.info? a.type with|some i=>(match Nat.beq i.size 0 with|true=>none|false=>some a.offset)|none=>none)
  |none=>none)
 |_=>none
def L3(n:Int):List Value->Nat->(Value->Prop)->Prop
 | [],_,_=>True
 |v::V,i,F=>(n=(i:Int)->F v)/\L3 n V (i+1) F
def ya(a:Env):Option Operand->Option (Option Int)
 |none=>some none
 |some x=>match a.ev x with
  |some (.int _ n)=>some (some n)
  |_=>none
def IG(len cap:Nat):Option Int->Option Int->(Nat->gF)->Prop
 |none,none,F=>F 0 len
 |none,some b,F=>(0<=b/\b<=(cap:Int))/\F 0 b.toNat
 |some a,none,F=>(0<=a/\a<=(len:Int))/\F a.toNat len
 |some a,some b,F=>(0<=b/\b<=(cap:Int))/\(0<=a/\a<=b)/\F a.toNat b.toNat
def cE(p:bZ)(m l size:Nat):bZ:=if m=l then p else p.map (·.add (l*size))
def lY(m:Value)(h H:aA):Prop:=
 match m with
 | .map (some r)=>H[r]? =h[r]?
 |_=>True
def xU(P:Program)(t:TypeId)(m k:Value)(o:Bool)(h:aA)(v:Value):Prop:=
 ∀H,lY m h H->rd P (Instr.lookup t m k o) H=some v
def Tl(P:Program)(a:Array TypeId)(T:TypeId)(m:Value)(h:aA)(v:Value):Prop:=
 ∀H,lY m h H->rd P (Builtin.len_ a T #[m]) H=some v
def pV(P:Program)(s d:TypeId)(v:Value)(h:aA)(b:cF):Prop:=rd P (convert s d v) h=some (.string b)
def Vn:Value->Bool
 | .map _=>true
 |_=>false
def wX(P:Program)(o:Oper)(g:Env)(h:aA)(K:Value->Option (dw)->Prop):Prop:=
 match o.op with
 | .pick c a b=>(match g.ev c,g.ev a,g.ev b with
  |some (.bool q),some V,some E=>if q=true then K V none else K E none
  |_,_,_=>False)
 | .load t x=>(match g.ev x with
  |some (.pointer p)=>aH p λa=>wW P t h a K
  |_=>False)
 | .nilCheck x=>(match g.ev x with
  |some (.pointer p)=>aH p λa=>K (.pointer (some a)) none
  |_=>vc P o g K)
 | .binOp D t x y _=>(match g.ev x,g.ev y with
  |some u,some v=>LZ P o D t u v g K
  |_,_=>False)
 | .fieldAddr s x f=>(match g.ev x,Kc P s f with
  |some (.pointer p),some O=>aH p λa=>K (.pointer (some (a.add O))) none
  |_,_=>False)
 | .indexAddr t x i=>(match P.underlying t,g.ev x,g.ev i with
  |some (.slice e),some (.slice B len _),some (.int _ n)=>(match P.info? e with
   |some i=>(0<=n/\n<(len:Int))/\aH B λa=>K (.pointer (some (a.add (n.toNat*i.size)))) none
   |none=>False)
  |some (.array len e),some (.pointer B),some (.int _ n)=>(match P.info? e with
   |some i=>(0<=n/\n<(len:Int))/\aH B λa=>K (.pointer (some (a.add (n.toNat*i.size)))) none
   |none=>False)
  |_,_,_=>False)
 | .index t x i=>(match P.underlying t,g.ev x,g.ev i with
  |some .string,some (.string s),some (.int _ n)=>(0<=n/\n<(s.size:Int))/\K (.int .u8 (s.data.toList.getD n.toNat 0).toNat) none
  |some (.array len e),some (.agg C),some (.int _ n)=>(match AP P e,P.info? e,Nat.beq len C.toList.length with
   |some _,some i,true=>(match Nat.beq i.size 1 with
    |true=>(0<=n/\n<(len:Int))/\L3 n C.toList 0 λv=>K v none
    |false=>False)
   |_,_,_=>False)
  |_,_,_=>False)
 | .slice t x L r w=>(match w,P.underlying t,g.ev x,ya g L,ya g r with
  |none,some (.slice e),some (.slice p len cap),some l,some H=>(match P.info? e with
   |some i=>IG len cap l H λa b=>K (.slice (cE p cap a i.size) (b - a) (cap - a)) none
   |none=>False)
  |none,some .string,some (.string s),some l,some H=>IG s.size s.size l H λa b=>K (.string (s.extract a b)) none
  |none,some (.array n e),some (.pointer p),some l,some H=>(match P.info? e with
   |some i=>aH p λA=>IG n n l H λa b=>K (.slice (cE (some A) n a i.size) (b - a) (n - a)) none
   |none=>False)
  |some M,some (.slice e),some (.slice p _ cap),some none,some (some b)=>(match g.ev M,P.info? e with
   |some (.int _ m),some i=>(0<=m/\m<=(cap:Int))/\(0<=b/\b<=m)/\K (.slice (cE p m.toNat 0 i.size) b.toNat m.toNat) none
   |_,_=>False)
  |_,_,_,_,_=>False)
 | .lookup t x i z=>(match g.ev x,g.ev i with
  |some m,some k=>xT P o.type λv=>xU P t m k z h v/\K v (some (lY m h))
  |_,_=>False)
 | .call { callee:=.builtin .len,args:=args,argTypes:=T } =>(match args.toList with
  | [x]=>(match g.ev x with
   |some m=>(match Vn m with
    |true=> ∃n:Int,Tl P T o.type m h (.int .i64 n)/\K (.int .i64 n) (some (lY m h))
    |false=>vc P o g K)
   |none=>False)
  |_=>False)
 | .convert s d x=>(match P.underlying d with
  |some .string=>(match g.ev x with
   |some v=> ∃b:cF,pV P s d v h b/\K (.string b) (some λj=>pV P s d v j b)
   |none=>False)
  |_=>vc P o g K)
 | .select _ _=>False
 |_=>vc P o g K
def AR(P:Program)(o:Oper):Bool:=
 match o.op with
 | .move _| .assign _| .pick .. | .load .. | .nilCheck _| .binOp .. | .unOp .. | .makeInterface .. | .makeFunc .. | .slice .. | .fieldAddr .. | .field .. | .indexAddr .. | .index .. | .lookup .. | .extract .. | .build .. =>true
 | .convert _ d _=>(match P.underlying d with|some (.int _)=>true|some .string=>true|_=>false)
 | .call { callee:=.builtin b,.. } =>(match b with| .len| .cap| .min| .max=>true|_=>false)
 |_=>false
def ou(P:Program)(g:FuncId):Bool:=
 match P.funcs[g]? with
 |some f=>f.body.isSome && !(f.name== "runtime.NumGoroutine")
 |none=>false
def Qw(a:Env):List Operand->Option (List Value)
 | []=>some []
 |x::X=>match a.ev x,Qw a X with
  |some v,some V=>some (v::V)
  |_,_=>none
def DU(b:Builtin)(a:Array TypeId)(T:TypeId)(v:Array Value):Option (Sem Value):=
 match b with
 | .append=>some (Builtin.append_ a T v)
 | .copy=>some (Builtin.copy_ a T v)
 | .delete=>some (Builtin.delete_ a T v)
 | .clear=>some (Builtin.clear_ a T v)
 |_=>none
def Oy(P:Program)(o:Oper)(a:Env)(h:aA)(K:fp):Prop:=
 match Vm a o with
 |true=>(match DT P (execOp a.xp o)with
  |some (O,k)=>aW h O λb H=>(match lX P (k b)with|some (.value v)=>K v H|_=>False)
  |none=>False)
 |false=>False
def L4(P:Program)(o:Oper)(e:Env)(h:aA)(K:fp):Prop:=
 match o.op with
 | .alloc _=>Oy P o e h K
 | .box _ _=>Oy P o e h K
 | .buildSlice _ _ _=>Oy P o e h K
 | .makeMap _ _=>Oy P o e h K
 | .store t x y=>(match e.ev x,e.ev y with
  |some (.pointer p),some v=>aH p λa=>(match P.info? t with
   |some i=>(match Nat.beq i.size v.cells.toList.length with|true=>dG a v.cells.toList 0 h (K undef)|false=>False)
   |none=>False)
  |_,_=>False)
 | .mapUpdate t m k x=>(match e.ev m,e.ev k,e.ev x with
  |some m,some k,some x=>bM P (Instr.mapUpdate t m k x) h λ_ H=>K undef H
  |_,_,_=>False)
 | .insert t m k x=>(match e.ev m,e.ev k,e.ev x with
  |some m,some k,some x=>bM P (Instr.mapUpdate t m k x) h λ_ H=>K undef H
  |_,_,_=>False)
 | .makeSlice t l c=>(match e.ev l,e.ev c with
  |some l,some c=>bM P (Instr.makeSlice t l c) h λv H=>xT P o.type λV=>v=V/\K V H
  |_,_=>False)
 | .convert s d x=>(match e.ev x with
  |some x=>bM P (convert s d x) h λv H=>xT P o.type λV=>v=V/\K V H
  |none=>False)
 | .call { callee:=.builtin b,args:=args,argTypes:=T } =>(match Qw e args.toList with
  |some j=>(match DU b T o.type j.toArray with
   |some s=>bM P s h λv H=>xT P o.type λV=>v=V/\K V H
   |none=>False)
  |none=>False)
 | .call { callee:=.value f,args:=args,argTypes:=_ } =>(match e.ev f,Qw e args.toList with
  |some (.func (.func g) first C),some j=>(match ou P g with
   |true=>mJ P g (first.toList++j++C.toList).toArray h λv H=>xT P o.type λV=>v=V/\K V H
   |false=>False)
  |_,_=>False)
 | .range t x=>(match e.ev x with
  |some x=>bM P (Instr.range t x) h λv H=> ∃r:Nat,v=.pointer (some ⟨r,0,none⟩)/\K (.pointer (some ⟨r,0,none⟩)) H
  |none=>False)
 | .next I b=>(match e.ev I with
  |some I=>bM P (Instr.next I b o.type) h λv H=>(v=.tuple #[.bool false]/\K (.tuple #[.bool false]) H)\/∃k x:Value,v=.tuple #[.bool true,k,x]/\K (.tuple #[.bool true,k,x]) H
  |none=>False)
 | .entry I=>(match e.ev I with
  |some I=>bM P (Instr.entry I) h λv H=> ∃k x:Value,v=.tuple #[k,x]/\K (.tuple #[k,x]) H
  |none=>False)
 |_=>False

end
section
variable {P : Program} {h : aA}
def Kd{b:Type}(a:b)(K:b->dw):bM P (pure a:Sem b) h K↔K a h:=eV
def fu{b c:Type}(s:Sem b)(f:b->Sem c)(K:c->dw):bM P (s>>=f) h K↔bM P s h (λa H=>bM P (f a) H K):=JZ s f h K
def Qx{t:TypeId}{d:TypeDesc}(H:P.underlying t=some d)(K:TypeDesc->dw):bM P (underlying t) h K↔K d h:=by show bM P (match P.underlying t with|some d=>pure d|none=>stuck "no such type") h K↔_;rw[H];exact eV
def II{t:TypeId}{i:TypeInfo}(H:P.info? t=some i)(K:TypeInfo->dw):bM P (typeInfo t) h K↔K i h:=by show bM P (match P.info? t with|some d=>pure d|none=>stuck "no such type") h K↔_;rw[H];exact eV
def Ma{t:TypeId}{i:TypeInfo}(H:P.info? t=some i)(K:Nat->dw):bM P (sizeOf t) h K↔K i.size h:=by unfold sizeOf;rw[fu,II H];exact eV
def kP{b:Type}(a:b):rd P (pure a:Sem b) h=some a:=rfl
def bH{t:TypeId}{d:TypeDesc}(H:P.underlying t=some d):rd P (underlying t) h=some d:=by show rd P (match P.underlying t with|some d=>pure d|none=>stuck "no such type") h=_;rw[H];rfl
def iU{t:TypeId}{i:TypeInfo}(H:P.info? t=some i):rd P (typeInfo t) h=some i:=by show rd P (match P.info? t with|some d=>pure d|none=>stuck "no such type") h=_;rw[H];rfl
def iY{t:TypeId}{i:TypeInfo}(H:P.info? t=some i):rd P (sizeOf t) h=some i.size:=by unfold sizeOf;rw[bE _ _ _ _ (iU H)];rfl
theorem Ke{t:TypeId}(H:DQ P t=true): ∃d,P.underlying t=some d/\((∃fs,d=.struct fs)\/∃n e,d=.array n e):=by unfold DQ at H;split at H;grind;grind;cases H
def xV{t:TypeId}(H:DQ P t=true):rd P (isAgg t) h=some true:=by have⟨d,a,b⟩:=Ke H;unfold isAgg;rw[bE _ _ _ _ (bH a)];rcases b with⟨fs,rfl⟩|⟨n,e,rfl⟩<;>rfl
theorem oN{t:TypeId}{l:iu}(H:AP P t=some l):rd P (isAgg t) h=some false:=by
 unfold AP at H;unfold isAgg;cases a:P.underlying t with
 |none=>grind
 |some d=>rw[bE _ _ _ _ (bH a)];rw[a]at H;cases d<;>first|rfl|cases H
end
section
variable {P : Program}
def IJ{a:Addr}{h:aA}{v:Value}(H:aU h a=some v):rd P (load a) h=some v:=by unfold load;simp only[rd,H]
def jI{a:Addr}: ∀(V:List Value)(i:Nat)(A:Array Value)(h:aA),cH a V i h->rd P (loadCellsFrom a i V.length A) h=some (A++V.toArray)
 | [],i,A,h,_=>by rfl
 |v::V,i,A,h,c=>by have⟨H,b⟩:=c;simp only[ba,loadCellsFrom];rw[bE _ _ _ _ (IJ H),jI V (i+1) _ h b];simp
def yc{h:aA}{a:Addr}: ∀(l:List iu)(i:Nat)(F:List Value->Prop),Qv h a l i F->∃V,V.length=l.length/\cH a V i h/\F V
 | [],_,_,H=>⟨[],rfl,trivial,H⟩
 |_::l,i,_,H=>by have⟨v,b,c⟩:=iu.ot H;have⟨V,f,d,e⟩:=yc l (i+1) _ c;exact⟨v::V,by simp[f],⟨b,d⟩,e⟩
def vd:Option (dw)->dw
 |some S,h=>S h
 |none,_=>True
def Yv(P:Program)(s:Sem Value)(S:Option (dw))(v:Value):Prop:=
 ∀h,vd S h->rd P s h=some v
theorem DV{t:TypeId}{h:aA}{a:Addr}{K:Value->Option (dw)->Prop}(H:wW P t h a K):
  ∃v S,K v S/\vd S h/\Yv P (loadVar t a) S v:=by
 unfold wW at H;split at H;rename_i j;split at H;rename_i L i m k;split at H;rename_i n;have⟨V,g,b,c⟩:=yc _ _ _ H;refine⟨_,_,c,b,λf d=> ?_⟩;unfold loadVar;rw[bE _ _ _ _ (xV j)];rw[ag rfl];rw[bE _ _ _ _ (iY k)];have e:i.size=V.length:=by simp_all
 unfold loadCells;rw[e,bE _ _ _ _ (jI V 0 #[] f d)];simp[kP];grind;exact H.elim;split at H
 rename_i l g;have⟨v,b,c⟩:=iu.ot H;refine⟨v,_,c,b,λf d=> ?_⟩;unfold loadVar;rw[bE _ _ _ _ (oN g)];exact IJ d;grind
theorem ve{o:Oper}{c:Env}{a:Operand->Value}{K:Value->Option (dw)->Prop}(e:Fits c a)(f: ∀C b,o.op≠ .select C b)(h:vc P o c K):
  ∃v,K v none/\∀H,rd P (execOp a o) H=some (.value v):=by
 unfold vc at h;split at h;rename_i d;split at h;rename_i v g;exact⟨v,h,λH=>x9 _ _ (by rw[<-Kb e o d f];exact g) _⟩;grind;grind
def G1{t:TypeId}{u v:Value}{b:Bool}(h:u9 P t u v=some b): ∀a,rd P (Op.equal t u v) a=some b:=by
 intro a;unfold Op.equal Op.maxDepth;unfold u9 at h;split at h;split at h
 rename_i p e H;simp only[cM]at h;subst h;unfold Op.equalIn;rw[bE _ _ _ _ (bH H)];cases p<;>rfl;cases h;split at h
 rename_i m k e H;simp only[cM]at h;subst h;unfold Op.equalIn;rw[bE _ _ _ _ (bH H)];cases m<;>rfl;cases h;split at h
 rename_i p _ _ e H;simp only[cM]at h;subst h;unfold Op.equalIn;rw[bE _ _ _ _ (bH H)];cases p<;>rfl;cases h;cases h
def zx{o:BinOp}{t:TypeId}{x y:Operand}{u v:Value}{b:Bool}(h:u9 P t u v=some b): ∀H,rd P (eqGuard o t x y u v) H=some ():=by
 intro H;unfold u9 at h;unfold eqGuard;split at h;split at h
 split<;>exact rfl
 cases h;split at h
 split<;>exact rfl
 cases h;split at h
 split<;>exact rfl
 cases h;cases h
theorem Cv{t:TypeId}{u v:Value}{b:Bool}(h:u9 P t u v=some b):
  (∃p,u=.Q p/\v=.Q none)\/(∃m,u=.map m/\v=.map none)\/(∃p l c L C,u=.L p l c/\v=.L none L C):=by
 unfold u9 at h;split at h;grind;grind;grind;cases h
def na{o:Oper}{O:BinOp}{t T:TypeId}{x y:Operand}{a:Operand->Value}{u v r:Value}{h:aA}(d:o.op=.binOp O t x y T)(e:a x=u)(f:a y=v)(H:rd P (eqGuard O t x y u v) h=some ())(b:rd P (binOp O t u v) h=some r):rd P (execOp a o) h=some (.value r):=by
 unfold execOp;rw[d];simp only[e,f];have c:rd P (do eqGuard O t x y u v;binOp O t u v) h=some r:=by rw[bE _ _ _ _ H];exact b
 rw[bE _ _ _ _ c];rfl
theorem G2{o:Oper}{O:BinOp}{t T:TypeId}{x y:Operand}{e:Operand->Value}{u v:Value}(f:o.op=.binOp O t x y T)(d:O=.eql\/O=.neq)(j:e x=u)(k:e y=v)(h:AQ P o t u v=true){b:Bool}(a:Ox P t u v b):
  ∀H,rd P (execOp e o) H=some (.value (.B (if O=.eql then b else !b))):=by
 intro H;have i:rd P (eqGuard O t x y u v) H=some ():=by
  unfold AQ at h;split at h
  .have g: ∃c,y=.const c:=by
    unfold LY at h;rw[f]at h;cases y<;>first|grind|cases h
   obtain⟨c,rfl⟩:=g;rcases d with rfl|rfl<;>cases u<;>first|rfl|(cases x<;>rfl)
  split at h
  rcases d with rfl|rfl;show rd P (program>>=λp=>program>>=λq=>if(!p.eqGuardType q.depth t)=true then pure ()else _) H=some ();rw[bE _ _ _ _ (show rd P program H=some P from rfl),bE _ _ _ _ (show rd P program H=some P from rfl),ag h];rfl;show rd P (program>>=λp=>program>>=λq=>if(!p.eqGuardType q.depth t)=true then pure ()else _) H=some ();rw[bE _ _ _ _ (show rd P program H=some P from rfl),bE _ _ _ _ (show rd P program H=some P from rfl),ag h];rfl;cases h;split at h
  unfold eqGuard;split<;>exact rfl;cases h;cases h
 refine na f j k i ?_;have K: ∀u v:Value,(AQ P o t u v=true)->Ox P t u v b->rd P (binOp O t u v) H=some (.B (if O=.eql then b else !b)):=by
  intro u v h a;unfold AQ at h;split at h;rcases d with rfl|rfl;have:binOp .eql t u .nilIface=(Op.equal t u .nilIface>>=λq=>pure (Value.bool q)):=by cases u<;>rfl
  rw[this,bE _ _ _ _ (a H)];rfl;have:binOp .neq t u .nilIface=(Op.equal t u .nilIface>>=λq=>pure (Value.bool (!q))):=by cases u<;>rfl
  rw[this,bE _ _ _ _ (a H)];rfl;split at h
  rcases d with rfl|rfl;show rd P (Op.equal t _ _>>=λq=>pure (Value.bool q)) H=_;rw[bE _ _ _ _ (a H)];rfl;show rd P (Op.equal t _ _>>=λq=>pure (Value.bool (!q))) H=_;rw[bE _ _ _ _ (a H)];rfl;cases h;split at h
  rcases d with rfl|rfl;show rd P (Op.equal t _ _>>=λq=>pure (Value.bool q)) H=_;rw[bE _ _ _ _ (a H)];rfl;show rd P (Op.equal t _ _>>=λq=>pure (Value.bool (!q))) H=_;rw[bE _ _ _ _ (a H)];rfl;cases h;cases h
 exact K u v h a
theorem Oz{o:Oper}{O:BinOp}{t T:TypeId}{x y:Operand}{A:Env}{n:Operand->Value}{u v:Value}{K:Value->Option (dw)->Prop}(e:o.op=.binOp O t x y T)(i:Fits A n)(f:n x=u)(g:n y=v)(h:LZ P o O t u v A K):
  ∃v,K v none/\∀d,rd P (execOp n o) d=some (.value v):=by
 have j: ∀B b,o.op≠ .select B b:=by grind
 unfold LZ at h;split at h;split at h;rename_i w;have⟨b,H,q⟩:=h;exact⟨_,q,G2 e (.inl rfl) f g w H⟩;split at h;rename_i b H;refine⟨_,h,λd=>na e f g (zx H d) ?_⟩;have r:binOp .eql t u v=(do pure (.B (<-Op.equal t u v))):=by rcases Cv H with⟨p,rfl,rfl⟩|⟨m,rfl,rfl⟩|⟨p,l,c,L,C,rfl,rfl⟩<;>rfl
 rw[r,bE _ _ _ _ (G1 H d)];rfl;exact ve i j h;split at h;rename_i w;have⟨b,H,q⟩:=h;exact⟨_,q,G2 e (.inr rfl) f g w H⟩;split at h;rename_i b H;refine⟨_,h,λd=>na e f g (zx H d) ?_⟩;have r:binOp .neq t u v=(do pure (.B (!(<-Op.equal t u v)))):=by rcases Cv H with⟨p,rfl,rfl⟩|⟨m,rfl,rfl⟩|⟨p,l,c,L,C,rfl,rfl⟩<;>rfl
 rw[r,bE _ _ _ _ (G1 H d)];rfl;exact ve i j h;split at h;rename_i k a z b;split at h;rename_i s;obtain rfl:k=z:=bk s;split at h;exact h.elim;rename_i H;refine⟨_,h,λd=>na e f g (by rfl) ?_⟩;simp only[binOp,ne_eq,not_true,aY,Op.intDiv,H];rfl;exact h.elim;exact h.elim;split at h;rename_i k a z b;split at h;rename_i s;obtain rfl:k=z:=bk s;split at h;exact h.elim;rename_i H;refine⟨_,h,λd=>na e f g (by rfl) ?_⟩;simp only[binOp,ne_eq,not_true,aY,Op.intDiv,H];rfl;grind;grind;split at h;split at h;exact h.elim;rename_i H;refine⟨_,h,λd=>na e f g (by rfl) ?_⟩;simp only[binOp,Op.shift,H,aY];rfl;exact h.elim;split at h;split at h;exact h.elim;rename_i H;refine⟨_,h,λd=>na e f g (by rfl) ?_⟩;simp only[binOp,Op.shift,H,aY];rfl;exact h.elim;split at h;have⟨H,h⟩:=h;refine⟨_,h,λd=>na e f g (by rfl) ?_⟩;simp only[binOp,Op.stringOp];rw[dz];rfl;exact ve i j h;exact ve i j h
def kk{x:Value}{k:IntKind}{n:Int}{y:Nat}{c:BoundsCode}{h:aA}(b:x=.int k n)(H:0<=n)(a:n<=(y:Int)):rd P (Instr.sliceBound x y c) h=some n.toNat:=by subst b;show rd P (if 0<=n/\n<=(y)then _ else _) h=_;rw[ag ⟨H,a⟩];rfl
def pW{b:Env}{a:Operand->Value}(H:Fits b a){x:Option Operand}{n:Option Int}(h:ya b x=some n):
  (x=none/\n=none)\/∃k m,n=some m/\x.map a=some (.int k m):=by
 cases x with
 |none=>simp only[ya,cM]at h;exact .inl ⟨rfl,h.symm⟩
 |some x=>simp only[ya]at h;split at h;rename_i k m c;simp only[cM]at h;exact .inr ⟨k,m,h.symm,by simp[H _ _ c]⟩;cases h
def oO{g:Env}{f:Operand->Value}(j:Fits g f){L k:Option Operand}{l r:Option Int}(o:ya g L=some l)(p:ya g k=some r){isS:Bool}{len cap:Nat}{F:Nat->gF}(e:IG len cap l r F): ∃a b,F a b/\∀(h:aA),
   rd P (Instr.sliceBounds isS len cap (L.map f) (k.map f) none) h=some (a,b,cap):=by
 rcases pW j o with⟨rfl,rfl⟩|⟨K,m,rfl,E⟩<;>rcases pW j p with⟨rfl,rfl⟩|⟨s,M,rfl,i⟩;exact⟨0,len,e,λh=>rfl⟩;have⟨⟨H,c⟩,d⟩:=e;refine⟨0,M.toNat,d,λh=> ?_⟩;unfold Instr.sliceBounds;rw[i,bE _ _ _ _ (kP _),bE _ _ _ _ (kk rfl H c)];rfl;have⟨⟨H,c⟩,d⟩:=e;refine⟨m.toNat,len,d,λh=> ?_⟩;unfold Instr.sliceBounds;rw[E,bE _ _ _ _ (kP _)];simp only[Option.map_none];rw[bE _ _ _ _ (kP _),bE _ _ _ _ (kk rfl H c)];rfl;have⟨⟨H,c⟩,⟨n,q⟩,d⟩:=e;refine⟨m.toNat,M.toNat,d,λh=> ?_⟩;unfold Instr.sliceBounds;rw[E,i,bE _ _ _ _ (kP _),bE _ _ _ _ (kk rfl H c),bE _ _ _ _ (kk rfl n ae)];rfl
theorem Ha{n:Int}: ∀(V:List Value)(i:Nat)(F:Value->Prop),L3 n V i F->∀j,n=((i+j:Nat):Int)->∀v,V[j]? =some v->F v
 | [],_,_,_,j,_,v,h=>by simp at h
 |u::V,i,F,a,j,c,v,h=>by
  have⟨b,H⟩:=a;cases j with
  |zero=>grind
  |succ j=>exact Ha V (i+1) F H j ae v (by grind)
def lZ{s:Sem Value}{v:Value}{h:aA}(H:rd P s h=some v):rd P (do pure (Next.value (<-s))) h=some (.value v):=by rw[bE _ _ _ _ H];rfl
def DW{o:Oper}{X:Env}{J:Operand->Value}{h:aA}{K:Value->Option (dw)->Prop}(d:Fits X J)(H:wX P o X h K):
  ∃v S,K v S/\vd S h/\∀c,vd S c->rd P (execOp J o) c=some (.value v):=by
 have V:(∀C b,o.op≠ .select C b)->vc P o X K->∃v S,K v S/\vd S h/\∀c,vd S c->rd P (execOp J o) c=some (.value v):=λA E=>by obtain⟨v,g,j⟩:=ve d A E;exact⟨v,none,g,trivial,λc _=>j c⟩
 unfold wX at H;split at H;rename_i k' a b f;split at H;rename_i j' va vb hc O r;have e:execOp J o=pure (.value (if j' then va else vb)):=by unfold execOp;rw[f];simp only[d _ _ hc,d _ _ O,d _ _ r];rfl
 split at H
 rename_i R;exact⟨va,none,H,trivial,λc _=>by rw[e,ag R];rfl⟩;rename_i R;exact⟨vb,none,H,trivial,λc _=>by rw[e,af R];rfl⟩;exact H.elim;rename_i t x f;split at H;rename_i p E;obtain⟨a,rfl,H⟩:=bU.1 H;obtain⟨v,S,g,j,M⟩:=DV H;refine⟨v,S,g,j,λc A=> ?_⟩;unfold execOp;rw[f];simp only[d _ _ E];exact lZ (M c A);exact H.elim;rename_i x f;split at H;rename_i p E;obtain⟨a,rfl,H⟩:=bU.1 H;refine⟨_,none,H,trivial,λc _=> ?_⟩;unfold execOp;rw[f];simp only[d _ _ E];rfl;exact V (by rw[f];intro C b e;cases e) H;rename_i op t x c' t' f;split at H;rename_i p' v hu U;obtain⟨v,g,j⟩:=Oz f d (d _ _ hu) (d _ _ U) H;exact⟨v,none,g,trivial,λc _=>j c⟩;exact H.elim;rename_i s x m' f;split at H;rename_i p n' E w;obtain⟨a,rfl,H⟩:=bU.1 H;refine⟨_,none,H,trivial,λc _=> ?_⟩;unfold Kc at w;split at w;rename_i fs g';split at w;rename_i L f';split at w;rename_i i y;split at w;cases w;rename_i hz;simp only[cM]at w;subst w;unfold execOp;rw[f];simp only[d _ _ E];refine lZ ?_;unfold Instr.fieldAt;rw[bE _ _ _ _ (bH g')];simp only[f'];show rd P (do let c'<-fieldPlace a L;pure (Value.pointer (some c'))) c=_;have h': ¬i.size=0:=λe=>by rw[e]at hz;cases hz
 have g:rd P (fieldPlace a L) c=some (a.add L.offset):=by unfold fieldPlace;rw[bE _ _ _ _ (iY y),af h'];rfl
 rw[bE _ _ _ _ g];rfl;cases w;cases w;cases w;exact H.elim;rename_i t x ix f;split at H;rename_i e d' len cap k n l q y;split at H;rename_i i u;obtain⟨⟨g,j⟩,H⟩:=H;obtain⟨a,rfl,H⟩:=bU.1 H;refine⟨_,none,H,trivial,λc _=> ?_⟩;unfold execOp;rw[f];simp only[d _ _ q,d _ _ y];refine lZ ?_;unfold Instr.indexAt;show rd P (do let x<-underlying t;_) c=_;rw[bE _ _ _ _ (bH l)];simp only;rw[bE _ _ _ _ (kP _)];simp only;rw[bE _ _ _ _ (bH l)];simp only;rw[ag ⟨g,j⟩,bE _ _ _ _ (iY u)];rfl;exact H.elim;rename_i len e d' k n l q y;split at H;rename_i i u;obtain⟨⟨g,j⟩,H⟩:=H;obtain⟨a,rfl,H⟩:=bU.1 H;refine⟨_,none,H,trivial,λc _=> ?_⟩;unfold execOp;rw[f];simp only[d _ _ q,d _ _ y];refine lZ ?_;unfold Instr.indexAt;show rd P (do let x<-underlying t;_) c=_;rw[bE _ _ _ _ (bH l)];simp only[Instr.sureAddr];rw[bE _ _ _ _ (kP _),bE _ _ _ _ (kP _)];simp only;rw[bE _ _ _ _ (bH l)];simp only;rw[ag ⟨g,j⟩,bE _ _ _ _ (iY u)];rfl;exact H.elim;exact H.elim;rename_i t x ix f;split at H;rename_i s k n l q y;obtain⟨⟨g,j⟩,H⟩:=H;refine⟨_,none,H,trivial,λc _=> ?_⟩;unfold execOp;rw[f];simp only[d _ _ q,d _ _ y];refine lZ ?_;unfold Instr.index;show rd P (do let x<-underlying t;_) c=_;rw[bE _ _ _ _ (bH l)];have G:n.toNat<s.size:=ae
 have Q:s[n.toNat]? =some (s.data.toList.getD n.toNat 0):=by rw[getElem?_pos s n.toNat G];congr 1;rw[bx,au (by simpa using G)];rfl
 simp only[ag g,Q];rfl;rename_i len e C k n l q y;split at H;rename_i i r u a';split at H;rename_i T;obtain⟨⟨g,j⟩,H⟩:=H;have a':=cT a';have T:=cT T;have G:n.toNat<C.toList.length:=ae
 have z:=Ha _ _ _ H n.toNat ae _ (au G);refine⟨_,none,z,trivial,λc _=> ?_⟩;unfold execOp;rw[f];simp only[d _ _ q,d _ _ y];refine lZ ?_;unfold Instr.index;show rd P (do let x<-underlying t;_) c=_;rw[bE _ _ _ _ (bH l)];simp only;rw[ag ⟨g,j⟩,bE _ _ _ _ (iY u)];unfold part;rw[bE _ _ _ _ (oN r)];simp only[az,aY];rw[T,cC];have Q:C[n.toNat]? =some (C.toList[n.toNat]'G):=bt
 rw[Q];rfl;exact H.elim;exact H.elim;exact H.elim
 .rename_i t x lo y mx f;split at H;rename_i e p len cap b' Z l q D B;split at H;rename_i i u;obtain⟨a,b,z,r⟩:=oO (P:=P) (isS:=true) d D B H;refine⟨_,none,z,trivial,λc _=> ?_⟩;unfold execOp;rw[f];simp only[d _ _ q,Option.map_none];refine lZ ?_;unfold Instr.sliceAt;rw[bE _ _ _ _ (bH l)];unfold Instr.slice;simp only;rw[bE _ _ _ _ (bH l)];simp only;rw[bE _ _ _ _ (r _)];simp only;rw[bE _ _ _ _ (iY u)];rfl;exact H.elim;rename_i s b' Z l q D B;obtain⟨a,b,z,r⟩:=oO (P:=P) (isS:=false) d D B H;refine⟨_,none,z,trivial,λc _=> ?_⟩;unfold execOp;rw[f];simp only[d _ _ q,Option.map_none];refine lZ ?_;unfold Instr.sliceAt;rw[bE _ _ _ _ (bH l)];unfold Instr.slice;simp only;rw[bE _ _ _ _ (bH l)];simp only[Option.isSome_none,az,aY];rw[bE _ _ _ _ (r _)];rfl;rename_i n e p b' Z l q D B;split at H;rename_i i u;obtain⟨ad,rfl,H⟩:=bU.1 H;obtain⟨a,b,z,r⟩:=oO (P:=P) (isS:=false) d D B H;refine⟨_,none,z,trivial,λc _=> ?_⟩;unfold execOp;rw[f];simp only[d _ _ q,Option.map_none];refine lZ ?_;unfold Instr.sliceAt;rw[bE _ _ _ _ (bH l)];simp only[Instr.sureAddr];rw[bE _ _ _ _ (kP _),bE _ _ _ _ (r _)];simp only;rw[bE _ _ _ _ (iY u)];show some _=some _;unfold cE;congr 2;split<;>rfl;exact H.elim
  .rename_i mo e p len cap b l q D B;split at H
   .rename_i k m i I u;obtain⟨⟨g,j⟩,⟨M,h4⟩,z⟩:=H;rcases pW d D with⟨rfl,_⟩|⟨_,_,F,_⟩
    case inr=>cases F
    rcases pW d B with⟨_,F⟩|⟨k2,m2,F,e2⟩;cases F;cases F;refine⟨_,none,z,trivial,λc _=> ?_⟩;unfold execOp;rw[f];simp only[d _ _ q,d _ _ I,e2,Option.map_none,eu];refine lZ ?_;unfold Instr.sliceAt;rw[bE _ _ _ _ (bH l)];unfold Instr.slice;simp only;rw[bE _ _ _ _ (bH l)];simp only;have r:rd P (Instr.sliceBounds true len cap none (some (.int k2 b)) (some (.int k m))) c=some (0,b.toNat,m.toNat):=by unfold Instr.sliceBounds;simp only;rw[bE _ _ _ _ (kk rfl g j),bE _ _ _ _ (kk rfl M ae)];rfl
    rw[bE _ _ _ _ r];simp only;rw[bE _ _ _ _ (iY u)];rfl
   exact H.elim
  exact H.elim
 rename_i t x i ok f;split at H;rename_i m k I hk;obtain⟨v,g,j⟩:=DR H;refine⟨v,_,j,?_,λc A=> ?_⟩;show lY m h h;unfold lY;split<;>trivial;unfold execOp;rw[f];simp only[d _ _ I,d _ _ hk];exact lZ (g c A);exact H.elim;rename_i args o' f;split at H;rename_i x e';split at H;rename_i m I;split at H;obtain⟨n,g,j⟩:=H;refine⟨_,_,j,?_,λc A=> ?_⟩;show lY m h h;unfold lY;split<;>trivial;have O:args= #[x]:=by rw[<-Array.toArray_toList (xs:=args),e']
 unfold execOp;rw[f];simp only[resolve,O];rw[bE _ _ _ _ (kP _)];simp only[invoke,builtin,List.map_toArray,cp,List.map_nil,d _ _ I];exact lZ (g c A);exact V (by rw[f];intro C b e;cases e) H;exact H.elim;exact H.elim;rename_i s l' x f;split at H;split at H;rename_i v U;obtain⟨b,g,j⟩:=H;refine⟨_,_,j,g,λc A=> ?_⟩;unfold execOp;rw[f];simp only[d _ _ U];exact lZ A;exact H.elim;exact V (by rw[f];intro C b e;cases e) H;exact H.elim;rename_i i';exact V i' H
def nh(p:bZ)(h H:aA):Prop:= ∀x,p=some x->x.block<h.size->H[x.block]? =h[x.block]?
def Kp(h H:aA)(l:List (bZ)):Prop:= ∀p∈l,nh p h H
def IK(a:Env)(o:Oper):Option (bZ):=
 match o.op with
 | .load _ x=>(match a.ev x with
  |some (.pointer p)=>some p
  |_=>some none)
 |_=>none
theorem vf{h:aA}{a:Addr}{v:Value}(H:aU h a=some v):a.block<h.size:=by unfold aU at H;split at H;grind;cases H
def nh.cell{h c:aA}{a b:Addr}{v:Value}(e:nh (some a) h c)(d:b.block=a.block)(H:aU h b=some v):aU c b=some v:=by have:=e a rfl (by rw[<-d];exact vf H);rw[<-d]at this;unfold aU at H⊢;rw[this];exact H
def nh.trans{p:bZ}{h c d:aA}(a:nh p h c)(b:nh p c d):nh p h d:=λx e f=>by have H:=a x e f;rw[b x e ?_,H];have:=Array.getElem?_eq_getElem f;rw[this]at H;exact(Array.getElem?_eq_some_iff.1 H).1
def nh.held{h H:aA}{a:Addr}(c:nh (some a) h H): ∀(v:List Value)(i:Nat),cH a v i h->cH a v i H
 | [],_,_=>trivial
 |_::v,i,b=>⟨c.cell (by unfold Addr.add;split<;>rfl) b.1,nh.held c v (i+1) b.2⟩
theorem Gu{t:TypeId}{h:aA}{a:Addr}{K:Value->Option (dw)->Prop}(H:wW P t h a K):
  ∃v S,K v (some S)/\S h/\(∀b,nh (some a) h b->S b)/\Yv P (loadVar t a) (some S) v:=by
 unfold wW at H;split at H;rename_i j;split at H;rename_i L i m k;split at H;rename_i n;have⟨V,g,d,f⟩:=yc _ _ _ H;refine⟨_,_,f,d,λb c=>c.held _ _ d,λb c=> ?_⟩;unfold loadVar;rw[bE _ _ _ _ (xV j)];simp only[bJ];rw[bE _ _ _ _ (iY k)];have e:i.size=V.length:=by simp_all
 unfold loadCells;rw[e,bE _ _ _ _ (jI V 0 #[] b c)];simp[kP];exact H.elim;exact H.elim;split at H
 rename_i l g;have⟨v,d,f⟩:=iu.ot H;refine⟨v,_,f,d,λb c=>c.cell rfl d,λb c=> ?_⟩;unfold loadVar;rw[bE _ _ _ _ (oN g)];exact IJ c;grind
theorem IM{o:Oper}{d:Env}{g:Operand->Value}{h:aA}{K:Value->Option (dw)->Prop}{p:bZ}(m:Fits d g)(c:IK d o=some p)(b:wX P o d h K):
  ∃v S,K v (some S)/\S h/\(∀H,nh p h H->S H)/\∀H,S H->rd P (execOp g o) H=some (.value v):=by
 unfold IK at c;unfold wX at b;split at c;rename_i t x e;simp only[e]at b;split at b;rename_i q f;simp only[f,cM]at c;subst c;obtain⟨a,rfl,b⟩:=bU.1 b;have⟨v,S,i,j,l,k⟩:=Gu b;refine⟨v,S,i,j,l,λH n=> ?_⟩;unfold execOp;rw[e];simp only[m _ _ f];exact lZ (k H n);grind;cases c
def Nv{b:Env}{a:Operand->Value}(H:Fits b a): ∀(X:List Operand)(V:List Value),Qw b X=some V->X.map a=V
 | [],V,h=>by simp only[Qw,cM]at h;exact h
 |x::X,V,h=>by simp only[Qw]at h;split at h;rename_i v e c d;simp only[cM]at h;rw[cp,H _ _ c,Nv H X e d,h];cases h
def vg{b:Env}{a:Operand->Value}(h:Fits b a){args:Array Operand}{v:List Value}(H:Qw b args.toList=some v):args.map a=v.toArray:=by have:=Nv h _ _ H;rw[<-this];apply Array.ext';simp
theorem DE{o:Oper}{d:Env}{c:Operand->Value}{h:aA}{K:fp}(f:Fits d c)(i: ∀C b,o.op≠ .select C b)(H:Oy P o d h K):rV P o c h K:=by unfold Oy at H;split at H;rename_i e;split at H;rename_i O k g;have a:=H _ _ rfl rfl;dsimp only at a;split at a;rename_i v j;refine LX _ O k (by rw[<-Kb f o e i];exact g) _ _ (Ka _ _ j _ _ a);grind;exact H.elim;grind
theorem Hc{a:Addr}: ∀(V:List Value)(i:Nat)(h:aA)(K:dw),dG a V i h K->bM P (storeCells a V i) h (λ_ b=>K b)
 | [],_,_,_,H=>H
 |v::V,i,h,K,H=>by simp only[dG]at H;split at H;rename_i c;have⟨d,e,f⟩:=H;exact⟨c,d,e,Hc V (i+1) _ K (f _ rfl)⟩;grind
def AS{s:Sem Value}{h:aA}{t:TypeId}{K:fp}(a:bM P s h λv H=>xT P t λV=>v=V/\K V H):bM P s h K:=
 lK _ _ (λ_ _ b=>DS b) a
theorem OA{o:Oper}{L:Env}{J:Operand->Value}{h:aA}{K:fp}(n:Fits L J)(H:L4 P o L h K):rV P o J h K:=by
 unfold L4 at H;split at H;rename_i j;exact DE n (by rw[j];intro C b e;cases e) H;rename_i j;exact DE n (by rw[j];intro C b e;cases e) H;rename_i j;exact DE n (by rw[j];intro C b e;cases e) H;rename_i j;exact DE n (by rw[j];intro C b e;cases e) H;rename_i t x y j;split at H;rename_i p v q U;obtain⟨a,rfl,H⟩:=bU.1 H;split at H;rename_i i R;split at H;rename_i E;unfold rV execOp;rw[j];simp only[n _ _ q,n _ _ U];rw[fu];unfold Instr.storeAt;rw[fu];show bM P (storeVar t a v) h _;unfold storeVar;rw[fu,Ma R];have e:v.cells.size=i.size:=by simp_all
 simp only[e,ne_eq,not_true,aY];exact Hc _ _ _ _ H;exact H.elim;exact H.elim;exact H.elim;rename_i t m k x j;split at H;rename_i m k x A z q;unfold rV execOp;rw[j];simp only[n _ _ A,n _ _ z,n _ _ q];rw[fu];exact H;exact H.elim;rename_i t m k x j;split at H;rename_i m k x A z q;unfold rV execOp;rw[j];simp only[n _ _ A,n _ _ z,n _ _ q];rw[fu];exact H;exact H.elim;rename_i t l c j;split at H;rename_i l c S M;unfold rV execOp;rw[j];simp only[n _ _ S,n _ _ M];rw[fu];exact AS H;exact H.elim;rename_i s d x j;split at H;rename_i x q;unfold rV execOp;rw[j];simp only[n _ _ q];rw[fu];exact AS H;exact H.elim
 .rename_i b args X j;split at H
  .rename_i V B;split at H
   .rename_i s G;unfold rV execOp;rw[j];simp only[resolve,vg n B];rw[fu,Kd];simp only[invoke];cases b<;>simp only[DU]at G<;>first|cases G|skip
    all_goals (simp only[builtin];rw[fu];exact AS H)
   exact H.elim
  exact H.elim
 .rename_i f args X j;split at H
  .rename_i g first D V Q B;split at H
   .rename_i u;unfold rV execOp;rw[j];simp only[resolve,vg n B,n _ _ Q,Deferred.ofValue];rw[fu,Kd];simp only[invoke,callFunc];rw[fu];unfold ou at u;split at u
    .rename_i F O;simp only[aZ,fI]at u;show bM P (match P.funcs[g]? with|none=>_|some F=>_) h _;rw[O];have E:F.body.isNone=false:=by cases T:F.body<;>simp[T]at u⊢
     simp only[u.2,E,az,aY];have e:(first++V.toArray++D)=(first.toList++V++D.toList).toArray:=by apply Array.ext';simp
     rw[e];exact H.mono λv w hr=>DS hr
    cases u
   exact H.elim
  exact H.elim
 rename_i t x j;split at H;rename_i x q;unfold rV execOp;rw[j];simp only[n _ _ q];rw[fu];exact lK _ _ (λv w ⟨r,e,hr⟩=>by subst e;exact hr) H;exact H.elim;rename_i I b j;split at H;rename_i I q;unfold rV execOp;rw[j];simp only[n _ _ q];rw[fu];refine lK _ _ (λv w hr=> ?_) H;rcases hr with⟨e,hr⟩|hr;subst e;exact hr;obtain⟨k,x,e,hr⟩:=hr;subst e;exact hr;exact H.elim;rename_i I j;split at H;rename_i I q;unfold rV execOp;rw[j];simp only[n _ _ q];rw[fu];refine lK _ _ (λv w hr=> ?_) H;obtain⟨k,x,e,hr⟩:=hr;subst e;exact hr;exact H.elim;exact H.elim
end
section
variable {X y:Type} {v:Value} {F:Value->Prop} {t n:Nat} {h:aA} {a b:Act} {x:Array Value} {D:Option Nat} {w:List Nat} {O:Array Oper} {o:Oper}
def iu.T(X:Type):iu->Type
 | .int _=>Int->X
 | .bool=>Bool->X
 | .str=>cF->X
 | .ptr=>bZ->X
 | .slice=>bZ->Nat->Nat->X
 | .map=>Option Nat->X
 | .raw=>Value->X
def wY(X:Type):List iu->Type
 | []=>X
 |l::L=>l.T (wY X L)
def Sh.T(X:Type):Sh->Type
 | .one l=>l.T X
 | .agg L=>wY X L
def uh(X:Type):List (Nat×Sh)->Type
 | []=>X
 |s::L=>s.2.T (uh X L)
def iu.lam{X:Type}:(l:iu)->(Value->X)->l.T X
 | .int k,F=>λn:Int=>F (.int k n)
 | .bool,F=>λb:Bool=>F (.bool b)
 | .str,F=>λs:cF=>F (.string s)
 | .ptr,F=>λp:bZ=>F (.pointer p)
 | .slice,F=>λ(p:bZ) (l c:Nat)=>F (.slice p l c)
 | .map,F=>λm:Option Nat=>F (.map m)
 | .raw,F=>λv:Value=>F v
def Vo{X:Type}:(L:List iu)->(List Value->X)->wY X L
 | [],F=>F []
 |l::L,F=>l.lam λv=>Vo L λV=>F (v::V)
def Sh.lam{X:Type}:(s:Sh)->(Value->X)->s.T X
 | .one l,F=>l.lam F
 | .agg L,F=>Vo L λV=>F (.agg V.toArray)
def Qy{X:Type}:(L:List (Nat×Sh))->(Env->X)->Env->uh X L
 | [],F,c=>F c
 |(t,s)::L,F,c=>s.lam λv=>Qy L F (c.set t v)
def iu.ap{X y:Type}(d:y):(l:iu)->l.T X->Value->(X->y)->y
 | .int k,f,.int e n,K=>(match decide (k=e)with|true=>K (f n)|false=>d)
 | .bool,f,.bool b,K=>K (f b)
 | .str,f,.string s,K=>K (f s)
 | .ptr,f,.pointer p,K=>K (f p)
 | .slice,f,.slice p l c,K=>K (f p l c)
 | .map,f,.map m,K=>K (f m)
 | .raw,f,v,K=>K (f v)
 |_,_,_,_=>d
def Wu{X y:Type}(d:y):(L:List iu)->wY X L->List Value->(X->y)->y
 | [],f, [],K=>K f
 |l::L,f,v::V,K=>l.ap d f v λg=>Wu d L g V K
 |_,_,_,_=>d
def Sh.ap{X y:Type}(d:y):(s:Sh)->s.T X->Value->(X->y)->y
 | .one l,f,v,K=>l.ap d f v K
 | .agg L,f,.agg V,K=>Wu d L f V.toList K
 |_,_,_,_=>d
def nK{X y:Type}(d:y):(L:List (Nat×Sh))->uh X L->Env->(X->y)->y
 | [],f,_,K=>K f
 |(t,s)::L,f,c,K=>(match c t with|some v=>s.ap d f v λg=>nK d L g c K|none=>d)
def iu.all:iu->(Value->Prop)->Prop
 | .int k,F=> ∀n:Int,F (.int k n)
 | .bool,F=> ∀b:Bool,F (.bool b)
 | .str,F=> ∀s:cF,F (.string s)
 | .ptr,F=> ∀p:bZ,F (.pointer p)
 | .slice,F=> ∀(p:bZ)(l c:Nat),F (.slice p l c)
 | .map,F=> ∀m:Option Nat,F (.map m)
 | .raw,F=> ∀v:Value,F v
def Vq:List iu->(List Value->Prop)->Prop
 | [],F=>F []
 |l::L,F=>l.all λv=>Vq L λV=>F (v::V)
def Sh.all:Sh->(Value->Prop)->Prop
 | .one l,F=>l.all F
 | .agg L,F=>Vq L λV=>F (.agg V.toArray)
def OB:List (Nat×Sh)->(Env->Prop)->Env->Prop
 | [],F,c=>F c
 |(t,s)::L,F,c=>s.all λv=>OB L F (c.set t v)
def iu.Qz{d:y}{l:iu}{f:l.T X}{K:X->y}:l.ap d f v K=d\/((∃g:X,l.ap d f v K=K g)/\∀(Z:Type)(F:Value->Z),∀(w:Type)(e:w)(J:Z->w),l.ap e (l.lam F) v J=J (F v)):=by
 cases l<;>cases v<;>first
  |exact .inl rfl
  |exact .inr ⟨⟨_,rfl⟩,λ_ _ _ _ _=>rfl⟩
  |skip
 rename_i k c n;by_cases H:k=c;subst H;refine .inr ⟨⟨f n,?_⟩,λZ F w e J=> ?_⟩<;>simp[iu.ap,iu.lam];exact .inl (by simp[iu.ap,H])
theorem iu.Nw{l:iu}{f:l.T X}{K:X->Prop}(h:l.ap False f v K):
  (∃g:X,K g)/\(∀(Z w:Type)(F:Value->Z)(e:w)(J:Z->w),l.ap e (l.lam F) v J=J (F v)):=by
 rcases iu.Qz (d:=False) (f:=f) (v:=v) (K:=K)with H|⟨⟨g,H⟩,c⟩;grind;grind
def iu.IN{l:iu}(h:l.all F){f:l.T X}{K:X->Prop}(H:l.ap False f v K):F v:=by
 cases l<;>cases v<;>first
  |exact H.elim
  |exact h _
  |exact h _ _ _
  |skip
 rename_i k d n;by_cases c:k=d;subst c;exact h n;simp[iu.ap,c]at H
def iu.IP{l:iu}{F:Value->X}{K:X->Prop}(h:l.ap False (l.lam F) v K):K (F v):=by have:=(iu.Nw h).2 X Prop F False K;rw[this]at h;exact h
variable {l:iu}
def Nx : ∀{L:List iu}{F:List Value->X}{V:List Value}{K:X->Prop},Wu False L (Vo L F) V K->K (F V)
 | [],_, [],_,h=>h
 | [],_,_::_,_,h=>h.elim
 |_::_,_, [],_,h=>h.elim
 |_::L,F,v::V,_,h=>Nx (F:=λu=>F (v::u)) (iu.IP h)
def Sh.IP{s:Sh}{F:Value->X}{K:X->Prop}(h:s.ap False (s.lam F) v K):K (F v):=by
 cases s with
 |one l=>exact iu.IP h
 |agg L=>
  cases v<;>first|exact h.elim|skip
  rename_i c;have:=Nx h;simpa using this
theorem Ny {X : Type} : ∀ {ls : List iu} {F : List Value → Prop} {f : wY X ls} {vs : List Value} {K : X → Prop}, Vq ls F → Wu False ls f vs K → F vs
  | [], _, _, [], _, h, _ => h
  | [], _, _, _ :: _, _, _, h => h.elim
  | _ :: _, _, _, [], _, _, h => h.elim
  | l :: ls, F, f, v :: vs, K, h, ha => by
    have ⟨⟨g, hg⟩, _⟩ := iu.Nw ha
    exact Ny (vs := vs) (iu.IN h ha) hg
def Sh.IN{s:Sh}(h:s.all F){f:s.T X}{K:X->Prop}(H:s.ap False f v K):F v:=by
 cases s with
 |one l=>exact iu.IN h H
 |agg L=>
  cases v<;>first|exact H.elim|skip
  have:=Ny h H;simpa using this
def Kf : ∀{L:List iu}{f:wY X L}{V:List Value}{K:X->Prop},Wu False L f V K->∃g,K g
 | [],f, [],_,h=>⟨f,h⟩
 | [],_,_::_,_,h=>h.elim
 |_::_,_, [],_,h=>h.elim
 |_::_,_,_::_,_,h=>by have⟨⟨g,H⟩,_⟩:=iu.Nw h;exact Kf H
def Sh.Nz{s:Sh}{f:s.T X}{K:X->Prop}(h:s.ap False f v K): ∃g,K g:=by
 cases s with
 |one l=>exact(iu.Nw h).1
 |agg L=>cases v<;>first|exact h.elim|exact Kf h
variable {s:Sh}
def Sub(d e c:Env):Prop:= ∀t v,d t=some v->c t=some v\/e t=some v
def Env.x6(c:Env)(d t:Nat)(v:Value):c.set d v t=if t=d then some v else c t:=by unfold Env.set;by_cases h:t=d;simp;simp
theorem Sub.set{d e c:Env}(g:c t=some v)(h:Sub d (e.set t v) c):Sub d e c:=λu f H=>by rcases h u f H with h1|h1;grind;rw[Env.x6]at h1;split at h1;grind;grind
theorem zA{G:Env->dw}{e:Env}: ∀(L:List (Nat×Sh))(c:Env),nK False L (Qy (X:=dw) L G c) e (λf=>f h)->∃d,G d h/\Sub d c e
 | [],c,H=>⟨c,H,λ_ _ h=> .inr h⟩
 |(t,s)::L,c,H=>by simp only[nK]at H;split at H;rename_i v j;have⟨d,g,i⟩:=zA L _ (Sh.IP H);exact⟨d,g,i.set j⟩;grind
theorem zB{F : Env -> Prop}{k : Env}{K : X -> Prop}: ∀(L : List (Nat × Sh))(d : Env)(f : uh X L), OB L F d -> nK False L f k K ->
    ∃ c, F c /\ Sub c d k /\ ((∀ t s, (t, s) ∈ L -> c t = k t) /\ ∀ t, (∀ s, (t, s) ∉ L) -> c t = d t)
  | [], d, _, h, _ => ⟨d, h, λ_ _ h => .inr h, (λ_ _ h => by cases h), λ_ _ => rfl⟩
  | (t, s) :: L, d, f, h, H => by
    simp only [nK] at H
    split at H
    · rename_i v p
      have ⟨g, A⟩ := Sh.Nz H
      have ⟨c, r, z, E, m⟩ := zB L _ g (Sh.IN h H) A
      refine ⟨c, r, z.set p, λu q i => ?_, λu i => ?_⟩
      · by_cases B : ∃ S, (u, S) ∈ L
        · grind
        · have C : u = t := by
            grind
          subst C
          rw [m u (λS j => B ⟨S, j⟩), Env.x6, ag rfl, p]
      · rw [m u (λq j => i q (bQ _ j)), Env.x6, af]
        intro e; subst e; exact i s dN
    · grind
def oG{d:y}{c e:Env}{K:X->y}: ∀(L:List (Nat×Sh))(f:uh X L),(∀t s,(t,s)∈L->c t=e t)->nK d L f c K=nK d L f e K
 | [],_,_=>rfl
 |(t,s)::L,f,h=>by simp only[nK];rw[h t s dN];have:(λg=>nK d L g c K)=(λg=>nK d L g e K):=funext λg=>oG L g (λt s H=>h t s (bQ _ H));rw[this]
theorem oy{c : Env}{K : X -> Prop}: ∀(L : List (Nat × Sh))(f : uh X L), nK False L f c K -> ∀ t s, (t, s) ∈ L -> ∃ v, c t = some v
  | [], _, _, _, _, h => by cases h
  | (t, s) :: L, f, h, u, S, d => by
    simp only [nK] at h
    split at h
    · rename_i v i
      rcases bG.1 d with e | e
      · grind
      · have ⟨g, H⟩ := Sh.Nz h
        exact oy L g H u S e
    · grind
structure Rel (n:Nat) (σ:Env) (a:Act):Prop where
 defers:a.defers= []
 size:a.tmps.size=n
 at_: ∀t v,σ t=some v->a.tmps.getD t undef=v
def Rel.fits{d:Env}(h:Rel n d a):Fits d a.eval:=by
 intro e v H;cases e with
 |tmp t=>exact h.at_ t v H
 |const c=>simpa[Env.ev,Act.eval]using H
 |global g=>simpa[Env.ev,Act.eval]using H
 |func f=>simpa[Env.ev,Act.eval]using H
def mK(n:Nat)(c:Env)(D:Option Nat)(v:Value)(K:Env->Prop):Prop:=
 match D with
 |none=>K c
 |some d=>(match Nat.blt d n with|true=>K (c.set d v)|false=>False)
theorem QA{d:Nat}(H:d<x.size):(x.setIfInBounds d v).getD t undef=if t=d then v else x.getD t undef:=by by_cases h:t=d;simp_all;simp[h,Ne.symm h]
theorem zC{g:Env}{K:Env->Prop}(H:Rel n g a)(h:mK n g D v K): ∃i,Rel n i (a.put D v)/\K i:=by
 unfold mK at h;split at h;exact⟨g,H,h⟩;rename_i d;split at h;rename_i c;have c:d<a.tmps.size:=by rw[H.size];exact(Nat.blt_eq▸c)
 refine⟨_,⟨H.defers,by simp[Act.put,H.size],λt u f=> ?_⟩,h⟩;simp only[Act.put];rw[QA c];rw[Env.x6]at f;split;grind;rename_i e;rw[af e]at f;exact H.at_ t u f;grind
def gP(w:List Nat)(a A:Act):Prop:= ∀t,t∉w->A.tmps.getD t undef=a.tmps.getD t undef
def gP.refl(w:List Nat)(a:Act):gP w a a:=λ_ _=>rfl
def gP.trans{c:Act}(h:gP w a b)(d:gP w b c):gP w a c:=λt H=>(d t H).trans (h t H)
def gP.mono{c:List Nat}(h:gP w a b)(e: ∀t,t∈w->t∈c):gP c a b:=λt d=>h t (λH=>d (e t H))
def gP.put(h: ∀d,D=some d->d∈w):gP w a (a.put D v):=by
 intro t c;cases D with
 |none=>rfl
 |some d=>have H:t≠d:=λe=>c (e▸h d rfl);simp[Act.put,Ne.symm H]
def oP(O : Array Oper)(o : Oper)(c : Env)(r skip : Env -> Prop): Prop :=
  match o.guard with
  | none => r c
  | some (j, p) => (match (O[j]?).bind (·.dst) with
    | some g => (match c g with
      | some (.bool b) => if b = true then (match p with | true => r (c.set g (.bool true)) | false => skip (c.set g (.bool true)))
          else (match p with | true => skip (c.set g (.bool false)) | false => r (c.set g (.bool false)))
      | some (.tuple _) => skip c
      | _ => False)
    | none => False)
theorem getD_some(h:x.getD t undef=v)(c:v≠undef):x[t]? =some v:=by
 rw[eU]at h;cases H:x[t]? with
 |none=>grind
 |some u=>grind
theorem wZ{f:Env}{r skip:Env->Prop}(c:Rel n f a)(h:oP O o f r skip):
  (Region.wanted o (yielded O a.tmps)=true/\∃i,Rel n i a/\r i)\/(Region.wanted o (yielded O a.tmps)=false/\∃i,Rel n i a/\skip i):=by
 unfold oP at h;split at h;rename_i H;exact .inl ⟨by simp[Region.wanted,H],f,c,h⟩;rename_i j P H;split at h;rename_i g q;split at h;rename_i b z;have k:=c.at_ g _ z;have d:yielded O a.tmps j=some b:=by simp[yielded,q,(getD_some k (by intro e;cases e))]
 have rU:Rel n (f.set g (.B b)) a:=⟨c.defers,c.size,λt u m=>by rw[Env.x6]at m;split at m;grind;exact c.at_ t u m⟩;split at h
 rename_i A;subst A;split at h;exact .inl ⟨by simp[Region.wanted,H,d],_,rU,h⟩;exact .inr ⟨by simp[Region.wanted,H,d],_,rU,h⟩;rename_i p;have p:b=false:=by grind
 subst p;split at h;exact .inr ⟨by simp[Region.wanted,H,d],_,rU,h⟩;exact .inl ⟨by simp[Region.wanted,H,d],_,rU,h⟩;rename_i E B;have k:=c.at_ g _ B;have d:yielded O a.tmps j=none:=by
  simp only[yielded,q,Option.bind_some];rw[eU]at k;cases C:a.tmps[g]? with
  |none=>rfl
  |some u=>grind
 exact .inr ⟨by simp[Region.wanted,H,d],f,c,h⟩;exact h.elim;grind
def Cw(P:Program)(o:Oper)(c:Env)(h:aA)(K:fp):Prop:=
 match AR P o with
 |true=>wX P o c h λv _=>K v h
 |false=>L4 P o c h K
def qI{P:Program}{e:Env}{d:Operand->Value}{K:fp}(c:Fits e d)(H:Cw P o e h K):rV P o d h K:=by unfold Cw at H;split at H;have⟨v,S,f,g,i⟩:=DW c H;exact Qu _ _ _ (i h g) _ f;exact OA c H
def fO(O:Array Oper):List Nat:=O.toList.filterMap (·.dst)
theorem iF{i:Nat}(c:O[i]? =some o): ∀d,o.dst=some d->d∈fO O:=λd H=>by unfold fO;rw[List.mem_filterMap];exact⟨o,by grind,H⟩
def XB(n:Nat)(A:Act)(f:World)(w:List Nat)(K:Env->dw):JY:=
 λe a c=>e=.normal/\∃d,Rel n d a/\K d c.heap/\fQ f c/\gP w A a
def QB:List (Nat×Sh)->Nat->Option Sh
 | [],_=>none
 |(t,s)::L,d=>(match Nat.beq t d with|true=>some s|false=>QB L d)
def Kg(T:List (Nat×Sh))(D:Option Nat)(v:Value)(F:Value->Prop):Prop:=
 match D with
 |none=>F v
 |some d=>(match QB T d with|some s=>s.ex λV=>v=V/\F V|none=>F v)
def vh{T:List (Nat×Sh)}(h:Kg T D v F):F v:=by
 unfold Kg at h;split at h;exact h;split at h
 have⟨V,e,h⟩:=Sh.ot h;subst e;exact h;exact h

end
def waits(o:Oper)(i:Nat):Bool:=o.after.toList.any λe=>Region.binds .any e && Nat.beq e.on i
def jR(o:Oper)(G:List (Nat×(dw))):List (Nat×(dw)):=G.filter λg=> !waits o g.1
def oH{o:Oper}{G:List (Nat×(dw))}{g:Nat×(dw)}(h:g∈jR o G):g∈G:=(bD.1 h).1
def mL(P:Program)(O:Array Oper)(Q:JY):Nat->List (Nat×(dw))->Array Bool->Act->World->Prop
 |0,_,l,a,w=>Region.ready .any O l= []/\Q .normal a w
 |fuel+1,G,l,a,w=>
  (Region.ready .any O l= []->Q .normal a w)/\
  ∀j∈Region.ready .any O l,∀o,O[j]? =some o->wpOp P O Q j (λA b=>(∀g∈jR o G,g.2 b.heap)/\mL P O Q fuel (jR o G) (l.setIfInBounds j true) A b) a w
section
variable {P : Program} {o : Array Oper} {Q : Exit → Act → World → Prop}
def DX: ∀(fuel:Nat)(G:List (Nat×(dw)))(l:Array Bool)(a:Act)(w:World),mL P o Q fuel G l a w->wpAny P .any o Q fuel l a w
 |0,_,_,_,_,h=>h
 |fuel+1,G,l,a,w,h=>⟨h.1,λi H=>by have⟨_,O,c,_⟩:=mem_ready.1 H;exact wpOp_mono (λA d b=>DX fuel _ _ A d b.2) (h.2 i H O c)⟩
def rW: ∀(fuel:Nat)(G b:List (Nat×(dw)))(l:Array Bool)(a:Act)(w:World),(∀g∈b,g∈G)->mL P o Q fuel G l a w->mL P o Q fuel b l a w
 |0,_,_,_,_,_,_,h=>h
 |fuel+1,G,b,l,a,w,j,h=>⟨h.1,λi e O f=>by have d: ∀g∈jR O b,g∈jR O G:=λg H=>bD.2 ⟨j g (oH H),(bD.1 H).2⟩;exact wpOp_mono (λA k c=>⟨λg H=>c.1 g (d g H),rW fuel _ _ _ A k d c.2⟩) (h.2 i e O f)⟩
theorem Cx(i:Nat): ∀(fuel:Nat)(G:List (Nat×(dw)))(l:Array Bool)(a:Act)(w:World),mL P o Q fuel G l a w->mL P o Q fuel ((i,λ_=>True)::G) l a w
 |0,_,_,_,_,h=>h
 |fuel+1,G,l,a,w,h=>⟨h.1,λj k O m=>by refine wpOp_mono (λA f d=>⟨λg c=> ?_,?_⟩) (h.2 j k O m);have⟨H,b⟩:=bD.1 c;rcases bG.1 H with e|e;grind;exact d.1 g (bD.2 ⟨e,b⟩);have:=Cx i fuel _ _ A f d.2;refine rW fuel _ _ _ A f (λg c=> ?_) this;have⟨H,b⟩:=bD.1 c;rcases bG.1 H with e|e;grind;exact bQ _ (bD.2 ⟨e,b⟩)⟩
theorem Kh{O:Oper}{i:Nat}(h: ∀e∈O.after,Region.binds .any e=true->e.on≠i):waits O i=false:=by unfold waits;rw[List.any_eq_false];intro e b;simp only[aZ,not_and];intro H a;exact h e (by grind) H (cT a)
theorem IS{i:Nat}{m:Oper}{v:Value}{S:dw}(x:o[i]? =some m)(I: ∀(j:Nat) (n:Oper) C b,o[j]? =some n->n.op≠ .select C b)(L: ∀c a w,Q (.panic c) (a.put m.dst v) w->Q (.panic c) a w):
  ∀(F:Nat)(G:List (Nat×(dw)))(l:Array Bool)(a:Act)(w:World),
   (∀j O,o[j]? =some O->j≠i->l.getD j true=false->(∀e∈O.after,Region.binds .any e=true->e.on≠i)->m.apart o O=true)->
   i∈Region.ready .any o l->YieldsIf P o (λw=>S w.heap) m v a->S w.heap->(∀g∈G,g.2 w.heap)->
   mL P o Q F ((i,S)::G) (l.setIfInBounds i true) (a.put m.dst v) w->mL P o Q (F+1) G l a w:=by
 intro F;induction F with
 |zero=>intro G l a w _ z r t s H;refine⟨λh=>(by grind),λj q n E=> ?_⟩;by_cases f:j=i;subst f;exact r.wpOp x t ⟨λg d=>s g (oH d),H⟩;have:=ready_mono q f;rw[H.1]at this;cases this
 |succ F ih=>
  intro G l a w B z r t s H;refine⟨λh=>(by grind),λj q n E=> ?_⟩;by_cases f:j=i;subst f;refine r.wpOp x t ⟨λg d=>s g (oH d),rW _ _ _ _ _ _ (λg d=>bQ _ (oH d)) H⟩;have A:=H.2 j (ready_mono q f) n E;have⟨R,O,y,b'⟩:=mem_ready.1 q;obtain rfl:O=n:=by grind
  have D: ∀e∈O.after,Region.binds .any e=true->e.on≠i:=λe he hb c'=>by have h0:=(mem_ready.1 z).1;rcases Nat.lt_or_ge i l.size with h'|h';grind;grind
  have U:jR O ((i,S)::G)=(i,S)::jR O G:=by unfold jR;simp[Kh D]
  rw[U]at A;have M: ∀k p,o[k]? =some p->k≠i->(l.setIfInBounds j true).getD k true=false->
    (∀e∈p.after,Region.binds .any e=true->e.on≠i)->m.apart o p=true:=λk p T V e' X=>by
   refine B k p T V ?_ X;by_cases d':j=k;grind;simp_all
  refine wpOp_mono (λJ w' K=> ?_) (wpOp_putIf y (B j O y f R D) (λC b=>I i m C b x) (λC b=>I j O C b y) L r A);have⟨a',u,Z⟩:=K;refine⟨λg d=>u g (bQ _ d),(ih (jR O G) (l.setIfInBounds j true) J w' M (ready_mono z (Ne.symm f)) a' (u _ dN) (λg d=>u g (bQ _ d)) ?_)⟩;rw[Array.setIfInBounds_comm _ _ f];exact Z
end
inductive zD where
 |done
 |op (i:Nat) (p:zD)
 |alts (q:zD)
 |fork (i:Nat) (p q:zD)
 |hO
def DY:zD->Nat->Bool
 | .done,n=>Nat.beq n 0
 | .op _ p,n+1=>DY p n
 | .alts q,n+1=>DY q (n+1)
 | .fork _ p q,n+1=>DY p n && DY q (n+1)
 | .hO,_=>true
 |_,_=>false
def jW(P:Program)(O:Array Oper):zD->Option (List Nat)->Array Bool->Bool
 | .done,none,l=>(Region.ready .any O l).isEmpty
 | .op i r,none,l=>
  (match O[i]? with
   |some o=>(match AR P o with
    |true=>(Region.ready .any O l).contains i && Region.free .any O l i
    |false=>(match Region.ready .any O l with| [j]=>Nat.beq i j|_=>false))
   |none=>false) && jW P O r none (l.setIfInBounds i true)
 | .alts q,none,l=>(match Region.ready .any O l with| []=>false|j::J=>jW P O q (some (j::J)) l)
 | .fork i p q,some R,l=>(match O[i]? with
   |some o=> !AR P o
   |none=>false) && jW P O p none (l.setIfInBounds i true) && jW P O q (some (R.filter λj=> !Nat.beq i j)) l
 | .hO,some R,_=>R.isEmpty
 |_,_,_=>false
def Ki(h:aA)(K:Prop):List (Nat×(dw))->Prop
 | []=>K
 |g::G=>g.2 h/\Ki h K G
theorem Kj{h:aA}{K:Prop}: ∀{G:List (Nat×(dw))},Ki h K G->(∀g∈G,g.2 h)/\K
 | [],H=>⟨(λ_ a=>by cases a),H⟩
 |_::_,H=>by have⟨d,b⟩:=Kj H.2;refine⟨λc a=> ?_,b⟩;rcases bG.1 a with e|e;rw[e];exact H.1;grind
def QC(i:Nat)(S:Option (dw))(G:List (Nat×(dw))):List (Nat×(dw)):=
 match S with
 |some S=>(i,S)::G
 |none=>G
abbrev ring(v:Value):List PanicEntry:= [{ v,recovered:=false }]
def jm(P:Program)(f:FuncId)(args:Array Value)(h:aA)(R E:fp):Prop:=
 ∀w:World,w.heap=h->Calls P f args w λe a=>fQ w a/\((∃v,e=.returned v/\R v a.heap)\/∃v,e=.panicked (ring v)/\E v a.heap)
section
variable {P : Program} {f : FuncId} {args : Array Value} {h : aA} {R r E a : Value → aA → Prop}
def jm.mono(c:jm P f args h R E)(g: ∀v H,R v H->r v H)(b: ∀v H,E v H->a v H):jm P f args h r a:=
 λw j=>(c w j).mono λ_ _ ⟨i,d⟩=>⟨i,d.imp (λ⟨v,e,h⟩=>⟨v,e,g _ _ h⟩) (λ⟨v,e,h⟩=>⟨v,e,b _ _ h⟩)⟩
end
def jm.YS{P:Program}{f:FuncId}{args:Array Value}{h:aA}{R:fp}(H:jm P f args h R (λ_ _=>False)):mJ P f args h R:=
 λw c=>(H w c).mono λ_ _ ⟨b,a⟩=>a.elim (λ⟨v,e,h⟩=>⟨v,e,h,b⟩) (λ⟨_,_,h⟩=>h.elim)
def AT(P:Program)(p:List Nat)(o:Oper)(a:Env)(h:aA)(K E:fp):Prop:=
 match o.op with
 | .panic x=>(match a.ev x with
  |some (.iface t v)=>E (.iface t v) h
  |_=>False)
 | .call { callee:=.value f,args:=args,argTypes:=_ } =>(match a.ev f,Qw a args.toList with
  |some (.func (.func g) first c),some b=>(match p.any (Nat.beq g)with
   |true=>(match ou P g with
    |true=>jm P g (first.toList++b++c.toList).toArray h (λv H=>xT P o.type λV=>v=V/\K V H) E
    |false=>False)
   |false=>Cw P o a h K)
  |_,_=>Cw P o a h K)
 |_=>Cw P o a h K
theorem QD{P:Program}{o:Oper}{a:Env}{d:Operand->Value}{h:aA}{f:Operand}{args:Array Operand}{t:Array TypeId}{g:FuncId}{first c:Array Value}{v:List Value}(b:Fits a d)(m:o.op=.call { callee:=.value f,args:=args,argTypes:=t })(k:a.ev f=some (.func (.func g) first c))(n:Qw a args.toList=some v)(H:ou P g=true):
  bM P (execOp d o) h λx i=>x=.enter g (first.toList++v++c.toList).toArray/\i=h:=by
 unfold execOp;rw[m];simp only[resolve,vg b n,b _ _ k,Deferred.ofValue];unfold ou at H;split at H
 .rename_i F j;simp only[aZ,fI]at H;show bM P (match P.funcs[g]? with|none=>_|some F=>_) h _;rw[j];have l:F.body.isNone=false:=by simp_all
  simp only[H.2,l,az,aY];have e:(first++v.toArray++c)=(first.toList++v++c.toList).toArray:=bt
  rw[e];exact⟨rfl,rfl⟩
 cases H
theorem Hd{P:Program}{y:List Nat}{o:Oper}{l:Env}{a:Act}{w:World}{K E:fp}{next:Act->World->Prop}{Q:JY}(H:Fits l a.eval)(h:AT P y o l w.heap K E)(c: ∀v b,K v b.heap->fQ w b->next (a.put o.dst v) b)(i: ∀v b,E v b.heap->fQ w b->Q (.panic (ring v)) a b):o.wp P a w next Q:=by
 unfold AT at h;split at h;rename_i x d;split at h;rename_i t v u;unfold Oper.wp execOp;rw[d];simp only[H _ _ u];exact i _ _ h (fQ.refl w);grind
 .rename_i f args T d;split at h
  .rename_i g first C V q r;split at h
   split at h
   rename_i p;obtain⟨x,b,R,⟨rfl,s⟩,j⟩:=oq _ _ _ (QD H d q r p) w rfl;unfold Oper.wp;rw[R];refine(h b s).mono ?_;rintro e z ⟨k,⟨v,rfl,n⟩|⟨v,rfl,m⟩⟩;exact c _ _ (DS n) (j.trans k);exact i _ _ m (j.trans k);grind;exact(qI H h).wp c
  exact(qI H h).wp c
 exact(qI H h).wp c
structure kq (n:Nat) (D:List Deferred) (σ:Env) (a:Act):Prop where
 size:a.tmps.size=n
 at_: ∀t v,σ t=some v->a.tmps.getD t undef=v
 defs:a.defers=D
def kq.fits{n:Nat}{D:List Deferred}{b:Env}{a:Act}(h:kq n D b a):Fits b a.eval:=by
 intro x v H;cases x with
 |tmp t=>exact h.at_ t v H
 |_=>simpa[Env.ev,Act.eval]using H
def kq.bare{n:Nat}{D:List Deferred}{b:Env}{a:Act}(h:kq n D b a):Rel n b { a with defers:= [] } :=⟨rfl,h.size,h.at_⟩
def kq.of{n:Nat}{D:List Deferred}{b:Env}{a:Act}(h:Rel n b { a with defers:= [] })(H:a.defers=D):kq n D b a:=⟨h.size,h.at_,H⟩
def Kk(a:Act)(d:Option Nat)(v:Value):(a.put d v).defers=a.defers:=by cases d<;>rfl
def pX{n:Nat}{D:List Deferred}{c:Env}{a:Act}{d:Option Nat}{v:Value}{K:Env->Prop}(H:kq n D c a)(h:mK n c d v K): ∃b,kq n D b (a.put d v)/\K b:=by
 have⟨b,f,g⟩:=zC H.bare h;refine⟨b,.of ?_ ((Kk _ _ _).trans H.defs),g⟩;have e:({ a with defers:= [] }).put d v= { (a.put d v)with defers:= [] } :=by cases d<;>rfl
 rw[<-e];exact f
def rX{n:Nat}{D:List Deferred}{O:Array Oper}{o:Oper}{f:Env}{a:Act}{r skip:Env->Prop}(e:kq n D f a)(h:oP O o f r skip):
  (Region.wanted o (yielded O a.tmps)=true/\∃b,kq n D b a/\r b)\/(Region.wanted o (yielded O a.tmps)=false/\∃b,kq n D b a/\skip b):=by
 rcases wZ e.bare h with⟨H,b,c,d⟩|⟨H,b,c,d⟩;exact .inl ⟨H,b,.of c e.defs,d⟩;exact .inr ⟨H,b,.of c e.defs,d⟩
def UO(n:Nat)(D:List Deferred)(A:Act)(c:World)(b:List Nat)(K:List Deferred->Env->dw)(E:fp):JY:=
 λe a w=>(e=.normal/\∃d f,kq n d f a/\K d f w.heap/\fQ c w/\gP b A a)\/(a.defers=D/\a.tmps.size=n/\gP b A a/\fQ c w/\∃v,e=.panic (ring v)/\E v w.heap)
def DZ(o:Oper)(D:List Deferred)(a:Env):Option (List Deferred):=
 match o.op with
 | .defer { callee:=.value f,args:=args,argTypes:=_ } =>(match a.ev f,Qw a args.toList with
  |some (.func g first c),some v=>some ({ target:=.fn g c,args:=(first.toList++v).toArray } ::D)
  |_,_=>none)
 |_=>none
def Kl{P:Program}{o:Oper}{b:Env}{a:Act}{w:World}{D d:List Deferred}{next:Act->World->Prop}{Q:JY}(H:Fits b a.eval)(c:a.defers=D)(h:DZ o D b=some d)(j:next ({ a with defers:=d }.put o.dst undef) w):o.wp P a w next Q:=by
 unfold DZ at h;split at h
 .rename_i f args t k;split at h
  .rename_i g first C v i l;cases h;subst c;unfold Oper.wp execOp;rw[k];simp only[resolve,vg H l,H _ _ i,Deferred.ofValue];have e:first++v.toArray=(first.toList++v).toArray:=bt
   rw[e];exact j
  cases h
 cases h
def mU(P:Program)(p:List Nat)(n:Nat)(O:Array Oper)(t:List (Nat×Sh))(E:fp):List Oper->List Deferred->Env->aA->(List Deferred->Env->dw)->Prop
 | [],D,a,h,K=>K D a h
 |o::r,D,a,h,K=>(match o.op with
  | .defer _=>oP O o a
   (λa=>(match DZ o D a with
    |some d=>(match r with| []=>mK n a o.dst undef λb=>K d b h|_=>False)
    |none=>False))
   (λa=>mK n a o.dst undef λb=>mU P p n O t E r D b h K)
  |_=>oP O o a
   (λa=>AT P p o a h (λv H=>Kg t o.dst v λv=>mK n a o.dst v λb=>mU P p n O t E r D b H K) E)
   (λa=>mK n a o.dst undef λb=>mU P p n O t E r D b h K))
theorem rY{P:Program}{y:List Nat}{n:Nat}{O:Array Oper}{T:List (Nat×Sh)}{E:fp}{D:List Deferred}{K:List Deferred->Env->dw}{a0:Act}{w0:World}: ∀(r:List Oper)(k:Nat)(l:Env)(a:Act)(w:World),
  (∀j,r[j]? =O[k+j]?)->kq n D l a->fQ w0 w->gP (fO O) a0 a->mU P y n O T E r D l w.heap K->wpOps P O (UO n D a0 w0 (fO O) K E) (List.range' k r.length) a w
 | [],k,l,a,w,_,q,d,e,h=> .inl ⟨rfl,D,l,q,h,d,e⟩
 |o::r,k,l,a,w,u,q,d,e,h=>by
  have p:=by have:=u 0;simpa using this.symm
  have x: ∀j,r[j]? =O[k+1+j]? :=λj=>by have:=u (j+1);simpa[Nat.add_assoc,Nat.add_comm 1 j]using this
  simp only[ba,List.range'_succ,wpOps,p];have skip: ∀{b:Env},Region.wanted o (yielded O a.tmps)=false->kq n D b a->(mK n b o.dst undef λb=>mU P y n O T E r D b w.heap K)->
    (if Region.wanted o (yielded O a.tmps)=true then o.wp P a w (wpOps P O (UO n D a0 w0 (fO O) K E) (List.range' (k+1) r.length)) (UO n D a0 w0 (fO O) K E)\/(o.asks P a w/\LetsOut (UO n D a0 w0 (fO O) K E))else wpOps P O (UO n D a0 w0 (fO O) K E) (List.range' (k+1) r.length) (a.put o.dst undef) w):=by
   intro b f H h;rw[af (by grind)];have⟨m,i,g⟩:=pX H h;exact rY r (k+1) m _ w x i d (e.trans (gP.put (iF p))) g
  unfold mU at h;split at h;rename_i c F;rcases rX q h with⟨f,b,H,h⟩|⟨f,b,H,h⟩;rw[ag f];split at h;rename_i t A;split at h;have⟨m,i,g⟩:=pX (a:= { a with defers:=t }) ⟨H.size,H.at_,rfl⟩ h;exact .inl (Kl H.fits H.defs A (.inl ⟨rfl,t,m,i,g,d,e.trans (gP.put (iF p))⟩));grind;grind;grind;rcases rX q h with⟨f,b,H,h⟩|⟨f,b,H,h⟩;rw[ag f];refine .inl (Hd H.fits h (λv z C s=> ?_) (λv z B s=> .inr ⟨H.defs,H.size,e,d.trans s,v,rfl,B⟩));have⟨m,i,g⟩:=pX H (vh C);exact rY r (k+1) m _ z x i (d.trans s) (e.trans (gP.put (iF p))) g;grind
def gB:Nat->Nat->zD->zD
 |0,_,p=>p
 |k+1,i,p=> .op i (gB k (i+1) p)
def xW(o:Oper)(B:List (Nat×bZ)):List (Nat×bZ):=B.filter λg=> !waits o g.1
def Xm(h H:aA)(K:Prop):List (Nat×bZ)->Prop
 | []=>K
 |B=>Kp h H (B.map (·.2))/\K
def Vr{h a:aA}{K:Prop}{B:List (Nat×bZ)}(H:Xm h a K B):(∀g∈B,nh g.2 h a)/\K:=by
 cases B with
 |nil=>exact⟨(λ_ d=>by cases d),H⟩
 |cons b B=>exact⟨λg c=>H.1 g.2 (bh.2 ⟨g,c,rfl⟩),H.2⟩
def Wv(k:Bool)(a:Env)(o:Oper):Option (bZ):=match k with|true=>IK a o|false=>none
def gY(P:Program)(b:List Nat)(n:Nat)(O:Array Oper)(E:fp)(k:Bool):zD->List (Nat×(dw))->List (Nat×bZ)->Env->aA->(Env->dw)->Prop
 | .done,_,_,a,h,K=>K a h
 | .op i r,G,B,a,h,K=>(match O[i]? with
  |some o=>oP O o a
    (λa=>(match AR P o with
     |true=>wX P o a h λv S=>mK n a o.dst v λc=>(match Wv k a o with
      |some p=>gY P b n O E k r G ((i,p)::B) c h K
      |none=>gY P b n O E k r (QC i S G) B c h K)
     |false=>AT P b o a h (λv H=>Ki H (Xm h H (mK n a o.dst v λc=>gY P b n O E k r (jR o G) (xW o B) c H K) (xW o B)) (jR o G)) E))
    (λa=>mK n a o.dst undef λc=>gY P b n O E k r G B c h K)
  |none=>False)
 | .alts q,G,B,a,h,K=>gY P b n O E k q G B a h K
 | .fork i r q,G,B,a,h,K=>(match O[i]? with
  |some o=>oP O o a
    (λa=>AT P b o a h (λv H=>Ki H (Xm h H (mK n a o.dst v λc=>gY P b n O E k r (jR o G) (xW o B) c H K) (xW o B)) (jR o G)) E)
    (λa=>mK n a o.dst undef λc=>gY P b n O E k r G B c h K)
  |none=>False)/\gY P b n O E k q G B a h K
 | .hO,_,_,_,_,_=>True
def GB(F G:List (Nat×(dw)))(B:List (Nat×bZ))(h:aA):Prop:= ∀f∈F,f∈G\/∃p,(f.1,p)∈B/\∀H,nh p h H->f.2 H
def GB.step{F G:List (Nat×(dw))}{B:List (Nat×bZ)}{h b:aA}{o:Oper}(H:GB F G B h)(l: ∀g∈jR o G,g.2 b)(m: ∀g∈xW o B,nh g.2 h b):(∀f∈jR o F,f.2 b)/\GB (jR o F) (jR o G) (xW o B) b:=by
 have K: ∀f∈jR o F,f.2 b/\(f∈jR o G\/∃p,(f.1,p)∈xW o B/\∀d,nh p b d->f.2 d):=λf c=>by have⟨n,e⟩:=bD.1 c;rcases H f n with a|⟨p,r,i⟩;have:f∈jR o G:=bD.2 ⟨a,e⟩;exact⟨l f this,.inl this⟩;have j:(f.1,p)∈xW o B:=bD.2 ⟨r,e⟩;have k:=m _ j;exact⟨i _ k,.inr ⟨p,j,λd q=>i _ (nh.trans k q)⟩⟩
 exact⟨λf c=>(K f c).1,λf c=>(K f c).2⟩
def gP.Ww{w:List Nat}{a b:Act}{D:Option Nat}{v:Value}(h: ∀d,D=some d->d∈w)(f:gP w a (b.put D v)):gP w a b:=λt H=>by
 rw[<-f t H];cases D with
 |none=>rfl
 |some d=>have c:t≠d:=λe=>H (e▸h d rfl);simp[Act.put,Ne.symm c]
section
variable {P : Program} {p : List Nat} {n : Nat} {o : Array Oper} {E : Value → aA → Prop} {k : Bool} {D : List Deferred} {K : Env → aA → Prop} {a0 : Act} {w0 : World}
abbrev QE(n:Nat)(D:List Deferred)(a0:Act)(w0:World)(o:Array Oper)(K:Env->dw)(E:fp):=UO n D a0 w0 (fO o) (λd a h=>d=D/\K a h) E
def Cy{R:zD}{i m:Nat}{O:Oper}{L:Array Bool}{F G:List (Nat×(dw))}{B:List (Nat×bZ)}{b:Env}{a:Act}{w:World}(I: ∀F G B b a w,kq n D b a->fQ w0 w->gP (fO o) a0 a->(∀g∈F,g.2 w.heap)->GB F G B w.heap->gY P p n o E k R G B b w.heap K->mL P o (QE n D a0 w0 o K E) m F (L.setIfInBounds i true) a w)(f:o[i]? =some O)(T:kq n D b a)(s:fQ w0 w)(u:gP (fO o) a0 a)(z: ∀g∈F,g.2 w.heap)(A:GB F G B w.heap)
  (h:oP o O b (λb=>AT P p O b w.heap (λv j=>Ki j (Xm w.heap j (mK n b O.dst v λe=>gY P p n o E k R (jR O G) (xW O B) e j K) (xW O B)) (jR O G)) E) (λb=>mK n b O.dst undef λe=>gY P p n o E k R G B e w.heap K)):
  wpOp P o (QE n D a0 w0 o K E) i (λC d=>(∀g∈jR O F,g.2 d.heap)/\mL P o (QE n D a0 w0 o K E) m (jR O F) (L.setIfInBounds i true) C d) a w:=by
 rcases rX T h with⟨x,e,H,h⟩|⟨x,e,H,U⟩;unfold wpOp;simp only[f,x,bJ];refine .inl (Hd H.fits h (λv d S t=> ?_) (λv d M t=> .inr ⟨H.defs,H.size,u,s.trans t,v,rfl,M⟩));have⟨J,l⟩:=Kj S;have⟨l,c⟩:=Vr l;have⟨y,r,c⟩:=pX H c;have⟨Q,V⟩:=A.step J l;exact⟨Q,I _ _ _ y _ d r (s.trans t) (u.trans (gP.put (iF f))) Q V c⟩;unfold wpOp;simp only[f,x,az,aY];have⟨y,r,c⟩:=pX H U;exact⟨λg q=>z g (oH q),rW _ _ _ _ _ _ (λg q=>oH q) (I F G B y _ w r s (u.trans (gP.put (iF f))) z A c)⟩
theorem Gv(s':Region.noSelect o=true)(C:zD):
  (∀(m:Nat)(l:Array Bool)(F G:List (Nat×(dw)))(B:List (Nat×bZ))(b:Env)(a:Act)(w:World),DY C m=true->
   jW P o C none l=true->kq n D b a->fQ w0 w->gP (fO o) a0 a->(∀g∈F,g.2 w.heap)->GB F G B w.heap->gY P p n o E k C G B b w.heap K->
   mL P o (QE n D a0 w0 o K E) m F l a w)/\
  (∀(m:Nat)(R:List Nat)(l:Array Bool)(F G:List (Nat×(dw)))(B:List (Nat×bZ))(b:Env)(a:Act)(w:World),DY C (m+1)=true->
   jW P o C (some R) l=true->kq n D b a->fQ w0 w->gP (fO o) a0 a->(∀g∈F,g.2 w.heap)->GB F G B w.heap->gY P p n o E k C G B b w.heap K->
   ∀j∈R,∀O,o[j]? =some O->wpOp P o (QE n D a0 w0 o K E) j (λa' w'=>(∀g∈jR O F,g.2 w'.heap)/\mL P o (QE n D a0 w0 o K E) m (jR O F) (l.setIfInBounds j true) a' w') a w):=by
 induction C with
 |done=>refine⟨λm l F G B b a w c H q r s f d h=> ?_,λm R l F G B b a w c H=>by cases H⟩;obtain rfl:m=0:=cT c;simp only[jW,List.isEmpty_iff]at H;exact⟨H,.inl ⟨rfl,D,b,q,⟨rfl,h⟩,r,s⟩⟩
 |hO=>refine⟨λm l F G B b a w c H=>(by cases H),λm R l F G B b a w c H q r s f d h j x=> ?_⟩;simp only[jW,List.isEmpty_iff]at H;subst H;cases x
 |alts f' I=>
  refine⟨λm l F G B b a w c H q r s f d h=> ?_,λm R l F G B b a w c H=>by cases H⟩;cases m with
  |zero=>cases c
  |succ m=>simp only[jW]at H;split at H;cases H;rename_i j js V;refine⟨(λe=>by rw[V]at e;cases e),λj' g' O t=> ?_⟩;rw[V]at g';exact I.2 m _ l F G B b a w c H q r s f d h j' g' O t
 |fork i l' f' u' v'=>
  refine⟨λm l F G B b a w c H=>(by cases H),λm R l F G B b a w c H q r s f d h j x O t=> ?_⟩;simp only[jW,aZ]at H;obtain⟨⟨u,d'⟩,r'⟩:=H;simp only[DY,aZ]at c;simp only[gY]at h;by_cases h':i=j;subst h';have h:=h.1;rw[t]at h;exact Cy (λF G B b a w q r s f d h=>u'.1 m _ F G B b a w c.1 d' q r s f d h) t q r s f d h;refine v'.2 m _ l F G B b a w c.2 r' q r s f d h.2 j (bD.2 ⟨x,?_⟩) O t;have:Nat.beq i j=false:=by cases hb:Nat.beq i j;rfl;exact absurd (cT hb) h'
  simp[this]
 |op i l' I=>
  refine⟨λm l F G B b a w c H q r s f d h=> ?_,λm R l F G B b a w c H=>by cases H⟩;cases m with
  |zero=>cases c
  |succ m=>
   simp only[jW,aZ]at H;obtain⟨u,d'⟩:=H;simp only[gY]at h;split at h;rename_i O t;simp only[t]at u;have hQ: ∀v,∀e' a w,QE n D a0 w0 o K E (.panic e') (a.put O.dst v) w->QE n D a0 w0 o K E (.panic e') a w:=λv e' a w hq=>by rcases hq with⟨e,_⟩|⟨M,Q,T,J⟩;cases e;refine .inr ⟨(Kk _ _ _).symm.trans M,?_,T.Ww (iF t),J⟩;rw[<-Q];cases O.dst<;>simp[Act.put]
   have take: ∀(v:Value)(S:Option (dw))(z:Env)(G':List (Nat×(dw)))(Z:List (Nat×bZ)),AR P O=true->kq n D z (a.put O.dst v)->YieldsIf P o (λw=>vd S w.heap) O v a->vd S w.heap->GB (QC i S F) G' Z w.heap->
     gY P p n o E k l' G' Z z w.heap K->mL P o (QE n D a0 w0 o K E) (m+1) F l a w:=λv S z G' Z A y hy L p' hd=>by
    rw[A]at u;simp only[aZ]at u;have n': ∀g∈QC i S F,g.2 w.heap:=by
     intro g hg;cases S with
     |none=>exact f g hg
     |some S=>rcases bG.1 hg with e|e;rw[e];exact L;exact f g e
    have I:=I.1 m _ (QC i S F) G' Z z (a.put O.dst v) w c d' y r (s.trans (gP.put (iF t))) n' p' hd;refine IS (S:=vd S) t (Region.noSelect_spec s') (hQ v) m F l a w (Region.free_spec t u.2) (by simpa using u.1) hy L f ?_;cases S with
    |none=>exact Cx i _ _ _ _ _ I
    |some S=>exact I
   cases A:AR P O with
   |true=>
    rcases rX q h with⟨hw,z,y,h⟩|⟨hw,z,y,t'⟩;rw[A]at h;dsimp only at h;cases c':Wv k z O with
    |some k'=>
     have q':IK z O=some k':=by cases k with|true=>exact c'|false=>cases c'
     rw[c']at h;obtain⟨v,S,M,Q,J,T⟩:=IM y.fits q' h;obtain⟨X,U,m'⟩:=pX y M;refine take v (some S) X G ((i,k')::B) A U (.inl ⟨hw,λw' L=>x7 _ _ _ (T _ L)⟩) Q (λb' hf=> ?_) m';rcases bG.1 hf with e|e;simp_all;exact(d b' e).imp id λ⟨f',hq,hk⟩=>⟨f',bQ _ hq,hk⟩
    |none=>
     rw[c']at h;obtain⟨v,S,M,Q,T⟩:=DW y.fits h;obtain⟨X,U,J⟩:=pX y M;refine take v S X (QC i S G) B A U (.inl ⟨hw,λw' L=>x7 _ _ _ (T _ L)⟩) Q (λb' hf=> ?_) J;cases S with
     |none=>exact d b' hf
     |some S=>rcases bG.1 hf with e|e;exact .inl (e▸dN);exact(d b' e).imp (bQ _) id
    obtain⟨X,U,J⟩:=pX y t';exact take undef none X G B A U (.inr ⟨hw,rfl⟩) trivial d J
   |false=>
    rw[A]at u h;simp only at u h;have V:Region.ready .any o l= [i]:=by
     split at u
     rename_i j x;rw[x,cT u];cases u
    refine⟨(λe=>by rw[V]at e;cases e),λj x o' i'=> ?_⟩;rw[V]at x;obtain rfl:j=i:=by simpa using x
    obtain rfl:o'=O:=by rw[t]at i';exact(bF i').symm
    exact Cy (λF G B b a w q r s f d h=>I.1 m _ F G B b a w c d' q r s f d h) t q r s f d h
   exact h.elim
def vi{b:zD}{c:Env}{a:Act}{w:World}(d:(P.follows .mixedOrders && Region.noSelect o && DY b o.size && jW P o b none (Array.replicate o.size false))=true)(j:kq n D c a)(h:gY P p n o E k b [] [] c w.heap K):P.follows .mixedOrders=true/\wpAny P .any o (QE n D a w o K E) o.size (Array.replicate o.size false) a { w with drawn:=w.drawn+1 } :=by
 simp only[aZ]at d;obtain⟨⟨⟨e,f⟩,g⟩,i⟩:=d;exact⟨e,DX _ _ _ _ _ ((Gv (a0:=a) (w0:=w) f b).1 o.size (Array.replicate o.size false) [] [] [] c a { w with drawn:=w.drawn+1 } g i j ⟨rfl,rfl,rfl⟩ (gP.refl _ _) (λ_ H=>by cases H) (λ_ H=>by cases H) h)⟩
end
def Vs:fp:=λ_ _=>False
def NA(K:Env->dw):List Deferred->Env->dw
 | []=>K
 |_=>λ_ _=>False
def Rel.D{n:Nat}{b:Env}{a:Act}(h:Rel n b a):kq n [] b a:=⟨h.size,h.at_,h.defers⟩
def kq.R{n:Nat}{b:Env}{a:Act}(h:kq n [] b a):Rel n b a:=⟨h.defs,h.size,h.at_⟩
def D0{n:Nat}{o:Array Oper}{K:Env->dw}{A a:Act}{b w:World}{e:Exit}(h:QE n [] A b o K Vs e a w):XB n A b (fO o) K e a w:=by rcases h with⟨d,D,j,H,⟨rfl,f⟩,g,i⟩|⟨_,_,_,_,_,_,c⟩;exact⟨d,j,H.R,f,g,i⟩;exact c.elim
def Mb{n:Nat}{b:List Nat}{K:Env->dw}{A a:Act}{c w:World}{e:Exit}(h:UO n [] A c b (NA K) Vs e a w):XB n A c b K e a w:=by
 rcases h with⟨g,D,k,d,H,i,j⟩|⟨_,_,_,_,_,_,f⟩;cases D with
 |nil=>exact⟨g,k,d.R,H,i,j⟩
 |cons=>exact H.elim
 exact f.elim
section
variable {P:Program} {a i A:Act} {w g:World} {n:Nat} {j:List Nat} {Q:Exit->Act->World->Prop} {e:Exit} {c:Code} {O:Array Oper} {t:List (Nat×Sh)} {h:aA} {d:Func} {F:Value->Prop} {f:FuncId} {args:List Value} {R:fp} {D:List Deferred} {r:Option Value} {o:Oper} {c0:Frame} {cs0:List Frame}
inductive pH where
 |leaf
 |seq (a b:pH)
 |cond (a b:pH)
 |block (a:pH)
 |loop (L:List (Nat×Sh)) (a:pH)
 |join (L:List (Nat×Sh)) (a:pH)
 |jW (kb:Bool) (p:zD)
 |scope (l:Nat) (L:List (Nat×Sh)) (a b:pH)
 |typed (t:List (Nat×Sh))
abbrev pH.ni:=jW false
abbrev pH.ob:=jW true
def writes:Code->List Nat
 | .region _ O _=>fO O
 | .seq a b=>writes a++writes b
 | .cond _ a b=>writes a++writes b
 | .block _ a=>writes a
 | .loop a=>writes a
 | .scope a=>writes a
 |_=> []
def Env.forget(k:Env)(b:List Nat):Env:=λT=>bif b.any (Nat.beq T)then none else k T
theorem Env.Cz{k:Env}{b:List Nat}{T:Nat}{v:Value}(h:k.forget b T=some v):T∉b/\k T=some v:=by
 unfold Env.forget at h;cases H:b.any (Nat.beq T)with
 |true=>grind
 |false=>rw[H]at h;refine⟨λl=> ?_,h⟩;have:=List.any_eq_false.1 H T l;simp at this
variable {E:List Deferred->Env->fp}
def NB(K:Env->dw)(Q:Exit->Env->dw):Exit->Env->dw
 | .normal=>K
 |e=>Q e
def QF(id:Nat)(Q:Exit->Env->dw):Exit->Env->dw
 | .exit I=>(match Nat.beq I id with|true=>Q .normal|false=>Q (.exit I))
 |e=>Q e
def aB{α:Type}(F:α)(B:α->Prop):Prop:=B F
def CA(l:Nat)(K:Env->dw)(Q:Exit->Env->dw):Exit->Env->dw
 | .goto L=>(match Nat.beq L l with|true=>K|false=>λ_ _=>False)
 |e=>Q e
def qJ:Code->Nat->Bool
 | .seq a b,l=>qJ a l||qJ b l
 | .label L,l=>Nat.beq L l
 |_,_=>false
def den(P:Program)(n:Nat):pH->Option Nat->Code->(Exit->Env->dw)->Env->dw
 | .leaf,none,c,Q,k,h=>(match c with
  | .skip=>Q .normal k h
  | .label _=>Q .normal k h
  | .exit id=>Q (.exit id) k h
  | .goto l=>Q (.goto l) k h
  | .ret=>Q .ret k h
  | .region _ O false=>mU P [] n O [] Vs O.toList [] k h (NA (Q .normal))
  |_=>False)
 | .leaf,some l,c,Q,k,h=>(match c with
  | .label z=>(match Nat.beq z l with|true=>Q (.goto l) k h|false=>False)
  |_=>False)
 | .jW K p,none,c,Q,k,h=>(match c with
  | .region _ O true=>(match (P.follows .mixedOrders && Region.noSelect O && DY p O.size && jW P O p none (Array.replicate O.size false))with
   |true=>gY P [] n O Vs K p [] [] k h (Q .normal)
   |false=>False)
  |_=>False)
 | .seq a b,none,c,Q,k,h=>(match c with
  | .seq c s=>den P n a none c (NB (λm H=>den P n b none s Q m H) Q) k h
  |_=>False)
 | .seq a b,some l,c,Q,k,h=>(match c with
  | .seq c s=>(match qJ c l with
   |true=>den P n a (some l) c Q k h
   |false=>den P n a none c (NB (λm H=>den P n b (some l) s Q m H) Q) k h)
  |_=>False)
 | .cond a b,none,c,Q,k,h=>(match c with
  | .cond x c s=>(match k.ev x with
   |some (.bool q)=>if q=true then den P n a none c Q k h else den P n b none s Q k h
   |_=>False)
  |_=>False)
 | .block a,none,c,Q,k,h=>(match c with
  | .block id c=>den P n a none c (QF id Q) k h
  |_=>False)
 | .loop L a,none,c,Q,k,h=>(match c with
  | .loop c=> ∃(I:uh (dw) L)(v:uh (aA->Nat) L),nK False L I k (λf=>f h)/\
    OB L (λm=> ∀H,nK False L I m (λf=>f H)->
     den P n a none c (NB (λy u=>nK False L I y (λf=>f u)/\nK 0 L v y (λf=>f u)<nK 0 L v m (λf=>f H)) Q) m H) (k.forget (writes c))
  |_=>False)
 | .join L a,none,c,Q,k,h=>aB (α:=uh (dw) L) (Qy L (λm H=>Q .normal m H) (k.forget (writes c)))
   (λJ=>den P n a none c (NB (λm H=>nK False L J m (λf=>f H)) Q) k h)
 | .typed t,none,c,Q,k,h=>(match c with
  | .region _ O false=>mU P [] n O t Vs O.toList [] k h (NA (Q .normal))
  |_=>False)
 | .scope l L a b,none,c,Q,k,h=>(match c with
  | .scope c=>(match findLabel c l with
   |some B=> ∃(I:uh (dw) L)(v:uh (aA->Nat) L),
     den P n a (some l) c (CA l (λm H=>nK False L I m (λf=>f H)) Q) k h/\
     OB L (λm=> ∀H,nK False L I m (λf=>f H)->
      den P n b none B (CA l (λy u=>nK False L I y (λf=>f u)/\nK 0 L v y (λf=>f u)<nK 0 L v m (λf=>f H)) Q) m H) (k.forget (writes c))
   |none=>False)
  |_=>False)
 |_,_,_,_,_,_=>False
def opened:Code->List Code
 | .skip=> []
 | .seq a b=>opened a++ [b]
 |c=> [c]
def oz{b:Frame}{C:List Frame}(c:Code): ∀(k:List Item),Steps P (lone (b.at a (.code c::k)) C w) (lone (b.at a ((opened c).map Item.code++k)) C w):=by
 induction c with
 |skip=>exact λk=> .one step_skip
 |seq x y H l=>intro k;simp only[opened,aS,cp,List.map_nil,cu,dC,dj];exact .head step_seq (H (.code y::k))
 |_=>exact λk=> .refl _ _
theorem Gw(c:Code)(l:Nat):qJ c l=(findLabel c l).isSome:=by
 induction c with
 |seq a b k H=>unfold qJ findLabel;rw[k,H];cases findLabel a l<;>simp
 |label L=>
  unfold qJ findLabel;by_cases h:L=l;simp_all;have:Nat.beq L l=false:=by cases H:Nat.beq L l;rfl;exact absurd (cT H) h
  simp[this,h]
 |_=>rfl
def AU(c:Code)(l:Nat): ∀(k:Code),findLabel c l=some k->∀T,T∈writes k->T∈writes c:=by
 induction c with
 |seq a b m p=>intro k h T H;unfold findLabel at h;split at h;rename_i s q;cases h;exact bP.2 ((bP.1 H).imp (m s q T) id);exact dy _ (p k h T H)
 |label L=>intro k h T H;unfold findLabel at h;split at h;cases h;cases H;cases h
 |_=>exact λk h=>by cases h
def Wx(P:Program)(l:Nat)(c:Code)(Q:JY)(a:Act)(w:World):Prop:=
 ∀(b:Frame)(k:List Item)(C:List Frame),
  (∃e A m,Q e A m/\e≠ .normal/\Arrives P (lone (b.at a (.code c::k)) C w) b k C e A m)\/
  (∃A m p,Q (.goto l) A m/\findLabel c l=some p/\Steps P (lone (b.at a (.code c::k)) C w) (lone (b.at A ((opened p).map Item.code++k)) C m))
def up(n:Nat)(i:Act)(g:World)(j:List Nat)(Q:Exit->Env->dw):JY:=
 λe a w=> ∃b,Rel n b a/\Q e b w.heap/\fQ g w/\gP j i a
def He{Q:Exit->Env->dw}(h:XB n i g j (Q .normal) e a w):up n i g j Q e a w:=by obtain⟨rfl,h⟩:=h;exact h
def vj(a:Act):Env:=λT=>some (a.tmps.getD T undef)
def Rel.rZ{b k l:Env}(q:Rel n b a)(H:Rel n k A)(u:gP j a A)(s:Sub l (b.forget j) k):Rel n l A:=
 ⟨H.defers,H.size,λT v x=>by rcases s T v x with h|h;exact H.at_ T v h;have⟨m,p⟩:=Env.Cz h;rw[u T m];exact q.at_ T v p⟩
def lL{y:Type}{k:y}{X:Type}{L:List (Nat×Sh)}{f:uh X L}{K:X->y}{b:Env}(p:Rel n b a)(l: ∀T s,(T,s)∈L->∃v,b T=some v):nK k L f (vj a) K=nK k L f b K:=
 oG L f λT s m=>by have⟨v,H⟩:=l T s m;rw[H];unfold vj;rw[p.at_ T v H]
def QG(P:Program)(c:Code)(Q:JY)(a:Act)(w:World):Prop:=
 ∀(b:Frame)(k:List Item)(C:List Frame),∃e A l,Q e A l/\Arrives P (lone (b.at a ((opened c).map Item.code++k)) C w) b k C e A l
def QG.wp(h:QG P c Q a w):c.wp P Q a w:=λb k C=>by have⟨e,A,m,l,H⟩:=h b k C;exact⟨e,A,m,l,.of_steps (oz c k) H⟩
def jJ(H:opened c= [c])(h:c.wp P Q a w):QG P c Q a w:=λb k C=>by rw[H];exact h b k C
def zE{l:JY}(h:QG P c Q a w)(H: ∀e a w,Q e a w->l e a w):QG P c l a w:=
 λb k C=>let ⟨e,A,p,q,m⟩:=h b k C;⟨e,A,p,H _ _ _ q,m⟩
def Tm{x y:Code}(h:QG P x (Exit.then (QG P y Q) Q) a w):QG P (.seq x y) Q a w:=by
 intro b k C;simp only[opened,aS,cp,List.map_nil,cu,dC,dj];have⟨e,m,p,l,H⟩:=h b (.code y::k) C;cases e with
 |normal=>have⟨s,q,z,v,u⟩:=l b k C;exact⟨s,q,z,v,.of_steps (Steps.trans H (oz y k)) u⟩
 |outgrown=>exact⟨_,m,p,l,.pass rfl (λ_ _=> .inl bt) H⟩
 |_=>exact⟨_,m,p,l,.pass rfl (λ_ _=> .inl bt) H⟩
def Ea{s:Code}{l:Nat}(X:findLabel c l=some s)(I:Act->World->Prop)(M:Act->World->Nat)(S:JY)(T:Act->World->JY)(h0:Wx P l c S a w)(Z: ∀A p,S (.goto l) A p->I A p)(d': ∀e A p,e≠ .goto l->e≠ .normal->S e A p->Q e A p/\∀x,e≠ .goto x)(round: ∀a w,I a w->QG P s (T a w) a w)(h2: ∀a w A p,I a w->T a w (.goto l) A p->I A p/\M A p<M a w)(e': ∀a w e A p,I a w->e≠ .goto l->T a w e A p->Q e A p/\∀x,e≠ .goto x):
  (Code.scope c).wp P Q a w:=by
 intro b k C;have c': ∀(m:Machine)(e:Exit)(A:Act)(p:World),(∀x,e≠ .goto x)->Arrives P m b (.inScope c::k) C e A p->Arrives P m b k C e A p:=by
  intro m e A p G H;cases e with
  |normal=>exact Steps.trans H (.one step_inScope)
  |exit id=>exact λk' hk=>H k' (by simp[exitTo,hk])
  |goto x=>exact absurd rfl (G x)
  |_=>exact H
 have b': ∀n a w,M a w=n->I a w->∃e A p,Q e A p/\Arrives P (lone (b.at a ((opened s).map Item.code++ .inScope c::k)) C w) b k C e A p:=by
  intro n;induction n using Nat.strongRecOn with
  |_ n ih=>intro a w hn U;obtain⟨e,u,v,q,H⟩:=round a w U b (.inScope c::k) C;by_cases he:e=.goto l;subst he;obtain⟨f',h'⟩:=h2 a w u v U q;have K:=H (.code s:: .inScope c::k) (by simp[gotoIn,X]);obtain⟨z,y,L,J,B⟩:=ih (M u v) (hn▸h') u v rfl f';exact⟨z,y,L,J,.of_steps (Steps.trans K (oz s _)) B⟩;obtain⟨V,G⟩:=e' a w e u v U he q;exact⟨e,u,v,V,c' _ e u v G H⟩
 rcases h0 b (.inScope c::k) C with⟨e,A,p,q,g',H⟩|⟨A,p,r',q,hr,K⟩;by_cases a':e=.goto l;subst a';have K:=H (.code s:: .inScope c::k) (by simp[gotoIn,X]);obtain⟨z,y,L,J,B⟩:=b' _ A p rfl (Z A p q);exact⟨z,y,L,J,.of_steps (.head step_scope (Steps.trans K (oz s _))) B⟩;obtain⟨V,G⟩:=d' e A p a' g' q;exact⟨e,A,p,V,.of_steps (.one step_scope) (c' _ e A p G H)⟩;rw[X]at hr;cases hr;obtain⟨z,y,L,J,B⟩:=b' _ A p rfl (Z A p q);exact⟨z,y,L,J,.of_steps (.head step_scope K) B⟩
def Wy(P:Program)(c:Code)(Q:JY)(a:Act)(w:World):Option Nat->Prop
 |none=>QG P c Q a w
 |some l=>Wx P l c Q a w
def region{id:Nat}{Q:Exit->Env->dw}{b:Env}(k:Rel n b a)(h:mU P [] n O t Vs O.toList [] b w.heap (NA (Q .normal))):QG P (.region id O false) (up n a w (fO O) Q) a w:=by refine jJ rfl (wp_mono (wp_region ?_) (λe A l H=>He (Mb H)));have:=rY O.toList 0 b a w bt k.D (fQ.refl w) (gP.refl _ _) h;rw[List.range_eq_range'];simpa using this
def ma : ∀(w':pH)(m:Option Nat)(c:Code)(Q:Exit->Env->dw)(C:Env)(a:Act)(w:World),Rel n C a->den P n w' m c Q C w.heap->Wy P c (up n a w (writes c) Q) a w m
 | .leaf,none,c,Q,C,a,w,B,h=>by unfold den at h;split at h;exact λb k V=>⟨.normal,a,w,⟨C,B,h,fQ.refl w,gP.refl _ _⟩,.refl _ _⟩;exact jJ rfl (wp_label ⟨C,B,h,fQ.refl w,gP.refl _ _⟩);exact jJ rfl (wp_exit ⟨C,B,h,fQ.refl w,gP.refl _ _⟩);exact jJ rfl (wp_goto ⟨C,B,h,fQ.refl w,gP.refl _ _⟩);exact jJ rfl (wp_ret ⟨C,B,h,fQ.refl w,gP.refl _ _⟩);rename_i id O;exact region B h;exact h.elim
 | .leaf,some l,c,Q,C,a,w,B,h=>by unfold den at h;split at h;rename_i l';split at h;rename_i hl;obtain rfl:l'=l:=cT hl;exact λb k V=> .inr ⟨a,w,.skip,⟨C,B,h,fQ.refl w,gP.refl _ _⟩,by simp[findLabel],.one step_label⟩;exact h.elim;exact h.elim
 | .jW kb H',none,c,Q,C,a,w,B,h=>by unfold den at h;split at h;split at h;rename_i hb;obtain⟨h1,h2⟩:=vi hb B.D h;exact jJ rfl (wp_mono (wp_region_any h1 h2) (λe A q H=>He (D0 H)));exact h.elim;exact h.elim
 | .seq x y,none,c,Q,C,a,w,B,h=>by
  unfold den at h;split at h;rename_i c J;refine Tm (zE (ma x none c _ C a w B h) ?_);rintro e A q ⟨p,v,H,u,s⟩;have S: ∀T,T∈writes c->T∈writes (.seq c J):=λT G=>dY _ G;cases e with
  |normal=>refine zE (ma y none J Q p A q v H) ?_;rintro e2 a2 w2 ⟨i',d',K,e',g'⟩;exact⟨i',d',K,u.trans e',(s.mono S).trans (g'.mono λT G=>dy _ G)⟩
  |_=>exact⟨p,v,H,u,s.mono S⟩
  exact h.elim
 | .seq x y,some l,c,Q,C,a,w,B,h=>by
  unfold den at h;split at h;rename_i c J;have S: ∀T,T∈writes c->T∈writes (.seq c J):=λT G=>dY _ G;have u': ∀T,T∈writes J->T∈writes (.seq c J):=λT G=>dy _ G;split at h;rename_i hl;have ih:=ma x (some l) c Q C a w B h;intro b k V;rcases ih b (.code J::k) V with⟨e,A,q,H,j',X⟩|⟨A,q,U,H,hf,E'⟩;obtain⟨p,v,H,u,s⟩:=H;exact .inl ⟨e,A,q,⟨p,v,H,u,s.mono S⟩,j',.of_steps (.one step_seq) (.pass (x:=.code J) rfl (λ_ _=> .inl j') X)⟩;obtain⟨p,v,H,u,s⟩:=H;refine .inr ⟨A,q,.seq U J,⟨p,v,H,u,s.mono S⟩,by simp[findLabel,hf],.head step_seq ?_⟩;simpa[opened]using E';rename_i hl;have ih:=ma x none c _ C a w B h;have B':findLabel c l=none:=by
   have:=Gw c l;rw[hl]at this;cases H:findLabel c l with
   |none=>rfl
   |some U=>rw[H]at this;cases this
  intro b k V;obtain⟨e,A,q,⟨p,v,H,u,s⟩,X⟩:=ih.wp b (.code J::k) V;cases e with
  |normal=>rcases ma y (some l) J Q p A q v H b k V with⟨e2,a2,w2,K,j',y'⟩|⟨a2,w2,U,K,A',F'⟩;obtain⟨i',d',K,e',g'⟩:=K;exact .inl ⟨e2,a2,w2,⟨i',d',K,u.trans e',(s.mono S).trans (g'.mono u')⟩,j',.of_steps (.head step_seq X) y'⟩;obtain⟨i',d',K,e',g'⟩:=K;exact .inr ⟨a2,w2,U,⟨i',d',K,u.trans e',(s.mono S).trans (g'.mono u')⟩,by simp[findLabel,B',A'],.head step_seq (Steps.trans X F')⟩
  |goto l'=>exact .inl ⟨_,A,q,⟨p,v,H,u,s.mono S⟩,bt,.of_steps (.one step_seq) (.pass (x:=.code J) rfl (λ_ _=> .inl bt) X)⟩
  |_=>exact .inl ⟨_,A,q,⟨p,v,H,u,s.mono S⟩,bt,.of_steps (.one step_seq) (.pass (x:=.code J) rfl (λ_ _=> .inl bt) X)⟩
  exact h.elim
 | .cond x y,none,c,Q,C,a,w,B,h=>by
  unfold den at h;split at h;rename_i k c J;split at h;rename_i G' H;have he:=B.fits _ _ H;split at h;rename_i G;subst G;refine jJ rfl (wp_cond_true he (wp_mono (ma x none c Q C a w B h).wp ?_));rintro e A q ⟨p,v,H,u,s⟩;exact⟨p,v,H,u,s.mono λT G=>dY _ G⟩;rename_i G;have G:G'=false:=by simpa using G
  subst G;refine jJ rfl (wp_cond_false he (wp_mono (ma y none J Q C a w B h).wp ?_));rintro e A q ⟨p,v,H,u,s⟩;exact⟨p,v,H,u,s.mono λT G=>dy _ G⟩;exact h.elim;exact h.elim
 | .block x,none,c,Q,C,a,w,B,h=>by
  unfold den at h;split at h;rename_i id c;refine jJ rfl (wp_block (wp_mono (ma x none c _ C a w B h).wp ?_));rintro e A q ⟨p,v,H,u,s⟩;cases e with
  |exit q'=>
   simp only[Exit.inBlock];simp only[QF]at H;by_cases hid:q'=id;subst hid;simp only[Nat.beq_refl]at H;rw[ag rfl];exact⟨p,v,H,u,s⟩;rw[af hid];have:Nat.beq q' id=false:=by cases hb:Nat.beq q' id;rfl;exact absurd (cT hb) hid
   rw[this]at H;exact⟨p,v,H,u,s⟩
  |_=>exact⟨p,v,H,u,s⟩
  exact h.elim
 | .loop L x,none,c,Q,C,a,w,B,h=>by
  unfold den at h;split at h;rename_i c;obtain⟨I,μ,h0,p'⟩:=h;refine jJ rfl (wp_loop (λA q=> ∃p,Rel n p A/\nK False L I p (λf=>f q.heap)/\fQ w q/\gP (writes c) a A)
   (λA q=>nK 0 L μ (vj A) (λf=>f q.heap)) ⟨C,B,h0,fQ.refl w,gP.refl _ _⟩ ?_)
  rintro A q ⟨p,v,Z,u,s⟩;obtain⟨M,hF,f',hL,_⟩:=zB L _ I p' Z;have b':=Rel.rZ B v s f';have a':nK False L I M (λf=>f q.heap):=by rw[oG L I hL];exact Z
  have hd:=hF q.heap a';refine wp_mono (ma x none c _ M A q b' hd).wp ?_;rintro e a1 w1 ⟨n',c',H,k',m'⟩;cases e with
  |normal=>obtain⟨t',C'⟩:=H;refine⟨⟨n',c',t',u.trans k',s.trans m'⟩,?_⟩;rw[lL c' (oy L I t'),lL b' (oy L I a')];exact C'
  |_=>exact⟨n',c',H,u.trans k',s.trans m'⟩
  exact h.elim
 | .join L x,none,c,Q,C,a,w,B,h=>by
  unfold den at h;unfold aB at h;refine zE (ma x none c _ C a w B h) ?_;rintro e A q ⟨p,v,H,u,s⟩;cases e with
  |normal=>obtain⟨M,hQ,f'⟩:=zA L _ H;exact⟨M,Rel.rZ B v s f',hQ,u,s⟩
  |_=>exact⟨p,v,H,u,s⟩
 | .scope l L x y,none,c,Q,C,a,w,B,h=>by
  unfold den at h;split at h;rename_i c;split at h;rename_i U hf;obtain⟨I,μ,h0,p'⟩:=h;have x':=AU c l U hf;have v': ∀(r':Env->dw)(e:Exit)(p:Env)(h':aA),e≠ .goto l->CA l r' Q e p h'->Q e p h'/\∀z,e≠ .goto z:=by
   intro r' e p h' D' H;cases e with
   |goto z=>
    simp only[CA]at H;have:Nat.beq z l=false:=by cases hb:Nat.beq z l;rfl;exact absurd (by rw[cT hb]) D'
    rw[this]at H;exact H.elim
   |_=>exact⟨H,λz hz=>by cases hz⟩
  refine jJ rfl (Ea hf (λA q=> ∃p,Rel n p A/\nK False L I p (λf=>f q.heap)/\fQ w q/\gP (writes c) a A)
   (λA q=>nK 0 L μ (vj A) (λf=>f q.heap)) _
   (λi g e A q=> ∃p,Rel n p A/\CA l (λM s'=>nK False L I M (λf=>f s')/\nK 0 L μ M (λf=>f s')<nK 0 L μ (vj i) (λf=>f g.heap)) Q e p q.heap/\fQ w q/\gP (writes c) a A)
   (ma x (some l) c _ C a w B h0) ?_ ?_ ?_ ?_ ?_)
  rintro A q ⟨p,v,H,u,s⟩;simp only[CA,Nat.beq_refl]at H;exact⟨p,v,H,u,s⟩;rintro e A q z' _ ⟨p,v,H,u,s⟩;obtain⟨o',K⟩:=v' _ e p _ z' H;exact⟨⟨p,v,o',u,s⟩,K⟩;rintro A q ⟨p,v,Z,u,s⟩;obtain⟨M,hF,f',hL,_⟩:=zB L _ I p' Z;have b':=Rel.rZ B v s f';have a':nK False L I M (λf=>f q.heap):=by rw[oG L I hL];exact Z
  have hd:=hF q.heap a';refine zE (ma y none U _ M A q b' hd) ?_;rintro e a1 w1 ⟨n',c',H,k',m'⟩;refine⟨n',c',?_,u.trans k',s.trans (m'.mono x')⟩;cases e with
  |goto z=>
   simp only[CA]at H⊢;cases hz:Nat.beq z l with
   |false=>rw[hz]at H;exact H.elim
   |true=>rw[hz]at H;obtain⟨q1,q2⟩:=H;exact⟨q1,by rw[lL b' (oy L I a')];exact q2⟩
  |_=>exact H
  rintro i g A q _ ⟨p,v,H,u,s⟩;simp only[CA,Nat.beq_refl]at H;obtain⟨q1,q2⟩:=H;refine⟨⟨p,v,q1,u,s⟩,?_⟩;rw[lL v (oy L I q1)];exact q2;rintro i g e A q _ he ⟨p,v,H,u,s⟩;obtain⟨o',K⟩:=v' _ e p _ he H;exact⟨⟨p,v,o',u,s⟩,K⟩;exact h.elim;exact h.elim
 | .jW _ _,some _,_,_,_,_,_,_,h=>h.elim
 | .cond _ _,some _,_,_,_,_,_,_,h=>h.elim
 | .block _,some _,_,_,_,_,_,_,h=>h.elim
 | .loop _ _,some _,_,_,_,_,_,_,h=>h.elim
 | .join _ _,some _,_,_,_,_,_,_,h=>h.elim
 | .scope _ _ _ _,some _,_,_,_,_,_,_,h=>h.elim
 | .typed _,some _,_,_,_,_,_,_,h=>h.elim
 | .typed t,none,c,Q,C,a,w,B,h=>by unfold den at h;split at h;exact region B h;exact h.elim
def ui(P:Program):List ResultVar->Env->aA->(List Value->Prop)->Prop
 | [],_,_,F=>F []
 | .tmp T::k,b,h,F=>aH (b T) λv=>ui P k b h λV=>F (v::V)
 | .cell a T::k,b,h,F=>(match b a with
  |some (.pointer p)=>aH p λl=>wW P T h l λv _=>ui P k b h λV=>F (v::V)
  |_=>False)
def vm(vs:List Value):Value:=
 match vs with
 | [v]=>v
 |vs=> .tuple vs.toArray
def Vt(P:Program)(k:Array ResultVar)(R:fp):Exit->Env->dw
 | .normal,b,h=>ui P k.toList b h λv=>R (vm v) h
 | .ret,b,h=>ui P k.toList b h λv=>R (vm v) h
 |_,_,_=>False
def mb(args:List Value):Env:=λT=>args[T]?
def OC(a:Act):ResultVar->Sem Value
 | .tmp T=>pure (a.tmps.getD T undef)
 | .cell b T=>do loadVar T (<-asAddr (a.tmps.getD b undef))
theorem IT{x:Env}(l:Rel n x a): ∀(k:List ResultVar)(F:List Value->Prop),ui P k x h F->∃V,F V/\
  rd P (k.mapM (OC a)) h=some V
 | [],F,H=>⟨[],H,rfl⟩
 | .tmp T::k,F,H=>by
  have⟨v,I,H⟩:=bU.1 H;have⟨V,q,s⟩:=IT l k _ H;refine⟨v::V,q,?_⟩;rw[List.mapM_cons];have u:rd P (OC a (.tmp T)) h=some v:=by show some (a.tmps.getD T undef)=some v;rw[l.at_ T v I]
  rw[bE _ _ _ _ u,bE _ _ _ _ s];rfl
 | .cell m T::k,F,H=>by
  simp only[ui]at H;split at H;rename_i p G;obtain⟨b,rfl,C⟩:=bU.1 H;have⟨v,S,q,s,y⟩:=DV C;have⟨V,z,B⟩:=IT l k _ q;refine⟨v::V,z,?_⟩;rw[List.mapM_cons];have u:rd P (OC a (.cell m T)) h=some v:=by show rd P (do loadVar T (<-asAddr (a.tmps.getD m undef))) h=_;rw[l.at_ m _ G];exact y h s
  rw[bE _ _ _ _ u,bE _ _ _ _ B];rfl;grind
def sc{b:Env}(s:Rel n b a)(q:ui P d.results.toList b h λV=>F (vm V)):
  ∃v,F v/\rd P (results d a.tmps) h=some v:=by
 have⟨V,H,k⟩:=IT s _ _ q;refine⟨_,H,?_⟩;have m:rd P (d.results.mapM (OC a)) h=some V.toArray:=by rw[Array.mapM_eq_mapM_toList];show rd P (d.results.toList.mapM (OC a)>>=λl=>pure (List.toArray l)) h=_;rw[bE _ _ _ _ k];rfl
 have p:results d a.tmps=d.results.mapM (OC a)>>=λV=>pure (if h:V.size=1 then V[0]else .T V):=by rfl
 rw[p,bE _ _ _ _ m]
 match V with
 | []=>rfl
 | [v]=>rfl
 |u::v::V=>rfl
theorem Gx(m:pH)(z:P.funcs[f]? =some d)(x:d.body=some c)(q:Nat.ble args.length d.ntmps=true)(y:den P d.ntmps m none c (Vt P d.results R) (mb args) h):mJ P f args.toArray h R:=by
 intro w G;subst G;have q:=Nat.le_of_ble_eq_true q;refine calls_of_wp z x ?_;have k:Rel d.ntmps (mb args) { tmps:=args.toArray++Array.replicate (d.ntmps - args.toArray.size) undef,defers:= [] } :=by refine⟨rfl,by grind,λT v l=> ?_⟩;unfold mb at l;have K:=(aJ.1 l).1;simp only[eU];rw[dU ae];simp[l]
 refine wp_mono (ma m none c _ _ _ w k y).wp ?_;rintro e a b ⟨J,k,H,C,_⟩;have p:ui P d.results.toList J b.heap (λI=>R (vm I) b.heap)->a.defers= []/\∃v,(results d a.tmps).run P b=.ok v b/\∃V,Ending.returned v=.returned V/\R V b.heap/\fQ w b:=λB=>by have⟨v,s,u⟩:=sc (F:=λv=>R v b.heap) k B;exact⟨k.defers,v,x7 _ _ _ u,v,rfl,s,C⟩
 cases e with
 |normal=>exact p H
 |ret=>exact p H
 |outgrown=>exact H.elim
 |_=>exact H.elim
def qp(d:Func):Code:=d.body.getD .skip
def Eb(b:pH)(m:P.funcs[f]? =some d)(l:d.body.isSome=true)(p:Nat.ble args.length d.ntmps=true)(k:den P d.ntmps b none (qp d) (Vt P d.results R) (mb args) h):mJ P f args.toArray h R:=by
 have⟨c,H⟩:=dL.1 l;refine Gx b m H p ?_;rw[qp,H]at k;exact k
def QH(K:List Deferred->Env->dw)(Q:Exit->List Deferred->Env->dw):Exit->List Deferred->Env->dw
 | .normal=>K
 |e=>Q e
def QI(id:Nat)(Q:Exit->List Deferred->Env->dw):Exit->List Deferred->Env->dw
 | .exit I=>(match Nat.beq I id with|true=>Q .normal|false=>Q (.exit I))
 |e=>Q e
def vo(P : Program)(l : List Nat)(n : Nat)(E : List Deferred -> Env -> fp): pH -> Code -> (Exit -> List Deferred -> Env -> aA -> Prop) -> List Deferred -> Env -> aA -> Prop
  | .leaf, c, Q, D, k, h => (match c with
    | .skip => Q .normal D k h
    | .label _ => Q .normal D k h
    | .exit id => Q (.exit id) D k h
    | .ret => Q .ret D k h
    | .region _ O false => mU P l n O [] (E D (k.forget (fO O))) O.toList D k h (Q .normal)
    | _ => False)
  | .jW K p, c, Q, D, k, h => (match c with
    | .region _ O true => (match (P.follows .mixedOrders && Region.noSelect O && DY p O.size && jW P O p none (Array.replicate O.size false)) with
      | true => gY P l n O (E D (k.forget (fO O))) K p [] [] k h (Q .normal D)
      | false => False)
    | _ => False)
  | .seq a b, c, Q, D, k, h => (match c with
    | .seq c u => vo P l n E a c (QH (λs m H => vo P l n E b u Q s m H) Q) D k h
    | _ => False)
  | .cond a b, c, Q, D, k, h => (match c with
    | .cond x c u => (match k.ev x with
      | some (.bool q) => if q = true then vo P l n E a c Q D k h else vo P l n E b u Q D k h
      | _ => False)
    | _ => False)
  | .block a, c, Q, D, k, h => (match c with
    | .block id c => vo P l n E a c (QI id Q) D k h
    | _ => False)
  | .loop L a, c, Q, D, k, h => (match c with
    | .loop c => ∃(I : uh (aA -> Prop) L)(y : uh (aA -> Nat) L), nK False L I k (λf => f h) /\
        OB L (λm => ∀ H, nK False L I m (λf => f H) ->
          vo P l n E a c (QH (λs z v => s = D /\ nK False L I z (λf => f v) /\ nK 0 L y z (λf => f v) < nK 0 L y m (λf => f H)) Q) D m H) (k.forget (writes c))
    | _ => False)
  | .join L a, c, Q, D, k, h => aB (α := uh (aA -> Prop) L) (Qy L (λm H => Q .normal D m H) (k.forget (writes c)))
      (λJ => vo P l n E a c (QH (λs m H => s = D /\ nK False L J m (λf => f H)) Q) D k h)
  | _, _, _, _, _, _ => False
def Vv(n:Nat)(i:Act)(g:World)(j:List Nat)(Q:Exit->List Deferred->Env->dw)(E:List Deferred->Env->fp):JY:=
 λe a w=>fQ g w/\gP j i a/\((∃D b,kq n D b a/\Q e D b w.heap/\∀C,e≠ .panic C)\/∃D b v,kq n D b a/\e=.panic (ring v)/\E D b v w.heap)
def kq.rZ{b:List Deferred}{k l m:Env}(p:kq n D k a)(H:kq n b l A)(s:gP j a A)(q:Sub m (k.forget j) l):kq n b m A:=
 .of (Rel.rZ p.bare H.bare s q) H.defs
def Ec{m:Env}{Q:Exit->List Deferred->Env->dw}(s:kq n D m i)(h:UO n D i g j (Q .normal) (E D (m.forget j)) e a w):Vv n i g j Q E e a w:=by
 rcases h with⟨rfl,p,B,b,k,H,l⟩|⟨b,k,H,l,v,rfl,q⟩;exact⟨H,l,.inl ⟨p,B,b,k,λ_ e=>by cases e⟩⟩;refine⟨l,H,.inr ⟨D,_,v,⟨k,λT u x=> ?_,b⟩,rfl,q⟩⟩;have⟨y,z⟩:=Env.Cz x;rw[H T y];exact s.at_ T u z
def zH{b:List Nat}{Q:Exit->List Deferred->Env->dw}(H: ∀T,T∈j->T∈b)(h:Vv n i g j Q E e a w):Vv n i g b Q E e a w:=
 ⟨h.1,h.2.1.mono H,h.2.2⟩
def OD{b:Act}{k:World}{Q:Exit->List Deferred->Env->dw}(H:fQ g k)(l:gP j i b)(h:Vv n b k j Q E e a w):Vv n i g j Q E e a w:=
 ⟨H.trans h.1,l.trans h.2.1,h.2.2⟩
theorem pY{k':List Nat}: ∀(g':pH)(c:Code)(Q:Exit->List Deferred->Env->dw)(D:List Deferred)(l:Env)(a:Act)(w:World),kq n D l a->
  vo P k' n E g' c Q D l w.heap->c.wp P (Vv n a w (writes c) Q E) a w
 | .leaf,c,Q,D,l,a,w,H,h=>by unfold vo at h;have J: ∀e,(∀C,e≠ .panic C)->Q e D l w.heap->Vv n a w (writes c) Q E e a w:=λe p hq=>⟨fQ.refl w,gP.refl _ _,.inl ⟨D,l,H,hq,p⟩⟩;split at h;exact wp_skip (J _ (λ_ e=>by cases e) h);exact wp_label (J _ (λ_ e=>by cases e) h);exact wp_exit (J _ (λ_ e=>by cases e) h);exact wp_ret (J _ (λ_ e=>by cases e) h);rename_i id O;refine wp_mono (wp_region ?_) (λe A u hq=>Ec H hq);have:=rY (a0:=a) (w0:=w) O.toList 0 l a w bt H (fQ.refl w) (gP.refl _ _) h;rw[List.range_eq_range'];rw[Array.length_toList]at this;exact this;exact h.elim
 | .jW kb m',c,Q,D,l,a,w,H,h=>by unfold vo at h;split at h;rename_i id O;split at h;rename_i U;obtain⟨h1,h2⟩:=vi U H h;refine wp_mono (wp_region_any h1 h2) (λe A u hq=>Ec (Q:=Q) H ?_);rcases hq with⟨e,y,m,q1,⟨rfl,q2⟩,q3⟩|hq;exact .inl ⟨e,_,m,q1,q2,q3⟩;exact .inr hq;exact h.elim;exact h.elim
 | .seq x b',c,Q,D,l,a,w,H,h=>by
  unfold vo at h;split at h;rename_i c G;have hW: ∀T,T∈writes c->T∈writes (.seq c G):=λT z=>dY _ z;refine wp_seq (wp_mono (pY x c _ D l a w H h) ?_);rintro e A u hq;have hq:=zH hW hq;obtain⟨q,b,⟨y,m,s,hq,p⟩|⟨y,m,v,s,rfl,hE⟩⟩:=hq;cases e with
  |normal=>exact wp_mono (pY b' G Q y m A u s hq) (λe2 a2 w2 i'=>OD q b (zH (λT z=>dy _ z) i'))
  |panic C=>grind
  |_=>exact⟨q,b,.inl ⟨y,m,s,hq,p⟩⟩
  exact⟨q,b,.inr ⟨y,m,v,s,rfl,hE⟩⟩;exact h.elim
 | .cond x b',c,Q,D,l,a,w,H,h=>by
  unfold vo at h;split at h;rename_i k c G;split at h;rename_i l' hq;have p:=H.fits _ _ hq;split at h;rename_i z;subst z;exact wp_cond_true p (wp_mono (pY x c Q D l a w H h) (λ_ _ _=>zH λT z=>dY _ z));rename_i z;have z:l'=false:=by simpa using z
  subst z;exact wp_cond_false p (wp_mono (pY b' G Q D l a w H h) (λ_ _ _=>zH λT z=>dy _ z));exact h.elim;exact h.elim
 | .block x,c,Q,D,l,a,w,H,h=>by
  unfold vo at h;split at h;rename_i id c;refine wp_block (wp_mono (pY x c _ D l a w H h) ?_);rintro e A u ⟨q,b,⟨y,m,s,hq,p⟩|⟨y,m,v,s,rfl,hE⟩⟩;cases e with
  |exit a'=>
   simp only[Exit.inBlock];simp only[QI]at hq;by_cases hid:a'=id;subst hid;simp only[Nat.beq_refl]at hq;rw[ag rfl];exact⟨q,b,.inl ⟨y,m,s,hq,λ_ e=>by cases e⟩⟩;rw[af hid];have:Nat.beq a' id=false:=by cases U:Nat.beq a' id;rfl;exact absurd (cT U) hid
   rw[this]at hq;exact⟨q,b,.inl ⟨y,m,s,hq,p⟩⟩
  |panic C=>exact absurd rfl (p C)
  |_=>exact⟨q,b,.inl ⟨y,m,s,hq,p⟩⟩
  exact⟨q,b,.inr ⟨y,m,v,s,rfl,hE⟩⟩;exact h.elim
 | .loop L x,c,Q,D,l,a,w,H,h=>by
  unfold vo at h;split at h;rename_i c;obtain⟨I,μ,h0,j'⟩:=h;refine wp_loop (λA u=> ∃m,kq n D m A/\nK False L I m (λf=>f u.heap)/\fQ w u/\gP (writes c) a A)
   (λA u=>nK 0 L μ (vj A) (λf=>f u.heap)) ⟨l,H,h0,fQ.refl w,gP.refl _ _⟩ ?_
  rintro A u ⟨m,s,hI,q,b⟩;obtain⟨K,hF,X,hL,_⟩:=zB L _ I j' hI;have f':=kq.rZ H s b X;have d':nK False L I K (λf=>f u.heap):=by rw[oG L I hL];exact hI
  have hd:=hF u.heap d';refine wp_mono (pY x c _ D K A u f' hd) ?_;rintro e a1 w1 ⟨V,Z,⟨S,M,B,hq,p⟩|⟨S,M,v,B,rfl,hE⟩⟩;cases e with
  |normal=>obtain⟨rfl,e',h'⟩:=hq;refine⟨⟨M,B,e',q.trans V,b.trans Z⟩,?_⟩;have ev: ∀c':Act,vj { c' with defers:= [] } =vj c':=λ_=>rfl;rw[<-ev a1,<-ev A,lL B.bare (oy L I e'),lL f'.bare (oy L I d')];exact h'
  |panic C=>exact absurd rfl (p C)
  |_=>exact⟨q.trans V,b.trans Z,.inl ⟨S,M,B,hq,p⟩⟩
  exact⟨q.trans V,b.trans Z,.inr ⟨S,M,v,B,rfl,hE⟩⟩;exact h.elim
 | .join L x,c,Q,D,l,a,w,H,h=>by
  unfold vo at h;unfold aB at h;refine wp_mono (pY x c _ D l a w H h) ?_;rintro e A u ⟨q,b,⟨y,m,s,hq,p⟩|hE⟩;cases e with
  |normal=>obtain⟨rfl,hq⟩:=hq;obtain⟨K,hQ,X⟩:=zA L _ hq;exact⟨q,b,.inl ⟨_,K,kq.rZ H s b X,hQ,p⟩⟩
  |panic C=>exact absurd rfl (p C)
  |_=>exact⟨q,b,.inl ⟨y,m,s,hq,p⟩⟩
  exact⟨q,b,.inr hE⟩
 | .scope _ _ _ _,_,_,_,_,_,_,_,h=>by unfold vo at h;exact h.elim
def CB:Option Value->FrameMode
 |none=> .returning
 |some v=> .panicking (ring v)
def vp(P:Program)(G:FuncId)(args:Array Value)(r:Option Value)(h:aA)(K:Option Value->dw):Prop:=
 ∀w:World,w.heap=h->CallsD P G args (CB r) w λe u k=>(∃v,e=.returned v)/\fQ w k/\∃b,settle u=CB b/\K b k.heap
def QJ(b:dw)(E:fp):Option Value->dw
 |none,h=>b h
 |some v,h=>E v h
def Ed(P:Program)(l:List ResultVar)(R E:fp):List Deferred->Option Value->Env->dw
 | [],none,b,h=>ui P l b h λV=>R (vm V) h
 | [],some v,_,h=>E v h
 | [k],r,b,h=>(match k.target with
  | .fn (.func G) cap=>(match ou P G with
   |true=>vp P G (k.args.toList++cap.toList).toArray r h (QJ (λH=>ui P l b H λV=>R (vm V) H) E)
   |false=>False)
  |_=>False)
 |_::_::_,_,_,_=>False
def Tn{b:Env}(k:kq n D b a)(H:ui P d.results.toList b h λV=>F (vm V)): ∃v,F v/\rd P (results d a.tmps) h=some v:=
 sc (a:= { a with defers:= [] }) k.bare H
theorem Km{E:fp}{q:Env}(K:kq n D q a)(k:fQ g w)(h:Ed P d.results.toList R E D r q w.heap):
  Leaves P d a.tmps (λe b=>fQ g b/\((∃v,e=.returned v/\R v b.heap)\/∃v,e=.panicked (ring v)/\E v b.heap)) D (CB r) w:=by
 have s: ∀(r:Option Value)(w:World),fQ g w->(match r with|none=>ui P d.results.toList q w.heap λV=>R (vm V) w.heap|some v=>E v w.heap)->
   Leaves P d a.tmps (λe b=>fQ g b/\((∃v,e=.returned v/\R v b.heap)\/∃v,e=.panicked (ring v)/\E v b.heap)) [] (CB r) w:=by
  intro r w k h;cases r with
  |none=>have⟨v,m,p⟩:=Tn (F:=λv=>R v w.heap) K h;exact⟨v,x7 _ _ _ p,k,.inl ⟨v,rfl,m⟩⟩
  |some v=>exact⟨k,.inr ⟨v,rfl,h⟩⟩
 match D,h with
 | [],h=>refine s r w k ?_;cases r<;>exact h
 | [l],h=>
  simp only[Ed]at h;split at h;rename_i G cap u;split at h;rename_i H;refine⟨by cases r<;>simp[CB],.func G,cap,G,(l.args.toList++cap.toList).toArray,u,?_,?_⟩;rw[u];unfold ou at H;split at H;rename_i y I;simp only[aZ,fI]at H;have J:y.body.isNone=false:=by simp_all
  have e:l.args++cap=(l.args.toList++cap.toList).toArray:=bt
  rw[<-e];refine x7 _ _ _ ?_;show rd P (match P.funcs[G]? with|none=>_|some d=>_) w.heap=_;rw[I];simp only[H.2,J,az,aY];rfl;cases H;intro c C M;obtain⟨e,U,b,z,⟨⟨v,rfl⟩,L,x,m,p⟩,B⟩:=h w rfl c C M;refine⟨_,U,b,z,?_,B⟩;show Leaves P d a.tmps _ [] (settle U) b;rw[m];exact s x b (k.trans L) (by cases x<;>exact p);grind;exact h.elim
 |_::_::_,h=>exact h.elim
def XC(P:Program)(k:Array ResultVar)(R E:fp):Exit->List Deferred->Env->dw
 | .normal,D,b,h=>Ed P k.toList R E D none b h
 | .ret,D,b,h=>Ed P k.toList R E D none b h
 |_,_,_,_=>False
theorem jc{E:fp}(p:pH)(G:List Nat)(B:P.funcs[f]? =some d)(z:d.body.isSome=true)(x:Nat.ble args.length d.ntmps=true)(u:vo P G d.ntmps (λD m v h=>Ed P d.results.toList R E D (some v) m h) p (qp d) (XC P d.results R E) [] (mb args) h):jm P f args.toArray h R E:=by
 have⟨c,s⟩:=dL.1 z;rw[qp,s]at u;intro w C;subst C;have x:=Nat.le_of_ble_eq_true x;refine calls_of_wp_defers B s ?_;have H:kq d.ntmps [] (mb args) { tmps:=args.toArray++Array.replicate (d.ntmps - args.toArray.size) undef,defers:= [] } :=by refine⟨by grind,λT v k=> ?_,rfl⟩;unfold mb at k;have K:=(aJ.1 k).1;simp only[eU];rw[dU ae];simp[k]
 refine wp_mono (pY p c _ _ _ _ w H u) ?_;rintro e a L ⟨y,_,⟨D,m,H,b,J⟩|⟨D,m,v,H,rfl,q⟩⟩;cases e with
 |exit id=>exact b.elim
 |goto l=>exact b.elim
 |panic I=>grind
 |outgrown=>exact b.elim
 |_=>rw[<-H.defs]at b H;exact Km H y b
 rw[<-H.defs]at q H;exact Km H y q
inductive RS where
 |calm
 |To (v:Value)
 |done (v:Value)
def RS.mode:RS->FrameMode
 | .calm=> .returning
 | .To v=> .panicking (ring v)
 | .done v=> .panicking [{ v,recovered:=true }]
def RS.left:RS->Option Value
 | .To v=>some v
 |_=>none
def RS.of:Option Value->RS
 |none=> .calm
 |some v=> .To v
def RS.settle(b:RS):settle b.mode=CB b.left:=by cases b<;>rfl
def RS.Tp(r:Option Value):(RS.of r).mode=CB r:=by cases r<;>rfl
def isRec(o:Oper):Bool:=match o.op with
 | .call { callee:=.builtin .recover,args:=_,argTypes:=_ } =>true
 |_=>false
def OE{b:Operand->Value}(h:isRec o=true):(execOp b o).run P w=.ok .recover w:=by unfold isRec at h;split at h;rename_i H;unfold execOp;rw[H];rfl;cases h
def Mc(P:Program)(o:Oper)(b:Env)(h:aA)(K:fp):Prop:=
 match o.op with
 | .typeAssert x X k l=>(match b.ev x with
  |some v=>bM P (Instr.typeAssert v X k l) h K
  |none=>False)
 |_=>Cw P o b h K
theorem OF{l:Env}{k:Operand->Value}{K:fp}(b:Fits l k)(H:Mc P o l h K):rV P o k h K:=by unfold Mc at H;split at H;rename_i x X q s m;split at H;rename_i v p;unfold rV execOp;rw[m];simp only[b _ _ p];rw[fu];exact H;grind;exact qI b H
def ky(P:Program)(n:Nat)(O:Array Oper)(t:List (Nat×Sh)):List Oper->RS->Env->aA->(RS->Env->dw)->Prop
 | [],m,b,h,K=>K m b h
 |o::l,m,b,h,K=>(match isRec o with
  |true=>oP O o b
   (λb=>(match m with
    | .To v=>mK n b o.dst v λk=>ky P n O t l (.done v) k h K
    | .calm=>mK n b o.dst .nilIface λk=>ky P n O t l .calm k h K
    | .done v=>mK n b o.dst .nilIface λk=>ky P n O t l (.done v) k h K))
   (λb=>mK n b o.dst undef λk=>ky P n O t l m k h K)
  |false=>oP O o b
   (λb=>Mc P o b h λv H=>Kg t o.dst v λv=>mK n b o.dst v λk=>ky P n O t l m k H K)
   (λb=>mK n b o.dst undef λk=>ky P n O t l m k h K))
def Wn(n:Nat)(i:Act)(g:World)(j:List Nat)(c0:Frame)(cs0:List Frame)(Q:Exit->RS->Env->dw):Exit->Act->List Frame->World->Prop:=
 λe a C w=> ∃b k,C= { c0 with mode:=b.mode } ::cs0/\Rel n k a/\Q e b k w.heap/\fQ g w/\gP j i a
def QK(K:RS->Env->dw):Exit->RS->Env->dw
 | .normal=>K
 |_=>λ_ _ _=>False
theorem Ee{K:RS->Env->dw}: ∀(l:List Oper)(k:Nat)(p:RS)(s:Env)(a:Act)(w:World),
  (∀J,l[J]? =O[k+J]?)->Rel n s a->fQ g w->gP (fO O) i a->ky P n O t l p s w.heap K->wpOpsS P O (Wn n i g (fO O) c0 cs0 (QK K)) (List.range' k l.length) a ({ c0 with mode:=p.mode } ::cs0) w
 | [],k,p,s,a,w,_,u,B,G,h=>⟨p,s,rfl,u,h,B,G⟩
 |o::l,k,p,s,a,w,M,u,B,G,h=>by
  have L:=by have:=M 0;simpa using this.symm
  have U: ∀J,l[J]? =O[k+1+J]? :=λJ=>by have:=M (J+1);simpa[Nat.add_assoc,Nat.add_comm 1 J]using this
  simp only[ba,List.range'_succ,wpOpsS,L];unfold ky at h;have next: ∀{b:Env}{v:Value}{z:RS}{m:World},fQ w m->Rel n b a->(mK n b o.dst v λb=>ky P n O t l z b m.heap K)->
    wpOpsS P O (Wn n i g (fO O) c0 cs0 (QK K)) (List.range' (k+1) l.length) (a.put o.dst v) ({ c0 with mode:=z.mode } ::cs0) m:=by
   intro b v z m C H h;have⟨a',V,S⟩:=zC H h;exact Ee l (k+1) z a' _ m U V (B.trans C) (G.trans (gP.put (iF L))) S
  split at h
  .rename_i X;rcases wZ u h with⟨q,b,H,h⟩|⟨q,b,H,h⟩
   .rw[ag q,OE X];cases p with
    |_=>exact next (fQ.refl w) H h
   .rw[af (by grind)];exact next (fQ.refl w) H h
  .rcases wZ u h with⟨q,b,H,h⟩|⟨q,b,H,h⟩
   .rw[ag q];have⟨x,m,Z,y,I⟩:=oq _ _ _ (OF H.fits h) w rfl;rw[Z];cases x with
    |value v=>exact next I H (vh (F:=λv=>mK n b o.dst v λb=>ky P n O t l p b m.heap K) y)
    |skip=>exact next I H (vh (F:=λv=>mK n b o.dst v λb=>ky P n O t l p b m.heap K) y)
    |enter f args=>refine(y m rfl).mono ?_;rintro e b' ⟨v,rfl,T,C⟩;exact next (I.trans C) H (vh T)
    |_=>exact y.elim
   .rw[af (by grind)];exact next (fQ.refl w) H h
def thenS(K:RS->Env->dw)(Q:Exit->RS->Env->dw):Exit->RS->Env->dw
 | .normal=>K
 |e=>Q e
def Md(P:Program)(n:Nat):pH->Code->(Exit->RS->Env->dw)->RS->Env->dw
 | .seq a b,c,Q,k,l,h=>(match c with
  | .seq c p=>Md P n a c (thenS (λq m H=>Md P n b p Q q m H) Q) k l h
  |_=>False)
 | .typed t,c,Q,k,l,h=>(match c with
  | .region _ O false=>ky P n O t O.toList k l h (Q .normal)
  |_=>False)
 | .leaf,c,Q,k,l,h=>(match c with
  | .region _ O false=>ky P n O [] O.toList k l h (Q .normal)
  |c=>den P n .leaf none c (λe m H=>Q e k m H) l h)
 |YT,c,Q,k,l,h=>den P n YT none c (λe m H=>Q e k m H) l h
theorem Tq : ∀(q:pH)(c:Code)(Q:Exit->RS->Env->dw)(l:RS)(m:Env)(a:Act)(w:World),Rel n m a->Md P n q c Q l m w.heap->
  c.wpS P (Wn n a w (writes c) c0 cs0 Q) a ({ c0 with mode:=l.mode } ::cs0) w:=by
 have M: ∀{c:Code}{Q J:Exit->Act->List Frame->World->Prop}{a:Act}{C:List Frame}{w:World},c.wpS P Q a C w->(∀e a C w,Q e a C w->J e a C w)->c.wpS P J a C w:=
  λh x b k Z H=>let ⟨e,A,z,u,h',i'⟩:=h b k Z H;⟨e,A,z,u,x _ _ _ _ h',i'⟩
 have g': ∀(q:pH)(c:Code)(Q:Exit->RS->Env->dw)(l:RS)(m:Env)(a:Act)(w:World),Rel n m a->den P n q none c (λe p X=>Q e l p X) m w.heap->
   c.wpS P (Wn n a w (writes c) c0 cs0 Q) a ({ c0 with mode:=l.mode } ::cs0) w:=λq c Q l m a w H h=>
  wpS_of_wp (wp_mono (ma q none c _ m a w H h).wp λe A u ⟨p,s,B,v,G⟩=>⟨l,p,rfl,s,B,v,G⟩)
 have region: ∀(id:Nat)(O:Array Oper)(t:List (Nat×Sh))(Q:Exit->RS->Env->dw)(l:RS)(m:Env)(a:Act)(w:World),Rel n m a->ky P n O t O.toList l m w.heap (Q .normal)->
   (Code.region id O false).wpS P (Wn n a w (fO O) c0 cs0 Q) a ({ c0 with mode:=l.mode } ::cs0) w:=λid O t Q l m a w H h=>by
  refine M (wpS_region (Q:=Wn n a w (fO O) c0 cs0 (QK (Q .normal))) ?_) ?_;have:=Ee (c0:=c0) (cs0:=cs0) O.toList 0 l m a w bt H (fQ.refl w) (gP.refl _ _) h;rw[List.range_eq_range'];exact this;rintro e A z u ⟨y,p,s,B,v,G⟩;cases e with
  |normal=>exact⟨y,p,s,B,v,G⟩
  |_=>exact v.elim
 intro q;induction q with
 |seq m' n' e' f'=>
  intro c Q l m a w H h;unfold Md at h;split at h;rename_i c K;have L: ∀T,T∈writes c->T∈writes (.seq c K):=λT I=>dY _ I;refine wpS_seq (M (e' c _ l m a w H h) ?_);rintro e A z u ⟨y,p,rfl,S,x,U,V⟩;cases e with
  |normal=>refine M (f' K Q y p A u S x) ?_;rintro e2 a2 l' w2 ⟨j',k',s,b',a',c',d'⟩;exact⟨j',k',s,b',a',U.trans c',(V.mono L).trans (d'.mono λT I=>dy _ I)⟩
  |_=>exact⟨y,p,rfl,S,x,U,V.mono L⟩
  grind
 |typed t=>intro c Q l m a w H h;unfold Md at h;split at h;exact region _ _ t Q l m a w H h;grind
 |leaf=>intro c Q l m a w H h;unfold Md at h;split at h;exact region _ _ [] Q l m a w H h;grind
 |_=>exact λc Q l m a w H h=>g' _ c Q l m a w H h
def XD(P:Program)(l:Array ResultVar)(K:Option Value->dw):Exit->RS->Env->dw
 | .normal,b,k,h=>ui P l.toList k h λ_=>K b.left h
 | .ret,b,k,h=>ui P l.toList k h λ_=>K b.left h
 |_,_,_,_=>False
theorem vq{K:Option Value->dw}(s:pH)(T:P.funcs[f]? =some d)(H:d.body.isSome=true)(z:Nat.ble args.length d.ntmps=true)(y:Md P d.ntmps s (qp d) (XD P d.results K) (RS.of r) (mb args) h):vp P f args.toArray r h K:=by
 have⟨c,x⟩:=dL.1 H;rw[qp,x]at y;intro w hw;subst hw;have z:=Nat.le_of_ble_eq_true z;refine callsD_of_wpS T x λc0 C X=> ?_;have J:c0= { c0 with mode:=(RS.of r).mode } :=by rw[RS.Tp,<-X]
 have Z:Rel d.ntmps (mb args) { tmps:=args.toArray++Array.replicate (d.ntmps - args.toArray.size) undef,defers:= [] } :=by refine⟨rfl,by grind,λd' v q=> ?_⟩;unfold mb at q;have c':=(aJ.1 q).1;simp only[eU];rw[dU ae];simp[q]
 have G:=Tq (c0:=c0) (cs0:=C) s c _ (RS.of r) _ _ w Z y;rw[<-J]at G;intro b k H a';obtain⟨e,A,b',l,⟨m,σ,rfl,B,p,hs,_⟩,S⟩:=G b k H a';refine⟨e,A,_,l,?_,S⟩;have u:(ui P d.results.toList σ l.heap λ_=>K m.left l.heap)->A.defers= []/\∃U,({ c0 with mode:=m.mode } ::C)= { c0 with mode:=U } ::C/\∃v,(results d A.tmps).run P l=.ok v l/\(∃v',Ending.returned v=.returned v')/\fQ w l/\∃I,Go.settle U=CB I/\K I l.heap:=λV=>by have⟨v,L,M⟩:=sc (F:=λ_=>K m.left l.heap) B V;exact⟨B.defers,m.mode,rfl,v,x7 _ _ _ M,⟨v,rfl⟩,hs,m.left,RS.settle m,L⟩
 cases e with
 |normal=>exact u p
 |ret=>exact u p
 |_=>exact p.elim

end
end Go.Den
namespace Go.Den
def lM{h:aA}{b i:Nat}{c:Array Value}{t:TypeId}{f:Nat×Nat}(H:h[b]? =some (.C c t f)):aU h (AA b i)=c[i]? :=by simp[aU,H]
def nj{h:aA}{b i:Nat}{c:Array Value}{t:TypeId}(H:h[b]? =some (.C c t (0,0))):rT h (AA b i)=false:=by simp[rT,H]
theorem Ef{h:aA}{a:Addr}{v:Value}(H:aU h a=some v): ∃c t f,h[a.block]? =some (.C c t f)/\a.spot=none/\c[a.off]? =some v:=by unfold aU at H;split at H;simp_all;cases H
def aD{h:aA}{b:Nat}{o:Obj}(H:h[b]? =some o):b<h.size:=(Array.getElem?_eq_some_iff.1 H).1
theorem Eh{h:aA}{b:Nat}{o x:Obj}(H:h[b]? =some o):(h.push x)[b]? =some o:=by grind
def bR{h:aA}{x:Obj}:(h.push x)[h.size]? =some x:=bt
def AW{h:aA}{b i:Nat}{c:Array Value}{t:TypeId}{f:Nat×Nat}{v:Value}(H:h[b]? =some (.C c t f)):(rU h (AA b i) v)[b]? =some (.C (c.setIfInBounds i v) t f):=by simp[rU,dD,H]
def yd{h:aA}{a:Addr}{b:Nat}{v:Value}(H:b≠a.block):(rU h a v)[b]? =h[b]? :=by simp[rU,dD,Ne.symm H]
def Hf{h:aA}{a:Addr}{v:Value}:(rU h a v).size=h.size:=by simp[rU]
theorem iP(b o n:Nat):((AA b o):Addr).add n=(AA b (o+n)):=by unfold Addr.add;split;grind;rfl
theorem add_add(a:Addr)(m n:Nat):(a.add m).add n=a.add (m+n):=by unfold Addr.add;split;grind;grind
def Fr(S:gF)(h H:aA):Prop:=h.size<=H.size/\∀c,c<h.size->¬S c->H[c]? =h[c]?
def Fr.refl(S:gF)(h:aA):Fr S h h:=⟨bu _,λ_ _ _=>rfl⟩
def Fr.get{S:gF}{h H:aA}(b:Fr S h H){c:Nat}{o:Obj}(a:h[c]? =some o)(d: ¬S c):H[c]? =some o:=
 (b.2 c (aD a) d).trans a
def Fr.trans{S s S'':gF}{h d e:aA}(a:Fr S h d)(f:Fr s d e)(i: ∀c,c<h.size->S c->S'' c)(j: ∀c,c<h.size->s c->S'' c):Fr S'' h e:=
 ⟨cD a.1 f.1,λc H g=>(f.2 c (bX H a.1) (λb=>g (j c H b))).trans (a.2 c H (λb=>g (i c H b)))⟩
def Fr.mono{S s:gF}{h H:aA}(b:Fr S h H)(f: ∀c,c<h.size->S c->s c):Fr s h H:=
 ⟨b.1,λc a d=>b.2 c a (λe=>d (f c a e))⟩
theorem Fr.push{S:gF}(h:aA)(o:Obj):Fr S h (h.push o):=
 ⟨bt,λc H _=>by grind⟩
def Fr.cell{S:gF}{h H:aA}(e:Fr S h H){a:Addr}{v:Value}(d:aU h a=some v)(g: ¬S a.block):aU H a=some v:=by have⟨c,t,f,b,i,j⟩:=Ef d;have:=e.get b g;unfold aU;rw[this];simp[i,j]
def jX(l:List (Int×Value))(k:Int):Option Value:=(l.find? (·.1==k)).map (·.2)
def Kn(l:List (Int×Value))(k:Int)(v:Value):List (Int×Value):=if(jX l k).isSome=true then l.map (λe=>if e.1==k then(k,v)else e)else l++ [(k,v)]
def AX(l:List (Int×Value))(k:Int):List (Int×Value):=l.filter (λe=> !(e.1==k))
def QL(k:Int):jX [] k=none:=rfl
def iz(e:Int×Value)(l:List (Int×Value))(k:Int):jX (e::l) k=if e.1=k then some e.2 else jX l k:=by unfold jX;by_cases h:e.1=k<;>simp[h]
theorem Ko{l:List (Int×Value)}{k:Int}:(jX l k).isSome=true↔k∈l.map (·.1):=by
 induction l with
 |nil=>simp[jX]
 |cons e l i=>rw[iz,cp,bG];by_cases h:e.1=k;simp[h];grind
theorem Ei(l:List (Int×Value))(k K:Int)(v:Value)(H:K≠k):jX (l.map (λe=>if e.1==k then(k,v)else e)) K=jX l K:=by
 induction l with
 |nil=>rfl
 |cons e l i=>rw[cp,iz,iz,i];by_cases h:e.1=k;grind;simp[h]
def Gy(l:List (Int×Value))(k:Int)(v:Value)(H:(jX l k).isSome=true):jX (l.map (λe=>if e.1==k then(k,v)else e)) k=some v:=by
 induction l with
 |nil=>simp[jX]at H
 |cons e l i=>
  rw[cp,iz];by_cases h:e.1=k;simp[h];rw[iz,af h]at H;have a:(e.1==k)=false:=by simp[h]
  rw[a];simp only[az,aY,af h];exact i H
def Kq(l L:List (Int×Value))(k:Int):jX (l++L) k=(jX l k).or (jX L k):=by
 induction l with
 |nil=>rfl
 |cons e l i=>rw[dC,iz,iz,i];by_cases h:e.1=k<;>simp[h]
theorem OG(l:List (Int×Value))(k K:Int)(v:Value):jX (Kn l k v) K=if K=k then some v else jX l K:=by
 unfold Kn;by_cases H:(jX l k).isSome=true;rw[ag H];by_cases h:K=k;subst h;rw[ag rfl,Gy _ _ _ H];rw[af h,Ei _ _ _ _ h];rw[af H,Kq,iz,QL];have a:jX l k=none:=by simp_all
 by_cases h:K=k;grind;grind
theorem OH(l:List (Int×Value))(k K:Int):jX (AX l k) K=if K=k then none else jX l K:=by
 unfold AX;induction l with
 |nil=>simp[jX]
 |cons e l i=>
  rw[di,iz];by_cases h:e.1=k;grind;have H:(!(e.1==k))=true:=by simp[h]
  rw[ag H,iz,i];by_cases a:K=k;grind;simp[a]
theorem OI(l:List (Int×Value))(k:Int)(v:Value)(H:(l.map (·.1)).Nodup):((Kn l k v).map (·.1)).Nodup:=by unfold Kn;by_cases h:(jX l k).isSome=true;grind;rw[af h,aS];rw[Ko]at h;rw[ft];exact⟨H,bt,by grind⟩
def OJ(l:List (Int×Value))(k:Int)(h:(l.map (·.1)).Nodup):((AX l k).map (·.1)).Nodup:=
 List.Sublist.nodup (gD _ da) h
def vr(h:aA)(m:Nat)(l:List (Int×Value)):Prop:=
 ∃(E:Array MapEntry)(c:Nat),h[m]? =some (.map E c)/\E.toList.map (λe=>(e.key,e.val))=l.map (λe=>(Value.int .i64 e.1,e.2))/\(l.map (·.1)).Nodup/\
  (∀e∈E.toList,e.born<c)/\(E.toList.map (·.born)).Nodup
def pI(h:aA)(m:Nat)(f:Int->Option Value):Prop:= ∃l,vr h m l/\∀k,jX l k=f k
def vr.oQ{h H:aA}{m:Nat}{l:List (Int×Value)}(f:vr h m l)(d:H[m]? =h[m]?):vr H m l:=by have⟨e,c,a,b⟩:=f;exact⟨e,c,d.trans a,b⟩
def vr.lt{h:aA}{m:Nat}{l:List (Int×Value)}(a:vr h m l):m<h.size:=by have⟨e,c,H,_⟩:=a;exact aD H
def vr.frame{S:gF}{h H:aA}{m:Nat}{l:List (Int×Value)}(a:vr h m l)(b:Fr S h H)(c: ¬S m):vr H m l:=
 a.oQ (b.2 m a.lt c)
def pI.oQ{h H:aA}{m:Nat}{f:Int->Option Value}(d:pI h m f)(c:H[m]? =h[m]?):pI H m f:=by have⟨l,a,b⟩:=d;exact⟨l,a.oQ c,b⟩
def pI.lt{h:aA}{m:Nat}{f:Int->Option Value}(a:pI h m f):m<h.size:=by have⟨l,H,_⟩:=a;exact H.lt
def pI.frame{S:gF}{h H:aA}{m:Nat}{f:Int->Option Value}(d:pI h m f)(c:Fr S h H)(e: ¬S m):pI H m f:=by have⟨l,a,b⟩:=d;exact⟨l,a.frame c e,b⟩
def pI.map{h:aA}{m:Nat}{f:Int->Option Value}(a:pI h m f): ∃e c,h[m]? =some (.map e c):=by have⟨l,⟨e,c,H,_⟩,_⟩:=a;exact⟨e,c,H⟩
def vr.push(h:aA):vr (h.push (.map #[] 0)) h.size []:=⟨#[],0,bR,rfl,bt,bt,bt⟩
def pI.push(h:aA):pI (h.push (.map #[] 0)) h.size (λ_=>none):=⟨[],vr.push h,λ_=>rfl⟩
theorem vt{k:Int}: ∀(E:List MapEntry)(l:List (Int×Value))(i:Nat)(d:IntKind),E.map (λe=>(e.key,e.val))=l.map (λe=>(Value.I e.1,e.2))->
  (jX l k=none->Instr.findNow (.int d) (.I k) E i=some none)/\
  (∀v,jX l k=some v->∃j,Instr.findNow (.int d) (.I k) E i=some (some (i+j,v))/\∃e,E[j]? =some e/\e.key=.I k/\e.val=v)
 | [],l,i,d,h=>by
  have:l= []:=by simp_all
  subst this;exact⟨λ_=>rfl,λv f=>by simp[jX]at f⟩
 |e::E,l,i,d,h=>by
  cases l with
  |nil=>simp at h
  |cons x l=>
   simp only[cp,List.cons.injEq,Prod.mk.injEq]at h;have⟨⟨o,f⟩,q⟩:=h;have I:=vt (k:=k) E l (i+1) d q;have c:Instr.sameNow (.int d) (.I k) e.key=some (k==x.1):=by rw[o];simp[Instr.sameNow]
   by_cases a:x.1=k;refine⟨(λb=>by rw[iz,ag a]at b;cases b),λv H=>⟨0,?_,e,rfl,by grind,?_⟩⟩;rw[iz,ag a]at H;simp only[cM]at H;simp[Instr.findNow,c,a,f,H];rw[iz,ag a]at H;simp only[cM]at H;rw[f,H];have p:(k==x.1)=false:=by grind
   rw[p]at c;refine⟨λb=> ?_,λv H=> ?_⟩;rw[iz,af a]at b;simp only[Instr.findNow,c];exact I.1 b;rw[iz,af a]at H;have⟨j,m,g,r,n⟩:=I.2 v H;refine⟨j+1,?_,g,by grind,n⟩;simp only[Instr.findNow,c];rw[m,show i+1+j=i+(j+1) by omega]
section
variable {P : Program}
def vu{empty:Bool}{n:Nat}{t:TypeId}{d:IntKind}{v:Value}{h:aA}(H:P.underlying t=some (.int d)):rd P (Instr.checkKey empty (n+1) t v) h=some ():=by unfold Instr.checkKey;rw[bE _ _ _ _ (bH H)];rfl
def nN{t:TypeId}{d:IntKind}{k:Int}{E:List MapEntry}{l:List (Int×Value)}{h:aA}(b:P.underlying t=some (.int d))(a:E.map (λe=>(e.key,e.val))=l.map (λe=>(Value.I e.1,e.2)))(H:jX l k=none):rd P (Instr.findKey t (.I k) E) h=some none:=by
 unfold Instr.findKey;rw[bE _ _ _ _ (bH b)];simp only[(vt E l 0 d a).1 H];rfl
def nO{t:TypeId}{d:IntKind}{k:Int}{v:Value}{E:List MapEntry}{l:List (Int×Value)}{h:aA}(f:P.underlying t=some (.int d))(c:E.map (λe=>(e.key,e.val))=l.map (λe=>(Value.I e.1,e.2)))(b:jX l k=some v): ∃j,rd P (Instr.findKey t (.I k) E) h=some (some (j,v))/\∃e,E[j]? =some e/\e.key=.I k/\e.val=v:=by
 have⟨j,H,a⟩:=(vt E l 0 d c).2 v b;refine⟨j,?_,a⟩;unfold Instr.findKey;rw[bE _ _ _ _ (bH f)];simp only[H,bj];rfl
def jT{t:TypeId}{i:TypeInfo}{z:Value}{h:aA}(H:P.info? t=some i)(a:i.zero=some z):rd P (zeroValue t) h=some z:=by unfold zeroValue;rw[bE _ _ _ _ (iU H),a];rfl
def km{r:Nat}{e:Array MapEntry}{c:Nat}{h:aA}(H:h[r]? =some (.map e c)):rd P (getObj r) h=some (.map e c):=by unfold getObj;simp only[rd,H]
structure vw (P:Program) (t:TypeId) (z:Value):Prop where
 ty: ∃k e d,P.underlying t=some (.map k e)/\P.underlying k=some (.int d)/\∃i,P.info? e=some i/\i.zero=some z
theorem vw.of{P:Program}{t:TypeId}{z:Value}(k e:TypeId)(d:IntKind)(h:P.underlying t=some (.map k e))(H:P.underlying k=some (.int d))(b:(P.info? e).bind (·.zero)=some z):vw P t z:=by
 cases a:P.info? e with
 |none=>grind
 |some i=>exact⟨k,e,d,h,H,i,a,by grind⟩
def Kr{t:TypeId}{z:Value}(T:vw P t z){h:aA}{m:Nat}{l:List (Int×Value)}(n:vr h m l)(k:Int):
  rd P (Instr.lookup t (.map (some m)) (.I k) false) h=some ((jX l k).getD z)/\
  rd P (Instr.lookup t (.map (some m)) (.I k) true) h=some (.T #[(jX l k).getD z,.B (jX l k).isSome]):=by
 have⟨K,e,d,p,H,i,g,q⟩:=T.ty;have⟨E,C,f,b,_⟩:=n;have gen: ∀o,rd P (Instr.lookup t (.map (some m)) (.I k) o) h=some (if o then .T #[(jX l k).getD z,.B (jX l k).isSome]else(jX l k).getD z):=λo=>by
  unfold Instr.lookup;rw[bE _ _ _ _ (bH p),bE _ _ _ _ (km f),bE _ _ _ _ (kP _),bE _ _ _ _ (vu H)];cases a:jX l k with
  |none=>rw[bE _ _ _ _ (nN H b a),bE _ _ _ _ (jT g q)];cases o<;>rfl
  |some v=>have⟨j,c,_⟩:=nO (h:=h) H b a;rw[bE _ _ _ _ c];cases o<;>rfl
 exact⟨gen false,gen true⟩
def Hh{t:TypeId}{z:Value}(T:vw P t z){h:aA}{m:Nat}{f:Int->Option Value}(b:pI h m f)(k:Int):
  xU P t (.map (some m)) (.I k) false h ((f k).getD z):=λd c=>by
 have⟨l,a,H⟩:=b;rw[<-H k];exact(Kr T (a.oQ c) k).1
def IU{t:TypeId}{z:Value}(T:vw P t z){h:aA}{m:Nat}{f:Int->Option Value}(b:pI h m f)(k:Int):
  xU P t (.map (some m)) (.I k) true h (.T #[(f k).getD z,.B (f k).isSome]):=λd c=>by
 have⟨l,a,H⟩:=b;rw[<-H k];exact(Kr T (a.oQ c) k).2
def bY{b c:Type}{s:Sem b}{g:b->Sem c}{h:aA}{a:b}{K:c->dw}(d:rd P s h=some a)(H:bM P (g a) h K):bM P (s>>=g) h K:=
 (fu s g K).2 (Qu s h a d _ H)
theorem Me{E:List MapEntry}{l:List (Int×Value)}{k:Int}{v:Value}{j:Nat}(d:E.map (λe=>(e.key,e.val))=l.map (λe=>(Value.I e.1,e.2)))(n:(l.map (·.1)).Nodup){e:MapEntry}(s:E[j]? =some e)(u:e.key=.I k)(f:MapEntry->MapEntry)(t: ∀e:MapEntry,(f e).key=.I k/\(f e).val=v):
  (E.modify j f).map (λe=>(e.key,e.val))=(l.map (λe=>if e.1==k then(k,v)else e)).map (λe=>(Value.I e.1,e.2)):=by
 apply fH;intro i;have g: ∀i:Nat,(E[i]?).map (λe=>(e.key,e.val))=(l[i]?).map (λe=>(Value.I e.1,e.2)):=λi=>by have:=bV (·[i]?) d;simpa using this
 cases m:l[j]? with
 |none=>grind
 |some x=>
  have o:x.1=k:=by grind
  simp only[aN,List.getElem?_modify,Option.map_map];by_cases H:j=i;grind;have h:=g i;cases b:E[i]? with
  |none=>grind
  |some r=>
   rw[b]at h;cases a:l[i]? with
   |none=>grind
   |some y=>
    rw[a]at h;simp only[eu,cM,Prod.mk.injEq]at h;have q:y.1≠k:=by
     intro p;apply H;have c:j<(l.map (·.1)).length:=by grind
     refine(eE c n).1 ?_;simp[m,a,o,p]
    simp[H,q,h.1,h.2]
def Gz{t:TypeId}{z:Value}(T:vw P t z){h:aA}{m:Nat}{l:List (Int×Value)}(U:vr h m l){k:Int}{v:Value}{K:Unit->dw}(R: ∀g,vr g m (Kn l k v)->g.size=h.size->(∀c,c≠m->g[c]? =h[c]?)->K () g):bM P (Instr.mapUpdate t (.map (some m)) (.I k) v) h K:=by
 obtain⟨kt,e,a',X,s,_⟩:=T.ty;obtain⟨E,Z,r,o,D,w,G⟩:=U;have S:=aD r;unfold Instr.mapUpdate;refine bY (bH X) ?_;simp only;refine bY (km r) ?_;simp only;refine bY (vu s) ?_;have F: ∀(d:Array MapEntry)(C:Nat),d.toList.map (λe=>(e.key,e.val))=(Kn l k v).map (λe=>(Value.I e.1,e.2))->(∀e∈d.toList,e.born<C)->(d.toList.map (·.born)).Nodup->
   bM P (setObj m (.map d C)) h K:=λd C q I J=>by
  refine⟨⟨_,r,λc e b' O=>by cases O⟩,?_⟩;refine R _ ⟨d,C,by simp[S],q,OI l k v D,I,J⟩ bt (λc M=> ?_);rw[dK,af (Ne.symm M)]
 cases n:jX l k with
 |none=>refine bY (nN s o n) ?_;simp only;refine F _ _ ?_ ?_ ?_;unfold Kn;rw[n];simp[o];intro p H;simp only[Array.toList_push,bP,bW]at H;rcases H with H|rfl;exact Nat.lt_succ_of_lt (w _ H);exact Nat.lt_succ_self _;simp only[Array.toList_push,aS,cp,List.map_nil];rw[ft];refine⟨G,bt,?_⟩;intro a L b y;simp at y;subst y;obtain⟨p,H,rfl⟩:=bh.1 L;exact Nat.ne_of_lt (w _ H)
 |some c'=>
  obtain⟨j,q,p,H,B,_⟩:=nO (h:=h) s o n;refine bY q ?_;simp only;have Q:E[j]? =some p:=by simpa using H
  have V:rd P (Instr.keyThatStays (((E[j]?).map (·.key)).getD (.I k)) (.I k)) h=some (.I k):=by
   rw[Q];simp only[eu,Option.getD_some,B];unfold Instr.keyThatStays;have:Instr.sameBits 10000 (.I k) (.I k)=true:=by unfold Instr.sameBits;simp
   rw[ag this];rfl
  refine bY V ?_;refine F _ _ ?_ ?_ ?_;unfold Kn;rw[n];simp only[Option.isSome_some,bJ];rw[Array.toList_modify];exact Me o D H B _ (λe=>⟨rfl,rfl⟩);intro e2 A;rw[Array.toList_modify]at A;obtain⟨i,f⟩:=bA A;rw[List.getElem?_modify]at f;cases u:E.toList[i]? with
  |none=>rw[u]at f;simp at f
  |some x=>rw[u]at f;have:=w x (aG u);simp only[Option.map_eq_map,eu,cM]at f;subst f;split<;>exact this
  rw[Array.toList_modify];have:(E.toList.modify j λe=> { e with key:=Value.I k,val:=v }).map (·.born)=E.toList.map (·.born):=by
   apply fH;intro i;simp only[aN,List.getElem?_modify];cases E.toList[i]? with
   |none=>rfl
   |some x=>simp only[Option.map_eq_map,eu];split<;>rfl
  rw[this];exact G
def oR{t:TypeId}{z:Value}(T:vw P t z){h:aA}{m:Nat}{f:Int->Option Value}(j:pI h m f){k:Int}{v:Value}{K:Unit->dw}(g: ∀H,pI H m (λx=>if x=k then some v else f x)->H.size=h.size->(∀c,c≠m->H[c]? =h[c]?)->K () H):bM P (Instr.mapUpdate t (.map (some m)) (.I k) v) h K:=by
 have⟨l,i,e⟩:=j;refine Gz T i λH a b d=>g H ⟨_,a,λx=> ?_⟩ b d;rw[OG,e]
theorem erase_filter{E:List MapEntry}{l:List (Int×Value)}{k:Int}(c:E.map (λe=>(e.key,e.val))=l.map (λe=>(Value.I e.1,e.2)))(h:(l.map (·.1)).Nodup):
  ∀{j:Nat}{e:MapEntry},E[j]? =some e->e.key=.I k->(E.eraseIdx j).map (λe=>(e.key,e.val))=(AX l k).map (λe=>(Value.I e.1,e.2)):=by
 induction E generalizing l with
 |nil=>simp
 |cons x E I=>
  intro j e o m;cases l with
  |nil=>simp at c
  |cons y l=>
   simp only[cp,List.cons.injEq,Prod.mk.injEq]at c;have⟨⟨f,g⟩,b⟩:=c;simp only[cp,gz]at h;have⟨d,h⟩:=h;cases j with
   |zero=>
    have H:y.1=k:=by grind
    have:AX (y::l) k=l:=by unfold AX;rw[di,af (by simp[H]),cK];intro a n;have:a.1≠k:=λe=>d (by grind);simp[this]
    rw[this];simpa using b
   |succ j=>
    have i:E[j]? =some e:=by grind
    have H:y.1≠k:=by
     intro H;apply d;have p:=bV (·[j]?) b;cases q:l[j]? with
     |none=>grind
     |some z=>grind
    have:AX (y::l) k=y::AX l k:=by unfold AX;rw[di,ag (by simp[H])]
    rw[this];simp only[List.eraseIdx_cons_succ,cp,f,g];rw[I b h i m]
def Mf{t U V:TypeId}{z:Value}(T:vw P t z){h:aA}{m:Nat}{l:List (Int×Value)}(n:vr h m l){k:Int}{K:fp}(O: ∀H,vr H m (AX l k)->H.size=h.size->(∀c,c≠m->H[c]? =h[c]?)->K (.T #[]) H):bM P (Builtin.delete_ #[t,U] V #[.map (some m),.I k]) h K:=by
 obtain⟨y,e,d,S,r,_⟩:=T.ty;obtain⟨E,C,p,g,s,w,v⟩:=n;have R:=aD p;unfold Builtin.delete_;refine bY (bH S) ?_;show bM P (do
   let __x<-getObj m
   match __x with
    |Obj.map E C=>do
     Instr.checkKey E.isEmpty 10000 y (Value.int IntKind.i64 k)
     let __do_lift<-Instr.findKey y (Value.int IntKind.i64 k) E.toList
     match __do_lift with
      |some (i,_)=>do
       setObj m (Obj.map (E.eraseIdxIfInBounds i) C)
       pure (Value.tuple #[])
      |none=>do
       setObj m (Obj.map E C)
       pure (Value.tuple #[])
    |_=>do
     stuck "delete: map expected"
     pure (Value.tuple #[])) h K
 refine bY (km p) ?_;simp only;refine bY (vu r) ?_;have F: ∀(b:Array MapEntry),b.toList.map (λe=>(e.key,e.val))=(AX l k).map (λe=>(Value.I e.1,e.2))->(∀e∈b.toList,e.born<C)->(b.toList.map (·.born)).Nodup->
   bM P (do setObj m (.map b C);pure (Value.tuple #[])) h K:=λb o B D=>by
  rw[fu];refine⟨⟨_,p,λc e f J=>by cases J⟩,?_⟩;refine O _ ⟨b,C,by simp[R],o,OJ l k s,B,D⟩ bt (λc I=> ?_);rw[dK,af (Ne.symm I)]
 cases q:jX l k with
 |none=>
  refine bY (nN r g q) ?_;refine F E ?_ w v;have:AX l k=l:=by
   unfold AX;rw[cK];intro a G;have:a.1≠k:=λe=>by have n:k∈l.map (·.1):=e▸bL G;rw[<-Ko,q]at n;cases n
   simp[this]
  rw[this];exact g
 |some u=>
  obtain⟨j,o,X,L,Q,_⟩:=nO (h:=h) r g q;refine bY o ?_;have x:List.Sublist (E.eraseIdxIfInBounds j).toList E.toList:=by rw[Array.toList_eraseIdxIfInBounds];exact List.eraseIdx_sublist _ _
  refine F _ ?_ ?_ ?_;rw[Array.toList_eraseIdxIfInBounds];exact erase_filter g s L Q;intro A M;exact w A (x.subset M);exact(x.map _).nodup v
def CC{t n o:TypeId}{z:Value}(T:vw P t z){h:aA}{m:Nat}{f:Int->Option Value}(j:pI h m f){k:Int}{K:fp}(g: ∀H,pI H m (λx=>if x=k then none else f x)->H.size=h.size->(∀c,c≠m->H[c]? =h[c]?)->K (.T #[]) H):bM P (Builtin.delete_ #[t,n] o #[.map (some m),.I k]) h K:=by
 have⟨l,i,e⟩:=j;refine Mf T i λH a b d=>g H ⟨_,a,λx=> ?_⟩ b d;rw[OH,e]
end
end Go.Den
namespace Go.Den
def gm{h:aA}{b i:Nat}{c:Array Value}{t:TypeId}{f:Nat×Nat}{v:Value}(H:h[b]? =some (.C c t f))(a:c[i]? =some v):aU h (AA b i)=some v:=by rw[lM H,a]
def bf{h:aA}{b i:Nat}{c:Array Value}{t:TypeId}{v:Value}{K:dw}(a:h[b]? =some (.C c t (0,0)))(d:i<c.size)(e: ∀H,H[b]? =some (.C (c.setIfInBounds i v) t (0,0))->H.size=h.size->(∀x,x≠b->H[x]? =h[x]?)->K H):aO h (AA b i) v K:=by
 refine⟨?_,nj a,?_⟩;rw[lM a];simp[d];rintro _ rfl;exact e _ (AW a) Hf (λx f=>yd f)
def Fr.of_eq{S:gF}{h H:aA}(d:H.size=h.size)(b: ∀c,¬S c->H[c]? =h[c]?):Fr S h H:=⟨ae,λc _ a=>b c a⟩
def dJ{n:Int}(h: -9223372036854775808<=n)(H:n<=9223372036854775807):IntKind.wrap .i64 n=n:=IntWalk.i64_in n ⟨h,H⟩
def wrap_u64{n:Int}(h:0<=n)(H:n<=18446744073709551615):IntKind.wrap .u64 n=n:=IntWalk.u64_in n ⟨h,H⟩
def wrap_u8{n:Int}(h:0<=n)(H:n<=255):IntKind.wrap .u8 n=n:=IntWalk.u8_in n ⟨h,H⟩
def Fr.kp{h H:aA}{l:List (bZ)}(f:Fr (λ_=>False) h H):Kp h H l:=λ_ _ x _ a=>f.2 x.block a id
def Fr.XE{S:gF}{h H:aA}{l:List (bZ)}(f:Fr S h H)(a: ∀p∈l,∀x,p=some x->¬S x.block):Kp h H l:=λp b x e c=>f.2 x.block c (a p b x e)
def Fr.no{h H a:aA}{S:gF}(b:Fr (λ_=>False) h H)(c:Fr S H a):Fr S h a:=b.trans c (λ_ _=>False.elim) bC
def Fr.on{h H a:aA}{S:gF}(b:Fr S h H)(c:Fr (λ_=>False) H a):Fr S h a:=b.trans c bC (λ_ _=>False.elim)
def Fr.tt{h H a:aA}{S:gF}(b:Fr S h H)(c:Fr S H a):Fr S h a:=b.trans c bC bC
def Fr.step{S:gF}{h a b:aA}(e:Fr (λ_=>False) h a)(g:Fr S a b)(f: ∀c,c<h.size->¬S c):Fr (λ_=>False) h b:=
 e.trans g (λ_ _ H=>H) (λc d H=>f c d H)
end Go.Den
namespace Go.Den
section
variable {h:aA} {n:Int}
abbrev gZ(h:aA)(a:Addr)(K:Int→Prop):Prop:= ∃t,aU h a=some (.int .u64 t)∧K t
abbrev kU(h:aA)(a:Addr)(K:Int→Prop):Prop:= ∃t,aU h a=some (.int .i64 t)∧K t
abbrev NC(h:aA)(a:Addr)(K:Int→Prop):Prop:= ∃t,aU h a=some (.int .u8 t)∧K t
abbrev ye(h:aA)(a:Addr)(K:Bool→Prop):Prop:= ∃t,aU h a=some (.bool t)∧K t
abbrev AN(h:aA)(a:Addr)(K:Option Addr→Prop):Prop:= ∃t,aU h a=some (.pointer t)∧K t
abbrev pZ(h:aA)(a:Addr)(K:ByteArray→Prop):Prop:= ∃t,aU h a=some (.string t)∧K t
abbrev lW(h:aA)(a:Addr)(K:Option Addr→Nat→Nat→Prop):Prop:= ∃p l c,aU h a=some (.slice p l c)∧K p l c
abbrev Hu(h:aA)(b i:Nat)(K:Int→Prop):Prop:= ∃t,aU h ⟨b,i,none⟩=some (.int .u64 t)∧K t
abbrev Hi(h:aA)(b i:Nat)(K:Int→Prop):Prop:= ∃t,aU h ⟨b,i,none⟩=some (.int .i64 t)∧K t
abbrev Hy(h:aA)(b i:Nat)(K:Int→Prop):Prop:= ∃t,aU h ⟨b,i,none⟩=some (.int .u8 t)∧K t
abbrev Hb(h:aA)(b i:Nat)(K:Bool→Prop):Prop:= ∃t,aU h ⟨b,i,none⟩=some (.bool t)∧K t
abbrev Hp(h:aA)(b i:Nat)(K:Option Addr→Prop):Prop:= ∃t,aU h ⟨b,i,none⟩=some (.pointer t)∧K t
abbrev Hs(h:aA)(b i:Nat)(K:ByteArray→Prop):Prop:= ∃t,aU h ⟨b,i,none⟩=some (.string t)∧K t
abbrev Hl(h:aA)(b i:Nat)(K:Option Addr→Nat→Nat→Prop):Prop:= ∃p l c,aU h ⟨b,i,none⟩=some (.slice p l c)∧K p l c
abbrev Vb(v:Value)(K:Bool→Prop):Prop:= ∃t,v=.bool t∧K t
abbrev Vi(v:Value)(K:Int→Prop):Prop:= ∃t,v=.int .i64 t∧K t
abbrev Vu(v:Value)(K:Int→Prop):Prop:= ∃t,v=.int .u64 t∧K t
abbrev Vp(v:Value)(K:Option Addr→Prop):Prop:= ∃t,v=.pointer t∧K t
abbrev Vl(v:Value)(K:Option Addr→Nat→Nat→Prop):Prop:= ∃p l c,v=.slice p l c∧K p l c
abbrev Bd(i:Int)(n:Nat):Prop:=(0:Int)≤i∧i<((n:Nat):Int)
abbrev Cc(h:aA)(b i:Nat)(v:Value):Prop:=aU h ⟨b,i,none⟩=some v
abbrev No:Nat→Prop:=λ_=>False
abbrev lf:pH:=.leaf
abbrev ll:pH:=.seq .leaf .leaf
abbrev lq(a:pH):pH:=.seq .leaf a
abbrev sq(a b:pH):pH:=.seq a b
abbrev cq(a b:pH):pH:=.cond a b
abbrev bq(a:pH):pH:=.block a
abbrev pK(n:Nat):pH:=.ob (gB n 0 .done)
abbrev pN(n:Nat):pH:=.ni (gB n 0 .done)
abbrev sI:Sh:=.one (.int .i64)
abbrev sU:Sh:=.one (.int .u64)
abbrev sB:Sh:=.one .bool
abbrev sP:Sh:=.one .ptr
abbrev sS:Sh:=.one .slice
def lO:List Nat→zD→zD
 | [],p=>p
 |i::l,p=> .op i (lO l p)
def Vw(l:List (Nat×(pH→pH)))(i:Nat)(a:pH):pH:=match l with
 | []=>a
 |(j,f)::l=>match Nat.beq i j with
  |true=>f (Vw l i a)
  |false=>Vw l i a
def sk(l:List (Nat×(pH→pH))):Code→Nat→(pH→Nat→pH×Nat)→pH×Nat
 | .seq a b,i,K=>sk l a (i+1) λx j=>sk l b j λy k=>K (Vw l i (.seq x y)) k
 | .cond _ a b,i,K=>sk l a (i+1) λx j=>sk l b j λy k=>K (Vw l i (.cond x y)) k
 | .block _ a,i,K=>sk l a (i+1) λx j=>K (Vw l i (.block x)) j
 | .loop a,i,K=>sk l a (i+1) λx j=>K (Vw l i x) j
 |_,i,K=>K (Vw l i .leaf) (i+1)
def aP{P:Program}{f:FuncId}{args:List Value}{R:Value→aA→Prop}{A:Prop}(l:List (Nat×(pH→pH)))(c:A)(H:P.funcs[f]?.isSome=true:=by kernel_rfl)(a:(P.funcs[f]?.get H).body.isSome=true:=by kernel_rfl)(b:Nat.ble args.length (P.funcs[f]?.get H).ntmps=true:=by kernel_rfl)(e:A=den P (P.funcs[f]?.get H).ntmps (sk l (qp (P.funcs[f]?.get H)) 0 Prod.mk).1 none (qp (P.funcs[f]?.get H)) (Vt P (P.funcs[f]?.get H).results R) (mb args) h:=by kernel_rfl):mJ P f args.toArray h R:=Eb _ (Option.some_get H).symm a b (Eq.mp e c)
def ai{b i:Nat}{c:Array Value}{t:TypeId}{f:Nat×Nat}(H:h[b]? =some (.cells c t f)):aU h ⟨b,i,none⟩=c[i]? :=lM H
def fc(H: -9223372036854775808≤n:=by omega)(a:n≤9223372036854775807:=by omega):IntKind.wrap .i64 n=n:=dJ H a
def vx(H:0≤n:=by omega)(a:n≤18446744073709551615:=by omega):IntKind.wrap .u64 n=n:=wrap_u64 H a
abbrev iG(h:aA)(R:Value→aA→Prop)(v:Value):Prop:= ∀H,Fr (λ_=>False) h H→R v H
abbrev pG(x:Int):BitVec (IntKind.bits .u64):=BitVec.ofInt (IntKind.bits .u64) x
abbrev uY(x:Int):BitVec (IntKind.bits .u8):=BitVec.ofInt (IntKind.bits .u8) x

end
def Row(h:aA)(p:bZ)(c:List Value):Prop:=c= []\/∃a,p=some a/\cH a c 0 h
def Row.nil{h:aA}{p:bZ}:Row h p []:=.inl rfl
theorem mc{h:aA}{a:Addr}: ∀{C:List Value}{i:Nat},cH a C i h↔ ∀j v,C[j]? =some v->aU h (a.add (i+j))=some v
 | [],i=>by simp[cH]
 |c::C,i=>by simp only[cH];rw[mc];constructor;grind;intro H;refine⟨H 0 c rfl,λj v b=> ?_⟩;have:=H (j+1) v (by grind);rwa[show i+(j+1)=i+1+j by omega]at this
def dO{h:aA}{b o:Nat}{c:Array Value}{t:TypeId}{f:Nat×Nat}{C:List Value}(H:h[b]? =some (.C c t f))(a: ∀j v,C[j]? =some v->c[o+j]? =some v):cH (AA b o) C 0 h:=by rw[mc];intro j v d;rw[bj,iP,lM H];exact a j v d
def nk{S:gF}{h H:aA}(b:Fr S h H){a:Addr}(e: ¬S a.block): ∀{c:List Value}{i:Nat},cH a c i h->cH a c i H
 | [],_,_=>trivial
 |_::_,i,d=>⟨b.cell d.1 (by unfold Addr.add;split<;>exact e),nk b e d.2⟩
def Row.frame{S:gF}{h H:aA}(b:Fr S h H){p:bZ}{c:List Value}(f:Row h p c)(e: ∀a,p=some a->¬S a.block):Row H p c:=by rcases f with rfl|⟨a,rfl,d⟩;exact .inl rfl;exact .inr ⟨a,rfl,nk b (e a rfl) d⟩
def Row.cell{h:aA}{a:Addr}{c:List Value}(d:Row h (some a) c){j:Nat}{v:Value}(H:c[j]? =some v):aU h (a.add j)=some v:=by rcases d with rfl|⟨A,e,b⟩;simp at H;cases e;have:=mc.1 b j v H;rwa[bj]at this
theorem Row.some{h:aA}{p:bZ}{c:List Value}(H:Row h p c)(b:c≠ []): ∃a,p=some a:=by rcases H with rfl|⟨a,e,_⟩;grind;grind
def Row.any{b:Type}{E:b->List Value}{n:Nat}{X:List b}{h:aA}{p:bZ}(d:Row h p (X.flatMap E))(H: ∀x,(E x).length=n+1)(c:0<X.length:=by omega): ∃a,p=Option.some a:=
 d.some (by
  cases X with
  |nil=>cases c
  |cons x X=>intro e;have:=bV List.length e;rw[fJ,aq,H]at this;simp at this)
def lP{a:Type}{l:List a}{i:Nat}(h:i<l.length): ∃x,l[i]? =some x:=⟨_,au h⟩
def OK{a:Type}(l:List a)(i:Nat)(h:i<l.length:=by omega): ∃x,l[i]? =some x:=⟨_,au h⟩
section
variable {P : Program}
theorem mV{h:aA}{q:bZ}{n cq s:Nat}{d:List Value}(b:Row h q d)(c:d.length=n*s):rd P (Builtin.firstCells s n (.L q n cq)) h=some d.toArray:=by
 cases q with
 |none=>
  have:d= []:=by rcases b with rfl|⟨a,e,_⟩;rfl;cases e
  subst this;rfl
 |some a=>
  show rd P (loadCells a (n*s)) h=_;have H:cH a d 0 h:=by rcases b with rfl|⟨A,e,H⟩;trivial;grind
  unfold loadCells;rw[<-c,jI d 0 #[] h H];simp
theorem Hj{n:Nat}: ∀(r c:Nat),c<2*n->256<=c->Builtin.growBy n r c<=2*n
 |0,c,h,_=>by unfold Builtin.growBy;omega
 |r+1,c,h,a=>by unfold Builtin.growBy;split;omega;rename_i b;by_cases H:c+(c+768)/4<2*n;exact Hj r _ H ae;grind
def nextslicecap_le{need cap:Nat}(h:cap<need):Builtin.nextslicecap need cap<=2*need:=by
 unfold Builtin.nextslicecap;split;omega;split
 omega;exact Hj 4 cap ae ae
inductive Own (h:aA) (p:bZ) (len cap sz:Nat) (cs:List Value):Prop
 |nil (hp:p=none) (hl:len=0) (hc:cap=0) (YU:cs= [])
 |row (b off:Nat) (c:Array Value) (t:TypeId) (hp:p=some ⟨b,off,none⟩) (hb:h[b]? =some (.cells c t (0,0))) (hl:len<=cap) (hc:off+cap*sz<=c.size) (hn:cs.length=len*sz) (YU: ∀j v,cs[j]? =some v->c[off+j]? =some v)
def aL(p:bZ)(c:Nat):Prop:= ∃a,p=some a/\a.block=c
theorem Own.length{h:aA}{p:bZ}{len cap s:Nat}{C:List Value}(o:Own h p len cap s C):C.length=len*s:=by
 cases o with
 |nil _ d _ a=>grind
 |row b O c t _ _ _ _ H _=>exact H
def Own.hT{h:aA}{p:bZ}{len cap s:Nat}{C:List Value}(o:Own h p len cap s C):Row h p C:=by
 cases o with
 |nil _ _ _ H=>exact .inl H
 |row b O c t d a _ _ _ H=>exact .inr ⟨_,d,dO a H⟩
def Own.frame{S:gF}{h f:aA}{p:bZ}{len cap s:Nat}{C:List Value}(o:Own h p len cap s C)(i:Fr S h f)(k: ∀c,aL p c->¬S c):Own f p len cap s C:=by
 cases o with
 |nil H e a d=>exact .nil H e a d
 |row b O c t H g e a j d=>exact .row b O c t H (i.get g (k b ⟨_,H,rfl⟩)) e a j d
theorem Own.dk{h:aA}{p:bZ}{len cap s:Nat}{C:List Value}(o:Own h p len cap s C){c:Nat}(H:aL p c):c<h.size:=by
 obtain⟨a,e,rfl⟩:=H;cases o with
 |nil d _ _ _=>grind
 |row b O c t d f _ _ _ _=>grind
theorem Own.cells{h:aA}{p:bZ}{len cap s:Nat}{C:List Value}(o:Own h p len cap s C){b:Nat}(H:aL p b): ∃c t,h[b]? =some (.C c t (0,0)):=by
 obtain⟨a,e,rfl⟩:=H;cases o with
 |nil d _ _ _=>grind
 |row b O c t d H _ _ _ _=>grind
def Own.le{h:aA}{p:bZ}{len cap s:Nat}{C:List Value}(o:Own h p len cap s C):len<=cap:=by
 cases o with
 |nil _ H a _=>omega
 |row b O c t _ _ H _ _ _=>exact H
theorem Own.some{h:aA}{p:bZ}{len cap s:Nat}{C:List Value}(o:Own h p len cap s C)(a:0<C.length): ∃b O,p=some (AA b O):=by
 cases o with
 |nil _ _ _ H=>grind
 |row b O c t d _ _ _ _ _=>grind
def Own.cell{h:aA}{a:Addr}{len cap s:Nat}{c:List Value}(o:Own h (.some a) len cap s c){j:Nat}{v:Value}(H:c[j]? =.some v):aU h (a.add j)=.some v:=o.hT.cell H
def Own.store{h:aA}{a:Addr}{len cap s:Nat}{cs:List Value}{j:Nat}{v:Value}{K:dw}(o:Own h (.some a) len cap s cs)(r:j<cs.length)(u: ∀H,Own H (.some a) len cap s (cs.set j v)->H.size=h.size->(∀x,¬aL (.some a) x->H[x]? =h[x]?)->K H):aO h (a.add j) v K:=by
 cases o with
 |nil f _ _ _=>cases f
 |row b O c t f n g p y q=>cases f;rw[iP];have A:len*s<=cap*s:=dc _ g;refine bf n ae λH k l m=>u H (.row b O _ t rfl k g (dH p) (by simpa using y) ?_) l (λx z=>m x (λe=>z ⟨_,rfl,e.symm⟩));intro i w d;rw[List.getElem?_set]at d;rw[dK];by_cases e:j=i;subst e;rw[ag rfl,ag r]at d;rw[ag rfl,gH];exact d;rw[af e]at d;rw[dz];exact q i w d
def Own.sub{h:aA}{p:bZ}{len cap sz:Nat}{C:List Value}(o:Own h p len cap sz C){l u:Nat}(m:l<=u)(n:u<=len):Own h (cE p cap l sz) (u - l) (cap - l) sz ((C.take (u*sz)).drop (l*sz)):=by
 cases o with
 |nil g d k a=>subst g d k a;refine .nil ?_ ae ae bt;unfold cE;split<;>rfl
 |row b O c t g i d k w a=>
  subst g;have M:u*sz<=len*sz:=dc _ n;have x:l*sz<=u*sz:=dc _ m;have y:len*sz<=cap*sz:=dc _ d;have q: ∀j v,((C.take (u*sz)).drop (l*sz))[j]? =.some v->c[O+l*sz+j]? =.some v:=λj v H=>by rw[fC,db]at H;split at H;have:=a _ v H;rwa[<-Nat.add_assoc]at this;cases H
  have f:((C.take (u*sz)).drop (l*sz)).length=(u - l)*sz:=by rw[cR,bT,Nat.sub_mul];omega
  have s:(cap - l)*sz=cap*sz - l*sz:=Nat.sub_mul _ _ _;unfold cE;split;rename_i e;have E:u - l=0:=ae
  refine .row b O c t rfl i ae ae f (λj v H=> ?_);have r:((C.take (u*sz)).drop (l*sz)).length=0:=by rw[f,E];simp
  rw[List.eq_nil_of_length_eq_zero r]at H;cases H;show Own h (.some (((AA b O):Addr).add (l*sz))) _ _ _ _;rw[iP];exact .row b (O+l*sz) c t rfl i ae ae f q
def mM{p:bZ}{cap l s c:Nat}(h:aL (cE p cap l s) c):aL p c:=by
 obtain⟨a,e,rfl⟩:=h;unfold cE at e;split at e;exact⟨a,e,rfl⟩;cases p with
 |none=>cases e
 |some b=>cases e;exact⟨b,rfl,by unfold Addr.add;split<;>rfl⟩
theorem yf{c:Array Value}{off:Nat}: ∀(d:List Value)(i:Nat)(h:aA)(b:Nat)(t:TypeId)(K:Unit->dw),(∀v∈d,gk v=true)->h[b]? =some (.C c t (0,0))->off+i+d.length<=c.size->
  (∀H C,H[b]? =some (.C C t (0,0))->C.size=c.size->(∀j,j<off+i\/off+i+d.length<=j->C[j]? =c[j]?)->(∀j v,d[j]? =some v->C[off+i+j]? =some v)->H.size=h.size->(∀x,x≠b->H[x]? =h[x]?)->K () H)->
  bM P (storeCells (AA b off) d i) h K
 | [],i,h,b,t,K,_,a,_,f=>by refine f h c a rfl (λ_ _=>rfl) (λj v e=>by simp at e) rfl (λ_ _=>rfl)
 |v::d,i,h,b,t,K,g,a,m,f=>by
  simp only[ba]at m;have n:off+i<c.size:=ae
  refine⟨g v dN,?_,?_,?_⟩;rw[iP,lM a];simp[n];rw[iP];exact nj a;rw[iP];refine yf d (i+1) _ b t K (λu q=>g u (bQ _ q)) (AW a) (by grind) ?_;intro H C l w s r p o;refine f H C l (by grind) (λj e=> ?_) (λj u e=> ?_) (by rw[p,Hf]) (λx k=>by rw[o x k,yd k]);grind;grind
def IW{S X ty elem T:TypeId}{i:TypeInfo}{z:Value}{h:aA}{p q:bZ}{len cap n cq:Nat}{f d:List Value}{K:fp}(hs:P.underlying S=some (.slice elem))(G:P.underlying X=some (.slice T))(r:P.info? elem=some i)(hz:i.zero=some z)(F:z.cells.size=i.size)(O:Own h p len cap i.size f)(R:Row h q d)(l:d.length=n*i.size)(h': ∀v∈d,gk v=true)(hb:(len+n)*i.bytes<=70368744177664)(m':len+n<=9223372036854775807)(A: ∀I C g,Own g I (len+n) C i.size (f++d)->Own g p len cap i.size f->Fr (aL p) h g->(∀c,aL I c->aL p c\/h.size<=c)->K (.L I (len+n) C) g):
  bM P (Builtin.append_ #[S,X] ty #[.L p len cap,.L q n cq]) h K:=by
 unfold Builtin.append_;refine bY (s:=underlying S) (bH hs) ?_;refine bY (s:=sizeOf elem) (iY r) ?_;refine bY (s:=underlying X) (bH G) ?_;refine bY (s:=(pure false:Sem Bool)) (a:=false) rfl ?_;refine bY (s:=Builtin.lenOf (.L q n cq)) (a:=n) rfl ?_;show bM P (if len+n<=cap then _ else _) h K;by_cases s:len+n<=cap;rw[ag s];refine bY (s:=Builtin.firstCells i.size n (.L q n cq)) (a:=d.toArray) (mV R l) ?_;cases O with
 |nil E B k u=>
  subst E B k u;have f':n=0:=ae
  subst f';have Z:d= []:=by simpa using l
  subst Z;exact A none 0 h (.nil rfl rfl rfl rfl) (.nil rfl rfl rfl rfl) (Fr.refl _ _) (λc ⟨a,e,_⟩=>by cases e)
 |row b o c t E V B k D u=>subst E;show bM P (storeCells (((AA b o):Addr).add (len*i.size)) d>>=λ_=>pure (.L (Sa b o) (len+n) cap)) h K;rw[iP];have d':(len+n)*i.size<=cap*i.size:=dc _ s;rw[gG]at d';rw[fu];refine yf (c:=c) (off:=o+len*i.size) d 0 h b t _ h' V ae ?_;intro g J L o' Q e' F i';show K (.L (Sa b o) (len+n) cap) g;refine A _ cap g (.row b o J t rfl L s ae (by rw[aq,D,l,gG]) ?_) (.row b o J t rfl L B ae D ?_) (Fr.of_eq F λl' G=>i' l' (λe=>G ⟨_,rfl,e.symm⟩)) (λc k=> .inl k);intro j v H;by_cases w:j<f.length;rw[fj w]at H;rw[Q _ ae];exact u j v H;rw[du ae]at H;have:=e' _ v H;rw[D]at this;rwa[show o+len*i.size+0+(j - len*i.size)=o+j by omega]at this;intro j v H;have w:j<f.length:=(aJ.1 H).1;rw[Q _ ae];exact u j v H
 rw[af s];have b':=nextslicecap_le (need:=len+n) (cap:=cap) ae;refine bY (s:=typeInfo elem) (iU r) ?_;have c': ¬(((len+n:Nat):Int)>IntKind.max .i64/\(False\/i.bytes=0)):=λk=>by have:IntKind.max .i64=9223372036854775807:=rfl;rw[this]at k;omega
 show bM P (if(((len+n:Nat):Int)>IntKind.max .i64/\(false=true\/i.bytes=0))then _ else _) h K;rw[af (dH c')];refine bY (s:=typeInfo elem) (iU r) ?_;have g': ¬(Builtin.nextslicecap (len+n) cap*i.bytes>2 ^ 48):=by have y:Builtin.nextslicecap (len+n) cap*i.bytes<=2*(len+n)*i.bytes:=dc _ b';rw[Nat.mul_assoc]at y;omega
 show bM P (if Builtin.nextslicecap (len+n) cap*i.bytes>2 ^ 48 then _ else _) h K;rw[af g'];show bM P (choose (.appendCap (len+n) cap elem)>>=_) h K;rw[fu];unfold choose;simp only[bM,Question.forced,az,aY,Question.cut];intro tq;refine bY (s:=typeInfo elem) (iU r) ?_;rw[fu];have j': ∀(m:Nat)(x:Unit->dw),x () h->bM P (askRoom m) h x:=λm x M=>by unfold askRoom;split;exact M;exact M
 refine j' _ _ ?_;refine bY (s:=Builtin.firstCells i.size len (.L p len cap)) (a:=f.toArray) (mV O.hT O.length) ?_;refine bY (s:=Builtin.firstCells i.size n (.L q n cq)) (a:=d.toArray) (mV R l) ?_;refine bY (s:=zeroValue elem) (jT r hz) ?_;generalize n':len+n+tq%(2 ^ 63 - (len+n))=C;have a':len+n<=C:=ae
 show K (.L (Sa h.size 0) (len+n) C) (h.push (.C (f.toArray++d.toArray++Builtin.zeroCells z.cells (C - (len+n))) elem));have k':(f.toArray++d.toArray++Builtin.zeroCells z.cells (C - (len+n))).size=C*i.size:=by
  have y:(Builtin.zeroCells z.cells (C - (len+n))).size=(C - (len+n))*i.size:=by simp[Builtin.zeroCells,F]
  have U:=O.length;rw[Array.size_append,Array.size_append,y];simp only[List.size_toArray];rw[U,l,<-gG,<-gG];congr 1;omega
 refine A _ C _ (.row h.size 0 _ elem rfl bR a' (by rw[k'];omega) (by rw[aq,O.length,l,gG]) ?_) (O.frame (Fr.push (S:=λ_=>False) _ _) bC) (Fr.push _ _) ?_;intro j v H;rw[bj];have w:j<(f++d).length:=(aJ.1 H).1;rw[dU (dH w)];simpa using H;rintro c ⟨a,e,rfl⟩;cases e;exact .inr (bu _)
structure pJ (P:Program) (sT elem:TypeId) (sz bytes:Nat) (z:Value):Prop where
 u:P.underlying sT=some (.slice elem)
 info:(P.info? elem).map (λi=>(i.size,i.bytes,i.zero))=some (sz,bytes,some z)
 zs:z.cells.size=sz
theorem pJ.i{S elem:TypeId}{s bytes:Nat}{z:Value}(T:pJ P S elem s bytes z): ∃i,P.info? elem=some i/\i.size=s/\i.bytes=bytes/\i.zero=some z:=by
 have:=T.info;cases h:P.info? elem with
 |none=>grind
 |some i=>grind
def dI{S x t elem eT:TypeId}{s bytes:Nat}{z:Value}{h:aA}{p q:bZ}{len cap n cq:Nat}{cs ds:List Value}{K:fp}(T:pJ P S elem s bytes z)(l:P.underlying x=some (.slice eT))(o:Own h p len cap s cs)(k:Row h q ds)(e:ds.length=n*s)(j: ∀v∈ds,gk v=true)(b:(len+n)*bytes<=70368744177664)(d:len+n<=9223372036854775807)(g: ∀a C H,Own H a (len+n) C s (cs++ds)->Own H p len cap s cs->Fr (aL p) h H->(∀c,aL a c->aL p c\/h.size<=c)->K (.L a (len+n) C) H):
  bM P (Builtin.append_ #[S,x] t #[.L p len cap,.L q n cq]) h K:=by
 obtain⟨i,f,rfl,rfl,m⟩:=T.i;exact IW T.u l f m T.zs o k e j b d g
end
section
open Go.RowKit
def uj(P:Program)(h:aA):Nat->TypeId->List Value->Prop
 |0,_,_=>False
 |n+1,t,c=>
  match P.underlying t with
  |some .bool=> ∃b,c= [.bool b]
  |some (.int k)=> ∃a,c= [.int k a]/\(Lit.int k a).wf=true
  |some .string=> ∃s,c= [.string s]/\s.size<=maxLen
  |some (.pointer e)=>c= [.pointer none]\/∃a C,c= [.pointer (some a)]/\C.length=P.cellsOf e/\cH a C 0 h/\uj P h n e C
  |some (.slice e)=>c= [.slice none 0 0]\/∃a len cap,c= [.slice (some a) len cap]/\len<=cap/\cap<=maxLen/\∀i,i<len->∃C,C.length=P.cellsOf e/\cH (a.add (i*P.cellsOf e)) C 0 h/\uj P h n e C
  |some (.struct fs)=>c.length=P.cellsOf t/\∀f∈fs.toList,uj P h n f.type ((c.drop f.offset).take (P.cellsOf f.type))
  |some (.array m e)=>c.length=P.cellsOf t/\∀i,i<m->uj P h n e ((c.drop (i*P.cellsOf e)).take (P.cellsOf e))
  |_=>True
def Ej{w:World}{b:Nat}{a:Addr}{n:Nat}{c:List Value}(h:w.cells? b a n=some c):c.length=n/\cH a c 0 w.heap:=by have⟨_,e,d⟩:=World.cells?_some h;refine⟨e,mc.2 λj v H=> ?_⟩;have f:=(aJ.1 H).1;have:=d j ae;rw[mT,H]at this;rw[bj];exact this
theorem nm{H:Type}{E:TypeId×Value->H}{P:Program}{w:World}{B:Nat}{S:Nat->Bool}{F:Bool}:
  ∀(fuel:Nat)(t:TypeId)(p:List Value)(x:DataW H×List MemPlace),DataW.trod E P w B S F fuel t p=some x->uj P w.heap fuel t p
 |0,_,_,_,h=>by simp[DataW.trod]at h
 |fuel+1,t,p,x,h=>by
  unfold uj;cases j:P.underlying t with
  |none=>trivial
  |some d=>
   cases d<;>simp only<;>first|trivial|skip
   case bool=>obtain⟨b,c,_⟩:=DataW.trod_bool j h;exact⟨b,c⟩
   case int k=>obtain⟨n,c,_,A⟩:=DataW.trod_int j h;exact⟨n,c,A⟩
   case string=>obtain⟨s,c,_,A⟩:=DataW.trod_string j h;exact⟨s,c,A⟩
   case pointer e=>
    rcases DataW.trod_pointer j h with⟨c,_⟩|⟨a,C,y,n,z,c,_,aU,L⟩;exact .inl c;obtain⟨l,r⟩:=Ej aU;obtain rfl:n=fuel:=ae
    exact .inr ⟨a,C,c,l,r,nm n e C y L⟩
   case slice e=>
    rcases DataW.trod_slice j h with⟨c,_⟩|⟨a,len,cap,M,R,n,z,c,_,_,l,u,O,D,_⟩;exact .inl c;obtain rfl:n=fuel:=ae
    refine .inr ⟨a,len,cap,c,l,u,λi o=> ?_⟩;have g:=D i o;rw[au ae]at g;cases aU:w.cells? B (a.add (i*P.cellsOf e)) (P.cellsOf e)with
    |none=>grind
    |some C=>rw[aU]at g;obtain⟨I,r⟩:=Ej aU;exact⟨C,I,r,nm n e C _ g⟩
   case struct fs=>
    obtain⟨X,n,z,_,l,K,q⟩:=DataW.trod_struct j h;obtain rfl:n=fuel:=ae
    refine⟨l,λf u=> ?_⟩;obtain⟨i,o⟩:=bA u;have G:fs[i]? =some f:=by simpa using o
    have g:=q i f G;have J:i<X.length:=by grind
    rw[au J]at g;exact nm n _ _ _ g
   case array m e=>
    obtain⟨X,n,z,_,l,K,q⟩:=DataW.trod_array j h;obtain rfl:n=fuel:=ae
    refine⟨l,λi o=> ?_⟩;have g:=q i o;rw[au ae]at g;exact nm n _ _ _ g
def vy(P:Program)(h:aA)(t:TypeId)(v:Value):Prop:= ∃n,uj P h n t v.cells.toList
def vy.of{H:Type}{e:TypeId×Value->H}{P:Program}{w:World}{b:Nat}{s:Nat->Bool}{a:Bool}{t:TypeId}{v:Value}{d:DataW H}{p:List MemPlace}(h:DataW.Trod e P w b s a t v d p):vy P w.heap t v:=by
 have⟨n,c⟩:=h;exact⟨n,nm n _ _ _ c⟩
def QM{w a:World}(b:Fr (λ_=>False) w.heap a.heap)(H:fQ w a):Below w.heap.size w a:=
 ⟨H.1,H.2.2,H.2.1,b.1,λk c=>b.2 k c id⟩
def QN(P:Program)(f:FuncId)(args:Array Value)(h:aA):Prop:=mJ P f args h (λv H=>v=.bool true/\Fr (λ_=>False) h H)
theorem QN.calls{P:Program}{f:FuncId}{args:Array Value}{w:World}(a:QN P f args w.heap):Calls P f args w λe c=>e=.returned (.B true)/\Below w.heap.size w c:=
 (a w rfl).mono λ_ _ ⟨_,d,⟨g,H⟩,b⟩=>⟨by grind,QM H b⟩
theorem wf_u64{a : Int}(h : (Lit.int .u64 a).wf = true): 0 ≤ a ∧ a ≤ 18446744073709551615 := by
  simpa [Lit.wf, IntKind.min, IntKind.max, IntKind.bits, IntKind.signed] using h
def wf_u8{a:Int}(h:(Lit.int .u8 a).wf=true):0<=a/\a<=255:=by simpa[Lit.wf,IntKind.min,IntKind.max,IntKind.bits,IntKind.signed]using h
section
variable {P : Program} {h : aA} {t : TypeId} {v : Value}
def vy.int{k:IntKind}(d:P.underlying t=some (.int k))(e:vy P h t v)(c: ∀a,v.cells.toList= [.int k a]->v=.int k a): ∃a,v=.int k a/\(Lit.int k a).wf=true:=by
 have⟨n,H⟩:=e;cases n with
 |zero=>exact H.elim
 |succ n=>unfold uj at H;rw[d]at H;have⟨a,b,f⟩:=H;exact⟨a,c a b,f⟩
theorem IX{h:aA}{a:Addr}{c d:List Value}:cH a (c++d) 0 h↔cH a c 0 h/\cH (a.add c.length) d 0 h:=by simp only[mc,bj];constructor;intro b;refine⟨λj v H=>b j v ?_,λj v H=> ?_⟩;grind;rw[add_add];refine b _ v ?_;rw[du ae];simpa using H;rintro⟨f,e⟩ j v H;by_cases g:j<c.length;grind;rw[du ae]at H;have:=e _ v H;rw[add_add]at this;rwa[show c.length+(j - c.length)=j by omega]at this
def iH{a:Type}(e:a->List Value)(s:Nat)(H: ∀x,(e x).length=s): ∀X:List a,(X.flatMap e).length=X.length*s
 | []=>bt
 |x::X=>by rw[fJ,aq,H,iH e s H X,ba,gG];omega
theorem w5{a:Type}(e:a->List Value)(s:Nat)(H: ∀x,(e x).length=s): ∀(X:List a)(i:Nat)(x:a),X[i]? =some x->∀j v,(e x)[j]? =some v->(X.flatMap e)[i*s+j]? =some v
 | [],i,x,h,_,_,_=>by simp at h
 |y::X,0,x,h,j,v,b=>by grind
 |y::X,i+1,x,h,j,v,b=>by have:=w5 e s H X i x (by grind) j v b;rw[fJ,du (by grind),H];rwa[show(i+1)*s+j - s=i*s+j by grind]
def vy.slice{f:Type}{e:TypeId}{p:bZ}{len cap:Nat}(E:f->List Value)(s:Nat)(Q:f->Prop)(l:P.cellsOf e=s)(w: ∀x,(E x).length=s)(r: ∀n c,c.length=s->uj P h n e c->∃x,c=E x/\Q x)(C:P.underlying t=some (.slice e))(D:vy P h t (.L p len cap)):
  ∃X:List f,X.length=len/\len<=cap/\cap<=maxLen/\Row h p (X.flatMap E)/\∀x∈X,Q x:=by
 obtain⟨n,b⟩:=D;cases n with
 |zero=>exact b.elim
 |succ n=>
  unfold uj at b;rw[C]at b;rcases b with H|⟨a,L,F,H,z,A,u⟩;simp[Value.cells]at H;obtain⟨rfl,rfl,rfl⟩:=H;exact⟨[],rfl,bu _,bK _,.inl rfl,λ_ g=>by cases g⟩;simp[Value.cells]at H;obtain⟨rfl,rfl,rfl⟩:=H;have K: ∀k,k<=len->∃X:List f,X.length=k/\cH a (X.flatMap E) 0 h/\∀x∈X,Q x:=by
   intro k;induction k with
   |zero=>intro _;exact⟨[],rfl,trivial,λ_ g=>by cases g⟩
   |succ k I=>intro G;obtain⟨X,d,i,j⟩:=I ae;obtain⟨c,m,o,q⟩:=u k ae;obtain⟨x,rfl,B⟩:=r n c (by rw[m,l]) q;refine⟨X++ [x],by simp[d],?_,?_⟩;rw[cO,IX];refine⟨i,?_⟩;rw[iH E s w,d,<-l];simpa using o;intro y hy;rcases bP.1 hy with hy|hy;exact j y hy;simp at hy;subst hy;exact B
  obtain⟨X,d,i,j⟩:=K len (bu _);exact⟨X,d,z,A,.inr ⟨a,rfl,i⟩,j⟩
def uj.int{k:IntKind}{n:Nat}{c:List Value}(b:P.underlying t=some (.int k))(H:uj P h n t c): ∃a,c= [.int k a]/\(Lit.int k a).wf=true:=by
 cases n with
 |zero=>exact H.elim
 |succ n=>unfold uj at H;rw[b]at H;exact H
def uj.bool{n:Nat}{c:List Value}(a:P.underlying t=some .bool)(H:uj P h n t c): ∃b,c= [.B b]:=by
 cases n with
 |zero=>exact H.elim
 |succ n=>unfold uj at H;rw[a]at H;exact H
end
def vz(P:Program)(r:TypeId->Option (List TypeId)):List Field->Nat->Option (List TypeId)
 | [],_=>some []
 |f::fs,o=>(match Nat.beq f.offset o,r f.type with
  |true,some T=>(match Nat.beq T.length (P.cellsOf f.type),vz P r fs (o+T.length)with
   |true,some u=>some (T++u)
   |_,_=>none)
  |_,_=>none)
def zI(P:Program):Nat->TypeId->Option (List TypeId)
 |0,_=>none
 |n+1,t=>(match P.underlying t with
  |some (.struct fs)=>vz P (zI P n) fs.toList 0
  |some (.array _ _)=>none
  |_=>some [t])
def Leaves(P:Program)(h:aA)(a:List TypeId)(c:List Value):Prop:= ∀(i:Nat)(T:TypeId),a[i]? =some T->∃v m,c[i]? =some v/\uj P h m T [v]
theorem Leaves.append{P:Program}{h:aA}{T u:List TypeId}{c:List Value}(f:Leaves P h T (c.take T.length))(g:Leaves P h u (c.drop T.length)):Leaves P h (T++u) c:=by intro i e H;by_cases d:i<T.length;rw[fj d]at H;have⟨v,m,b,a⟩:=f i e H;rw[db,ag d]at b;exact⟨v,m,b,a⟩;rw[du ae]at H;have⟨v,m,b,a⟩:=g _ e H;exact⟨v,m,by grind,a⟩
theorem CD{P:Program}{h:aA}{r:TypeId->Option (List TypeId)}{n:Nat}(d: ∀t T c,r t=some T->c.length=T.length->uj P h n t c->Leaves P h T c):
  ∀(fs:List Field)(o:Nat)(u:List TypeId)(c:List Value),vz P r fs o=some u->o+u.length<=c.length->(∀f∈fs,uj P h n f.type ((c.drop f.offset).take (P.cellsOf f.type)))->
   Leaves P h u (c.drop o)
 | [],o,u,c,H,_,_=>by simp only[vz,cM]at H;subst H;intro i q e;simp at e
 |f::fs,o,u,c,H,j,b=>by simp only[vz]at H;split at H;rename_i T l m;split at H;rename_i U g p;simp only[cM]at H;subst H;rw[aq]at j;have a:=b f dN;rw[(cT l),<-(cT g)]at a;refine Leaves.append (d _ _ _ m (by grind) a) ?_;rw[List.drop_drop];exact CD d fs _ U c p ae (λF k=>b F (bQ _ k));cases H;cases H
theorem Ek{P:Program}{h:aA}: ∀(d n:Nat)(t:TypeId)(T:List TypeId)(c:List Value),zI P d t=some T->c.length=T.length->uj P h n t c->Leaves P h T c
 |0,_,_,_,_,H,_,_=>by simp[zI]at H
 |d+1,n,t,T,c,H,j,a=>by
  simp only[zI]at H;cases n with
  |zero=>exact a.elim
  |succ n=>
   split at H
   rename_i fs g;unfold uj at a;rw[g]at a;have:=CD (λt T c b e f=>Ek d n t T c b e f) fs.toList 0 T c H ae a.2;simpa using this;cases H;simp only[cM]at H;subst H;intro i l k
   match c,j with
   | [v],_=>grind
def Leaves.get{P:Program}{h:aA}{a:List TypeId}{c:List Value}(d:Leaves P h a c)(i:Nat){T:TypeId}{v:Value}(b:a[i]? =some T)(H:c[i]? =some v): ∃m,uj P h m T [v]:=by have⟨u,m,f,e⟩:=d i T b;rw[f]at H;cases H;exact⟨m,e⟩
theorem Leaves.int{P:Program}{h:aA}{b:List TypeId}{c:List Value}(d:Leaves P h b c)(i:Nat){T:TypeId}{v:Value}{k:IntKind}(H:b[i]? =some T)(g:c[i]? =some v)(f:P.underlying T=some (.int k)): ∃a,v=.int k a/\(Lit.int k a).wf=true:=by have⟨m,e⟩:=d.get i H g;have⟨a,l,j⟩:=uj.int f e;exact⟨a,by grind,j⟩
theorem Leaves.bool{P:Program}{h:aA}{d:List TypeId}{c:List Value}(e:Leaves P h d c)(i:Nat){T:TypeId}{v:Value}(H:d[i]? =some T)(j:c[i]? =some v)(g:P.underlying T=some .bool): ∃b,v=.B b:=by have⟨m,f⟩:=e.get i H j;have⟨a,k⟩:=uj.bool g f;exact⟨a,by grind⟩
def aB.of{a:Type}{F:a}{B:a->Prop}(h: ∀J,J=F->B J):aB F B:=h F rfl
def vy.ints{P:Program}{h:aA}{t e:TypeId}{k:IntKind}{p:bZ}{len cap:Nat}(c:P.cellsOf e=1)(d:P.underlying e=some (.int k))(g:P.underlying t=some (.slice e))(i:vy P h t (.L p len cap)):
  ∃X:List Int,X.length=len/\Row h p (X.map (.int k ·))/\∀x∈X,(Lit.int k x).wf=true:=by
 obtain⟨X,H,_,_,a,b⟩:=vy.slice (e:=e) (λx:Int=> [Value.int k x]) 1 (λx=>(Lit.int k x).wf=true) c (λ_=>rfl) (λn C _ f=>uj.int d f) g i;refine⟨X,H,?_,b⟩;have:X.flatMap (λx:Int=> [Value.int k x])=X.map (.int k ·):=by
  clear H a b;induction X with
  |nil=>rfl
  |cons x X I=>rw[fJ,I];rfl
 rwa[this]at a
theorem Mh{h:aA}{p:bZ}{k:IntKind}{x:List Int}(H:Row h p (x.map (.int k ·))){i:Nat}(c:i<x.length): ∃a,p=some a/\aU h (a.add (i*1))=some (.int k (x.getD i 0)):=by
 have b:(x.map (Value.int k ·))[i]? =some (.int k (x.getD i 0)):=by simp[c]
 obtain⟨a,rfl⟩:=H.some (λe=>by grind);exact⟨a,rfl,by rw[cC];exact H.cell b⟩
end
def bc(B:cQ):List Value:=B.map λb=> .int .u8 (b.toNat:Int)
def ks(b:cQ):(bc b).length=b.length:=by simp[bc]
def lQ(b c:cQ):bc (b++c)=bc b++bc c:=by simp[bc]
def Ts(b:cQ)(n:Nat):(bc b).take n=bc (b.take n):=by simp[bc,List.map_take]
def Tt(b:cQ)(n:Nat):(bc b).drop n=bc (b.drop n):=by simp[bc,List.map_drop]
def vA(B:cQ): ∀v∈bc B,gk v=true:=by intro v h;simp only[bc,bh]at h;obtain⟨b,_,rfl⟩:=h;rfl
def str(b:cQ):cF:=⟨b.toArray⟩
theorem CE(b:cF): ∀(k i:Nat)(r:cQ),b.size - i=k->i<=b.size->ByteArray.toList.loop b i r=r.reverse++b.data.toList.drop i
 |0,i,r,a,H=>by
  have:i=b.size:=ae
  unfold ByteArray.toList.loop;rw[dz];have:b.data.toList.length<=i:=by simp_all
  rw[dW this];simp
 |k+1,i,r,a,H=>by
  have h:i<b.size:=ae
  unfold ByteArray.toList.loop;rw[ag h,CE b k (i+1) _ ae ae];have c:i<b.data.toList.length:=by simp_all
  rw[cG c];have:b.get! i=b.data.toList[i]:=by show b.data[i]! =_;rw[getElem!_pos b.data i h];simp
  rw[this];simp
def toList_data(b:cF):b.toList=b.data.toList:=by unfold ByteArray.toList;rw[CE b _ 0 [] rfl (bK _)];simp
def oS(b:cQ):(str b).toList=b:=by simp[str]
def QO(s:cF):str s.data.toList=s:=by cases s;simp[str]
section
variable {P : Program}
def Ks(h:aA): ∀(B:cQ)(s:cF),rd P (forIn (bc B).toArray s λc s=>(do
   let .int .u8 n:=c|stuck "bytesToString: byte expected"
   pure (ForInStep.yield (s.push (UInt8.ofNat n.toNat))))) h=some ⟨s.data++B.toArray⟩:=by
 intro B;simp only[List.forIn_toArray];induction B with
 |nil=>intro s;show some s=_;cases s;simp
 |cons b B i=>intro s;have e:bc (b::B)=.int .u8 (b.toNat)::bc B:=rfl;rw[e,List.forIn_cons,bE _ _ h (ForInStep.yield (s.push b)) (by show some (ForInStep.yield (s.push (UInt8.ofNat b.toNat)))=_;simp)];rw[i];simp[ByteArray.push]
def Kt{S D e:TypeId}{h:aA}{p:bZ}{c n:Nat}{B:cQ}(k:P.underlying S=some (.slice e))(g:P.underlying e=some (.int .u8))(f:P.underlying D=some .string)(H:Row h p (bc B))(j:n=B.length):pV P S D (.L p n c) h (str B):=by
 subst j;unfold pV convert;rw[bE _ _ _ _ (bH k),bE _ _ _ _ (bH f)];show rd P (underlying e>>=_) h=_;rw[bE _ _ _ _ (bH g)];show rd P (Conv.bytesToString (.L p B.length c)) h=_;cases p with
 |none=>
  have:B= []:=by
   rcases H with H|⟨a,e,_⟩;cases B with
   |nil=>rfl
   |cons b B=>cases H
   cases e
  subst this;rfl
 |some a=>
  have d:cH a (bc B) 0 h:=by rcases H with H|⟨A,e,d⟩;rw[H];trivial;cases e;exact d
  have i:rd P (loadCells a B.length) h=some (bc B).toArray:=by unfold loadCells;rw[<-ks,jI (bc B) 0 #[] h d];simp
  show rd P (loadCells a B.length>>=λC=>(forIn C ByteArray.empty λc s=>(do
   let .int .u8 n:=c|stuck "bytesToString: byte expected"
   pure (ForInStep.yield (s.push (UInt8.ofNat n.toNat)))))>>=λs=>pure (Value.string s)) h=_
  rw[bE _ _ _ _ i,bE _ _ _ _ (Ks h B ByteArray.empty)];show some (Value.string ⟨ByteArray.empty.data++B.toArray⟩)=_;have:(⟨ByteArray.empty.data++B.toArray⟩:cF)=str B:=by unfold str;congr 1;show #[]++B.toArray=B.toArray;simp
  rw[this]
def Tu{t e:TypeId}{h:aA}{a:Addr}{n c:Nat}{K:fp}(i:P.underlying t=some (.slice e))(j:P.underlying e=some (.int .u8)){C:Array Value}{b:TypeId}{f:Nat×Nat}(d:h[a.block]? =some (.C C b f))(k: ∀H F,H[a.block]? =some (.C C b F)->H.size=h.size->(∀x,x≠a.block->H[x]? =h[x]?)->K (.L (some a) n c) H):bM P (convert t t (.L (some a) n c)) h K:=by
 unfold convert;refine bY (s:=underlying t) (bH i) ?_;refine bY (s:=underlying t) (bH i) ?_;show bM P (underlying e>>=_) h K;refine bY (s:=underlying e) (bH j) ?_;have o:(t==t)=true:=bt
 rw[o];show bM P (markStringish a>>=λ_=>pure (.L (some a) n c)) h K;rw[fu];unfold markStringish shape;have m:rR h a.block=some (b,C.size):=by simp[rR,d]
 show bM P (match rR h a.block with|some (_,n)=>freeze { block:=a.block,off:=n } 1|_=>pure ()) h _;rw[m];show K (.L (some a) n c) (pU h { block:=a.block,off:=C.size } 1);unfold pU;rw[dz];obtain⟨l,g⟩:=f;refine k _ (if l==g then(C.size,C.size+1)else(min l C.size,max g (C.size+1))) ?_ bt (λx p=> ?_);simp[dD,d];simp[dD,Ne.symm p]
def vy.bytes{h:aA}{t e:TypeId}{p:bZ}{len cap:Nat}(d:P.cellsOf e=1)(f:P.underlying e=some (.int .u8))(g:P.underlying t=some (.slice e))(i:vy P h t (.L p len cap)):
  ∃b:cQ,b.length=len/\Row h p (bc b):=by
 obtain⟨X,H,a,c⟩:=vy.ints d f g i;refine⟨X.map λx=>UInt8.ofNat x.toNat,dH H,?_⟩;have:bc (X.map λx=>UInt8.ofNat x.toNat)=X.map (.int .u8 ·):=by unfold bc;rw[dR];refine fh λx j=> ?_;have:=wf_u8 (c x j);simp only[Function.comp,fU,Value.int.injEq,true_and];omega
 rw[this];exact a
end
theorem uj.bytes{P:Program}{h:aA}{t e:TypeId}{n:Nat}{v:Value}(g:P.cellsOf e=1)(i:P.underlying e=some (.int .u8))(f:P.underlying t=some (.slice e))(H:uj P h n t [v]): ∃p c b,v=.slice p (b:cQ).length c/\Row h p (bc b):=by
 have: ∃p l c,v=.L p l c:=by
  cases n with
  |zero=>exact H.elim
  |succ n=>unfold uj at H;rw[f]at H;rcases H with d|⟨a,l,c,d,_⟩;simp at d;exact⟨_,_,_,d⟩;grind
 obtain⟨p,l,c,rfl⟩:=this;have⟨b,j,k⟩:=vy.bytes g i f ⟨n,H⟩;subst j;exact⟨p,c,b,rfl,k⟩
def CG(n:Nat):IntKind.wrap .u8 (n:Int)=((n%256:Nat):Int):=by rfl
def sd{n:Nat}(h:n<18446744073709551616):IntKind.wrap .u64 (n:Int)=(n:Int):=vx
def Wz(n:Nat):IntKind.wrap .u8 ((BitVec.ofInt (IntKind.bits .u8) (IntKind.wrap .u8 (n:Int))|||BitVec.ofInt (IntKind.bits .u8) 128).toNat:Int)=((UInt8.ofNat (n%128+128)).toNat:Int):=by
 have K: ∀m:Fin 256,(((BitVec.ofInt 8 (m.val:Int)|||BitVec.ofInt 8 128).toNat%256))=m.val%128+128:=cW
 rw[CG n,CG];have k:=K ⟨n%256,ae⟩;simp only at k;have e:IntKind.bits .u8=8:=rfl;rw[e,k,fU];omega
def Vx(c:UInt8):(IntKind.wrap .u8 ((BitVec.ofInt (IntKind.bits .u8) (c.toNat:Int) &&& BitVec.ofInt (IntKind.bits .u8) 128).toNat:Int)==0)=decide (c.toNat<128):=by
 have k: ∀m:Fin 256,(((((BitVec.ofInt 8 (m.val:Int) &&& BitVec.ofInt 8 128).toNat%256):Int))==0)=decide (m.val<128):=cW
 exact k ⟨c.toNat,c.toNat_lt⟩
def Vy(c:UInt8):IntKind.wrap .u8 ((BitVec.ofInt (IntKind.bits .u8) (c.toNat:Int) &&& BitVec.ofInt (IntKind.bits .u8) 127).toNat:Int)=((c.toNat%128:Nat):Int):=by
 have k: ∀m:Fin 256,((BitVec.ofInt 8 (m.val:Int) &&& BitVec.ofInt 8 127).toNat%256)=m.val%128:=cW
 exact bV (λx:Nat=>(x:Int)) (k ⟨c.toNat,c.toNat_lt⟩)
def Vz{n d i:Nat}(f:n<2 ^ i)(h:d*2 ^ i<18446744073709551616)(H:i<=64):
  IntKind.wrap .u64 ((BitVec.ofInt (IntKind.bits .u64) (n:Int)|||BitVec.ofInt (IntKind.bits .u64) (IntKind.wrap .u64 ((d:Int)*2 ^ min (Int.toNat (i:Int)) (IntKind.bits .u64)))).toNat:Int)=((n+d*2 ^ i:Nat):Int):=by
 have b:IntKind.bits .u64=64:=rfl;have k:(0:Nat)<2 ^ i:=Nat.two_pow_pos i;rw[aK,b,Nat.min_eq_left H];have E:((d:Int)*2 ^ i)=((d*2 ^ i:Nat):Int):=bt
 rw[E,sd h];have g:n<18446744073709551616:=by have:(2:Nat) ^ i<=2 ^ 64:=gL ae H;omega
 have e: ∀m:Nat,m<18446744073709551616->(BitVec.ofInt 64 (m:Int)).toNat=m:=λm j=>by rw[BitVec.toNat_ofInt];omega
 rw[BitVec.toNat_or,e n g,e _ h];have a:n|||d*2 ^ i=n+d*2 ^ i:=by rw[Nat.or_comm,Nat.mul_comm,<-Nat.two_pow_add_eq_or_of_lt f d];omega
 rw[a];refine sd ?_;have c:d<2 ^ (64 - i):=by
  have:(18446744073709551616:Nat)=2 ^ (64 - i)*2 ^ i:=by rw[<-Nat.pow_add,Nat.sub_add_cancel H]
  rw[this]at h;exact Nat.lt_of_mul_lt_mul_right h
 have:(d+1)*2 ^ i<=2 ^ (64 - i)*2 ^ i:=dc _ c;rw[<-Nat.pow_add,Nat.sub_add_cancel H,gG]at this;omega
def XF{n:Nat}:Int.fdiv (n:Int) (2 ^ min (Int.toNat 7) (IntKind.bits .u64))=((n/128:Nat):Int):=by show Int.fdiv (n) 128=_;rw[Int.fdiv_eq_ediv_of_nonneg _ ae];omega
end Go.Den
namespace Go.Den
structure Step (S:gF) (h:aA) (S':gF) (h':aA):Prop where
 fr:Fr S h h'
 new: ∀c,S' c->S c\/h.size<=c
def Step.refl(S:gF)(h:aA):Step S h S h:=⟨Fr.refl _ _,λ_=> .inl⟩
def Step.trans{S s d:gF}{h H e:aA}(a:Step S h s H)(b:Step s H d e):Step S h d e:=
 ⟨a.fr.trans b.fr bC (λc hc f=>(a.new c f).resolve_right ae),λc hc=>by rcases b.new c hc with hc|hc;exact a.new c hc;have:=a.fr.1;exact .inr ae⟩
theorem Step.apart{S s Q:gF}{h H:aA}(b:Step S h s H)(d: ∀c,S c->¬Q c)(e: ∀c,Q c->c<h.size): ∀c,s c->¬Q c:=λc a f=>by rcases b.new c a with h1|h1;grind;grind
def Fr.fresh{S:gF}{h H a:aA}(f:Fr (λ_=>False) h H)(g:Fr S H a)(b: ∀c,S c->h.size<=c):Fr (λ_=>False) h a:=
 f.step g λc e d=>by have:=b c d;omega
def OL{h:aA}{c:Array Value}{t:TypeId}{f:Nat×Nat}{i:Nat}{v:Value}:rU (h.push (.C c t f)) (AA h.size i) v=h.push (.C (c.setIfInBounds i v) t f):=by
 apply Array.ext;simp[rU];intro j a b;have e: ∀(x:aA)(H:j<x.size),x[j]? =some x[j]:=λx H=>Array.getElem?_eq_getElem H;have:(rU (h.push (.C c t f)) (AA h.size i) v)[j]? =(h.push (.C (c.setIfInBounds i v) t f))[j]? :=by by_cases q:j=h.size;subst q;rw[AW bR,bR];rw[yd q,dh,dh,af q,af q]
 rw[e _ a,e _ b]at this;exact bF this
def kH{h:aA}{c:Array Value}{t:TypeId}{i:Nat}{v:Value}{K:dw}(H:i<c.size)(a:K (h.push (.C (c.setIfInBounds i v) t (0,0)))):aO (h.push (.C c t (0,0))) (AA h.size i) v K:=by refine⟨?_,nj bR,?_⟩;rw[lM bR];simp[H];rintro _ rfl;rw[OL];exact a
def cg{h:aA}{o:Obj}{K:Nat->dw}(H:K h.size (h.push o)):aW h o K:=by rintro b a rfl rfl;exact H
section
variable {P : Program}
theorem iV{S X w elem e t:TypeId}{s bytes:Nat}{z:Value}{h:aA}{p:bZ}{len cap:Nat}{d:List Value}{x:Array Value}{K:fp}(T:pJ P S elem s bytes z)(q:P.underlying X=some (.slice e))(u:Own h p len cap s d)(r:x.size=s)(o: ∀v∈x.toList,gk v=true)(k:(len+1)*bytes<=70368744177664)(l:len+1<=9223372036854775807)(n: ∀a C H,Own H a (len+1) C s (d++x.toList)->Fr (aL p) h H->(∀c,aL a c->aL p c\/h.size<=c)->K (.L a (len+1) C) H):
  aW h (.C x t) λb i=>bM P (Builtin.append_ #[S,X] w #[.L p len cap,.L (Sa b 0) 1 1]) i K:=by
 refine cg ?_;have f:Fr (λ_=>False) h (h.push (.C x t)):=Fr.push _ _;refine dI T q (u.frame f bC) (.inr ⟨_,rfl,dO bR (λj v A=>by grind)⟩) (by simp[r]) o k l ?_;intro a C H O _ F g;exact n a C H O (Fr.no f F) (λc m=>(g c m).imp id (λy=>by grind))
end
end Go.Den
namespace Go.Den
structure Up (h0:aA) (S:gF) (h:aA):Prop where
 fr:Fr (λ_=>False) h0 h
 ge: ∀c,S c->h0.size<=c
def Up.step{a h H:aA}{S s:gF}(u:Up a S h)(b:Step S h s H):Up a s H:=
 ⟨u.fr.fresh b.fr u.ge,λc d=>by rcases b.new c d with h1|h1;exact u.ge c h1;have:=u.fr.1;omega⟩
def Up.Hk{a h H:aA}{S Q:gF}(u:Up a S h)(f:Fr Q h H)(d: ∀c,Q c->S c):Up a S H:=⟨u.fr.fresh f (λc b=>u.ge c (d c b)),u.ge⟩
def jj{h:aA}{cs:List Value}{t:TypeId}:Row (h.push (.C cs.toArray t)) (Sa h.size 0) cs:=.inr ⟨_,rfl,dO bR (λj v H=>by rw[bj];simpa using H)⟩
def cj(a:Addr):a.add 0=a:=by simp[Addr.add]
def oI(a:Addr)(n:Nat):(a.add n).block=a.block:=by unfold Addr.add;split<;>rfl
def jd{h:aA}{p:bZ}{C:List Value}(f:Row h p C)(b:C≠ []){x:Nat}(g:aL p x):x<h.size:=by
 obtain⟨a,rfl,rfl⟩:=g;rcases f with H|⟨A,e,H⟩;exact absurd H b;cases e;cases C with
 |nil=>exact absurd rfl b
 |cons c C=>obtain⟨_,_,_,d,_⟩:=Ef H.1;have:=aD d;rwa[oI]at this
def Row.sub{h:aA}{p:bZ}{c:List Value}(e:Row h p c){cap l u sz:Nat}(f:l<=u)(g:u<=cap):Row h (cE p cap l sz) ((c.take (u*sz)).drop (l*sz)):=by
 by_cases b:cap=l;left;have:u=l:=ae
 subst this;rw[List.drop_eq_nil_iff,bT];exact Nat.min_le_left _ _;unfold cE;rw[af b];rcases e with rfl|⟨a,rfl,d⟩;left;simp;refine .inr ⟨a.add (l*sz),rfl,mc.2 λj v H=> ?_⟩;rw[add_add,bj];rw[fC,db]at H;split at H;have:=mc.1 d (l*sz+j) v H;rwa[bj]at this;cases H
structure Ft where
 M:gF
 D:gF
structure bp (F:Ft) (h:aA) (F':Ft) (h':aA):Prop where
 fr:Fr F.M h h'
 iA: ∀c,F'.M c->F.M c\/h.size<=c
 jF: ∀c,F'.D c->F.D c\/h.size<=c
 nP: ∀c,F.D c->F'.D c
def bp.refl(F:Ft)(h:aA):bp F h F h:=⟨Fr.refl _ _,λ_=> .inl,λ_=> .inl,λ_=>id⟩
def bp.trans{F f d:Ft}{h H e:aA}(a:bp F h f H)(b:bp f H d e):bp F h d e:=by have z:=a.fr.1;refine⟨a.fr.trans b.fr bC (λc hc g=>(a.iA c g).resolve_right ae),λc hc=> ?_,λc hc=> ?_,λc hc=>b.nP c (a.nP c hc)⟩;rcases b.iA c hc with hc|hc;exact a.iA c hc;omega;rcases b.jF c hc with hc|hc;exact a.jF c hc;exact .inr ae
def bp.zJ{F:Ft}{h H:aA}(f:Fr F.M h H):bp F h F H:=⟨f,λ_=> .inl,λ_=> .inl,λ_=>id⟩
def bp.iw{F:Ft}{h H:aA}(f:Fr (λ_=>False) h H):bp F h F H:=.zJ (f.mono λ_ _=>False.elim)
def bp.no{F a:Ft}{h H c:aA}(f:Fr (λ_=>False) h H)(b:bp F H a c):bp F h a c:=(bp.iw f).trans b
def bp.on{F b:Ft}{h H c:aA}(a:bp F h b H)(f:Fr (λ_=>False) H c):bp F h b c:=a.trans (bp.iw f)
theorem bp.apart{F f:Ft}{Q:gF}{h H:aA}(s:bp F h f H)(d: ∀c,F.M c\/F.D c->¬Q c)(a: ∀c,Q c->c<h.size): ∀c,f.M c\/f.D c->¬Q c:=λc hc b=>by have:=a c b;rcases hc with hc|hc;rcases s.iA c hc with h1|h1;grind;omega;rcases s.jF c hc with h1|h1;grind;omega
structure xX (h0:aA) (F:Ft) (h:aA):Prop where
 fr:Fr (λ_=>False) h0 h
 ge: ∀c,F.M c\/F.D c->h0.size<=c
def xX.step{a h H:aA}{F f:Ft}(u:xX a F h)(s:bp F h f H):xX a f H:=by have z:=u.fr.1;refine⟨u.fr.fresh s.fr (λc hc=>u.ge c (.inl hc)),λc hc=> ?_⟩;rcases hc with hc|hc;rcases s.iA c hc with h1|h1;exact u.ge c (.inl h1);omega;rcases s.jF c hc with h1|h1;exact u.ge c (.inr h1);omega
def xX.on{a h H:aA}{F:Ft}(u:xX a F h)(f:Fr (λ_=>False) h H):xX a F H:=⟨u.fr.tt f,u.ge⟩
theorem qa{b:Nat}{t:TypeId}: ∀(V:List Value)(i:Nat)(h:aA)(c:Array Value)(K:dw),h[b]? =some (.C c t (0,0))->i+V.length<=c.size->V.all gk=true->
  (∀H C,H[b]? =some (.C C t (0,0))->C.size=c.size->(∀j,j<i\/i+V.length<=j->C[j]? =c[j]?)->(∀j v,V[j]? =some v->C[i+j]? =some v)->H.size=h.size->(∀x,x≠b->H[x]? =h[x]?)->K H)->
  dG (AA b 0) V i h K
 | [],i,h,c,K,a,_,_,e=>e h c a rfl (λ_ _=>rfl) (λj v d=>by simp at d) rfl (λ_ _=>rfl)
 |v::V,i,h,c,K,a,m,f,e=>by rw[List.all_cons,aZ]at f;rw[ba]at m;unfold dG;rw[f.1];rw[iP,bj];refine bf a ae λk A s o=>(qa V (i+1) k _ K A (by grind) f.2 λl g B z q r S O=>e l g B (by grind) (λj d=> ?_) (λj u d=> ?_) ae (λx n=>by grind));grind;grind
theorem eX{h:aA}{b:Nat}{c:Array Value}{t:TypeId}{v:List Value}{K:dw}(a:h[b]? =some (.C c t (0,0)))(g:v.length=c.size)(e:v.all gk=true)(d: ∀H,H[b]? =some (.C v.toArray t (0,0))->H.size=h.size->(∀x,x≠b->H[x]? =h[x]?)->K H):dG (AA b 0) v 0 h K:=by
 refine qa v 0 h c K a ae e λH C B z _ r s o=>d H ?_ s o;have:C=v.toArray:=by apply Array.ext';apply fH;intro j;by_cases f:j<v.length;grind;grind
 rw[<-this];exact B
def gQ{h:aA}{c:Array Value}{t:TypeId}{vs:List Value}{K:Nat->dw}(f:vs.length=c.size)(i:vs.all gk=true)(d: ∀b H,b=h.size->H[b]? =some (.C vs.toArray t (0,0))->Fr (λ_=>False) h H->K b H):aW h (.C c t) λb a=>dG (AA b 0) vs 0 a (K b):=
 cg (eX bR f i λH B s o=>d _ H rfl B ((Fr.push h _).fresh ⟨ae,λy _ g=>o y g⟩ (λy e=>Nat.le_of_eq e.symm)))
def zK{R:fp}{h:aA}{b B c:Bool}{A:Prop}(H:R (.B (b && c)) h)(a:R (.B c) h->A)(e:B=b:=by rfl):if B=true then A else R (.B false) h:=by
 subst e;cases B with
 |true=>exact a H
 |false=>exact H
def kZ{R:fp}{a h:aA}{b B c:Bool}{A:Prop}(d: ∀H,Fr (λ_=>False) a H->R (.B (b && c)) H)(f:Fr (λ_=>False) a h)(g:(∀H,Fr (λ_=>False) a H->R (.B c) H)->A)(e:B=b:=by rfl):if B=true then A else R (.B false) h:=by
 subst e;cases B with
 |true=>exact g d
 |false=>exact d h f
end Go.Den
namespace Go.Den
structure BV where
 p:bZ
 c:Nat
 b:cQ
abbrev BV.val(x:BV):Value:=.slice x.p x.b.length x.c
structure BV.ok (h:aA) (D:gF) (x:BV):Prop where
 row:Row h x.p (bc x.b)
 own:x.b≠ []->∀c,aL x.p c->D c
 cap:x.b.length<=x.c
def BV.ok.frame{h b:aA}{D Q:gF}{x:BV}(H:x.ok h D)(f:Fr Q h b)(g: ∀c,D c->¬Q c):x.ok b D:=by refine⟨?_,H.own,H.cap⟩;by_cases d:x.b= [];rw[d];exact .inl rfl;exact H.row.frame f (λa e=>g a.block (H.own d a.block ⟨a,e,rfl⟩))
def BV.ok.mono{h:aA}{D D':gF}{x:BV}(H:x.ok h D)(b: ∀c,D c->D' c):x.ok h D':=⟨H.row,λa c d=>b c (H.own a c d),H.cap⟩
def BV.jK{h:aA}{D:gF}{p:bZ}{c:Nat}{b:cQ}(o:Own h p b.length c 1 (bc b))(H: ∀x,aL p x->D x):BV.ok h D ⟨p,c,b⟩:=⟨o.hT,λ_=>H,o.le⟩
def kI(p:bZ)(m s:Nat):cE p m 0 s=p:=by
 unfold cE;split;rfl;cases p with
 |none=>rfl
 |some a=>simp[Addr.add]
def Own.fa{h:aA}{a:Addr}{len cap s:Nat}{b:Type}{e:b->List Value}{X:List b}(o:Own h (.some a) len cap s (X.flatMap e))(H: ∀x,(e x).length=s){i:Nat}{x:b}(c:X[i]? =.some x):cH (a.add (i*s)) (e x) 0 h:=by refine mc.2 λj v d=> ?_;rw[bj,add_add];exact o.cell (w5 e s H X i x c j v d)
def Row.fa{h:aA}{a:Addr}{s:Nat}{b:Type}{e:b->List Value}{X:List b}(o:Row h (.some a) (X.flatMap e))(H: ∀x,(e x).length=s){i:Nat}{x:b}(c:X[i]? =.some x):cH (a.add (i*s)) (e x) 0 h:=by refine mc.2 λj v d=> ?_;rw[bj,add_add];exact o.cell (w5 e s H X i x c j v d)
theorem Own.addr{h:aA}{p:bZ}{len cap s:Nat}{C:List Value}(O:Own h p len cap s C)(a:0<len): ∃b o,p=.some (AA b o):=by
 cases O with
 |nil _ H _ _=>omega
 |row b o c t d _ _ _ _ _=>grind
def Own.pre{h:aA}{p:bZ}{len cap s:Nat}{c:List Value}(o:Own h p len cap s c){i:Nat}(H:i<=len):Own h p i cap s (c.take (i*s)):=by have:=o.sub (bK _) H;rwa[kI,Nat.zero_mul,gK]at this
theorem kQ{a:Type}(e:a->List Value)(s:Nat)(h: ∀x,(e x).length=s): ∀(X:List a)(i:Nat),(X.flatMap e).take (i*s)=(X.take i).flatMap e
 | [],i=>bt
 |x::X,0=>bt
 |x::X,i+1=>by rw[fJ,List.take_succ_cons,fJ,List.take_append,h,aX (by grind),show(i+1)*s - s=i*s by grind,kQ e s h X i]
theorem kR{a:Type}(e:a->List Value)(s:Nat)(h: ∀x,(e x).length=s): ∀(X:List a)(i:Nat),(X.flatMap e).drop (i*s)=(X.drop i).flatMap e
 | [],i=>bt
 |x::X,0=>bt
 |x::X,i+1=>by rw[fJ,List.drop_succ_cons,List.drop_append,h,dW (by grind),dj,show(i+1)*s - s=i*s by grind,kR e s h X i]
theorem Ku{d:Type}(e:d->List Value)(s:Nat)(h: ∀x,(e x).length=s): ∀(X:List d)(i:Nat)(y:d),i<X.length->∀(c:List Value),c.length=(X.flatMap e).length->(∀j,j/s≠i\/s=0->c[j]? =(X.flatMap e)[j]?)->(∀j v,j<s->(e y)[j]? =some v->c[i*s+j]? =some v)->c=(X.set i y).flatMap e:=by
 intro X i y p c u k o;apply fH;intro j;by_cases r:s=0;rw[k j (.inr r)];have E: ∀z:List d,z.flatMap e= []:=λz=>by simp_all
 rw[E,E];have g:0<s:=ae
 by_cases m:j/s=i;have f:j=i*s+j%s:=by rw[<-m,Nat.mul_comm];exact(Nat.div_add_mod j s).symm
 have q:=Nat.mod_lt j g;have H:(e y)[j%s]? =some ((e y)[j%s]'(by grind)):=au _;have a:=o _ _ q H;have b:=w5 e s h (X.set i y) i y (by simp[p]) _ _ H;rw[<-f]at a b;rw[a,b];rw[k j (.inl m)];by_cases n:j/s<X.length;have f:j=(j/s)*s+j%s:=by rw[Nat.mul_comm];exact(Nat.div_add_mod j s).symm
 have t:(X.set i y)[j/s]? =some (X[j/s]):=by grind
 have H:(e X[j/s])[j%s]? =some ((e X[j/s])[j%s]'(by rw[h];exact(Nat.mod_lt j g))):=au _;have a:=w5 e s h X _ _ (au n) _ _ H;have b:=w5 e s h (X.set i y) _ _ t _ _ H;rw[<-f]at a b;rw[a,b];have l:=by have:=(Nat.le_div_iff_mul_le g).1 (Nat.le_of_not_lt n);exact this
 rw[List.getElem?_eq_none (by rw[iH e s h];exact l),List.getElem?_eq_none (by rw[iH e s h,fS];exact l)]
section
variable {P : Program}
theorem Hm{S elem V:TypeId}{s bytes:Nat}{z:Value}{h:aA}{p:bZ}{len cap i:Nat}{C:List Value}{K:fp}(T:pJ P S elem s bytes z)(G: ∀v∈z.cells.toList,gk v=true)(O:Own h p len cap s C)(d:i<=len)(g: ∀H,Own H p i cap s (C.take (i*s))->Fr (aL p) h H->K (.T #[]) H):bM P (Builtin.clear_ #[S] V #[.L (cE p cap i s) (len - i) (cap - i)]) h K:=by
 have f:K (.T #[]) h:=g h (O.pre d) (Fr.refl _ _);obtain⟨f',E,e',_,Q⟩:=T.i;unfold Builtin.clear_;show bM P (underlying S>>=_) h K;refine bY (s:=underlying S) (bH T.u) ?_;cases O with
 |nil a j y B=>
  subst a;have:cE none cap i s=none:=by unfold cE;split<;>rfl
  rw[this];exact f
 |row b o c t a r j y a' B=>
  subst a;by_cases D:len - i=0;rw[D];cases hq:cE (Sa b o) cap i s with
  |_=>exact f
  obtain⟨n,l⟩: ∃n,len - i=n+1:=⟨len - i - 1,ae⟩;have A:cap≠i:=ae
  have w:cE (Sa b o) cap i s=some ⟨b,o+i*s,none⟩:=by unfold cE;rw[af A];show some (((AA b o):Addr).add (i*s))=_;rw[iP]
  rw[w,l];show bM P (zeroValue elem>>=λz=>storeCells ⟨b,o+i*s,none⟩ (Builtin.zeroCells z.cells (n+1)).toList>>=λ_=>pure (Value.tuple #[])) h K;refine bY (s:=zeroValue elem) (jT E Q) ?_;rw[fu];have U:=T.zs;have R:(Builtin.zeroCells z.cells (n+1)).toList.length=(n+1)*s:=by simp[Builtin.zeroCells,U]
  have X:o+i*s+(n+1)*s<=o+cap*s:=by rw[<-l,Nat.sub_mul];have m1:i*s<=len*s:=dc _ d;have m2:len*s<=cap*s:=dc _ j;omega
  refine yf (c:=c) (off:=o+i*s) _ 0 h b t _ ?_ r (by rw[R];omega) ?_;intro v m;simp only[Builtin.zeroCells,Array.toList_map,bh]at m;obtain⟨k,Z,rfl⟩:=m;have J:0<z.cells.size:=by grind
  have F:=Nat.mod_lt k J;rw[getElem!_pos z.cells _ F];exact G _ bt;intro H q u d' c' b' L I;refine g H (.row b o q t rfl u ae ae ?_ ?_) (Fr.of_eq L λx M=>I x (λe=>M ⟨_,rfl,e.symm⟩));simp_all;grind
def OM{S X D elem k t:TypeId}{s bytes:Nat}{z:Value}{h:aA}{q:bZ}{n cq:Nat}{d:List Value}{K:fp}(T:pJ P S elem s bytes z)(f:P.underlying X=some (.slice k))(B:Row h q d)(u:d.length=n*s)(A: ∀v∈d,gk v=true)(r:n*bytes<=70368744177664)(G:n<=9223372036854775807)(y: ∀p C H,Own H p n C s d->Fr (λ_=>False) h H->(∀c,aL p c->h.size<=c)->K (.L p n C) H):
  aW h (.C #[] t) λb m=>bM P (Builtin.append_ #[S,X] D #[.L (Sa b 0) 0 0,.L q n cq]) m K:=by
 refine cg ?_;have F:Fr (λ_=>False) h (h.push (.C #[] t)):=Fr.push _ _;refine dI (cs:= []) T f (.row h.size 0 #[] t rfl bR (bu _) bt bt (λj v w=>by cases w)) (B.frame F bC) u A (dH r) ae ?_;intro p i H o _ l g;rw[bj,dj]at o;rw[bj];refine y p i H o (F.step l (λc I ⟨a,e,E⟩=>by cases e;simp at E;omega)) (λx f=> ?_);rcases g x f with⟨a,e,rfl⟩|h2;cases e;exact bu _;simp at h2;omega
end
def w9{P:Program}{S X B elem E t:TypeId}{s bytes:Nat}{z:Value}{h:aA}{p:bZ}{n c:Nat}{D:List Value}{R:fp}(T:pJ P S elem s bytes z)(A:P.underlying X=some (.slice E))(F:0<s)(m:Row h p D)(j:D.length=n*s)(y: ∀v∈D,gk v=true)(u:n*bytes<=70368744177664)(w:n<=9223372036854775807)(k: ∀i C H,Own H i n C s D->Fr (λ_=>False) h H->(∀x,aL i x->h.size<=x)->R (.L i n C) H):
  if p.isNone=true then R (.Z) h else aW h (.C #[] t) λb q=>bM P (Builtin.append_ #[S,X] B #[.L (Sa b 0) 0 0,.L p n c]) q λv r=> ∃a l d,v=.L a l d/\R (.L a l d) r:=by
 cases p with
 |none=>
  rcases m with rfl|⟨a,e,_⟩;obtain rfl:n=0:=by
   cases n with
   |zero=>rfl
   |succ n=>rw[cA,Nat.succ_mul]at j;omega
  exact k none 0 h (.nil rfl rfl rfl rfl) (Fr.refl _ _) (λx ⟨a,e,_⟩=>by cases e);cases e
 |some a=>exact OM T A m j y u w λi C H o f g=>⟨_,_,_,rfl,k i C H o f g⟩
theorem ON{a:Type}{e:a->List Value}(h: ∀x,(e x).length=2){X:List a}{i:Nat}{y:a}{V b:Value}(H:i<X.length)(g:e y= [V,b]):((X.flatMap e).set (i*2) V).set (i*2+1) b=(X.set i y).flatMap e:=by have d:=iH e 2 h X;refine Ku e 2 h X i y H _ bt (λj c=> ?_) (λj v c f=> ?_);grind;grind
end Go.Den
