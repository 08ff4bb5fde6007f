/-
  Fu is proved here: parts of xQ proof, one behind xQ other (texts of this work, merged by a program; HU xQ theorem HV not use is left out). No condition.
-/
import Derived.OrdersHeld
import Derived.Scope
import Derived.KernelRfl
import Derived.Recover
import Derived.IntWalk
import Derived.ProofKit
import Derived.ChangeOld
import Derived.Below
import Derived.Carry
import Derived.OpenShut
set_option maxRecDepth 100000
set_option maxHeartbeats 4000000
namespace Go
section
variable {c p q r:Prop}
abbrev ct:=Option Addr
abbrev cG:=List UInt8
abbrev fO:=Value→Array Obj→Prop
abbrev ij:ByteArray:=⟨#[]⟩
abbrev AA(b i:Nat):Addr:=⟨b,i,none⟩
abbrev Sa(b i:Nat):Option Addr:=some ⟨b,i,none⟩
abbrev Value.I(x:Int):Value:=.int .i64 x
abbrev Value.U(x:Int):Value:=.int .u64 x
abbrev Value.P(b i:Nat):Value:=.pointer (some ⟨b,i,none⟩)
abbrev Value.L(p:Option Addr)(l c:Nat):Value:=.slice p l c
abbrev Value.B(b:Bool):Value:=.bool b
abbrev Value.S(s:ByteArray):Value:=.string s
abbrev Value.T(v:Array Value):Value:=.tuple v
abbrev Obj.C(c:Array Value)(t:TypeId)(f:Nat×Nat:=(0,0)):Obj:=.cells c t f
abbrev Value.Z:Value:=.slice none 0 0
theorem dy{i:Decidable c}{a:Sort _}{t e:a}(h: ¬c:=by first|decide|omega|(simp only[decide_eq_true_eq];omega)):ite c t e=e:=if_neg h
theorem gi{i:Decidable c}{a:Sort _}{t e:a}(h:c:=by first|decide|omega|exact decide_eq_true (by omega)):ite c t e=t:=if_pos h
theorem bX{d:Sort _}{f:d→Sort _}{e:(a:d)→f a→Prop}: ∀a b,e a b→e a b:=λ_ _=>id
theorem ag(h:p:=by omega):p:=h
theorem dS(h:p:=by decide):p:=h
theorem bU(h:p:=by simp):p:=h
theorem dA(h:p:=by kernel_rfl):p:=h
theorem bW(h:q)(g:q→p:=by intro;omega):p:=g h
theorem iJ(h:q)(k:r)(g:q→r→p:=by intro _ _;omega):p:=g h k
theorem sQ{s:Prop}(h:q)(k:r)(l:s)(g:q→r→s→p:=by intro _ _ _;omega):p:=g h k l
theorem cR(h:q)(g:q→p:=by intro h;simpa using h):p:=g h
theorem eM:type_of% @Array.getD_eq_getD_getElem?:=@Array.getD_eq_getD_getElem?
theorem dC:type_of% @Array.getElem?_append_left:=@Array.getElem?_append_left
theorem fH:type_of% @Array.getElem?_eq_some_iff:=@Array.getElem?_eq_some_iff
theorem fN:type_of% @Array.getElem?_modify:=@Array.getElem?_modify
theorem dY:type_of% @Array.getElem?_push:=@Array.getElem?_push
theorem cJ:type_of% @Array.getElem?_setIfInBounds:=@Array.getElem?_setIfInBounds
theorem dv:type_of% @Array.getElem?_toList:=@Array.getElem?_toList
theorem eZ:type_of% @Array.length_toList:=@Array.length_toList
theorem cY:type_of% @Array.size_push:=@Array.size_push
theorem aW:type_of% @Bool.and_eq_true:=@Bool.and_eq_true
theorem fI:type_of% @Bool.false_and:=@Bool.false_and
theorem ar:type_of% @Bool.false_eq_true:=@Bool.false_eq_true
theorem gG:type_of% @Bool.not_eq_true':=@Bool.not_eq_true'
theorem dZ:type_of% @Bool.not_false:=@Bool.not_false
theorem cX:type_of% @Bool.not_true:=@Bool.not_true
theorem eu:type_of% @Bool.true_and:=@Bool.true_and
theorem ff:type_of% @Iff.rfl:=@Iff.rfl
theorem eI:type_of% @Int.eq_ofNat_of_zero_le:=@Int.eq_ofNat_of_zero_le
theorem eh:type_of% @Int.le_refl:=@Int.le_refl
theorem aH:type_of% @Int.toNat_natCast:=@Int.toNat_natCast
theorem gk:type_of% @List.Pairwise.filter:=@List.Pairwise.filter
theorem fJ:type_of% @List.Pairwise.sublist:=@List.Pairwise.sublist
theorem ga:type_of% @List.Sublist.map:=@List.Sublist.map
theorem eJ:type_of% @List.append_assoc:=@List.append_assoc
theorem dk:type_of% @List.cons_append:=@List.cons_append
theorem cP:type_of% @List.drop_eq_getElem_cons:=@List.drop_eq_getElem_cons
theorem dE:type_of% @List.drop_of_length_le:=@List.drop_of_length_le
theorem gx:type_of% @List.drop_zero:=@List.drop_zero
theorem fE:type_of% @List.ext_getElem?:=@List.ext_getElem?
theorem gg:type_of% @List.filter_append:=@List.filter_append
theorem eK:type_of% @List.filter_congr:=@List.filter_congr
theorem cu:type_of% @List.filter_cons:=@List.filter_cons
theorem cz:type_of% @List.filter_eq_self:=@List.filter_eq_self
theorem dO:type_of% @List.filter_map:=@List.filter_map
theorem cU:type_of% @List.filter_sublist:=@List.filter_sublist
theorem fP:type_of% @List.find?_eq_some_iff_getElem:=@List.find?_eq_some_iff_getElem
theorem dh:type_of% @List.findIdx?_eq_none_iff:=@List.findIdx?_eq_none_iff
theorem cj:type_of% @List.findIdx?_eq_some_iff_getElem:=@List.findIdx?_eq_some_iff_getElem
theorem cS:type_of% @List.flatMap_append:=@List.flatMap_append
theorem fU:type_of% @List.flatMap_cons:=@List.flatMap_cons
theorem bh:type_of% @List.getD_eq_getElem?_getD:=@List.getD_eq_getElem?_getD
theorem cO:type_of% @List.getElem?_append_left:=@List.getElem?_append_left
theorem cH:type_of% @List.getElem?_append_right:=@List.getElem?_append_right
theorem dP:type_of% @List.getElem?_cons_succ:=@List.getElem?_cons_succ
theorem eO:type_of% @List.getElem?_cons_zero:=@List.getElem?_cons_zero
theorem fp:type_of% @List.getElem?_drop:=@List.getElem?_drop
theorem aj:type_of% @List.getElem?_eq_getElem:=@List.getElem?_eq_getElem
theorem cV:type_of% @List.getElem?_eq_none:=@List.getElem?_eq_none
theorem az:type_of% @List.getElem?_eq_some_iff:=@List.getElem?_eq_some_iff
theorem fa:type_of% @List.getElem?_inj:=@List.getElem?_inj
theorem aL:type_of% @List.getElem?_map:=@List.getElem?_map
theorem bL:type_of% @List.getElem?_of_mem:=@List.getElem?_of_mem
theorem dM:type_of% @List.getElem?_set:=@List.getElem?_set
theorem cZ:type_of% @List.getElem?_take:=@List.getElem?_take
theorem dF:type_of% @List.getElem_mem:=@List.getElem_mem
theorem aB:type_of% @List.length_append:=@List.length_append
theorem bn:type_of% @List.length_cons:=@List.length_cons
theorem bN:type_of% @List.length_drop:=@List.length_drop
theorem cM:type_of% @List.length_filter_le:=@List.length_filter_le
theorem aD:type_of% @List.length_map:=@List.length_map
theorem bG:type_of% @List.length_nil:=@List.length_nil
theorem dQ:type_of% @List.length_set:=@List.length_set
theorem dL:type_of% @List.length_singleton:=@List.length_singleton
theorem bA:type_of% @List.length_take:=@List.length_take
theorem ba:type_of% @List.map_append:=@List.map_append
theorem fb:type_of% @List.map_congr_left:=@List.map_congr_left
theorem cb:type_of% @List.map_cons:=@List.map_cons
theorem dT:type_of% @List.map_map:=@List.map_map
theorem bH:type_of% @List.mem_append:=@List.mem_append
theorem dG:type_of% @List.mem_append_left:=@List.mem_append_left
theorem dD:type_of% @List.mem_append_right:=@List.mem_append_right
theorem bg:type_of% @List.mem_cons:=@List.mem_cons
theorem cv:type_of% @List.mem_cons_of_mem:=@List.mem_cons_of_mem
theorem dp:type_of% @List.mem_cons_self:=@List.mem_cons_self
theorem bj:type_of% @List.mem_filter:=@List.mem_filter
theorem bt:type_of% @List.mem_map:=@List.mem_map
theorem bz:type_of% @List.mem_map_of_mem:=@List.mem_map_of_mem
theorem aZ:type_of% @List.mem_of_getElem?:=@List.mem_of_getElem?
theorem gl:type_of% @List.mem_of_mem_drop:=@List.mem_of_mem_drop
theorem bP:type_of% @List.mem_singleton:=@List.mem_singleton
theorem da:type_of% @List.nil_append:=@List.nil_append
theorem fh:type_of% @List.nodup_append:=@List.nodup_append
theorem fL:type_of% @List.nodup_cons:=@List.nodup_cons
theorem cN:type_of% @List.not_mem_nil:=@List.not_mem_nil
theorem dU:type_of% @List.pairwise_cons:=@List.pairwise_cons
theorem fF:type_of% @List.pairwise_map:=@List.pairwise_map
theorem eH:type_of% @List.perm_append_singleton:=@List.perm_append_singleton
theorem gm:type_of% @List.range_eq_range':=@List.range_eq_range'
theorem bO:type_of% @List.take_add_one:=@List.take_add_one
theorem fv:type_of% @List.take_length:=@List.take_length
theorem bE:type_of% @List.take_of_length_le:=@List.take_of_length_le
theorem gr:type_of% @List.take_succ_cons:=@List.take_succ_cons
theorem eV:type_of% @List.take_zero:=@List.take_zero
theorem fi:type_of% @Nat.add_mul:=@Nat.add_mul
theorem bR:type_of% @Nat.eq_of_beq_eq_true:=@Nat.eq_of_beq_eq_true
theorem bp:type_of% @Nat.le_refl:=@Nat.le_refl
theorem db:type_of% @Nat.le_trans:=@Nat.le_trans
theorem cK:type_of% @Nat.lt_of_lt_of_le:=@Nat.lt_of_lt_of_le
theorem dc:type_of% @Nat.mul_le_mul_right:=@Nat.mul_le_mul_right
theorem cE:type_of% @Nat.mul_one:=@Nat.mul_one
theorem gn:type_of% @Nat.pow_le_pow_right:=@Nat.pow_le_pow_right
theorem bK:type_of% @Nat.zero_add:=@Nat.zero_add
theorem bQ:type_of% @Nat.zero_le:=@Nat.zero_le
theorem eW:type_of% @Nat.zero_lt_one:=@Nat.zero_lt_one
theorem fW:type_of% @Ne.symm:=@Ne.symm
theorem hM:type_of% @Option.isNone_some:=@Option.isNone_some
theorem dH:type_of% @Option.isSome_iff_exists:=@Option.isSome_iff_exists
theorem gD:type_of% @Option.map_none:=@Option.map_none
theorem dq:type_of% @Option.map_some:=@Option.map_some
theorem aX:type_of% @Option.some.inj:=@Option.some.inj
theorem bC:type_of% @Option.some.injEq:=@Option.some.injEq
theorem gK:type_of% @Prod.mk.injEq:=@Prod.mk.injEq
theorem gy:type_of% @UInt8.toNat_ofNat':=@UInt8.toNat_ofNat'
theorem dz:type_of% @beq_eq_false_iff_ne:=@beq_eq_false_iff_ne
theorem df:type_of% @beq_iff_eq:=@beq_iff_eq
theorem fQ:type_of% @beq_self_eq_true:=@beq_self_eq_true
theorem gu:type_of% @bne_eq_false_iff_eq:=@bne_eq_false_iff_eq
theorem dw:type_of% @bne_iff_ne:=@bne_iff_ne
theorem cf:type_of% @congrArg:=@congrArg
theorem aC:type_of% @decide_eq_false:=@decide_eq_false
theorem fk:type_of% @decide_eq_false_iff_not:=@decide_eq_false_iff_not
theorem av:type_of% @decide_eq_true:=@decide_eq_true
theorem aY:type_of% @decide_eq_true_eq:=@decide_eq_true_eq
theorem bu:type_of% @decide_false:=@decide_false
theorem bF:type_of% @decide_true:=@decide_true
theorem aQ:type_of% @if_false:=@if_false
theorem ae:type_of% @if_neg:=@if_neg
theorem af:type_of% @if_pos:=@if_pos
theorem bm:type_of% @if_true:=@if_true
theorem fj:type_of% @ne_eq:=@ne_eq
theorem gh:type_of% @of_decide_eq_false:=@of_decide_eq_false
theorem aV:type_of% @of_decide_eq_true:=@of_decide_eq_true
theorem fx:type_of% @or_false:=@or_false

end
end Go
namespace Go.Den
section
variable {P:Program} {F:Value->Prop} {t:TypeId}
abbrev ai:=Array Obj
abbrev Env:=Nat->Option Value
def aU(h:ai)(a:Addr):Option Value:=
 match h[a.block]? with
 |some (.cells c _ _)=>if a.spot.isSome then none else c[a.off]?
 |_=>none
def wF(h:ai)(r:Nat):Option (TypeId×Nat):=
 match h[r]? with
 |some (.cells c elem _)=>some (elem,c.size)
 |_=>none
def pD(h:ai)(a:Addr):Bool:=
 match h[a.block]? with
 |some (.cells _ _ (l,H))=>l<=a.off && a.off<H
 |_=>false
def uY(h:ai)(a:Addr)(n:Nat):ai:=
 if n=0 then h else
 h.modify a.block fun
   | .cells c elem (l,H)=> .cells c elem (if l==H then(a.off,a.off+n)else(min l a.off,max H (a.off+n)))
   |o=>o
def oO(h:ai)(a:Addr)(v:Value):ai:=
 h.modify a.block fun
   | .cells c elem frozen=> .cells (if a.spot.isSome then c else c.setIfInBounds a.off v) elem frozen
   |o=>o
theorem lS(w:World)(a:Addr):w.cell? a=aU w.heap a:=rfl
theorem Nh(w:World)(r:Nat):w.shape? r=wF w.heap r:=rfl
theorem wG(w:World)(a:Addr):w.frozen? a=pD w.heap a:=rfl
theorem ua(w:World)(a:Addr)(v:Value):(w.setCell a v).heap=oO w.heap a v:=rfl
theorem KR(w:World)(a:Addr)(n:Nat):(w.freeze a n).heap=uY w.heap a n:=by
 unfold World.freeze uY;split<;>rfl
def fc(w a:World):Prop:=a.os=w.os/\a.output=w.output/\a.tape=w.tape
theorem fc.refl(w:World):fc w w:=⟨rfl,rfl,rfl⟩
theorem fc.trans{a b c:World}(h:fc a b)(H:fc b c):fc a c:=⟨H.1.trans h.1,H.2.1.trans h.2.1,H.2.2.trans h.2.2⟩
def fZ:Value->Bool
 | .agg _| .tuple _=>false
 |_=>true
def aT(P:Program){b:Type}:Sem b->ai->(b->ai->Prop)->Prop
 | .pure a,h,K=>K a h
 | .load _ a k,h,K=> ∃v,aU h a=some v/\aT P (k v) h K
 | .store _ a v k,h,K=>fZ v=true/\(aU h a).isSome=true/\pD h a=false/\aT P k (oO h a v) K
 | .new o k,h,K=>aT P (k h.size) (h.push o) K
 | .shape r k,h,K=>aT P (k (wF h r)) h K
 | .freeze a n k,h,K=>aT P k (uY h a n) K
 | .frozen a k,h,K=>aT P (k (pD h a)) h K
 | .getObj r k,h,K=> ∃o,h[r]? =some o/\(∀c e f,o≠ .cells c e f)/\aT P (k o) h K
 | .setObj r o k,h,K=>(∃O,h[r]? =some O/\(∀c e f,O≠ .cells c e f))/\aT P k (h.setIfInBounds r o) K
 | .choose q k,h,K=>if q.forced=true then aT P (k 0) h K else∀t,aT P (k (q.cut t)) h K
 | .sys _ _,_,_=>False
 | .program k,h,K=>aT P (k P) h K
 | .mark _ k,h,K=>aT P k h K
 | .halt _,_,_=>False
theorem kB{l:Type}(s:Sem l): ∀(h:ai){K d:l->ai->Prop},(∀a h,K a h->d a h)->aT P s h K->aT P s h d:=by
 induction s with
 |pure a=>intro h K d b H;exact b _ _ H
 |load m a k i=>intro h K d b H;obtain⟨v,e,f⟩:=H;exact⟨v,e,i v h b f⟩
 |store m a v k i=>intro h K d b H;obtain⟨e,f,g,p⟩:=H;exact⟨e,f,g,i _ b p⟩
 |new o k i=>intro h K d b H;exact i _ _ b H
 |shape r k i=>intro h K d b H;exact i _ _ b H
 |freeze a n k i=>intro h K d b H;exact i _ b H
 |frozen a k i=>intro h K d b H;exact i _ _ b H
 |getObj r k i=>intro h K d b H;obtain⟨o,e,f,g⟩:=H;exact⟨o,e,f,i _ _ b g⟩
 |setObj r o k i=>intro h K d b H;exact⟨H.1,i _ b H.2⟩
 |choose q k i=>
  intro h K d b H;unfold aT at H⊢;split
  .rename_i j;rw[af j]at H;exact i _ _ b H
  .rename_i j;rw[ae j]at H;exact λt=>i _ _ b (H t)
 |sys c k i=>intro h K d b H;exact H
 |program k i=>intro h K d b H;exact i _ _ b H
 |mark m k i=>intro h K d b H;exact i _ b H
 |halt x=>intro h K d b H;exact H
theorem Fv{b d:Type}(s:Sem b)(f:b->Sem d): ∀(h:ai)(K:d->ai->Prop),aT P (s.bind f) h K↔aT P s h (λa H=>aT P (f a) H K):=by
 induction s with
 |pure a=>intro h K;exact ff
 |load m a k i=>intro h K;simp only[Sem.bind,aT,i]
 |store m a v k i=>intro h K;simp only[Sem.bind,aT,i]
 |new o k i=>intro h K;simp only[Sem.bind,aT,i]
 |shape r k i=>intro h K;simp only[Sem.bind,aT,i]
 |freeze a n k i=>intro h K;simp only[Sem.bind,aT,i]
 |frozen a k i=>intro h K;simp only[Sem.bind,aT,i]
 |getObj r k i=>intro h K;simp only[Sem.bind,aT,i]
 |setObj r o k i=>intro h K;simp only[Sem.bind,aT,i]
 |choose q k i=>intro h K;simp only[Sem.bind,aT,i]
 |sys c k i=>intro h K;simp only[Sem.bind,aT]
 |program k i=>intro h K;simp only[Sem.bind,aT,i]
 |mark m k i=>intro h K;simp only[Sem.bind,aT,i]
 |halt x=>intro h K;simp only[Sem.bind,aT]
theorem mN{z:Type}(s:Sem z): ∀(h:ai)(K:z->ai->Prop),aT P s h K->
  ∀w:World,w.heap=h->∃a b,s.run P w=.ok a b/\K a b.heap/\fc w b:=by
 induction s with
 |pure a=>intro h K H w d;subst d;exact⟨a,w,rfl,H,fc.refl w⟩
 |load m a k i=>
  intro h K H w d;subst d;obtain⟨v,g,j⟩:=H;obtain⟨x,b,R,e⟩:=i v _ _ j w rfl;exact⟨x,b,by simp[Sem.run,lS,g,R],e⟩
 |store m a v k i=>
  intro h K H w d;subst d;obtain⟨g,j,l,A⟩:=H;obtain⟨u,y⟩:=dH.1 j;obtain⟨x,b,R,e,f⟩:=i _ _ A (w.setCell a v) (ua w a v);refine⟨x,b,?_,e,f⟩;rw[<-lS]at y;rw[<-wG]at l;cases v<;>simp[fZ]at g<;>simp[Sem.run,y,l,R]
 |new o k i=>
  intro h K H w d;subst d;obtain⟨x,b,R,e,f⟩:=i _ _ _ H { w with heap:=w.heap.push o } rfl;exact⟨x,b,R,e,f⟩
 |shape r k i=>
  intro h K H w d;subst d;obtain⟨x,b,R,e⟩:=i _ _ _ H w rfl;exact⟨x,b,by rw[<-Nh]at R;simp[Sem.run,R],e⟩
 |freeze a n k i=>
  intro h K H w d;subst d;obtain⟨x,b,R,e,f⟩:=i _ _ H (w.freeze a n) (KR w a n);refine⟨x,b,by simp[Sem.run,R],e,?_⟩;refine fc.trans ?_ f;unfold World.freeze;split<;>exact⟨rfl,rfl,rfl⟩
 |frozen a k i=>
  intro h K H w d;subst d;obtain⟨x,b,R,e⟩:=i _ _ _ H w rfl;exact⟨x,b,by rw[<-wG]at R;simp[Sem.run,R],e⟩
 |getObj r k i=>
  intro h K H w d;subst d;obtain⟨o,g,j,l⟩:=H;obtain⟨x,b,R,e⟩:=i _ _ _ l w rfl;refine⟨x,b,?_,e⟩;cases o<;>first|exact absurd rfl (j _ _ _)|simp[Sem.run,g,R]
 |setObj r o k i=>
  intro h K H w d;subst d;obtain⟨⟨O,g,j⟩,l⟩:=H;obtain⟨x,b,R,e,f⟩:=i _ _ l { w with heap:=w.heap.setIfInBounds r o } rfl;refine⟨x,b,?_,e,f⟩;cases O<;>first|exact absurd rfl (j _ _ _)|simp[Sem.run,g,R]
 |choose q k i=>
  intro h K H w d;subst d;unfold aT at H;split at H
  .rename_i p;obtain⟨x,b,R,e⟩:=i _ _ _ H w rfl;exact⟨x,b,by simp[Sem.run,p,R],e⟩
  .rename_i p;obtain⟨x,b,R,e,f⟩:=i _ _ _ (H (w.tape w.drawn q)) { w with drawn:=w.drawn+1 } rfl;exact⟨x,b,by simp only[Sem.run,ae p];exact R,e,f⟩
 |sys c k i=>intro h K H;exact H.elim
 |program k i=>
  intro h K H w d;subst d;obtain⟨x,b,R,e⟩:=i _ _ _ H w rfl;exact⟨x,b,by simp[Sem.run,R],e⟩
 |mark m k i=>
  intro h K H w d;subst d;obtain⟨x,b,R,e⟩:=i _ _ H w rfl;exact⟨x,b,by simp[Sem.run,R],e⟩
 |halt x=>intro h K H;exact H.elim
def rd(P:Program){b:Type}:Sem b->ai->Option b
 | .pure a,_=>some a
 | .load _ a k,h=>(match aU h a with|some v=>rd P (k v) h|none=>none)
 | .shape r k,h=>rd P (k (wF h r)) h
 | .frozen a k,h=>rd P (k (pD h a)) h
 | .getObj r k,h=>(match h[r]? with|some (.cells _ _ _)=>none|some o=>rd P (k o) h|none=>none)
 | .program k,h=>rd P (k P) h
 | .mark _ k,h=>rd P k h
 |_,_=>none
theorem Ni{d:Type}(s:Sem d): ∀(h:ai)(a:d),rd P s h=some a->∀K:d->ai->Prop,K a h->aT P s h K:=by
 induction s with
 |pure b=>intro h a e K H;simp only[rd,bC]at e;subst e;exact H
 |load m b k i=>
  intro h a e K H;simp only[rd]at e;split at e
  .rename_i v n;exact⟨v,n,i v h a e K H⟩
  .cases e
 |shape r k i=>intro h a e K H;exact i _ h a e K H
 |frozen b k i=>intro h a e K H;exact i _ h a e K H
 |getObj r k i=>
  intro h a e K H;simp only[rd]at e;split at e
  .cases e
  .rename_i o j l;exact⟨o,l,λc e f g=>j c e f (g▸rfl),i _ h a e K H⟩
  .cases e
 |program k i=>intro h a e K H;exact i _ h a e K H
 |mark m k i=>intro h a e K H;exact i h a e K H
 |_=>intro h a e;simp[rd]at e
theorem pE{c:Type}(s:Sem c): ∀(w:World)(a:c),rd P s w.heap=some a->s.run P w=.ok a w:=by
 induction s with
 |pure b=>intro w a e;simp only[rd,bC]at e;subst e;rfl
 |load m b k i=>
  intro w a e;simp only[rd]at e;split at e
  .rename_i v h;rw[<-lS]at h;simp only[Sem.run,h];exact i v w a e
  .cases e
 |shape r k i=>intro w a e;exact i _ w a e
 |frozen b k i=>intro w a e;exact i _ w a e
 |getObj r k i=>
  intro w a e;simp only[rd]at e;split at e
  .cases e
  .rename_i o H d;cases o<;>first|exact absurd rfl (H _ _ _)|(simp only[Sem.run,d];exact i _ w a e)
  .cases e
 |program k i=>intro w a e;exact i _ w a e
 |mark m k i=>intro w a e;exact i w a e
 |_=>intro w a e;simp[rd]at e
theorem bB{c j:Type}(s:Sem c)(f:c->Sem j): ∀(h:ai)(a:c),rd P s h=some a->rd P (s>>=f) h=rd P (f a) h:=by
 show∀(h:ai)(a:c),rd P s h=some a->rd P (s.bind f) h=rd P (f a) h;induction s with
 |pure b=>intro h a e;simp only[rd,bC]at e;subst e;rfl
 |load m b k i=>
  intro h a e;simp only[rd]at e;split at e
  .rename_i v g;simp only[Sem.bind,rd,g];exact i v h a e
  .cases e
 |shape r k i=>intro h a e;exact i _ h a e
 |frozen b k i=>intro h a e;exact i _ h a e
 |getObj r k i=>
  intro h a e;simp only[rd]at e;split at e
  .cases e
  .rename_i o H d;cases o<;>first|exact absurd rfl (H _ _ _)|(simp only[Sem.bind,rd,d];exact i _ h a e)
  .cases e
 |program k i=>intro h a e;exact i _ h a e
 |mark m k i=>intro h a e;exact i h a e
 |_=>intro h a e;simp[rd]at e
def kL(P:Program)(f:FuncId)(args:Array Value)(h:ai)(R:fO):Prop:=
 ∀w:World,w.heap=h->Calls P f args w (λe a=> ∃v,e=.returned v/\R v a.heap/\fc w a)
theorem kL.mono{f:FuncId}{args:Array Value}{h:ai}{R r:fO}(c:kL P f args h R)(d: ∀v H,R v H->r v H):kL P f args h r:=
 λw g=>(c w g).mono λ_ _ ⟨v,b,a,e⟩=>⟨v,b,d _ _ a,e⟩
def TG(P:Program)(K:fO):Next->ai->Prop
 | .value v,h=>K v h
 | .skip,h=>K undef h
 | .enter f args,h=>kL P f args h K
 |_,_=>False
def pF(P:Program)(o:Oper)(a:Operand->Value)(h:ai)(K:fO):Prop:=
 aT P (execOp a o) h (TG P K)
theorem pF.wp{o:Oper}{a:Act}{w:World}{K:fO}{next:Act->World->Prop}{Q:Exit->Act->World->Prop}(c:pF P o a.eval w.heap K)(h: ∀v b,K v b.heap->fc w b->next (a.put o.dst v) b):o.wp P a w next Q:=by
 obtain⟨x,b,g,r,R⟩:=mN _ _ _ c w rfl;unfold Oper.wp;rw[g];cases x with
 |value v=>exact h _ _ r R
 |skip=>exact h _ _ r R
 |enter f args=>
  refine(r b rfl).mono ?_;rintro e i ⟨v,rfl,H,d⟩;exact h _ _ H (R.trans d)
 |_=>exact r.elim
inductive gR where
 |int (k:IntKind)
 |bool
 |str
 |ptr
 |slice
 |map
 |raw
inductive Sh where
 |one (l:gR)
 |agg (ls:List gR)
def gR.ex:gR->(Value->Prop)->Prop
 | .int k,F=> ∃n:Int,F (.int k n)
 | .bool,F=> ∃b:Bool,F (.bool b)
 | .str,F=> ∃s:ByteArray,F (.string s)
 | .ptr,F=> ∃p:ct,F (.pointer p)
 | .slice,F=> ∃(p:ct)(l c:Nat),F (.slice p l c)
 | .map,F=> ∃m:Option Nat,F (.map m)
 | .raw,F=> ∃v:Value,F v
def UZ:List gR->(List Value->Prop)->Prop
 | [],F=>F []
 |l::L,F=>l.ex λv=>UZ L λV=>F (v::V)
def Sh.ex:Sh->(Value->Prop)->Prop
 | .one l,F=>l.ex F
 | .agg L,F=>UZ L λv=>F (.agg v.toArray)
def JU:List Sh->(List Value->Prop)->Prop
 | [],F=>F []
 |s::S,F=>s.ex λv=>JU S λV=>F (v::V)
theorem gR.mO{l:gR}(h:l.ex F): ∃v,F v:=by
 cases l<;>simp only[gR.ex]at h
 all_goals first
  |(obtain⟨a,b,c,h⟩:=h;exact⟨_,h⟩)
  |(obtain⟨a,h⟩:=h;exact⟨_,h⟩)
theorem Fw: ∀{l:List gR}{F:List Value->Prop},UZ l F->∃V,V.length=l.length/\F V
 | [],_,h=>⟨[],rfl,h⟩
 |_::_,_,h=>by
  obtain⟨v,h⟩:=gR.mO h;obtain⟨V,H,h⟩:=Fw h;exact⟨v::V,by simp[H],h⟩
theorem Sh.mO{s:Sh}(h:s.ex F): ∃v,F v:=by
 cases s with
 |one l=>exact gR.mO h
 |agg L=>obtain⟨V,_,h⟩:=Fw h;exact⟨_,h⟩
theorem uc: ∀{l:List Sh}{F:List Value->Prop},JU l F->∃V,F V
 | [],_,h=>⟨[],h⟩
 |_::_,_,h=>by
  obtain⟨v,h⟩:=Sh.mO h;obtain⟨V,h⟩:=uc h;exact⟨v::V,h⟩
def wH(P:Program)(t:TypeId):Option gR:=
 match P.underlying t with
 |some .bool=>some .bool
 |some (.int k)=>some (.int k)
 |some .string=>some .str
 |some (.pointer _)=>some .ptr
 |some (.slice _)=>some .slice
 |some (.map _ _)=>some .map
 |some (.struct _)=>none
 |some (.array _ _)=>none
 |some (.tuple _)=>none
 |some _=>some .raw
 |none=>none
def uZ(P:Program):Nat->TypeId->Option (List gR)
 |0,_=>none
 |n+1,t=>
  match P.underlying t with
  |some (.struct fs)=>fs.toList.foldr (λf A=>match uZ P n f.type,A with|some a,some b=>some (a++b)|_,_=>none) (some [])
  |some (.array m e)=>(uZ P n e).map λl=>(List.replicate m l).flatten
  |_=>(wH P t).map ([·])
def zF(P:Program)(t:TypeId):Bool:=
 match P.underlying t with
 |some (.struct _)=>true
 |some (.array _ _)=>true
 |_=>false
def TH(P:Program)(t:TypeId):Option Sh:=
 match zF P t with
 |true=>(uZ P 20 t).map .agg
 |false=>(wH P t).map .one
def RI(P:Program):List TypeId->Option (List Sh)
 | []=>some []
 |t::T=>match TH P t,RI P T with
  |some s,some S=>some (s::S)
  |_,_=>none
def tM(P:Program)(t:TypeId)(F:Value->Prop):Prop:=
 match P.underlying t with
 |some (.tuple T)=>(match RI P T.toList with|some l=>JU l λv=>F (.tuple v.toArray)|none=>False)
 |_=>(match TH P t with|some s=>s.ex F|none=>False)
theorem zH(h:tM P t F): ∃v,F v:=by
 unfold tM at h;split at h
 .split at h
  .obtain⟨_,h⟩:=uc h;exact⟨_,h⟩
  .exact h.elim
 .split at h
  .exact Sh.mO h
  .exact h.elim
theorem zI{v:Value}{K:Value->Prop}(h:tM P t λV=>v=V/\K V):K v:=by
 obtain⟨V,rfl,h⟩:=zH h;exact h
def aN{b:Type}(p:Option b)(F:b->Prop):Prop:=
 match p with
 |some a=>F a
 |none=>False
theorem bT{b:Type}{p:Option b}{F:b->Prop}:aN p F↔ ∃a,p=some a/\F a:=by
 cases p<;>simp[aN]
@[simp] theorem ax{b:Type}{a:b}{F:b->Prop}:aN (some a) F↔F a:=ff
def Env.set(a:Env)(d:Nat)(v:Value):Env:=λt=>bif Nat.beq t d then some v else a t
def Env.ev(a:Env):Operand->Option Value
 | .tmp t=>a t
 | .const v=>some v
 | .global g=>some (.pointer (some ⟨g,0,none⟩))
 | .func f=>some (.func (.func f) #[] #[])
def Env.yw(a:Env):Operand->Value:=λx=>(a.ev x).getD undef
def Sd(a:Env)(o:Oper):Bool:=o.op.operands.toList.all λx=>(a.ev x).isSome
def Fits(b:Env)(a:Operand->Value):Prop:= ∀x v,b.ev x=some v->a x=v
def kM(P:Program){b:Type}:Sem b->Option b
 | .pure a=>some a
 | .program k=>kM P (k P)
 | .mark _ k=>kM P k
 |_=>none
theorem Fx{c:Type}(s:Sem c): ∀(a:c),kM P s=some a->∀(h:ai)(K:c->ai->Prop),K a h->aT P s h K:=by
 induction s with
 |pure b=>intro a e h K H;simp only[kM,bC]at e;subst e;exact H
 |program k i=>intro a e h K H;exact i P a e h K H
 |mark m k i=>intro a e h K H;exact i a e h K H
 |_=>intro a e;simp[kM]at e
theorem ud{c:Type}(s:Sem c): ∀(a:c),kM P s=some a->∀(h:ai),rd P s h=some a:=by
 induction s with
 |pure b=>intro a e h;exact e
 |program k i=>intro a e h;exact i P a e h
 |mark m k i=>intro a e h;exact i a e h
 |_=>intro a e;simp[kM]at e
def wI(P:Program){a:Type}:Sem a->Option (Obj×(Nat->Sem a))
 | .new o k=>some (o,k)
 | .program k=>wI P (k P)
 | .mark _ k=>wI P k
 |_=>none
theorem HW{a:Type}(s:Sem a): ∀(o:Obj)(f:Nat->Sem a),wI P s=some (o,f)->∀(h:ai)(K:a->ai->Prop),aT P (f h.size) (h.push o) K->aT P s h K:=by
 induction s with
 |new b k i=>intro o f e h K H;simp only[wI,bC,gK]at e;obtain⟨rfl,rfl⟩:=e;exact H
 |program k i=>intro o f e h K H;exact i P o f e h K H
 |mark m k i=>intro o f e h K H;exact i o f e h K H
 |_=>intro o f e;simp[wI]at e
theorem Fy{a:Env}{c:Operand->Value}(e:Fits a c)(o:Oper)(d:Sd a o=true)(f: ∀C b,o.op≠ .select C b):execOp a.yw o=execOp c o:=by
 refine execOp_congr o f λx g=> ?_
 have H:=List.all_eq_true.1 d x (by simpa using g);obtain⟨v,h⟩:=dH.1 H;rw[e x v h];simp[Env.yw,h]
def bf(h:ai)(o:Obj)(K:Nat->ai->Prop):Prop:= ∀b H,b=h.size->H=h.push o->K b H
def aJ(h:ai)(a:Addr)(v:Value)(K:ai->Prop):Prop:=
 (aU h a).isSome=true/\pD h a=false/\∀H,H=oO h a v->K H
def dV(a:Addr):List Value->Nat->ai->(ai->Prop)->Prop
 | [],_,h,K=>K h
 |v::V,i,h,K=>(match fZ v with|true=>aJ h (a.add i) v λH=>dV a V (i+1) H K|false=>False)
def Nj(h:ai)(a:Addr):List gR->Nat->(List Value->Prop)->Prop
 | [],_,F=>F []
 |l::L,i,F=>l.ex λv=>aU h (a.add i)=some v/\Nj h a L (i+1) λV=>F (v::V)
def dN(a:Addr):List Value->Nat->ai->Prop
 | [],_,_=>True
 |v::V,i,h=>aU h (a.add i)=some v/\dN a V (i+1) h
def su(P:Program)(t:TypeId)(h:ai)(a:Addr)(K:Value->Option (ai->Prop)->Prop):Prop:=
 match zF P t with
 |true=>(match uZ P 20 t,P.info? t with
  |some L,some i=>(match Nat.beq i.size L.length with
   |true=>Nj h a L 0 λV=>K (.agg V.toArray) (some (dN a V 0))
   |false=>False)
  |_,_=>False)
 |false=>(match wH P t with
  |some l=>l.ex λv=>aU h a=some v/\K v (some λH=>aU H a=some v)
  |none=>False)
def qO(P:Program)(t:TypeId)(u v:Value):Option Bool:=
 match v with
 | .pointer none=>(match u,P.underlying t with| .pointer p,some (.pointer _)=>some p.isNone|_,_=>none)
 | .map none=>(match u,P.underlying t with| .map m,some (.map _ _)=>some m.isNone|_,_=>none)
 | .slice none _ _=>(match u,P.underlying t with| .slice p _ _,some (.slice _)=>some p.isNone|_,_=>none)
 |_=>none
def qP(P:Program)(o:Oper)(a:Env)(K:Value->Option (ai->Prop)->Prop):Prop:=
 match Sd a o with
 |true=>(match kM P (execOp a.yw o)with|some (.value v)=>K v none|_=>False)
 |false=>False
def BP(P:Program)(t:TypeId)(u v:Value)(b:Bool):Prop:= ∀h,rd P (Op.equal t u v) h=some b
def HX(o:Oper):Bool:=
 match o.op with
 | .binOp _ _ _ (.const _) _=>true
 |_=>false
def wJ(P:Program)(o:Oper)(t:TypeId)(u v:Value):Bool:=
 match v with
 | .nilIface=>HX o
 | .agg _=>(match u with| .agg _=> !P.eqGuardType P.depth t|_=>false)
 | .pointer _=>(match u with| .pointer _=> !HX o|_=>false)
 |_=>false
def HY(P:Program)(o:Oper)(op:BinOp)(t:TypeId)(u v:Value)(c:Env)(K:Value->Option (ai->Prop)->Prop):Prop:=
 match op with
 | .eql=>(match wJ P o t u v with
  |true=> ∃b:Bool,BP P t u v b/\K (.bool b) none
  |false=>(match qO P t u v with|some b=>K (.bool b) none|none=>qP P o c K))
 | .neq=>(match wJ P o t u v with
  |true=> ∃b:Bool,BP P t u v b/\K (.bool (!b)) none
  |false=>(match qO P t u v with|some b=>K (.bool (!b)) none|none=>qP P o c K))
 | .quo=>(match u,v with
  | .int k a,.int d b=>(match decide (k=d)with|true=>if b=0 then False else K (.int k (k.wrap (a.tdiv b))) none|false=>False)
  |_,_=>False)
 | .rem=>(match u,v with
  | .int k a,.int d b=>(match decide (k=d)with|true=>if b=0 then False else K (.int k (a.tmod b)) none|false=>False)
  |_,_=>False)
 | .shl=>(match u,v with
  | .int k a,.int _ b=>if b<0 then False else K (.int k (k.wrap (a*2 ^ min b.toNat k.bits))) none
  |_,_=>False)
 | .shr=>(match u,v with
  | .int k a,.int _ b=>if b<0 then False else K (.int k (a.fdiv (2 ^ min b.toNat k.bits))) none
  |_,_=>False)
 | .add=>(match u,v with
  | .string a,.string b=>((a.size+b.size:Nat):Int)<=IntKind.i64.max/\K (.string (a++b)) none
  |_,_=>qP P o c K)
 |_=>qP P o c K
def Fz(P:Program)(s:TypeId)(f:Nat):Option Nat:=
 match P.underlying s with
 |some (.struct fs)=>(match fs[f]? with
  |some a=>(match P.info? a.type with|some i=>(match Nat.beq i.size 0 with|true=>none|false=>some a.offset)|none=>none)
  |none=>none)
 |_=>none
def HZ(n:Int):List Value->Nat->(Value->Prop)->Prop
 | [],_,_=>True
 |v::V,i,F=>(n=(i:Int)->F v)/\HZ n V (i+1) F
def ue(a:Env):Option Operand->Option (Option Int)
 |none=>some none
 |some x=>match a.ev x with
  |some (.int _ n)=>some (some n)
  |_=>none
def DF(len cap:Nat):Option Int->Option Int->(Nat->Nat->Prop)->Prop
 |none,none,F=>F 0 len
 |none,some b,F=>(0<=b/\b<=(cap:Int))/\F 0 b.toNat
 |some a,none,F=>(0<=a/\a<=(len:Int))/\F a.toNat len
 |some a,some b,F=>(0<=b/\b<=(cap:Int))/\(0<=a/\a<=b)/\F a.toNat b.toNat
def cQ(p:ct)(m l s:Nat):ct:=if m=l then p else p.map (·.add (l*s))
def kN(m:Value)(h H:ai):Prop:=
 match m with
 | .map (some r)=>H[r]? =h[r]?
 |_=>True
def iK(P:Program)(t:TypeId)(m k:Value)(o:Bool)(h:ai)(v:Value):Prop:=
 ∀H,kN m h H->rd P (Instr.lookup t m k o) H=some v
def Se(P:Program)(a:Array TypeId)(T:TypeId)(m:Value)(h:ai)(v:Value):Prop:=
 ∀H,kN m h H->rd P (Builtin.len_ a T #[m]) H=some v
def xR(P:Program)(s d:TypeId)(v:Value)(h:ai)(b:ByteArray):Prop:=rd P (convert s d v) h=some (.string b)
def Sf:Value->Bool
 | .map _=>true
 |_=>false
def nW(P:Program)(o:Oper)(g:Env)(h:ai)(K:Value->Option (ai->Prop)->Prop):Prop:=
 match o.op with
 | .pick c a b=>(match g.ev c,g.ev a,g.ev b with
  |some (.bool q),some V,some D=>if q=true then K V none else K D none
  |_,_,_=>False)
 | .load t x=>(match g.ev x with
  |some (.pointer p)=>aN p λa=>su P t h a K
  |_=>False)
 | .nilCheck x=>(match g.ev x with
  |some (.pointer p)=>aN p λa=>K (.pointer (some a)) none
  |_=>qP P o g K)
 | .binOp op t x y _=>(match g.ev x,g.ev y with
  |some u,some v=>HY P o op t u v g K
  |_,_=>False)
 | .fieldAddr s x f=>(match g.ev x,Fz P s f with
  |some (.pointer p),some O=>aN p λa=>K (.pointer (some (a.add O))) none
  |_,_=>False)
 | .indexAddr t x i=>(match P.underlying t,g.ev x,g.ev i with
  |some (.slice e),some (.slice B len _),some (.int _ n)=>(match P.info? e with
   |some i=>(0<=n/\n<(len:Int))/\aN B λa=>K (.pointer (some (a.add (n.toNat*i.size)))) none
   |none=>False)
  |some (.array len e),some (.pointer B),some (.int _ n)=>(match P.info? e with
   |some i=>(0<=n/\n<(len:Int))/\aN B λa=>K (.pointer (some (a.add (n.toNat*i.size)))) none
   |none=>False)
  |_,_,_=>False)
 | .index t x i=>(match P.underlying t,g.ev x,g.ev i with
  |some .string,some (.string s),some (.int _ n)=>(0<=n/\n<(s.size:Int))/\K (.int .u8 (s.data.toList.getD n.toNat 0).toNat) none
  |some (.array len e),some (.agg C),some (.int _ n)=>(match wH P e,P.info? e,Nat.beq len C.toList.length with
   |some _,some i,true=>(match Nat.beq i.size 1 with
    |true=>(0<=n/\n<(len:Int))/\HZ n C.toList 0 λv=>K v none
    |false=>False)
   |_,_,_=>False)
  |_,_,_=>False)
 | .slice t x L r w=>(match w,P.underlying t,g.ev x,ue g L,ue g r with
  |none,some (.slice e),some (.slice p len cap),some l,some H=>(match P.info? e with
   |some i=>DF len cap l H λa b=>K (.slice (cQ p cap a i.size) (b - a) (cap - a)) none
   |none=>False)
  |none,some .string,some (.string s),some l,some H=>DF s.size s.size l H λa b=>K (.string (s.extract a b)) none
  |none,some (.array n e),some (.pointer p),some l,some H=>(match P.info? e with
   |some i=>aN p λA=>DF n n l H λa b=>K (.slice (cQ (some A) n a i.size) (b - a) (n - a)) none
   |none=>False)
  |some M,some (.slice e),some (.slice p _ cap),some none,some (some b)=>(match g.ev M,P.info? e with
   |some (.int _ m),some i=>(0<=m/\m<=(cap:Int))/\(0<=b/\b<=m)/\K (.slice (cQ p m.toNat 0 i.size) b.toNat m.toNat) none
   |_,_=>False)
  |_,_,_,_,_=>False)
 | .lookup t x i z=>(match g.ev x,g.ev i with
  |some m,some k=>tM P o.type λv=>iK P t m k z h v/\K v (some (kN m h))
  |_,_=>False)
 | .call { callee:=.builtin .len,args:=args,argTypes:=T } =>(match args.toList with
  | [x]=>(match g.ev x with
   |some m=>(match Sf m with
    |true=> ∃n:Int,Se P T o.type m h (.int .i64 n)/\K (.int .i64 n) (some (kN m h))
    |false=>qP P o g K)
   |none=>False)
  |_=>False)
 | .convert s d x=>(match P.underlying d with
  |some .string=>(match g.ev x with
   |some v=> ∃b:ByteArray,xR P s d v h b/\K (.string b) (some λj=>xR P s d v j b)
   |none=>False)
  |_=>qP P o g K)
 | .select _ _=>False
 |_=>qP P o g K
def mv(P:Program)(o:Oper):Bool:=
 match o.op with
 | .move _| .assign _| .pick .. | .load .. | .nilCheck _| .binOp .. | .unOp .. | .makeInterface .. | .makeFunc .. | .slice .. | .fieldAddr .. | .field .. | .indexAddr .. | .index .. | .lookup .. | .extract .. | .build .. =>true
 | .convert _ d _=>(match P.underlying d with|some (.int _)=>true|some .string=>true|_=>false)
 | .call { callee:=.builtin b,.. } =>(match b with| .len| .cap| .min| .max=>true|_=>false)
 |_=>false
def mP(P:Program)(g:FuncId):Bool:=
 match P.funcs[g]? with
 |some f=>f.body.isSome && !(f.name== "runtime.NumGoroutine")
 |none=>false
def Nk(a:Env):List Operand->Option (List Value)
 | []=>some []
 |x::X=>match a.ev x,Nk a X with
  |some v,some V=>some (v::V)
  |_,_=>none
def zJ(b:Builtin)(a:Array TypeId)(T:TypeId)(v:Array Value):Option (Sem Value):=
 match b with
 | .append=>some (Builtin.append_ a T v)
 | .copy=>some (Builtin.copy_ a T v)
 | .delete=>some (Builtin.delete_ a T v)
 | .clear=>some (Builtin.clear_ a T v)
 |_=>none
def KS(P:Program)(o:Oper)(a:Env)(h:ai)(K:fO):Prop:=
 match Sd a o with
 |true=>(match wI P (execOp a.yw o)with
  |some (O,k)=>bf h O λb H=>(match kM P (k b)with|some (.value v)=>K v H|_=>False)
  |none=>False)
 |false=>False
def pG(P:Program)(o:Oper)(e:Env)(h:ai)(K:fO):Prop:=
 match o.op with
 | .alloc _=>KS P o e h K
 | .box _ _=>KS P o e h K
 | .buildSlice _ _ _=>KS P o e h K
 | .makeMap _ _=>KS P o e h K
 | .store t x y=>(match e.ev x,e.ev y with
  |some (.pointer p),some v=>aN p λa=>(match P.info? t with
   |some i=>(match Nat.beq i.size v.cells.toList.length with|true=>dV a v.cells.toList 0 h (K undef)|false=>False)
   |none=>False)
  |_,_=>False)
 | .mapUpdate t m k x=>(match e.ev m,e.ev k,e.ev x with
  |some m,some k,some x=>aT P (Instr.mapUpdate t m k x) h λ_ H=>K undef H
  |_,_,_=>False)
 | .insert t m k x=>(match e.ev m,e.ev k,e.ev x with
  |some m,some k,some x=>aT P (Instr.mapUpdate t m k x) h λ_ H=>K undef H
  |_,_,_=>False)
 | .makeSlice t l c=>(match e.ev l,e.ev c with
  |some l,some c=>aT P (Instr.makeSlice t l c) h λv H=>tM P o.type λV=>v=V/\K V H
  |_,_=>False)
 | .convert s d x=>(match e.ev x with
  |some x=>aT P (convert s d x) h λv H=>tM P o.type λV=>v=V/\K V H
  |none=>False)
 | .call { callee:=.builtin b,args:=args,argTypes:=T } =>(match Nk e args.toList with
  |some j=>(match zJ b T o.type j.toArray with
   |some s=>aT P s h λv H=>tM P o.type λV=>v=V/\K V H
   |none=>False)
  |none=>False)
 | .call { callee:=.value f,args:=args,argTypes:=_ } =>(match e.ev f,Nk e args.toList with
  |some (.func (.func g) first C),some j=>(match mP P g with
   |true=>kL P g (first.toList++j++C.toList).toArray h λv H=>tM P o.type λV=>v=V/\K V H
   |false=>False)
  |_,_=>False)
 | .range t x=>(match e.ev x with
  |some x=>aT P (Instr.range t x) h λv H=> ∃r:Nat,v=.pointer (some ⟨r,0,none⟩)/\K (.pointer (some ⟨r,0,none⟩)) H
  |none=>False)
 | .next I b=>(match e.ev I with
  |some I=>aT P (Instr.next I b o.type) h λv H=>(v=.tuple #[.bool false]/\K (.tuple #[.bool false]) H)\/∃k x:Value,v=.tuple #[.bool true,k,x]/\K (.tuple #[.bool true,k,x]) H
  |none=>False)
 | .entry I=>(match e.ev I with
  |some I=>aT P (Instr.entry I) h λv H=> ∃k x:Value,v=.tuple #[k,x]/\K (.tuple #[k,x]) H
  |none=>False)
 |_=>False

end
section
variable {P : Program} {h : ai}
theorem zK{b:Type}(a:b)(K:b->ai->Prop):aT P (pure a:Sem b) h K↔K a h:=ff
theorem dW{b c:Type}(s:Sem b)(f:b->Sem c)(K:c->ai->Prop):aT P (s>>=f) h K↔aT P s h (λa H=>aT P (f a) H K):=Fv s f h K
theorem Nl{t:TypeId}{d:TypeDesc}(H:P.underlying t=some d)(K:TypeDesc->ai->Prop):aT P (underlying t) h K↔K d h:=by
 unfold underlying;rw[dW];show aT P (match P.underlying t with|some d=>pure d|none=>stuck "no such type") h K↔_;rw[H];exact ff
theorem DG{t:TypeId}{i:TypeInfo}(H:P.info? t=some i)(K:TypeInfo->ai->Prop):aT P (typeInfo t) h K↔K i h:=by
 unfold typeInfo;rw[dW];show aT P (match P.info? t with|some d=>pure d|none=>stuck "no such type") h K↔_;rw[H];exact ff
theorem Ia{t:TypeId}{i:TypeInfo}(H:P.info? t=some i)(K:Nat->ai->Prop):aT P (sizeOf t) h K↔K i.size h:=by
 unfold sizeOf;rw[dW,DG H];exact ff
theorem jJ{b:Type}(a:b):rd P (pure a:Sem b) h=some a:=rfl
theorem bM{t:TypeId}{d:TypeDesc}(H:P.underlying t=some d):rd P (underlying t) h=some d:=by
 show rd P (match P.underlying t with|some d=>pure d|none=>stuck "no such type") h=_;rw[H];rfl
theorem iu{t:TypeId}{i:TypeInfo}(H:P.info? t=some i):rd P (typeInfo t) h=some i:=by
 show rd P (match P.info? t with|some d=>pure d|none=>stuck "no such type") h=_;rw[H];rfl
theorem iw{t:TypeId}{i:TypeInfo}(H:P.info? t=some i):rd P (sizeOf t) h=some i.size:=by
 unfold sizeOf;rw[bB _ _ _ _ (iu H)];rfl
theorem FA{t:TypeId}(H:zF P t=true): ∃d,P.underlying t=some d/\((∃fs,d=.struct fs)\/∃n e,d=.array n e):=by
 unfold zF at H;split at H
 .rename_i fs e;exact⟨_,e,.inl ⟨_,rfl⟩⟩
 .rename_i n E e;exact⟨_,e,.inr ⟨_,_,rfl⟩⟩
 .cases H
theorem tO{t:TypeId}(H:zF P t=true):rd P (isAgg t) h=some true:=by
 obtain⟨d,a,b⟩:=FA H;unfold isAgg;rw[bB _ _ _ _ (bM a)];rcases b with⟨fs,rfl⟩|⟨n,e,rfl⟩<;>rfl
theorem na{t:TypeId}{l:gR}(H:wH P t=some l):rd P (isAgg t) h=some false:=by
 unfold wH at H;unfold isAgg;cases a:P.underlying t with
 |none=>rw[a]at H;cases H
 |some d=>rw[bB _ _ _ _ (bM a)];rw[a]at H;cases d<;>first|rfl|cases H
end
section
variable {P : Program}
theorem DH{a:Addr}{h:ai}{v:Value}(H:aU h a=some v):rd P (load a) h=some v:=by
 unfold load;simp only[rd,H]
theorem je{a:Addr}: ∀(V:List Value)(i:Nat)(A:Array Value)(h:ai),dN a V i h->rd P (loadCellsFrom a i V.length A) h=some (A++V.toArray)
 | [],i,A,h,_=>by simp[loadCellsFrom,jJ]
 |v::V,i,A,h,c=>by
  obtain⟨H,b⟩:=c;simp only[bn,loadCellsFrom];rw[bB _ _ _ _ (DH H),je V (i+1) _ h b];simp
theorem uf{h:ai}{a:Addr}: ∀(l:List gR)(i:Nat)(F:List Value->Prop),Nj h a l i F->∃V,V.length=l.length/\dN a V i h/\F V
 | [],_,_,H=>⟨[],rfl,trivial,H⟩
 |_::l,i,_,H=>by
  obtain⟨v,b,c⟩:=gR.mO H;obtain⟨V,f,d,e⟩:=uf l (i+1) _ c;exact⟨v::V,by simp[f],⟨b,d⟩,e⟩
def sw:Option (ai->Prop)->ai->Prop
 |some S,h=>S h
 |none,_=>True
def Yv(P:Program)(s:Sem Value)(S:Option (ai->Prop))(v:Value):Prop:=
 ∀h,sw S h->rd P s h=some v
theorem zL{t:TypeId}{h:ai}{a:Addr}{K:Value->Option (ai->Prop)->Prop}(H:su P t h a K):
  ∃v S,K v S/\sw S h/\Yv P (loadVar t a) S v:=by
 unfold su at H;split at H
 .rename_i j;split at H
  .rename_i L i n k;split at H
   .rename_i m;obtain⟨V,d,b,c⟩:=uf _ _ _ H;refine⟨_,_,c,b,λg f=> ?_⟩;unfold loadVar;rw[bB _ _ _ _ (tO j)];simp only[bm];rw[bB _ _ _ _ (iw k)];have e:i.size=V.length:=by rw[d];exact bR m
    unfold loadCells;rw[e,bB _ _ _ _ (je V 0 #[] g f)];simp[jJ]
   .exact H.elim
  .exact H.elim
 .split at H
  .rename_i l d;obtain⟨v,b,c⟩:=gR.mO H;refine⟨v,_,c,b,λg f=> ?_⟩;unfold loadVar;rw[bB _ _ _ _ (na d)];exact DH f
  .exact H.elim
theorem qQ{o:Oper}{c:Env}{a:Operand->Value}{K:Value->Option (ai->Prop)->Prop}(e:Fits c a)(f: ∀C b,o.op≠ .select C b)(h:qP P o c K):
  ∃v,K v none/\∀H,rd P (execOp a o) H=some (.value v):=by
 unfold qP at h;split at h
 .rename_i d;split at h
  .rename_i v g;exact⟨v,h,λH=>ud _ _ (by rw[<-Fy e o d f];exact g) _⟩
  .exact h.elim
 .exact h.elim
theorem CA{t:TypeId}{u v:Value}{b:Bool}(h:qO P t u v=some b): ∀a,rd P (Op.equal t u v) a=some b:=by
 intro a;unfold Op.equal Op.maxDepth;unfold qO at h;split at h
 .split at h
  .rename_i p e H;simp only[bC]at h;subst h;unfold Op.equalIn;rw[bB _ _ _ _ (bM H)];cases p<;>rfl
  .cases h
 .split at h
  .rename_i m k e H;simp only[bC]at h;subst h;unfold Op.equalIn;rw[bB _ _ _ _ (bM H)];cases m<;>rfl
  .cases h
 .split at h
  .rename_i p _ _ e H;simp only[bC]at h;subst h;unfold Op.equalIn;rw[bB _ _ _ _ (bM H)];cases p<;>rfl
  .cases h
 .cases h
theorem u9{op:BinOp}{t:TypeId}{x y:Operand}{u v:Value}{b:Bool}(h:qO P t u v=some b): ∀H,rd P (eqGuard op t x y u v) H=some ():=by
 intro H;unfold qO at h;unfold eqGuard;split at h
 .split at h
  .split<;>exact rfl
  .cases h
 .split at h
  .split<;>exact rfl
  .cases h
 .split at h
  .split<;>exact rfl
  .cases h
 .cases h
theorem xS{t:TypeId}{u v:Value}{b:Bool}(h:qO P t u v=some b):
  (∃p,u=.pointer p/\v=.pointer none)\/(∃m,u=.map m/\v=.map none)\/(∃p l c L C,u=.L p l c/\v=.L none L C):=by
 unfold qO at h;split at h
 .split at h
  .exact .inl ⟨_,rfl,rfl⟩
  .cases h
 .split at h
  .exact .inr (.inl ⟨_,rfl,rfl⟩)
  .cases h
 .split at h
  .exact .inr (.inr ⟨_,_,_,_,_,rfl,rfl⟩)
  .cases h
 .cases h
theorem kj{op:BinOp}{t:TypeId}{x y:Operand}{u v:Value}(h:op≠ .eql)(H:op≠ .neq):eqGuard op t x y u v=pure ():=by
 cases op<;>first|rfl|exact absurd rfl h|exact absurd rfl H
theorem lY{o:Oper}{op:BinOp}{t T:TypeId}{x y:Operand}{a:Operand->Value}{u v r:Value}{h:ai}(d:o.op=.binOp op t x y T)(e:a x=u)(f:a y=v)(H:rd P (eqGuard op t x y u v) h=some ())(b:rd P (binOp op t u v) h=some r):rd P (execOp a o) h=some (.value r):=by
 unfold execOp;rw[d];simp only[e,f];have c:rd P (do eqGuard op t x y u v;binOp op t u v) h=some r:=by rw[bB _ _ _ _ H];exact b
 rw[bB _ _ _ _ c];rfl
theorem CB{o:Oper}{op:BinOp}{t T:TypeId}{x y:Operand}{e:Operand->Value}{u v:Value}(f:o.op=.binOp op t x y T)(d:op=.eql\/op=.neq)(j:e x=u)(k:e y=v)(h:wJ P o t u v=true){b:Bool}(a:BP P t u v b):
  ∀H,rd P (execOp e o) H=some (.value (.B (if op=.eql then b else !b))):=by
 intro H;have i:rd P (eqGuard op t x y u v) H=some ():=by
  unfold wJ at h;split at h
  .have g: ∃c,y=.const c:=by
    unfold HX at h;rw[f]at h;cases y<;>first|exact⟨_,rfl⟩|cases h
   obtain⟨c,rfl⟩:=g;unfold eqGuard;rcases d with rfl|rfl<;>cases u<;>first|rfl|(cases x<;>rfl)
  .split at h
   .unfold eqGuard;rcases d with rfl|rfl
    .show rd P (program>>=λp=>program>>=λq=>if(!p.eqGuardType q.depth t)=true then pure ()else _) H=some ();rw[bB _ _ _ _ (show rd P program H=some P from rfl),bB _ _ _ _ (show rd P program H=some P from rfl),af h];rfl
    .show rd P (program>>=λp=>program>>=λq=>if(!p.eqGuardType q.depth t)=true then pure ()else _) H=some ();rw[bB _ _ _ _ (show rd P program H=some P from rfl),bB _ _ _ _ (show rd P program H=some P from rfl),af h];rfl
   .cases h
  .split at h
   .unfold eqGuard;split<;>exact rfl
   .cases h
  .cases h
 refine lY f j k i ?_;have K: ∀u v:Value,(wJ P o t u v=true)->BP P t u v b->rd P (binOp op t u v) H=some (.B (if op=.eql then b else !b)):=by
  intro u v h a;unfold wJ at h;split at h
  .rcases d with rfl|rfl
   .have:binOp .eql t u .nilIface=(Op.equal t u .nilIface>>=λq=>pure (Value.bool q)):=by cases u<;>rfl
    rw[this,bB _ _ _ _ (a H)];rfl
   .have:binOp .neq t u .nilIface=(Op.equal t u .nilIface>>=λq=>pure (Value.bool (!q))):=by cases u<;>rfl
    rw[this,bB _ _ _ _ (a H)];rfl
  .split at h
   .rcases d with rfl|rfl
    .show rd P (Op.equal t _ _>>=λq=>pure (Value.bool q)) H=_;rw[bB _ _ _ _ (a H)];rfl
    .show rd P (Op.equal t _ _>>=λq=>pure (Value.bool (!q))) H=_;rw[bB _ _ _ _ (a H)];rfl
   .cases h
  .split at h
   .rcases d with rfl|rfl
    .show rd P (Op.equal t _ _>>=λq=>pure (Value.bool q)) H=_;rw[bB _ _ _ _ (a H)];rfl
    .show rd P (Op.equal t _ _>>=λq=>pure (Value.bool (!q))) H=_;rw[bB _ _ _ _ (a H)];rfl
   .cases h
  .cases h
 exact K u v h a
theorem KT{o:Oper}{op:BinOp}{t T:TypeId}{x y:Operand}{B:Env}{q:Operand->Value}{u v:Value}{K:Value->Option (ai->Prop)->Prop}(f:o.op=.binOp op t x y T)(j:Fits B q)(g:q x=u)(i:q y=v)(h:HY P o op t u v B K):
  ∃v,K v none/\∀d,rd P (execOp q o) d=some (.value v):=by
 have n: ∀C b,o.op≠ .select C b:=by rw[f];intro C b e;cases e
 unfold HY at h;split at h
 .split at h
  .rename_i z;obtain⟨b,H,r⟩:=h;exact⟨_,r,CB f (.inl rfl) g i z H⟩
  .split at h
   .rename_i b H;refine⟨_,h,λd=>lY f g i (u9 H d) ?_⟩;have s:binOp .eql t u v=(do pure (.B (<-Op.equal t u v))):=by
     rcases xS H with⟨p,rfl,rfl⟩|⟨m,rfl,rfl⟩|⟨p,l,c,L,D,rfl,rfl⟩<;>rfl
    rw[s,bB _ _ _ _ (CA H d)];rfl
   .exact qQ j n h
 .split at h
  .rename_i z;obtain⟨b,H,r⟩:=h;exact⟨_,r,CB f (.inr rfl) g i z H⟩
  .split at h
   .rename_i b H;refine⟨_,h,λd=>lY f g i (u9 H d) ?_⟩;have s:binOp .neq t u v=(do pure (.B (!(<-Op.equal t u v)))):=by
     rcases xS H with⟨p,rfl,rfl⟩|⟨m,rfl,rfl⟩|⟨p,l,c,L,D,rfl,rfl⟩<;>rfl
    rw[s,bB _ _ _ _ (CA H d)];rfl
   .exact qQ j n h
 .split at h
  .rename_i k a A b;split at h
   .rename_i w;obtain rfl:k=A:=aV w;split at h
    .exact h.elim
    .rename_i H;refine⟨_,h,λd=>lY f g i (by rw[kj bU bU];rfl) ?_⟩;simp only[binOp,fj,not_true,aQ,Op.intDiv,H];rfl
   .exact h.elim
  .exact h.elim
 .split at h
  .rename_i k a A b;split at h
   .rename_i w;obtain rfl:k=A:=aV w;split at h
    .exact h.elim
    .rename_i H;refine⟨_,h,λd=>lY f g i (by rw[kj bU bU];rfl) ?_⟩;simp only[binOp,fj,not_true,aQ,Op.intDiv,H];rfl
   .exact h.elim
  .exact h.elim
 .split at h
  .split at h
   .exact h.elim
   .rename_i H;refine⟨_,h,λd=>lY f g i (by rw[kj bU bU];rfl) ?_⟩;simp only[binOp,Op.shift,H,aQ];rfl
  .exact h.elim
 .split at h
  .split at h
   .exact h.elim
   .rename_i H;refine⟨_,h,λd=>lY f g i (by rw[kj bU bU];rfl) ?_⟩;simp only[binOp,Op.shift,H,aQ];rfl
  .exact h.elim
 .split at h
  .obtain⟨H,h⟩:=h;refine⟨_,h,λd=>lY f g i (by rw[kj bU bU];rfl) ?_⟩;simp only[binOp,Op.stringOp];rw[dy];rfl
  .exact qQ j n h
 .exact qQ j n h
theorem jC{x:Value}{k:IntKind}{n:Int}{y:Nat}{c:BoundsCode}{h:ai}(b:x=.int k n)(H:0<=n)(a:n<=(y:Int)):rd P (Instr.sliceBound x y c) h=some n.toNat:=by
 subst b;show rd P (if 0<=n/\n<=(y:Int)then _ else _) h=_;rw[af ⟨H,a⟩];rfl
theorem nY{b:Env}{a:Operand->Value}(H:Fits b a){x:Option Operand}{n:Option Int}(h:ue b x=some n):
  (x=none/\n=none)\/∃k m,n=some m/\x.map a=some (.int k m):=by
 cases x with
 |none=>simp only[ue,bC]at h;exact .inl ⟨rfl,h.symm⟩
 |some x=>
  simp only[ue]at h;split at h
  .rename_i k m c;simp only[bC]at h;exact .inr ⟨k,m,h.symm,by simp[H _ _ c]⟩
  .cases h
theorem nf{g:Env}{f:Operand->Value}(j:Fits g f){L k:Option Operand}{l r:Option Int}(o:ue g L=some l)(p:ue g k=some r){isS:Bool}{len cap:Nat}{F:Nat->Nat->Prop}(e:DF len cap l r F): ∃a b,F a b/\∀(h:ai),
   rd P (Instr.sliceBounds isS len cap (L.map f) (k.map f) none) h=some (a,b,cap):=by
 rcases nY j o with⟨rfl,rfl⟩|⟨K,m,rfl,E⟩<;>rcases nY j p with⟨rfl,rfl⟩|⟨s,M,rfl,i⟩
 .exact⟨0,len,e,λh=>rfl⟩
 .obtain⟨⟨H,c⟩,d⟩:=e;refine⟨0,M.toNat,d,λh=> ?_⟩;unfold Instr.sliceBounds;rw[i,bB _ _ _ _ (jJ _),bB _ _ _ _ (jC rfl H c)];rfl
 .obtain⟨⟨H,c⟩,d⟩:=e;refine⟨m.toNat,len,d,λh=> ?_⟩;unfold Instr.sliceBounds;rw[E,bB _ _ _ _ (jJ _)];simp only[gD];rw[bB _ _ _ _ (jJ _),bB _ _ _ _ (jC rfl H c)];rfl
 .obtain⟨⟨H,c⟩,⟨n,q⟩,d⟩:=e;refine⟨m.toNat,M.toNat,d,λh=> ?_⟩;unfold Instr.sliceBounds;rw[E,i,bB _ _ _ _ (jJ _),bB _ _ _ _ (jC rfl H c),bB _ _ _ _ (jC rfl n ag)];rfl
theorem CC{n:Int}: ∀(V:List Value)(i:Nat)(F:Value->Prop),HZ n V i F->∀j,n=((i+j:Nat):Int)->∀v,V[j]? =some v->F v
 | [],_,_,_,j,_,v,h=>by simp at h
 |u::V,i,F,b,j,c,v,h=>by
  obtain⟨H,a⟩:=b;cases j with
  |zero=>simp only[eO,bC]at h;subst h;exact H c
  |succ j=>exact CC V (i+1) F a j ag v (by simpa using h)
theorem kO{s:Sem Value}{v:Value}{h:ai}(H:rd P s h=some v):rd P (do pure (Next.value (<-s))) h=some (.value v):=by
 rw[bB _ _ _ _ H];rfl
theorem pH{o:Oper}{X:Env}{J:Operand->Value}{h:ai}{K:Value->Option (ai->Prop)->Prop}(d:Fits X J)(H:nW P o X h K):
  ∃v S,K v S/\sw S h/\∀c,sw S c->rd P (execOp J o) c=some (.value v):=by
 have V:(∀C b,o.op≠ .select C b)->qP P o X K->∃v S,K v S/\sw S h/\∀c,sw S c->rd P (execOp J o) c=some (.value v):=λA E=>by
  obtain⟨v,g,j⟩:=qQ d A E;exact⟨v,none,g,trivial,λc _=>j c⟩
 unfold nW at H;split at H
 .rename_i k' a b f;split at H
  .rename_i j' va vb hc O r;have e:execOp J o=pure (.value (if j' then va else vb)):=by
    unfold execOp;rw[f];simp only[d _ _ hc,d _ _ O,d _ _ r];rfl
   split at H
   .rename_i R;exact⟨va,none,H,trivial,λc _=>by rw[e,af R];rfl⟩
   .rename_i R;exact⟨vb,none,H,trivial,λc _=>by rw[e,ae R];rfl⟩
  .exact H.elim
 .rename_i t x f;split at H
  .rename_i p E;obtain⟨a,rfl,H⟩:=bT.1 H;obtain⟨v,S,g,j,M⟩:=zL H;refine⟨v,S,g,j,λc A=> ?_⟩;unfold execOp;rw[f];simp only[d _ _ E];exact kO (M c A)
  .exact H.elim
 .rename_i x f;split at H
  .rename_i p E;obtain⟨a,rfl,H⟩:=bT.1 H;refine⟨_,none,H,trivial,λc _=> ?_⟩;unfold execOp;rw[f];simp only[d _ _ E];rfl
  .exact V (by rw[f];intro C b e;cases e) H
 .rename_i op t x c' t' f;split at H
  .rename_i p' v hu U;obtain⟨v,g,j⟩:=KT f d (d _ _ hu) (d _ _ U) H;exact⟨v,none,g,trivial,λc _=>j c⟩
  .exact H.elim
 .rename_i s x m' f;split at H
  .rename_i p n' E w;obtain⟨a,rfl,H⟩:=bT.1 H;refine⟨_,none,H,trivial,λc _=> ?_⟩;unfold Fz at w;split at w
   .rename_i fs g';split at w
    .rename_i L f';split at w
     .rename_i i y;split at w
      .cases w
      .rename_i hz;simp only[bC]at w;subst w;unfold execOp;rw[f];simp only[d _ _ E];refine kO ?_;unfold Instr.fieldAt;rw[bB _ _ _ _ (bM g')];simp only[f'];show rd P (do let c'<-fieldPlace a L;pure (Value.pointer (some c'))) c=_;have h': ¬i.size=0:=λe=>by rw[e]at hz;cases hz
       have g:rd P (fieldPlace a L) c=some (a.add L.offset):=by
        unfold fieldPlace;rw[bB _ _ _ _ (iw y),ae h'];rfl
       rw[bB _ _ _ _ g];rfl
     .cases w
    .cases w
   .cases w
  .exact H.elim
 .rename_i t x ix f;split at H
  .rename_i e d' len cap k n l q y;split at H
   .rename_i i u;obtain⟨⟨g,j⟩,H⟩:=H;obtain⟨a,rfl,H⟩:=bT.1 H;refine⟨_,none,H,trivial,λc _=> ?_⟩;unfold execOp;rw[f];simp only[d _ _ q,d _ _ y];refine kO ?_;unfold Instr.indexAt;show rd P (do let x<-underlying t;_) c=_;rw[bB _ _ _ _ (bM l)];simp only;rw[bB _ _ _ _ (jJ _)];simp only;rw[bB _ _ _ _ (bM l)];simp only;rw[af ⟨g,j⟩,bB _ _ _ _ (iw u)];rfl
   .exact H.elim
  .rename_i len e d' k n l q y;split at H
   .rename_i i u;obtain⟨⟨g,j⟩,H⟩:=H;obtain⟨a,rfl,H⟩:=bT.1 H;refine⟨_,none,H,trivial,λc _=> ?_⟩;unfold execOp;rw[f];simp only[d _ _ q,d _ _ y];refine kO ?_;unfold Instr.indexAt;show rd P (do let x<-underlying t;_) c=_;rw[bB _ _ _ _ (bM l)];simp only[Instr.sureAddr];rw[bB _ _ _ _ (jJ _),bB _ _ _ _ (jJ _)];simp only;rw[bB _ _ _ _ (bM l)];simp only;rw[af ⟨g,j⟩,bB _ _ _ _ (iw u)];rfl
   .exact H.elim
  .exact H.elim
 .rename_i t x ix f;split at H
  .rename_i s k n l q y;obtain⟨⟨g,j⟩,H⟩:=H;refine⟨_,none,H,trivial,λc _=> ?_⟩;unfold execOp;rw[f];simp only[d _ _ q,d _ _ y];refine kO ?_;unfold Instr.index;show rd P (do let x<-underlying t;_) c=_;rw[bB _ _ _ _ (bM l)];have G:n.toNat<s.size:=ag
   have Q:s[n.toNat]? =some (s.data.toList.getD n.toNat 0):=by
    rw[getElem?_pos s n.toNat G];congr 1
    rw[bh,aj (by simpa using G)];rfl
   simp only[af g,Q];rfl
  .rename_i len e C k n l q y;split at H
   .rename_i i r u a';split at H
    .rename_i T;obtain⟨⟨g,j⟩,H⟩:=H;have a':=bR a';have T:=bR T;have G:n.toNat<C.toList.length:=ag
     have z:=CC _ _ _ H n.toNat ag _ (aj G);refine⟨_,none,z,trivial,λc _=> ?_⟩;unfold execOp;rw[f];simp only[d _ _ q,d _ _ y];refine kO ?_;unfold Instr.index;show rd P (do let x<-underlying t;_) c=_;rw[bB _ _ _ _ (bM l)];simp only;rw[af ⟨g,j⟩,bB _ _ _ _ (iw u)];unfold part;rw[bB _ _ _ _ (na r)];simp only[ar,aQ];rw[T,cE];have Q:C[n.toNat]? =some (C.toList[n.toNat]'G):=bU
     rw[Q];rfl
    .exact H.elim
   .exact H.elim
  .exact H.elim
 .rename_i t x lo y mx f;split at H
  .rename_i e p len cap b' Z l q D B;split at H
   .rename_i i u;obtain⟨a,b,z,r⟩:=nf (P:=P) (isS:=true) d D B H;refine⟨_,none,z,trivial,λc _=> ?_⟩;unfold execOp;rw[f];simp only[d _ _ q,gD];refine kO ?_;unfold Instr.sliceAt;rw[bB _ _ _ _ (bM l)];unfold Instr.slice;simp only;rw[bB _ _ _ _ (bM l)];simp only;rw[bB _ _ _ _ (r _)];simp only;rw[bB _ _ _ _ (iw u)];rfl
   .exact H.elim
  .rename_i s b' Z l q D B;obtain⟨a,b,z,r⟩:=nf (P:=P) (isS:=false) d D B H;refine⟨_,none,z,trivial,λc _=> ?_⟩;unfold execOp;rw[f];simp only[d _ _ q,gD];refine kO ?_;unfold Instr.sliceAt;rw[bB _ _ _ _ (bM l)];unfold Instr.slice;simp only;rw[bB _ _ _ _ (bM l)];simp only[Option.isSome_none,ar,aQ];rw[bB _ _ _ _ (r _)];rfl
  .rename_i n e p b' Z l q D B;split at H
   .rename_i i u;obtain⟨ad,rfl,H⟩:=bT.1 H;obtain⟨a,b,z,r⟩:=nf (P:=P) (isS:=false) d D B H;refine⟨_,none,z,trivial,λc _=> ?_⟩;unfold execOp;rw[f];simp only[d _ _ q,gD];refine kO ?_;unfold Instr.sliceAt;rw[bB _ _ _ _ (bM l)];simp only[Instr.sureAddr];rw[bB _ _ _ _ (jJ _),bB _ _ _ _ (r _)];simp only;rw[bB _ _ _ _ (iw u)];show some _=some _;unfold cQ;congr 2
    split<;>rfl
   .exact H.elim
  .rename_i mo e p len cap b l q D B;split at H
   .rename_i k m i I u;obtain⟨⟨g,j⟩,⟨M,h4⟩,z⟩:=H;rcases nY d D with⟨rfl,_⟩|⟨_,_,F,_⟩
    case inr=>cases F
    rcases nY d B with⟨_,F⟩|⟨k2,m2,F,e2⟩
    .cases F
    cases F;refine⟨_,none,z,trivial,λc _=> ?_⟩;unfold execOp;rw[f];simp only[d _ _ q,d _ _ I,e2,gD,dq];refine kO ?_;unfold Instr.sliceAt;rw[bB _ _ _ _ (bM l)];unfold Instr.slice;simp only;rw[bB _ _ _ _ (bM l)];simp only;have r:rd P (Instr.sliceBounds true len cap none (some (.int k2 b)) (some (.int k m))) c=some (0,b.toNat,m.toNat):=by
     unfold Instr.sliceBounds;simp only;rw[bB _ _ _ _ (jC rfl g j),bB _ _ _ _ (jC rfl M ag)];rfl
    rw[bB _ _ _ _ r];simp only;rw[bB _ _ _ _ (iw u)];rfl
   .exact H.elim
  .exact H.elim
 .rename_i t x i ok f;split at H
  .rename_i m k I hk;obtain⟨v,g,j⟩:=zH H;refine⟨v,_,j,?_,λc A=> ?_⟩
   .show kN m h h;unfold kN;split<;>trivial
   .unfold execOp;rw[f];simp only[d _ _ I,d _ _ hk];exact kO (g c A)
  .exact H.elim
 .rename_i args o' f;split at H
  .rename_i x e';split at H
   .rename_i m I;split at H
    .obtain⟨n,g,j⟩:=H;refine⟨_,_,j,?_,λc A=> ?_⟩
     .show kN m h h;unfold kN;split<;>trivial
     .have O:args= #[x]:=by rw[<-Array.toArray_toList (xs:=args),e']
      unfold execOp;rw[f];simp only[resolve,O];rw[bB _ _ _ _ (jJ _)];simp only[invoke,builtin,List.map_toArray,cb,List.map_nil,d _ _ I];exact kO (g c A)
    .exact V (by rw[f];intro C b e;cases e) H
   .exact H.elim
  .exact H.elim
 .rename_i s l' x f;split at H
  .split at H
   .rename_i v U;obtain⟨b,g,j⟩:=H;refine⟨_,_,j,g,λc A=> ?_⟩;unfold execOp;rw[f];simp only[d _ _ U];exact kO A
   .exact H.elim
  .exact V (by rw[f];intro C b e;cases e) H
 .exact H.elim
 .rename_i i';exact V i' H
def lZ(p:ct)(h H:ai):Prop:= ∀x,p=some x->x.block<h.size->H[x.block]? =h[x.block]?
def Kp(h H:ai)(l:List (ct)):Prop:= ∀p∈l,lZ p h H
def DI(a:Env)(o:Oper):Option (ct):=
 match o.op with
 | .load _ x=>(match a.ev x with
  |some (.pointer p)=>some p
  |_=>some none)
 |_=>none
theorem nZ{h:ai}{a:Addr}{v:Value}(H:aU h a=some v):a.block<h.size:=by
 unfold aU at H;split at H
 .rename_i b;exact(fH.1 b).1
 .cases H
theorem lZ.cell{h c:ai}{a b:Addr}{v:Value}(e:lZ (some a) h c)(d:b.block=a.block)(H:aU h b=some v):aU c b=some v:=by
 have:=e a rfl (by rw[<-d];exact nZ H);rw[<-d]at this;unfold aU at H⊢;rw[this];exact H
theorem lZ.trans{p:ct}{h c d:ai}(a:lZ p h c)(b:lZ p c d):lZ p h d:=λx e f=>by
 have H:=a x e f;rw[b x e ?_,H];have:=Array.getElem?_eq_getElem f;rw[this]at H;exact(fH.1 H).1
theorem lZ.held{h H:ai}{a:Addr}(c:lZ (some a) h H): ∀(v:List Value)(i:Nat),dN a v i h->dN a v i H
 | [],_,_=>trivial
 |_::v,i,b=>⟨c.cell (by unfold Addr.add;split<;>rfl) b.1,lZ.held c v (i+1) b.2⟩
theorem BQ{t:TypeId}{h:ai}{a:Addr}{K:Value->Option (ai->Prop)->Prop}(H:su P t h a K):
  ∃v S,K v (some S)/\S h/\(∀b,lZ (some a) h b->S b)/\Yv P (loadVar t a) (some S) v:=by
 have n:=H;unfold su at H;split at H
 .rename_i j;split at H
  .rename_i L i o k;split at H
   .rename_i m;obtain⟨V,g,d,f⟩:=uf _ _ _ H;refine⟨_,_,f,d,λb c=>c.held _ _ d,λb c=> ?_⟩;unfold loadVar;rw[bB _ _ _ _ (tO j)];simp only[bm];rw[bB _ _ _ _ (iw k)];have e:i.size=V.length:=by rw[g];exact bR m
    unfold loadCells;rw[e,bB _ _ _ _ (je V 0 #[] b c)];simp[jJ]
   .exact H.elim
  .exact H.elim
 .split at H
  .rename_i l g;obtain⟨v,d,f⟩:=gR.mO H;refine⟨v,_,f,d,λb c=>c.cell rfl d,λb c=> ?_⟩;unfold loadVar;rw[bB _ _ _ _ (na g)];exact DH c
  .exact H.elim
theorem DJ{o:Oper}{d:Env}{g:Operand->Value}{h:ai}{K:Value->Option (ai->Prop)->Prop}{p:ct}(m:Fits d g)(c:DI d o=some p)(b:nW P o d h K):
  ∃v S,K v (some S)/\S h/\(∀H,lZ p h H->S H)/\∀H,S H->rd P (execOp g o) H=some (.value v):=by
 unfold DI at c;unfold nW at b;split at c
 .rename_i t x e;simp only[e]at b;split at b
  .rename_i q f;simp only[f,bC]at c;subst c;obtain⟨a,rfl,b⟩:=bT.1 b;obtain⟨v,S,i,j,l,k⟩:=BQ b;refine⟨v,S,i,j,l,λH n=> ?_⟩;unfold execOp;rw[e];simp only[m _ _ f];exact kO (k H n)
  .exact b.elim
 .cases c
theorem JV{b:Env}{a:Operand->Value}(H:Fits b a): ∀(X:List Operand)(V:List Value),Nk b X=some V->X.map a=V
 | [],V,h=>by simp only[Nk,bC]at h;exact h
 |x::X,V,h=>by
  simp only[Nk]at h;split at h
  .rename_i v e c d;simp only[bC]at h;rw[cb,H _ _ c,JV H X e d,h]
  .cases h
theorem qR{b:Env}{a:Operand->Value}(h:Fits b a){args:Array Operand}{v:List Value}(H:Nk b args.toList=some v):args.map a=v.toArray:=by
 have:=JV h _ _ H;rw[<-this];apply Array.ext'
 simp
theorem zj{o:Oper}{d:Env}{c:Operand->Value}{h:ai}{K:fO}(f:Fits d c)(i: ∀C b,o.op≠ .select C b)(H:KS P o d h K):pF P o c h K:=by
 unfold KS at H;split at H
 .rename_i e;split at H
  .rename_i O k g;have a:=H _ _ rfl rfl;dsimp only at a;split at a
   .rename_i v j;refine HW _ O k (by rw[<-Fy f o e i];exact g) _ _ ?_;exact Fx _ _ j _ _ a
   .exact a.elim
  .exact H.elim
 .exact H.elim
theorem CD{a:Addr}: ∀(V:List Value)(i:Nat)(h:ai)(K:ai->Prop),dV a V i h K->aT P (storeCells a V i) h (λ_ b=>K b)
 | [],_,_,_,H=>H
 |v::V,i,h,K,H=>by
  simp only[dV]at H;split at H
  .rename_i c;obtain⟨d,e,f⟩:=H;simp only[storeCells];rw[dW];exact⟨c,d,e,CD V (i+1) _ K (f _ rfl)⟩
  .exact H.elim
theorem wK{s:Sem Value}{h:ai}{t:TypeId}{K:fO}(a:aT P s h λv H=>tM P t λV=>v=V/\K V H):aT P s h K:=
 kB _ _ (λ_ _ b=>zI b) a
theorem wL{o:Oper}{L:Env}{J:Operand->Value}{h:ai}{K:fO}(n:Fits L J)(H:pG P o L h K):pF P o J h K:=by
 unfold pG at H;split at H
 .rename_i j;exact zj n (by rw[j];intro C b e;cases e) H
 .rename_i j;exact zj n (by rw[j];intro C b e;cases e) H
 .rename_i j;exact zj n (by rw[j];intro C b e;cases e) H
 .rename_i j;exact zj n (by rw[j];intro C b e;cases e) H
 .rename_i t x y j;split at H
  .rename_i p v q U;obtain⟨a,rfl,H⟩:=bT.1 H;split at H
   .rename_i i R;split at H
    .rename_i B;unfold pF execOp;rw[j];simp only[n _ _ q,n _ _ U];rw[dW];unfold Instr.storeAt;rw[dW];show aT P (storeVar t a v) h _;unfold storeVar;rw[dW,Ia R];have e:v.cells.size=i.size:=by have:=bR B;simpa using this.symm
     simp only[e,fj,not_true,aQ];exact CD _ _ _ _ H
    .exact H.elim
   .exact H.elim
  .exact H.elim
 .rename_i t m k x j;split at H
  .rename_i m k x A z q;unfold pF execOp;rw[j];simp only[n _ _ A,n _ _ z,n _ _ q];rw[dW];exact H
  .exact H.elim
 .rename_i t m k x j;split at H
  .rename_i m k x A z q;unfold pF execOp;rw[j];simp only[n _ _ A,n _ _ z,n _ _ q];rw[dW];exact H
  .exact H.elim
 .rename_i t l c j;split at H
  .rename_i l c S M;unfold pF execOp;rw[j];simp only[n _ _ S,n _ _ M];rw[dW];exact wK H
  .exact H.elim
 .rename_i s d x j;split at H
  .rename_i x q;unfold pF execOp;rw[j];simp only[n _ _ q];rw[dW];exact wK H
  .exact H.elim
 .rename_i b args X j;split at H
  .rename_i V D;split at H
   .rename_i s G;unfold pF execOp;rw[j];simp only[resolve,qR n D];rw[dW,zK];simp only[invoke];cases b<;>simp only[zJ]at G<;>first|cases G|skip
    all_goals (simp only[builtin];rw[dW];exact wK H)
   .exact H.elim
  .exact H.elim
 .rename_i f args X j;split at H
  .rename_i g first E V Q D;split at H
   .rename_i u;unfold pF execOp;rw[j];simp only[resolve,qR n D,n _ _ Q,Deferred.ofValue];rw[dW,zK];simp only[invoke,callFunc];rw[dW];unfold mP at u;split at u
    .rename_i F O;simp only[aW,gG]at u;show aT P (match P.funcs[g]? with|none=>_|some F=>_) h _;rw[O];have B:F.body.isNone=false:=by cases T:F.body<;>simp[T]at u⊢
     simp only[u.2,B,ar,aQ];have e:(first++V.toArray++E)=(first.toList++V++E.toList).toArray:=by
      apply Array.ext'
      simp
     rw[e];exact H.mono λv w hr=>zI hr
    .cases u
   .exact H.elim
  .exact H.elim
 .rename_i t x j;split at H
  .rename_i x q;unfold pF execOp;rw[j];simp only[n _ _ q];rw[dW];exact kB _ _ (λv w ⟨r,e,hr⟩=>by subst e;exact hr) H
  .exact H.elim
 .rename_i I b j;split at H
  .rename_i I q;unfold pF execOp;rw[j];simp only[n _ _ q];rw[dW];refine kB _ _ (λv w hr=> ?_) H;rcases hr with⟨e,hr⟩|hr
   .subst e;exact hr
   .obtain⟨k,x,e,hr⟩:=hr;subst e;exact hr
  .exact H.elim
 .rename_i I j;split at H
  .rename_i I q;unfold pF execOp;rw[j];simp only[n _ _ q];rw[dW];refine kB _ _ (λv w hr=> ?_) H;obtain⟨k,x,e,hr⟩:=hr;subst e;exact hr
  .exact H.elim
 .exact H.elim
end
section
variable {X y:Type} {v:Value} {F:Value->Prop} {t n:Nat} {h:ai} {a b a0:Act} {x:Array Value} {dst:Option Nat} {w:List Nat} {O:Array Oper} {o:Oper} {P:Program} {w0:World}
def gR.T(X:Type):gR->Type
 | .int _=>Int->X
 | .bool=>Bool->X
 | .str=>ByteArray->X
 | .ptr=>ct->X
 | .slice=>ct->Nat->Nat->X
 | .map=>Option Nat->X
 | .raw=>Value->X
def sy(X:Type):List gR->Type
 | []=>X
 |l::L=>l.T (sy X L)
def Sh.T(X:Type):Sh->Type
 | .one l=>l.T X
 | .agg L=>sy X L
def qB(X:Type):List (Nat×Sh)->Type
 | []=>X
 |s::L=>s.2.T (qB X L)
def gR.lam{X:Type}:(l:gR)->(Value->X)->l.T X
 | .int k,F=>λn:Int=>F (.int k n)
 | .bool,F=>λb:Bool=>F (.bool b)
 | .str,F=>λs:ByteArray=>F (.string s)
 | .ptr,F=>λp:ct=>F (.pointer p)
 | .slice,F=>λ(p:ct) (l C:Nat)=>F (.slice p l C)
 | .map,F=>λm:Option Nat=>F (.map m)
 | .raw,F=>λv:Value=>F v
def Sg{X:Type}:(L:List gR)->(List Value->X)->sy X L
 | [],F=>F []
 |l::L,F=>l.lam λv=>Sg L λV=>F (v::V)
def Sh.lam{X:Type}:(s:Sh)->(Value->X)->s.T X
 | .one l,F=>l.lam F
 | .agg L,F=>Sg L λV=>F (.agg V.toArray)
def Nn{X:Type}:(L:List (Nat×Sh))->(Env->X)->Env->qB X L
 | [],F,d=>F d
 |(t,s)::L,F,d=>s.lam λv=>Nn L F (d.set t v)
def gR.ap{X y:Type}(d:y):(l:gR)->l.T X->Value->(X->y)->y
 | .int k,f,.int e n,K=>(match decide (k=e)with|true=>K (f n)|false=>d)
 | .bool,f,.bool b,K=>K (f b)
 | .str,f,.string s,K=>K (f s)
 | .ptr,f,.pointer p,K=>K (f p)
 | .slice,f,.slice p l C,K=>K (f p l C)
 | .map,f,.map m,K=>K (f m)
 | .raw,f,v,K=>K (f v)
 |_,_,_,_=>d
def TI{X y:Type}(d:y):(L:List gR)->sy X L->List Value->(X->y)->y
 | [],f, [],K=>K f
 |l::L,f,v::V,K=>l.ap d f v λg=>TI d L g V K
 |_,_,_,_=>d
def Sh.ap{X y:Type}(d:y):(s:Sh)->s.T X->Value->(X->y)->y
 | .one l,f,v,K=>l.ap d f v K
 | .agg L,f,.agg V,K=>TI d L f V.toList K
 |_,_,_,_=>d
def mn{X y:Type}(d:y):(L:List (Nat×Sh))->qB X L->Env->(X->y)->y
 | [],f,_,K=>K f
 |(t,s)::L,f,e,K=>(match e t with|some v=>s.ap d f v λg=>mn d L g e K|none=>d)
def gR.all:gR->(Value->Prop)->Prop
 | .int k,F=> ∀n:Int,F (.int k n)
 | .bool,F=> ∀b:Bool,F (.bool b)
 | .str,F=> ∀s:ByteArray,F (.string s)
 | .ptr,F=> ∀p:ct,F (.pointer p)
 | .slice,F=> ∀(p:ct)(l C:Nat),F (.slice p l C)
 | .map,F=> ∀m:Option Nat,F (.map m)
 | .raw,F=> ∀v:Value,F v
def Si:List gR->(List Value->Prop)->Prop
 | [],F=>F []
 |l::L,F=>l.all λv=>Si L λV=>F (v::V)
def Sh.all:Sh->(Value->Prop)->Prop
 | .one l,F=>l.all F
 | .agg L,F=>Si L λV=>F (.agg V.toArray)
def KU:List (Nat×Sh)->(Env->Prop)->Env->Prop
 | [],F,d=>F d
 |(t,s)::L,F,d=>s.all λv=>KU L F (d.set t v)
theorem gR.Np{d:y}{l:gR}{f:l.T X}{K:X->y}:l.ap d f v K=d\/((∃g:X,l.ap d f v K=K g)/\∀(Z:Type)(F:Value->Z),∀(w:Type)(e:w)(J:Z->w),l.ap e (l.lam F) v J=J (F v)):=by
 cases l<;>cases v<;>first
  |exact .inl rfl
  |exact .inr ⟨⟨_,rfl⟩,λ_ _ _ _ _=>rfl⟩
  |skip
 rename_i k i n;by_cases H:k=i
 .subst H;refine .inr ⟨⟨f n,?_⟩,λZ F w e J=> ?_⟩<;>simp[gR.ap,gR.lam]
 .exact .inl (by simp[gR.ap,H])
theorem gR.JW{l:gR}{f:l.T X}{K:X->Prop}(h:l.ap False f v K):
  (∃g:X,K g)/\(∀(Z w:Type)(F:Value->Z)(e:w)(J:Z->w),l.ap e (l.lam F) v J=J (F v)):=by
 rcases gR.Np (d:=False) (l:=l) (f:=f) (v:=v) (K:=K)with H|⟨⟨g,H⟩,d⟩
 .rw[H]at h;exact h.elim
 .exact⟨⟨g,by rw[H]at h;exact h⟩,λZ w F e J=>d Z F w e J⟩
theorem gR.DK{l:gR}(h:l.all F){f:l.T X}{K:X->Prop}(H:l.ap False f v K):F v:=by
 cases l<;>cases v<;>first
  |exact H.elim
  |exact h _
  |exact h _ _ _
  |skip
 rename_i k e n;by_cases d:k=e
 .subst d;exact h n
 .simp[gR.ap,d]at H
theorem gR.DL{l:gR}{F:Value->X}{K:X->Prop}(h:l.ap False (l.lam F) v K):K (F v):=by
 have:=(gR.JW h).2 X Prop F False K;rw[this]at h;exact h
variable {l:gR}
theorem JX {X : Type} : ∀ {ls : List gR} {F : List Value → X} {vs : List Value} {K : X → Prop}, TI False ls (Sg ls F) vs K → K (F vs)
  | [], _, [], _, h => h
  | [], _, _ :: _, _, h => h.elim
  | _ :: _, _, [], _, h => h.elim
  | _ :: ls, F, v :: vs, _, h => JX (ls := ls) (F := λus => F (v :: us)) (vs := vs) (gR.DL h)
theorem Sh.DL{s:Sh}{F:Value->X}{K:X->Prop}(h:s.ap False (s.lam F) v K):K (F v):=by
 cases s with
 |one l=>exact gR.DL h
 |agg L=>
  cases v<;>first|exact h.elim|skip
  rename_i C;have:=JX (F:=λV=>F (.agg V.toArray)) h;simpa using this
theorem JY {X : Type} : ∀ {ls : List gR} {F : List Value → Prop} {f : sy X ls} {vs : List Value} {K : X → Prop}, Si ls F → TI False ls f vs K → F vs
  | [], _, _, [], _, h, _ => h
  | [], _, _, _ :: _, _, _, h => h.elim
  | _ :: _, _, _, [], _, _, h => h.elim
  | l :: ls, F, f, v :: vs, K, h, ha => by
    obtain ⟨⟨g, hg⟩, _⟩ := gR.JW ha
    have h1 := gR.DK h ha
    exact JY (ls := ls) (F := λus => F (v :: us)) (vs := vs) h1 hg
theorem Sh.DK{s:Sh}(h:s.all F){f:s.T X}{K:X->Prop}(H:s.ap False f v K):F v:=by
 cases s with
 |one l=>exact gR.DK h H
 |agg L=>
  cases v<;>first|exact H.elim|skip
  have:=JY h H;simpa using this
theorem FB : ∀{L:List gR}{f:sy X L}{V:List Value}{K:X->Prop},TI False L f V K->∃g,K g
 | [],f, [],_,h=>⟨f,h⟩
 | [],_,_::_,_,h=>h.elim
 |_::_,_, [],_,h=>h.elim
 |_::_,_,_::_,_,h=>by
  obtain⟨⟨g,H⟩,_⟩:=gR.JW h;exact FB H
theorem Sh.JZ{s:Sh}{f:s.T X}{K:X->Prop}(h:s.ap False f v K): ∃g,K g:=by
 cases s with
 |one l=>exact(gR.JW h).1
 |agg L=>cases v<;>first|exact h.elim|exact FB h
variable {s:Sh} {c:List (Nat×Sh)}
def Sub(e f d:Env):Prop:= ∀t v,e t=some v->d t=some v\/f t=some v
theorem Env.ua(e:Env)(d t:Nat)(v:Value):e.set d v t=if t=d then some v else e t:=by
 unfold Env.set;by_cases h:t=d
 .subst h;simp
 .have:Nat.beq t d=false:=by cases H:Nat.beq t d;rfl;exact absurd (bR H) h
  simp[this,h]
variable {K:Env->ai->Prop}
theorem Sub.set{f g d:Env}(H:d t=some v)(h:Sub f (g.set t v) d):Sub f g d:=λu j i=>by
 rcases h u j i with h1|h1
 .exact .inl h1
 .rw[Env.ua]at h1;split at h1
  .rename_i e;subst e;exact .inl (H.trans h1)
  .exact .inr h1
theorem vd{G:Env->ai->Prop}{g:Env}: ∀(L:List (Nat×Sh))(d:Env),mn False L (Nn (X:=ai->Prop) L G d) g (λf=>f h)->∃e,G e h/\Sub e d g
 | [],d,H=>⟨d,H,λ_ _ h=> .inr h⟩
 |(t,s)::L,d,H=>by
  simp only[mn]at H;split at H
  .rename_i v m;have i:=Sh.DL H;obtain⟨e,j,k⟩:=vd L _ i;exact⟨e,j,k.set m⟩
  .exact H.elim
theorem ve{F : Env -> Prop}{q : Env}{K : X -> Prop}: ∀(L : List (Nat × Sh))(i : Env)(f : qB X L), KU L F i -> mn False L f q K ->
    ∃ d, F d /\ Sub d i q /\ ((∀ t s, (t, s) ∈ L -> d t = q t) /\ ∀ t, (∀ s, (t, s) ∉ L) -> d t = i t)
  | [], i, _, h, _ => ⟨i, h, λ_ _ h => .inr h, (λ_ _ h => by cases h), λ_ _ => rfl⟩
  | (t, s) :: L, i, f, h, H => by
    simp only [mn] at H
    split at H
    · rename_i v z
      have A := Sh.DK h H
      obtain ⟨g, E⟩ := Sh.JZ H
      obtain ⟨d, B, C, D, r⟩ := ve L _ g A E
      refine ⟨d, B, C.set z, λu p k => ?_, λu k => ?_⟩
      · by_cases j : ∃ S, (u, S) ∈ L
        · obtain ⟨S, j⟩ := j; exact D u S j
        · have G : u = t := by
            rcases bg.1 k with e | e
            · exact (Prod.mk.inj e).1
            · exact absurd ⟨p, e⟩ j
          subst G
          rw [r u (λS m => j ⟨S, m⟩), Env.ua, af rfl, z]
      · rw [r u (λp m => k p (cv _ m)), Env.ua, ae]
        intro e; subst e; exact k s dp
    · exact H.elim
theorem mV{d:y}{e i:Env}{K:X->y}: ∀(L:List (Nat×Sh))(f:qB X L),(∀t s,(t,s)∈L->e t=i t)->mn d L f e K=mn d L f i K
 | [],_,_=>rfl
 |(t,s)::L,f,h=>by
  simp only[mn];rw[h t s dp];have:(λg=>mn d L g e K)=(λg=>mn d L g i K):=funext λg=>mV L g (λt s H=>h t s (cv _ H))
  rw[this]
theorem mQ{d : Env}{K : X -> Prop}: ∀(L : List (Nat × Sh))(f : qB X L), mn False L f d K -> ∀ t s, (t, s) ∈ L -> ∃ v, d t = some v
  | [], _, _, _, _, h => by cases h
  | (t, s) :: L, f, h, u, S, i => by
    simp only [mn] at h
    split at h
    · rename_i v j
      rcases bg.1 i with e | e
      · exact ⟨v, by rw [(Prod.mk.inj e).1]; exact j⟩
      · obtain ⟨g, H⟩ := Sh.JZ h
        exact mQ L g H u S e
    · exact h.elim
structure Rel (n:Nat) (σ:Env) (a:Act):Prop where
 defers:a.defers= []
 size:a.tmps.size=n
 at_: ∀t v,σ t=some v->a.tmps.getD t undef=v
theorem Rel.fits{d:Env}(h:Rel n d a):Fits d a.eval:=by
 intro e v H;cases e with
 |tmp t=>exact h.at_ t v H
 |const C=>simpa[Env.ev,Act.eval]using H
 |global g=>simpa[Env.ev,Act.eval]using H
 |func f=>simpa[Env.ev,Act.eval]using H
def iN(n:Nat)(e:Env)(dst:Option Nat)(v:Value)(K:Env->Prop):Prop:=
 match dst with
 |none=>K e
 |some d=>(match Nat.blt d n with|true=>K (e.set d v)|false=>False)
theorem Nq{d:Nat}(H:d<x.size):(x.setIfInBounds d v).getD t undef=if t=d then v else x.getD t undef:=by
 by_cases h:t=d
 .subst h;simp[H]
 .simp[h,fW h]
theorem iH{i:Env}{K:Env->Prop}(H:Rel n i a)(h:iN n i dst v K): ∃j,Rel n j (a.put dst v)/\K j:=by
 unfold iN at h;split at h
 .exact⟨i,H,h⟩
 .rename_i d;split at h
  .rename_i g;have g:d<a.tmps.size:=by rw[H.size];exact(Nat.blt_eq▸g)
   refine⟨_,⟨H.defers,by simp[Act.put,H.size],λt u f=> ?_⟩,h⟩;simp only[Act.put];rw[Nq g];rw[Env.ua]at f;split
   .rename_i e;rw[af e]at f;exact aX f
   .rename_i e;rw[ae e]at f;exact H.at_ t u f
  .exact h.elim
def eX(w:List Nat)(a A:Act):Prop:= ∀t,t∉w->A.tmps.getD t undef=a.tmps.getD t undef
theorem eX.refl(w:List Nat)(a:Act):eX w a a:=λ_ _=>rfl
theorem eX.trans{C:Act}(h:eX w a b)(d:eX w b C):eX w a C:=λt H=>(d t H).trans (h t H)
theorem eX.mono{d:List Nat}(h:eX w a b)(f: ∀t,t∈w->t∈d):eX d a b:=λt e=>h t (λH=>e (f t H))
theorem eX.put(h: ∀d,dst=some d->d∈w):eX w a (a.put dst v):=by
 intro t f;cases dst with
 |none=>rfl
 |some d=>
  have H:t≠d:=λe=>f (e▸h d rfl)
  simp[Act.put,fW H]
def jo(O : Array Oper)(o : Oper)(d : Env)(r skip : Env -> Prop): Prop :=
  match o.guard with
  | none => r d
  | some (j, p) => (match (O[j]?).bind (·.dst) with
    | some g => (match d g with
      | some (.bool b) => if b = true then (match p with | true => r (d.set g (.bool true)) | false => skip (d.set g (.bool true)))
          else (match p with | true => skip (d.set g (.bool false)) | false => r (d.set g (.bool false)))
      | some (.tuple _) => skip d
      | _ => False)
    | none => False)
theorem getD_some(h:x.getD t undef=v)(d:v≠undef):x[t]? =some v:=by
 rw[eM]at h;cases H:x[t]? with
 |none=>rw[H]at h;exact absurd h.symm d
 |some u=>rw[H]at h;exact cf some h
theorem jD{k:Env}{R skip:Env->Prop}(f:Rel n k a)(h:jo O o k R skip):
  (Region.wanted o (yielded O a.tmps)=true/\∃m,Rel n m a/\R m)\/(Region.wanted o (yielded O a.tmps)=false/\∃m,Rel n m a/\skip m):=by
 unfold jo at h;split at h
 .rename_i d;exact .inl ⟨by simp[Region.wanted,d],k,f,h⟩
 .rename_i j E d;split at h
  .rename_i g r;split at h
   .rename_i b z;have H:=f.at_ g _ z;have C:=getD_some H (by unfold undef;intro e;cases e);have i:yielded O a.tmps j=some b:=by simp[yielded,r,C]
    have oO:Rel n (k.set g (.B b)) a:=⟨f.defers,f.size,λt u p=>by
     rw[Env.ua]at p;split at p
     .rename_i e;subst e;rw[H];exact aX p
     .exact f.at_ t u p⟩
    split at h
    .rename_i A;subst A;split at h
     .exact .inl ⟨by simp[Region.wanted,d,i],_,oO,h⟩
     .exact .inr ⟨by simp[Region.wanted,d,i],_,oO,h⟩
    .rename_i q;have q:b=false:=by simpa using q
     subst q;split at h
     .exact .inr ⟨by simp[Region.wanted,d,i],_,oO,h⟩
     .exact .inl ⟨by simp[Region.wanted,d,i],_,oO,h⟩
   .rename_i G D;have H:=f.at_ g _ D;have i:yielded O a.tmps j=none:=by
     simp only[yielded,r,Option.bind_some];rw[eM]at H;cases B:a.tmps[g]? with
     |none=>rfl
     |some u=>rw[B]at H;simp at H;subst H;rfl
    exact .inr ⟨by simp[Region.wanted,d,i],k,f,h⟩
   .exact h.elim
  .exact h.elim
def tQ(P:Program)(o:Oper)(d:Env)(h:ai)(K:fO):Prop:=
 match mv P o with
 |true=>nW P o d h λv _=>K v h
 |false=>pG P o d h K
theorem ma{f:Env}{e:Operand->Value}{K:fO}(d:Fits f e)(H:tQ P o f h K):pF P o e h K:=by
 unfold tQ at H;split at H
 .obtain⟨v,S,g,i,j⟩:=pH d H;exact Ni _ _ _ (j h i) _ g
 .exact wL d H
def zM(P:Program)(n:Nat)(O:Array Oper):List Oper->Env->ai->(Env->ai->Prop)->Prop
 | [],d,h,K=>K d h
 |o::r,d,h,K=>jo O o d
   (λd=>tQ P o d h λv H=>iN n d o.dst v λe=>zM P n O r e H K)
   (λd=>iN n d o.dst undef λe=>zM P n O r e h K)
def cF(O:Array Oper):List Nat:=O.toList.filterMap (·.dst)
theorem ee{i:Nat}(e:O[i]? =some o): ∀d,o.dst=some d->d∈cF O:=λd H=>by
 unfold cF;rw[List.mem_filterMap];exact⟨o,by simpa using Array.mem_of_getElem? e,H⟩
def yx(n:Nat)(a0:Act)(w0:World)(w:List Nat)(K:Env->ai->Prop):Exit->Act->World->Prop:=
 λe a d=>e=.normal/\∃f,Rel n f a/\K f d.heap/\fc w0 d/\eX w a0 a
theorem wM : ∀(r:List Oper)(k:Nat)(e:Env)(a:Act)(d:World),
  (∀j,r[j]? =O[k+j]?)->Rel n e a->fc w0 d->eX (cF O) a0 a->zM P n O r e d.heap K->wpOps P O (yx n a0 w0 (cF O) K) (List.range' k r.length) a d
 | [],k,e,a,d,_,p,f,g,h=>⟨rfl,e,p,h,f,g⟩
 |o::r,k,e,a,d,A,p,f,g,h=>by
  have i:O[k]? =some o:=by have:=A 0;simpa using this.symm
  have B: ∀j,r[j]? =O[k+1+j]? :=λj=>by have:=A (j+1);simpa[Nat.add_assoc,Nat.add_comm 1 j]using this
  simp only[bn,List.range'_succ,wpOps,i];simp only[zM]at h;rcases jD p h with⟨u,G,H,h⟩|⟨u,G,H,h⟩
  .rw[af u];refine .inl ((ma H.fits h).wp ?_);intro v E C D;obtain⟨z,q,m⟩:=iH H C;exact wM r (k+1) z _ E B q (f.trans D) (g.trans (eX.put (ee i))) m
  .rw[ae (by rw[u];simp)];obtain⟨z,q,m⟩:=iH H h;exact wM r (k+1) z _ d B q f (g.trans (eX.put (ee i))) m
def Nr:List (Nat×Sh)->Nat->Option Sh
 | [],_=>none
 |(t,s)::L,d=>(match Nat.beq t d with|true=>some s|false=>Nr L d)
def CE(c:List (Nat×Sh))(dst:Option Nat)(v:Value)(F:Value->Prop):Prop:=
 match dst with
 |none=>F v
 |some d=>(match Nr c d with|some s=>s.ex λV=>v=V/\F V|none=>F v)
theorem oP(h:CE c dst v F):F v:=by
 unfold CE at h;split at h
 .exact h
 .split at h
  .obtain⟨V,e,h⟩:=Sh.mO h;subst e;exact h
  .exact h
def vf(P:Program)(n:Nat)(O:Array Oper)(c:List (Nat×Sh)):List Oper->Env->ai->(Env->ai->Prop)->Prop
 | [],d,h,K=>K d h
 |o::r,d,h,K=>jo O o d
   (λd=>tQ P o d h λv H=>CE c o.dst v λv=>iN n d o.dst v λe=>vf P n O c r e H K)
   (λd=>iN n d o.dst undef λe=>vf P n O c r e h K)
theorem uh : ∀(r:List Oper)(k:Nat)(e:Env)(a:Act)(d:World),
  (∀j,r[j]? =O[k+j]?)->Rel n e a->fc w0 d->eX (cF O) a0 a->vf P n O c r e d.heap K->wpOps P O (yx n a0 w0 (cF O) K) (List.range' k r.length) a d
 | [],k,e,a,d,_,p,f,g,h=>⟨rfl,e,p,h,f,g⟩
 |o::r,k,e,a,d,A,p,f,g,h=>by
  have i:O[k]? =some o:=by have:=A 0;simpa using this.symm
  have B: ∀j,r[j]? =O[k+1+j]? :=λj=>by have:=A (j+1);simpa[Nat.add_assoc,Nat.add_comm 1 j]using this
  simp only[bn,List.range'_succ,wpOps,i];simp only[vf]at h;rcases jD p h with⟨u,G,H,h⟩|⟨u,G,H,h⟩
  .rw[af u];refine .inl ((ma H.fits h).wp ?_);intro v E C D;obtain⟨z,q,m⟩:=iH H (oP C);exact uh r (k+1) z _ E B q (f.trans D) (g.trans (eX.put (ee i))) m
  .rw[ae (by rw[u];simp)];obtain⟨z,q,m⟩:=iH H h;exact uh r (k+1) z _ d B q f (g.trans (eX.put (ee i))) m

end
def waits(o:Oper)(i:Nat):Bool:=o.after.toList.any λe=>Region.binds .any e && Nat.beq e.on i
def gj(o:Oper)(G:List (Nat×(ai->Prop))):List (Nat×(ai->Prop)):=G.filter λg=> !waits o g.1
theorem jE{o:Oper}{G:List (Nat×(ai->Prop))}{g:Nat×(ai->Prop)}(h:g∈gj o G):g∈G:=(bj.1 h).1
def iC(P:Program)(O:Array Oper)(Q:Exit->Act->World->Prop):Nat->List (Nat×(ai->Prop))->Array Bool->Act->World->Prop
 |0,_,l,a,w=>Region.ready .any O l= []/\Q .normal a w
 |fuel+1,G,l,a,w=>
  (Region.ready .any O l= []->Q .normal a w)/\
  ∀j∈Region.ready .any O l,∀o,O[j]? =some o->wpOp P O Q j (λA b=>(∀g∈gj o G,g.2 b.heap)/\iC P O Q fuel (gj o G) (l.setIfInBounds j true) A b) a w
section
variable {P : Program} {o : Array Oper} {Q : Exit → Act → World → Prop}
theorem lJ: ∀(fuel:Nat)(G:List (Nat×(ai->Prop)))(l:Array Bool)(a:Act)(w:World),iC P o Q fuel G l a w->wpAny P .any o Q fuel l a w
 |0,_,_,_,_,h=>h
 |fuel+1,G,l,a,w,h=>⟨h.1,λi H=>by
   obtain⟨_,O,c,_⟩:=mem_ready.1 H;exact wpOp_mono (λA d b=>lJ fuel _ _ A d b.2) (h.2 i H O c)⟩
theorem lK: ∀(fuel:Nat)(G b:List (Nat×(ai->Prop)))(l:Array Bool)(a:Act)(w:World),(∀g∈b,g∈G)->iC P o Q fuel G l a w->iC P o Q fuel b l a w
 |0,_,_,_,_,_,_,h=>h
 |fuel+1,G,b,l,a,w,j,h=>⟨h.1,λi e O f=>by
   have d: ∀g∈gj O b,g∈gj O G:=λg H=>bj.2 ⟨j g (jE H),(bj.1 H).2⟩
   exact wpOp_mono (λA k c=>⟨λg H=>c.1 g (d g H),lK fuel _ _ _ A k d c.2⟩) (h.2 i e O f)⟩
theorem oa(i:Nat): ∀(fuel:Nat)(G:List (Nat×(ai->Prop)))(l:Array Bool)(a:Act)(w:World),iC P o Q fuel G l a w->iC P o Q fuel ((i,λ_=>True)::G) l a w
 |0,_,_,_,_,h=>h
 |fuel+1,G,l,a,w,h=>⟨h.1,λj k O m=>by
   refine wpOp_mono (λA f d=>⟨λg c=> ?_,?_⟩) (h.2 j k O m)
   .obtain⟨H,b⟩:=bj.1 c;rcases bg.1 H with e|e
    .rw[e];trivial
    .exact d.1 g (bj.2 ⟨e,b⟩)
   .have:=oa i fuel _ _ A f d.2;refine lK fuel _ _ _ A f (λg c=> ?_) this;obtain⟨H,b⟩:=bj.1 c;rcases bg.1 H with e|e
    .rw[e];exact dp
    .exact cv _ (bj.2 ⟨e,b⟩)⟩
theorem FC{O:Oper}{i:Nat}(h: ∀e∈O.after,Region.binds .any e=true->e.on≠i):waits O i=false:=by
 unfold waits;rw[List.any_eq_false];intro e a;simp only[aW,not_and];intro H b;exact h e (by simpa using a) H (bR b)
theorem pI{i:Nat}{p:Oper}{v:Value}{S:ai->Prop}(A:o[i]? =some p)(L: ∀(j:Nat) (q:Oper) C b,o[j]? =some q->q.op≠ .select C b)(V: ∀c a w,Q (.panic c) (a.put p.dst v) w->Q (.panic c) a w):
  ∀(F:Nat)(G:List (Nat×(ai->Prop)))(l:Array Bool)(a:Act)(w:World),
   (∀j O,o[j]? =some O->j≠i->l.getD j true=false->(∀e∈O.after,Region.binds .any e=true->e.on≠i)->p.apart o O=true)->
   i∈Region.ready .any o l->YieldsIf P o (λw=>S w.heap) p v a->S w.heap->(∀g∈G,g.2 w.heap)->
   iC P o Q F ((i,S)::G) (l.setIfInBounds i true) (a.put p.dst v) w->iC P o Q (F+1) G l a w:=by
 intro F;induction F with
 |zero=>
  intro G l a w _ n u y x H;refine⟨λh=>(by rw[h]at n;cases n),λj t q B=> ?_⟩;by_cases m:j=i
  .subst m;exact u.wpOp A y ⟨λg d=>x g (jE d),H⟩
  .have:=ready_mono t m;rw[H.1]at this;cases this
 |succ F ih=>
  intro G l a w E n u y x H;refine⟨λh=>(by rw[h]at n;cases n),λj t q B=> ?_⟩;by_cases m:j=i
  .subst m;refine u.wpOp A y ⟨λg d=>x g (jE d),lK _ _ _ _ _ _ (λg d=>cv _ (jE d)) H⟩
  .have f:=H.2 j (ready_mono t m) q B;obtain⟨J,O,r,X⟩:=mem_ready.1 t;obtain rfl:O=q:=by rw[B]at r;exact(aX r).symm
   have K: ∀e∈O.after,Region.binds .any e=true->e.on≠i:=λe he Z a'=>by
    have f:=X e he Z;have D:=(mem_ready.1 n).1;rw[a']at f;rcases Nat.lt_or_ge i l.size with h'|h'
    .simp[h']at D f;rw[D]at f;cases f
    .simp[Array.getElem?_eq_none h']at f
   have c':gj O ((i,S)::G)=(i,S)::gj O G:=by
    unfold gj;rw[cu,af];simp[FC K]
   rw[c']at f;have T:=wpOp_putIf r (E j O r m J K) (λC b=>L i p C b A) (λC b=>L j O C b r) V u f;have b': ∀k s,o[k]? =some s->k≠i->(l.setIfInBounds j true).getD k true=false->
     (∀e∈s.after,Region.binds .any e=true->e.on≠i)->p.apart o s=true:=λk s hk d' M e'=>by
    refine E k s hk d' ?_ e';by_cases I:j=k
    .subst I;exact J
    .rw[getD_set_ne true I]at M;exact M
   refine wpOp_mono (λR w' U=> ?_) T;obtain⟨g',z,f'⟩:=U;refine⟨λg d=>z g (cv _ d),?_⟩;refine ih (gj O G) (l.setIfInBounds j true) R w' b' (ready_mono n (fW m)) g' (z _ dp) (λg d=>z g (cv _ d)) ?_;rw[Array.setIfInBounds_comm _ _ m];exact f'
end
inductive qC where
 |done
 |op (i:Nat) (p:qC)
 |alts (q:qC)
 |fork (i:Nat) (p q:qC)
 |gw
def qD:qC->Nat->Bool
 | .done,n=>Nat.beq n 0
 | .op _ p,n+1=>qD p n
 | .alts q,n+1=>qD q (n+1)
 | .fork _ p q,n+1=>qD p n && qD q (n+1)
 | .gw,_=>true
 |_,_=>false
def iL(P:Program)(O:Array Oper):qC->Option (List Nat)->Array Bool->Bool
 | .done,none,l=>(Region.ready .any O l).isEmpty
 | .op i r,none,l=>
  (match O[i]? with
   |some o=>(match mv P o with
    |true=>(Region.ready .any O l).contains i && Region.free .any O l i
    |false=>(match Region.ready .any O l with| [j]=>Nat.beq i j|_=>false))
   |none=>false) && iL P O r none (l.setIfInBounds i true)
 | .alts q,none,l=>(match Region.ready .any O l with| []=>false|j::J=>iL P O q (some (j::J)) l)
 | .fork i p q,some R,l=>(match O[i]? with
   |some o=> !mv P o
   |none=>false) && iL P O p none (l.setIfInBounds i true) && iL P O q (some (R.filter λj=> !Nat.beq i j)) l
 | .gw,some R,_=>R.isEmpty
 |_,_,_=>false
def qS(h:ai)(K:Prop):List (Nat×(ai->Prop))->Prop
 | []=>K
 |g::G=>g.2 h/\qS h K G
theorem vg{h:ai}{K:Prop}: ∀{G:List (Nat×(ai->Prop))},qS h K G->(∀g∈G,g.2 h)/\K
 | [],H=>⟨(λ_ a=>by cases a),H⟩
 |_::_,H=>by
  obtain⟨b,c⟩:=vg H.2;refine⟨λd a=> ?_,c⟩;rcases bg.1 a with e|e
  .rw[e];exact H.1
  .exact b _ e
def vh(i:Nat)(S:Option (ai->Prop))(G:List (Nat×(ai->Prop))):List (Nat×(ai->Prop)):=
 match S with
 |some S=>(i,S)::G
 |none=>G
def iQ(P:Program)(n:Nat)(O:Array Oper):qC->List (Nat×(ai->Prop))->Env->ai->(Env->ai->Prop)->Prop
 | .done,_,a,h,K=>K a h
 | .op i r,G,a,h,K=>(match O[i]? with
  |some o=>jo O o a
    (λa=>(match mv P o with
     |true=>nW P o a h λv S=>iN n a o.dst v λb=>iQ P n O r (vh i S G) b h K
     |false=>pG P o a h λv H=>qS H (iN n a o.dst v λb=>iQ P n O r (gj o G) b H K) (gj o G)))
    (λa=>iN n a o.dst undef λb=>iQ P n O r G b h K)
  |none=>False)
 | .alts q,G,a,h,K=>iQ P n O q G a h K
 | .fork i r q,G,a,h,K=>(match O[i]? with
  |some o=>jo O o a
    (λa=>pG P o a h λv H=>qS H (iN n a o.dst v λb=>iQ P n O r (gj o G) b H K) (gj o G))
    (λa=>iN n a o.dst undef λb=>iQ P n O r G b h K)
  |none=>False)/\iQ P n O q G a h K
 | .gw,_,_,_,_=>True
theorem zN{P:Program}{n:Nat}{O:Array Oper}{K:Env->ai->Prop}{A:Act}{c:World}{r:qC}{i m:Nat}{o:Oper}{L:Array Bool}{G:List (Nat×(ai->Prop))}{b:Env}{a:Act}{w:World}(I: ∀G b a w,Rel n b a->fc c w->eX (cF O) A a->(∀g∈G,g.2 w.heap)->iQ P n O r G b w.heap K->iC P O (yx n A c (cF O) K) m G (L.setIfInBounds i true) a w)(H:O[i]? =some o)(D:Rel n b a)(x:fc c w)(y:eX (cF O) A a)(u: ∀g∈G,g.2 w.heap)(h:jo O o b (λb=>pG P o b w.heap λv s=>qS s (iN n b o.dst v λd=>iQ P n O r (gj o G) d s K) (gj o G)) (λb=>iN n b o.dst undef λd=>iQ P n O r G d w.heap K)):
  wpOp P O (yx n A c (cF O) K) i (λz f=>(∀g∈gj o G,g.2 f.heap)/\iC P O (yx n A c (cF O) K) m (gj o G) (L.setIfInBounds i true) z f) a w:=by
 rcases jD D h with⟨p,d,e,h⟩|⟨p,d,e,F⟩
 .unfold wpOp;simp only[H,p,bm];refine .inl ((wL e.fits h).wp ?_);intro v f C E;obtain⟨t,B⟩:=vg C;obtain⟨q,l,j⟩:=iH e B;exact⟨t,I _ q _ f l (x.trans E) (y.trans (eX.put (ee H))) t j⟩
 .unfold wpOp;simp only[H,p,ar,aQ];obtain⟨q,l,j⟩:=iH e F;have I:=I G q _ w l x (y.trans (eX.put (ee H))) u j;exact⟨λg k=>u g (jE k),lK _ _ _ _ _ _ (λg k=>jE k) I⟩
theorem vi{P:Program}{n:Nat}{O:Array Oper}{K:Env->ai->Prop}{a0:Act}{w0:World}(c':Region.noSelect O=true)(u:qC):
  (∀(m:Nat)(l:Array Bool)(G:List (Nat×(ai->Prop)))(b:Env)(a:Act)(w:World),qD u m=true->
   iL P O u none l=true->Rel n b a->fc w0 w->eX (cF O) a0 a->(∀g∈G,g.2 w.heap)->iQ P n O u G b w.heap K->
   iC P O (yx n a0 w0 (cF O) K) m G l a w)/\
  (∀(m:Nat)(R:List Nat)(l:Array Bool)(G:List (Nat×(ai->Prop)))(b:Env)(a:Act)(w:World),qD u (m+1)=true->
   iL P O u (some R) l=true->Rel n b a->fc w0 w->eX (cF O) a0 a->(∀g∈G,g.2 w.heap)->iQ P n O u G b w.heap K->
   ∀j∈R,∀o,O[j]? =some o->wpOp P O (yx n a0 w0 (cF O) K) j (λZ J=>(∀g∈gj o G,g.2 J.heap)/\iC P O (yx n a0 w0 (cF O) K) m (gj o G) (l.setIfInBounds j true) Z J) a w):=by
 induction u with
 |done=>
  refine⟨λm l G b a w d H k p q f h=> ?_,λm R l G b a w d H=>by cases H⟩;obtain rfl:m=0:=bR d;simp only[iL,List.isEmpty_iff]at H;exact⟨H,rfl,b,k,h,p,q⟩
 |gw=>
  refine⟨λm l G b a w d H=>(by cases H),λm R l G b a w d H k p q f h j t=> ?_⟩;simp only[iL,List.isEmpty_iff]at H;subst H;cases t
 |alts g' I=>
  refine⟨λm l G b a w d H k p q f h=> ?_,λm R l G b a w d H=>by cases H⟩;cases m with
  |zero=>cases d
  |succ m=>
   simp only[iL]at H;split at H
   .cases H
   .rename_i j js A;refine⟨(λe=>by rw[A]at e;cases e),λj' Q o r=> ?_⟩;rw[A]at Q;exact I.2 m _ l G b a w d H k p q f h j' Q o r
 |fork i V g' e' f'=>
  refine⟨λm l G b a w d H=>(by cases H),λm R l G b a w d H k p q f h j t o r=> ?_⟩;simp only[iL,aW]at H;obtain⟨⟨s,C⟩,b'⟩:=H;simp only[qD,aW]at d;simp only[iQ]at h;by_cases T:i=j
  .subst T;have h:=h.1;rw[r]at h;exact zN (λG b a w k p q f h=>e'.1 m _ G b a w d.1 C k p q f h) r k p q f h
  .refine f'.2 m _ l G b a w d.2 b' k p q f h.2 j (bj.2 ⟨t,?_⟩) o r;have:Nat.beq i j=false:=by cases hb:Nat.beq i j;rfl;exact absurd (bR hb) T
   simp[this]
 |op i V I=>
  refine⟨λm l G b a w d H k p q f h=> ?_,λm R l G b a w d H=>by cases H⟩;cases m with
  |zero=>cases d
  |succ m=>
   simp only[iL,aW]at H;obtain⟨s,C⟩:=H;simp only[iQ]at h;split at h
   .rename_i o r;simp only[r]at s;have hQ: ∀v,∀c a w,yx n a0 w0 (cF O) K (.panic c) (a.put o.dst v) w->yx n a0 w0 (cF O) K (.panic c) a w:=λv c a w hq=>by cases hq.1
    have X: ∀(v:Value)(S:Option (ai->Prop))(z:Env),mv P o=true->Rel n z (a.put o.dst v)->YieldsIf P O (λw=>sw S w.heap) o v a->sw S w.heap->
      iQ P n O V (vh i S G) z w.heap K->iC P O (yx n a0 w0 (cF O) K) (m+1) G l a w:=λv S z y x hy B hd=>by
     rw[y]at s;simp only[aW]at s;have a': ∀g∈vh i S G,g.2 w.heap:=by
      intro g M;cases S with
      |none=>exact f g M
      |some S=>
       rcases bg.1 M with e|e
       .rw[e];exact B
       .exact f g e
     have I:=I.1 m _ (vh i S G) z (a.put o.dst v) w d C x p (q.trans (eX.put (ee r))) a' hd;refine pI (S:=sw S) r (Region.noSelect_spec c') (hQ v) m G l a w (Region.free_spec r s.2) (by simpa using s.1) hy B f ?_;cases S with
     |none=>exact oa i _ _ _ _ _ I
     |some S=>exact I
    cases y:mv P o with
    |true=>
     rcases jD k h with⟨F,z,x,h⟩|⟨F,z,x,d'⟩
     .rw[y]at h;obtain⟨v,S,h1,h2,h3⟩:=pH x.fits h;obtain⟨L,E,D⟩:=iH x h1;exact X v S L y E (.inl ⟨F,λJ B=>pE _ _ _ (h3 _ B)⟩) h2 D
     .obtain⟨L,E,D⟩:=iH x d';exact X undef none L y E (.inr ⟨F,rfl⟩) trivial D
    |false=>
     rw[y]at s h;simp only at s h;have A:Region.ready .any O l= [i]:=by
      split at s
      .rename_i j t;rw[t,bR s]
      .cases s
     refine⟨(λe=>by rw[A]at e;cases e),λj t o' U=> ?_⟩;rw[A]at t;obtain rfl:j=i:=by simpa using t
     obtain rfl:o'=o:=by rw[r]at U;exact(aX U).symm
     exact zN (λG b a w k p q f h=>I.1 m _ G b a w d C k p q f h) r k p q f h
   .exact h.elim
def fC:Nat->Nat->qC->qC
 |0,_,p=>p
 |k+1,i,p=> .op i (fC k (i+1) p)
def tR(o:Oper)(B:List (Nat×ct)):List (Nat×ct):=B.filter λg=> !waits o g.1
def UL(h H:ai)(K:Prop):List (Nat×ct)->Prop
 | []=>K
 |B=>Kp h H (B.map (·.2))/\K
theorem Sj{h a:ai}{K:Prop}{B:List (Nat×ct)}(H:UL h a K B):(∀g∈B,lZ g.2 h a)/\K:=by
 cases B with
 |nil=>exact⟨(λ_ d=>by cases d),H⟩
 |cons b B=>exact⟨λg c=>H.1 g.2 (bt.2 ⟨g,c,rfl⟩),H.2⟩
def gS(P:Program)(n:Nat)(O:Array Oper):qC->List (Nat×(ai->Prop))->List (Nat×ct)->Env->ai->(Env->ai->Prop)->Prop
 | .done,_,_,a,h,K=>K a h
 | .op i r,G,B,a,h,K=>(match O[i]? with
  |some o=>jo O o a
    (λa=>(match mv P o with
     |true=>nW P o a h λv S=>iN n a o.dst v λb=>(match DI a o with
      |some p=>gS P n O r G ((i,p)::B) b h K
      |none=>gS P n O r (vh i S G) B b h K)
     |false=>pG P o a h λv H=>qS H (UL h H (iN n a o.dst v λb=>gS P n O r (gj o G) (tR o B) b H K) (tR o B)) (gj o G)))
    (λa=>iN n a o.dst undef λb=>gS P n O r G B b h K)
  |none=>False)
 | .alts q,G,B,a,h,K=>gS P n O q G B a h K
 | .fork i r q,G,B,a,h,K=>(match O[i]? with
  |some o=>jo O o a
    (λa=>pG P o a h λv H=>qS H (UL h H (iN n a o.dst v λb=>gS P n O r (gj o G) (tR o B) b H K) (tR o B)) (gj o G))
    (λa=>iN n a o.dst undef λb=>gS P n O r G B b h K)
  |none=>False)/\gS P n O q G B a h K
 | .gw,_,_,_,_,_=>True
def GB(F G:List (Nat×(ai->Prop)))(B:List (Nat×ct))(h:ai):Prop:= ∀f∈F,f∈G\/∃p,(f.1,p)∈B/\∀H,lZ p h H->f.2 H
theorem GB.step{F G:List (Nat×(ai->Prop))}{B:List (Nat×ct)}{h b:ai}{o:Oper}(H:GB F G B h)(l: ∀g∈gj o G,g.2 b)(m: ∀g∈tR o B,lZ g.2 h b):(∀f∈gj o F,f.2 b)/\GB (gj o F) (gj o G) (tR o B) b:=by
 have K: ∀f∈gj o F,f.2 b/\(f∈gj o G\/∃p,(f.1,p)∈tR o B/\∀d,lZ p b d->f.2 d):=λf c=>by
  obtain⟨n,e⟩:=bj.1 c;rcases H f n with a|⟨p,r,i⟩
  .have:f∈gj o G:=bj.2 ⟨a,e⟩;exact⟨l f this,.inl this⟩
  .have j:(f.1,p)∈tR o B:=bj.2 ⟨r,e⟩;have k:=m _ j;exact⟨i _ k,.inr ⟨p,j,λd q=>i _ (lZ.trans k q)⟩⟩
 exact⟨λf c=>(K f c).1,λf c=>(K f c).2⟩
theorem xT{P:Program}{n:Nat}{O:Array Oper}{K:Env->ai->Prop}{A:Act}{c:World}{R:qC}{i m:Nat}{o:Oper}{L:Array Bool}{F G:List (Nat×(ai->Prop))}{B:List (Nat×ct)}{b:Env}{a:Act}{w:World}(I: ∀F G B b a w,Rel n b a->fc c w->eX (cF O) A a->(∀g∈F,g.2 w.heap)->GB F G B w.heap->gS P n O R G B b w.heap K->iC P O (yx n A c (cF O) K) m F (L.setIfInBounds i true) a w)(e:O[i]? =some o)(E:Rel n b a)(x:fc c w)(y:eX (cF O) A a)(t: ∀g∈F,g.2 w.heap)(u:GB F G B w.heap)(h:jo O o b (λb=>pG P o b w.heap λv k=>qS k (UL w.heap k (iN n b o.dst v λd=>gS P n O R (gj o G) (tR o B) d k K) (tR o B)) (gj o G)) (λb=>iN n b o.dst undef λd=>gS P n O R G B d w.heap K)):
  wpOp P O (yx n A c (cF O) K) i (λz j=>(∀g∈gj o F,g.2 j.heap)/\iC P O (yx n A c (cF O) K) m (gj o F) (L.setIfInBounds i true) z j) a w:=by
 rcases jD E h with⟨r,d,f,h⟩|⟨r,d,f,M⟩
 .unfold wpOp;simp only[e,r,bm];refine .inl ((wL f.fits h).wp ?_);intro v j D J;obtain⟨C,l⟩:=vg D;obtain⟨l,H⟩:=Sj l;obtain⟨s,q,H⟩:=iH f H;obtain⟨Q,S⟩:=u.step C l;exact⟨Q,I _ _ _ s _ j q (x.trans J) (y.trans (eX.put (ee e))) Q S H⟩
 .unfold wpOp;simp only[e,r,ar,aQ];obtain⟨s,q,H⟩:=iH f M;have I:=I F G B s _ w q x (y.trans (eX.put (ee e))) t u H;exact⟨λg p=>t g (jE p),lK _ _ _ _ _ _ (λg p=>jE p) I⟩
theorem tT{P:Program}{n:Nat}{O:Array Oper}{K:Env->ai->Prop}{a0:Act}{w0:World}(p':Region.noSelect O=true)(A:qC):
  (∀(m:Nat)(l:Array Bool)(F G:List (Nat×(ai->Prop)))(B:List (Nat×ct))(b:Env)(a:Act)(w:World),qD A m=true->
   iL P O A none l=true->Rel n b a->fc w0 w->eX (cF O) a0 a->(∀g∈F,g.2 w.heap)->GB F G B w.heap->gS P n O A G B b w.heap K->
   iC P O (yx n a0 w0 (cF O) K) m F l a w)/\
  (∀(m:Nat)(R:List Nat)(l:Array Bool)(F G:List (Nat×(ai->Prop)))(B:List (Nat×ct))(b:Env)(a:Act)(w:World),qD A (m+1)=true->
   iL P O A (some R) l=true->Rel n b a->fc w0 w->eX (cF O) a0 a->(∀g∈F,g.2 w.heap)->GB F G B w.heap->gS P n O A G B b w.heap K->
   ∀j∈R,∀o,O[j]? =some o->wpOp P O (yx n a0 w0 (cF O) K) j (λa' Z=>(∀g∈gj o F,g.2 Z.heap)/\iC P O (yx n a0 w0 (cF O) K) m (gj o F) (l.setIfInBounds j true) a' Z) a w):=by
 induction A with
 |done=>
  refine⟨λm l F G B b a w d H q r s p k h=> ?_,λm R l F G B b a w d H=>by cases H⟩;obtain rfl:m=0:=bR d;simp only[iL,List.isEmpty_iff]at H;exact⟨H,rfl,b,q,h,r,s⟩
 |gw=>
  refine⟨λm l F G B b a w d H=>(by cases H),λm R l F G B b a w d H q r s p k h j x=> ?_⟩;simp only[iL,List.isEmpty_iff]at H;subst H;cases x
 |alts c' I=>
  refine⟨λm l F G B b a w d H q r s p k h=> ?_,λm R l F G B b a w d H=>by cases H⟩;cases m with
  |zero=>cases d
  |succ m=>
   simp only[iL]at H;split at H
   .cases H
   .rename_i j js L;refine⟨(λe=>by rw[L]at e;cases e),λj' e' o t=> ?_⟩;rw[L]at e';exact I.2 m _ l F G B b a w d H q r s p k h j' e' o t
 |fork i i' c' r' s'=>
  refine⟨λm l F G B b a w d H=>(by cases H),λm R l F G B b a w d H q r s p k h j x o t=> ?_⟩;simp only[iL,aW]at H;obtain⟨⟨u,V⟩,n'⟩:=H;simp only[qD,aW]at d;simp only[gS]at h;by_cases f':i=j
  .subst f';have h:=h.1;rw[t]at h;exact xT (λF G B b a w q r s p k h=>r'.1 m _ F G B b a w d.1 V q r s p k h) t q r s p k h
  .refine s'.2 m _ l F G B b a w d.2 n' q r s p k h.2 j (bj.2 ⟨x,?_⟩) o t;have:Nat.beq i j=false:=by cases hb:Nat.beq i j;rfl;exact absurd (bR hb) f'
   simp[this]
 |op i i' I=>
  refine⟨λm l F G B b a w d H q r s p k h=> ?_,λm R l F G B b a w d H=>by cases H⟩;cases m with
  |zero=>cases d
  |succ m=>
   simp only[iL,aW]at H;obtain⟨u,V⟩:=H;simp only[gS]at h;split at h
   .rename_i o t;simp only[t]at u;have hQ: ∀v,∀c a w,yx n a0 w0 (cF O) K (.panic c) (a.put o.dst v) w->yx n a0 w0 (cF O) K (.panic c) a w:=λv c a w hq=>by cases hq.1
    have d': ∀(v:Value)(S:Option (ai->Prop))(C:Env)(T:List (Nat×(ai->Prop)))(Q:List (Nat×ct)),mv P o=true->Rel n C (a.put o.dst v)->YieldsIf P O (λw=>sw S w.heap) o v a->sw S w.heap->GB (vh i S F) T Q w.heap->
      gS P n O i' T Q C w.heap K->iC P O (yx n a0 w0 (cF O) K) (m+1) F l a w:=λv S C T Q z y hy D m' hd=>by
     rw[z]at u;simp only[aW]at u;have l': ∀g∈vh i S F,g.2 w.heap:=by
      intro g hg;cases S with
      |none=>exact p g hg
      |some S=>
       rcases bg.1 hg with e|e
       .rw[e];exact D
       .exact p g e
     have I:=I.1 m _ (vh i S F) T Q C (a.put o.dst v) w d V y r (s.trans (eX.put (ee t))) l' m' hd;refine pI (S:=sw S) t (Region.noSelect_spec p') (hQ v) m F l a w (Region.free_spec t u.2) (by simpa using u.1) hy D p ?_;cases S with
     |none=>exact oa i _ _ _ _ _ I
     |some S=>exact I
    have gb: ∀(S:Option (ai->Prop)),GB (vh i S F) (vh i S G) B w.heap:=λS f U=>by
     cases S with
     |none=>exact k f U
     |some S=>
      rcases bg.1 U with e|e
      .exact .inl (e▸dp)
      .exact(k f e).imp (cv _) id
    cases z:mv P o with
    |true=>
     rcases jD q h with⟨X,C,y,h⟩|⟨X,C,y,q'⟩
     .rw[z]at h;dsimp only at h;cases b':DI C o with
      |some h'=>
       rw[b']at h;obtain⟨v,S,h1,h2,E,h3⟩:=DJ y.fits b' h;obtain⟨M,J,k'⟩:=iH y h1;refine d' v (some S) M G ((i,h')::B) z J (.inl ⟨X,λZ D=>pE _ _ _ (h3 _ D)⟩) h2 (λf U=> ?_) k';rcases bg.1 U with e|e
       .exact .inr ⟨h',e▸dp,e▸E⟩
       .exact(k f e).imp id λ⟨c',hq,hk⟩=>⟨c',cv _ hq,hk⟩
      |none=>
       rw[b']at h;obtain⟨v,S,h1,h2,h3⟩:=pH y.fits h;obtain⟨M,J,E⟩:=iH y h1;exact d' v S M _ B z J (.inl ⟨X,λZ D=>pE _ _ _ (h3 _ D)⟩) h2 (gb S) E
     .obtain⟨M,J,E⟩:=iH y q';exact d' undef none M G B z J (.inr ⟨X,rfl⟩) trivial k E
    |false=>
     rw[z]at u h;simp only at u h;have L:Region.ready .any O l= [i]:=by
      split at u
      .rename_i j x;rw[x,bR u]
      .cases u
     refine⟨(λe=>by rw[L]at e;cases e),λj x o' g'=> ?_⟩;rw[L]at x;obtain rfl:j=i:=by simpa using x
     obtain rfl:o'=o:=by rw[t]at g';exact(aX g').symm
     exact xT (λF G B b a w q r s p k h=>I.1 m _ F G B b a w d V q r s p k h) t q r s p k h
   .exact h.elim
inductive ob where
 |leaf
 |seq (a b:ob)
 |cond (a b:ob)
 |block (a:ob)
 |loop (L:List (Nat×Sh)) (a:ob)
 |join (L:List (Nat×Sh)) (a:ob)
 |qT (p:qC)
 |iZ (p:qC)
 |scope (l:Nat) (L:List (Nat×Sh)) (a b:ob)
 |typed (ty:List (Nat×Sh))
def writes:Code->List Nat
 | .region _ o _=>cF o
 | .seq a b=>writes a++writes b
 | .cond _ a b=>writes a++writes b
 | .block _ a=>writes a
 | .loop a=>writes a
 | .scope a=>writes a
 |_=> []
def Env.forget(a:Env)(w:List Nat):Env:=λt=>bif w.any (Nat.beq t)then none else a t
theorem Env.xU{a:Env}{w:List Nat}{t:Nat}{v:Value}(h:a.forget w t=some v):t∉w/\a t=some v:=by
 unfold Env.forget at h;cases H:w.any (Nat.beq t)with
 |true=>rw[H]at h;cases h
 |false=>
  rw[H]at h;refine⟨λb=> ?_,h⟩;have:=List.any_eq_false.1 H t b;simp at this
def J0(K:Env->ai->Prop)(Q:Exit->Env->ai->Prop):Exit->Env->ai->Prop
 | .normal=>K
 |e=>Q e
def Ns(id:Nat)(Q:Exit->Env->ai->Prop):Exit->Env->ai->Prop
 | .exit i=>(match Nat.beq i id with|true=>Q .normal|false=>Q (.exit i))
 |e=>Q e
def aG{α:Type}(F:α)(B:α->Prop):Prop:=B F
def xV(l:Nat)(K:Env->ai->Prop)(Q:Exit->Env->ai->Prop):Exit->Env->ai->Prop
 | .goto L=>(match Nat.beq L l with|true=>K|false=>λ_ _=>False)
 |e=>Q e
def oQ:Code->Nat->Bool
 | .seq a b,l=>oQ a l||oQ b l
 | .label L,l=>Nat.beq L l
 |_,_=>false
def den(P:Program)(n:Nat):ob->Option Nat->Code->(Exit->Env->ai->Prop)->Env->ai->Prop
 | .leaf,none,c,Q,e,h=>(match c with
  | .skip=>Q .normal e h
  | .label _=>Q .normal e h
  | .exit id=>Q (.exit id) e h
  | .goto l=>Q (.goto l) e h
  | .ret=>Q .ret e h
  | .region _ o false=>zM P n o o.toList e h (Q .normal)
  |_=>False)
 | .leaf,some l,c,Q,e,h=>(match c with
  | .label m=>(match Nat.beq m l with|true=>Q (.goto l) e h|false=>False)
  |_=>False)
 | .qT p,none,c,Q,e,h=>(match c with
  | .region _ o true=>(match (P.follows .mixedOrders && Region.noSelect o && qD p o.size && iL P o p none (Array.replicate o.size false))with
   |true=>iQ P n o p [] e h (Q .normal)
   |false=>False)
  |_=>False)
 | .iZ p,none,c,Q,e,h=>(match c with
  | .region _ o true=>(match (P.follows .mixedOrders && Region.noSelect o && qD p o.size && iL P o p none (Array.replicate o.size false))with
   |true=>gS P n o p [] [] e h (Q .normal)
   |false=>False)
  |_=>False)
 | .seq a b,none,c,Q,e,h=>(match c with
  | .seq c d=>den P n a none c (J0 (λg H=>den P n b none d Q g H) Q) e h
  |_=>False)
 | .seq a b,some l,c,Q,e,h=>(match c with
  | .seq c d=>(match oQ c l with
   |true=>den P n a (some l) c Q e h
   |false=>den P n a none c (J0 (λg H=>den P n b (some l) d Q g H) Q) e h)
  |_=>False)
 | .cond a b,none,c,Q,e,h=>(match c with
  | .cond x c d=>(match e.ev x with
   |some (.bool q)=>if q=true then den P n a none c Q e h else den P n b none d Q e h
   |_=>False)
  |_=>False)
 | .block a,none,c,Q,e,h=>(match c with
  | .block id c=>den P n a none c (Ns id Q) e h
  |_=>False)
 | .loop L a,none,c,Q,e,h=>(match c with
  | .loop c=> ∃(I:qB (ai->Prop) L)(j:qB (ai->Nat) L),mn False L I e (λf=>f h)/\
    KU L (λg=> ∀H,mn False L I g (λf=>f H)->
     den P n a none c (J0 (λk i=>mn False L I k (λf=>f i)/\mn 0 L j k (λf=>f i)<mn 0 L j g (λf=>f H)) Q) g H) (e.forget (writes c))
  |_=>False)
 | .join L a,none,c,Q,e,h=>aG (α:=qB (ai->Prop) L) (Nn L (λg H=>Q .normal g H) (e.forget (writes c)))
   (λJ=>den P n a none c (J0 (λg H=>mn False L J g (λf=>f H)) Q) e h)
 | .typed t,none,c,Q,e,h=>(match c with
  | .region _ o false=>vf P n o t o.toList e h (Q .normal)
  |_=>False)
 | .scope l L a b,none,c,Q,e,h=>(match c with
  | .scope c=>(match findLabel c l with
   |some r=> ∃(I:qB (ai->Prop) L)(j:qB (ai->Nat) L),
     den P n a (some l) c (xV l (λg H=>mn False L I g (λf=>f H)) Q) e h/\
     KU L (λg=> ∀H,mn False L I g (λf=>f H)->
      den P n b none r (xV l (λk i=>mn False L I k (λf=>f i)/\mn 0 L j k (λf=>f i)<mn 0 L j g (λf=>f H)) Q) g H) (e.forget (writes c))
   |none=>False)
  |_=>False)
 |_,_,_,_,_,_=>False
def opened:Code->List Code
 | .skip=> []
 | .seq a b=>opened a++ [b]
 |c=> [c]
theorem kP{P:Program}{b:Frame}{a:Act}{C:List Frame}{w:World}: ∀(c:Code)(k:List Item),Steps P (lone (b.at a (.code c::k)) C w) (lone (b.at a ((opened c).map Item.code++k)) C w)
 | .skip,k=> .one step_skip
 | .seq x y,k=>by
  simp only[opened,ba,cb,List.map_nil,eJ,dk,da];exact .head step_seq (kP x (.code y::k))
 | .region _ _ _,_=> .refl _ _
 | .cond _ _ _,_=> .refl _ _
 | .block _ _,_=> .refl _ _
 | .loop _,_=> .refl _ _
 | .rangeFunc _ _ _ _,_=> .refl _ _
 | .exit _,_=> .refl _ _
 | .scope _,_=> .refl _ _
 | .label _,_=> .refl _ _
 | .goto _,_=> .refl _ _
 | .ret,_=> .refl _ _
 | .refuse _,_=> .refl _ _
theorem oB: ∀(c:Code)(l:Nat),oQ c l=(findLabel c l).isSome
 | .seq a b,l=>by
  unfold oQ findLabel;rw[oB a l,oB b l];cases findLabel a l<;>simp
 | .label L,l=>by
  unfold oQ findLabel;by_cases h:L=l
  .subst h;simp
  .have:Nat.beq L l=false:=by cases H:Nat.beq L l;rfl;exact absurd (bR H) h
   simp[this,h]
 | .skip,_=>rfl
 | .region _ _ _,_=>rfl
 | .cond _ _ _,_=>rfl
 | .block _ _,_=>rfl
 | .loop _,_=>rfl
 | .rangeFunc _ _ _ _,_=>rfl
 | .exit _,_=>rfl
 | .scope _,_=>rfl
 | .goto _,_=>rfl
 | .ret,_=>rfl
 | .refuse _,_=>rfl
theorem lL: ∀(c:Code)(l:Nat)(r:Code),findLabel c l=some r->∀t,t∈writes r->t∈writes c
 | .seq a b,l,r,h,t,ht=>by
  unfold findLabel at h;split at h
  .rename_i R H;simp only[bC]at h;subst h;rcases bH.1 ht with ht|ht
   .exact dG _ (lL a l R H t ht)
   .exact dD _ ht
  .exact dD _ (lL b l r h t ht)
 | .label L,l,r,h,t,ht=>by
  unfold findLabel at h;split at h
  .simp only[bC]at h;subst h;cases ht
  .cases h
 | .skip,_,_,h,_,_=>by cases h
 | .region _ _ _,_,_,h,_,_=>by cases h
 | .cond _ _ _,_,_,h,_,_=>by cases h
 | .block _ _,_,_,h,_,_=>by cases h
 | .loop _,_,_,h,_,_=>by cases h
 | .rangeFunc _ _ _ _,_,_,h,_,_=>by cases h
 | .exit _,_,_,h,_,_=>by cases h
 | .scope _,_,_,h,_,_=>by cases h
 | .goto _,_,_,h,_,_=>by cases h
 | .ret,_,_,h,_,_=>by cases h
 | .refuse _,_,_,h,_,_=>by cases h
def TJ(P:Program)(l:Nat)(c:Code)(Q:Exit->Act->World->Prop)(a:Act)(w:World):Prop:=
 ∀(b:Frame)(k:List Item)(C:List Frame),
  (∃e A d,Q e A d/\e≠ .normal/\Arrives P (lone (b.at a (.code c::k)) C w) b k C e A d)\/
  (∃A d r,Q (.goto l) A d/\findLabel c l=some r/\Steps P (lone (b.at a (.code c::k)) C w) (lone (b.at A ((opened r).map Item.code++k)) C d))
def up(n:Nat)(A:Act)(d:World)(c:List Nat)(Q:Exit->Env->ai->Prop):Exit->Act->World->Prop:=
 λe a w=> ∃b,Rel n b a/\Q e b w.heap/\fc d w/\eX c A a
theorem sA{n:Nat}{A:Act}{c:World}{b:List Nat}{Q:Exit->Env->ai->Prop}{e:Exit}{a:Act}{w:World}(h:yx n A c b (Q .normal) e a w):up n A c b Q e a w:=by
 obtain⟨rfl,h⟩:=h;exact h
def qU(a:Act):Env:=λt=>some (a.tmps.getD t undef)
theorem Rel.pJ{n:Nat}{b c d:Env}{a A:Act}{w:List Nat}(g:Rel n b a)(H:Rel n c A)(j:eX w a A)(i:Sub d (b.forget w) c):Rel n d A:=
 ⟨H.defers,H.size,λt v k=>by
  rcases i t v k with h|h
  .exact H.at_ t v h
  .obtain⟨e,f⟩:=Env.xU h;rw[j t e];exact g.at_ t v f⟩
theorem kC{y:Type}{d:y}{X:Type}{L:List (Nat×Sh)}{f:qB X L}{K:X->y}{n:Nat}{b:Env}{a:Act}(e:Rel n b a)(H: ∀t s,(t,s)∈L->∃v,b t=some v):mn d L f (qU a) K=mn d L f b K:=
 mV L f λt s c=>by
  obtain⟨v,h⟩:=H t s c;rw[h];unfold qU;rw[e.at_ t v h]
def Qd(P:Program)(c:Code)(Q:Exit->Act->World->Prop)(a:Act)(w:World):Prop:=
 ∀(b:Frame)(k:List Item)(C:List Frame),∃e A d,Q e A d/\Arrives P (lone (b.at a ((opened c).map Item.code++k)) C w) b k C e A d
theorem Qd.wp{P:Program}{c:Code}{Q:Exit->Act->World->Prop}{a:Act}{w:World}(h:Qd P c Q a w):c.wp P Q a w:=λb k C=>by
 obtain⟨e,A,f,d,H⟩:=h b k C;exact⟨e,A,f,d,.of_steps (kP c k) H⟩
theorem iy{P:Program}{c:Code}{Q:Exit->Act->World->Prop}{a:Act}{w:World}(H:opened c= [c])(h:c.wp P Q a w):Qd P c Q a w:=λb k C=>by
 rw[H];exact h b k C
theorem vj{P:Program}{c:Code}{Q d:Exit->Act->World->Prop}{a:Act}{w:World}(h:Qd P c Q a w)(H: ∀e a w,Q e a w->d e a w):Qd P c d a w:=
 λb k C=>let ⟨e,A,f,q,r⟩:=h b k C;⟨e,A,f,H _ _ _ q,r⟩
theorem Qh{P:Program}{x y:Code}{Q:Exit->Act->World->Prop}{a:Act}{w:World}(h:Qd P x (Exit.then (Qd P y Q) Q) a w):Qd P (.seq x y) Q a w:=by
 intro b k C;simp only[opened,ba,cb,List.map_nil,eJ,dk,da];obtain⟨e,A,d,c,H⟩:=h b (.code y::k) C;cases e with
 |normal=>
  obtain⟨E,f,j,i,g⟩:=c b k C;exact⟨E,f,j,i,.of_steps (Steps.trans H (kP y k)) g⟩
 |exit id=>exact⟨_,A,d,c,.pass (x:=.code y) rfl (λ_ _=> .inl bU) H⟩
 |goto l=>exact⟨_,A,d,c,.pass (x:=.code y) rfl (λ_ _=> .inl bU) H⟩
 |ret=>exact⟨_,A,d,c,.pass (x:=.code y) rfl (λ_ _=> .inl bU) H⟩
 |panic m=>exact⟨_,A,d,c,.pass (x:=.code y) rfl (λ_ _=> .inl bU) H⟩
 |outgrown=>exact⟨_,A,d,c,.pass (x:=.code y) rfl (λ_ _=> .inl bU) H⟩
theorem zO{P:Program}{Q:Exit->Act->World->Prop}{a:Act}{w:World}{c r:Code}{l:Nat}(B:findLabel c l=some r)(I:Act->World->Prop)(t:Act->World->Nat)(u:Exit->Act->World->Prop)(v:Act->World->Exit->Act->World->Prop)(L:TJ P l c u a w)(D: ∀A d,u (.goto l) A d->I A d)(M: ∀e A d,e≠ .goto l->e≠ .normal->u e A d->Q e A d/\∀x,e≠ .goto x)(round: ∀a w,I a w->Qd P r (v a w) a w)(R: ∀a w A d,I a w->v a w (.goto l) A d->I A d/\t A d<t a w)(S: ∀a w e A d,I a w->e≠ .goto l->v a w e A d->Q e A d/\∀x,e≠ .goto x):
  (Code.scope c).wp P Q a w:=by
 intro b k C;have O: ∀(m:Machine)(e:Exit)(A:Act)(d:World),(∀x,e≠ .goto x)->Arrives P m b (.inScope c::k) C e A d->Arrives P m b k C e A d:=by
  intro m e A d o h;cases e with
  |normal=>exact Steps.trans h (.one step_inScope)
  |exit id=>exact λk' V=>h k' (by simp[exitTo,V])
  |goto x=>exact absurd rfl (o x)
  |ret=>exact h
  |panic ch=>exact h
  |outgrown=>exact h
 have K: ∀n a w,t a w=n->I a w->∃e A d,Q e A d/\Arrives P (lone (b.at a ((opened r).map Item.code++ .inScope c::k)) C w) b k C e A d:=by
  intro n;induction n using Nat.strongRecOn with
  |_ n ih=>
   intro a w Z y;obtain⟨e,f,g,H,h⟩:=round a w y b (.inScope c::k) C;by_cases F:e=.goto l
   .subst F;obtain⟨T,X⟩:=R a w f g y H;have q:=h (.code r:: .inScope c::k) (by simp[gotoIn,B]);obtain⟨E,i,s,p,j⟩:=ih (t f g) (Z▸X) f g rfl T;exact⟨E,i,s,p,.of_steps (Steps.trans q (kP r _)) j⟩
   .obtain⟨z,o⟩:=S a w e f g y F H;exact⟨e,f,g,z,O _ e f g o h⟩
 rcases L b (.inScope c::k) C with⟨e,A,d,H,U,h⟩|⟨A,d,r',H,J,q⟩
 .by_cases G:e=.goto l
  .subst G;have q:=h (.code r:: .inScope c::k) (by simp[gotoIn,B]);obtain⟨E,i,s,p,j⟩:=K _ A d rfl (D A d H);exact⟨E,i,s,p,.of_steps (.head step_scope (Steps.trans q (kP r _))) j⟩
  .obtain⟨z,o⟩:=M e A d G U H;exact⟨e,A,d,z,.of_steps (.one step_scope) (O _ e A d o h)⟩
 .rw[B]at J;cases J;obtain⟨E,i,s,p,j⟩:=K _ A d rfl (D A d H);exact⟨E,i,s,p,.of_steps (.head step_scope q) j⟩
def TK(P:Program)(c:Code)(Q:Exit->Act->World->Prop)(a:Act)(w:World):Option Nat->Prop
 |none=>Qd P c Q a w
 |some l=>TJ P l c Q a w
theorem kQ{P:Program}{n:Nat}: ∀(q':ob)(m:Option Nat)(c:Code)(Q:Exit->Env->ai->Prop)(s:Env)(a:Act)(w:World),Rel n s a->den P n q' m c Q s w.heap->TK P c (up n a w (writes c) Q) a w m
 | .leaf,none,c,Q,s,a,w,q,h=>by
  unfold den at h;split at h
  .exact λb k S=>⟨.normal,a,w,⟨s,q,h,fc.refl w,eX.refl _ _⟩,.refl _ _⟩
  .exact iy rfl (wp_label ⟨s,q,h,fc.refl w,eX.refl _ _⟩)
  .exact iy rfl (wp_exit ⟨s,q,h,fc.refl w,eX.refl _ _⟩)
  .exact iy rfl (wp_goto ⟨s,q,h,fc.refl w,eX.refl _ _⟩)
  .exact iy rfl (wp_ret ⟨s,q,h,fc.refl w,eX.refl _ _⟩)
  .rename_i id O;refine iy rfl (wp_mono (wp_region (Q:=yx n a w (cF O) (Q .normal)) ?_) (λe A p H=>sA H));have:=wM (a0:=a) (w0:=w) O.toList 0 s a w bU q (fc.refl w) (eX.refl _ _) h;rw[gm];simpa using this
  .exact h.elim
 | .leaf,some l,c,Q,s,a,w,q,h=>by
  unfold den at h;split at h
  .rename_i l';split at h
   .rename_i hl;obtain rfl:l'=l:=bR hl;exact λb k S=> .inr ⟨a,w,.skip,⟨s,q,h,fc.refl w,eX.refl _ _⟩,by simp[findLabel],.one step_label⟩
   .exact h.elim
  .exact h.elim
 | .qT j',none,c,Q,s,a,w,q,h=>by
  unfold den at h;split at h
  .rename_i id O;split at h
   .rename_i F;simp only[aW]at F;obtain⟨⟨⟨h1,h2⟩,h3⟩,h4⟩:=F;refine iy rfl (wp_mono (wp_region_any (Q:=yx n a w (cF O) (Q .normal)) h1 ?_) (λe A p H=>sA H));have:=(vi (a0:=a) (w0:=w) h2 j').1 O.size (Array.replicate O.size false) [] s a { w with drawn:=w.drawn+1 } h3 h4 q ⟨rfl,rfl,rfl⟩ (eX.refl _ _) (λ_ V=>by cases V) h;exact lJ _ _ _ _ _ this
   .exact h.elim
  .exact h.elim
 | .iZ j',none,c,Q,s,a,w,q,h=>by
  unfold den at h;split at h
  .rename_i id O;split at h
   .rename_i F;simp only[aW]at F;obtain⟨⟨⟨h1,h2⟩,h3⟩,h4⟩:=F;refine iy rfl (wp_mono (wp_region_any (Q:=yx n a w (cF O) (Q .normal)) h1 ?_) (λe A p H=>sA H));have:=(tT (a0:=a) (w0:=w) h2 j').1 O.size (Array.replicate O.size false) [] [] [] s a { w with drawn:=w.drawn+1 } h3 h4 q ⟨rfl,rfl,rfl⟩ (eX.refl _ _) (λ_ V=>by cases V) (λ_ V=>by cases V) h;exact lJ _ _ _ _ _ this
   .exact h.elim
  .exact h.elim
 | .seq x y,none,c,Q,s,a,w,q,h=>by
  unfold den at h;split at h
  .rename_i c d;refine Qh (vj (kQ x none c _ s a w q h) ?_);rintro e A p ⟨g,o,H,j,i⟩;have v: ∀t,t∈writes c->t∈writes (.seq c d):=λt u=>dG _ u
   cases e with
   |normal=>
    refine vj (kQ y none d Q g A p o H) ?_;rintro e2 a2 w2 ⟨d',Z,B,a',c'⟩;exact⟨d',Z,B,j.trans a',(i.mono v).trans (c'.mono λt u=>dD _ u)⟩
   |exit id=>exact⟨g,o,H,j,i.mono v⟩
   |goto l=>exact⟨g,o,H,j,i.mono v⟩
   |ret=>exact⟨g,o,H,j,i.mono v⟩
   |panic R=>exact⟨g,o,H,j,i.mono v⟩
   |outgrown=>exact⟨g,o,H,j,i.mono v⟩
  .exact h.elim
 | .seq x y,some l,c,Q,s,a,w,q,h=>by
  unfold den at h;split at h
  .rename_i c d;have v: ∀t,t∈writes c->t∈writes (.seq c d):=λt u=>dG _ u
   have o': ∀t,t∈writes d->t∈writes (.seq c d):=λt u=>dD _ u
   split at h
   .rename_i hl;have ih:=kQ x (some l) c Q s a w q h;intro b k S;rcases ih b (.code d::k) S with⟨e,A,p,H,e',E⟩|⟨A,p,r,H,hf,y'⟩
    .obtain⟨g,o,H,j,i⟩:=H;exact .inl ⟨e,A,p,⟨g,o,H,j,i.mono v⟩,e',.of_steps (.one step_seq) (.pass (x:=.code d) rfl (λ_ _=> .inl e') E)⟩
    .obtain⟨g,o,H,j,i⟩:=H;refine .inr ⟨A,p,.seq r d,⟨g,o,H,j,i.mono v⟩,by simp[findLabel,hf],.head step_seq ?_⟩;simpa[opened]using y'
   .rename_i hl;have ih:=kQ x none c _ s a w q h;have v':findLabel c l=none:=by
     have:=oB c l;rw[hl]at this;cases H:findLabel c l with
     |none=>rfl
     |some r=>rw[H]at this;cases this
    intro b k S;obtain⟨e,A,p,⟨g,o,H,j,i⟩,E⟩:=ih.wp b (.code d::k) S;cases e with
    |normal=>
     rcases kQ y (some l) d Q g A p o H b k S with⟨e2,a2,w2,B,e',s'⟩|⟨a2,w2,r,B,u',z'⟩
     .obtain⟨d',Z,B,a',c'⟩:=B;exact .inl ⟨e2,a2,w2,⟨d',Z,B,j.trans a',(i.mono v).trans (c'.mono o')⟩,e',.of_steps (.head step_seq E) s'⟩
     .obtain⟨d',Z,B,a',c'⟩:=B;exact .inr ⟨a2,w2,r,⟨d',Z,B,j.trans a',(i.mono v).trans (c'.mono o')⟩,by simp[findLabel,v',u'],.head step_seq (Steps.trans E z')⟩
    |exit id=>exact .inl ⟨_,A,p,⟨g,o,H,j,i.mono v⟩,bU,.of_steps (.one step_seq) (.pass (x:=.code d) rfl (λ_ _=> .inl bU) E)⟩
    |goto l'=>exact .inl ⟨_,A,p,⟨g,o,H,j,i.mono v⟩,bU,.of_steps (.one step_seq) (.pass (x:=.code d) rfl (λ_ _=> .inl bU) E)⟩
    |ret=>exact .inl ⟨_,A,p,⟨g,o,H,j,i.mono v⟩,bU,.of_steps (.one step_seq) (.pass (x:=.code d) rfl (λ_ _=> .inl bU) E)⟩
    |panic R=>exact .inl ⟨_,A,p,⟨g,o,H,j,i.mono v⟩,bU,.of_steps (.one step_seq) (.pass (x:=.code d) rfl (λ_ _=> .inl bU) E)⟩
    |outgrown=>exact .inl ⟨_,A,p,⟨g,o,H,j,i.mono v⟩,bU,.of_steps (.one step_seq) (.pass (x:=.code d) rfl (λ_ _=> .inl bU) E)⟩
  .exact h.elim
 | .cond x y,none,c,Q,s,a,w,q,h=>by
  unfold den at h;split at h
  .rename_i k c d;split at h
   .rename_i A' H;have he:=q.fits _ _ H;split at h
    .rename_i u;subst u;refine iy rfl (wp_cond_true he (wp_mono (kQ x none c Q s a w q h).wp ?_));rintro e A p ⟨g,o,H,j,i⟩;exact⟨g,o,H,j,i.mono λt u=>dG _ u⟩
    .rename_i u;have u:A'=false:=by simpa using u
     subst u;refine iy rfl (wp_cond_false he (wp_mono (kQ y none d Q s a w q h).wp ?_));rintro e A p ⟨g,o,H,j,i⟩;exact⟨g,o,H,j,i.mono λt u=>dD _ u⟩
   .exact h.elim
  .exact h.elim
 | .block x,none,c,Q,s,a,w,q,h=>by
  unfold den at h;split at h
  .rename_i id c;refine iy rfl (wp_block (wp_mono (kQ x none c _ s a w q h).wp ?_));rintro e A p ⟨g,o,H,j,i⟩;cases e with
   |exit i'=>
    simp only[Exit.inBlock];simp only[Ns]at H;by_cases hid:i'=id
    .subst hid;simp only[Nat.beq_refl]at H;rw[af rfl];exact⟨g,o,H,j,i⟩
    .rw[ae hid];have:Nat.beq i' id=false:=by cases F:Nat.beq i' id;rfl;exact absurd (bR F) hid
     rw[this]at H;exact⟨g,o,H,j,i⟩
   |normal=>exact⟨g,o,H,j,i⟩
   |goto l=>exact⟨g,o,H,j,i⟩
   |ret=>exact⟨g,o,H,j,i⟩
   |panic R=>exact⟨g,o,H,j,i⟩
   |outgrown=>exact⟨g,o,H,j,i⟩
  .exact h.elim
 | .loop L x,none,c,Q,s,a,w,q,h=>by
  unfold den at h;split at h
  .rename_i c;obtain⟨I,μ,h0,g'⟩:=h;refine iy rfl (wp_loop (λA p=> ∃g,Rel n g A/\mn False L I g (λf=>f p.heap)/\fc w p/\eX (writes c) a A)
    (λA p=>mn 0 L μ (qU A) (λf=>f p.heap)) ⟨s,q,h0,fc.refl w,eX.refl _ _⟩ ?_)
   rintro A p ⟨g,o,T,j,i⟩;obtain⟨D,hF,b',hL,_⟩:=ve L _ I g' T;have X:=Rel.pJ q o i b';have U:mn False L I D (λf=>f p.heap):=by rw[mV L I hL];exact T
   have hd:=hF p.heap U;refine wp_mono (kQ x none c _ D A p X hd).wp ?_;rintro e a1 w1 ⟨M,G,H,J,K⟩;cases e with
   |normal=>
    obtain⟨n',w'⟩:=H;refine⟨⟨M,G,n',j.trans J,i.trans K⟩,?_⟩;rw[kC G (mQ L I n'),kC X (mQ L I U)];exact w'
   |exit id=>exact⟨M,G,H,j.trans J,i.trans K⟩
   |goto l=>exact⟨M,G,H,j.trans J,i.trans K⟩
   |ret=>exact⟨M,G,H,j.trans J,i.trans K⟩
   |panic R=>exact⟨M,G,H,j.trans J,i.trans K⟩
   |outgrown=>exact⟨M,G,H,j.trans J,i.trans K⟩
  .exact h.elim
 | .join L x,none,c,Q,s,a,w,q,h=>by
  unfold den at h;unfold aG at h;refine vj (kQ x none c _ s a w q h) ?_;rintro e A p ⟨g,o,H,j,i⟩;cases e with
  |normal=>
   obtain⟨D,hQ,b'⟩:=vd L _ H;exact⟨D,Rel.pJ q o i b',hQ,j,i⟩
  |exit id=>exact⟨g,o,H,j,i⟩
  |goto l=>exact⟨g,o,H,j,i⟩
  |ret=>exact⟨g,o,H,j,i⟩
  |panic R=>exact⟨g,o,H,j,i⟩
  |outgrown=>exact⟨g,o,H,j,i⟩
 | .scope l L x y,none,c,Q,s,a,w,q,h=>by
  unfold den at h;split at h
  .rename_i c;split at h
   .rename_i r hf;obtain⟨I,μ,h0,g'⟩:=h;have r':=lL c l r hf;have p': ∀(k':Env->ai->Prop)(e:Exit)(g:Env)(h':ai),e≠ .goto l->xV l k' Q e g h'->Q e g h'/\∀z,e≠ .goto z:=by
     intro k' e g h' x' H;cases e with
     |goto z=>
      simp only[xV]at H;have:Nat.beq z l=false:=by cases F:Nat.beq z l;rfl;exact absurd (by rw[bR F]) x'
      rw[this]at H;exact H.elim
     |normal=>exact⟨H,λz C=>by cases C⟩
     |exit id=>exact⟨H,λz C=>by cases C⟩
     |ret=>exact⟨H,λz C=>by cases C⟩
     |panic R=>exact⟨H,λz C=>by cases C⟩
     |outgrown=>exact⟨H,λz C=>by cases C⟩
    refine iy rfl (zO hf (λA p=> ∃g,Rel n g A/\mn False L I g (λf=>f p.heap)/\fc w p/\eX (writes c) a A)
     (λA p=>mn 0 L μ (qU A) (λf=>f p.heap)) _
     (λa0 w0 e A p=> ∃g,Rel n g A/\xV l (λD m'=>mn False L I D (λf=>f m')/\mn 0 L μ D (λf=>f m')<mn 0 L μ (qU a0) (λf=>f w0.heap)) Q e g p.heap/\fc w p/\eX (writes c) a A)
     (kQ x (some l) c _ s a w q h0) ?_ ?_ ?_ ?_ ?_)
    .rintro A p ⟨g,o,H,j,i⟩;simp only[xV,Nat.beq_refl]at H;exact⟨g,o,H,j,i⟩
    .rintro e A p t' _ ⟨g,o,H,j,i⟩;obtain⟨f',B⟩:=p' _ e g _ t' H;exact⟨⟨g,o,f',j,i⟩,B⟩
    .rintro A p ⟨g,o,T,j,i⟩;obtain⟨D,hF,b',hL,_⟩:=ve L _ I g' T;have X:=Rel.pJ q o i b';have U:mn False L I D (λf=>f p.heap):=by rw[mV L I hL];exact T
     have hd:=hF p.heap U;refine vj (kQ y none r _ D A p X hd) ?_;rintro e a1 w1 ⟨M,G,H,J,K⟩;refine⟨M,G,?_,j.trans J,i.trans (K.mono r')⟩;cases e with
     |goto z=>
      simp only[xV]at H⊢;cases C:Nat.beq z l with
      |false=>rw[C]at H;exact H.elim
      |true=>
       rw[C]at H;obtain⟨q1,q2⟩:=H;exact⟨q1,by rw[kC X (mQ L I U)];exact q2⟩
     |normal=>exact H
     |exit id=>exact H
     |ret=>exact H
     |panic R=>exact H
     |outgrown=>exact H
    .rintro a0 w0 A p _ ⟨g,o,H,j,i⟩;simp only[xV,Nat.beq_refl]at H;obtain⟨q1,q2⟩:=H;refine⟨⟨g,o,q1,j,i⟩,?_⟩;rw[kC o (mQ L I q1)];exact q2
    .rintro a0 w0 e A p _ he ⟨g,o,H,j,i⟩;obtain⟨f',B⟩:=p' _ e g _ he H;exact⟨⟨g,o,f',j,i⟩,B⟩
   .exact h.elim
  .exact h.elim
 | .qT _,some _,_,_,_,_,_,_,h=>h.elim
 | .iZ _,some _,_,_,_,_,_,_,h=>h.elim
 | .cond _ _,some _,_,_,_,_,_,_,h=>h.elim
 | .block _,some _,_,_,_,_,_,_,h=>h.elim
 | .loop _ _,some _,_,_,_,_,_,_,h=>h.elim
 | .join _ _,some _,_,_,_,_,_,_,h=>h.elim
 | .scope _ _ _ _,some _,_,_,_,_,_,_,h=>h.elim
 | .typed _,some _,_,_,_,_,_,_,h=>h.elim
 | .typed ty,none,c,Q,s,a,w,q,h=>by
  unfold den at h;split at h
  .rename_i id O;refine iy rfl (wp_mono (wp_region (Q:=yx n a w (cF O) (Q .normal)) ?_) (λe A p H=>sA H));have:=uh (a0:=a) (w0:=w) O.toList 0 s a w bU q (fc.refl w) (eX.refl _ _) h;rw[gm];simpa using this
  .exact h.elim
def qE(P:Program):List ResultVar->Env->ai->(List Value->Prop)->Prop
 | [],_,_,F=>F []
 | .tmp t::r,b,h,F=>aN (b t) λv=>qE P r b h λV=>F (v::V)
 | .cell a t::r,b,h,F=>(match b a with
  |some (.pointer p)=>aN p λA=>su P t h A λv _=>qE P r b h λV=>F (v::V)
  |_=>False)
def qV(vs:List Value):Value:=
 match vs with
 | [v]=>v
 |vs=> .tuple vs.toArray
def Qi(P:Program)(r:Array ResultVar)(R:fO):Exit->Env->ai->Prop
 | .normal,a,h=>qE P r.toList a h λv=>R (qV v) h
 | .ret,a,h=>qE P r.toList a h λv=>R (qV v) h
 |_,_,_=>False
def ks(args:List Value):Env:=λt=>args[t]?
def KV(a:Act):ResultVar->Sem Value
 | .tmp t=>pure (a.tmps.getD t undef)
 | .cell A t=>do loadVar t (<-asAddr (a.tmps.getD A undef))
theorem DM{P:Program}{n:Nat}{g:Env}{a:Act}{h:ai}(c:Rel n g a): ∀(r:List ResultVar)(F:List Value->Prop),qE P r g h F->∃V,F V/\
  rd P (r.mapM (KV a)) h=some V
 | [],F,H=>⟨[],H,rfl⟩
 | .tmp t::r,F,H=>by
  obtain⟨v,o,H⟩:=bT.1 H;obtain⟨V,d,e⟩:=DM c r _ H;refine⟨v::V,d,?_⟩;rw[List.mapM_cons];have f:rd P (KV a (.tmp t)) h=some v:=by
   show some (a.tmps.getD t undef)=some v;rw[c.at_ t v o]
  rw[bB _ _ _ _ f,bB _ _ _ _ e];rfl
 | .cell A t::r,F,H=>by
  simp only[qE]at H;split at H
  .rename_i p m;obtain⟨b,rfl,l⟩:=bT.1 H;obtain⟨v,S,d,e,i⟩:=zL l;obtain⟨V,j,k⟩:=DM c r _ d;refine⟨v::V,j,?_⟩;rw[List.mapM_cons];have f:rd P (KV a (.cell A t)) h=some v:=by
    show rd P (do loadVar t (<-asAddr (a.tmps.getD A undef))) h=_;rw[c.at_ A _ m];exact i h e
   rw[bB _ _ _ _ f,bB _ _ _ _ k];rfl
  .exact H.elim
theorem pL{P:Program}{n:Nat}{b:Env}{a:Act}{h:ai}{f:Func}{F:Value->Prop}(i:Rel n b a)(g:qE P f.results.toList b h λV=>F (qV V)):
  ∃v,F v/\rd P (results f a.tmps) h=some v:=by
 obtain⟨V,H,c⟩:=DM i _ _ g;refine⟨_,H,?_⟩;have d:rd P (f.results.mapM (KV a)) h=some V.toArray:=by
  rw[Array.mapM_eq_mapM_toList];show rd P (f.results.toList.mapM (KV a)>>=λl=>pure (List.toArray l)) h=_;rw[bB _ _ _ _ c];rfl
 have e:results f a.tmps=f.results.mapM (KV a)>>=λV=>pure (if h:V.size=1 then V[0]else .T V):=by
  unfold results;congr 1
 rw[e,bB _ _ _ _ d]
 match V with
 | []=>rfl
 | [v]=>rfl
 |u::v::V=>rfl
theorem BR{P:Program}{f:FuncId}{F:Func}{c:Code}{args:List Value}{h:ai}{R:fO}(A:ob)(p:P.funcs[f]? =some F)(n:F.body=some c)(j:Nat.ble args.length F.ntmps=true)(o:den P F.ntmps A none c (Qi P F.results R) (ks args) h):kL P f args.toArray h R:=by
 intro w u;subst u;have j:=Nat.le_of_ble_eq_true j;refine calls_of_wp p n ?_;have d:Rel F.ntmps (ks args) { tmps:=args.toArray++Array.replicate (F.ntmps - args.toArray.size) undef,defers:= [] } :=by
  refine⟨rfl,by simp;omega,λt v g=> ?_⟩;unfold ks at g;have r:t<args.length:=(az.1 g).1;simp only[eM];rw[dC (by simpa using r)];simp[g]
 refine wp_mono (kQ A none c _ _ _ w d o).wp ?_;rintro e a b ⟨y,d,H,s,_⟩;have i:qE P F.results.toList y b.heap (λx=>R (qV x) b.heap)->a.defers= []/\∃v,(results F a.tmps).run P b=.ok v b/\∃V,Ending.returned v=.returned V/\R V b.heap/\fc w b:=λq=>by
  obtain⟨v,k,m⟩:=pL (F:=λv=>R v b.heap) d q;exact⟨d.defers,v,pE _ _ _ m,v,rfl,k,s⟩
 cases e with
 |normal=>exact i H
 |ret=>exact i H
 |exit id=>exact H.elim
 |goto l=>exact H.elim
 |panic C=>exact H.elim
 |outgrown=>exact H.elim
def nh(f:Func):Code:=f.body.getD .skip
theorem qW{P:Program}{f:FuncId}{F:Func}{args:List Value}{h:ai}{R:fO}(a:ob)(e:P.funcs[f]? =some F)(d:F.body.isSome=true)(g:Nat.ble args.length F.ntmps=true)(b:den P F.ntmps a none (nh F) (Qi P F.results R) (ks args) h):kL P f args.toArray h R:=by
 obtain⟨c,H⟩:=dH.1 d;refine BR a e H g ?_;rw[nh,H]at b;exact b
abbrev ring(v:Value):List PanicEntry:= [{ v,recovered:=false }]
def iO(P:Program)(f:FuncId)(args:Array Value)(h:ai)(R E:fO):Prop:=
 ∀w:World,w.heap=h->Calls P f args w λe a=>fc w a/\((∃v,e=.returned v/\R v a.heap)\/∃v,e=.panicked (ring v)/\E v a.heap)
section
variable {P : Program} {f : FuncId} {args : Array Value} {h : ai} {R r E a : Value → ai → Prop}
theorem iO.mono(c:iO P f args h R E)(g: ∀v H,R v H->r v H)(b: ∀v H,E v H->a v H):iO P f args h r a:=
 λw j=>(c w j).mono λ_ _ ⟨i,d⟩=>⟨i,d.imp (λ⟨v,e,h⟩=>⟨v,e,g _ _ h⟩) (λ⟨v,e,h⟩=>⟨v,e,b _ _ h⟩)⟩
end
theorem iO.Wv{P:Program}{f:FuncId}{args:Array Value}{h:ai}{R:fO}(H:iO P f args h R (λ_ _=>False)):kL P f args h R:=
 λw c=>(H w c).mono λ_ _ ⟨b,a⟩=>a.elim (λ⟨v,e,h⟩=>⟨v,e,h,b⟩) (λ⟨_,_,h⟩=>h.elim)
def wN(P:Program)(p:List Nat)(o:Oper)(a:Env)(h:ai)(K E:fO):Prop:=
 match o.op with
 | .panic x=>(match a.ev x with
  |some (.iface t v)=>E (.iface t v) h
  |_=>False)
 | .call { callee:=.value f,args:=args,argTypes:=_ } =>(match a.ev f,Nk a args.toList with
  |some (.func (.func g) first c),some b=>(match p.any (Nat.beq g)with
   |true=>(match mP P g with
    |true=>iO P g (first.toList++b++c.toList).toArray h (λv H=>tM P o.type λV=>v=V/\K V H) E
    |false=>False)
   |false=>tQ P o a h K)
  |_,_=>tQ P o a h K)
 |_=>tQ P o a h K
theorem Nt{P:Program}{o:Oper}{a:Env}{d:Operand->Value}{h:ai}{f:Operand}{args:Array Operand}{t:Array TypeId}{g:FuncId}{first c:Array Value}{v:List Value}(b:Fits a d)(m:o.op=.call { callee:=.value f,args:=args,argTypes:=t })(k:a.ev f=some (.func (.func g) first c))(p:Nk a args.toList=some v)(H:mP P g=true):
  aT P (execOp d o) h λx i=>x=.enter g (first.toList++v++c.toList).toArray/\i=h:=by
 unfold execOp;rw[m];simp only[resolve,qR b p,b _ _ k,Deferred.ofValue];rw[dW,zK];simp only[invoke,callFunc];rw[dW];unfold mP at H;split at H
 .rename_i F j;simp only[aW,gG]at H;show aT P (match P.funcs[g]? with|none=>_|some F=>_) h _;rw[j];have l:F.body.isNone=false:=by cases n:F.body<;>simp[n]at H⊢
  simp only[H.2,l,ar,aQ];have e:(first++v.toArray++c)=(first.toList++v++c.toList).toArray:=by
   apply Array.ext'
   simp
  rw[e];exact⟨rfl,rfl⟩
 .cases H
theorem CG{P:Program}{y:List Nat}{o:Oper}{l:Env}{a:Act}{w:World}{K E:fO}{next:Act->World->Prop}{Q:Exit->Act->World->Prop}(H:Fits l a.eval)(h:wN P y o l w.heap K E)(c: ∀v b,K v b.heap->fc w b->next (a.put o.dst v) b)(i: ∀v b,E v b.heap->fc w b->Q (.panic (ring v)) a b):o.wp P a w next Q:=by
 unfold wN at h;split at h
 .rename_i x d;split at h
  .rename_i t v u;unfold Oper.wp execOp;rw[d];simp only[H _ _ u];exact i _ _ h (fc.refl w)
  .exact h.elim
 .rename_i f args T d;split at h
  .rename_i g first C V q r;split at h
   .split at h
    .rename_i p;obtain⟨x,b,R,⟨rfl,s⟩,j⟩:=mN _ _ _ (Nt H d q r p) w rfl;unfold Oper.wp;rw[R];refine(h b s).mono ?_;rintro e z ⟨k,⟨v,rfl,n⟩|⟨v,rfl,m⟩⟩
     .exact c _ _ (zI n) (j.trans k)
     .exact i _ _ m (j.trans k)
    .exact h.elim
   .exact(ma H h).wp c
  .exact(ma H h).wp c
 .exact(ma H h).wp c
structure jY (n:Nat) (D:List Deferred) (σ:Env) (a:Act):Prop where
 size:a.tmps.size=n
 at_: ∀t v,σ t=some v->a.tmps.getD t undef=v
 defs:a.defers=D
theorem jY.fits{n:Nat}{D:List Deferred}{b:Env}{a:Act}(h:jY n D b a):Fits b a.eval:=by
 intro x v H;cases x with
 |tmp t=>exact h.at_ t v H
 |const c=>simpa[Env.ev,Act.eval]using H
 |global g=>simpa[Env.ev,Act.eval]using H
 |func f=>simpa[Env.ev,Act.eval]using H
theorem jY.bare{n:Nat}{D:List Deferred}{b:Env}{a:Act}(h:jY n D b a):Rel n b { a with defers:= [] } :=⟨rfl,h.size,h.at_⟩
theorem jY.of{n:Nat}{D:List Deferred}{b:Env}{a:Act}(h:Rel n b { a with defers:= [] })(H:a.defers=D):jY n D b a:=⟨h.size,h.at_,H⟩
theorem FD(a:Act)(d:Option Nat)(v:Value):(a.put d v).defers=a.defers:=by cases d<;>rfl
theorem pM{n:Nat}{D:List Deferred}{c:Env}{a:Act}{dst:Option Nat}{v:Value}{K:Env->Prop}(H:jY n D c a)(h:iN n c dst v K): ∃b,jY n D b (a.put dst v)/\K b:=by
 obtain⟨b,d,f⟩:=iH H.bare h;refine⟨b,.of ?_ ((FD _ _ _).trans H.defs),f⟩;have e:({ a with defers:= [] } :Act).put dst v= { (a.put dst v)with defers:= [] } :=by cases dst<;>rfl
 rw[<-e];exact d
theorem pO{n:Nat}{D:List Deferred}{O:Array Oper}{o:Oper}{f:Env}{a:Act}{r skip:Env->Prop}(e:jY n D f a)(h:jo O o f r skip):
  (Region.wanted o (yielded O a.tmps)=true/\∃b,jY n D b a/\r b)\/(Region.wanted o (yielded O a.tmps)=false/\∃b,jY n D b a/\skip b):=by
 rcases jD e.bare h with⟨H,b,c,d⟩|⟨H,b,c,d⟩
 .exact .inl ⟨H,b,.of c e.defs,d⟩
 .exact .inr ⟨H,b,.of c e.defs,d⟩
def Sk(n:Nat)(D:List Deferred)(A:Act)(c:World)(b:List Nat)(K:List Deferred->Env->ai->Prop)(E:fO):Exit->Act->World->Prop:=
 λe a w=>(e=.normal/\∃d f,jY n d f a/\K d f w.heap/\fc c w/\eX b A a)\/(a.defers=D/\a.tmps.size=n/\eX b A a/\fc c w/\∃v,e=.panic (ring v)/\E v w.heap)
def zP(o:Oper)(D:List Deferred)(a:Env):Option (List Deferred):=
 match o.op with
 | .defer { callee:=.value f,args:=args,argTypes:=_ } =>(match a.ev f,Nk a args.toList with
  |some (.func g first c),some v=>some ({ target:=.fn g c,args:=(first.toList++v).toArray } ::D)
  |_,_=>none)
 |_=>none
theorem FE{P:Program}{o:Oper}{b:Env}{a:Act}{w:World}{D d:List Deferred}{next:Act->World->Prop}{Q:Exit->Act->World->Prop}(H:Fits b a.eval)(c:a.defers=D)(h:zP o D b=some d)(j:next ({ a with defers:=d }.put o.dst undef) w):o.wp P a w next Q:=by
 unfold zP at h;split at h
 .rename_i f args t k;split at h
  .rename_i g first C v i l;cases h;subst c;unfold Oper.wp execOp;rw[k];simp only[resolve,qR H l,H _ _ i,Deferred.ofValue];have e:first++v.toArray=(first.toList++v).toArray:=by apply Array.ext';simp
   rw[e];exact j
  .cases h
 .cases h
def od(P:Program)(p:List Nat)(n:Nat)(O:Array Oper)(t:List (Nat×Sh))(E:fO):List Oper->List Deferred->Env->ai->(List Deferred->Env->ai->Prop)->Prop
 | [],D,a,h,K=>K D a h
 |o::r,D,a,h,K=>(match o.op with
  | .defer _=>jo O o a
   (λa=>(match zP o D a with
    |some d=>(match r with| []=>iN n a o.dst undef λb=>K d b h|_=>False)
    |none=>False))
   (λa=>iN n a o.dst undef λb=>od P p n O t E r D b h K)
  |_=>jo O o a
   (λa=>wN P p o a h (λv H=>CE t o.dst v λv=>iN n a o.dst v λb=>od P p n O t E r D b H K) E)
   (λa=>iN n a o.dst undef λb=>od P p n O t E r D b h K))
theorem pP{P:Program}{y:List Nat}{n:Nat}{O:Array Oper}{T:List (Nat×Sh)}{E:fO}{D:List Deferred}{K:List Deferred->Env->ai->Prop}{a0:Act}{w0:World}: ∀(r:List Oper)(k:Nat)(l:Env)(a:Act)(w:World),
  (∀j,r[j]? =O[k+j]?)->jY n D l a->fc w0 w->eX (cF O) a0 a->od P y n O T E r D l w.heap K->wpOps P O (Sk n D a0 w0 (cF O) K E) (List.range' k r.length) a w
 | [],k,l,a,w,_,s,e,f,h=> .inl ⟨rfl,D,l,s,h,e,f⟩
 |o::r,k,l,a,w,u,s,e,f,h=>by
  have q:O[k]? =some o:=by have:=u 0;simpa using this.symm
  have x: ∀j,r[j]? =O[k+1+j]? :=λj=>by have:=u (j+1);simpa[Nat.add_assoc,Nat.add_comm 1 j]using this
  simp only[bn,List.range'_succ,wpOps,q];have skip: ∀{d:Env},Region.wanted o (yielded O a.tmps)=false->jY n D d a->(iN n d o.dst undef λd=>od P y n O T E r D d w.heap K)->
    (if Region.wanted o (yielded O a.tmps)=true then o.wp P a w (wpOps P O (Sk n D a0 w0 (cF O) K E) (List.range' (k+1) r.length)) (Sk n D a0 w0 (cF O) K E)\/(o.asks P a w/\LetsOut (Sk n D a0 w0 (cF O) K E))else wpOps P O (Sk n D a0 w0 (cF O) K E) (List.range' (k+1) r.length) (a.put o.dst undef) w):=by
   intro d b H h;rw[ae (by rw[b];simp)];obtain⟨m,i,g⟩:=pM H h;exact pP r (k+1) m _ w x i e (f.trans (eX.put (ee q))) g
  unfold od at h;split at h
  .rename_i c F;rcases pO s h with⟨b,d,H,h⟩|⟨b,d,H,h⟩
   .rw[af b];split at h
    .rename_i p A;split at h
     .obtain⟨m,i,g⟩:=pM (D:=p) (a:= { a with defers:=p }) ⟨H.size,H.at_,rfl⟩ h;exact .inl (FE H.fits H.defs A (.inl ⟨rfl,p,m,i,g,e,f.trans (eX.put (a:= { a with defers:=p }) (ee q))⟩))
     .exact h.elim
    .exact h.elim
   .exact skip b H h
  .rcases pO s h with⟨b,d,H,h⟩|⟨b,d,H,h⟩
   .rw[af b];refine .inl (CG H.fits h (λv z C t=> ?_) (λv z B t=> .inr ⟨H.defs,H.size,f,e.trans t,v,rfl,B⟩));obtain⟨m,i,g⟩:=pM H (oP C);exact pP r (k+1) m _ z x i (e.trans t) (f.trans (eX.put (ee q))) g
   .exact skip b H h
def ig(P:Program)(p:List Nat)(n:Nat)(O:Array Oper)(E:fO):qC->List (Nat×(ai->Prop))->Env->ai->(Env->ai->Prop)->Prop
 | .done,_,a,h,K=>K a h
 | .op i r,G,a,h,K=>(match O[i]? with
  |some o=>jo O o a
    (λa=>(match mv P o with
     |true=>nW P o a h λv S=>iN n a o.dst v λb=>ig P p n O E r (vh i S G) b h K
     |false=>wN P p o a h (λv H=>qS H (iN n a o.dst v λb=>ig P p n O E r (gj o G) b H K) (gj o G)) E))
    (λa=>iN n a o.dst undef λb=>ig P p n O E r G b h K)
  |none=>False)
 | .alts q,G,a,h,K=>ig P p n O E q G a h K
 | .fork i r q,G,a,h,K=>(match O[i]? with
  |some o=>jo O o a
    (λa=>wN P p o a h (λv H=>qS H (iN n a o.dst v λb=>ig P p n O E r (gj o G) b H K) (gj o G)) E)
    (λa=>iN n a o.dst undef λb=>ig P p n O E r G b h K)
  |none=>False)/\ig P p n O E q G a h K
 | .gw,_,_,_,_=>True
theorem eX.TL{w:List Nat}{a b:Act}{dst:Option Nat}{v:Value}(h: ∀d,dst=some d->d∈w)(f:eX w a (b.put dst v)):eX w a b:=λt H=>by
 rw[<-f t H];cases dst with
 |none=>rfl
 |some d=>
  have c:t≠d:=λe=>H (e▸h d rfl)
  simp[Act.put,fW c]
section
variable {P : Program} {p : List Nat} {n : Nat} {o : Array Oper} {E : Value → ai → Prop} {D : List Deferred} {K : Env → ai → Prop} {a0 : Act} {w0 : World}
abbrev Qe(n:Nat)(D:List Deferred)(a0:Act)(w0:World)(o:Array Oper)(K:Env->ai->Prop)(E:fO):=Sk n D a0 w0 (cF o) (λd a h=>d=D/\K a h) E
theorem xW{R:qC}{i m:Nat}{O:Oper}{L:Array Bool}{G:List (Nat×(ai->Prop))}{b:Env}{a:Act}{w:World}(I: ∀G b a w,jY n D b a->fc w0 w->eX (cF o) a0 a->(∀g∈G,g.2 w.heap)->ig P p n o E R G b w.heap K->iC P o (Qe n D a0 w0 o K E) m G (L.setIfInBounds i true) a w)(e:o[i]? =some O)(F:jY n D b a)(l:fc w0 w)(r:eX (cF o) a0 a)(y: ∀g∈G,g.2 w.heap)(h:jo o O b (λb=>wN P p O b w.heap (λv u=>qS u (iN n b O.dst v λd=>ig P p n o E R (gj O G) d u K) (gj O G)) E) (λb=>iN n b O.dst undef λd=>ig P p n o E R G d w.heap K)):
  wpOp P o (Qe n D a0 w0 o K E) i (λA c=>(∀g∈gj O G,g.2 c.heap)/\iC P o (Qe n D a0 w0 o K E) m (gj O G) (L.setIfInBounds i true) A c) a w:=by
 rcases pO F h with⟨s,d,H,h⟩|⟨s,d,H,J⟩
 .unfold wpOp;simp only[e,s,bm];refine .inl (CG H.fits h (λv c C q=> ?_) (λv c B q=> .inr ⟨H.defs,H.size,r,l.trans q,v,rfl,B⟩));obtain⟨x,z⟩:=vg C;obtain⟨t,k,f⟩:=pM H z;exact⟨x,I _ t _ c k (l.trans q) (r.trans (eX.put (ee e))) x f⟩
 .unfold wpOp;simp only[e,s,ar,aQ];obtain⟨t,k,f⟩:=pM H J;have I:=I G t _ w k l (r.trans (eX.put (ee e))) y f;exact⟨λg j=>y g (jE j),lK _ _ _ _ _ _ (λg j=>jE j) I⟩
theorem BT(i':Region.noSelect o=true)(x:qC):
  (∀(m:Nat)(l:Array Bool)(G:List (Nat×(ai->Prop)))(b:Env)(a:Act)(w:World),qD x m=true->
   iL P o x none l=true->jY n D b a->fc w0 w->eX (cF o) a0 a->(∀g∈G,g.2 w.heap)->ig P p n o E x G b w.heap K->
   iC P o (Qe n D a0 w0 o K E) m G l a w)/\
  (∀(m:Nat)(R:List Nat)(l:Array Bool)(G:List (Nat×(ai->Prop)))(b:Env)(a:Act)(w:World),qD x (m+1)=true->
   iL P o x (some R) l=true->jY n D b a->fc w0 w->eX (cF o) a0 a->(∀g∈G,g.2 w.heap)->ig P p n o E x G b w.heap K->
   ∀j∈R,∀O,o[j]? =some O->wpOp P o (Qe n D a0 w0 o K E) j (λa' V=>(∀g∈gj O G,g.2 V.heap)/\iC P o (Qe n D a0 w0 o K E) m (gj O G) (l.setIfInBounds j true) a' V) a w):=by
 induction x with
 |done=>
  refine⟨λm l G b a w d H k q r f h=> ?_,λm R l G b a w d H=>by cases H⟩;obtain rfl:m=0:=bR d;simp only[iL,List.isEmpty_iff]at H;exact⟨H,.inl ⟨rfl,D,b,k,⟨rfl,h⟩,q,r⟩⟩
 |gw=>
  refine⟨λm l G b a w d H=>(by cases H),λm R l G b a w d H k q r f h j u=> ?_⟩;simp only[iL,List.isEmpty_iff]at H;subst H;cases u
 |alts n' I=>
  refine⟨λm l G b a w d H k q r f h=> ?_,λm R l G b a w d H=>by cases H⟩;cases m with
  |zero=>cases d
  |succ m=>
   simp only[iL]at H;split at H
   .cases H
   .rename_i j js C;refine⟨(λe=>by rw[C]at e;cases e),λj' b' O s=> ?_⟩;rw[C]at b';exact I.2 m _ l G b a w d H k q r f h j' b' O s
 |fork i e' n' l' m'=>
  refine⟨λm l G b a w d H=>(by cases H),λm R l G b a w d H k q r f h j u O s=> ?_⟩;simp only[iL,aW]at H;obtain⟨⟨t,J⟩,h'⟩:=H;simp only[qD,aW]at d;simp only[ig]at h;by_cases c':i=j
  .subst c';have h:=h.1;rw[s]at h;exact xW (λG b a w k q r f h=>l'.1 m _ G b a w d.1 J k q r f h) s k q r f h
  .refine m'.2 m _ l G b a w d.2 h' k q r f h.2 j (bj.2 ⟨u,?_⟩) O s;have:Nat.beq i j=false:=by cases hb:Nat.beq i j;rfl;exact absurd (bR hb) c'
   simp[this]
 |op i e' I=>
  refine⟨λm l G b a w d H k q r f h=> ?_,λm R l G b a w d H=>by cases H⟩;cases m with
  |zero=>cases d
  |succ m=>
   simp only[iL,aW]at H;obtain⟨t,J⟩:=H;simp only[ig]at h;split at h
   .rename_i O s;simp only[s]at t;have hQ: ∀v,∀c a w,Qe n D a0 w0 o K E (.panic c) (a.put O.dst v) w->Qe n D a0 w0 o K E (.panic c) a w:=λv c a w hq=>by
     rcases hq with⟨e,_⟩|⟨L,M,Q,B⟩
     .cases e
     .refine .inr ⟨(FD _ _ _).symm.trans L,?_,Q.TL (ee s),B⟩;rw[<-M];cases O.dst<;>simp[Act.put]
    have f': ∀(v:Value)(S:Option (ai->Prop))(A:Env),mv P O=true->jY n D A (a.put O.dst v)->YieldsIf P o (λw=>sw S w.heap) O v a->sw S w.heap->
      ig P p n o E e' (vh i S G) A w.heap K->iC P o (Qe n D a0 w0 o K E) (m+1) G l a w:=λv S A z y hy F hd=>by
     rw[z]at t;simp only[aW]at t;have g': ∀g∈vh i S G,g.2 w.heap:=by
      intro g Z;cases S with
      |none=>exact f g Z
      |some S=>
       rcases bg.1 Z with e|e
       .rw[e];exact F
       .exact f g e
     have I:=I.1 m _ (vh i S G) A (a.put O.dst v) w d J y q (r.trans (eX.put (ee s))) g' hd;refine pI (S:=sw S) s (Region.noSelect_spec i') (hQ v) m G l a w (Region.free_spec s t.2) (by simpa using t.1) hy F f ?_;cases S with
     |none=>exact oa i _ _ _ _ _ I
     |some S=>exact I
    cases z:mv P O with
    |true=>
     rcases pO k h with⟨U,A,y,h⟩|⟨U,A,y,k'⟩
     .rw[z]at h;obtain⟨v,S,L,M,Q⟩:=pH y.fits h;obtain⟨X,T,B⟩:=pM y L;exact f' v S X z T (.inl ⟨U,λV F=>pE _ _ _ (Q _ F)⟩) M B
     .obtain⟨X,T,B⟩:=pM y k';exact f' undef none X z T (.inr ⟨U,rfl⟩) trivial B
    |false=>
     rw[z]at t h;simp only at t h;have C:Region.ready .any o l= [i]:=by
      split at t
      .rename_i j u;rw[u,bR t]
      .cases t
     refine⟨(λe=>by rw[C]at e;cases e),λj u o' d'=> ?_⟩;rw[C]at u;obtain rfl:j=i:=by simpa using u
     obtain rfl:o'=O:=by rw[s]at d';exact(aX d').symm
     exact xW (λG b a w k q r f h=>I.1 m _ G b a w d J k q r f h) s k q r f h
   .exact h.elim
end
def Nu(K:List Deferred->Env->ai->Prop)(Q:Exit->List Deferred->Env->ai->Prop):Exit->List Deferred->Env->ai->Prop
 | .normal=>K
 |e=>Q e
def Nv(id:Nat)(Q:Exit->List Deferred->Env->ai->Prop):Exit->List Deferred->Env->ai->Prop
 | .exit i=>(match Nat.beq i id with|true=>Q .normal|false=>Q (.exit i))
 |e=>Q e
def qF(P : Program)(g : List Nat)(n : Nat)(E : List Deferred -> Env -> fO): ob -> Code -> (Exit -> List Deferred -> Env -> ai -> Prop) -> List Deferred -> Env -> ai -> Prop
  | .leaf, c, Q, D, e, h => (match c with
    | .skip => Q .normal D e h
    | .label _ => Q .normal D e h
    | .exit id => Q (.exit id) D e h
    | .ret => Q .ret D e h
    | .region _ o false => od P g n o [] (E D (e.forget (cF o))) o.toList D e h (Q .normal)
    | _ => False)
  | .typed t, c, Q, D, e, h => (match c with
    | .region _ o false => od P g n o t (E D (e.forget (cF o))) o.toList D e h (Q .normal)
    | _ => False)
  | .qT p, c, Q, D, e, h => (match c with
    | .region _ o true => (match (P.follows .mixedOrders && Region.noSelect o && qD p o.size && iL P o p none (Array.replicate o.size false)) with
      | true => ig P g n o (E D (e.forget (cF o))) p [] e h (Q .normal D)
      | false => False)
    | _ => False)
  | .seq a b, c, Q, D, e, h => (match c with
    | .seq c d => qF P g n E a c (Nu (λj i H => qF P g n E b d Q j i H) Q) D e h
    | _ => False)
  | .cond a b, c, Q, D, e, h => (match c with
    | .cond x c d => (match e.ev x with
      | some (.bool q) => if q = true then qF P g n E a c Q D e h else qF P g n E b d Q D e h
      | _ => False)
    | _ => False)
  | .block a, c, Q, D, e, h => (match c with
    | .block id c => qF P g n E a c (Nv id Q) D e h
    | _ => False)
  | .loop L a, c, Q, D, e, h => (match c with
    | .loop c => ∃(I : qB (ai -> Prop) L)(l : qB (ai -> Nat) L), mn False L I e (λf => f h) /\
        KU L (λi => ∀ H, mn False L I i (λf => f H) ->
          qF P g n E a c (Nu (λj m k => j = D /\ mn False L I m (λf => f k) /\ mn 0 L l m (λf => f k) < mn 0 L l i (λf => f H)) Q) D i H) (e.forget (writes c))
    | _ => False)
  | .join L a, c, Q, D, e, h => aG (α := qB (ai -> Prop) L) (Nn L (λi H => Q .normal D i H) (e.forget (writes c)))
      (λJ => qF P g n E a c (Nu (λj i H => j = D /\ mn False L J i (λf => f H)) Q) D e h)
  | .scope _ _ _ _, _, _, _, _, _ => False
  | .iZ _, _, _, _, _, _ => False
def Sm(n:Nat)(A:Act)(d:World)(c:List Nat)(Q:Exit->List Deferred->Env->ai->Prop)(E:List Deferred->Env->fO):Exit->Act->World->Prop:=
 λe a w=>fc d w/\eX c A a/\((∃D b,jY n D b a/\Q e D b w.heap/\∀C,e≠ .panic C)\/∃D b v,jY n D b a/\e=.panic (ring v)/\E D b v w.heap)
theorem jY.pJ{n:Nat}{D d:List Deferred}{b c e:Env}{a A:Act}{w:List Nat}(H:jY n D b a)(h:jY n d c A)(g:eX w a A)(f:Sub e (b.forget w) c):jY n d e A:=
 .of (Rel.pJ H.bare h.bare g f) h.defs
theorem ui{n:Nat}{D:List Deferred}{A:Act}{g:World}{i:Env}{b:List Nat}{Q:Exit->List Deferred->Env->ai->Prop}{E:List Deferred->Env->fO}(l:jY n D i A){e:Exit}{a:Act}{w:World}(h:Sk n D A g b (Q .normal) (E D (i.forget b)) e a w):Sm n A g b Q E e a w:=by
 rcases h with⟨rfl,j,p,c,d,H,f⟩|⟨c,d,H,f,v,rfl,k⟩
 .exact⟨H,f,.inl ⟨j,p,c,d,λ_ e=>by cases e⟩⟩
 .refine⟨f,H,.inr ⟨D,_,v,⟨d,λt u m=> ?_,c⟩,rfl,k⟩⟩;obtain⟨q,o⟩:=Env.xU m;rw[H t q];exact l.at_ t u o
theorem vm{n:Nat}{A:Act}{d:World}{b c:List Nat}{Q:Exit->List Deferred->Env->ai->Prop}{E:List Deferred->Env->fO}(H: ∀t,t∈b->t∈c){e:Exit}{a:Act}{w:World}(h:Sm n A d b Q E e a w):Sm n A d c Q E e a w:=
 ⟨h.1,h.2.1.mono H,h.2.2⟩
theorem KW{n:Nat}{A c:Act}{d f:World}{b:List Nat}{Q:Exit->List Deferred->Env->ai->Prop}{E:List Deferred->Env->fO}(H:fc d f)(g:eX b A c){e:Exit}{a:Act}{w:World}(h:Sm n c f b Q E e a w):Sm n A d b Q E e a w:=
 ⟨H.trans h.1,g.trans h.2.1,h.2.2⟩
theorem oe{P:Program}{f':List Nat}{n:Nat}{E:List Deferred->Env->fO}: ∀(a':ob)(c:Code)(Q:Exit->List Deferred->Env->ai->Prop)(D:List Deferred)(q:Env)(a:Act)(w:World),jY n D q a->
  qF P f' n E a' c Q D q w.heap->c.wp P (Sm n a w (writes c) Q E) a w
 | .leaf,c,Q,D,q,a,w,o,h=>by
  unfold qF at h;have K: ∀e,(∀C,e≠ .panic C)->Q e D q w.heap->Sm n a w (writes c) Q E e a w:=λe H hq=>⟨fc.refl w,eX.refl _ _,.inl ⟨D,q,o,hq,H⟩⟩
  split at h
  .exact wp_skip (K _ (λ_ e=>by cases e) h)
  .exact wp_label (K _ (λ_ e=>by cases e) h)
  .exact wp_exit (K _ (λ_ e=>by cases e) h)
  .exact wp_ret (K _ (λ_ e=>by cases e) h)
  .rename_i id O;refine wp_mono (wp_region ?_) (λe A r hq=>ui o hq);have:=pP (a0:=a) (w0:=w) O.toList 0 q a w bU o (fc.refl w) (eX.refl _ _) h;rw[gm];rw[eZ]at this;exact this
  .exact h.elim
 | .typed ty,c,Q,D,q,a,w,o,h=>by
  unfold qF at h;split at h
  .rename_i id O;refine wp_mono (wp_region ?_) (λe A r hq=>ui o hq);have:=pP (a0:=a) (w0:=w) O.toList 0 q a w bU o (fc.refl w) (eX.refl _ _) h;rw[gm];rw[eZ]at this;exact this
  .exact h.elim
 | .qT e',c,Q,D,q,a,w,o,h=>by
  unfold qF at h;split at h
  .rename_i id O;split at h
   .rename_i J;simp only[aW]at J;obtain⟨⟨⟨h1,h2⟩,h3⟩,h4⟩:=J;refine wp_mono (wp_region_any (Q:=Qe n D a w O (Q .normal D) (E D (q.forget (cF O)))) h1 ?_) (λe A r hq=>ui (Q:=Q) o ?_)
    .exact lJ _ _ _ _ _ ((BT (a0:=a) (w0:=w) h2 e').1 O.size (Array.replicate O.size false) [] q a { w with drawn:=w.drawn+1 } h3 h4 o ⟨rfl,rfl,rfl⟩ (eX.refl _ _) (λ_ hm=>by cases hm) h)
    .rcases hq with⟨e,p,j,q1,⟨rfl,q2⟩,q3⟩|hq
     .exact .inl ⟨e,_,j,q1,q2,q3⟩
     .exact .inr hq
   .exact h.elim
  .exact h.elim
 | .seq x y,c,Q,D,q,a,w,o,h=>by
  unfold qF at h;split at h
  .rename_i c d;have hW: ∀t,t∈writes c->t∈writes (.seq c d):=λt s=>dG _ s
   refine wp_seq (wp_mono (oe x c _ D q a w o h) ?_);rintro e A r hq;have hq:=vm hW hq;obtain⟨i,g,⟨p,j,m,hq,H⟩|⟨p,j,v,m,rfl,hE⟩⟩:=hq
   .cases e with
    |normal=>exact wp_mono (oe y d Q p j A r m hq) (λe2 a2 w2 c'=>KW i g (vm (λt s=>dD _ s) c'))
    |exit id=>exact⟨i,g,.inl ⟨p,j,m,hq,H⟩⟩
    |goto l=>exact⟨i,g,.inl ⟨p,j,m,hq,H⟩⟩
    |ret=>exact⟨i,g,.inl ⟨p,j,m,hq,H⟩⟩
    |panic C=>exact absurd rfl (H C)
    |outgrown=>exact⟨i,g,.inl ⟨p,j,m,hq,H⟩⟩
   .exact⟨i,g,.inr ⟨p,j,v,m,rfl,hE⟩⟩
  .exact h.elim
 | .cond x y,c,Q,D,q,a,w,o,h=>by
  unfold qF at h;split at h
  .rename_i k c d;split at h
   .rename_i g' hq;have H:=o.fits _ _ hq;split at h
    .rename_i s;subst s;exact wp_cond_true H (wp_mono (oe x c Q D q a w o h) (λ_ _ _=>vm λt s=>dG _ s))
    .rename_i s;have s:g'=false:=by simpa using s
     subst s;exact wp_cond_false H (wp_mono (oe y d Q D q a w o h) (λ_ _ _=>vm λt s=>dD _ s))
   .exact h.elim
  .exact h.elim
 | .block x,c,Q,D,q,a,w,o,h=>by
  unfold qF at h;split at h
  .rename_i id c;refine wp_block (wp_mono (oe x c _ D q a w o h) ?_);rintro e A r ⟨i,g,⟨p,j,m,hq,H⟩|⟨p,j,v,m,rfl,hE⟩⟩
   .cases e with
    |exit S=>
     simp only[Exit.inBlock];simp only[Nv]at hq;by_cases hid:S=id
     .subst hid;simp only[Nat.beq_refl]at hq;rw[af rfl];exact⟨i,g,.inl ⟨p,j,m,hq,λ_ e=>by cases e⟩⟩
     .rw[ae hid];have:Nat.beq S id=false:=by cases J:Nat.beq S id;rfl;exact absurd (bR J) hid
      rw[this]at hq;exact⟨i,g,.inl ⟨p,j,m,hq,H⟩⟩
    |normal=>exact⟨i,g,.inl ⟨p,j,m,hq,H⟩⟩
    |goto l=>exact⟨i,g,.inl ⟨p,j,m,hq,H⟩⟩
    |ret=>exact⟨i,g,.inl ⟨p,j,m,hq,H⟩⟩
    |panic C=>exact absurd rfl (H C)
    |outgrown=>exact⟨i,g,.inl ⟨p,j,m,hq,H⟩⟩
   .exact⟨i,g,.inr ⟨p,j,v,m,rfl,hE⟩⟩
  .exact h.elim
 | .loop L x,c,Q,D,q,a,w,o,h=>by
  unfold qF at h;split at h
  .rename_i c;obtain⟨I,μ,h0,d'⟩:=h;refine wp_loop (λA r=> ∃j,jY n D j A/\mn False L I j (λf=>f r.heap)/\fc w r/\eX (writes c) a A)
    (λA r=>mn 0 L μ (qU A) (λf=>f r.heap)) ⟨q,o,h0,fc.refl w,eX.refl _ _⟩ ?_
   rintro A r ⟨j,m,T,i,g⟩;obtain⟨M,hF,R,hL,_⟩:=ve L _ I d' T;have X:=jY.pJ o m g R;have U:mn False L I M (λf=>f r.heap):=by rw[mV L I hL];exact T
   have hd:=hF r.heap U;refine wp_mono (oe x c _ D M A r X hd) ?_;rintro e Z w1 ⟨F,G,⟨B,z,u,hq,H⟩|⟨B,z,v,u,rfl,hE⟩⟩
   .cases e with
    |normal=>
     obtain⟨rfl,V,b'⟩:=hq;refine⟨⟨z,u,V,i.trans F,g.trans G⟩,?_⟩;have ev: ∀b:Act,qU { b with defers:= [] } =qU b:=λ_=>rfl
     rw[<-ev Z,<-ev A,kC u.bare (mQ L I V),kC X.bare (mQ L I U)];exact b'
    |exit id=>exact⟨i.trans F,g.trans G,.inl ⟨B,z,u,hq,H⟩⟩
    |goto l=>exact⟨i.trans F,g.trans G,.inl ⟨B,z,u,hq,H⟩⟩
    |ret=>exact⟨i.trans F,g.trans G,.inl ⟨B,z,u,hq,H⟩⟩
    |panic C=>exact absurd rfl (H C)
    |outgrown=>exact⟨i.trans F,g.trans G,.inl ⟨B,z,u,hq,H⟩⟩
   .exact⟨i.trans F,g.trans G,.inr ⟨B,z,v,u,rfl,hE⟩⟩
  .exact h.elim
 | .join L x,c,Q,D,q,a,w,o,h=>by
  unfold qF at h;unfold aG at h;refine wp_mono (oe x c _ D q a w o h) ?_;rintro e A r ⟨i,g,⟨p,j,m,hq,H⟩|hE⟩
  .cases e with
   |normal=>
    obtain⟨rfl,hq⟩:=hq;obtain⟨M,hQ,R⟩:=vd L _ hq;exact⟨i,g,.inl ⟨_,M,jY.pJ o m g R,hQ,H⟩⟩
   |exit id=>exact⟨i,g,.inl ⟨p,j,m,hq,H⟩⟩
   |goto l=>exact⟨i,g,.inl ⟨p,j,m,hq,H⟩⟩
   |ret=>exact⟨i,g,.inl ⟨p,j,m,hq,H⟩⟩
   |panic C=>exact absurd rfl (H C)
   |outgrown=>exact⟨i,g,.inl ⟨p,j,m,hq,H⟩⟩
  .exact⟨i,g,.inr hE⟩
 | .scope _ _ _ _,_,_,_,_,_,_,_,h=>by unfold qF at h;exact h.elim
def xX:Option Value->FrameMode
 |none=> .returning
 |some v=> .panicking (ring v)
def qX(P:Program)(g:FuncId)(args:Array Value)(R:Option Value)(h:ai)(K:Option Value->ai->Prop):Prop:=
 ∀w:World,w.heap=h->CallsD P g args (xX R) w λe u a=>(∃v,e=.returned v)/\fc w a/\∃r,settle u=xX r/\K r a.heap
def Nw(A:ai->Prop)(E:fO):Option Value->ai->Prop
 |none,h=>A h
 |some v,h=>E v h
def zQ(P:Program)(r:List ResultVar)(R E:fO):List Deferred->Option Value->Env->ai->Prop
 | [],none,a,h=>qE P r a h λV=>R (qV V) h
 | [],some v,_,h=>E v h
 | [d],b,a,h=>(match d.target with
  | .fn (.func g) cap=>(match mP P g with
   |true=>qX P g (d.args.toList++cap.toList).toArray b h (Nw (λH=>qE P r a H λV=>R (qV V) H) E)
   |false=>False)
  |_=>False)
 |_::_::_,_,_,_=>False
theorem Qj{P:Program}{n:Nat}{D:List Deferred}{b:Env}{a:Act}{h:ai}{f:Func}{F:Value->Prop}(c:jY n D b a)(H:qE P f.results.toList b h λV=>F (qV V)): ∃v,F v/\rd P (results f a.tmps) h=some v:=
 pL (a:= { a with defers:= [] }) c.bare H
theorem zR{P:Program}{n:Nat}{f:Func}{R E:fO}{j:World}{D:List Deferred}{rv:Option Value}{m:Env}{a:Act}{w:World}(z:jY n D m a)(i:fc j w)(h:zQ P f.results.toList R E D rv m w.heap):
  Leaves P f a.tmps (λe b=>fc j b/\((∃v,e=.returned v/\R v b.heap)\/∃v,e=.panicked (ring v)/\E v b.heap)) D (xX rv) w:=by
 have o: ∀(rv:Option Value)(w:World),fc j w->(match rv with|none=>qE P f.results.toList m w.heap λV=>R (qV V) w.heap|some v=>E v w.heap)->
   Leaves P f a.tmps (λe b=>fc j b/\((∃v,e=.returned v/\R v b.heap)\/∃v,e=.panicked (ring v)/\E v b.heap)) [] (xX rv) w:=by
  intro rv w i h;cases rv with
  |none=>
   obtain⟨v,k,l⟩:=Qj (F:=λv=>R v w.heap) z h;exact⟨v,pE _ _ _ l,i,.inl ⟨v,rfl,k⟩⟩
  |some v=>exact⟨i,.inr ⟨v,rfl,h⟩⟩
 match D,h with
 | [],h=>
  refine o rv w i ?_;cases rv<;>exact h
 | [d],h=>
  simp only[zQ]at h;split at h
  .rename_i g cap p;split at h
   .rename_i H;refine⟨by cases rv<;>simp[xX],.func g,cap,g,(d.args.toList++cap.toList).toArray,p,?_,?_⟩
    .rw[p];unfold mP at H;split at H
     .rename_i F t;simp only[aW,gG]at H;have x:F.body.isNone=false:=by cases y:F.body<;>simp[y]at H⊢
      have e:d.args++cap=(d.args.toList++cap.toList).toArray:=by apply Array.ext';simp
      rw[<-e];refine pE _ _ _ ?_;simp only[invoke,callFunc];show rd P (match P.funcs[g]? with|none=>_|some f=>_) w.heap=_;rw[t];simp only[H.2,x,ar,aQ];rfl
     .cases H
    .intro c C B;obtain⟨e,u,b,q,⟨⟨v,rfl⟩,A,r,k,l⟩,s⟩:=h w rfl c C B;refine⟨_,u,b,q,?_,s⟩;show Leaves P f a.tmps _ [] (settle u) b;rw[k];exact o r b (i.trans A) (by cases r<;>exact l)
   .exact h.elim
  .exact h.elim
 |_::_::_,h=>exact h.elim
def U0(P:Program)(r:Array ResultVar)(R E:fO):Exit->List Deferred->Env->ai->Prop
 | .normal,D,a,h=>zQ P r.toList R E D none a h
 | .ret,D,a,h=>zQ P r.toList R E D none a h
 |_,_,_,_=>False
theorem iD{P:Program}{f:FuncId}{F:Func}{args:List Value}{h:ai}{R E:fO}(A:ob)(u:List Nat)(q:P.funcs[f]? =some F)(o:F.body.isSome=true)(n:Nat.ble args.length F.ntmps=true)(m:qF P u F.ntmps (λD i v h=>zQ P F.results.toList R E D (some v) i h) A (nh F) (U0 P F.results R E) [] (ks args) h):iO P f args.toArray h R E:=by
 obtain⟨c,k⟩:=dH.1 o;rw[nh,k]at m;intro w s;subst s;have n:=Nat.le_of_ble_eq_true n;refine calls_of_wp_defers q k ?_;have H:jY F.ntmps [] (ks args) { tmps:=args.toArray++Array.replicate (F.ntmps - args.toArray.size) undef,defers:= [] } :=by
  refine⟨by simp;omega,λt v g=> ?_,rfl⟩;unfold ks at g;have r:t<args.length:=(az.1 g).1;simp only[eM];rw[dC (by simpa using r)];simp[g]
 refine wp_mono (oe A c _ _ _ _ w H m) ?_;rintro e a x ⟨d,_,⟨D,i,H,b,p⟩|⟨D,i,v,H,rfl,j⟩⟩
 .cases e with
  |normal=>rw[<-H.defs]at b H;exact zR (rv:=none) H d b
  |ret=>rw[<-H.defs]at b H;exact zR (rv:=none) H d b
  |exit id=>exact b.elim
  |goto l=>exact b.elim
  |panic C=>exact absurd rfl (p C)
  |outgrown=>exact b.elim
 .rw[<-H.defs]at j H;exact zR (rv:=some v) H d j
inductive RS where
 |calm
 |Nx (v:Value)
 |done (v:Value)
def RS.mode:RS->FrameMode
 | .calm=> .returning
 | .Nx v=> .panicking (ring v)
 | .done v=> .panicking [{ v,recovered:=true }]
def RS.left:RS->Option Value
 | .Nx v=>some v
 |_=>none
def RS.of:Option Value->RS
 |none=> .calm
 |some v=> .Nx v
theorem RS.settle(a:RS):settle a.mode=xX a.left:=by cases a<;>rfl
theorem RS.Qk(r:Option Value):(RS.of r).mode=xX r:=by cases r<;>rfl
def isRec(o:Oper):Bool:=match o.op with
 | .call { callee:=.builtin .recover,args:=_,argTypes:=_ } =>true
 |_=>false
theorem KX{P:Program}{o:Oper}{a:Operand->Value}{w:World}(h:isRec o=true):(execOp a o).run P w=.ok .recover w:=by
 unfold isRec at h;split at h
 .rename_i H;unfold execOp;rw[H];rfl
 .cases h
def Ib(P:Program)(o:Oper)(a:Env)(h:ai)(K:fO):Prop:=
 match o.op with
 | .typeAssert x X A O=>(match a.ev x with
  |some v=>aT P (Instr.typeAssert v X A O) h K
  |none=>False)
 |_=>tQ P o a h K
theorem KY{P:Program}{o:Oper}{c:Env}{b:Operand->Value}{h:ai}{K:fO}(a:Fits c b)(H:Ib P o c h K):pF P o b h K:=by
 unfold Ib at H;split at H
 .rename_i x X A O d;split at H
  .rename_i v e;unfold pF execOp;rw[d];simp only[a _ _ e];rw[dW];exact H
  .exact H.elim
 .exact ma a H
def jK(P:Program)(n:Nat)(O:Array Oper)(t:List (Nat×Sh)):List Oper->RS->Env->ai->(RS->Env->ai->Prop)->Prop
 | [],c,a,h,K=>K c a h
 |o::r,c,a,h,K=>(match isRec o with
  |true=>jo O o a
   (λa=>(match c with
    | .Nx v=>iN n a o.dst v λb=>jK P n O t r (.done v) b h K
    | .calm=>iN n a o.dst .nilIface λb=>jK P n O t r .calm b h K
    | .done v=>iN n a o.dst .nilIface λb=>jK P n O t r (.done v) b h K))
   (λa=>iN n a o.dst undef λb=>jK P n O t r c b h K)
  |false=>jo O o a
   (λa=>Ib P o a h λv H=>CE t o.dst v λv=>iN n a o.dst v λb=>jK P n O t r c b H K)
   (λa=>iN n a o.dst undef λb=>jK P n O t r c b h K))
def Tq(n:Nat)(A:Act)(h:World)(d:List Nat)(C:Frame)(g:List Frame)(Q:Exit->RS->Env->ai->Prop):Exit->Act->List Frame->World->Prop:=
 λe a f w=> ∃b c,f= { C with mode:=b.mode } ::g/\Rel n c a/\Q e b c w.heap/\fc h w/\eX d A a
def Ny(K:RS->Env->ai->Prop):Exit->RS->Env->ai->Prop
 | .normal=>K
 |_=>λ_ _ _=>False
theorem zS {P : Program} {n : Nat} {ops : Array Oper} {ty : List (Nat × Sh)} {K : RS → Env → ai → Prop} {a0 : Act} {w0 : World} {c0 : Frame} {cs0 : List Frame} : ∀ (rest : List Oper) (k : Nat) (ρ : RS) (σ : Env) (a : Act) (w : World),
    (∀ j, rest[j]? = ops[k + j]?) → Rel n σ a → fc w0 w → eX (cF ops) a0 a → jK P n ops ty rest ρ σ w.heap K → wpOpsS P ops (Tq n a0 w0 (cF ops) c0 cs0 (Ny K)) (List.range' k rest.length) a ({ c0 with mode := ρ.mode } :: cs0) w
  | [], k, ρ, σ, a, w, _, hr, hs, hu, h => ⟨ρ, σ, rfl, hr, h, hs, hu⟩
  | o :: rest, k, ρ, σ, a, w, hj, hr, hs, hu, h => by
    have h0 : ops[k]? = some o := by have := hj 0; simpa using this.symm
    have Ww : ∀ j, rest[j]? = ops[k + 1 + j]? := λj => by have := hj (j + 1); simpa [Nat.add_assoc, Nat.add_comm 1 j] using this
    simp only [List.length_cons, List.range'_succ, wpOpsS, h0]
    unfold jK at h
    have next : ∀ {nT : Env} {v : Value} {Sn : RS} {w' : World}, fc w w' → Rel n nT a → (iN n nT o.dst v λnT => jK P n ops ty rest Sn nT w'.heap K) →
        wpOpsS P ops (Tq n a0 w0 (cF ops) c0 cs0 (Ny K)) (List.range' (k + 1) rest.length) (a.put o.dst v) ({ c0 with mode := Sn.mode } :: cs0) w' := by
      intro nT v Sn w' TM oK h
      obtain ⟨HS, DN, h1⟩ := iH oK h
      exact zS rest (k + 1) Sn HS _ w' Ww DN (hs.trans TM) (hu.trans (eX.put (ee h0))) h1
    split at h
    · rename_i zT
      rcases jD hr h with ⟨hw, nT, oK, h⟩ | ⟨hw, nT, oK, h⟩
      · rw [if_pos hw, KX zT]
        cases ρ with
        | calm => exact next (Sn := .calm) (fc.refl w) oK h
        | Nx v => exact next (Sn := .done v) (fc.refl w) oK h
        | done v => exact next (Sn := .done v) (fc.refl w) oK h
      · rw [if_neg (by rw [hw]; simp)]
        exact next (fc.refl w) oK h
    · rcases jD hr h with ⟨hw, nT, oK, h⟩ | ⟨hw, nT, oK, h⟩
      · rw [if_pos hw]
        obtain ⟨x, w', r1, r2, r3⟩ := mN _ _ _ (KY oK.fits h) w rfl
        rw [r1]
        cases x with
        | value v => exact next r3 oK (oP (F := λv => iN n nT o.dst v λnT => jK P n ops ty rest ρ nT w'.heap K) r2)
        | skip => exact next r3 oK (oP (F := λv => iN n nT o.dst v λnT => jK P n ops ty rest ρ nT w'.heap K) r2)
        | enter f args =>
          refine (r2 w' rfl).mono ?_
          rintro e Xc ⟨v, rfl, hR, TM⟩
          exact next (r3.trans TM) oK (oP hR)
        | _ => exact r2.elim
      · rw [if_neg (by rw [hw]; simp)]
        exact next (fc.refl w) oK h
def thenS(K:RS->Env->ai->Prop)(Q:Exit->RS->Env->ai->Prop):Exit->RS->Env->ai->Prop
 | .normal=>K
 |e=>Q e
def Ic(P:Program)(n:Nat):ob->Code->(Exit->RS->Env->ai->Prop)->RS->Env->ai->Prop
 | .seq a b,c,Q,f,g,h=>(match c with
  | .seq c d=>Ic P n a c (thenS (λj i H=>Ic P n b d Q j i H) Q) f g h
  |_=>False)
 | .typed t,c,Q,f,g,h=>(match c with
  | .region _ o false=>jK P n o t o.toList f g h (Q .normal)
  |_=>False)
 | .leaf,c,Q,f,g,h=>(match c with
  | .region _ o false=>jK P n o [] o.toList f g h (Q .normal)
  |c=>den P n .leaf none c (λe i H=>Q e f i H) g h)
 |U1,c,Q,f,g,h=>den P n U1 none c (λe i H=>Q e f i H) g h
theorem Ql{P:Program}{n:Nat}{c0:Frame}{cs0:List Frame}: ∀(A:ob)(c:Code)(Q:Exit->RS->Env->ai->Prop)(f:RS)(g:Env)(a:Act)(w:World),Rel n g a->Ic P n A c Q f g w.heap->
  c.wpS P (Tq n a w (writes c) c0 cs0 Q) a ({ c0 with mode:=f.mode } ::cs0) w:=by
 have M: ∀{c:Code}{Q I:Exit->Act->List Frame->World->Prop}{a:Act}{C:List Frame}{w:World},c.wpS P Q a C w->(∀e a C w,Q e a C w->I e a C w)->c.wpS P I a C w:=
  λh j b k K H=>let ⟨e,u,D,z,b',c'⟩:=h b k K H;⟨e,u,D,z,j _ _ _ _ b',c'⟩
 have p: ∀(A:ob)(c:Code)(Q:Exit->RS->Env->ai->Prop)(f:RS)(g:Env)(a:Act)(w:World),Rel n g a->den P n A none c (λe i J=>Q e f i J) g w.heap->
   c.wpS P (Tq n a w (writes c) c0 cs0 Q) a ({ c0 with mode:=f.mode } ::cs0) w:=λA c Q f g a w H h=>
  wpS_of_wp (wp_mono (kQ A none c _ g a w H h).wp λe u z ⟨i,v,E,B,F⟩=>⟨f,i,rfl,v,E,B,F⟩)
 have R: ∀(id:Nat)(o:Array Oper)(T:List (Nat×Sh))(Q:Exit->RS->Env->ai->Prop)(f:RS)(g:Env)(a:Act)(w:World),Rel n g a->jK P n o T o.toList f g w.heap (Q .normal)->
   (Code.region id o false).wpS P (Tq n a w (cF o) c0 cs0 Q) a ({ c0 with mode:=f.mode } ::cs0) w:=λid o T Q f g a w H h=>by
  refine M (wpS_region (Q:=Tq n a w (cF o) c0 cs0 (Ny (Q .normal))) ?_) ?_
  .have:=zS (c0:=c0) (cs0:=cs0) (a0:=a) (w0:=w) o.toList 0 f g a w bU H (fc.refl w) (eX.refl _ _) h;rw[gm];rw[eZ]at this;exact this
  .rintro e u D z ⟨l,i,v,E,B,F⟩;cases e with
   |normal=>exact⟨l,i,v,E,B,F⟩
   |_=>exact B.elim
 intro A;induction A with
 |seq x y X Z=>
  intro c Q f g a w H h;unfold Ic at h;split at h
  .rename_i c d;have m: ∀t,t∈writes c->t∈writes (.seq c d):=λt G=>dG _ G
   refine wpS_seq (M (X c _ f g a w H h) ?_);rintro e u D z ⟨l,i,rfl,q,j,r,s⟩;cases e with
   |normal=>
    refine M (Z d Q l i u z q j) ?_;rintro e2 a2 f' w2 ⟨d',e',v,S,O,U,V⟩;exact⟨d',e',v,S,O,r.trans U,(s.mono m).trans (V.mono λt G=>dD _ G)⟩
   |exit id=>exact⟨l,i,rfl,q,j,r,s.mono m⟩
   |goto g'=>exact⟨l,i,rfl,q,j,r,s.mono m⟩
   |ret=>exact⟨l,i,rfl,q,j,r,s.mono m⟩
   |panic ch=>exact⟨l,i,rfl,q,j,r,s.mono m⟩
   |outgrown=>exact⟨l,i,rfl,q,j,r,s.mono m⟩
  .exact h.elim
 |typed T=>
  intro c Q f g a w H h;unfold Ic at h;split at h
  .exact R _ _ T Q f g a w H h
  .exact h.elim
 |leaf=>
  intro c Q f g a w H h;unfold Ic at h;split at h
  .exact R _ _ [] Q f g a w H h
  .exact p .leaf c Q f g a w H h
 |cond x y=>exact λc Q f g a w H h=>p _ c Q f g a w H h
 |block x=>exact λc Q f g a w H h=>p _ c Q f g a w H h
 |loop L x=>exact λc Q f g a w H h=>p _ c Q f g a w H h
 |join L x=>exact λc Q f g a w H h=>p _ c Q f g a w H h
 |qT a'=>exact λc Q f g a w H h=>p _ c Q f g a w H h
 |iZ a'=>exact λc Q f g a w H h=>p _ c Q f g a w H h
 |scope h' L x y=>exact λc Q f g a w H h=>p _ c Q f g a w H h
def U2(P:Program)(r:Array ResultVar)(K:Option Value->ai->Prop):Exit->RS->Env->ai->Prop
 | .normal,a,b,h=>qE P r.toList b h λ_=>K a.left h
 | .ret,a,b,h=>qE P r.toList b h λ_=>K a.left h
 |_,_,_,_=>False
theorem qY{P:Program}{f:FuncId}{F:Func}{args:List Value}{r:Option Value}{h:ai}{K:Option Value->ai->Prop}(m:ob)(B:P.funcs[f]? =some F)(i:F.body.isSome=true)(q:Nat.ble args.length F.ntmps=true)(p:Ic P F.ntmps m (nh F) (U2 P F.results K) (RS.of r) (ks args) h):qX P f args.toArray r h K:=by
 obtain⟨c,o⟩:=dH.1 i;rw[nh,o]at p;intro w O;subst O;have q:=Nat.le_of_ble_eq_true q;refine callsD_of_wpS B o λC g I=> ?_
 have E:C= { C with mode:=(RS.of r).mode } :=by rw[RS.Qk,<-I]
 have J:Rel F.ntmps (ks args) { tmps:=args.toArray++Array.replicate (F.ntmps - args.toArray.size) undef,defers:= [] } :=by
  refine⟨rfl,by simp;omega,λt v j=> ?_⟩;unfold ks at j;have G:t<args.length:=(az.1 j).1;simp only[eM];rw[dC (by simpa using G)];simp[j]
 have u:=Ql (c0:=C) (cs0:=g) m c _ (RS.of r) _ _ w J p;rw[<-E]at u;intro b k i L;obtain⟨e,A,T,a,⟨d,Q,rfl,s,H,M,_⟩,z⟩:=u b k i L;refine⟨e,A,_,a,?_,z⟩;have n:(qE P F.results.toList Q a.heap λ_=>K d.left a.heap)->A.defers= []/\∃U,({ C with mode:=d.mode } ::g:List Frame)= { C with mode:=U } ::g/\∃v,(results F A.tmps).run P a=.ok v a/\(∃V,Ending.returned v=.returned V)/\fc w a/\∃R,Go.settle U=xX R/\K R a.heap:=λD=>by
  obtain⟨v,x,y⟩:=pL (F:=λ_=>K d.left a.heap) s D;exact⟨s.defers,d.mode,rfl,v,pE _ _ _ y,⟨v,rfl⟩,M,d.left,RS.settle d,x⟩
 cases e with
 |normal=>exact n H
 |ret=>exact n H
 |exit id=>exact H.elim
 |goto l=>exact H.elim
 |panic S=>exact H.elim
 |outgrown=>exact H.elim
end Go.Den
namespace Go.Den
theorem lM{h:ai}{b i:Nat}{c:Array Value}{t:TypeId}{f:Nat×Nat}(H:h[b]? =some (.C c t f)):aU h (AA b i)=c[i]? :=by
 simp[aU,H]
theorem oh{h:ai}{b i:Nat}{c:Array Value}{t:TypeId}(H:h[b]? =some (.C c t (0,0))):pD h (AA b i)=false:=by
 simp[pD,H]
theorem zU{h:ai}{a:Addr}{v:Value}(H:aU h a=some v): ∃c t f,h[a.block]? =some (.C c t f)/\a.spot=none/\c[a.off]? =some v:=by
 unfold aU at H;split at H
 .rename_i c t f b;split at H
  .cases H
  .rename_i d;exact⟨c,t,f,b,by simpa using d,H⟩
 .cases H
theorem aA{h:ai}{b:Nat}{o:Obj}(H:h[b]? =some o):b<h.size:=(fH.1 H).1
theorem zV{h:ai}{b:Nat}{o x:Obj}(H:h[b]? =some o):(h.push x)[b]? =some o:=by
 rw[dY,ae (Nat.ne_of_lt (aA H)),H]
theorem bZ{h:ai}{x:Obj}:(h.push x)[h.size]? =some x:=bU
theorem wO{h:ai}{b i:Nat}{c:Array Value}{t:TypeId}{f:Nat×Nat}{v:Value}(H:h[b]? =some (.C c t f)):(oO h (AA b i) v)[b]? =some (.C (c.setIfInBounds i v) t f):=by
 simp[oO,fN,H]
theorem uj{h:ai}{a:Addr}{b:Nat}{v:Value}(H:b≠a.block):(oO h a v)[b]? =h[b]? :=by
 simp[oO,fN,fW H]
theorem CH{h:ai}{a:Addr}{v:Value}:(oO h a v).size=h.size:=by simp[oO]
theorem gZ(b o n:Nat):((AA b o):Addr).add n=(AA b (o+n)):=by
 unfold Addr.add;split
 .rename_i h;subst h;rfl
 .rfl
theorem add_add(a:Addr)(m n:Nat):(a.add m).add n=a.add (m+n):=by
 unfold Addr.add;split
 .rename_i h;subst h;simp
 .split
  .rename_i h H;subst H;simp[h]
  .rename_i h H;have:m+n≠0:=ag
   rw[ae this];simp[Nat.add_assoc]
def Fr(S:Nat->Prop)(h H:ai):Prop:=h.size<=H.size/\∀c,c<h.size->¬S c->H[c]? =h[c]?
theorem Fr.refl(S:Nat->Prop)(h:ai):Fr S h h:=⟨bp _,λ_ _ _=>rfl⟩
theorem Fr.get{S:Nat->Prop}{h H:ai}(b:Fr S h H){c:Nat}{o:Obj}(a:h[c]? =some o)(d: ¬S c):H[c]? =some o:=
 (b.2 c (aA a) d).trans a
theorem Fr.trans{S s S'':Nat->Prop}{h d e:ai}(a:Fr S h d)(f:Fr s d e)(i: ∀c,c<h.size->S c->S'' c)(j: ∀c,c<h.size->s c->S'' c):Fr S'' h e:=
 ⟨db a.1 f.1,λc H g=>(f.2 c (cK H a.1) (λb=>g (j c H b))).trans (a.2 c H (λb=>g (i c H b)))⟩
theorem Fr.mono{S s:Nat->Prop}{h H:ai}(b:Fr S h H)(f: ∀c,c<h.size->S c->s c):Fr s h H:=
 ⟨b.1,λc a d=>b.2 c a (λe=>d (f c a e))⟩
theorem Fr.push{S:Nat->Prop}(h:ai)(o:Obj):Fr S h (h.push o):=
 ⟨bU,λc H _=>by rw[dY,ae (Nat.ne_of_lt H)]⟩
theorem Fr.cell{S:Nat->Prop}{h H:ai}(e:Fr S h H){a:Addr}{v:Value}(d:aU h a=some v)(g: ¬S a.block):aU H a=some v:=by
 obtain⟨c,t,f,b,i,j⟩:=zU d;have:=e.get b g;unfold aU;rw[this];simp[i,j]
def jq(l:List (Int×Value))(k:Int):Option Value:=(l.find? (·.1==k)).map (·.2)
def FG(l:List (Int×Value))(k:Int)(v:Value):List (Int×Value):=if(jq l k).isSome=true then l.map (λe=>if e.1==k then(k,v)else e)else l++ [(k,v)]
def wP(l:List (Int×Value))(k:Int):List (Int×Value):=l.filter (λe=> !(e.1==k))
theorem Nz(k:Int):jq [] k=none:=rfl
theorem gV(e:Int×Value)(l:List (Int×Value))(k:Int):jq (e::l) k=if e.1=k then some e.2 else jq l k:=by
 unfold jq;by_cases h:e.1=k<;>simp[h]
theorem FH{l:List (Int×Value)}{k:Int}:(jq l k).isSome=true↔k∈l.map (·.1):=by
 induction l with
 |nil=>simp[jq]
 |cons e l i=>
  rw[gV,cb,bg];by_cases h:e.1=k
  .simp[h]
  .rw[ae h,i];constructor
   .exact λhm=> .inr hm
   .rintro(E|hm)
    .exact absurd E.symm h
    .exact hm
theorem zW(l:List (Int×Value))(k K:Int)(v:Value)(H:K≠k):jq (l.map (λe=>if e.1==k then(k,v)else e)) K=jq l K:=by
 induction l with
 |nil=>rfl
 |cons e l i=>
  rw[cb,gV,gV,i];by_cases h:e.1=k
  .simp[h,fW H]
  .simp[h]
theorem BU(l:List (Int×Value))(k:Int)(v:Value)(H:(jq l k).isSome=true):jq (l.map (λe=>if e.1==k then(k,v)else e)) k=some v:=by
 induction l with
 |nil=>simp[jq]at H
 |cons e l i=>
  rw[cb,gV];by_cases h:e.1=k
  .simp[h]
  .rw[gV,ae h]at H;have a:(e.1==k)=false:=by simp[h]
   rw[a];simp only[ar,aQ,ae h];exact i H
theorem FI(l L:List (Int×Value))(k:Int):jq (l++L) k=(jq l k).or (jq L k):=by
 induction l with
 |nil=>simp[jq]
 |cons e l i=>
  rw[dk,gV,gV,i];by_cases h:e.1=k<;>simp[h]
theorem KZ(l:List (Int×Value))(k K:Int)(v:Value):jq (FG l k v) K=if K=k then some v else jq l K:=by
 unfold FG;by_cases H:(jq l k).isSome=true
 .rw[af H];by_cases h:K=k
  .subst h;rw[af rfl,BU _ _ _ H]
  .rw[ae h,zW _ _ _ _ h]
 .rw[ae H,FI,gV,Nz];have a:jq l k=none:=by simpa using H
  by_cases h:K=k
  .subst h;simp[a]
  .simp[h,fW h]
theorem K0(l:List (Int×Value))(k K:Int):jq (wP l k) K=if K=k then none else jq l K:=by
 unfold wP;induction l with
 |nil=>simp[jq]
 |cons e l i=>
  rw[cu,gV];by_cases h:e.1=k
  .subst h;simp only[fQ,cX,ar,aQ];rw[i];by_cases H:K=e.1
   .simp[H]
   .simp[H,fW H]
  .have a:(!(e.1==k))=true:=by simp[h]
   rw[af a,gV,i];by_cases H:K=k
   .subst H;simp[h]
   .simp[H]
theorem K1(l:List (Int×Value))(k:Int)(v:Value)(d:(l.map (·.1)).Nodup):((FG l k v).map (·.1)).Nodup:=by
 unfold FG;by_cases H:(jq l k).isSome=true
 .rw[af H];have:(l.map (λe=>if e.1==k then(k,v)else e)).map (·.1)=l.map (·.1):=by
   rw[dT];apply fb
   intro e _;by_cases h:e.1=k<;>simp[h]
  rw[this];exact d
 .rw[ae H,ba];rw[FH]at H;rw[fh];exact⟨d,bU,by intro a f b c;simp at c;subst c;intro e;subst e;exact H f⟩
theorem K3(l:List (Int×Value))(k:Int)(h:(l.map (·.1)).Nodup):((wP l k).map (·.1)).Nodup:=
 List.Sublist.nodup (ga _ cU) h
def qZ(h:ai)(m:Nat)(l:List (Int×Value)):Prop:=
 ∃(E:Array MapEntry)(c:Nat),h[m]? =some (.map E c)/\E.toList.map (λe=>(e.key,e.val))=l.map (λe=>(Value.int .i64 e.1,e.2))/\(l.map (·.1)).Nodup/\
  (∀e∈E.toList,e.born<c)/\(E.toList.map (·.born)).Nodup
def nU(h:ai)(m:Nat)(f:Int->Option Value):Prop:= ∃l,qZ h m l/\∀k,jq l k=f k
theorem qZ.ni{h h':ai}{m:Nat}{l:List (Int×Value)}(d:qZ h m l)(b:h'[m]? =h[m]?):qZ h' m l:=by
 obtain⟨e,c,H,a⟩:=d;exact⟨e,c,b.trans H,a⟩
theorem qZ.lt{h:ai}{m:Nat}{l:List (Int×Value)}(a:qZ h m l):m<h.size:=by
 obtain⟨e,c,H,_⟩:=a;exact aA H
theorem qZ.frame{S:Nat->Prop}{h H:ai}{m:Nat}{l:List (Int×Value)}(a:qZ h m l)(b:Fr S h H)(c: ¬S m):qZ H m l:=
 a.ni (b.2 m a.lt c)
theorem nU.ni{h h':ai}{m:Nat}{f:Int->Option Value}(c:nU h m f)(b:h'[m]? =h[m]?):nU h' m f:=by
 obtain⟨l,H,a⟩:=c;exact⟨l,H.ni b,a⟩
theorem nU.lt{h:ai}{m:Nat}{f:Int->Option Value}(a:nU h m f):m<h.size:=by
 obtain⟨l,H,_⟩:=a;exact H.lt
theorem nU.frame{S:Nat->Prop}{h H:ai}{m:Nat}{f:Int->Option Value}(d:nU h m f)(c:Fr S h H)(e: ¬S m):nU H m f:=by
 obtain⟨l,a,b⟩:=d;exact⟨l,a.frame c e,b⟩
theorem nU.map{h:ai}{m:Nat}{f:Int->Option Value}(a:nU h m f): ∃e c,h[m]? =some (.map e c):=by
 obtain⟨l,⟨e,c,H,_⟩,_⟩:=a;exact⟨e,c,H⟩
theorem qZ.push(h:ai):qZ (h.push (.map #[] 0)) h.size []:=⟨#[],0,bZ,rfl,bU,bU,bU⟩
theorem nU.push(h:ai):nU (h.push (.map #[] 0)) h.size (λ_=>none):=⟨[],qZ.push h,λ_=>rfl⟩
theorem re{k:Int}: ∀(E:List MapEntry)(l:List (Int×Value))(i:Nat)(d:IntKind),E.map (λe=>(e.key,e.val))=l.map (λe=>(Value.I e.1,e.2))->
  (jq l k=none->Instr.findNow (.int d) (.I k) E i=some none)/\
  (∀v,jq l k=some v->∃j,Instr.findNow (.int d) (.I k) E i=some (some (i+j,v))/\∃e,E[j]? =some e/\e.key=.I k/\e.val=v)
 | [],l,i,d,h=>by
  have:l= []:=by cases l<;>simp at h⊢
  subst this;exact⟨λ_=>rfl,λv f=>by simp[jq]at f⟩
 |e::E,l,i,d,h=>by
  cases l with
  |nil=>simp at h
  |cons x l=>
   simp only[cb,List.cons.injEq,gK]at h;obtain⟨⟨g,f⟩,r⟩:=h;have I:=re (k:=k) E l (i+1) d r;have c:Instr.sameNow (.int d) (.I k) e.key=some (k==x.1):=by rw[g];simp[Instr.sameNow]
   by_cases a:x.1=k
   .refine⟨(λb=>by rw[gV,af a]at b;cases b),λv H=>⟨0,?_,e,rfl,by rw[g,a],?_⟩⟩
    .rw[gV,af a]at H;simp only[bC]at H;simp[Instr.findNow,c,a,f,H]
    .rw[gV,af a]at H;simp only[bC]at H;rw[f,H]
   .have q:(k==x.1)=false:=by simp[fW a]
    rw[q]at c;refine⟨λb=> ?_,λv H=> ?_⟩
    .rw[gV,ae a]at b;simp only[Instr.findNow,c];exact I.1 b
    .rw[gV,ae a]at H;obtain⟨j,n,m,o,p⟩:=I.2 v H;refine⟨j+1,?_,m,by simpa using o,p⟩;simp only[Instr.findNow,c];rw[n,show i+1+j=i+(j+1) by omega]
section
variable {P : Program}
theorem rh{e:Bool}{n:Nat}{t:TypeId}{d:IntKind}{v:Value}{h:ai}(H:P.underlying t=some (.int d)):rd P (Instr.checkKey e (n+1) t v) h=some ():=by
 unfold Instr.checkKey;rw[bB _ _ _ _ (bM H)];rfl
theorem mw{t:TypeId}{d:IntKind}{k:Int}{E:List MapEntry}{l:List (Int×Value)}{h:ai}(b:P.underlying t=some (.int d))(a:E.map (λe=>(e.key,e.val))=l.map (λe=>(Value.I e.1,e.2)))(H:jq l k=none):rd P (Instr.findKey t (.I k) E) h=some none:=by
 unfold Instr.findKey;rw[bB _ _ _ _ (bM b)];simp only[(re E l 0 d a).1 H];rfl
theorem my{t:TypeId}{d:IntKind}{k:Int}{v:Value}{E:List MapEntry}{l:List (Int×Value)}{h:ai}(f:P.underlying t=some (.int d))(c:E.map (λe=>(e.key,e.val))=l.map (λe=>(Value.I e.1,e.2)))(b:jq l k=some v): ∃j,rd P (Instr.findKey t (.I k) E) h=some (some (j,v))/\∃e,E[j]? =some e/\e.key=.I k/\e.val=v:=by
 obtain⟨j,H,a⟩:=(re E l 0 d c).2 v b;refine⟨j,?_,a⟩;unfold Instr.findKey;rw[bB _ _ _ _ (bM f)];simp only[H,bK];rfl
theorem jr{t:TypeId}{i:TypeInfo}{z:Value}{h:ai}(H:P.info? t=some i)(a:i.zero=some z):rd P (zeroValue t) h=some z:=by
 unfold zeroValue;rw[bB _ _ _ _ (iu H),a];rfl
theorem jF{r:Nat}{e:Array MapEntry}{c:Nat}{h:ai}(H:h[r]? =some (.map e c)):rd P (getObj r) h=some (.map e c):=by
 unfold getObj;simp only[rd,H]
structure rj (P:Program) (t:TypeId) (z:Value):Prop where
 ty: ∃k e d,P.underlying t=some (.map k e)/\P.underlying k=some (.int d)/\∃i,P.info? e=some i/\i.zero=some z
theorem rj.of{P:Program}{t:TypeId}{z:Value}(k e:TypeId)(d:IntKind)(a:P.underlying t=some (.map k e))(b:P.underlying k=some (.int d))(h:(P.info? e).bind (·.zero)=some z):rj P t z:=by
 cases H:P.info? e with
 |none=>rw[H]at h;cases h
 |some i=>exact⟨k,e,d,a,b,i,H,by rw[H]at h;exact h⟩
theorem FJ{t:TypeId}{z:Value}(T:rj P t z){h:ai}{m:Nat}{l:List (Int×Value)}(n:qZ h m l)(k:Int):
  rd P (Instr.lookup t (.map (some m)) (.I k) false) h=some ((jq l k).getD z)/\
  rd P (Instr.lookup t (.map (some m)) (.I k) true) h=some (.T #[(jq l k).getD z,.B (jq l k).isSome]):=by
 obtain⟨K,e,d,p,H,i,g,q⟩:=T.ty;obtain⟨E,C,f,b,_⟩:=n;have gen: ∀o:Bool,rd P (Instr.lookup t (.map (some m)) (.I k) o) h=some (if o then .T #[(jq l k).getD z,.B (jq l k).isSome]else(jq l k).getD z):=λo=>by
  unfold Instr.lookup;rw[bB _ _ _ _ (bM p)];simp only;rw[bB _ _ _ _ (jF f)];simp only;rw[bB _ _ _ _ (jJ _),bB _ _ _ _ (rh H)];cases a:jq l k with
  |none=>
   rw[bB _ _ _ _ (mw H b a)];simp only;rw[bB _ _ _ _ (jr g q)];cases o<;>rfl
  |some v=>
   obtain⟨j,c,_⟩:=my (h:=h) H b a;rw[bB _ _ _ _ c];simp only;cases o<;>rfl
 exact⟨gen false,gen true⟩
theorem CI{t:TypeId}{z:Value}(T:rj P t z){h:ai}{m:Nat}{f:Int->Option Value}(b:nU h m f)(k:Int):
  iK P t (.map (some m)) (.I k) false h ((f k).getD z):=λd c=>by
 obtain⟨l,a,H⟩:=b;rw[<-H k];exact(FJ T (a.ni c) k).1
theorem DO{t:TypeId}{z:Value}(T:rj P t z){h:ai}{m:Nat}{f:Int->Option Value}(b:nU h m f)(k:Int):
  iK P t (.map (some m)) (.I k) true h (.T #[(f k).getD z,.B (f k).isSome]):=λd c=>by
 obtain⟨l,a,H⟩:=b;rw[<-H k];exact(FJ T (a.ni c) k).2
theorem bY{b c:Type}{s:Sem b}{g:b->Sem c}{h:ai}{a:b}{K:c->ai->Prop}(d:rd P s h=some a)(H:aT P (g a) h K):aT P (s>>=g) h K:=
 (dW s g K).2 (Ni s h a d _ H)
theorem Ie{E:List MapEntry}{l:List (Int×Value)}{k:Int}{v:Value}{j:Nat}(r:E.map (λe=>(e.key,e.val))=l.map (λe=>(Value.I e.1,e.2)))(s:(l.map (·.1)).Nodup){e:MapEntry}(d:E[j]? =some e)(q:e.key=.I k)(f:MapEntry->MapEntry)(o: ∀e:MapEntry,(f e).key=.I k/\(f e).val=v):
  (E.modify j f).map (λe=>(e.key,e.val))=(l.map (λe=>if e.1==k then(k,v)else e)).map (λe=>(Value.I e.1,e.2)):=by
 apply fE
 intro i;have m: ∀i:Nat,(E[i]?).map (λe:MapEntry=>(e.key,e.val))=(l[i]?).map (λe:Int×Value=>(Value.I e.1,e.2)):=λi=>by
  have:=cf (·[i]?) r;simpa using this
 have H:=m j;rw[d]at H;cases a:l[j]? with
 |none=>rw[a]at H;simp at H
 |some x=>
  rw[a]at H;simp only[dq,bC,gK]at H;have n:x.1=k:=by have:=H.1.symm.trans q;simpa using this
  simp only[aL,List.getElem?_modify,Option.map_map];by_cases c:j=i
  .subst c;simp[d,a,o,n]
  .have h:=m i;cases g:E[i]? with
   |none=>
    rw[g]at h;cases b:l[i]? with
    |none=>simp
    |some y=>rw[b]at h;simp at h
   |some w=>
    rw[g]at h;cases b:l[i]? with
    |none=>rw[b]at h;simp at h
    |some y=>
     rw[b]at h;simp only[dq,bC,gK]at h;have u:y.1≠k:=by
      intro t;apply c
      have p:j<(l.map (·.1)).length:=by simpa using (az.1 a).1
      refine(fa p s).1 ?_;simp[a,b,n,t]
     simp[c,u,h.1,h.2]
theorem BW{t:TypeId}{z:Value}(T:rj P t z){h:ai}{m:Nat}{l:List (Int×Value)}(U:qZ h m l){k:Int}{v:Value}{K:Unit->ai->Prop}(R: ∀g,qZ g m (FG l k v)->g.size=h.size->(∀c,c≠m->g[c]? =h[c]?)->K () g):aT P (Instr.mapUpdate t (.map (some m)) (.I k) v) h K:=by
 obtain⟨kt,e,a',X,s,_⟩:=T.ty;obtain⟨E,Z,r,o,D,w,G⟩:=U;have S:=aA r;unfold Instr.mapUpdate;refine bY (bM X) ?_;simp only;refine bY (jF r) ?_;simp only;refine bY (rh s) ?_;have F: ∀(d:Array MapEntry)(C:Nat),d.toList.map (λe=>(e.key,e.val))=(FG l k v).map (λe=>(Value.I e.1,e.2))->(∀e∈d.toList,e.born<C)->(d.toList.map (·.born)).Nodup->
   aT P (setObj m (.map d C)) h K:=λd C q I J=>by
  refine⟨⟨_,r,λc e b' O=>by cases O⟩,?_⟩;refine R _ ⟨d,C,by simp[S],q,K1 l k v D,I,J⟩ bU (λc M=> ?_);rw[cJ,ae (fW M)]
 cases n:jq l k with
 |none=>
  refine bY (mw s o n) ?_;simp only;refine F _ _ ?_ ?_ ?_
  .unfold FG;rw[n];simp[o]
  .intro p H;simp only[Array.toList_push,bH,bP]at H;rcases H with H|rfl
   .exact Nat.lt_succ_of_lt (w _ H)
   .exact Nat.lt_succ_self _
  .simp only[Array.toList_push,ba,cb,List.map_nil];rw[fh];refine⟨G,bU,?_⟩;intro a L b y;simp at y;subst y;obtain⟨p,H,rfl⟩:=bt.1 L;exact Nat.ne_of_lt (w _ H)
 |some c'=>
  obtain⟨j,q,p,H,B,_⟩:=my (h:=h) s o n;refine bY q ?_;simp only;have Q:E[j]? =some p:=by simpa using H
  have V:rd P (Instr.keyThatStays (((E[j]?).map (·.key)).getD (.I k)) (.I k)) h=some (.I k):=by
   rw[Q];simp only[dq,Option.getD_some,B];unfold Instr.keyThatStays;have:Instr.sameBits 10000 (.I k) (.I k)=true:=by unfold Instr.sameBits;simp
   rw[af this];rfl
  refine bY V ?_;refine F _ _ ?_ ?_ ?_
  .unfold FG;rw[n];simp only[Option.isSome_some,bm];rw[Array.toList_modify];exact Ie o D H B _ (λe=>⟨rfl,rfl⟩)
  .intro e2 A;rw[Array.toList_modify]at A;obtain⟨i,f⟩:=bL A;rw[List.getElem?_modify]at f;cases u:E.toList[i]? with
   |none=>rw[u]at f;simp at f
   |some x=>
    rw[u]at f;have:=w x (aZ u);simp only[Option.map_eq_map,dq,bC]at f;subst f;split<;>exact this
  .rw[Array.toList_modify];have:(E.toList.modify j λe=> { e with key:=Value.I k,val:=v }).map (·.born)=E.toList.map (·.born):=by
    apply fE
    intro i;simp only[aL,List.getElem?_modify];cases E.toList[i]? with
    |none=>rfl
    |some x=>simp only[Option.map_eq_map,dq];split<;>rfl
   rw[this];exact G
theorem nj{t:TypeId}{z:Value}(T:rj P t z){h:ai}{m:Nat}{f:Int->Option Value}(j:nU h m f){k:Int}{v:Value}{K:Unit->ai->Prop}(g: ∀H,nU H m (λx=>if x=k then some v else f x)->H.size=h.size->(∀c,c≠m->H[c]? =h[c]?)->K () H):aT P (Instr.mapUpdate t (.map (some m)) (.I k) v) h K:=by
 obtain⟨l,i,e⟩:=j;refine BW T i λH a b d=>g H ⟨_,a,λx=> ?_⟩ b d
 rw[KZ,e]
theorem erase_filter{E:List MapEntry}{l:List (Int×Value)}{k:Int}(g:E.map (λe=>(e.key,e.val))=l.map (λe=>(Value.I e.1,e.2)))(c:(l.map (·.1)).Nodup):
  ∀{j:Nat}{e:MapEntry},E[j]? =some e->e.key=.I k->(E.eraseIdx j).map (λe=>(e.key,e.val))=(wP l k).map (λe=>(Value.I e.1,e.2)):=by
 induction E generalizing l with
 |nil=>intro j e b;simp at b
 |cons x E I=>
  intro j e b f;cases l with
  |nil=>simp at g
  |cons y l=>
   simp only[cb,List.cons.injEq,gK]at g;obtain⟨⟨m,p⟩,d⟩:=g;simp only[cb,fL]at c;obtain⟨o,c⟩:=c;cases j with
   |zero=>
    simp only[eO,bC]at b;subst b;have H:y.1=k:=by have:=m.symm.trans f;simpa using this
    have:wP (y::l) k=l:=by
     unfold wP;rw[cu,ae (by simp[H])];rw[cz];intro a q;have:a.1≠k:=λe=>o (by rw[H,<-e];exact bz q)
     simp[this]
    rw[this];simpa using d
   |succ j=>
    have n:E[j]? =some e:=by simpa using b
    have H:y.1≠k:=by
     intro H;apply o
     have h:=cf (·[j]?) d;simp only[aL,n,dq]at h;cases i:l[j]? with
     |none=>rw[i]at h;simp at h
     |some z=>
      rw[i]at h;simp only[dq,bC,gK]at h;have r:z.1=k:=by have:=h.1.symm.trans f;simpa using this
      rw[H,<-r];exact bz (aZ i)
    have:wP (y::l) k=y::wP l k:=by
     unfold wP;rw[cu,af (by simp[H])]
    rw[this];simp only[List.eraseIdx_cons_succ,cb,m,p];rw[I d c n f]
theorem Ig{t U V:TypeId}{z:Value}(T:rj P t z){h:ai}{m:Nat}{l:List (Int×Value)}(n:qZ h m l){k:Int}{K:fO}(O: ∀H,qZ H m (wP l k)->H.size=h.size->(∀c,c≠m->H[c]? =h[c]?)->K (.T #[]) H):aT P (Builtin.delete_ #[t,U] V #[.map (some m),.I k]) h K:=by
 obtain⟨y,e,d,S,r,_⟩:=T.ty;obtain⟨E,C,p,g,s,w,v⟩:=n;have R:=aA p;unfold Builtin.delete_;refine bY (bM S) ?_;show aT P (do
   let __x<-getObj m
   match __x with
    |Obj.map E C=>do
     Instr.checkKey E.isEmpty 10000 y (Value.int IntKind.i64 k)
     let __do_lift<-Instr.findKey y (Value.int IntKind.i64 k) E.toList
     match __do_lift with
      |some (i,_)=>do
       setObj m (Obj.map (E.eraseIdxIfInBounds i) C)
       pure (Value.tuple #[])
      |none=>do
       setObj m (Obj.map E C)
       pure (Value.tuple #[])
    |_=>do
     stuck "delete: map expected"
     pure (Value.tuple #[])) h K
 refine bY (jF p) ?_;simp only;refine bY (rh r) ?_;have F: ∀(b:Array MapEntry),b.toList.map (λe=>(e.key,e.val))=(wP l k).map (λe=>(Value.I e.1,e.2))->(∀e∈b.toList,e.born<C)->(b.toList.map (·.born)).Nodup->
   aT P (do setObj m (.map b C);pure (Value.tuple #[])) h K:=λb o B D=>by
  rw[dW];refine⟨⟨_,p,λc e f J=>by cases J⟩,?_⟩;refine O _ ⟨b,C,by simp[R],o,K3 l k s,B,D⟩ bU (λc I=> ?_);rw[cJ,ae (fW I)]
 cases q:jq l k with
 |none=>
  refine bY (mw r g q) ?_;refine F E ?_ w v;have:wP l k=l:=by
   unfold wP;rw[cz];intro a G;have:a.1≠k:=λe=>by
    have n:k∈l.map (·.1):=e▸bz G;rw[<-FH,q]at n;cases n
   simp[this]
  rw[this];exact g
 |some u=>
  obtain⟨j,o,X,L,Q,_⟩:=my (h:=h) r g q;refine bY o ?_;have x:List.Sublist (E.eraseIdxIfInBounds j).toList E.toList:=by
   rw[Array.toList_eraseIdxIfInBounds];exact List.eraseIdx_sublist _ _
  refine F _ ?_ ?_ ?_
  .rw[Array.toList_eraseIdxIfInBounds];exact erase_filter g s L Q
  .intro A M;exact w A (x.subset M)
  .exact(x.map _).nodup v
theorem xY{t n o:TypeId}{z:Value}(T:rj P t z){h:ai}{m:Nat}{f:Int->Option Value}(j:nU h m f){k:Int}{K:fO}(g: ∀H,nU H m (λx=>if x=k then none else f x)->H.size=h.size->(∀c,c≠m->H[c]? =h[c]?)->K (.T #[]) H):aT P (Builtin.delete_ #[t,n] o #[.map (some m),.I k]) h K:=by
 obtain⟨l,i,e⟩:=j;refine Ig T i λH a b d=>g H ⟨_,a,λx=> ?_⟩ b d
 rw[K0,e]
end
end Go.Den
namespace Go.Den
theorem cB{h:ai}{b i:Nat}{c:Array Value}{t:TypeId}{f:Nat×Nat}{v:Value}(H:h[b]? =some (.C c t f))(a:c[i]? =some v):aU h (AA b i)=some v:=by
 rw[lM H,a]
theorem bk{h:ai}{b i:Nat}{c:Array Value}{t:TypeId}{v:Value}{K:ai->Prop}(a:h[b]? =some (.C c t (0,0)))(d:i<c.size)(e: ∀H,H[b]? =some (.C (c.setIfInBounds i v) t (0,0))->H.size=h.size->(∀x,x≠b->H[x]? =h[x]?)->K H):aJ h (AA b i) v K:=by
 refine⟨?_,oh a,?_⟩
 .rw[lM a];simp[d]
 .rintro _ rfl;exact e _ (wO a) CH (λx f=>uj f)
theorem Fr.of_eq{S:Nat->Prop}{h H:ai}(d:H.size=h.size)(b: ∀c,¬S c->H[c]? =h[c]?):Fr S h H:=⟨ag,λc _ a=>b c a⟩
theorem bJ{n:Int}(h: -9223372036854775808<=n)(H:n<=9223372036854775807):IntKind.wrap .i64 n=n:=IntWalk.i64_in n ⟨h,H⟩
theorem wrap_u64{n:Int}(h:0<=n)(H:n<=18446744073709551615):IntKind.wrap .u64 n=n:=IntWalk.u64_in n ⟨h,H⟩
theorem wrap_u8{n:Int}(h:0<=n)(H:n<=255):IntKind.wrap .u8 n=n:=IntWalk.u8_in n ⟨h,H⟩
theorem Fr.kp{h H:ai}{l:List (ct)}(f:Fr (λ_=>False) h H):Kp h H l:=λ_ _ x _ a=>f.2 x.block a id
theorem Fr.Ts{S:Nat->Prop}{h H:ai}{l:List (ct)}(f:Fr S h H)(a: ∀p∈l,∀x,p=some x->¬S x.block):Kp h H l:=λp b x e c=>f.2 x.block c (a p b x e)
theorem Fr.no{h H a:ai}{S:Nat->Prop}(b:Fr (λ_=>False) h H)(c:Fr S H a):Fr S h a:=b.trans c (λ_ _=>False.elim) bX
theorem Fr.on{h H a:ai}{S:Nat->Prop}(b:Fr S h H)(c:Fr (λ_=>False) H a):Fr S h a:=b.trans c bX (λ_ _=>False.elim)
theorem Fr.tt{h H a:ai}{S:Nat->Prop}(b:Fr S h H)(c:Fr S H a):Fr S h a:=b.trans c bX bX
theorem Fr.step{S:Nat->Prop}{h a b:ai}(e:Fr (λ_=>False) h a)(g:Fr S a b)(f: ∀c,c<h.size->¬S c):Fr (λ_=>False) h b:=
 e.trans g (λ_ _ H=>H) (λc d H=>f c d H)
end Go.Den
namespace Go.Den
section
variable {P:Program} {f:FuncId} {F:Func} {args:List Value} {h:ai} {R:fO} {A:Prop}
abbrev gA(h:ai)(a:Addr)(K:Int→Prop):Prop:= ∃t,aU h a=some (.int .u64 t)∧K t
abbrev kK(h:ai)(a:Addr)(K:Int→Prop):Prop:= ∃t,aU h a=some (.int .i64 t)∧K t
abbrev Ka(h:ai)(a:Addr)(K:Int→Prop):Prop:= ∃t,aU h a=some (.int .u8 t)∧K t
abbrev uk(h:ai)(a:Addr)(K:Bool→Prop):Prop:= ∃t,aU h a=some (.bool t)∧K t
abbrev zX(h:ai)(a:Addr)(K:Option Addr→Prop):Prop:= ∃t,aU h a=some (.pointer t)∧K t
abbrev oi(h:ai)(a:Addr)(K:ByteArray→Prop):Prop:= ∃t,aU h a=some (.string t)∧K t
abbrev oL(h:ai)(a:Addr)(K:Option Addr→Nat→Nat→Prop):Prop:= ∃p l c,aU h a=some (.slice p l c)∧K p l c
abbrev Hu(h:ai)(b i:Nat)(K:Int→Prop):Prop:= ∃t,aU h ⟨b,i,none⟩=some (.int .u64 t)∧K t
abbrev Hi(h:ai)(b i:Nat)(K:Int→Prop):Prop:= ∃t,aU h ⟨b,i,none⟩=some (.int .i64 t)∧K t
abbrev Hy(h:ai)(b i:Nat)(K:Int→Prop):Prop:= ∃t,aU h ⟨b,i,none⟩=some (.int .u8 t)∧K t
abbrev Hb(h:ai)(b i:Nat)(K:Bool→Prop):Prop:= ∃t,aU h ⟨b,i,none⟩=some (.bool t)∧K t
abbrev Hp(h:ai)(b i:Nat)(K:Option Addr→Prop):Prop:= ∃t,aU h ⟨b,i,none⟩=some (.pointer t)∧K t
abbrev Hs(h:ai)(b i:Nat)(K:ByteArray→Prop):Prop:= ∃t,aU h ⟨b,i,none⟩=some (.string t)∧K t
abbrev Hl(h:ai)(b i:Nat)(K:Option Addr→Nat→Nat→Prop):Prop:= ∃p l c,aU h ⟨b,i,none⟩=some (.slice p l c)∧K p l c
abbrev Vb(v:Value)(K:Bool→Prop):Prop:= ∃t,v=.bool t∧K t
abbrev Vi(v:Value)(K:Int→Prop):Prop:= ∃t,v=.int .i64 t∧K t
abbrev Vu(v:Value)(K:Int→Prop):Prop:= ∃t,v=.int .u64 t∧K t
abbrev Vp(v:Value)(K:Option Addr→Prop):Prop:= ∃t,v=.pointer t∧K t
abbrev Vl(v:Value)(K:Option Addr→Nat→Nat→Prop):Prop:= ∃p l c,v=.slice p l c∧K p l c
abbrev Bd(i:Int)(n:Nat):Prop:=(0:Int)≤i∧i<((n:Nat):Int)
abbrev Cc(h:ai)(b i:Nat)(v:Value):Prop:=aU h ⟨b,i,none⟩=some v
abbrev No:Nat→Prop:=λ_=>False
abbrev lf:ob:=.leaf
abbrev ll:ob:=.seq .leaf .leaf
abbrev lq(a:ob):ob:=.seq .leaf a
abbrev sq(a b:ob):ob:=.seq a b
abbrev cq(a b:ob):ob:=.cond a b
abbrev bq(a:ob):ob:=.block a
abbrev pK(n:Nat):ob:=.iZ (fC n 0 .done)
abbrev pN(n:Nat):ob:=.qT (fC n 0 .done)
theorem U3(a:ob)(b:P.funcs[f]? =some F)(d:A)(H:F.body.isSome=true:=by rfl)(c:Nat.ble args.length F.ntmps=true:=by rfl)(e:A=den P F.ntmps a none (nh F) (Qi P F.results R) (ks args) h:=by kernel_rfl):kL P f args.toArray h R:=qW a b H c (Eq.mp e d)
def Sp(l:List (Nat×(ob→ob)))(i:Nat)(a:ob):ob:=match l with
 | []=>a
 |(j,f)::l=>match Nat.beq i j with
  |true=>f (Sp l i a)
  |false=>Sp l i a
def sk(l:List (Nat×(ob→ob))):Code→Nat→(ob→Nat→ob×Nat)→ob×Nat
 | .seq a b,i,K=>sk l a (i+1) λx j=>sk l b j λy k=>K (Sp l i (.seq x y)) k
 | .cond _ a b,i,K=>sk l a (i+1) λx j=>sk l b j λy k=>K (Sp l i (.cond x y)) k
 | .block _ a,i,K=>sk l a (i+1) λx j=>K (Sp l i (.block x)) j
 | .loop a,i,K=>sk l a (i+1) λx j=>K (Sp l i x) j
 |_,i,K=>K (Sp l i .leaf) (i+1)
theorem aS(l:List (Nat×(ob→ob)))(a:P.funcs[f]? =some F)(c:A)(H:F.body.isSome=true:=by rfl)(b:Nat.ble args.length F.ntmps=true:=by rfl)(e:A=den P F.ntmps (sk l (nh F) 0 Prod.mk).1 none (nh F) (Qi P F.results R) (ks args) h:=by kernel_rfl):kL P f args.toArray h R:=qW _ a H b (Eq.mp e c)
theorem au{b i:Nat}{c:Array Value}{t:TypeId}{f:Nat×Nat}(H:h[b]? =some (.cells c t f)):aU h ⟨b,i,none⟩=c[i]? :=lM H
abbrev hH(h:ai)(R:Value→ai→Prop)(v:Value):Prop:= ∀H,Fr (λ_=>False) h H→R v H
abbrev nQ(x:Int):BitVec (IntKind.bits .u64):=BitVec.ofInt (IntKind.bits .u64) x
abbrev qN(x:Int):BitVec (IntKind.bits .u8):=BitVec.ofInt (IntKind.bits .u8) x

end
def Row(h:ai)(p:ct)(c:List Value):Prop:=c= []\/∃a,p=some a/\dN a c 0 h
theorem Row.nil{h:ai}{p:ct}:Row h p []:=.inl rfl
theorem kk {h : ai} {a : Addr} : ∀ {cs : List Value} {i : Nat}, dN a cs i h ↔ ∀ j v, cs[j]? = some v → aU h (a.add (i + j)) = some v
  | [], i => by simp [dN]
  | c :: cs, i => by
    simp only [dN]
    rw [kk (cs := cs)]
    constructor
    · rintro ⟨h1, h2⟩ j v hj
      cases j with
      | zero => simp only [List.getElem?_cons_zero, Option.some.injEq] at hj; subst hj; exact h1
      | succ j => have := h2 j v (by simpa using hj); rwa [show i + 1 + j = i + (j + 1) by omega] at this
    · intro hh
      refine ⟨hh 0 c rfl, λj v hj => ?_⟩
      have := hh (j + 1) v (by simpa using hj)
      rwa [show i + (j + 1) = i + 1 + j by omega] at this
theorem gH{h:ai}{b o:Nat}{c:Array Value}{t:TypeId}{f:Nat×Nat}{C:List Value}(H:h[b]? =some (.C c t f))(a: ∀j v,C[j]? =some v->c[o+j]? =some v):dN (AA b o) C 0 h:=by
 rw[kk];intro j v d;rw[bK,gZ,lM H];exact a j v d
theorem mb{S:Nat->Prop}{h H:ai}(b:Fr S h H){a:Addr}(e: ¬S a.block): ∀{c:List Value}{i:Nat},dN a c i h->dN a c i H
 | [],_,_=>trivial
 |_::_,i,d=>⟨b.cell d.1 (by unfold Addr.add;split<;>exact e),mb b e d.2⟩
theorem Row.frame{S:Nat->Prop}{h H:ai}(b:Fr S h H){p:ct}{c:List Value}(f:Row h p c)(e: ∀a,p=some a->¬S a.block):Row H p c:=by
 rcases f with rfl|⟨a,rfl,d⟩
 .exact .inl rfl
 .exact .inr ⟨a,rfl,mb b (e a rfl) d⟩
theorem Row.cell{h:ai}{a:Addr}{c:List Value}(d:Row h (some a) c){j:Nat}{v:Value}(H:c[j]? =some v):aU h (a.add j)=some v:=by
 rcases d with rfl|⟨A,e,b⟩
 .simp at H
 .cases e;have:=kk.1 b j v H;rwa[bK]at this
theorem Row.some{h:ai}{p:ct}{c:List Value}(b:Row h p c)(H:c≠ []): ∃a,p=some a:=by
 rcases b with rfl|⟨a,e,_⟩
 .exact absurd rfl H
 .exact⟨a,e⟩
section
variable {P : Program}
theorem lT{h:ai}{q:ct}{n cq s:Nat}{ds:List Value}(b:Row h q ds)(c:ds.length=n*s):rd P (Builtin.firstCells s n (.L q n cq)) h=some ds.toArray:=by
 cases q with
 |none=>
  have:ds= []:=by
   rcases b with rfl|⟨a,e,_⟩
   .rfl
   .cases e
  subst this;rfl
 |some a=>
  show rd P (loadCells a (n*s)) h=_;have H:dN a ds 0 h:=by
   rcases b with rfl|⟨A,e,H⟩
   .trivial
   .cases e;exact H
  unfold loadCells;rw[<-c,je ds 0 #[] h H];simp
theorem CJ{n:Nat}: ∀(r c:Nat),c<2*n->256<=c->Builtin.growBy n r c<=2*n
 |0,c,h,_=>by unfold Builtin.growBy;omega
 |r+1,c,h,a=>by
  unfold Builtin.growBy;split
  .omega
  .rename_i b;by_cases H:c+(c+768)/4<2*n
   .exact CJ r _ H ag
   .have:c+(c+768)/4<=2*n:=ag
    cases r with
    |zero=>unfold Builtin.growBy;exact this
    |succ r=>unfold Builtin.growBy;rw[gi];exact this
theorem nextslicecap_le{need cap:Nat}(h:cap<need):Builtin.nextslicecap need cap<=2*need:=by
 unfold Builtin.nextslicecap;split
 .omega
 .split
  .omega
  .exact CJ 4 cap ag ag
inductive Own (h:ai) (p:ct) (len cap sz:Nat) (cs:List Value):Prop
 |nil (hp:p=none) (hl:len=0) (hc:cap=0) (Wx:cs= [])
 |row (b off:Nat) (c:Array Value) (t:TypeId) (hp:p=some ⟨b,off,none⟩) (hb:h[b]? =some (.cells c t (0,0))) (hl:len<=cap) (hc:off+cap*sz<=c.size) (hn:cs.length=len*sz) (Wx: ∀j v,cs[j]? =some v->c[off+j]? =some v)
def aP(p:ct)(c:Nat):Prop:= ∃a,p=some a/\a.block=c
theorem Own.length{h:ai}{p:ct}{len cap s:Nat}{C:List Value}(o:Own h p len cap s C):C.length=len*s:=by
 cases o with
 |nil _ a _ H=>subst a H;simp
 |row b O c t _ _ _ _ d _=>exact d
theorem Own.iz{h:ai}{p:ct}{len cap s:Nat}{C:List Value}(o:Own h p len cap s C):Row h p C:=by
 cases o with
 |nil _ _ _ H=>exact .inl H
 |row b O c t d a _ _ _ H=>exact .inr ⟨_,d,gH a H⟩
theorem Own.frame{S:Nat->Prop}{h f:ai}{p:ct}{len cap s:Nat}{C:List Value}(o:Own h p len cap s C)(i:Fr S h f)(k: ∀c,aP p c->¬S c):Own f p len cap s C:=by
 cases o with
 |nil H e a d=>exact .nil H e a d
 |row b O c t H g e a j d=>exact .row b O c t H (i.get g (k b ⟨_,H,rfl⟩)) e a j d
theorem Own.dI{h:ai}{p:ct}{len cap s:Nat}{C:List Value}(o:Own h p len cap s C){c:Nat}(f:aP p c):c<h.size:=by
 obtain⟨a,e,rfl⟩:=f;cases o with
 |nil H _ _ _=>rw[H]at e;cases e
 |row b O c t H d _ _ _ _=>rw[H]at e;cases e;exact aA d
theorem Own.cells{h:ai}{p:ct}{len cap s:Nat}{C:List Value}(o:Own h p len cap s C){b:Nat}(H:aP p b): ∃c t,h[b]? =some (.C c t (0,0)):=by
 obtain⟨a,e,rfl⟩:=H;cases o with
 |nil d _ _ _=>rw[d]at e;cases e
 |row b O c t d H _ _ _ _=>rw[d]at e;cases e;exact⟨c,t,H⟩
theorem Own.le{h:ai}{p:ct}{len cap s:Nat}{C:List Value}(o:Own h p len cap s C):len<=cap:=by
 cases o with
 |nil _ H a _=>omega
 |row b O c t _ _ H _ _ _=>exact H
theorem Own.some{h:ai}{p:ct}{len cap s:Nat}{C:List Value}(o:Own h p len cap s C)(a:0<C.length): ∃b O,p=some (AA b O):=by
 cases o with
 |nil _ _ _ H=>subst H;simp at a
 |row b O c t d _ _ _ _ _=>exact⟨b,O,d⟩
theorem Own.cell{h:ai}{a:Addr}{len cap s:Nat}{c:List Value}(o:Own h (.some a) len cap s c){j:Nat}{v:Value}(H:c[j]? =.some v):aU h (a.add j)=.some v:=o.iz.cell H
theorem Own.store{h:ai}{a:Addr}{len cap s:Nat}{cs:List Value}{j:Nat}{v:Value}{K:ai->Prop}(o:Own h (.some a) len cap s cs)(r:j<cs.length)(u: ∀H,Own H (.some a) len cap s (cs.set j v)->H.size=h.size->(∀x,¬aP (.some a) x->H[x]? =h[x]?)->K H):aJ h (a.add j) v K:=by
 cases o with
 |nil f _ _ _=>cases f
 |row b O c t f n g p y q=>
  cases f;rw[gZ];have A:len*s<=cap*s:=dc _ g;refine bk n ag λH k l m=>u H (.row b O _ t rfl k g (cR p) (by simpa using y) ?_) l (λx z=>m x (λe=>z ⟨_,rfl,e.symm⟩))
  intro i w d;rw[dM]at d;rw[cJ];by_cases e:j=i
  .subst e;rw[af rfl,af r]at d;rw[af rfl,gi];exact d
  .rw[ae e]at d;rw[dy];exact q i w d
theorem Own.sub{h:ai}{p:ct}{len cap sz:Nat}{C:List Value}(o:Own h p len cap sz C){l u:Nat}(m:l<=u)(n:u<=len):Own h (cQ p cap l sz) (u - l) (cap - l) sz ((C.take (u*sz)).drop (l*sz)):=by
 cases o with
 |nil g d k a=>
  subst g d k a;refine .nil ?_ ag ag bU;unfold cQ;split<;>rfl
 |row b O c t g i d k w a=>
  subst g;have M:u*sz<=len*sz:=dc _ n;have x:l*sz<=u*sz:=dc _ m;have y:len*sz<=cap*sz:=dc _ d;have q: ∀j v,((C.take (u*sz)).drop (l*sz))[j]? =.some v->c[O+l*sz+j]? =.some v:=λj v H=>by
   rw[fp,cZ]at H;split at H
   .have:=a _ v H;rwa[<-Nat.add_assoc]at this
   .cases H
  have f:((C.take (u*sz)).drop (l*sz)).length=(u - l)*sz:=by
   rw[bN,bA,Nat.sub_mul];omega
  have s:(cap - l)*sz=cap*sz - l*sz:=Nat.sub_mul _ _ _;unfold cQ;split
  .rename_i e;have E:u - l=0:=ag
   refine .row b O c t rfl i ag ag f (λj v H=> ?_);have r:((C.take (u*sz)).drop (l*sz)).length=0:=by rw[f,E];simp
   rw[List.eq_nil_of_length_eq_zero r]at H;cases H
  .show Own h (.some (((AA b O):Addr).add (l*sz))) _ _ _ _;rw[gZ];exact .row b (O+l*sz) c t rfl i ag ag f q
theorem mW{p:ct}{cap l s c:Nat}(h:aP (cQ p cap l s) c):aP p c:=by
 obtain⟨a,e,rfl⟩:=h;unfold cQ at e;split at e
 .exact⟨a,e,rfl⟩
 .cases p with
  |none=>cases e
  |some b=>cases e;exact⟨b,rfl,by unfold Addr.add;split<;>rfl⟩
theorem um{c:Array Value}{off:Nat}: ∀(d:List Value)(i:Nat)(h:ai)(b:Nat)(t:TypeId)(K:Unit->ai->Prop),(∀v∈d,fZ v=true)->h[b]? =some (.C c t (0,0))->off+i+d.length<=c.size->
  (∀a C,a[b]? =some (.C C t (0,0))->C.size=c.size->(∀j,j<off+i\/off+i+d.length<=j->C[j]? =c[j]?)->(∀j v,d[j]? =some v->C[off+i+j]? =some v)->a.size=h.size->(∀x,x≠b->a[x]? =h[x]?)->K () a)->
  aT P (storeCells (AA b off) d i) h K
 | [],i,h,b,t,K,_,e,_,f=>by
  refine f h c e rfl (λ_ _=>rfl) (λj v H=>by simp at H) rfl (λ_ _=>rfl)
 |v::d,i,h,b,t,K,l,e,o,f=>by
  simp only[storeCells];rw[dW];simp only[bn]at o;have g:off+i<c.size:=ag
  refine⟨l v dp,?_,?_,?_⟩
  .rw[gZ,lM e];simp[g]
  .rw[gZ];exact oh e
  .rw[gZ];show aT P (storeCells (AA b off) d (i+1)) (oO h (AA b (off+i)) v) K;refine um (c:=c.setIfInBounds (off+i) v) d (i+1) _ b t K (λu w=>l u (cv _ w)) (wO e) (by simp;omega) ?_;intro a C n r k p s q;refine f a C n (by rw[r];simp) (λj H=> ?_) (λj u H=> ?_) (by rw[s,CH]) (λx m=>by rw[q x m,uj m])
   .simp only[bn]at H;rw[k j ag,cJ,dy]
   .cases j with
    |zero=>
     simp only[eO,bC]at H;subst H;rw[k (off+i+0) ag];simp[g]
    |succ j=>
     have:=p j u (cR H);rwa[show off+(i+1)+j=off+i+(j+1) by omega]at this
theorem DP{S X ty elem T:TypeId}{i:TypeInfo}{z:Value}{h:ai}{p q:ct}{len cap n cq:Nat}{f d:List Value}{K:fO}(hs:P.underlying S=some (.slice elem))(G:P.underlying X=some (.slice T))(r:P.info? elem=some i)(hz:i.zero=some z)(F:z.cells.size=i.size)(O:Own h p len cap i.size f)(R:Row h q d)(l:d.length=n*i.size)(h': ∀v∈d,fZ v=true)(hb:(len+n)*i.bytes<=70368744177664)(m':len+n<=9223372036854775807)(A: ∀I C g,Own g I (len+n) C i.size (f++d)->Own g p len cap i.size f->Fr (aP p) h g->(∀c,aP I c->aP p c\/h.size<=c)->K (.L I (len+n) C) g):
  aT P (Builtin.append_ #[S,X] ty #[.L p len cap,.L q n cq]) h K:=by
 unfold Builtin.append_;refine bY (s:=underlying S) (bM hs) ?_;refine bY (s:=sizeOf elem) (iw r) ?_;refine bY (s:=underlying X) (bM G) ?_;refine bY (s:=(pure false:Sem Bool)) (a:=false) rfl ?_;refine bY (s:=Builtin.lenOf (.L q n cq)) (a:=n) rfl ?_;show aT P (if len+n<=cap then _ else _) h K;by_cases s:len+n<=cap
 .rw[af s];refine bY (s:=Builtin.firstCells i.size n (.L q n cq)) (a:=d.toArray) (lT R l) ?_;cases O with
  |nil E B k u=>
   subst E B k u;have f':n=0:=ag
   subst f';have Z:d= []:=by simpa using l
   subst Z;exact A none 0 h (.nil rfl rfl rfl rfl) (.nil rfl rfl rfl rfl) (Fr.refl _ _) (λc ⟨a,e,_⟩=>by cases e)
  |row b o c t E V B k D u=>
   subst E;show aT P (storeCells (((AA b o):Addr).add (len*i.size)) d>>=λ_=>pure (.L (Sa b o) (len+n) cap)) h K;rw[gZ];have d':(len+n)*i.size<=cap*i.size:=dc _ s;rw[fi]at d';rw[dW];refine um (c:=c) (off:=o+len*i.size) d 0 h b t _ h' V ag ?_;intro g J L o' Q e' F i';show K (.L (Sa b o) (len+n) cap) g;refine A _ cap g (.row b o J t rfl L s ag (by rw[aB,D,l,fi]) ?_) (.row b o J t rfl L B ag D ?_) (Fr.of_eq F λl' G=>i' l' (λe=>G ⟨_,rfl,e.symm⟩)) (λc k=> .inl k)
   .intro j v H;by_cases w:j<f.length
    .rw[cO w]at H;rw[Q _ ag];exact u j v H
    .rw[cH ag]at H;have:=e' _ v H;rw[D]at this;rwa[show o+len*i.size+0+(j - len*i.size)=o+j by omega]at this
   .intro j v H;have w:j<f.length:=(az.1 H).1;rw[Q _ ag];exact u j v H
 .rw[ae s];have b':=nextslicecap_le (need:=len+n) (cap:=cap) ag;refine bY (s:=typeInfo elem) (iu r) ?_;have c': ¬(((len+n:Nat):Int)>IntKind.max .i64/\(False\/i.bytes=0)):=λk=>by
   have:IntKind.max .i64=9223372036854775807:=rfl;rw[this]at k;omega
  show aT P (if(((len+n:Nat):Int)>IntKind.max .i64/\(false=true\/i.bytes=0))then _ else _) h K;rw[ae (cR c')];refine bY (s:=typeInfo elem) (iu r) ?_;have g': ¬(Builtin.nextslicecap (len+n) cap*i.bytes>2 ^ 48):=by
   have y:Builtin.nextslicecap (len+n) cap*i.bytes<=2*(len+n)*i.bytes:=dc _ b';rw[Nat.mul_assoc]at y;omega
  show aT P (if Builtin.nextslicecap (len+n) cap*i.bytes>2 ^ 48 then _ else _) h K;rw[ae g'];show aT P (choose (.appendCap (len+n) cap elem)>>=_) h K;rw[dW];unfold choose;simp only[aT,Question.forced,ar,aQ,Question.cut];intro tq;refine bY (s:=typeInfo elem) (iu r) ?_;rw[dW];have j': ∀(m:Nat)(x:Unit->ai->Prop),x () h->aT P (askRoom m) h x:=λm x M=>by
   unfold askRoom;split
   .exact M
   .exact M
  refine j' _ _ ?_;refine bY (s:=Builtin.firstCells i.size len (.L p len cap)) (a:=f.toArray) (lT O.iz O.length) ?_;refine bY (s:=Builtin.firstCells i.size n (.L q n cq)) (a:=d.toArray) (lT R l) ?_;refine bY (s:=zeroValue elem) (jr r hz) ?_;generalize n':len+n+tq%(2 ^ 63 - (len+n))=C;have a':len+n<=C:=ag
  show K (.L (Sa h.size 0) (len+n) C) (h.push (.C (f.toArray++d.toArray++Builtin.zeroCells z.cells (C - (len+n))) elem));have k':(f.toArray++d.toArray++Builtin.zeroCells z.cells (C - (len+n))).size=C*i.size:=by
   have y:(Builtin.zeroCells z.cells (C - (len+n))).size=(C - (len+n))*i.size:=by simp[Builtin.zeroCells,F]
   have U:=O.length;rw[Array.size_append,Array.size_append,y];simp only[List.size_toArray];rw[U,l,<-fi,<-fi];congr 1;omega
  refine A _ C _ (.row h.size 0 _ elem rfl bZ a' (by rw[k'];omega) (by rw[aB,O.length,l,fi]) ?_) (O.frame (Fr.push (S:=λ_=>False) _ _) bX) (Fr.push _ _) ?_
  .intro j v H;rw[bK];have w:j<(f++d).length:=(az.1 H).1;rw[dC (cR w)];simpa using H
  .rintro c ⟨a,e,rfl⟩;cases e;exact .inr (bp _)
structure oC (P:Program) (sT elem:TypeId) (sz bytes:Nat) (z:Value):Prop where
 u:P.underlying sT=some (.slice elem)
 info:(P.info? elem).map (λi=>(i.size,i.bytes,i.zero))=some (sz,bytes,some z)
 zs:z.cells.size=sz
theorem oC.i{S elem:TypeId}{s bytes:Nat}{z:Value}(T:oC P S elem s bytes z): ∃i,P.info? elem=some i/\i.size=s/\i.bytes=bytes/\i.zero=some z:=by
 have:=T.info;cases h:P.info? elem with
 |none=>rw[h]at this;cases this
 |some i=>
  rw[h]at this;simp only[dq,bC,gK]at this;exact⟨i,rfl,this⟩
theorem dR{S x t elem eT:TypeId}{s bytes:Nat}{z:Value}{h:ai}{p q:ct}{len cap n cq:Nat}{cs ds:List Value}{K:fO}(T:oC P S elem s bytes z)(l:P.underlying x=some (.slice eT))(o:Own h p len cap s cs)(k:Row h q ds)(e:ds.length=n*s)(j: ∀v∈ds,fZ v=true)(b:(len+n)*bytes<=70368744177664)(d:len+n<=9223372036854775807)(g: ∀a C H,Own H a (len+n) C s (cs++ds)->Own H p len cap s cs->Fr (aP p) h H->(∀c,aP a c->aP p c\/h.size<=c)->K (.L a (len+n) C) H):
  aT P (Builtin.append_ #[S,x] t #[.L p len cap,.L q n cq]) h K:=by
 obtain⟨i,f,rfl,rfl,m⟩:=T.i;exact DP T.u l f m T.zs o k e j b d g
end
section
open Go.RowKit
def qG(P:Program)(h:ai):Nat->TypeId->List Value->Prop
 |0,_,_=>False
 |n+1,t,c=>
  match P.underlying t with
  |some .bool=> ∃b,c= [.bool b]
  |some (.int k)=> ∃a,c= [.int k a]/\(Lit.int k a).wf=true
  |some .string=> ∃s,c= [.string s]/\s.size<=maxLen
  |some (.pointer e)=>c= [.pointer none]\/∃a C,c= [.pointer (some a)]/\C.length=P.cellsOf e/\dN a C 0 h/\qG P h n e C
  |some (.slice e)=>c= [.slice none 0 0]\/∃a len cap,c= [.slice (some a) len cap]/\len<=cap/\cap<=maxLen/\∀i,i<len->∃C,C.length=P.cellsOf e/\dN (a.add (i*P.cellsOf e)) C 0 h/\qG P h n e C
  |some (.struct fs)=>c.length=P.cellsOf t/\∀f∈fs.toList,qG P h n f.type ((c.drop f.offset).take (P.cellsOf f.type))
  |some (.array m e)=>c.length=P.cellsOf t/\∀i,i<m->qG P h n e ((c.drop (i*P.cellsOf e)).take (P.cellsOf e))
  |_=>True
theorem zY{w:World}{b:Nat}{a:Addr}{n:Nat}{c:List Value}(h:w.cells? b a n=some c):c.length=n/\dN a c 0 w.heap:=by
 obtain⟨_,e,d⟩:=World.cells?_some h;refine⟨e,kk.2 λj v H=> ?_⟩;have f:j<c.length:=(az.1 H).1;have:=d j ag;rw[lS,H]at this;rw[bK];exact this
theorem mc{H:Type}{F:TypeId×Value->H}{P:Program}{w:World}{B:Nat}{S:Nat->Bool}{I:Bool}:
  ∀(fuel:Nat)(t:TypeId)(p:List Value)(x:DataW H×List MemPlace),DataW.trod F P w B S I fuel t p=some x->qG P w.heap fuel t p
 |0,_,_,_,h=>by simp[DataW.trod]at h
 |fuel+1,t,p,x,h=>by
  unfold qG;cases j:P.underlying t with
  |none=>trivial
  |some d=>
   cases d<;>simp only<;>first|trivial|skip
   case bool=>obtain⟨b,c,_⟩:=DataW.trod_bool j h;exact⟨b,c⟩
   case int k=>obtain⟨n,c,_,A⟩:=DataW.trod_int j h;exact⟨n,c,A⟩
   case string=>obtain⟨s,c,_,A⟩:=DataW.trod_string j h;exact⟨s,c,A⟩
   case pointer e=>
    rcases DataW.trod_pointer j h with⟨c,_⟩|⟨a,C,y,n,z,c,_,aU,L⟩
    .exact .inl c
    .obtain⟨l,r⟩:=zY aU;obtain rfl:n=fuel:=ag
     exact .inr ⟨a,C,c,l,r,mc n e C y L⟩
   case slice e=>
    rcases DataW.trod_slice j h with⟨c,_⟩|⟨a,len,cap,M,R,n,z,c,_,_,l,u,O,G,_⟩
    .exact .inl c
    .obtain rfl:n=fuel:=ag
     refine .inr ⟨a,len,cap,c,l,u,λi o=> ?_⟩;have g:=G i o;rw[aj ag]at g;cases aU:w.cells? B (a.add (i*P.cellsOf e)) (P.cellsOf e)with
     |none=>rw[aU]at g;cases g
     |some C=>
      rw[aU]at g;obtain⟨J,r⟩:=zY aU;exact⟨C,J,r,mc n e C _ g⟩
   case struct fs=>
    obtain⟨X,n,z,_,l,E,q⟩:=DataW.trod_struct j h;obtain rfl:n=fuel:=ag
    refine⟨l,λf u=> ?_⟩;obtain⟨i,o⟩:=bL u;have D:fs[i]? =some f:=by simpa using o
    have g:=q i f D;have K:i<X.length:=by rw[E];exact(fH.1 D).1
    rw[aj K]at g;exact mc n _ _ _ g
   case array m e=>
    obtain⟨X,n,z,_,l,E,q⟩:=DataW.trod_array j h;obtain rfl:n=fuel:=ag
    refine⟨l,λi o=> ?_⟩;have g:=q i o;rw[aj ag]at g;exact mc n _ _ _ g
def rk(P:Program)(h:ai)(t:TypeId)(v:Value):Prop:= ∃n,qG P h n t v.cells.toList
theorem rk.of{H:Type}{e:TypeId×Value->H}{P:Program}{w:World}{b:Nat}{s:Nat->Bool}{a:Bool}{t:TypeId}{v:Value}{d:DataW H}{p:List MemPlace}(h:DataW.Trod e P w b s a t v d p):rk P w.heap t v:=by
 obtain⟨n,c⟩:=h;exact⟨n,mc n _ _ _ c⟩
theorem NA{w a:World}(b:Fr (λ_=>False) w.heap a.heap)(H:fc w a):Below w.heap.size w a:=
 ⟨H.1,H.2.2,H.2.1,b.1,λk c=>b.2 k c id⟩
def NB(P:Program)(f:FuncId)(args:Array Value)(h:ai):Prop:=kL P f args h (λv H=>v=.bool true/\Fr (λ_=>False) h H)
theorem NB.calls{P:Program}{f:FuncId}{args:Array Value}{w:World}(b:NB P f args w.heap):Calls P f args w λe g=>e=.returned (.B true)/\Below w.heap.size w g:=
 (b w rfl).mono λ_ _ ⟨_,H,⟨d,a⟩,c⟩=>⟨by rw[H,d],NA a c⟩
theorem wf_u64{a : Int}(h : (Lit.int .u64 a).wf = true): 0 ≤ a ∧ a ≤ 18446744073709551615 := by
  simpa [Lit.wf, IntKind.min, IntKind.max, IntKind.bits, IntKind.signed] using h
theorem wf_u8{a:Int}(h:(Lit.int .u8 a).wf=true):0<=a/\a<=255:=by
 simpa[Lit.wf,IntKind.min,IntKind.max,IntKind.bits,IntKind.signed]using h
section
variable {P : Program} {h : ai} {t : TypeId} {v : Value}
theorem rk.int{k:IntKind}(d:P.underlying t=some (.int k))(e:rk P h t v)(c: ∀a,v.cells.toList= [.int k a]->v=.int k a): ∃a,v=.int k a/\(Lit.int k a).wf=true:=by
 obtain⟨n,H⟩:=e;cases n with
 |zero=>exact H.elim
 |succ n=>
  unfold qG at H;rw[d]at H;obtain⟨a,b,f⟩:=H;exact⟨a,c a b,f⟩
theorem DQ{h:ai}{a:Addr}{c d:List Value}:dN a (c++d) 0 h↔dN a c 0 h/\dN (a.add c.length) d 0 h:=by
 simp only[kk,bK];constructor
 .intro b;refine⟨λj v H=>b j v ?_,λj v H=> ?_⟩
  .rw[cO (az.1 H).1];exact H
  .rw[add_add];refine b _ v ?_;rw[cH ag];simpa using H
 .rintro⟨e,f⟩ j v H;by_cases g:j<c.length
  .rw[cO g]at H;exact e j v H
  .rw[cH ag]at H;have:=f _ v H;rw[add_add]at this;rwa[show c.length+(j - c.length)=j by omega]at this
theorem eL{a:Type}(e:a->List Value)(s:Nat)(H: ∀x,(e x).length=s): ∀X:List a,(X.flatMap e).length=X.length*s
 | []=>bU
 |x::X=>by
  rw[fU,aB,H,eL e s H X,bn,fi];omega
theorem sB{b:Type}(e:b->List Value)(s:Nat)(a: ∀x,(e x).length=s): ∀(X:List b)(i:Nat)(x:b),X[i]? =some x->∀j v,(e x)[j]? =some v->(X.flatMap e)[i*s+j]? =some v
 | [],i,x,h,_,_,_=>by simp at h
 |y::X,0,x,h,j,v,H=>by
  simp at h;subst h;have c:=(az.1 H).1;rw[fU,Nat.zero_mul,bK,cO c];exact H
 |y::X,i+1,x,h,j,v,H=>by
  have:=sB e s a X i x (cR h) j v H;rw[fU,cH (by rw[a,fi];omega),a];rwa[show(i+1)*s+j - s=i*s+j by rw[fi];omega]
theorem rk.slice{f:Type}{e:TypeId}{p:ct}{len cap:Nat}(E:f->List Value)(s:Nat)(Q:f->Prop)(l:P.cellsOf e=s)(w: ∀x,(E x).length=s)(r: ∀n c,c.length=s->qG P h n e c->∃x,c=E x/\Q x)(C:P.underlying t=some (.slice e))(D:rk P h t (.L p len cap)):
  ∃X:List f,X.length=len/\len<=cap/\cap<=maxLen/\Row h p (X.flatMap E)/\∀x∈X,Q x:=by
 obtain⟨n,b⟩:=D;cases n with
 |zero=>exact b.elim
 |succ n=>
  unfold qG at b;rw[C]at b;rcases b with H|⟨a,L,F,H,z,A,u⟩
  .simp[Value.cells]at H;obtain⟨rfl,rfl,rfl⟩:=H;exact⟨[],rfl,bp _,bQ _,.inl rfl,λ_ g=>by cases g⟩
  .simp[Value.cells]at H;obtain⟨rfl,rfl,rfl⟩:=H;have K: ∀k,k<=len->∃X:List f,X.length=k/\dN a (X.flatMap E) 0 h/\∀x∈X,Q x:=by
    intro k;induction k with
    |zero=>intro _;exact⟨[],rfl,trivial,λ_ g=>by cases g⟩
    |succ k I=>
     intro G;obtain⟨X,d,i,j⟩:=I ag;obtain⟨c,m,o,q⟩:=u k ag;obtain⟨x,rfl,B⟩:=r n c (by rw[m,l]) q;refine⟨X++ [x],by simp[d],?_,?_⟩
     .rw[cS,DQ];refine⟨i,?_⟩;rw[eL E s w,d,<-l];simpa using o
     .intro y hy;rcases bH.1 hy with hy|hy
      .exact j y hy
      .simp at hy;subst hy;exact B
   obtain⟨X,d,i,j⟩:=K len (bp _);exact⟨X,d,z,A,.inr ⟨a,rfl,i⟩,j⟩
theorem qG.int{k:IntKind}{n:Nat}{c:List Value}(b:P.underlying t=some (.int k))(H:qG P h n t c): ∃a,c= [.int k a]/\(Lit.int k a).wf=true:=by
 cases n with
 |zero=>exact H.elim
 |succ n=>unfold qG at H;rw[b]at H;exact H
theorem qG.bool{n:Nat}{c:List Value}(a:P.underlying t=some .bool)(H:qG P h n t c): ∃b,c= [.B b]:=by
 cases n with
 |zero=>exact H.elim
 |succ n=>unfold qG at H;rw[a]at H;exact H
end
def rq(P:Program)(r:TypeId->Option (List TypeId)):List Field->Nat->Option (List TypeId)
 | [],_=>some []
 |f::fs,o=>(match Nat.beq f.offset o,r f.type with
  |true,some T=>(match Nat.beq T.length (P.cellsOf f.type),rq P r fs (o+T.length)with
   |true,some u=>some (T++u)
   |_,_=>none)
  |_,_=>none)
def vo(P:Program):Nat->TypeId->Option (List TypeId)
 |0,_=>none
 |n+1,t=>(match P.underlying t with
  |some (.struct fs)=>rq P (vo P n) fs.toList 0
  |some (.array _ _)=>none
  |_=>some [t])
def Leaves(P:Program)(h:ai)(a:List TypeId)(c:List Value):Prop:= ∀(i:Nat)(T:TypeId),a[i]? =some T->∃v m,c[i]? =some v/\qG P h m T [v]
theorem Leaves.append{P:Program}{h:ai}{T u:List TypeId}{c:List Value}(f:Leaves P h T (c.take T.length))(g:Leaves P h u (c.drop T.length)):Leaves P h (T++u) c:=by
 intro i e a;by_cases d:i<T.length
 .rw[cO d]at a;obtain⟨v,m,H,b⟩:=f i e a;rw[cZ,af d]at H;exact⟨v,m,H,b⟩
 .rw[cH ag]at a;obtain⟨v,m,H,b⟩:=g _ e a;rw[fp]at H;exact⟨v,m,by rwa[show T.length+(i - T.length)=i by omega]at H,b⟩
theorem xZ{P:Program}{h:ai}{r:TypeId->Option (List TypeId)}{n:Nat}(g: ∀t T c,r t=some T->c.length=T.length->qG P h n t c->Leaves P h T c):
  ∀(fs:List Field)(o:Nat)(u:List TypeId)(c:List Value),rq P r fs o=some u->o+u.length<=c.length->(∀f∈fs,qG P h n f.type ((c.drop f.offset).take (P.cellsOf f.type)))->
   Leaves P h u (c.drop o)
 | [],o,u,c,H,_,_=>by simp only[rq,bC]at H;subst H;intro i q j;simp at j
 |f::fs,o,u,c,H,k,e=>by
  simp only[rq]at H;split at H
  .rename_i T b m;split at H
   .rename_i U a p;simp only[bC]at H;subst H;have b:=bR b;have a:=bR a;rw[aB]at k;have d:=e f dp;rw[b,<-a]at d;refine Leaves.append (g _ _ _ m (by simp;omega) d) ?_;rw[List.drop_drop];exact xZ g fs _ U c p ag (λF l=>e F (cv _ l))
   .cases H
  .cases H
theorem zZ{P:Program}{h:ai}: ∀(d n:Nat)(t:TypeId)(T:List TypeId)(c:List Value),vo P d t=some T->c.length=T.length->qG P h n t c->Leaves P h T c
 |0,_,_,_,_,H,_,_=>by simp[vo]at H
 |d+1,n,t,T,c,H,k,a=>by
  simp only[vo]at H;cases n with
  |zero=>exact a.elim
  |succ n=>
   split at H
   .rename_i fs j;unfold qG at a;rw[j]at a;have:=xZ (λt T c e f g=>zZ d n t T c e f g) fs.toList 0 T c H ag a.2;simpa using this
   .cases H
   .simp only[bC]at H;subst H;intro i l b
    match c,k with
    | [v],_=>
     cases i with
     |zero=>simp at b;subst b;exact⟨v,n+1,rfl,a⟩
     |succ i=>simp at b
theorem Leaves.get{P:Program}{h:ai}{a:List TypeId}{c:List Value}(d:Leaves P h a c)(i:Nat){T:TypeId}{v:Value}(b:a[i]? =some T)(H:c[i]? =some v): ∃m,qG P h m T [v]:=by
 obtain⟨u,m,f,e⟩:=d i T b;rw[f]at H;cases H;exact⟨m,e⟩
theorem Leaves.int{P:Program}{h:ai}{b:List TypeId}{c:List Value}(e:Leaves P h b c)(i:Nat){T:TypeId}{v:Value}{k:IntKind}(d:b[i]? =some T)(j:c[i]? =some v)(g:P.underlying T=some (.int k)): ∃a,v=.int k a/\(Lit.int k a).wf=true:=by
 obtain⟨m,f⟩:=e.get i d j;obtain⟨a,H,l⟩:=qG.int g f;exact⟨a,cR H,l⟩
theorem Leaves.bool{P:Program}{h:ai}{d:List TypeId}{c:List Value}(f:Leaves P h d c)(i:Nat){T:TypeId}{v:Value}(e:d[i]? =some T)(k:c[i]? =some v)(j:P.underlying T=some .bool): ∃b,v=.B b:=by
 obtain⟨m,g⟩:=f.get i e k;obtain⟨a,H⟩:=qG.bool j g;exact⟨a,cR H⟩
theorem aG.of{a:Type}{F:a}{B:a->Prop}(h: ∀J,J=F->B J):aG F B:=h F rfl
theorem rk.ints{P:Program}{h:ai}{t e:TypeId}{k:IntKind}{p:ct}{len cap:Nat}(c:P.cellsOf e=1)(d:P.underlying e=some (.int k))(g:P.underlying t=some (.slice e))(i:rk P h t (.L p len cap)):
  ∃X:List Int,X.length=len/\Row h p (X.map (.int k ·))/\∀x∈X,(Lit.int k x).wf=true:=by
 obtain⟨X,H,_,_,a,b⟩:=rk.slice (e:=e) (λx:Int=> [Value.int k x]) 1 (λx=>(Lit.int k x).wf=true) c (λ_=>rfl) (λn C _ f=>qG.int d f) g i;refine⟨X,H,?_,b⟩;have:X.flatMap (λx:Int=> [Value.int k x])=X.map (.int k ·):=by
  clear H a b;induction X with
  |nil=>rfl
  |cons x X I=>rw[fU,I];rfl
 rwa[this]at a
theorem Ih{h:ai}{p:ct}{k:IntKind}{x:List Int}(b:Row h p (x.map (.int k ·))){i:Nat}(c:i<x.length): ∃a,p=some a/\aU h (a.add (i*1))=some (.int k (x.getD i 0)):=by
 have H:(x.map (Value.int k ·))[i]? =some (.int k (x.getD i 0)):=by simp[c]
 obtain⟨a,rfl⟩:=b.some (λe=>by rw[e]at H;simp at H);exact⟨a,rfl,by rw[cE];exact b.cell H⟩
theorem NC{x:List Int}{i:Nat}(H:i<x.length):x.getD i 0∈x:=by
 rw[bh,aj H];exact dF H
end
end Go.Den
