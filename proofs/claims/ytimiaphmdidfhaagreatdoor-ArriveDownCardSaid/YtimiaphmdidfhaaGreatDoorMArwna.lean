/-
  FU is proved here: parts of x7 proof, one behind x7 other (texts of this work, merged by a program; IA x7 theorem IB not use is left out). No condition.
-/
import Derived.OrdersHeld
import Derived.Scope
import Derived.KernelRfl
import Derived.Recover
import Derived.IntWalk
import Derived.ProofKit
import Derived.ChangeOld
import Derived.Below
import Derived.Carry
import Derived.OpenShut
set_option maxRecDepth 100000
set_option maxHeartbeats 4000000
namespace Go
section
variable {c p q r:Prop}
abbrev ck:=Option Addr
abbrev cM:=List UInt8
abbrev fD:=Value→Array Obj→Prop
abbrev gg:ByteArray:=⟨#[]⟩
abbrev AA(b i:Nat):Addr:=⟨b,i,none⟩
abbrev Sa(b i:Nat):Option Addr:=some ⟨b,i,none⟩
abbrev Value.I(x:Int):Value:=.int .i64 x
abbrev Value.U(x:Int):Value:=.int .u64 x
abbrev Value.P(b i:Nat):Value:=.pointer (some ⟨b,i,none⟩)
abbrev Value.L(p:Option Addr)(l c:Nat):Value:=.slice p l c
abbrev Value.B(b:Bool):Value:=.bool b
abbrev Value.S(s:ByteArray):Value:=.string s
abbrev Value.T(v:Array Value):Value:=.tuple v
abbrev Obj.C(c:Array Value)(t:TypeId)(f:Nat×Nat:=(0,0)):Obj:=.cells c t f
abbrev Value.Z:Value:=.slice none 0 0
theorem dB{i:Decidable c}{a:Sort _}{t e:a}(h: ¬c:=by first|decide|omega|(simp only[decide_eq_true_eq];omega)):ite c t e=e:=if_neg h
theorem gk{i:Decidable c}{a:Sort _}{t e:a}(h:c:=by first|decide|omega|exact decide_eq_true (by omega)):ite c t e=t:=if_pos h
theorem bX{d:Sort _}{f:d→Sort _}{e:(a:d)→f a→Prop}: ∀a b,e a b→e a b:=λ_ _=>id
theorem ae(h:p:=by omega):p:=h
theorem dN(h:p:=by decide):p:=h
theorem bV(h:p:=by simp):p:=h
theorem dz(h:p:=by kernel_rfl):p:=h
theorem bR(h:q)(g:q→p:=by intro;omega):p:=g h
theorem gG(h:q)(k:r)(g:q→r→p:=by intro _ _;omega):p:=g h k
theorem sU{s:Prop}(h:q)(k:r)(l:s)(g:q→r→s→p:=by intro _ _ _;omega):p:=g h k l
theorem cI(h:q)(g:q→p:=by intro h;simpa using h):p:=g h
theorem fC:type_of% @Array.getD_eq_getD_getElem?:=@Array.getD_eq_getD_getElem?
theorem dR:type_of% @Array.getElem?_append_left:=@Array.getElem?_append_left
theorem dE:type_of% @Array.getElem?_modify:=@Array.getElem?_modify
theorem fZ:type_of% @Array.getElem?_push:=@Array.getElem?_push
theorem cO:type_of% @Array.getElem?_setIfInBounds:=@Array.getElem?_setIfInBounds
theorem dL:type_of% @Array.getElem?_toList:=@Array.getElem?_toList
theorem ee:type_of% @Array.length_toList:=@Array.length_toList
theorem dk:type_of% @Array.size_push:=@Array.size_push
theorem aU:type_of% @Bool.and_eq_true:=@Bool.and_eq_true
theorem fI:type_of% @Bool.false_and:=@Bool.false_and
theorem aq:type_of% @Bool.false_eq_true:=@Bool.false_eq_true
theorem dS:type_of% @Bool.not_false:=@Bool.not_false
theorem cU:type_of% @Bool.not_true:=@Bool.not_true
theorem eI:type_of% @Bool.true_and:=@Bool.true_and
theorem fi:type_of% @Iff.rfl:=@Iff.rfl
theorem eL:type_of% @Int.eq_ofNat_of_zero_le:=@Int.eq_ofNat_of_zero_le
theorem eu:type_of% @Int.le_refl:=@Int.le_refl
theorem aF:type_of% @Int.toNat_natCast:=@Int.toNat_natCast
theorem gp:type_of% @List.Pairwise.filter:=@List.Pairwise.filter
theorem fj:type_of% @List.Pairwise.sublist:=@List.Pairwise.sublist
theorem gh:type_of% @List.Sublist.map:=@List.Sublist.map
theorem di:type_of% @List.append_assoc:=@List.append_assoc
theorem eJ:type_of% @List.cons_append:=@List.cons_append
theorem cX:type_of% @List.drop_eq_getElem_cons:=@List.drop_eq_getElem_cons
theorem dV:type_of% @List.drop_of_length_le:=@List.drop_of_length_le
theorem hN:type_of% @List.drop_zero:=@List.drop_zero
theorem fE:type_of% @List.ext_getElem?:=@List.ext_getElem?
theorem gi:type_of% @List.filter_append:=@List.filter_append
theorem eM:type_of% @List.filter_congr:=@List.filter_congr
theorem cC:type_of% @List.filter_cons:=@List.filter_cons
theorem cD:type_of% @List.filter_eq_self:=@List.filter_eq_self
theorem gI:type_of% @List.filter_filter:=@List.filter_filter
theorem dQ:type_of% @List.filter_map:=@List.filter_map
theorem cS:type_of% @List.filter_sublist:=@List.filter_sublist
theorem fO:type_of% @List.find?_eq_some_iff_getElem:=@List.find?_eq_some_iff_getElem
theorem dy:type_of% @List.findIdx?_eq_none_iff:=@List.findIdx?_eq_none_iff
theorem cJ:type_of% @List.findIdx?_eq_some_iff_getElem:=@List.findIdx?_eq_some_iff_getElem
theorem cg:type_of% @List.flatMap_append:=@List.flatMap_append
theorem fG:type_of% @List.flatMap_cons:=@List.flatMap_cons
theorem bk:type_of% @List.getD_eq_getElem?_getD:=@List.getD_eq_getElem?_getD
theorem dh:type_of% @List.getElem?_append_left:=@List.getElem?_append_left
theorem cV:type_of% @List.getElem?_append_right:=@List.getElem?_append_right
theorem dG:type_of% @List.getElem?_cons_succ:=@List.getElem?_cons_succ
theorem eU:type_of% @List.getElem?_cons_zero:=@List.getElem?_cons_zero
theorem fx:type_of% @List.getElem?_drop:=@List.getElem?_drop
theorem ai:type_of% @List.getElem?_eq_getElem:=@List.getElem?_eq_getElem
theorem cY:type_of% @List.getElem?_eq_none:=@List.getElem?_eq_none
theorem aE:type_of% @List.getElem?_eq_some_iff:=@List.getElem?_eq_some_iff
theorem eE:type_of% @List.getElem?_inj:=@List.getElem?_inj
theorem aD:type_of% @List.getElem?_map:=@List.getElem?_map
theorem bO:type_of% @List.getElem?_of_mem:=@List.getElem?_of_mem
theorem dp:type_of% @List.getElem?_set:=@List.getElem?_set
theorem df:type_of% @List.getElem?_take:=@List.getElem?_take
theorem dI:type_of% @List.getElem_mem:=@List.getElem_mem
theorem au:type_of% @List.length_append:=@List.length_append
theorem bf:type_of% @List.length_cons:=@List.length_cons
theorem bT:type_of% @List.length_drop:=@List.length_drop
theorem gW:type_of% @List.length_eq_zero_iff:=@List.length_eq_zero_iff
theorem cP:type_of% @List.length_filter_le:=@List.length_filter_le
theorem ay:type_of% @List.length_map:=@List.length_map
theorem bG:type_of% @List.length_nil:=@List.length_nil
theorem dt:type_of% @List.length_set:=@List.length_set
theorem dF:type_of% @List.length_singleton:=@List.length_singleton
theorem bw:type_of% @List.length_take:=@List.length_take
theorem aV:type_of% @List.map_append:=@List.map_append
theorem eH:type_of% @List.map_congr_left:=@List.map_congr_left
theorem cu:type_of% @List.map_cons:=@List.map_cons
theorem dJ:type_of% @List.map_map:=@List.map_map
theorem bE:type_of% @List.mem_append:=@List.mem_append
theorem eV:type_of% @List.mem_append_left:=@List.mem_append_left
theorem fk:type_of% @List.mem_append_right:=@List.mem_append_right
theorem bK:type_of% @List.mem_cons:=@List.mem_cons
theorem cv:type_of% @List.mem_cons_of_mem:=@List.mem_cons_of_mem
theorem dj:type_of% @List.mem_cons_self:=@List.mem_cons_self
theorem bj:type_of% @List.mem_filter:=@List.mem_filter
theorem bp:type_of% @List.mem_map:=@List.mem_map
theorem bz:type_of% @List.mem_map_of_mem:=@List.mem_map_of_mem
theorem aK:type_of% @List.mem_of_getElem?:=@List.mem_of_getElem?
theorem gr:type_of% @List.mem_of_mem_drop:=@List.mem_of_mem_drop
theorem bP:type_of% @List.mem_singleton:=@List.mem_singleton
theorem cH:type_of% @List.nil_append:=@List.nil_append
theorem ft:type_of% @List.nodup_append:=@List.nodup_append
theorem fL:type_of% @List.nodup_cons:=@List.nodup_cons
theorem gH:type_of% @List.not_mem_nil:=@List.not_mem_nil
theorem dY:type_of% @List.pairwise_cons:=@List.pairwise_cons
theorem fu:type_of% @List.pairwise_map:=@List.pairwise_map
theorem eK:type_of% @List.perm_append_singleton:=@List.perm_append_singleton
theorem gu:type_of% @List.range_eq_range':=@List.range_eq_range'
theorem bt:type_of% @List.take_add_one:=@List.take_add_one
theorem dT:type_of% @List.take_length:=@List.take_length
theorem bn:type_of% @List.take_of_length_le:=@List.take_of_length_le
theorem gz:type_of% @List.take_succ_cons:=@List.take_succ_cons
theorem eZ:type_of% @List.take_zero:=@List.take_zero
theorem eW:type_of% @Nat.add_mul:=@Nat.add_mul
theorem bY:type_of% @Nat.eq_of_beq_eq_true:=@Nat.eq_of_beq_eq_true
theorem bm:type_of% @Nat.le_refl:=@Nat.le_refl
theorem cE:type_of% @Nat.le_trans:=@Nat.le_trans
theorem cA:type_of% @Nat.lt_of_lt_of_le:=@Nat.lt_of_lt_of_le
theorem cZ:type_of% @Nat.mul_le_mul_right:=@Nat.mul_le_mul_right
theorem cp:type_of% @Nat.mul_one:=@Nat.mul_one
theorem gv:type_of% @Nat.pow_le_pow_right:=@Nat.pow_le_pow_right
theorem bM:type_of% @Nat.zero_add:=@Nat.zero_add
theorem bL:type_of% @Nat.zero_le:=@Nat.zero_le
theorem fJ:type_of% @Ne.symm:=@Ne.symm
theorem ia:type_of% @Option.isNone_some:=@Option.isNone_some
theorem dZ:type_of% @Option.isSome_iff_exists:=@Option.isSome_iff_exists
theorem du:type_of% @Option.map_some:=@Option.map_some
theorem aZ:type_of% @Option.some.inj:=@Option.some.inj
theorem bH:type_of% @Option.some.injEq:=@Option.some.injEq
theorem gT:type_of% @Prod.mk.injEq:=@Prod.mk.injEq
theorem gJ:type_of% @UInt8.toNat_ofNat':=@UInt8.toNat_ofNat'
theorem dA:type_of% @beq_eq_false_iff_ne:=@beq_eq_false_iff_ne
theorem db:type_of% @beq_iff_eq:=@beq_iff_eq
theorem fy:type_of% @beq_self_eq_true:=@beq_self_eq_true
theorem gA:type_of% @bne_eq_false_iff_eq:=@bne_eq_false_iff_eq
theorem dv:type_of% @bne_iff_ne:=@bne_iff_ne
theorem bQ:type_of% @congrArg:=@congrArg
theorem aB:type_of% @decide_eq_false:=@decide_eq_false
theorem fv:type_of% @decide_eq_false_iff_not:=@decide_eq_false_iff_not
theorem aw:type_of% @decide_eq_true:=@decide_eq_true
theorem aX:type_of% @decide_eq_true_eq:=@decide_eq_true_eq
theorem bg:type_of% @decide_false:=@decide_false
theorem bu:type_of% @decide_true:=@decide_true
theorem aL:type_of% @if_false:=@if_false
theorem af:type_of% @if_neg:=@if_neg
theorem ag:type_of% @if_pos:=@if_pos
theorem ba:type_of% @if_true:=@if_true
theorem ff:type_of% @ne_eq:=@ne_eq
theorem gj:type_of% @of_decide_eq_false:=@of_decide_eq_false
theorem aS:type_of% @of_decide_eq_true:=@of_decide_eq_true

end
end Go
namespace Go.Den
section
variable {P:Program} {F:Value->Prop} {t:TypeId}
abbrev aj:=Array Obj
abbrev Env:=Nat->Option Value
def aY(h:aj)(a:Addr):Option Value:=
 match h[a.block]? with
 |some (.cells c _ _)=>if a.spot.isSome then none else c[a.off]?
 |_=>none
def pQ(h:aj)(r:Nat):Option (TypeId×Nat):=
 match h[r]? with
 |some (.cells c elem _)=>some (elem,c.size)
 |_=>none
def pR(h:aj)(a:Addr):Bool:=
 match h[a.block]? with
 |some (.cells _ _ (l,H))=>l<=a.off && a.off<H
 |_=>false
def pS(h:aj)(a:Addr)(n:Nat):aj:=
 if n=0 then h else
 h.modify a.block fun
   | .cells c elem (l,H)=> .cells c elem (if l==H then(a.off,a.off+n)else(min l a.off,max H (a.off+n)))
   |o=>o
def oW(h:aj)(a:Addr)(v:Value):aj:=
 h.modify a.block fun
   | .cells c elem frozen=> .cells (if a.spot.isSome then c else c.setIfInBounds a.off v) elem frozen
   |o=>o
theorem kV(w:World)(a:Addr):w.cell? a=aY w.heap a:=rfl
theorem NF(w:World)(r:Nat):w.shape? r=pQ w.heap r:=rfl
theorem sD(w:World)(a:Addr):w.frozen? a=pR w.heap a:=rfl
theorem uc(w:World)(a:Addr)(v:Value):(w.setCell a v).heap=oW w.heap a v:=rfl
theorem Lf(w:World)(a:Addr)(n:Nat):(w.freeze a n).heap=pS w.heap a n:=by
 unfold World.freeze pS;split<;>rfl
def fX(w a:World):Prop:=a.os=w.os/\a.output=w.output/\a.tape=w.tape
theorem fX.refl(w:World):fX w w:=⟨rfl,rfl,rfl⟩
theorem fX.trans{a b c:World}(h:fX a b)(H:fX b c):fX a c:=⟨H.1.trans h.1,H.2.1.trans h.2.1,H.2.2.trans h.2.2⟩
def gw:Value->Bool
 | .agg _| .tuple _=>false
 |_=>true
def aW(P:Program){b:Type}:Sem b->aj->(b->aj->Prop)->Prop
 | .pure a,h,K=>K a h
 | .load _ a k,h,K=> ∃v,aY h a=some v/\aW P (k v) h K
 | .store _ a v k,h,K=>gw v=true/\(aY h a).isSome=true/\pR h a=false/\aW P k (oW h a v) K
 | .new o k,h,K=>aW P (k h.size) (h.push o) K
 | .shape r k,h,K=>aW P (k (pQ h r)) h K
 | .freeze a n k,h,K=>aW P k (pS h a n) K
 | .frozen a k,h,K=>aW P (k (pR h a)) h K
 | .getObj r k,h,K=> ∃o,h[r]? =some o/\(∀c e f,o≠ .cells c e f)/\aW P (k o) h K
 | .setObj r o k,h,K=>(∃O,h[r]? =some O/\(∀c e f,O≠ .cells c e f))/\aW P k (h.setIfInBounds r o) K
 | .choose q k,h,K=>if q.forced=true then aW P (k 0) h K else∀t,aW P (k (q.cut t)) h K
 | .sys _ _,_,_=>False
 | .program k,h,K=>aW P (k P) h K
 | .mark _ k,h,K=>aW P k h K
 | .halt _,_,_=>False
theorem kN{l:Type}(s:Sem l): ∀(h:aj){K d:l->aj->Prop},(∀a h,K a h->d a h)->aW P s h K->aW P s h d:=by
 induction s with
 |pure a=>intro h K d b H;exact b _ _ H
 |load m a k i=>intro h K d b H;obtain⟨v,e,f⟩:=H;exact⟨v,e,i v h b f⟩
 |store m a v k i=>intro h K d b H;obtain⟨e,f,g,p⟩:=H;exact⟨e,f,g,i _ b p⟩
 |new o k i=>intro h K d b H;exact i _ _ b H
 |shape r k i=>intro h K d b H;exact i _ _ b H
 |freeze a n k i=>intro h K d b H;exact i _ b H
 |frozen a k i=>intro h K d b H;exact i _ _ b H
 |getObj r k i=>intro h K d b H;obtain⟨o,e,f,g⟩:=H;exact⟨o,e,f,i _ _ b g⟩
 |setObj r o k i=>intro h K d b H;exact⟨H.1,i _ b H.2⟩
 |choose q k i=>
  intro h K d b H;unfold aW at H⊢;split
  .rename_i j;rw[ag j]at H;exact i _ _ b H
  .rename_i j;rw[af j]at H;exact λt=>i _ _ b (H t)
 |sys c k i=>intro h K d b H;exact H
 |program k i=>intro h K d b H;exact i _ _ b H
 |mark m k i=>intro h K d b H;exact i _ b H
 |halt x=>intro h K d b H;exact H
theorem FV{b d:Type}(s:Sem b)(f:b->Sem d): ∀(h:aj)(K:d->aj->Prop),aW P (s.bind f) h K↔aW P s h (λa H=>aW P (f a) H K):=by
 induction s with
 |pure a=>intro h K;exact fi
 |load m a k i=>intro h K;simp only[Sem.bind,aW,i]
 |store m a v k i=>intro h K;simp only[Sem.bind,aW,i]
 |new o k i=>intro h K;simp only[Sem.bind,aW,i]
 |shape r k i=>intro h K;simp only[Sem.bind,aW,i]
 |freeze a n k i=>intro h K;simp only[Sem.bind,aW,i]
 |frozen a k i=>intro h K;simp only[Sem.bind,aW,i]
 |getObj r k i=>intro h K;simp only[Sem.bind,aW,i]
 |setObj r o k i=>intro h K;simp only[Sem.bind,aW,i]
 |choose q k i=>intro h K;simp only[Sem.bind,aW,i]
 |sys c k i=>intro h K;simp only[Sem.bind,aW]
 |program k i=>intro h K;simp only[Sem.bind,aW,i]
 |mark m k i=>intro h K;simp only[Sem.bind,aW,i]
 |halt x=>intro h K;simp only[Sem.bind,aW]
theorem pT{z:Type}(s:Sem z): ∀(h:aj)(K:z->aj->Prop),aW P s h K->
  ∀w:World,w.heap=h->∃a b,s.run P w=.ok a b/\K a b.heap/\fX w b:=by
 induction s with
 |pure a=>intro h K H w d;subst d;exact⟨a,w,rfl,H,fX.refl w⟩
 |load m a k i=>
  intro h K H w d;subst d;obtain⟨v,g,j⟩:=H;obtain⟨x,b,R,e⟩:=i v _ _ j w rfl;exact⟨x,b,by simp[Sem.run,kV,g,R],e⟩
 |store m a v k i=>
  intro h K H w d;subst d;obtain⟨g,j,l,A⟩:=H;obtain⟨u,y⟩:=dZ.1 j;obtain⟨x,b,R,e,f⟩:=i _ _ A (w.setCell a v) (uc w a v);refine⟨x,b,?_,e,f⟩;rw[<-kV]at y;rw[<-sD]at l;cases v<;>simp[gw]at g<;>simp[Sem.run,y,l,R]
 |new o k i=>
  intro h K H w d;subst d;obtain⟨x,b,R,e,f⟩:=i _ _ _ H { w with heap:=w.heap.push o } rfl;exact⟨x,b,R,e,f⟩
 |shape r k i=>
  intro h K H w d;subst d;obtain⟨x,b,R,e⟩:=i _ _ _ H w rfl;exact⟨x,b,by rw[<-NF]at R;simp[Sem.run,R],e⟩
 |freeze a n k i=>
  intro h K H w d;subst d;obtain⟨x,b,R,e,f⟩:=i _ _ H (w.freeze a n) (Lf w a n);refine⟨x,b,by simp[Sem.run,R],e,?_⟩;refine fX.trans ?_ f;unfold World.freeze;split<;>exact⟨rfl,rfl,rfl⟩
 |frozen a k i=>
  intro h K H w d;subst d;obtain⟨x,b,R,e⟩:=i _ _ _ H w rfl;exact⟨x,b,by rw[<-sD]at R;simp[Sem.run,R],e⟩
 |getObj r k i=>
  intro h K H w d;subst d;obtain⟨o,g,j,l⟩:=H;obtain⟨x,b,R,e⟩:=i _ _ _ l w rfl;refine⟨x,b,?_,e⟩;cases o<;>first|exact absurd rfl (j _ _ _)|simp[Sem.run,g,R]
 |setObj r o k i=>
  intro h K H w d;subst d;obtain⟨⟨O,g,j⟩,l⟩:=H;obtain⟨x,b,R,e,f⟩:=i _ _ l { w with heap:=w.heap.setIfInBounds r o } rfl;refine⟨x,b,?_,e,f⟩;cases O<;>first|exact absurd rfl (j _ _ _)|simp[Sem.run,g,R]
 |choose q k i=>
  intro h K H w d;subst d;unfold aW at H;split at H
  .rename_i p;obtain⟨x,b,R,e⟩:=i _ _ _ H w rfl;exact⟨x,b,by simp[Sem.run,p,R],e⟩
  .rename_i p;obtain⟨x,b,R,e,f⟩:=i _ _ _ (H (w.tape w.drawn q)) { w with drawn:=w.drawn+1 } rfl;exact⟨x,b,by simp only[Sem.run,af p];exact R,e,f⟩
 |sys c k i=>intro h K H;exact H.elim
 |program k i=>
  intro h K H w d;subst d;obtain⟨x,b,R,e⟩:=i _ _ _ H w rfl;exact⟨x,b,by simp[Sem.run,R],e⟩
 |mark m k i=>
  intro h K H w d;subst d;obtain⟨x,b,R,e⟩:=i _ _ H w rfl;exact⟨x,b,by simp[Sem.run,R],e⟩
 |halt x=>intro h K H;exact H.elim
def rd(P:Program){b:Type}:Sem b->aj->Option b
 | .pure a,_=>some a
 | .load _ a k,h=>(match aY h a with|some v=>rd P (k v) h|none=>none)
 | .shape r k,h=>rd P (k (pQ h r)) h
 | .frozen a k,h=>rd P (k (pR h a)) h
 | .getObj r k,h=>(match h[r]? with|some (.cells _ _ _)=>none|some o=>rd P (k o) h|none=>none)
 | .program k,h=>rd P (k P) h
 | .mark _ k,h=>rd P k h
 |_,_=>none
theorem NG{d:Type}(s:Sem d): ∀(h:aj)(a:d),rd P s h=some a->∀K:d->aj->Prop,K a h->aW P s h K:=by
 induction s with
 |pure b=>intro h a e K H;simp only[rd,bH]at e;subst e;exact H
 |load m b k i=>
  intro h a e K H;simp only[rd]at e;split at e
  .rename_i v n;exact⟨v,n,i v h a e K H⟩
  .cases e
 |shape r k i=>intro h a e K H;exact i _ h a e K H
 |frozen b k i=>intro h a e K H;exact i _ h a e K H
 |getObj r k i=>
  intro h a e K H;simp only[rd]at e;split at e
  .cases e
  .rename_i o j l;exact⟨o,l,λc e f g=>j c e f (g▸rfl),i _ h a e K H⟩
  .cases e
 |program k i=>intro h a e K H;exact i _ h a e K H
 |mark m k i=>intro h a e K H;exact i h a e K H
 |_=>intro h a e;simp[rd]at e
theorem qW{c:Type}(s:Sem c): ∀(w:World)(a:c),rd P s w.heap=some a->s.run P w=.ok a w:=by
 induction s with
 |pure b=>intro w a e;simp only[rd,bH]at e;subst e;rfl
 |load m b k i=>
  intro w a e;simp only[rd]at e;split at e
  .rename_i v h;rw[<-kV]at h;simp only[Sem.run,h];exact i v w a e
  .cases e
 |shape r k i=>intro w a e;exact i _ w a e
 |frozen b k i=>intro w a e;exact i _ w a e
 |getObj r k i=>
  intro w a e;simp only[rd]at e;split at e
  .cases e
  .rename_i o H d;cases o<;>first|exact absurd rfl (H _ _ _)|(simp only[Sem.run,d];exact i _ w a e)
  .cases e
 |program k i=>intro w a e;exact i _ w a e
 |mark m k i=>intro w a e;exact i w a e
 |_=>intro w a e;simp[rd]at e
theorem bF{c j:Type}(s:Sem c)(f:c->Sem j): ∀(h:aj)(a:c),rd P s h=some a->rd P (s>>=f) h=rd P (f a) h:=by
 show∀(h:aj)(a:c),rd P s h=some a->rd P (s.bind f) h=rd P (f a) h;induction s with
 |pure b=>intro h a e;simp only[rd,bH]at e;subst e;rfl
 |load m b k i=>
  intro h a e;simp only[rd]at e;split at e
  .rename_i v g;simp only[Sem.bind,rd,g];exact i v h a e
  .cases e
 |shape r k i=>intro h a e;exact i _ h a e
 |frozen b k i=>intro h a e;exact i _ h a e
 |getObj r k i=>
  intro h a e;simp only[rd]at e;split at e
  .cases e
  .rename_i o H d;cases o<;>first|exact absurd rfl (H _ _ _)|(simp only[Sem.bind,rd,d];exact i _ h a e)
  .cases e
 |program k i=>intro h a e;exact i _ h a e
 |mark m k i=>intro h a e;exact i h a e
 |_=>intro h a e;simp[rd]at e
def ny(P:Program)(f:FuncId)(args:Array Value)(h:aj)(R:fD):Prop:=
 ∀w:World,w.heap=h->Calls P f args w (λe a=> ∃v,e=.returned v/\R v a.heap/\fX w a)
theorem ny.mono{f:FuncId}{args:Array Value}{h:aj}{R r:fD}(c:ny P f args h R)(d: ∀v H,R v H->r v H):ny P f args h r:=
 λw g=>(c w g).mono λ_ _ ⟨v,b,a,e⟩=>⟨v,b,d _ _ a,e⟩
def TN(P:Program)(K:fD):Next->aj->Prop
 | .value v,h=>K v h
 | .skip,h=>K undef h
 | .enter f args,h=>ny P f args h K
 |_,_=>False
def qX(P:Program)(o:Oper)(a:Operand->Value)(h:aj)(K:fD):Prop:=
 aW P (execOp a o) h (TN P K)
theorem qX.wp{o:Oper}{a:Act}{w:World}{K:fD}{next:Act->World->Prop}{Q:Exit->Act->World->Prop}(c:qX P o a.eval w.heap K)(h: ∀v b,K v b.heap->fX w b->next (a.put o.dst v) b):o.wp P a w next Q:=by
 obtain⟨x,b,g,r,R⟩:=pT _ _ _ c w rfl;unfold Oper.wp;rw[g];cases x with
 |value v=>exact h _ _ r R
 |skip=>exact h _ _ r R
 |enter f args=>
  refine(r b rfl).mono ?_;rintro e i ⟨v,rfl,H,d⟩;exact h _ _ H (R.trans d)
 |_=>exact r.elim
inductive gZ where
 |int (k:IntKind)
 |bool
 |str
 |ptr
 |slice
 |map
 |raw
inductive Sh where
 |one (l:gZ)
 |agg (ls:List gZ)
def gZ.ex:gZ->(Value->Prop)->Prop
 | .int k,F=> ∃n:Int,F (.int k n)
 | .bool,F=> ∃b:Bool,F (.bool b)
 | .str,F=> ∃s:ByteArray,F (.string s)
 | .ptr,F=> ∃p:ck,F (.pointer p)
 | .slice,F=> ∃(p:ck)(l c:Nat),F (.slice p l c)
 | .map,F=> ∃m:Option Nat,F (.map m)
 | .raw,F=> ∃v:Value,F v
def UY:List gZ->(List Value->Prop)->Prop
 | [],F=>F []
 |l::L,F=>l.ex λv=>UY L λV=>F (v::V)
def Sh.ex:Sh->(Value->Prop)->Prop
 | .one l,F=>l.ex F
 | .agg L,F=>UY L λv=>F (.agg v.toArray)
def NH:List Sh->(List Value->Prop)->Prop
 | [],F=>F []
 |s::S,F=>s.ex λv=>NH S λV=>F (v::V)
theorem gZ.mP{l:gZ}(h:l.ex F): ∃v,F v:=by
 cases l<;>simp only[gZ.ex]at h
 all_goals first
  |(obtain⟨a,b,c,h⟩:=h;exact⟨_,h⟩)
  |(obtain⟨a,h⟩:=h;exact⟨_,h⟩)
theorem FW: ∀{l:List gZ}{F:List Value->Prop},UY l F->∃V,V.length=l.length/\F V
 | [],_,h=>⟨[],rfl,h⟩
 |_::_,_,h=>by
  obtain⟨v,h⟩:=gZ.mP h;obtain⟨V,H,h⟩:=FW h;exact⟨v::V,by simp[H],h⟩
theorem Sh.mP{s:Sh}(h:s.ex F): ∃v,F v:=by
 cases s with
 |one l=>exact gZ.mP h
 |agg L=>obtain⟨V,_,h⟩:=FW h;exact⟨_,h⟩
theorem zY: ∀{l:List Sh}{F:List Value->Prop},NH l F->∃V,F V
 | [],_,h=>⟨[],h⟩
 |_::_,_,h=>by
  obtain⟨v,h⟩:=Sh.mP h;obtain⟨V,h⟩:=zY h;exact⟨v::V,h⟩
def wM(P:Program)(t:TypeId):Option gZ:=
 match P.underlying t with
 |some .bool=>some .bool
 |some (.int k)=>some (.int k)
 |some .string=>some .str
 |some (.pointer _)=>some .ptr
 |some (.slice _)=>some .slice
 |some (.map _ _)=>some .map
 |some (.struct _)=>none
 |some (.array _ _)=>none
 |some (.tuple _)=>none
 |some _=>some .raw
 |none=>none
def vi(P:Program):Nat->TypeId->Option (List gZ)
 |0,_=>none
 |n+1,t=>
  match P.underlying t with
  |some (.struct fs)=>fs.toList.foldr (λf A=>match vi P n f.type,A with|some a,some b=>some (a++b)|_,_=>none) (some [])
  |some (.array m e)=>(vi P n e).map λl=>(List.replicate m l).flatten
  |_=>(wM P t).map ([·])
def zZ(P:Program)(t:TypeId):Bool:=
 match P.underlying t with
 |some (.struct _)=>true
 |some (.array _ _)=>true
 |_=>false
def TO(P:Program)(t:TypeId):Option Sh:=
 match zZ P t with
 |true=>(vi P 20 t).map .agg
 |false=>(wM P t).map .one
def RY(P:Program):List TypeId->Option (List Sh)
 | []=>some []
 |t::T=>match TO P t,RY P T with
  |some s,some S=>some (s::S)
  |_,_=>none
def tR(P:Program)(t:TypeId)(F:Value->Prop):Prop:=
 match P.underlying t with
 |some (.tuple T)=>(match RY P T.toList with|some l=>NH l λv=>F (.tuple v.toArray)|none=>False)
 |_=>(match TO P t with|some s=>s.ex F|none=>False)
theorem Aa(h:tR P t F): ∃v,F v:=by
 unfold tR at h;split at h
 .split at h
  .obtain⟨_,h⟩:=zY h;exact⟨_,h⟩
  .exact h.elim
 .split at h
  .exact Sh.mP h
  .exact h.elim
theorem Ab{v:Value}{K:Value->Prop}(h:tR P t λV=>v=V/\K V):K v:=by
 obtain⟨V,rfl,h⟩:=Aa h;exact h
def aM{b:Type}(p:Option b)(F:b->Prop):Prop:=
 match p with
 |some a=>F a
 |none=>False
theorem bW{b:Type}{p:Option b}{F:b->Prop}:aM p F↔ ∃a,p=some a/\F a:=by
 cases p<;>simp[aM]
@[simp] theorem ax{b:Type}{a:b}{F:b->Prop}:aM (some a) F↔F a:=fi
def Env.set(a:Env)(d:Nat)(v:Value):Env:=λt=>bif Nat.beq t d then some v else a t
def Env.ev(a:Env):Operand->Option Value
 | .tmp t=>a t
 | .const v=>some v
 | .global g=>some (.pointer (some ⟨g,0,none⟩))
 | .func f=>some (.func (.func f) #[] #[])
def Env.yL(a:Env):Operand->Value:=λx=>(a.ev x).getD undef
def Su(a:Env)(o:Oper):Bool:=o.op.operands.toList.all λx=>(a.ev x).isSome
def Fits(b:Env)(a:Operand->Value):Prop:= ∀x v,b.ev x=some v->a x=v
def kW(P:Program){b:Type}:Sem b->Option b
 | .pure a=>some a
 | .program k=>kW P (k P)
 | .mark _ k=>kW P k
 |_=>none
theorem FX{c:Type}(s:Sem c): ∀(a:c),kW P s=some a->∀(h:aj)(K:c->aj->Prop),K a h->aW P s h K:=by
 induction s with
 |pure b=>intro a e h K H;simp only[kW,bH]at e;subst e;exact H
 |program k i=>intro a e h K H;exact i P a e h K H
 |mark m k i=>intro a e h K H;exact i a e h K H
 |_=>intro a e;simp[kW]at e
theorem ud{c:Type}(s:Sem c): ∀(a:c),kW P s=some a->∀(h:aj),rd P s h=some a:=by
 induction s with
 |pure b=>intro a e h;exact e
 |program k i=>intro a e h;exact i P a e h
 |mark m k i=>intro a e h;exact i a e h
 |_=>intro a e;simp[kW]at e
def wN(P:Program){a:Type}:Sem a->Option (Obj×(Nat->Sem a))
 | .new o k=>some (o,k)
 | .program k=>wN P (k P)
 | .mark _ k=>wN P k
 |_=>none
theorem IC{a:Type}(s:Sem a): ∀(o:Obj)(f:Nat->Sem a),wN P s=some (o,f)->∀(h:aj)(K:a->aj->Prop),aW P (f h.size) (h.push o) K->aW P s h K:=by
 induction s with
 |new b k i=>intro o f e h K H;simp only[wN,bH,gT]at e;obtain⟨rfl,rfl⟩:=e;exact H
 |program k i=>intro o f e h K H;exact i P o f e h K H
 |mark m k i=>intro o f e h K H;exact i o f e h K H
 |_=>intro o f e;simp[wN]at e
theorem FY{a:Env}{c:Operand->Value}(e:Fits a c)(o:Oper)(d:Su a o=true)(f: ∀C b,o.op≠ .select C b):execOp a.yL o=execOp c o:=by
 refine execOp_congr o f λx g=> ?_
 have H:=List.all_eq_true.1 d x (by simpa using g);obtain⟨v,h⟩:=dZ.1 H;rw[e x v h];simp[Env.yL,h]
def bh(h:aj)(o:Obj)(K:Nat->aj->Prop):Prop:= ∀b H,b=h.size->H=h.push o->K b H
def aT(h:aj)(a:Addr)(v:Value)(K:aj->Prop):Prop:=
 (aY h a).isSome=true/\pR h a=false/\∀H,H=oW h a v->K H
def dO(a:Addr):List Value->Nat->aj->(aj->Prop)->Prop
 | [],_,h,K=>K h
 |v::V,i,h,K=>(match gw v with|true=>aT h (a.add i) v λH=>dO a V (i+1) H K|false=>False)
def NI(h:aj)(a:Addr):List gZ->Nat->(List Value->Prop)->Prop
 | [],_,F=>F []
 |l::L,i,F=>l.ex λv=>aY h (a.add i)=some v/\NI h a L (i+1) λV=>F (v::V)
def dP(a:Addr):List Value->Nat->aj->Prop
 | [],_,_=>True
 |v::V,i,h=>aY h (a.add i)=some v/\dP a V (i+1) h
def sE(P:Program)(t:TypeId)(h:aj)(a:Addr)(K:Value->Option (aj->Prop)->Prop):Prop:=
 match zZ P t with
 |true=>(match vi P 20 t,P.info? t with
  |some L,some i=>(match Nat.beq i.size L.length with
   |true=>NI h a L 0 λV=>K (.agg V.toArray) (some (dP a V 0))
   |false=>False)
  |_,_=>False)
 |false=>(match wM P t with
  |some l=>l.ex λv=>aY h a=some v/\K v (some λH=>aY H a=some v)
  |none=>False)
def qY(P:Program)(t:TypeId)(u v:Value):Option Bool:=
 match v with
 | .pointer none=>(match u,P.underlying t with| .pointer p,some (.pointer _)=>some p.isNone|_,_=>none)
 | .map none=>(match u,P.underlying t with| .map m,some (.map _ _)=>some m.isNone|_,_=>none)
 | .slice none _ _=>(match u,P.underlying t with| .slice p _ _,some (.slice _)=>some p.isNone|_,_=>none)
 |_=>none
def qZ(P:Program)(o:Oper)(a:Env)(K:Value->Option (aj->Prop)->Prop):Prop:=
 match Su a o with
 |true=>(match kW P (execOp a.yL o)with|some (.value v)=>K v none|_=>False)
 |false=>False
def zJ(P:Program)(t:TypeId)(u v:Value)(b:Bool):Prop:= ∀h,rd P (Op.equal t u v) h=some b
def ID(o:Oper):Bool:=
 match o.op with
 | .binOp _ _ _ (.const _) _=>true
 |_=>false
def wO(P:Program)(o:Oper)(t:TypeId)(u v:Value):Bool:=
 match v with
 | .nilIface=>ID o
 | .agg _=>(match u with| .agg _=> !P.eqGuardType P.depth t|_=>false)
 | .pointer _=>(match u with| .pointer _=> !ID o|_=>false)
 |_=>false
def IE(P:Program)(o:Oper)(O:BinOp)(t:TypeId)(u v:Value)(c:Env)(K:Value->Option (aj->Prop)->Prop):Prop:=
 match O with
 | .eql=>(match wO P o t u v with
  |true=> ∃b:Bool,zJ P t u v b/\K (.bool b) none
  |false=>(match qY P t u v with|some b=>K (.bool b) none|none=>qZ P o c K))
 | .neq=>(match wO P o t u v with
  |true=> ∃b:Bool,zJ P t u v b/\K (.bool (!b)) none
  |false=>(match qY P t u v with|some b=>K (.bool (!b)) none|none=>qZ P o c K))
 | .quo=>(match u,v with
  | .int k a,.int d b=>(match decide (k=d)with|true=>if b=0 then False else K (.int k (k.wrap (a.tdiv b))) none|false=>False)
  |_,_=>False)
 | .rem=>(match u,v with
  | .int k a,.int d b=>(match decide (k=d)with|true=>if b=0 then False else K (.int k (a.tmod b)) none|false=>False)
  |_,_=>False)
 | .shl=>(match u,v with
  | .int k a,.int _ b=>if b<0 then False else K (.int k (k.wrap (a*2 ^ min b.toNat k.bits))) none
  |_,_=>False)
 | .shr=>(match u,v with
  | .int k a,.int _ b=>if b<0 then False else K (.int k (a.fdiv (2 ^ min b.toNat k.bits))) none
  |_,_=>False)
 | .add=>(match u,v with
  | .string a,.string b=>((a.size+b.size:Nat):Int)<=IntKind.i64.max/\K (.string (a++b)) none
  |_,_=>qZ P o c K)
 |_=>qZ P o c K
def FZ(P:Program)(s:TypeId)(f:Nat):Option Nat:=
 match P.underlying s with
 |some (.struct fs)=>(match fs[f]? with
  |some a=>(match P.info? a.type with|some i=>(match Nat.beq i.size 0 with|true=>none|false=>some a.offset)|none=>none)
  |none=>none)
 |_=>none
def IF(n:Int):List Value->Nat->(Value->Prop)->Prop
 | [],_,_=>True
 |v::V,i,F=>(n=(i:Int)->F v)/\IF n V (i+1) F
def ue(a:Env):Option Operand->Option (Option Int)
 |none=>some none
 |some x=>match a.ev x with
  |some (.int _ n)=>some (some n)
  |_=>none
def Ei(len cap:Nat):Option Int->Option Int->(Nat->Nat->Prop)->Prop
 |none,none,F=>F 0 len
 |none,some b,F=>(0<=b/\b<=(cap:Int))/\F 0 b.toNat
 |some a,none,F=>(0<=a/\a<=(len:Int))/\F a.toNat len
 |some a,some b,F=>(0<=b/\b<=(cap:Int))/\(0<=a/\a<=b)/\F a.toNat b.toNat
def cT(p:ck)(m l s:Nat):ck:=if m=l then p else p.map (·.add (l*s))
def kX(m:Value)(h H:aj):Prop:=
 match m with
 | .map (some r)=>H[r]? =h[r]?
 |_=>True
def iJ(P:Program)(t:TypeId)(m k:Value)(o:Bool)(h:aj)(v:Value):Prop:=
 ∀H,kX m h H->rd P (Instr.lookup t m k o) H=some v
def QA(P:Program)(a:Array TypeId)(T:TypeId)(m:Value)(h:aj)(v:Value):Prop:=
 ∀H,kX m h H->rd P (Builtin.len_ a T #[m]) H=some v
def re(P:Program)(s d:TypeId)(v:Value)(h:aj)(b:ByteArray):Prop:=rd P (convert s d v) h=some (.string b)
def Sv:Value->Bool
 | .map _=>true
 |_=>false
def oh(P:Program)(o:Oper)(g:Env)(h:aj)(K:Value->Option (aj->Prop)->Prop):Prop:=
 match o.op with
 | .pick c a b=>(match g.ev c,g.ev a,g.ev b with
  |some (.bool q),some V,some E=>if q=true then K V none else K E none
  |_,_,_=>False)
 | .load t x=>(match g.ev x with
  |some (.pointer p)=>aM p λa=>sE P t h a K
  |_=>False)
 | .nilCheck x=>(match g.ev x with
  |some (.pointer p)=>aM p λa=>K (.pointer (some a)) none
  |_=>qZ P o g K)
 | .binOp D t x y _=>(match g.ev x,g.ev y with
  |some u,some v=>IE P o D t u v g K
  |_,_=>False)
 | .fieldAddr s x f=>(match g.ev x,FZ P s f with
  |some (.pointer p),some O=>aM p λa=>K (.pointer (some (a.add O))) none
  |_,_=>False)
 | .indexAddr t x i=>(match P.underlying t,g.ev x,g.ev i with
  |some (.slice e),some (.slice B len _),some (.int _ n)=>(match P.info? e with
   |some i=>(0<=n/\n<(len:Int))/\aM B λa=>K (.pointer (some (a.add (n.toNat*i.size)))) none
   |none=>False)
  |some (.array len e),some (.pointer B),some (.int _ n)=>(match P.info? e with
   |some i=>(0<=n/\n<(len:Int))/\aM B λa=>K (.pointer (some (a.add (n.toNat*i.size)))) none
   |none=>False)
  |_,_,_=>False)
 | .index t x i=>(match P.underlying t,g.ev x,g.ev i with
  |some .string,some (.string s),some (.int _ n)=>(0<=n/\n<(s.size:Int))/\K (.int .u8 (s.data.toList.getD n.toNat 0).toNat) none
  |some (.array len e),some (.agg C),some (.int _ n)=>(match wM P e,P.info? e,Nat.beq len C.toList.length with
   |some _,some i,true=>(match Nat.beq i.size 1 with
    |true=>(0<=n/\n<(len:Int))/\IF n C.toList 0 λv=>K v none
    |false=>False)
   |_,_,_=>False)
  |_,_,_=>False)
 | .slice t x L r w=>(match w,P.underlying t,g.ev x,ue g L,ue g r with
  |none,some (.slice e),some (.slice p len cap),some l,some H=>(match P.info? e with
   |some i=>Ei len cap l H λa b=>K (.slice (cT p cap a i.size) (b - a) (cap - a)) none
   |none=>False)
  |none,some .string,some (.string s),some l,some H=>Ei s.size s.size l H λa b=>K (.string (s.extract a b)) none
  |none,some (.array n e),some (.pointer p),some l,some H=>(match P.info? e with
   |some i=>aM p λA=>Ei n n l H λa b=>K (.slice (cT (some A) n a i.size) (b - a) (n - a)) none
   |none=>False)
  |some M,some (.slice e),some (.slice p _ cap),some none,some (some b)=>(match g.ev M,P.info? e with
   |some (.int _ m),some i=>(0<=m/\m<=(cap:Int))/\(0<=b/\b<=m)/\K (.slice (cT p m.toNat 0 i.size) b.toNat m.toNat) none
   |_,_=>False)
  |_,_,_,_,_=>False)
 | .lookup t x i z=>(match g.ev x,g.ev i with
  |some m,some k=>tR P o.type λv=>iJ P t m k z h v/\K v (some (kX m h))
  |_,_=>False)
 | .call { callee:=.builtin .len,args:=args,argTypes:=T } =>(match args.toList with
  | [x]=>(match g.ev x with
   |some m=>(match Sv m with
    |true=> ∃n:Int,QA P T o.type m h (.int .i64 n)/\K (.int .i64 n) (some (kX m h))
    |false=>qZ P o g K)
   |none=>False)
  |_=>False)
 | .convert s d x=>(match P.underlying d with
  |some .string=>(match g.ev x with
   |some v=> ∃b:ByteArray,re P s d v h b/\K (.string b) (some λj=>re P s d v j b)
   |none=>False)
  |_=>qZ P o g K)
 | .select _ _=>False
 |_=>qZ P o g K
def mB(P:Program)(o:Oper):Bool:=
 match o.op with
 | .move _| .assign _| .pick .. | .load .. | .nilCheck _| .binOp .. | .unOp .. | .makeInterface .. | .makeFunc .. | .slice .. | .fieldAddr .. | .field .. | .indexAddr .. | .index .. | .lookup .. | .extract .. | .build .. =>true
 | .convert _ d _=>(match P.underlying d with|some (.int _)=>true|some .string=>true|_=>false)
 | .call { callee:=.builtin b,.. } =>(match b with| .len| .cap| .min| .max=>true|_=>false)
 |_=>false
def pU(P:Program)(g:FuncId):Bool:=
 match P.funcs[g]? with
 |some f=>f.body.isSome && !(f.name== "runtime.NumGoroutine")
 |none=>false
def Qv(a:Env):List Operand->Option (List Value)
 | []=>some []
 |x::X=>match a.ev x,Qv a X with
  |some v,some V=>some (v::V)
  |_,_=>none
def Ac(b:Builtin)(a:Array TypeId)(T:TypeId)(v:Array Value):Option (Sem Value):=
 match b with
 | .append=>some (Builtin.append_ a T v)
 | .copy=>some (Builtin.copy_ a T v)
 | .delete=>some (Builtin.delete_ a T v)
 | .clear=>some (Builtin.clear_ a T v)
 |_=>none
def Lh(P:Program)(o:Oper)(a:Env)(h:aj)(K:fD):Prop:=
 match Su a o with
 |true=>(match wN P (execOp a.yL o)with
  |some (O,k)=>bh h O λb H=>(match kW P (k b)with|some (.value v)=>K v H|_=>False)
  |none=>False)
 |false=>False
def pV(P:Program)(o:Oper)(e:Env)(h:aj)(K:fD):Prop:=
 match o.op with
 | .alloc _=>Lh P o e h K
 | .box _ _=>Lh P o e h K
 | .buildSlice _ _ _=>Lh P o e h K
 | .makeMap _ _=>Lh P o e h K
 | .store t x y=>(match e.ev x,e.ev y with
  |some (.pointer p),some v=>aM p λa=>(match P.info? t with
   |some i=>(match Nat.beq i.size v.cells.toList.length with|true=>dO a v.cells.toList 0 h (K undef)|false=>False)
   |none=>False)
  |_,_=>False)
 | .mapUpdate t m k x=>(match e.ev m,e.ev k,e.ev x with
  |some m,some k,some x=>aW P (Instr.mapUpdate t m k x) h λ_ H=>K undef H
  |_,_,_=>False)
 | .insert t m k x=>(match e.ev m,e.ev k,e.ev x with
  |some m,some k,some x=>aW P (Instr.mapUpdate t m k x) h λ_ H=>K undef H
  |_,_,_=>False)
 | .makeSlice t l c=>(match e.ev l,e.ev c with
  |some l,some c=>aW P (Instr.makeSlice t l c) h λv H=>tR P o.type λV=>v=V/\K V H
  |_,_=>False)
 | .convert s d x=>(match e.ev x with
  |some x=>aW P (convert s d x) h λv H=>tR P o.type λV=>v=V/\K V H
  |none=>False)
 | .call { callee:=.builtin b,args:=args,argTypes:=T } =>(match Qv e args.toList with
  |some j=>(match Ac b T o.type j.toArray with
   |some s=>aW P s h λv H=>tR P o.type λV=>v=V/\K V H
   |none=>False)
  |none=>False)
 | .call { callee:=.value f,args:=args,argTypes:=_ } =>(match e.ev f,Qv e args.toList with
  |some (.func (.func g) first C),some j=>(match pU P g with
   |true=>ny P g (first.toList++j++C.toList).toArray h λv H=>tR P o.type λV=>v=V/\K V H
   |false=>False)
  |_,_=>False)
 | .range t x=>(match e.ev x with
  |some x=>aW P (Instr.range t x) h λv H=> ∃r:Nat,v=.pointer (some ⟨r,0,none⟩)/\K (.pointer (some ⟨r,0,none⟩)) H
  |none=>False)
 | .next I b=>(match e.ev I with
  |some I=>aW P (Instr.next I b o.type) h λv H=>(v=.tuple #[.bool false]/\K (.tuple #[.bool false]) H)\/∃k x:Value,v=.tuple #[.bool true,k,x]/\K (.tuple #[.bool true,k,x]) H
  |none=>False)
 | .entry I=>(match e.ev I with
  |some I=>aW P (Instr.entry I) h λv H=> ∃k x:Value,v=.tuple #[k,x]/\K (.tuple #[k,x]) H
  |none=>False)
 |_=>False

end
section
variable {P : Program} {h : aj}
theorem Ad{b:Type}(a:b)(K:b->aj->Prop):aW P (pure a:Sem b) h K↔K a h:=fi
theorem dU{b c:Type}(s:Sem b)(f:b->Sem c)(K:c->aj->Prop):aW P (s>>=f) h K↔aW P s h (λa H=>aW P (f a) H K):=FV s f h K
theorem NJ{t:TypeId}{d:TypeDesc}(H:P.underlying t=some d)(K:TypeDesc->aj->Prop):aW P (underlying t) h K↔K d h:=by
 unfold underlying;rw[dU];show aW P (match P.underlying t with|some d=>pure d|none=>stuck "no such type") h K↔_;rw[H];exact fi
theorem Ej{t:TypeId}{i:TypeInfo}(H:P.info? t=some i)(K:TypeInfo->aj->Prop):aW P (typeInfo t) h K↔K i h:=by
 unfold typeInfo;rw[dU];show aW P (match P.info? t with|some d=>pure d|none=>stuck "no such type") h K↔_;rw[H];exact fi
theorem IG{t:TypeId}{i:TypeInfo}(H:P.info? t=some i)(K:Nat->aj->Prop):aW P (sizeOf t) h K↔K i.size h:=by
 unfold sizeOf;rw[dU,Ej H];exact fi
theorem jT{b:Type}(a:b):rd P (pure a:Sem b) h=some a:=rfl
theorem bN{t:TypeId}{d:TypeDesc}(H:P.underlying t=some d):rd P (underlying t) h=some d:=by
 show rd P (match P.underlying t with|some d=>pure d|none=>stuck "no such type") h=_;rw[H];rfl
theorem iF{t:TypeId}{i:TypeInfo}(H:P.info? t=some i):rd P (typeInfo t) h=some i:=by
 show rd P (match P.info? t with|some d=>pure d|none=>stuck "no such type") h=_;rw[H];rfl
theorem iG{t:TypeId}{i:TypeInfo}(H:P.info? t=some i):rd P (sizeOf t) h=some i.size:=by
 unfold sizeOf;rw[bF _ _ _ _ (iF H)];rfl
theorem F0{t:TypeId}(H:zZ P t=true): ∃d,P.underlying t=some d/\((∃fs,d=.struct fs)\/∃n e,d=.array n e):=by
 unfold zZ at H;split at H
 .rename_i fs e;exact⟨_,e,.inl ⟨_,rfl⟩⟩
 .rename_i n E e;exact⟨_,e,.inr ⟨_,_,rfl⟩⟩
 .cases H
theorem tV{t:TypeId}(H:zZ P t=true):rd P (isAgg t) h=some true:=by
 obtain⟨d,a,b⟩:=F0 H;unfold isAgg;rw[bF _ _ _ _ (bN a)];rcases b with⟨fs,rfl⟩|⟨n,e,rfl⟩<;>rfl
theorem nA{t:TypeId}{l:gZ}(H:wM P t=some l):rd P (isAgg t) h=some false:=by
 unfold wM at H;unfold isAgg;cases a:P.underlying t with
 |none=>rw[a]at H;cases H
 |some d=>rw[bF _ _ _ _ (bN a)];rw[a]at H;cases d<;>first|rfl|cases H
end
section
variable {P : Program}
theorem Ek{a:Addr}{h:aj}{v:Value}(H:aY h a=some v):rd P (load a) h=some v:=by
 unfold load;simp only[rd,H]
theorem jk{a:Addr}: ∀(V:List Value)(i:Nat)(A:Array Value)(h:aj),dP a V i h->rd P (loadCellsFrom a i V.length A) h=some (A++V.toArray)
 | [],i,A,h,_=>by simp[loadCellsFrom,jT]
 |v::V,i,A,h,c=>by
  obtain⟨H,b⟩:=c;simp only[bf,loadCellsFrom];rw[bF _ _ _ _ (Ek H),jk V (i+1) _ h b];simp
theorem uf{h:aj}{a:Addr}: ∀(l:List gZ)(i:Nat)(F:List Value->Prop),NI h a l i F->∃V,V.length=l.length/\dP a V i h/\F V
 | [],_,_,H=>⟨[],rfl,trivial,H⟩
 |_::l,i,_,H=>by
  obtain⟨v,b,c⟩:=gZ.mP H;obtain⟨V,f,d,e⟩:=uf l (i+1) _ c;exact⟨v::V,by simp[f],⟨b,d⟩,e⟩
def oX:Option (aj->Prop)->aj->Prop
 |some S,h=>S h
 |none,_=>True
def Yv(P:Program)(s:Sem Value)(S:Option (aj->Prop))(v:Value):Prop:=
 ∀h,oX S h->rd P s h=some v
theorem Ae{t:TypeId}{h:aj}{a:Addr}{K:Value->Option (aj->Prop)->Prop}(H:sE P t h a K):
  ∃v S,K v S/\oX S h/\Yv P (loadVar t a) S v:=by
 unfold sE at H;split at H
 .rename_i j;split at H
  .rename_i L i n k;split at H
   .rename_i m;obtain⟨V,d,b,c⟩:=uf _ _ _ H;refine⟨_,_,c,b,λg f=> ?_⟩;unfold loadVar;rw[bF _ _ _ _ (tV j)];simp only[ba];rw[bF _ _ _ _ (iG k)];have e:i.size=V.length:=by rw[d];exact bY m
    unfold loadCells;rw[e,bF _ _ _ _ (jk V 0 #[] g f)];simp[jT]
   .exact H.elim
  .exact H.elim
 .split at H
  .rename_i l d;obtain⟨v,b,c⟩:=gZ.mP H;refine⟨v,_,c,b,λg f=> ?_⟩;unfold loadVar;rw[bF _ _ _ _ (nA d)];exact Ek f
  .exact H.elim
theorem rh{o:Oper}{c:Env}{a:Operand->Value}{K:Value->Option (aj->Prop)->Prop}(e:Fits c a)(f: ∀C b,o.op≠ .select C b)(h:qZ P o c K):
  ∃v,K v none/\∀H,rd P (execOp a o) H=some (.value v):=by
 unfold qZ at h;split at h
 .rename_i d;split at h
  .rename_i v g;exact⟨v,h,λH=>ud _ _ (by rw[<-FY e o d f];exact g) _⟩
  .exact h.elim
 .exact h.elim
theorem Dd{t:TypeId}{u v:Value}{b:Bool}(h:qY P t u v=some b): ∀a,rd P (Op.equal t u v) a=some b:=by
 intro a;unfold Op.equal Op.maxDepth;unfold qY at h;split at h
 .split at h
  .rename_i p e H;simp only[bH]at h;subst h;unfold Op.equalIn;rw[bF _ _ _ _ (bN H)];cases p<;>rfl
  .cases h
 .split at h
  .rename_i m k e H;simp only[bH]at h;subst h;unfold Op.equalIn;rw[bF _ _ _ _ (bN H)];cases m<;>rfl
  .cases h
 .split at h
  .rename_i p _ _ e H;simp only[bH]at h;subst h;unfold Op.equalIn;rw[bF _ _ _ _ (bN H)];cases p<;>rfl
  .cases h
 .cases h
theorem vj{o:BinOp}{t:TypeId}{x y:Operand}{u v:Value}{b:Bool}(h:qY P t u v=some b): ∀H,rd P (eqGuard o t x y u v) H=some ():=by
 intro H;unfold qY at h;unfold eqGuard;split at h
 .split at h
  .split<;>exact rfl
  .cases h
 .split at h
  .split<;>exact rfl
  .cases h
 .split at h
  .split<;>exact rfl
  .cases h
 .cases h
theorem x8{t:TypeId}{u v:Value}{b:Bool}(h:qY P t u v=some b):
  (∃p,u=.pointer p/\v=.pointer none)\/(∃m,u=.map m/\v=.map none)\/(∃p l c L C,u=.L p l c/\v=.L none L C):=by
 unfold qY at h;split at h
 .split at h
  .exact .inl ⟨_,rfl,rfl⟩
  .cases h
 .split at h
  .exact .inr (.inl ⟨_,rfl,rfl⟩)
  .cases h
 .split at h
  .exact .inr (.inr ⟨_,_,_,_,_,rfl,rfl⟩)
  .cases h
 .cases h
theorem ky{o:BinOp}{t:TypeId}{x y:Operand}{u v:Value}(h:o≠ .eql)(H:o≠ .neq):eqGuard o t x y u v=pure ():=by
 cases o<;>first|rfl|exact absurd rfl h|exact absurd rfl H
theorem mg{o:Oper}{O:BinOp}{t T:TypeId}{x y:Operand}{a:Operand->Value}{u v r:Value}{h:aj}(d:o.op=.binOp O t x y T)(e:a x=u)(f:a y=v)(H:rd P (eqGuard O t x y u v) h=some ())(b:rd P (binOp O t u v) h=some r):rd P (execOp a o) h=some (.value r):=by
 unfold execOp;rw[d];simp only[e,f];have c:rd P (do eqGuard O t x y u v;binOp O t u v) h=some r:=by rw[bF _ _ _ _ H];exact b
 rw[bF _ _ _ _ c];rfl
theorem De{o:Oper}{O:BinOp}{t T:TypeId}{x y:Operand}{e:Operand->Value}{u v:Value}(f:o.op=.binOp O t x y T)(d:O=.eql\/O=.neq)(j:e x=u)(k:e y=v)(h:wO P o t u v=true){b:Bool}(a:zJ P t u v b):
  ∀H,rd P (execOp e o) H=some (.value (.B (if O=.eql then b else !b))):=by
 intro H;have i:rd P (eqGuard O t x y u v) H=some ():=by
  unfold wO at h;split at h
  .have g: ∃c,y=.const c:=by
    unfold ID at h;rw[f]at h;cases y<;>first|exact⟨_,rfl⟩|cases h
   obtain⟨c,rfl⟩:=g;unfold eqGuard;rcases d with rfl|rfl<;>cases u<;>first|rfl|(cases x<;>rfl)
  .split at h
   .unfold eqGuard;rcases d with rfl|rfl
    .show rd P (program>>=λp=>program>>=λq=>if(!p.eqGuardType q.depth t)=true then pure ()else _) H=some ();rw[bF _ _ _ _ (show rd P program H=some P from rfl),bF _ _ _ _ (show rd P program H=some P from rfl),ag h];rfl
    .show rd P (program>>=λp=>program>>=λq=>if(!p.eqGuardType q.depth t)=true then pure ()else _) H=some ();rw[bF _ _ _ _ (show rd P program H=some P from rfl),bF _ _ _ _ (show rd P program H=some P from rfl),ag h];rfl
   .cases h
  .split at h
   .unfold eqGuard;split<;>exact rfl
   .cases h
  .cases h
 refine mg f j k i ?_;have K: ∀u v:Value,(wO P o t u v=true)->zJ P t u v b->rd P (binOp O t u v) H=some (.B (if O=.eql then b else !b)):=by
  intro u v h a;unfold wO at h;split at h
  .rcases d with rfl|rfl
   .have:binOp .eql t u .nilIface=(Op.equal t u .nilIface>>=λq=>pure (Value.bool q)):=by cases u<;>rfl
    rw[this,bF _ _ _ _ (a H)];rfl
   .have:binOp .neq t u .nilIface=(Op.equal t u .nilIface>>=λq=>pure (Value.bool (!q))):=by cases u<;>rfl
    rw[this,bF _ _ _ _ (a H)];rfl
  .split at h
   .rcases d with rfl|rfl
    .show rd P (Op.equal t _ _>>=λq=>pure (Value.bool q)) H=_;rw[bF _ _ _ _ (a H)];rfl
    .show rd P (Op.equal t _ _>>=λq=>pure (Value.bool (!q))) H=_;rw[bF _ _ _ _ (a H)];rfl
   .cases h
  .split at h
   .rcases d with rfl|rfl
    .show rd P (Op.equal t _ _>>=λq=>pure (Value.bool q)) H=_;rw[bF _ _ _ _ (a H)];rfl
    .show rd P (Op.equal t _ _>>=λq=>pure (Value.bool (!q))) H=_;rw[bF _ _ _ _ (a H)];rfl
   .cases h
  .cases h
 exact K u v h a
theorem Li{o:Oper}{O:BinOp}{t T:TypeId}{x y:Operand}{B:Env}{q:Operand->Value}{u v:Value}{K:Value->Option (aj->Prop)->Prop}(f:o.op=.binOp O t x y T)(j:Fits B q)(g:q x=u)(i:q y=v)(h:IE P o O t u v B K):
  ∃v,K v none/\∀d,rd P (execOp q o) d=some (.value v):=by
 have n: ∀C b,o.op≠ .select C b:=by rw[f];intro C b e;cases e
 unfold IE at h;split at h
 .split at h
  .rename_i z;obtain⟨b,H,r⟩:=h;exact⟨_,r,De f (.inl rfl) g i z H⟩
  .split at h
   .rename_i b H;refine⟨_,h,λd=>mg f g i (vj H d) ?_⟩;have s:binOp .eql t u v=(do pure (.B (<-Op.equal t u v))):=by
     rcases x8 H with⟨p,rfl,rfl⟩|⟨m,rfl,rfl⟩|⟨p,l,c,L,D,rfl,rfl⟩<;>rfl
    rw[s,bF _ _ _ _ (Dd H d)];rfl
   .exact rh j n h
 .split at h
  .rename_i z;obtain⟨b,H,r⟩:=h;exact⟨_,r,De f (.inr rfl) g i z H⟩
  .split at h
   .rename_i b H;refine⟨_,h,λd=>mg f g i (vj H d) ?_⟩;have s:binOp .neq t u v=(do pure (.B (!(<-Op.equal t u v)))):=by
     rcases x8 H with⟨p,rfl,rfl⟩|⟨m,rfl,rfl⟩|⟨p,l,c,L,D,rfl,rfl⟩<;>rfl
    rw[s,bF _ _ _ _ (Dd H d)];rfl
   .exact rh j n h
 .split at h
  .rename_i k a A b;split at h
   .rename_i w;obtain rfl:k=A:=aS w;split at h
    .exact h.elim
    .rename_i H;refine⟨_,h,λd=>mg f g i (by rw[ky bV bV];rfl) ?_⟩;simp only[binOp,ff,not_true,aL,Op.intDiv,H];rfl
   .exact h.elim
  .exact h.elim
 .split at h
  .rename_i k a A b;split at h
   .rename_i w;obtain rfl:k=A:=aS w;split at h
    .exact h.elim
    .rename_i H;refine⟨_,h,λd=>mg f g i (by rw[ky bV bV];rfl) ?_⟩;simp only[binOp,ff,not_true,aL,Op.intDiv,H];rfl
   .exact h.elim
  .exact h.elim
 .split at h
  .split at h
   .exact h.elim
   .rename_i H;refine⟨_,h,λd=>mg f g i (by rw[ky bV bV];rfl) ?_⟩;simp only[binOp,Op.shift,H,aL];rfl
  .exact h.elim
 .split at h
  .split at h
   .exact h.elim
   .rename_i H;refine⟨_,h,λd=>mg f g i (by rw[ky bV bV];rfl) ?_⟩;simp only[binOp,Op.shift,H,aL];rfl
  .exact h.elim
 .split at h
  .obtain⟨H,h⟩:=h;refine⟨_,h,λd=>mg f g i (by rw[ky bV bV];rfl) ?_⟩;simp only[binOp,Op.stringOp];rw[dB];rfl
  .exact rh j n h
 .exact rh j n h
theorem jK{x:Value}{k:IntKind}{n:Int}{y:Nat}{c:BoundsCode}{h:aj}(b:x=.int k n)(H:0<=n)(a:n<=(y:Int)):rd P (Instr.sliceBound x y c) h=some n.toNat:=by
 subst b;show rd P (if 0<=n/\n<=(y:Int)then _ else _) h=_;rw[ag ⟨H,a⟩];rfl
theorem oi{b:Env}{a:Operand->Value}(H:Fits b a){x:Option Operand}{n:Option Int}(h:ue b x=some n):
  (x=none/\n=none)\/∃k m,n=some m/\x.map a=some (.int k m):=by
 cases x with
 |none=>simp only[ue,bH]at h;exact .inl ⟨rfl,h.symm⟩
 |some x=>
  simp only[ue]at h;split at h
  .rename_i k m c;simp only[bH]at h;exact .inr ⟨k,m,h.symm,by simp[H _ _ c]⟩
  .cases h
theorem nB{g:Env}{f:Operand->Value}(j:Fits g f){L k:Option Operand}{l r:Option Int}(o:ue g L=some l)(p:ue g k=some r){isS:Bool}{len cap:Nat}{F:Nat->Nat->Prop}(e:Ei len cap l r F): ∃a b,F a b/\∀(h:aj),
   rd P (Instr.sliceBounds isS len cap (L.map f) (k.map f) none) h=some (a,b,cap):=by
 rcases oi j o with⟨rfl,rfl⟩|⟨K,m,rfl,E⟩<;>rcases oi j p with⟨rfl,rfl⟩|⟨s,M,rfl,i⟩
 .exact⟨0,len,e,λh=>rfl⟩
 .obtain⟨⟨H,c⟩,d⟩:=e;refine⟨0,M.toNat,d,λh=> ?_⟩;unfold Instr.sliceBounds;rw[i,bF _ _ _ _ (jT _),bF _ _ _ _ (jK rfl H c)];rfl
 .obtain⟨⟨H,c⟩,d⟩:=e;refine⟨m.toNat,len,d,λh=> ?_⟩;unfold Instr.sliceBounds;rw[E,bF _ _ _ _ (jT _)];simp only[Option.map_none];rw[bF _ _ _ _ (jT _),bF _ _ _ _ (jK rfl H c)];rfl
 .obtain⟨⟨H,c⟩,⟨n,q⟩,d⟩:=e;refine⟨m.toNat,M.toNat,d,λh=> ?_⟩;unfold Instr.sliceBounds;rw[E,i,bF _ _ _ _ (jT _),bF _ _ _ _ (jK rfl H c),bF _ _ _ _ (jK rfl n ae)];rfl
theorem Df{n:Int}: ∀(V:List Value)(i:Nat)(F:Value->Prop),IF n V i F->∀j,n=((i+j:Nat):Int)->∀v,V[j]? =some v->F v
 | [],_,_,_,j,_,v,h=>by simp at h
 |u::V,i,F,b,j,c,v,h=>by
  obtain⟨H,a⟩:=b;cases j with
  |zero=>simp only[eU,bH]at h;subst h;exact H c
  |succ j=>exact Df V (i+1) F a j ae v (by simpa using h)
theorem kY{s:Sem Value}{v:Value}{h:aj}(H:rd P s h=some v):rd P (do pure (Next.value (<-s))) h=some (.value v):=by
 rw[bF _ _ _ _ H];rfl
theorem pW{o:Oper}{X:Env}{J:Operand->Value}{h:aj}{K:Value->Option (aj->Prop)->Prop}(d:Fits X J)(H:oh P o X h K):
  ∃v S,K v S/\oX S h/\∀c,oX S c->rd P (execOp J o) c=some (.value v):=by
 have V:(∀C b,o.op≠ .select C b)->qZ P o X K->∃v S,K v S/\oX S h/\∀c,oX S c->rd P (execOp J o) c=some (.value v):=λA E=>by
  obtain⟨v,g,j⟩:=rh d A E;exact⟨v,none,g,trivial,λc _=>j c⟩
 unfold oh at H;split at H
 .rename_i k' a b f;split at H
  .rename_i j' va vb hc O r;have e:execOp J o=pure (.value (if j' then va else vb)):=by
    unfold execOp;rw[f];simp only[d _ _ hc,d _ _ O,d _ _ r];rfl
   split at H
   .rename_i R;exact⟨va,none,H,trivial,λc _=>by rw[e,ag R];rfl⟩
   .rename_i R;exact⟨vb,none,H,trivial,λc _=>by rw[e,af R];rfl⟩
  .exact H.elim
 .rename_i t x f;split at H
  .rename_i p E;obtain⟨a,rfl,H⟩:=bW.1 H;obtain⟨v,S,g,j,M⟩:=Ae H;refine⟨v,S,g,j,λc A=> ?_⟩;unfold execOp;rw[f];simp only[d _ _ E];exact kY (M c A)
  .exact H.elim
 .rename_i x f;split at H
  .rename_i p E;obtain⟨a,rfl,H⟩:=bW.1 H;refine⟨_,none,H,trivial,λc _=> ?_⟩;unfold execOp;rw[f];simp only[d _ _ E];rfl
  .exact V (by rw[f];intro C b e;cases e) H
 .rename_i op t x c' t' f;split at H
  .rename_i p' v hu U;obtain⟨v,g,j⟩:=Li f d (d _ _ hu) (d _ _ U) H;exact⟨v,none,g,trivial,λc _=>j c⟩
  .exact H.elim
 .rename_i s x m' f;split at H
  .rename_i p n' E w;obtain⟨a,rfl,H⟩:=bW.1 H;refine⟨_,none,H,trivial,λc _=> ?_⟩;unfold FZ at w;split at w
   .rename_i fs g';split at w
    .rename_i L f';split at w
     .rename_i i y;split at w
      .cases w
      .rename_i hz;simp only[bH]at w;subst w;unfold execOp;rw[f];simp only[d _ _ E];refine kY ?_;unfold Instr.fieldAt;rw[bF _ _ _ _ (bN g')];simp only[f'];show rd P (do let c'<-fieldPlace a L;pure (Value.pointer (some c'))) c=_;have h': ¬i.size=0:=λe=>by rw[e]at hz;cases hz
       have g:rd P (fieldPlace a L) c=some (a.add L.offset):=by
        unfold fieldPlace;rw[bF _ _ _ _ (iG y),af h'];rfl
       rw[bF _ _ _ _ g];rfl
     .cases w
    .cases w
   .cases w
  .exact H.elim
 .rename_i t x ix f;split at H
  .rename_i e d' len cap k n l q y;split at H
   .rename_i i u;obtain⟨⟨g,j⟩,H⟩:=H;obtain⟨a,rfl,H⟩:=bW.1 H;refine⟨_,none,H,trivial,λc _=> ?_⟩;unfold execOp;rw[f];simp only[d _ _ q,d _ _ y];refine kY ?_;unfold Instr.indexAt;show rd P (do let x<-underlying t;_) c=_;rw[bF _ _ _ _ (bN l)];simp only;rw[bF _ _ _ _ (jT _)];simp only;rw[bF _ _ _ _ (bN l)];simp only;rw[ag ⟨g,j⟩,bF _ _ _ _ (iG u)];rfl
   .exact H.elim
  .rename_i len e d' k n l q y;split at H
   .rename_i i u;obtain⟨⟨g,j⟩,H⟩:=H;obtain⟨a,rfl,H⟩:=bW.1 H;refine⟨_,none,H,trivial,λc _=> ?_⟩;unfold execOp;rw[f];simp only[d _ _ q,d _ _ y];refine kY ?_;unfold Instr.indexAt;show rd P (do let x<-underlying t;_) c=_;rw[bF _ _ _ _ (bN l)];simp only[Instr.sureAddr];rw[bF _ _ _ _ (jT _),bF _ _ _ _ (jT _)];simp only;rw[bF _ _ _ _ (bN l)];simp only;rw[ag ⟨g,j⟩,bF _ _ _ _ (iG u)];rfl
   .exact H.elim
  .exact H.elim
 .rename_i t x ix f;split at H
  .rename_i s k n l q y;obtain⟨⟨g,j⟩,H⟩:=H;refine⟨_,none,H,trivial,λc _=> ?_⟩;unfold execOp;rw[f];simp only[d _ _ q,d _ _ y];refine kY ?_;unfold Instr.index;show rd P (do let x<-underlying t;_) c=_;rw[bF _ _ _ _ (bN l)];have G:n.toNat<s.size:=ae
   have Q:s[n.toNat]? =some (s.data.toList.getD n.toNat 0):=by
    rw[getElem?_pos s n.toNat G];congr 1
    rw[bk,ai (by simpa using G)];rfl
   simp only[ag g,Q];rfl
  .rename_i len e C k n l q y;split at H
   .rename_i i r u a';split at H
    .rename_i T;obtain⟨⟨g,j⟩,H⟩:=H;have a':=bY a';have T:=bY T;have G:n.toNat<C.toList.length:=ae
     have z:=Df _ _ _ H n.toNat ae _ (ai G);refine⟨_,none,z,trivial,λc _=> ?_⟩;unfold execOp;rw[f];simp only[d _ _ q,d _ _ y];refine kY ?_;unfold Instr.index;show rd P (do let x<-underlying t;_) c=_;rw[bF _ _ _ _ (bN l)];simp only;rw[ag ⟨g,j⟩,bF _ _ _ _ (iG u)];unfold part;rw[bF _ _ _ _ (nA r)];simp only[aq,aL];rw[T,cp];have Q:C[n.toNat]? =some (C.toList[n.toNat]'G):=bV
     rw[Q];rfl
    .exact H.elim
   .exact H.elim
  .exact H.elim
 .rename_i t x lo y mx f;split at H
  .rename_i e p len cap b' Z l q D B;split at H
   .rename_i i u;obtain⟨a,b,z,r⟩:=nB (P:=P) (isS:=true) d D B H;refine⟨_,none,z,trivial,λc _=> ?_⟩;unfold execOp;rw[f];simp only[d _ _ q,Option.map_none];refine kY ?_;unfold Instr.sliceAt;rw[bF _ _ _ _ (bN l)];unfold Instr.slice;simp only;rw[bF _ _ _ _ (bN l)];simp only;rw[bF _ _ _ _ (r _)];simp only;rw[bF _ _ _ _ (iG u)];rfl
   .exact H.elim
  .rename_i s b' Z l q D B;obtain⟨a,b,z,r⟩:=nB (P:=P) (isS:=false) d D B H;refine⟨_,none,z,trivial,λc _=> ?_⟩;unfold execOp;rw[f];simp only[d _ _ q,Option.map_none];refine kY ?_;unfold Instr.sliceAt;rw[bF _ _ _ _ (bN l)];unfold Instr.slice;simp only;rw[bF _ _ _ _ (bN l)];simp only[Option.isSome_none,aq,aL];rw[bF _ _ _ _ (r _)];rfl
  .rename_i n e p b' Z l q D B;split at H
   .rename_i i u;obtain⟨ad,rfl,H⟩:=bW.1 H;obtain⟨a,b,z,r⟩:=nB (P:=P) (isS:=false) d D B H;refine⟨_,none,z,trivial,λc _=> ?_⟩;unfold execOp;rw[f];simp only[d _ _ q,Option.map_none];refine kY ?_;unfold Instr.sliceAt;rw[bF _ _ _ _ (bN l)];simp only[Instr.sureAddr];rw[bF _ _ _ _ (jT _),bF _ _ _ _ (r _)];simp only;rw[bF _ _ _ _ (iG u)];show some _=some _;unfold cT;congr 2
    split<;>rfl
   .exact H.elim
  .rename_i mo e p len cap b l q D B;split at H
   .rename_i k m i I u;obtain⟨⟨g,j⟩,⟨M,h4⟩,z⟩:=H;rcases oi d D with⟨rfl,_⟩|⟨_,_,F,_⟩
    case inr=>cases F
    rcases oi d B with⟨_,F⟩|⟨k2,m2,F,e2⟩
    .cases F
    cases F;refine⟨_,none,z,trivial,λc _=> ?_⟩;unfold execOp;rw[f];simp only[d _ _ q,d _ _ I,e2,Option.map_none,du];refine kY ?_;unfold Instr.sliceAt;rw[bF _ _ _ _ (bN l)];unfold Instr.slice;simp only;rw[bF _ _ _ _ (bN l)];simp only;have r:rd P (Instr.sliceBounds true len cap none (some (.int k2 b)) (some (.int k m))) c=some (0,b.toNat,m.toNat):=by
     unfold Instr.sliceBounds;simp only;rw[bF _ _ _ _ (jK rfl g j),bF _ _ _ _ (jK rfl M ae)];rfl
    rw[bF _ _ _ _ r];simp only;rw[bF _ _ _ _ (iG u)];rfl
   .exact H.elim
  .exact H.elim
 .rename_i t x i ok f;split at H
  .rename_i m k I hk;obtain⟨v,g,j⟩:=Aa H;refine⟨v,_,j,?_,λc A=> ?_⟩
   .show kX m h h;unfold kX;split<;>trivial
   .unfold execOp;rw[f];simp only[d _ _ I,d _ _ hk];exact kY (g c A)
  .exact H.elim
 .rename_i args o' f;split at H
  .rename_i x e';split at H
   .rename_i m I;split at H
    .obtain⟨n,g,j⟩:=H;refine⟨_,_,j,?_,λc A=> ?_⟩
     .show kX m h h;unfold kX;split<;>trivial
     .have O:args= #[x]:=by rw[<-Array.toArray_toList (xs:=args),e']
      unfold execOp;rw[f];simp only[resolve,O];rw[bF _ _ _ _ (jT _)];simp only[invoke,builtin,List.map_toArray,cu,List.map_nil,d _ _ I];exact kY (g c A)
    .exact V (by rw[f];intro C b e;cases e) H
   .exact H.elim
  .exact H.elim
 .rename_i s l' x f;split at H
  .split at H
   .rename_i v U;obtain⟨b,g,j⟩:=H;refine⟨_,_,j,g,λc A=> ?_⟩;unfold execOp;rw[f];simp only[d _ _ U];exact kY A
   .exact H.elim
  .exact V (by rw[f];intro C b e;cases e) H
 .exact H.elim
 .rename_i i';exact V i' H
def mh(p:ck)(h H:aj):Prop:= ∀x,p=some x->x.block<h.size->H[x.block]? =h[x.block]?
def Kp(h H:aj)(l:List (ck)):Prop:= ∀p∈l,mh p h H
def El(a:Env)(o:Oper):Option (ck):=
 match o.op with
 | .load _ x=>(match a.ev x with
  |some (.pointer p)=>some p
  |_=>some none)
 |_=>none
theorem rj{h:aj}{a:Addr}{v:Value}(H:aY h a=some v):a.block<h.size:=by
 unfold aY at H;split at H
 .rename_i b;exact(Array.getElem?_eq_some_iff.1 b).1
 .cases H
theorem mh.cell{h c:aj}{a b:Addr}{v:Value}(e:mh (some a) h c)(d:b.block=a.block)(H:aY h b=some v):aY c b=some v:=by
 have:=e a rfl (by rw[<-d];exact rj H);rw[<-d]at this;unfold aY at H⊢;rw[this];exact H
theorem mh.trans{p:ck}{h c d:aj}(a:mh p h c)(b:mh p c d):mh p h d:=λx e f=>by
 have H:=a x e f;rw[b x e ?_,H];have:=Array.getElem?_eq_getElem f;rw[this]at H;exact(Array.getElem?_eq_some_iff.1 H).1
theorem mh.held{h H:aj}{a:Addr}(c:mh (some a) h H): ∀(v:List Value)(i:Nat),dP a v i h->dP a v i H
 | [],_,_=>trivial
 |_::v,i,b=>⟨c.cell (by unfold Addr.add;split<;>rfl) b.1,mh.held c v (i+1) b.2⟩
theorem Ck{t:TypeId}{h:aj}{a:Addr}{K:Value->Option (aj->Prop)->Prop}(H:sE P t h a K):
  ∃v S,K v (some S)/\S h/\(∀b,mh (some a) h b->S b)/\Yv P (loadVar t a) (some S) v:=by
 have n:=H;unfold sE at H;split at H
 .rename_i j;split at H
  .rename_i L i o k;split at H
   .rename_i m;obtain⟨V,g,d,f⟩:=uf _ _ _ H;refine⟨_,_,f,d,λb c=>c.held _ _ d,λb c=> ?_⟩;unfold loadVar;rw[bF _ _ _ _ (tV j)];simp only[ba];rw[bF _ _ _ _ (iG k)];have e:i.size=V.length:=by rw[g];exact bY m
    unfold loadCells;rw[e,bF _ _ _ _ (jk V 0 #[] b c)];simp[jT]
   .exact H.elim
  .exact H.elim
 .split at H
  .rename_i l g;obtain⟨v,d,f⟩:=gZ.mP H;refine⟨v,_,f,d,λb c=>c.cell rfl d,λb c=> ?_⟩;unfold loadVar;rw[bF _ _ _ _ (nA g)];exact Ek c
  .exact H.elim
theorem Em{o:Oper}{d:Env}{g:Operand->Value}{h:aj}{K:Value->Option (aj->Prop)->Prop}{p:ck}(m:Fits d g)(c:El d o=some p)(b:oh P o d h K):
  ∃v S,K v (some S)/\S h/\(∀H,mh p h H->S H)/\∀H,S H->rd P (execOp g o) H=some (.value v):=by
 unfold El at c;unfold oh at b;split at c
 .rename_i t x e;simp only[e]at b;split at b
  .rename_i q f;simp only[f,bH]at c;subst c;obtain⟨a,rfl,b⟩:=bW.1 b;obtain⟨v,S,i,j,l,k⟩:=Ck b;refine⟨v,S,i,j,l,λH n=> ?_⟩;unfold execOp;rw[e];simp only[m _ _ f];exact kY (k H n)
  .exact b.elim
 .cases c
theorem Ks{b:Env}{a:Operand->Value}(H:Fits b a): ∀(X:List Operand)(V:List Value),Qv b X=some V->X.map a=V
 | [],V,h=>by simp only[Qv,bH]at h;exact h
 |x::X,V,h=>by
  simp only[Qv]at h;split at h
  .rename_i v e c d;simp only[bH]at h;rw[cu,H _ _ c,Ks H X e d,h]
  .cases h
theorem vm{b:Env}{a:Operand->Value}(h:Fits b a){args:Array Operand}{v:List Value}(H:Qv b args.toList=some v):args.map a=v.toArray:=by
 have:=Ks h _ _ H;rw[<-this];apply Array.ext'
 simp
theorem zK{o:Oper}{d:Env}{c:Operand->Value}{h:aj}{K:fD}(f:Fits d c)(i: ∀C b,o.op≠ .select C b)(H:Lh P o d h K):qX P o c h K:=by
 unfold Lh at H;split at H
 .rename_i e;split at H
  .rename_i O k g;have a:=H _ _ rfl rfl;dsimp only at a;split at a
   .rename_i v j;refine IC _ O k (by rw[<-FY f o e i];exact g) _ _ ?_;exact FX _ _ j _ _ a
   .exact a.elim
  .exact H.elim
 .exact H.elim
theorem Dg{a:Addr}: ∀(V:List Value)(i:Nat)(h:aj)(K:aj->Prop),dO a V i h K->aW P (storeCells a V i) h (λ_ b=>K b)
 | [],_,_,_,H=>H
 |v::V,i,h,K,H=>by
  simp only[dO]at H;split at H
  .rename_i c;obtain⟨d,e,f⟩:=H;simp only[storeCells];rw[dU];exact⟨c,d,e,Dg V (i+1) _ K (f _ rfl)⟩
  .exact H.elim
theorem wP{s:Sem Value}{h:aj}{t:TypeId}{K:fD}(a:aW P s h λv H=>tR P t λV=>v=V/\K V H):aW P s h K:=
 kN _ _ (λ_ _ b=>Ab b) a
theorem wQ{o:Oper}{L:Env}{J:Operand->Value}{h:aj}{K:fD}(n:Fits L J)(H:pV P o L h K):qX P o J h K:=by
 unfold pV at H;split at H
 .rename_i j;exact zK n (by rw[j];intro C b e;cases e) H
 .rename_i j;exact zK n (by rw[j];intro C b e;cases e) H
 .rename_i j;exact zK n (by rw[j];intro C b e;cases e) H
 .rename_i j;exact zK n (by rw[j];intro C b e;cases e) H
 .rename_i t x y j;split at H
  .rename_i p v q U;obtain⟨a,rfl,H⟩:=bW.1 H;split at H
   .rename_i i R;split at H
    .rename_i B;unfold qX execOp;rw[j];simp only[n _ _ q,n _ _ U];rw[dU];unfold Instr.storeAt;rw[dU];show aW P (storeVar t a v) h _;unfold storeVar;rw[dU,IG R];have e:v.cells.size=i.size:=by have:=bY B;simpa using this.symm
     simp only[e,ff,not_true,aL];exact Dg _ _ _ _ H
    .exact H.elim
   .exact H.elim
  .exact H.elim
 .rename_i t m k x j;split at H
  .rename_i m k x A z q;unfold qX execOp;rw[j];simp only[n _ _ A,n _ _ z,n _ _ q];rw[dU];exact H
  .exact H.elim
 .rename_i t m k x j;split at H
  .rename_i m k x A z q;unfold qX execOp;rw[j];simp only[n _ _ A,n _ _ z,n _ _ q];rw[dU];exact H
  .exact H.elim
 .rename_i t l c j;split at H
  .rename_i l c S M;unfold qX execOp;rw[j];simp only[n _ _ S,n _ _ M];rw[dU];exact wP H
  .exact H.elim
 .rename_i s d x j;split at H
  .rename_i x q;unfold qX execOp;rw[j];simp only[n _ _ q];rw[dU];exact wP H
  .exact H.elim
 .rename_i b args X j;split at H
  .rename_i V D;split at H
   .rename_i s G;unfold qX execOp;rw[j];simp only[resolve,vm n D];rw[dU,Ad];simp only[invoke];cases b<;>simp only[Ac]at G<;>first|cases G|skip
    all_goals (simp only[builtin];rw[dU];exact wP H)
   .exact H.elim
  .exact H.elim
 .rename_i f args X j;split at H
  .rename_i g first E V Q D;split at H
   .rename_i u;unfold qX execOp;rw[j];simp only[resolve,vm n D,n _ _ Q,Deferred.ofValue];rw[dU,Ad];simp only[invoke,callFunc];rw[dU];unfold pU at u;split at u
    .rename_i F O;simp only[aU,Bool.not_eq_true']at u;show aW P (match P.funcs[g]? with|none=>_|some F=>_) h _;rw[O];have B:F.body.isNone=false:=by cases T:F.body<;>simp[T]at u⊢
     simp only[u.2,B,aq,aL];have e:(first++V.toArray++E)=(first.toList++V++E.toList).toArray:=by
      apply Array.ext'
      simp
     rw[e];exact H.mono λv w hr=>Ab hr
    .cases u
   .exact H.elim
  .exact H.elim
 .rename_i t x j;split at H
  .rename_i x q;unfold qX execOp;rw[j];simp only[n _ _ q];rw[dU];exact kN _ _ (λv w ⟨r,e,hr⟩=>by subst e;exact hr) H
  .exact H.elim
 .rename_i I b j;split at H
  .rename_i I q;unfold qX execOp;rw[j];simp only[n _ _ q];rw[dU];refine kN _ _ (λv w hr=> ?_) H;rcases hr with⟨e,hr⟩|hr
   .subst e;exact hr
   .obtain⟨k,x,e,hr⟩:=hr;subst e;exact hr
  .exact H.elim
 .rename_i I j;split at H
  .rename_i I q;unfold qX execOp;rw[j];simp only[n _ _ q];rw[dU];refine kN _ _ (λv w hr=> ?_) H;obtain⟨k,x,e,hr⟩:=hr;subst e;exact hr
  .exact H.elim
 .exact H.elim
end
section
variable {X y:Type} {v:Value} {F:Value->Prop} {t n:Nat} {h:aj} {a b a0:Act} {x:Array Value} {D:Option Nat} {w:List Nat} {O:Array Oper} {o:Oper} {P:Program} {w0:World}
def gZ.T(X:Type):gZ->Type
 | .int _=>Int->X
 | .bool=>Bool->X
 | .str=>ByteArray->X
 | .ptr=>ck->X
 | .slice=>ck->Nat->Nat->X
 | .map=>Option Nat->X
 | .raw=>Value->X
def sF(X:Type):List gZ->Type
 | []=>X
 |l::L=>l.T (sF X L)
def Sh.T(X:Type):Sh->Type
 | .one l=>l.T X
 | .agg L=>sF X L
def uh(X:Type):List (Nat×Sh)->Type
 | []=>X
 |s::L=>s.2.T (uh X L)
def gZ.lam{X:Type}:(l:gZ)->(Value->X)->l.T X
 | .int k,F=>λn:Int=>F (.int k n)
 | .bool,F=>λb:Bool=>F (.bool b)
 | .str,F=>λs:ByteArray=>F (.string s)
 | .ptr,F=>λp:ck=>F (.pointer p)
 | .slice,F=>λ(p:ck) (l c:Nat)=>F (.slice p l c)
 | .map,F=>λm:Option Nat=>F (.map m)
 | .raw,F=>λv:Value=>F v
def Sw{X:Type}:(L:List gZ)->(List Value->X)->sF X L
 | [],F=>F []
 |l::L,F=>l.lam λv=>Sw L λV=>F (v::V)
def Sh.lam{X:Type}:(s:Sh)->(Value->X)->s.T X
 | .one l,F=>l.lam F
 | .agg L,F=>Sw L λV=>F (.agg V.toArray)
def QB{X:Type}:(L:List (Nat×Sh))->(Env->X)->Env->uh X L
 | [],F,c=>F c
 |(t,s)::L,F,c=>s.lam λv=>QB L F (c.set t v)
def gZ.ap{X y:Type}(d:y):(l:gZ)->l.T X->Value->(X->y)->y
 | .int k,f,.int e n,K=>(match decide (k=e)with|true=>K (f n)|false=>d)
 | .bool,f,.bool b,K=>K (f b)
 | .str,f,.string s,K=>K (f s)
 | .ptr,f,.pointer p,K=>K (f p)
 | .slice,f,.slice p l c,K=>K (f p l c)
 | .map,f,.map m,K=>K (f m)
 | .raw,f,v,K=>K (f v)
 |_,_,_,_=>d
def TP{X y:Type}(d:y):(L:List gZ)->sF X L->List Value->(X->y)->y
 | [],f, [],K=>K f
 |l::L,f,v::V,K=>l.ap d f v λg=>TP d L g V K
 |_,_,_,_=>d
def Sh.ap{X y:Type}(d:y):(s:Sh)->s.T X->Value->(X->y)->y
 | .one l,f,v,K=>l.ap d f v K
 | .agg L,f,.agg V,K=>TP d L f V.toList K
 |_,_,_,_=>d
def oL{X y:Type}(d:y):(L:List (Nat×Sh))->uh X L->Env->(X->y)->y
 | [],f,_,K=>K f
 |(t,s)::L,f,c,K=>(match c t with|some v=>s.ap d f v λg=>oL d L g c K|none=>d)
def gZ.all:gZ->(Value->Prop)->Prop
 | .int k,F=> ∀n:Int,F (.int k n)
 | .bool,F=> ∀b:Bool,F (.bool b)
 | .str,F=> ∀s:ByteArray,F (.string s)
 | .ptr,F=> ∀p:ck,F (.pointer p)
 | .slice,F=> ∀(p:ck)(l c:Nat),F (.slice p l c)
 | .map,F=> ∀m:Option Nat,F (.map m)
 | .raw,F=> ∀v:Value,F v
def Sx:List gZ->(List Value->Prop)->Prop
 | [],F=>F []
 |l::L,F=>l.all λv=>Sx L λV=>F (v::V)
def Sh.all:Sh->(Value->Prop)->Prop
 | .one l,F=>l.all F
 | .agg L,F=>Sx L λV=>F (.agg V.toArray)
def NK:List (Nat×Sh)->(Env->Prop)->Env->Prop
 | [],F,c=>F c
 |(t,s)::L,F,c=>s.all λv=>NK L F (c.set t v)
theorem gZ.NL{d:y}{l:gZ}{f:l.T X}{K:X->y}:l.ap d f v K=d\/((∃g:X,l.ap d f v K=K g)/\∀(Z:Type)(F:Value->Z),∀(w:Type)(e:w)(J:Z->w),l.ap e (l.lam F) v J=J (F v)):=by
 cases l<;>cases v<;>first
  |exact .inl rfl
  |exact .inr ⟨⟨_,rfl⟩,λ_ _ _ _ _=>rfl⟩
  |skip
 rename_i k c n;by_cases H:k=c
 .subst H;refine .inr ⟨⟨f n,?_⟩,λZ F w e J=> ?_⟩<;>simp[gZ.ap,gZ.lam]
 .exact .inl (by simp[gZ.ap,H])
theorem gZ.Kt{l:gZ}{f:l.T X}{K:X->Prop}(h:l.ap False f v K):
  (∃g:X,K g)/\(∀(Z w:Type)(F:Value->Z)(e:w)(J:Z->w),l.ap e (l.lam F) v J=J (F v)):=by
 rcases gZ.NL (d:=False) (l:=l) (f:=f) (v:=v) (K:=K)with H|⟨⟨g,H⟩,c⟩
 .rw[H]at h;exact h.elim
 .exact⟨⟨g,by rw[H]at h;exact h⟩,λZ w F e J=>c Z F w e J⟩
theorem gZ.Eo{l:gZ}(h:l.all F){f:l.T X}{K:X->Prop}(H:l.ap False f v K):F v:=by
 cases l<;>cases v<;>first
  |exact H.elim
  |exact h _
  |exact h _ _ _
  |skip
 rename_i k d n;by_cases c:k=d
 .subst c;exact h n
 .simp[gZ.ap,c]at H
theorem gZ.Ep{l:gZ}{F:Value->X}{K:X->Prop}(h:l.ap False (l.lam F) v K):K (F v):=by
 have:=(gZ.Kt h).2 X Prop F False K;rw[this]at h;exact h
variable {l:gZ}
theorem Ku {X : Type} : ∀ {ls : List gZ} {F : List Value → X} {vs : List Value} {K : X → Prop}, TP False ls (Sw ls F) vs K → K (F vs)
  | [], _, [], _, h => h
  | [], _, _ :: _, _, h => h.elim
  | _ :: _, _, [], _, h => h.elim
  | _ :: ls, F, v :: vs, _, h => Ku (ls := ls) (F := λus => F (v :: us)) (vs := vs) (gZ.Ep h)
theorem Sh.Ep{s:Sh}{F:Value->X}{K:X->Prop}(h:s.ap False (s.lam F) v K):K (F v):=by
 cases s with
 |one l=>exact gZ.Ep h
 |agg L=>
  cases v<;>first|exact h.elim|skip
  rename_i c;have:=Ku (F:=λV=>F (.agg V.toArray)) h;simpa using this
theorem Kv {X : Type} : ∀ {ls : List gZ} {F : List Value → Prop} {f : sF X ls} {vs : List Value} {K : X → Prop}, Sx ls F → TP False ls f vs K → F vs
  | [], _, _, [], _, h, _ => h
  | [], _, _, _ :: _, _, _, h => h.elim
  | _ :: _, _, _, [], _, _, h => h.elim
  | l :: ls, F, f, v :: vs, K, h, ha => by
    obtain ⟨⟨g, hg⟩, _⟩ := gZ.Kt ha
    have h1 := gZ.Eo h ha
    exact Kv (ls := ls) (F := λus => F (v :: us)) (vs := vs) h1 hg
theorem Sh.Eo{s:Sh}(h:s.all F){f:s.T X}{K:X->Prop}(H:s.ap False f v K):F v:=by
 cases s with
 |one l=>exact gZ.Eo h H
 |agg L=>
  cases v<;>first|exact H.elim|skip
  have:=Kv h H;simpa using this
theorem Ga : ∀{L:List gZ}{f:sF X L}{V:List Value}{K:X->Prop},TP False L f V K->∃g,K g
 | [],f, [],_,h=>⟨f,h⟩
 | [],_,_::_,_,h=>h.elim
 |_::_,_, [],_,h=>h.elim
 |_::_,_,_::_,_,h=>by
  obtain⟨⟨g,H⟩,_⟩:=gZ.Kt h;exact Ga H
theorem Sh.Kw{s:Sh}{f:s.T X}{K:X->Prop}(h:s.ap False f v K): ∃g,K g:=by
 cases s with
 |one l=>exact(gZ.Kt h).1
 |agg L=>cases v<;>first|exact h.elim|exact Ga h
variable {s:Sh} {T:List (Nat×Sh)}
def Sub(d e c:Env):Prop:= ∀t v,d t=some v->c t=some v\/e t=some v
theorem Env.uc(c:Env)(d t:Nat)(v:Value):c.set d v t=if t=d then some v else c t:=by
 unfold Env.set;by_cases h:t=d
 .subst h;simp
 .have:Nat.beq t d=false:=by cases H:Nat.beq t d;rfl;exact absurd (bY H) h
  simp[this,h]
variable {K:Env->aj->Prop}
theorem Sub.set{d f c:Env}(H:c t=some v)(h:Sub d (f.set t v) c):Sub d f c:=λu i g=>by
 rcases h u i g with h1|h1
 .exact .inl h1
 .rw[Env.uc]at h1;split at h1
  .rename_i e;subst e;exact .inl (H.trans h1)
  .exact .inr h1
theorem Af{G:Env->aj->Prop}{e:Env}: ∀(L:List (Nat×Sh))(c:Env),oL False L (QB (X:=aj->Prop) L G c) e (λf=>f h)->∃d,G d h/\Sub d c e
 | [],c,H=>⟨c,H,λ_ _ h=> .inr h⟩
 |(t,s)::L,c,H=>by
  simp only[oL]at H;split at H
  .rename_i v k;have g:=Sh.Ep H;obtain⟨d,i,j⟩:=Af L _ g;exact⟨d,i,j.set k⟩
  .exact H.elim
theorem zL{F : Env -> Prop}{p : Env}{K : X -> Prop}: ∀(L : List (Nat × Sh))(d : Env)(f : uh X L), NK L F d -> oL False L f p K ->
    ∃ c, F c /\ Sub c d p /\ ((∀ t s, (t, s) ∈ L -> c t = p t) /\ ∀ t, (∀ s, (t, s) ∉ L) -> c t = d t)
  | [], d, _, h, _ => ⟨d, h, λ_ _ h => .inr h, (λ_ _ h => by cases h), λ_ _ => rfl⟩
  | (t, s) :: L, d, f, h, H => by
    simp only [oL] at H
    split at H
    · rename_i v r
      have z := Sh.Eo h H
      obtain ⟨g, E⟩ := Sh.Kw H
      obtain ⟨c, A, B, C, q⟩ := zL L _ g z E
      refine ⟨c, A, B.set r, λu m j => ?_, λu j => ?_⟩
      · by_cases i : ∃ S, (u, S) ∈ L
        · obtain ⟨S, i⟩ := i; exact C u S i
        · have G : u = t := by
            rcases bK.1 j with e | e
            · exact (Prod.mk.inj e).1
            · exact absurd ⟨m, e⟩ i
          subst G
          rw [q u (λS k => i ⟨S, k⟩), Env.uc, ag rfl, r]
      · rw [q u (λm k => j m (cv _ k)), Env.uc, af]
        intro e; subst e; exact j s dj
    · exact H.elim
theorem oY{d:y}{c e:Env}{K:X->y}: ∀(L:List (Nat×Sh))(f:uh X L),(∀t s,(t,s)∈L->c t=e t)->oL d L f c K=oL d L f e K
 | [],_,_=>rfl
 |(t,s)::L,f,h=>by
  simp only[oL];rw[h t s dj];have:(λg=>oL d L g c K)=(λg=>oL d L g e K):=funext λg=>oY L g (λt s H=>h t s (cv _ H))
  rw[this]
theorem pX{c : Env}{K : X -> Prop}: ∀(L : List (Nat × Sh))(f : uh X L), oL False L f c K -> ∀ t s, (t, s) ∈ L -> ∃ v, c t = some v
  | [], _, _, _, _, h => by cases h
  | (t, s) :: L, f, h, u, S, d => by
    simp only [oL] at h
    split at h
    · rename_i v i
      rcases bK.1 d with e | e
      · exact ⟨v, by rw [(Prod.mk.inj e).1]; exact i⟩
      · obtain ⟨g, H⟩ := Sh.Kw h
        exact pX L g H u S e
    · exact h.elim
structure Rel (n:Nat) (σ:Env) (a:Act):Prop where
 defers:a.defers= []
 size:a.tmps.size=n
 at_: ∀t v,σ t=some v->a.tmps.getD t undef=v
theorem Rel.fits{d:Env}(h:Rel n d a):Fits d a.eval:=by
 intro e v H;cases e with
 |tmp t=>exact h.at_ t v H
 |const c=>simpa[Env.ev,Act.eval]using H
 |global g=>simpa[Env.ev,Act.eval]using H
 |func f=>simpa[Env.ev,Act.eval]using H
def jg(n:Nat)(c:Env)(D:Option Nat)(v:Value)(K:Env->Prop):Prop:=
 match D with
 |none=>K c
 |some d=>(match Nat.blt d n with|true=>K (c.set d v)|false=>False)
theorem NM{d:Nat}(H:d<x.size):(x.setIfInBounds d v).getD t undef=if t=d then v else x.getD t undef:=by
 by_cases h:t=d
 .subst h;simp[H]
 .simp[h,fJ h]
theorem ju{g:Env}{K:Env->Prop}(H:Rel n g a)(h:jg n g D v K): ∃i,Rel n i (a.put D v)/\K i:=by
 unfold jg at h;split at h
 .exact⟨g,H,h⟩
 .rename_i d;split at h
  .rename_i f;have f:d<a.tmps.size:=by rw[H.size];exact(Nat.blt_eq▸f)
   refine⟨_,⟨H.defers,by simp[Act.put,H.size],λt u c=> ?_⟩,h⟩;simp only[Act.put];rw[NM f];rw[Env.uc]at c;split
   .rename_i e;rw[ag e]at c;exact aZ c
   .rename_i e;rw[af e]at c;exact H.at_ t u c
  .exact h.elim
def fS(w:List Nat)(a A:Act):Prop:= ∀t,t∉w->A.tmps.getD t undef=a.tmps.getD t undef
theorem fS.refl(w:List Nat)(a:Act):fS w a a:=λ_ _=>rfl
theorem fS.trans{c:Act}(h:fS w a b)(d:fS w b c):fS w a c:=λt H=>(d t H).trans (h t H)
theorem fS.mono{c:List Nat}(h:fS w a b)(e: ∀t,t∈w->t∈c):fS c a b:=λt d=>h t (λH=>d (e t H))
theorem fS.put(h: ∀d,D=some d->d∈w):fS w a (a.put D v):=by
 intro t c;cases D with
 |none=>rfl
 |some d=>
  have H:t≠d:=λe=>c (e▸h d rfl)
  simp[Act.put,fJ H]
def jO(O : Array Oper)(o : Oper)(c : Env)(r skip : Env -> Prop): Prop :=
  match o.guard with
  | none => r c
  | some (j, p) => (match (O[j]?).bind (·.dst) with
    | some g => (match c g with
      | some (.bool b) => if b = true then (match p with | true => r (c.set g (.bool true)) | false => skip (c.set g (.bool true)))
          else (match p with | true => skip (c.set g (.bool false)) | false => r (c.set g (.bool false)))
      | some (.tuple _) => skip c
      | _ => False)
    | none => False)
theorem getD_some(h:x.getD t undef=v)(c:v≠undef):x[t]? =some v:=by
 rw[fC]at h;cases H:x[t]? with
 |none=>rw[H]at h;exact absurd h.symm c
 |some u=>rw[H]at h;exact bQ some h
theorem kf{i:Env}{r skip:Env->Prop}(d:Rel n i a)(h:jO O o i r skip):
  (Region.wanted o (yielded O a.tmps)=true/\∃k,Rel n k a/\r k)\/(Region.wanted o (yielded O a.tmps)=false/\∃k,Rel n k a/\skip k):=by
 unfold jO at h;split at h
 .rename_i c;exact .inl ⟨by simp[Region.wanted,c],i,d,h⟩
 .rename_i j G c;split at h
  .rename_i g q;split at h
   .rename_i b z;have H:=d.at_ g _ z;have C:=getD_some H (by unfold undef;intro e;cases e);have f:yielded O a.tmps j=some b:=by simp[yielded,q,C]
    have oW:Rel n (i.set g (.B b)) a:=⟨d.defers,d.size,λt u m=>by
     rw[Env.uc]at m;split at m
     .rename_i e;subst e;rw[H];exact aZ m
     .exact d.at_ t u m⟩
    split at h
    .rename_i A;subst A;split at h
     .exact .inl ⟨by simp[Region.wanted,c,f],_,oW,h⟩
     .exact .inr ⟨by simp[Region.wanted,c,f],_,oW,h⟩
    .rename_i p;have p:b=false:=by simpa using p
     subst p;split at h
     .exact .inr ⟨by simp[Region.wanted,c,f],_,oW,h⟩
     .exact .inl ⟨by simp[Region.wanted,c,f],_,oW,h⟩
   .rename_i I E;have H:=d.at_ g _ E;have f:yielded O a.tmps j=none:=by
     simp only[yielded,q,Option.bind_some];rw[fC]at H;cases B:a.tmps[g]? with
     |none=>rfl
     |some u=>rw[B]at H;simp at H;subst H;rfl
    exact .inr ⟨by simp[Region.wanted,c,f],i,d,h⟩
   .exact h.elim
  .exact h.elim
def x9(P:Program)(o:Oper)(c:Env)(h:aj)(K:fD):Prop:=
 match mB P o with
 |true=>oh P o c h λv _=>K v h
 |false=>pV P o c h K
theorem oZ{e:Env}{d:Operand->Value}{K:fD}(c:Fits e d)(H:x9 P o e h K):qX P o d h K:=by
 unfold x9 at H;split at H
 .obtain⟨v,S,f,g,i⟩:=pW c H;exact NG _ _ _ (i h g) _ f
 .exact wQ c H
def Ag(P:Program)(n:Nat)(O:Array Oper):List Oper->Env->aj->(Env->aj->Prop)->Prop
 | [],c,h,K=>K c h
 |o::r,c,h,K=>jO O o c
   (λc=>x9 P o c h λv H=>jg n c o.dst v λd=>Ag P n O r d H K)
   (λc=>jg n c o.dst undef λd=>Ag P n O r d h K)
def cR(O:Array Oper):List Nat:=O.toList.filterMap (·.dst)
theorem fh{i:Nat}(c:O[i]? =some o): ∀d,o.dst=some d->d∈cR O:=λd H=>by
 unfold cR;rw[List.mem_filterMap];exact⟨o,by simpa using Array.mem_of_getElem? c,H⟩
def yM(n:Nat)(a0:Act)(w0:World)(w:List Nat)(K:Env->aj->Prop):Exit->Act->World->Prop:=
 λe a c=>e=.normal/\∃d,Rel n d a/\K d c.heap/\fX w0 c/\fS w a0 a
theorem wR : ∀(r:List Oper)(k:Nat)(d:Env)(a:Act)(c:World),
  (∀j,r[j]? =O[k+j]?)->Rel n d a->fX w0 c->fS (cR O) a0 a->Ag P n O r d c.heap K->wpOps P O (yM n a0 w0 (cR O) K) (List.range' k r.length) a c
 | [],k,d,a,c,_,m,e,f,h=>⟨rfl,d,m,h,e,f⟩
 |o::r,k,d,a,c,z,m,e,f,h=>by
  have g:O[k]? =some o:=by have:=z 0;simpa using this.symm
  have A: ∀j,r[j]? =O[k+1+j]? :=λj=>by have:=z (j+1);simpa[Nat.add_assoc,Nat.add_comm 1 j]using this
  simp only[bf,List.range'_succ,wpOps,g];simp only[Ag]at h;rcases kf m h with⟨q,G,H,h⟩|⟨q,G,H,h⟩
  .rw[ag q];refine .inl ((oZ H.fits h).wp ?_);intro v E B C;obtain⟨u,p,i⟩:=ju H B;exact wR r (k+1) u _ E A p (e.trans C) (f.trans (fS.put (fh g))) i
  .rw[af (by rw[q];simp)];obtain⟨u,p,i⟩:=ju H h;exact wR r (k+1) u _ c A p e (f.trans (fS.put (fh g))) i
def NN:List (Nat×Sh)->Nat->Option Sh
 | [],_=>none
 |(t,s)::L,d=>(match Nat.beq t d with|true=>some s|false=>NN L d)
def Gb(T:List (Nat×Sh))(D:Option Nat)(v:Value)(F:Value->Prop):Prop:=
 match D with
 |none=>F v
 |some d=>(match NN T d with|some s=>s.ex λV=>v=V/\F V|none=>F v)
theorem rk(h:Gb T D v F):F v:=by
 unfold Gb at h;split at h
 .exact h
 .split at h
  .obtain⟨V,e,h⟩:=Sh.mP h;subst e;exact h
  .exact h
def vo(P:Program)(n:Nat)(O:Array Oper)(T:List (Nat×Sh)):List Oper->Env->aj->(Env->aj->Prop)->Prop
 | [],c,h,K=>K c h
 |o::r,c,h,K=>jO O o c
   (λc=>x9 P o c h λv H=>Gb T o.dst v λv=>jg n c o.dst v λd=>vo P n O T r d H K)
   (λc=>jg n c o.dst undef λd=>vo P n O T r d h K)
theorem ui : ∀(r:List Oper)(k:Nat)(d:Env)(a:Act)(c:World),
  (∀j,r[j]? =O[k+j]?)->Rel n d a->fX w0 c->fS (cR O) a0 a->vo P n O T r d c.heap K->wpOps P O (yM n a0 w0 (cR O) K) (List.range' k r.length) a c
 | [],k,d,a,c,_,m,e,f,h=>⟨rfl,d,m,h,e,f⟩
 |o::r,k,d,a,c,z,m,e,f,h=>by
  have g:O[k]? =some o:=by have:=z 0;simpa using this.symm
  have A: ∀j,r[j]? =O[k+1+j]? :=λj=>by have:=z (j+1);simpa[Nat.add_assoc,Nat.add_comm 1 j]using this
  simp only[bf,List.range'_succ,wpOps,g];simp only[vo]at h;rcases kf m h with⟨q,G,H,h⟩|⟨q,G,H,h⟩
  .rw[ag q];refine .inl ((oZ H.fits h).wp ?_);intro v E B C;obtain⟨u,p,i⟩:=ju H (rk B);exact ui r (k+1) u _ E A p (e.trans C) (f.trans (fS.put (fh g))) i
  .rw[af (by rw[q];simp)];obtain⟨u,p,i⟩:=ju H h;exact ui r (k+1) u _ c A p e (f.trans (fS.put (fh g))) i

end
def waits(o:Oper)(i:Nat):Bool:=o.after.toList.any λe=>Region.binds .any e && Nat.beq e.on i
def gn(o:Oper)(G:List (Nat×(aj->Prop))):List (Nat×(aj->Prop)):=G.filter λg=> !waits o g.1
theorem jL{o:Oper}{G:List (Nat×(aj->Prop))}{g:Nat×(aj->Prop)}(h:g∈gn o G):g∈G:=(bj.1 h).1
def iK(P:Program)(O:Array Oper)(Q:Exit->Act->World->Prop):Nat->List (Nat×(aj->Prop))->Array Bool->Act->World->Prop
 |0,_,l,a,w=>Region.ready .any O l= []/\Q .normal a w
 |fuel+1,G,l,a,w=>
  (Region.ready .any O l= []->Q .normal a w)/\
  ∀j∈Region.ready .any O l,∀o,O[j]? =some o->wpOp P O Q j (λA b=>(∀g∈gn o G,g.2 b.heap)/\iK P O Q fuel (gn o G) (l.setIfInBounds j true) A b) a w
section
variable {P : Program} {o : Array Oper} {Q : Exit → Act → World → Prop}
theorem pY: ∀(fuel:Nat)(G:List (Nat×(aj->Prop)))(l:Array Bool)(a:Act)(w:World),iK P o Q fuel G l a w->wpAny P .any o Q fuel l a w
 |0,_,_,_,_,h=>h
 |fuel+1,G,l,a,w,h=>⟨h.1,λi H=>by
   obtain⟨_,O,c,_⟩:=mem_ready.1 H;exact wpOp_mono (λA d b=>pY fuel _ _ A d b.2) (h.2 i H O c)⟩
theorem lT: ∀(fuel:Nat)(G b:List (Nat×(aj->Prop)))(l:Array Bool)(a:Act)(w:World),(∀g∈b,g∈G)->iK P o Q fuel G l a w->iK P o Q fuel b l a w
 |0,_,_,_,_,_,_,h=>h
 |fuel+1,G,b,l,a,w,j,h=>⟨h.1,λi e O f=>by
   have d: ∀g∈gn O b,g∈gn O G:=λg H=>bj.2 ⟨j g (jL H),(bj.1 H).2⟩
   exact wpOp_mono (λA k c=>⟨λg H=>c.1 g (d g H),lT fuel _ _ _ A k d c.2⟩) (h.2 i e O f)⟩
theorem oj(i:Nat): ∀(fuel:Nat)(G:List (Nat×(aj->Prop)))(l:Array Bool)(a:Act)(w:World),iK P o Q fuel G l a w->iK P o Q fuel ((i,λ_=>True)::G) l a w
 |0,_,_,_,_,h=>h
 |fuel+1,G,l,a,w,h=>⟨h.1,λj k O m=>by
   refine wpOp_mono (λA f d=>⟨λg c=> ?_,?_⟩) (h.2 j k O m)
   .obtain⟨H,b⟩:=bj.1 c;rcases bK.1 H with e|e
    .rw[e];trivial
    .exact d.1 g (bj.2 ⟨e,b⟩)
   .have:=oj i fuel _ _ A f d.2;refine lT fuel _ _ _ A f (λg c=> ?_) this;obtain⟨H,b⟩:=bj.1 c;rcases bK.1 H with e|e
    .rw[e];exact dj
    .exact cv _ (bj.2 ⟨e,b⟩)⟩
theorem Gc{O:Oper}{i:Nat}(h: ∀e∈O.after,Region.binds .any e=true->e.on≠i):waits O i=false:=by
 unfold waits;rw[List.any_eq_false];intro e a;simp only[aU,not_and];intro H b;exact h e (by simpa using a) H (bY b)
theorem pZ{i:Nat}{p:Oper}{v:Value}{S:aj->Prop}(A:o[i]? =some p)(L: ∀(j:Nat) (q:Oper) C b,o[j]? =some q->q.op≠ .select C b)(V: ∀c a w,Q (.panic c) (a.put p.dst v) w->Q (.panic c) a w):
  ∀(F:Nat)(G:List (Nat×(aj->Prop)))(l:Array Bool)(a:Act)(w:World),
   (∀j O,o[j]? =some O->j≠i->l.getD j true=false->(∀e∈O.after,Region.binds .any e=true->e.on≠i)->p.apart o O=true)->
   i∈Region.ready .any o l->YieldsIf P o (λw=>S w.heap) p v a->S w.heap->(∀g∈G,g.2 w.heap)->
   iK P o Q F ((i,S)::G) (l.setIfInBounds i true) (a.put p.dst v) w->iK P o Q (F+1) G l a w:=by
 intro F;induction F with
 |zero=>
  intro G l a w _ n u y x H;refine⟨λh=>(by rw[h]at n;cases n),λj t q B=> ?_⟩;by_cases m:j=i
  .subst m;exact u.wpOp A y ⟨λg d=>x g (jL d),H⟩
  .have:=ready_mono t m;rw[H.1]at this;cases this
 |succ F ih=>
  intro G l a w E n u y x H;refine⟨λh=>(by rw[h]at n;cases n),λj t q B=> ?_⟩;by_cases m:j=i
  .subst m;refine u.wpOp A y ⟨λg d=>x g (jL d),lT _ _ _ _ _ _ (λg d=>cv _ (jL d)) H⟩
  .have f:=H.2 j (ready_mono t m) q B;obtain⟨J,O,r,X⟩:=mem_ready.1 t;obtain rfl:O=q:=by rw[B]at r;exact(aZ r).symm
   have K: ∀e∈O.after,Region.binds .any e=true->e.on≠i:=λe he Z a'=>by
    have f:=X e he Z;have D:=(mem_ready.1 n).1;rw[a']at f;rcases Nat.lt_or_ge i l.size with h'|h'
    .simp[h']at D f;rw[D]at f;cases f
    .simp[Array.getElem?_eq_none h']at f
   have c':gn O ((i,S)::G)=(i,S)::gn O G:=by
    unfold gn;rw[cC,ag];simp[Gc K]
   rw[c']at f;have T:=wpOp_putIf r (E j O r m J K) (λC b=>L i p C b A) (λC b=>L j O C b r) V u f;have b': ∀k s,o[k]? =some s->k≠i->(l.setIfInBounds j true).getD k true=false->
     (∀e∈s.after,Region.binds .any e=true->e.on≠i)->p.apart o s=true:=λk s hk d' M e'=>by
    refine E k s hk d' ?_ e';by_cases I:j=k
    .subst I;exact J
    .rw[getD_set_ne true I]at M;exact M
   refine wpOp_mono (λR w' U=> ?_) T;obtain⟨g',z,f'⟩:=U;refine⟨λg d=>z g (cv _ d),?_⟩;refine ih (gn O G) (l.setIfInBounds j true) R w' b' (ready_mono n (fJ m)) g' (z _ dj) (λg d=>z g (cv _ d)) ?_;rw[Array.setIfInBounds_comm _ _ m];exact f'
end
inductive qM where
 |done
 |op (i:Nat) (p:qM)
 |alts (q:qM)
 |fork (i:Nat) (p q:qM)
 |gM
def sV:qM->Nat->Bool
 | .done,n=>Nat.beq n 0
 | .op _ p,n+1=>sV p n
 | .alts q,n+1=>sV q (n+1)
 | .fork _ p q,n+1=>sV p n && sV q (n+1)
 | .gM,_=>true
 |_,_=>false
def jd(P:Program)(O:Array Oper):qM->Option (List Nat)->Array Bool->Bool
 | .done,none,l=>(Region.ready .any O l).isEmpty
 | .op i r,none,l=>
  (match O[i]? with
   |some o=>(match mB P o with
    |true=>(Region.ready .any O l).contains i && Region.free .any O l i
    |false=>(match Region.ready .any O l with| [j]=>Nat.beq i j|_=>false))
   |none=>false) && jd P O r none (l.setIfInBounds i true)
 | .alts q,none,l=>(match Region.ready .any O l with| []=>false|j::J=>jd P O q (some (j::J)) l)
 | .fork i p q,some R,l=>(match O[i]? with
   |some o=> !mB P o
   |none=>false) && jd P O p none (l.setIfInBounds i true) && jd P O q (some (R.filter λj=> !Nat.beq i j)) l
 | .gM,some R,_=>R.isEmpty
 |_,_,_=>false
def rq(h:aj)(K:Prop):List (Nat×(aj->Prop))->Prop
 | []=>K
 |g::G=>g.2 h/\rq h K G
theorem vp{h:aj}{K:Prop}: ∀{G:List (Nat×(aj->Prop))},rq h K G->(∀g∈G,g.2 h)/\K
 | [],H=>⟨(λ_ a=>by cases a),H⟩
 |_::_,H=>by
  obtain⟨b,c⟩:=vp H.2;refine⟨λd a=> ?_,c⟩;rcases bK.1 a with e|e
  .rw[e];exact H.1
  .exact b _ e
def vq(i:Nat)(S:Option (aj->Prop))(G:List (Nat×(aj->Prop))):List (Nat×(aj->Prop)):=
 match S with
 |some S=>(i,S)::G
 |none=>G
def jh(P:Program)(n:Nat)(O:Array Oper):qM->List (Nat×(aj->Prop))->Env->aj->(Env->aj->Prop)->Prop
 | .done,_,a,h,K=>K a h
 | .op i r,G,a,h,K=>(match O[i]? with
  |some o=>jO O o a
    (λa=>(match mB P o with
     |true=>oh P o a h λv S=>jg n a o.dst v λb=>jh P n O r (vq i S G) b h K
     |false=>pV P o a h λv H=>rq H (jg n a o.dst v λb=>jh P n O r (gn o G) b H K) (gn o G)))
    (λa=>jg n a o.dst undef λb=>jh P n O r G b h K)
  |none=>False)
 | .alts q,G,a,h,K=>jh P n O q G a h K
 | .fork i r q,G,a,h,K=>(match O[i]? with
  |some o=>jO O o a
    (λa=>pV P o a h λv H=>rq H (jg n a o.dst v λb=>jh P n O r (gn o G) b H K) (gn o G))
    (λa=>jg n a o.dst undef λb=>jh P n O r G b h K)
  |none=>False)/\jh P n O q G a h K
 | .gM,_,_,_,_=>True
theorem Ah{P:Program}{n:Nat}{O:Array Oper}{K:Env->aj->Prop}{A:Act}{c:World}{r:qM}{i m:Nat}{o:Oper}{L:Array Bool}{G:List (Nat×(aj->Prop))}{b:Env}{a:Act}{w:World}(I: ∀G b a w,Rel n b a->fX c w->fS (cR O) A a->(∀g∈G,g.2 w.heap)->jh P n O r G b w.heap K->iK P O (yM n A c (cR O) K) m G (L.setIfInBounds i true) a w)(H:O[i]? =some o)(D:Rel n b a)(x:fX c w)(y:fS (cR O) A a)(u: ∀g∈G,g.2 w.heap)(h:jO O o b (λb=>pV P o b w.heap λv s=>rq s (jg n b o.dst v λd=>jh P n O r (gn o G) d s K) (gn o G)) (λb=>jg n b o.dst undef λd=>jh P n O r G d w.heap K)):
  wpOp P O (yM n A c (cR O) K) i (λz f=>(∀g∈gn o G,g.2 f.heap)/\iK P O (yM n A c (cR O) K) m (gn o G) (L.setIfInBounds i true) z f) a w:=by
 rcases kf D h with⟨p,d,e,h⟩|⟨p,d,e,F⟩
 .unfold wpOp;simp only[H,p,ba];refine .inl ((wQ e.fits h).wp ?_);intro v f C E;obtain⟨t,B⟩:=vp C;obtain⟨q,l,j⟩:=ju e B;exact⟨t,I _ q _ f l (x.trans E) (y.trans (fS.put (fh H))) t j⟩
 .unfold wpOp;simp only[H,p,aq,aL];obtain⟨q,l,j⟩:=ju e F;have I:=I G q _ w l x (y.trans (fS.put (fh H))) u j;exact⟨λg k=>u g (jL k),lT _ _ _ _ _ _ (λg k=>jL k) I⟩
theorem Er{P:Program}{n:Nat}{O:Array Oper}{K:Env->aj->Prop}{a0:Act}{w0:World}(c':Region.noSelect O=true)(u:qM):
  (∀(m:Nat)(l:Array Bool)(G:List (Nat×(aj->Prop)))(b:Env)(a:Act)(w:World),sV u m=true->
   jd P O u none l=true->Rel n b a->fX w0 w->fS (cR O) a0 a->(∀g∈G,g.2 w.heap)->jh P n O u G b w.heap K->
   iK P O (yM n a0 w0 (cR O) K) m G l a w)/\
  (∀(m:Nat)(R:List Nat)(l:Array Bool)(G:List (Nat×(aj->Prop)))(b:Env)(a:Act)(w:World),sV u (m+1)=true->
   jd P O u (some R) l=true->Rel n b a->fX w0 w->fS (cR O) a0 a->(∀g∈G,g.2 w.heap)->jh P n O u G b w.heap K->
   ∀j∈R,∀o,O[j]? =some o->wpOp P O (yM n a0 w0 (cR O) K) j (λZ J=>(∀g∈gn o G,g.2 J.heap)/\iK P O (yM n a0 w0 (cR O) K) m (gn o G) (l.setIfInBounds j true) Z J) a w):=by
 induction u with
 |done=>
  refine⟨λm l G b a w d H k p q f h=> ?_,λm R l G b a w d H=>by cases H⟩;obtain rfl:m=0:=bY d;simp only[jd,List.isEmpty_iff]at H;exact⟨H,rfl,b,k,h,p,q⟩
 |gM=>
  refine⟨λm l G b a w d H=>(by cases H),λm R l G b a w d H k p q f h j t=> ?_⟩;simp only[jd,List.isEmpty_iff]at H;subst H;cases t
 |alts g' I=>
  refine⟨λm l G b a w d H k p q f h=> ?_,λm R l G b a w d H=>by cases H⟩;cases m with
  |zero=>cases d
  |succ m=>
   simp only[jd]at H;split at H
   .cases H
   .rename_i j js A;refine⟨(λe=>by rw[A]at e;cases e),λj' Q o r=> ?_⟩;rw[A]at Q;exact I.2 m _ l G b a w d H k p q f h j' Q o r
 |fork i V g' e' f'=>
  refine⟨λm l G b a w d H=>(by cases H),λm R l G b a w d H k p q f h j t o r=> ?_⟩;simp only[jd,aU]at H;obtain⟨⟨s,C⟩,b'⟩:=H;simp only[sV,aU]at d;simp only[jh]at h;by_cases T:i=j
  .subst T;have h:=h.1;rw[r]at h;exact Ah (λG b a w k p q f h=>e'.1 m _ G b a w d.1 C k p q f h) r k p q f h
  .refine f'.2 m _ l G b a w d.2 b' k p q f h.2 j (bj.2 ⟨t,?_⟩) o r;have:Nat.beq i j=false:=by cases hb:Nat.beq i j;rfl;exact absurd (bY hb) T
   simp[this]
 |op i V I=>
  refine⟨λm l G b a w d H k p q f h=> ?_,λm R l G b a w d H=>by cases H⟩;cases m with
  |zero=>cases d
  |succ m=>
   simp only[jd,aU]at H;obtain⟨s,C⟩:=H;simp only[jh]at h;split at h
   .rename_i o r;simp only[r]at s;have hQ: ∀v,∀c a w,yM n a0 w0 (cR O) K (.panic c) (a.put o.dst v) w->yM n a0 w0 (cR O) K (.panic c) a w:=λv c a w hq=>by cases hq.1
    have X: ∀(v:Value)(S:Option (aj->Prop))(z:Env),mB P o=true->Rel n z (a.put o.dst v)->YieldsIf P O (λw=>oX S w.heap) o v a->oX S w.heap->
      jh P n O V (vq i S G) z w.heap K->iK P O (yM n a0 w0 (cR O) K) (m+1) G l a w:=λv S z y x hy B hd=>by
     rw[y]at s;simp only[aU]at s;have a': ∀g∈vq i S G,g.2 w.heap:=by
      intro g M;cases S with
      |none=>exact f g M
      |some S=>
       rcases bK.1 M with e|e
       .rw[e];exact B
       .exact f g e
     have I:=I.1 m _ (vq i S G) z (a.put o.dst v) w d C x p (q.trans (fS.put (fh r))) a' hd;refine pZ (S:=oX S) r (Region.noSelect_spec c') (hQ v) m G l a w (Region.free_spec r s.2) (by simpa using s.1) hy B f ?_;cases S with
     |none=>exact oj i _ _ _ _ _ I
     |some S=>exact I
    cases y:mB P o with
    |true=>
     rcases kf k h with⟨F,z,x,h⟩|⟨F,z,x,d'⟩
     .rw[y]at h;obtain⟨v,S,h1,h2,h3⟩:=pW x.fits h;obtain⟨L,E,D⟩:=ju x h1;exact X v S L y E (.inl ⟨F,λJ B=>qW _ _ _ (h3 _ B)⟩) h2 D
     .obtain⟨L,E,D⟩:=ju x d';exact X undef none L y E (.inr ⟨F,rfl⟩) trivial D
    |false=>
     rw[y]at s h;simp only at s h;have A:Region.ready .any O l= [i]:=by
      split at s
      .rename_i j t;rw[t,bY s]
      .cases s
     refine⟨(λe=>by rw[A]at e;cases e),λj t o' U=> ?_⟩;rw[A]at t;obtain rfl:j=i:=by simpa using t
     obtain rfl:o'=o:=by rw[r]at U;exact(aZ U).symm
     exact Ah (λG b a w k p q f h=>I.1 m _ G b a w d C k p q f h) r k p q f h
   .exact h.elim
def ga:Nat->Nat->qM->qM
 |0,_,p=>p
 |k+1,i,p=> .op i (ga k (i+1) p)
def tW(o:Oper)(B:List (Nat×ck)):List (Nat×ck):=B.filter λg=> !waits o g.1
def UJ(h H:aj)(K:Prop):List (Nat×ck)->Prop
 | []=>K
 |B=>Kp h H (B.map (·.2))/\K
theorem Sy{h a:aj}{K:Prop}{B:List (Nat×ck)}(H:UJ h a K B):(∀g∈B,mh g.2 h a)/\K:=by
 cases B with
 |nil=>exact⟨(λ_ d=>by cases d),H⟩
 |cons b B=>exact⟨λg c=>H.1 g.2 (bp.2 ⟨g,c,rfl⟩),H.2⟩
def ie(P:Program)(n:Nat)(O:Array Oper):qM->List (Nat×(aj->Prop))->List (Nat×ck)->Env->aj->(Env->aj->Prop)->Prop
 | .done,_,_,a,h,K=>K a h
 | .op i r,G,B,a,h,K=>(match O[i]? with
  |some o=>jO O o a
    (λa=>(match mB P o with
     |true=>oh P o a h λv S=>jg n a o.dst v λb=>(match El a o with
      |some p=>ie P n O r G ((i,p)::B) b h K
      |none=>ie P n O r (vq i S G) B b h K)
     |false=>pV P o a h λv H=>rq H (UJ h H (jg n a o.dst v λb=>ie P n O r (gn o G) (tW o B) b H K) (tW o B)) (gn o G)))
    (λa=>jg n a o.dst undef λb=>ie P n O r G B b h K)
  |none=>False)
 | .alts q,G,B,a,h,K=>ie P n O q G B a h K
 | .fork i r q,G,B,a,h,K=>(match O[i]? with
  |some o=>jO O o a
    (λa=>pV P o a h λv H=>rq H (UJ h H (jg n a o.dst v λb=>ie P n O r (gn o G) (tW o B) b H K) (tW o B)) (gn o G))
    (λa=>jg n a o.dst undef λb=>ie P n O r G B b h K)
  |none=>False)/\ie P n O q G B a h K
 | .gM,_,_,_,_,_=>True
def GB(F G:List (Nat×(aj->Prop)))(B:List (Nat×ck))(h:aj):Prop:= ∀f∈F,f∈G\/∃p,(f.1,p)∈B/\∀H,mh p h H->f.2 H
theorem GB.step{F G:List (Nat×(aj->Prop))}{B:List (Nat×ck)}{h b:aj}{o:Oper}(H:GB F G B h)(l: ∀g∈gn o G,g.2 b)(m: ∀g∈tW o B,mh g.2 h b):(∀f∈gn o F,f.2 b)/\GB (gn o F) (gn o G) (tW o B) b:=by
 have K: ∀f∈gn o F,f.2 b/\(f∈gn o G\/∃p,(f.1,p)∈tW o B/\∀d,mh p b d->f.2 d):=λf c=>by
  obtain⟨n,e⟩:=bj.1 c;rcases H f n with a|⟨p,r,i⟩
  .have:f∈gn o G:=bj.2 ⟨a,e⟩;exact⟨l f this,.inl this⟩
  .have j:(f.1,p)∈tW o B:=bj.2 ⟨r,e⟩;have k:=m _ j;exact⟨i _ k,.inr ⟨p,j,λd q=>i _ (mh.trans k q)⟩⟩
 exact⟨λf c=>(K f c).1,λf c=>(K f c).2⟩
theorem ya{P:Program}{n:Nat}{O:Array Oper}{K:Env->aj->Prop}{A:Act}{c:World}{R:qM}{i m:Nat}{o:Oper}{L:Array Bool}{F G:List (Nat×(aj->Prop))}{B:List (Nat×ck)}{b:Env}{a:Act}{w:World}(I: ∀F G B b a w,Rel n b a->fX c w->fS (cR O) A a->(∀g∈F,g.2 w.heap)->GB F G B w.heap->ie P n O R G B b w.heap K->iK P O (yM n A c (cR O) K) m F (L.setIfInBounds i true) a w)(e:O[i]? =some o)(E:Rel n b a)(x:fX c w)(y:fS (cR O) A a)(t: ∀g∈F,g.2 w.heap)(u:GB F G B w.heap)(h:jO O o b (λb=>pV P o b w.heap λv k=>rq k (UJ w.heap k (jg n b o.dst v λd=>ie P n O R (gn o G) (tW o B) d k K) (tW o B)) (gn o G)) (λb=>jg n b o.dst undef λd=>ie P n O R G B d w.heap K)):
  wpOp P O (yM n A c (cR O) K) i (λz j=>(∀g∈gn o F,g.2 j.heap)/\iK P O (yM n A c (cR O) K) m (gn o F) (L.setIfInBounds i true) z j) a w:=by
 rcases kf E h with⟨r,d,f,h⟩|⟨r,d,f,M⟩
 .unfold wpOp;simp only[e,r,ba];refine .inl ((wQ f.fits h).wp ?_);intro v j D J;obtain⟨C,l⟩:=vp D;obtain⟨l,H⟩:=Sy l;obtain⟨s,q,H⟩:=ju f H;obtain⟨Q,S⟩:=u.step C l;exact⟨Q,I _ _ _ s _ j q (x.trans J) (y.trans (fS.put (fh e))) Q S H⟩
 .unfold wpOp;simp only[e,r,aq,aL];obtain⟨s,q,H⟩:=ju f M;have I:=I F G B s _ w q x (y.trans (fS.put (fh e))) t u H;exact⟨λg p=>t g (jL p),lT _ _ _ _ _ _ (λg p=>jL p) I⟩
theorem Cn{P:Program}{n:Nat}{O:Array Oper}{K:Env->aj->Prop}{a0:Act}{w0:World}(p':Region.noSelect O=true)(A:qM):
  (∀(m:Nat)(l:Array Bool)(F G:List (Nat×(aj->Prop)))(B:List (Nat×ck))(b:Env)(a:Act)(w:World),sV A m=true->
   jd P O A none l=true->Rel n b a->fX w0 w->fS (cR O) a0 a->(∀g∈F,g.2 w.heap)->GB F G B w.heap->ie P n O A G B b w.heap K->
   iK P O (yM n a0 w0 (cR O) K) m F l a w)/\
  (∀(m:Nat)(R:List Nat)(l:Array Bool)(F G:List (Nat×(aj->Prop)))(B:List (Nat×ck))(b:Env)(a:Act)(w:World),sV A (m+1)=true->
   jd P O A (some R) l=true->Rel n b a->fX w0 w->fS (cR O) a0 a->(∀g∈F,g.2 w.heap)->GB F G B w.heap->ie P n O A G B b w.heap K->
   ∀j∈R,∀o,O[j]? =some o->wpOp P O (yM n a0 w0 (cR O) K) j (λa' Z=>(∀g∈gn o F,g.2 Z.heap)/\iK P O (yM n a0 w0 (cR O) K) m (gn o F) (l.setIfInBounds j true) a' Z) a w):=by
 induction A with
 |done=>
  refine⟨λm l F G B b a w d H q r s p k h=> ?_,λm R l F G B b a w d H=>by cases H⟩;obtain rfl:m=0:=bY d;simp only[jd,List.isEmpty_iff]at H;exact⟨H,rfl,b,q,h,r,s⟩
 |gM=>
  refine⟨λm l F G B b a w d H=>(by cases H),λm R l F G B b a w d H q r s p k h j x=> ?_⟩;simp only[jd,List.isEmpty_iff]at H;subst H;cases x
 |alts c' I=>
  refine⟨λm l F G B b a w d H q r s p k h=> ?_,λm R l F G B b a w d H=>by cases H⟩;cases m with
  |zero=>cases d
  |succ m=>
   simp only[jd]at H;split at H
   .cases H
   .rename_i j js L;refine⟨(λe=>by rw[L]at e;cases e),λj' e' o t=> ?_⟩;rw[L]at e';exact I.2 m _ l F G B b a w d H q r s p k h j' e' o t
 |fork i i' c' r' s'=>
  refine⟨λm l F G B b a w d H=>(by cases H),λm R l F G B b a w d H q r s p k h j x o t=> ?_⟩;simp only[jd,aU]at H;obtain⟨⟨u,V⟩,n'⟩:=H;simp only[sV,aU]at d;simp only[ie]at h;by_cases f':i=j
  .subst f';have h:=h.1;rw[t]at h;exact ya (λF G B b a w q r s p k h=>r'.1 m _ F G B b a w d.1 V q r s p k h) t q r s p k h
  .refine s'.2 m _ l F G B b a w d.2 n' q r s p k h.2 j (bj.2 ⟨x,?_⟩) o t;have:Nat.beq i j=false:=by cases hb:Nat.beq i j;rfl;exact absurd (bY hb) f'
   simp[this]
 |op i i' I=>
  refine⟨λm l F G B b a w d H q r s p k h=> ?_,λm R l F G B b a w d H=>by cases H⟩;cases m with
  |zero=>cases d
  |succ m=>
   simp only[jd,aU]at H;obtain⟨u,V⟩:=H;simp only[ie]at h;split at h
   .rename_i o t;simp only[t]at u;have hQ: ∀v,∀c a w,yM n a0 w0 (cR O) K (.panic c) (a.put o.dst v) w->yM n a0 w0 (cR O) K (.panic c) a w:=λv c a w hq=>by cases hq.1
    have d': ∀(v:Value)(S:Option (aj->Prop))(C:Env)(T:List (Nat×(aj->Prop)))(Q:List (Nat×ck)),mB P o=true->Rel n C (a.put o.dst v)->YieldsIf P O (λw=>oX S w.heap) o v a->oX S w.heap->GB (vq i S F) T Q w.heap->
      ie P n O i' T Q C w.heap K->iK P O (yM n a0 w0 (cR O) K) (m+1) F l a w:=λv S C T Q z y hy D m' hd=>by
     rw[z]at u;simp only[aU]at u;have l': ∀g∈vq i S F,g.2 w.heap:=by
      intro g hg;cases S with
      |none=>exact p g hg
      |some S=>
       rcases bK.1 hg with e|e
       .rw[e];exact D
       .exact p g e
     have I:=I.1 m _ (vq i S F) T Q C (a.put o.dst v) w d V y r (s.trans (fS.put (fh t))) l' m' hd;refine pZ (S:=oX S) t (Region.noSelect_spec p') (hQ v) m F l a w (Region.free_spec t u.2) (by simpa using u.1) hy D p ?_;cases S with
     |none=>exact oj i _ _ _ _ _ I
     |some S=>exact I
    have gb: ∀(S:Option (aj->Prop)),GB (vq i S F) (vq i S G) B w.heap:=λS f U=>by
     cases S with
     |none=>exact k f U
     |some S=>
      rcases bK.1 U with e|e
      .exact .inl (e▸dj)
      .exact(k f e).imp (cv _) id
    cases z:mB P o with
    |true=>
     rcases kf q h with⟨X,C,y,h⟩|⟨X,C,y,q'⟩
     .rw[z]at h;dsimp only at h;cases b':El C o with
      |some h'=>
       rw[b']at h;obtain⟨v,S,h1,h2,E,h3⟩:=Em y.fits b' h;obtain⟨M,J,k'⟩:=ju y h1;refine d' v (some S) M G ((i,h')::B) z J (.inl ⟨X,λZ D=>qW _ _ _ (h3 _ D)⟩) h2 (λf U=> ?_) k';rcases bK.1 U with e|e
       .exact .inr ⟨h',e▸dj,e▸E⟩
       .exact(k f e).imp id λ⟨c',hq,hk⟩=>⟨c',cv _ hq,hk⟩
      |none=>
       rw[b']at h;obtain⟨v,S,h1,h2,h3⟩:=pW y.fits h;obtain⟨M,J,E⟩:=ju y h1;exact d' v S M _ B z J (.inl ⟨X,λZ D=>qW _ _ _ (h3 _ D)⟩) h2 (gb S) E
     .obtain⟨M,J,E⟩:=ju y q';exact d' undef none M G B z J (.inr ⟨X,rfl⟩) trivial k E
    |false=>
     rw[z]at u h;simp only at u h;have L:Region.ready .any O l= [i]:=by
      split at u
      .rename_i j x;rw[x,bY u]
      .cases u
     refine⟨(λe=>by rw[L]at e;cases e),λj x o' g'=> ?_⟩;rw[L]at x;obtain rfl:j=i:=by simpa using x
     obtain rfl:o'=o:=by rw[t]at g';exact(aZ g').symm
     exact ya (λF G B b a w q r s p k h=>I.1 m _ F G B b a w d V q r s p k h) t q r s p k h
   .exact h.elim
inductive vh where
 |leaf
 |seq (a b:vh)
 |cond (a b:vh)
 |block (a:vh)
 |loop (L:List (Nat×Sh)) (a:vh)
 |join (L:List (Nat×Sh)) (a:vh)
 |lK (p:qM)
 |kz (p:qM)
 |scope (l:Nat) (L:List (Nat×Sh)) (a b:vh)
 |typed (ty:List (Nat×Sh))
def writes:Code->List Nat
 | .region _ o _=>cR o
 | .seq a b=>writes a++writes b
 | .cond _ a b=>writes a++writes b
 | .block _ a=>writes a
 | .loop a=>writes a
 | .scope a=>writes a
 |_=> []
def Env.forget(a:Env)(w:List Nat):Env:=λt=>bif w.any (Nat.beq t)then none else a t
theorem Env.yc{a:Env}{w:List Nat}{t:Nat}{v:Value}(h:a.forget w t=some v):t∉w/\a t=some v:=by
 unfold Env.forget at h;cases H:w.any (Nat.beq t)with
 |true=>rw[H]at h;cases h
 |false=>
  rw[H]at h;refine⟨λb=> ?_,h⟩;have:=List.any_eq_false.1 H t b;simp at this
def Kx(K:Env->aj->Prop)(Q:Exit->Env->aj->Prop):Exit->Env->aj->Prop
 | .normal=>K
 |e=>Q e
def NO(id:Nat)(Q:Exit->Env->aj->Prop):Exit->Env->aj->Prop
 | .exit i=>(match Nat.beq i id with|true=>Q .normal|false=>Q (.exit i))
 |e=>Q e
def aH{α:Type}(F:α)(B:α->Prop):Prop:=B F
def yd(l:Nat)(K:Env->aj->Prop)(Q:Exit->Env->aj->Prop):Exit->Env->aj->Prop
 | .goto L=>(match Nat.beq L l with|true=>K|false=>λ_ _=>False)
 |e=>Q e
def pd:Code->Nat->Bool
 | .seq a b,l=>pd a l||pd b l
 | .label L,l=>Nat.beq L l
 |_,_=>false
def den(P:Program)(n:Nat):vh->Option Nat->Code->(Exit->Env->aj->Prop)->Env->aj->Prop
 | .leaf,none,c,Q,e,h=>(match c with
  | .skip=>Q .normal e h
  | .label _=>Q .normal e h
  | .exit id=>Q (.exit id) e h
  | .goto l=>Q (.goto l) e h
  | .ret=>Q .ret e h
  | .region _ o false=>Ag P n o o.toList e h (Q .normal)
  |_=>False)
 | .leaf,some l,c,Q,e,h=>(match c with
  | .label m=>(match Nat.beq m l with|true=>Q (.goto l) e h|false=>False)
  |_=>False)
 | .lK p,none,c,Q,e,h=>(match c with
  | .region _ o true=>(match (P.follows .mixedOrders && Region.noSelect o && sV p o.size && jd P o p none (Array.replicate o.size false))with
   |true=>jh P n o p [] e h (Q .normal)
   |false=>False)
  |_=>False)
 | .kz p,none,c,Q,e,h=>(match c with
  | .region _ o true=>(match (P.follows .mixedOrders && Region.noSelect o && sV p o.size && jd P o p none (Array.replicate o.size false))with
   |true=>ie P n o p [] [] e h (Q .normal)
   |false=>False)
  |_=>False)
 | .seq a b,none,c,Q,e,h=>(match c with
  | .seq c d=>den P n a none c (Kx (λg H=>den P n b none d Q g H) Q) e h
  |_=>False)
 | .seq a b,some l,c,Q,e,h=>(match c with
  | .seq c d=>(match pd c l with
   |true=>den P n a (some l) c Q e h
   |false=>den P n a none c (Kx (λg H=>den P n b (some l) d Q g H) Q) e h)
  |_=>False)
 | .cond a b,none,c,Q,e,h=>(match c with
  | .cond x c d=>(match e.ev x with
   |some (.bool q)=>if q=true then den P n a none c Q e h else den P n b none d Q e h
   |_=>False)
  |_=>False)
 | .block a,none,c,Q,e,h=>(match c with
  | .block id c=>den P n a none c (NO id Q) e h
  |_=>False)
 | .loop L a,none,c,Q,e,h=>(match c with
  | .loop c=> ∃(I:uh (aj->Prop) L)(j:uh (aj->Nat) L),oL False L I e (λf=>f h)/\
    NK L (λg=> ∀H,oL False L I g (λf=>f H)->
     den P n a none c (Kx (λk i=>oL False L I k (λf=>f i)/\oL 0 L j k (λf=>f i)<oL 0 L j g (λf=>f H)) Q) g H) (e.forget (writes c))
  |_=>False)
 | .join L a,none,c,Q,e,h=>aH (α:=uh (aj->Prop) L) (QB L (λg H=>Q .normal g H) (e.forget (writes c)))
   (λJ=>den P n a none c (Kx (λg H=>oL False L J g (λf=>f H)) Q) e h)
 | .typed t,none,c,Q,e,h=>(match c with
  | .region _ o false=>vo P n o t o.toList e h (Q .normal)
  |_=>False)
 | .scope l L a b,none,c,Q,e,h=>(match c with
  | .scope c=>(match findLabel c l with
   |some r=> ∃(I:uh (aj->Prop) L)(j:uh (aj->Nat) L),
     den P n a (some l) c (yd l (λg H=>oL False L I g (λf=>f H)) Q) e h/\
     NK L (λg=> ∀H,oL False L I g (λf=>f H)->
      den P n b none r (yd l (λk i=>oL False L I k (λf=>f i)/\oL 0 L j k (λf=>f i)<oL 0 L j g (λf=>f H)) Q) g H) (e.forget (writes c))
   |none=>False)
  |_=>False)
 |_,_,_,_,_,_=>False
def opened:Code->List Code
 | .skip=> []
 | .seq a b=>opened a++ [b]
 |c=> [c]
theorem kZ{P:Program}{b:Frame}{a:Act}{C:List Frame}{w:World}: ∀(c:Code)(k:List Item),Steps P (lone (b.at a (.code c::k)) C w) (lone (b.at a ((opened c).map Item.code++k)) C w)
 | .skip,k=> .one step_skip
 | .seq x y,k=>by
  simp only[opened,aV,cu,List.map_nil,di,eJ,cH];exact .head step_seq (kZ x (.code y::k))
 | .region _ _ _,_=> .refl _ _
 | .cond _ _ _,_=> .refl _ _
 | .block _ _,_=> .refl _ _
 | .loop _,_=> .refl _ _
 | .rangeFunc _ _ _ _,_=> .refl _ _
 | .exit _,_=> .refl _ _
 | .scope _,_=> .refl _ _
 | .label _,_=> .refl _ _
 | .goto _,_=> .refl _ _
 | .ret,_=> .refl _ _
 | .refuse _,_=> .refl _ _
theorem oM: ∀(c:Code)(l:Nat),pd c l=(findLabel c l).isSome
 | .seq a b,l=>by
  unfold pd findLabel;rw[oM a l,oM b l];cases findLabel a l<;>simp
 | .label L,l=>by
  unfold pd findLabel;by_cases h:L=l
  .subst h;simp
  .have:Nat.beq L l=false:=by cases H:Nat.beq L l;rfl;exact absurd (bY H) h
   simp[this,h]
 | .skip,_=>rfl
 | .region _ _ _,_=>rfl
 | .cond _ _ _,_=>rfl
 | .block _ _,_=>rfl
 | .loop _,_=>rfl
 | .rangeFunc _ _ _ _,_=>rfl
 | .exit _,_=>rfl
 | .scope _,_=>rfl
 | .goto _,_=>rfl
 | .ret,_=>rfl
 | .refuse _,_=>rfl
theorem lU: ∀(c:Code)(l:Nat)(r:Code),findLabel c l=some r->∀t,t∈writes r->t∈writes c
 | .seq a b,l,r,h,t,ht=>by
  unfold findLabel at h;split at h
  .rename_i R H;simp only[bH]at h;subst h;rcases bE.1 ht with ht|ht
   .exact eV _ (lU a l R H t ht)
   .exact fk _ ht
  .exact fk _ (lU b l r h t ht)
 | .label L,l,r,h,t,ht=>by
  unfold findLabel at h;split at h
  .simp only[bH]at h;subst h;cases ht
  .cases h
 | .skip,_,_,h,_,_=>by cases h
 | .region _ _ _,_,_,h,_,_=>by cases h
 | .cond _ _ _,_,_,h,_,_=>by cases h
 | .block _ _,_,_,h,_,_=>by cases h
 | .loop _,_,_,h,_,_=>by cases h
 | .rangeFunc _ _ _ _,_,_,h,_,_=>by cases h
 | .exit _,_,_,h,_,_=>by cases h
 | .scope _,_,_,h,_,_=>by cases h
 | .goto _,_,_,h,_,_=>by cases h
 | .ret,_,_,h,_,_=>by cases h
 | .refuse _,_,_,h,_,_=>by cases h
def TQ(P:Program)(l:Nat)(c:Code)(Q:Exit->Act->World->Prop)(a:Act)(w:World):Prop:=
 ∀(b:Frame)(k:List Item)(C:List Frame),
  (∃e A d,Q e A d/\e≠ .normal/\Arrives P (lone (b.at a (.code c::k)) C w) b k C e A d)\/
  (∃A d r,Q (.goto l) A d/\findLabel c l=some r/\Steps P (lone (b.at a (.code c::k)) C w) (lone (b.at A ((opened r).map Item.code++k)) C d))
def up(n:Nat)(A:Act)(d:World)(c:List Nat)(Q:Exit->Env->aj->Prop):Exit->Act->World->Prop:=
 λe a w=> ∃b,Rel n b a/\Q e b w.heap/\fX d w/\fS c A a
theorem sH{n:Nat}{A:Act}{c:World}{b:List Nat}{Q:Exit->Env->aj->Prop}{e:Exit}{a:Act}{w:World}(h:yM n A c b (Q .normal) e a w):up n A c b Q e a w:=by
 obtain⟨rfl,h⟩:=h;exact h
def ye(a:Act):Env:=λt=>some (a.tmps.getD t undef)
theorem Rel.uj{n:Nat}{b c d:Env}{a A:Act}{w:List Nat}(g:Rel n b a)(H:Rel n c A)(j:fS w a A)(i:Sub d (b.forget w) c):Rel n d A:=
 ⟨H.defers,H.size,λt v k=>by
  rcases i t v k with h|h
  .exact H.at_ t v h
  .obtain⟨e,f⟩:=Env.yc h;rw[j t e];exact g.at_ t v f⟩
theorem na{y:Type}{d:y}{X:Type}{L:List (Nat×Sh)}{f:uh X L}{K:X->y}{n:Nat}{b:Env}{a:Act}(e:Rel n b a)(H: ∀t s,(t,s)∈L->∃v,b t=some v):oL d L f (ye a) K=oL d L f b K:=
 oY L f λt s c=>by
  obtain⟨v,h⟩:=H t s c;rw[h];unfold ye;rw[e.at_ t v h]
def Qw(P:Program)(c:Code)(Q:Exit->Act->World->Prop)(a:Act)(w:World):Prop:=
 ∀(b:Frame)(k:List Item)(C:List Frame),∃e A d,Q e A d/\Arrives P (lone (b.at a ((opened c).map Item.code++k)) C w) b k C e A d
theorem Qw.wp{P:Program}{c:Code}{Q:Exit->Act->World->Prop}{a:Act}{w:World}(h:Qw P c Q a w):c.wp P Q a w:=λb k C=>by
 obtain⟨e,A,f,d,H⟩:=h b k C;exact⟨e,A,f,d,.of_steps (kZ c k) H⟩
theorem iH{P:Program}{c:Code}{Q:Exit->Act->World->Prop}{a:Act}{w:World}(H:opened c= [c])(h:c.wp P Q a w):Qw P c Q a w:=λb k C=>by
 rw[H];exact h b k C
theorem vr{P:Program}{c:Code}{Q d:Exit->Act->World->Prop}{a:Act}{w:World}(h:Qw P c Q a w)(H: ∀e a w,Q e a w->d e a w):Qw P c d a w:=
 λb k C=>let ⟨e,A,f,q,r⟩:=h b k C;⟨e,A,f,H _ _ _ q,r⟩
theorem QC{P:Program}{x y:Code}{Q:Exit->Act->World->Prop}{a:Act}{w:World}(h:Qw P x (Exit.then (Qw P y Q) Q) a w):Qw P (.seq x y) Q a w:=by
 intro b k C;simp only[opened,aV,cu,List.map_nil,di,eJ,cH];obtain⟨e,A,d,c,H⟩:=h b (.code y::k) C;cases e with
 |normal=>
  obtain⟨E,f,j,i,g⟩:=c b k C;exact⟨E,f,j,i,.of_steps (Steps.trans H (kZ y k)) g⟩
 |exit id=>exact⟨_,A,d,c,.pass (x:=.code y) rfl (λ_ _=> .inl bV) H⟩
 |goto l=>exact⟨_,A,d,c,.pass (x:=.code y) rfl (λ_ _=> .inl bV) H⟩
 |ret=>exact⟨_,A,d,c,.pass (x:=.code y) rfl (λ_ _=> .inl bV) H⟩
 |panic m=>exact⟨_,A,d,c,.pass (x:=.code y) rfl (λ_ _=> .inl bV) H⟩
 |outgrown=>exact⟨_,A,d,c,.pass (x:=.code y) rfl (λ_ _=> .inl bV) H⟩
theorem Ai{P:Program}{Q:Exit->Act->World->Prop}{a:Act}{w:World}{c r:Code}{l:Nat}(B:findLabel c l=some r)(I:Act->World->Prop)(t:Act->World->Nat)(u:Exit->Act->World->Prop)(v:Act->World->Exit->Act->World->Prop)(L:TQ P l c u a w)(D: ∀A d,u (.goto l) A d->I A d)(M: ∀e A d,e≠ .goto l->e≠ .normal->u e A d->Q e A d/\∀x,e≠ .goto x)(a': ∀a w,I a w->Qw P r (v a w) a w)(R: ∀a w A d,I a w->v a w (.goto l) A d->I A d/\t A d<t a w)(S: ∀a w e A d,I a w->e≠ .goto l->v a w e A d->Q e A d/\∀x,e≠ .goto x):
  (Code.scope c).wp P Q a w:=by
 intro b k C;have O: ∀(m:Machine)(e:Exit)(A:Act)(d:World),(∀x,e≠ .goto x)->Arrives P m b (.inScope c::k) C e A d->Arrives P m b k C e A d:=by
  intro m e A d o h;cases e with
  |normal=>exact Steps.trans h (.one step_inScope)
  |exit id=>exact λk' V=>h k' (by simp[exitTo,V])
  |goto x=>exact absurd rfl (o x)
  |ret=>exact h
  |panic ch=>exact h
  |outgrown=>exact h
 have K: ∀n a w,t a w=n->I a w->∃e A d,Q e A d/\Arrives P (lone (b.at a ((opened r).map Item.code++ .inScope c::k)) C w) b k C e A d:=by
  intro n;induction n using Nat.strongRecOn with
  |_ n ih=>
   intro a w Z y;obtain⟨e,f,g,H,h⟩:=a' a w y b (.inScope c::k) C;by_cases F:e=.goto l
   .subst F;obtain⟨T,X⟩:=R a w f g y H;have q:=h (.code r:: .inScope c::k) (by simp[gotoIn,B]);obtain⟨E,i,s,p,j⟩:=ih (t f g) (Z▸X) f g rfl T;exact⟨E,i,s,p,.of_steps (Steps.trans q (kZ r _)) j⟩
   .obtain⟨z,o⟩:=S a w e f g y F H;exact⟨e,f,g,z,O _ e f g o h⟩
 rcases L b (.inScope c::k) C with⟨e,A,d,H,U,h⟩|⟨A,d,r',H,J,q⟩
 .by_cases G:e=.goto l
  .subst G;have q:=h (.code r:: .inScope c::k) (by simp[gotoIn,B]);obtain⟨E,i,s,p,j⟩:=K _ A d rfl (D A d H);exact⟨E,i,s,p,.of_steps (.head step_scope (Steps.trans q (kZ r _))) j⟩
  .obtain⟨z,o⟩:=M e A d G U H;exact⟨e,A,d,z,.of_steps (.one step_scope) (O _ e A d o h)⟩
 .rw[B]at J;cases J;obtain⟨E,i,s,p,j⟩:=K _ A d rfl (D A d H);exact⟨E,i,s,p,.of_steps (.head step_scope q) j⟩
def TR(P:Program)(c:Code)(Q:Exit->Act->World->Prop)(a:Act)(w:World):Option Nat->Prop
 |none=>Qw P c Q a w
 |some l=>TQ P l c Q a w
theorem lg{P:Program}{n:Nat}: ∀(q':vh)(m:Option Nat)(c:Code)(Q:Exit->Env->aj->Prop)(s:Env)(a:Act)(w:World),Rel n s a->den P n q' m c Q s w.heap->TR P c (up n a w (writes c) Q) a w m
 | .leaf,none,c,Q,s,a,w,q,h=>by
  unfold den at h;split at h
  .exact λb k S=>⟨.normal,a,w,⟨s,q,h,fX.refl w,fS.refl _ _⟩,.refl _ _⟩
  .exact iH rfl (wp_label ⟨s,q,h,fX.refl w,fS.refl _ _⟩)
  .exact iH rfl (wp_exit ⟨s,q,h,fX.refl w,fS.refl _ _⟩)
  .exact iH rfl (wp_goto ⟨s,q,h,fX.refl w,fS.refl _ _⟩)
  .exact iH rfl (wp_ret ⟨s,q,h,fX.refl w,fS.refl _ _⟩)
  .rename_i id O;refine iH rfl (wp_mono (wp_region (Q:=yM n a w (cR O) (Q .normal)) ?_) (λe A p H=>sH H));have:=wR (a0:=a) (w0:=w) O.toList 0 s a w bV q (fX.refl w) (fS.refl _ _) h;rw[gu];simpa using this
  .exact h.elim
 | .leaf,some l,c,Q,s,a,w,q,h=>by
  unfold den at h;split at h
  .rename_i l';split at h
   .rename_i hl;obtain rfl:l'=l:=bY hl;exact λb k S=> .inr ⟨a,w,.skip,⟨s,q,h,fX.refl w,fS.refl _ _⟩,by simp[findLabel],.one step_label⟩
   .exact h.elim
  .exact h.elim
 | .lK j',none,c,Q,s,a,w,q,h=>by
  unfold den at h;split at h
  .rename_i id O;split at h
   .rename_i F;simp only[aU]at F;obtain⟨⟨⟨h1,h2⟩,h3⟩,h4⟩:=F;refine iH rfl (wp_mono (wp_region_any (Q:=yM n a w (cR O) (Q .normal)) h1 ?_) (λe A p H=>sH H));have:=(Er (a0:=a) (w0:=w) h2 j').1 O.size (Array.replicate O.size false) [] s a { w with drawn:=w.drawn+1 } h3 h4 q ⟨rfl,rfl,rfl⟩ (fS.refl _ _) (λ_ V=>by cases V) h;exact pY _ _ _ _ _ this
   .exact h.elim
  .exact h.elim
 | .kz j',none,c,Q,s,a,w,q,h=>by
  unfold den at h;split at h
  .rename_i id O;split at h
   .rename_i F;simp only[aU]at F;obtain⟨⟨⟨h1,h2⟩,h3⟩,h4⟩:=F;refine iH rfl (wp_mono (wp_region_any (Q:=yM n a w (cR O) (Q .normal)) h1 ?_) (λe A p H=>sH H));have:=(Cn (a0:=a) (w0:=w) h2 j').1 O.size (Array.replicate O.size false) [] [] [] s a { w with drawn:=w.drawn+1 } h3 h4 q ⟨rfl,rfl,rfl⟩ (fS.refl _ _) (λ_ V=>by cases V) (λ_ V=>by cases V) h;exact pY _ _ _ _ _ this
   .exact h.elim
  .exact h.elim
 | .seq x y,none,c,Q,s,a,w,q,h=>by
  unfold den at h;split at h
  .rename_i c d;refine QC (vr (lg x none c _ s a w q h) ?_);rintro e A p ⟨g,o,H,j,i⟩;have v: ∀t,t∈writes c->t∈writes (.seq c d):=λt u=>eV _ u
   cases e with
   |normal=>
    refine vr (lg y none d Q g A p o H) ?_;rintro e2 a2 w2 ⟨d',Z,B,a',c'⟩;exact⟨d',Z,B,j.trans a',(i.mono v).trans (c'.mono λt u=>fk _ u)⟩
   |exit id=>exact⟨g,o,H,j,i.mono v⟩
   |goto l=>exact⟨g,o,H,j,i.mono v⟩
   |ret=>exact⟨g,o,H,j,i.mono v⟩
   |panic R=>exact⟨g,o,H,j,i.mono v⟩
   |outgrown=>exact⟨g,o,H,j,i.mono v⟩
  .exact h.elim
 | .seq x y,some l,c,Q,s,a,w,q,h=>by
  unfold den at h;split at h
  .rename_i c d;have v: ∀t,t∈writes c->t∈writes (.seq c d):=λt u=>eV _ u
   have o': ∀t,t∈writes d->t∈writes (.seq c d):=λt u=>fk _ u
   split at h
   .rename_i hl;have ih:=lg x (some l) c Q s a w q h;intro b k S;rcases ih b (.code d::k) S with⟨e,A,p,H,e',E⟩|⟨A,p,r,H,hf,y'⟩
    .obtain⟨g,o,H,j,i⟩:=H;exact .inl ⟨e,A,p,⟨g,o,H,j,i.mono v⟩,e',.of_steps (.one step_seq) (.pass (x:=.code d) rfl (λ_ _=> .inl e') E)⟩
    .obtain⟨g,o,H,j,i⟩:=H;refine .inr ⟨A,p,.seq r d,⟨g,o,H,j,i.mono v⟩,by simp[findLabel,hf],.head step_seq ?_⟩;simpa[opened]using y'
   .rename_i hl;have ih:=lg x none c _ s a w q h;have v':findLabel c l=none:=by
     have:=oM c l;rw[hl]at this;cases H:findLabel c l with
     |none=>rfl
     |some r=>rw[H]at this;cases this
    intro b k S;obtain⟨e,A,p,⟨g,o,H,j,i⟩,E⟩:=ih.wp b (.code d::k) S;cases e with
    |normal=>
     rcases lg y (some l) d Q g A p o H b k S with⟨e2,a2,w2,B,e',s'⟩|⟨a2,w2,r,B,u',z'⟩
     .obtain⟨d',Z,B,a',c'⟩:=B;exact .inl ⟨e2,a2,w2,⟨d',Z,B,j.trans a',(i.mono v).trans (c'.mono o')⟩,e',.of_steps (.head step_seq E) s'⟩
     .obtain⟨d',Z,B,a',c'⟩:=B;exact .inr ⟨a2,w2,r,⟨d',Z,B,j.trans a',(i.mono v).trans (c'.mono o')⟩,by simp[findLabel,v',u'],.head step_seq (Steps.trans E z')⟩
    |exit id=>exact .inl ⟨_,A,p,⟨g,o,H,j,i.mono v⟩,bV,.of_steps (.one step_seq) (.pass (x:=.code d) rfl (λ_ _=> .inl bV) E)⟩
    |goto l'=>exact .inl ⟨_,A,p,⟨g,o,H,j,i.mono v⟩,bV,.of_steps (.one step_seq) (.pass (x:=.code d) rfl (λ_ _=> .inl bV) E)⟩
    |ret=>exact .inl ⟨_,A,p,⟨g,o,H,j,i.mono v⟩,bV,.of_steps (.one step_seq) (.pass (x:=.code d) rfl (λ_ _=> .inl bV) E)⟩
    |panic R=>exact .inl ⟨_,A,p,⟨g,o,H,j,i.mono v⟩,bV,.of_steps (.one step_seq) (.pass (x:=.code d) rfl (λ_ _=> .inl bV) E)⟩
    |outgrown=>exact .inl ⟨_,A,p,⟨g,o,H,j,i.mono v⟩,bV,.of_steps (.one step_seq) (.pass (x:=.code d) rfl (λ_ _=> .inl bV) E)⟩
  .exact h.elim
 | .cond x y,none,c,Q,s,a,w,q,h=>by
  unfold den at h;split at h
  .rename_i k c d;split at h
   .rename_i A' H;have he:=q.fits _ _ H;split at h
    .rename_i u;subst u;refine iH rfl (wp_cond_true he (wp_mono (lg x none c Q s a w q h).wp ?_));rintro e A p ⟨g,o,H,j,i⟩;exact⟨g,o,H,j,i.mono λt u=>eV _ u⟩
    .rename_i u;have u:A'=false:=by simpa using u
     subst u;refine iH rfl (wp_cond_false he (wp_mono (lg y none d Q s a w q h).wp ?_));rintro e A p ⟨g,o,H,j,i⟩;exact⟨g,o,H,j,i.mono λt u=>fk _ u⟩
   .exact h.elim
  .exact h.elim
 | .block x,none,c,Q,s,a,w,q,h=>by
  unfold den at h;split at h
  .rename_i id c;refine iH rfl (wp_block (wp_mono (lg x none c _ s a w q h).wp ?_));rintro e A p ⟨g,o,H,j,i⟩;cases e with
   |exit i'=>
    simp only[Exit.inBlock];simp only[NO]at H;by_cases hid:i'=id
    .subst hid;simp only[Nat.beq_refl]at H;rw[ag rfl];exact⟨g,o,H,j,i⟩
    .rw[af hid];have:Nat.beq i' id=false:=by cases F:Nat.beq i' id;rfl;exact absurd (bY F) hid
     rw[this]at H;exact⟨g,o,H,j,i⟩
   |normal=>exact⟨g,o,H,j,i⟩
   |goto l=>exact⟨g,o,H,j,i⟩
   |ret=>exact⟨g,o,H,j,i⟩
   |panic R=>exact⟨g,o,H,j,i⟩
   |outgrown=>exact⟨g,o,H,j,i⟩
  .exact h.elim
 | .loop L x,none,c,Q,s,a,w,q,h=>by
  unfold den at h;split at h
  .rename_i c;obtain⟨I,μ,h0,g'⟩:=h;refine iH rfl (wp_loop (λA p=> ∃g,Rel n g A/\oL False L I g (λf=>f p.heap)/\fX w p/\fS (writes c) a A)
    (λA p=>oL 0 L μ (ye A) (λf=>f p.heap)) ⟨s,q,h0,fX.refl w,fS.refl _ _⟩ ?_)
   rintro A p ⟨g,o,T,j,i⟩;obtain⟨D,hF,b',hL,_⟩:=zL L _ I g' T;have X:=Rel.uj q o i b';have U:oL False L I D (λf=>f p.heap):=by rw[oY L I hL];exact T
   have hd:=hF p.heap U;refine wp_mono (lg x none c _ D A p X hd).wp ?_;rintro e a1 w1 ⟨M,G,H,J,K⟩;cases e with
   |normal=>
    obtain⟨n',w'⟩:=H;refine⟨⟨M,G,n',j.trans J,i.trans K⟩,?_⟩;rw[na G (pX L I n'),na X (pX L I U)];exact w'
   |exit id=>exact⟨M,G,H,j.trans J,i.trans K⟩
   |goto l=>exact⟨M,G,H,j.trans J,i.trans K⟩
   |ret=>exact⟨M,G,H,j.trans J,i.trans K⟩
   |panic R=>exact⟨M,G,H,j.trans J,i.trans K⟩
   |outgrown=>exact⟨M,G,H,j.trans J,i.trans K⟩
  .exact h.elim
 | .join L x,none,c,Q,s,a,w,q,h=>by
  unfold den at h;unfold aH at h;refine vr (lg x none c _ s a w q h) ?_;rintro e A p ⟨g,o,H,j,i⟩;cases e with
  |normal=>
   obtain⟨D,hQ,b'⟩:=Af L _ H;exact⟨D,Rel.uj q o i b',hQ,j,i⟩
  |exit id=>exact⟨g,o,H,j,i⟩
  |goto l=>exact⟨g,o,H,j,i⟩
  |ret=>exact⟨g,o,H,j,i⟩
  |panic R=>exact⟨g,o,H,j,i⟩
  |outgrown=>exact⟨g,o,H,j,i⟩
 | .scope l L x y,none,c,Q,s,a,w,q,h=>by
  unfold den at h;split at h
  .rename_i c;split at h
   .rename_i r hf;obtain⟨I,μ,h0,g'⟩:=h;have r':=lU c l r hf;have p': ∀(k':Env->aj->Prop)(e:Exit)(g:Env)(h':aj),e≠ .goto l->yd l k' Q e g h'->Q e g h'/\∀z,e≠ .goto z:=by
     intro k' e g h' x' H;cases e with
     |goto z=>
      simp only[yd]at H;have:Nat.beq z l=false:=by cases F:Nat.beq z l;rfl;exact absurd (by rw[bY F]) x'
      rw[this]at H;exact H.elim
     |normal=>exact⟨H,λz C=>by cases C⟩
     |exit id=>exact⟨H,λz C=>by cases C⟩
     |ret=>exact⟨H,λz C=>by cases C⟩
     |panic R=>exact⟨H,λz C=>by cases C⟩
     |outgrown=>exact⟨H,λz C=>by cases C⟩
    refine iH rfl (Ai hf (λA p=> ∃g,Rel n g A/\oL False L I g (λf=>f p.heap)/\fX w p/\fS (writes c) a A)
     (λA p=>oL 0 L μ (ye A) (λf=>f p.heap)) _
     (λa0 w0 e A p=> ∃g,Rel n g A/\yd l (λD m'=>oL False L I D (λf=>f m')/\oL 0 L μ D (λf=>f m')<oL 0 L μ (ye a0) (λf=>f w0.heap)) Q e g p.heap/\fX w p/\fS (writes c) a A)
     (lg x (some l) c _ s a w q h0) ?_ ?_ ?_ ?_ ?_)
    .rintro A p ⟨g,o,H,j,i⟩;simp only[yd,Nat.beq_refl]at H;exact⟨g,o,H,j,i⟩
    .rintro e A p t' _ ⟨g,o,H,j,i⟩;obtain⟨f',B⟩:=p' _ e g _ t' H;exact⟨⟨g,o,f',j,i⟩,B⟩
    .rintro A p ⟨g,o,T,j,i⟩;obtain⟨D,hF,b',hL,_⟩:=zL L _ I g' T;have X:=Rel.uj q o i b';have U:oL False L I D (λf=>f p.heap):=by rw[oY L I hL];exact T
     have hd:=hF p.heap U;refine vr (lg y none r _ D A p X hd) ?_;rintro e a1 w1 ⟨M,G,H,J,K⟩;refine⟨M,G,?_,j.trans J,i.trans (K.mono r')⟩;cases e with
     |goto z=>
      simp only[yd]at H⊢;cases C:Nat.beq z l with
      |false=>rw[C]at H;exact H.elim
      |true=>
       rw[C]at H;obtain⟨q1,q2⟩:=H;exact⟨q1,by rw[na X (pX L I U)];exact q2⟩
     |normal=>exact H
     |exit id=>exact H
     |ret=>exact H
     |panic R=>exact H
     |outgrown=>exact H
    .rintro a0 w0 A p _ ⟨g,o,H,j,i⟩;simp only[yd,Nat.beq_refl]at H;obtain⟨q1,q2⟩:=H;refine⟨⟨g,o,q1,j,i⟩,?_⟩;rw[na o (pX L I q1)];exact q2
    .rintro a0 w0 e A p _ he ⟨g,o,H,j,i⟩;obtain⟨f',B⟩:=p' _ e g _ he H;exact⟨⟨g,o,f',j,i⟩,B⟩
   .exact h.elim
  .exact h.elim
 | .lK _,some _,_,_,_,_,_,_,h=>h.elim
 | .kz _,some _,_,_,_,_,_,_,h=>h.elim
 | .cond _ _,some _,_,_,_,_,_,_,h=>h.elim
 | .block _,some _,_,_,_,_,_,_,h=>h.elim
 | .loop _ _,some _,_,_,_,_,_,_,h=>h.elim
 | .join _ _,some _,_,_,_,_,_,_,h=>h.elim
 | .scope _ _ _ _,some _,_,_,_,_,_,_,h=>h.elim
 | .typed _,some _,_,_,_,_,_,_,h=>h.elim
 | .typed ty,none,c,Q,s,a,w,q,h=>by
  unfold den at h;split at h
  .rename_i id O;refine iH rfl (wp_mono (wp_region (Q:=yM n a w (cR O) (Q .normal)) ?_) (λe A p H=>sH H));have:=ui (a0:=a) (w0:=w) O.toList 0 s a w bV q (fX.refl w) (fS.refl _ _) h;rw[gu];simpa using this
  .exact h.elim
def uk(P:Program):List ResultVar->Env->aj->(List Value->Prop)->Prop
 | [],_,_,F=>F []
 | .tmp t::r,b,h,F=>aM (b t) λv=>uk P r b h λV=>F (v::V)
 | .cell a t::r,b,h,F=>(match b a with
  |some (.pointer p)=>aM p λA=>sE P t h A λv _=>uk P r b h λV=>F (v::V)
  |_=>False)
def yf(vs:List Value):Value:=
 match vs with
 | [v]=>v
 |vs=> .tuple vs.toArray
def Sz(P:Program)(r:Array ResultVar)(R:fD):Exit->Env->aj->Prop
 | .normal,a,h=>uk P r.toList a h λv=>R (yf v) h
 | .ret,a,h=>uk P r.toList a h λv=>R (yf v) h
 |_,_,_=>False
def nC(args:List Value):Env:=λt=>args[t]?
def Lj(a:Act):ResultVar->Sem Value
 | .tmp t=>pure (a.tmps.getD t undef)
 | .cell A t=>do loadVar t (<-asAddr (a.tmps.getD A undef))
theorem Es{P:Program}{n:Nat}{g:Env}{a:Act}{h:aj}(c:Rel n g a): ∀(r:List ResultVar)(F:List Value->Prop),uk P r g h F->∃V,F V/\
  rd P (r.mapM (Lj a)) h=some V
 | [],F,H=>⟨[],H,rfl⟩
 | .tmp t::r,F,H=>by
  obtain⟨v,o,H⟩:=bW.1 H;obtain⟨V,d,e⟩:=Es c r _ H;refine⟨v::V,d,?_⟩;rw[List.mapM_cons];have f:rd P (Lj a (.tmp t)) h=some v:=by
   show some (a.tmps.getD t undef)=some v;rw[c.at_ t v o]
  rw[bF _ _ _ _ f,bF _ _ _ _ e];rfl
 | .cell A t::r,F,H=>by
  simp only[uk]at H;split at H
  .rename_i p m;obtain⟨b,rfl,l⟩:=bW.1 H;obtain⟨v,S,d,e,i⟩:=Ae l;obtain⟨V,j,k⟩:=Es c r _ d;refine⟨v::V,j,?_⟩;rw[List.mapM_cons];have f:rd P (Lj a (.cell A t)) h=some v:=by
    show rd P (do loadVar t (<-asAddr (a.tmps.getD A undef))) h=_;rw[c.at_ A _ m];exact i h e
   rw[bF _ _ _ _ f,bF _ _ _ _ k];rfl
  .exact H.elim
theorem um{P:Program}{n:Nat}{b:Env}{a:Act}{h:aj}{f:Func}{F:Value->Prop}(i:Rel n b a)(g:uk P f.results.toList b h λV=>F (yf V)):
  ∃v,F v/\rd P (results f a.tmps) h=some v:=by
 obtain⟨V,H,c⟩:=Es i _ _ g;refine⟨_,H,?_⟩;have d:rd P (f.results.mapM (Lj a)) h=some V.toArray:=by
  rw[Array.mapM_eq_mapM_toList];show rd P (f.results.toList.mapM (Lj a)>>=λl=>pure (List.toArray l)) h=_;rw[bF _ _ _ _ c];rfl
 have e:results f a.tmps=f.results.mapM (Lj a)>>=λV=>pure (if h:V.size=1 then V[0]else .T V):=by
  unfold results;congr 1
 rw[e,bF _ _ _ _ d]
 match V with
 | []=>rfl
 | [v]=>rfl
 |u::v::V=>rfl
theorem Co{P:Program}{f:FuncId}{F:Func}{c:Code}{args:List Value}{h:aj}{R:fD}(A:vh)(p:P.funcs[f]? =some F)(n:F.body=some c)(j:Nat.ble args.length F.ntmps=true)(o:den P F.ntmps A none c (Sz P F.results R) (nC args) h):ny P f args.toArray h R:=by
 intro w u;subst u;have j:=Nat.le_of_ble_eq_true j;refine calls_of_wp p n ?_;have d:Rel F.ntmps (nC args) { tmps:=args.toArray++Array.replicate (F.ntmps - args.toArray.size) undef,defers:= [] } :=by
  refine⟨rfl,by simp;omega,λt v g=> ?_⟩;unfold nC at g;have r:t<args.length:=(aE.1 g).1;simp only[fC];rw[dR (by simpa using r)];simp[g]
 refine wp_mono (lg A none c _ _ _ w d o).wp ?_;rintro e a b ⟨y,d,H,s,_⟩;have i:uk P F.results.toList y b.heap (λx=>R (yf x) b.heap)->a.defers= []/\∃v,(results F a.tmps).run P b=.ok v b/\∃V,Ending.returned v=.returned V/\R V b.heap/\fX w b:=λq=>by
  obtain⟨v,k,m⟩:=um (F:=λv=>R v b.heap) d q;exact⟨d.defers,v,qW _ _ _ m,v,rfl,k,s⟩
 cases e with
 |normal=>exact i H
 |ret=>exact i H
 |exit id=>exact H.elim
 |goto l=>exact H.elim
 |panic C=>exact H.elim
 |outgrown=>exact H.elim
def uo(f:Func):Code:=f.body.getD .skip
theorem Aj{P:Program}{f:FuncId}{F:Func}{args:List Value}{h:aj}{R:fD}(a:vh)(e:P.funcs[f]? =some F)(d:F.body.isSome=true)(g:Nat.ble args.length F.ntmps=true)(b:den P F.ntmps a none (uo F) (Sz P F.results R) (nC args) h):ny P f args.toArray h R:=by
 obtain⟨c,H⟩:=dZ.1 d;refine Co a e H g ?_;rw[uo,H]at b;exact b
abbrev ring(v:Value):List PanicEntry:= [{ v,recovered:=false }]
def iQ(P:Program)(f:FuncId)(args:Array Value)(h:aj)(R E:fD):Prop:=
 ∀w:World,w.heap=h->Calls P f args w λe a=>fX w a/\((∃v,e=.returned v/\R v a.heap)\/∃v,e=.panicked (ring v)/\E v a.heap)
section
variable {P : Program} {f : FuncId} {args : Array Value} {h : aj} {R r E a : Value → aj → Prop}
theorem iQ.mono(c:iQ P f args h R E)(g: ∀v H,R v H->r v H)(b: ∀v H,E v H->a v H):iQ P f args h r a:=
 λw j=>(c w j).mono λ_ _ ⟨i,d⟩=>⟨i,d.imp (λ⟨v,e,h⟩=>⟨v,e,g _ _ h⟩) (λ⟨v,e,h⟩=>⟨v,e,b _ _ h⟩)⟩
end
theorem iQ.Wn{P:Program}{f:FuncId}{args:Array Value}{h:aj}{R:fD}(H:iQ P f args h R (λ_ _=>False)):ny P f args h R:=
 λw c=>(H w c).mono λ_ _ ⟨b,a⟩=>a.elim (λ⟨v,e,h⟩=>⟨v,e,h,b⟩) (λ⟨_,_,h⟩=>h.elim)
def wS(P:Program)(p:List Nat)(o:Oper)(a:Env)(h:aj)(K E:fD):Prop:=
 match o.op with
 | .panic x=>(match a.ev x with
  |some (.iface t v)=>E (.iface t v) h
  |_=>False)
 | .call { callee:=.value f,args:=args,argTypes:=_ } =>(match a.ev f,Qv a args.toList with
  |some (.func (.func g) first c),some b=>(match p.any (Nat.beq g)with
   |true=>(match pU P g with
    |true=>iQ P g (first.toList++b++c.toList).toArray h (λv H=>tR P o.type λV=>v=V/\K V H) E
    |false=>False)
   |false=>x9 P o a h K)
  |_,_=>x9 P o a h K)
 |_=>x9 P o a h K
theorem NP{P:Program}{o:Oper}{a:Env}{d:Operand->Value}{h:aj}{f:Operand}{args:Array Operand}{t:Array TypeId}{g:FuncId}{first c:Array Value}{v:List Value}(b:Fits a d)(m:o.op=.call { callee:=.value f,args:=args,argTypes:=t })(k:a.ev f=some (.func (.func g) first c))(p:Qv a args.toList=some v)(H:pU P g=true):
  aW P (execOp d o) h λx i=>x=.enter g (first.toList++v++c.toList).toArray/\i=h:=by
 unfold execOp;rw[m];simp only[resolve,vm b p,b _ _ k,Deferred.ofValue];rw[dU,Ad];simp only[invoke,callFunc];rw[dU];unfold pU at H;split at H
 .rename_i F j;simp only[aU,Bool.not_eq_true']at H;show aW P (match P.funcs[g]? with|none=>_|some F=>_) h _;rw[j];have l:F.body.isNone=false:=by cases n:F.body<;>simp[n]at H⊢
  simp only[H.2,l,aq,aL];have e:(first++v.toArray++c)=(first.toList++v++c.toList).toArray:=by
   apply Array.ext'
   simp
  rw[e];exact⟨rfl,rfl⟩
 .cases H
theorem Dh{P:Program}{y:List Nat}{o:Oper}{l:Env}{a:Act}{w:World}{K E:fD}{next:Act->World->Prop}{Q:Exit->Act->World->Prop}(H:Fits l a.eval)(h:wS P y o l w.heap K E)(c: ∀v b,K v b.heap->fX w b->next (a.put o.dst v) b)(i: ∀v b,E v b.heap->fX w b->Q (.panic (ring v)) a b):o.wp P a w next Q:=by
 unfold wS at h;split at h
 .rename_i x d;split at h
  .rename_i t v u;unfold Oper.wp execOp;rw[d];simp only[H _ _ u];exact i _ _ h (fX.refl w)
  .exact h.elim
 .rename_i f args T d;split at h
  .rename_i g first C V q r;split at h
   .split at h
    .rename_i p;obtain⟨x,b,R,⟨rfl,s⟩,j⟩:=pT _ _ _ (NP H d q r p) w rfl;unfold Oper.wp;rw[R];refine(h b s).mono ?_;rintro e z ⟨k,⟨v,rfl,n⟩|⟨v,rfl,m⟩⟩
     .exact c _ _ (Ab n) (j.trans k)
     .exact i _ _ m (j.trans k)
    .exact h.elim
   .exact(oZ H h).wp c
  .exact(oZ H h).wp c
 .exact(oZ H h).wp c
structure kk (n:Nat) (D:List Deferred) (σ:Env) (a:Act):Prop where
 size:a.tmps.size=n
 at_: ∀t v,σ t=some v->a.tmps.getD t undef=v
 defs:a.defers=D
theorem kk.fits{n:Nat}{D:List Deferred}{b:Env}{a:Act}(h:kk n D b a):Fits b a.eval:=by
 intro x v H;cases x with
 |tmp t=>exact h.at_ t v H
 |const c=>simpa[Env.ev,Act.eval]using H
 |global g=>simpa[Env.ev,Act.eval]using H
 |func f=>simpa[Env.ev,Act.eval]using H
theorem kk.bare{n:Nat}{D:List Deferred}{b:Env}{a:Act}(h:kk n D b a):Rel n b { a with defers:= [] } :=⟨rfl,h.size,h.at_⟩
theorem kk.of{n:Nat}{D:List Deferred}{b:Env}{a:Act}(h:Rel n b { a with defers:= [] })(H:a.defers=D):kk n D b a:=⟨h.size,h.at_,H⟩
theorem Gd(a:Act)(d:Option Nat)(v:Value):(a.put d v).defers=a.defers:=by cases d<;>rfl
theorem qa{n:Nat}{D:List Deferred}{c:Env}{a:Act}{d:Option Nat}{v:Value}{K:Env->Prop}(H:kk n D c a)(h:jg n c d v K): ∃b,kk n D b (a.put d v)/\K b:=by
 obtain⟨b,f,g⟩:=ju H.bare h;refine⟨b,.of ?_ ((Gd _ _ _).trans H.defs),g⟩;have e:({ a with defers:= [] } :Act).put d v= { (a.put d v)with defers:= [] } :=by cases d<;>rfl
 rw[<-e];exact f
theorem qb{n:Nat}{D:List Deferred}{O:Array Oper}{o:Oper}{f:Env}{a:Act}{r skip:Env->Prop}(e:kk n D f a)(h:jO O o f r skip):
  (Region.wanted o (yielded O a.tmps)=true/\∃b,kk n D b a/\r b)\/(Region.wanted o (yielded O a.tmps)=false/\∃b,kk n D b a/\skip b):=by
 rcases kf e.bare h with⟨H,b,c,d⟩|⟨H,b,c,d⟩
 .exact .inl ⟨H,b,.of c e.defs,d⟩
 .exact .inr ⟨H,b,.of c e.defs,d⟩
def SA(n:Nat)(D:List Deferred)(A:Act)(c:World)(b:List Nat)(K:List Deferred->Env->aj->Prop)(E:fD):Exit->Act->World->Prop:=
 λe a w=>(e=.normal/\∃d f,kk n d f a/\K d f w.heap/\fX c w/\fS b A a)\/(a.defers=D/\a.tmps.size=n/\fS b A a/\fX c w/\∃v,e=.panic (ring v)/\E v w.heap)
def Ak(o:Oper)(D:List Deferred)(a:Env):Option (List Deferred):=
 match o.op with
 | .defer { callee:=.value f,args:=args,argTypes:=_ } =>(match a.ev f,Qv a args.toList with
  |some (.func g first c),some v=>some ({ target:=.fn g c,args:=(first.toList++v).toArray } ::D)
  |_,_=>none)
 |_=>none
theorem Ge{P:Program}{o:Oper}{b:Env}{a:Act}{w:World}{D d:List Deferred}{next:Act->World->Prop}{Q:Exit->Act->World->Prop}(H:Fits b a.eval)(c:a.defers=D)(h:Ak o D b=some d)(j:next ({ a with defers:=d }.put o.dst undef) w):o.wp P a w next Q:=by
 unfold Ak at h;split at h
 .rename_i f args t k;split at h
  .rename_i g first C v i l;cases h;subst c;unfold Oper.wp execOp;rw[k];simp only[resolve,vm H l,H _ _ i,Deferred.ofValue];have e:first++v.toArray=(first.toList++v).toArray:=by apply Array.ext';simp
   rw[e];exact j
  .cases h
 .cases h
def om(P:Program)(p:List Nat)(n:Nat)(O:Array Oper)(t:List (Nat×Sh))(E:fD):List Oper->List Deferred->Env->aj->(List Deferred->Env->aj->Prop)->Prop
 | [],D,a,h,K=>K D a h
 |o::r,D,a,h,K=>(match o.op with
  | .defer _=>jO O o a
   (λa=>(match Ak o D a with
    |some d=>(match r with| []=>jg n a o.dst undef λb=>K d b h|_=>False)
    |none=>False))
   (λa=>jg n a o.dst undef λb=>om P p n O t E r D b h K)
  |_=>jO O o a
   (λa=>wS P p o a h (λv H=>Gb t o.dst v λv=>jg n a o.dst v λb=>om P p n O t E r D b H K) E)
   (λa=>jg n a o.dst undef λb=>om P p n O t E r D b h K))
theorem qc{P:Program}{y:List Nat}{n:Nat}{O:Array Oper}{T:List (Nat×Sh)}{E:fD}{D:List Deferred}{K:List Deferred->Env->aj->Prop}{a0:Act}{w0:World}: ∀(r:List Oper)(k:Nat)(l:Env)(a:Act)(w:World),
  (∀j,r[j]? =O[k+j]?)->kk n D l a->fX w0 w->fS (cR O) a0 a->om P y n O T E r D l w.heap K->wpOps P O (SA n D a0 w0 (cR O) K E) (List.range' k r.length) a w
 | [],k,l,a,w,_,s,e,f,h=> .inl ⟨rfl,D,l,s,h,e,f⟩
 |o::r,k,l,a,w,u,s,e,f,h=>by
  have q:O[k]? =some o:=by have:=u 0;simpa using this.symm
  have x: ∀j,r[j]? =O[k+1+j]? :=λj=>by have:=u (j+1);simpa[Nat.add_assoc,Nat.add_comm 1 j]using this
  simp only[bf,List.range'_succ,wpOps,q];have skip: ∀{d:Env},Region.wanted o (yielded O a.tmps)=false->kk n D d a->(jg n d o.dst undef λd=>om P y n O T E r D d w.heap K)->
    (if Region.wanted o (yielded O a.tmps)=true then o.wp P a w (wpOps P O (SA n D a0 w0 (cR O) K E) (List.range' (k+1) r.length)) (SA n D a0 w0 (cR O) K E)\/(o.asks P a w/\LetsOut (SA n D a0 w0 (cR O) K E))else wpOps P O (SA n D a0 w0 (cR O) K E) (List.range' (k+1) r.length) (a.put o.dst undef) w):=by
   intro d b H h;rw[af (by rw[b];simp)];obtain⟨m,i,g⟩:=qa H h;exact qc r (k+1) m _ w x i e (f.trans (fS.put (fh q))) g
  unfold om at h;split at h
  .rename_i c F;rcases qb s h with⟨b,d,H,h⟩|⟨b,d,H,h⟩
   .rw[ag b];split at h
    .rename_i p A;split at h
     .obtain⟨m,i,g⟩:=qa (D:=p) (a:= { a with defers:=p }) ⟨H.size,H.at_,rfl⟩ h;exact .inl (Ge H.fits H.defs A (.inl ⟨rfl,p,m,i,g,e,f.trans (fS.put (a:= { a with defers:=p }) (fh q))⟩))
     .exact h.elim
    .exact h.elim
   .exact skip b H h
  .rcases qb s h with⟨b,d,H,h⟩|⟨b,d,H,h⟩
   .rw[ag b];refine .inl (Dh H.fits h (λv z C t=> ?_) (λv z B t=> .inr ⟨H.defs,H.size,f,e.trans t,v,rfl,B⟩));obtain⟨m,i,g⟩:=qa H (rk C);exact qc r (k+1) m _ z x i (e.trans t) (f.trans (fS.put (fh q))) g
   .exact skip b H h
def iA(P:Program)(p:List Nat)(n:Nat)(O:Array Oper)(E:fD):qM->List (Nat×(aj->Prop))->Env->aj->(Env->aj->Prop)->Prop
 | .done,_,a,h,K=>K a h
 | .op i r,G,a,h,K=>(match O[i]? with
  |some o=>jO O o a
    (λa=>(match mB P o with
     |true=>oh P o a h λv S=>jg n a o.dst v λb=>iA P p n O E r (vq i S G) b h K
     |false=>wS P p o a h (λv H=>rq H (jg n a o.dst v λb=>iA P p n O E r (gn o G) b H K) (gn o G)) E))
    (λa=>jg n a o.dst undef λb=>iA P p n O E r G b h K)
  |none=>False)
 | .alts q,G,a,h,K=>iA P p n O E q G a h K
 | .fork i r q,G,a,h,K=>(match O[i]? with
  |some o=>jO O o a
    (λa=>wS P p o a h (λv H=>rq H (jg n a o.dst v λb=>iA P p n O E r (gn o G) b H K) (gn o G)) E)
    (λa=>jg n a o.dst undef λb=>iA P p n O E r G b h K)
  |none=>False)/\iA P p n O E q G a h K
 | .gM,_,_,_,_=>True
theorem fS.TT{w:List Nat}{a b:Act}{D:Option Nat}{v:Value}(h: ∀d,D=some d->d∈w)(f:fS w a (b.put D v)):fS w a b:=λt H=>by
 rw[<-f t H];cases D with
 |none=>rfl
 |some d=>
  have c:t≠d:=λe=>H (e▸h d rfl)
  simp[Act.put,fJ c]
section
variable {P : Program} {p : List Nat} {n : Nat} {o : Array Oper} {E : Value → aj → Prop} {D : List Deferred} {K : Env → aj → Prop} {a0 : Act} {w0 : World}
abbrev Qx(n:Nat)(D:List Deferred)(a0:Act)(w0:World)(o:Array Oper)(K:Env->aj->Prop)(E:fD):=SA n D a0 w0 (cR o) (λd a h=>d=D/\K a h) E
theorem yg{R:qM}{i m:Nat}{O:Oper}{L:Array Bool}{G:List (Nat×(aj->Prop))}{b:Env}{a:Act}{w:World}(I: ∀G b a w,kk n D b a->fX w0 w->fS (cR o) a0 a->(∀g∈G,g.2 w.heap)->iA P p n o E R G b w.heap K->iK P o (Qx n D a0 w0 o K E) m G (L.setIfInBounds i true) a w)(e:o[i]? =some O)(F:kk n D b a)(l:fX w0 w)(r:fS (cR o) a0 a)(y: ∀g∈G,g.2 w.heap)(h:jO o O b (λb=>wS P p O b w.heap (λv u=>rq u (jg n b O.dst v λd=>iA P p n o E R (gn O G) d u K) (gn O G)) E) (λb=>jg n b O.dst undef λd=>iA P p n o E R G d w.heap K)):
  wpOp P o (Qx n D a0 w0 o K E) i (λA c=>(∀g∈gn O G,g.2 c.heap)/\iK P o (Qx n D a0 w0 o K E) m (gn O G) (L.setIfInBounds i true) A c) a w:=by
 rcases qb F h with⟨s,d,H,h⟩|⟨s,d,H,J⟩
 .unfold wpOp;simp only[e,s,ba];refine .inl (Dh H.fits h (λv c C q=> ?_) (λv c B q=> .inr ⟨H.defs,H.size,r,l.trans q,v,rfl,B⟩));obtain⟨x,z⟩:=vp C;obtain⟨t,k,f⟩:=qa H z;exact⟨x,I _ t _ c k (l.trans q) (r.trans (fS.put (fh e))) x f⟩
 .unfold wpOp;simp only[e,s,aq,aL];obtain⟨t,k,f⟩:=qa H J;have I:=I G t _ w k l (r.trans (fS.put (fh e))) y f;exact⟨λg j=>y g (jL j),lT _ _ _ _ _ _ (λg j=>jL j) I⟩
theorem Cq(i':Region.noSelect o=true)(x:qM):
  (∀(m:Nat)(l:Array Bool)(G:List (Nat×(aj->Prop)))(b:Env)(a:Act)(w:World),sV x m=true->
   jd P o x none l=true->kk n D b a->fX w0 w->fS (cR o) a0 a->(∀g∈G,g.2 w.heap)->iA P p n o E x G b w.heap K->
   iK P o (Qx n D a0 w0 o K E) m G l a w)/\
  (∀(m:Nat)(R:List Nat)(l:Array Bool)(G:List (Nat×(aj->Prop)))(b:Env)(a:Act)(w:World),sV x (m+1)=true->
   jd P o x (some R) l=true->kk n D b a->fX w0 w->fS (cR o) a0 a->(∀g∈G,g.2 w.heap)->iA P p n o E x G b w.heap K->
   ∀j∈R,∀O,o[j]? =some O->wpOp P o (Qx n D a0 w0 o K E) j (λa' V=>(∀g∈gn O G,g.2 V.heap)/\iK P o (Qx n D a0 w0 o K E) m (gn O G) (l.setIfInBounds j true) a' V) a w):=by
 induction x with
 |done=>
  refine⟨λm l G b a w d H k q r f h=> ?_,λm R l G b a w d H=>by cases H⟩;obtain rfl:m=0:=bY d;simp only[jd,List.isEmpty_iff]at H;exact⟨H,.inl ⟨rfl,D,b,k,⟨rfl,h⟩,q,r⟩⟩
 |gM=>
  refine⟨λm l G b a w d H=>(by cases H),λm R l G b a w d H k q r f h j u=> ?_⟩;simp only[jd,List.isEmpty_iff]at H;subst H;cases u
 |alts n' I=>
  refine⟨λm l G b a w d H k q r f h=> ?_,λm R l G b a w d H=>by cases H⟩;cases m with
  |zero=>cases d
  |succ m=>
   simp only[jd]at H;split at H
   .cases H
   .rename_i j js C;refine⟨(λe=>by rw[C]at e;cases e),λj' b' O s=> ?_⟩;rw[C]at b';exact I.2 m _ l G b a w d H k q r f h j' b' O s
 |fork i e' n' l' m'=>
  refine⟨λm l G b a w d H=>(by cases H),λm R l G b a w d H k q r f h j u O s=> ?_⟩;simp only[jd,aU]at H;obtain⟨⟨t,J⟩,h'⟩:=H;simp only[sV,aU]at d;simp only[iA]at h;by_cases c':i=j
  .subst c';have h:=h.1;rw[s]at h;exact yg (λG b a w k q r f h=>l'.1 m _ G b a w d.1 J k q r f h) s k q r f h
  .refine m'.2 m _ l G b a w d.2 h' k q r f h.2 j (bj.2 ⟨u,?_⟩) O s;have:Nat.beq i j=false:=by cases hb:Nat.beq i j;rfl;exact absurd (bY hb) c'
   simp[this]
 |op i e' I=>
  refine⟨λm l G b a w d H k q r f h=> ?_,λm R l G b a w d H=>by cases H⟩;cases m with
  |zero=>cases d
  |succ m=>
   simp only[jd,aU]at H;obtain⟨t,J⟩:=H;simp only[iA]at h;split at h
   .rename_i O s;simp only[s]at t;have hQ: ∀v,∀c a w,Qx n D a0 w0 o K E (.panic c) (a.put O.dst v) w->Qx n D a0 w0 o K E (.panic c) a w:=λv c a w hq=>by
     rcases hq with⟨e,_⟩|⟨L,M,Q,B⟩
     .cases e
     .refine .inr ⟨(Gd _ _ _).symm.trans L,?_,Q.TT (fh s),B⟩;rw[<-M];cases O.dst<;>simp[Act.put]
    have f': ∀(v:Value)(S:Option (aj->Prop))(A:Env),mB P O=true->kk n D A (a.put O.dst v)->YieldsIf P o (λw=>oX S w.heap) O v a->oX S w.heap->
      iA P p n o E e' (vq i S G) A w.heap K->iK P o (Qx n D a0 w0 o K E) (m+1) G l a w:=λv S A z y hy F hd=>by
     rw[z]at t;simp only[aU]at t;have g': ∀g∈vq i S G,g.2 w.heap:=by
      intro g Z;cases S with
      |none=>exact f g Z
      |some S=>
       rcases bK.1 Z with e|e
       .rw[e];exact F
       .exact f g e
     have I:=I.1 m _ (vq i S G) A (a.put O.dst v) w d J y q (r.trans (fS.put (fh s))) g' hd;refine pZ (S:=oX S) s (Region.noSelect_spec i') (hQ v) m G l a w (Region.free_spec s t.2) (by simpa using t.1) hy F f ?_;cases S with
     |none=>exact oj i _ _ _ _ _ I
     |some S=>exact I
    cases z:mB P O with
    |true=>
     rcases qb k h with⟨U,A,y,h⟩|⟨U,A,y,k'⟩
     .rw[z]at h;obtain⟨v,S,L,M,Q⟩:=pW y.fits h;obtain⟨X,T,B⟩:=qa y L;exact f' v S X z T (.inl ⟨U,λV F=>qW _ _ _ (Q _ F)⟩) M B
     .obtain⟨X,T,B⟩:=qa y k';exact f' undef none X z T (.inr ⟨U,rfl⟩) trivial B
    |false=>
     rw[z]at t h;simp only at t h;have C:Region.ready .any o l= [i]:=by
      split at t
      .rename_i j u;rw[u,bY t]
      .cases t
     refine⟨(λe=>by rw[C]at e;cases e),λj u o' d'=> ?_⟩;rw[C]at u;obtain rfl:j=i:=by simpa using u
     obtain rfl:o'=O:=by rw[s]at d';exact(aZ d').symm
     exact yg (λG b a w k q r f h=>I.1 m _ G b a w d J k q r f h) s k q r f h
   .exact h.elim
end
def NQ(K:List Deferred->Env->aj->Prop)(Q:Exit->List Deferred->Env->aj->Prop):Exit->List Deferred->Env->aj->Prop
 | .normal=>K
 |e=>Q e
def NR(id:Nat)(Q:Exit->List Deferred->Env->aj->Prop):Exit->List Deferred->Env->aj->Prop
 | .exit i=>(match Nat.beq i id with|true=>Q .normal|false=>Q (.exit i))
 |e=>Q e
def qN(P : Program)(g : List Nat)(n : Nat)(E : List Deferred -> Env -> fD): vh -> Code -> (Exit -> List Deferred -> Env -> aj -> Prop) -> List Deferred -> Env -> aj -> Prop
  | .leaf, c, Q, D, e, h => (match c with
    | .skip => Q .normal D e h
    | .label _ => Q .normal D e h
    | .exit id => Q (.exit id) D e h
    | .ret => Q .ret D e h
    | .region _ o false => om P g n o [] (E D (e.forget (cR o))) o.toList D e h (Q .normal)
    | _ => False)
  | .typed t, c, Q, D, e, h => (match c with
    | .region _ o false => om P g n o t (E D (e.forget (cR o))) o.toList D e h (Q .normal)
    | _ => False)
  | .lK p, c, Q, D, e, h => (match c with
    | .region _ o true => (match (P.follows .mixedOrders && Region.noSelect o && sV p o.size && jd P o p none (Array.replicate o.size false)) with
      | true => iA P g n o (E D (e.forget (cR o))) p [] e h (Q .normal D)
      | false => False)
    | _ => False)
  | .seq a b, c, Q, D, e, h => (match c with
    | .seq c d => qN P g n E a c (NQ (λj i H => qN P g n E b d Q j i H) Q) D e h
    | _ => False)
  | .cond a b, c, Q, D, e, h => (match c with
    | .cond x c d => (match e.ev x with
      | some (.bool q) => if q = true then qN P g n E a c Q D e h else qN P g n E b d Q D e h
      | _ => False)
    | _ => False)
  | .block a, c, Q, D, e, h => (match c with
    | .block id c => qN P g n E a c (NR id Q) D e h
    | _ => False)
  | .loop L a, c, Q, D, e, h => (match c with
    | .loop c => ∃(I : uh (aj -> Prop) L)(l : uh (aj -> Nat) L), oL False L I e (λf => f h) /\
        NK L (λi => ∀ H, oL False L I i (λf => f H) ->
          qN P g n E a c (NQ (λj m k => j = D /\ oL False L I m (λf => f k) /\ oL 0 L l m (λf => f k) < oL 0 L l i (λf => f H)) Q) D i H) (e.forget (writes c))
    | _ => False)
  | .join L a, c, Q, D, e, h => aH (α := uh (aj -> Prop) L) (QB L (λi H => Q .normal D i H) (e.forget (writes c)))
      (λJ => qN P g n E a c (NQ (λj i H => j = D /\ oL False L J i (λf => f H)) Q) D e h)
  | .scope _ _ _ _, _, _, _, _, _ => False
  | .kz _, _, _, _, _, _ => False
def SB(n:Nat)(A:Act)(d:World)(c:List Nat)(Q:Exit->List Deferred->Env->aj->Prop)(E:List Deferred->Env->fD):Exit->Act->World->Prop:=
 λe a w=>fX d w/\fS c A a/\((∃D b,kk n D b a/\Q e D b w.heap/\∀C,e≠ .panic C)\/∃D b v,kk n D b a/\e=.panic (ring v)/\E D b v w.heap)
theorem kk.uj{n:Nat}{D d:List Deferred}{b c e:Env}{a A:Act}{w:List Nat}(H:kk n D b a)(h:kk n d c A)(g:fS w a A)(f:Sub e (b.forget w) c):kk n d e A:=
 .of (Rel.uj H.bare h.bare g f) h.defs
theorem uq{n:Nat}{D:List Deferred}{A:Act}{g:World}{i:Env}{b:List Nat}{Q:Exit->List Deferred->Env->aj->Prop}{E:List Deferred->Env->fD}(l:kk n D i A){e:Exit}{a:Act}{w:World}(h:SA n D A g b (Q .normal) (E D (i.forget b)) e a w):SB n A g b Q E e a w:=by
 rcases h with⟨rfl,j,p,c,d,H,f⟩|⟨c,d,H,f,v,rfl,k⟩
 .exact⟨H,f,.inl ⟨j,p,c,d,λ_ e=>by cases e⟩⟩
 .refine⟨f,H,.inr ⟨D,_,v,⟨d,λt u m=> ?_,c⟩,rfl,k⟩⟩;obtain⟨q,o⟩:=Env.yc m;rw[H t q];exact l.at_ t u o
theorem vt{n:Nat}{A:Act}{d:World}{b c:List Nat}{Q:Exit->List Deferred->Env->aj->Prop}{E:List Deferred->Env->fD}(H: ∀t,t∈b->t∈c){e:Exit}{a:Act}{w:World}(h:SB n A d b Q E e a w):SB n A d c Q E e a w:=
 ⟨h.1,h.2.1.mono H,h.2.2⟩
theorem Lk{n:Nat}{A c:Act}{d f:World}{b:List Nat}{Q:Exit->List Deferred->Env->aj->Prop}{E:List Deferred->Env->fD}(H:fX d f)(g:fS b A c){e:Exit}{a:Act}{w:World}(h:SB n c f b Q E e a w):SB n A d b Q E e a w:=
 ⟨H.trans h.1,g.trans h.2.1,h.2.2⟩
theorem oq{P:Program}{f':List Nat}{n:Nat}{E:List Deferred->Env->fD}: ∀(a':vh)(c:Code)(Q:Exit->List Deferred->Env->aj->Prop)(D:List Deferred)(q:Env)(a:Act)(w:World),kk n D q a->
  qN P f' n E a' c Q D q w.heap->c.wp P (SB n a w (writes c) Q E) a w
 | .leaf,c,Q,D,q,a,w,o,h=>by
  unfold qN at h;have K: ∀e,(∀C,e≠ .panic C)->Q e D q w.heap->SB n a w (writes c) Q E e a w:=λe H hq=>⟨fX.refl w,fS.refl _ _,.inl ⟨D,q,o,hq,H⟩⟩
  split at h
  .exact wp_skip (K _ (λ_ e=>by cases e) h)
  .exact wp_label (K _ (λ_ e=>by cases e) h)
  .exact wp_exit (K _ (λ_ e=>by cases e) h)
  .exact wp_ret (K _ (λ_ e=>by cases e) h)
  .rename_i id O;refine wp_mono (wp_region ?_) (λe A r hq=>uq o hq);have:=qc (a0:=a) (w0:=w) O.toList 0 q a w bV o (fX.refl w) (fS.refl _ _) h;rw[gu];rw[ee]at this;exact this
  .exact h.elim
 | .typed ty,c,Q,D,q,a,w,o,h=>by
  unfold qN at h;split at h
  .rename_i id O;refine wp_mono (wp_region ?_) (λe A r hq=>uq o hq);have:=qc (a0:=a) (w0:=w) O.toList 0 q a w bV o (fX.refl w) (fS.refl _ _) h;rw[gu];rw[ee]at this;exact this
  .exact h.elim
 | .lK e',c,Q,D,q,a,w,o,h=>by
  unfold qN at h;split at h
  .rename_i id O;split at h
   .rename_i J;simp only[aU]at J;obtain⟨⟨⟨h1,h2⟩,h3⟩,h4⟩:=J;refine wp_mono (wp_region_any (Q:=Qx n D a w O (Q .normal D) (E D (q.forget (cR O)))) h1 ?_) (λe A r hq=>uq (Q:=Q) o ?_)
    .exact pY _ _ _ _ _ ((Cq (a0:=a) (w0:=w) h2 e').1 O.size (Array.replicate O.size false) [] q a { w with drawn:=w.drawn+1 } h3 h4 o ⟨rfl,rfl,rfl⟩ (fS.refl _ _) (λ_ hm=>by cases hm) h)
    .rcases hq with⟨e,p,j,q1,⟨rfl,q2⟩,q3⟩|hq
     .exact .inl ⟨e,_,j,q1,q2,q3⟩
     .exact .inr hq
   .exact h.elim
  .exact h.elim
 | .seq x y,c,Q,D,q,a,w,o,h=>by
  unfold qN at h;split at h
  .rename_i c d;have hW: ∀t,t∈writes c->t∈writes (.seq c d):=λt s=>eV _ s
   refine wp_seq (wp_mono (oq x c _ D q a w o h) ?_);rintro e A r hq;have hq:=vt hW hq;obtain⟨i,g,⟨p,j,m,hq,H⟩|⟨p,j,v,m,rfl,hE⟩⟩:=hq
   .cases e with
    |normal=>exact wp_mono (oq y d Q p j A r m hq) (λe2 a2 w2 c'=>Lk i g (vt (λt s=>fk _ s) c'))
    |exit id=>exact⟨i,g,.inl ⟨p,j,m,hq,H⟩⟩
    |goto l=>exact⟨i,g,.inl ⟨p,j,m,hq,H⟩⟩
    |ret=>exact⟨i,g,.inl ⟨p,j,m,hq,H⟩⟩
    |panic C=>exact absurd rfl (H C)
    |outgrown=>exact⟨i,g,.inl ⟨p,j,m,hq,H⟩⟩
   .exact⟨i,g,.inr ⟨p,j,v,m,rfl,hE⟩⟩
  .exact h.elim
 | .cond x y,c,Q,D,q,a,w,o,h=>by
  unfold qN at h;split at h
  .rename_i k c d;split at h
   .rename_i g' hq;have H:=o.fits _ _ hq;split at h
    .rename_i s;subst s;exact wp_cond_true H (wp_mono (oq x c Q D q a w o h) (λ_ _ _=>vt λt s=>eV _ s))
    .rename_i s;have s:g'=false:=by simpa using s
     subst s;exact wp_cond_false H (wp_mono (oq y d Q D q a w o h) (λ_ _ _=>vt λt s=>fk _ s))
   .exact h.elim
  .exact h.elim
 | .block x,c,Q,D,q,a,w,o,h=>by
  unfold qN at h;split at h
  .rename_i id c;refine wp_block (wp_mono (oq x c _ D q a w o h) ?_);rintro e A r ⟨i,g,⟨p,j,m,hq,H⟩|⟨p,j,v,m,rfl,hE⟩⟩
   .cases e with
    |exit S=>
     simp only[Exit.inBlock];simp only[NR]at hq;by_cases hid:S=id
     .subst hid;simp only[Nat.beq_refl]at hq;rw[ag rfl];exact⟨i,g,.inl ⟨p,j,m,hq,λ_ e=>by cases e⟩⟩
     .rw[af hid];have:Nat.beq S id=false:=by cases J:Nat.beq S id;rfl;exact absurd (bY J) hid
      rw[this]at hq;exact⟨i,g,.inl ⟨p,j,m,hq,H⟩⟩
    |normal=>exact⟨i,g,.inl ⟨p,j,m,hq,H⟩⟩
    |goto l=>exact⟨i,g,.inl ⟨p,j,m,hq,H⟩⟩
    |ret=>exact⟨i,g,.inl ⟨p,j,m,hq,H⟩⟩
    |panic C=>exact absurd rfl (H C)
    |outgrown=>exact⟨i,g,.inl ⟨p,j,m,hq,H⟩⟩
   .exact⟨i,g,.inr ⟨p,j,v,m,rfl,hE⟩⟩
  .exact h.elim
 | .loop L x,c,Q,D,q,a,w,o,h=>by
  unfold qN at h;split at h
  .rename_i c;obtain⟨I,μ,h0,d'⟩:=h;refine wp_loop (λA r=> ∃j,kk n D j A/\oL False L I j (λf=>f r.heap)/\fX w r/\fS (writes c) a A)
    (λA r=>oL 0 L μ (ye A) (λf=>f r.heap)) ⟨q,o,h0,fX.refl w,fS.refl _ _⟩ ?_
   rintro A r ⟨j,m,U,i,g⟩;obtain⟨M,hF,R,hL,_⟩:=zL L _ I d' U;have Z:=kk.uj o m g R;have V:oL False L I M (λf=>f r.heap):=by rw[oY L I hL];exact U
   have hd:=hF r.heap V;refine wp_mono (oq x c _ D M A r Z hd) ?_;rintro e a1 w1 ⟨F,G,⟨B,z,u,hq,H⟩|⟨B,z,v,u,rfl,hE⟩⟩
   .cases e with
    |normal=>
     obtain⟨rfl,X,b'⟩:=hq;refine⟨⟨z,u,X,i.trans F,g.trans G⟩,?_⟩;have T: ∀b:Act,ye { b with defers:= [] } =ye b:=λ_=>rfl
     rw[<-T a1,<-T A,na u.bare (pX L I X),na Z.bare (pX L I V)];exact b'
    |exit id=>exact⟨i.trans F,g.trans G,.inl ⟨B,z,u,hq,H⟩⟩
    |goto l=>exact⟨i.trans F,g.trans G,.inl ⟨B,z,u,hq,H⟩⟩
    |ret=>exact⟨i.trans F,g.trans G,.inl ⟨B,z,u,hq,H⟩⟩
    |panic C=>exact absurd rfl (H C)
    |outgrown=>exact⟨i.trans F,g.trans G,.inl ⟨B,z,u,hq,H⟩⟩
   .exact⟨i.trans F,g.trans G,.inr ⟨B,z,v,u,rfl,hE⟩⟩
  .exact h.elim
 | .join L x,c,Q,D,q,a,w,o,h=>by
  unfold qN at h;unfold aH at h;refine wp_mono (oq x c _ D q a w o h) ?_;rintro e A r ⟨i,g,⟨p,j,m,hq,H⟩|hE⟩
  .cases e with
   |normal=>
    obtain⟨rfl,hq⟩:=hq;obtain⟨M,hQ,R⟩:=Af L _ hq;exact⟨i,g,.inl ⟨_,M,kk.uj o m g R,hQ,H⟩⟩
   |exit id=>exact⟨i,g,.inl ⟨p,j,m,hq,H⟩⟩
   |goto l=>exact⟨i,g,.inl ⟨p,j,m,hq,H⟩⟩
   |ret=>exact⟨i,g,.inl ⟨p,j,m,hq,H⟩⟩
   |panic C=>exact absurd rfl (H C)
   |outgrown=>exact⟨i,g,.inl ⟨p,j,m,hq,H⟩⟩
  .exact⟨i,g,.inr hE⟩
 | .scope _ _ _ _,_,_,_,_,_,_,_,h=>by unfold qN at h;exact h.elim
def yh:Option Value->FrameMode
 |none=> .returning
 |some v=> .panicking (ring v)
def rB(P:Program)(g:FuncId)(args:Array Value)(R:Option Value)(h:aj)(K:Option Value->aj->Prop):Prop:=
 ∀w:World,w.heap=h->CallsD P g args (yh R) w λe u a=>(∃v,e=.returned v)/\fX w a/\∃r,settle u=yh r/\K r a.heap
def NS(A:aj->Prop)(E:fD):Option Value->aj->Prop
 |none,h=>A h
 |some v,h=>E v h
def Am(P:Program)(r:List ResultVar)(R E:fD):List Deferred->Option Value->Env->aj->Prop
 | [],none,a,h=>uk P r a h λV=>R (yf V) h
 | [],some v,_,h=>E v h
 | [d],b,a,h=>(match d.target with
  | .fn (.func g) cap=>(match pU P g with
   |true=>rB P g (d.args.toList++cap.toList).toArray b h (NS (λH=>uk P r a H λV=>R (yf V) H) E)
   |false=>False)
  |_=>False)
 |_::_::_,_,_,_=>False
theorem QD{P:Program}{n:Nat}{D:List Deferred}{b:Env}{a:Act}{h:aj}{f:Func}{F:Value->Prop}(c:kk n D b a)(H:uk P f.results.toList b h λV=>F (yf V)): ∃v,F v/\rd P (results f a.tmps) h=some v:=
 um (a:= { a with defers:= [] }) c.bare H
theorem An{P:Program}{n:Nat}{f:Func}{R E:fD}{j:World}{D:List Deferred}{rv:Option Value}{m:Env}{a:Act}{w:World}(z:kk n D m a)(i:fX j w)(h:Am P f.results.toList R E D rv m w.heap):
  Leaves P f a.tmps (λe b=>fX j b/\((∃v,e=.returned v/\R v b.heap)\/∃v,e=.panicked (ring v)/\E v b.heap)) D (yh rv) w:=by
 have o: ∀(rv:Option Value)(w:World),fX j w->(match rv with|none=>uk P f.results.toList m w.heap λV=>R (yf V) w.heap|some v=>E v w.heap)->
   Leaves P f a.tmps (λe b=>fX j b/\((∃v,e=.returned v/\R v b.heap)\/∃v,e=.panicked (ring v)/\E v b.heap)) [] (yh rv) w:=by
  intro rv w i h;cases rv with
  |none=>
   obtain⟨v,k,l⟩:=QD (F:=λv=>R v w.heap) z h;exact⟨v,qW _ _ _ l,i,.inl ⟨v,rfl,k⟩⟩
  |some v=>exact⟨i,.inr ⟨v,rfl,h⟩⟩
 match D,h with
 | [],h=>
  refine o rv w i ?_;cases rv<;>exact h
 | [d],h=>
  simp only[Am]at h;split at h
  .rename_i g cap p;split at h
   .rename_i H;refine⟨by cases rv<;>simp[yh],.func g,cap,g,(d.args.toList++cap.toList).toArray,p,?_,?_⟩
    .rw[p];unfold pU at H;split at H
     .rename_i F t;simp only[aU,Bool.not_eq_true']at H;have x:F.body.isNone=false:=by cases y:F.body<;>simp[y]at H⊢
      have e:d.args++cap=(d.args.toList++cap.toList).toArray:=by apply Array.ext';simp
      rw[<-e];refine qW _ _ _ ?_;simp only[invoke,callFunc];show rd P (match P.funcs[g]? with|none=>_|some f=>_) w.heap=_;rw[t];simp only[H.2,x,aq,aL];rfl
     .cases H
    .intro c C B;obtain⟨e,u,b,q,⟨⟨v,rfl⟩,A,r,k,l⟩,s⟩:=h w rfl c C B;refine⟨_,u,b,q,?_,s⟩;show Leaves P f a.tmps _ [] (settle u) b;rw[k];exact o r b (i.trans A) (by cases r<;>exact l)
   .exact h.elim
  .exact h.elim
 |_::_::_,h=>exact h.elim
def UZ(P:Program)(r:Array ResultVar)(R E:fD):Exit->List Deferred->Env->aj->Prop
 | .normal,D,a,h=>Am P r.toList R E D none a h
 | .ret,D,a,h=>Am P r.toList R E D none a h
 |_,_,_,_=>False
theorem iL{P:Program}{f:FuncId}{F:Func}{args:List Value}{h:aj}{R E:fD}(A:vh)(u:List Nat)(q:P.funcs[f]? =some F)(o:F.body.isSome=true)(n:Nat.ble args.length F.ntmps=true)(m:qN P u F.ntmps (λD i v h=>Am P F.results.toList R E D (some v) i h) A (uo F) (UZ P F.results R E) [] (nC args) h):iQ P f args.toArray h R E:=by
 obtain⟨c,k⟩:=dZ.1 o;rw[uo,k]at m;intro w s;subst s;have n:=Nat.le_of_ble_eq_true n;refine calls_of_wp_defers q k ?_;have H:kk F.ntmps [] (nC args) { tmps:=args.toArray++Array.replicate (F.ntmps - args.toArray.size) undef,defers:= [] } :=by
  refine⟨by simp;omega,λt v g=> ?_,rfl⟩;unfold nC at g;have r:t<args.length:=(aE.1 g).1;simp only[fC];rw[dR (by simpa using r)];simp[g]
 refine wp_mono (oq A c _ _ _ _ w H m) ?_;rintro e a x ⟨d,_,⟨D,i,H,b,p⟩|⟨D,i,v,H,rfl,j⟩⟩
 .cases e with
  |normal=>rw[<-H.defs]at b H;exact An (rv:=none) H d b
  |ret=>rw[<-H.defs]at b H;exact An (rv:=none) H d b
  |exit id=>exact b.elim
  |goto l=>exact b.elim
  |panic C=>exact absurd rfl (p C)
  |outgrown=>exact b.elim
 .rw[<-H.defs]at j H;exact An (rv:=some v) H d j
inductive RS where
 |calm
 |NT (v:Value)
 |done (v:Value)
def RS.mode:RS->FrameMode
 | .calm=> .returning
 | .NT v=> .panicking (ring v)
 | .done v=> .panicking [{ v,recovered:=true }]
def RS.left:RS->Option Value
 | .NT v=>some v
 |_=>none
def RS.of:Option Value->RS
 |none=> .calm
 |some v=> .NT v
theorem RS.settle(a:RS):settle a.mode=yh a.left:=by cases a<;>rfl
theorem RS.QE(r:Option Value):(RS.of r).mode=yh r:=by cases r<;>rfl
def isRec(o:Oper):Bool:=match o.op with
 | .call { callee:=.builtin .recover,args:=_,argTypes:=_ } =>true
 |_=>false
theorem Ll{P:Program}{o:Oper}{a:Operand->Value}{w:World}(h:isRec o=true):(execOp a o).run P w=.ok .recover w:=by
 unfold isRec at h;split at h
 .rename_i H;unfold execOp;rw[H];rfl
 .cases h
def II(P:Program)(o:Oper)(a:Env)(h:aj)(K:fD):Prop:=
 match o.op with
 | .typeAssert x X A O=>(match a.ev x with
  |some v=>aW P (Instr.typeAssert v X A O) h K
  |none=>False)
 |_=>x9 P o a h K
theorem Lm{P:Program}{o:Oper}{c:Env}{b:Operand->Value}{h:aj}{K:fD}(a:Fits c b)(H:II P o c h K):qX P o b h K:=by
 unfold II at H;split at H
 .rename_i x X A O d;split at H
  .rename_i v e;unfold qX execOp;rw[d];simp only[a _ _ e];rw[dU];exact H
  .exact H.elim
 .exact oZ a H
def jU(P:Program)(n:Nat)(O:Array Oper)(t:List (Nat×Sh)):List Oper->RS->Env->aj->(RS->Env->aj->Prop)->Prop
 | [],c,a,h,K=>K c a h
 |o::r,c,a,h,K=>(match isRec o with
  |true=>jO O o a
   (λa=>(match c with
    | .NT v=>jg n a o.dst v λb=>jU P n O t r (.done v) b h K
    | .calm=>jg n a o.dst .nilIface λb=>jU P n O t r .calm b h K
    | .done v=>jg n a o.dst .nilIface λb=>jU P n O t r (.done v) b h K))
   (λa=>jg n a o.dst undef λb=>jU P n O t r c b h K)
  |false=>jO O o a
   (λa=>II P o a h λv H=>Gb t o.dst v λv=>jg n a o.dst v λb=>jU P n O t r c b H K)
   (λa=>jg n a o.dst undef λb=>jU P n O t r c b h K))
def TE(n:Nat)(A:Act)(h:World)(d:List Nat)(C:Frame)(g:List Frame)(Q:Exit->RS->Env->aj->Prop):Exit->Act->List Frame->World->Prop:=
 λe a f w=> ∃b c,f= { C with mode:=b.mode } ::g/\Rel n c a/\Q e b c w.heap/\fX h w/\fS d A a
def NU(K:RS->Env->aj->Prop):Exit->RS->Env->aj->Prop
 | .normal=>K
 |_=>λ_ _ _=>False
theorem Ao {P : Program} {n : Nat} {ops : Array Oper} {ty : List (Nat × Sh)} {K : RS → Env → aj → Prop} {a0 : Act} {w0 : World} {c0 : Frame} {cs0 : List Frame} : ∀ (rest : List Oper) (k : Nat) (ρ : RS) (σ : Env) (a : Act) (w : World),
    (∀ j, rest[j]? = ops[k + j]?) → Rel n σ a → fX w0 w → fS (cR ops) a0 a → jU P n ops ty rest ρ σ w.heap K → wpOpsS P ops (TE n a0 w0 (cR ops) c0 cs0 (NU K)) (List.range' k rest.length) a ({ c0 with mode := ρ.mode } :: cs0) w
  | [], k, ρ, σ, a, w, _, hr, hs, hu, h => ⟨ρ, σ, rfl, hr, h, hs, hu⟩
  | o :: rest, k, ρ, σ, a, w, hj, hr, hs, hu, h => by
    have h0 : ops[k]? = some o := by have := hj 0; simpa using this.symm
    have Wo : ∀ j, rest[j]? = ops[k + 1 + j]? := λj => by have := hj (j + 1); simpa [Nat.add_assoc, Nat.add_comm 1 j] using this
    simp only [List.length_cons, List.range'_succ, wpOpsS, h0]
    unfold jU at h
    have next : ∀ {Ix : Env} {v : Value} {SD : RS} {w' : World}, fX w w' → Rel n Ix a → (jg n Ix o.dst v λIx => jU P n ops ty rest SD Ix w'.heap K) →
        wpOpsS P ops (TE n a0 w0 (cR ops) c0 cs0 (NU K)) (List.range' (k + 1) rest.length) (a.put o.dst v) ({ c0 with mode := SD.mode } :: cs0) w' := by
      intro Ix v SD w' U0 Ky h
      obtain ⟨Wp, Wq, h1⟩ := ju Ky h
      exact Ao rest (k + 1) SD Wp _ w' Wo Wq (hs.trans U0) (hu.trans (fS.put (fh h0))) h1
    split at h
    · rename_i U1
      rcases kf hr h with ⟨hw, Ix, Ky, h⟩ | ⟨hw, Ix, Ky, h⟩
      · rw [if_pos hw, Ll U1]
        cases ρ with
        | calm => exact next (SD := .calm) (fX.refl w) Ky h
        | NT v => exact next (SD := .done v) (fX.refl w) Ky h
        | done v => exact next (SD := .done v) (fX.refl w) Ky h
      · rw [if_neg (by rw [hw]; simp)]
        exact next (fX.refl w) Ky h
    · rcases kf hr h with ⟨hw, Ix, Ky, h⟩ | ⟨hw, Ix, Ky, h⟩
      · rw [if_pos hw]
        obtain ⟨x, w', r1, r2, r3⟩ := pT _ _ _ (Lm Ky.fits h) w rfl
        rw [r1]
        cases x with
        | value v => exact next r3 Ky (rk (F := λv => jg n Ix o.dst v λIx => jU P n ops ty rest ρ Ix w'.heap K) r2)
        | skip => exact next r3 Ky (rk (F := λv => jg n Ix o.dst v λIx => jU P n ops ty rest ρ Ix w'.heap K) r2)
        | enter f args =>
          refine (r2 w' rfl).mono ?_
          rintro e W8 ⟨v, rfl, hR, U0⟩
          exact next (r3.trans U0) Ky (rk hR)
        | _ => exact r2.elim
      · rw [if_neg (by rw [hw]; simp)]
        exact next (fX.refl w) Ky h
def thenS(K:RS->Env->aj->Prop)(Q:Exit->RS->Env->aj->Prop):Exit->RS->Env->aj->Prop
 | .normal=>K
 |e=>Q e
def IJ(P:Program)(n:Nat):vh->Code->(Exit->RS->Env->aj->Prop)->RS->Env->aj->Prop
 | .seq a b,c,Q,f,g,h=>(match c with
  | .seq c d=>IJ P n a c (thenS (λj i H=>IJ P n b d Q j i H) Q) f g h
  |_=>False)
 | .typed t,c,Q,f,g,h=>(match c with
  | .region _ o false=>jU P n o t o.toList f g h (Q .normal)
  |_=>False)
 | .leaf,c,Q,f,g,h=>(match c with
  | .region _ o false=>jU P n o [] o.toList f g h (Q .normal)
  |c=>den P n .leaf none c (λe i H=>Q e f i H) g h)
 |Ws,c,Q,f,g,h=>den P n Ws none c (λe i H=>Q e f i H) g h
theorem QF{P:Program}{n:Nat}{c0:Frame}{cs0:List Frame}: ∀(A:vh)(c:Code)(Q:Exit->RS->Env->aj->Prop)(f:RS)(g:Env)(a:Act)(w:World),Rel n g a->IJ P n A c Q f g w.heap->
  c.wpS P (TE n a w (writes c) c0 cs0 Q) a ({ c0 with mode:=f.mode } ::cs0) w:=by
 have M: ∀{c:Code}{Q I:Exit->Act->List Frame->World->Prop}{a:Act}{C:List Frame}{w:World},c.wpS P Q a C w->(∀e a C w,Q e a C w->I e a C w)->c.wpS P I a C w:=
  λh j b k K H=>let ⟨e,u,D,z,b',c'⟩:=h b k K H;⟨e,u,D,z,j _ _ _ _ b',c'⟩
 have p: ∀(A:vh)(c:Code)(Q:Exit->RS->Env->aj->Prop)(f:RS)(g:Env)(a:Act)(w:World),Rel n g a->den P n A none c (λe i J=>Q e f i J) g w.heap->
   c.wpS P (TE n a w (writes c) c0 cs0 Q) a ({ c0 with mode:=f.mode } ::cs0) w:=λA c Q f g a w H h=>
  wpS_of_wp (wp_mono (lg A none c _ g a w H h).wp λe u z ⟨i,v,E,B,F⟩=>⟨f,i,rfl,v,E,B,F⟩)
 have R: ∀(id:Nat)(o:Array Oper)(T:List (Nat×Sh))(Q:Exit->RS->Env->aj->Prop)(f:RS)(g:Env)(a:Act)(w:World),Rel n g a->jU P n o T o.toList f g w.heap (Q .normal)->
   (Code.region id o false).wpS P (TE n a w (cR o) c0 cs0 Q) a ({ c0 with mode:=f.mode } ::cs0) w:=λid o T Q f g a w H h=>by
  refine M (wpS_region (Q:=TE n a w (cR o) c0 cs0 (NU (Q .normal))) ?_) ?_
  .have:=Ao (c0:=c0) (cs0:=cs0) (a0:=a) (w0:=w) o.toList 0 f g a w bV H (fX.refl w) (fS.refl _ _) h;rw[gu];rw[ee]at this;exact this
  .rintro e u D z ⟨l,i,v,E,B,F⟩;cases e with
   |normal=>exact⟨l,i,v,E,B,F⟩
   |_=>exact B.elim
 intro A;induction A with
 |seq x y X Z=>
  intro c Q f g a w H h;unfold IJ at h;split at h
  .rename_i c d;have m: ∀t,t∈writes c->t∈writes (.seq c d):=λt G=>eV _ G
   refine wpS_seq (M (X c _ f g a w H h) ?_);rintro e u D z ⟨l,i,rfl,q,j,r,s⟩;cases e with
   |normal=>
    refine M (Z d Q l i u z q j) ?_;rintro e2 a2 f' w2 ⟨d',e',v,S,O,U,V⟩;exact⟨d',e',v,S,O,r.trans U,(s.mono m).trans (V.mono λt G=>fk _ G)⟩
   |exit id=>exact⟨l,i,rfl,q,j,r,s.mono m⟩
   |goto g'=>exact⟨l,i,rfl,q,j,r,s.mono m⟩
   |ret=>exact⟨l,i,rfl,q,j,r,s.mono m⟩
   |panic ch=>exact⟨l,i,rfl,q,j,r,s.mono m⟩
   |outgrown=>exact⟨l,i,rfl,q,j,r,s.mono m⟩
  .exact h.elim
 |typed T=>
  intro c Q f g a w H h;unfold IJ at h;split at h
  .exact R _ _ T Q f g a w H h
  .exact h.elim
 |leaf=>
  intro c Q f g a w H h;unfold IJ at h;split at h
  .exact R _ _ [] Q f g a w H h
  .exact p .leaf c Q f g a w H h
 |cond x y=>exact λc Q f g a w H h=>p _ c Q f g a w H h
 |block x=>exact λc Q f g a w H h=>p _ c Q f g a w H h
 |loop L x=>exact λc Q f g a w H h=>p _ c Q f g a w H h
 |join L x=>exact λc Q f g a w H h=>p _ c Q f g a w H h
 |lK a'=>exact λc Q f g a w H h=>p _ c Q f g a w H h
 |kz a'=>exact λc Q f g a w H h=>p _ c Q f g a w H h
 |scope h' L x y=>exact λc Q f g a w H h=>p _ c Q f g a w H h
def U2(P:Program)(r:Array ResultVar)(K:Option Value->aj->Prop):Exit->RS->Env->aj->Prop
 | .normal,a,b,h=>uk P r.toList b h λ_=>K a.left h
 | .ret,a,b,h=>uk P r.toList b h λ_=>K a.left h
 |_,_,_,_=>False
theorem rC{P:Program}{f:FuncId}{F:Func}{args:List Value}{r:Option Value}{h:aj}{K:Option Value->aj->Prop}(m:vh)(B:P.funcs[f]? =some F)(i:F.body.isSome=true)(q:Nat.ble args.length F.ntmps=true)(p:IJ P F.ntmps m (uo F) (U2 P F.results K) (RS.of r) (nC args) h):rB P f args.toArray r h K:=by
 obtain⟨c,o⟩:=dZ.1 i;rw[uo,o]at p;intro w O;subst O;have q:=Nat.le_of_ble_eq_true q;refine callsD_of_wpS B o λC g I=> ?_
 have E:C= { C with mode:=(RS.of r).mode } :=by rw[RS.QE,<-I]
 have J:Rel F.ntmps (nC args) { tmps:=args.toArray++Array.replicate (F.ntmps - args.toArray.size) undef,defers:= [] } :=by
  refine⟨rfl,by simp;omega,λt v j=> ?_⟩;unfold nC at j;have G:t<args.length:=(aE.1 j).1;simp only[fC];rw[dR (by simpa using G)];simp[j]
 have u:=QF (c0:=C) (cs0:=g) m c _ (RS.of r) _ _ w J p;rw[<-E]at u;intro b k i L;obtain⟨e,A,T,a,⟨d,Q,rfl,s,H,M,_⟩,z⟩:=u b k i L;refine⟨e,A,_,a,?_,z⟩;have n:(uk P F.results.toList Q a.heap λ_=>K d.left a.heap)->A.defers= []/\∃U,({ C with mode:=d.mode } ::g:List Frame)= { C with mode:=U } ::g/\∃v,(results F A.tmps).run P a=.ok v a/\(∃V,Ending.returned v=.returned V)/\fX w a/\∃R,Go.settle U=yh R/\K R a.heap:=λD=>by
  obtain⟨v,x,y⟩:=um (F:=λ_=>K d.left a.heap) s D;exact⟨s.defers,d.mode,rfl,v,qW _ _ _ y,⟨v,rfl⟩,M,d.left,RS.settle d,x⟩
 cases e with
 |normal=>exact n H
 |ret=>exact n H
 |exit id=>exact H.elim
 |goto l=>exact H.elim
 |panic S=>exact H.elim
 |outgrown=>exact H.elim
end Go.Den
namespace Go.Den
theorem kO{h:aj}{b i:Nat}{c:Array Value}{t:TypeId}{f:Nat×Nat}(H:h[b]? =some (.C c t f)):aY h (AA b i)=c[i]? :=by
 simp[aY,H]
theorem mi{h:aj}{b i:Nat}{c:Array Value}{t:TypeId}(H:h[b]? =some (.C c t (0,0))):pR h (AA b i)=false:=by
 simp[pR,H]
theorem Ap{h:aj}{a:Addr}{v:Value}(H:aY h a=some v): ∃c t f,h[a.block]? =some (.C c t f)/\a.spot=none/\c[a.off]? =some v:=by
 unfold aY at H;split at H
 .rename_i c t f b;split at H
  .cases H
  .rename_i d;exact⟨c,t,f,b,by simpa using d,H⟩
 .cases H
theorem aC{h:aj}{b:Nat}{o:Obj}(H:h[b]? =some o):b<h.size:=(Array.getElem?_eq_some_iff.1 H).1
theorem Aq{h:aj}{b:Nat}{o x:Obj}(H:h[b]? =some o):(h.push x)[b]? =some o:=by
 rw[fZ,af (Nat.ne_of_lt (aC H)),H]
theorem bZ{h:aj}{x:Obj}:(h.push x)[h.size]? =some x:=bV
theorem wT{h:aj}{b i:Nat}{c:Array Value}{t:TypeId}{f:Nat×Nat}{v:Value}(H:h[b]? =some (.C c t f)):(oW h (AA b i) v)[b]? =some (.C (c.setIfInBounds i v) t f):=by
 simp[oW,dE,H]
theorem ur{h:aj}{a:Addr}{b:Nat}{v:Value}(H:b≠a.block):(oW h a v)[b]? =h[b]? :=by
 simp[oW,dE,fJ H]
theorem Di{h:aj}{a:Addr}{v:Value}:(oW h a v).size=h.size:=by simp[oW]
theorem hY(b o n:Nat):((AA b o):Addr).add n=(AA b (o+n)):=by
 unfold Addr.add;split
 .rename_i h;subst h;rfl
 .rfl
theorem add_add(a:Addr)(m n:Nat):(a.add m).add n=a.add (m+n):=by
 unfold Addr.add;split
 .rename_i h;subst h;simp
 .split
  .rename_i h H;subst H;simp[h]
  .rename_i h H;have:m+n≠0:=ae
   rw[af this];simp[Nat.add_assoc]
def Fr(S:Nat->Prop)(h H:aj):Prop:=h.size<=H.size/\∀c,c<h.size->¬S c->H[c]? =h[c]?
theorem Fr.refl(S:Nat->Prop)(h:aj):Fr S h h:=⟨bm _,λ_ _ _=>rfl⟩
theorem Fr.get{S:Nat->Prop}{h H:aj}(b:Fr S h H){c:Nat}{o:Obj}(a:h[c]? =some o)(d: ¬S c):H[c]? =some o:=
 (b.2 c (aC a) d).trans a
theorem Fr.trans{S s S'':Nat->Prop}{h d e:aj}(a:Fr S h d)(f:Fr s d e)(i: ∀c,c<h.size->S c->S'' c)(j: ∀c,c<h.size->s c->S'' c):Fr S'' h e:=
 ⟨cE a.1 f.1,λc H g=>(f.2 c (cA H a.1) (λb=>g (j c H b))).trans (a.2 c H (λb=>g (i c H b)))⟩
theorem Fr.mono{S s:Nat->Prop}{h H:aj}(b:Fr S h H)(f: ∀c,c<h.size->S c->s c):Fr s h H:=
 ⟨b.1,λc a d=>b.2 c a (λe=>d (f c a e))⟩
theorem Fr.push{S:Nat->Prop}(h:aj)(o:Obj):Fr S h (h.push o):=
 ⟨bV,λc H _=>by rw[fZ,af (Nat.ne_of_lt H)]⟩
theorem Fr.cell{S:Nat->Prop}{h H:aj}(e:Fr S h H){a:Addr}{v:Value}(d:aY h a=some v)(g: ¬S a.block):aY H a=some v:=by
 obtain⟨c,t,f,b,i,j⟩:=Ap d;have:=e.get b g;unfold aY;rw[this];simp[i,j]
def jv(l:List (Int×Value))(k:Int):Option Value:=(l.find? (·.1==k)).map (·.2)
def Gg(l:List (Int×Value))(k:Int)(v:Value):List (Int×Value):=if(jv l k).isSome=true then l.map (λe=>if e.1==k then(k,v)else e)else l++ [(k,v)]
def wU(l:List (Int×Value))(k:Int):List (Int×Value):=l.filter (λe=> !(e.1==k))
theorem NV(k:Int):jv [] k=none:=rfl
theorem hO(e:Int×Value)(l:List (Int×Value))(k:Int):jv (e::l) k=if e.1=k then some e.2 else jv l k:=by
 unfold jv;by_cases h:e.1=k<;>simp[h]
theorem Gh{l:List (Int×Value)}{k:Int}:(jv l k).isSome=true↔k∈l.map (·.1):=by
 induction l with
 |nil=>simp[jv]
 |cons e l i=>
  rw[hO,cu,bK];by_cases h:e.1=k
  .simp[h]
  .rw[af h,i];constructor
   .exact λhm=> .inr hm
   .rintro(E|hm)
    .exact absurd E.symm h
    .exact hm
theorem Ar(l:List (Int×Value))(k K:Int)(v:Value)(H:K≠k):jv (l.map (λe=>if e.1==k then(k,v)else e)) K=jv l K:=by
 induction l with
 |nil=>rfl
 |cons e l i=>
  rw[cu,hO,hO,i];by_cases h:e.1=k
  .simp[h,fJ H]
  .simp[h]
theorem Cr(l:List (Int×Value))(k:Int)(v:Value)(H:(jv l k).isSome=true):jv (l.map (λe=>if e.1==k then(k,v)else e)) k=some v:=by
 induction l with
 |nil=>simp[jv]at H
 |cons e l i=>
  rw[cu,hO];by_cases h:e.1=k
  .simp[h]
  .rw[hO,af h]at H;have a:(e.1==k)=false:=by simp[h]
   rw[a];simp only[aq,aL,af h];exact i H
theorem Gi(l L:List (Int×Value))(k:Int):jv (l++L) k=(jv l k).or (jv L k):=by
 induction l with
 |nil=>simp[jv]
 |cons e l i=>
  rw[eJ,hO,hO,i];by_cases h:e.1=k<;>simp[h]
theorem Ln(l:List (Int×Value))(k K:Int)(v:Value):jv (Gg l k v) K=if K=k then some v else jv l K:=by
 unfold Gg;by_cases H:(jv l k).isSome=true
 .rw[ag H];by_cases h:K=k
  .subst h;rw[ag rfl,Cr _ _ _ H]
  .rw[af h,Ar _ _ _ _ h]
 .rw[af H,Gi,hO,NV];have a:jv l k=none:=by simpa using H
  by_cases h:K=k
  .subst h;simp[a]
  .simp[h,fJ h]
theorem Lo(l:List (Int×Value))(k K:Int):jv (wU l k) K=if K=k then none else jv l K:=by
 unfold wU;induction l with
 |nil=>simp[jv]
 |cons e l i=>
  rw[cC,hO];by_cases h:e.1=k
  .subst h;simp only[fy,cU,aq,aL];rw[i];by_cases H:K=e.1
   .simp[H]
   .simp[H,fJ H]
  .have a:(!(e.1==k))=true:=by simp[h]
   rw[ag a,hO,i];by_cases H:K=k
   .subst H;simp[h]
   .simp[H]
theorem Lp(l:List (Int×Value))(k:Int)(v:Value)(d:(l.map (·.1)).Nodup):((Gg l k v).map (·.1)).Nodup:=by
 unfold Gg;by_cases H:(jv l k).isSome=true
 .rw[ag H];have:(l.map (λe=>if e.1==k then(k,v)else e)).map (·.1)=l.map (·.1):=by
   rw[dJ];apply eH
   intro e _;by_cases h:e.1=k<;>simp[h]
  rw[this];exact d
 .rw[af H,aV];rw[Gh]at H;rw[ft];exact⟨d,bV,by intro a f b c;simp at c;subst c;intro e;subst e;exact H f⟩
theorem Lq(l:List (Int×Value))(k:Int)(h:(l.map (·.1)).Nodup):((wU l k).map (·.1)).Nodup:=
 List.Sublist.nodup (gh _ cS) h
def rD(h:aj)(m:Nat)(l:List (Int×Value)):Prop:=
 ∃(E:Array MapEntry)(c:Nat),h[m]? =some (.map E c)/\E.toList.map (λe=>(e.key,e.val))=l.map (λe=>(Value.int .i64 e.1,e.2))/\(l.map (·.1)).Nodup/\
  (∀e∈E.toList,e.born<c)/\(E.toList.map (·.born)).Nodup
def oe(h:aj)(m:Nat)(f:Int->Option Value):Prop:= ∃l,rD h m l/\∀k,jv l k=f k
theorem rD.nE{h h':aj}{m:Nat}{l:List (Int×Value)}(d:rD h m l)(b:h'[m]? =h[m]?):rD h' m l:=by
 obtain⟨e,c,H,a⟩:=d;exact⟨e,c,b.trans H,a⟩
theorem rD.lt{h:aj}{m:Nat}{l:List (Int×Value)}(a:rD h m l):m<h.size:=by
 obtain⟨e,c,H,_⟩:=a;exact aC H
theorem rD.frame{S:Nat->Prop}{h H:aj}{m:Nat}{l:List (Int×Value)}(a:rD h m l)(b:Fr S h H)(c: ¬S m):rD H m l:=
 a.nE (b.2 m a.lt c)
theorem oe.nE{h h':aj}{m:Nat}{f:Int->Option Value}(c:oe h m f)(b:h'[m]? =h[m]?):oe h' m f:=by
 obtain⟨l,H,a⟩:=c;exact⟨l,H.nE b,a⟩
theorem oe.lt{h:aj}{m:Nat}{f:Int->Option Value}(a:oe h m f):m<h.size:=by
 obtain⟨l,H,_⟩:=a;exact H.lt
theorem oe.frame{S:Nat->Prop}{h H:aj}{m:Nat}{f:Int->Option Value}(d:oe h m f)(c:Fr S h H)(e: ¬S m):oe H m f:=by
 obtain⟨l,a,b⟩:=d;exact⟨l,a.frame c e,b⟩
theorem oe.map{h:aj}{m:Nat}{f:Int->Option Value}(a:oe h m f): ∃e c,h[m]? =some (.map e c):=by
 obtain⟨l,⟨e,c,H,_⟩,_⟩:=a;exact⟨e,c,H⟩
theorem rD.push(h:aj):rD (h.push (.map #[] 0)) h.size []:=⟨#[],0,bZ,rfl,bV,bV,bV⟩
theorem oe.push(h:aj):oe (h.push (.map #[] 0)) h.size (λ_=>none):=⟨[],rD.push h,λ_=>rfl⟩
theorem rE{k:Int}: ∀(E:List MapEntry)(l:List (Int×Value))(i:Nat)(d:IntKind),E.map (λe=>(e.key,e.val))=l.map (λe=>(Value.I e.1,e.2))->
  (jv l k=none->Instr.findNow (.int d) (.I k) E i=some none)/\
  (∀v,jv l k=some v->∃j,Instr.findNow (.int d) (.I k) E i=some (some (i+j,v))/\∃e,E[j]? =some e/\e.key=.I k/\e.val=v)
 | [],l,i,d,h=>by
  have:l= []:=by cases l<;>simp at h⊢
  subst this;exact⟨λ_=>rfl,λv f=>by simp[jv]at f⟩
 |e::E,l,i,d,h=>by
  cases l with
  |nil=>simp at h
  |cons x l=>
   simp only[cu,List.cons.injEq,gT]at h;obtain⟨⟨g,f⟩,r⟩:=h;have I:=rE (k:=k) E l (i+1) d r;have c:Instr.sameNow (.int d) (.I k) e.key=some (k==x.1):=by rw[g];simp[Instr.sameNow]
   by_cases a:x.1=k
   .refine⟨(λb=>by rw[hO,ag a]at b;cases b),λv H=>⟨0,?_,e,rfl,by rw[g,a],?_⟩⟩
    .rw[hO,ag a]at H;simp only[bH]at H;simp[Instr.findNow,c,a,f,H]
    .rw[hO,ag a]at H;simp only[bH]at H;rw[f,H]
   .have q:(k==x.1)=false:=by simp[fJ a]
    rw[q]at c;refine⟨λb=> ?_,λv H=> ?_⟩
    .rw[hO,af a]at b;simp only[Instr.findNow,c];exact I.1 b
    .rw[hO,af a]at H;obtain⟨j,n,m,o,p⟩:=I.2 v H;refine⟨j+1,?_,m,by simpa using o,p⟩;simp only[Instr.findNow,c];rw[n,show i+1+j=i+(j+1) by omega]
section
variable {P : Program}
theorem rF{e:Bool}{n:Nat}{t:TypeId}{d:IntKind}{v:Value}{h:aj}(H:P.underlying t=some (.int d)):rd P (Instr.checkKey e (n+1) t v) h=some ():=by
 unfold Instr.checkKey;rw[bF _ _ _ _ (bN H)];rfl
theorem mC{t:TypeId}{d:IntKind}{k:Int}{E:List MapEntry}{l:List (Int×Value)}{h:aj}(b:P.underlying t=some (.int d))(a:E.map (λe=>(e.key,e.val))=l.map (λe=>(Value.I e.1,e.2)))(H:jv l k=none):rd P (Instr.findKey t (.I k) E) h=some none:=by
 unfold Instr.findKey;rw[bF _ _ _ _ (bN b)];simp only[(rE E l 0 d a).1 H];rfl
theorem mD{t:TypeId}{d:IntKind}{k:Int}{v:Value}{E:List MapEntry}{l:List (Int×Value)}{h:aj}(f:P.underlying t=some (.int d))(c:E.map (λe=>(e.key,e.val))=l.map (λe=>(Value.I e.1,e.2)))(b:jv l k=some v): ∃j,rd P (Instr.findKey t (.I k) E) h=some (some (j,v))/\∃e,E[j]? =some e/\e.key=.I k/\e.val=v:=by
 obtain⟨j,H,a⟩:=(rE E l 0 d c).2 v b;refine⟨j,?_,a⟩;unfold Instr.findKey;rw[bF _ _ _ _ (bN f)];simp only[H,bM];rfl
theorem jw{t:TypeId}{i:TypeInfo}{z:Value}{h:aj}(H:P.info? t=some i)(a:i.zero=some z):rd P (zeroValue t) h=some z:=by
 unfold zeroValue;rw[bF _ _ _ _ (iF H),a];rfl
theorem jM{r:Nat}{e:Array MapEntry}{c:Nat}{h:aj}(H:h[r]? =some (.map e c)):rd P (getObj r) h=some (.map e c):=by
 unfold getObj;simp only[rd,H]
structure rG (P:Program) (t:TypeId) (z:Value):Prop where
 ty: ∃k e d,P.underlying t=some (.map k e)/\P.underlying k=some (.int d)/\∃i,P.info? e=some i/\i.zero=some z
theorem rG.of{P:Program}{t:TypeId}{z:Value}(k e:TypeId)(d:IntKind)(a:P.underlying t=some (.map k e))(b:P.underlying k=some (.int d))(h:(P.info? e).bind (·.zero)=some z):rG P t z:=by
 cases H:P.info? e with
 |none=>rw[H]at h;cases h
 |some i=>exact⟨k,e,d,a,b,i,H,by rw[H]at h;exact h⟩
theorem Gj{t:TypeId}{z:Value}(T:rG P t z){h:aj}{m:Nat}{l:List (Int×Value)}(n:rD h m l)(k:Int):
  rd P (Instr.lookup t (.map (some m)) (.I k) false) h=some ((jv l k).getD z)/\
  rd P (Instr.lookup t (.map (some m)) (.I k) true) h=some (.T #[(jv l k).getD z,.B (jv l k).isSome]):=by
 obtain⟨K,e,d,p,H,i,g,q⟩:=T.ty;obtain⟨E,C,f,b,_⟩:=n;have gen: ∀o:Bool,rd P (Instr.lookup t (.map (some m)) (.I k) o) h=some (if o then .T #[(jv l k).getD z,.B (jv l k).isSome]else(jv l k).getD z):=λo=>by
  unfold Instr.lookup;rw[bF _ _ _ _ (bN p)];simp only;rw[bF _ _ _ _ (jM f)];simp only;rw[bF _ _ _ _ (jT _),bF _ _ _ _ (rF H)];cases a:jv l k with
  |none=>
   rw[bF _ _ _ _ (mC H b a)];simp only;rw[bF _ _ _ _ (jw g q)];cases o<;>rfl
  |some v=>
   obtain⟨j,c,_⟩:=mD (h:=h) H b a;rw[bF _ _ _ _ c];simp only;cases o<;>rfl
 exact⟨gen false,gen true⟩
theorem Dj{t:TypeId}{z:Value}(T:rG P t z){h:aj}{m:Nat}{f:Int->Option Value}(b:oe h m f)(k:Int):
  iJ P t (.map (some m)) (.I k) false h ((f k).getD z):=λd c=>by
 obtain⟨l,a,H⟩:=b;rw[<-H k];exact(Gj T (a.nE c) k).1
theorem Et{t:TypeId}{z:Value}(T:rG P t z){h:aj}{m:Nat}{f:Int->Option Value}(b:oe h m f)(k:Int):
  iJ P t (.map (some m)) (.I k) true h (.T #[(f k).getD z,.B (f k).isSome]):=λd c=>by
 obtain⟨l,a,H⟩:=b;rw[<-H k];exact(Gj T (a.nE c) k).2
theorem cb{b c:Type}{s:Sem b}{g:b->Sem c}{h:aj}{a:b}{K:c->aj->Prop}(d:rd P s h=some a)(H:aW P (g a) h K):aW P (s>>=g) h K:=
 (dU s g K).2 (NG s h a d _ H)
theorem IK{E:List MapEntry}{l:List (Int×Value)}{k:Int}{v:Value}{j:Nat}(r:E.map (λe=>(e.key,e.val))=l.map (λe=>(Value.I e.1,e.2)))(s:(l.map (·.1)).Nodup){e:MapEntry}(d:E[j]? =some e)(q:e.key=.I k)(f:MapEntry->MapEntry)(o: ∀e:MapEntry,(f e).key=.I k/\(f e).val=v):
  (E.modify j f).map (λe=>(e.key,e.val))=(l.map (λe=>if e.1==k then(k,v)else e)).map (λe=>(Value.I e.1,e.2)):=by
 apply fE
 intro i;have m: ∀i:Nat,(E[i]?).map (λe:MapEntry=>(e.key,e.val))=(l[i]?).map (λe:Int×Value=>(Value.I e.1,e.2)):=λi=>by
  have:=bQ (·[i]?) r;simpa using this
 have H:=m j;rw[d]at H;cases a:l[j]? with
 |none=>rw[a]at H;simp at H
 |some x=>
  rw[a]at H;simp only[du,bH,gT]at H;have n:x.1=k:=by have:=H.1.symm.trans q;simpa using this
  simp only[aD,List.getElem?_modify,Option.map_map];by_cases c:j=i
  .subst c;simp[d,a,o,n]
  .have h:=m i;cases g:E[i]? with
   |none=>
    rw[g]at h;cases b:l[i]? with
    |none=>simp
    |some y=>rw[b]at h;simp at h
   |some w=>
    rw[g]at h;cases b:l[i]? with
    |none=>rw[b]at h;simp at h
    |some y=>
     rw[b]at h;simp only[du,bH,gT]at h;have u:y.1≠k:=by
      intro t;apply c
      have p:j<(l.map (·.1)).length:=by simpa using (aE.1 a).1
      refine(eE p s).1 ?_;simp[a,b,n,t]
     simp[c,u,h.1,h.2]
theorem Cs{t:TypeId}{z:Value}(T:rG P t z){h:aj}{m:Nat}{l:List (Int×Value)}(U:rD h m l){k:Int}{v:Value}{K:Unit->aj->Prop}(R: ∀g,rD g m (Gg l k v)->g.size=h.size->(∀c,c≠m->g[c]? =h[c]?)->K () g):aW P (Instr.mapUpdate t (.map (some m)) (.I k) v) h K:=by
 obtain⟨kt,e,a',X,s,_⟩:=T.ty;obtain⟨E,Z,r,o,D,w,G⟩:=U;have S:=aC r;unfold Instr.mapUpdate;refine cb (bN X) ?_;simp only;refine cb (jM r) ?_;simp only;refine cb (rF s) ?_;have F: ∀(d:Array MapEntry)(C:Nat),d.toList.map (λe=>(e.key,e.val))=(Gg l k v).map (λe=>(Value.I e.1,e.2))->(∀e∈d.toList,e.born<C)->(d.toList.map (·.born)).Nodup->
   aW P (setObj m (.map d C)) h K:=λd C q I J=>by
  refine⟨⟨_,r,λc e b' O=>by cases O⟩,?_⟩;refine R _ ⟨d,C,by simp[S],q,Lp l k v D,I,J⟩ bV (λc M=> ?_);rw[cO,af (fJ M)]
 cases n:jv l k with
 |none=>
  refine cb (mC s o n) ?_;simp only;refine F _ _ ?_ ?_ ?_
  .unfold Gg;rw[n];simp[o]
  .intro p H;simp only[Array.toList_push,bE,bP]at H;rcases H with H|rfl
   .exact Nat.lt_succ_of_lt (w _ H)
   .exact Nat.lt_succ_self _
  .simp only[Array.toList_push,aV,cu,List.map_nil];rw[ft];refine⟨G,bV,?_⟩;intro a L b y;simp at y;subst y;obtain⟨p,H,rfl⟩:=bp.1 L;exact Nat.ne_of_lt (w _ H)
 |some c'=>
  obtain⟨j,q,p,H,B,_⟩:=mD (h:=h) s o n;refine cb q ?_;simp only;have Q:E[j]? =some p:=by simpa using H
  have V:rd P (Instr.keyThatStays (((E[j]?).map (·.key)).getD (.I k)) (.I k)) h=some (.I k):=by
   rw[Q];simp only[du,Option.getD_some,B];unfold Instr.keyThatStays;have:Instr.sameBits 10000 (.I k) (.I k)=true:=by unfold Instr.sameBits;simp
   rw[ag this];rfl
  refine cb V ?_;refine F _ _ ?_ ?_ ?_
  .unfold Gg;rw[n];simp only[Option.isSome_some,ba];rw[Array.toList_modify];exact IK o D H B _ (λe=>⟨rfl,rfl⟩)
  .intro e2 A;rw[Array.toList_modify]at A;obtain⟨i,f⟩:=bO A;rw[List.getElem?_modify]at f;cases u:E.toList[i]? with
   |none=>rw[u]at f;simp at f
   |some x=>
    rw[u]at f;have:=w x (aK u);simp only[Option.map_eq_map,du,bH]at f;subst f;split<;>exact this
  .rw[Array.toList_modify];have:(E.toList.modify j λe=> { e with key:=Value.I k,val:=v }).map (·.born)=E.toList.map (·.born):=by
    apply fE
    intro i;simp only[aD,List.getElem?_modify];cases E.toList[i]? with
    |none=>rfl
    |some x=>simp only[Option.map_eq_map,du];split<;>rfl
   rw[this];exact G
theorem nF{t:TypeId}{z:Value}(T:rG P t z){h:aj}{m:Nat}{f:Int->Option Value}(j:oe h m f){k:Int}{v:Value}{K:Unit->aj->Prop}(g: ∀H,oe H m (λx=>if x=k then some v else f x)->H.size=h.size->(∀c,c≠m->H[c]? =h[c]?)->K () H):aW P (Instr.mapUpdate t (.map (some m)) (.I k) v) h K:=by
 obtain⟨l,i,e⟩:=j;refine Cs T i λH a b d=>g H ⟨_,a,λx=> ?_⟩ b d
 rw[Ln,e]
theorem erase_filter{E:List MapEntry}{l:List (Int×Value)}{k:Int}(g:E.map (λe=>(e.key,e.val))=l.map (λe=>(Value.I e.1,e.2)))(c:(l.map (·.1)).Nodup):
  ∀{j:Nat}{e:MapEntry},E[j]? =some e->e.key=.I k->(E.eraseIdx j).map (λe=>(e.key,e.val))=(wU l k).map (λe=>(Value.I e.1,e.2)):=by
 induction E generalizing l with
 |nil=>intro j e b;simp at b
 |cons x E I=>
  intro j e b f;cases l with
  |nil=>simp at g
  |cons y l=>
   simp only[cu,List.cons.injEq,gT]at g;obtain⟨⟨m,p⟩,d⟩:=g;simp only[cu,fL]at c;obtain⟨o,c⟩:=c;cases j with
   |zero=>
    simp only[eU,bH]at b;subst b;have H:y.1=k:=by have:=m.symm.trans f;simpa using this
    have:wU (y::l) k=l:=by
     unfold wU;rw[cC,af (by simp[H])];rw[cD];intro a q;have:a.1≠k:=λe=>o (by rw[H,<-e];exact bz q)
     simp[this]
    rw[this];simpa using d
   |succ j=>
    have n:E[j]? =some e:=by simpa using b
    have H:y.1≠k:=by
     intro H;apply o
     have h:=bQ (·[j]?) d;simp only[aD,n,du]at h;cases i:l[j]? with
     |none=>rw[i]at h;simp at h
     |some z=>
      rw[i]at h;simp only[du,bH,gT]at h;have r:z.1=k:=by have:=h.1.symm.trans f;simpa using this
      rw[H,<-r];exact bz (aK i)
    have:wU (y::l) k=y::wU l k:=by
     unfold wU;rw[cC,ag (by simp[H])]
    rw[this];simp only[List.eraseIdx_cons_succ,cu,m,p];rw[I d c n f]
theorem IM{t U V:TypeId}{z:Value}(T:rG P t z){h:aj}{m:Nat}{l:List (Int×Value)}(n:rD h m l){k:Int}{K:fD}(O: ∀H,rD H m (wU l k)->H.size=h.size->(∀c,c≠m->H[c]? =h[c]?)->K (.T #[]) H):aW P (Builtin.delete_ #[t,U] V #[.map (some m),.I k]) h K:=by
 obtain⟨y,e,d,S,r,_⟩:=T.ty;obtain⟨E,C,p,g,s,w,v⟩:=n;have R:=aC p;unfold Builtin.delete_;refine cb (bN S) ?_;show aW P (do
   let __x<-getObj m
   match __x with
    |Obj.map E C=>do
     Instr.checkKey E.isEmpty 10000 y (Value.int IntKind.i64 k)
     let __do_lift<-Instr.findKey y (Value.int IntKind.i64 k) E.toList
     match __do_lift with
      |some (i,_)=>do
       setObj m (Obj.map (E.eraseIdxIfInBounds i) C)
       pure (Value.tuple #[])
      |none=>do
       setObj m (Obj.map E C)
       pure (Value.tuple #[])
    |_=>do
     stuck "delete: map expected"
     pure (Value.tuple #[])) h K
 refine cb (jM p) ?_;simp only;refine cb (rF r) ?_;have F: ∀(b:Array MapEntry),b.toList.map (λe=>(e.key,e.val))=(wU l k).map (λe=>(Value.I e.1,e.2))->(∀e∈b.toList,e.born<C)->(b.toList.map (·.born)).Nodup->
   aW P (do setObj m (.map b C);pure (Value.tuple #[])) h K:=λb o B D=>by
  rw[dU];refine⟨⟨_,p,λc e f J=>by cases J⟩,?_⟩;refine O _ ⟨b,C,by simp[R],o,Lq l k s,B,D⟩ bV (λc I=> ?_);rw[cO,af (fJ I)]
 cases q:jv l k with
 |none=>
  refine cb (mC r g q) ?_;refine F E ?_ w v;have:wU l k=l:=by
   unfold wU;rw[cD];intro a G;have:a.1≠k:=λe=>by
    have n:k∈l.map (·.1):=e▸bz G;rw[<-Gh,q]at n;cases n
   simp[this]
  rw[this];exact g
 |some u=>
  obtain⟨j,o,X,L,Q,_⟩:=mD (h:=h) r g q;refine cb o ?_;have x:List.Sublist (E.eraseIdxIfInBounds j).toList E.toList:=by
   rw[Array.toList_eraseIdxIfInBounds];exact List.eraseIdx_sublist _ _
  refine F _ ?_ ?_ ?_
  .rw[Array.toList_eraseIdxIfInBounds];exact erase_filter g s L Q
  .intro A M;exact w A (x.subset M)
  .exact(x.map _).nodup v
theorem yi{t n o:TypeId}{z:Value}(T:rG P t z){h:aj}{m:Nat}{f:Int->Option Value}(j:oe h m f){k:Int}{K:fD}(g: ∀H,oe H m (λx=>if x=k then none else f x)->H.size=h.size->(∀c,c≠m->H[c]? =h[c]?)->K (.T #[]) H):aW P (Builtin.delete_ #[t,n] o #[.map (some m),.I k]) h K:=by
 obtain⟨l,i,e⟩:=j;refine IM T i λH a b d=>g H ⟨_,a,λx=> ?_⟩ b d
 rw[Lo,e]
end
end Go.Den
namespace Go.Den
theorem cB{h:aj}{b i:Nat}{c:Array Value}{t:TypeId}{f:Nat×Nat}{v:Value}(H:h[b]? =some (.C c t f))(a:c[i]? =some v):aY h (AA b i)=some v:=by
 rw[kO H,a]
theorem bD{h:aj}{b i:Nat}{c:Array Value}{t:TypeId}{v:Value}{K:aj->Prop}(a:h[b]? =some (.C c t (0,0)))(d:i<c.size)(e: ∀H,H[b]? =some (.C (c.setIfInBounds i v) t (0,0))->H.size=h.size->(∀x,x≠b->H[x]? =h[x]?)->K H):aT h (AA b i) v K:=by
 refine⟨?_,mi a,?_⟩
 .rw[kO a];simp[d]
 .rintro _ rfl;exact e _ (wT a) Di (λx f=>ur f)
theorem Fr.of_eq{S:Nat->Prop}{h H:aj}(d:H.size=h.size)(b: ∀c,¬S c->H[c]? =h[c]?):Fr S h H:=⟨ae,λc _ a=>b c a⟩
theorem bC{n:Int}(h: -9223372036854775808<=n)(H:n<=9223372036854775807):IntKind.wrap .i64 n=n:=IntWalk.i64_in n ⟨h,H⟩
theorem wrap_u64{n:Int}(h:0<=n)(H:n<=18446744073709551615):IntKind.wrap .u64 n=n:=IntWalk.u64_in n ⟨h,H⟩
theorem wrap_u8{n:Int}(h:0<=n)(H:n<=255):IntKind.wrap .u8 n=n:=IntWalk.u8_in n ⟨h,H⟩
theorem Fr.kp{h H:aj}{l:List (ck)}(f:Fr (λ_=>False) h H):Kp h H l:=λ_ _ x _ a=>f.2 x.block a id
theorem Fr.U3{S:Nat->Prop}{h H:aj}{l:List (ck)}(f:Fr S h H)(a: ∀p∈l,∀x,p=some x->¬S x.block):Kp h H l:=λp b x e c=>f.2 x.block c (a p b x e)
theorem Fr.no{h H a:aj}{S:Nat->Prop}(b:Fr (λ_=>False) h H)(c:Fr S H a):Fr S h a:=b.trans c (λ_ _=>False.elim) bX
theorem Fr.on{h H a:aj}{S:Nat->Prop}(b:Fr S h H)(c:Fr (λ_=>False) H a):Fr S h a:=b.trans c bX (λ_ _=>False.elim)
theorem Fr.tt{h H a:aj}{S:Nat->Prop}(b:Fr S h H)(c:Fr S H a):Fr S h a:=b.trans c bX bX
theorem Fr.step{S:Nat->Prop}{h a b:aj}(e:Fr (λ_=>False) h a)(g:Fr S a b)(f: ∀c,c<h.size->¬S c):Fr (λ_=>False) h b:=
 e.trans g (λ_ _ H=>H) (λc d H=>f c d H)
end Go.Den
namespace Go.Den
section
variable {h:aj}
abbrev gK(h:aj)(a:Addr)(K:Int→Prop):Prop:= ∃t,aY h a=some (.int .u64 t)∧K t
abbrev kR(h:aj)(a:Addr)(K:Int→Prop):Prop:= ∃t,aY h a=some (.int .i64 t)∧K t
abbrev Kz(h:aj)(a:Addr)(K:Int→Prop):Prop:= ∃t,aY h a=some (.int .u8 t)∧K t
abbrev uu(h:aj)(a:Addr)(K:Bool→Prop):Prop:= ∃t,aY h a=some (.bool t)∧K t
abbrev zM(h:aj)(a:Addr)(K:Option Addr→Prop):Prop:= ∃t,aY h a=some (.pointer t)∧K t
abbrev ot(h:aj)(a:Addr)(K:ByteArray→Prop):Prop:= ∃t,aY h a=some (.string t)∧K t
abbrev mJ(h:aj)(a:Addr)(K:Option Addr→Nat→Nat→Prop):Prop:= ∃p l c,aY h a=some (.slice p l c)∧K p l c
abbrev Hu(h:aj)(b i:Nat)(K:Int→Prop):Prop:= ∃t,aY h ⟨b,i,none⟩=some (.int .u64 t)∧K t
abbrev Hi(h:aj)(b i:Nat)(K:Int→Prop):Prop:= ∃t,aY h ⟨b,i,none⟩=some (.int .i64 t)∧K t
abbrev Hy(h:aj)(b i:Nat)(K:Int→Prop):Prop:= ∃t,aY h ⟨b,i,none⟩=some (.int .u8 t)∧K t
abbrev Hb(h:aj)(b i:Nat)(K:Bool→Prop):Prop:= ∃t,aY h ⟨b,i,none⟩=some (.bool t)∧K t
abbrev Hp(h:aj)(b i:Nat)(K:Option Addr→Prop):Prop:= ∃t,aY h ⟨b,i,none⟩=some (.pointer t)∧K t
abbrev Hs(h:aj)(b i:Nat)(K:ByteArray→Prop):Prop:= ∃t,aY h ⟨b,i,none⟩=some (.string t)∧K t
abbrev Hl(h:aj)(b i:Nat)(K:Option Addr→Nat→Nat→Prop):Prop:= ∃p l c,aY h ⟨b,i,none⟩=some (.slice p l c)∧K p l c
abbrev Vb(v:Value)(K:Bool→Prop):Prop:= ∃t,v=.bool t∧K t
abbrev Vi(v:Value)(K:Int→Prop):Prop:= ∃t,v=.int .i64 t∧K t
abbrev Vu(v:Value)(K:Int→Prop):Prop:= ∃t,v=.int .u64 t∧K t
abbrev Vp(v:Value)(K:Option Addr→Prop):Prop:= ∃t,v=.pointer t∧K t
abbrev Vl(v:Value)(K:Option Addr→Nat→Nat→Prop):Prop:= ∃p l c,v=.slice p l c∧K p l c
abbrev Bd(i:Int)(n:Nat):Prop:=(0:Int)≤i∧i<((n:Nat):Int)
abbrev Cc(h:aj)(b i:Nat)(v:Value):Prop:=aY h ⟨b,i,none⟩=some v
abbrev No:Nat→Prop:=λ_=>False
abbrev lf:vh:=.leaf
abbrev ll:vh:=.seq .leaf .leaf
abbrev lq(a:vh):vh:=.seq .leaf a
abbrev sq(a b:vh):vh:=.seq a b
abbrev cq(a b:vh):vh:=.cond a b
abbrev bq(a:vh):vh:=.block a
abbrev pK(n:Nat):vh:=.kz (ga n 0 .done)
abbrev pN(n:Nat):vh:=.lK (ga n 0 .done)
theorem aP{P:Program}{f:FuncId}{F:Func}{args:List Value}{R:Value→aj→Prop}{A:Prop}(a:vh)(b:P.funcs[f]? =some F)(d:A)(H:F.body.isSome=true:=by rfl)(c:Nat.ble args.length F.ntmps=true:=by rfl)(e:A=den P F.ntmps a none (uo F) (Sz P F.results R) (nC args) h:=by kernel_rfl):ny P f args.toArray h R:=Aj a b H c (Eq.mp e d)
theorem ak{b i:Nat}{c:Array Value}{t:TypeId}{f:Nat×Nat}(H:h[b]? =some (.cells c t f)):aY h ⟨b,i,none⟩=c[i]? :=kO H
abbrev iq(h:aj)(R:Value→aj→Prop)(v:Value):Prop:= ∀H,Fr (λ_=>False) h H→R v H
abbrev od(x:Int):BitVec (IntKind.bits .u64):=BitVec.ofInt (IntKind.bits .u64) x
abbrev qV(x:Int):BitVec (IntKind.bits .u8):=BitVec.ofInt (IntKind.bits .u8) x

end
def Row(h:aj)(p:ck)(c:List Value):Prop:=c= []\/∃a,p=some a/\dP a c 0 h
theorem Row.nil{h:aj}{p:ck}:Row h p []:=.inl rfl
theorem lu {h : aj} {a : Addr} : ∀ {cs : List Value} {i : Nat}, dP a cs i h ↔ ∀ j v, cs[j]? = some v → aY h (a.add (i + j)) = some v
  | [], i => by simp [dP]
  | c :: cs, i => by
    simp only [dP]
    rw [lu (cs := cs)]
    constructor
    · rintro ⟨h1, h2⟩ j v hj
      cases j with
      | zero => simp only [List.getElem?_cons_zero, Option.some.injEq] at hj; subst hj; exact h1
      | succ j => have := h2 j v (by simpa using hj); rwa [show i + 1 + j = i + (j + 1) by omega] at this
    · intro hh
      refine ⟨hh 0 c rfl, λj v hj => ?_⟩
      have := hh (j + 1) v (by simpa using hj)
      rwa [show i + (j + 1) = i + 1 + j by omega] at this
theorem hT{h:aj}{b o:Nat}{c:Array Value}{t:TypeId}{f:Nat×Nat}{C:List Value}(H:h[b]? =some (.C c t f))(a: ∀j v,C[j]? =some v->c[o+j]? =some v):dP (AA b o) C 0 h:=by
 rw[lu];intro j v d;rw[bM,hY,kO H];exact a j v d
theorem mj{S:Nat->Prop}{h H:aj}(b:Fr S h H){a:Addr}(e: ¬S a.block): ∀{c:List Value}{i:Nat},dP a c i h->dP a c i H
 | [],_,_=>trivial
 |_::_,i,d=>⟨b.cell d.1 (by unfold Addr.add;split<;>exact e),mj b e d.2⟩
theorem Row.frame{S:Nat->Prop}{h H:aj}(b:Fr S h H){p:ck}{c:List Value}(f:Row h p c)(e: ∀a,p=some a->¬S a.block):Row H p c:=by
 rcases f with rfl|⟨a,rfl,d⟩
 .exact .inl rfl
 .exact .inr ⟨a,rfl,mj b (e a rfl) d⟩
theorem Row.cell{h:aj}{a:Addr}{c:List Value}(d:Row h (some a) c){j:Nat}{v:Value}(H:c[j]? =some v):aY h (a.add j)=some v:=by
 rcases d with rfl|⟨A,e,b⟩
 .simp at H
 .cases e;have:=lu.1 b j v H;rwa[bM]at this
theorem Row.some{h:aj}{p:ck}{c:List Value}(b:Row h p c)(H:c≠ []): ∃a,p=some a:=by
 rcases b with rfl|⟨a,e,_⟩
 .exact absurd rfl H
 .exact⟨a,e⟩
section
variable {P : Program}
theorem mc{h:aj}{q:ck}{n cq s:Nat}{ds:List Value}(b:Row h q ds)(c:ds.length=n*s):rd P (Builtin.firstCells s n (.L q n cq)) h=some ds.toArray:=by
 cases q with
 |none=>
  have:ds= []:=by
   rcases b with rfl|⟨a,e,_⟩
   .rfl
   .cases e
  subst this;rfl
 |some a=>
  show rd P (loadCells a (n*s)) h=_;have H:dP a ds 0 h:=by
   rcases b with rfl|⟨A,e,H⟩
   .trivial
   .cases e;exact H
  unfold loadCells;rw[<-c,jk ds 0 #[] h H];simp
theorem Dk{n:Nat}: ∀(r c:Nat),c<2*n->256<=c->Builtin.growBy n r c<=2*n
 |0,c,h,_=>by unfold Builtin.growBy;omega
 |r+1,c,h,a=>by
  unfold Builtin.growBy;split
  .omega
  .rename_i b;by_cases H:c+(c+768)/4<2*n
   .exact Dk r _ H ae
   .have:c+(c+768)/4<=2*n:=ae
    cases r with
    |zero=>unfold Builtin.growBy;exact this
    |succ r=>unfold Builtin.growBy;rw[gk];exact this
theorem nextslicecap_le{need cap:Nat}(h:cap<need):Builtin.nextslicecap need cap<=2*need:=by
 unfold Builtin.nextslicecap;split
 .omega
 .split
  .omega
  .exact Dk 4 cap ae ae
inductive fz (h:aj) (p:ck) (len cap sz:Nat) (cs:List Value):Prop
 |nil (hp:p=none) (hl:len=0) (hc:cap=0) (Wt:cs= [])
 |row (b off:Nat) (c:Array Value) (t:TypeId) (hp:p=some ⟨b,off,none⟩) (hb:h[b]? =some (.cells c t (0,0))) (hl:len<=cap) (hc:off+cap*sz<=c.size) (hn:cs.length=len*sz) (Wt: ∀j v,cs[j]? =some v->c[off+j]? =some v)
def aN(p:ck)(c:Nat):Prop:= ∃a,p=some a/\a.block=c
theorem fz.length{h:aj}{p:ck}{len cap s:Nat}{C:List Value}(o:fz h p len cap s C):C.length=len*s:=by
 cases o with
 |nil _ a _ H=>subst a H;simp
 |row b O c t _ _ _ _ d _=>exact d
theorem fz.iy{h:aj}{p:ck}{len cap s:Nat}{C:List Value}(o:fz h p len cap s C):Row h p C:=by
 cases o with
 |nil _ _ _ H=>exact .inl H
 |row b O c t d a _ _ _ H=>exact .inr ⟨_,d,hT a H⟩
theorem fz.frame{S:Nat->Prop}{h f:aj}{p:ck}{len cap s:Nat}{C:List Value}(o:fz h p len cap s C)(i:Fr S h f)(k: ∀c,aN p c->¬S c):fz f p len cap s C:=by
 cases o with
 |nil H e a d=>exact .nil H e a d
 |row b O c t H g e a j d=>exact .row b O c t H (i.get g (k b ⟨_,H,rfl⟩)) e a j d
theorem fz.dC{h:aj}{p:ck}{len cap s:Nat}{C:List Value}(o:fz h p len cap s C){c:Nat}(f:aN p c):c<h.size:=by
 obtain⟨a,e,rfl⟩:=f;cases o with
 |nil H _ _ _=>rw[H]at e;cases e
 |row b O c t H d _ _ _ _=>rw[H]at e;cases e;exact aC d
theorem fz.cells{h:aj}{p:ck}{len cap s:Nat}{C:List Value}(o:fz h p len cap s C){b:Nat}(H:aN p b): ∃c t,h[b]? =some (.C c t (0,0)):=by
 obtain⟨a,e,rfl⟩:=H;cases o with
 |nil d _ _ _=>rw[d]at e;cases e
 |row b O c t d H _ _ _ _=>rw[d]at e;cases e;exact⟨c,t,H⟩
theorem fz.le{h:aj}{p:ck}{len cap s:Nat}{C:List Value}(o:fz h p len cap s C):len<=cap:=by
 cases o with
 |nil _ H a _=>omega
 |row b O c t _ _ H _ _ _=>exact H
theorem fz.some{h:aj}{p:ck}{len cap s:Nat}{C:List Value}(o:fz h p len cap s C)(a:0<C.length): ∃b O,p=some (AA b O):=by
 cases o with
 |nil _ _ _ H=>subst H;simp at a
 |row b O c t d _ _ _ _ _=>exact⟨b,O,d⟩
theorem fz.cell{h:aj}{a:Addr}{len cap s:Nat}{c:List Value}(o:fz h (.some a) len cap s c){j:Nat}{v:Value}(H:c[j]? =.some v):aY h (a.add j)=.some v:=o.iy.cell H
theorem fz.store{h:aj}{a:Addr}{len cap s:Nat}{cs:List Value}{j:Nat}{v:Value}{K:aj->Prop}(o:fz h (.some a) len cap s cs)(r:j<cs.length)(u: ∀H,fz H (.some a) len cap s (cs.set j v)->H.size=h.size->(∀x,¬aN (.some a) x->H[x]? =h[x]?)->K H):aT h (a.add j) v K:=by
 cases o with
 |nil f _ _ _=>cases f
 |row b O c t f n g p y q=>
  cases f;rw[hY];have A:len*s<=cap*s:=cZ _ g;refine bD n ae λH k l m=>u H (.row b O _ t rfl k g (cI p) (by simpa using y) ?_) l (λx z=>m x (λe=>z ⟨_,rfl,e.symm⟩))
  intro i w d;rw[dp]at d;rw[cO];by_cases e:j=i
  .subst e;rw[ag rfl,ag r]at d;rw[ag rfl,gk];exact d
  .rw[af e]at d;rw[dB];exact q i w d
theorem fz.sub{h:aj}{p:ck}{len cap sz:Nat}{C:List Value}(o:fz h p len cap sz C){l u:Nat}(m:l<=u)(n:u<=len):fz h (cT p cap l sz) (u - l) (cap - l) sz ((C.take (u*sz)).drop (l*sz)):=by
 cases o with
 |nil g d k a=>
  subst g d k a;refine .nil ?_ ae ae bV;unfold cT;split<;>rfl
 |row b O c t g i d k w a=>
  subst g;have M:u*sz<=len*sz:=cZ _ n;have x:l*sz<=u*sz:=cZ _ m;have y:len*sz<=cap*sz:=cZ _ d;have q: ∀j v,((C.take (u*sz)).drop (l*sz))[j]? =.some v->c[O+l*sz+j]? =.some v:=λj v H=>by
   rw[fx,df]at H;split at H
   .have:=a _ v H;rwa[<-Nat.add_assoc]at this
   .cases H
  have f:((C.take (u*sz)).drop (l*sz)).length=(u - l)*sz:=by
   rw[bT,bw,Nat.sub_mul];omega
  have s:(cap - l)*sz=cap*sz - l*sz:=Nat.sub_mul _ _ _;unfold cT;split
  .rename_i e;have E:u - l=0:=ae
   refine .row b O c t rfl i ae ae f (λj v H=> ?_);have r:((C.take (u*sz)).drop (l*sz)).length=0:=by rw[f,E];simp
   rw[List.eq_nil_of_length_eq_zero r]at H;cases H
  .show fz h (.some (((AA b O):Addr).add (l*sz))) _ _ _ _;rw[hY];exact .row b (O+l*sz) c t rfl i ae ae f q
theorem nf{p:ck}{cap l s c:Nat}(h:aN (cT p cap l s) c):aN p c:=by
 obtain⟨a,e,rfl⟩:=h;unfold cT at e;split at e
 .exact⟨a,e,rfl⟩
 .cases p with
  |none=>cases e
  |some b=>cases e;exact⟨b,rfl,by unfold Addr.add;split<;>rfl⟩
theorem uv{c:Array Value}{off:Nat}: ∀(d:List Value)(i:Nat)(h:aj)(b:Nat)(t:TypeId)(K:Unit->aj->Prop),(∀v∈d,gw v=true)->h[b]? =some (.C c t (0,0))->off+i+d.length<=c.size->
  (∀a C,a[b]? =some (.C C t (0,0))->C.size=c.size->(∀j,j<off+i\/off+i+d.length<=j->C[j]? =c[j]?)->(∀j v,d[j]? =some v->C[off+i+j]? =some v)->a.size=h.size->(∀x,x≠b->a[x]? =h[x]?)->K () a)->
  aW P (storeCells (AA b off) d i) h K
 | [],i,h,b,t,K,_,e,_,f=>by
  refine f h c e rfl (λ_ _=>rfl) (λj v H=>by simp at H) rfl (λ_ _=>rfl)
 |v::d,i,h,b,t,K,l,e,o,f=>by
  simp only[storeCells];rw[dU];simp only[bf]at o;have g:off+i<c.size:=ae
  refine⟨l v dj,?_,?_,?_⟩
  .rw[hY,kO e];simp[g]
  .rw[hY];exact mi e
  .rw[hY];show aW P (storeCells (AA b off) d (i+1)) (oW h (AA b (off+i)) v) K;refine uv (c:=c.setIfInBounds (off+i) v) d (i+1) _ b t K (λu w=>l u (cv _ w)) (wT e) (by simp;omega) ?_;intro a C n r k p s q;refine f a C n (by rw[r];simp) (λj H=> ?_) (λj u H=> ?_) (by rw[s,Di]) (λx m=>by rw[q x m,ur m])
   .simp only[bf]at H;rw[k j ae,cO,dB]
   .cases j with
    |zero=>
     simp only[eU,bH]at H;subst H;rw[k (off+i+0) ae];simp[g]
    |succ j=>
     have:=p j u (cI H);rwa[show off+(i+1)+j=off+i+(j+1) by omega]at this
theorem Eu{S X ty elem T:TypeId}{i:TypeInfo}{z:Value}{h:aj}{p q:ck}{len cap n cq:Nat}{f d:List Value}{K:fD}(hs:P.underlying S=some (.slice elem))(G:P.underlying X=some (.slice T))(r:P.info? elem=some i)(hz:i.zero=some z)(F:z.cells.size=i.size)(O:fz h p len cap i.size f)(R:Row h q d)(l:d.length=n*i.size)(h': ∀v∈d,gw v=true)(hb:(len+n)*i.bytes<=70368744177664)(m':len+n<=9223372036854775807)(A: ∀I C g,fz g I (len+n) C i.size (f++d)->fz g p len cap i.size f->Fr (aN p) h g->(∀c,aN I c->aN p c\/h.size<=c)->K (.L I (len+n) C) g):
  aW P (Builtin.append_ #[S,X] ty #[.L p len cap,.L q n cq]) h K:=by
 unfold Builtin.append_;refine cb (s:=underlying S) (bN hs) ?_;refine cb (s:=sizeOf elem) (iG r) ?_;refine cb (s:=underlying X) (bN G) ?_;refine cb (s:=(pure false:Sem Bool)) (a:=false) rfl ?_;refine cb (s:=Builtin.lenOf (.L q n cq)) (a:=n) rfl ?_;show aW P (if len+n<=cap then _ else _) h K;by_cases s:len+n<=cap
 .rw[ag s];refine cb (s:=Builtin.firstCells i.size n (.L q n cq)) (a:=d.toArray) (mc R l) ?_;cases O with
  |nil E B k u=>
   subst E B k u;have f':n=0:=ae
   subst f';have Z:d= []:=by simpa using l
   subst Z;exact A none 0 h (.nil rfl rfl rfl rfl) (.nil rfl rfl rfl rfl) (Fr.refl _ _) (λc ⟨a,e,_⟩=>by cases e)
  |row b o c t E V B k D u=>
   subst E;show aW P (storeCells (((AA b o):Addr).add (len*i.size)) d>>=λ_=>pure (.L (Sa b o) (len+n) cap)) h K;rw[hY];have d':(len+n)*i.size<=cap*i.size:=cZ _ s;rw[eW]at d';rw[dU];refine uv (c:=c) (off:=o+len*i.size) d 0 h b t _ h' V ae ?_;intro g J L o' Q e' F i';show K (.L (Sa b o) (len+n) cap) g;refine A _ cap g (.row b o J t rfl L s ae (by rw[au,D,l,eW]) ?_) (.row b o J t rfl L B ae D ?_) (Fr.of_eq F λl' G=>i' l' (λe=>G ⟨_,rfl,e.symm⟩)) (λc k=> .inl k)
   .intro j v H;by_cases w:j<f.length
    .rw[dh w]at H;rw[Q _ ae];exact u j v H
    .rw[cV ae]at H;have:=e' _ v H;rw[D]at this;rwa[show o+len*i.size+0+(j - len*i.size)=o+j by omega]at this
   .intro j v H;have w:j<f.length:=(aE.1 H).1;rw[Q _ ae];exact u j v H
 .rw[af s];have b':=nextslicecap_le (need:=len+n) (cap:=cap) ae;refine cb (s:=typeInfo elem) (iF r) ?_;have c': ¬(((len+n:Nat):Int)>IntKind.max .i64/\(False\/i.bytes=0)):=λk=>by
   have:IntKind.max .i64=9223372036854775807:=rfl;rw[this]at k;omega
  show aW P (if(((len+n:Nat):Int)>IntKind.max .i64/\(false=true\/i.bytes=0))then _ else _) h K;rw[af (cI c')];refine cb (s:=typeInfo elem) (iF r) ?_;have g': ¬(Builtin.nextslicecap (len+n) cap*i.bytes>2 ^ 48):=by
   have y:Builtin.nextslicecap (len+n) cap*i.bytes<=2*(len+n)*i.bytes:=cZ _ b';rw[Nat.mul_assoc]at y;omega
  show aW P (if Builtin.nextslicecap (len+n) cap*i.bytes>2 ^ 48 then _ else _) h K;rw[af g'];show aW P (choose (.appendCap (len+n) cap elem)>>=_) h K;rw[dU];unfold choose;simp only[aW,Question.forced,aq,aL,Question.cut];intro tq;refine cb (s:=typeInfo elem) (iF r) ?_;rw[dU];have j': ∀(m:Nat)(x:Unit->aj->Prop),x () h->aW P (askRoom m) h x:=λm x M=>by
   unfold askRoom;split
   .exact M
   .exact M
  refine j' _ _ ?_;refine cb (s:=Builtin.firstCells i.size len (.L p len cap)) (a:=f.toArray) (mc O.iy O.length) ?_;refine cb (s:=Builtin.firstCells i.size n (.L q n cq)) (a:=d.toArray) (mc R l) ?_;refine cb (s:=zeroValue elem) (jw r hz) ?_;generalize n':len+n+tq%(2 ^ 63 - (len+n))=C;have a':len+n<=C:=ae
  show K (.L (Sa h.size 0) (len+n) C) (h.push (.C (f.toArray++d.toArray++Builtin.zeroCells z.cells (C - (len+n))) elem));have k':(f.toArray++d.toArray++Builtin.zeroCells z.cells (C - (len+n))).size=C*i.size:=by
   have y:(Builtin.zeroCells z.cells (C - (len+n))).size=(C - (len+n))*i.size:=by simp[Builtin.zeroCells,F]
   have U:=O.length;rw[Array.size_append,Array.size_append,y];simp only[List.size_toArray];rw[U,l,<-eW,<-eW];congr 1;omega
  refine A _ C _ (.row h.size 0 _ elem rfl bZ a' (by rw[k'];omega) (by rw[au,O.length,l,eW]) ?_) (O.frame (Fr.push (S:=λ_=>False) _ _) bX) (Fr.push _ _) ?_
  .intro j v H;rw[bM];have w:j<(f++d).length:=(aE.1 H).1;rw[dR (cI w)];simpa using H
  .rintro c ⟨a,e,rfl⟩;cases e;exact .inr (bm _)
structure oN (P:Program) (sT elem:TypeId) (sz bytes:Nat) (z:Value):Prop where
 u:P.underlying sT=some (.slice elem)
 info:(P.info? elem).map (λi=>(i.size,i.bytes,i.zero))=some (sz,bytes,some z)
 zs:z.cells.size=sz
theorem oN.i{S elem:TypeId}{s bytes:Nat}{z:Value}(T:oN P S elem s bytes z): ∃i,P.info? elem=some i/\i.size=s/\i.bytes=bytes/\i.zero=some z:=by
 have:=T.info;cases h:P.info? elem with
 |none=>rw[h]at this;cases this
 |some i=>
  rw[h]at this;simp only[du,bH,gT]at this;exact⟨i,rfl,this⟩
theorem dH{S x t elem eT:TypeId}{s bytes:Nat}{z:Value}{h:aj}{p q:ck}{len cap n cq:Nat}{cs ds:List Value}{K:fD}(T:oN P S elem s bytes z)(l:P.underlying x=some (.slice eT))(o:fz h p len cap s cs)(k:Row h q ds)(e:ds.length=n*s)(j: ∀v∈ds,gw v=true)(b:(len+n)*bytes<=70368744177664)(d:len+n<=9223372036854775807)(g: ∀a C H,fz H a (len+n) C s (cs++ds)->fz H p len cap s cs->Fr (aN p) h H->(∀c,aN a c->aN p c\/h.size<=c)->K (.L a (len+n) C) H):
  aW P (Builtin.append_ #[S,x] t #[.L p len cap,.L q n cq]) h K:=by
 obtain⟨i,f,rfl,rfl,m⟩:=T.i;exact Eu T.u l f m T.zs o k e j b d g
end
section
open Go.RowKit
def qO(P:Program)(h:aj):Nat->TypeId->List Value->Prop
 |0,_,_=>False
 |n+1,t,c=>
  match P.underlying t with
  |some .bool=> ∃b,c= [.bool b]
  |some (.int k)=> ∃a,c= [.int k a]/\(Lit.int k a).wf=true
  |some .string=> ∃s,c= [.string s]/\s.size<=maxLen
  |some (.pointer e)=>c= [.pointer none]\/∃a C,c= [.pointer (some a)]/\C.length=P.cellsOf e/\dP a C 0 h/\qO P h n e C
  |some (.slice e)=>c= [.slice none 0 0]\/∃a len cap,c= [.slice (some a) len cap]/\len<=cap/\cap<=maxLen/\∀i,i<len->∃C,C.length=P.cellsOf e/\dP (a.add (i*P.cellsOf e)) C 0 h/\qO P h n e C
  |some (.struct fs)=>c.length=P.cellsOf t/\∀f∈fs.toList,qO P h n f.type ((c.drop f.offset).take (P.cellsOf f.type))
  |some (.array m e)=>c.length=P.cellsOf t/\∀i,i<m->qO P h n e ((c.drop (i*P.cellsOf e)).take (P.cellsOf e))
  |_=>True
theorem As{w:World}{b:Nat}{a:Addr}{n:Nat}{c:List Value}(h:w.cells? b a n=some c):c.length=n/\dP a c 0 w.heap:=by
 obtain⟨_,e,d⟩:=World.cells?_some h;refine⟨e,lu.2 λj v H=> ?_⟩;have f:j<c.length:=(aE.1 H).1;have:=d j ae;rw[kV,H]at this;rw[bM];exact this
theorem ml{H:Type}{F:TypeId×Value->H}{P:Program}{w:World}{B:Nat}{S:Nat->Bool}{I:Bool}:
  ∀(fuel:Nat)(t:TypeId)(p:List Value)(x:DataW H×List MemPlace),DataW.trod F P w B S I fuel t p=some x->qO P w.heap fuel t p
 |0,_,_,_,h=>by simp[DataW.trod]at h
 |fuel+1,t,p,x,h=>by
  unfold qO;cases j:P.underlying t with
  |none=>trivial
  |some d=>
   cases d<;>simp only<;>first|trivial|skip
   case bool=>obtain⟨b,c,_⟩:=DataW.trod_bool j h;exact⟨b,c⟩
   case int k=>obtain⟨n,c,_,A⟩:=DataW.trod_int j h;exact⟨n,c,A⟩
   case string=>obtain⟨s,c,_,A⟩:=DataW.trod_string j h;exact⟨s,c,A⟩
   case pointer e=>
    rcases DataW.trod_pointer j h with⟨c,_⟩|⟨a,C,y,n,z,c,_,aY,L⟩
    .exact .inl c
    .obtain⟨l,r⟩:=As aY;obtain rfl:n=fuel:=ae
     exact .inr ⟨a,C,c,l,r,ml n e C y L⟩
   case slice e=>
    rcases DataW.trod_slice j h with⟨c,_⟩|⟨a,len,cap,M,R,n,z,c,_,_,l,u,O,G,_⟩
    .exact .inl c
    .obtain rfl:n=fuel:=ae
     refine .inr ⟨a,len,cap,c,l,u,λi o=> ?_⟩;have g:=G i o;rw[ai ae]at g;cases aY:w.cells? B (a.add (i*P.cellsOf e)) (P.cellsOf e)with
     |none=>rw[aY]at g;cases g
     |some C=>
      rw[aY]at g;obtain⟨J,r⟩:=As aY;exact⟨C,J,r,ml n e C _ g⟩
   case struct fs=>
    obtain⟨X,n,z,_,l,E,q⟩:=DataW.trod_struct j h;obtain rfl:n=fuel:=ae
    refine⟨l,λf u=> ?_⟩;obtain⟨i,o⟩:=bO u;have D:fs[i]? =some f:=by simpa using o
    have g:=q i f D;have K:i<X.length:=by rw[E];exact(Array.getElem?_eq_some_iff.1 D).1
    rw[ai K]at g;exact ml n _ _ _ g
   case array m e=>
    obtain⟨X,n,z,_,l,E,q⟩:=DataW.trod_array j h;obtain rfl:n=fuel:=ae
    refine⟨l,λi o=> ?_⟩;have g:=q i o;rw[ai ae]at g;exact ml n _ _ _ g
def pf(P:Program)(h:aj)(t:TypeId)(v:Value):Prop:= ∃n,qO P h n t v.cells.toList
theorem pf.of{H:Type}{e:TypeId×Value->H}{P:Program}{w:World}{b:Nat}{s:Nat->Bool}{a:Bool}{t:TypeId}{v:Value}{d:DataW H}{p:List MemPlace}(h:DataW.Trod e P w b s a t v d p):pf P w.heap t v:=by
 obtain⟨n,c⟩:=h;exact⟨n,ml n _ _ _ c⟩
theorem NY{w a:World}(b:Fr (λ_=>False) w.heap a.heap)(H:fX w a):Below w.heap.size w a:=
 ⟨H.1,H.2.2,H.2.1,b.1,λk c=>b.2 k c id⟩
def NZ(P:Program)(f:FuncId)(args:Array Value)(h:aj):Prop:=ny P f args h (λv H=>v=.bool true/\Fr (λ_=>False) h H)
theorem NZ.calls{P:Program}{f:FuncId}{args:Array Value}{w:World}(b:NZ P f args w.heap):Calls P f args w λe g=>e=.returned (.B true)/\Below w.heap.size w g:=
 (b w rfl).mono λ_ _ ⟨_,H,⟨d,a⟩,c⟩=>⟨by rw[H,d],NY a c⟩
theorem wf_u64{a : Int}(h : (Lit.int .u64 a).wf = true): 0 ≤ a ∧ a ≤ 18446744073709551615 := by
  simpa [Lit.wf, IntKind.min, IntKind.max, IntKind.bits, IntKind.signed] using h
theorem wf_u8{a:Int}(h:(Lit.int .u8 a).wf=true):0<=a/\a<=255:=by
 simpa[Lit.wf,IntKind.min,IntKind.max,IntKind.bits,IntKind.signed]using h
section
variable {P : Program} {h : aj} {t : TypeId} {v : Value}
theorem pf.int{k:IntKind}(d:P.underlying t=some (.int k))(e:pf P h t v)(c: ∀a,v.cells.toList= [.int k a]->v=.int k a): ∃a,v=.int k a/\(Lit.int k a).wf=true:=by
 obtain⟨n,H⟩:=e;cases n with
 |zero=>exact H.elim
 |succ n=>
  unfold qO at H;rw[d]at H;obtain⟨a,b,f⟩:=H;exact⟨a,c a b,f⟩
theorem Ew{h:aj}{a:Addr}{c d:List Value}:dP a (c++d) 0 h↔dP a c 0 h/\dP (a.add c.length) d 0 h:=by
 simp only[lu,bM];constructor
 .intro b;refine⟨λj v H=>b j v ?_,λj v H=> ?_⟩
  .rw[dh (aE.1 H).1];exact H
  .rw[add_add];refine b _ v ?_;rw[cV ae];simpa using H
 .rintro⟨e,f⟩ j v H;by_cases g:j<c.length
  .rw[dh g]at H;exact e j v H
  .rw[cV ae]at H;have:=f _ v H;rw[add_add]at this;rwa[show c.length+(j - c.length)=j by omega]at this
theorem eO{a:Type}(e:a->List Value)(s:Nat)(H: ∀x,(e x).length=s): ∀X:List a,(X.flatMap e).length=X.length*s
 | []=>bV
 |x::X=>by
  rw[fG,au,H,eO e s H X,bf,eW];omega
theorem sI{b:Type}(e:b->List Value)(s:Nat)(a: ∀x,(e x).length=s): ∀(X:List b)(i:Nat)(x:b),X[i]? =some x->∀j v,(e x)[j]? =some v->(X.flatMap e)[i*s+j]? =some v
 | [],i,x,h,_,_,_=>by simp at h
 |y::X,0,x,h,j,v,H=>by
  simp at h;subst h;have c:=(aE.1 H).1;rw[fG,Nat.zero_mul,bM,dh c];exact H
 |y::X,i+1,x,h,j,v,H=>by
  have:=sI e s a X i x (cI h) j v H;rw[fG,cV (by rw[a,eW];omega),a];rwa[show(i+1)*s+j - s=i*s+j by rw[eW];omega]
theorem pf.slice{f:Type}{e:TypeId}{p:ck}{len cap:Nat}(E:f->List Value)(s:Nat)(Q:f->Prop)(l:P.cellsOf e=s)(w: ∀x,(E x).length=s)(r: ∀n c,c.length=s->qO P h n e c->∃x,c=E x/\Q x)(C:P.underlying t=some (.slice e))(D:pf P h t (.L p len cap)):
  ∃X:List f,X.length=len/\len<=cap/\cap<=maxLen/\Row h p (X.flatMap E)/\∀x∈X,Q x:=by
 obtain⟨n,b⟩:=D;cases n with
 |zero=>exact b.elim
 |succ n=>
  unfold qO at b;rw[C]at b;rcases b with H|⟨a,L,F,H,z,A,u⟩
  .simp[Value.cells]at H;obtain⟨rfl,rfl,rfl⟩:=H;exact⟨[],rfl,bm _,bL _,.inl rfl,λ_ g=>by cases g⟩
  .simp[Value.cells]at H;obtain⟨rfl,rfl,rfl⟩:=H;have K: ∀k,k<=len->∃X:List f,X.length=k/\dP a (X.flatMap E) 0 h/\∀x∈X,Q x:=by
    intro k;induction k with
    |zero=>intro _;exact⟨[],rfl,trivial,λ_ g=>by cases g⟩
    |succ k I=>
     intro G;obtain⟨X,d,i,j⟩:=I ae;obtain⟨c,m,o,q⟩:=u k ae;obtain⟨x,rfl,B⟩:=r n c (by rw[m,l]) q;refine⟨X++ [x],by simp[d],?_,?_⟩
     .rw[cg,Ew];refine⟨i,?_⟩;rw[eO E s w,d,<-l];simpa using o
     .intro y hy;rcases bE.1 hy with hy|hy
      .exact j y hy
      .simp at hy;subst hy;exact B
   obtain⟨X,d,i,j⟩:=K len (bm _);exact⟨X,d,z,A,.inr ⟨a,rfl,i⟩,j⟩
theorem qO.int{k:IntKind}{n:Nat}{c:List Value}(b:P.underlying t=some (.int k))(H:qO P h n t c): ∃a,c= [.int k a]/\(Lit.int k a).wf=true:=by
 cases n with
 |zero=>exact H.elim
 |succ n=>unfold qO at H;rw[b]at H;exact H
theorem qO.bool{n:Nat}{c:List Value}(a:P.underlying t=some .bool)(H:qO P h n t c): ∃b,c= [.B b]:=by
 cases n with
 |zero=>exact H.elim
 |succ n=>unfold qO at H;rw[a]at H;exact H
end
def rH(P:Program)(r:TypeId->Option (List TypeId)):List Field->Nat->Option (List TypeId)
 | [],_=>some []
 |f::fs,o=>(match Nat.beq f.offset o,r f.type with
  |true,some T=>(match Nat.beq T.length (P.cellsOf f.type),rH P r fs (o+T.length)with
   |true,some u=>some (T++u)
   |_,_=>none)
  |_,_=>none)
def vu(P:Program):Nat->TypeId->Option (List TypeId)
 |0,_=>none
 |n+1,t=>(match P.underlying t with
  |some (.struct fs)=>rH P (vu P n) fs.toList 0
  |some (.array _ _)=>none
  |_=>some [t])
def Leaves(P:Program)(h:aj)(a:List TypeId)(c:List Value):Prop:= ∀(i:Nat)(T:TypeId),a[i]? =some T->∃v m,c[i]? =some v/\qO P h m T [v]
theorem Leaves.append{P:Program}{h:aj}{T u:List TypeId}{c:List Value}(f:Leaves P h T (c.take T.length))(g:Leaves P h u (c.drop T.length)):Leaves P h (T++u) c:=by
 intro i e a;by_cases d:i<T.length
 .rw[dh d]at a;obtain⟨v,m,H,b⟩:=f i e a;rw[df,ag d]at H;exact⟨v,m,H,b⟩
 .rw[cV ae]at a;obtain⟨v,m,H,b⟩:=g _ e a;rw[fx]at H;exact⟨v,m,by rwa[show T.length+(i - T.length)=i by omega]at H,b⟩
theorem yj{P:Program}{h:aj}{r:TypeId->Option (List TypeId)}{n:Nat}(g: ∀t T c,r t=some T->c.length=T.length->qO P h n t c->Leaves P h T c):
  ∀(fs:List Field)(o:Nat)(u:List TypeId)(c:List Value),rH P r fs o=some u->o+u.length<=c.length->(∀f∈fs,qO P h n f.type ((c.drop f.offset).take (P.cellsOf f.type)))->
   Leaves P h u (c.drop o)
 | [],o,u,c,H,_,_=>by simp only[rH,bH]at H;subst H;intro i q j;simp at j
 |f::fs,o,u,c,H,k,e=>by
  simp only[rH]at H;split at H
  .rename_i T b m;split at H
   .rename_i U a p;simp only[bH]at H;subst H;have b:=bY b;have a:=bY a;rw[au]at k;have d:=e f dj;rw[b,<-a]at d;refine Leaves.append (g _ _ _ m (by simp;omega) d) ?_;rw[List.drop_drop];exact yj g fs _ U c p ae (λF l=>e F (cv _ l))
   .cases H
  .cases H
theorem Au{P:Program}{h:aj}: ∀(d n:Nat)(t:TypeId)(T:List TypeId)(c:List Value),vu P d t=some T->c.length=T.length->qO P h n t c->Leaves P h T c
 |0,_,_,_,_,H,_,_=>by simp[vu]at H
 |d+1,n,t,T,c,H,k,a=>by
  simp only[vu]at H;cases n with
  |zero=>exact a.elim
  |succ n=>
   split at H
   .rename_i fs j;unfold qO at a;rw[j]at a;have:=yj (λt T c e f g=>Au d n t T c e f g) fs.toList 0 T c H ae a.2;simpa using this
   .cases H
   .simp only[bH]at H;subst H;intro i l b
    match c,k with
    | [v],_=>
     cases i with
     |zero=>simp at b;subst b;exact⟨v,n+1,rfl,a⟩
     |succ i=>simp at b
theorem Leaves.get{P:Program}{h:aj}{a:List TypeId}{c:List Value}(d:Leaves P h a c)(i:Nat){T:TypeId}{v:Value}(b:a[i]? =some T)(H:c[i]? =some v): ∃m,qO P h m T [v]:=by
 obtain⟨u,m,f,e⟩:=d i T b;rw[f]at H;cases H;exact⟨m,e⟩
theorem Leaves.int{P:Program}{h:aj}{b:List TypeId}{c:List Value}(e:Leaves P h b c)(i:Nat){T:TypeId}{v:Value}{k:IntKind}(d:b[i]? =some T)(j:c[i]? =some v)(g:P.underlying T=some (.int k)): ∃a,v=.int k a/\(Lit.int k a).wf=true:=by
 obtain⟨m,f⟩:=e.get i d j;obtain⟨a,H,l⟩:=qO.int g f;exact⟨a,cI H,l⟩
theorem Leaves.bool{P:Program}{h:aj}{d:List TypeId}{c:List Value}(f:Leaves P h d c)(i:Nat){T:TypeId}{v:Value}(e:d[i]? =some T)(k:c[i]? =some v)(j:P.underlying T=some .bool): ∃b,v=.B b:=by
 obtain⟨m,g⟩:=f.get i e k;obtain⟨a,H⟩:=qO.bool j g;exact⟨a,cI H⟩
theorem aH.of{a:Type}{F:a}{B:a->Prop}(h: ∀J,J=F->B J):aH F B:=h F rfl
theorem pf.ints{P:Program}{h:aj}{t e:TypeId}{k:IntKind}{p:ck}{len cap:Nat}(c:P.cellsOf e=1)(d:P.underlying e=some (.int k))(g:P.underlying t=some (.slice e))(i:pf P h t (.L p len cap)):
  ∃X:List Int,X.length=len/\Row h p (X.map (.int k ·))/\∀x∈X,(Lit.int k x).wf=true:=by
 obtain⟨X,H,_,_,a,b⟩:=pf.slice (e:=e) (λx:Int=> [Value.int k x]) 1 (λx=>(Lit.int k x).wf=true) c (λ_=>rfl) (λn C _ f=>qO.int d f) g i;refine⟨X,H,?_,b⟩;have:X.flatMap (λx:Int=> [Value.int k x])=X.map (.int k ·):=by
  clear H a b;induction X with
  |nil=>rfl
  |cons x X I=>rw[fG,I];rfl
 rwa[this]at a
theorem IN{h:aj}{p:ck}{k:IntKind}{x:List Int}(b:Row h p (x.map (.int k ·))){i:Nat}(c:i<x.length): ∃a,p=some a/\aY h (a.add (i*1))=some (.int k (x.getD i 0)):=by
 have H:(x.map (Value.int k ·))[i]? =some (.int k (x.getD i 0)):=by simp[c]
 obtain⟨a,rfl⟩:=b.some (λe=>by rw[e]at H;simp at H);exact⟨a,rfl,by rw[cp];exact b.cell H⟩
theorem N0{x:List Int}{i:Nat}(H:i<x.length):x.getD i 0∈x:=by
 rw[bk,ai H];exact dI H
end
end Go.Den
