/-
  Dz is proved here: parts of wz proof, one behind wz other (texts of this work, merged by a program; FI wz theorem FJ not use is left out). No condition.
-/
import Derived.Test.YtlenamcfacpheaaGreatDoorProg
import Derived.Shelf.Strings.Cut
import Derived.Shelf.Strconv.Itoa4
import Derived.Ground.NamesProg
import Derived.Shelf.Small.Wraps
import Derived.Test.YtlenamcfacpheaaGreatDoorMAsnsa
set_option maxRecDepth 100000
set_option maxHeartbeats 4000000
namespace Go.Den
def bc(bs:cH):List Value:=bs.map λb=> .int .u8 (b.toNat:Int)
theorem iV(bs:cH):(bc bs).length=bs.length:=by simp[bc]
theorem jR(bs cs:cH):bc (bs++cs)=bc bs++bc cs:=by simp[bc]
theorem NW(bs:cH)(n:Nat):(bc bs).take n=bc (bs.take n):=by simp[bc,List.map_take]
theorem NY(bs:cH)(n:Nat):(bc bs).drop n=bc (bs.drop n):=by simp[bc,List.map_drop]
theorem pW(bs:cH): ∀v∈bc bs,fI v=true:=by
 intro v h;simp only[bc,bg]at h;obtain⟨b,_,rfl⟩:=h;rfl
def str(bs:cH):ByteArray:=⟨bs.toArray⟩
theorem wM(b:ByteArray): ∀(k i:Nat)(r:cH),b.size - i=k->i<=b.size->ByteArray.toList.loop b i r=r.reverse++b.data.toList.drop i
 |0,i,r,hk,H=>by
  have:i=b.size:=af
  unfold ByteArray.toList.loop;rw[dj];have:b.data.toList.length<=i:=by rw[et];exact Nat.le_of_eq this.symm
  rw[dZ this];simp
 |k+1,i,r,hk,H=>by
  have h:i<b.size:=af
  unfold ByteArray.toList.loop;rw[ag h,wM b k (i+1) _ af af];have a:i<b.data.toList.length:=by rw[et];exact h
  rw[cR a];have:b.get! i=b.data.toList[i]:=by
   show b.data[i]! =_;rw[getElem!_pos b.data i h];simp
  rw[this];simp
theorem toList_data(b:ByteArray):b.toList=b.data.toList:=by
 unfold ByteArray.toList;rw[wM b _ 0 [] rfl (bL _)];simp
theorem nK(bs:cH):(str bs).toList=bs:=by rw[toList_data];simp[str]
theorem Lm(s:ByteArray):str s.data.toList=s:=by cases s;simp[str]
section
variable {P : Program}
theorem DP(h:aj): ∀(bs:cH)(s:ByteArray),rd P (forIn (bc bs).toArray s λc s=>(do
   let .int .u8 n:=c|stuck "bytesToString: byte expected"
   pure (ForInStep.yield (s.push (UInt8.ofNat n.toNat))))) h=some ⟨s.data++bs.toArray⟩:=by
 intro bs;simp only[List.forIn_toArray];induction bs with
 |nil=>intro s;simp only[bc,List.map_nil,List.forIn_nil];show some s=_;cases s;simp
 |cons b bs i=>
  intro s;have e:bc (b::bs)=.int .u8 (b.toNat:Int)::bc bs:=rfl;rw[e,List.forIn_cons];rw[br _ _ h (ForInStep.yield (s.push b)) (by show some (ForInStep.yield (s.push (UInt8.ofNat b.toNat)))=_;simp)];show rd P (forIn (bc bs) (s.push b) _) h=_;rw[i];simp[ByteArray.push]
theorem DQ{S D e:TypeId}{h:aj}{p:cg}{c n:Nat}{bs:cH}(j:P.underlying S=some (.slice e))(f:P.underlying e=some (.int .u8))(hd:P.underlying D=some .string)(H:Row h p (bc bs))(i:n=bs.length):pH P S D (.slice p n c) h (str bs):=by
 subst i;unfold pH convert;rw[br _ _ _ _ (bz j),br _ _ _ _ (bz hd)];show rd P (underlying e>>=_) h=_;rw[br _ _ _ _ (bz f)];show rd P (Conv.bytesToString (.slice p bs.length c)) h=_;cases p with
 |none=>
  have:bs= []:=by
   rcases H with H|⟨a,e,_⟩
   .cases bs with
    |nil=>rfl
    |cons b bs=>cases H
   .cases e
  subst this;rfl
 |some a=>
  have d:dI a (bc bs) 0 h:=by
   rcases H with H|⟨A,e,d⟩
   .rw[H];trivial
   .cases e;exact d
  have g:rd P (loadCells a bs.length) h=some (bc bs).toArray:=by
   unfold loadCells;rw[<-iV,iw (bc bs) 0 #[] h d];simp
  show rd P (loadCells a bs.length>>=λcells=>(forIn cells ByteArray.empty λc s=>(do
   let .int .u8 n:=c|stuck "bytesToString: byte expected"
   pure (ForInStep.yield (s.push (UInt8.ofNat n.toNat)))))>>=λs=>pure (Value.string s)) h=_
  rw[br _ _ _ _ g,br _ _ _ _ (DP h bs ByteArray.empty)];show some (Value.string ⟨ByteArray.empty.data++bs.toArray⟩)=_;have:(⟨ByteArray.empty.data++bs.toArray⟩:ByteArray)=str bs:=by
   unfold str;congr 1;show #[]++bs.toArray=bs.toArray;simp
  rw[this]
theorem NZ{t e:TypeId}{h:aj}{a:Addr}{n c:Nat}{K:fj}(d:P.underlying t=some (.slice e))(g:P.underlying e=some (.int .u8)){cs:Array Value}{C:TypeId}{f:Nat×Nat}(H:h[a.block]? =some (.cells cs C f))(hk: ∀h' F,h'[a.block]? =some (.cells cs C F)->h'.size=h.size->(∀x,x≠a.block->h'[x]? =h[x]?)->K (.slice (some a) n c) h'):aU P (convert t t (.slice (some a) n c)) h K:=by
 unfold convert;refine bP (s:=underlying t) (bz d) ?_;refine bP (s:=underlying t) (bz d) ?_;show aU P (underlying e>>=_) h K;refine bP (s:=underlying e) (bz g) ?_;have j:(t==t)=true:=bO
 rw[j];show aU P (markStringish a>>=λ_=>pure (.slice (some a) n c)) h K;rw[dJ];unfold markStringish shape;have i:ot h a.block=some (C,cs.size):=by simp[ot,H]
 show aU P (match ot h a.block with|some (_,n)=>freeze { block:=a.block,off:=n } 1|_=>pure ()) h _;rw[i];show K (.slice (some a) n c) (ox h { block:=a.block,off:=cs.size } 1);unfold ox;rw[dj];obtain⟨l,b⟩:=f;refine hk _ (if l==b then(cs.size,cs.size+1)else(min l cs.size,max b (cs.size+1))) ?_ bO (λx k=> ?_)
 .simp[df,H]
 .simp[df,e6 k]
theorem pU.bytes{h:aj}{t e:TypeId}{p:cg}{len cap:Nat}(c:P.cellsOf e=1)(hk:P.underlying e=some (.int .u8))(d:P.underlying t=some (.slice e))(f:pU P h t (.slice p len cap)):
  ∃bs:cH,bs.length=len/\Row h p (bc bs):=by
 obtain⟨xs,H,a,b⟩:=pU.ints c hk d f;refine⟨xs.map λx=>UInt8.ofNat x.toNat,cy H,?_⟩;have:bc (xs.map λx=>UInt8.ofNat x.toNat)=xs.map (.int .u8 ·):=by
  unfold bc;rw[dB];refine dN λx g=> ?_
  have:=wf_u8 (b x g);simp only[Function.comp,fb,Value.int.injEq,true_and];omega
 rw[this];exact a
end
theorem qR.bytes{P:Program}{h:aj}{t e:TypeId}{n:Nat}{v:Value}(f:P.cellsOf e=1)(hk:P.underlying e=some (.int .u8))(d:P.underlying t=some (.slice e))(b:qR P h n t [v]): ∃p c bs,v=.slice p (bs:cH).length c/\Row h p (bc bs):=by
 have: ∃p l c,v=.slice p l c:=by
  cases n with
  |zero=>exact b.elim
  |succ n=>
   unfold qR at b;rw[d]at b;rcases b with H|⟨a,l,c,H,_⟩
   .simp at H;exact⟨_,_,_,H⟩
   .simp at H;exact⟨_,_,_,H⟩
 obtain⟨p,l,c,rfl⟩:=this;obtain⟨bs,g,i⟩:=pU.bytes f hk d ⟨n,b⟩;subst g;exact⟨p,c,bs,rfl,i⟩
theorem kI(n:Nat):IntKind.wrap .u8 (n:Int)=((n%256:Nat):Int):=by
 show(n:Int)%256=_;omega
theorem oI{n:Nat}(h:n<18446744073709551616):IntKind.wrap .u64 (n:Int)=(n:Int):=wrap_u64 af af
theorem Rb(n:Nat):IntKind.wrap .u8 ((BitVec.ofInt (IntKind.bits .u8) (IntKind.wrap .u8 (n:Int))|||BitVec.ofInt (IntKind.bits .u8) 128).toNat:Int)=((UInt8.ofNat (n%128+128)).toNat:Int):=by
 have key: ∀m:Fin 256,(((BitVec.ofInt 8 (m.val:Int)|||BitVec.ofInt 8 128).toNat%256:Nat))=m.val%128+128:=dH
 rw[kI n,kI];have k:=key ⟨n%256,af⟩;simp only at k;have e:IntKind.bits .u8=8:=rfl;rw[e,k];rw[fb];omega
theorem PY(c:UInt8):(IntKind.wrap .u8 ((BitVec.ofInt (IntKind.bits .u8) (c.toNat:Int) &&& BitVec.ofInt (IntKind.bits .u8) 128).toNat:Int)==0)=decide (c.toNat<128):=by
 have key: ∀m:Fin 256,(((((BitVec.ofInt 8 (m.val:Int) &&& BitVec.ofInt 8 128).toNat%256:Nat):Int))==0)=decide (m.val<128):=dH
 rw[kI];exact key ⟨c.toNat,c.toNat_lt⟩
theorem PZ(c:UInt8):IntKind.wrap .u8 ((BitVec.ofInt (IntKind.bits .u8) (c.toNat:Int) &&& BitVec.ofInt (IntKind.bits .u8) 127).toNat:Int)=((c.toNat%128:Nat):Int):=by
 have key: ∀m:Fin 256,((BitVec.ofInt 8 (m.val:Int) &&& BitVec.ofInt 8 127).toNat%256:Nat)=m.val%128:=dH
 rw[kI];exact bT (λx:Nat=>(x:Int)) (key ⟨c.toNat,c.toNat_lt⟩)
theorem P0{n d i:Nat}(a:n<2 ^ i)(hd:d*2 ^ i<18446744073709551616)(h:i<=64):
  IntKind.wrap .u64 ((BitVec.ofInt (IntKind.bits .u64) (n:Int)|||BitVec.ofInt (IntKind.bits .u64) (IntKind.wrap .u64 ((d:Int)*2 ^ min (Int.toNat (i:Int)) (IntKind.bits .u64)))).toNat:Int)=((n+d*2 ^ i:Nat):Int):=by
 have E:IntKind.bits .u64=64:=rfl;have f:(0:Nat)<2 ^ i:=Nat.two_pow_pos i;rw[aD,E,Nat.min_eq_left h];have e1:((d:Int)*2 ^ i)=((d*2 ^ i:Nat):Int):=bO
 rw[e1,oI hd];have b:n<18446744073709551616:=by
  have:(2:Nat) ^ i<=2 ^ 64:=fH af h;omega
 have e2: ∀m:Nat,m<18446744073709551616->(BitVec.ofInt 64 (m:Int)).toNat=m:=λm c=>by
  rw[BitVec.toNat_ofInt];omega
 rw[BitVec.toNat_or,e2 n b,e2 _ hd];have e:n|||d*2 ^ i=n+d*2 ^ i:=by
  rw[Nat.or_comm,fS,<-Nat.two_pow_add_eq_or_of_lt a d];omega
 rw[e];refine oI ?_;have H:d<2 ^ (64 - i):=by
  have:(18446744073709551616:Nat)=2 ^ (64 - i)*2 ^ i:=by rw[<-Nat.pow_add,Nat.sub_add_cancel h]
  rw[this]at hd;exact Nat.lt_of_mul_lt_mul_right hd
 have:(d+1)*2 ^ i<=2 ^ (64 - i)*2 ^ i:=cF _ H;rw[<-Nat.pow_add,Nat.sub_add_cancel h,dO]at this;omega
theorem SD{n:Nat}:Int.fdiv (n:Int) (2 ^ min (Int.toNat 7) (IntKind.bits .u64))=((n/128:Nat):Int):=by
 show Int.fdiv (n:Int) 128=_;rw[Int.fdiv_eq_ediv_of_nonneg _ af];omega
end Go.Den
namespace Go.Den
structure Step (S:Nat->Prop) (h:aj) (S':Nat->Prop) (h':aj):Prop where
 fr:Fr S h h'
 new: ∀c,S' c->S c\/h.size<=c
theorem Step.refl(S:Nat->Prop)(h:aj):Step S h S h:=⟨Fr.refl _ _,λ_=> .inl⟩
theorem Step.trans{S s d:Nat->Prop}{h H e:aj}(a:Step S h s H)(b:Step s H d e):Step S h d e:=
 ⟨a.fr.trans b.fr cu (λc hc f=>(a.new c f).resolve_right af),λc hc=>by
  rcases b.new c hc with hc|hc
  .exact a.new c hc
  .have:=a.fr.1;exact .inr af⟩
theorem Step.apart{S s Q:Nat->Prop}{h h':aj}(st:Step S h s h')(hd: ∀c,S c->¬Q c)(b: ∀c,Q c->c<h.size): ∀c,s c->¬Q c:=λc a H=>by
 rcases st.new c a with h1|h1
 .exact hd c h1 H
 .have:=b c H;omega
theorem Fr.fresh{S:Nat->Prop}{h H a:aj}(f:Fr (λ_=>False) h H)(g:Fr S H a)(b: ∀c,S c->h.size<=c):Fr (λ_=>False) h a:=
 f.step g λc e d=>by have:=b c d;omega
theorem Jm{h:aj}{c:Array Value}{t:TypeId}{f:Nat×Nat}{i:Nat}{v:Value}:nF (h.push (.cells c t f)) (AA h.size i) v=h.push (.cells (c.setIfInBounds i v) t f):=by
 apply Array.ext
 .simp[nF]
 .intro j a b;have e: ∀(x:aj)(H:j<x.size),x[j]? =some x[j]:=λx H=>Array.getElem?_eq_getElem H
  have:(nF (h.push (.cells c t f)) (AA h.size i) v)[j]? =(h.push (.cells (c.setIfInBounds i v) t f))[j]? :=by
   by_cases q:j=h.size
   .subst q;rw[vh bR,bR]
   .rw[su q];rw[fv,fv,ae q,ae q]
  rw[e _ a,e _ b]at this;exact bj this
theorem wN{h:aj}{c:Array Value}{t:TypeId}{i:Nat}{v:Value}{K:aj->Prop}(H:i<c.size)(hk:K (h.push (.cells (c.setIfInBounds i v) t (0,0)))):aO (h.push (.cells c t (0,0))) (AA h.size i) v K:=by
 refine⟨?_,kF bR,?_⟩
 .rw[jQ bR];simp[H]
 .rintro _ rfl;rw[Jm];exact hk
theorem cG{h:aj}{o:Obj}{K:Nat->aj->Prop}(hk:K h.size (h.push o)):aQ h o K:=by
 rintro b h' rfl rfl;exact hk
section
variable {P : Program}
theorem iC{s x ty elem eT t:TypeId}{sz bytes:Nat}{z:Value}{h:aj}{p:cg}{len cap:Nat}{cs:List Value}{xs:Array Value}{K:fj}(T:nJ P s elem sz bytes z)(m:P.underlying x=some (.slice eT))(own:fi h p len cap sz cs)(n:xs.size=sz)(l: ∀v∈xs.toList,fI v=true)(e:(len+1)*bytes<=70368744177664)(f:len+1<=9223372036854775807)(hk: ∀a C h',fi h' a (len+1) C sz (cs++xs.toList)->Fr (aL p) h h'->(∀c,aL a c->aL p c\/h.size<=c)->K (.slice a (len+1) C) h'):
  aQ h (.cells xs t) λb H=>aU P (Builtin.append_ #[s,x] ty #[.slice p len cap,.slice (Sa b 0) 1 1]) H K:=by
 refine cG ?_;have f1:Fr (λ_=>False) h (h.push (.cells xs t)):=Fr.push _ _;refine dY T m (own.frame f1 cu) (ds:=xs.toList) (.inr ⟨_,rfl,gA bR (λj v k=>by rw[bC];simpa using k)⟩) (by simp[n]) l e f ?_;intro a C h' o1 _ f2 g;exact hk a C h' o1 (Fr.no f1 f2) (λc i=>(g c i).imp id (λd=>by simp at d;omega))
end
end Go.Den
namespace Go.Den
structure Up (h0:aj) (S:Nat->Prop) (h:aj):Prop where
 fr:Fr (λ_=>False) h0 h
 ge: ∀c,S c->h0.size<=c
theorem Up.step{H h h':aj}{S s:Nat->Prop}(u:Up H S h)(st:Step S h s h'):Up H s h':=
 ⟨u.fr.fresh st.fr u.ge,λc a=>by
  rcases st.new c a with h1|h1
  .exact u.ge c h1
  .have:=u.fr.1;omega⟩
theorem Up.Bi{H h h':aj}{S Q:Nat->Prop}(u:Up H S h)(f:Fr Q h h')(b: ∀c,Q c->S c):Up H S h':=⟨u.fr.fresh f (λc a=>u.ge c (b c a)),u.ge⟩
theorem jl{h:aj}{cs:List Value}{t:TypeId}:Row (h.push (.cells cs.toArray t)) (Sa h.size 0) cs:=.inr ⟨_,rfl,gA bR (λj v H=>by rw[bC];simpa using H)⟩
theorem fo(a:Addr):a.add 0=a:=by simp[Addr.add]
theorem lP(a:Addr)(n:Nat):(a.add n).block=a.block:=by unfold Addr.add;split<;>rfl
theorem iI{h:aj}{p:cg}{cs:List Value}(f:Row h p cs)(b:cs≠ []){x:Nat}(g:aL p x):x<h.size:=by
 obtain⟨a,rfl,rfl⟩:=g;rcases f with H|⟨A,e,H⟩
 .exact absurd H b
 .cases e;cases cs with
  |nil=>exact absurd rfl b
  |cons c cs=>
   obtain⟨_,_,_,d,_⟩:=ss H.1;have:=aC d;rwa[lP]at this
theorem Row.sub{h:aj}{p:cg}{cs:List Value}(d:Row h p cs){cap l u sz:Nat}(e:l<=u)(f:u<=cap):Row h (cK p cap l sz) ((cs.take (u*sz)).drop (l*sz)):=by
 by_cases b:cap=l
 .left;have:u=l:=af
  subst this;rw[List.drop_eq_nil_iff,bE];exact Nat.min_le_left _ _
 .unfold cK;rw[ae b];rcases d with rfl|⟨a,rfl,c⟩
  .left;simp
  .refine .inr ⟨a.add (l*sz),rfl,j8.2 λj v H=> ?_⟩;rw[add_add,bC];rw[ff,cS]at H;split at H
   .have:=j8.1 c (l*sz+j) v H;rwa[bC]at this
   .cases H
structure Ft where
 M:Nat->Prop
 D:Nat->Prop
structure bG (F:Ft) (h:aj) (F':Ft) (h':aj):Prop where
 fr:Fr F.M h h'
 jr: ∀c,F'.M c->F.M c\/h.size<=c
 kR: ∀c,F'.D c->F.D c\/h.size<=c
 vk: ∀c,F.D c->F'.D c
theorem bG.refl(F:Ft)(h:aj):bG F h F h:=⟨Fr.refl _ _,λ_=> .inl,λ_=> .inl,λ_=>id⟩
theorem bG.trans{F f d:Ft}{h H e:aj}(a:bG F h f H)(b:bG f H d e):bG F h d e:=by
 have z:=a.fr.1;refine⟨a.fr.trans b.fr cu (λc hc g=>(a.jr c g).resolve_right af),λc hc=> ?_,λc hc=> ?_,λc hc=>b.vk c (a.vk c hc)⟩
 .rcases b.jr c hc with hc|hc
  .exact a.jr c hc
  .exact .inr af
 .rcases b.kR c hc with hc|hc
  .exact a.kR c hc
  .exact .inr af
theorem bG.tL{F:Ft}{h h':aj}(f:Fr F.M h h'):bG F h F h':=⟨f,λ_=> .inl,λ_=> .inl,λ_=>id⟩
theorem bG.im{F:Ft}{h h':aj}(f:Fr (λ_=>False) h h'):bG F h F h':=.tL (f.mono λ_ _=>False.elim)
theorem bG.no{F a:Ft}{h H c:aj}(f:Fr (λ_=>False) h H)(b:bG F H a c):bG F h a c:=(bG.im f).trans b
theorem bG.on{F b:Ft}{h H c:aj}(a:bG F h b H)(f:Fr (λ_=>False) H c):bG F h b c:=a.trans (bG.im f)
theorem bG.apart{F f:Ft}{Q:Nat->Prop}{h h':aj}(st:bG F h f h')(hd: ∀c,F.M c\/F.D c->¬Q c)(a: ∀c,Q c->c<h.size): ∀c,f.M c\/f.D c->¬Q c:=λc hc H=>by
 have:=a c H;rcases hc with hc|hc
 .rcases st.jr c hc with h1|h1
  .exact hd c (.inl h1) H
  .omega
 .rcases st.kR c hc with h1|h1
  .exact hd c (.inr h1) H
  .omega
structure Ln (h0:aj) (F:Ft) (h:aj):Prop where
 fr:Fr (λ_=>False) h0 h
 ge: ∀c,F.M c\/F.D c->h0.size<=c
theorem Ln.step{H h h':aj}{F f:Ft}(u:Ln H F h)(st:bG F h f h'):Ln H f h':=by
 have z:=u.fr.1;refine⟨u.fr.fresh st.fr (λc hc=>u.ge c (.inl hc)),λc hc=> ?_⟩;rcases hc with hc|hc
 .rcases st.jr c hc with h1|h1
  .exact u.ge c (.inl h1)
  .omega
 .rcases st.kR c hc with h1|h1
  .exact u.ge c (.inr h1)
  .omega
theorem Ln.on{H h h':aj}{F:Ft}(u:Ln H F h)(f:Fr (λ_=>False) h h'):Ln H F h':=⟨u.fr.tt f,u.ge⟩
theorem pX{b:Nat}{t:TypeId}: ∀(vs:List Value)(i:Nat)(h:aj)(c:Array Value)(K:aj->Prop),h[b]? =some (.cells c t (0,0))->i+vs.length<=c.size->vs.all fI=true->
  (∀h' C,h'[b]? =some (.cells C t (0,0))->C.size=c.size->(∀j,j<i\/i+vs.length<=j->C[j]? =c[j]?)->(∀j v,vs[j]? =some v->C[i+j]? =some v)->h'.size=h.size->(∀x,x≠b->h'[x]? =h[x]?)->K h')->
  dU (AA b 0) vs i h K
 | [],i,h,c,K,a,_,_,hk=>hk h c a rfl (λ_ _=>rfl) (λj v H=>by simp at H) rfl (λ_ _=>rfl)
 |v::vs,i,h,c,K,a,l,d,hk=>by
  rw[List.all_cons,aR]at d;rw[aV]at l;unfold dU;rw[d.1];dsimp only;rw[gz,bC];refine bH a af λg A s1 o1=> ?_
  refine pX vs (i+1) g _ K A (by rw[Array.size_setIfInBounds];omega) d.2 λk f B z q2 r2 s o2=>hk k f B (by rw[z,Array.size_setIfInBounds]) (λj H=> ?_) (λj u H=> ?_) af (λx e=>by rw[o2 x e,o1 x e])
  .rw[aV]at H;rw[q2 j af,cA,dj]
  .cases j with
   |zero=>
    simp only[dF,bn]at H;subst H;rw[Nat.add_zero,q2 i af];rw[cA,ag rfl,fY]
   |succ j=>
    have:=r2 j u (cy H);rwa[show i+1+j=i+(j+1) by omega]at this
theorem eX{h:aj}{b:Nat}{c:Array Value}{t:TypeId}{vs:List Value}{K:aj->Prop}(a:h[b]? =some (.cells c t (0,0)))(f:vs.length=c.size)(d:vs.all fI=true)(hk: ∀h',h'[b]? =some (.cells vs.toArray t (0,0))->h'.size=h.size->(∀x,x≠b->h'[x]? =h[x]?)->K h'):dU (AA b 0) vs 0 h K:=by
 refine pX vs 0 h c K a af d λh' C B z _ r s o=>hk h' ?_ s o
 have:C=vs.toArray:=by
  apply Array.ext'
  apply fp
  intro j;by_cases H:j<vs.length
  .have e:=ai H;have:=r j _ e;rw[bC]at this;rw[dz,this];exact e.symm
  .rw[dA (by rw[et];omega),dA (cy H)]
 rw[<-this];exact B
theorem gy{h:aj}{c:Array Value}{t:TypeId}{vs:List Value}{K:Nat->aj->Prop}(a:vs.length=c.size)(f:vs.all fI=true)(hk: ∀b h',b=h.size->h'[b]? =some (.cells vs.toArray t (0,0))->Fr (λ_=>False) h h'->K b h'):aQ h (.cells c t) λb H=>dU (AA b 0) vs 0 H (K b):=
 cG (eX bR a f λh' B s o=>hk _ h' rfl B ((Fr.push h _).fresh (S:=λy=>y=h.size) ⟨af,λy _ d=>o y d⟩ (λy e=>Nat.le_of_eq e.symm)))
end Go.Den
namespace Go.Den
structure BV where
 p:cg
 c:Nat
 b:cH
abbrev BV.val(x:BV):Value:=.slice x.p x.b.length x.c
structure BV.ok (h:aj) (D:Nat->Prop) (x:BV):Prop where
 row:Row h x.p (bc x.b)
 own:x.b≠ []->∀c,aL x.p c->D c
 cap:x.b.length<=x.c
theorem BV.ok.frame{h h':aj}{D Q:Nat->Prop}{x:BV}(H:x.ok h D)(f:Fr Q h h')(d: ∀c,D c->¬Q c):x.ok h' D:=by
 refine⟨?_,H.own,H.cap⟩;by_cases b:x.b= []
 .rw[b];exact .inl rfl
 .exact H.row.frame f (λa e=>d a.block (H.own b a.block ⟨a,e,rfl⟩))
theorem BV.ok.mono{h:aj}{D D':Nat->Prop}{x:BV}(H:x.ok h D)(hd: ∀c,D c->D' c):x.ok h D':=⟨H.row,λa c b=>hd c (H.own a c b),H.cap⟩
theorem BV.j9{h:aj}{D:Nat->Prop}{p:cg}{c:Nat}{b:cH}(o:fi h p b.length c 1 (bc b))(hd: ∀x,aL p x->D x):BV.ok h D ⟨p,c,b⟩:=⟨o.jb,λ_=>hd,o.le⟩
theorem jS(p:cg)(m sz:Nat):cK p m 0 sz=p:=by
 unfold cK;split
 .rfl
 .cases p with
  |none=>rfl
  |some a=>simp[Addr.add]
theorem fi.fL{h:aj}{a:Addr}{len cap sz:Nat}{α:Type}{enc:α->List Value}{xs:List α}(own:fi h (.some a) len cap sz (xs.flatMap enc))(H: ∀x,(enc x).length=sz){i:Nat}{x:α}(b:xs[i]? =.some x):dI (a.add (i*sz)) (enc x) 0 h:=by
 refine j8.2 λj v c=> ?_
 rw[bC,add_add];exact own.cell (qS enc sz H xs i x b j v c)
theorem Row.fL{h:aj}{a:Addr}{sz:Nat}{α:Type}{enc:α->List Value}{xs:List α}(own:Row h (.some a) (xs.flatMap enc))(H: ∀x,(enc x).length=sz){i:Nat}{x:α}(b:xs[i]? =.some x):dI (a.add (i*sz)) (enc x) 0 h:=by
 refine j8.2 λj v c=> ?_
 rw[bC,add_add];exact own.cell (qS enc sz H xs i x b j v c)
theorem fi.addr{h:aj}{p:cg}{len cap sz:Nat}{cs:List Value}(own:fi h p len cap sz cs)(d:0<len): ∃b off,p=.some (AA b off):=by
 cases own with
 |nil _ a _ _=>omega
 |row b off c t H _ _ _ _ _=>exact⟨b,off,H⟩
theorem fi.pre{h:aj}{p:cg}{len cap sz:Nat}{cs:List Value}(own:fi h p len cap sz cs){i:Nat}(H:i<=len):fi h p i cap sz (cs.take (i*sz)):=by
 have:=own.sub (l:=0) (u:=i) (bL _) H;rwa[jS,Nat.zero_mul,gv]at this
theorem lQ{α:Type}(enc:α->List Value)(sz:Nat)(h: ∀x,(enc x).length=sz): ∀(xs:List α)(i:Nat),(xs.flatMap enc).take (i*sz)=(xs.take i).flatMap enc
 | [],i=>bO
 |x::xs,0=>bO
 |x::xs,i+1=>by
  rw[fK,fQ,fK,List.take_append,h,bB (by rw[h,dO];omega),show(i+1)*sz - sz=i*sz by rw[dO];omega,lQ enc sz h xs i]
theorem nL{α:Type}(enc:α->List Value)(sz:Nat)(h: ∀x,(enc x).length=sz): ∀(xs:List α)(i:Nat),(xs.flatMap enc).drop (i*sz)=(xs.drop i).flatMap enc
 | [],i=>bO
 |x::xs,0=>bO
 |x::xs,i+1=>by
  rw[fK,List.drop_succ_cons,List.drop_append,h,dZ (by rw[h,dO];omega),cD,show(i+1)*sz - sz=i*sz by rw[dO];omega,nL enc sz h xs i]
theorem DR{α:Type}(enc:α->List Value)(sz:Nat)(h: ∀x,(enc x).length=sz): ∀(xs:List α)(i:Nat)(y:α),i<xs.length->∀(cs:List Value),cs.length=(xs.flatMap enc).length->(∀j,j/sz≠i\/sz=0->cs[j]? =(xs.flatMap enc)[j]?)->(∀j v,j<sz->(enc y)[j]? =some v->cs[i*sz+j]? =some v)->cs=(xs.set i y).flatMap enc:=by
 intro xs i y q cs s k p;apply fp
 intro j;by_cases n:sz=0
 .rw[k j (.inr n)];have e1: ∀zs:List α,zs.flatMap enc= []:=λzs=>by
   have:=eS enc sz h zs;rw[n,Nat.mul_zero]at this;exact List.eq_nil_of_length_eq_zero this
  rw[e1,e1]
 have g:0<sz:=af
 by_cases d:j/sz=i
 .have f:j=i*sz+j%sz:=by rw[<-d,fS];exact(Nat.div_add_mod j sz).symm
  have c:=Nat.mod_lt j g;have H:(enc y)[j%sz]? =some ((enc y)[j%sz]'(by rw[h];exact c)):=ai _;have a:=p _ _ c H;have b:=qS enc sz h (xs.set i y) i y (by simp[q]) _ _ H;rw[<-f]at a b;rw[a,b]
 .rw[k j (.inl d)];by_cases m:j/sz<xs.length
  .have f:j=(j/sz)*sz+j%sz:=by rw[fS];exact(Nat.div_add_mod j sz).symm
   have c:=Nat.mod_lt j g;have o:xs[j/sz]? =some (xs[j/sz]):=ai m;have r:(xs.set i y)[j/sz]? =some (xs[j/sz]):=by rw[cX,ae (λe=>d e.symm)];exact o
   have H:(enc xs[j/sz])[j%sz]? =some ((enc xs[j/sz])[j%sz]'(by rw[h];exact c)):=ai _;have a:=qS enc sz h xs _ _ o _ _ H;have b:=qS enc sz h (xs.set i y) _ _ r _ _ H;rw[<-f]at a b;rw[a,b]
  .have l:xs.length*sz<=j:=by
    have:=(Nat.le_div_iff_mul_le g).1 (Nat.le_of_not_lt m);exact this
   rw[dA (by rw[eS enc sz h];exact l),dA (by rw[eS enc sz h,cY];exact l)]
section
variable {P : Program}
theorem Bj{S elem ty:TypeId}{sz bytes:Nat}{z:Value}{h:aj}{p:cg}{len cap i:Nat}{cs:List Value}{K:fj}(T:nJ P S elem sz bytes z)(I: ∀v∈z.cells.toList,fI v=true)(own:fi h p len cap sz cs)(d:i<=len)(hk: ∀h',fi h' p i cap sz (cs.take (i*sz))->Fr (aL p) h h'->K (.tuple #[]) h'):aU P (Builtin.clear_ #[S] ty #[.slice (cK p cap i sz) (len - i) (cap - i)]) h K:=by
 have fin:K (.tuple #[]) h:=hk h (own.pre d) (Fr.refl _ _);obtain⟨b',B,a',_,O⟩:=T.i;unfold Builtin.clear_;show aU P (underlying S>>=_) h K;refine bP (s:=underlying S) (bz T.u) ?_;cases own with
 |nil f l w g=>
  subst f;have:cK none cap i sz=none:=by unfold cK;split<;>rfl
  rw[this];exact fin
 |row b off c t f q l w E g=>
  subst f;by_cases A:len - i=0
  .rw[A];cases Y:cK (Sa b off) cap i sz with
   |none=>exact fin
   |some a=>exact fin
  .obtain⟨n,m⟩: ∃n,len - i=n+1:=⟨len - i - 1,af⟩;have y:cap≠i:=af
   have u:cK (Sa b off) cap i sz=some ⟨b,off+i*sz,none⟩:=by
    unfold cK;rw[ae y];show some (((AA b off):Addr).add (i*sz))=_;rw[gz]
   rw[u,m];show aU P (zeroValue elem>>=λz=>storeCells ⟨b,off+i*sz,none⟩ (Builtin.zeroCells z.cells (n+1)).toList>>=λ_=>pure (Value.tuple #[])) h K;refine bP (s:=zeroValue elem) (iH B O) ?_;rw[dJ];have R:=T.zs;have Q:(Builtin.zeroCells z.cells (n+1)).toList.length=(n+1)*sz:=by simp[Builtin.zeroCells,R]
   have V:off+i*sz+(n+1)*sz<=off+cap*sz:=by
    rw[<-m,Nat.sub_mul];have U:i*sz<=len*sz:=cF _ d;have m2:len*sz<=cap*sz:=cF _ l;omega
   refine sw (c:=c) (off:=off+i*sz) _ 0 h b t _ ?_ q (by rw[Q];omega) ?_
   .intro v o;simp only[Builtin.zeroCells,Array.toList_map,bg]at o;obtain⟨k,D,rfl⟩:=o;have L:0<z.cells.size:=by
     rcases Nat.eq_zero_or_pos z.cells.size with e|e
     .simp[e]at D
     .exact e
    have F:=Nat.mod_lt k L;rw[getElem!_pos z.cells _ F];exact I _ bO
   .intro h' C r Z G X M J;refine hk h' (.row b off C t rfl r af af ?_ ?_) (Fr.of_eq M λx N=>J x (λe=>N ⟨_,rfl,e.symm⟩))
    .rw[bE,E];have U:i*sz<=len*sz:=cF _ d;omega
    .intro j v H;rw[cS]at H;split at H
     .rename_i W;rw[G (off+j) af];exact g j v H
     .cases H
theorem vm{s X ty elem eT t:TypeId}{sz bytes:Nat}{z:Value}{h:aj}{q:cg}{n cq:Nat}{ds:List Value}{K:fj}(T:nJ P s elem sz bytes z)(H:P.underlying X=some (.slice eT))(m:Row h q ds)(hd:ds.length=n*sz)(l: ∀v∈ds,fI v=true)(i:n*bytes<=70368744177664)(o:n<=9223372036854775807)(hk: ∀p C h',fi h' p n C sz ds->Fr (λ_=>False) h h'->(∀c,aL p c->h.size<=c)->K (.slice p n C) h'):
  aQ h (.cells #[] t) λb f=>aU P (Builtin.append_ #[s,X] ty #[.slice (Sa b 0) 0 0,.slice q n cq]) f K:=by
 refine cG ?_;have f1:Fr (λ_=>False) h (h.push (.cells #[] t)):=Fr.push _ _;refine dY (cs:= []) T H (.row h.size 0 #[] t rfl bR (bk _) bO bO (λj v k=>by cases k)) (m.frame f1 cu) hd l (cy i) af ?_;intro p d h' o1 _ f2 g;rw[bC,cD]at o1;rw[bC];refine hk p d h' o1 (f1.step f2 (λc r ⟨a,e,e2⟩=>by cases e;simp at e2;omega)) (λx H=> ?_);rcases g x H with⟨a,e,rfl⟩|h2
 .cases e;exact bk _
 .simp at h2;omega
end
theorem Jn{α:Type}{enc:α->List Value}(a: ∀x,(enc x).length=2){xs:List α}{i:Nat}{y:α}{V v1:Value}(b:i<xs.length)(c:enc y= [V,v1]):((xs.flatMap enc).set (i*2) V).set (i*2+1) v1=(xs.set i y).flatMap enc:=by
 have d:=eS enc 2 a xs;refine DR enc 2 a xs i y b _ bO (λj H=> ?_) (λj v H h=> ?_)
 .have H:j/2≠i:=af
  rw[cX,cX,dj,dj]
 .rw[c]at h
  match j,H with
  |0,_=>
   simp only[dF,bn]at h;rw[cX,dj,cX,fY,fY,h]
  |1,_=>
   simp only[di,dF,bn]at h;rw[cX,ag rfl,ag (by rw[cY];omega),h]
end Go.Den
set_option linter.unusedSectionVars false
namespace Go.Den
section
variable {P : Program} {α : Type} [DecidableEq α]
structure Bl (P:Program) (kt:TypeId) (enc:α->Value):Prop where
 eq: ∀(a b:α) (h:aj),rd P (Op.equal kt (enc a) (enc b)) h=some (decide (a=b))
 Rc: ∀(e:Bool) (a:α) (h:aj),rd P (Instr.checkKey e 10000 kt (enc a)) h=some ()
 now: ∃d,P.underlying kt=some d/\∀a b,Instr.sameNow d (enc a) (enc b)=none\/Instr.sameNow d (enc a) (enc b)=some (decide (a=b))
 bits: ∀a,Instr.sameBits 10000 (enc a) (enc a)=true
abbrev oW(enc:α->Value)(t:α×Value×Nat):MapEntry:=⟨enc t.1,t.2.1,t.2.2⟩
abbrev pr(t:α×Value×Nat):α×Value:=(t.1,t.2.1)
structure Re (h:aj) (m:Nat) (enc:α->Value) (T:List (α×Value×Nat)) (clock:Nat):Prop where
 cQ:h[m]? =some (.map (T.map (oW enc)).toArray clock)
 keys:(T.map (·.1)).Nodup
 xR: ∀t∈T,t.2.2<clock
 born:(T.map (·.2.2)).Nodup
def jc(h:aj)(m:Nat)(enc:α->Value)(l:List (α×Value)):Prop:= ∃T c,Re h m enc T c/\(T.map pr).Perm l
def vo(l:List (α×Value))(k:α):List (α×Value):=l.filter (λe=> !decide (e.1=k))
def DS(l:List (α×Value))(k:α)(v:Value):List (α×Value):=(k,v)::vo l k
theorem jc.perm{h:aj}{m:Nat}{enc:α->Value}{l L:List (α×Value)}(H:jc h m enc l)(p:l.Perm L):jc h m enc L:=by
 obtain⟨T,c,a,b⟩:=H;exact⟨T,c,a,b.trans p⟩
theorem jc.lZ{h h':aj}{m:Nat}{enc:α->Value}{l:List (α×Value)}(H:jc h m enc l)(g:h'[m]? =h[m]?):jc h' m enc l:=by
 obtain⟨T,c,⟨a,b,d,e⟩,f⟩:=H;exact⟨T,c,⟨g.trans a,b,d,e⟩,f⟩
theorem jc.lt{h:aj}{m:Nat}{enc:α->Value}{l:List (α×Value)}(H:jc h m enc l):m<h.size:=by
 obtain⟨T,c,a,_⟩:=H;exact aC a.cQ
theorem jc.frame{S:Nat->Prop}{h h':aj}{m:Nat}{enc:α->Value}{l:List (α×Value)}(H:jc h m enc l)(a:Fr S h h')(b: ¬S m):jc h' m enc l:=H.lZ (a.2 m H.lt b)
theorem jc.push(h:aj)(enc:α->Value):jc (h.push (.map #[] 0)) h.size enc []:=⟨[],0,⟨bR,bO,bO,bO⟩,.refl _⟩
theorem jc.nodup{h:aj}{m:Nat}{enc:α->Value}{l:List (α×Value)}(H:jc h m enc l):(l.map (·.1)).Nodup:=by
 obtain⟨T,c,b,d⟩:=H;have a:=d.map (·.1);rw[dB]at a;exact a.nodup_iff.1 b.keys
def mb(k:α):List (α×Value×Nat)->Nat->Option (Nat×Value)
 | [],_=>none
 |t::T,i=>if k=t.1 then some (i,t.2.1)else mb k T (i+1)
theorem oJ{k:α}: ∀{T:List (α×Value×Nat)}{i:Nat},mb k T i=none->∀t∈T,t.1≠k
 | [],_,_,_,ht=>by cases ht
 |u::T,i,h,t,ht=>by
  unfold mb at h;split at h
  .cases h
  .rename_i H;rcases bJ.1 ht with rfl|ht
   .exact λe=>H e.symm
   .exact oJ h t ht
theorem oK{k:α}: ∀{T:List (α×Value×Nat)}{i j:Nat}{v:Value},mb k T i=some (j,v)->∃A B b,T=A++(k,v,b)::B/\j=i+A.length
 | [],_,_,_,h=>by cases h
 |u::T,i,j,v,h=>by
  unfold mb at h;split at h
  .rename_i H;simp only[bn,gi]at h;obtain⟨rfl,rfl⟩:=h;subst H;exact⟨[],T,u.2.2,rfl,rfl⟩
  .obtain⟨A,B,b,rfl,rfl⟩:=oK h;exact⟨u::A,B,b,rfl,by rw[aV];omega⟩
theorem wO{kt:TypeId}{enc:α->Value}{d:TypeDesc}(hd: ∀a b,Instr.sameNow d (enc a) (enc b)=none\/Instr.sameNow d (enc a) (enc b)=some (decide (a=b)))(k:α):
  ∀(T:List (α×Value×Nat))(i:Nat),Instr.findNow d (enc k) (T.map (oW enc)) i=none\/Instr.findNow d (enc k) (T.map (oW enc)) i=some (mb k T i)
 | [],i=> .inr rfl
 |t::T,i=>by
  rw[bW];unfold Instr.findNow mb;rcases hd k t.1 with e|e<;>rw[e]
  .exact .inl rfl
  .by_cases hk:k=t.1
   .rw[au hk,ag hk];exact .inr rfl
   .rw[az hk,ae hk];exact wO (kt:=kt) hd k T (i+1)
theorem Bm{kt:TypeId}{enc:α->Value}(K:Bl P kt enc)(k:α)(h:aj): ∀(T:List (α×Value×Nat))(i:Nat),rd P (Instr.findAsking kt (enc k) (T.map (oW enc)) i) h=some (mb k T i)
 | [],i=>rfl
 |t::T,i=>by
  rw[bW];unfold Instr.findAsking mb;rw[br _ _ _ _ (K.eq k t.1 h)];by_cases hk:k=t.1
  .rw[au hk,ag hk,ag rfl];rfl
  .rw[az hk,ae hk,ae bO];exact Bm K k h T (i+1)
theorem Cs{kt:TypeId}{enc:α->Value}(K:Bl P kt enc)(k:α)(h:aj)(T:List (α×Value×Nat)):rd P (Instr.findKey kt (enc k) (T.map (oW enc))) h=some (mb k T 0):=by
 obtain⟨d,H,a⟩:=K.now;unfold Instr.findKey;rw[br _ _ _ _ (bz H)];rcases wO (kt:=kt) a k T 0 with e|e<;>rw[e]
 .exact Bm K k h T 0
 .rfl
structure nN (P:Program) (t:TypeId) (enc:α->Value) (z:Value):Prop where
 ty: ∃k e,P.underlying t=some (.map k e)/\Bl P k enc/\∃i,P.info? e=some i/\i.zero=some z
theorem nN.of{t:TypeId}{enc:α->Value}{z:Value}(k e:TypeId)(a:P.underlying t=some (.map k e))(b:Bl P k enc)(h:(P.info? e).bind (·.zero)=some z):nN P t enc z:=by
 cases H:P.info? e with
 |none=>rw[H]at h;cases h
 |some i=>exact⟨k,e,a,b,i,H,by rw[H]at h;exact h⟩
def rB(l:List (α×Value))(k:α):Option Value:=(l.find? (λe=>decide (e.1=k))).map (·.2)
theorem Bo{l:List (α×Value)}{k:α}:rB l k=none↔ ∀e∈l,e.1≠k:=by
 unfold rB;rw[Option.map_eq_none_iff,List.find?_eq_none];simp
theorem Bp{l:List (α×Value)}{k:α}{v:Value}(H:(l.map (·.1)).Nodup):rB l k=some v↔(k,v)∈l:=by
 induction l with
 |nil=>simp[rB]
 |cons e l i=>
  rw[bW,eM]at H;unfold rB at i⊢;rw[List.find?_cons];by_cases h:e.1=k
  .rw[au h];simp only[cZ,bn,bJ];constructor
   .rintro rfl;exact .inl (by rw[<-h])
   .rintro(rfl|hm)
    .rfl
    .exact absurd (bw (f:=(·.1)) hm) (by rw[<-h];exact H.1)
  .rw[az h];rw[i H.2,bJ];constructor
   .exact .inr
   .rintro(rfl|hm)
    .exact absurd rfl h
    .exact hm
theorem jc.find{h:aj}{m:Nat}{enc:α->Value}{l:List (α×Value)}(H:jc h m enc l){T:List (α×Value×Nat)}(a:(T.map pr).Perm l)(k:α):(mb k T 0).map (·.2)=rB l k:=by
 have c:=H.nodup;cases e:mb k T 0 with
 |none=>
  symm
  rw[Option.map_none,Bo];intro x f;obtain⟨t,d,rfl⟩:=bg.1 (a.mem_iff.2 f);exact oJ e t d
 |some J=>
  obtain⟨j,v⟩:=J;obtain⟨A,B,b,rfl,_⟩:=oK e;symm
  rw[cZ,Bp c];exact a.mem_iff.1 bO
theorem Pn{t:TypeId}{enc:α->Value}{z:Value}(K:nN P t enc z){h:aj}{m:Nat}{l:List (α×Value)}(H:jc h m enc l)(k:α)(ok:Bool):
  rd P (Instr.lookup t (.map (some m)) (enc k) ok) h=some (if ok then .tuple #[(rB l k).getD z,.bool (rB l k).isSome]else(rB l k).getD z):=by
 obtain⟨kt,e,f,hk,i,b,g⟩:=K.ty;have a:=H;obtain⟨T,c,H,d⟩:=H;rw[<-a.find d k];unfold Instr.lookup;rw[br _ _ _ _ (bz f)];simp only;rw[br _ _ _ _ (iS H.cQ)];simp only;rw[br _ _ _ _ (iX _),br _ _ _ _ (hk.Rc _ k h),br _ _ _ _ (Cs hk k h T)];cases j:mb k T 0 with
 |none=>
  simp only;rw[br _ _ _ _ (iH b g)];cases ok<;>rfl
 |some J=>cases ok<;>rfl
theorem HS{t:TypeId}{enc:α->Value}{z:Value}(K:nN P t enc z){h:aj}{m:Nat}{l:List (α×Value)}(H:jc h m enc l)(k:α):gW P t (.map (some m)) (enc k) false h ((rB l k).getD z):=λh' a=>by
 have:=Pn K (H.lZ (h':=h') a) k false;simpa using this
theorem Jo{t:TypeId}{enc:α->Value}{z:Value}(K:nN P t enc z){h:aj}{m:Nat}{l:List (α×Value)}(H:jc h m enc l)(k:α):gW P t (.map (some m)) (enc k) true h (.tuple #[(rB l k).getD z,.bool (rB l k).isSome]):=λh' a=>by
 have:=Pn K (H.lZ (h':=h') a) k true;simpa using this
theorem Cu{t ty:TypeId}{enc:α->Value}{z:Value}(K:nN P t enc z){h:aj}{m:Nat}{l:List (α×Value)}(H:jc h m enc l):K3 P #[t] ty (.map (some m)) h (.I (l.length:Int)):=λh' f=>by
 obtain⟨kt,e,g,_⟩:=K.ty;obtain⟨T,c,H,d⟩:=H;have a:h'[m]? =some (.map (T.map (oW enc)).toArray c):=Eq.trans f H.cQ;have b:T.length=l.length:=by rw[<-d.length_eq,aF]
 unfold Builtin.len_;show rd P (underlying t>>=_) h'=_;rw[br _ _ _ _ (bz g)];show rd P (getObj m>>=_) h'=_;rw[br _ _ _ _ (iS a)];show some (goInt _)=_;simp[b,goInt]
theorem FW{b:Type}(A B:List b)(t:b)(f:b->b):(A++t::B).modify A.length f=A++f t::B:=by
 induction A with
 |nil=>rfl
 |cons a A i=>simp only[dp,aV,List.modify_succ_cons,i]
theorem Jp{b:Type}(A B:List b)(t:b):(A++t::B).eraseIdx A.length=A++B:=by
 induction A with
 |nil=>rfl
 |cons a A i=>simp only[dp,aV,List.eraseIdx_cons_succ,i]
theorem Bq{l L:List (α×Value)}(p:l.Perm L)(k:α):(vo l k).Perm (vo L k):=p.filter _
theorem DT{A B:List (α×Value×Nat)}{k:α}{v:Value}{b:Nat}(c:((A++(k,v,b)::B).map (·.1)).Nodup):vo ((A++(k,v,b)::B).map pr) k=(A++B).map pr:=by
 rw[aW,bW,eI]at c;obtain⟨_,a,d⟩:=c;rw[eM]at a;unfold vo;rw[aW,bW,fz,bZ,ae bO,aW];congr 1
 .rw[cd];intro e h;obtain⟨t,H,rfl⟩:=bg.1 h;have:=d t.1 (bw H) k bO;simp[this]
 .rw[cd];intro e h;obtain⟨t,H,rfl⟩:=bg.1 h;have:t.1≠k:=λe=>a.1 (bg.2 ⟨t,H,e⟩)
  simp[this]
theorem qT{l:List (α×Value)}{k:α}(H: ∀e∈l,e.1≠k):vo l k=l:=by
 unfold vo;rw[cd];intro e h;simp[H e h]
theorem yr{t:TypeId}{enc:α->Value}{z:Value}(K:nN P t enc z){h:aj}{m:Nat}{l:List (α×Value)}(H:jc h m enc l){k:α}{v:Value}{Q:Unit->aj->Prop}(hk: ∀h',jc h' m enc (DS l k v)->h'.size=h.size->(∀c,c≠m->h'[c]? =h[c]?)->Q () h'):aU P (Instr.mapUpdate t (.map (some m)) (enc k) v) h Q:=by
 obtain⟨kt,e,ht,o,_⟩:=K.ty;obtain⟨T,c,H,p⟩:=H;have I:=aC H.cQ;unfold Instr.mapUpdate;refine bP (bz ht) ?_;simp only;refine bP (iS H.cQ) ?_;simp only;refine bP (o.Rc _ k h) ?_;have fin: ∀(d:List (α×Value×Nat))(E:Array MapEntry)(C:Nat),E.toList=d.map (oW enc)->(d.map (·.1)).Nodup->(∀t∈d,t.2.2<C)->(d.map (·.2.2)).Nodup->(d.map pr).Perm (DS l k v)->aU P (setObj m (.map E C)) h Q:=λd E C w y D F G=>by
  refine⟨⟨_,H.cQ,λc e f n=>by cases n⟩,?_⟩;refine hk _ ⟨d,C,⟨?_,y,D,F⟩,G⟩ bO (λx L=> ?_)
  .rw[<-w];simp[I]
  .rw[cA,ae (e6 L)]
 refine bP (Cs o k h T) ?_;cases q:mb k T 0 with
 |none=>
  simp only;have s:=oJ q;refine fin (T++ [(k,v,c)]) _ _ bO ?_ ?_ ?_ ?_
  .rw[aW,eI];refine⟨H.keys,bO,λa i b g=> ?_⟩;obtain⟨t,ht,rfl⟩:=bg.1 i;simp at g;subst g;exact s t ht
  .intro t ht;rcases bN.1 ht with ht|ht
   .exact Nat.lt_succ_of_lt (H.xR t ht)
   .obtain rfl:=bK.1 ht;exact Nat.lt_succ_self _
  .rw[aW,eI];refine⟨H.born,bO,λa i b g=> ?_⟩;obtain⟨t,ht,rfl⟩:=bg.1 i;simp at g;subst g;exact Nat.ne_of_lt (H.xR t ht)
  .unfold DS;rw[qT (λe n=>by obtain⟨t,ht,rfl⟩:=bg.1 (p.mem_iff.2 n);exact s t ht),aW];exact(List.perm_append_comm.trans (.refl _)).trans (List.Perm.cons _ p)
 |some M=>
  obtain⟨j,u⟩:=M;obtain⟨A,B,b,rfl,r⟩:=oK q;rw[bC]at r;subst r;simp only;have J:rd P (Instr.keyThatStays (((((A++(k,u,b)::B).map (oW enc)).toArray[A.length]?).map (·.key)).getD (enc k)) (enc k)) h=some (enc k):=by
   have:((A++(k,u,b)::B).map (oW enc)).toArray[A.length]? =some (oW enc (k,u,b)):=bO
   rw[this];simp only[cZ,Option.getD_some];unfold Instr.keyThatStays;rw[ag (o.bits k)];rfl
  refine bP J ?_;refine fin (A++(k,v,b)::B) _ _ ?_ ?_ ?_ ?_ ?_
  .rw[Array.toList_modify,aW,bW];have:=FW (A.map (oW enc)) (B.map (oW enc)) (oW enc (k,u,b)) (λe=> { e with key:=enc k,val:=v });rw[aF]at this;rw[this,aW,bW]
  .have:=H.keys;simpa using this
  .intro t ht;rcases bN.1 ht with ht|ht
   .exact H.xR t (dW _ ht)
   .rcases bJ.1 ht with rfl|ht
    .exact H.xR (k,u,b) bO
    .exact H.xR t (by simp[ht])
  .have:=H.born;simpa using this
  .unfold DS;refine List.Perm.trans ?_ (List.Perm.cons _ ((DT H.keys▸Bq p k)));rw[aW,bW,aW];exact List.perm_middle
theorem DU{t L ty:TypeId}{enc:α->Value}{z:Value}(K:nN P t enc z){h:aj}{m:Nat}{l:List (α×Value)}(H:jc h m enc l){k:α}{Q:fj}(hk: ∀h',jc h' m enc (vo l k)->h'.size=h.size->(∀c,c≠m->h'[c]? =h[c]?)->Q (.tuple #[]) h'):aU P (Builtin.delete_ #[t,L] ty #[.map (some m),enc k]) h Q:=by
 obtain⟨kt,e,d,r,_⟩:=K.ty;obtain⟨T,c,H,n⟩:=H;have F:=aC H.cQ;unfold Builtin.delete_;refine bP (bz d) ?_;show aU P (do
   let __x<-getObj m
   match __x with
    |Obj.map es C=>do
     Instr.checkKey es.isEmpty 10000 kt (enc k)
     let __do_lift<-Instr.findKey kt (enc k) es.toList
     match __do_lift with
      |some (i,_)=>do
       setObj m (Obj.map (es.eraseIdxIfInBounds i) C)
       pure (Value.tuple #[])
      |none=>do
       setObj m (Obj.map es C)
       pure (Value.tuple #[])
    |_=>do
     stuck "delete: map expected"
     pure (Value.tuple #[])) h Q
 refine bP (iS H.cQ) ?_;simp only;refine bP (r.Rc _ k h) ?_;have fin: ∀(a:List (α×Value×Nat))(E:Array MapEntry),E.toList=a.map (oW enc)->(a.map (·.1)).Nodup->(∀t∈a,t.2.2<c)->(a.map (·.2.2)).Nodup->(a.map pr).Perm (vo l k)->aU P (do setObj m (.map E c);pure (Value.tuple #[])) h Q:=λa E s v w y D=>by
  rw[dJ];refine⟨⟨_,H.cQ,λc e f g=>by cases g⟩,?_⟩;refine hk _ ⟨a,c,⟨?_,v,w,y⟩,D⟩ bO (λx I=> ?_)
  .rw[<-s];simp[F]
  .rw[cA,ae (e6 I)]
 refine bP (Cs r k h T) ?_;cases p:mb k T 0 with
 |none=>
  have G:=oJ p;refine fin T _ rfl H.keys H.xR H.born ?_;rw[qT (λe g=>by obtain⟨t,d,rfl⟩:=bg.1 (n.mem_iff.2 g);exact G t d)];exact n
 |some J=>
  obtain⟨j,u⟩:=J;obtain⟨A,B,b,rfl,q⟩:=oK p;rw[bC]at q;subst q;have o:List.Sublist (A++B) (A++(k,u,b)::B):=List.Sublist.append (List.Sublist.refl _) (List.sublist_cons_self _ _);refine fin (A++B) _ ?_ ((o.map _).nodup H.keys) (λt d=>H.xR t (o.subset d)) ((o.map _).nodup H.born) (DT H.keys▸Bq n k);rw[Array.toList_eraseIdxIfInBounds,aW,bW];have:=Jp (A.map (oW enc)) (B.map (oW enc)) (oW enc (k,u,b));rw[aF]at this;rw[this,aW]
def Iter(h:aj)(r m:Nat)(enc:α->Value)(l done:List (α×Value)):Prop:=
 ∃T c D L,Re h m enc T c/\(T.map pr).Perm l/\h[r]? =some (.mapIter (some m) c (D.map (·.2.2)).toArray L)/\(D≠ []->L=c)/\D.Nodup/\(∀t∈D,t∈T)/\D.map pr=done/\r≠m
theorem Iter.frame{S:Nat->Prop}{h h':aj}{r m:Nat}{enc:α->Value}{l done:List (α×Value)}(H:Iter h r m enc l done)(f:Fr S h h')(a: ¬S r)(b: ¬S m):Iter h' r m enc l done:=by
 obtain⟨T,c,D,L,A,B,C,E⟩:=H;exact⟨T,c,D,L,⟨f.get A.cQ b,A.keys,A.xR,A.born⟩,B,f.get C a,E⟩
theorem Iter.le{h:aj}{r m:Nat}{enc:α->Value}{l done:List (α×Value)}(H:Iter h r m enc l done):done.length<=l.length:=by
 obtain⟨T,c,D,L,A,B,_,_,a,b,rfl,_⟩:=H;rw[aF,<-B.length_eq,aF];exact a.length_le_of_subset (λt d=>b t d)
theorem yt{t:TypeId}{enc:α->Value}{z:Value}(K:nN P t enc z){h:aj}{m:Nat}{l:List (α×Value)}(H:jc h m enc l){Q:fj}(hk: ∀r h',r=h.size->Iter h' r m enc l []->Fr (λ_=>False) h h'->Q (.P r 0) h'):aU P (Instr.range t (.map (some m))) h Q:=by
 obtain⟨kt,e,a,d,_⟩:=K.ty;obtain⟨T,c,H,b⟩:=H;unfold Instr.range;refine bP (bz a) ?_;simp only;show aU P (getObj m>>=_) h Q;refine bP (iS H.cQ) ?_
 .have f:Fr (λ_=>False) h (h.push (.mapIter (some m) c #[] c)):=Fr.push _ _;exact hk h.size _ rfl ⟨T,c, [],c,⟨f.get H.cQ id,H.keys,H.xR,H.born⟩,b,bR,(λe=>absurd rfl e),.nil,(λt a=>by cases a),rfl,λe=>bX (aC H.cQ)⟩ f
theorem yu{a:Type}{n:Nat}{g:Nat->Sem a}{h:aj}{Q:a->aj->Prop}(H:0<n)(hk: ∀i,i<n->aU P (g i) h Q):aU P (choose (.mapNext n)>>=g) h Q:=by
 show(if(Question.mapNext n).forced=true then aU P (g 0) h Q else∀t,aU P (g ((Question.mapNext n).cut t)) h Q);split
 .exact hk 0 H
 .intro t;exact hk _ (Nat.mod_lt _ H)
theorem Br{ty:TypeId}{enc:α->Value}{h:aj}{r m:Nat}{l done:List (α×Value)}(I:Iter h r m enc l done){Q:fj}(k1:done.Perm l->Q (.tuple #[.bool false]) h)(k2: ∀a v h',(a,v)∈l->(a,v)∉done->Iter h' r m enc l (done++ [(a,v)])->h'.size=h.size->(∀c,c≠r->h'[c]? =h[c]?)->Q (.tuple #[.bool true,enc a,v]) h'):
  aU P (Instr.next (.P r 0) false ty) h Q:=by
 classical
 obtain⟨T,c,D,L,M,z,A,X,C,n,rfl,E⟩:=I;have Z:=aC A;have N:T.Nodup:=by
  have:=M.keys;exact List.Pairwise.of_map (S:=(· ≠ ·)) (·.1) (λa b R e=>R (by rw[e])) this
 unfold Instr.next;simp only;have e':rd P (getObj r) h=some (.mapIter (some m) c (D.map (·.2.2)).toArray L):=by unfold getObj;simp only[rd,A]
 refine bP e' ?_;simp only;refine bP (iS M.cQ) ?_;simp only;have hq:(!(D.map (·.2.2)).toArray.isEmpty && !(T.map (oW enc)).toArray.isEmpty && (T.map (oW enc)).toArray.all (λe=>decide (e.born≥L)))=false:=by
  cases B:D with
  |nil=>rfl
  |cons d D'=>
   have hl:=X (by rw[B];simp);have hd:d∈T:=n d (by rw[B];simp);have:(T.map (oW enc)).toArray.all (λe=>decide (e.born≥L))=false:=by
    rw[List.all_toArray,List.all_eq_false];exact⟨oW enc d,bw hd,by simp;have:=M.xR d hd;omega⟩
   rw[this];simp
 rw[ae (by rw[hq];simp)];have Y:(T.map (oW enc)).toArray.filter (λe=> !(D.map (·.2.2)).toArray.contains e.born)=((T.filter (λt=> !decide (t∈D))).map (oW enc)).toArray:=by
  apply Array.ext'
  rw[Array.toList_filter];simp only[];rw[dE];congr 1
  apply dS
  intro t g;have:(D.map (·.2.2)).toArray.contains (oW enc t).born=decide (t∈D):=by
   by_cases p:t∈D
   .rw[au p];simp;exact⟨t.1,t.2.1,p⟩
   .rw[az p];simp only[List.contains_toArray,List.contains_eq_mem,eL,bg,not_exists,not_and];intro u hu e;have W:u=t:=by
     have o:=M.born;have f':=n u hu;obtain⟨i,H⟩:=bF f';obtain⟨j,k⟩:=bF g;have y:=(aA.1 H).1;have:=(dM (l:=T.map (·.2.2)) (i:=i) (j:=j) (cy y) o).1 (by rw[aI,aI,H,k];simp[e]);subst this;rw[H]at k;exact bj k
    exact p (W▸hu)
  simp only[Function.comp,this]
 have d':(((T.filter (λt=> !decide (t∈D))).map (oW enc)).toArray.filter (λe=>decide (e.born<c)))=((T.filter (λt=> !decide (t∈D))).map (oW enc)).toArray:=by
  rw[Array.filter_eq_self];intro e w;obtain⟨t,g,rfl⟩:=bg.1 (List.mem_toArray.1 w);exact au (M.xR t (ba.1 g).1)
 have c':(((T.filter (λt=> !decide (t∈D))).map (oW enc)).toArray.filter (λe=>decide (e.born≥c)))= #[]:=by
  rw[Array.filter_eq_empty_iff];intro e w;obtain⟨t,g,rfl⟩:=bg.1 (List.mem_toArray.1 w);have:=M.xR t (ba.1 g).1;simp;omega
 rw[Y,d',c'];simp only[Array.append_empty];cases s:T.filter (λt=> !decide (t∈D))with
 |nil=>
  refine yu bO λi H=> ?_
  have:i=0:=by simpa using H
  subst this;have J:((if((([]:List (α×Value×Nat)).map (oW enc)).toArray.isEmpty=true)then #[none]else #[])++Array.map some (([]:List (α×Value×Nat)).map (oW enc)).toArray)[0]? =some none:=bO
  rw[J];show aU P (pure (.tuple #[.bool false])) h Q;refine k1 ?_;refine List.Perm.trans (List.Perm.map _ ?_) z;rw[List.perm_ext_iff_of_nodup C N];intro t;refine⟨n t,λg=> ?_⟩;have:=List.filter_eq_nil_iff.1 s t g;simpa using this
 |cons f F=>
  refine yu bO λi H=> ?_
  rw[<-s]at H⊢;have b':(((T.filter (λt=> !decide (t∈D))).map (oW enc)).toArray.isEmpty)=false:=by rw[s];rfl
  rw[b']at H⊢;simp only[aq,aJ,Array.empty_append]at H⊢;have V:i<(T.filter (λt=> !decide (t∈D))).length:=by simpa using H
  obtain⟨t,g⟩: ∃t,(T.filter (λt=> !decide (t∈D)))[i]? =some t:=⟨_,ai V⟩;have U:(Array.map some ((T.filter (λt=> !decide (t∈D))).map (oW enc)).toArray)[i]? =some (some (oW enc t)):=by simp[g]
  rw[U];have q:=ba.1 (aT g);have G:t∉D:=by simpa using q.2
  refine⟨⟨_,A,λ_ _ _ e=>by cases e⟩,?_⟩;refine k2 t.1 t.2.1 _ (z.mem_iff.1 (bw (f:=pr) q.1)) ?_ ⟨T,c,D++ [t],c,⟨?_,M.keys,M.xR,M.born⟩,z,?_,(λ_=>rfl),?_,?_,?_,E⟩ bO (λx hx=> ?_)
  .intro a';obtain⟨u,hu,e⟩:=bg.1 a';have K:u.1=t.1:=bT (λx:α×Value=>x.1) e;have:u=t:=by
    obtain⟨i,H⟩:=bF (n u hu);obtain⟨j,k⟩:=bF q.1;have y:=(aA.1 H).1;have:=(dM (l:=T.map (·.1)) (i:=i) (j:=j) (cy y) M.keys).1 (by rw[aI,aI,H,k];simp[K]);subst this;rw[H]at k;exact bj k
   exact G (this▸hu)
  .rw[cA,ae E];exact M.cQ
  .simp[Z]
  .rw[eI];exact⟨C,bO,λa O b o=>by simp at o;subst o;exact λe=>G (e▸O)⟩
  .intro u hu;rcases bN.1 hu with hu|hu
   .exact n u hu
   .obtain rfl:=bK.1 hu;exact q.1
  .rw[aW];rfl
  .rw[cA,ae (e6 hx)]
end
end Go.Den
namespace Go.Den
section
variable {P : Program} {α : Type}
theorem find_born(enc:α->Value){t:α×Value×Nat}: ∀{T:List (α×Value×Nat)},(T.map (·.2.2)).Nodup->t∈T->T.find? ((λe:MapEntry=>e.born==t.2.2) ∘ oW enc)=some t
 | [],_,h=>by cases h
 |u::T,a,h=>by
  rw[bW,eM]at a;rw[List.find?_cons];by_cases H:u.2.2=t.2.2
  .have:((λe:MapEntry=>e.born==t.2.2) ∘ oW enc) u=true:=by simp[H]
   rw[this];rcases bJ.1 h with e|e
   .rw[e]
   .exact absurd (bg.2 ⟨t,e,H.symm⟩) a.1
  .have:((λe:MapEntry=>e.born==t.2.2) ∘ oW enc) u=false:=by simp[H]
   rw[this];rcases bJ.1 h with e|e
   .exact absurd (by rw[e]) H
   .exact find_born enc a.2 e
theorem yw{t:TypeId}{s:ByteArray}{h:aj}{Q:fj}(H:P.underlying t=some .string)(hk: ∀r h',r=h.size->h'[r]? =some (.stringIter s 0)->Fr (λ_=>False) h h'->Q (.P r 0) h'):
  aU P (Instr.range t (.string s)) h Q:=by
 unfold Instr.range;refine bP (bz H) ?_;exact hk h.size _ rfl bR (Fr.push _ _)
theorem Jq{ty:TypeId}{s:ByteArray}{h:aj}{r pos:Nat}{Q:fj}(a:h[r]? =some (.stringIter s pos))(k:s.size<=pos->Q (.tuple #[.bool false]) h)(K:pos<s.size->∀h',h'[r]? =some (.stringIter s (pos+(Utf8.decode s pos).2))->h'.size=h.size->(∀c,c≠r->h'[c]? =h[c]?)->Q (.tuple #[.bool true,.I (pos:Int),.int .i32 ((Utf8.decode s pos).1:Int)]) h'):
  aU P (Instr.next (.P r 0) true ty) h Q:=by
 have d:=aC a;unfold Instr.next;simp only;have f:rd P (getObj r) h=some (.stringIter s pos):=by unfold getObj;simp only[rd,a]
 refine bP f ?_;simp only;by_cases H:pos<s.size
 .rw[ag H];refine⟨⟨_,a,λ_ _ _ e=>by cases e⟩,?_⟩;exact K H _ (by simp[d]) bO (λc b=>by rw[cA,ae (e6 b)])
 .rw[ae H];exact k af
theorem yx{enc:α->Value}{h:aj}{r m:Nat}{l done:List (α×Value)}{a:α}{v:Value}(I:Iter h r m enc l (done++ [(a,v)])){Q:fj}(hk:Q (.tuple #[enc a,v]) h):
  aU P (Instr.entry (.P r 0)) h Q:=by
 obtain⟨T,c,D,L,M,q,i,g,o,k,hd,p⟩:=I;rcases List.eq_nil_or_concat D with rfl|⟨D',t,rfl⟩
 .simp at hd
 rw[List.concat_eq_append]at*;rw[aW]at hd;obtain⟨_,e2⟩:=List.append_inj' hd rfl;have e2:pr t=(a,v):=by simpa using e2
 have E:t.1=a:=bT (λx:α×Value=>x.1) e2;have b:t.2.1=v:=bT (λx:α×Value=>x.2) e2;have n:t∈T:=k t bO;have f:=g bO;unfold Instr.entry;simp only;have j:rd P (getObj r) h=some (.mapIter (some m) c ((D'++ [t]).map (·.2.2)).toArray L):=by unfold getObj;simp only[rd,i]
 refine bP j ?_;simp only;have H:((D'++ [t]).map (·.2.2)).toArray.back? =some t.2.2:=bO
 rw[H];simp only;refine bP (iS M.cQ) ?_;simp only;rw[f,ae bO];have d:(T.map (oW enc)).toArray.find? (λe=>e.born==t.2.2)=some (oW enc t):=by
  rw[List.find?_toArray,List.find?_map];have:T.find? ((λe:MapEntry=>e.born==t.2.2) ∘ oW enc)=some t:=find_born enc M.born n;rw[this];rfl
 rw[d];show Q (.tuple #[enc t.1,t.2.1]) h;rw[E,b];exact hk
end
end Go.Den
namespace Go.Den
section
variable {P : Program}
def Cv(P:Program)(eq:TypeId->Value->Value->Option Bool)(xs ys:Array Value)(t:TypeId)(off:Nat)(a:Option Bool):Option Bool:=
 match jY P (part t xs off),jY P (part t ys off)with
 |some u,some v=>(match eq t u v,a with|some b,some c=>some (b && c)|_,_=>none)
 |_,_=>none
def Rf(P:Program):Nat->TypeId->Value->Value->Option Bool
 |0,_,_,_=>none
 |n+1,t,x,y=>
  match P.underlying t with
  |some .bool=>(match x,y with| .bool a,.bool b=>some (a==b)|_,_=>none)
  |some (.int _)=>(match x,y with| .int k a,.int k' b=>(match decide (k=k')with|true=>some (a==b)|false=>none)|_,_=>none)
  |some .string=>(match x,y with| .string a,.string b=>some (a==b)|_,_=>none)
  |some (.struct fs)=>(match x,y with
   | .agg xs,.agg ys=>(match P.stoodInHeld t with
    |true=>none
    |false=>fs.toList.foldr (λf A=>match decide (f.name= "_")with|true=>A|false=>Cv P (Rf P n) xs ys f.type f.offset A) (some true))
   |_,_=>none)
  |some (.array len e)=>(match x,y,P.info? e with
   | .agg xs,.agg ys,some i=>(List.range len).foldr (λk A=>Cv P (Rf P n) xs ys e (k*i.size) A) (some true)
   |_,_,_=>none)
  |_=>none
theorem qU{i:Type}{h:aj}{step:i->Option Bool->Option Bool}{B:i->Option Bool×Unit->Sem (ForInStep (Option Bool×Unit))}: ∀(l:List i)(b:Bool),l.foldr step (some true)=some b->
  (∀f a b,step f a=some b->(a=some b/\rd P (B f (none,())) h=some (.yield (none,())))\/∃q c,a=some c/\b=(q && c)/\rd P (B f (none,())) h=some (if q=true then .yield (none,())else .done (some false,())))->
  rd P (forIn l (none,()) B) h=some (if b=true then(none,())else(some false,()))
 | [],b,H,_=>by
  cases bj H;rfl
 |f::l,b,H,g=>by
  rw[List.foldr_cons]at H;rw[List.forIn_cons];rcases g f _ b H with⟨d,e⟩|⟨q,c,d,rfl,e⟩
  .rw[br _ _ _ _ e];exact qU l b d g
  .rw[br _ _ _ _ e];cases q with
   |true=>rw[dP];exact qU l c d g
   |false=>rfl
theorem Bs{eq:TypeId->Value->Value->Option Bool}{n:Nat}(d: ∀t x y b,eq t x y=some b->∀h,rd P (Op.equalIn n t x y) h=some b){xs ys:Array Value}{t:TypeId}{off:Nat}{a:Option Bool}{b:Bool}{h:aj}(H:Cv P eq xs ys t off a=some b):
  ∃q c u v,a=some c/\b=(q && c)/\rd P (part t xs off) h=some u/\rd P (part t ys off) h=some v/\rd P (Op.equalIn n t u v) h=some q:=by
 unfold Cv at H;split at H
 .rename_i u v f g;split at H
  .rename_i q c e;exact⟨q,c,u,v,rfl,(bj H).symm,sa _ _ f h,sa _ _ g h,d _ _ _ _ e h⟩
  .cases H
 .cases H
theorem FX : ∀(n : Nat)(t : TypeId)(x y : Value)(b : Bool), Rf P n t x y = some b -> ∀ h, rd P (Op.equalIn n t x y) h = some b
  | 0, _, _, _, _, H => by cases H
  | n + 1, t, x, y, b, H => by
    intro h
    unfold Rf at H
    unfold Op.equalIn
    split at H
    · rename_i g
      rw [br _ _ _ _ (bz g)]
      split at H
      · rw [<- H]; rfl
      · cases H
    · rename_i d g
      rw [br _ _ _ _ (bz g)]
      split at H
      · rename_i k a k' c
        split at H
        · rename_i hk
          simp only [aP hk, bf]
          rw [<- H]; rfl
        · cases H
      · cases H
    · rename_i g
      rw [br _ _ _ _ (bz g)]
      split at H
      · rw [<- H]; rfl
      · cases H
    · rename_i fs g
      rw [br _ _ _ _ (bz g)]
      split at H
      · rename_i xs ys
        split at H
        · cases H
        · rename_i C
          dsimp only
          rw [br _ _ _ _ (show rd P program h = some P from rfl), C]
          simp only [aq, aJ]
          rw [<- Array.forIn_toList, br _ _ _ _ (qU (h := h) fs.toList b H ?_)]
          · cases b <;> rfl
          · intro f A b j
            split at j
            · rename_i w
              refine .inl ⟨j, ?_⟩
              rw [ae (cy w)]
              rfl
            · rename_i w
              obtain ⟨q, c, u, v, l, m, o, p, r⟩ := Bs (h := h) (λt x y b s h => FX n t x y b s h) j
              refine .inr ⟨q, c, l, m, ?_⟩
              rw [ag (cy w), br _ _ _ _ o, br _ _ _ _ p, br _ _ _ _ r]
              cases q <;> rfl
      · cases H
    · rename_i len e g
      rw [br _ _ _ _ (bz g)]
      split at H
      · rename_i xs ys i z
        dsimp only
        rw [br _ _ _ _ (gQ z), Std.Legacy.Range.forIn_eq_forIn_range']
        have B : List.range' ([:len] : Std.Legacy.Range).start ([:len] : Std.Legacy.Range).size ([:len] : Std.Legacy.Range).step = List.range len := by
          simp [Std.Legacy.Range.size, fG]
        rw [B, br _ _ _ _ (qU (h := h) (List.range len) b H ?_)]
        · cases b <;> rfl
        · intro k A b j
          obtain ⟨q, c, u, v, l, m, o, p, r⟩ := Bs (h := h) (λt x y b s h => FX n t x y b s h) j
          refine .inr ⟨q, c, l, m, ?_⟩
          rw [br _ _ _ _ o, br _ _ _ _ p, br _ _ _ _ r]
          cases q <;> rfl
      · cases H
    · cases H
theorem xO.of{t:TypeId}{x y:Value}{b:Bool}(H:Rf P 10000 t x y=some b):xO P t x y b:=λh=>FX 10000 t x y b H h
end
end Go.Den
namespace Go.fM
section
variable {n:Nat}
def pY:Nat->Nat->cH
 |0,n=> [UInt8.ofNat n]
 |f+1,n=>if n>127 then UInt8.ofNat (n%128+128)::pY f (n/128)else [UInt8.ofNat n]
def dt(n:Nat):cH:=pY 9 n
theorem Bt: ∀(f n:Nat),n<128 ^ (f+1)->pY (f+1) n=pY f n
 |0,n,h=>by
  unfold pY;rw[dj]
 |f+1,n,h=>by
  rw[show pY (f+1+1) n=if n>127 then UInt8.ofNat (n%128+128)::pY (f+1) (n/128)else [UInt8.ofNat n]from rfl,
   show pY (f+1) n=if n>127 then UInt8.ofNat (n%128+128)::pY f (n/128)else [UInt8.ofNat n]from rfl]
  split
  .rw[Bt f (n/128) (by rw[Nat.pow_succ]at h;omega)]
  .rfl
theorem wP(h:n<18446744073709551616):dt n=if n>127 then UInt8.ofNat (n%128+128)::dt (n/128)else [UInt8.ofNat n]:=by
 unfold dt;rw[pY];split
 .rw[<-Bt 8 (n/128) af]
 .rfl
theorem DV: ∀(f n:Nat),1<=(pY f n).length/\(pY f n).length<=f+1
 |0,n=>by simp[pY]
 |f+1,n=>by
  have:=DV f (n/128);rw[pY];split
  .simp only[aV];omega
  .simp
theorem cj(n:Nat):1<=(dt n).length/\(dt n).length<=10:=DV 9 n
def wQ:Nat->Nat->Nat
 |0,_=>1
 |f+1,n=>if n>127 then wQ f (n/128)+1 else 1
def FG:Nat->Nat->cH->Nat×Int×cH
 |_,_, []=>(0,8, [])
 |i,n,c::bs=>
  if i=10\/(i=9/\c.toNat>1)\/(c.toNat=0/\i>0)then(0,3,bs)
  else if c.toNat<128 then(n+c.toNat%128*2 ^ (7*i),0,bs)
  else FG (i+1) (n+c.toNat%128*2 ^ (7*i)) bs
def eN(e:Int)(bs:cH):Nat×Int×cH:=if e=0 then FG 0 0 bs else(0,e,bs)
theorem Lo: ∀(bs:cH)(i n:Nat),i<=10->n<2 ^ (7*i)->n<18446744073709551616->(FG i n bs).1<18446744073709551616
 | [],_,_,_,_,_=>by simp[FG]
 |c::bs,i,n,d,e,f=>by
  rw[FG];split
  .simp
  .rename_i g;have b:c.toNat%128<128:=Nat.mod_lt _ af;have h:n+c.toNat%128*2 ^ (7*i)<18446744073709551616/\n+c.toNat%128*2 ^ (7*i)<2 ^ (7*(i+1)):=by
    have j:(2:Nat) ^ (7*(i+1))=128*2 ^ (7*i):=by rw[Nat.mul_add,Nat.pow_add,fS]
    have H:(c.toNat%128+1)*2 ^ (7*i)<=128*2 ^ (7*i):=cF _ af;rw[dO]at H;refine⟨?_,af⟩;by_cases a:i=9
    .subst a;have:c.toNat<=1:=af
     have:c.toNat%128<=1:=af
     omega
    .have:(2:Nat) ^ (7*(i+1))<=2 ^ 63:=fH af af;omega
   split
   .exact h.1
   .exact Lo bs (i+1) _ af h.2 h.1
theorem FY(e:Int)(bs:cH):(eN e bs).1<18446744073709551616:=by
 unfold eN;split
 .exact Lo bs 0 0 af bO af
 .simp
theorem Cw: ∀(bs:cH)(i n:Nat),(FG i n bs).2.2.length<=bs.length
 | [],_,_=>by simp[FG]
 |c::bs,i,n=>by
  rw[FG];split
  .simp
  .split
   .simp
   .have:=Cw bs (i+1) (n+c.toNat%128*2 ^ (7*i));simp only[aV];omega
theorem HT: ∀(f n i a:Nat)(rest:cH),i+f=9->n*2 ^ (7*i)<18446744073709551616->(n=0->i=0)->FG i a (pY f n++rest)=(a+n*2 ^ (7*i),0,rest)
 |0,n,i,a,rest,g,H,b=>by
  have j:i=9:=af
  subst j;have o:n<2:=by
   have:n*2 ^ 63<2*2 ^ 63:=H;exact Nat.lt_of_mul_lt_mul_right this
  have p:n≠0:=λe=>by have:=b e;omega
  obtain rfl:n=1:=af
  simp[pY,FG]
 |f+1,n,i,a,rest,g,H,b=>by
  have c:(2:Nat) ^ (7*(i+1))=128*2 ^ (7*i):=by rw[Nat.mul_add,Nat.pow_add,fS]
  have m:n<18446744073709551616:=by
   have:n*1<=n*2 ^ (7*i):=Nat.mul_le_mul_left _ (Nat.two_pow_pos _);omega
  rw[pY];split
  .rename_i k;rw[dp,FG];have h:(UInt8.ofNat (n%128+128)).toNat=n%128+128:=by rw[fb];omega
   rw[h,dj,dj];have e1:(n%128+128)%128=n%128:=af
   have d:n=128*(n/128)+n%128:=(Nat.div_add_mod n 128).symm;rw[HT f (n/128) (i+1) _ rest af ?_ (λe=>af),e1]
   .refine Prod.ext ?_ rfl;simp only;rw[c];have:n/128*(128*2 ^ (7*i))=(128*(n/128))*2 ^ (7*i):=by rw[fS 128 (n/128),Nat.mul_assoc]
    rw[this,Nat.add_assoc,<-dO,Nat.add_comm (n%128),<-d]
   .rw[c];have:n/128*(128*2 ^ (7*i))=(128*(n/128))*2 ^ (7*i):=by rw[fS 128 (n/128),Nat.mul_assoc]
    rw[this];refine Nat.lt_of_le_of_lt (cF _ ?_) H;omega
  .rename_i l;rw[dp,cD,FG];have h:(UInt8.ofNat n).toNat=n:=by rw[fb];omega
   rw[h,dj,fY,fW af]
theorem mN(h:n<18446744073709551616)(rest:cH):eN 0 (dt n++rest)=(n,0,rest):=by
 unfold eN dt;rw[ag rfl,HT 9 n 0 0 rest af (cy h) (λ_=>rfl)];simp
def fO(n:Int):Nat:=n.toNat
def ga(t:cH):cH:=dt t.length++t
def Lp(e E:Int):Int:=if e=0 then E else e
def hU(t:Nat)(e:Int)(bs:cH):Nat×Int×cH:=
 if(eN e bs).1>t then(0,Lp (eN e bs).2.1 3,(eN e bs).2.2)else eN e bs
theorem DW(t:Nat)(e:Int)(bs:cH):(hU t e bs).1<=t:=by
 unfold hU;split
 .exact bL _
 .rename_i h;exact Nat.le_of_not_lt h
def kA(e:Int)(bs:cH):Nat×Int×cH:=hU 1099511627776 e bs
def jC(e:Int)(bs:cH):cH×Int×cH:=
 if(eN e bs).2.1=0 then
  (if(eN e bs).1>(eN e bs).2.2.length then([],8,(eN e bs).2.2)
  else((eN e bs).2.2.take (eN e bs).1,0,(eN e bs).2.2.drop (eN e bs).1))
 else([],(eN e bs).2.1,(eN e bs).2.2)
def tM(e:Int)(bs:cH):Int:=if e=0 then(if bs= []then 0 else 2)else e
theorem oL{t:Nat}(h:n<=t)(H:t<18446744073709551616)(y:cH):hU t 0 (dt n++y)=(n,0,y):=by
 unfold hU;rw[mN af];rw[ae (by show¬n>t;omega)]
theorem Cx{t:cH}(h:t.length<18446744073709551616)(y:cH):jC 0 (ga t++y)=(t,0,y):=by
 unfold jC ga;rw[du,mN h];dsimp only;rw[ag rfl,ae (by rw[av];omega)];simp
theorem pZ(e:Int)(bs:cH):(eN e bs).2.2.length<=bs.length:=by
 unfold eN;split
 .exact Cw bs 0 0
 .exact bk _
theorem oM(t:Nat)(e:Int)(bs:cH):(hU t e bs).2.2.length<=bs.length:=by
 unfold hU;split<;>exact pZ e bs

end
end Go.fM
namespace Go.kk
section
variable {n i j:Nat} {g:Int->Option Value} {k:Int}
abbrev E:=Int×Int
variable {x y z:E} {f:Nat->E} {es l L:List E}
def lt(x y:E):Prop:=x.2<y.2\/(x.2=y.2/\x.1<y.1)
def le(x y:E):Prop:= ¬lt y x
theorem lt_irrefl(x:E): ¬lt x x:=by unfold lt;omega
theorem lt_trans(h:lt x y)(h':lt y z):lt x z:=by unfold lt at*;omega
theorem le_refl(x:E):le x x:=lt_irrefl x
theorem le_trans(h:le x y)(h':le y z):le x z:=by unfold le lt at*;omega
theorem le_of_lt(h:lt x y):le x y:=by unfold le lt at*;omega
theorem lt_of_le_ne(h:le x y)(h':x.1≠y.1):lt x y:=by unfold le lt at*;omega
instance (x y : E) : Decidable (lt x y) := inferInstanceAs (Decidable (_ ∨ _))
def qa(f:Nat->E)(n:Nat):Prop:= ∀j,0<j->j<n->le (f ((j - 1)/2)) (f j)
def sy(f:Nat->E)(n i:Nat):Prop:=
 (∀j,0<j->j<n->j≠i->(j - 1)/2≠i->le (f ((j - 1)/2)) (f j))/\(0<i->∀j,0<j->j<n->(j - 1)/2=i->le (f ((i - 1)/2)) (f j))
def sC(f:Nat->E)(n i:Nat):Prop:=
 (∀j,0<j->j<n->(j - 1)/2≠i->le (f ((j - 1)/2)) (f j))/\(0<i->∀j,0<j->j<n->(j - 1)/2=i->le (f ((i - 1)/2)) (f j))
def yy(f:Nat->E)(n i:Nat):Prop:= ∀j,0<j->j<n->(j - 1)/2=i->le (f i) (f j)
def nO(f:Nat->E)(i j:Nat):Nat->E:=λk=>if k=i then f j else if k=j then f i else f k
theorem N0(h:sy f n i)(d:i=0\/le (f ((i - 1)/2)) (f i)):sC f n i:=by
 refine⟨λj a b c=> ?_,h.2⟩;by_cases H:j=i
 .subst H;rcases d with h0|h0
  .omega
  .exact h0
 .exact h.1 j a b H c
theorem oN(h:sC f n i)(hk:yy f n i):qa f n:=by
 intro j a b;by_cases H:(j - 1)/2=i
 .have:=hk j a b H;rw[H];exact this
 .exact h.1 j a b H
theorem N1{p:Nat}(h:sy f n i)(q:0<i)(u:i<n)(s:p=(i - 1)/2)(e:lt (f i) (f p)):sy (nO f i p) n p/\yy (nO f i p) n p:=by
 have m:p≠i:=af
 refine⟨⟨λj a b c r=> ?_,λt j a b c=> ?_⟩,λj a b c=> ?_⟩
 ·
  have H:j≠i:=af
  unfold nO;rw[ae H,ae c];by_cases d:(j - 1)/2=i
  .rw[ag d,s];exact h.2 q j a b d
  .rw[ae d,ae r];exact h.1 j a b H d
 .have o:=h.1 p t af m af;unfold nO;rw[ae (show(p - 1)/2≠i by omega),ae (show(p - 1)/2≠p by omega)];by_cases H:j=i
  .rw[ag H];exact o
  .rw[ae H,dj];have:=h.1 j a b H af;rw[c]at this;exact le_trans o this
 .unfold nO;rw[ae m,ag rfl];by_cases H:j=i
  .rw[ag H];exact le_of_lt e
  .rw[ae H,dj];have:=h.1 j a b H af;rw[c]at this;exact le_trans (le_of_lt e) this
theorem Jr{c:Nat}(h:sC f n i)(o:(c - 1)/2=i)(q:0<c)(t:c<n)(r:lt (f c) (f i))(s: ∀j,0<j->j<n->(j - 1)/2=i->le (f c) (f j)):sC (nO f i c) n c:=by
 have u:c≠i:=af
 refine⟨λj H b m=> ?_,λ_ j H b m=> ?_⟩
 .unfold nO;by_cases p:j=i
  .subst p;rw[ae (show(j - 1)/2≠j by omega),ae (show(j - 1)/2≠c by omega),ag rfl];exact h.2 H c q t o
  .by_cases a:(j - 1)/2=i
   .rw[ag a,ae p];by_cases d:j=c
    .rw[ag d];exact le_of_lt r
    .rw[ae d];exact s j H b a
   .have d:j≠c:=by intro e;subst e;exact a o
    rw[ae a,ae m,ae p,ae d];exact h.1 j H b a
 .unfold nO;rw[o,ag rfl,ae (show j≠i by omega),ae (show j≠c by omega)];have:=h.1 j H b af;rw[m]at this;exact this
theorem Lq(h:qa f n): ∀j,j<n->le (f 0) (f j):=by
 intro j;induction j using Nat.strongRecOn with
 |_ j I=>
  intro a;by_cases H:j=0
  .subst H;exact le_refl _
  .exact le_trans (I ((j - 1)/2) af af) (h j af a)
def at_(es:List E)(i:Nat):E:=es.getD i (0,0)
theorem nh(h:i<es.length):at_ es i=es[i]:=by simp[at_,h]
theorem HU(h:i<es.length):es[i]? =some (at_ es i):=by simp[at_,h]
theorem FZ(h:i<es.length):at_ (es.set i x) j=if j=i then x else at_ es j:=by
 unfold at_;by_cases e:j=i
 .subst e;simp[h]
 .simp[e,e6 e]
def oX(es:List E)(i j:Nat):List E:=(es.set j (at_ es i)).set i (at_ es j)
theorem vp :(oX es i j).length=es.length:=by simp[oX]
theorem DX(h:i<es.length)(H:j<es.length)(k:Nat):at_ (oX es i j) k=nO (at_ es) i j k:=by
 unfold oX nO;rw[FZ (cy h),FZ H]
theorem Bu(h:i<es.length)(H:j<es.length):at_ (oX es i j)=nO (at_ es) i j:=funext (DX h H)
theorem sD(h:i<es.length)(H:j<es.length):(oX es i j).Perm es:=by
 unfold oX;rw[nh h,nh H];exact List.set_set_perm H h
def hY(es:List E)(g:Int->Option Value):Prop:=
 (es.map (·.1)).Nodup/\(∀j,j<es.length->g (at_ es j).1=some (.int .i64 j))/\∀k,k∉es.map (·.1)->g k=none
theorem key_inj(h:(es.map (·.1)).Nodup)(H:i<es.length)(b:j<es.length)(a:(at_ es i).1=(at_ es j).1):i=j:=by
 rw[nh H,nh b]at a;have c:=dM (i:=i) (j:=j) (cy H) h;exact c.1 (by simp[H,b,a])
theorem hY.swap(h:hY es g)(H:i<es.length)(a:j<es.length)(q:i≠j):
  hY (oX es i j) (λk=>if k=(at_ es j).1 then some (.I i)else if k=(at_ es i).1 then some (.I j)else g k):=by
 obtain⟨b,m,o⟩:=h;have d:=(sD H a).map (·.1);refine⟨d.nodup_iff.2 b,λk hk=> ?_,λk hk=> ?_⟩
 .rw[vp]at hk;rw[DX H a];unfold nO;by_cases e1:k=i
  .subst e1;simp
  .by_cases e2:k=j
   .subst e2;rw[ae e1,ag rfl];have:(at_ es i).1≠(at_ es k).1:=λe=>q (key_inj b H a e)
    simp[this]
   .rw[ae e1,ae e2];have n1:(at_ es k).1≠(at_ es j).1:=λe=>e2 (key_inj b hk a e)
    have n2:(at_ es k).1≠(at_ es i).1:=λe=>e1 (key_inj b hk H e)
    simp[n1,n2,m k hk]
 .have c:k∉es.map (·.1):=λp=>hk (d.mem_iff.2 p)
  have M:(at_ es j).1∈es.map (·.1):=by rw[nh a];exact bw (dQ a)
  have r:(at_ es i).1∈es.map (·.1):=by rw[nh H];exact bw (dQ H)
  simp only[];rw[ae (show k≠_ from λe=>c (e.symm▸M)),ae (show k≠_ from λe=>c (e.symm▸r))];exact o k c
def iW(l:List E):Prop:=l.Pairwise lt
def keys(l:List E):List Int:=l.map (·.1)
def fD(l:List E)(k:Int):List E:=l.filter (λe=> !(e.1==k))
def tO(l:List E)(x:E):List E:=l.filter (λe=>decide (lt e x))++x::l.filter (λe=> !decide (lt e x))
theorem lE(l:List E)(x:E):(tO l x).Perm (x::l):=by
 unfold tO;refine(List.perm_middle).trans (List.Perm.cons x ?_);exact List.filter_append_perm _ _
theorem iW.drop(h:iW l)(k:Int):iW (fD l k):=fF _ h
theorem iW.insert(h:iW l)(x:E)(hk:x.1∉keys l):iW (tO l x):=by
 unfold iW tO;rw[List.pairwise_append];refine⟨fF _ h,?_,?_⟩
 .rw[dK];refine⟨λy a=> ?_,fF _ h⟩;obtain⟨c,H⟩:=ba.1 a;have b: ¬lt y x:=by simpa using H
  exact lt_of_le_ne b (λe=>hk (by rw[e];exact bw c))
 .intro y a z hz;obtain⟨_,H⟩:=ba.1 a;have m:lt y x:=by simpa using H
  rcases bJ.1 hz with rfl|hz
  .exact m
  .obtain⟨_,d⟩:=ba.1 hz;have b: ¬lt z x:=by simpa using d
   unfold lt at*;omega
theorem F0(l:List E)(k:Int):k∉keys (fD l k):=by
 intro h;obtain⟨e,H,rfl⟩:=bg.1 h;have:=(ba.1 H).2;simp at this
theorem jL(h:k∉keys l):fD l k=l:=by
 unfold fD;rw[cd];intro e H;have:e.1≠k:=λE=>h (E▸bw H)
 simp[this]
theorem F1(h:l.Perm L)(k:Int):(fD l k).Perm (fD L k):=h.filter _
theorem Lr(H:es.Perm l)(o:iW l)(d:qa (at_ es) es.length)(a:0<es.length): ∃r,l=at_ es 0::r:=by
 cases l with
 |nil=>have:=H.length_eq;simp only[bm]at this;omega
 |cons x r=>
  refine⟨r,?_⟩;have p:x∈es:=H.mem_iff.2 dh;obtain⟨j,h⟩:=bF p;have b:j<es.length:=(aA.1 h).1;have c:=Lq d j b;rw[HU b]at h;have e1:at_ es j=x:=bj h;rw[e1]at c;have m:at_ es 0∈x::r:=H.mem_iff.1 (by rw[nh a];exact dQ a);rcases bJ.1 m with e|e
  .rw[e]
  .have:=(dK.1 o).1 _ e;exact absurd this c
theorem Bv(H:es.length=n+1):es=es.take n++ [at_ es n]:=by
 have h:n<es.length:=af
 rw[nh h];have:=List.take_append_getElem h;rw[this,bB af]
theorem Cy(h:i<n):at_ (es.take n) i=at_ es i:=by
 unfold at_;rw[aZ,aZ,cS,ag h]
theorem vq :at_ (es++ [x]) i=if i<es.length then at_ es i else if i=es.length then x else(0,0):=by
 unfold at_;rw[aZ,aZ];by_cases h:i<es.length
 .rw[cT h,ag h]
 .rw[cP af,ae h];by_cases e:i=es.length
  .subst e;simp
  .rw[ae e,dA (by simp;omega)];rfl
theorem mem_keys(h:k∈keys es): ∃j,j<es.length/\(at_ es j).1=k:=by
 obtain⟨e,b,rfl⟩:=bg.1 h;obtain⟨j,H⟩:=bF b;have a:=(aA.1 H).1;rw[HU a]at H;exact⟨j,a,bT Prod.fst (bj H)⟩
theorem at_mem(h:j<es.length):at_ es j∈es:=by rw[nh h];exact dQ h
theorem keys_perm(h:l.Perm L):(keys l).Perm (keys L):=h.map _
def cut(es:List E)(n j:Nat):List E:=if j<n then(es.take n).set j (at_ es n)else es.take n
theorem DY(a:es.length=n+1)(c:j<es.length):es.Perm (at_ es j::cut es n j):=by
 unfold cut;have d:(es.take n).length=n:=by rw[bE];omega
 split
 .rename_i h;have H:j<(es.take n).length:=af
  have e1:at_ es j=(es.take n)[j]:=by rw[<-Cy h,nh H]
  have p:es.Perm (at_ es n::es.take n):=by
   have:es.Perm (es.take n++ [at_ es n]):=by rw[<-Bv a]
   exact this.trans (dR _ _)
  have P:(es.take n).Perm (at_ es j::((es.take n).take j++(es.take n).drop (j+1))):=by
   rw[e1];have e2:es.take n=(es.take n).take j++(es.take n)[j]::(es.take n).drop (j+1):=by rw[<-cR H,List.take_append_drop]
   have e:(es.take n).Perm ((es.take n).take j++(es.take n)[j]::(es.take n).drop (j+1)):=List.Perm.of_eq e2;exact e.trans List.perm_middle
  have b:((es.take n).set j (at_ es n)).Perm (at_ es n::((es.take n).take j++(es.take n).drop (j+1))):=by
   rw[List.set_eq_take_append_cons_drop,ag H];exact List.perm_middle
  exact p.trans ((P.cons _).trans ((List.Perm.swap _ _ _).trans (b.symm.cons _)))
 .have:j=n:=af
  subst this;have:es.Perm (es.take j++ [at_ es j]):=by rw[<-Bv a]
  exact this.trans (dR _ _)
theorem Ls(c:es.length=n+1)(b:j<es.length)(hd:(keys es).Nodup)(d:es.Perm l):(cut es n j).Perm (fD l (at_ es j).1):=by
 have h:=DY c b;have hk:(at_ es j).1∉keys (cut es n j):=by
  have:=(keys_perm h).nodup_iff.1 hd;exact(eM.1 this).1
 have H:=F1 (h.symm.trans d) (at_ es j).1;have a:fD (at_ es j::cut es n j) (at_ es j).1=cut es n j:=by
  have:fD (at_ es j::cut es n j) (at_ es j).1=fD (cut es n j) (at_ es j).1:=by
   unfold fD;rw[bZ];simp
  rw[this,jL hk]
 rw[a]at H;exact H
theorem Cz(h:es.length=n+1):(cut es n j).length=n:=by
 unfold cut;split
 .rw[cY,bE];omega
 .rw[bE];omega
theorem oO(a:es.length=n+1)(h:i<n):at_ (cut es n j) i=if i=j then at_ es n else at_ es i:=by
 have H:(es.take n).length=n:=by rw[bE];omega
 unfold cut;split
 .rw[FZ af,Cy h]
 .rw[Cy h,dj]
theorem Js(h:hY es g)(a:es.length=n+1)(m:j<es.length):
  hY (cut es n j) (λk=>if j<n then(if k=(at_ es n).1 then some (.I j)else if k=(at_ es j).1 then none else g k)else if k=(at_ es j).1 then none else g k):=by
 obtain⟨b,p,q⟩:=h;have o:=keys_perm (DY a m);have t:=o.nodup_iff.1 b;refine⟨(eM.1 t).2,λi c=> ?_,λk hk=> ?_⟩
 .rw[Cz a]at c;rw[oO a c];by_cases e:i=j
  .subst e;simp[c]
  .rw[ae e];have n1:(at_ es i).1≠(at_ es n).1:=λx=>by have:=key_inj b af af x;omega
   have n2:(at_ es i).1≠(at_ es j).1:=λx=>e (key_inj b af m x)
   simp[n1,n2,p i af]
 .have d: ∀k,k∉(cut es n j).map (·.1)->k≠(at_ es j).1->g k=none:=λk hk u=>by
   refine q k λs=> ?_
   rcases bJ.1 (o.mem_iff.1 s)with e|e
   .exact u e
   .exact hk e
  by_cases H:j<n
  .have r:(at_ es n).1∈(cut es n j).map (·.1):=by
    have:=at_mem (es:=cut es n j) (j:=j) (by rw[Cz a];exact H);rw[oO a H,ag rfl]at this;exact bw this
   have n1:k≠(at_ es n).1:=λe=>hk (e▸r)
   by_cases e:k=(at_ es j).1
   .subst e;simp[H,n1]
   .simp[H,n1,e,d k hk e]
  .by_cases e:k=(at_ es j).1
   .subst e;simp[H]
   .simp[H,e,d k hk e]
theorem Lt(h:es.length=n+1)(o:j<n)(d:qa (at_ es) es.length):sy (at_ (cut es n j)) n j:=by
 refine⟨λc H a b m=> ?_,λe c H a b=> ?_⟩
 .rw[oO h a,oO h af,ae b,ae m];exact d c H af
 .rw[oO h a,oO h af,dj,dj];have:=d c H af;rw[b]at this;exact le_trans (d j e af) this
theorem Lu(h:es.length=n+1)(d: ¬j<n)(b:qa (at_ es) es.length):qa (at_ (cut es n j)) n:=λc H a=>by
 rw[oO h a,oO h af,dj,dj];exact b c H af
theorem Lv(b:qa (at_ es) es.length):sy (at_ (es++ [x])) (es.length+1) es.length/\yy (at_ (es++ [x])) (es.length+1) es.length:=by
 refine⟨⟨λc h H a e=> ?_,λd c h H a=>af⟩,λc h H a=>af⟩;rw[vq,vq,fY,fY];exact b c h af
theorem Jt(h:hY es g)(H:x.1∉keys es):hY (es++ [x]) (λk=>if k=x.1 then some (.I es.length)else g k):=by
 obtain⟨a,b,c⟩:=h;refine⟨?_,λi d=> ?_,λk hk=> ?_⟩
 .have:((es++ [x]).map (·.1)).Perm (x.1::es.map (·.1)):=by
   rw[aW];exact dR _ _
  exact this.nodup_iff.2 (eM.2 ⟨H,a⟩)
 .rw[av,dy]at d;rw[vq];by_cases e:i<es.length
  .rw[ag e];have:(at_ es i).1≠x.1:=λq=>H (q▸bw (at_mem e))
   simp[this,b i e]
  .have:i=es.length:=af
   subst this;simp
 .rw[aW,bN]at hk;have n1:k≠x.1:=λe=>hk (.inr (by simp[e]))
  simp[n1,c k (λm=>hk (.inl m))]
theorem Ga{e:E}(hd:(keys (e::l)).Nodup):fD (e::l) e.1=l:=by
 have h:fD (e::l) e.1=fD l e.1:=by unfold fD;rw[bZ];simp
 rw[h,jL (eM.1 hd).1]

end
end Go.kk
namespace Go.Den
section
variable {P : Program}
theorem Lw{S x ty elem:TypeId}{sz bytes:Nat}{z:Value}{h:aj}{n:Nat}{K:fj}(T:nJ P S elem sz bytes z)(w:P.underlying x=some (.int .i64))(D:0<n)(A:n*bytes<=70368744177664)(B:n<=4611686018427387904)(hk: ∀c h',fi h' (Sa h.size 0) 0 c sz []->n<=c->Fr (λ_=>False) h h'->K (.slice (Sa h.size 0) n c) h'):
  aU P (Builtin.append_ #[S,x] ty #[.Z,.I (n:Int)]) h K:=by
 obtain⟨i,b,rfl,rfl,g⟩:=T.i;have u:=T.zs;unfold Builtin.append_;refine bP (s:=underlying S) (bz T.u) ?_;refine bP (s:=sizeOf elem) (gQ b) ?_;refine bP (s:=underlying x) (bz w) ?_;refine bP (s:=(pure true:Sem Bool)) (a:=true) rfl ?_;have e:IntKind.wrap .i64 (n:Int)=(n:Int):=bA af af;refine bP (s:=asInt (.I (n:Int))) (a:=(n:Int)) rfl ?_;show aU P (if IntKind.wrap .i64 (n:Int)<0 then _ else _) h K;rw[ae (by rw[e];omega)];refine bP (s:=typeInfo elem) (gO b) ?_;show aU P (if IntKind.wrap .i64 (n:Int)*(i.bytes:Int)>2 ^ 48 then _ else _) h K;have k:(n:Int)*(i.bytes:Int)=((n*i.bytes:Nat):Int):=bO
 rw[ae (by rw[e,k];omega)];refine bP (s:=(pure (IntKind.wrap .i64 (n:Int)).toNat:Sem Nat)) (a:=n) (by rw[e];rfl) ?_;show aU P (if 0+n<=0 then _ else _) h K;rw[dj];refine bP (s:=typeInfo elem) (gO b) ?_;show aU P (if(((0+n:Nat):Int)>IntKind.max .i64/\(true=true\/i.bytes=0))then _ else _) h K;have q:IntKind.max .i64=9223372036854775807:=rfl;rw[ae (by rw[q];omega)];refine bP (s:=typeInfo elem) (gO b) ?_;have p:=nextslicecap_le (need:=0+n) (cap:=0) af;have r: ¬(Builtin.nextslicecap (0+n) 0*i.bytes>2 ^ 48):=by
  have d:Builtin.nextslicecap (0+n) 0*i.bytes<=2*(0+n)*i.bytes:=cF _ p;rw[Nat.mul_assoc,bC]at d;rw[bC];omega
 show aU P (if Builtin.nextslicecap (0+n) 0*i.bytes>2 ^ 48 then _ else _) h K;rw[ae r];show aU P (choose (.appendCap (0+n) 0 elem)>>=_) h K;rw[dJ];unfold choose;simp only[aU,Question.forced,aq,aJ,Question.cut];intro y;refine bP (s:=typeInfo elem) (gO b) ?_;rw[dJ];have t: ∀(m:Nat)(K':Unit->aj->Prop),K' () h->aU P (askRoom m) h K':=λm K' f=>by
  unfold askRoom;split
  .exact f
  .exact f
 refine t _ _ ?_;refine bP (s:=Builtin.firstCells i.size 0 (.Z)) (a:= #[]) (kz (ds:= []) (.inl rfl) bO) ?_;have R:=iH (h:=h) b g;refine bP (a:=if n*i.size=0 then #[]else Builtin.zeroCells z.cells n) ?_ ?_
 .show rd P (if n*i.size=0 then pure #[]else _) h=_;by_cases H:n*i.size=0
  .rw[ag H,ag H];rfl
  .rw[ae H,ae H,br _ _ _ _ R];rfl
 refine bP (s:=zeroValue elem) (iH b g) ?_;generalize C:0+n+y%(2 ^ 63 - (0+n))=c;have l:n<=c:=af
 have d: ∀m,(Builtin.zeroCells z.cells m).size=m*i.size:=λm=>by simp[Builtin.zeroCells,u]
 show K (.slice (Sa h.size 0) (0+n) c) (h.push (.cells (#[]++(if n*i.size=0 then #[]else Builtin.zeroCells z.cells n)++Builtin.zeroCells z.cells (c - (0+n))) elem));rw[bC];refine hk c _ (.row h.size 0 _ elem rfl bR (bL _) ?_ bO (λj v o=>by cases o)) l (Fr.push _ _);rw[Array.size_append,d];have:(#[]++(if n*i.size=0 then #[]else Builtin.zeroCells z.cells n):Array Value).size=n*i.size:=by
  by_cases H:n*i.size=0
  .rw[ag H,H];rfl
  .rw[ae H,Array.size_append,d];simp
 rw[this,<-dO,bC,show n+(c - n)=c by omega];omega
end
section
variable {h h':aj} {X:Ft} {j:Nat}
def In(X:Ft)(y:Nat):Prop:=X.M y\/X.D y
abbrev only(X:Ft)(P:Nat->Prop):Prop:= ∀y,(X.M y↔P y)/\¬X.D y
abbrev pt(b:Nat):Value:=.pointer (some ⟨b,0,none⟩)
structure yz (P:Nat->aj->Ft->Prop):Prop where
 lt: ∀ {i h X},P i h X->∀y,In X y->y<h.size
 frame: ∀ {i h h' X} {Q:Nat->Prop},P i h X->Fr Q h h'->(∀y,In X y->¬Q y)->P i h' X
 vr: ∀ {i h X},P i h X->∀y,X.M y->X.D y->False
def Gb(P:Nat->aj->Ft->Prop)(h:aj)(X:Ft):Prop:= ∃Y:Nat->Ft,(∀i,P i h (Y i))/\(∀i j y,i≠j->In (Y i) y->¬In (Y j) y)/\(∀y,X.M y↔ ∃i,(Y i).M y)/\∀y,X.D y↔ ∃i,(Y i).D y
variable {P p : Nat → aj → Ft → Prop}
theorem Gb.lt(S:yz P)(H:Gb P h X)(y:Nat)(hy:X.M y\/X.D y):y<h.size:=by
 obtain⟨Y,b,_,c,hd⟩:=H;rcases hy with hy|hy
 .obtain⟨i,a⟩:=(c y).1 hy;exact S.lt (b i) y (.inl a)
 .obtain⟨i,a⟩:=(hd y).1 hy;exact S.lt (b i) y (.inr a)
theorem Gb.vr(S:yz P)(H:Gb P h X)(y:Nat)(a:X.M y)(b:X.D y):False:=by
 obtain⟨Y,g,ap,f,hd⟩:=H;obtain⟨i,c⟩:=(f y).1 a;obtain⟨j,d⟩:=(hd y).1 b;by_cases e:i=j
 .subst e;exact S.vr (g i) y c d
 .exact ap i j y e (.inl c) (.inr d)
theorem Gb.frame{Q:Nat->Prop}(S:yz P)(H:Gb P h X)(f:Fr Q h h')(d: ∀y,X.M y\/X.D y->¬Q y):Gb P h' X:=by
 obtain⟨Y,c,ap,b,hd⟩:=H;exact⟨Y,λi=>S.frame (c i) f (λy e=>d y (e.imp (λa=>(b y).2 ⟨i,a⟩) (λa=>(hd y).2 ⟨i,a⟩))),ap,b,hd⟩
theorem Gb.use(S:yz P)(H:Gb P h X)(j:Nat): ∃Z,P j h Z/\(∀y,Z.M y->X.M y)/\(∀y,Z.D y->X.D y)/\∀h' z p,p j h' z->bG Z h z h'->(∀i,i≠j->p i=P i)->
  ∃x,Gb p h' x/\bG X h x h'/\(∀y,z.D y->x.D y)/\∀y,h.size<=y->x.M y\/x.D y->z.M y\/z.D y:=by
 obtain⟨Y,f,ap,d,hd⟩:=H;refine⟨Y j,f j,λy a=>(d y).2 ⟨j,a⟩,λy a=>(hd y).2 ⟨j,a⟩,λh' z p n st o=> ?_⟩;have xR: ∀i y,i≠j->In (Y i) y->¬In z y:=λi y m c hz=>by
  have l:=S.lt (f i) y c;rcases hz with hz|hz
  .rcases st.jr y hz with a|a
   .exact ap i j y m c (.inl a)
   .omega
  .rcases st.kR y hz with a|a
   .exact ap i j y m c (.inr a)
   .omega
 refine⟨⟨λy=> ∃i,(if i=j then z else Y i).M y,λy=> ∃i,(if i=j then z else Y i).D y⟩,⟨λi=>if i=j then z else Y i,λi=> ?_,λi k y g c hz=> ?_,λ_=>eE,λ_=>eE⟩,⟨st.fr.mono (λy _ a=>(d y).2 ⟨j,a⟩),?_,?_,?_⟩,λy a=>⟨j,by rw[ag rfl];exact a⟩,?_⟩
 .show p i h' (if i=j then z else Y i);by_cases e:i=j
  .rw[ag e,e];exact n
  .rw[ae e,o i e];exact S.frame (f i) st.fr (λy c a=>ap i j y e c (.inl a))
 .dsimp only at c hz;by_cases e:i=j
  .rw[ag e]at c;rw[ae (λq=>g (e.trans q.symm))]at hz;exact xR k y (λq=>g (e.trans q.symm)) hz c
  .rw[ae e]at c;by_cases e2:k=j
   .rw[ag e2]at hz;exact xR i y e c hz
   .rw[ae e2]at hz;exact ap i k y g c hz
 .rintro y ⟨i,a⟩;by_cases e:i=j
  .rw[ag e]at a;exact(st.jr y a).imp (λb=>(d y).2 ⟨j,b⟩) id
  .rw[ae e]at a;exact .inl ((d y).2 ⟨i,a⟩)
 .rintro y ⟨i,a⟩;by_cases e:i=j
  .rw[ag e]at a;exact(st.kR y a).imp (λb=>(hd y).2 ⟨j,b⟩) id
  .rw[ae e]at a;exact .inl ((hd y).2 ⟨i,a⟩)
 .intro y a;obtain⟨i,a⟩:=(hd y).1 a;by_cases e:i=j
  .exact⟨j,by rw[ag rfl];exact st.vk y (e▸a)⟩
  .exact⟨i,by rw[ae e];exact a⟩
 .intro y c a;have key: ∀i,In (if i=j then z else Y i) y->z.M y\/z.D y:=λi a=>by
   by_cases e:i=j
   .rw[ag e]at a;exact a
   .rw[ae e]at a;have:=S.lt (f i) y a;omega
  rcases a with⟨i,a⟩|⟨i,a⟩
  .exact key i (.inl a)
  .exact key i (.inr a)
end
section
variable {a:Addr} {len cap sz i j:Nat} {K:aj->Prop}
def lF:List Value->Nat->List Value->List Value
 |cs,_, []=>cs
 |cs,p,v::vs=>lF (cs.set p v) (p+1) vs
theorem wR: ∀(vs cs:List Value)(p:Nat),(lF cs p vs).length=cs.length
 | [],cs,p=>rfl
 |v::vs,cs,p=>by unfold lF;rw[wR vs,cY]
theorem sE: ∀(vs cs:List Value)(p:Nat),p+vs.length<=cs.length->∀j,(lF cs p vs)[j]? =if p<=j/\j<p+vs.length then vs[j - p]? else cs[j]?
 | [],cs,p,_,j=>by unfold lF;rw[ae (by rw[bm];omega)]
 |v::vs,cs,p,b,j=>by
  unfold lF;rw[aV]at b⊢;rw[sE vs _ (p+1) (by rw[cY];omega) j,cX];by_cases h:p+1<=j/\j<p+1+vs.length
  .rw[ag h,fY,show j - p=(j - (p+1))+1 by omega,di]
  .rw[ae h];by_cases H:p=j
   .subst H;rw[ag rfl,fY,fY,Nat.sub_self];rfl
   .rw[ae H,dj]
theorem fi.dU{p:Nat}: ∀(vs:List Value)(k:Nat)(h:aj)(cs:List Value),fi h (.some a) len cap sz cs->(∀v∈vs,fI v=true)->p+k+vs.length<=cs.length->
  (∀h',fi h' (.some a) len cap sz (lF cs (p+k) vs)->h'.size=h.size->(∀x,¬aL (.some a) x->h'[x]? =h[x]?)->K h')->Den.dU (a.add p) vs k h K
 | [],k,h,cs,o,_,_,hk=>hk h o rfl (λ_ _=>rfl)
 |v::vs,k,h,cs,o,H,e,hk=>by
  rw[aV]at e;unfold Den.dU;rw[H v dh];dsimp only;rw[add_add];refine o.store af λc o1 s1 q1=> ?_
  refine fi.dU vs (k+1) c _ o1 (λu f=>H u (cp _ f)) (by rw[cY];omega) λd o2 s q2=>hk d ?_ af (λx b=>by rw[q2 x b,q1 x b])
  unfold lF;rw[show p+k+1=p+(k+1) by omega];exact o2
theorem fi.DZ{h:aj}{α:Type}{enc:α->List Value}{xs:List α}{y:α}(o:fi h (.some a) len cap sz (xs.flatMap enc))(H: ∀x,(enc x).length=sz)(d: ∀v∈enc y,fI v=true)(c:i<xs.length)(hk: ∀h',fi h' (.some a) len cap sz ((xs.set i y).flatMap enc)->h'.size=h.size->(∀x,¬aL (.some a) x->h'[x]? =h[x]?)->K h'):Den.dU (a.add (i*sz)) (enc y) 0 h K:=by
 have b:=eS enc sz H xs;have m:i*sz+sz<=xs.length*sz:=by
  have:=cF sz (show i+1<=xs.length by omega);rwa[dO,Nat.one_mul]at this
 refine fi.dU (enc y) 0 h _ o d (by rw[H,b];omega) λh' O s' q=>hk h' ?_ s' q
 have e:lF (xs.flatMap enc) (i*sz+0) (enc y)=(xs.set i y).flatMap enc:=by
  refine DR enc sz H xs i y c _ (wR _ _ _) ?_ ?_
  .intro j hj;rw[sE _ _ _ (by rw[H,b];omega),H];rw[ae];rintro⟨k,l⟩;rcases hj with hj|hj
   .apply hj
    have g:0<sz:=af
    rw[Nat.div_eq_iff g];constructor
    .omega
    .omega
   .omega
  .intro j v hj f;rw[sE _ _ _ (by rw[H,b];omega),H,fY,show i*sz+j - (i*sz+0)=j by omega];exact f
 rw[e]at O;exact O
def swp{α:Type}(xs:List α)(i j:Nat):List α:=
 match xs[i]?,xs[j]? with
 |some x,some y=>(xs.set i y).set j x
 |_,_=>xs
theorem P1{α:Type}{xs:List α}{x y:α}(h:xs[i]? =some x)(H:xs[j]? =some y):(xs.set i y).set j x=swp xs i j:=by unfold swp;rw[h,H]
theorem P2{α:Type}{xs:List α}(b:i<xs.length)(c:j<xs.length)(k:Nat):(swp xs i j)[k]? =if k=j then xs[i]? else if k=i then xs[j]? else xs[k]? :=by
 have e1:xs[i]? =some xs[i]:=ai b;have e2:xs[j]? =some xs[j]:=ai c;unfold swp;rw[e1,e2];dsimp only;rw[cX,cX,cY];by_cases h:j=k
 .subst h;rw[ag rfl,ag c,ag rfl]
 .rw[ae h,ae (e6 h)];by_cases H:i=k
  .subst H;rw[ag rfl,ag b,ag rfl]
  .rw[ae H,ae (e6 H)]
theorem Lx{α:Type}{xs:List α}(h:i<xs.length)(H:j<xs.length):(swp xs i j).Perm xs:=by
 unfold swp;rw[ai h,ai H];dsimp only;exact List.set_set_perm h H

end
section
variable {α : Type} {lt : α → α → Prop} {xs ys : List α} {a b i j : Nat}
def jD(lt:α->α->Prop)(xs:List α)(a b:Nat):Prop:= ∀(p q:Nat) x y,a<=p->p<q->q<b->xs[p]? =some x->xs[q]? =some y->lt x y
theorem jD.pair(h:jD lt xs 0 xs.length):xs.Pairwise lt:=by
 rw[List.pairwise_iff_getElem];intro i j c H d;exact h i j _ _ (bL _) d H (ai c) (ai H)
theorem jD.small(h:b<=a+1):jD lt xs a b:=λp q _ _ H c d=>af
structure CA (lt:α->α->Prop) (xs ys:List α) (a i j:Nat):Prop where
 perm:ys.Perm xs
 out: ∀k,k<a\/i<k->ys[k]? =xs[k]?
 so: ∀(p q:Nat) x y,a<=p->p<q->q<=i->p≠j->q≠j->ys[p]? =some x->ys[q]? =some y->lt x y
 up: ∀(q:Nat) x y,j<q->q<=i->ys[j]? =some x->ys[q]? =some y->lt x y
theorem CA.start(h:jD lt xs a i):CA lt xs xs a i i:=
 ⟨.refl _,λ_ _=>rfl,λp q x y H c d _ e=>h p q x y H c af,λq x y H c=>af⟩
theorem CA.swap{x y:α}(H:CA lt xs ys a i j)(s:a<j)(t:j<=i)(r:i<ys.length)(n:ys[j]? =some x)(o:ys[j - 1]? =some y)(m:lt x y):CA lt xs (swp ys j (j - 1)) a i (j - 1):=by
 have at_: ∀k:Nat,(swp ys j (j - 1))[k]? =if k=j - 1 then ys[j]? else if k=j then ys[j - 1]? else ys[k]? :=P2 af af
 refine⟨(Lx af af).trans H.perm,λk hk=> ?_,λp q u v d e f g l c h=> ?_,λq u v d e c h=> ?_⟩
 .rw[at_,dj,dj];exact H.out k hk
 .rw[at_,ae g]at c;rw[at_,ae l]at h;by_cases P:p=j
  .rw[ag P]at c;rw[dj]at h;exact H.so (j - 1) q u v af af f af af c h
  .rw[ae P]at c;by_cases Q:q=j
   .rw[ag Q]at h;exact H.so p (j - 1) u v d af af P af c h
   .rw[ae Q]at h;exact H.so p q u v d e f P Q c h
 .rw[at_,ag rfl]at c;rw[at_,dj]at h;by_cases Q:q=j
  .rw[ag Q]at h;rw[n]at c;rw[o]at h;cases c;cases h;exact m
  .rw[ae Q]at h;exact H.up q u v af e c h
theorem CA.stop(k: ∀{x y z},lt x y->lt y z->lt x z)(H:CA lt xs ys a i j)(o:a<=j)(r:j<=i)(n:i<ys.length)(he:j=a\/∀x y,ys[j]? =some x->ys[j - 1]? =some y->lt y x):jD lt ys a (i+1):=by
 intro p q u v e f m h c;by_cases P:p=j
 .subst P;exact H.up q u v f af h c
 .by_cases Q:q=j
  .subst Q;rcases he with he|he
   .omega
   .have d:ys[q - 1]? =some (ys[q - 1]' af):=ai _;have g:=he _ _ c d;by_cases l:p=q - 1
    .subst l;rw[d]at h;cases h;exact g
    .exact k (H.so p (q - 1) _ _ e af af P af h d) g
  .exact H.so p q u v e f af P Q h c
end
end Go.Den
namespace Go.fM
structure RD where
 id:Nat
 err:Int
 num:Int
 count:Int
 token:Nat
 b:cH
def RD.zero:RD:=⟨0,0,0,0,0, []⟩
def RD.mc(x:RD):Prop:=x.id<=1099511627776/\(0<=x.err/\x.err<=99)/\(0<=x.num/\x.num<=1099511627776)/\(0<=x.count/\x.count<=1099511627776)/\x.token<=2147483648/\x.b.length<=600/\(x.err≠0->x.num=0/\x.count=0/\x.token=0/\x.b= [])
instance (x : RD) : Decidable x.mc := by unfold RD.mc; infer_instance
def RD.same(x y:RD):Prop:=x.id=y.id/\x.err=y.err/\x.num=y.num/\x.count=y.count/\x.token=y.token/\x.b=y.b
instance (x y : RD) : Decidable (x.same y) := by unfold RD.same; infer_instance
def RD.enc(x:RD):cH:=dt x.id++dt (fO x.err)++dt (fO x.num)++dt (fO x.count)++dt x.token++ga x.b
variable {x:RD}
structure SE where
 x:RD
 e:Int
 rest:cH
def Rh(t:Nat)(m:Nat->Int->cH->Nat×Int×cH)(bs:cH):SE:=
 let a:=eN 0 bs
 let b:=m t a.2.1 a.2.2
 let c:=m 1099511627776 b.2.1 b.2.2
 let d:=m 1099511627776 c.2.1 c.2.2
 let f:=eN d.2.1 d.2.2
 let g:=jC f.2.1 f.2.2
 ⟨⟨a.1,(b.1:Int),(c.1:Int),(d.1:Int),f.1,g.1⟩,g.2.1,g.2.2⟩
def wS(s:SE):Option RD:=if tM s.e s.rest=0/\s.x.mc then some s.x else none
def CB(bs:cH):Option RD:=wS (Rh 1099511627776 hU bs)
theorem Ly(h:x.mc):CB x.enc=some x:=by
 obtain⟨H,⟨a,b⟩,⟨c,d⟩,⟨f,g⟩,i,j,_⟩:=id h;have key:Rh 1099511627776 hU x.enc=⟨x,0, []⟩:=by
  unfold Rh RD.enc;have e2:fO x.err<=1099511627776:=by unfold fO;omega
  have e:fO x.num<=1099511627776:=by unfold fO;omega
  have E:fO x.count<=1099511627776:=by unfold fO;omega
  simp only[du];rw[mN af];dsimp only;rw[oL e2 af];dsimp only;rw[oL e af];dsimp only;rw[oL E af];dsimp only;rw[mN af];dsimp only;have:=Cx (t:=x.b) af [];rw[List.append_nil]at this;rw[this];cases x;unfold fO at*;simp only[SE.mk.injEq,RD.mk.injEq,and_true,true_and]at*;omega
 unfold CB wS;rw[key];simp[h,tM]
theorem jH(h:x.b.length<=600):x.enc.length<=700:=by
 have a:=(cj x.id).2;have A:=(cj (fO x.err)).2;have b:=(cj (fO x.num)).2;have c:=(cj (fO x.count)).2;have d:=(cj x.token).2;have e:=(cj x.b.length).2;unfold RD.enc ga;simp only[av];omega

end Go.fM
namespace Go.Den
section
variable {b off:Nat}
theorem tQ : ∀(vs:List Value)(i:Nat)(h:aj)(K:aj->Prop),dU (AA b 0) vs (off+i) h K->dU (AA b off) vs i h K
 | [],_,_,_,H=>H
 |v::vs,i,h,K,H=>by
  unfold dU at H⊢;cases a:fI v with
  |false=>rw[a]at H;exact H
  |true=>
   rw[a]at H;dsimp only at H⊢;rw[gz,bC]at H;rw[gz];obtain⟨c,d,f⟩:=H;exact⟨c,d,λh' e=>tQ vs (i+1) h' K (f h' e)⟩
theorem lR{h:aj}{c:Array Value}{t:TypeId}{vs ws:List Value}{K:aj->Prop}(d:h[b]? =some (.cells c t (0,0)))(i:off+vs.length<=c.size)(f:vs.all fI=true)(e:c.toList.take off++vs++c.toList.drop (off+vs.length)=ws)(hk: ∀h',h'[b]? =some (.cells ws.toArray t (0,0))->h'.size=h.size->(∀x,x≠b->h'[x]? =h[x]?)->K h'):dU (AA b off) vs 0 h K:=by
 refine tQ vs 0 h K (pX vs (off+0) h c K d af f λh' C B z q r s o=>hk h' ?_ s o);have:C=ws.toArray:=by
  subst e;apply Array.ext'
  apply fp
  intro j;have k:c.toList.length=c.size:=et;rw[dz];show C[j]? =(c.toList.take off++vs++c.toList.drop (off+vs.length))[j]?;by_cases a:j<off
  .rw[du,cT (by rw[bE];omega),cS,ag a,dz];exact q j af
  .by_cases g:j<off+vs.length
   .have l1:(c.toList.take off).length=off:=by rw[bE];omega
    rw[du,cP af,l1,cT af];have H:j - off<vs.length:=af
    have:=r (j - off) vs[j - off] (ai H);rw[show off+0+(j - off)=j by omega]at this;rw[this,ai H]
   .have l1:(c.toList.take off++vs).length=off+vs.length:=by rw[av,bE];omega
    rw[cP af,l1,ff,dz,show off+vs.length+(j - (off+vs.length))=j by omega];exact q j af
 rw[<-this];exact B

end
section
variable {h:aj}
def idxOf{α:Type}(P:α->Bool)(xs:List α):Int:=match xs.findIdx? P with|some k=>(k:Int)|none=> -1
theorem D0{α:Type}(P:α->Bool){xs:List α}{n:Nat}{R:fj}(B:Int->aj->(Bool->aj->Prop)->Prop)(l:n=xs.length)(s:xs.length<=1000000000)(d: ∀(k:Nat) g x K,xs[k]? =some x->Fr (λ_=>False) h g->(∀G,Fr (λ_=>False) h G->K (P x) G)->B (k:Int) g K)(hk: ∀g,Fr (λ_=>False) h g->R (.I (idxOf P xs)) g):
  ∃(I:Int->aj->Prop)(m:Int->aj->Nat),I 0 h/\∀(t:Int)(g:aj),I t g->if(decide (t<(n:Int)))=true then B t g (λq a=>if q=true then R (.I t) a else(I (IntKind.wrap .i64 (t+1)) a/\m (IntKind.wrap .i64 (t+1)) a<m t g))else R (.I (-1)) g:=by
 subst l;refine⟨λi g=>Fr (λ_=>False) h g/\∃k:Nat,i=(k:Int)/\k<=xs.length/\∀j (H:j<xs.length),j<k->¬P xs[j]=true,λi _=>xs.length - i.toNat,⟨Fr.refl _ _,0,rfl,af,λj _ H=>af⟩,?_⟩;rintro _ g ⟨f,k,rfl,r,b⟩;by_cases c:k<xs.length
 .rw[fY];refine d k g xs[k] _ (ai c) f λG F=> ?_
  by_cases e:P xs[k]=true
  .rw[ag e];have:idxOf P xs=(k:Int):=by
    unfold idxOf;rw[show xs.findIdx? P=some k from cB.2 ⟨c,e,λj H=>b j af H⟩]
   rw[this]at hk;exact hk G F
  .rw[ae e,bA af af];refine⟨⟨F,k+1,af,af,λj H p=> ?_⟩,by show xs.length - Int.toNat ((k:Int)+1)<xs.length - Int.toNat (k:Int);omega⟩;by_cases q:j=k
   .subst q;exact e
   .exact b j H af
 .rw[ae (λq=>c (bX (aP q)))];have:idxOf P xs= -1:=by
   unfold idxOf;rw[show xs.findIdx? P=none from dk.2 λx o=> ?_];obtain⟨j,H,rfl⟩:=List.getElem_of_mem o;exact Bool.not_eq_true _▸b j H af
  rw[this]at hk;exact hk g f

end
section
variable {P : Program}
theorem LA{t elem:TypeId}{bytes:Nat}{z Z:Value}{h:aj}{K:fj}(T:nJ P t elem 1 bytes z)(A:z.cells= #[Z])(n:Nat)(C:n*bytes<=70368744177664)(D:n<=9223372036854775807)(hk: ∀h' p,fi h' p n n 1 (List.replicate n Z)->Fr (λ_=>False) h h'->(∀c,aL p c->h.size<=c)->K (.slice p n n) h'):
  aU P (Instr.makeSlice t (.I (n:Int)) (.I (n:Int))) h K:=by
 obtain⟨i,b,x,rfl,k⟩:=T.i;unfold Instr.makeSlice;refine bP (s:=underlying t) (bz T.u) ?_;refine bP (s:=asInt (.I (n:Int))) (a:=(n:Int)) rfl ?_;refine bP (s:=asInt (.I (n:Int))) (a:=(n:Int)) rfl ?_;refine bP (s:=typeInfo elem) (gO b) ?_;simp only[];rw[bA (n:=(n:Int)) af af];have u:(i.bytes:Int)*(n:Int)=((n*i.bytes:Nat):Int):=by rw[fS];simp
 have r:(decide ((n:Int)<0)||decide ((i.bytes:Int)*(n:Int)>2 ^ 48))=false:=by
  rw[u];have l: ¬(n:Int)<0:=af
  have o: ¬((n*i.bytes:Nat):Int)>2 ^ 48:=af
  rw[az l,az o];rfl
 have q:(((decide ((n:Int)<0)||decide ((i.bytes:Int)*(n:Int)>2 ^ 48))||decide ((n:Int)<0))||decide ((n:Int)>(n:Int)))=false:=by
  rw[r];simp
 rw[ae (by rw[q];simp)];have w: ∀(m:Nat)(K':Unit->aj->Prop),K' () h->aU P (askRoom m) h K':=λm K' g=>by
  unfold askRoom;split
  .exact g
  .exact g
 rw[dJ];refine w _ _ ?_;refine bP (s:=sizeOf elem) (gQ b) ?_;rw[aD,x,cv];have fin: ∀zs:Array Value,(n=0\/zs= #[Z])->aU P (newRow elem ((Array.range n).map (zs[· %zs.size]!))>>=λa=>pure (.slice (some a) n n)) h K:=by
  intro zs B;show K (.slice (Sa h.size 0) n n) (h.push (.cells ((Array.range n).map (zs[· %zs.size]!)) elem));refine hk _ _ (.row h.size 0 _ elem rfl bR (bk _) bO bO ?_) (Fr.push _ _) ?_
  .intro j v d;have f:j<n:=by have:=(aA.1 d).1;simpa using this
   have y:v=Z:=by
    rw[List.getElem?_replicate,ag f]at d;exact(bj d).symm
   subst y;rcases B with k|rfl
   .omega
   .rw[bC];simp[f,Nat.mod_one]
  .rintro c ⟨a,e,rfl⟩;cases e;exact bk _
 by_cases H:n=0
 .rw[ag H];exact fin #[] (.inl H)
 .rw[ae H];refine bP (s:=zeroValue elem) (iH b k) ?_;refine bP (s:=(pure z.cells:Sem (Array Value))) (a:=z.cells) rfl ?_;rw[A];exact fin #[Z] (.inr rfl)
end
end Go.Den
namespace Go.Proofs.YtlenamcfacpheaaGreatDoor
open Go.Den
open IntKind (wrap)
open Int (toNat)
section
namespace Cb
inductive Tr where
 |mk (k:Int) (n:Nat) (b:cH) (l:List Tr)
namespace Tr
def k:Tr->Int| .mk k _ _ _=>k
def n:Tr->Nat| .mk _ n _ _=>n
def b:Tr->cH| .mk _ _ b _=>b
def l:Tr->List Tr| .mk _ _ _ l=>l
end Tr
abbrev num(n:Nat):Tr:=.mk 0 n [] []
abbrev pn(b:cH):Tr:=.mk 2 0 b []
abbrev rC(l:List Tr):Tr:=.mk 4 0 [] l
def HV:Tr:=.mk 0 0 [] []
mutual
def nC:Tr->Tr->Bool
 | .mk k n b l,.mk k' n' b' l'=>decide (k=k') && decide (n=n') && decide (b=b') && rD l l'
def rD:List Tr->List Tr->Bool
 | [], []=>true
 |t::ts,u::us=>nC t u && rD ts us
 |_,_=>false
end
mutual
theorem N4: ∀(a b:Tr),nC a b=true↔a=b
 | .mk k n b l,.mk k' n' b' l'=>by
  simp only[nC,Bool.and_eq_true,decide_eq_true_eq,yA,Tr.mk.injEq,and_assoc]
theorem yA: ∀(a b:List Tr),rD a b=true↔a=b
 | [], []=>by simp[rD]
 |t::ts,u::us=>by simp only[rD,Bool.and_eq_true,N4 t u,yA ts us,List.cons.injEq]
 | [],u::us=>by simp[rD]
 |t::ts, []=>by simp[rD]
end
def LB(V:cH->Bool)(k:Int)(n:Nat)(b:cH)(l:List Tr):Bool:=
 if k=0 then b.isEmpty && l.isEmpty else if k=2 then decide (n=0) && l.isEmpty else if k=3 then decide (n=0) && l.isEmpty && V b else if k=4 then decide (n=0) && b.isEmpty else false
mutual
def mO (V:cH->Bool):Tr->Int->Int->Int
 | .mk k n b l,d,left=>if d>6\/left<1 then -1 else if LB V k n b l=true then me V l (d+1) (left - 1)else -1
def me (V:cH->Bool):List Tr->Int->Int->Int
 | [],_,left=>left
 |t::ts,d,left=>if mO V t d left<0 then -1 else me V ts d (mO V t d left)
end
mutual
theorem D1 {V:cH->Bool} : ∀ {t:Tr} {d left:Int},mO V t d left= -1\/0<=mO V t d left/\mO V t d left<left
 | .mk k n b l,d,left=>by
  unfold mO;split
  ·exact .inl rfl
  ·split
   ·rcases Bw (V:=V) (ts:=l) (d:=d+1) (left:=left - 1) af with h|h
    ·exact .inl h
    ·exact .inr af
   ·exact .inl rfl
theorem Bw {V:cH->Bool} : ∀ {ts:List Tr} {d left:Int},0<=left->me V ts d left= -1\/0<=me V ts d left/\me V ts d left<=left
 | [],d,left,hl=>by unfold me;exact .inr ⟨hl,Int.le_refl _⟩
 |t::ts,d,left,hl=>by
  unfold me;split
  ·exact .inl rfl
  ·rcases D1 (V:=V) (t:=t) (d:=d) (left:=left)with h1|h1
   ·omega
   ·rcases Bw (V:=V) (ts:=ts) (d:=d) (left:=mO V t d left) af with h|h
    ·exact .inl h
    ·exact .inr af
end
def gK(V:cH->Bool)(t:Tr):Bool:=decide (mO V t 1 256≥0)
def D2(n:Nat):Nat:=if n<24 then 0 else if n<256 then 1 else if n<65536 then 2 else if n<4294967296 then 4 else 8
def xf(n:Nat):Nat:=if n<24 then n else if n<256 then 24 else if n<65536 then 25 else if n<4294967296 then 26 else 27
def Po(k n:Nat):cH:=(List.range k).map λi=>UInt8.ofNat (n/2 ^ (8*(k - 1 - i)))
def LC(m:Int)(n:Nat):cH:=if 0<=m/\m<=7 then UInt8.ofNat (32*m.toNat+xf n)::Po (D2 n) n else []
theorem HW(n:Nat):D2 n<=8:=by unfold D2;repeat (first|omega|split)
theorem xS(k n:Nat):(Po k n).length=k:=by simp[Po]
theorem HX(m:Int)(n:Nat):(LC m n).length<=9:=by
 unfold LC;split
 .rw[aV,xS];have:=HW n;omega
 .simp
def Pp(l:cH):Nat:=l.foldl (λv b=>v*256+b.toNat) 0
theorem D3(l:cH)(b:UInt8):Pp (l++ [b])=Pp l*256+b.toNat:=by simp[Pp]
theorem LF(l:cH):Pp l<256 ^ l.length:=by
 suffices h: ∀(n:Nat)(l:cH),l.length=n->Pp l<256 ^ n from h _ l rfl
 intro n;induction n with
 |zero=>intro l H;rw[gm.1 H];simp[Pp]
 |succ n i=>
  intro l H;obtain⟨a,b,rfl⟩: ∃a b,l=a++ [b]:=⟨l.dropLast,l.getLast (by intro e;rw[e]at H;simp at H),(List.dropLast_concat_getLast _).symm⟩;rw[av]at H;have:=i a (cy H);rw[D3,Nat.pow_succ];have:=b.toNat_lt;omega
def qb(m:Nat):Bool:=decide (2<=m/\m<=5)||decide (m=7)
def Ds(bs:cH)(pos:Nat):Except Int (Nat×Nat×Bool×Nat):=
 match bs[pos]? with
 |none=> .error 8
 |some x=>
  if x.toNat%32<24 then .ok (x.toNat/32,x.toNat%32,false,pos+1)
  else if x.toNat%32=31/\qb (x.toNat/32)=true then .ok (x.toNat/32,0,true,pos+1)
  else if x.toNat%32>27 then .error 3
  else if pos+1+2 ^ (x.toNat%32 - 24)>bs.length then .error 8
  else .ok (x.toNat/32,Pp ((bs.drop (pos+1)).take (2 ^ (x.toNat%32 - 24))),false,pos+1+2 ^ (x.toNat%32 - 24))
theorem yB{bs:cH}{pos m n N:Nat}{o:Bool}(h:Ds bs pos=.ok (m,n,o,N)):pos<N/\N<=bs.length/\n<18446744073709551616/\m<8/\pos<bs.length:=by
 unfold Ds at h;split at h
 .cases h
 .rename_i x c;have b:=(aA.1 c).1;have:=x.toNat_lt;split at h
  .cases h;omega
  .split at h
   .cases h;omega
   .split at h
    .cases h
    .split at h
     .cases h
     .rename_i H d f g;cases h;have a:=LF ((bs.drop (pos+1)).take (2 ^ (x.toNat%32 - 24)));have:((bs.drop (pos+1)).take (2 ^ (x.toNat%32 - 24))).length<=8:=by
       rw[bE];have:x.toNat%32 - 24=0\/x.toNat%32 - 24=1\/x.toNat%32 - 24=2\/x.toNat%32 - 24=3:=af
       rcases this with e|e|e|e<;>rw[e]<;>omega
      have:=fH (n:=256) af this;have H:1<=2 ^ (x.toNat%32 - 24):=Nat.one_le_two_pow;refine⟨af,af,?_,af,b⟩
      calc _<_:=a
       _<=_:=this
       _=18446744073709551616:=dH
def mf(V:cH->Bool)(bs:cH)(pos m n:Nat):Except Int (cH):=
 if n<=bs.length - pos then(if m≠3\/V ((bs.drop pos).take n)=true then .ok ((bs.drop pos).take n)else .error 3)else .error 8
def tR(bs:cH)(pos:Nat):Bool:=match bs[pos]? with|some x=>decide (x.toNat=255)|none=>false
def D4(V:cH->Bool)(bs:cH)(m:Nat):Nat->Nat->cH->Except Int (cH×Nat)
 |0,_,_=> .error 8
 |k+1,pos,a=>if tR bs pos=true then .ok (a,pos+1)else match Ds bs pos with
  | .error e=> .error e
  | .ok (M,n,o,N)=>if M=m/\o=false then(match mf V bs N M n with| .error e=> .error e| .ok w=>D4 V bs m k (N+n) (a++w))else .error 3
def CC(V:cH->Bool)(bs:cH)(pos m n:Nat)(o:Bool):Except Int (cH×Nat):=
 match o with
 |true=>D4 V bs m (bs.length+1) pos []
 |false=>match mf V bs pos m n with| .error e=> .error e| .ok w=> .ok (w,pos+n)
abbrev RF:=Nat->Nat->Except Int (Tr×Nat×Nat)
def wT(bs:cH)(f:RF):Nat->Nat->Nat->List Tr->Except Int (List Tr×Nat×Nat)
 |0,_,_,_=> .error 8
 |k+1,pos,left,ts=>if tR bs pos=true then .ok (ts,pos+1,left)else match f pos left with
  | .error e=> .error e
  | .ok (t,n,lf)=>wT bs f k n lf (ts++ [t])
def tV(f:RF):Nat->Nat->Nat->List Tr->Except Int (List Tr×Nat×Nat)
 |0,pos,left,ts=> .ok (ts,pos,left)
 |k+1,pos,left,ts=>match f pos left with
  | .error e=> .error e
  | .ok (t,n,lf)=>tV f k n lf (ts++ [t])
def mP(bs:cH)(f:RF)(pos left n:Nat)(o:Bool):Except Int (List Tr×Nat×Nat):=
 match o with
 |true=>wT bs f (bs.length+1) pos left []
 |false=>if n<=bs.length - pos then tV f n pos left []else .error 8
def gP(V : cH -> Bool)(bs : cH): Nat -> RF
  | lv, pos, left => match Ds bs pos with
    | .error e => .error e
    | .ok (m, n, o, N) => if m = 0 \/ m = 2 \/ m = 3 \/ m = 4 then (match lv with
      | 0 => .error 9
      | lv + 1 => if left = 0 then .error 2 else if m = 0 then .ok (num n, N, left - 1)
        else if m = 4 then (match mP bs (gP V bs lv) N (left - 1) n o with | .error e => .error e | .ok (ts, p, lf) => .ok (rC ts, p, lf))
        else (match CC V bs N m n o with | .error e => .error e | .ok (w, p) => .ok (.mk m 0 w [], p, left - 1))) else .error 3
def oY(V:cH->Bool)(bs:cH):Except Int (Tr×Nat):=match gP V bs 6 0 256 with| .error e=> .error e| .ok (t,n,_)=> .ok (t,n)
mutual
def room:Tr->Nat
 | .mk _ _ b l=>9+b.length+dw l
def dw:List Tr->Nat
 | []=>0
 |t::ts=>room t+dw ts
end
-- VC deep an item is
mutual
def deep:Tr->Nat
 | .mk _ _ _ l=>1+HY l
def HY:List Tr->Nat
 | []=>0
 |t::ts=>max (deep t) (HY ts)
end
theorem hZ{a b:List Tr}:dw (a++b)=dw a+dw b:=by
 induction a with
 |nil=>simp[dw]
 |cons t a i=>simp only[dp,dw,i];omega
theorem qV{t:Tr}{l:List Tr}(h:t∈l):deep t<=HY l:=by
 induction l with
 |nil=>cases h
 |cons u l i=>
  simp only[HY];rcases bJ.1 h with rfl|h
  .omega
  .have:=i h;omega
def wQ(k:Int)(n:Nat)(b:cH)(l:List Tr):Nat:=if k=2\/k=3 then b.length else if k=4 then l.length else n
mutual
def enc:Tr->cH
 | .mk k n b l=>LC k (wQ k n b l)++b++xg l
def xg:List Tr->cH
 | []=> []
 |t::ts=>enc t++xg ts
end
mutual
theorem jH: ∀(t:Tr),(enc t).length<=room t
 | .mk k n b l=>by
  simp only[enc,room,List.length_append];have:=HX k (wQ k n b l);have:=yC l;omega
theorem yC: ∀(l:List Tr),(xg l).length<=dw l
 | []=>Nat.zero_le _
 |t::ts=>by
  simp only[xg,dw,List.length_append];have:=jH t;have:=yC ts;omega
end
theorem Ju(l:List Tr)(t:Tr):xg (l++ [t])=xg l++enc t:=by
 induction l with
 |nil=>simp[xg]
 |cons u l i=>simp only[dp,xg,i,du]
theorem N7{V:cH->Bool}{bs:cH}{m:Nat}: ∀(k pos:Nat)(a w:cH)(n:Nat),pos<=bs.length->D4 V bs m k pos a=.ok (w,n)->w.length+pos<=a.length+n/\pos<n/\n<=bs.length:=by
 intro k;induction k with
 |zero=>intro pos a w n _ h;cases h
 |succ k i=>
  intro pos a w n f h;unfold D4 at h;split at h
  .rename_i b;cases h;unfold tR at b;split at b
   .rename_i x d;have:=(aA.1 d).1;omega
   .cases b
  .split at h
   .cases h
   .rename_i M N o g c;have e:=yB c;split at h
    .split at h
     .cases h
     .rename_i v H;unfold mf at H;split at H
      .split at H
       .cases H;have:=i _ _ _ _ af h;rw[av,bE,bQ]at this;omega
       .cases H
      .cases H
    .cases h
def P3(bs:cH)(f:RF):Prop:= ∀pos left t n lf,pos<=bs.length->f pos left=.ok (t,n,lf)->room t<=10*(n - pos)/\pos<n/\n<=bs.length/\lf<=left
theorem LG{bs:cH}{f:RF}(b:P3 bs f): ∀(k pos left:Nat)(ts u:List Tr)(n lf:Nat),pos<=bs.length->wT bs f k pos left ts=.ok (u,n,lf)->dw u+10*pos<=dw ts+10*n/\pos<=n/\n<=bs.length/\lf<=left:=by
 intro k;induction k with
 |zero=>intro pos left ts u n lf _ h;cases h
 |succ k i=>
  intro pos left ts u n lf d h;unfold wT at h;split at h
  .rename_i H;cases h;unfold tR at H;split at H
   .rename_i x e;have:=(aA.1 e).1;omega
   .cases H
  .split at h
   .cases h
   .rename_i t N l c;have g:=b _ _ _ _ _ d c;have a:=i _ _ _ _ _ _ af h;rw[hZ]at a;simp only[dw]at a;omega
theorem LH{bs:cH}{f:RF}(a:P3 bs f): ∀(k pos left:Nat)(ts u:List Tr)(n lf:Nat),pos<=bs.length->tV f k pos left ts=.ok (u,n,lf)->dw u+10*pos<=dw ts+10*n/\pos<=n/\n<=bs.length/\lf<=left:=by
 intro k;induction k with
 |zero=>intro pos left ts u n lf _ h;cases h;omega
 |succ k i=>
  intro pos left ts u n lf c h;unfold tV at h;split at h
  .cases h
  .rename_i t N l b;have d:=a _ _ _ _ _ c b;have H:=i _ _ _ _ _ _ af h;rw[hZ]at H;simp only[dw]at H;omega
theorem D5{V:cH->Bool}{bs:cH}: ∀l,P3 bs (gP V bs l):=by
 intro l;induction l with
 |zero=>
  intro pos left t N lf e h;unfold gP at h;split at h
  .cases h
  .split at h<;>cases h
 |succ l i=>
  intro pos left t N lf e h;unfold gP at h;split at h
  .cases h
  .rename_i m n o c d;have f:=yB d;split at h
   .dsimp only at h;split at h
    .cases h
    .split at h
     .cases h;simp only[room,dw,bm];omega
     .split at h
      .split at h
       .cases h
       .rename_i ts p L H;cases h;have:dw ts+10*c<=10*N/\c<=N/\N<=bs.length/\lf<=left - 1:=by
         unfold mP at H;split at H
         .have:=LG i _ _ _ _ _ _ _ af H;simpa[dw]using this
         .split at H
          .have:=LH i _ _ _ _ _ _ _ af H;simpa[dw]using this
          .cases H
        simp only[room,bm];omega
      .split at h
       .cases h
       .rename_i w p a;cases h;have:w.length+c<=N/\c<=N/\N<=bs.length:=by
         unfold CC at a;split at a
         .have:=N7 _ _ _ _ _ af a;simp only[bm]at this;omega
         .split at a
          .cases a
          .rename_i v b;cases a;unfold mf at b;split at b
           .split at b
            .cases b;rw[bE,bQ];omega
            .cases b
           .cases b
        simp only[room,dw];omega
   .cases h
theorem CD{bs:cH}{pos:Nat}{e:Int}(h:Ds bs pos=.error e):e≠0:=by
 unfold Ds at h;repeat (first|decide|cases h|split at h)
theorem yD{V:cH->Bool}{bs:cH}{pos m n:Nat}{e:Int}(h:mf V bs pos m n=.error e):e≠0:=by
 unfold mf at h;repeat (first|decide|cases h|split at h)
theorem LI{V:cH->Bool}{bs:cH}{m:Nat}{e:Int}: ∀(k pos:Nat)(a:cH),D4 V bs m k pos a=.error e->e≠0:=by
 intro k;induction k with
 |zero=>intro pos a h;cases h;decide
 |succ k i=>
  intro pos a h;unfold D4 at h;split at h
  .cases h
  .split at h
   .rename_i H;cases h;exact CD H
   .split at h
    .split at h
     .rename_i H;cases h;exact yD H
     .exact i _ _ h
    .cases h;decide
def Ud(f:RF):Prop:= ∀pos left e,f pos left=.error e->e≠0
theorem Jv{bs:cH}{f:RF}(a:Ud f){pos left n:Nat}{o:Bool}{e:Int}(h:mP bs f pos left n o=.error e):e≠0:=by
 have op: ∀(k pos left:Nat)(ts:List Tr),wT bs f k pos left ts=.error e->e≠0:=by
  intro k;induction k with
  |zero=>intro pos left ts h;cases h;decide
  |succ k i=>
   intro pos left ts h;unfold wT at h;split at h
   .cases h
   .split at h
    .rename_i H;cases h;exact a _ _ _ H
    .exact i _ _ _ h
 have m: ∀(k pos left:Nat)(ts:List Tr),tV f k pos left ts=.error e->e≠0:=by
  intro k;induction k with
  |zero=>intro pos left ts h;cases h
  |succ k i=>
   intro pos left ts h;unfold tV at h;split at h
   .rename_i H;cases h;exact a _ _ _ H
   .exact i _ _ _ h
 unfold mP at h;split at h
 .exact op _ _ _ _ h
 .split at h
  .exact m _ _ _ _ h
  .cases h;decide
theorem Jw{V:cH->Bool}{bs:cH}: ∀l,Ud (gP V bs l):=by
 intro l;induction l with
 |zero=>
  intro pos left e h;unfold gP at h;split at h
  .rename_i H;cases h;exact CD H
  .split at h<;>(cases h;decide)
 |succ l i=>
  intro pos left e h;unfold gP at h;split at h
  .rename_i H;cases h;exact CD H
  .split at h
   .dsimp only at h;split at h
    .cases h;decide
    .split at h
     .cases h
     .split at h
      .split at h
       .rename_i H;cases h;exact Jv i H
       .cases h
      .split at h
       .rename_i H;cases h;unfold CC at H;split at H
        .exact LI _ _ _ H
        .split at H
         .rename_i a;cases H;exact yD a
         .cases H
       .cases h
   .cases h;decide
theorem qW{V:cH->Bool}{bs:cH}{e:Int}(h:oY V bs=.error e):e≠0:=by
 unfold oY at h;split at h
 .rename_i H;cases h;exact Jw 6 _ _ _ H
 .cases h
theorem yE{V:cH->Bool}{bs:cH}{t:Tr}{n:Nat}(h:oY V bs=.ok (t,n)):room t<=10*bs.length/\n<=bs.length:=by
 unfold oY at h;split at h
 .cases h
 .rename_i t N lf H;cases h;have:=D5 6 _ _ _ _ _ (bL _) H;omega
end Cb
end
abbrev Cl:=lV Tryz.prog
abbrev Ce:=hN Tryz.prog
abbrev Gc:List Nat:= [243,281,282,283,284,311]
abbrev gj.LD(h:aj)(a:Addr)(K:Int->Int->Int->Int->Int->Int->Prop):Prop:=jV h a λt0=>jV h (a.add 1) λt1=>jV h (a.add 2) λt2=>jV h (a.add 3) λt3=>jV h (a.add 4) λt4=> ∃t5,aX h (a.add 5)=some (.int .i64 t5)/\K t0 t1 t2 t3 t4 t5
abbrev gj.ST(h:aj)(a:Addr)(f0:Int)(f1:Int)(f2:Int)(f3:Int)(f4:Int)(f5:Int)(K:aj->Prop):Prop:=aO h a (.int .i64 f0) λH=>aO H (a.add 1) (.int .i64 f1) λb=>aO b (a.add 2) (.int .i64 f2) λc=>aO c (a.add 3) (.int .i64 f3) λd=>aO d (a.add 4) (.int .i64 f4) λe=>aO e (a.add 5) (.int .i64 f5) λf=>K f
abbrev aa.LD(h:aj)(a:Addr)(K:Int->Int->cg->Nat->Nat->cg->Nat->Nat->Prop):Prop:=jV h a λt0=>gT h (a.add 1) λt1=>te h (a.add 2) λe d c=> ∃b T t,aX h (a.add 3)=some (.slice b T t)/\K t0 t1 e d c b T t
abbrev aa.ST(h:aj)(a:Addr)(f0:Int)(f1:Int)(om:cg)(nP oq:Nat)(vt:cg)(pq tf:Nat)(K:aj->Prop):Prop:=aO h a (.int .i64 f0) λH=>aO H (a.add 1) (.int .u64 f1) λb=>aO b (a.add 2) (.slice om nP oq) λc=>aO c (a.add 3) (.slice vt pq tf) λd=>K d
abbrev aK.LD(h:aj)(a:Addr)(K:Int->Bool->Int->Int->ByteArray->ByteArray->cg->Nat->Nat->Int->Int->Int->Prop):Prop:=jV h a λt0=>ym h (a.add 1) λt1=>gT h (a.add 2) λt2=>gT h (a.add 3) λt3=>qQ h (a.add 4) λt4=>qQ h (a.add 5) λt5=>te h (a.add 6) λb T t=>gT h (a.add 7) λt7=>jV h (a.add 8) λt8=> ∃t9,aX h (a.add 9)=some (.int .u64 t9)/\K t0 t1 t2 t3 t4 t5 b T t t7 t8 t9
abbrev aK.ST(h:aj)(a:Addr)(f0:Int)(f1:Bool)(f2:Int)(f3:Int)(f4:ByteArray)(f5:ByteArray)(Dt:cg)(Du Dv:Nat)(f7:Int)(f8:Int)(f9:Int)(K:aj->Prop):Prop:=aO h a (.int .i64 f0) λH=>aO H (a.add 1) (.bool f1) λc=>aO c (a.add 2) (.int .u64 f2) λd=>aO d (a.add 3) (.int .u64 f3) λe=>aO e (a.add 4) (.string f4) λf=>aO f (a.add 5) (.string f5) λg=>aO g (a.add 6) (.slice Dt Du Dv) λi=>aO i (a.add 7) (.int .u64 f7) λj=>aO j (a.add 8) (.int .i64 f8) λk=>aO k (a.add 9) (.int .u64 f9) λb=>K b
abbrev aw.LD(h:aj)(a:Addr)(K:Bool->Int->Int->ByteArray->ByteArray->Prop):Prop:=ym h a λt0=>gT h (a.add 1) λt1=>gT h (a.add 2) λt2=>qQ h (a.add 3) λt3=> ∃t4,aX h (a.add 4)=some (.string t4)/\K t0 t1 t2 t3 t4
abbrev bt.LD(h:aj)(a:Addr)(K:Int->Int->Bool->Prop):Prop:=jV h a λt0=>gT h (a.add 1) λt1=> ∃t2,aX h (a.add 2)=some (.bool t2)/\K t0 t1 t2
abbrev bt.ST(h:aj)(a:Addr)(f0:Int)(f1:Int)(f2:Bool)(K:aj->Prop):Prop:=aO h a (.int .i64 f0) λH=>aO H (a.add 1) (.int .u64 f1) λb=>aO b (a.add 2) (.bool f2) λc=>K c
abbrev ah.LD(h:aj)(a:Addr)(K:Bool->Int->Int->ByteArray->ByteArray->Int->Int->Prop):Prop:=ym h a λt0=>gT h (a.add 1) λt1=>gT h (a.add 2) λt2=>qQ h (a.add 3) λt3=>qQ h (a.add 4) λt4=>gT h (a.add 5) λt5=> ∃t6,aX h (a.add 6)=some (.int .u64 t6)/\K t0 t1 t2 t3 t4 t5 t6
abbrev ah.ST(h:aj)(a:Addr)(f0:Bool)(f1:Int)(f2:Int)(f3:ByteArray)(f4:ByteArray)(f5:Int)(f6:Int)(K:aj->Prop):Prop:=aO h a (.bool f0) λH=>aO H (a.add 1) (.int .u64 f1) λb=>aO b (a.add 2) (.int .u64 f2) λc=>aO c (a.add 3) (.string f3) λd=>aO d (a.add 4) (.string f4) λe=>aO e (a.add 5) (.int .u64 f5) λf=>aO f (a.add 6) (.int .u64 f6) λg=>K g
abbrev aS.LD(h:aj)(a:Addr)(K:Int->Int->cg->Nat->Nat->Int->Prop):Prop:=jV h a λt0=>jV h (a.add 1) λt1=>te h (a.add 2) λb T t=> ∃t3,aX h (a.add 3)=some (.int .u64 t3)/\K t0 t1 b T t t3
abbrev aS.ST(h:aj)(a:Addr)(f0:Int)(f1:Int)(om:cg)(nP oq:Nat)(f3:Int)(K:aj->Prop):Prop:=aO h a (.int .i64 f0) λH=>aO H (a.add 1) (.int .i64 f1) λb=>aO b (a.add 2) (.slice om nP oq) λc=>aO c (a.add 3) (.int .u64 f3) λd=>K d
abbrev bp.LD(h:aj)(a:Addr)(K:Bool->Int->Int->ByteArray->ByteArray->Int->Int->Prop):Prop:=ym h a λt0=>gT h (a.add 1) λt1=>gT h (a.add 2) λt2=>qQ h (a.add 3) λt3=>qQ h (a.add 4) λt4=>jV h (a.add 5) λt5=> ∃t6,aX h (a.add 6)=some (.int .i64 t6)/\K t0 t1 t2 t3 t4 t5 t6
abbrev bp.ST(h:aj)(a:Addr)(f0:Bool)(f1:Int)(f2:Int)(f3:ByteArray)(f4:ByteArray)(f5:Int)(f6:Int)(K:aj->Prop):Prop:=aO h a (.bool f0) λH=>aO H (a.add 1) (.int .u64 f1) λb=>aO b (a.add 2) (.int .u64 f2) λc=>aO c (a.add 3) (.string f3) λd=>aO d (a.add 4) (.string f4) λe=>aO e (a.add 5) (.int .i64 f5) λf=>aO f (a.add 6) (.int .i64 f6) λg=>K g
abbrev ar.LD(h:aj)(a:Addr)(K:Int->Int->Int->Int->Int->cg->Nat->Nat->Prop):Prop:=gT h a λt0=>jV h (a.add 1) λt1=>jV h (a.add 2) λt2=>jV h (a.add 3) λt3=>gT h (a.add 4) λt4=> ∃b T t,aX h (a.add 5)=some (.slice b T t)/\K t0 t1 t2 t3 t4 b T t
abbrev ar.ST(h:aj)(a:Addr)(f0:Int)(f1:Int)(f2:Int)(f3:Int)(f4:Int)(yF:cg)(f5l yG:Nat)(K:aj->Prop):Prop:=aO h a (.int .u64 f0) λH=>aO H (a.add 1) (.int .i64 f1) λb=>aO b (a.add 2) (.int .i64 f2) λc=>aO c (a.add 3) (.int .i64 f3) λd=>aO d (a.add 4) (.int .u64 f4) λe=>aO e (a.add 5) (.slice yF f5l yG) λf=>K f
abbrev cz.LD(h:aj)(a:Addr)(K:Int->cg->Nat->Nat->Prop):Prop:=gT h a λt0=> ∃b T t,aX h (a.add 1)=some (.slice b T t)/\K t0 b T t
abbrev cz.ST(h:aj)(a:Addr)(f0:Int)(b:cg)(F f:Nat)(K:aj->Prop):Prop:=aO h a (.int .u64 f0) λH=>aO H (a.add 1) (.slice b F f) λc=>K c
structure fa.S where
 f0:Int
 f1:Int
 f2:Bool
 f3:Int
 f4:Int
 f5:ByteArray
 f6:ByteArray
 f7:Bool
 f8:Int
 f9:Int
 f10:ByteArray
 f11:ByteArray
 f12:Bool
 f13:Int
 f14:Int
 f15:ByteArray
 f16:ByteArray
 f17:Int
 f18:Int
 f19:Int
 P4:cg
 LJ:Nat
 P5:Nat
 f21:cg
 SF:cg
 SG:Nat
 SH:Nat
abbrev fa.S.l(x:fa.S):List Value:= [.int .u64 x.f0,.int .i64 x.f1,.bool x.f2,.int .u64 x.f3,.int .u64 x.f4,.string x.f5,.string x.f6,.bool x.f7,.int .u64 x.f8,.int .u64 x.f9,.string x.f10,.string x.f11,.bool x.f12,.int .u64 x.f13,.int .u64 x.f14,.string x.f15,.string x.f16,.int .u64 x.f17,.int .u64 x.f18,.int .u64 x.f19,.slice x.P4 x.LJ x.P5,.pointer x.f21,.slice x.SF x.SG x.SH]
abbrev fa.S.arr(x:fa.S):Array Value:=x.l.toArray
abbrev fa.S.agg(x:fa.S):Value:=.agg x.arr
abbrev fa.S.z:fa.S:=⟨0,0,false,0,0,(⟨#[]⟩:ByteArray),(⟨#[]⟩:ByteArray),false,0,0,(⟨#[]⟩:ByteArray),(⟨#[]⟩:ByteArray),false,0,0,(⟨#[]⟩:ByteArray),(⟨#[]⟩:ByteArray),0,0,0,none,0,0,none,none,0,0⟩
abbrev fa.EX(K:fa.S->Prop):Prop:= ∃t0 t1 t2 t3 t4 t5 t6 t7 t8 t9 t10 t11 t12 t13 t14 t15 t16 t17 t18 t19 a T t t21 d c b,K ⟨t0,t1,t2,t3,t4,t5,t6,t7,t8,t9,t10,t11,t12,t13,t14,t15,t16,t17,t18,t19,a,T,t,t21,d,c,b⟩
structure bY.S where
 f0:Int
 f1:Int
 f2:Bool
 f3:Int
 f4:Int
 f5:ByteArray
 f6:ByteArray
 f7:Bool
 f8:Int
 f9:Int
 f10:ByteArray
 f11:ByteArray
 f12:Int
 f13:Int
 f14:Int
 N8:cg
 LK:Nat
 N9:Nat
 f16:Int
 f17:Int
 f18:Bool
 f19:cg
 f20:Int
abbrev bY.S.l(x:bY.S):List Value:= [.int .u64 x.f0,.int .i64 x.f1,.bool x.f2,.int .u64 x.f3,.int .u64 x.f4,.string x.f5,.string x.f6,.bool x.f7,.int .u64 x.f8,.int .u64 x.f9,.string x.f10,.string x.f11,.int .i64 x.f12,.int .i64 x.f13,.int .i64 x.f14,.slice x.N8 x.LK x.N9,.int .u64 x.f16,.int .u64 x.f17,.bool x.f18,.pointer x.f19,.int .i64 x.f20]
abbrev bY.S.arr(x:bY.S):Array Value:=x.l.toArray
abbrev bY.S.agg(x:bY.S):Value:=.agg x.arr
abbrev bY.S.z:bY.S:=⟨0,0,false,0,0,(⟨#[]⟩:ByteArray),(⟨#[]⟩:ByteArray),false,0,0,(⟨#[]⟩:ByteArray),(⟨#[]⟩:ByteArray),0,0,0,none,0,0,0,0,false,none,0⟩
abbrev bY.EX(K:bY.S->Prop):Prop:= ∃t0 t1 t2 t3 t4 t5 t6 t7 t8 t9 t10 t11 t12 t13 t14 a T t t16 t17 t18 t19 t20,K ⟨t0,t1,t2,t3,t4,t5,t6,t7,t8,t9,t10,t11,t12,t13,t14,a,T,t,t16,t17,t18,t19,t20⟩
abbrev bY.cO(h:aj)(a:Addr)(K:bY.S->Prop):Prop:=gT h a λt0=>jV h (a.add 1) λt1=>ym h (a.add 2) λt2=>gT h (a.add 3) λt3=>gT h (a.add 4) λt4=>qQ h (a.add 5) λt5=>qQ h (a.add 6) λt6=>ym h (a.add 7) λt7=>gT h (a.add 8) λt8=>gT h (a.add 9) λt9=>qQ h (a.add 10) λt10=>qQ h (a.add 11) λt11=>jV h (a.add 12) λt12=>jV h (a.add 13) λt13=>jV h (a.add 14) λt14=>te h (a.add 15) λb T t=>gT h (a.add 16) λt16=>gT h (a.add 17) λt17=>ym h (a.add 18) λt18=>vj h (a.add 19) λt19=> ∃t20,aX h (a.add 20)=some (.int .i64 t20)/\K ⟨t0,t1,t2,t3,t4,t5,t6,t7,t8,t9,t10,t11,t12,t13,t14,b,T,t,t16,t17,t18,t19,t20⟩
structure ax.S where
 f0:Int
 f1:Int
 f2:Bool
 f3:Int
 f4:Int
 f5:ByteArray
 f6:ByteArray
 f7:Bool
 f8:Int
 f9:Int
 f10:ByteArray
 f11:ByteArray
 f12:Bool
 f13:Int
 f14:Int
 f15:ByteArray
 f16:ByteArray
 f17:Int
 f18:Int
 f19:Int
 P4:cg
 LJ:Nat
 P5:Nat
abbrev ax.S.l(x:ax.S):List Value:= [.int .u64 x.f0,.int .i64 x.f1,.bool x.f2,.int .u64 x.f3,.int .u64 x.f4,.string x.f5,.string x.f6,.bool x.f7,.int .u64 x.f8,.int .u64 x.f9,.string x.f10,.string x.f11,.bool x.f12,.int .u64 x.f13,.int .u64 x.f14,.string x.f15,.string x.f16,.int .u64 x.f17,.int .u64 x.f18,.int .u64 x.f19,.slice x.P4 x.LJ x.P5]
abbrev ax.S.arr(x:ax.S):Array Value:=x.l.toArray
abbrev ax.S.agg(x:ax.S):Value:=.agg x.arr
abbrev ax.S.z:ax.S:=⟨0,0,false,0,0,(⟨#[]⟩:ByteArray),(⟨#[]⟩:ByteArray),false,0,0,(⟨#[]⟩:ByteArray),(⟨#[]⟩:ByteArray),false,0,0,(⟨#[]⟩:ByteArray),(⟨#[]⟩:ByteArray),0,0,0,none,0,0⟩
abbrev ax.EX(K:ax.S->Prop):Prop:= ∃t0 t1 t2 t3 t4 t5 t6 t7 t8 t9 t10 t11 t12 t13 t14 t15 t16 t17 t18 t19 a T t,K ⟨t0,t1,t2,t3,t4,t5,t6,t7,t8,t9,t10,t11,t12,t13,t14,t15,t16,t17,t18,t19,a,T,t⟩
abbrev ax.cO(h:aj)(a:Addr)(K:ax.S->Prop):Prop:=gT h a λt0=>jV h (a.add 1) λt1=>ym h (a.add 2) λt2=>gT h (a.add 3) λt3=>gT h (a.add 4) λt4=>qQ h (a.add 5) λt5=>qQ h (a.add 6) λt6=>ym h (a.add 7) λt7=>gT h (a.add 8) λt8=>gT h (a.add 9) λt9=>qQ h (a.add 10) λt10=>qQ h (a.add 11) λt11=>ym h (a.add 12) λt12=>gT h (a.add 13) λt13=>gT h (a.add 14) λt14=>qQ h (a.add 15) λt15=>qQ h (a.add 16) λt16=>gT h (a.add 17) λt17=>gT h (a.add 18) λt18=>gT h (a.add 19) λt19=> ∃b T t,aX h (a.add 20)=some (.slice b T t)/\K ⟨t0,t1,t2,t3,t4,t5,t6,t7,t8,t9,t10,t11,t12,t13,t14,t15,t16,t17,t18,t19,b,T,t⟩
abbrev ax.dv(h:aj)(a:Addr)(x:ax.S)(K:aj->Prop):Prop:=dU a x.l 0 h K
structure aH.S where
 f0:Int
 f1:Int
 f2:Int
 f3:Int
 QU:cg
 QV:Nat
 QW:Nat
abbrev aH.S.l(x:aH.S):List Value:= [.int .u64 x.f0,.int .u64 x.f1,.int .u64 x.f2,.int .i64 x.f3,.slice x.QU x.QV x.QW]
abbrev aH.S.arr(x:aH.S):Array Value:=x.l.toArray
abbrev aH.S.agg(x:aH.S):Value:=.agg x.arr
abbrev aH.S.z:aH.S:=⟨0,0,0,0,none,0,0⟩
abbrev aH.EX(K:aH.S->Prop):Prop:= ∃t0 t1 t2 t3 a T t,K ⟨t0,t1,t2,t3,a,T,t⟩
abbrev aH.cO(h:aj)(a:Addr)(K:aH.S->Prop):Prop:=gT h a λt0=>gT h (a.add 1) λt1=>gT h (a.add 2) λt2=>jV h (a.add 3) λt3=> ∃b T t,aX h (a.add 4)=some (.slice b T t)/\K ⟨t0,t1,t2,t3,b,T,t⟩
abbrev aH.dv(h:aj)(a:Addr)(x:aH.S)(K:aj->Prop):Prop:=dU a x.l 0 h K
structure aa.S where
 f0:Int
 f1:Int
 om:cg
 nP:Nat
 oq:Nat
 vt:cg
 pq:Nat
 tf:Nat
abbrev aa.S.l(x:aa.S):List Value:= [.int .i64 x.f0,.int .u64 x.f1,.slice x.om x.nP x.oq,.slice x.vt x.pq x.tf]
abbrev aa.S.arr(x:aa.S):Array Value:=x.l.toArray
abbrev aa.S.agg(x:aa.S):Value:=.agg x.arr
abbrev aa.S.z:aa.S:=⟨0,0,none,0,0,none,0,0⟩
abbrev aa.EX(K:aa.S->Prop):Prop:= ∃t0 t1 a T t d c b,K ⟨t0,t1,a,T,t,d,c,b⟩
abbrev aa.cO(h:aj)(a:Addr)(K:aa.S->Prop):Prop:=jV h a λt0=>gT h (a.add 1) λt1=>te h (a.add 2) λe d c=> ∃b T t,aX h (a.add 3)=some (.slice b T t)/\K ⟨t0,t1,e,d,c,b,T,t⟩
abbrev aa.dv(h:aj)(a:Addr)(x:aa.S)(K:aj->Prop):Prop:=dU a x.l 0 h K
structure aK.S where
 f0:Int
 f1:Bool
 f2:Int
 f3:Int
 f4:ByteArray
 f5:ByteArray
 Dt:cg
 Du:Nat
 Dv:Nat
 f7:Int
 f8:Int
 f9:Int
abbrev aK.S.l(x:aK.S):List Value:= [.int .i64 x.f0,.bool x.f1,.int .u64 x.f2,.int .u64 x.f3,.string x.f4,.string x.f5,.slice x.Dt x.Du x.Dv,.int .u64 x.f7,.int .i64 x.f8,.int .u64 x.f9]
abbrev aK.S.arr(x:aK.S):Array Value:=x.l.toArray
abbrev aK.S.agg(x:aK.S):Value:=.agg x.arr
abbrev aK.S.z:aK.S:=⟨0,false,0,0,(⟨#[]⟩:ByteArray),(⟨#[]⟩:ByteArray),none,0,0,0,0,0⟩
abbrev aK.EX(K:aK.S->Prop):Prop:= ∃t0 t1 t2 t3 t4 t5 a T t t7 t8 t9,K ⟨t0,t1,t2,t3,t4,t5,a,T,t,t7,t8,t9⟩
abbrev aK.cO(h:aj)(a:Addr)(K:aK.S->Prop):Prop:=jV h a λt0=>ym h (a.add 1) λt1=>gT h (a.add 2) λt2=>gT h (a.add 3) λt3=>qQ h (a.add 4) λt4=>qQ h (a.add 5) λt5=>te h (a.add 6) λb T t=>gT h (a.add 7) λt7=>jV h (a.add 8) λt8=> ∃t9,aX h (a.add 9)=some (.int .u64 t9)/\K ⟨t0,t1,t2,t3,t4,t5,b,T,t,t7,t8,t9⟩
abbrev aK.dv(h:aj)(a:Addr)(x:aK.S)(K:aj->Prop):Prop:=dU a x.l 0 h K
structure aw.S where
 f0:Bool
 f1:Int
 f2:Int
 f3:ByteArray
 f4:ByteArray
abbrev aw.S.l(x:aw.S):List Value:= [.bool x.f0,.int .u64 x.f1,.int .u64 x.f2,.string x.f3,.string x.f4]
abbrev aw.S.arr(x:aw.S):Array Value:=x.l.toArray
abbrev aw.S.agg(x:aw.S):Value:=.agg x.arr
abbrev aw.S.z:aw.S:=⟨false,0,0,(⟨#[]⟩:ByteArray),(⟨#[]⟩:ByteArray)⟩
abbrev aw.EX(K:aw.S->Prop):Prop:= ∃t0 t1 t2 t3 t4,K ⟨t0,t1,t2,t3,t4⟩
abbrev aw.cO(h:aj)(a:Addr)(K:aw.S->Prop):Prop:=ym h a λt0=>gT h (a.add 1) λt1=>gT h (a.add 2) λt2=>qQ h (a.add 3) λt3=> ∃t4,aX h (a.add 4)=some (.string t4)/\K ⟨t0,t1,t2,t3,t4⟩
abbrev aw.dv(h:aj)(a:Addr)(x:aw.S)(K:aj->Prop):Prop:=dU a x.l 0 h K
structure fP.S where
 f0:Int
 f1:Int
 f2:Int
 f3:Int
 f4:Int
 f5:Int
 f6:Bool
 f7:Int
 f8:Int
 f9:ByteArray
 f10:ByteArray
 f11:Bool
 f12:Int
 f13:Int
 f14:ByteArray
 f15:ByteArray
 f16:Int
 f17:Int
 f18:Int
 SI:cg
 SJ:Nat
 SK:Nat
 f20:Int
 f21:Int
 f22:Bool
 SL:cg
 SM:Nat
 SN:Nat
abbrev fP.S.l(x:fP.S):List Value:= [.int .u64 x.f0,.int .i64 x.f1,.int .u64 x.f2,.int .i64 x.f3,.int .u64 x.f4,.int .i64 x.f5,.bool x.f6,.int .u64 x.f7,.int .u64 x.f8,.string x.f9,.string x.f10,.bool x.f11,.int .u64 x.f12,.int .u64 x.f13,.string x.f14,.string x.f15,.int .i64 x.f16,.int .i64 x.f17,.int .i64 x.f18,.slice x.SI x.SJ x.SK,.int .u64 x.f20,.int .u64 x.f21,.bool x.f22,.slice x.SL x.SM x.SN]
abbrev fP.S.arr(x:fP.S):Array Value:=x.l.toArray
abbrev fP.S.agg(x:fP.S):Value:=.agg x.arr
abbrev fP.S.z:fP.S:=⟨0,0,0,0,0,0,false,0,0,(⟨#[]⟩:ByteArray),(⟨#[]⟩:ByteArray),false,0,0,(⟨#[]⟩:ByteArray),(⟨#[]⟩:ByteArray),0,0,0,none,0,0,0,0,false,none,0,0⟩
abbrev fP.EX(K:fP.S->Prop):Prop:= ∃t0 t1 t2 t3 t4 t5 t6 t7 t8 t9 t10 t11 t12 t13 t14 t15 t16 t17 t18 a T t t20 t21 t22 d c b,K ⟨t0,t1,t2,t3,t4,t5,t6,t7,t8,t9,t10,t11,t12,t13,t14,t15,t16,t17,t18,a,T,t,t20,t21,t22,d,c,b⟩
structure ah.S where
 f0:Bool
 f1:Int
 f2:Int
 f3:ByteArray
 f4:ByteArray
 f5:Int
 f6:Int
abbrev ah.S.l(x:ah.S):List Value:= [.bool x.f0,.int .u64 x.f1,.int .u64 x.f2,.string x.f3,.string x.f4,.int .u64 x.f5,.int .u64 x.f6]
abbrev ah.S.arr(x:ah.S):Array Value:=x.l.toArray
abbrev ah.S.agg(x:ah.S):Value:=.agg x.arr
abbrev ah.S.z:ah.S:=⟨false,0,0,(⟨#[]⟩:ByteArray),(⟨#[]⟩:ByteArray),0,0⟩
abbrev ah.EX(K:ah.S->Prop):Prop:= ∃t0 t1 t2 t3 t4 t5 t6,K ⟨t0,t1,t2,t3,t4,t5,t6⟩
abbrev ah.cO(h:aj)(a:Addr)(K:ah.S->Prop):Prop:=ym h a λt0=>gT h (a.add 1) λt1=>gT h (a.add 2) λt2=>qQ h (a.add 3) λt3=>qQ h (a.add 4) λt4=>gT h (a.add 5) λt5=> ∃t6,aX h (a.add 6)=some (.int .u64 t6)/\K ⟨t0,t1,t2,t3,t4,t5,t6⟩
abbrev ah.dv(h:aj)(a:Addr)(x:ah.S)(K:aj->Prop):Prop:=dU a x.l 0 h K
structure aS.S where
 f0:Int
 f1:Int
 om:cg
 nP:Nat
 oq:Nat
 f3:Int
abbrev aS.S.l(x:aS.S):List Value:= [.int .i64 x.f0,.int .i64 x.f1,.slice x.om x.nP x.oq,.int .u64 x.f3]
abbrev aS.S.arr(x:aS.S):Array Value:=x.l.toArray
abbrev aS.S.agg(x:aS.S):Value:=.agg x.arr
abbrev aS.S.z:aS.S:=⟨0,0,none,0,0,0⟩
abbrev aS.EX(K:aS.S->Prop):Prop:= ∃t0 t1 a T t t3,K ⟨t0,t1,a,T,t,t3⟩
structure aB.S where
 f0:Int
 f1:Int
 f2:Bool
 f3:Int
 f4:Int
 f5:ByteArray
 f6:ByteArray
 f7:Bool
 f8:Int
 f9:Int
 f10:ByteArray
 f11:ByteArray
 f12:Bool
 f13:Int
 f14:Int
 f15:ByteArray
 f16:ByteArray
 f17:Int
 f18:Int
 f19:Int
abbrev aB.S.l(x:aB.S):List Value:= [.int .u64 x.f0,.int .i64 x.f1,.bool x.f2,.int .u64 x.f3,.int .u64 x.f4,.string x.f5,.string x.f6,.bool x.f7,.int .u64 x.f8,.int .u64 x.f9,.string x.f10,.string x.f11,.bool x.f12,.int .u64 x.f13,.int .u64 x.f14,.string x.f15,.string x.f16,.int .u64 x.f17,.int .u64 x.f18,.int .u64 x.f19]
abbrev aB.S.arr(x:aB.S):Array Value:=x.l.toArray
abbrev aB.S.agg(x:aB.S):Value:=.agg x.arr
abbrev aB.S.z:aB.S:=⟨0,0,false,0,0,(⟨#[]⟩:ByteArray),(⟨#[]⟩:ByteArray),false,0,0,(⟨#[]⟩:ByteArray),(⟨#[]⟩:ByteArray),false,0,0,(⟨#[]⟩:ByteArray),(⟨#[]⟩:ByteArray),0,0,0⟩
abbrev aB.EX(K:aB.S->Prop):Prop:= ∃t0 t1 t2 t3 t4 t5 t6 t7 t8 t9 t10 t11 t12 t13 t14 t15 t16 t17 t18 t19,K ⟨t0,t1,t2,t3,t4,t5,t6,t7,t8,t9,t10,t11,t12,t13,t14,t15,t16,t17,t18,t19⟩
abbrev aB.cO(h:aj)(a:Addr)(K:aB.S->Prop):Prop:=gT h a λt0=>jV h (a.add 1) λt1=>ym h (a.add 2) λt2=>gT h (a.add 3) λt3=>gT h (a.add 4) λt4=>qQ h (a.add 5) λt5=>qQ h (a.add 6) λt6=>ym h (a.add 7) λt7=>gT h (a.add 8) λt8=>gT h (a.add 9) λt9=>qQ h (a.add 10) λt10=>qQ h (a.add 11) λt11=>ym h (a.add 12) λt12=>gT h (a.add 13) λt13=>gT h (a.add 14) λt14=>qQ h (a.add 15) λt15=>qQ h (a.add 16) λt16=>gT h (a.add 17) λt17=>gT h (a.add 18) λt18=> ∃t19,aX h (a.add 19)=some (.int .u64 t19)/\K ⟨t0,t1,t2,t3,t4,t5,t6,t7,t8,t9,t10,t11,t12,t13,t14,t15,t16,t17,t18,t19⟩
abbrev aB.dv(h:aj)(a:Addr)(x:aB.S)(K:aj->Prop):Prop:=dU a x.l 0 h K
structure ar.S where
 f0:Int
 f1:Int
 f2:Int
 f3:Int
 f4:Int
 yF:cg
 f5l:Nat
 yG:Nat
abbrev ar.S.l(x:ar.S):List Value:= [.int .u64 x.f0,.int .i64 x.f1,.int .i64 x.f2,.int .i64 x.f3,.int .u64 x.f4,.slice x.yF x.f5l x.yG]
abbrev ar.S.arr(x:ar.S):Array Value:=x.l.toArray
abbrev ar.S.agg(x:ar.S):Value:=.agg x.arr
abbrev ar.S.z:ar.S:=⟨0,0,0,0,0,none,0,0⟩
abbrev ar.EX(K:ar.S->Prop):Prop:= ∃t0 t1 t2 t3 t4 a T t,K ⟨t0,t1,t2,t3,t4,a,T,t⟩
abbrev ar.cO(h:aj)(a:Addr)(K:ar.S->Prop):Prop:=gT h a λt0=>jV h (a.add 1) λt1=>jV h (a.add 2) λt2=>jV h (a.add 3) λt3=>gT h (a.add 4) λt4=> ∃b T t,aX h (a.add 5)=some (.slice b T t)/\K ⟨t0,t1,t2,t3,t4,b,T,t⟩
abbrev ar.dv(h:aj)(a:Addr)(x:ar.S)(K:aj->Prop):Prop:=dU a x.l 0 h K
structure cf.S where
 f0:Bool
 f1:Bool
 f2:Bool
 f3:Int
 f4:Int
 f5:Bool
 f6:Int
 f7:Int
 f8:ByteArray
 f9:ByteArray
 f10:Int
 f11:Int
abbrev cf.S.l(x:cf.S):List Value:= [.bool x.f0,.bool x.f1,.bool x.f2,.int .u64 x.f3,.int .u64 x.f4,.bool x.f5,.int .u64 x.f6,.int .u64 x.f7,.string x.f8,.string x.f9,.int .u64 x.f10,.int .u64 x.f11]
abbrev cf.S.arr(x:cf.S):Array Value:=x.l.toArray
abbrev cf.S.agg(x:cf.S):Value:=.agg x.arr
abbrev cf.S.z:cf.S:=⟨false,false,false,0,0,false,0,0,(⟨#[]⟩:ByteArray),(⟨#[]⟩:ByteArray),0,0⟩
abbrev cf.EX(K:cf.S->Prop):Prop:= ∃t0 t1 t2 t3 t4 t5 t6 t7 t8 t9 t10 t11,K ⟨t0,t1,t2,t3,t4,t5,t6,t7,t8,t9,t10,t11⟩
abbrev cf.cO(h:aj)(a:Addr)(K:cf.S->Prop):Prop:=ym h a λt0=>ym h (a.add 1) λt1=>ym h (a.add 2) λt2=>gT h (a.add 3) λt3=>gT h (a.add 4) λt4=>ym h (a.add 5) λt5=>gT h (a.add 6) λt6=>gT h (a.add 7) λt7=>qQ h (a.add 8) λt8=>qQ h (a.add 9) λt9=>gT h (a.add 10) λt10=> ∃t11,aX h (a.add 11)=some (.int .u64 t11)/\K ⟨t0,t1,t2,t3,t4,t5,t6,t7,t8,t9,t10,t11⟩
structure aE.S where
 f0:Int
 f1:Int
 f2:Bool
 f3:Int
 f4:Int
 f5:ByteArray
 f6:ByteArray
 f7:Bool
 f8:Int
 f9:Int
 f10:ByteArray
 f11:ByteArray
 f12:Int
 f13:Int
 f14:Int
 N8:cg
 LK:Nat
 N9:Nat
 f16:Int
 f17:Int
 f18:Bool
abbrev aE.S.l(x:aE.S):List Value:= [.int .u64 x.f0,.int .i64 x.f1,.bool x.f2,.int .u64 x.f3,.int .u64 x.f4,.string x.f5,.string x.f6,.bool x.f7,.int .u64 x.f8,.int .u64 x.f9,.string x.f10,.string x.f11,.int .i64 x.f12,.int .i64 x.f13,.int .i64 x.f14,.slice x.N8 x.LK x.N9,.int .u64 x.f16,.int .u64 x.f17,.bool x.f18]
abbrev aE.S.arr(x:aE.S):Array Value:=x.l.toArray
abbrev aE.S.agg(x:aE.S):Value:=.agg x.arr
abbrev aE.S.z:aE.S:=⟨0,0,false,0,0,(⟨#[]⟩:ByteArray),(⟨#[]⟩:ByteArray),false,0,0,(⟨#[]⟩:ByteArray),(⟨#[]⟩:ByteArray),0,0,0,none,0,0,0,0,false⟩
abbrev aE.EX(K:aE.S->Prop):Prop:= ∃t0 t1 t2 t3 t4 t5 t6 t7 t8 t9 t10 t11 t12 t13 t14 a T t t16 t17 t18,K ⟨t0,t1,t2,t3,t4,t5,t6,t7,t8,t9,t10,t11,t12,t13,t14,a,T,t,t16,t17,t18⟩
abbrev aE.cO(h:aj)(a:Addr)(K:aE.S->Prop):Prop:=gT h a λt0=>jV h (a.add 1) λt1=>ym h (a.add 2) λt2=>gT h (a.add 3) λt3=>gT h (a.add 4) λt4=>qQ h (a.add 5) λt5=>qQ h (a.add 6) λt6=>ym h (a.add 7) λt7=>gT h (a.add 8) λt8=>gT h (a.add 9) λt9=>qQ h (a.add 10) λt10=>qQ h (a.add 11) λt11=>jV h (a.add 12) λt12=>jV h (a.add 13) λt13=>jV h (a.add 14) λt14=>te h (a.add 15) λb T t=>gT h (a.add 16) λt16=>gT h (a.add 17) λt17=> ∃t18,aX h (a.add 18)=some (.bool t18)/\K ⟨t0,t1,t2,t3,t4,t5,t6,t7,t8,t9,t10,t11,t12,t13,t14,b,T,t,t16,t17,t18⟩
abbrev aE.dv(h:aj)(a:Addr)(x:aE.S)(K:aj->Prop):Prop:=dU a x.l 0 h K

section
variable {h:aj} {R:fj}
variable {b nP oq pq tf p o F f f5l yG Du Dv:Nat} {f0 f1 g0 g f2 d f3 f5 f6 G i r f7 f8 f9 k l:Int} {om vt q c yF Dt:cg} {K:Nat->aj->Prop} {a:Addr} {f4 e s m n:ByteArray} {X:Bool}
def aa.at(h:aj)(b:Nat)(f0:Int)(f1:Int)(om:cg)(nP oq:Nat)(vt:cg)(pq tf:Nat):Prop:=h[b]? =some (.cells #[.int .i64 f0,.int .u64 f1,.slice om nP oq,.slice vt pq tf] 262 (0,0))
theorem aa.ld{K:Int->Int->cg->Nat->Nat->cg->Nat->Nat->Prop}(H:aa.at h b f0 f1 om nP oq vt pq tf)(hk:K f0 f1 om nP oq vt pq tf):aa.LD h (AA b 0) K:=
 ⟨_,ak H,_,ak H,_,_,_,ak H,_,_,_,ak H,hk⟩
theorem aa.yH{K:Int->Int->cg->Nat->Nat->cg->Nat->Nat->Prop}(H:dI a [.I f0,.U f1,.slice om nP oq,.slice vt pq tf] 0 h)(hk:K f0 f1 om nP oq vt pq tf):aa.LD h a K:=by
 obtain⟨Q,q1,q2,q3,_⟩:=H;rw[fo]at Q;exact⟨_,Q,_,q1,_,_,_,q2,_,_,_,q3,hk⟩
theorem aa.held(H:aa.at h b f0 f1 om nP oq vt pq tf):dI (AA b 0) [.I f0,.U f1,.slice om nP oq,.slice vt pq tf] 0 h:=
 gA H (λj v t=>by rw[bC];simpa using t)
theorem aa.qc{K:aj->Prop}(hk:dU a [.I f0,.U f1,.slice om nP oq,.slice vt pq tf] 0 h K):aa.ST h a f0 f1 om nP oq vt pq tf K:=hk
theorem aa.new(hk: ∀b h',b=h.size->aa.at h' b f0 f1 om nP oq vt pq tf->Fr No h h'->K b h'):aQ h (.cells #[.I 0,.U 0,.Z,.Z] 262) λb H=>aa.ST H (AA b 0) f0 f1 om nP oq vt pq tf (K b):=
 gy (vs:= [.I f0,.U f1,.slice om nP oq,.slice vt pq tf]) rfl rfl hk
theorem aa.box(hk: ∀b h',b=h.size->aa.at h' b f0 f1 om nP oq vt pq tf->Fr No h h'->K b h'):aQ h (.cells #[.I f0,.U f1,.slice om nP oq,.slice vt pq tf] 262) λb H=>K b H:=
 cG (hk _ _ rfl bR (Fr.push _ _))
theorem aa.set{u:cg}{t j:Nat}{K:aj->Prop}(a0:aa.at h b g0 g q p o u t j)(hk: ∀h',aa.at h' b f0 f1 om nP oq vt pq tf->h'.size=h.size->(∀x,x≠b->h'[x]? =h[x]?)->K h'):aa.ST h (AA b 0) f0 f1 om nP oq vt pq tf K:=
 aa.qc (eX a0 rfl rfl hk)
def bt.at(h:aj)(b:Nat)(f0:Int)(f1:Int)(f2:Bool):Prop:=h[b]? =some (.cells #[.int .i64 f0,.int .u64 f1,.bool f2] 360 (0,0))
theorem bt.ld{f2:Bool}{K:Int->Int->Bool->Prop}(H:bt.at h b f0 f1 f2)(hk:K f0 f1 f2):bt.LD h (AA b 0) K:=
 ⟨_,ak H,_,ak H,_,ak H,hk⟩
theorem bt.qc{f2:Bool}{K:aj->Prop}(hk:dU a [.I f0,.U f1,.bool f2] 0 h K):bt.ST h a f0 f1 f2 K:=hk
theorem bt.new{f2:Bool}(hk: ∀b h',b=h.size->bt.at h' b f0 f1 f2->Fr No h h'->K b h'):aQ h (.cells #[.I 0,.U 0,.bool false] 360) λb H=>bt.ST H (AA b 0) f0 f1 f2 (K b):=
 gy (vs:= [.I f0,.U f1,.bool f2]) rfl rfl hk
theorem bt.box{f2:Bool}(hk: ∀b h',b=h.size->bt.at h' b f0 f1 f2->Fr No h h'->K b h'):aQ h (.cells #[.I f0,.U f1,.bool f2] 360) λb H=>K b H:=
 cG (hk _ _ rfl bR (Fr.push _ _))
theorem bt.set{d:Bool}{f2:Bool}{K:aj->Prop}(a0:bt.at h b g0 g d)(hk: ∀h',bt.at h' b f0 f1 f2->h'.size=h.size->(∀x,x≠b->h'[x]? =h[x]?)->K h'):bt.ST h (AA b 0) f0 f1 f2 K:=
 bt.qc (eX a0 rfl rfl hk)
def ah.at(h:aj)(b:Nat)(f0:Bool)(f1:Int)(f2:Int)(f3:ByteArray)(f4:ByteArray)(f5:Int)(f6:Int):Prop:=h[b]? =some (.cells #[.bool f0,.int .u64 f1,.int .u64 f2,.string f3,.string f4,.int .u64 f5,.int .u64 f6] 124 (0,0))
theorem ah.ld{f0:Bool}{f3:ByteArray}{K:Bool->Int->Int->ByteArray->ByteArray->Int->Int->Prop}(H:ah.at h b f0 f1 f2 f3 f4 f5 f6)(hk:K f0 f1 f2 f3 f4 f5 f6):ah.LD h (AA b 0) K:=
 ⟨_,ak H,_,ak H,_,ak H,_,ak H,_,ak H,_,ak H,_,ak H,hk⟩
theorem ah.qc{f0:Bool}{f3:ByteArray}{K:aj->Prop}(hk:dU a [.bool f0,.U f1,.U f2,.string f3,.string f4,.U f5,.U f6] 0 h K):ah.ST h a f0 f1 f2 f3 f4 f5 f6 K:=hk
theorem ah.box{f0:Bool}{f3:ByteArray}(hk: ∀b h',b=h.size->ah.at h' b f0 f1 f2 f3 f4 f5 f6->Fr No h h'->K b h'):aQ h (.cells #[.bool f0,.U f1,.U f2,.string f3,.string f4,.U f5,.U f6] 124) λb H=>K b H:=
 cG (hk _ _ rfl bR (Fr.push _ _))
theorem ah.set{g0:Bool}{G:ByteArray}{f0:Bool}{f3:ByteArray}{K:aj->Prop}(a0:ah.at h b g0 g d G e i r)(hk: ∀h',ah.at h' b f0 f1 f2 f3 f4 f5 f6->h'.size=h.size->(∀x,x≠b->h'[x]? =h[x]?)->K h'):ah.ST h (AA b 0) f0 f1 f2 f3 f4 f5 f6 K:=
 ah.qc (eX a0 rfl rfl hk)
def aS.at(h:aj)(b:Nat)(f0:Int)(f1:Int)(om:cg)(nP oq:Nat)(f3:Int):Prop:=h[b]? =some (.cells #[.int .i64 f0,.int .i64 f1,.slice om nP oq,.int .u64 f3] 119 (0,0))
theorem aS.ld{K:Int->Int->cg->Nat->Nat->Int->Prop}(H:aS.at h b f0 f1 om nP oq f3)(hk:K f0 f1 om nP oq f3):aS.LD h (AA b 0) K:=
 ⟨_,ak H,_,ak H,_,_,_,ak H,_,ak H,hk⟩
theorem aS.yH{K:Int->Int->cg->Nat->Nat->Int->Prop}(H:dI a [.I f0,.I f1,.slice om nP oq,.U f3] 0 h)(hk:K f0 f1 om nP oq f3):aS.LD h a K:=by
 obtain⟨Q,q1,q2,q3,_⟩:=H;rw[fo]at Q;exact⟨_,Q,_,q1,_,_,_,q2,_,q3,hk⟩
theorem aS.qc{K:aj->Prop}(hk:dU a [.I f0,.I f1,.slice om nP oq,.U f3] 0 h K):aS.ST h a f0 f1 om nP oq f3 K:=hk
theorem aS.new(hk: ∀b h',b=h.size->aS.at h' b f0 f1 om nP oq f3->Fr No h h'->K b h'):aQ h (.cells #[.I 0,.I 0,.Z,.U 0] 119) λb H=>aS.ST H (AA b 0) f0 f1 om nP oq f3 (K b):=
 gy (vs:= [.I f0,.I f1,.slice om nP oq,.U f3]) rfl rfl hk
theorem aS.box(hk: ∀b h',b=h.size->aS.at h' b f0 f1 om nP oq f3->Fr No h h'->K b h'):aQ h (.cells #[.I f0,.I f1,.slice om nP oq,.U f3] 119) λb H=>K b H:=
 cG (hk _ _ rfl bR (Fr.push _ _))
theorem aS.set{K:aj->Prop}(a0:aS.at h b g0 g q p o G)(hk: ∀h',aS.at h' b f0 f1 om nP oq f3->h'.size=h.size->(∀x,x≠b->h'[x]? =h[x]?)->K h'):aS.ST h (AA b 0) f0 f1 om nP oq f3 K:=
 aS.qc (eX a0 rfl rfl hk)
def cz.at(h:aj)(b:Nat)(f0:Int)(c:cg)(F f:Nat):Prop:=h[b]? =some (.cells #[.int .u64 f0,.slice c F f] 161 (0,0))
theorem cz.ld{K:Int->cg->Nat->Nat->Prop}(H:cz.at h b f0 c F f)(hk:K f0 c F f):cz.LD h (AA b 0) K:=
 ⟨_,ak H,_,_,_,ak H,hk⟩
theorem cz.yH{K:Int->cg->Nat->Nat->Prop}(H:dI a [.U f0,.slice c F f] 0 h)(hk:K f0 c F f):cz.LD h a K:=by
 obtain⟨Q,q1,_⟩:=H;rw[fo]at Q;exact⟨_,Q,_,_,_,q1,hk⟩
theorem cz.new(hk: ∀b h',b=h.size->cz.at h' b f0 c F f->Fr No h h'->K b h'):aQ h (.cells #[.U 0,.Z] 161) λb H=>cz.ST H (AA b 0) f0 c F f (K b):=
 gy (vs:= [.U f0,.slice c F f]) rfl rfl hk
theorem cz.box(hk: ∀b h',b=h.size->cz.at h' b f0 c F f->Fr No h h'->K b h'):aQ h (.cells #[.U f0,.slice c F f] 161) λb H=>K b H:=
 cG (hk _ _ rfl bR (Fr.push _ _))
def iy.at(h:aj)(b:Nat)(f0:Int)(f1:Int)(f2:Bool)(f3:Bool)(QU:cg)(QV QW:Nat)(yF:cg)(f5l yG:Nat):Prop:=h[b]? =some (.cells #[.int .i64 f0,.int .u64 f1,.bool f2,.bool f3,.slice QU QV QW,.slice yF f5l yG] 76 (0,0))
theorem iy.box{f2:Bool}{f3:Bool}{QU:cg}{QV QW:Nat}(hk: ∀b h',b=h.size->iy.at h' b f0 f1 f2 f3 QU QV QW yF f5l yG->Fr No h h'->K b h'):aQ h (.cells #[.I f0,.U f1,.bool f2,.bool f3,.slice QU QV QW,.slice yF f5l yG] 76) λb H=>K b H:=
 cG (hk _ _ rfl bR (Fr.push _ _))
def aw.at(h:aj)(b:Nat)(f0:Bool)(f1:Int)(f2:Int)(f3:ByteArray)(f4:ByteArray):Prop:=h[b]? =some (.cells #[.bool f0,.int .u64 f1,.int .u64 f2,.string f3,.string f4] 29 (0,0))
theorem aw.ld{f0:Bool}{f3:ByteArray}{K:Bool->Int->Int->ByteArray->ByteArray->Prop}(H:aw.at h b f0 f1 f2 f3 f4)(hk:K f0 f1 f2 f3 f4):aw.LD h (AA b 0) K:=
 ⟨_,ak H,_,ak H,_,ak H,_,ak H,_,ak H,hk⟩
theorem aw.held{f0:Bool}{f3:ByteArray}(H:aw.at h b f0 f1 f2 f3 f4):dI (AA b 0) [.bool f0,.U f1,.U f2,.string f3,.string f4] 0 h:=
 gA H (λj v t=>by rw[bC];simpa using t)
theorem aw.box{f0:Bool}{f3:ByteArray}(hk: ∀b h',b=h.size->aw.at h' b f0 f1 f2 f3 f4->Fr No h h'->K b h'):aQ h (.cells #[.bool f0,.U f1,.U f2,.string f3,.string f4] 29) λb H=>K b H:=
 cG (hk _ _ rfl bR (Fr.push _ _))
def bp.at(h:aj)(b:Nat)(f0:Bool)(f1:Int)(f2:Int)(f3:ByteArray)(f4:ByteArray)(f5:Int)(f6:Int):Prop:=h[b]? =some (.cells #[.bool f0,.int .u64 f1,.int .u64 f2,.string f3,.string f4,.int .i64 f5,.int .i64 f6] 136 (0,0))
theorem bp.ld{f0:Bool}{f3:ByteArray}{K:Bool->Int->Int->ByteArray->ByteArray->Int->Int->Prop}(H:bp.at h b f0 f1 f2 f3 f4 f5 f6)(hk:K f0 f1 f2 f3 f4 f5 f6):bp.LD h (AA b 0) K:=
 ⟨_,ak H,_,ak H,_,ak H,_,ak H,_,ak H,_,ak H,_,ak H,hk⟩
theorem bp.yH{f0:Bool}{f3:ByteArray}{K:Bool->Int->Int->ByteArray->ByteArray->Int->Int->Prop}(H:dI a [.bool f0,.U f1,.U f2,.string f3,.string f4,.I f5,.I f6] 0 h)(hk:K f0 f1 f2 f3 f4 f5 f6):bp.LD h a K:=by
 obtain⟨Q,q1,q2,q3,q4,j,q6,_⟩:=H;rw[fo]at Q;exact⟨_,Q,_,q1,_,q2,_,q3,_,q4,_,j,_,q6,hk⟩
theorem bp.qc{f0:Bool}{f3:ByteArray}{K:aj->Prop}(hk:dU a [.bool f0,.U f1,.U f2,.string f3,.string f4,.I f5,.I f6] 0 h K):bp.ST h a f0 f1 f2 f3 f4 f5 f6 K:=hk
theorem bp.new{f0:Bool}{f3:ByteArray}(hk: ∀b h',b=h.size->bp.at h' b f0 f1 f2 f3 f4 f5 f6->Fr No h h'->K b h'):aQ h (.cells #[.bool false,.U 0,.U 0,.string gV,.string gV,.I 0,.I 0] 136) λb H=>bp.ST H (AA b 0) f0 f1 f2 f3 f4 f5 f6 (K b):=
 gy (vs:= [.bool f0,.U f1,.U f2,.string f3,.string f4,.I f5,.I f6]) rfl rfl hk
theorem bp.box{f0:Bool}{f3:ByteArray}(hk: ∀b h',b=h.size->bp.at h' b f0 f1 f2 f3 f4 f5 f6->Fr No h h'->K b h'):aQ h (.cells #[.bool f0,.U f1,.U f2,.string f3,.string f4,.I f5,.I f6] 136) λb H=>K b H:=
 cG (hk _ _ rfl bR (Fr.push _ _))
theorem bp.set{g0:Bool}{G:ByteArray}{f0:Bool}{f3:ByteArray}{K:aj->Prop}(a0:bp.at h b g0 g d G e i r)(hk: ∀h',bp.at h' b f0 f1 f2 f3 f4 f5 f6->h'.size=h.size->(∀x,x≠b->h'[x]? =h[x]?)->K h'):bp.ST h (AA b 0) f0 f1 f2 f3 f4 f5 f6 K:=
 bp.qc (eX a0 rfl rfl hk)
def aK.at(h:aj)(b:Nat)(f0:Int)(f1:Bool)(f2:Int)(f3:Int)(f4:ByteArray)(f5:ByteArray)(Dt:cg)(Du Dv:Nat)(f7:Int)(f8:Int)(f9:Int):Prop:=h[b]? =some (.cells #[.int .i64 f0,.bool f1,.int .u64 f2,.int .u64 f3,.string f4,.string f5,.slice Dt Du Dv,.int .u64 f7,.int .i64 f8,.int .u64 f9] 114 (0,0))
theorem aK.ld{f1:Bool}{f5:ByteArray}{K:Int->Bool->Int->Int->ByteArray->ByteArray->cg->Nat->Nat->Int->Int->Int->Prop}(H:aK.at h b f0 f1 f2 f3 f4 f5 Dt Du Dv f7 f8 f9)(hk:K f0 f1 f2 f3 f4 f5 Dt Du Dv f7 f8 f9):aK.LD h (AA b 0) K:=
 ⟨_,ak H,_,ak H,_,ak H,_,ak H,_,ak H,_,ak H,_,_,_,ak H,_,ak H,_,ak H,_,ak H,hk⟩
theorem aK.qc{f1:Bool}{f5:ByteArray}{K:aj->Prop}(hk:dU a [.I f0,.bool f1,.U f2,.U f3,.string f4,.string f5,.slice Dt Du Dv,.U f7,.I f8,.U f9] 0 h K):aK.ST h a f0 f1 f2 f3 f4 f5 Dt Du Dv f7 f8 f9 K:=hk
theorem aK.new{f1:Bool}{f5:ByteArray}(hk: ∀b h',b=h.size->aK.at h' b f0 f1 f2 f3 f4 f5 Dt Du Dv f7 f8 f9->Fr No h h'->K b h'):aQ h (.cells #[.I 0,.bool false,.U 0,.U 0,.string gV,.string gV,.Z,.U 0,.I 0,.U 0] 114) λb H=>aK.ST H (AA b 0) f0 f1 f2 f3 f4 f5 Dt Du Dv f7 f8 f9 (K b):=
 gy (vs:= [.I f0,.bool f1,.U f2,.U f3,.string f4,.string f5,.slice Dt Du Dv,.U f7,.I f8,.U f9]) rfl rfl hk
theorem aK.box{f1:Bool}{f5:ByteArray}(hk: ∀b h',b=h.size->aK.at h' b f0 f1 f2 f3 f4 f5 Dt Du Dv f7 f8 f9->Fr No h h'->K b h'):aQ h (.cells #[.I f0,.bool f1,.U f2,.U f3,.string f4,.string f5,.slice Dt Du Dv,.U f7,.I f8,.U f9] 114) λb H=>K b H:=
 cG (hk _ _ rfl bR (Fr.push _ _))
theorem aK.set{g:Bool}{i:ByteArray}{u:cg}{t j:Nat}{v:Int}{w:Int}{y:Int}{f1:Bool}{f5:ByteArray}{K:aj->Prop}(a0:aK.at h b g0 g d G e i u t j v w y)(hk: ∀h',aK.at h' b f0 f1 f2 f3 f4 f5 Dt Du Dv f7 f8 f9->h'.size=h.size->(∀x,x≠b->h'[x]? =h[x]?)->K h'):aK.ST h (AA b 0) f0 f1 f2 f3 f4 f5 Dt Du Dv f7 f8 f9 K:=
 aK.qc (eX a0 rfl rfl hk)
def gj.at(h:aj)(b:Nat)(f0:Int)(f1:Int)(f2:Int)(f3:Int)(f4:Int)(f5:Int):Prop:=h[b]? =some (.cells #[.int .i64 f0,.int .i64 f1,.int .i64 f2,.int .i64 f3,.int .i64 f4,.int .i64 f5] 50 (0,0))
theorem gj.ld{f4:Int}{K:Int->Int->Int->Int->Int->Int->Prop}(H:gj.at h b f0 f1 f2 f3 f4 f5)(hk:K f0 f1 f2 f3 f4 f5):gj.LD h (AA b 0) K:=
 ⟨_,ak H,_,ak H,_,ak H,_,ak H,_,ak H,_,ak H,hk⟩
theorem gj.qc{f4:Int}{K:aj->Prop}(hk:dU a [.I f0,.I f1,.I f2,.I f3,.I f4,.I f5] 0 h K):gj.ST h a f0 f1 f2 f3 f4 f5 K:=hk
theorem gj.new{f4:Int}(hk: ∀b h',b=h.size->gj.at h' b f0 f1 f2 f3 f4 f5->Fr No h h'->K b h'):aQ h (.cells #[.I 0,.I 0,.I 0,.I 0,.I 0,.I 0] 50) λb H=>gj.ST H (AA b 0) f0 f1 f2 f3 f4 f5 (K b):=
 gy (vs:= [.I f0,.I f1,.I f2,.I f3,.I f4,.I f5]) rfl rfl hk
theorem gj.box{f4:Int}(hk: ∀b h',b=h.size->gj.at h' b f0 f1 f2 f3 f4 f5->Fr No h h'->K b h'):aQ h (.cells #[.I f0,.I f1,.I f2,.I f3,.I f4,.I f5] 50) λb H=>K b H:=
 cG (hk _ _ rfl bR (Fr.push _ _))
theorem gj.set{e:Int}{f4:Int}{K:aj->Prop}(a0:gj.at h b g0 g d G e i)(hk: ∀h',gj.at h' b f0 f1 f2 f3 f4 f5->h'.size=h.size->(∀x,x≠b->h'[x]? =h[x]?)->K h'):gj.ST h (AA b 0) f0 f1 f2 f3 f4 f5 K:=
 gj.qc (eX a0 rfl rfl hk)
def ar.at(h:aj)(b:Nat)(f0:Int)(f1:Int)(f2:Int)(f3:Int)(f4:Int)(yF:cg)(f5l yG:Nat):Prop:=h[b]? =some (.cells #[.int .u64 f0,.int .i64 f1,.int .i64 f2,.int .i64 f3,.int .u64 f4,.slice yF f5l yG] 44 (0,0))
theorem ar.ld{f4:Int}{K:Int->Int->Int->Int->Int->cg->Nat->Nat->Prop}(H:ar.at h b f0 f1 f2 f3 f4 yF f5l yG)(hk:K f0 f1 f2 f3 f4 yF f5l yG):ar.LD h (AA b 0) K:=
 ⟨_,ak H,_,ak H,_,ak H,_,ak H,_,ak H,_,_,_,ak H,hk⟩
theorem ar.held{f4:Int}(H:ar.at h b f0 f1 f2 f3 f4 yF f5l yG):dI (AA b 0) [.U f0,.I f1,.I f2,.I f3,.U f4,.slice yF f5l yG] 0 h:=
 gA H (λj v t=>by rw[bC];simpa using t)
theorem ar.qc{f4:Int}{K:aj->Prop}(hk:dU a [.U f0,.I f1,.I f2,.I f3,.U f4,.slice yF f5l yG] 0 h K):ar.ST h a f0 f1 f2 f3 f4 yF f5l yG K:=hk
theorem ar.new{f4:Int}(hk: ∀b h',b=h.size->ar.at h' b f0 f1 f2 f3 f4 yF f5l yG->Fr No h h'->K b h'):aQ h (.cells #[.U 0,.I 0,.I 0,.I 0,.U 0,.Z] 44) λb H=>ar.ST H (AA b 0) f0 f1 f2 f3 f4 yF f5l yG (K b):=
 gy (vs:= [.U f0,.I f1,.I f2,.I f3,.U f4,.slice yF f5l yG]) rfl rfl hk
theorem ar.box{f4:Int}(hk: ∀b h',b=h.size->ar.at h' b f0 f1 f2 f3 f4 yF f5l yG->Fr No h h'->K b h'):aQ h (.cells #[.U f0,.I f1,.I f2,.I f3,.U f4,.slice yF f5l yG] 44) λb H=>K b H:=
 cG (hk _ _ rfl bR (Fr.push _ _))
theorem ar.set{e:Int}{u:cg}{t j:Nat}{f4:Int}{K:aj->Prop}(a0:ar.at h b g0 g d G e u t j)(hk: ∀h',ar.at h' b f0 f1 f2 f3 f4 yF f5l yG->h'.size=h.size->(∀x,x≠b->h'[x]? =h[x]?)->K h'):ar.ST h (AA b 0) f0 f1 f2 f3 f4 yF f5l yG K:=
 ar.qc (eX a0 rfl rfl hk)
theorem vu.host.walk(w:aU Tryz.prog (Instr.range 9 (.string s)) h λv u=> ∃(it:Nat),v=.P it 0/\∃(I:aj->Prop)(M:aj->Nat),I u/\∀(j:aj),I j->aU Tryz.prog (Instr.next (.P it 0) true 0) j λV H=>(V=.tuple #[.bool false]/\R (.bool true) H)\/(∃(x T:Value),V=.tuple #[.bool true,x,T]/\∃t11,T=.int .i32 t11/\aG (λ(t34:Bool) (t:aj)=>if t34 then R (.bool false) t else(I t/\M t<M j)) (λJ=>if(decide (t11<97))then if(decide (t11<48))then if(t11 !=45)then J (t11 !=45) H else J false H else if(decide (t11>57))then if(t11 !=45)then J (t11 !=45) H else J false H else J false H else if(decide (t11>122))then if(decide (t11<48))then if(t11 !=45)then J (t11 !=45) H else J false H else if(decide (t11>57))then if(t11 !=45)then J (t11 !=45) H else J false H else J false H else J false H))):Cl 142 #[.string s,.int .i32 45] h R:=aN (lq (sq (lq (bq (.loop [] (lq (sq (cq lf lf) (bq (sq (.typed [(11,.one (.int .i32))]) (sq (.join [(34,.one (.bool))] lf) (cq ll lf))))))))) ll)) Tryz.func142 w
theorem vu.Ri.walk(w:aU Tryz.prog (Instr.range 9 (.string s)) h λv u=> ∃(it:Nat),v=.P it 0/\∃(I:aj->Prop)(M:aj->Nat),I u/\∀(j:aj),I j->aU Tryz.prog (Instr.next (.P it 0) true 0) j λV H=>(V=.tuple #[.bool false]/\R (.bool true) H)\/(∃(x T:Value),V=.tuple #[.bool true,x,T]/\∃t11,T=.int .i32 t11/\aG (λ(t34:Bool) (t:aj)=>if t34 then R (.bool false) t else(I t/\M t<M j)) (λJ=>if(decide (t11<97))then if(decide (t11<48))then if(t11 !=45)then J (t11 !=47) H else J false H else if(decide (t11>57))then if(t11 !=45)then J (t11 !=47) H else J false H else J false H else if(decide (t11>122))then if(decide (t11<48))then if(t11 !=45)then J (t11 !=47) H else J false H else if(decide (t11>57))then if(t11 !=45)then J (t11 !=47) H else J false H else J false H else J false H))):Cl 142 #[.string s,.int .i32 47] h R:=aN (lq (sq (lq (bq (.loop [] (lq (sq (cq lf lf) (bq (sq (.typed [(11,.one (.int .i32))]) (sq (.join [(34,.one (.bool))] lf) (cq ll lf))))))))) ll)) Tryz.func142 w
theorem Jx.walk(u:aQ h (.cells #[.bool X,.U k,.U l,.string m,.string n] 29) λb H=>aw.LD H (AA b 0) λI J L M N=> ∃(eq:Bool),xO Tryz.prog 29 (.agg #[.bool I,.U J,.U L,.string M,.string N]) (.agg #[.bool false,.U 0,.U 0,.string gV,.string gV]) eq/\if eq then R (.bool true) H else∃t9,Cc H b 0 (.bool t9)/\if t9 then aw.LD H (AA b 0) λT w x y z=>Hu H b 1 λt12=>Hu H b 2 λt14=> ∃(eq_1:Bool),xO Tryz.prog 29 (.agg #[.bool T,.U w,.U x,.string y,.string z]) (.agg #[.bool true,.U t12,.U t14,.string gV,.string gV]) eq_1/\if eq_1 then∃t19,Cc H b 1 (.U t19)/\if(decide (t19≥1))then∃t24,Cc H b 1 (.U t24)/\if(decide (t24<=4294967295))then∃t29,Cc H b 2 (.U t29)/\R (.bool (decide (t29<=4294967295))) H else R (.bool false) H else R (.bool false) H else R (.bool false) H else aw.LD H (AA b 0) λA B C D E=>Hs H b 3 λt34=>Hs H b 4 λt36=> ∃(eq_2:Bool),xO Tryz.prog 29 (.agg #[.bool A,.U B,.U C,.string D,.string E]) (.agg #[.bool false,.U 0,.U 0,.string t34,.string t36]) eq_2/\if eq_2 then∃t41,Cc H b 3 (.string t41)/\if(decide (((t41.size:Nat):Int)≥1))then∃t47,Cc H b 3 (.string t47)/\if(decide (((t47.size:Nat):Int)<=16))then∃t53,Cc H b 4 (.string t53)/\if(decide (((t53.size:Nat):Int)<=24))then Hs H b 3 λt59=>Cl 142 #[.string t59,.int .i32 45] H λv j=> ∃t60,v=.bool t60/\if t60 then Hs j b 4 λt64=>Cl 142 #[.string t64,.int .i32 47] j λV t=> ∃t65,V=.bool t65/\R (.bool t65) t else R (.bool false) j else R (.bool false) H else R (.bool false) H else R (.bool false) H else R (.bool false) H):Cl 86 #[.agg #[.bool X,.U k,.U l,.string m,.string n]] h R:=aN (lq (sq (bq (lq (cq ll (lq (cq ll lf))))) ll)) Tryz.func86 u
theorem Jy.walk(j:aQ h (.cells #[.bool X,.U k,.U l,.string m,.string n] 29) λb H=>aw.LD H (AA b 0) λt T u v w=> ∃(eq:Bool),xO Tryz.prog 29 (.agg #[.bool t,.U T,.U u,.string v,.string w]) (.agg #[.bool false,.U 0,.U 0,.string gV,.string gV]) eq/\if eq then R (.I 0) H else∃t9,Cc H b 0 (.bool t9)/\if t9 then R (.I 1) H else R (.I 2) H):Cl 184 #[.agg #[.bool X,.U k,.U l,.string m,.string n]] h R:=aN (lq (sq (bq (lq (cq ll (lq (cq ll lf))))) ll)) Tryz.func184 j
theorem LL.walk{A:Bool}{t:Int}{u:Int}{w:ByteArray}{x:ByteArray}{y:Bool}{B:Int}{z:Int}{C:ByteArray}{D:ByteArray}(Y:aQ h (.cells #[.bool A,.U t,.U u,.string w,.string x] 29) λb V=>aQ V (.cells #[.bool y,.U B,.U z,.string C,.string D] 29) λB j=>aw.LD j (AA b 0) λe' f' g' h' i'=>aw.LD j (AA B 0) λO P Q S U=>Cl 184 #[.agg #[.bool e',.U f',.U g',.string h',.string i']] j λv E=>Vi v λt7=>dI (AA B 0) [.bool O,.U P,.U Q,.string S,.string U] 0 E/\Cl 184 #[.agg #[.bool O,.U P,.U Q,.string S,.string U]] E λj' H=> ∃t9,j'=.I t9/\if(t7 !=t9)then aw.LD H (AA b 0) λZ a' b' c' d'=>aw.LD H (AA B 0) λT J L M N=>Cl 184 #[.agg #[.bool Z,.U a',.U b',.string c',.string d']] H λk' I=>Vi k' λt12=>dI (AA B 0) [.bool T,.U J,.U L,.string M,.string N] 0 I/\Cl 184 #[.agg #[.bool T,.U J,.U L,.string M,.string N]] I λl' W=> ∃t14,l'=.I t14/\R (.bool (decide (t12<t14))) W else Hu H b 1 λt18=> ∃t20,Cc H B 1 (.U t20)/\if(t18 !=t20)then Hu H b 1 λt23=> ∃t25,Cc H B 1 (.U t25)/\R (.bool (decide (t23<t25))) H else Hu H b 2 λt29=> ∃t31,Cc H B 2 (.U t31)/\if(t29 !=t31)then Hu H b 2 λt34=> ∃t36,Cc H B 2 (.U t36)/\R (.bool (decide (t34<t36))) H else Hs H b 3 λt40=> ∃t42,Cc H B 3 (.string t42)/\if(!(t40.toList==t42.toList))then Hs H b 3 λt45=> ∃t47,Cc H B 3 (.string t47)/\R (.bool (Op.bytesLess t45.toList t47.toList)) H else Hs H b 4 λt50=> ∃t52,Cc H B 4 (.string t52)/\R (.bool (Op.bytesLess t50.toList t52.toList)) H):Cl 133 #[.agg #[.bool A,.U t,.U u,.string w,.string x],.agg #[.bool y,.U B,.U z,.string C,.string D]] h R:=aN (lq (sq (bq (sq (.gY (.op 0 (.op 2 (.op 1 (.op 3 (.op 4 (.op 5 .done))))))) (cq (sq (.gY (.op 0 (.op 2 (.op 1 (.op 3 (.op 4 (.op 5 .done))))))) lf) (lq (cq ll (lq (cq ll (lq (cq ll lf))))))))) ll)) Tryz.func133 Y

end
section
namespace iT
theorem LM{a b:ByteArray}:(a==b)=true↔a=b:=by
 obtain⟨a⟩:=a;obtain⟨b⟩:=b;constructor
 .intro h;have h:(a==b)=true:=h;rw[eq_of_beq h]
 .intro h;cases h;show(a==a)=true;simp
structure Ev where
 jI:Bool
 node:Int
 fX:Int
 host:ByteArray
 jd:ByteArray
theorem Ev.ext'{x y:Ev}(H:x.jI=y.jI)(a:x.node=y.node)(b:x.fX=y.fX)(c:x.host=y.host)(d:x.jd=y.jd):x=y:=by
 cases x;cases y;simp at H a b c d;simp[H,a,b,c,d]
def QX(x y:Ev):Bool:=x.jI==y.jI && (x.node==y.node && (x.fX==y.fX && (x.host==y.host && (x.jd==y.jd && true))))
theorem CE{x y:Ev}:QX x y=true↔x=y:=by
 unfold QX;simp only[aR,da,LM,and_true];constructor
 .rintro⟨H,a,b,c,d⟩;exact Ev.ext' H a b c d
 .rintro rfl;simp
instance : DecidableEq Ev := λx y => decidable_of_iff (QX x y = true) CE
theorem Oa(x y:Ev):QX x y=decide (x=y):=by
 by_cases h:x=y
 .rw[au h];exact CE.2 h
 .rw[az h];cases H:QX x y
  .rfl
  .exact absurd (CE.1 H) h
def kj(x:Ev):Value:=.agg #[.bool x.jI,.int .u64 x.node,.int .u64 x.fX,.string x.host,.string x.jd]
def Ev.zero:Ev:=⟨false,0,0,⟨#[]⟩,⟨#[]⟩⟩
theorem eqv(x y:Ev):xO Tryz.prog 29 (kj x) (kj y) (decide (x=y)):=by
 rw[<-Oa];exact xO.of (by unfold QX;kernel_rfl)
theorem tW{x y:Ev}{a b:Value}(H:a=kj x)(c:b=kj y):xO Tryz.prog 29 a b (decide (x=y)):=by subst H c;exact eqv x y
theorem Rc(e:Bool)(a:Ev)(h:aj):rd Tryz.prog (Instr.checkKey e 10000 29 (kj a)) h=some ():=cU
theorem under:(Tryz.prog.underlying 29).isSome=true:=cU
theorem key:Bl Tryz.prog 29 kj:=⟨eqv,Rc,by
 obtain⟨d,h⟩:=e8.1 under;exact⟨d,h,λa b=> .inl (by unfold kj;cases d<;>rfl)⟩,λa=>by unfold kj;simp[Instr.sameBits,LM.2]⟩
def pl(more c:UInt8):Bool:=(decide (97<=c) && decide (c<=122))||(decide (48<=c) && decide (c<=57))||c==45||c==more
def mg(more:UInt8)(s:ByteArray):Bool:=s.data.toList.all (pl more)
def cN(x:Ev):Bool:=
 if x=.zero then true
 else if x.jI=true then decide (x.host=⟨#[]⟩/\x.jd=⟨#[]⟩/\1<=x.node/\x.node<=4294967295/\x.fX<=4294967295)
 else decide (x.node=0/\x.fX=0/\1<=x.host.size/\x.host.size<=16/\x.jd.size<=24) && (mg 45 x.host && mg 47 x.jd)
def iz(x:Ev):Int:=if x=.zero then 0 else if x.jI=true then 1 else 2
def bl(a b:ByteArray):Bool:=Op.bytesLess a.toList b.toList
def ka(x y:Ev):Bool:=
 if iz x≠iz y then decide (iz x<iz y)
 else if x.node≠y.node then decide (x.node<y.node)
 else if x.fX≠y.fX then decide (x.fX<y.fX)
 else if x.host≠y.host then bl x.host y.host
 else bl x.jd y.jd
theorem bytes_irrefl: ∀a:cH,Op.bytesLess a a=false
 | []=>rfl
 |a::x=>by unfold Op.bytesLess;simp[bytes_irrefl x]
theorem bytes_trans: ∀{a b c:cH},Op.bytesLess a b=true->Op.bytesLess b c=true->Op.bytesLess a c=true
 |_, [],_,h,_=>by unfold Op.bytesLess at h;cases h
 |_,_::_, [],_,h=>by unfold Op.bytesLess at h;cases h
 | [],b::y,c::z,_,_=>rfl
 |a::x,b::y,c::z,d,H=>by
  unfold Op.bytesLess at d H⊢;simp only[Bool.or_eq_true,aY,aR,da]at d H⊢;rcases d with d|⟨rfl,d⟩
  .rcases H with H|⟨rfl,H⟩
   .exact .inl (UInt8.lt_trans d H)
   .exact .inl d
  .rcases H with H|⟨rfl,H⟩
   .exact .inl H
   .exact .inr ⟨rfl,bytes_trans d H⟩
theorem bytes_total: ∀{a b:cH},a≠b->Op.bytesLess a b=true\/Op.bytesLess b a=true
 | [], [],h=>absurd rfl h
 | [],_::_,_=> .inl rfl
 |_::_, [],_=> .inr rfl
 |a::x,b::y,h=>by
  unfold Op.bytesLess;simp only[Bool.or_eq_true,aY,aR,da];by_cases e:a=b
  .subst e;rcases bytes_total (a:=x) (b:=y) (λe=>h (by rw[e]))with h1|h1
   .exact .inl (.inr ⟨rfl,h1⟩)
   .exact .inr (.inr ⟨rfl,h1⟩)
  .rcases UInt8.lt_or_lt_of_ne e with h1|h1
   .exact .inl (.inl h1)
   .exact .inr (.inl h1)
theorem Pq{a b:ByteArray}(h:a≠b):bl a b=true\/bl b a=true:=by
 refine bytes_total λe=>h ?_
 rw[toList_data,toList_data]at e;cases a;cases b;simp only[ByteArray.mk.injEq];exact Array.ext' e
theorem yI{a b c:ByteArray}(H:bl a b=true)(d:bl b c=true):bl a c=true:=bytes_trans H d
theorem By(a:ByteArray):bl a a=false:=bytes_irrefl _
theorem tX{x y:Ev}:ka x y=true↔iz x<iz y\/(iz x=iz y/\(x.node<y.node\/(x.node=y.node/\(x.fX<y.fX\/(x.fX=y.fX/\((x.host≠y.host/\bl x.host y.host=true)\/(x.host=y.host/\bl x.jd y.jd=true))))))):=by
 unfold ka;by_cases H:iz x=iz y
 .rw[ae (cy H)];by_cases a:x.node=y.node
  .rw[ae (cy a)];by_cases b:x.fX=y.fX
   .rw[ae (cy b)];by_cases c:x.host=y.host
    .rw[ae (cy c)];simp[H,a,b,c]
    .rw[ag c];simp[H,a,b,c]
   .rw[ag b];simp[H,a,b]
  .rw[ag a];simp[H,a]
 .rw[ag H];simp[H]
theorem mQ(x:Ev):ka x x=false:=by
 cases h:ka x x
 .rfl
 .rw[tX]at h;rcases h with h|⟨_,h|⟨_,h|⟨_,⟨h,_⟩|⟨_,h⟩⟩⟩⟩
  .omega
  .omega
  .omega
  .exact absurd rfl h
  .rw[By]at h;cases h
theorem sF{x y z:Ev}(a:ka x y=true)(H:ka y z=true):ka x z=true:=by
 rw[tX]at a H⊢;rcases a with a|⟨c1,a⟩
 .rcases H with H|⟨c,_⟩
  .exact .inl af
  .exact .inl af
 rcases H with H|⟨c,H⟩
 .exact .inl af
 refine .inr ⟨af,?_⟩;rcases a with a|⟨n1,a⟩
 .rcases H with H|⟨n2,_⟩<;>exact .inl af
 rcases H with H|⟨n2,H⟩
 .exact .inl af
 refine .inr ⟨af,?_⟩;rcases a with a|⟨s1,a⟩
 .rcases H with H|⟨s,_⟩<;>exact .inl af
 rcases H with H|⟨s,H⟩
 .exact .inl af
 refine .inr ⟨af,?_⟩;rcases a with⟨e1,a⟩|⟨e1,a⟩
 .rcases H with⟨e2,H⟩|⟨e2,H⟩
  .refine .inl ⟨λe=> ?_,yI a H⟩;have:=yI a (e▸H);rw[By]at this;cases this
  .exact .inl (by rw[<-e2];exact⟨e1,a⟩)
 .rcases H with⟨e2,H⟩|⟨e2,H⟩
  .exact .inl (by rw[e1];exact⟨e2,H⟩)
  .exact .inr ⟨e1.trans e2,yI a H⟩
theorem yJ{x y:Ev}(h:iz x=iz y)(a:x=.zero):y=.zero:=by
 unfold iz at h;rw[ag a]at h;by_cases H:y=.zero
 .exact H
 .rw[ae H]at h;split at h<;>omega
theorem yK{x y:Ev}(h:x≠y):ka x y=true\/ka y x=true:=by
 rw[tX,tX];by_cases H:iz x=iz y
 .by_cases a:x.node=y.node
  .by_cases b:x.fX=y.fX
   .by_cases c:x.host=y.host
    .have f:x.jd≠y.jd:=λe=>by
      have i:x≠ .zero:=λE=>h (E.trans (yJ H E).symm)
      have j:y≠ .zero:=λE=>h ((yJ H.symm E).trans E.symm)
      unfold iz at H;rw[ae i,ae j]at H;have g:x.jI=y.jI:=by
       cases ex:x.jI<;>cases d:y.jI<;>simp[ex,d]at H⊢
      exact h (Ev.ext' g a b c e)
     rcases Pq f with h5|h5
     .exact .inl (.inr ⟨H,.inr ⟨a,.inr ⟨b,.inr ⟨c,h5⟩⟩⟩⟩)
     .exact .inr (.inr ⟨H.symm,.inr ⟨a.symm,.inr ⟨b.symm,.inr ⟨c.symm,h5⟩⟩⟩⟩)
    .rcases Pq c with h5|h5
     .exact .inl (.inr ⟨H,.inr ⟨a,.inr ⟨b,.inl ⟨c,h5⟩⟩⟩⟩)
     .exact .inr (.inr ⟨H.symm,.inr ⟨a.symm,.inr ⟨b.symm,.inl ⟨e6 c,h5⟩⟩⟩⟩)
   .rcases Int.lt_or_gt_of_ne b with h5|h5
    .exact .inl (.inr ⟨H,.inr ⟨a,.inl h5⟩⟩)
    .exact .inr (.inr ⟨H.symm,.inr ⟨a.symm,.inl h5⟩⟩)
  .rcases Int.lt_or_gt_of_ne a with h5|h5
   .exact .inl (.inr ⟨H,.inl h5⟩)
   .exact .inr (.inr ⟨H.symm,.inl h5⟩)
 .rcases Int.lt_or_gt_of_ne H with h5|h5
  .exact .inl (.inl h5)
  .exact .inr (.inl h5)
variable {h : aj} {R : Value → aj → Prop}
theorem get_at{s:ByteArray}{i:Nat}(H:i<s.size):s.get! i=s.data.toList.getD i 0:=by
 have:i<s.data.size:=H;show s.data[i]! =_;have e:s.data.toList[i]? =some s.data[i]:=by rw[dz];exact Array.getElem?_eq_getElem this
 rw[getElem!_pos s.data i this,aZ,e];rfl
theorem decode_at(s:ByteArray)(i:Nat)(a:i<s.size):(s.data.toList.getD i 0<128->Utf8.decode s i=((s.data.toList.getD i 0).toNat,1))/\(¬s.data.toList.getD i 0<128->128<=(Utf8.decode s i).1):=by
 have e:=get_at a;have E:(s.get! (i+0)).toNat=(s.data.toList.getD i 0).toNat:=by rw[Nat.add_zero,e]
 constructor
 .intro h;have h:(s.data.toList.getD i 0).toNat<128:=h;unfold Utf8.decode;simp only[E];rw[ag h]
 .intro h;have h: ¬(s.data.toList.getD i 0).toNat<128:=h;unfold Utf8.decode;simp only[E];rw[ae h];split
  .split
   .omega
   .show 128<=Utf8.runeError;decide
  .split
   .split
    .rename_i H;simp only[aR,aY]at H;show 128<=_;omega
    .show 128<=Utf8.runeError;decide
   .split
    .split
     .rename_i H;simp only[aR,aY]at H;show 128<=_;omega
     .show 128<=Utf8.runeError;decide
    .show 128<=Utf8.runeError;decide
def np(more:Int)(c:Int):Bool:=(decide (c<97)||decide (c>122)) && ((decide (c<48)||decide (c>57)) && ((c !=45) && (c !=more)))
theorem LN{more c:Int}(e:more<128)(h:128<=c):np more c=true:=by
 unfold np;have H:c>122:=af
 have a:c>57:=af
 have b:c≠45:=af
 have d:c≠more:=af
 simp[H,a,b,d]
theorem LO(more:UInt8)(b:UInt8):np (more.toNat:Int) (b.toNat:Int)= !pl more b:=by
 have e1:(b=45)↔((b.toNat:Int)=45):=by
  constructor
  .rintro rfl;rfl
  .intro e;exact UInt8.toNat_inj.1 (by show b.toNat=45;omega)
 have e2:(b=more)↔((b.toNat:Int)=(more.toNat:Int)):=by
  constructor
  .rintro rfl;rfl
  .intro e;exact UInt8.toNat_inj.1 af
 have E:(97<=b)↔ ¬((b.toNat:Int)<97):=by rw[UInt8.le_iff_toNat_le];show 97<=b.toNat↔_;omega
 have a:(b<=122)↔ ¬((b.toNat:Int)>122):=by rw[UInt8.le_iff_toNat_le];show b.toNat<=122↔_;omega
 have c:(48<=b)↔ ¬((b.toNat:Int)<48):=by rw[UInt8.le_iff_toNat_le];show 48<=b.toNat↔_;omega
 have d:(b<=57)↔ ¬((b.toNat:Int)>57):=by rw[UInt8.le_iff_toNat_le];show b.toNat<=57↔_;omega
 unfold np pl;have f:(b==45)=decide ((b.toNat:Int)=45):=by by_cases q:b=45<;>simp[q,e1.symm]
 have g:(b==more)=decide ((b.toNat:Int)=(more.toNat:Int)):=by
  by_cases q:b=more
  .simp[q]
  .have: ¬((b.toNat:Int)=(more.toNat:Int)):=λe=>q (e2.2 e)
   rw[az this];simp[q]
 rw[f,g];simp only[E,a,c,d];by_cases q1:(b.toNat:Int)<97<;>by_cases q2:(b.toNat:Int)>122<;>by_cases q3:(b.toNat:Int)<48<;>by_cases q4:(b.toNat:Int)>57<;>by_cases Q:(b.toNat:Int)=45<;>by_cases q6:(b.toNat:Int)=(more.toNat:Int)<;>simp[q1,q2,q3,q4,Q,q6]
end iT
end
end Go.Proofs.YtlenamcfacpheaaGreatDoor
namespace Go.Proofs
open Go.Den
open IntKind (wrap)
open Int (toNat)
section
open Go.Shelf
def Tryz.D6:Go.Shelf.Ren:=⟨fun|145=>313|220=>322|219=>326|217=>328|225=>329|224=>330|267=>331|266=>332|314=>333|n=>n,fun|9=>9|4=>4|59=>409|3=>3|5=>5|46=>211|146=>427|51=>315|n=>n,fun|1=>5|n=>n⟩
theorem Tryz.Ob : Go.Proofs.Lays.n145 Tryz.prog Tryz.D6 := {
  mixed := by kernel_rfl
  f145 := Tryz.func313.trans (congrArg some (by kernel_rfl))
  f217 := Tryz.func328.trans (congrArg some (by kernel_rfl))
  f219 := Tryz.func326.trans (congrArg some (by kernel_rfl))
  f220 := Tryz.func322.trans (congrArg some (by kernel_rfl))
  f224 := Tryz.func330.trans (congrArg some (by kernel_rfl))
  f225 := Tryz.func329.trans (congrArg some (by kernel_rfl))
  f266 := Tryz.func332.trans (congrArg some (by kernel_rfl))
  f267 := Tryz.func331.trans (congrArg some (by kernel_rfl))
  f314 := Tryz.func333.trans (congrArg some (by kernel_rfl))
  t3 := Tryz.underlying3
  a3 := Tryz.isAgg3
  z3 := Tryz.sizeOf3
  v3 := Tryz.zeroValue3
  t4 := Tryz.underlying4
  a4 := Tryz.isAgg4
  z4 := Tryz.sizeOf4
  v4 := Tryz.zeroValue4
  t5 := Tryz.underlying5
  a5 := Tryz.isAgg5
  z5 := Tryz.sizeOf5
  v5 := Tryz.zeroValue5
  t9 := Tryz.underlying9
  a9 := Tryz.isAgg9
  z9 := Tryz.sizeOf9
  v9 := Tryz.zeroValue9
  t46 := Tryz.underlying211
  a46 := Tryz.isAgg211
  z46 := Tryz.sizeOf211
  v46 := Tryz.zeroValue211
  t51 := Tryz.underlying315
  a51 := Tryz.isAgg315
  z51 := Tryz.sizeOf315
  v51 := Tryz.zeroValue315
  t59 := Tryz.underlying409
  a59 := Tryz.isAgg409
  z59 := Tryz.sizeOf409
  v59 := Tryz.zeroValue409
  t146 := Tryz.underlying427
  a146 := Tryz.isAgg427
  z146 := Tryz.sizeOf427
  v146 := Tryz.zeroValue427
  g1 := by kernel_rfl }
def Tryz.D7:Go.Shelf.Ren:=⟨fun|103=>312|210=>321|206=>325|n=>n,fun|9=>9|4=>4|24=>407|3=>3|n=>n,fun|n=>n⟩
theorem Tryz.Oc : Go.Proofs.Lays.n103 Tryz.prog Tryz.D7 := {
  mixed := by kernel_rfl
  f103 := Tryz.func312.trans (congrArg some (by kernel_rfl))
  f206 := Tryz.func325.trans (congrArg some (by kernel_rfl))
  f210 := Tryz.func321.trans (congrArg some (by kernel_rfl))
  t3 := Tryz.underlying3
  a3 := Tryz.isAgg3
  z3 := Tryz.sizeOf3
  v3 := Tryz.zeroValue3
  t4 := Tryz.underlying4
  a4 := Tryz.isAgg4
  z4 := Tryz.sizeOf4
  v4 := Tryz.zeroValue4
  t9 := Tryz.underlying9
  a9 := Tryz.isAgg9
  z9 := Tryz.sizeOf9
  v9 := Tryz.zeroValue9
  t24 := Tryz.underlying407
  a24 := Tryz.isAgg407
  z24 := Tryz.sizeOf407
  v24 := Tryz.zeroValue407 }

end
end Go.Proofs
namespace Go.Proofs.YtlenamcfacpheaaGreatDoor
open Go.Den
open IntKind (wrap)
open Int (toNat)
section
namespace mD
variable {h h':aj} {R:fj}
variable {s:ByteArray}
def Mx(h:aj):Prop:= ∃m,aX h ⟨5,0,none⟩=some (.int .i64 m)
theorem Mx.on(M:Mx h)(f:Fr No h h'):Mx h':=by
 obtain⟨m,H⟩:=M;exact⟨m,f.cell H id⟩
theorem CG{S:ByteArray}(M:Mx h)(c:s.size<4294967281)(hk:R (.tuple #[.string ⟨(Lib.cut s.data.toList S.data.toList).1.toArray⟩,.string ⟨(Lib.cut s.data.toList S.data.toList).2.1.toArray⟩,.bool (Lib.cut s.data.toList S.data.toList).2.2]) h):Cl 313 #[.string s,.string S] h R:=λw d=>by
 subst d;obtain⟨m,b⟩:=M;refine(Any.strings_Cut Tryz.Ob s S m w c (by rw[jX];exact b)).mono λe w' ⟨a,n,H⟩=>⟨_,a,?_,?_⟩
 .rw[H];exact hk
 .rw[H];exact⟨rfl,rfl,rfl⟩
theorem Jz{p:ByteArray}(hk:R (.tuple #[.string ⟨(Lib.trimPrefix s.data.toList p.data.toList).toArray⟩,.bool (Lib.hasPrefix s.data.toList p.data.toList)]) h):Cl 312 #[.string s,.string p] h R:=λw b=>
 (Any.strings_CutPrefix Tryz.Oc s p w).mono λe w' ⟨a,H⟩=>⟨_,a,by rw[H,b];exact hk,by rw[H];exact fu.refl _⟩

end mD
end
section
namespace Bn
open Cb
open iT (Ev cN)
def oP(s q:Nat):Nat:=if s%2=1 then(s/2) ^^^ q else s/2
def qe(q:Nat):Nat->Nat->Nat
 |0,s=>s
 |k+1,s=>qe q k (oP s q)
def Pr(s c q:Nat):Nat:=qe q 8 (s ^^^ c)
def runN(s:Nat)(b:cH)(q:Nat):Nat:=b.foldl (λs c=>Pr s c.toNat q) s
def yL(b:cH):Nat:=65535 ^^^ (runN 65535 b 33800%65536)
def wU(b:cH):Nat:=4294967295 ^^^ runN 4294967295 b 2197175160
def CH(b:cH):cH:= [UInt8.ofNat (yL b/256),UInt8.ofNat (yL b)]
def HZ(b:cH):cH:= [UInt8.ofNat (wU b/16777216),UInt8.ofNat (wU b/65536),UInt8.ofNat (wU b/256),UInt8.ofNat (wU b)]
def D8(x:Ev):cH:= [47,47]++x.host.data.toList++ [47]++x.jd.data.toList
def AB(x:Ev):Tr:=if x=.zero then rC [num 1,num 0]else if x.jI=true then rC [num 2,rC [num x.node.toNat,num x.fX.toNat]]else rC [num 1,.mk 3 0 (D8 x) []]
def wV(s:cH):Ev:=⟨false,0,0,⟨(Lib.cut (Lib.trimPrefix s [47,47]) [47]).1.toArray⟩,⟨(Lib.cut (Lib.trimPrefix s [47,47]) [47]).2.1.toArray⟩⟩
def tY(s:cH):Bool:=Lib.hasPrefix s [47,47] && (Lib.cut (Lib.trimPrefix s [47,47]) [47]).2.2 && !(Lib.cut (Lib.trimPrefix s [47,47]) [47]).1.isEmpty && cN (wV s)
def at_(l:List Tr)(i:Nat):Tr:=l.getD i HV
def yM(l:List Tr):Bool:=l.all λt=>nC t (num t.n)
def LP(t:Tr):Ev:=⟨true,((at_ t.l 0).n:Int),((at_ t.l 1).n:Int),⟨#[]⟩,⟨#[]⟩⟩
def nQ(V:cH->Bool)(t:Tr):Option Ev:=
 if gK V t=true/\t.k=4/\t.l.length=2 then
  if nC (at_ t.l 0) (num 1)=true/\nC (at_ t.l 1) (num 0)=true then some .zero
  else if nC (at_ t.l 0) (num 1)=true/\(at_ t.l 1).k=3 then(if tY (at_ t.l 1).b=true then some (wV (at_ t.l 1).b)else none)
  else if nC (at_ t.l 0) (num 2)=true then(if(at_ t.l 1).k=4/\(at_ t.l 1).l.length=2/\yM (at_ t.l 1).l=true/\cN (LP (at_ t.l 1))=true then some (LP (at_ t.l 1))else none)
  else none
 else none
structure iN where
 e:Ev
 tm:Nat
 sq:Nat
deriving DecidableEq
def iN.zero:iN:=⟨.zero,0,0⟩
def gL(x:iN):Bool:=cN x.e && decide (x.tm<=1099511627776) && decide (x.sq<=1099511627776)
def LQ(x:iN):Tr:=rC [AB x.e,rC [num x.tm,num x.sq]]
def ku(V:cH->Bool)(t:Tr):Option iN:=
 if t.k=4/\t.l.length=2/\(at_ t.l 1).k=4/\(at_ t.l 1).l.length=2 then
  match nQ V (at_ t.l 0)with
  |none=>none
  |some e=>if gL ⟨e,(at_ (at_ t.l 1).l 0).n,(at_ (at_ t.l 1).l 1).n⟩=true/\nC (LQ ⟨e,(at_ (at_ t.l 1).l 0).n,(at_ (at_ t.l 1).l 1).n⟩) t=true then some ⟨e,(at_ (at_ t.l 1).l 0).n,(at_ (at_ t.l 1).l 1).n⟩else none
 else none
def typeAt(l:List Tr)(i:Nat):Int:=if i<l.length/\(at_ l i).n<=2/\nC (at_ l i) (num (at_ l i).n)=true then((at_ l i).n:Int)else -1
def sumOf(V:cH->Bool)(l:List Tr)(sum:Nat):Except Int (cH):=
 if gK V (rC (l++ [pn (List.replicate (2*sum) 0)]))=true then .ok (if sum=1 then CH (enc (rC (l++ [pn (List.replicate (2*sum) 0)])))else HZ (enc (rC (l++ [pn (List.replicate (2*sum) 0)]))))else .error 3
def mR(V:cH->Bool)(l:List Tr)(i:Nat):Except Int Tr:=
 if i<l.length then
  if l.all (gK V)=true/\0<=typeAt l i then
   if 0<typeAt l i then(match sumOf V l (typeAt l i).toNat with
    | .error e=> .error e
    | .ok b=>if gK V (rC (l++ [pn b]))=true then .ok (rC (l++ [pn b]))else .error 3)
   else if gK V (rC l)=true then .ok (rC l)else .error 3
  else .error 3
 else .error 1
def oZ(V:cH->Bool)(t:Tr)(i:Nat):Except Int (List Tr):=
 if gK V t=true/\t.k=4/\0<=typeAt t.l i then
  if typeAt t.l i=0 then .ok t.l
  else if i<t.l.length - 1/\nC (at_ t.l (t.l.length - 1)) (pn (at_ t.l (t.l.length - 1)).b)=true/\(at_ t.l (t.l.length - 1)).b.length=2*(typeAt t.l i).toNat then
   (match sumOf V (t.l.take (t.l.length - 1)) (typeAt t.l i).toNat with
   | .error e=> .error e
   | .ok b=>if b=(at_ t.l (t.l.length - 1)).b then .ok (t.l.take (t.l.length - 1))else .error 10)
  else .error 3
 else .error 3
structure Prim where
 fl:Nat
 sum:Int
 dest:Ev
 rep:Ev
 id:iN
 eV:Nat
deriving DecidableEq
def Prim.zero:Prim:=⟨0,0,.zero,.zero,.zero,0⟩
def QY(n all:Int):Bool:=IntKind.wrap .u64 ((BitVec.ofInt (IntKind.bits .u64) n &&& ~~~ BitVec.ofInt (IntKind.bits .u64) all).toNat:Int)==0
def ju(p:Prim):Bool:=QY (p.fl:Int) 409638 && decide (0<=p.sum) && decide (p.sum<=2) && cN p.dest && cN p.rep && gL p.id && decide (p.eV<=1099511627776)
def D9(p:Prim):List Tr:= [num 7,num p.fl,num p.sum.toNat,AB p.dest,AB p.id.e,AB p.rep,rC [num p.id.tm,num p.id.sq],num p.eV]
def mS(V:cH->Bool)(p:Prim):Except Int Tr:=if ju p=true then mR V (D9 p) 2 else .error 3
def vw(l:List Tr)(d r:Ev)(i:iN):Prim:=⟨(at_ l 1).n,((at_ l 2).n:Int),d,r,i,(at_ l 7).n⟩
def wW(V:cH->Bool)(t:Tr):Except Int Prim:=
 match oZ V t 2 with
 | .error e=> .error e
 | .ok l=>if l.length=8 then(match nQ V (at_ l 3),nQ V (at_ l 5),ku V (rC [at_ l 4,at_ l 6])with
  |some d,some r,some i=>(match mS V (vw l d r i)with
   | .ok a=>if nC a t=true then .ok (vw l d r i)else .error 3
   | .error _=> .error 3)
  |_,_,_=> .error 3)else .error 3
structure rE where
 ty:Nat
 nr:Nat
 fl:Nat
 sum:Int
 data:cH
deriving DecidableEq
def Ea(l:List Nat):Tr:=rC (l.map num)
def jv(V:cH->Bool)(bs:cH):Bool:=match oY V bs with| .ok (t,n)=>decide (n=bs.length) && decide (enc t=bs)| .error _=>false
def eJ(V:cH->Bool)(bs:cH):Tr:=match oY V bs with| .ok (t,_)=>t| .error _=>HV
def P6(V:cH->Bool)(d:cH):Bool:=jv V d && nC (eJ V d) (num (eJ V d).n) && decide ((eJ V d).n<=1099511627776)
def ni(t:Tr):Nat:=(at_ t.l 0).n
def yN(t:Tr):Nat:=(at_ t.l 1).n
def LR(V:cH->Bool)(d:cH):Bool:=jv V d && decide ((eJ V d).k=4/\(eJ V d).l.length=2) && nC (eJ V d) (Ea [ni (eJ V d),yN (eJ V d)]) && decide (1<=ni (eJ V d)/\ni (eJ V d)<=255/\yN (eJ V d)<=ni (eJ V d))
def yO(V:cH->Bool)(ty:Nat)(d:cH):Bool:=(if ty=6 then jv V d && (nQ V (eJ V d)).isSome else if ty=7 then P6 V d else if ty=10 then LR V d else true) && decide (d.length<=200)
def lg(n:Nat):Bool:=decide (1<=n/\n<=255)
def jM(V:cH->Bool)(b:rE):Bool:=lg b.ty && lg b.nr && QY (b.fl:Int) 23 && decide (0<=b.sum) && decide (b.sum<=2) && yO V b.ty b.data
def JA(b:rE):List Tr:= [num b.ty,num b.nr,num b.fl,num b.sum.toNat,pn b.data]
def rF(V:cH->Bool)(b:rE):Except Int Tr:=if jM V b=true then mR V (JA b) 3 else .error 3
def qg(l:List Tr):rE:=⟨(at_ l 0).n,(at_ l 1).n,(at_ l 2).n,((at_ l 3).n:Int),(at_ l 4).b⟩
def yP(V:cH->Bool)(t:Tr):Except Int rE:=
 match oZ V t 3 with
 | .error e=> .error e
 | .ok l=>if l.length=5/\(at_ l 4).k=2 then(match rF V (qg l)with
  | .ok a=>if nC a t=true then .ok (qg l)else .error 3
  | .error _=> .error 3)else .error 3
structure pC where
 p:Prim
 bl:List rE
deriving DecidableEq
def alone(k:Nat):Bool:=decide (k=1\/k=6\/k=7\/k=10)
def apart(b c:rE):Bool:=decide (c.nr≠b.nr) && (decide (c.ty≠b.ty)|| !alone b.ty)
def Gd(V:cH->Bool):List rE->List rE->Bool
 |_, []=>true
 |pre,b::l=>jM V b && pre.all (apart b) && Gd V (pre++ [b]) l
def AD(V:cH->Bool)(l:List rE):Bool:=match l.getLast? with
 |none=>false
 |some z=>decide (l.length<=8) && decide (z.ty=1/\z.nr=1) && Gd V [] l
def yQ(V:cH->Bool)(t:Tr):cH:=if gK V t=true then enc t else []
def Eb(V:cH->Bool):List rE->cH->Option (cH)
 | [],out=>some out
 |b::l,out=>match rF V b with
  | .error _=>none
  | .ok t=>Eb V l (out++yQ V t)
def qh(V:cH->Bool)(b:pC):Option (cH):=match mS V b.p with
 | .error _=>none
 | .ok t=>Eb V b.bl (yQ V t)
def kJ(V:cH->Bool)(b:pC):Option (cH):=
 if AD V b.bl=true then(match qh V b with
  |none=>none
  |some l=>if l.length<=598 then some (159::(l++ [255]))else none)
 else none
def Ec(V:cH->Bool):List Tr->List rE->Except Int (List rE)
 | [],out=> .ok out
 |t::l,out=>match yP V t with
  | .error e=> .error e
  | .ok b=>Ec V l (out++ [b])
def sH(V:cH->Bool)(bs:cH):Except Int pC:=
 if bs.length<=1200 then(match oY V bs with
  | .error e=> .error e
  | .ok (t,n)=>if n=bs.length/\t.k=4/\2<=t.l.length/\t.l.length<=9 then(match wW V (at_ t.l 0)with
   | .error e=> .error e
   | .ok p=>(match Ec V (t.l.drop 1) []with
    | .error e=> .error e
    | .ok l=>if(kJ V ⟨p,l⟩).isSome=true then .ok ⟨p,l⟩else .error 3))else .error 3)
 else .error 2
def xh(b:pC):cH:=match b.bl.getLast? with|none=> []|some z=>z.data
structure Aq where
 rc:Bool
 dl:Bool
 de:Bool
 reason:Nat
 at':Nat
 of:iN
deriving DecidableEq
def ic(r:Aq):Bool:=(r.rc||r.dl||r.de) && decide (r.reason<=255) && decide (r.at'<=1099511627776) && gL r.of
def Ed(l:List Bool):Tr:=rC (l.map λb=>num (if b=true then 1 else 0))
def CI(r:Aq):Tr:=rC [num 1,rC [Ed [r.rc,r.dl,r.de],num r.reason,num r.at',LQ r.of]]
def JB(V:cH->Bool)(r:Aq):Option (cH):=if ic r=true/\gK V (CI r)=true then some (enc (CI r))else none
def kT(V:cH->Bool)(r:Aq)(dest:Ev)(id:iN)(eV:Nat):Option pC:=match JB V r with
 |none=>none
 |some b=>if(kJ V ⟨⟨2,0,dest,.zero,id,eV⟩, [⟨1,1,0,0,b⟩]⟩).isSome=true then some ⟨⟨2,0,dest,.zero,id,eV⟩, [⟨1,1,0,0,b⟩]⟩else none

end Bn
end
section
namespace Ask
open iT (Ev cN)
structure Rq where
 id:Nat
 kind:Int
 ep:Ev
 dest:Ev
 jA:Int
 num:Int
 iA:Int
 nj:cH
 eV:Nat
 token:Nat
 on:Bool
deriving DecidableEq
def iO(x:Rq):Rq:=⟨x.id,x.kind,.zero,.zero,0,0,0, [],0,0,false⟩
def rG(x:Rq):Rq:=
 if x.kind=1\/x.kind=3 then { iO x with ep:=x.ep,jA:=x.jA }
 else if x.kind=2\/x.kind=6 then { iO x with ep:=x.ep }
 else if x.kind=4 then { iO x with ep:=x.ep,dest:=x.dest,nj:=x.nj,eV:=x.eV,on:=x.on }
 else if x.kind=5\/x.kind=8\/x.kind=9 then { iO x with num:=x.num }
 else if x.kind=7 then { iO x with ep:=x.ep,iA:=x.iA }
 else if x.kind=10 then { iO x with on:=x.on }
 else if x.kind=12 then { iO x with token:=x.token }
 else iO x
def lj(e:Ev):Bool:=cN e && !decide (e=.zero)
def kU(x:Rq):Bool:=
 if x.kind=1\/x.kind=3 then lj x.ep && decide (x.jA≥0) && decide (x.jA<=2)
 else if x.kind=2\/x.kind=6 then lj x.ep
 else if x.kind=4 then lj x.ep && lj x.dest && decide (x.nj.length<=200) && decide (x.eV≥1) && decide (x.eV<=1099511627776)
 else if x.kind=5\/x.kind=8\/x.kind=9 then decide (x.num≥1) && decide (x.num<=1099511627776)
 else if x.kind=7 then lj x.ep && decide (x.iA≥1) && decide (x.iA<=1000)
 else if x.kind=12 then decide (x.token≥1) && decide (x.token<=2147483648)
 else decide (x.kind=10\/x.kind=11)
def kx(x:Rq):Bool:=decide (x.id≥1) && decide (x.id<=1099511627776) && kU x && decide (x=rG x)

end Ask
end
section
variable {h:aj} {R:fj}
variable {w B c r:Nat} {n:Int} {d:cg}
theorem nk.walk{s:cg}{a S:Nat}(g:if s.isNone then R (.Z) h else aQ h (.cells #[] 5) λb H=>aU Tryz.prog (Builtin.append_ #[22,22] 22 #[.slice (Sa b 0) 0 0,.slice s a S]) H λv f=> ∃e T t,v=.slice e T t/\R (.slice e T t) f):Cl 50 #[.slice s a S] h R:=aN (lq (sq (lq (cq ll lf)) ll)) Tryz.func50 g
theorem Ge.walk(a:aQ h (.cells #[.bool true,.Z] 209) λb H=>R (.P b 0) H):Cl 65 #[] h R:=aN (lq ll) Tryz.func65 a
theorem tZ.walk (u:aG (λ(t13:Bool) (a:aj)=>if t13 then R (.P w 0) a else∃(I:Int->aj->Prop)(m:Int->aj->Nat),I n a/\∀(N:Int)(H:aj),I N H->if(decide (N>127))then Hl H w 1 λz y x=>aQ H (.cells #[.int .u8 (wrap .u8 ((pB (wrap .u8 N)|||pB 128).toNat:Int))] 5) λb l=>aU Tryz.prog (Builtin.append_ #[22,22] 22 #[.slice z y x,.slice (Sa b 0) 1 1]) l λv o=> ∃f T t,v=.slice f T t/\aO o (AA w 1) (.slice f T t) λe=>(I (Int.fdiv N (2 ^ min (toNat 7) (IntKind.bits .u64))) e/\m (Int.fdiv N (2 ^ min (toNat 7) (IntKind.bits .u64))) e<m N H)else Hl H w 1 λD C A=>aQ H (.cells #[.int .u8 (wrap .u8 N)] 5) λk p=>aU Tryz.prog (Builtin.append_ #[22,22] 22 #[.slice D C A,.slice (Sa k 0) 1 1]) p λV q=> ∃j i g,V=.slice j i g/\aO q (AA w 1) (.slice j i g) λs=>R (.P w 0) s) (λJ=> ∃t11,Cc h w 0 (.bool t11)/\J (!t11) h)):Cl 72 #[.P w 0,.U n] h R:=aN (lq (sq (sq (.join [(13,.one (.bool))] lf) (cq ll lf)) (sq (bq (.loop [(1,.one (.int .u64))] (sq (lq (cq lf lf)) (bq ll)))) (lq ll)))) Tryz.func72 u
theorem ua.walk(a:Cl 72 #[.P w 0,.U (wrap .u64 (if 0>n then 0 else n))] h λv H=> ∃t9,v=.pointer t9/\R (.pointer t9) H):Cl 66 #[.P w 0,.I n] h R:=aN (lq ll) Tryz.func66 a
theorem sI.walk(i:Cl 72 #[.P w 0,.U (wrap .u64 (B:Int))] h λv a=>Vp v λt9=>aG (λ(t17:Bool) (H:aj)=>aG (λ(e:aj)=>R (.P w 0) e) (λj=>if t17 then Hl H w 1 λm l k=>aU Tryz.prog (Builtin.append_ #[22,22] 22 #[.slice m l k,.slice d B c]) H λV f=> ∃b T t,V=.slice b T t/\aO f (AA w 1) (.slice b T t) λg=>j g else j H)) (λJ=> ∃t16,Cc a w 0 (.bool t16)/\J t16 a)):Cl 71 #[.P w 0,.slice d B c] h R:=aN (lq (lq (sq (sq (.join [(17,.one (.bool))] lf) (.join [] (cq lf lf))) ll))) Tryz.func71 i
theorem rH.walk(b:Hl h w 1 λg f e=>Cl 50 #[.slice g f e] h λv H=> ∃a T t,v=.slice a T t/\R (.slice a T t) H):Cl 67 #[.P w 0] h R:=aN (lq (sq (lq (cq ll lf)) ll)) Tryz.func67 b
theorem uc.walk{f:Nat}{e:Int}(a: ∃t7,Cc h f 0 (.I t7)/\if(t7==0)then aO h (AA f 0) (.I e) λH=>R (.tuple #[]) H else R (.tuple #[]) h):Cl 144 #[.P f 0,.I e] h R:=aN (lq (cq lf lf)) Tryz.func144 a
theorem Ee.walk(e:Cl 50 #[.slice d B c] h λv H=>Vl v λf T t=>aQ H (.cells #[.I 0,.bool true,.slice f T t] 221) λb a=>R (.P b 0) a):Cl 91 #[.slice d B c] h R:=aN (lq ll) Tryz.func91 e
theorem sJ.walk(H: ∃t9,Cc h r 1 (.bool t9)/\if t9 then∃t16,Cc h r 0 (.I t16)/\R (.bool (t16==0)) h else R (.bool false) h):Cl 143 #[.P r 0] h R:=aN (lq ll) Tryz.func143 H
theorem ud.walk (p:aG (λ(k:aj)=>R (.U 0) k) (λJ=> ∃(I:Int->Int->aj->Prop)(m:Int->Int->aj->Nat),I 0 0 h/\∀(n:Int)(i:Int)(f:aj),I n i f->Cl 143 #[.P r 0] f λv H=> ∃t7,v=.bool t7/\if t7 then∃s t q,Cc H r 2 (.slice s t q)/\if(((t:Nat):Int)==0)then Cl 144 #[.P r 0,.I 8] H λV l=>V=.tuple #[]/\J l else Hl H r 2 λx u A=>Bd 0 u/\aM x λa=>HR H (a.add (toNat 0*1)) λt25=>Hl H r 2 λy g T=>((0:Int)<=1/\1<=(g:Int))/\aO H (AA r 2) (.slice (cK y T (toNat 1) 1) (g - (toNat 1)) (T - (toNat 1))) λb=>aG (λ(t52:Bool) (e:aj)=>if t52 then Cl 144 #[.P r 0,.I 3] e λz o=>z=.tuple #[]/\J o else if wrap .i64 (7*i)<0 then False else if((wrap .u8 ((pB t25 &&& pB 128).toNat:Int))==0)then R (.U (wrap .u64 ((mM n|||mM (wrap .u64 ((wrap .u64 (wrap .u8 ((pB t25 &&& pB 127).toNat:Int)))*2 ^ min (toNat (wrap .i64 (7*i))) (IntKind.bits .u64)))).toNat:Int))) e else(I (wrap .u64 ((mM n|||mM (wrap .u64 ((wrap .u64 (wrap .u8 ((pB t25 &&& pB 127).toNat:Int)))*2 ^ min (toNat (wrap .i64 (7*i))) (IntKind.bits .u64)))).toNat:Int)) (wrap .i64 (i+1)) e/\m (wrap .u64 ((mM n|||mM (wrap .u64 ((wrap .u64 (wrap .u8 ((pB t25 &&& pB 127).toNat:Int)))*2 ^ min (toNat (wrap .i64 (7*i))) (IntKind.bits .u64)))).toNat:Int)) (wrap .i64 (i+1)) e<m n i f)) (λj=>if(i==10)then j true b else if((wrap .i64 (i*7))==63)then if(decide (t25>1))then j true b else if(t25==0)then j (decide (i>0)) b else j false b else if(t25==0)then j (decide (i>0)) b else j false b)else J H)):Cl 92 #[.P r 0] h R:=aN (lq (lq (sq (lq (.join [] (bq (.loop [(3,.one (.int .u64)),(4,.one (.int .i64))] (sq (lq (cq lf lf)) (sq (bq (sq (lq (cq ll lf)) (lq (lq (sq (sq (.join [(52,.one (.bool))] lf) (cq ll lf)) (lq (lq (cq ll lf)))))))) lf)))))) ll))) Tryz.func92 p
theorem qi.walk{t:Int}(b:Cl 92 #[.P r 0] h λv H=> ∃t7,v=.U t7/\if(decide (t7>t))then Cl 144 #[.P r 0,.I 3] H λV a=>V=.tuple #[]/\R (.U 0) a else R (.U t7) H):Cl 145 #[.P r 0,.U t] h R:=aN (lq (lq (sq (lq (cq (lq ll) lf)) ll))) Tryz.func145 b
theorem ue.walk(a:Cl 145 #[.P r 0,.U 1099511627776] h λv H=> ∃t4,v=.U t4/\R (.I (wrap .i64 t4)) H):Cl 93 #[.P r 0] h R:=aN (lq ll) Tryz.func93 a
theorem sK.walk (j:Cl 92 #[.P r 0] h λv f=>Vu v λt6=>Cl 143 #[.P r 0] f λV H=> ∃t8,V=.bool t8/\if(!t8)then R (.Z) H else∃l T k,Cc H r 2 (.slice l T k)/\if(decide (t6>(wrap .u64 ((T:Nat):Int))))then Cl 144 #[.P r 0,.I 8] H λu g=>u=.tuple #[]/\R (.Z) g else Hl H r 2 λm y t=>((0:Int)<=t6/\t6<=(t:Int))/\Cl 50 #[.slice (cK m t 0 1) ((toNat t6) - 0) (t - 0)] H λx a=>Vl x λq p o=>Hl a r 2 λs e b=>((0:Int)<=t6/\t6<=(e:Int))/\aO a (AA r 2) (.slice (cK s b (toNat t6) 1) (e - (toNat t6)) (b - (toNat t6))) λi=>R (.slice q p o) i):Cl 94 #[.P r 0] h R:=aN (lq (lq (sq (lq (cq ll lf)) (sq (lq (cq (lq ll) lf)) (lq (lq ll)))))) Tryz.func94 j
theorem uf.walk (a:aG (λ(t3:Bool) (H:aj)=>if t3 then R (.I 6) H else∃t18,Cc H r 0 (.I t18)/\if(t18 !=0)then∃t24,Cc H r 0 (.I t24)/\R (.I t24) H else∃b t T,Cc H r 2 (.slice b t T)/\if(decide (((t:Nat):Int)>0))then R (.I 2) H else R (.I 0) H) (λJ=> ∃t10,Cc h r 1 (.bool t10)/\J (!t10) h)):Cl 95 #[.P r 0] h R:=aN (lq (sq (bq (sq (.join [(3,.one (.bool))] lf) (cq ll (lq (cq ll (lq (cq ll lf))))))) ll)) Tryz.func95 a

end
section
namespace iD
variable {h:aj} {bs:cH} {R:fj}
variable {p:cg} {n c:Nat}
theorem tU:nJ Tryz.prog 22 5 1 1 (.int .u8 0):=⟨cU,cU,rfl⟩
theorem uU:Tryz.prog.underlying 22=some (.slice 5):=cU
theorem u8:Tryz.prog.underlying 5=some (.int .u8):=cU
theorem uS:Tryz.prog.underlying 9=some .string:=cU
theorem conv(a:Row h p (bc bs))(H:n=bs.length):pH Tryz.prog 22 9 (.slice p n c) h (str bs):=DQ uU u8 uS a H
theorem hC(H:Row h p (bc bs))(f:n=bs.length)(l:bs.length<=70368744177664)(hk: ∀P C h',fi h' P bs.length C 1 (bc bs)->Fr No h h'->(∀x,aL P x->h.size<=x)->R (.slice P bs.length C) h'):
  Cl 50 #[.slice p n c] h R:=by
 subst f;refine nk.walk ?_;cases p with
 |none=>
  have:bs= []:=by
   rcases H with H|⟨a,e,_⟩
   .cases bs with
    |nil=>rfl
    |cons b bs=>cases H
   .cases e
  subst this;exact hk none 0 h (.nil rfl rfl rfl rfl) (Fr.refl _ _) (λx ⟨a,e,_⟩=>by cases e)
 |some a=>
  simp only[Option.isNone_some,aq,aJ];refine cG ?_;have f1:Fr No h (h.push (.cells #[] 5)):=Fr.push _ _;refine dY (cs:= []) tU uU (.row h.size 0 #[] 5 rfl bR (bk _) bO rfl (λj v d=>by cases d)) (H.frame f1 cu) (by rw[iV,cv]) (pW bs) af af ?_;intro P C h' o1 _ f2 g;rw[bC,cD]at o1;refine⟨_,_,_,rfl,?_⟩;rw[bC];have G: ∀x,aL P x->h.size<=x:=λx i=>by
   rcases g x i with⟨a,e,rfl⟩|h2
   .cases e;exact bk _
   .simp at h2;omega
  exact hk P C h' o1 (f1.step f2 (λc k ⟨a,e,e2⟩=>by cases e;simp at e2;omega)) G
theorem P9{cs:Array Value}{K:cg->Nat->Nat->aj->Prop}(H:cs=(bc bs).toArray)(hk: ∀h',Row h' (Sa h.size 0) (bc bs)->Fr No h h'->K (Sa h.size 0) n n h'):
  aQ h (.cells cs 5) λb e=>aU Tryz.prog (convert 22 22 (.slice (Sa b 0) n n)) e λv f=> ∃(p:cg)(l c:Nat),v=.slice p l c/\K p l c f:=by
 subst H;refine cG (NZ uU u8 (a:=(AA h.size 0)) bR λd F g s o=>⟨_,_,_,rfl,?_⟩);refine hk d (.inr ⟨_,rfl,gA g (λj v i=>by rw[bC];simpa using i)⟩) ⟨by rw[s];simp,λc H _=>by rw[o c (by simp;omega),fv,dj]⟩

end iD
end
section
open Go.fM
namespace iD
variable {h j:aj} {w r:Nat} {S:Nat→Prop} {bs:cH} {e:Int} {R:fj}
variable {Q:Nat->Prop} {h':aj} {p:cg} {c n:Nat} {K:aj->Prop} {t:cH}
def Wr(h:aj)(w:Nat)(S:Nat->Prop)(bs:cH):Prop:=
 ∃p c,h[w]? =some (.cells #[.bool true,.slice p bs.length c] 209 (0,0))/\fi h p bs.length c 1 (bc bs)/\¬aL p w/\∀x,S x↔x=w\/aL p x
theorem Wr.lt(H:Wr h w S bs): ∀x,S x->x<h.size:=by
 obtain⟨p,c,a,o,_,b⟩:=H;intro x hx;rcases(b x).1 hx with rfl|hx
 .exact aC a
 .exact o.dV hx
theorem Wr.frame(H:Wr h w S bs)(b:Fr Q h h')(d: ∀x,S x->¬Q x):Wr h' w S bs:=by
 obtain⟨p,c,f,o,g,a⟩:=H;exact⟨p,c,b.get f (d w ((a w).2 (.inl rfl))),o.frame b (λx i=>d x ((a x).2 (.inr i))),g,a⟩
theorem gC(hk: ∀h' w S,Wr h' w S []->Fr No h h'->(∀x,S x->h.size<=x)->R (.P w 0) h'):Cl 65 #[] h R:=by
 refine Ge.walk (cG ?_);refine hk _ _ (λx=>x=h.size) ⟨none,0,bR,.nil rfl rfl rfl rfl,(λ⟨a,e,_⟩=>by cases e),λx=> ?_⟩ (Fr.push _ _) (λx H=>af);constructor
 .exact .inl
 .rintro(H|⟨a,e,_⟩)
  .exact H
  .cases e
theorem Wr.store{P:cg}{C:Nat}{H:aj}{cs:cH}(d:h[w]? =some (.cells #[.bool true,.slice p bs.length c] 209 (0,0)))(i: ¬aL p w)(a: ∀x,S x↔x=w\/aL p x)(o:fi H P (bs.length+n) C 1 (bc bs++bc cs))(f:Fr (aL p) h H)(g: ∀x,aL P x->aL p x\/h.size<=x)(m:n=cs.length)(hk: ∀h' s,Wr h' w s (bs++cs)->Step S h s h'->K h'):aO H (AA w 1) (.slice P (bs.length+n) C) K:=by
 subst m;have l:=f.get d i;have y:=aC d;have k: ¬aL P w:=λhx=>(g w hx).elim i (λb=>af)
 refine bH l bO λh' q u v=> ?_
 have f2:Fr (λx=>x=w) H h':=Fr.of_eq u v;refine hk h' (λx=>x=w\/aL P x) ⟨P,C,?_,?_,k,λx=>eE⟩ ⟨?_,?_⟩
 .rw[q,av];rfl
 .rw[av,jR];exact o.frame f2 (λx hx e=>k (e▸hx))
 .exact f.trans f2 (λx _ hx=>(a x).2 (.inr hx)) (λx _ hx=>(a x).2 (.inl hx))
 .rintro x (hx|hx)
  .exact .inl ((a x).2 (.inl hx))
  .exact(g x hx).imp (λb=>(a x).2 (.inr b)) id
theorem Wr.push{x:Int}{b:UInt8}(H:Wr h w S bs)(B:bs.length<=1099511627786)(z:x=(b.toNat:Int))(hk: ∀h' s,Wr h' w s (bs++ [b])->Step S h s h'->K h'):
  ∃(p:cg)(l c:Nat),aX h (AA w 1)=some (.slice p l c)/\
  aQ h (.cells #[.int .u8 x] 5) λb i=>
  aU Tryz.prog (Builtin.append_ #[22,22] 22 #[.slice p l c,.slice (Sa b 0) 1 1]) i λv k=>
  ∃(q:cg)(m d:Nat),v=.slice q m d/\aO k (AA w 1) (.slice q m d) K:=by
 obtain⟨p,c,a,o,y,u⟩:=H;refine⟨p,bs.length,c,ak a,?_⟩;refine iC tU uU o rfl (λv f=>by simp at f;subst f;rfl) af af ?_;intro P C A o1 f1 g;subst z;exact⟨_,_,_,rfl,Wr.store (cs:= [b]) a y u o1 f1 g rfl hk⟩
def SO(j:aj)(w:Nat)(s:Nat->Prop)(bs:cH)(N:Nat)(n:Int)(h:aj):Prop:=
 ∃(m:Nat)(S:Nat->Prop)(d:cH),n=(m:Int)/\m<18446744073709551616/\Wr h w S (bs++d)/\d++dt m=dt N/\Step s j S h
theorem fN{n:Int}(k:Nat)(H:Wr h w S bs)(B:bs.length<=1099511627776)(e:n=(k:Int))(x:k<18446744073709551616)(hk: ∀h' i,Wr h' w i (bs++dt k)->Step S h i h'->R (.P w 0) h'):Cl 72 #[.P w 0,.U n] h R:=by
 subst e;refine tZ.walk ?_;obtain⟨p,c,o,_⟩:=id H;refine aG.of λJ v=>⟨true,ak o,?_⟩
 subst v;simp only[cV,aq,aJ];clear o;refine⟨SO h w S bs k,λn _=>n.toNat,⟨k,S, [],rfl,x,cy H,rfl,Step.refl _ _⟩,?_⟩;rintro _ z ⟨m,y,d,rfl,u,f,hd,st⟩;have A:d.length<=10:=by
  have:=bT List.length hd;rw[av]at this;have:=(cj k).2;omega
 by_cases q:(m:Int)>127
 .simp only[q,bu,bf];refine f.push (by rw[av];omega) (Rb m) λl s g a=> ?_
  rw[SD];refine⟨⟨m/128,s,d++ [UInt8.ofNat (m%128+128)],rfl,af,by rwa[du]at g,?_,st.trans a⟩,?_⟩
  .rw[<-hd,wP u,fY];simp
  .show Int.toNat ((m/128:Nat):Int)<Int.toNat (m:Int);omega
 .simp only[q,bh,aq,aJ];refine f.push (by rw[av];omega) (b:=UInt8.ofNat m) (by rw[kI,fb]) λl s g a=> ?_
  refine hk l s ?_ (st.trans a);rwa[<-hd,wP u,dj,<-du]
theorem SP(n:Int)(H:n<=9223372036854775807):IntKind.wrap .u64 (if 0>n then 0 else n)=((fO n:Nat):Int):=by
 unfold fO;split
 .rw[wrap_u64 af af];omega
 .rw[wrap_u64 af af];omega
theorem ie{n:Int}(H:Wr h w S bs)(b:bs.length<=1099511627776)(d:n<=9223372036854775807)(hk: ∀h' s,Wr h' w s (bs++dt (fO n))->Step S h s h'->R (.P w 0) h'):Cl 66 #[.P w 0,.I n] h R:=
 ua.walk (fN (fO n) H b (SP n d) (by unfold fO;omega) λh' s a st=>⟨_,rfl,hk h' s a st⟩)
theorem uh(H:Wr h w S bs)(y:bs.length<=1099511627776)(B:Row h p (bc t))(z:n=t.length)(N:t.length<=1099511627776)(A: ∀x,aL p x->t≠ []->¬S x)(hk: ∀h' s,Wr h' w s (bs++ga t)->Step S h s h'->R (.P w 0) h'):Cl 71 #[.P w 0,.slice p n c] h R:=by
 subst z;refine sI.walk (fN t.length H y (wrap_u64 af af) af λL G k st1=>⟨_,rfl,?_⟩);obtain⟨q,d,b,o,D,C⟩:=k;refine aG.of λJ f=>⟨true,ak b,?_⟩
 subst f;refine aG.of λJ f=> ?_
 simp only[bf];subst f;refine⟨q,_,d,ak b,?_⟩;have M:=(cj t.length).2;rw[av];rw[av]at o;refine dY tU uU o (by
  by_cases i:t= []
  .rw[i];exact .inl rfl
  .exact B.frame st1.fr (λa e E=>A _ ⟨a,e,rfl⟩ i E)) (by rw[iV,cv]) (pW t) af af ?_
 intro P I h' o1 _ f2 g;refine⟨_,_,_,rfl,?_⟩;rw[av]at b;have:=Wr.store (n:=t.length) (cs:=t) (K:=λv=>R (Value.pointer (some { block:=w,off:=0 })) v) (bs:=bs++dt t.length) (by rw[av];exact b) D C (by rw[av];exact o1) f2 g rfl λu m l F=> ?_
 .rw[av]at this;exact this
 .exact hk u m (by unfold ga;rwa[du]at l) (st1.trans F)
theorem oQ(H:Wr h w S bs)(a:bs.length<=1099511627776)(f:Row h p (bc t))(b:n=t.length)(g:t.length<=1099511627776)(d: ∀x,aL p x->¬S x)(hk: ∀h' s,Wr h' w s (bs++ga t)->Step S h s h'->R (.P w 0) h'):Cl 71 #[.P w 0,.slice p n c] h R:=
 uh H a f b g (λx i _=>d x i) hk
theorem jh(H:Wr h w S bs)(b:bs.length<=70368744177664)(hk: ∀P C h',fi h' P bs.length C 1 (bc bs)->Fr No h h'->(∀x,aL P x->h.size<=x)->R (.slice P bs.length C) h'):Cl 67 #[.P w 0] h R:=by
 obtain⟨p,c,a,o,f,d⟩:=H;exact rH.walk ⟨p,_,c,ak a,hC o.jb rfl b λP C h' o1 f1 g=>⟨_,_,_,rfl,hk P C h' o1 f1 g⟩⟩
def Rd(h:aj)(r:Nat)(S:Nat->Prop)(e:Int)(bs:cH):Prop:=
 ∃p c,h[r]? =some (.cells #[.int .i64 e,.bool true,.slice p bs.length c] 221 (0,0))/\fi h p bs.length c 1 (bc bs)/\¬aL p r/\S r/\(∀x,aL p x->S x)/\∀x,S x->x<h.size
theorem Rd.lt(H:Rd h r S e bs): ∀x,S x->x<h.size:=by
 obtain⟨p,c,_,_,_,_,_,a⟩:=H;exact a
theorem Rd.self(H:Rd h r S e bs):S r:=by
 obtain⟨p,c,_,_,_,a,_,_⟩:=H;exact a
theorem Rd.frame(H:Rd h r S e bs)(a:Fr Q h h')(g: ∀x,S x->¬Q x):Rd h' r S e bs:=by
 obtain⟨p,c,k,o,l,d,f,i⟩:=H;exact⟨p,c,a.get k (g r d),o.frame a (λx b=>g x (f x b)),l,d,f,λx b=>ct (i x b) a.1⟩
theorem ui(f:Row h p (bc bs))(d:n=bs.length)(b:bs.length<=70368744177664)(hk: ∀h' r S,Rd h' r S 0 bs->Fr No h h'->(∀x,S x->h.size<=x)->R (.P r 0) h'):Cl 91 #[.slice p n c] h R:=by
 refine Ee.walk (hC f d b λP C a o1 f1 g=>⟨_,_,_,rfl,cG ?_⟩);refine hk _ _ (λx=>h.size<=x/\x<=a.size) ⟨P,C,bR,o1.frame (Fr.push (S:=λ_=>False) _ _) cu,?_,⟨f1.1,bk _⟩,?_,?_⟩ (Fr.on f1 (Fr.push _ _)) (λx H=>H.1)
 .intro H;have:=o1.dV H;omega
 .intro x H;have:=o1.dV H;exact⟨g x H,af⟩
 .intro x H;rw[dD];omega
theorem lH{E:Int}(H:Rd h r S e bs)(hk: ∀h',Rd h' r S (Lp e E) bs->Fr (λx=>x=r) h h'->R (.tuple #[]) h'):Cl 144 #[.P r 0,.I E] h R:=by
 obtain⟨p,c,b,o,d,g,i,l⟩:=id H;refine uc.walk ⟨e,ak b,?_⟩;unfold Lp at hk;by_cases j:e=0
 .subst j;simp only[eP,bf];refine bH b bO λh' m k q=> ?_
  have f:Fr (λx=>x=r) h h':=Fr.of_eq k q;exact hk h' ⟨p,c,m,o.frame f (λx a e=>d (e▸a)),d,g,i,λx a=>by rw[k];exact l x a⟩ f
 .simp only[da,j,aJ];simp only[j,aJ]at hk;exact hk h H (Fr.refl _ _)
theorem CJ(H:Rd h r S e bs)(hk:R (.bool (e==0)) h):Cl 143 #[.P r 0] h R:=by
 obtain⟨p,c,a,o,g,b,d,f⟩:=H;exact sJ.walk ⟨true,ak a,e,ak a,hk⟩
def Rj(j:aj)(r:Nat)(S:Nat->Prop)(bs:cH)(n i:Int)(h:aj):Prop:=
 ∃(k a:Nat)(rest:cH),i=(k:Int)/\n=(a:Int)/\k<=10/\a<2 ^ (7*k)/\a<18446744073709551616/\Rd h r S 0 rest/\Fr (λx=>x=r) j h/\FG k a rest=FG 0 0 bs
theorem xT(H:Rd h r S e bs)(hk: ∀h',Rd h' r S (eN e bs).2.1 (eN e bs).2.2->Fr (λx=>x=r) h h'->R (.U ((eN e bs).1:Int)) h'):
  Cl 92 #[.P r 0] h R:=by
 refine ud.walk (aG.of λf' E=> ?_);by_cases F:e=0
 .subst F;unfold eN at hk;rw[ag rfl]at hk;refine⟨Rj h r S bs,λ_ i _=>11 - i.toNat,⟨0,0,bs,rfl,rfl,af,bO,af,H,Fr.refl _ _,rfl⟩,?_⟩;rintro _ _ q ⟨k,a,rest,rfl,rfl,i',ha,g',z,f2,d⟩;refine CJ z ⟨_,rfl,?_⟩;simp only[eP,bf];obtain⟨p,c,g,o,G,h1,P,M⟩:=id z;refine⟨p,_,c,ak g,?_⟩;cases rest with
  |nil=>
   simp only[bm,Int.natCast_zero,eP,bf];refine lH z λh4 V f4=>⟨rfl,?_⟩
   subst E;rw[FG]at d;rw[<-d]at hk;exact hk h4 V (f2.tt f4)
  |cons b rest=>
   have O:((((b::rest).length:Nat):Int)==0)=false:=by simp only[aV,dC,ft];omega
   simp only[O,aq,aJ];refine⟨p,_,c,ak g,⟨af,by simp only[aV];omega⟩,?_⟩;obtain⟨Y,Z,rfl⟩:=o.some (by rw[iV];simp);refine ay.2 ⟨(b.toNat:Int),o.cell rfl,some (AA Y Z),_,c,ak g,⟨af,by simp only[aV];omega⟩,?_⟩;have o2:=o.sub (l:=1) (u:=(b::rest).length) bO (bk _);have L:((bc (b::rest)).take ((b::rest).length*1)).drop (1*1)=bc rest:=by
    simp only[cv];rw[bB (by rw[iV];exact bk _)];rfl
   rw[L]at o2;have el:(b::rest).length - Int.toNat 1=rest.length:=bO
   rw[el];have J:(b::rest).length - 1=rest.length:=bO
   rw[J]at o2;refine bH g bO λs T I U=> ?_
   have f5:Fr (λx=>x=r) q s:=Fr.of_eq I U;have A:Rd s r S 0 rest:=⟨_,_,T,o2.frame f5 (λx f e=>G (e▸lO f)),λf=>G (lO f),h1,λx f=>P x (lO f),λx f=>by rw[I];exact M x f⟩;have f25:=f2.tt f5;clear o2 T I U f5 L el J O o g P M G;have w1:IntKind.wrap .i64 ((k:Int)*7)=((7*k:Nat):Int):=by rw[bA af af];omega
   have w2:IntKind.wrap .i64 (7*(k:Int))=((7*k:Nat):Int):=by rw[bA af af];omega
   have w3:IntKind.wrap .i64 ((k:Int)+1)=((k+1:Nat):Int):=by rw[bA af af];omega
   have g:=b.toNat_lt;rw[FG]at d;refine aG.of λX d'=> ?_
   have fin:X (decide (k=10\/(k=9/\b.toNat>1)\/(b.toNat=0/\k>0))) s:=by
    subst d';by_cases v:k=10\/(k=9/\b.toNat>1)\/(b.toNat=0/\k>0)
    .simp only[v,bu,bf];rw[ag v]at d;refine lH A λh7 W f7=>⟨rfl,?_⟩
     subst E;rw[<-d]at hk;exact hk h7 W (f25.tt f7)
    .simp only[v,bh,aq,aJ];rw[ae v]at d;rw[w2,w3,dj,PY,PZ];have hd:b.toNat%128*2 ^ (7*k)<18446744073709551616:=by
      by_cases N:k=9
      .subst N;have:b.toNat%128<=1:=af
       have:=cF (2 ^ (7*9)) this;omega
      .have h8:k<=8:=af
       have p1:(2:Nat) ^ (7*k)<=2 ^ 56:=fH af af;have p2:b.toNat%128<=127:=af
       have:=Nat.mul_le_mul p2 p1;omega
     have key:IntKind.wrap .u64 ((b.toNat%128:Nat):Int)=((b.toNat%128:Nat):Int):=oI af;have e':7*k<=64:=af
     rw[key,P0 ha hd e'];by_cases y:b.toNat<128
     .simp only[y,bu,bf];rw[ag y]at d;rw[<-d]at hk;exact hk s A f25
     .simp only[y,bh,aq,aJ];rw[ae y]at d;have N:k<=8:=af
      have p3:(2:Nat) ^ (7*(k+1))=128*2 ^ (7*k):=by rw[Nat.mul_add,Nat.pow_add,fS]
      have p4:b.toNat%128+1<=128:=af
      have p5:=cF (2 ^ (7*k)) p4;rw[dO]at p5;have p6:(2:Nat) ^ (7*(k+1))<=2 ^ 63:=fH af af;refine⟨⟨k+1,_,rest,rfl,rfl,af,af,af,A,f25,d⟩,?_⟩;show 11 - Int.toNat ((k+1:Nat):Int)<11 - Int.toNat (k:Int);omega
   rw[w1];by_cases c1:k=10
   .subst c1;simpa using fin
   .have a':((k:Int)==10)=false:=by simp only[dC,ft];omega
    simp only[a',aq,aJ];by_cases B:k=9
    .subst B;by_cases D:b.toNat>1
     .have m:(b.toNat:Int)>1:=af
      have C: ¬b.toNat=0:=af
      simpa[D,m,C]using fin
     .have m: ¬(b.toNat:Int)>1:=af
      by_cases C:b.toNat=0
      .simpa[D,m,C]using fin
      .simpa[D,m,C]using fin
    .have b':(((7*k:Nat):Int)==63)=false:=by simp only[dC,ft];omega
     simp only[b',aq,aJ];by_cases C:b.toNat=0
     .have c5:decide ((k:Int)>0)=decide (k>0):=bO
      simp only[C,Int.natCast_zero,eP,bf,c5];simpa[c1,B,C]using fin
     .have c':((b.toNat:Int)==0)=false:=by simp only[dC,ft];omega
      simp only[c',aq,aJ];simpa[c1,B,C]using fin
 .refine⟨λ_ _ q=>q=h,λ_ _ _=>0,rfl,?_⟩;rintro _ _ q rfl;refine CJ H ⟨_,rfl,?_⟩;have:(e==0)=false:=by simpa using F
  simp only[this,aq,aJ];subst E;unfold eN at hk;rw[ae F]at hk;exact hk _ H (Fr.refl _ _)
theorem Od(T:Nat){t:Int}(i:t=(T:Int))(H:Rd h r S e bs)(hk: ∀h',Rd h' r S (hU T e bs).2.1 (hU T e bs).2.2->Fr (λx=>x=r) h h'->R (.U ((hU T e bs).1:Int)) h'):
  Cl 145 #[.P r 0,.U t] h R:=by
 subst i;refine qi.walk (xT H λf a f1=>⟨_,rfl,?_⟩);unfold hU at hk;by_cases b:(eN e bs).1>T
 .have:((eN e bs).1:Int)>(T:Int):=af
  simp only[this,bu,bf];rw[ag b]at hk;exact lH a λg d f2=>⟨rfl,hk g d (f1.tt f2)⟩
 .have: ¬((eN e bs).1:Int)>(T:Int):=af
  simp only[this,bh,aq,aJ];rw[ae b]at hk;exact hk f a f1
theorem CK(H:Rd h r S e bs)(hk: ∀h',Rd h' r S (kA e bs).2.1 (kA e bs).2.2->Fr (λx=>x=r) h h'->R (.I ((kA e bs).1:Int)) h'):
  Cl 93 #[.P r 0] h R:=
 ue.walk (Od 1099511627776 rfl H λb a f1=>⟨_,rfl,by
  have:=DW 1099511627776 e bs;rw[bA af af];exact hk b a f1⟩)
theorem LS(H:Rd h r S e bs)(V:bs.length<=70368744177664)(hk: ∀h' p c,Rd h' r S (jC e bs).2.1 (jC e bs).2.2->fi h' p (jC e bs).1.length c 1 (bc (jC e bs).1)->(∀x,aL p x->h.size<=x)->Fr (λx=>x=r) h h'->R (.slice p (jC e bs).1.length c) h'):
  Cl 94 #[.P r 0] h R:=by
 refine sK.walk (xT H λB d f1=>⟨_,rfl,CJ d ⟨_,rfl,?_⟩⟩);unfold jC at hk;have X:=FY e bs;have W:(eN e bs).2.2.length<=bs.length:=by
  unfold eN;split
  .exact Cw bs 0 0
  .exact bk _
 generalize eN e bs=N at*;obtain⟨n,E,rest⟩:=N;dsimp only at*;by_cases j:E=0
 .subst j;simp only[eP,cV,aq,aJ];obtain⟨p,c,f,o,Y,Z,k2,k3⟩:=id d;refine⟨p,_,c,ak f,?_⟩;rw[ag rfl]at hk;rw[wrap_u64 (n:=(rest.length:Int)) af af];by_cases m:n>rest.length
  .have:(n:Int)>(rest.length:Int):=af
   simp only[this,bu,bf];rw[ag m]at hk;exact lH d λD v f2=>⟨rfl,hk D none 0 v (.nil rfl rfl rfl rfl) (λx ⟨a,e,_⟩=>by cases e) (f1.tt f2)⟩
  .have: ¬(n:Int)>(rest.length:Int):=af
   simp only[this,bh,aq,aJ];rw[ae m]at hk;have U:=o.le;refine⟨p,_,c,ak f,af,?_⟩;have O:=o.sub (l:=0) (u:=n) af af;simp only[cv,gv,NW]at O;have A:(rest.take n).length=n:=by rw[bE];omega
   refine hC O.jb (by rw[A];omega) af λT z F M f4 G=>⟨_,_,_,rfl,?_⟩
   have y:=d.frame f4 cu;obtain⟨P,C,k,o2,q,I,J,L⟩:=y;refine⟨P,_,C,ak k,af,?_⟩;refine bH k bO λi q1 q2 q3=> ?_
   have f5:Fr (λx=>x=r) F i:=Fr.of_eq q2 q3;have s:=o2.sub (l:=n) (u:=rest.length) af (bk _);rw[cv,cv,<-iV rest,eO,iV,NY]at s;have g:(rest.drop n).length=rest.length - n:=bO
   refine hk i T z ⟨cK P C n 1,C - n,?_,?_,λb=>q (lO b),I,λx b=>J x (lO b),λx b=>by rw[q2];exact L x b⟩ (M.frame f5 (λx b e=> ?_)) (λx b=> ?_) (f1.tt ((f4.mono λ_ _=>False.elim).tt f5))
   .rw[g];simpa using q1
   .rw[g];exact s.frame f5 (λx b e=>q (e▸lO b))
   .have:=G x b;have:=aC f;omega
   .have:=G x b;have:=f1.1;omega
 .have:(E==0)=false:=by simpa using j
  simp only[this,ee,bf];rw[ae j]at hk;exact hk B none 0 d (.nil rfl rfl rfl rfl) (λx ⟨a,e,_⟩=>by cases e) f1
theorem Oe(H:Rd h r S e bs)(hk:R (.I (tM e bs)) h):Cl 95 #[.P r 0] h R:=by
 obtain⟨p,c,a,o,f,k,g,i⟩:=H;refine uf.walk (aG.of λJ d=>⟨true,ak a,?_⟩);subst d;simp only[cV,aq,aJ];refine⟨e,ak a,?_⟩;unfold tM at hk;by_cases j:e=0
 .subst j;simp only[bne_self_eq_false,aq,aJ];refine⟨p,_,c,ak a,?_⟩;rw[ag rfl]at hk;cases bs with
  |nil=>exact hk
  |cons b bs=>
   have:(((b::bs).length:Nat):Int)>0:=by simp only[aV];omega
   simp only[this,bu,bf];rwa[ae bO]at hk
 .have:(e !=0)=true:=by simpa using j
  simp only[this,bf];rw[ae j]at hk;exact⟨e,ak a,hk⟩

end iD
end
end Go.Proofs.YtlenamcfacpheaaGreatDoor
namespace Go.Den
theorem Of{P:Program}{S d e:TypeId}{h:aj}{s:ByteArray}{K:fj}(r:P.underlying S=some .string)(hd:P.underlying d=some (.slice e))(m:P.underlying e=some (.int .u8))(hk: ∀p c h',Row h' p (bc s.data.toList)->s.size<=c->Fr No h h'->(∀y,aL p y->h.size<=y)->K (.slice p s.size c) h'):aU P (convert S d (.string s)) h K:=by
 unfold convert;refine bP (s:=underlying S) (bz r) ?_;refine bP (s:=underlying d) (bz hd) ?_;show aU P (underlying e>>=_) h K;refine bP (s:=underlying e) (bz m) ?_;show aU P (Conv.stringToBytes e s) h K;unfold Conv.stringToBytes;rw[dJ];unfold choose;simp only[aU,Question.forced,aq,aJ,Question.cut];intro T;generalize x:s.size+T%(2 ^ 63 - s.size)=cap;have o:s.size<=cap:=af
 generalize l:(s.data.map λb=>Value.int .u8 (b.toNat:Int))++Array.replicate (cap - s.size) (Value.int .u8 0)=cs;have q: ∀j v,(bc s.data.toList)[j]? =some v->cs[0+j]? =some v:=λj v g=>by
  have i:=(aA.1 g).1;rw[iV,et]at i;rw[<-l,bC,dG (cy i),Array.getElem?_map,<-g];unfold bc;rw[aI,dz]
 show aU P (newRow e cs>>=_) h K;rw[dJ];show aU P (markStringish (AA h.size 0)>>=λ_=>pure (.slice (Sa h.size 0) s.size cap)) (h.push (.cells cs e)) K;rw[dJ];unfold markStringish shape;have u:ot (h.push (.cells cs e)) h.size=some (e,cs.size):=by simp[ot]
 show aU P (match ot (h.push (.cells cs e)) h.size with|some (_,n)=>freeze { block:=h.size,off:=n } 1|_=>pure ()) (h.push (.cells cs e)) _;rw[u];show K (.slice (Sa h.size 0) s.size cap) (ox (h.push (.cells cs e)) { block:=h.size,off:=cs.size } 1);unfold ox;rw[dj];refine hk _ _ _ (.inr ⟨_,rfl,gA (c:=cs) (t:=e) (f:=if(0:Nat)==0 then(cs.size,cs.size+1)else(min 0 cs.size,max 0 (cs.size+1))) ?_ q⟩) o ⟨bO,λc w _=> ?_⟩ (λy ⟨a,E,k⟩=>by cases E;exact Nat.le_of_eq k)
 .rw[df,ag rfl,bR];rfl
 .rw[df,ae (by simp;omega),fv,dj]
end Go.Den
namespace Go.Proofs.YtlenamcfacpheaaGreatDoor
open Go.Den
namespace iD
variable {h h' H : aj} {R : Value → aj → Prop}
theorem QZ{s:ByteArray}{K:fj}(hk: ∀p c h',Row h' p (bc s.data.toList)->s.size<=c->Fr No h h'->(∀y,aL p y->h.size<=y)->K (.slice p s.size c) h'):aU Tryz.prog (convert 9 22 (.string s)) h K:=Of uS uU u8 hk
end iD
end Go.Proofs.YtlenamcfacpheaaGreatDoor
namespace Go.Proofs.YtlenamcfacpheaaGreatDoor
open Go.Den
open IntKind (wrap)
open Int (toNat)
section
open Go.fM
namespace iD
variable {h h' g:aj} {p:cg} {l c:Nat} {bs:List (cH)}
abbrev qj(n:BV):List Value:= [n.val]
theorem tN:nJ Tryz.prog 64 22 1 24 (.Z):=⟨cU,cU,rfl⟩
theorem uN:Tryz.prog.underlying 64=some (.slice 22):=cU
theorem nR(n:BV):(qj n).length=1:=rfl
theorem LU(xs:List BV): ∀v∈xs.flatMap qj,fI v=true:=by
 intro v b;obtain⟨a,_,H⟩:=List.mem_flatMap.1 b;simp at H;subst H;rfl
def BL(g h:aj)(p:cg)(l c:Nat)(bs:List (cH)):Prop:=
 ∃(xs:List BV)(D:Nat->Prop),l=xs.length/\fi h p l c 1 (xs.flatMap qj)/\xs.map BV.b=bs/\(∀x∈xs,x.ok h D)/\(∀y,D y->g.size<=y/\y<h.size/\¬aL p y)/\∀y,aL p y->g.size<=y
theorem BL.nil:BL g h none 0 0 []:=⟨[],λ_=>False,rfl,.nil rfl rfl rfl rfl,rfl,(λx H=>by cases H),(λy b=>b.elim),λy ⟨a,e,_⟩=>by cases e⟩
theorem BL.on(H:BL g h p l c bs)(f:Fr No h h'):BL g h' p l c bs:=by
 obtain⟨xs,D,d,e,i,j,a,k⟩:=H;exact⟨xs,D,d,e.frame f cu,i,λx m=>(j x m).frame f cu,λy b=>⟨(a y b).1,ct (a y b).2.1 f.1,(a y b).2.2⟩,k⟩
theorem BL.len(H:BL g h p l c bs):l=bs.length:=by
 obtain⟨xs,D,a,_,b,_⟩:=H;rw[a,<-b,aF]
theorem BL.lt(H:BL g h p l c bs){y:Nat}(b:aL p y):y<h.size:=by
 obtain⟨xs,D,_,a,_⟩:=H;exact a.dV b
theorem BL.mono{a:aj}(H:BL a h p l c bs)(e:g.size<=a.size):BL g h p l c bs:=by
 obtain⟨xs,D,a,f,i,j,d,k⟩:=H;exact⟨xs,D,a,f,i,j,λy b=>⟨cM e (d y b).1,(d y b).2⟩,λy b=>cM e (k y b)⟩
theorem BL.push{b:cH}{q:cg}{d:Nat}{K:fj}(H:BL g h p l c bs)(up:g.size<=h.size)(o:fi h q b.length d 1 (bc b))(i: ∀y,aL q y->g.size<=y/\¬aL p y)(r:l<=1000000)(hk: ∀P C h',BL g h' P (l+1) C (bs++ [b])->Fr (aL p) h h'->(∀y,aL P y->aL p y\/h.size<=y)->K (.slice P (l+1) C) h'):
  aQ h (.cells #[.slice q b.length d] 22) λB e=>aU Tryz.prog (Builtin.append_ #[64,64] 64 #[.slice p l c,.slice (Sa B 0) 1 1]) e K:=by
 obtain⟨xs,D,e,h2,k,m,a,n⟩:=H;refine iC tN uN h2 rfl (λv j=>by simp at j;subst j;rfl) af af ?_;intro P C h' O f G;have lt: ∀y,aL q y->y<h.size:=λy hy=>o.dV hy
 refine hk P C h' ⟨xs++ [⟨q,d,b⟩],λy=>D y\/aL q y,by rw[av,e];rfl,?_,?_,?_,?_,?_⟩ f G
 .rw[cW];simpa using O
 .rw[aW,k];rfl
 .intro x hx;rcases bN.1 hx with hx|hx
  .exact((m x hx).frame f (λy hy=>(a y hy).2.2)).mono (λy=> .inl)
  .simp at hx;subst hx;exact BV.j9 (o.frame f (λy hy=>(i y hy).2)) (λy=> .inr)
 .have z:=f.1;rintro y (hy|hy)
  .exact⟨(a y hy).1,bX ((a y hy).2.1),λhx=>(G y hx).elim (a y hy).2.2 (λh2=>bX ((a y hy).2.1))⟩
  .exact⟨(i y hy).1,bX (lt y hy),λhx=>(G y hx).elim (i y hy).2 (λh2=>bX (lt y hy))⟩
 .intro y hy;rcases G y hy with h2|h2
  .exact n y h2
  .omega
theorem BL.rows(H:BL g h p l c bs): ∃xs:List BV,l=xs.length/\Row h p (xs.flatMap qj)/\xs.map BV.b=bs/\l<=c/\∀x∈xs,Row h x.p (bc x.b):=by
 obtain⟨xs,D,b,a,d,e,i,j⟩:=H;exact⟨xs,b,a.jb,d,a.le,λx f=>(e x f).row⟩

end iD
end
section
variable {h:aj} {R:fj}
variable {a:Nat} {X c i key:Int}
theorem JC.walk(e:aQ h (.map #[] 0) λb H=>aQ H (.cells #[.Z,.map (some b)] 191) λB d=>R (.P B 0) d):Cl 87 #[] h R:=aN (lq ll) Tryz.func87 e
theorem vx.walk(H: ∃t9,Cc h a 1 (.map t9)/\R (.bool (!t9.isNone)) h):Cl 114 #[.P a 0] h R:=aN (lq ll) Tryz.func114 H
theorem xi.walk(H: ∃b t T,Cc h a 0 (.slice b t T)/\R (.I ((t:Nat):Int)) h):Cl 56 #[.P a 0] h R:=aN (lq (sq (lq (cq ll lf)) ll)) Tryz.func56 H
theorem Ef.walk{y:Int}{Y:Int}(e:aQ h (.cells #[.I X,.U c] 193) λb d=>aQ d (.cells #[.I y,.U Y] 193) λB H=>Hu H b 1 λt6=> ∃t8,Cc H B 1 (.U t8)/\if(decide (t6<t8))then R (.bool true) H else Hu H b 1 λt12=> ∃t14,Cc H B 1 (.U t14)/\if(t12==t14)then Hi H b 0 λt18=> ∃t20,Cc H B 0 (.I t20)/\R (.bool (decide (t18<t20))) H else R (.bool false) H):Cl 170 #[.agg #[.I X,.U c],.agg #[.I y,.U Y]] h R:=aN (lq ll) Tryz.func170 e
theorem xj.walk(g:aQ h (.cells #[.I X,.U c] 193) λb H=>Hl H a 0 λk j l=>Hi H b 0 λt=>Hu H b 1 λT=>Bd i j/\aM k λA=>aO H (A.add (toNat i*2)) (.I t) λe=>aO e ((A.add (toNat i*2)).add 1) (.U T) λd=> ∃t16,Cc d a 1 (.map t16)/\Hi d b 0 λt18=>aU Tryz.prog (Instr.mapUpdate 167 (.map t16) (.I t18) (.I i)) d λ_ f=>R (.tuple #[]) f):Cl 116 #[.P a 0,.I i,.agg #[.I X,.U c]] h R:=aN (lq (sq (pN 8) (pN 8))) Tryz.func116 g
theorem yR.walk (hv: ∃(I:Int->aj->Prop)(Q:Int->aj->Nat),(I i h)/\∀(d:Int)(H:aj),I d H->aG (λ(t28:Bool) (e:aj)=>if t28 then aG (λ(x:cg) (y:cg) (E:aj)=>aM x λL=>jV E L λk'=>gT E (L.add 1) λl'=>Cl 116 #[.P a 0,.I (wrap .i64 (Int.tdiv (wrap .i64 (d - 1)) 2)),.agg #[.I k',.U l']] E λv F=>v=.tuple #[]/\aM y λM=>jV F M λm'=>gT F (M.add 1) λn'=>Cl 116 #[.P a 0,.I d,.agg #[.I m',.U n']] F λo' P=>o'=.tuple #[]/\(I (wrap .i64 (Int.tdiv (wrap .i64 (d - 1)) 2)) P/\Q (wrap .i64 (Int.tdiv (wrap .i64 (d - 1)) 2)) P<Q d H)) (λK=>Hl e a 0 λs r u=>Bd d r/\aM s λj=>jV e (j.add (toNat d*2)) λk=>gT e ((j.add (toNat d*2)).add 1) λl=>Hl e a 0 λg f m=>Bd (wrap .i64 (Int.tdiv (wrap .i64 (d - 1)) 2)) f/\aM g λA=> ∃t,aX e (A.add (toNat (wrap .i64 (Int.tdiv (wrap .i64 (d - 1)) 2))*2))=some (.I t)/\∃T,aX e ((A.add (toNat (wrap .i64 (Int.tdiv (wrap .i64 (d - 1)) 2))*2)).add 1)=some (.U T)/\(aQ e (.cells #[.I 0,.U 0] 193) λb p=>dI (A.add (toNat (wrap .i64 (Int.tdiv (wrap .i64 (d - 1)) 2))*2)) [.I t,.U T] 0 p/\Cc p a 0 (.slice g f m)/\dI (j.add (toNat d*2)) [.I k,.U l] 0 p/\Cc p a 0 (.slice s r u)/\aQ p (.cells #[.I 0,.U 0] 193) λB q=>dI (A.add (toNat (wrap .i64 (Int.tdiv (wrap .i64 (d - 1)) 2))*2)) [.I t,.U T] 0 q/\Cc q a 0 (.slice g f m)/\dI (j.add (toNat d*2)) [.I k,.U l] 0 q/\Cc q a 0 (.slice s r u)/\aO q (AA b 0) (.I k) λf'=>aO f' (AA b 1) (.U l) λG=>dI (A.add (toNat (wrap .i64 (Int.tdiv (wrap .i64 (d - 1)) 2))*2)) [.I t,.U T] 0 G/\Cc G a 0 (.slice g f m)/\aO G (AA B 0) (.I t) λa'=>aO a' (AA B 1) (.U T) λb'=>K (Sa b 0) (Sa B 0) b')/\(aQ e (.cells #[.I 0,.U 0] 193) λw n=>dI (A.add (toNat (wrap .i64 (Int.tdiv (wrap .i64 (d - 1)) 2))*2)) [.I t,.U T] 0 n/\Cc n a 0 (.slice g f m)/\dI (j.add (toNat d*2)) [.I k,.U l] 0 n/\Cc n a 0 (.slice s r u)/\aQ n (.cells #[.I 0,.U 0] 193) λz o=>dI (A.add (toNat (wrap .i64 (Int.tdiv (wrap .i64 (d - 1)) 2))*2)) [.I t,.U T] 0 o/\Cc o a 0 (.slice g f m)/\dI (j.add (toNat d*2)) [.I k,.U l] 0 o/\Cc o a 0 (.slice s r u)/\aO o (AA z 0) (.I k) λc'=>aO c' (AA z 1) (.U l) λC=>dI (A.add (toNat (wrap .i64 (Int.tdiv (wrap .i64 (d - 1)) 2))*2)) [.I t,.U T] 0 C/\Cc C a 0 (.slice g f m)/\aO C (AA w 0) (.I t) λd'=>aO d' (AA w 1) (.U T) λe'=>K (Sa z 0) (Sa w 0) e')/\True)else R (.tuple #[]) e) (λJ=>if(decide (d>0))then Hl H a 0 λU S g'=>Bd d S/\aM U λN=>jV H (N.add (toNat d*2)) λh'=>gT H ((N.add (toNat d*2)).add 1) λi'=>Hl H a 0 λW V j'=>Bd (wrap .i64 (Int.tdiv (wrap .i64 (d - 1)) 2)) V/\aM W λO=> ∃Y,aX H (O.add (toNat (wrap .i64 (Int.tdiv (wrap .i64 (d - 1)) 2))*2))=some (.I Y)/\∃Z,aX H ((O.add (toNat (wrap .i64 (Int.tdiv (wrap .i64 (d - 1)) 2))*2)).add 1)=some (.U Z)/\Cl 170 #[.agg #[.I h',.U i'],.agg #[.I Y,.U Z]] H λp' D=>Vb p' λt27=>Cc D a 0 (.slice W V j')/\Cc D a 0 (.slice U S g')/\J t27 D else J false H)):Cl 117 #[.P a 0,.I i] h R:=aN (.scope 0 [(1,.one (.int .i64))] ll (lq (lq (sq (.join [(28,.one (.bool))] (pN 19)) (cq (sq (.join [(5,.one (.ptr)),(6,.one (.ptr))] (.gY (fJ 14 0 (.alts (.fork 14 (fJ 3 15 .done) (.fork 15 (.op 14 (.op 16 (.op 17 .done))) .gG)))))) (lq (lq ll))) lf))))) Tryz.func117 hv
theorem vy.walk (hv: ∃(I:Int->aj->Prop)(mu:Int->aj->Nat),(I i h)/\∀(d:Int)(F:aj),I d F->∃(z:Int->Int->aj->Prop)(i':Int->Int->aj->Nat),z d 0 F/\∀(B:Int)(t17:Int)(H:aj),z B t17 H->if(decide (t17<2))then aG (λ(d':Int) (f':aj)=>(z d' (wrap .i64 (t17+1)) f'/\i' d' (wrap .i64 (t17+1)) f'<i' B t17 H)) (λJ=>Bd t17 2/\(t17=((0:Nat):Int)->aG (λ(t43:Bool) (g':aj)=>aG (λ(z':Int) (H':aj)=>J z' H') (λQ=>if t43 then Q (wrap .i64 ((wrap .i64 (2*d))+1)) g' else Q B g')) (λP=> ∃l' N j',Cc H a 0 (.slice l' N j')/\if(decide ((wrap .i64 ((wrap .i64 (2*d))+1))<((N:Nat):Int)))then Hl H a 0 λp' n' J'=>Bd (wrap .i64 ((wrap .i64 (2*d))+1)) n'/\aM p' λW=> ∃r',aX H (W.add (toNat (wrap .i64 ((wrap .i64 (2*d))+1))*2))=some (.I r')/\∃t',aX H ((W.add (toNat (wrap .i64 ((wrap .i64 (2*d))+1))*2)).add 1)=some (.U t')/\Hl H a 0 λx' v' L'=>Bd B v'/\aM x' λY=>jV H (Y.add (toNat B*2)) λN'=>gT H ((Y.add (toNat B*2)).add 1) λP'=>Cl 170 #[.agg #[.I r',.U t'],.agg #[.I N',.U P']] H λv s=>Vb v λt42=>Cc s a 0 (.slice x' v' L')/\Cc s a 0 (.slice p' n' J')/\Cc s a 0 (.slice l' N j')/\P t42 s else P false H))/\(t17=((1:Nat):Int)->aG (λ(S':Bool) (h':aj)=>aG (λ(A':Int) (I':aj)=>J A' I') (λU=>if S' then U (wrap .i64 ((wrap .i64 (2*d))+2)) h' else U B h')) (λS=> ∃m' O k',Cc H a 0 (.slice m' O k')/\if(decide ((wrap .i64 ((wrap .i64 (2*d))+2))<((O:Nat):Int)))then Hl H a 0 λq' o' K'=>Bd (wrap .i64 ((wrap .i64 (2*d))+2)) o'/\aM q' λZ=> ∃s',aX H (Z.add (toNat (wrap .i64 ((wrap .i64 (2*d))+2))*2))=some (.I s')/\∃u',aX H ((Z.add (toNat (wrap .i64 ((wrap .i64 (2*d))+2))*2)).add 1)=some (.U u')/\Hl H a 0 λy' w' M'=>Bd B w'/\aM y' λa'=>jV H (a'.add (toNat B*2)) λO'=>gT H ((a'.add (toNat B*2)).add 1) λQ'=>Cl 170 #[.agg #[.I s',.U u'],.agg #[.I O',.U Q']] H λX' u=>Vb X' λR'=>Cc u a 0 (.slice y' w' M')/\Cc u a 0 (.slice q' o' K')/\Cc u a 0 (.slice m' O k')/\S R' u else S false H))/\True)else if(B !=d)then aG (λ(x:cg) (y:cg) (G:aj)=>aM x λb'=>jV G b' λT'=>gT G (b'.add 1) λU'=>Cl 116 #[.P a 0,.I B,.agg #[.I T',.U U']] G λY' K=>Y'=.tuple #[]/\aM y λc'=>jV K c' λV'=>gT K (c'.add 1) λW'=>Cl 116 #[.P a 0,.I d,.agg #[.I V',.U W']] K λZ' e'=>Z'=.tuple #[]/\(I B e'/\mu B e'<mu d F)) (λV=>Hl H a 0 λr q w=>Bd d q/\aM r λg=>jV H (g.add (toNat d*2)) λj=>gT H ((g.add (toNat d*2)).add 1) λk=>Hl H a 0 λf e l=>Bd B e/\aM f λA=>jV H (A.add (toNat B*2)) λt=>gT H ((A.add (toNat B*2)).add 1) λT=>(aQ H (.cells #[.I 0,.U 0] 193) λb m=>dI (A.add (toNat B*2)) [.I t,.U T] 0 m/\Cc m a 0 (.slice f e l)/\dI (g.add (toNat d*2)) [.I j,.U k] 0 m/\Cc m a 0 (.slice r q w)/\aQ m (.cells #[.I 0,.U 0] 193) λC n=>dI (A.add (toNat B*2)) [.I t,.U T] 0 n/\Cc n a 0 (.slice f e l)/\dI (g.add (toNat d*2)) [.I j,.U k] 0 n/\Cc n a 0 (.slice r q w)/\aO n (AA b 0) (.I j) λB'=>aO B' (AA b 1) (.U k) λL=>dI (A.add (toNat B*2)) [.I t,.U T] 0 L/\Cc L a 0 (.slice f e l)/\aO L (AA C 0) (.I t) λC'=>aO C' (AA C 1) (.U T) λD'=>V (Sa b 0) (Sa C 0) D')/\(aQ H (.cells #[.I 0,.U 0] 193) λD o=>dI (A.add (toNat B*2)) [.I t,.U T] 0 o/\Cc o a 0 (.slice f e l)/\dI (g.add (toNat d*2)) [.I j,.U k] 0 o/\Cc o a 0 (.slice r q w)/\aQ o (.cells #[.I 0,.U 0] 193) λE p=>dI (A.add (toNat B*2)) [.I t,.U T] 0 p/\Cc p a 0 (.slice f e l)/\dI (g.add (toNat d*2)) [.I j,.U k] 0 p/\Cc p a 0 (.slice r q w)/\aO p (AA E 0) (.I j) λE'=>aO E' (AA E 1) (.U k) λM=>dI (A.add (toNat B*2)) [.I t,.U T] 0 M/\Cc M a 0 (.slice f e l)/\aO M (AA D 0) (.I t) λF'=>aO F' (AA D 1) (.U T) λG'=>V (Sa E 0) (Sa D 0) G')/\True)else R (.tuple #[]) H):Cl 169 #[.P a 0,.I i] h R:=aN (.scope 0 [(1,.one (.int .i64))] ll (lq (lq (sq (lq (bq (.loop [(4,.one (.int .i64)),(17,.one (.int .i64))] (lq (sq (cq lf lf) (sq (.join [(4,.one (.int .i64))] (bq (lq (sq (.join [(43,.one (.bool))] (pN 24)) (.join [(4,.one (.int .i64))] (cq lf lf)))))) lf)))))) (lq (cq (sq (.join [(7,.one (.ptr)),(8,.one (.ptr))] (.gY (fJ 14 0 (.alts (.fork 14 (fJ 3 15 .done) (.fork 15 (.op 14 (.op 16 (.op 17 .done))) .gG)))))) (lq (lq ll))) lf)))))) Tryz.func169 hv
theorem xm.walk{V:Int}(o:Cl 114 #[.P a 0] h λv H=> ∃t10,v=.bool t10/\if(!t10)then R (.I 6) H else aG (λ(t12:Bool) (d:aj)=>if t12 then R (.I 1) d else Cl 115 #[.P a 0,.I key] d λs e=>Vi s λt25=>Hl e a 0 λr q p=>aQ e (.cells #[.I 0,.U 0] 193) λb k=>aU Tryz.prog (Builtin.append_ #[189,189] 189 #[.slice r q p,.slice (Sa b 0) 1 1]) k λu l=> ∃g T t,u=.slice g T t/\aO l (AA a 0) (.slice g T t) λf=>Hl f a 0 λz j y=>Cl 116 #[.P a 0,.I (wrap .i64 ((j:Int) - 1)),.agg #[.I key,.U V]] f λw m=>w=.tuple #[]/\Cl 117 #[.P a 0,.I (wrap .i64 ((j:Int) - 1))] m λx n=>x=.tuple #[]/\R (.I 0) n) (λJ=>if(decide (key<1))then J true H else if(decide (key>1099511627776))then J true H else J (decide (V>1099511627776)) H)):Cl 51 #[.P a 0,.I key,.U V] h R:=aN (lq (sq (bq (lq (cq ll (sq (.join [(12,.one (.bool))] lf) (cq ll lf))))) (lq (lq (lq (lq (lq ll))))))) Tryz.func51 o
theorem vz.walk (s:Cl 114 #[.P a 0] h λv H=> ∃t10,v=.bool t10/\if(!t10)then R (.I 6) H else∃t16,Cc H a 1 (.map t16)/\∃T l,gW Tryz.prog 167 (.map t16) (.I key) true H (.tuple #[.I T,.bool l])/\if(!l)then R (.I 4) H else Hl H a 0 λF t E=>Hl H a 0 λw u G=>Bd (wrap .i64 ((t:Int) - 1)) u/\aM w λA=> ∃m,aX H (A.add (toNat (wrap .i64 ((t:Int) - 1))*2))=some (.I m)/\∃n,aX H ((A.add (toNat (wrap .i64 ((t:Int) - 1))*2)).add 1)=some (.U n)/\aQ H (.cells #[.I 0,.U 0] 193) λb o=>aO o (AA b 0) (.I m) λp=>aO p (AA b 1) (.U n) λj=>Hl j a 0 λx I g=>((0:Int)<=wrap .i64 ((t:Int) - 1)/\wrap .i64 ((t:Int) - 1)<=(g:Int))/\aO j (AA a 0) (.slice (cK x g 0 2) ((toNat (wrap .i64 ((t:Int) - 1))) - 0) (g - 0)) λk=> ∃t48,Cc k a 1 (.map t48)/\aU Tryz.prog (Builtin.delete_ #[167,3] 0 #[.map t48,.I key]) k λV d=>V=.tuple #[]/\aG (λ(q:aj)=>R (.I 0) q) (λJ=>if(decide (T<(wrap .i64 ((t:Int) - 1))))then Hi d b 0 λy=>Hu d b 1 λz=>Cl 116 #[.P a 0,.I T,.agg #[.I y,.U z]] d λB r=>B=.tuple #[]/\Cl 117 #[.P a 0,.I T] r λC e=>C=.tuple #[]/\∃t64,Cc e a 1 (.map t64)/\Hi e b 0 λt66=> ∃t67,gW Tryz.prog 167 (.map t64) (.I t66) false e (.I t67)/\Cl 169 #[.P a 0,.I t67] e λD f=>D=.tuple #[]/\Cc f b 0 (.I t66)/\Cc f a 1 (.map t64)/\J f else J d)):Cl 115 #[.P a 0,.I key] h R:=aN (lq (sq (lq (cq ll lf)) (lq (sq (lq (cq ll lf)) (lq (lq (lq (lq (sq (lq (.join [] (cq (lq (lq (pN 9))) lf))) ll))))))))) Tryz.func115 s
theorem vA.walk(d:Cl 56 #[.P a 0] h λv H=> ∃t6,v=.I t6/\if(t6==0)then R (.tuple #[.I 0,.U 0,.bool false]) H else Hl H a 0 λT t g=>Bd 0 t/\aM T λA=>jV H (A.add (toNat 0*2)) λt14=>Hl H a 0 λf e j=>Bd 0 e/\aM f λb=> ∃t21,aX H ((b.add (toNat 0*2)).add 1)=some (.U t21)/\R (.tuple #[.I t14,.U t21,.bool true]) H):Cl 171 #[.P a 0] h R:=aN (lq (sq (lq (cq ll lf)) (sq (pN 17) lf))) Tryz.func171 d
theorem vB.walk{now:Int}(x:Cl 171 #[.P a 0] h λv r=> ∃j k l,v=.tuple #[.I j,.U k,.bool l]/\∃(I:cg->Nat->Nat->Int->Int->Bool->aj->Prop)(m:cg->Nat->Nat->Int->Int->Bool->aj->Nat),I none 0 0 j k l r/\∀(d:cg)(O o:Nat)(key:Int)(V:Int)(is:Bool)(H:aj),I d O o key V is H->aG (λ(t20:Bool) (f:aj)=>if t20 then aQ f (.cells #[.I key] 3) λb s=>aU Tryz.prog (Builtin.append_ #[105,105] 105 #[.slice d O o,.slice (Sa b 0) 1 1]) s λy u=>Vl y λq p n=>Cl 115 #[.P a 0,.I key] u λz w=>Vi z λt33=>Cl 171 #[.P a 0] w λA g=> ∃t T e,A=.tuple #[.I t,.U T,.bool e]/\(I q p n t T e g/\m q p n t T e g<m d O o key V is H)else R (.slice d O o) f) (λJ=>if is then J (decide (V<=now)) H else J false H)):Cl 118 #[.P a 0,.U now] h R:=aN (lq (lq (sq (lq (bq (.loop [(5,.one (.slice)),(6,.one (.int .i64)),(7,.one (.int .u64)),(8,.one (.bool))] (sq (sq (.join [(20,.one (.bool))] lf) (cq lf lf)) (sq (bq ll) lf))))) ll))) Tryz.func118 x

end
end Go.Proofs.YtlenamcfacpheaaGreatDoor
