/-
  Ei is proved here: parts of xi proof, one behind xi other (texts of this work, merged by a program; GH xi theorem GI not use is left out). No condition.
-/
import Derived.Test.YtlenamcfacpheaaGreatDoorProg
import Derived.Shelf.Strings.Cut
import Derived.Shelf.Strconv.Itoa4
import Derived.Ground.NamesProg
import Derived.Shelf.Small.Wraps
import Derived.Test.YtlenamcfacpheaaGreatDoorMAscea
set_option maxRecDepth 100000
set_option maxHeartbeats 4000000
namespace Go.Den
def bc(bs:cM):List Value:=bs.map λb=> .int .u8 (b.toNat:Int)
theorem jq(bs:cM):(bc bs).length=bs.length:=by simp[bc]
theorem kh(bs cs:cM):bc (bs++cs)=bc bs++bc cs:=by simp[bc]
theorem Pe(bs:cM)(n:Nat):(bc bs).take n=bc (bs.take n):=by simp[bc,List.map_take]
theorem Pf(bs:cM)(n:Nat):(bc bs).drop n=bc (bs.drop n):=by simp[bc,List.map_drop]
theorem qJ(bs:cM): ∀v∈bc bs,fX v=true:=by
 intro v h;simp only[bc,bj]at h;obtain⟨b,_,rfl⟩:=h;rfl
def str(bs:cM):ByteArray:=⟨bs.toArray⟩
theorem xC(b:ByteArray): ∀(k i:Nat)(r:cM),b.size - i=k->i<=b.size->ByteArray.toList.loop b i r=r.reverse++b.data.toList.drop i
 |0,i,r,hk,H=>by
  have:i=b.size:=ae
  unfold ByteArray.toList.loop;rw[dz];have:b.data.toList.length<=i:=by rw[eR];exact Nat.le_of_eq this.symm
  rw[eJ this];simp
 |k+1,i,r,hk,H=>by
  have h:i<b.size:=ae
  unfold ByteArray.toList.loop;rw[ah h,xC b k (i+1) _ ae ae];have a:i<b.data.toList.length:=by rw[eR];exact h
  rw[da a];have:b.get! i=b.data.toList[i]:=by
   show b.data[i]! =_;rw[getElem!_pos b.data i h];simp
  rw[this];simp
theorem toList_data(b:ByteArray):b.toList=b.data.toList:=by
 unfold ByteArray.toList;rw[xC b _ 0 [] rfl (br _)];simp
theorem oC(bs:cM):(str bs).toList=bs:=by rw[toList_data];simp[str]
theorem Mz(s:ByteArray):str s.data.toList=s:=by cases s;simp[str]
section
variable {P : Program}
theorem EC(h:ak): ∀(bs:cM)(s:ByteArray),rd P (forIn (bc bs).toArray s λc s=>(do
   let .int .u8 n:=c|stuck "bytesToString: byte expected"
   pure (ForInStep.yield (s.push (UInt8.ofNat n.toNat))))) h=some ⟨s.data++bs.toArray⟩:=by
 intro bs;simp only[List.forIn_toArray];induction bs with
 |nil=>intro s;simp only[bc,List.map_nil,List.forIn_nil];show some s=_;cases s;simp
 |cons b bs i=>
  intro s;have e:bc (b::bs)=.int .u8 (b.toNat:Int)::bc bs:=rfl;rw[e,List.forIn_cons];rw[bE _ _ h (ForInStep.yield (s.push b)) (by show some (ForInStep.yield (s.push (UInt8.ofNat b.toNat)))=_;simp)];show rd P (forIn (bc bs) (s.push b) _) h=_;rw[i];simp[ByteArray.push]
theorem ED{S D e:TypeId}{h:ak}{p:bZ}{c n:Nat}{bs:cM}(j:P.underlying S=some (.slice e))(f:P.underlying e=some (.int .u8))(hd:P.underlying D=some .string)(H:Row h p (bc bs))(i:n=bs.length):qq P S D (.slice p n c) h (str bs):=by
 subst i;unfold qq convert;rw[bE _ _ _ _ (bJ j),bE _ _ _ _ (bJ hd)];show rd P (underlying e>>=_) h=_;rw[bE _ _ _ _ (bJ f)];show rd P (Conv.bytesToString (.slice p bs.length c)) h=_;cases p with
 |none=>
  have:bs= []:=by
   rcases H with H|⟨a,e,_⟩
   .cases bs with
    |nil=>rfl
    |cons b bs=>cases H
   .cases e
  subst this;rfl
 |some a=>
  have d:dM a (bc bs) 0 h:=by
   rcases H with H|⟨A,e,d⟩
   .rw[H];trivial
   .cases e;exact d
  have g:rd P (loadCells a bs.length) h=some (bc bs).toArray:=by
   unfold loadCells;rw[<-jq,iT (bc bs) 0 #[] h d];simp
  show rd P (loadCells a bs.length>>=λcells=>(forIn cells ByteArray.empty λc s=>(do
   let .int .u8 n:=c|stuck "bytesToString: byte expected"
   pure (ForInStep.yield (s.push (UInt8.ofNat n.toNat)))))>>=λs=>pure (Value.string s)) h=_
  rw[bE _ _ _ _ g,bE _ _ _ _ (EC h bs ByteArray.empty)];show some (Value.string ⟨ByteArray.empty.data++bs.toArray⟩)=_;have:(⟨ByteArray.empty.data++bs.toArray⟩:ByteArray)=str bs:=by
   unfold str;congr 1;show #[]++bs.toArray=bs.toArray;simp
  rw[this]
theorem Pg{t e:TypeId}{h:ak}{a:Addr}{n c:Nat}{K:fG}(d:P.underlying t=some (.slice e))(g:P.underlying e=some (.int .u8)){cs:Array Value}{C:TypeId}{f:Nat×Nat}(H:h[a.block]? =some (.cells cs C f))(hk: ∀h' F,h'[a.block]? =some (.cells cs C F)->h'.size=h.size->(∀x,x≠a.block->h'[x]? =h[x]?)->K (.slice (some a) n c) h'):aU P (convert t t (.slice (some a) n c)) h K:=by
 unfold convert;refine bU (s:=underlying t) (bJ d) ?_;refine bU (s:=underlying t) (bJ d) ?_;show aU P (underlying e>>=_) h K;refine bU (s:=underlying e) (bJ g) ?_;have j:(t==t)=true:=bQ
 rw[j];show aU P (markStringish a>>=λ_=>pure (.slice (some a) n c)) h K;rw[dR];unfold markStringish shape;have i:oZ h a.block=some (C,cs.size):=by simp[oZ,H]
 show aU P (match oZ h a.block with|some (_,n)=>freeze { block:=a.block,off:=n } 1|_=>pure ()) h _;rw[i];show K (.slice (some a) n c) (pd h { block:=a.block,off:=cs.size } 1);unfold pd;rw[dz];obtain⟨l,b⟩:=f;refine hk _ (if l==b then(cs.size,cs.size+1)else(min l cs.size,max b (cs.size+1))) ?_ bQ (λx k=> ?_)
 .simp[dy,H]
 .simp[dy,fv k]
theorem qH.bytes{h:ak}{t e:TypeId}{p:bZ}{len cap:Nat}(c:P.cellsOf e=1)(hk:P.underlying e=some (.int .u8))(d:P.underlying t=some (.slice e))(f:qH P h t (.slice p len cap)):
  ∃bs:cM,bs.length=len/\Row h p (bc bs):=by
 obtain⟨xs,H,a,b⟩:=qH.ints c hk d f;refine⟨xs.map λx=>UInt8.ofNat x.toNat,cH H,?_⟩;have:bc (xs.map λx=>UInt8.ofNat x.toNat)=xs.map (.int .u8 ·):=by
  unfold bc;rw[dK];refine dV λx g=> ?_
  have:=wf_u8 (b x g);simp only[Function.comp,fC,Value.int.injEq,true_and];omega
 rw[this];exact a
end
theorem rR.bytes{P:Program}{h:ak}{t e:TypeId}{n:Nat}{v:Value}(f:P.cellsOf e=1)(hk:P.underlying e=some (.int .u8))(d:P.underlying t=some (.slice e))(b:rR P h n t [v]): ∃p c bs,v=.slice p (bs:cM).length c/\Row h p (bc bs):=by
 have: ∃p l c,v=.slice p l c:=by
  cases n with
  |zero=>exact b.elim
  |succ n=>
   unfold rR at b;rw[d]at b;rcases b with H|⟨a,l,c,H,_⟩
   .simp at H;exact⟨_,_,_,H⟩
   .simp at H;exact⟨_,_,_,H⟩
 obtain⟨p,l,c,rfl⟩:=this;obtain⟨bs,g,i⟩:=qH.bytes f hk d ⟨n,b⟩;subst g;exact⟨p,c,bs,rfl,i⟩
theorem lJ(n:Nat):IntKind.wrap .u8 (n:Int)=((n%256:Nat):Int):=by
 show(n:Int)%256=_;omega
theorem pA{n:Nat}(h:n<18446744073709551616):IntKind.wrap .u64 (n:Int)=(n:Int):=wrap_u64 ae ae
theorem Tm(n:Nat):IntKind.wrap .u8 ((BitVec.ofInt (IntKind.bits .u8) (IntKind.wrap .u8 (n:Int))|||BitVec.ofInt (IntKind.bits .u8) 128).toNat:Int)=((UInt8.ofNat (n%128+128)).toNat:Int):=by
 have key: ∀m:Fin 256,(((BitVec.ofInt 8 (m.val:Int)|||BitVec.ofInt 8 128).toNat%256:Nat))=m.val%128+128:=dt
 rw[lJ n,lJ];have k:=key ⟨n%256,ae⟩;simp only at k;have e:IntKind.bits .u8=8:=rfl;rw[e,k];rw[fC];omega
theorem R1(c:UInt8):(IntKind.wrap .u8 ((BitVec.ofInt (IntKind.bits .u8) (c.toNat:Int) &&& BitVec.ofInt (IntKind.bits .u8) 128).toNat:Int)==0)=decide (c.toNat<128):=by
 have key: ∀m:Fin 256,(((((BitVec.ofInt 8 (m.val:Int) &&& BitVec.ofInt 8 128).toNat%256:Nat):Int))==0)=decide (m.val<128):=dt
 rw[lJ];exact key ⟨c.toNat,c.toNat_lt⟩
theorem R2(c:UInt8):IntKind.wrap .u8 ((BitVec.ofInt (IntKind.bits .u8) (c.toNat:Int) &&& BitVec.ofInt (IntKind.bits .u8) 127).toNat:Int)=((c.toNat%128:Nat):Int):=by
 have key: ∀m:Fin 256,((BitVec.ofInt 8 (m.val:Int) &&& BitVec.ofInt 8 127).toNat%256:Nat)=m.val%128:=dt
 rw[lJ];exact bP (λx:Nat=>(x:Int)) (key ⟨c.toNat,c.toNat_lt⟩)
theorem R3{n d i:Nat}(a:n<2 ^ i)(hd:d*2 ^ i<18446744073709551616)(h:i<=64):
  IntKind.wrap .u64 ((BitVec.ofInt (IntKind.bits .u64) (n:Int)|||BitVec.ofInt (IntKind.bits .u64) (IntKind.wrap .u64 ((d:Int)*2 ^ min (Int.toNat (i:Int)) (IntKind.bits .u64)))).toNat:Int)=((n+d*2 ^ i:Nat):Int):=by
 have E:IntKind.bits .u64=64:=rfl;have f:(0:Nat)<2 ^ i:=Nat.two_pow_pos i;rw[aC,E,Nat.min_eq_left h];have e1:((d:Int)*2 ^ i)=((d*2 ^ i:Nat):Int):=bQ
 rw[e1,pA hd];have b:n<18446744073709551616:=by
  have:(2:Nat) ^ i<=2 ^ 64:=fW ae h;omega
 have e2: ∀m:Nat,m<18446744073709551616->(BitVec.ofInt 64 (m:Int)).toNat=m:=λm c=>by
  rw[BitVec.toNat_ofInt];omega
 rw[BitVec.toNat_or,e2 n b,e2 _ hd];have e:n|||d*2 ^ i=n+d*2 ^ i:=by
  rw[Nat.or_comm,gi,<-Nat.two_pow_add_eq_or_of_lt a d];omega
 rw[e];refine pA ?_;have H:d<2 ^ (64 - i):=by
  have:(18446744073709551616:Nat)=2 ^ (64 - i)*2 ^ i:=by rw[<-Nat.pow_add,Nat.sub_add_cancel h]
  rw[this]at hd;exact Nat.lt_of_mul_lt_mul_right hd
 have:(d+1)*2 ^ i<=2 ^ (64 - i)*2 ^ i:=cQ _ H;rw[<-Nat.pow_add,Nat.sub_add_cancel h,dW]at this;omega
theorem Vw{n:Nat}:Int.fdiv (n:Int) (2 ^ min (Int.toNat 7) (IntKind.bits .u64))=((n/128:Nat):Int):=by
 show Int.fdiv (n:Int) 128=_;rw[Int.fdiv_eq_ediv_of_nonneg _ ae];omega
end Go.Den
namespace Go.Den
structure Step (S:Nat->Prop) (h:ak) (S':Nat->Prop) (h':ak):Prop where
 fr:Fr S h h'
 new: ∀c,S' c->S c\/h.size<=c
theorem Step.refl(S:Nat->Prop)(h:ak):Step S h S h:=⟨Fr.refl _ _,λ_=> .inl⟩
theorem Step.trans{S s d:Nat->Prop}{h H e:ak}(a:Step S h s H)(b:Step s H d e):Step S h d e:=
 ⟨a.fr.trans b.fr cb (λc hc f=>(a.new c f).resolve_right ae),λc hc=>by
  rcases b.new c hc with hc|hc
  .exact a.new c hc
  .have:=a.fr.1;exact .inr ae⟩
theorem Step.apart{S s Q:Nat->Prop}{h h':ak}(st:Step S h s h')(hd: ∀c,S c->¬Q c)(b: ∀c,Q c->c<h.size): ∀c,s c->¬Q c:=λc a H=>by
 rcases st.new c a with h1|h1
 .exact hd c h1 H
 .have:=b c H;omega
theorem Fr.fresh{S:Nat->Prop}{h H a:ak}(f:Fr (λ_=>False) h H)(g:Fr S H a)(b: ∀c,S c->h.size<=c):Fr (λ_=>False) h a:=
 f.step g λc e d=>by have:=b c d;omega
theorem Ku{h:ak}{c:Array Value}{t:TypeId}{f:Nat×Nat}{i:Nat}{v:Value}:oy (h.push (.cells c t f)) (AA h.size i) v=h.push (.cells (c.setIfInBounds i v) t f):=by
 apply Array.ext
 .simp[oy]
 .intro j a b;have e: ∀(x:ak)(H:j<x.size),x[j]? =some x[j]:=λx H=>Array.getElem?_eq_getElem H
  have:(oy (h.push (.cells c t f)) (AA h.size i) v)[j]? =(h.push (.cells (c.setIfInBounds i v) t f))[j]? :=by
   by_cases q:j=h.size
   .subst q;rw[vZ bV,bV]
   .rw[tL q];rw[fN,fN,af q,af q]
  rw[e _ a,e _ b]at this;exact bp this
theorem xD{h:ak}{c:Array Value}{t:TypeId}{i:Nat}{v:Value}{K:ak->Prop}(H:i<c.size)(hk:K (h.push (.cells (c.setIfInBounds i v) t (0,0)))):aQ (h.push (.cells c t (0,0))) (AA h.size i) v K:=by
 refine⟨?_,lF bV,?_⟩
 .rw[kf bV];simp[H]
 .rintro _ rfl;rw[Ku];exact hk
theorem cI{h:ak}{o:Obj}{K:Nat->ak->Prop}(hk:K h.size (h.push o)):aT h o K:=by
 rintro b h' rfl rfl;exact hk
section
variable {P : Program}
theorem iD{s x ty elem eT t:TypeId}{sz bytes:Nat}{z:Value}{h:ak}{p:bZ}{len cap:Nat}{cs:List Value}{xs:Array Value}{K:fG}(T:nW P s elem sz bytes z)(m:P.underlying x=some (.slice eT))(own:fi h p len cap sz cs)(n:xs.size=sz)(l: ∀v∈xs.toList,fX v=true)(e:(len+1)*bytes<=70368744177664)(f:len+1<=9223372036854775807)(hk: ∀a C h',fi h' a (len+1) C sz (cs++xs.toList)->Fr (aL p) h h'->(∀c,aL a c->aL p c\/h.size<=c)->K (.slice a (len+1) C) h'):
  aT h (.cells xs t) λb H=>aU P (Builtin.append_ #[s,x] ty #[.slice p len cap,.slice (Sa b 0) 1 1]) H K:=by
 refine cI ?_;have f1:Fr (λ_=>False) h (h.push (.cells xs t)):=Fr.push _ _;refine dD T m (own.frame f1 cb) (ds:=xs.toList) (.inr ⟨_,rfl,gO bV (λj v k=>by rw[bH];simpa using k)⟩) (by simp[n]) l e f ?_;intro a C h' o1 _ f2 g;exact hk a C h' o1 (Fr.no f1 f2) (λc i=>(g c i).imp id (λd=>by simp at d;omega))
end
end Go.Den
namespace Go.Den
structure Up (h0:ak) (S:Nat->Prop) (h:ak):Prop where
 fr:Fr (λ_=>False) h0 h
 ge: ∀c,S c->h0.size<=c
theorem Up.step{H h h':ak}{S s:Nat->Prop}(u:Up H S h)(st:Step S h s h'):Up H s h':=
 ⟨u.fr.fresh st.fr u.ge,λc a=>by
  rcases st.new c a with h1|h1
  .exact u.ge c h1
  .have:=u.fr.1;omega⟩
theorem Up.B1{H h h':ak}{S Q:Nat->Prop}(u:Up H S h)(f:Fr Q h h')(b: ∀c,Q c->S c):Up H S h':=⟨u.fr.fresh f (λc a=>u.ge c (b c a)),u.ge⟩
theorem iS{h:ak}{cs:List Value}{t:TypeId}:Row (h.push (.cells cs.toArray t)) (Sa h.size 0) cs:=.inr ⟨_,rfl,gO bV (λj v H=>by rw[bH];simpa using H)⟩
theorem eK(a:Addr):a.add 0=a:=by simp[Addr.add]
theorem my(a:Addr)(n:Nat):(a.add n).block=a.block:=by unfold Addr.add;split<;>rfl
theorem iK{h:ak}{p:bZ}{cs:List Value}(f:Row h p cs)(b:cs≠ []){x:Nat}(g:aL p x):x<h.size:=by
 obtain⟨a,rfl,rfl⟩:=g;rcases f with H|⟨A,e,H⟩
 .exact absurd H b
 .cases e;cases cs with
  |nil=>exact absurd rfl b
  |cons c cs=>
   obtain⟨_,_,_,d,_⟩:=tJ H.1;have:=aE d;rwa[my]at this
theorem Row.sub{h:ak}{p:bZ}{cs:List Value}(d:Row h p cs){cap l u sz:Nat}(e:l<=u)(f:u<=cap):Row h (cR p cap l sz) ((cs.take (u*sz)).drop (l*sz)):=by
 by_cases b:cap=l
 .left;have:u=l:=ae
  subst this;rw[List.drop_eq_nil_iff,bC];exact Nat.min_le_left _ _
 .unfold cR;rw[af b];rcases d with rfl|⟨a,rfl,c⟩
  .left;simp
  .refine .inr ⟨a.add (l*sz),rfl,kH.2 λj v H=> ?_⟩;rw[add_add,bH];rw[fD,db]at H;split at H
   .have:=kH.1 c (l*sz+j) v H;rwa[bH]at this
   .cases H
structure Ft where
 M:Nat->Prop
 D:Nat->Prop
structure bN (F:Ft) (h:ak) (F':Ft) (h':ak):Prop where
 fr:Fr F.M h h'
 jD: ∀c,F'.M c->F.M c\/h.size<=c
 lW: ∀c,F'.D c->F.D c\/h.size<=c
 wc: ∀c,F.D c->F'.D c
theorem bN.refl(F:Ft)(h:ak):bN F h F h:=⟨Fr.refl _ _,λ_=> .inl,λ_=> .inl,λ_=>id⟩
theorem bN.trans{F f d:Ft}{h H e:ak}(a:bN F h f H)(b:bN f H d e):bN F h d e:=by
 have z:=a.fr.1;refine⟨a.fr.trans b.fr cb (λc hc g=>(a.jD c g).resolve_right ae),λc hc=> ?_,λc hc=> ?_,λc hc=>b.wc c (a.wc c hc)⟩
 .rcases b.jD c hc with hc|hc
  .exact a.jD c hc
  .exact .inr ae
 .rcases b.lW c hc with hc|hc
  .exact a.lW c hc
  .exact .inr ae
theorem bN.uT{F:Ft}{h h':ak}(f:Fr F.M h h'):bN F h F h':=⟨f,λ_=> .inl,λ_=> .inl,λ_=>id⟩
theorem bN.iP{F:Ft}{h h':ak}(f:Fr (λ_=>False) h h'):bN F h F h':=.uT (f.mono λ_ _=>False.elim)
theorem bN.no{F a:Ft}{h H c:ak}(f:Fr (λ_=>False) h H)(b:bN F H a c):bN F h a c:=(bN.iP f).trans b
theorem bN.on{F b:Ft}{h H c:ak}(a:bN F h b H)(f:Fr (λ_=>False) H c):bN F h b c:=a.trans (bN.iP f)
theorem bN.apart{F f:Ft}{Q:Nat->Prop}{h h':ak}(st:bN F h f h')(hd: ∀c,F.M c\/F.D c->¬Q c)(a: ∀c,Q c->c<h.size): ∀c,f.M c\/f.D c->¬Q c:=λc hc H=>by
 have:=a c H;rcases hc with hc|hc
 .rcases st.jD c hc with h1|h1
  .exact hd c (.inl h1) H
  .omega
 .rcases st.lW c hc with h1|h1
  .exact hd c (.inr h1) H
  .omega
structure MA (h0:ak) (F:Ft) (h:ak):Prop where
 fr:Fr (λ_=>False) h0 h
 ge: ∀c,F.M c\/F.D c->h0.size<=c
theorem MA.step{H h h':ak}{F f:Ft}(u:MA H F h)(st:bN F h f h'):MA H f h':=by
 have z:=u.fr.1;refine⟨u.fr.fresh st.fr (λc hc=>u.ge c (.inl hc)),λc hc=> ?_⟩;rcases hc with hc|hc
 .rcases st.jD c hc with h1|h1
  .exact u.ge c (.inl h1)
  .omega
 .rcases st.lW c hc with h1|h1
  .exact u.ge c (.inr h1)
  .omega
theorem MA.on{H h h':ak}{F:Ft}(u:MA H F h)(f:Fr (λ_=>False) h h'):MA H F h':=⟨u.fr.tt f,u.ge⟩
theorem qK{b:Nat}{t:TypeId}: ∀(vs:List Value)(i:Nat)(h:ak)(c:Array Value)(K:ak->Prop),h[b]? =some (.cells c t (0,0))->i+vs.length<=c.size->vs.all fX=true->
  (∀h' C,h'[b]? =some (.cells C t (0,0))->C.size=c.size->(∀j,j<i\/i+vs.length<=j->C[j]? =c[j]?)->(∀j v,vs[j]? =some v->C[i+j]? =some v)->h'.size=h.size->(∀x,x≠b->h'[x]? =h[x]?)->K h')->
  eu (AA b 0) vs i h K
 | [],i,h,c,K,a,_,_,hk=>hk h c a rfl (λ_ _=>rfl) (λj v H=>by simp at H) rfl (λ_ _=>rfl)
 |v::vs,i,h,c,K,a,l,d,hk=>by
  rw[List.all_cons,aS]at d;rw[aW]at l;unfold eu;rw[d.1];dsimp only;rw[gU,bH];refine bL a ae λg A s1 o1=> ?_
  refine qK vs (i+1) g _ K A (by rw[Array.size_setIfInBounds];omega) d.2 λk f B z q2 r2 s o2=>hk k f B (by rw[z,Array.size_setIfInBounds]) (λj H=> ?_) (λj u H=> ?_) ae (λx e=>by rw[o2 x e,o1 x e])
  .rw[aW]at H;rw[q2 j ae,cJ,dz]
  .cases j with
   |zero=>
    simp only[dO,bA]at H;subst H;rw[Nat.add_zero,q2 i ae];rw[cJ,ah rfl,gh]
   |succ j=>
    have:=r2 j u (cH H);rwa[show i+1+j=i+(j+1) by omega]at this
theorem fo{h:ak}{b:Nat}{c:Array Value}{t:TypeId}{vs:List Value}{K:ak->Prop}(a:h[b]? =some (.cells c t (0,0)))(f:vs.length=c.size)(d:vs.all fX=true)(hk: ∀h',h'[b]? =some (.cells vs.toArray t (0,0))->h'.size=h.size->(∀x,x≠b->h'[x]? =h[x]?)->K h'):eu (AA b 0) vs 0 h K:=by
 refine qK vs 0 h c K a ae d λh' C B z _ r s o=>hk h' ?_ s o
 have:C=vs.toArray:=by
  apply Array.ext'
  apply fK
  intro j;by_cases H:j<vs.length
  .have e:=aj H;have:=r j _ e;rw[bH]at this;rw[dH,this];exact e.symm
  .rw[dI (by rw[eR];omega),dI (cH H)]
 rw[<-this];exact B
theorem gz{h:ak}{c:Array Value}{t:TypeId}{vs:List Value}{K:Nat->ak->Prop}(a:vs.length=c.size)(f:vs.all fX=true)(hk: ∀b h',b=h.size->h'[b]? =some (.cells vs.toArray t (0,0))->Fr (λ_=>False) h h'->K b h'):aT h (.cells c t) λb H=>eu (AA b 0) vs 0 H (K b):=
 cI (fo bV a f λh' B s o=>hk _ h' rfl B ((Fr.push h _).fresh (S:=λy=>y=h.size) ⟨ae,λy _ d=>o y d⟩ (λy e=>Nat.le_of_eq e.symm)))
end Go.Den
namespace Go.Den
structure BV where
 p:bZ
 c:Nat
 b:cM
abbrev BV.val(x:BV):Value:=.slice x.p x.b.length x.c
structure BV.ok (h:ak) (D:Nat->Prop) (x:BV):Prop where
 row:Row h x.p (bc x.b)
 own:x.b≠ []->∀c,aL x.p c->D c
 cap:x.b.length<=x.c
theorem BV.ok.frame{h h':ak}{D Q:Nat->Prop}{x:BV}(H:x.ok h D)(f:Fr Q h h')(d: ∀c,D c->¬Q c):x.ok h' D:=by
 refine⟨?_,H.own,H.cap⟩;by_cases b:x.b= []
 .rw[b];exact .inl rfl
 .exact H.row.frame f (λa e=>d a.block (H.own b a.block ⟨a,e,rfl⟩))
theorem BV.ok.mono{h:ak}{D D':Nat->Prop}{x:BV}(H:x.ok h D)(hd: ∀c,D c->D' c):x.ok h D':=⟨H.row,λa c b=>hd c (H.own a c b),H.cap⟩
theorem BV.jr{h:ak}{D:Nat->Prop}{p:bZ}{c:Nat}{b:cM}(o:fi h p b.length c 1 (bc b))(hd: ∀x,aL p x->D x):BV.ok h D ⟨p,c,b⟩:=⟨o.iJ,λ_=>hd,o.le⟩
theorem iE(p:bZ)(m sz:Nat):cR p m 0 sz=p:=by
 unfold cR;split
 .rfl
 .cases p with
  |none=>rfl
  |some a=>simp[Addr.add]
theorem fi.fI{h:ak}{a:Addr}{len cap sz:Nat}{α:Type}{enc:α->List Value}{xs:List α}(own:fi h (.some a) len cap sz (xs.flatMap enc))(H: ∀x,(enc x).length=sz){i:Nat}{x:α}(b:xs[i]? =.some x):dM (a.add (i*sz)) (enc x) 0 h:=by
 refine kH.2 λj v c=> ?_
 rw[bH,add_add];exact own.cell (rT enc sz H xs i x b j v c)
theorem Row.fI{h:ak}{a:Addr}{sz:Nat}{α:Type}{enc:α->List Value}{xs:List α}(own:Row h (.some a) (xs.flatMap enc))(H: ∀x,(enc x).length=sz){i:Nat}{x:α}(b:xs[i]? =.some x):dM (a.add (i*sz)) (enc x) 0 h:=by
 refine kH.2 λj v c=> ?_
 rw[bH,add_add];exact own.cell (rT enc sz H xs i x b j v c)
theorem fi.addr{h:ak}{p:bZ}{len cap sz:Nat}{cs:List Value}(own:fi h p len cap sz cs)(d:0<len): ∃b off,p=.some (AA b off):=by
 cases own with
 |nil _ a _ _=>omega
 |row b off c t H _ _ _ _ _=>exact⟨b,off,H⟩
theorem fi.pre{h:ak}{p:bZ}{len cap sz:Nat}{cs:List Value}(own:fi h p len cap sz cs){i:Nat}(H:i<=len):fi h p i cap sz (cs.take (i*sz)):=by
 have:=own.sub (l:=0) (u:=i) (br _) H;rwa[iE,Nat.zero_mul,gL]at this
theorem mz{α:Type}(enc:α->List Value)(sz:Nat)(h: ∀x,(enc x).length=sz): ∀(xs:List α)(i:Nat),(xs.flatMap enc).take (i*sz)=(xs.take i).flatMap enc
 | [],i=>bQ
 |x::xs,0=>bQ
 |x::xs,i+1=>by
  rw[fp,gg,fp,List.take_append,h,bk (by rw[h,dW];omega),show(i+1)*sz - sz=i*sz by rw[dW];omega,mz enc sz h xs i]
theorem oD{α:Type}(enc:α->List Value)(sz:Nat)(h: ∀x,(enc x).length=sz): ∀(xs:List α)(i:Nat),(xs.flatMap enc).drop (i*sz)=(xs.drop i).flatMap enc
 | [],i=>bQ
 |x::xs,0=>bQ
 |x::xs,i+1=>by
  rw[fp,List.drop_succ_cons,List.drop_append,h,eJ (by rw[h,dW];omega),cy,show(i+1)*sz - sz=i*sz by rw[dW];omega,oD enc sz h xs i]
theorem EE{α:Type}(enc:α->List Value)(sz:Nat)(h: ∀x,(enc x).length=sz): ∀(xs:List α)(i:Nat)(y:α),i<xs.length->∀(cs:List Value),cs.length=(xs.flatMap enc).length->(∀j,j/sz≠i\/sz=0->cs[j]? =(xs.flatMap enc)[j]?)->(∀j v,j<sz->(enc y)[j]? =some v->cs[i*sz+j]? =some v)->cs=(xs.set i y).flatMap enc:=by
 intro xs i y q cs s k p;apply fK
 intro j;by_cases n:sz=0
 .rw[k j (.inr n)];have e1: ∀zs:List α,zs.flatMap enc= []:=λzs=>by
   have:=eO enc sz h zs;rw[n,Nat.mul_zero]at this;exact List.eq_nil_of_length_eq_zero this
  rw[e1,e1]
 have g:0<sz:=ae
 by_cases d:j/sz=i
 .have f:j=i*sz+j%sz:=by rw[<-d,gi];exact(Nat.div_add_mod j sz).symm
  have c:=Nat.mod_lt j g;have H:(enc y)[j%sz]? =some ((enc y)[j%sz]'(by rw[h];exact c)):=aj _;have a:=p _ _ c H;have b:=rT enc sz h (xs.set i y) i y (by simp[q]) _ _ H;rw[<-f]at a b;rw[a,b]
 .rw[k j (.inl d)];by_cases m:j/sz<xs.length
  .have f:j=(j/sz)*sz+j%sz:=by rw[gi];exact(Nat.div_add_mod j sz).symm
   have c:=Nat.mod_lt j g;have o:xs[j/sz]? =some (xs[j/sz]):=aj m;have r:(xs.set i y)[j/sz]? =some (xs[j/sz]):=by rw[di,af (λe=>d e.symm)];exact o
   have H:(enc xs[j/sz])[j%sz]? =some ((enc xs[j/sz])[j%sz]'(by rw[h];exact c)):=aj _;have a:=rT enc sz h xs _ _ o _ _ H;have b:=rT enc sz h (xs.set i y) _ _ r _ _ H;rw[<-f]at a b;rw[a,b]
  .have l:xs.length*sz<=j:=by
    have:=(Nat.le_div_iff_mul_le g).1 (Nat.le_of_not_lt m);exact this
   rw[dI (by rw[eO enc sz h];exact l),dI (by rw[eO enc sz h,dj];exact l)]
section
variable {P : Program}
theorem B2{S elem ty:TypeId}{sz bytes:Nat}{z:Value}{h:ak}{p:bZ}{len cap i:Nat}{cs:List Value}{K:fG}(T:nW P S elem sz bytes z)(I: ∀v∈z.cells.toList,fX v=true)(own:fi h p len cap sz cs)(d:i<=len)(hk: ∀h',fi h' p i cap sz (cs.take (i*sz))->Fr (aL p) h h'->K (.tuple #[]) h'):aU P (Builtin.clear_ #[S] ty #[.slice (cR p cap i sz) (len - i) (cap - i)]) h K:=by
 have fin:K (.tuple #[]) h:=hk h (own.pre d) (Fr.refl _ _);obtain⟨b',B,a',_,O⟩:=T.i;unfold Builtin.clear_;show aU P (underlying S>>=_) h K;refine bU (s:=underlying S) (bJ T.u) ?_;cases own with
 |nil f l w g=>
  subst f;have:cR none cap i sz=none:=by unfold cR;split<;>rfl
  rw[this];exact fin
 |row b off c t f q l w E g=>
  subst f;by_cases A:len - i=0
  .rw[A];cases Y:cR (Sa b off) cap i sz with
   |none=>exact fin
   |some a=>exact fin
  .obtain⟨n,m⟩: ∃n,len - i=n+1:=⟨len - i - 1,ae⟩;have y:cap≠i:=ae
   have u:cR (Sa b off) cap i sz=some ⟨b,off+i*sz,none⟩:=by
    unfold cR;rw[af y];show some (((AA b off):Addr).add (i*sz))=_;rw[gU]
   rw[u,m];show aU P (zeroValue elem>>=λz=>storeCells ⟨b,off+i*sz,none⟩ (Builtin.zeroCells z.cells (n+1)).toList>>=λ_=>pure (Value.tuple #[])) h K;refine bU (s:=zeroValue elem) (jb B O) ?_;rw[dR];have R:=T.zs;have Q:(Builtin.zeroCells z.cells (n+1)).toList.length=(n+1)*sz:=by simp[Builtin.zeroCells,R]
   have V:off+i*sz+(n+1)*sz<=off+cap*sz:=by
    rw[<-m,Nat.sub_mul];have U:i*sz<=len*sz:=cQ _ d;have m2:len*sz<=cap*sz:=cQ _ l;omega
   refine tM (c:=c) (off:=off+i*sz) _ 0 h b t _ ?_ q (by rw[Q];omega) ?_
   .intro v o;simp only[Builtin.zeroCells,Array.toList_map,bj]at o;obtain⟨k,D,rfl⟩:=o;have L:0<z.cells.size:=by
     rcases Nat.eq_zero_or_pos z.cells.size with e|e
     .simp[e]at D
     .exact e
    have F:=Nat.mod_lt k L;rw[getElem!_pos z.cells _ F];exact I _ bQ
   .intro h' C r Z G X M J;refine hk h' (.row b off C t rfl r ae ae ?_ ?_) (Fr.of_eq M λx N=>J x (λe=>N ⟨_,rfl,e.symm⟩))
    .rw[bC,E];have U:i*sz<=len*sz:=cQ _ d;omega
    .intro j v H;rw[db]at H;split at H
     .rename_i W;rw[G (off+j) ae];exact g j v H
     .cases H
theorem wg{s X ty elem eT t:TypeId}{sz bytes:Nat}{z:Value}{h:ak}{q:bZ}{n cq:Nat}{ds:List Value}{K:fG}(T:nW P s elem sz bytes z)(H:P.underlying X=some (.slice eT))(m:Row h q ds)(hd:ds.length=n*sz)(l: ∀v∈ds,fX v=true)(i:n*bytes<=70368744177664)(o:n<=9223372036854775807)(hk: ∀p C h',fi h' p n C sz ds->Fr (λ_=>False) h h'->(∀c,aL p c->h.size<=c)->K (.slice p n C) h'):
  aT h (.cells #[] t) λb f=>aU P (Builtin.append_ #[s,X] ty #[.slice (Sa b 0) 0 0,.slice q n cq]) f K:=by
 refine cI ?_;have f1:Fr (λ_=>False) h (h.push (.cells #[] t)):=Fr.push _ _;refine dD (cs:= []) T H (.row h.size 0 #[] t rfl bV (bn _) bQ bQ (λj v k=>by cases k)) (m.frame f1 cb) hd l (cH i) ae ?_;intro p d h' o1 _ f2 g;rw[bH,cy]at o1;rw[bH];refine hk p d h' o1 (f1.step f2 (λc r ⟨a,e,e2⟩=>by cases e;simp at e2;omega)) (λx H=> ?_);rcases g x H with⟨a,e,rfl⟩|h2
 .cases e;exact bn _
 .simp at h2;omega
end
theorem Kv{α:Type}{enc:α->List Value}(a: ∀x,(enc x).length=2){xs:List α}{i:Nat}{y:α}{V v1:Value}(b:i<xs.length)(c:enc y= [V,v1]):((xs.flatMap enc).set (i*2) V).set (i*2+1) v1=(xs.set i y).flatMap enc:=by
 have d:=eO enc 2 a xs;refine EE enc 2 a xs i y b _ bQ (λj H=> ?_) (λj v H h=> ?_)
 .have H:j/2≠i:=ae
  rw[di,di,dz,dz]
 .rw[c]at h
  match j,H with
  |0,_=>
   simp only[dO,bA]at h;rw[di,dz,di,gh,gh,h]
  |1,_=>
   simp only[dA,dO,bA]at h;rw[di,ah rfl,ah (by rw[dj];omega),h]
end Go.Den
set_option linter.unusedSectionVars false
namespace Go.Den
section
variable {P : Program} {α : Type} [DecidableEq α]
structure B4 (P:Program) (kt:TypeId) (enc:α->Value):Prop where
 eq: ∀(a b:α) (h:ak),rd P (Op.equal kt (enc a) (enc b)) h=some (decide (a=b))
 Tn: ∀(e:Bool) (a:α) (h:ak),rd P (Instr.checkKey e 10000 kt (enc a)) h=some ()
 now: ∃d,P.underlying kt=some d/\∀a b,Instr.sameNow d (enc a) (enc b)=none\/Instr.sameNow d (enc a) (enc b)=some (decide (a=b))
 bits: ∀a,Instr.sameBits 10000 (enc a) (enc a)=true
abbrev pP(enc:α->Value)(t:α×Value×Nat):MapEntry:=⟨enc t.1,t.2.1,t.2.2⟩
abbrev pr(t:α×Value×Nat):α×Value:=(t.1,t.2.1)
structure To (h:ak) (m:Nat) (enc:α->Value) (T:List (α×Value×Nat)) (clock:Nat):Prop where
 cX:h[m]? =some (.map (T.map (pP enc)).toArray clock)
 keys:(T.map (·.1)).Nodup
 yG: ∀t∈T,t.2.2<clock
 born:(T.map (·.2.2)).Nodup
def jB(h:ak)(m:Nat)(enc:α->Value)(l:List (α×Value)):Prop:= ∃T c,To h m enc T c/\(T.map pr).Perm l
def wh(l:List (α×Value))(k:α):List (α×Value):=l.filter (λe=> !decide (e.1=k))
def EF(l:List (α×Value))(k:α)(v:Value):List (α×Value):=(k,v)::wh l k
theorem jB.perm{h:ak}{m:Nat}{enc:α->Value}{l L:List (α×Value)}(H:jB h m enc l)(p:l.Perm L):jB h m enc L:=by
 obtain⟨T,c,a,b⟩:=H;exact⟨T,c,a,b.trans p⟩
theorem jB.mI{h h':ak}{m:Nat}{enc:α->Value}{l:List (α×Value)}(H:jB h m enc l)(g:h'[m]? =h[m]?):jB h' m enc l:=by
 obtain⟨T,c,⟨a,b,d,e⟩,f⟩:=H;exact⟨T,c,⟨g.trans a,b,d,e⟩,f⟩
theorem jB.lt{h:ak}{m:Nat}{enc:α->Value}{l:List (α×Value)}(H:jB h m enc l):m<h.size:=by
 obtain⟨T,c,a,_⟩:=H;exact aE a.cX
theorem jB.frame{S:Nat->Prop}{h h':ak}{m:Nat}{enc:α->Value}{l:List (α×Value)}(H:jB h m enc l)(a:Fr S h h')(b: ¬S m):jB h' m enc l:=H.mI (a.2 m H.lt b)
theorem jB.push(h:ak)(enc:α->Value):jB (h.push (.map #[] 0)) h.size enc []:=⟨[],0,⟨bV,bQ,bQ,bQ⟩,.refl _⟩
theorem jB.nodup{h:ak}{m:Nat}{enc:α->Value}{l:List (α×Value)}(H:jB h m enc l):(l.map (·.1)).Nodup:=by
 obtain⟨T,c,b,d⟩:=H;have a:=d.map (·.1);rw[dK]at a;exact a.nodup_iff.1 b.keys
def mK(k:α):List (α×Value×Nat)->Nat->Option (Nat×Value)
 | [],_=>none
 |t::T,i=>if k=t.1 then some (i,t.2.1)else mK k T (i+1)
theorem pB{k:α}: ∀{T:List (α×Value×Nat)}{i:Nat},mK k T i=none->∀t∈T,t.1≠k
 | [],_,_,_,ht=>by cases ht
 |u::T,i,h,t,ht=>by
  unfold mK at h;split at h
  .cases h
  .rename_i H;rcases bG.1 ht with rfl|ht
   .exact λe=>H e.symm
   .exact pB h t ht
theorem pC{k:α}: ∀{T:List (α×Value×Nat)}{i j:Nat}{v:Value},mK k T i=some (j,v)->∃A B b,T=A++(k,v,b)::B/\j=i+A.length
 | [],_,_,_,h=>by cases h
 |u::T,i,j,v,h=>by
  unfold mK at h;split at h
  .rename_i H;simp only[bA,gC]at h;obtain⟨rfl,rfl⟩:=h;subst H;exact⟨[],T,u.2.2,rfl,rfl⟩
  .obtain⟨A,B,b,rfl,rfl⟩:=pC h;exact⟨u::A,B,b,rfl,by rw[aW];omega⟩
theorem xE{kt:TypeId}{enc:α->Value}{d:TypeDesc}(hd: ∀a b,Instr.sameNow d (enc a) (enc b)=none\/Instr.sameNow d (enc a) (enc b)=some (decide (a=b)))(k:α):
  ∀(T:List (α×Value×Nat))(i:Nat),Instr.findNow d (enc k) (T.map (pP enc)) i=none\/Instr.findNow d (enc k) (T.map (pP enc)) i=some (mK k T i)
 | [],i=> .inr rfl
 |t::T,i=>by
  rw[cj];unfold Instr.findNow mK;rcases hd k t.1 with e|e<;>rw[e]
  .exact .inl rfl
  .by_cases hk:k=t.1
   .rw[aw hk,ah hk];exact .inr rfl
   .rw[aD hk,af hk];exact xE (kt:=kt) hd k T (i+1)
theorem B5{kt:TypeId}{enc:α->Value}(K:B4 P kt enc)(k:α)(h:ak): ∀(T:List (α×Value×Nat))(i:Nat),rd P (Instr.findAsking kt (enc k) (T.map (pP enc)) i) h=some (mK k T i)
 | [],i=>rfl
 |t::T,i=>by
  rw[cj];unfold Instr.findAsking mK;rw[bE _ _ _ _ (K.eq k t.1 h)];by_cases hk:k=t.1
  .rw[aw hk,ah hk,ah rfl];rfl
  .rw[aD hk,af hk,af bQ];exact B5 K k h T (i+1)
theorem C7{kt:TypeId}{enc:α->Value}(K:B4 P kt enc)(k:α)(h:ak)(T:List (α×Value×Nat)):rd P (Instr.findKey kt (enc k) (T.map (pP enc))) h=some (mK k T 0):=by
 obtain⟨d,H,a⟩:=K.now;unfold Instr.findKey;rw[bE _ _ _ _ (bJ H)];rcases xE (kt:=kt) a k T 0 with e|e<;>rw[e]
 .exact B5 K k h T 0
 .rfl
structure oE (P:Program) (t:TypeId) (enc:α->Value) (z:Value):Prop where
 ty: ∃k e,P.underlying t=some (.map k e)/\B4 P k enc/\∃i,P.info? e=some i/\i.zero=some z
theorem oE.of{t:TypeId}{enc:α->Value}{z:Value}(k e:TypeId)(a:P.underlying t=some (.map k e))(b:B4 P k enc)(h:(P.info? e).bind (·.zero)=some z):oE P t enc z:=by
 cases H:P.info? e with
 |none=>rw[H]at h;cases h
 |some i=>exact⟨k,e,a,b,i,H,by rw[H]at h;exact h⟩
def sh(l:List (α×Value))(k:α):Option Value:=(l.find? (λe=>decide (e.1=k))).map (·.2)
theorem Ca{l:List (α×Value)}{k:α}:sh l k=none↔ ∀e∈l,e.1≠k:=by
 unfold sh;rw[Option.map_eq_none_iff,List.find?_eq_none];simp
theorem Cd{l:List (α×Value)}{k:α}{v:Value}(H:(l.map (·.1)).Nodup):sh l k=some v↔(k,v)∈l:=by
 induction l with
 |nil=>simp[sh]
 |cons e l i=>
  rw[cj,fb]at H;unfold sh at i⊢;rw[List.find?_cons];by_cases h:e.1=k
  .rw[aw h];simp only[dk,bA,bG];constructor
   .rintro rfl;exact .inl (by rw[<-h])
   .rintro(rfl|hm)
    .rfl
    .exact absurd (bu (f:=(·.1)) hm) (by rw[<-h];exact H.1)
  .rw[aD h];rw[i H.2,bG];constructor
   .exact .inr
   .rintro(rfl|hm)
    .exact absurd rfl h
    .exact hm
theorem jB.find{h:ak}{m:Nat}{enc:α->Value}{l:List (α×Value)}(H:jB h m enc l){T:List (α×Value×Nat)}(a:(T.map pr).Perm l)(k:α):(mK k T 0).map (·.2)=sh l k:=by
 have c:=H.nodup;cases e:mK k T 0 with
 |none=>
  symm
  rw[Option.map_none,Ca];intro x f;obtain⟨t,d,rfl⟩:=bj.1 (a.mem_iff.2 f);exact pB e t d
 |some J=>
  obtain⟨j,v⟩:=J;obtain⟨A,B,b,rfl,_⟩:=pC e;symm
  rw[dk,Cd c];exact a.mem_iff.1 bQ
theorem Rk{t:TypeId}{enc:α->Value}{z:Value}(K:oE P t enc z){h:ak}{m:Nat}{l:List (α×Value)}(H:jB h m enc l)(k:α)(ok:Bool):
  rd P (Instr.lookup t (.map (some m)) (enc k) ok) h=some (if ok then .tuple #[(sh l k).getD z,.bool (sh l k).isSome]else(sh l k).getD z):=by
 obtain⟨kt,e,f,hk,i,b,g⟩:=K.ty;have a:=H;obtain⟨T,c,H,d⟩:=H;rw[<-a.find d k];unfold Instr.lookup;rw[bE _ _ _ _ (bJ f)];simp only;rw[bE _ _ _ _ (jn H.cX)];simp only;rw[bE _ _ _ _ (jw _),bE _ _ _ _ (hk.Tn _ k h),bE _ _ _ _ (C7 hk k h T)];cases j:mK k T 0 with
 |none=>
  simp only;rw[bE _ _ _ _ (jb b g)];cases ok<;>rfl
 |some J=>cases ok<;>rfl
theorem I7{t:TypeId}{enc:α->Value}{z:Value}(K:oE P t enc z){h:ak}{m:Nat}{l:List (α×Value)}(H:jB h m enc l)(k:α):ig P t (.map (some m)) (enc k) false h ((sh l k).getD z):=λh' a=>by
 have:=Rk K (H.mI (h':=h') a) k false;simpa using this
theorem Kw{t:TypeId}{enc:α->Value}{z:Value}(K:oE P t enc z){h:ak}{m:Nat}{l:List (α×Value)}(H:jB h m enc l)(k:α):ig P t (.map (some m)) (enc k) true h (.tuple #[(sh l k).getD z,.bool (sh l k).isSome]):=λh' a=>by
 have:=Rk K (H.mI (h':=h') a) k true;simpa using this
theorem GU{t ty:TypeId}{enc:α->Value}{z:Value}(K:oE P t enc z){h:ak}{m:Nat}{l:List (α×Value)}(H:jB h m enc l):O8 P #[t] ty (.map (some m)) h (.I (l.length:Int)):=λh' f=>by
 obtain⟨kt,e,g,_⟩:=K.ty;obtain⟨T,c,H,d⟩:=H;have a:h'[m]? =some (.map (T.map (pP enc)).toArray c):=Eq.trans f H.cX;have b:T.length=l.length:=by rw[<-d.length_eq,aA]
 unfold Builtin.len_;show rd P (underlying t>>=_) h'=_;rw[bE _ _ _ _ (bJ g)];show rd P (getObj m>>=_) h'=_;rw[bE _ _ _ _ (jn a)];show some (goInt _)=_;simp[b,goInt]
theorem GV{b:Type}(A B:List b)(t:b)(f:b->b):(A++t::B).modify A.length f=A++f t::B:=by
 induction A with
 |nil=>rfl
 |cons a A i=>simp only[dC,aW,List.modify_succ_cons,i]
theorem Kx{b:Type}(A B:List b)(t:b):(A++t::B).eraseIdx A.length=A++B:=by
 induction A with
 |nil=>rfl
 |cons a A i=>simp only[dC,aW,List.eraseIdx_cons_succ,i]
theorem Cf{l L:List (α×Value)}(p:l.Perm L)(k:α):(wh l k).Perm (wh L k):=p.filter _
theorem EG{A B:List (α×Value×Nat)}{k:α}{v:Value}{b:Nat}(c:((A++(k,v,b)::B).map (·.1)).Nodup):wh ((A++(k,v,b)::B).map pr) k=(A++B).map pr:=by
 rw[aV,cj,eY]at c;obtain⟨_,a,d⟩:=c;rw[fb]at a;unfold wh;rw[aV,cj,fQ,cz,af bQ,aV];congr 1
 .rw[cB];intro e h;obtain⟨t,H,rfl⟩:=bj.1 h;have:=d t.1 (bu H) k bQ;simp[this]
 .rw[cB];intro e h;obtain⟨t,H,rfl⟩:=bj.1 h;have:t.1≠k:=λe=>a.1 (bj.2 ⟨t,H,e⟩)
  simp[this]
theorem rU{l:List (α×Value)}{k:α}(H: ∀e∈l,e.1≠k):wh l k=l:=by
 unfold wh;rw[cB];intro e h;simp[H e h]
theorem zq{t:TypeId}{enc:α->Value}{z:Value}(K:oE P t enc z){h:ak}{m:Nat}{l:List (α×Value)}(H:jB h m enc l){k:α}{v:Value}{Q:Unit->ak->Prop}(hk: ∀h',jB h' m enc (EF l k v)->h'.size=h.size->(∀c,c≠m->h'[c]? =h[c]?)->Q () h'):aU P (Instr.mapUpdate t (.map (some m)) (enc k) v) h Q:=by
 obtain⟨kt,e,ht,o,_⟩:=K.ty;obtain⟨T,c,H,p⟩:=H;have I:=aE H.cX;unfold Instr.mapUpdate;refine bU (bJ ht) ?_;simp only;refine bU (jn H.cX) ?_;simp only;refine bU (o.Tn _ k h) ?_;have fin: ∀(d:List (α×Value×Nat))(E:Array MapEntry)(C:Nat),E.toList=d.map (pP enc)->(d.map (·.1)).Nodup->(∀t∈d,t.2.2<C)->(d.map (·.2.2)).Nodup->(d.map pr).Perm (EF l k v)->aU P (setObj m (.map E C)) h Q:=λd E C w y D F G=>by
  refine⟨⟨_,H.cX,λc e f n=>by cases n⟩,?_⟩;refine hk _ ⟨d,C,⟨?_,y,D,F⟩,G⟩ bQ (λx L=> ?_)
  .rw[<-w];simp[I]
  .rw[cJ,af (fv L)]
 refine bU (C7 o k h T) ?_;cases q:mK k T 0 with
 |none=>
  simp only;have s:=pB q;refine fin (T++ [(k,v,c)]) _ _ bQ ?_ ?_ ?_ ?_
  .rw[aV,eY];refine⟨H.keys,bQ,λa i b g=> ?_⟩;obtain⟨t,ht,rfl⟩:=bj.1 i;simp at g;subst g;exact s t ht
  .intro t ht;rcases bz.1 ht with ht|ht
   .exact Nat.lt_succ_of_lt (H.yG t ht)
   .obtain rfl:=bM.1 ht;exact Nat.lt_succ_self _
  .rw[aV,eY];refine⟨H.born,bQ,λa i b g=> ?_⟩;obtain⟨t,ht,rfl⟩:=bj.1 i;simp at g;subst g;exact Nat.ne_of_lt (H.yG t ht)
  .unfold EF;rw[rU (λe n=>by obtain⟨t,ht,rfl⟩:=bj.1 (p.mem_iff.2 n);exact s t ht),aV];exact(List.perm_append_comm.trans (.refl _)).trans (List.Perm.cons _ p)
 |some M=>
  obtain⟨j,u⟩:=M;obtain⟨A,B,b,rfl,r⟩:=pC q;rw[bH]at r;subst r;simp only;have J:rd P (Instr.keyThatStays (((((A++(k,u,b)::B).map (pP enc)).toArray[A.length]?).map (·.key)).getD (enc k)) (enc k)) h=some (enc k):=by
   have:((A++(k,u,b)::B).map (pP enc)).toArray[A.length]? =some (pP enc (k,u,b)):=bQ
   rw[this];simp only[dk,Option.getD_some];unfold Instr.keyThatStays;rw[ah (o.bits k)];rfl
  refine bU J ?_;refine fin (A++(k,v,b)::B) _ _ ?_ ?_ ?_ ?_ ?_
  .rw[Array.toList_modify,aV,cj];have:=GV (A.map (pP enc)) (B.map (pP enc)) (pP enc (k,u,b)) (λe=> { e with key:=enc k,val:=v });rw[aA]at this;rw[this,aV,cj]
  .have:=H.keys;simpa using this
  .intro t ht;rcases bz.1 ht with ht|ht
   .exact H.yG t (eH _ ht)
   .rcases bG.1 ht with rfl|ht
    .exact H.yG (k,u,b) bQ
    .exact H.yG t (by simp[ht])
  .have:=H.born;simpa using this
  .unfold EF;refine List.Perm.trans ?_ (List.Perm.cons _ ((EG H.keys▸Cf p k)));rw[aV,cj,aV];exact List.perm_middle
theorem EH{t L ty:TypeId}{enc:α->Value}{z:Value}(K:oE P t enc z){h:ak}{m:Nat}{l:List (α×Value)}(H:jB h m enc l){k:α}{Q:fG}(hk: ∀h',jB h' m enc (wh l k)->h'.size=h.size->(∀c,c≠m->h'[c]? =h[c]?)->Q (.tuple #[]) h'):aU P (Builtin.delete_ #[t,L] ty #[.map (some m),enc k]) h Q:=by
 obtain⟨kt,e,d,r,_⟩:=K.ty;obtain⟨T,c,H,n⟩:=H;have F:=aE H.cX;unfold Builtin.delete_;refine bU (bJ d) ?_;show aU P (do
   let __x<-getObj m
   match __x with
    |Obj.map es C=>do
     Instr.checkKey es.isEmpty 10000 kt (enc k)
     let __do_lift<-Instr.findKey kt (enc k) es.toList
     match __do_lift with
      |some (i,_)=>do
       setObj m (Obj.map (es.eraseIdxIfInBounds i) C)
       pure (Value.tuple #[])
      |none=>do
       setObj m (Obj.map es C)
       pure (Value.tuple #[])
    |_=>do
     stuck "delete: map expected"
     pure (Value.tuple #[])) h Q
 refine bU (jn H.cX) ?_;simp only;refine bU (r.Tn _ k h) ?_;have fin: ∀(a:List (α×Value×Nat))(E:Array MapEntry),E.toList=a.map (pP enc)->(a.map (·.1)).Nodup->(∀t∈a,t.2.2<c)->(a.map (·.2.2)).Nodup->(a.map pr).Perm (wh l k)->aU P (do setObj m (.map E c);pure (Value.tuple #[])) h Q:=λa E s v w y D=>by
  rw[dR];refine⟨⟨_,H.cX,λc e f g=>by cases g⟩,?_⟩;refine hk _ ⟨a,c,⟨?_,v,w,y⟩,D⟩ bQ (λx I=> ?_)
  .rw[<-s];simp[F]
  .rw[cJ,af (fv I)]
 refine bU (C7 r k h T) ?_;cases p:mK k T 0 with
 |none=>
  have G:=pB p;refine fin T _ rfl H.keys H.yG H.born ?_;rw[rU (λe g=>by obtain⟨t,d,rfl⟩:=bj.1 (n.mem_iff.2 g);exact G t d)];exact n
 |some J=>
  obtain⟨j,u⟩:=J;obtain⟨A,B,b,rfl,q⟩:=pC p;rw[bH]at q;subst q;have o:List.Sublist (A++B) (A++(k,u,b)::B):=List.Sublist.append (List.Sublist.refl _) (List.sublist_cons_self _ _);refine fin (A++B) _ ?_ ((o.map _).nodup H.keys) (λt d=>H.yG t (o.subset d)) ((o.map _).nodup H.born) (EG H.keys▸Cf n k);rw[Array.toList_eraseIdxIfInBounds,aV,cj];have:=Kx (A.map (pP enc)) (B.map (pP enc)) (pP enc (k,u,b));rw[aA]at this;rw[this,aV]
def Iter(h:ak)(r m:Nat)(enc:α->Value)(l done:List (α×Value)):Prop:=
 ∃T c D L,To h m enc T c/\(T.map pr).Perm l/\h[r]? =some (.mapIter (some m) c (D.map (·.2.2)).toArray L)/\(D≠ []->L=c)/\D.Nodup/\(∀t∈D,t∈T)/\D.map pr=done/\r≠m
theorem Iter.frame{S:Nat->Prop}{h h':ak}{r m:Nat}{enc:α->Value}{l done:List (α×Value)}(H:Iter h r m enc l done)(f:Fr S h h')(a: ¬S r)(b: ¬S m):Iter h' r m enc l done:=by
 obtain⟨T,c,D,L,A,B,C,E⟩:=H;exact⟨T,c,D,L,⟨f.get A.cX b,A.keys,A.yG,A.born⟩,B,f.get C a,E⟩
theorem Iter.le{h:ak}{r m:Nat}{enc:α->Value}{l done:List (α×Value)}(H:Iter h r m enc l done):done.length<=l.length:=by
 obtain⟨T,c,D,L,A,B,_,_,a,b,rfl,_⟩:=H;rw[aA,<-B.length_eq,aA];exact a.length_le_of_subset (λt d=>b t d)
theorem zt{t:TypeId}{enc:α->Value}{z:Value}(K:oE P t enc z){h:ak}{m:Nat}{l:List (α×Value)}(H:jB h m enc l){Q:fG}(hk: ∀r h',r=h.size->Iter h' r m enc l []->Fr (λ_=>False) h h'->Q (.P r 0) h'):aU P (Instr.range t (.map (some m))) h Q:=by
 obtain⟨kt,e,a,d,_⟩:=K.ty;obtain⟨T,c,H,b⟩:=H;unfold Instr.range;refine bU (bJ a) ?_;simp only;show aU P (getObj m>>=_) h Q;refine bU (jn H.cX) ?_
 .have f:Fr (λ_=>False) h (h.push (.mapIter (some m) c #[] c)):=Fr.push _ _;exact hk h.size _ rfl ⟨T,c, [],c,⟨f.get H.cX id,H.keys,H.yG,H.born⟩,b,bV,(λe=>absurd rfl e),.nil,(λt a=>by cases a),rfl,λe=>bR (aE H.cX)⟩ f
theorem zx{a:Type}{n:Nat}{g:Nat->Sem a}{h:ak}{Q:a->ak->Prop}(H:0<n)(hk: ∀i,i<n->aU P (g i) h Q):aU P (choose (.mapNext n)>>=g) h Q:=by
 show(if(Question.mapNext n).forced=true then aU P (g 0) h Q else∀t,aU P (g ((Question.mapNext n).cut t)) h Q);split
 .exact hk 0 H
 .intro t;exact hk _ (Nat.mod_lt _ H)
theorem Cg{ty:TypeId}{enc:α->Value}{h:ak}{r m:Nat}{l done:List (α×Value)}(I:Iter h r m enc l done){Q:fG}(k1:done.Perm l->Q (.tuple #[.bool false]) h)(k2: ∀a v h',(a,v)∈l->(a,v)∉done->Iter h' r m enc l (done++ [(a,v)])->h'.size=h.size->(∀c,c≠r->h'[c]? =h[c]?)->Q (.tuple #[.bool true,enc a,v]) h'):
  aU P (Instr.next (.P r 0) false ty) h Q:=by
 classical
 obtain⟨T,c,D,L,M,z,A,X,C,n,rfl,E⟩:=I;have Z:=aE A;have N:T.Nodup:=by
  have:=M.keys;exact List.Pairwise.of_map (S:=(· ≠ ·)) (·.1) (λa b R e=>R (by rw[e])) this
 unfold Instr.next;simp only;have e':rd P (getObj r) h=some (.mapIter (some m) c (D.map (·.2.2)).toArray L):=by unfold getObj;simp only[rd,A]
 refine bU e' ?_;simp only;refine bU (jn M.cX) ?_;simp only;have hq:(!(D.map (·.2.2)).toArray.isEmpty && !(T.map (pP enc)).toArray.isEmpty && (T.map (pP enc)).toArray.all (λe=>decide (e.born≥L)))=false:=by
  cases B:D with
  |nil=>rfl
  |cons d D'=>
   have hl:=X (by rw[B];simp);have hd:d∈T:=n d (by rw[B];simp);have:(T.map (pP enc)).toArray.all (λe=>decide (e.born≥L))=false:=by
    rw[List.all_toArray,List.all_eq_false];exact⟨pP enc d,bu hd,by simp;have:=M.yG d hd;omega⟩
   rw[this];simp
 rw[af (by rw[hq];simp)];have Y:(T.map (pP enc)).toArray.filter (λe=> !(D.map (·.2.2)).toArray.contains e.born)=((T.filter (λt=> !decide (t∈D))).map (pP enc)).toArray:=by
  apply Array.ext'
  rw[Array.toList_filter];simp only[];rw[dN];congr 1
  apply ee
  intro t g;have:(D.map (·.2.2)).toArray.contains (pP enc t).born=decide (t∈D):=by
   by_cases p:t∈D
   .rw[aw p];simp;exact⟨t.1,t.2.1,p⟩
   .rw[aD p];simp only[List.contains_toArray,List.contains_eq_mem,fa,bj,not_exists,not_and];intro u hu e;have W:u=t:=by
     have o:=M.born;have f':=n u hu;obtain⟨i,H⟩:=bK f';obtain⟨j,k⟩:=bK g;have y:=(aB.1 H).1;have:=(dU (l:=T.map (·.2.2)) (i:=i) (j:=j) (cH y) o).1 (by rw[aF,aF,H,k];simp[e]);subst this;rw[H]at k;exact bp k
    exact p (W▸hu)
  simp only[Function.comp,this]
 have d':(((T.filter (λt=> !decide (t∈D))).map (pP enc)).toArray.filter (λe=>decide (e.born<c)))=((T.filter (λt=> !decide (t∈D))).map (pP enc)).toArray:=by
  rw[Array.filter_eq_self];intro e w;obtain⟨t,g,rfl⟩:=bj.1 (List.mem_toArray.1 w);exact aw (M.yG t (ba.1 g).1)
 have c':(((T.filter (λt=> !decide (t∈D))).map (pP enc)).toArray.filter (λe=>decide (e.born≥c)))= #[]:=by
  rw[Array.filter_eq_empty_iff];intro e w;obtain⟨t,g,rfl⟩:=bj.1 (List.mem_toArray.1 w);have:=M.yG t (ba.1 g).1;simp;omega
 rw[Y,d',c'];simp only[Array.append_empty];cases s:T.filter (λt=> !decide (t∈D))with
 |nil=>
  refine zx bQ λi H=> ?_
  have:i=0:=by simpa using H
  subst this;have J:((if((([]:List (α×Value×Nat)).map (pP enc)).toArray.isEmpty=true)then #[none]else #[])++Array.map some (([]:List (α×Value×Nat)).map (pP enc)).toArray)[0]? =some none:=bQ
  rw[J];show aU P (pure (.tuple #[.bool false])) h Q;refine k1 ?_;refine List.Perm.trans (List.Perm.map _ ?_) z;rw[List.perm_ext_iff_of_nodup C N];intro t;refine⟨n t,λg=> ?_⟩;have:=List.filter_eq_nil_iff.1 s t g;simpa using this
 |cons f F=>
  refine zx bQ λi H=> ?_
  rw[<-s]at H⊢;have b':(((T.filter (λt=> !decide (t∈D))).map (pP enc)).toArray.isEmpty)=false:=by rw[s];rfl
  rw[b']at H⊢;simp only[au,aM,Array.empty_append]at H⊢;have V:i<(T.filter (λt=> !decide (t∈D))).length:=by simpa using H
  obtain⟨t,g⟩: ∃t,(T.filter (λt=> !decide (t∈D)))[i]? =some t:=⟨_,aj V⟩;have U:(Array.map some ((T.filter (λt=> !decide (t∈D))).map (pP enc)).toArray)[i]? =some (some (pP enc t)):=by simp[g]
  rw[U];have q:=ba.1 (aJ g);have G:t∉D:=by simpa using q.2
  refine⟨⟨_,A,λ_ _ _ e=>by cases e⟩,?_⟩;refine k2 t.1 t.2.1 _ (z.mem_iff.1 (bu (f:=pr) q.1)) ?_ ⟨T,c,D++ [t],c,⟨?_,M.keys,M.yG,M.born⟩,z,?_,(λ_=>rfl),?_,?_,?_,E⟩ bQ (λx hx=> ?_)
  .intro a';obtain⟨u,hu,e⟩:=bj.1 a';have K:u.1=t.1:=bP (λx:α×Value=>x.1) e;have:u=t:=by
    obtain⟨i,H⟩:=bK (n u hu);obtain⟨j,k⟩:=bK q.1;have y:=(aB.1 H).1;have:=(dU (l:=T.map (·.1)) (i:=i) (j:=j) (cH y) M.keys).1 (by rw[aF,aF,H,k];simp[K]);subst this;rw[H]at k;exact bp k
   exact G (this▸hu)
  .rw[cJ,af E];exact M.cX
  .simp[Z]
  .rw[eY];exact⟨C,bQ,λa O b o=>by simp at o;subst o;exact λe=>G (e▸O)⟩
  .intro u hu;rcases bz.1 hu with hu|hu
   .exact n u hu
   .obtain rfl:=bM.1 hu;exact q.1
  .rw[aV];rfl
  .rw[cJ,af (fv hx)]
end
end Go.Den
namespace Go.Den
section
variable {P : Program} {α : Type}
theorem find_born(enc:α->Value){t:α×Value×Nat}: ∀{T:List (α×Value×Nat)},(T.map (·.2.2)).Nodup->t∈T->T.find? ((λe:MapEntry=>e.born==t.2.2) ∘ pP enc)=some t
 | [],_,h=>by cases h
 |u::T,a,h=>by
  rw[cj,fb]at a;rw[List.find?_cons];by_cases H:u.2.2=t.2.2
  .have:((λe:MapEntry=>e.born==t.2.2) ∘ pP enc) u=true:=by simp[H]
   rw[this];rcases bG.1 h with e|e
   .rw[e]
   .exact absurd (bj.2 ⟨t,e,H.symm⟩) a.1
  .have:((λe:MapEntry=>e.born==t.2.2) ∘ pP enc) u=false:=by simp[H]
   rw[this];rcases bG.1 h with e|e
   .exact absurd (by rw[e]) H
   .exact find_born enc a.2 e
theorem zA{t:TypeId}{s:ByteArray}{h:ak}{Q:fG}(H:P.underlying t=some .string)(hk: ∀r h',r=h.size->h'[r]? =some (.stringIter s 0)->Fr (λ_=>False) h h'->Q (.P r 0) h'):
  aU P (Instr.range t (.string s)) h Q:=by
 unfold Instr.range;refine bU (bJ H) ?_;exact hk h.size _ rfl bV (Fr.push _ _)
theorem Ky{ty:TypeId}{s:ByteArray}{h:ak}{r pos:Nat}{Q:fG}(a:h[r]? =some (.stringIter s pos))(k:s.size<=pos->Q (.tuple #[.bool false]) h)(K:pos<s.size->∀h',h'[r]? =some (.stringIter s (pos+(Utf8.decode s pos).2))->h'.size=h.size->(∀c,c≠r->h'[c]? =h[c]?)->Q (.tuple #[.bool true,.I (pos:Int),.int .i32 ((Utf8.decode s pos).1:Int)]) h'):
  aU P (Instr.next (.P r 0) true ty) h Q:=by
 have d:=aE a;unfold Instr.next;simp only;have f:rd P (getObj r) h=some (.stringIter s pos):=by unfold getObj;simp only[rd,a]
 refine bU f ?_;simp only;by_cases H:pos<s.size
 .rw[ah H];refine⟨⟨_,a,λ_ _ _ e=>by cases e⟩,?_⟩;exact K H _ (by simp[d]) bQ (λc b=>by rw[cJ,af (fv b)])
 .rw[af H];exact k ae
theorem zB{enc:α->Value}{h:ak}{r m:Nat}{l done:List (α×Value)}{a:α}{v:Value}(I:Iter h r m enc l (done++ [(a,v)])){Q:fG}(hk:Q (.tuple #[enc a,v]) h):
  aU P (Instr.entry (.P r 0)) h Q:=by
 obtain⟨T,c,D,L,M,q,i,g,o,k,hd,p⟩:=I;rcases List.eq_nil_or_concat D with rfl|⟨D',t,rfl⟩
 .simp at hd
 rw[List.concat_eq_append]at*;rw[aV]at hd;obtain⟨_,e2⟩:=List.append_inj' hd rfl;have e2:pr t=(a,v):=by simpa using e2
 have E:t.1=a:=bP (λx:α×Value=>x.1) e2;have b:t.2.1=v:=bP (λx:α×Value=>x.2) e2;have n:t∈T:=k t bQ;have f:=g bQ;unfold Instr.entry;simp only;have j:rd P (getObj r) h=some (.mapIter (some m) c ((D'++ [t]).map (·.2.2)).toArray L):=by unfold getObj;simp only[rd,i]
 refine bU j ?_;simp only;have H:((D'++ [t]).map (·.2.2)).toArray.back? =some t.2.2:=bQ
 rw[H];simp only;refine bU (jn M.cX) ?_;simp only;rw[f,af bQ];have d:(T.map (pP enc)).toArray.find? (λe=>e.born==t.2.2)=some (pP enc t):=by
  rw[List.find?_toArray,List.find?_map];have:T.find? ((λe:MapEntry=>e.born==t.2.2) ∘ pP enc)=some t:=find_born enc M.born n;rw[this];rfl
 rw[d];show Q (.tuple #[enc t.1,t.2.1]) h;rw[E,b];exact hk
end
end Go.Den
namespace Go.Den
section
variable {P : Program}
def C8(P:Program)(eq:TypeId->Value->Value->Option Bool)(xs ys:Array Value)(t:TypeId)(off:Nat)(a:Option Bool):Option Bool:=
 match kz P (part t xs off),kz P (part t ys off)with
 |some u,some v=>(match eq t u v,a with|some b,some c=>some (b && c)|_,_=>none)
 |_,_=>none
def Tp(P:Program):Nat->TypeId->Value->Value->Option Bool
 |0,_,_,_=>none
 |n+1,t,x,y=>
  match P.underlying t with
  |some .bool=>(match x,y with| .bool a,.bool b=>some (a==b)|_,_=>none)
  |some (.int _)=>(match x,y with| .int k a,.int k' b=>(match decide (k=k')with|true=>some (a==b)|false=>none)|_,_=>none)
  |some .string=>(match x,y with| .string a,.string b=>some (a==b)|_,_=>none)
  |some (.struct fs)=>(match x,y with
   | .agg xs,.agg ys=>(match P.stoodInHeld t with
    |true=>none
    |false=>fs.toList.foldr (λf A=>match decide (f.name= "_")with|true=>A|false=>C8 P (Tp P n) xs ys f.type f.offset A) (some true))
   |_,_=>none)
  |some (.array len e)=>(match x,y,P.info? e with
   | .agg xs,.agg ys,some i=>(List.range len).foldr (λk A=>C8 P (Tp P n) xs ys e (k*i.size) A) (some true)
   |_,_,_=>none)
  |_=>none
theorem rV{i:Type}{h:ak}{step:i->Option Bool->Option Bool}{B:i->Option Bool×Unit->Sem (ForInStep (Option Bool×Unit))}: ∀(l:List i)(b:Bool),l.foldr step (some true)=some b->
  (∀f a b,step f a=some b->(a=some b/\rd P (B f (none,())) h=some (.yield (none,())))\/∃q c,a=some c/\b=(q && c)/\rd P (B f (none,())) h=some (if q=true then .yield (none,())else .done (some false,())))->
  rd P (forIn l (none,()) B) h=some (if b=true then(none,())else(some false,()))
 | [],b,H,_=>by
  cases bp H;rfl
 |f::l,b,H,g=>by
  rw[List.foldr_cons]at H;rw[List.forIn_cons];rcases g f _ b H with⟨d,e⟩|⟨q,c,d,rfl,e⟩
  .rw[bE _ _ _ _ e];exact rV l b d g
  .rw[bE _ _ _ _ e];cases q with
   |true=>rw[dX];exact rV l c d g
   |false=>rfl
theorem Ch{eq:TypeId->Value->Value->Option Bool}{n:Nat}(d: ∀t x y b,eq t x y=some b->∀h,rd P (Op.equalIn n t x y) h=some b){xs ys:Array Value}{t:TypeId}{off:Nat}{a:Option Bool}{b:Bool}{h:ak}(H:C8 P eq xs ys t off a=some b):
  ∃q c u v,a=some c/\b=(q && c)/\rd P (part t xs off) h=some u/\rd P (part t ys off) h=some v/\rd P (Op.equalIn n t u v) h=some q:=by
 unfold C8 at H;split at H
 .rename_i u v f g;split at H
  .rename_i q c e;exact⟨q,c,u,v,rfl,(bp H).symm,te _ _ f h,te _ _ g h,d _ _ _ _ e h⟩
  .cases H
 .cases H
theorem GW : ∀(n : Nat)(t : TypeId)(x y : Value)(b : Bool), Tp P n t x y = some b -> ∀ h, rd P (Op.equalIn n t x y) h = some b
  | 0, _, _, _, _, H => by cases H
  | n + 1, t, x, y, b, H => by
    intro h
    unfold Tp at H
    unfold Op.equalIn
    split at H
    · rename_i g
      rw [bE _ _ _ _ (bJ g)]
      split at H
      · rw [<- H]; rfl
      · cases H
    · rename_i d g
      rw [bE _ _ _ _ (bJ g)]
      split at H
      · rename_i k a k' c
        split at H
        · rename_i hk
          simp only [aP hk, bg]
          rw [<- H]; rfl
        · cases H
      · cases H
    · rename_i g
      rw [bE _ _ _ _ (bJ g)]
      split at H
      · rw [<- H]; rfl
      · cases H
    · rename_i fs g
      rw [bE _ _ _ _ (bJ g)]
      split at H
      · rename_i xs ys
        split at H
        · cases H
        · rename_i C
          dsimp only
          rw [bE _ _ _ _ (show rd P program h = some P from rfl), C]
          simp only [au, aM]
          rw [<- Array.forIn_toList, bE _ _ _ _ (rV (h := h) fs.toList b H ?_)]
          · cases b <;> rfl
          · intro f A b j
            split at j
            · rename_i w
              refine .inl ⟨j, ?_⟩
              rw [af (cH w)]
              rfl
            · rename_i w
              obtain ⟨q, c, u, v, l, m, o, p, r⟩ := Ch (h := h) (λt x y b s h => GW n t x y b s h) j
              refine .inr ⟨q, c, l, m, ?_⟩
              rw [ah (cH w), bE _ _ _ _ o, bE _ _ _ _ p, bE _ _ _ _ r]
              cases q <;> rfl
      · cases H
    · rename_i len e g
      rw [bE _ _ _ _ (bJ g)]
      split at H
      · rename_i xs ys i z
        dsimp only
        rw [bE _ _ _ _ (hY z), Std.Legacy.Range.forIn_eq_forIn_range']
        have B : List.range' ([:len] : Std.Legacy.Range).start ([:len] : Std.Legacy.Range).size ([:len] : Std.Legacy.Range).step = List.range len := by
          simp [Std.Legacy.Range.size, fV]
        rw [B, bE _ _ _ _ (rV (h := h) (List.range len) b H ?_)]
        · cases b <;> rfl
        · intro k A b j
          obtain ⟨q, c, u, v, l, m, o, p, r⟩ := Ch (h := h) (λt x y b s h => GW n t x y b s h) j
          refine .inr ⟨q, c, l, m, ?_⟩
          rw [bE _ _ _ _ o, bE _ _ _ _ p, bE _ _ _ _ r]
          cases q <;> rfl
      · cases H
    · cases H
theorem yD.of{t:TypeId}{x y:Value}{b:Bool}(H:Tp P 10000 t x y=some b):yD P t x y b:=λh=>GW 10000 t x y b H h
end
end Go.Den
namespace Go.fk
section
variable {n:Nat}
def qL:Nat->Nat->cM
 |0,n=> [UInt8.ofNat n]
 |f+1,n=>if n>127 then UInt8.ofNat (n%128+128)::qL f (n/128)else [UInt8.ofNat n]
def cd(n:Nat):cM:=qL 9 n
theorem Ci: ∀(f n:Nat),n<128 ^ (f+1)->qL (f+1) n=qL f n
 |0,n,h=>by
  unfold qL;rw[dz]
 |f+1,n,h=>by
  rw[show qL (f+1+1) n=if n>127 then UInt8.ofNat (n%128+128)::qL (f+1) (n/128)else [UInt8.ofNat n]from rfl,
   show qL (f+1) n=if n>127 then UInt8.ofNat (n%128+128)::qL f (n/128)else [UInt8.ofNat n]from rfl]
  split
  .rw[Ci f (n/128) (by rw[Nat.pow_succ]at h;omega)]
  .rfl
theorem xF(h:n<18446744073709551616):cd n=if n>127 then UInt8.ofNat (n%128+128)::cd (n/128)else [UInt8.ofNat n]:=by
 unfold cd;rw[qL];split
 .rw[<-Ci 8 (n/128) ae]
 .rfl
theorem EI: ∀(f n:Nat),1<=(qL f n).length/\(qL f n).length<=f+1
 |0,n=>by simp[qL]
 |f+1,n=>by
  have:=EI f (n/128);rw[qL];split
  .simp only[aW];omega
  .simp
theorem bO(n:Nat):1<=(cd n).length/\(cd n).length<=10:=EI 9 n
def xG:Nat->Nat->Nat
 |0,_=>1
 |f+1,n=>if n>127 then xG f (n/128)+1 else 1
def GG:Nat->Nat->cM->Nat×Int×cM
 |_,_, []=>(0,8, [])
 |i,n,c::bs=>
  if i=10\/(i=9/\c.toNat>1)\/(c.toNat=0/\i>0)then(0,3,bs)
  else if c.toNat<128 then(n+c.toNat%128*2 ^ (7*i),0,bs)
  else GG (i+1) (n+c.toNat%128*2 ^ (7*i)) bs
def fc(e:Int)(bs:cM):Nat×Int×cM:=if e=0 then GG 0 0 bs else(0,e,bs)
theorem MB: ∀(bs:cM)(i n:Nat),i<=10->n<2 ^ (7*i)->n<18446744073709551616->(GG i n bs).1<18446744073709551616
 | [],_,_,_,_,_=>by simp[GG]
 |c::bs,i,n,d,e,f=>by
  rw[GG];split
  .simp
  .rename_i g;have b:c.toNat%128<128:=Nat.mod_lt _ ae;have h:n+c.toNat%128*2 ^ (7*i)<18446744073709551616/\n+c.toNat%128*2 ^ (7*i)<2 ^ (7*(i+1)):=by
    have j:(2:Nat) ^ (7*(i+1))=128*2 ^ (7*i):=by rw[Nat.mul_add,Nat.pow_add,gi]
    have H:(c.toNat%128+1)*2 ^ (7*i)<=128*2 ^ (7*i):=cQ _ ae;rw[dW]at H;refine⟨?_,ae⟩;by_cases a:i=9
    .subst a;have:c.toNat<=1:=ae
     have:c.toNat%128<=1:=ae
     omega
    .have:(2:Nat) ^ (7*(i+1))<=2 ^ 63:=fW ae ae;omega
   split
   .exact h.1
   .exact MB bs (i+1) _ ae h.2 h.1
theorem GX(e:Int)(bs:cM):(fc e bs).1<18446744073709551616:=by
 unfold fc;split
 .exact MB bs 0 0 ae bQ ae
 .simp
theorem C9: ∀(bs:cM)(i n:Nat),(GG i n bs).2.2.length<=bs.length
 | [],_,_=>by simp[GG]
 |c::bs,i,n=>by
  rw[GG];split
  .simp
  .split
   .simp
   .have:=C9 bs (i+1) (n+c.toNat%128*2 ^ (7*i));simp only[aW];omega
theorem I8: ∀(f n i a:Nat)(rest:cM),i+f=9->n*2 ^ (7*i)<18446744073709551616->(n=0->i=0)->GG i a (qL f n++rest)=(a+n*2 ^ (7*i),0,rest)
 |0,n,i,a,rest,g,H,b=>by
  have j:i=9:=ae
  subst j;have o:n<2:=by
   have:n*2 ^ 63<2*2 ^ 63:=H;exact Nat.lt_of_mul_lt_mul_right this
  have p:n≠0:=λe=>by have:=b e;omega
  obtain rfl:n=1:=ae
  simp[qL,GG]
 |f+1,n,i,a,rest,g,H,b=>by
  have c:(2:Nat) ^ (7*(i+1))=128*2 ^ (7*i):=by rw[Nat.mul_add,Nat.pow_add,gi]
  have m:n<18446744073709551616:=by
   have:n*1<=n*2 ^ (7*i):=Nat.mul_le_mul_left _ (Nat.two_pow_pos _);omega
  rw[qL];split
  .rename_i k;rw[dC,GG];have h:(UInt8.ofNat (n%128+128)).toNat=n%128+128:=by rw[fC];omega
   rw[h,dz,dz];have e1:(n%128+128)%128=n%128:=ae
   have d:n=128*(n/128)+n%128:=(Nat.div_add_mod n 128).symm;rw[I8 f (n/128) (i+1) _ rest ae ?_ (λe=>ae),e1]
   .refine Prod.ext ?_ rfl;simp only;rw[c];have:n/128*(128*2 ^ (7*i))=(128*(n/128))*2 ^ (7*i):=by rw[gi 128 (n/128),Nat.mul_assoc]
    rw[this,Nat.add_assoc,<-dW,Nat.add_comm (n%128),<-d]
   .rw[c];have:n/128*(128*2 ^ (7*i))=(128*(n/128))*2 ^ (7*i):=by rw[gi 128 (n/128),Nat.mul_assoc]
    rw[this];refine Nat.lt_of_le_of_lt (cQ _ ?_) H;omega
  .rename_i l;rw[dC,cy,GG];have h:(UInt8.ofNat n).toNat=n:=by rw[fC];omega
   rw[h,dz,gh,gp ae]
theorem nF(h:n<18446744073709551616)(rest:cM):fc 0 (cd n++rest)=(n,0,rest):=by
 unfold fc cd;rw[ah rfl,I8 9 n 0 0 rest ae (cH h) (λ_=>rfl)];simp
def fJ(n:Int):Nat:=n.toNat
def bit(b:Bool):Nat:=if b=true then 1 else 0
def dJ(t:cM):cM:=cd t.length++t
def MC(e E:Int):Int:=if e=0 then E else e
def iF(t:Nat)(e:Int)(bs:cM):Nat×Int×cM:=
 if(fc e bs).1>t then(0,MC (fc e bs).2.1 3,(fc e bs).2.2)else fc e bs
theorem EJ(t:Nat)(e:Int)(bs:cM):(iF t e bs).1<=t:=by
 unfold iF;split
 .exact br _
 .rename_i h;exact Nat.le_of_not_lt h
def lB(e:Int)(bs:cM):Nat×Int×cM:=iF 1099511627776 e bs
def jV(e:Int)(bs:cM):cM×Int×cM:=
 if(fc e bs).2.1=0 then
  (if(fc e bs).1>(fc e bs).2.2.length then([],8,(fc e bs).2.2)
  else((fc e bs).2.2.take (fc e bs).1,0,(fc e bs).2.2.drop (fc e bs).1))
 else([],(fc e bs).2.1,(fc e bs).2.2)
def uV(e:Int)(bs:cM):Int:=if e=0 then(if bs= []then 0 else 2)else e
theorem pD{t:Nat}(h:n<=t)(H:t<18446744073709551616)(y:cM):iF t 0 (cd n++y)=(n,0,y):=by
 unfold iF;rw[nF ae];rw[af (by show¬n>t;omega)]
theorem Da{t:cM}(h:t.length<18446744073709551616)(y:cM):jV 0 (dJ t++y)=(t,0,y):=by
 unfold jV dJ;rw[cT,nF h];dsimp only;rw[ah rfl,af (by rw[ar];omega)];simp
theorem qM(e:Int)(bs:cM):(fc e bs).2.2.length<=bs.length:=by
 unfold fc;split
 .exact C9 bs 0 0
 .exact bn _
theorem pE(t:Nat)(e:Int)(bs:cM):(iF t e bs).2.2.length<=bs.length:=by
 unfold iF;split<;>exact qM e bs

end
end Go.fk
namespace Go.kQ
section
variable {n i j:Nat} {g:Int->Option Value} {k:Int}
abbrev E:=Int×Int
variable {x y z:E} {f:Nat->E} {es l L:List E}
def lt(x y:E):Prop:=x.2<y.2\/(x.2=y.2/\x.1<y.1)
def le(x y:E):Prop:= ¬lt y x
theorem lt_irrefl(x:E): ¬lt x x:=by unfold lt;omega
theorem lt_trans(h:lt x y)(h':lt y z):lt x z:=by unfold lt at*;omega
theorem le_refl(x:E):le x x:=lt_irrefl x
theorem le_trans(h:le x y)(h':le y z):le x z:=by unfold le lt at*;omega
theorem le_of_lt(h:lt x y):le x y:=by unfold le lt at*;omega
theorem lt_of_le_ne(h:le x y)(h':x.1≠y.1):lt x y:=by unfold le lt at*;omega
instance (x y : E) : Decidable (lt x y) := inferInstanceAs (Decidable (_ ∨ _))
def qN(f:Nat->E)(n:Nat):Prop:= ∀j,0<j->j<n->le (f ((j - 1)/2)) (f j)
def tO(f:Nat->E)(n i:Nat):Prop:=
 (∀j,0<j->j<n->j≠i->(j - 1)/2≠i->le (f ((j - 1)/2)) (f j))/\(0<i->∀j,0<j->j<n->(j - 1)/2=i->le (f ((i - 1)/2)) (f j))
def tQ(f:Nat->E)(n i:Nat):Prop:=
 (∀j,0<j->j<n->(j - 1)/2≠i->le (f ((j - 1)/2)) (f j))/\(0<i->∀j,0<j->j<n->(j - 1)/2=i->le (f ((i - 1)/2)) (f j))
def zC(f:Nat->E)(n i:Nat):Prop:= ∀j,0<j->j<n->(j - 1)/2=i->le (f i) (f j)
def oF(f:Nat->E)(i j:Nat):Nat->E:=λk=>if k=i then f j else if k=j then f i else f k
theorem Ph(h:tO f n i)(d:i=0\/le (f ((i - 1)/2)) (f i)):tQ f n i:=by
 refine⟨λj a b c=> ?_,h.2⟩;by_cases H:j=i
 .subst H;rcases d with h0|h0
  .omega
  .exact h0
 .exact h.1 j a b H c
theorem pF(h:tQ f n i)(hk:zC f n i):qN f n:=by
 intro j a b;by_cases H:(j - 1)/2=i
 .have:=hk j a b H;rw[H];exact this
 .exact h.1 j a b H
theorem Pj{p:Nat}(h:tO f n i)(q:0<i)(u:i<n)(s:p=(i - 1)/2)(e:lt (f i) (f p)):tO (oF f i p) n p/\zC (oF f i p) n p:=by
 have m:p≠i:=ae
 refine⟨⟨λj a b c r=> ?_,λt j a b c=> ?_⟩,λj a b c=> ?_⟩
 ·
  have H:j≠i:=ae
  unfold oF;rw[af H,af c];by_cases d:(j - 1)/2=i
  .rw[ah d,s];exact h.2 q j a b d
  .rw[af d,af r];exact h.1 j a b H d
 .have o:=h.1 p t ae m ae;unfold oF;rw[af (show(p - 1)/2≠i by omega),af (show(p - 1)/2≠p by omega)];by_cases H:j=i
  .rw[ah H];exact o
  .rw[af H,dz];have:=h.1 j a b H ae;rw[c]at this;exact le_trans o this
 .unfold oF;rw[af m,ah rfl];by_cases H:j=i
  .rw[ah H];exact le_of_lt e
  .rw[af H,dz];have:=h.1 j a b H ae;rw[c]at this;exact le_trans (le_of_lt e) this
theorem Kz{c:Nat}(h:tQ f n i)(o:(c - 1)/2=i)(q:0<c)(t:c<n)(r:lt (f c) (f i))(s: ∀j,0<j->j<n->(j - 1)/2=i->le (f c) (f j)):tQ (oF f i c) n c:=by
 have u:c≠i:=ae
 refine⟨λj H b m=> ?_,λ_ j H b m=> ?_⟩
 .unfold oF;by_cases p:j=i
  .subst p;rw[af (show(j - 1)/2≠j by omega),af (show(j - 1)/2≠c by omega),ah rfl];exact h.2 H c q t o
  .by_cases a:(j - 1)/2=i
   .rw[ah a,af p];by_cases d:j=c
    .rw[ah d];exact le_of_lt r
    .rw[af d];exact s j H b a
   .have d:j≠c:=by intro e;subst e;exact a o
    rw[af a,af m,af p,af d];exact h.1 j H b a
 .unfold oF;rw[o,ah rfl,af (show j≠i by omega),af (show j≠c by omega)];have:=h.1 j H b ae;rw[m]at this;exact this
theorem MD(h:qN f n): ∀j,j<n->le (f 0) (f j):=by
 intro j;induction j using Nat.strongRecOn with
 |_ j I=>
  intro a;by_cases H:j=0
  .subst H;exact le_refl _
  .exact le_trans (I ((j - 1)/2) ae ae) (h j ae a)
def at_(es:List E)(i:Nat):E:=es.getD i (0,0)
theorem nY(h:i<es.length):at_ es i=es[i]:=by simp[at_,h]
theorem I9(h:i<es.length):es[i]? =some (at_ es i):=by simp[at_,h]
theorem GY(h:i<es.length):at_ (es.set i x) j=if j=i then x else at_ es j:=by
 unfold at_;by_cases e:j=i
 .subst e;simp[h]
 .simp[e,fv e]
def pQ(es:List E)(i j:Nat):List E:=(es.set j (at_ es i)).set i (at_ es j)
theorem wi :(pQ es i j).length=es.length:=by simp[pQ]
theorem EK(h:i<es.length)(H:j<es.length)(k:Nat):at_ (pQ es i j) k=oF (at_ es) i j k:=by
 unfold pQ oF;rw[GY (cH h),GY H]
theorem Cj(h:i<es.length)(H:j<es.length):at_ (pQ es i j)=oF (at_ es) i j:=funext (EK h H)
theorem tR(h:i<es.length)(H:j<es.length):(pQ es i j).Perm es:=by
 unfold pQ;rw[nY h,nY H];exact List.set_set_perm H h
def iG(es:List E)(g:Int->Option Value):Prop:=
 (es.map (·.1)).Nodup/\(∀j,j<es.length->g (at_ es j).1=some (.int .i64 j))/\∀k,k∉es.map (·.1)->g k=none
theorem key_inj(h:(es.map (·.1)).Nodup)(H:i<es.length)(b:j<es.length)(a:(at_ es i).1=(at_ es j).1):i=j:=by
 rw[nY H,nY b]at a;have c:=dU (i:=i) (j:=j) (cH H) h;exact c.1 (by simp[H,b,a])
theorem iG.swap(h:iG es g)(H:i<es.length)(a:j<es.length)(q:i≠j):
  iG (pQ es i j) (λk=>if k=(at_ es j).1 then some (.I i)else if k=(at_ es i).1 then some (.I j)else g k):=by
 obtain⟨b,m,o⟩:=h;have d:=(tR H a).map (·.1);refine⟨d.nodup_iff.2 b,λk hk=> ?_,λk hk=> ?_⟩
 .rw[wi]at hk;rw[EK H a];unfold oF;by_cases e1:k=i
  .subst e1;simp
  .by_cases e2:k=j
   .subst e2;rw[af e1,ah rfl];have:(at_ es i).1≠(at_ es k).1:=λe=>q (key_inj b H a e)
    simp[this]
   .rw[af e1,af e2];have n1:(at_ es k).1≠(at_ es j).1:=λe=>e2 (key_inj b hk a e)
    have n2:(at_ es k).1≠(at_ es i).1:=λe=>e1 (key_inj b hk H e)
    simp[n1,n2,m k hk]
 .have c:k∉es.map (·.1):=λp=>hk (d.mem_iff.2 p)
  have M:(at_ es j).1∈es.map (·.1):=by rw[nY a];exact bu (dQ a)
  have r:(at_ es i).1∈es.map (·.1):=by rw[nY H];exact bu (dQ H)
  simp only[];rw[af (show k≠_ from λe=>c (e.symm▸M)),af (show k≠_ from λe=>c (e.symm▸r))];exact o k c
def ju(l:List E):Prop:=l.Pairwise lt
def keys(l:List E):List Int:=l.map (·.1)
def fS(l:List E)(k:Int):List E:=l.filter (λe=> !(e.1==k))
def uW(l:List E)(x:E):List E:=l.filter (λe=>decide (lt e x))++x::l.filter (λe=> !decide (lt e x))
theorem mg(l:List E)(x:E):(uW l x).Perm (x::l):=by
 unfold uW;refine(List.perm_middle).trans (List.Perm.cons x ?_);exact List.filter_append_perm _ _
theorem ju.drop(h:ju l)(k:Int):ju (fS l k):=fU _ h
theorem ju.insert(h:ju l)(x:E)(hk:x.1∉keys l):ju (uW l x):=by
 unfold ju uW;rw[List.pairwise_append];refine⟨fU _ h,?_,?_⟩
 .rw[dS];refine⟨λy a=> ?_,fU _ h⟩;obtain⟨c,H⟩:=ba.1 a;have b: ¬lt y x:=by simpa using H
  exact lt_of_le_ne b (λe=>hk (by rw[e];exact bu c))
 .intro y a z hz;obtain⟨_,H⟩:=ba.1 a;have m:lt y x:=by simpa using H
  rcases bG.1 hz with rfl|hz
  .exact m
  .obtain⟨_,d⟩:=ba.1 hz;have b: ¬lt z x:=by simpa using d
   unfold lt at*;omega
theorem GZ(l:List E)(k:Int):k∉keys (fS l k):=by
 intro h;obtain⟨e,H,rfl⟩:=bj.1 h;have:=(ba.1 H).2;simp at this
theorem j4(h:k∉keys l):fS l k=l:=by
 unfold fS;rw[cB];intro e H;have:e.1≠k:=λE=>h (E▸bu H)
 simp[this]
theorem G0(h:l.Perm L)(k:Int):(fS l k).Perm (fS L k):=h.filter _
theorem ME(H:es.Perm l)(o:ju l)(d:qN (at_ es) es.length)(a:0<es.length): ∃r,l=at_ es 0::r:=by
 cases l with
 |nil=>have:=H.length_eq;simp only[bw]at this;omega
 |cons x r=>
  refine⟨r,?_⟩;have p:x∈es:=H.mem_iff.2 df;obtain⟨j,h⟩:=bK p;have b:j<es.length:=(aB.1 h).1;have c:=MD d j b;rw[I9 b]at h;have e1:at_ es j=x:=bp h;rw[e1]at c;have m:at_ es 0∈x::r:=H.mem_iff.1 (by rw[nY a];exact dQ a);rcases bG.1 m with e|e
  .rw[e]
  .have:=(dS.1 o).1 _ e;exact absurd this c
theorem Ck(H:es.length=n+1):es=es.take n++ [at_ es n]:=by
 have h:n<es.length:=ae
 rw[nY h];have:=List.take_append_getElem h;rw[this,bk ae]
theorem Db(h:i<n):at_ (es.take n) i=at_ es i:=by
 unfold at_;rw[bh,bh,db,ah h]
theorem wj :at_ (es++ [x]) i=if i<es.length then at_ es i else if i=es.length then x else(0,0):=by
 unfold at_;rw[bh,bh];by_cases h:i<es.length
 .rw[dc h,ah h]
 .rw[cY ae,af h];by_cases e:i=es.length
  .subst e;simp
  .rw[af e,dI (by simp;omega)];rfl
theorem mem_keys(h:k∈keys es): ∃j,j<es.length/\(at_ es j).1=k:=by
 obtain⟨e,b,rfl⟩:=bj.1 h;obtain⟨j,H⟩:=bK b;have a:=(aB.1 H).1;rw[I9 a]at H;exact⟨j,a,bP Prod.fst (bp H)⟩
theorem at_mem(h:j<es.length):at_ es j∈es:=by rw[nY h];exact dQ h
theorem keys_perm(h:l.Perm L):(keys l).Perm (keys L):=h.map _
def cut(es:List E)(n j:Nat):List E:=if j<n then(es.take n).set j (at_ es n)else es.take n
theorem EL(a:es.length=n+1)(c:j<es.length):es.Perm (at_ es j::cut es n j):=by
 unfold cut;have d:(es.take n).length=n:=by rw[bC];omega
 split
 .rename_i h;have H:j<(es.take n).length:=ae
  have e1:at_ es j=(es.take n)[j]:=by rw[<-Db h,nY H]
  have p:es.Perm (at_ es n::es.take n):=by
   have:es.Perm (es.take n++ [at_ es n]):=by rw[<-Ck a]
   exact this.trans (dY _ _)
  have P:(es.take n).Perm (at_ es j::((es.take n).take j++(es.take n).drop (j+1))):=by
   rw[e1];have e2:es.take n=(es.take n).take j++(es.take n)[j]::(es.take n).drop (j+1):=by rw[<-da H,List.take_append_drop]
   have e:(es.take n).Perm ((es.take n).take j++(es.take n)[j]::(es.take n).drop (j+1)):=List.Perm.of_eq e2;exact e.trans List.perm_middle
  have b:((es.take n).set j (at_ es n)).Perm (at_ es n::((es.take n).take j++(es.take n).drop (j+1))):=by
   rw[List.set_eq_take_append_cons_drop,ah H];exact List.perm_middle
  exact p.trans ((P.cons _).trans ((List.Perm.swap _ _ _).trans (b.symm.cons _)))
 .have:j=n:=ae
  subst this;have:es.Perm (es.take j++ [at_ es j]):=by rw[<-Ck a]
  exact this.trans (dY _ _)
theorem MF(c:es.length=n+1)(b:j<es.length)(hd:(keys es).Nodup)(d:es.Perm l):(cut es n j).Perm (fS l (at_ es j).1):=by
 have h:=EL c b;have hk:(at_ es j).1∉keys (cut es n j):=by
  have:=(keys_perm h).nodup_iff.1 hd;exact(fb.1 this).1
 have H:=G0 (h.symm.trans d) (at_ es j).1;have a:fS (at_ es j::cut es n j) (at_ es j).1=cut es n j:=by
  have:fS (at_ es j::cut es n j) (at_ es j).1=fS (cut es n j) (at_ es j).1:=by
   unfold fS;rw[cz];simp
  rw[this,j4 hk]
 rw[a]at H;exact H
theorem Dc(h:es.length=n+1):(cut es n j).length=n:=by
 unfold cut;split
 .rw[dj,bC];omega
 .rw[bC];omega
theorem pG(a:es.length=n+1)(h:i<n):at_ (cut es n j) i=if i=j then at_ es n else at_ es i:=by
 have H:(es.take n).length=n:=by rw[bC];omega
 unfold cut;split
 .rw[GY ae,Db h]
 .rw[Db h,dz]
theorem KA(h:iG es g)(a:es.length=n+1)(m:j<es.length):
  iG (cut es n j) (λk=>if j<n then(if k=(at_ es n).1 then some (.I j)else if k=(at_ es j).1 then none else g k)else if k=(at_ es j).1 then none else g k):=by
 obtain⟨b,p,q⟩:=h;have o:=keys_perm (EL a m);have t:=o.nodup_iff.1 b;refine⟨(fb.1 t).2,λi c=> ?_,λk hk=> ?_⟩
 .rw[Dc a]at c;rw[pG a c];by_cases e:i=j
  .subst e;simp[c]
  .rw[af e];have n1:(at_ es i).1≠(at_ es n).1:=λx=>by have:=key_inj b ae ae x;omega
   have n2:(at_ es i).1≠(at_ es j).1:=λx=>e (key_inj b ae m x)
   simp[n1,n2,p i ae]
 .have d: ∀k,k∉(cut es n j).map (·.1)->k≠(at_ es j).1->g k=none:=λk hk u=>by
   refine q k λs=> ?_
   rcases bG.1 (o.mem_iff.1 s)with e|e
   .exact u e
   .exact hk e
  by_cases H:j<n
  .have r:(at_ es n).1∈(cut es n j).map (·.1):=by
    have:=at_mem (es:=cut es n j) (j:=j) (by rw[Dc a];exact H);rw[pG a H,ah rfl]at this;exact bu this
   have n1:k≠(at_ es n).1:=λe=>hk (e▸r)
   by_cases e:k=(at_ es j).1
   .subst e;simp[H,n1]
   .simp[H,n1,e,d k hk e]
  .by_cases e:k=(at_ es j).1
   .subst e;simp[H]
   .simp[H,e,d k hk e]
theorem MG(h:es.length=n+1)(o:j<n)(d:qN (at_ es) es.length):tO (at_ (cut es n j)) n j:=by
 refine⟨λc H a b m=> ?_,λe c H a b=> ?_⟩
 .rw[pG h a,pG h ae,af b,af m];exact d c H ae
 .rw[pG h a,pG h ae,dz,dz];have:=d c H ae;rw[b]at this;exact le_trans (d j e ae) this
theorem MH(h:es.length=n+1)(d: ¬j<n)(b:qN (at_ es) es.length):qN (at_ (cut es n j)) n:=λc H a=>by
 rw[pG h a,pG h ae,dz,dz];exact b c H ae
theorem MI(b:qN (at_ es) es.length):tO (at_ (es++ [x])) (es.length+1) es.length/\zC (at_ (es++ [x])) (es.length+1) es.length:=by
 refine⟨⟨λc h H a e=> ?_,λd c h H a=>ae⟩,λc h H a=>ae⟩;rw[wj,wj,gh,gh];exact b c h ae
theorem KB(h:iG es g)(H:x.1∉keys es):iG (es++ [x]) (λk=>if k=x.1 then some (.I es.length)else g k):=by
 obtain⟨a,b,c⟩:=h;refine⟨?_,λi d=> ?_,λk hk=> ?_⟩
 .have:((es++ [x]).map (·.1)).Perm (x.1::es.map (·.1)):=by
   rw[aV];exact dY _ _
  exact this.nodup_iff.2 (fb.2 ⟨H,a⟩)
 .rw[ar,dG]at d;rw[wj];by_cases e:i<es.length
  .rw[ah e];have:(at_ es i).1≠x.1:=λq=>H (q▸bu (at_mem e))
   simp[this,b i e]
  .have:i=es.length:=ae
   subst this;simp
 .rw[aV,bz]at hk;have n1:k≠x.1:=λe=>hk (.inr (by simp[e]))
  simp[n1,c k (λm=>hk (.inl m))]
theorem G1{e:E}(hd:(keys (e::l)).Nodup):fS (e::l) e.1=l:=by
 have h:fS (e::l) e.1=fS l e.1:=by unfold fS;rw[cz];simp
 rw[h,j4 (fb.1 hd).1]

end
end Go.kQ
namespace Go.Den
section
variable {P : Program}
theorem EM{S x ty elem:TypeId}{sz bytes:Nat}{z:Value}{h:ak}{n:Nat}{K:fG}(T:nW P S elem sz bytes z)(w:P.underlying x=some (.int .i64))(D:0<n)(A:n*bytes<=70368744177664)(B:n<=4611686018427387904)(hk: ∀c h',fi h' (Sa h.size 0) 0 c sz []->n<=c->Fr (λ_=>False) h h'->K (.slice (Sa h.size 0) n c) h'):
  aU P (Builtin.append_ #[S,x] ty #[.Z,.I (n:Int)]) h K:=by
 obtain⟨i,b,rfl,rfl,g⟩:=T.i;have u:=T.zs;unfold Builtin.append_;refine bU (s:=underlying S) (bJ T.u) ?_;refine bU (s:=sizeOf elem) (hY b) ?_;refine bU (s:=underlying x) (bJ w) ?_;refine bU (s:=(pure true:Sem Bool)) (a:=true) rfl ?_;have e:IntKind.wrap .i64 (n:Int)=(n:Int):=bB ae ae;refine bU (s:=asInt (.I (n:Int))) (a:=(n:Int)) rfl ?_;show aU P (if IntKind.wrap .i64 (n:Int)<0 then _ else _) h K;rw[af (by rw[e];omega)];refine bU (s:=typeInfo elem) (hT b) ?_;show aU P (if IntKind.wrap .i64 (n:Int)*(i.bytes:Int)>2 ^ 48 then _ else _) h K;have k:(n:Int)*(i.bytes:Int)=((n*i.bytes:Nat):Int):=bQ
 rw[af (by rw[e,k];omega)];refine bU (s:=(pure (IntKind.wrap .i64 (n:Int)).toNat:Sem Nat)) (a:=n) (by rw[e];rfl) ?_;show aU P (if 0+n<=0 then _ else _) h K;rw[dz];refine bU (s:=typeInfo elem) (hT b) ?_;show aU P (if(((0+n:Nat):Int)>IntKind.max .i64/\(true=true\/i.bytes=0))then _ else _) h K;have q:IntKind.max .i64=9223372036854775807:=rfl;rw[af (by rw[q];omega)];refine bU (s:=typeInfo elem) (hT b) ?_;have p:=nextslicecap_le (need:=0+n) (cap:=0) ae;have r: ¬(Builtin.nextslicecap (0+n) 0*i.bytes>2 ^ 48):=by
  have d:Builtin.nextslicecap (0+n) 0*i.bytes<=2*(0+n)*i.bytes:=cQ _ p;rw[Nat.mul_assoc,bH]at d;rw[bH];omega
 show aU P (if Builtin.nextslicecap (0+n) 0*i.bytes>2 ^ 48 then _ else _) h K;rw[af r];show aU P (choose (.appendCap (0+n) 0 elem)>>=_) h K;rw[dR];unfold choose;simp only[aU,Question.forced,au,aM,Question.cut];intro y;refine bU (s:=typeInfo elem) (hT b) ?_;rw[dR];have t: ∀(m:Nat)(K':Unit->ak->Prop),K' () h->aU P (askRoom m) h K':=λm K' f=>by
  unfold askRoom;split
  .exact f
  .exact f
 refine t _ _ ?_;refine bU (s:=Builtin.firstCells i.size 0 (.Z)) (a:= #[]) (lA (ds:= []) (.inl rfl) bQ) ?_;have R:=jb (h:=h) b g;refine bU (a:=if n*i.size=0 then #[]else Builtin.zeroCells z.cells n) ?_ ?_
 .show rd P (if n*i.size=0 then pure #[]else _) h=_;by_cases H:n*i.size=0
  .rw[ah H,ah H];rfl
  .rw[af H,af H,bE _ _ _ _ R];rfl
 refine bU (s:=zeroValue elem) (jb b g) ?_;generalize C:0+n+y%(2 ^ 63 - (0+n))=c;have l:n<=c:=ae
 have d: ∀m,(Builtin.zeroCells z.cells m).size=m*i.size:=λm=>by simp[Builtin.zeroCells,u]
 show K (.slice (Sa h.size 0) (0+n) c) (h.push (.cells (#[]++(if n*i.size=0 then #[]else Builtin.zeroCells z.cells n)++Builtin.zeroCells z.cells (c - (0+n))) elem));rw[bH];refine hk c _ (.row h.size 0 _ elem rfl bV (br _) ?_ bQ (λj v o=>by cases o)) l (Fr.push _ _);rw[Array.size_append,d];have:(#[]++(if n*i.size=0 then #[]else Builtin.zeroCells z.cells n):Array Value).size=n*i.size:=by
  by_cases H:n*i.size=0
  .rw[ah H,H];rfl
  .rw[af H,Array.size_append,d];simp
 rw[this,<-dW,bH,show n+(c - n)=c by omega];omega
end
section
variable {h h':ak} {X:Ft} {j:Nat}
def In(X:Ft)(y:Nat):Prop:=X.M y\/X.D y
abbrev only(X:Ft)(P:Nat->Prop):Prop:= ∀y,(X.M y↔P y)/\¬X.D y
abbrev pt(b:Nat):Value:=.pointer (some ⟨b,0,none⟩)
structure zD (P:Nat->ak->Ft->Prop):Prop where
 lt: ∀ {i h X},P i h X->∀y,In X y->y<h.size
 frame: ∀ {i h h' X} {Q:Nat->Prop},P i h X->Fr Q h h'->(∀y,In X y->¬Q y)->P i h' X
 wk: ∀ {i h X},P i h X->∀y,X.M y->X.D y->False
def G2(P:Nat->ak->Ft->Prop)(h:ak)(X:Ft):Prop:= ∃Y:Nat->Ft,(∀i,P i h (Y i))/\(∀i j y,i≠j->In (Y i) y->¬In (Y j) y)/\(∀y,X.M y↔ ∃i,(Y i).M y)/\∀y,X.D y↔ ∃i,(Y i).D y
variable {P p : Nat → ak → Ft → Prop}
theorem G2.lt(S:zD P)(H:G2 P h X)(y:Nat)(hy:X.M y\/X.D y):y<h.size:=by
 obtain⟨Y,b,_,c,hd⟩:=H;rcases hy with hy|hy
 .obtain⟨i,a⟩:=(c y).1 hy;exact S.lt (b i) y (.inl a)
 .obtain⟨i,a⟩:=(hd y).1 hy;exact S.lt (b i) y (.inr a)
theorem G2.wk(S:zD P)(H:G2 P h X)(y:Nat)(a:X.M y)(b:X.D y):False:=by
 obtain⟨Y,g,ap,f,hd⟩:=H;obtain⟨i,c⟩:=(f y).1 a;obtain⟨j,d⟩:=(hd y).1 b;by_cases e:i=j
 .subst e;exact S.wk (g i) y c d
 .exact ap i j y e (.inl c) (.inr d)
theorem G2.frame{Q:Nat->Prop}(S:zD P)(H:G2 P h X)(f:Fr Q h h')(d: ∀y,X.M y\/X.D y->¬Q y):G2 P h' X:=by
 obtain⟨Y,c,ap,b,hd⟩:=H;exact⟨Y,λi=>S.frame (c i) f (λy e=>d y (e.imp (λa=>(b y).2 ⟨i,a⟩) (λa=>(hd y).2 ⟨i,a⟩))),ap,b,hd⟩
theorem G2.use(S:zD P)(H:G2 P h X)(j:Nat): ∃Z,P j h Z/\(∀y,Z.M y->X.M y)/\(∀y,Z.D y->X.D y)/\∀h' z p,p j h' z->bN Z h z h'->(∀i,i≠j->p i=P i)->
  ∃x,G2 p h' x/\bN X h x h'/\(∀y,z.D y->x.D y)/\∀y,h.size<=y->x.M y\/x.D y->z.M y\/z.D y:=by
 obtain⟨Y,f,ap,d,hd⟩:=H;refine⟨Y j,f j,λy a=>(d y).2 ⟨j,a⟩,λy a=>(hd y).2 ⟨j,a⟩,λh' z p n st o=> ?_⟩;have yG: ∀i y,i≠j->In (Y i) y->¬In z y:=λi y m c hz=>by
  have l:=S.lt (f i) y c;rcases hz with hz|hz
  .rcases st.jD y hz with a|a
   .exact ap i j y m c (.inl a)
   .omega
  .rcases st.lW y hz with a|a
   .exact ap i j y m c (.inr a)
   .omega
 refine⟨⟨λy=> ∃i,(if i=j then z else Y i).M y,λy=> ∃i,(if i=j then z else Y i).D y⟩,⟨λi=>if i=j then z else Y i,λi=> ?_,λi k y g c hz=> ?_,λ_=>eU,λ_=>eU⟩,⟨st.fr.mono (λy _ a=>(d y).2 ⟨j,a⟩),?_,?_,?_⟩,λy a=>⟨j,by rw[ah rfl];exact a⟩,?_⟩
 .show p i h' (if i=j then z else Y i);by_cases e:i=j
  .rw[ah e,e];exact n
  .rw[af e,o i e];exact S.frame (f i) st.fr (λy c a=>ap i j y e c (.inl a))
 .dsimp only at c hz;by_cases e:i=j
  .rw[ah e]at c;rw[af (λq=>g (e.trans q.symm))]at hz;exact yG k y (λq=>g (e.trans q.symm)) hz c
  .rw[af e]at c;by_cases e2:k=j
   .rw[ah e2]at hz;exact yG i y e c hz
   .rw[af e2]at hz;exact ap i k y g c hz
 .rintro y ⟨i,a⟩;by_cases e:i=j
  .rw[ah e]at a;exact(st.jD y a).imp (λb=>(d y).2 ⟨j,b⟩) id
  .rw[af e]at a;exact .inl ((d y).2 ⟨i,a⟩)
 .rintro y ⟨i,a⟩;by_cases e:i=j
  .rw[ah e]at a;exact(st.lW y a).imp (λb=>(hd y).2 ⟨j,b⟩) id
  .rw[af e]at a;exact .inl ((hd y).2 ⟨i,a⟩)
 .intro y a;obtain⟨i,a⟩:=(hd y).1 a;by_cases e:i=j
  .exact⟨j,by rw[ah rfl];exact st.wc y (e▸a)⟩
  .exact⟨i,by rw[af e];exact a⟩
 .intro y c a;have key: ∀i,In (if i=j then z else Y i) y->z.M y\/z.D y:=λi a=>by
   by_cases e:i=j
   .rw[ah e]at a;exact a
   .rw[af e]at a;have:=S.lt (f i) y a;omega
  rcases a with⟨i,a⟩|⟨i,a⟩
  .exact key i (.inl a)
  .exact key i (.inr a)
end
section
variable {a:Addr} {len cap sz i j:Nat} {K:ak->Prop}
def mh:List Value->Nat->List Value->List Value
 |cs,_, []=>cs
 |cs,p,v::vs=>mh (cs.set p v) (p+1) vs
theorem xH: ∀(vs cs:List Value)(p:Nat),(mh cs p vs).length=cs.length
 | [],cs,p=>rfl
 |v::vs,cs,p=>by unfold mh;rw[xH vs,dj]
theorem tV: ∀(vs cs:List Value)(p:Nat),p+vs.length<=cs.length->∀j,(mh cs p vs)[j]? =if p<=j/\j<p+vs.length then vs[j - p]? else cs[j]?
 | [],cs,p,_,j=>by unfold mh;rw[af (by rw[bw];omega)]
 |v::vs,cs,p,b,j=>by
  unfold mh;rw[aW]at b⊢;rw[tV vs _ (p+1) (by rw[dj];omega) j,di];by_cases h:p+1<=j/\j<p+1+vs.length
  .rw[ah h,gh,show j - p=(j - (p+1))+1 by omega,dA]
  .rw[af h];by_cases H:p=j
   .subst H;rw[ah rfl,gh,gh,Nat.sub_self];rfl
   .rw[af H,dz]
theorem fi.eu{p:Nat}: ∀(vs:List Value)(k:Nat)(h:ak)(cs:List Value),fi h (.some a) len cap sz cs->(∀v∈vs,fX v=true)->p+k+vs.length<=cs.length->
  (∀h',fi h' (.some a) len cap sz (mh cs (p+k) vs)->h'.size=h.size->(∀x,¬aL (.some a) x->h'[x]? =h[x]?)->K h')->Den.eu (a.add p) vs k h K
 | [],k,h,cs,o,_,_,hk=>hk h o rfl (λ_ _=>rfl)
 |v::vs,k,h,cs,o,H,e,hk=>by
  rw[aW]at e;unfold Den.eu;rw[H v df];dsimp only;rw[add_add];refine o.store ae λc o1 s1 q1=> ?_
  refine fi.eu vs (k+1) c _ o1 (λu f=>H u (ct _ f)) (by rw[dj];omega) λd o2 s q2=>hk d ?_ ae (λx b=>by rw[q2 x b,q1 x b])
  unfold mh;rw[show p+k+1=p+(k+1) by omega];exact o2
theorem fi.EN{h:ak}{α:Type}{enc:α->List Value}{xs:List α}{y:α}(o:fi h (.some a) len cap sz (xs.flatMap enc))(H: ∀x,(enc x).length=sz)(d: ∀v∈enc y,fX v=true)(c:i<xs.length)(hk: ∀h',fi h' (.some a) len cap sz ((xs.set i y).flatMap enc)->h'.size=h.size->(∀x,¬aL (.some a) x->h'[x]? =h[x]?)->K h'):Den.eu (a.add (i*sz)) (enc y) 0 h K:=by
 have b:=eO enc sz H xs;have m:i*sz+sz<=xs.length*sz:=by
  have:=cQ sz (show i+1<=xs.length by omega);rwa[dW,Nat.one_mul]at this
 refine fi.eu (enc y) 0 h _ o d (by rw[H,b];omega) λh' O s' q=>hk h' ?_ s' q
 have e:mh (xs.flatMap enc) (i*sz+0) (enc y)=(xs.set i y).flatMap enc:=by
  refine EE enc sz H xs i y c _ (xH _ _ _) ?_ ?_
  .intro j hj;rw[tV _ _ _ (by rw[H,b];omega),H];rw[af];rintro⟨k,l⟩;rcases hj with hj|hj
   .apply hj
    have g:0<sz:=ae
    rw[Nat.div_eq_iff g];constructor
    .omega
    .omega
   .omega
  .intro j v hj f;rw[tV _ _ _ (by rw[H,b];omega),H,gh,show i*sz+j - (i*sz+0)=j by omega];exact f
 rw[e]at O;exact O
def swp{α:Type}(xs:List α)(i j:Nat):List α:=
 match xs[i]?,xs[j]? with
 |some x,some y=>(xs.set i y).set j x
 |_,_=>xs
theorem R4{α:Type}{xs:List α}{x y:α}(h:xs[i]? =some x)(H:xs[j]? =some y):(xs.set i y).set j x=swp xs i j:=by unfold swp;rw[h,H]
theorem R5{α:Type}{xs:List α}(b:i<xs.length)(c:j<xs.length)(k:Nat):(swp xs i j)[k]? =if k=j then xs[i]? else if k=i then xs[j]? else xs[k]? :=by
 have e1:xs[i]? =some xs[i]:=aj b;have e2:xs[j]? =some xs[j]:=aj c;unfold swp;rw[e1,e2];dsimp only;rw[di,di,dj];by_cases h:j=k
 .subst h;rw[ah rfl,ah c,ah rfl]
 .rw[af h,af (fv h)];by_cases H:i=k
  .subst H;rw[ah rfl,ah b,ah rfl]
  .rw[af H,af (fv H)]
theorem MJ{α:Type}{xs:List α}(h:i<xs.length)(H:j<xs.length):(swp xs i j).Perm xs:=by
 unfold swp;rw[aj h,aj H];dsimp only;exact List.set_set_perm h H

end
section
variable {α : Type} {lt : α → α → Prop} {xs ys : List α} {a b i j : Nat}
def jW(lt:α->α->Prop)(xs:List α)(a b:Nat):Prop:= ∀(p q:Nat) x y,a<=p->p<q->q<b->xs[p]? =some x->xs[q]? =some y->lt x y
theorem jW.pair(h:jW lt xs 0 xs.length):xs.Pairwise lt:=by
 rw[List.pairwise_iff_getElem];intro i j c H d;exact h i j _ _ (br _) d H (aj c) (aj H)
theorem jW.small(h:b<=a+1):jW lt xs a b:=λp q _ _ H c d=>ae
structure Dd (lt:α->α->Prop) (xs ys:List α) (a i j:Nat):Prop where
 perm:ys.Perm xs
 out: ∀k,k<a\/i<k->ys[k]? =xs[k]?
 so: ∀(p q:Nat) x y,a<=p->p<q->q<=i->p≠j->q≠j->ys[p]? =some x->ys[q]? =some y->lt x y
 up: ∀(q:Nat) x y,j<q->q<=i->ys[j]? =some x->ys[q]? =some y->lt x y
theorem Dd.start(h:jW lt xs a i):Dd lt xs xs a i i:=
 ⟨.refl _,λ_ _=>rfl,λp q x y H c d _ e=>h p q x y H c ae,λq x y H c=>ae⟩
theorem Dd.swap{x y:α}(H:Dd lt xs ys a i j)(s:a<j)(t:j<=i)(r:i<ys.length)(n:ys[j]? =some x)(o:ys[j - 1]? =some y)(m:lt x y):Dd lt xs (swp ys j (j - 1)) a i (j - 1):=by
 have at_: ∀k:Nat,(swp ys j (j - 1))[k]? =if k=j - 1 then ys[j]? else if k=j then ys[j - 1]? else ys[k]? :=R5 ae ae
 refine⟨(MJ ae ae).trans H.perm,λk hk=> ?_,λp q u v d e f g l c h=> ?_,λq u v d e c h=> ?_⟩
 .rw[at_,dz,dz];exact H.out k hk
 .rw[at_,af g]at c;rw[at_,af l]at h;by_cases P:p=j
  .rw[ah P]at c;rw[dz]at h;exact H.so (j - 1) q u v ae ae f ae ae c h
  .rw[af P]at c;by_cases Q:q=j
   .rw[ah Q]at h;exact H.so p (j - 1) u v d ae ae P ae c h
   .rw[af Q]at h;exact H.so p q u v d e f P Q c h
 .rw[at_,ah rfl]at c;rw[at_,dz]at h;by_cases Q:q=j
  .rw[ah Q]at h;rw[n]at c;rw[o]at h;cases c;cases h;exact m
  .rw[af Q]at h;exact H.up q u v ae e c h
theorem Dd.stop(k: ∀{x y z},lt x y->lt y z->lt x z)(H:Dd lt xs ys a i j)(o:a<=j)(r:j<=i)(n:i<ys.length)(he:j=a\/∀x y,ys[j]? =some x->ys[j - 1]? =some y->lt y x):jW lt ys a (i+1):=by
 intro p q u v e f m h c;by_cases P:p=j
 .subst P;exact H.up q u v f ae h c
 .by_cases Q:q=j
  .subst Q;rcases he with he|he
   .omega
   .have d:ys[q - 1]? =some (ys[q - 1]' ae):=aj _;have g:=he _ _ c d;by_cases l:p=q - 1
    .subst l;rw[d]at h;cases h;exact g
    .exact k (H.so p (q - 1) _ _ e ae ae P ae h d) g
  .exact H.so p q u v e f ae P Q h c
end
end Go.Den
namespace Go.fk
structure RD where
 id:Nat
 err:Int
 num:Int
 count:Int
 token:Nat
 b:cM
def RD.zero:RD:=⟨0,0,0,0,0, []⟩
def RD.ma(x:RD):Prop:=x.id<=1099511627776/\(0<=x.err/\x.err<=99)/\(0<=x.num/\x.num<=1099511627776)/\(0<=x.count/\x.count<=1099511627776)/\x.token<=2147483648/\x.b.length<=600/\(x.err≠0->x.num=0/\x.count=0/\x.token=0/\x.b= [])
instance (x : RD) : Decidable x.ma := by unfold RD.ma; infer_instance
def RD.same(x y:RD):Prop:=x.id=y.id/\x.err=y.err/\x.num=y.num/\x.count=y.count/\x.token=y.token/\x.b=y.b
instance (x y : RD) : Decidable (x.same y) := by unfold RD.same; infer_instance
theorem RD.MK{x y:RD}:x.same y↔x=y:=by
 cases x;cases y;simp[RD.same]
def RD.enc(x:RD):cM:=cd x.id++cd (fJ x.err)++cd (fJ x.num)++cd (fJ x.count)++cd x.token++dJ x.b
variable {x:RD}
structure Vx where
 x:RD
 e:Int
 rest:cM
def Tq(t:Nat)(m:Nat->Int->cM->Nat×Int×cM)(bs:cM):Vx:=
 let a:=fc 0 bs
 let b:=m t a.2.1 a.2.2
 let c:=m 1099511627776 b.2.1 b.2.2
 let d:=m 1099511627776 c.2.1 c.2.2
 let f:=fc d.2.1 d.2.2
 let g:=jV f.2.1 f.2.2
 ⟨⟨a.1,(b.1:Int),(c.1:Int),(d.1:Int),f.1,g.1⟩,g.2.1,g.2.2⟩
def xI(s:Vx):Option RD:=if uV s.e s.rest=0/\s.x.ma then some s.x else none
def tW(bs:cM):Option RD:=xI (Tq 1099511627776 iF bs)
theorem qO(h:x.ma):tW x.enc=some x:=by
 obtain⟨H,⟨a,b⟩,⟨c,d⟩,⟨f,g⟩,i,j,_⟩:=id h;have key:Tq 1099511627776 iF x.enc=⟨x,0, []⟩:=by
  unfold Tq RD.enc;have e2:fJ x.err<=1099511627776:=by unfold fJ;omega
  have e:fJ x.num<=1099511627776:=by unfold fJ;omega
  have E:fJ x.count<=1099511627776:=by unfold fJ;omega
  simp only[cT];rw[nF ae];dsimp only;rw[pD e2 ae];dsimp only;rw[pD e ae];dsimp only;rw[pD E ae];dsimp only;rw[nF ae];dsimp only;have:=Da (t:=x.b) ae [];rw[List.append_nil]at this;rw[this];cases x;unfold fJ at*;simp only[Vx.mk.injEq,RD.mk.injEq,and_true,true_and]at*;omega
 unfold tW xI;rw[key];simp[h,uV]
theorem jI(h:x.b.length<=600):x.enc.length<=700:=by
 have a:=(bO x.id).2;have A:=(bO (fJ x.err)).2;have b:=(bO (fJ x.num)).2;have c:=(bO (fJ x.count)).2;have d:=(bO x.token).2;have e:=(bO x.b.length).2;unfold RD.enc dJ;simp only[ar];omega

end Go.fk
namespace Go.Den
section
variable {b off:Nat}
theorem uX : ∀(vs:List Value)(i:Nat)(h:ak)(K:ak->Prop),eu (AA b 0) vs (off+i) h K->eu (AA b off) vs i h K
 | [],_,_,_,H=>H
 |v::vs,i,h,K,H=>by
  unfold eu at H⊢;cases a:fX v with
  |false=>rw[a]at H;exact H
  |true=>
   rw[a]at H;dsimp only at H⊢;rw[gU,bH]at H;rw[gU];obtain⟨c,d,f⟩:=H;exact⟨c,d,λh' e=>uX vs (i+1) h' K (f h' e)⟩
theorem mA{h:ak}{c:Array Value}{t:TypeId}{vs ws:List Value}{K:ak->Prop}(d:h[b]? =some (.cells c t (0,0)))(i:off+vs.length<=c.size)(f:vs.all fX=true)(e:c.toList.take off++vs++c.toList.drop (off+vs.length)=ws)(hk: ∀h',h'[b]? =some (.cells ws.toArray t (0,0))->h'.size=h.size->(∀x,x≠b->h'[x]? =h[x]?)->K h'):eu (AA b off) vs 0 h K:=by
 refine uX vs 0 h K (qK vs (off+0) h c K d ae f λh' C B z q r s o=>hk h' ?_ s o);have:C=ws.toArray:=by
  subst e;apply Array.ext'
  apply fK
  intro j;have k:c.toList.length=c.size:=eR;rw[dH];show C[j]? =(c.toList.take off++vs++c.toList.drop (off+vs.length))[j]?;by_cases a:j<off
  .rw[cT,dc (by rw[bC];omega),db,ah a,dH];exact q j ae
  .by_cases g:j<off+vs.length
   .have l1:(c.toList.take off).length=off:=by rw[bC];omega
    rw[cT,cY ae,l1,dc ae];have H:j - off<vs.length:=ae
    have:=r (j - off) vs[j - off] (aj H);rw[show off+0+(j - off)=j by omega]at this;rw[this,aj H]
   .have l1:(c.toList.take off++vs).length=off+vs.length:=by rw[ar,bC];omega
    rw[cY ae,l1,fD,dH,show off+vs.length+(j - (off+vs.length))=j by omega];exact q j ae
 rw[<-this];exact B

end
section
variable {h:ak}
def idxOf{α:Type}(P:α->Bool)(xs:List α):Int:=match xs.findIdx? P with|some k=>(k:Int)|none=> -1
theorem EO{α:Type}(P:α->Bool){xs:List α}{n:Nat}{R:fG}(B:Int->ak->(Bool->ak->Prop)->Prop)(l:n=xs.length)(s:xs.length<=1000000000)(d: ∀(k:Nat) g x K,xs[k]? =some x->Fr (λ_=>False) h g->(∀G,Fr (λ_=>False) h G->K (P x) G)->B (k:Int) g K)(hk: ∀g,Fr (λ_=>False) h g->R (.I (idxOf P xs)) g):
  ∃(I:Int->ak->Prop)(m:Int->ak->Nat),I 0 h/\∀(t:Int)(g:ak),I t g->if(decide (t<(n:Int)))=true then B t g (λq a=>if q=true then R (.I t) a else(I (IntKind.wrap .i64 (t+1)) a/\m (IntKind.wrap .i64 (t+1)) a<m t g))else R (.I (-1)) g:=by
 subst l;refine⟨λi g=>Fr (λ_=>False) h g/\∃k:Nat,i=(k:Int)/\k<=xs.length/\∀j (H:j<xs.length),j<k->¬P xs[j]=true,λi _=>xs.length - i.toNat,⟨Fr.refl _ _,0,rfl,ae,λj _ H=>ae⟩,?_⟩;rintro _ g ⟨f,k,rfl,r,b⟩;by_cases c:k<xs.length
 .rw[gh];refine d k g xs[k] _ (aj c) f λG F=> ?_
  by_cases e:P xs[k]=true
  .rw[ah e];have:idxOf P xs=(k:Int):=by
    unfold idxOf;rw[show xs.findIdx? P=some k from cN.2 ⟨c,e,λj H=>b j ae H⟩]
   rw[this]at hk;exact hk G F
  .rw[af e,bB ae ae];refine⟨⟨F,k+1,ae,ae,λj H p=> ?_⟩,by show xs.length - Int.toNat ((k:Int)+1)<xs.length - Int.toNat (k:Int);omega⟩;by_cases q:j=k
   .subst q;exact e
   .exact b j H ae
 .rw[af (λq=>c (bR (aP q)))];have:idxOf P xs= -1:=by
   unfold idxOf;rw[show xs.findIdx? P=none from dB.2 λx o=> ?_];obtain⟨j,H,rfl⟩:=List.getElem_of_mem o;exact Bool.not_eq_true _▸b j H ae
  rw[this]at hk;exact hk g f

end
section
variable {P : Program}
theorem ML{t elem:TypeId}{bytes:Nat}{z Z:Value}{h:ak}{K:fG}(T:nW P t elem 1 bytes z)(A:z.cells= #[Z])(n:Nat)(C:n*bytes<=70368744177664)(D:n<=9223372036854775807)(hk: ∀h' p,fi h' p n n 1 (List.replicate n Z)->Fr (λ_=>False) h h'->(∀c,aL p c->h.size<=c)->K (.slice p n n) h'):
  aU P (Instr.makeSlice t (.I (n:Int)) (.I (n:Int))) h K:=by
 obtain⟨i,b,x,rfl,k⟩:=T.i;unfold Instr.makeSlice;refine bU (s:=underlying t) (bJ T.u) ?_;refine bU (s:=asInt (.I (n:Int))) (a:=(n:Int)) rfl ?_;refine bU (s:=asInt (.I (n:Int))) (a:=(n:Int)) rfl ?_;refine bU (s:=typeInfo elem) (hT b) ?_;simp only[];rw[bB (n:=(n:Int)) ae ae];have u:(i.bytes:Int)*(n:Int)=((n*i.bytes:Nat):Int):=by rw[gi];simp
 have r:(decide ((n:Int)<0)||decide ((i.bytes:Int)*(n:Int)>2 ^ 48))=false:=by
  rw[u];have l: ¬(n:Int)<0:=ae
  have o: ¬((n*i.bytes:Nat):Int)>2 ^ 48:=ae
  rw[aD l,aD o];rfl
 have q:(((decide ((n:Int)<0)||decide ((i.bytes:Int)*(n:Int)>2 ^ 48))||decide ((n:Int)<0))||decide ((n:Int)>(n:Int)))=false:=by
  rw[r];simp
 rw[af (by rw[q];simp)];have w: ∀(m:Nat)(K':Unit->ak->Prop),K' () h->aU P (askRoom m) h K':=λm K' g=>by
  unfold askRoom;split
  .exact g
  .exact g
 rw[dR];refine w _ _ ?_;refine bU (s:=sizeOf elem) (hY b) ?_;rw[aC,x,cp];have fin: ∀zs:Array Value,(n=0\/zs= #[Z])->aU P (newRow elem ((Array.range n).map (zs[· %zs.size]!))>>=λa=>pure (.slice (some a) n n)) h K:=by
  intro zs B;show K (.slice (Sa h.size 0) n n) (h.push (.cells ((Array.range n).map (zs[· %zs.size]!)) elem));refine hk _ _ (.row h.size 0 _ elem rfl bV (bn _) bQ bQ ?_) (Fr.push _ _) ?_
  .intro j v d;have f:j<n:=by have:=(aB.1 d).1;simpa using this
   have y:v=Z:=by
    rw[List.getElem?_replicate,ah f]at d;exact(bp d).symm
   subst y;rcases B with k|rfl
   .omega
   .rw[bH];simp[f,Nat.mod_one]
  .rintro c ⟨a,e,rfl⟩;cases e;exact bn _
 by_cases H:n=0
 .rw[ah H];exact fin #[] (.inl H)
 .rw[af H];refine bU (s:=zeroValue elem) (jb b k) ?_;refine bU (s:=(pure z.cells:Sem (Array Value))) (a:=z.cells) rfl ?_;rw[A];exact fin #[Z] (.inr rfl)
end
end Go.Den
namespace Go.Proofs.YtlenamcfacpheaaGreatDoor
open Go.Den
open IntKind (wrap)
open Int (toNat)
section
namespace Cb
inductive Tr where
 |mk (k:Int) (n:Nat) (b:cM) (l:List Tr)
namespace Tr
def k:Tr->Int| .mk k _ _ _=>k
def n:Tr->Nat| .mk _ n _ _=>n
def b:Tr->cM| .mk _ _ b _=>b
def l:Tr->List Tr| .mk _ _ _ l=>l
end Tr
abbrev num(n:Nat):Tr:=.mk 0 n [] []
abbrev qb(b:cM):Tr:=.mk 2 0 b []
abbrev si(l:List Tr):Tr:=.mk 4 0 [] l
def Ja:Tr:=.mk 0 0 [] []
mutual
def ot:Tr->Tr->Bool
 | .mk k n b l,.mk k' n' b' l'=>decide (k=k') && decide (n=n') && decide (b=b') && sj l l'
def sj:List Tr->List Tr->Bool
 | [], []=>true
 |t::ts,u::us=>ot t u && sj ts us
 |_,_=>false
end
mutual
theorem Pk: ∀(a b:Tr),ot a b=true↔a=b
 | .mk k n b l,.mk k' n' b' l'=>by
  simp only[ot,Bool.and_eq_true,decide_eq_true_eq,zE,Tr.mk.injEq,and_assoc]
theorem zE: ∀(a b:List Tr),sj a b=true↔a=b
 | [], []=>by simp[sj]
 |t::ts,u::us=>by simp only[sj,Bool.and_eq_true,Pk t u,zE ts us,List.cons.injEq]
 | [],u::us=>by simp[sj]
 |t::ts, []=>by simp[sj]
end
def MM(V:cM->Bool)(k:Int)(n:Nat)(b:cM)(l:List Tr):Bool:=
 if k=0 then b.isEmpty && l.isEmpty else if k=2 then decide (n=0) && l.isEmpty else if k=3 then decide (n=0) && l.isEmpty && V b else if k=4 then decide (n=0) && b.isEmpty else false
mutual
def nG (V:cM->Bool):Tr->Int->Int->Int
 | .mk k n b l,d,left=>if d>6\/left<1 then -1 else if MM V k n b l=true then mL V l (d+1) (left - 1)else -1
def mL (V:cM->Bool):List Tr->Int->Int->Int
 | [],_,left=>left
 |t::ts,d,left=>if nG V t d left<0 then -1 else mL V ts d (nG V t d left)
end
mutual
theorem EP {V:cM->Bool} : ∀ {t:Tr} {d left:Int},nG V t d left= -1\/0<=nG V t d left/\nG V t d left<left
 | .mk k n b l,d,left=>by
  unfold nG;split
  ·exact .inl rfl
  ·split
   ·rcases Cn (V:=V) (ts:=l) (d:=d+1) (left:=left - 1) ae with h|h
    ·exact .inl h
    ·exact .inr ae
   ·exact .inl rfl
theorem Cn {V:cM->Bool} : ∀ {ts:List Tr} {d left:Int},0<=left->mL V ts d left= -1\/0<=mL V ts d left/\mL V ts d left<=left
 | [],d,left,hl=>by unfold mL;exact .inr ⟨hl,Int.le_refl _⟩
 |t::ts,d,left,hl=>by
  unfold mL;split
  ·exact .inl rfl
  ·rcases EP (V:=V) (t:=t) (d:=d) (left:=left)with h1|h1
   ·omega
   ·rcases Cn (V:=V) (ts:=ts) (d:=d) (left:=nG V t d left) ae with h|h
    ·exact .inl h
    ·exact .inr ae
end
def hH(V:cM->Bool)(t:Tr):Bool:=decide (nG V t 1 256≥0)
def ER(n:Nat):Nat:=if n<24 then 0 else if n<256 then 1 else if n<65536 then 2 else if n<4294967296 then 4 else 8
def x5(n:Nat):Nat:=if n<24 then n else if n<256 then 24 else if n<65536 then 25 else if n<4294967296 then 26 else 27
def Rl(k n:Nat):cM:=(List.range k).map λi=>UInt8.ofNat (n/2 ^ (8*(k - 1 - i)))
def MN(m:Int)(n:Nat):cM:=if 0<=m/\m<=7 then UInt8.ofNat (32*m.toNat+x5 n)::Rl (ER n) n else []
theorem Jb(n:Nat):ER n<=8:=by unfold ER;repeat (first|omega|split)
theorem yH(k n:Nat):(Rl k n).length=k:=by simp[Rl]
theorem Jc(m:Int)(n:Nat):(MN m n).length<=9:=by
 unfold MN;split
 .rw[aW,yH];have:=Jb n;omega
 .simp
def Rm(l:cM):Nat:=l.foldl (λv b=>v*256+b.toNat) 0
theorem ES(l:cM)(b:UInt8):Rm (l++ [b])=Rm l*256+b.toNat:=by simp[Rm]
theorem MO(l:cM):Rm l<256 ^ l.length:=by
 suffices h: ∀(n:Nat)(l:cM),l.length=n->Rm l<256 ^ n from h _ l rfl
 intro n;induction n with
 |zero=>intro l H;rw[gG.1 H];simp[Rm]
 |succ n i=>
  intro l H;obtain⟨a,b,rfl⟩: ∃a b,l=a++ [b]:=⟨l.dropLast,l.getLast (by intro e;rw[e]at H;simp at H),(List.dropLast_concat_getLast _).symm⟩;rw[ar]at H;have:=i a (cH H);rw[ES,Nat.pow_succ];have:=b.toNat_lt;omega
def qP(m:Nat):Bool:=decide (2<=m/\m<=5)||decide (m=7)
def Ea(bs:cM)(pos:Nat):Except Int (Nat×Nat×Bool×Nat):=
 match bs[pos]? with
 |none=> .error 8
 |some x=>
  if x.toNat%32<24 then .ok (x.toNat/32,x.toNat%32,false,pos+1)
  else if x.toNat%32=31/\qP (x.toNat/32)=true then .ok (x.toNat/32,0,true,pos+1)
  else if x.toNat%32>27 then .error 3
  else if pos+1+2 ^ (x.toNat%32 - 24)>bs.length then .error 8
  else .ok (x.toNat/32,Rm ((bs.drop (pos+1)).take (2 ^ (x.toNat%32 - 24))),false,pos+1+2 ^ (x.toNat%32 - 24))
theorem zH{bs:cM}{pos m n N:Nat}{o:Bool}(h:Ea bs pos=.ok (m,n,o,N)):pos<N/\N<=bs.length/\n<18446744073709551616/\m<8/\pos<bs.length:=by
 unfold Ea at h;split at h
 .cases h
 .rename_i x c;have b:=(aB.1 c).1;have:=x.toNat_lt;split at h
  .cases h;omega
  .split at h
   .cases h;omega
   .split at h
    .cases h
    .split at h
     .cases h
     .rename_i H d f g;cases h;have a:=MO ((bs.drop (pos+1)).take (2 ^ (x.toNat%32 - 24)));have:((bs.drop (pos+1)).take (2 ^ (x.toNat%32 - 24))).length<=8:=by
       rw[bC];have:x.toNat%32 - 24=0\/x.toNat%32 - 24=1\/x.toNat%32 - 24=2\/x.toNat%32 - 24=3:=ae
       rcases this with e|e|e|e<;>rw[e]<;>omega
      have:=fW (n:=256) ae this;have H:1<=2 ^ (x.toNat%32 - 24):=Nat.one_le_two_pow;refine⟨ae,ae,?_,ae,b⟩
      calc _<_:=a
       _<=_:=this
       _=18446744073709551616:=dt
def mM(V:cM->Bool)(bs:cM)(pos m n:Nat):Except Int (cM):=
 if n<=bs.length - pos then(if m≠3\/V ((bs.drop pos).take n)=true then .ok ((bs.drop pos).take n)else .error 3)else .error 8
def uY(bs:cM)(pos:Nat):Bool:=match bs[pos]? with|some x=>decide (x.toNat=255)|none=>false
def ET(V:cM->Bool)(bs:cM)(m:Nat):Nat->Nat->cM->Except Int (cM×Nat)
 |0,_,_=> .error 8
 |k+1,pos,a=>if uY bs pos=true then .ok (a,pos+1)else match Ea bs pos with
  | .error e=> .error e
  | .ok (M,n,o,N)=>if M=m/\o=false then(match mM V bs N M n with| .error e=> .error e| .ok w=>ET V bs m k (N+n) (a++w))else .error 3
def De(V:cM->Bool)(bs:cM)(pos m n:Nat)(o:Bool):Except Int (cM×Nat):=
 match o with
 |true=>ET V bs m (bs.length+1) pos []
 |false=>match mM V bs pos m n with| .error e=> .error e| .ok w=> .ok (w,pos+n)
abbrev RF:=Nat->Nat->Except Int (Tr×Nat×Nat)
def xJ(bs:cM)(f:RF):Nat->Nat->Nat->List Tr->Except Int (List Tr×Nat×Nat)
 |0,_,_,_=> .error 8
 |k+1,pos,left,ts=>if uY bs pos=true then .ok (ts,pos+1,left)else match f pos left with
  | .error e=> .error e
  | .ok (t,n,lf)=>xJ bs f k n lf (ts++ [t])
def uZ(f:RF):Nat->Nat->Nat->List Tr->Except Int (List Tr×Nat×Nat)
 |0,pos,left,ts=> .ok (ts,pos,left)
 |k+1,pos,left,ts=>match f pos left with
  | .error e=> .error e
  | .ok (t,n,lf)=>uZ f k n lf (ts++ [t])
def nH(bs:cM)(f:RF)(pos left n:Nat)(o:Bool):Except Int (List Tr×Nat×Nat):=
 match o with
 |true=>xJ bs f (bs.length+1) pos left []
 |false=>if n<=bs.length - pos then uZ f n pos left []else .error 8
def hU(V : cM -> Bool)(bs : cM): Nat -> RF
  | lv, pos, left => match Ea bs pos with
    | .error e => .error e
    | .ok (m, n, o, N) => if m = 0 \/ m = 2 \/ m = 3 \/ m = 4 then (match lv with
      | 0 => .error 9
      | lv + 1 => if left = 0 then .error 2 else if m = 0 then .ok (num n, N, left - 1)
        else if m = 4 then (match nH bs (hU V bs lv) N (left - 1) n o with | .error e => .error e | .ok (ts, p, lf) => .ok (si ts, p, lf))
        else (match De V bs N m n o with | .error e => .error e | .ok (w, p) => .ok (.mk m 0 w [], p, left - 1))) else .error 3
def pR(V:cM->Bool)(bs:cM):Except Int (Tr×Nat):=match hU V bs 6 0 256 with| .error e=> .error e| .ok (t,n,_)=> .ok (t,n)
mutual
def room:Tr->Nat
 | .mk _ _ b l=>9+b.length+dF l
def dF:List Tr->Nat
 | []=>0
 |t::ts=>room t+dF ts
end
-- Zt deep an item is
mutual
def deep:Tr->Nat
 | .mk _ _ _ l=>1+Jd l
def Jd:List Tr->Nat
 | []=>0
 |t::ts=>max (deep t) (Jd ts)
end
theorem iH{a b:List Tr}:dF (a++b)=dF a+dF b:=by
 induction a with
 |nil=>simp[dF]
 |cons t a i=>simp only[dC,dF,i];omega
theorem rW{t:Tr}{l:List Tr}(h:t∈l):deep t<=Jd l:=by
 induction l with
 |nil=>cases h
 |cons u l i=>
  simp only[Jd];rcases bG.1 h with rfl|h
  .omega
  .have:=i h;omega
def xG(k:Int)(n:Nat)(b:cM)(l:List Tr):Nat:=if k=2\/k=3 then b.length else if k=4 then l.length else n
mutual
def enc:Tr->cM
 | .mk k n b l=>MN k (xG k n b l)++b++x6 l
def x6:List Tr->cM
 | []=> []
 |t::ts=>enc t++x6 ts
end
mutual
theorem jI: ∀(t:Tr),(enc t).length<=room t
 | .mk k n b l=>by
  simp only[enc,room,List.length_append];have:=Jc k (xG k n b l);have:=zI l;omega
theorem zI: ∀(l:List Tr),(x6 l).length<=dF l
 | []=>Nat.zero_le _
 |t::ts=>by
  simp only[x6,dF,List.length_append];have:=jI t;have:=zI ts;omega
end
theorem KC(l:List Tr)(t:Tr):x6 (l++ [t])=x6 l++enc t:=by
 induction l with
 |nil=>simp[x6]
 |cons u l i=>simp only[dC,x6,i,cT]
theorem Pl{V:cM->Bool}{bs:cM}{m:Nat}: ∀(k pos:Nat)(a w:cM)(n:Nat),pos<=bs.length->ET V bs m k pos a=.ok (w,n)->w.length+pos<=a.length+n/\pos<n/\n<=bs.length:=by
 intro k;induction k with
 |zero=>intro pos a w n _ h;cases h
 |succ k i=>
  intro pos a w n f h;unfold ET at h;split at h
  .rename_i b;cases h;unfold uY at b;split at b
   .rename_i x d;have:=(aB.1 d).1;omega
   .cases b
  .split at h
   .cases h
   .rename_i M N o g c;have e:=zH c;split at h
    .split at h
     .cases h
     .rename_i v H;unfold mM at H;split at H
      .split at H
       .cases H;have:=i _ _ _ _ ae h;rw[ar,bC,bX]at this;omega
       .cases H
      .cases H
    .cases h
def R6(bs:cM)(f:RF):Prop:= ∀pos left t n lf,pos<=bs.length->f pos left=.ok (t,n,lf)->room t<=10*(n - pos)/\pos<n/\n<=bs.length/\lf<=left
theorem MP{bs:cM}{f:RF}(b:R6 bs f): ∀(k pos left:Nat)(ts u:List Tr)(n lf:Nat),pos<=bs.length->xJ bs f k pos left ts=.ok (u,n,lf)->dF u+10*pos<=dF ts+10*n/\pos<=n/\n<=bs.length/\lf<=left:=by
 intro k;induction k with
 |zero=>intro pos left ts u n lf _ h;cases h
 |succ k i=>
  intro pos left ts u n lf d h;unfold xJ at h;split at h
  .rename_i H;cases h;unfold uY at H;split at H
   .rename_i x e;have:=(aB.1 e).1;omega
   .cases H
  .split at h
   .cases h
   .rename_i t N l c;have g:=b _ _ _ _ _ d c;have a:=i _ _ _ _ _ _ ae h;rw[iH]at a;simp only[dF]at a;omega
theorem MQ{bs:cM}{f:RF}(a:R6 bs f): ∀(k pos left:Nat)(ts u:List Tr)(n lf:Nat),pos<=bs.length->uZ f k pos left ts=.ok (u,n,lf)->dF u+10*pos<=dF ts+10*n/\pos<=n/\n<=bs.length/\lf<=left:=by
 intro k;induction k with
 |zero=>intro pos left ts u n lf _ h;cases h;omega
 |succ k i=>
  intro pos left ts u n lf c h;unfold uZ at h;split at h
  .cases h
  .rename_i t N l b;have d:=a _ _ _ _ _ c b;have H:=i _ _ _ _ _ _ ae h;rw[iH]at H;simp only[dF]at H;omega
theorem EU{V:cM->Bool}{bs:cM}: ∀l,R6 bs (hU V bs l):=by
 intro l;induction l with
 |zero=>
  intro pos left t N lf e h;unfold hU at h;split at h
  .cases h
  .split at h<;>cases h
 |succ l i=>
  intro pos left t N lf e h;unfold hU at h;split at h
  .cases h
  .rename_i m n o c d;have f:=zH d;split at h
   .dsimp only at h;split at h
    .cases h
    .split at h
     .cases h;simp only[room,dF,bw];omega
     .split at h
      .split at h
       .cases h
       .rename_i ts p L H;cases h;have:dF ts+10*c<=10*N/\c<=N/\N<=bs.length/\lf<=left - 1:=by
         unfold nH at H;split at H
         .have:=MP i _ _ _ _ _ _ _ ae H;simpa[dF]using this
         .split at H
          .have:=MQ i _ _ _ _ _ _ _ ae H;simpa[dF]using this
          .cases H
        simp only[room,bw];omega
      .split at h
       .cases h
       .rename_i w p a;cases h;have:w.length+c<=N/\c<=N/\N<=bs.length:=by
         unfold De at a;split at a
         .have:=Pl _ _ _ _ _ ae a;simp only[bw]at this;omega
         .split at a
          .cases a
          .rename_i v b;cases a;unfold mM at b;split at b
           .split at b
            .cases b;rw[bC,bX];omega
            .cases b
           .cases b
        simp only[room,dF];omega
   .cases h
theorem Df{bs:cM}{pos:Nat}{e:Int}(h:Ea bs pos=.error e):e≠0:=by
 unfold Ea at h;repeat (first|decide|cases h|split at h)
theorem zJ{V:cM->Bool}{bs:cM}{pos m n:Nat}{e:Int}(h:mM V bs pos m n=.error e):e≠0:=by
 unfold mM at h;repeat (first|decide|cases h|split at h)
theorem MR{V:cM->Bool}{bs:cM}{m:Nat}{e:Int}: ∀(k pos:Nat)(a:cM),ET V bs m k pos a=.error e->e≠0:=by
 intro k;induction k with
 |zero=>intro pos a h;cases h;decide
 |succ k i=>
  intro pos a h;unfold ET at h;split at h
  .cases h
  .split at h
   .rename_i H;cases h;exact Df H
   .split at h
    .split at h
     .rename_i H;cases h;exact zJ H
     .exact i _ _ h
    .cases h;decide
def Xf(f:RF):Prop:= ∀pos left e,f pos left=.error e->e≠0
theorem KD{bs:cM}{f:RF}(a:Xf f){pos left n:Nat}{o:Bool}{e:Int}(h:nH bs f pos left n o=.error e):e≠0:=by
 have op: ∀(k pos left:Nat)(ts:List Tr),xJ bs f k pos left ts=.error e->e≠0:=by
  intro k;induction k with
  |zero=>intro pos left ts h;cases h;decide
  |succ k i=>
   intro pos left ts h;unfold xJ at h;split at h
   .cases h
   .split at h
    .rename_i H;cases h;exact a _ _ _ H
    .exact i _ _ _ h
 have m: ∀(k pos left:Nat)(ts:List Tr),uZ f k pos left ts=.error e->e≠0:=by
  intro k;induction k with
  |zero=>intro pos left ts h;cases h
  |succ k i=>
   intro pos left ts h;unfold uZ at h;split at h
   .rename_i H;cases h;exact a _ _ _ H
   .exact i _ _ _ h
 unfold nH at h;split at h
 .exact op _ _ _ _ h
 .split at h
  .exact m _ _ _ _ h
  .cases h;decide
theorem KE{V:cM->Bool}{bs:cM}: ∀l,Xf (hU V bs l):=by
 intro l;induction l with
 |zero=>
  intro pos left e h;unfold hU at h;split at h
  .rename_i H;cases h;exact Df H
  .split at h<;>(cases h;decide)
 |succ l i=>
  intro pos left e h;unfold hU at h;split at h
  .rename_i H;cases h;exact Df H
  .split at h
   .dsimp only at h;split at h
    .cases h;decide
    .split at h
     .cases h
     .split at h
      .split at h
       .rename_i H;cases h;exact KD i H
       .cases h
      .split at h
       .rename_i H;cases h;unfold De at H;split at H
        .exact MR _ _ _ H
        .split at H
         .rename_i a;cases H;exact zJ a
         .cases H
       .cases h
   .cases h;decide
theorem rX{V:cM->Bool}{bs:cM}{e:Int}(h:pR V bs=.error e):e≠0:=by
 unfold pR at h;split at h
 .rename_i H;cases h;exact KE 6 _ _ _ H
 .cases h
theorem zK{V:cM->Bool}{bs:cM}{t:Tr}{n:Nat}(h:pR V bs=.ok (t,n)):room t<=10*bs.length/\n<=bs.length:=by
 unfold pR at h;split at h
 .cases h
 .rename_i t N lf H;cases h;have:=EU 6 _ _ _ _ _ (br _) H;omega
end Cb
end
abbrev Cl:=mE Tryz.prog
abbrev Ce:=iA Tryz.prog
abbrev G3:List Nat:= [243,281,282,283,284,311]
abbrev cO.LD(h:ak)(a:Addr)(K:bZ->Nat->Nat->bZ->Nat->Nat->bZ->Nat->Nat->bZ->Nat->Nat->Prop):Prop:=oY h a λe d c=>oY h (a.add 1) λi g f=>oY h (a.add 2) λl k j=> ∃b T t,aX h (a.add 3)=some (.slice b T t)/\K e d c i g f l k j b T t
abbrev cO.ST(h:ak)(a:Addr)(b:bZ)(F f:Nat)(e:bZ)(d c:Nat)(kV:bZ)(kR kW:Nat)(ou:bZ)(lS nt:Nat)(K:ak->Prop):Prop:=aQ h a (.slice b F f) λH=>aQ H (a.add 1) (.slice e d c) λg=>aQ g (a.add 2) (.slice kV kR kW) λi=>aQ i (a.add 3) (.slice ou lS nt) λj=>K j
abbrev aa.LD(h:ak)(a:Addr)(K:Int->Int->bZ->Nat->Nat->bZ->Nat->Nat->Prop):Prop:=lR h a λt0=>ia h (a.add 1) λt1=>oY h (a.add 2) λe d c=> ∃b T t,aX h (a.add 3)=some (.slice b T t)/\K t0 t1 e d c b T t
abbrev aa.ST(h:ak)(a:Addr)(f0:Int)(f1:Int)(kV:bZ)(kR kW:Nat)(ou:bZ)(lS nt:Nat)(K:ak->Prop):Prop:=aQ h a (.int .i64 f0) λH=>aQ H (a.add 1) (.int .u64 f1) λb=>aQ b (a.add 2) (.slice kV kR kW) λc=>aQ c (a.add 3) (.slice ou lS nt) λd=>K d
abbrev aN.LD(h:ak)(a:Addr)(K:Int->Bool->Int->Int->ByteArray->ByteArray->bZ->Nat->Nat->Int->Int->Int->Prop):Prop:=lR h a λt0=>x4 h (a.add 1) λt1=>ia h (a.add 2) λt2=>ia h (a.add 3) λt3=>rQ h (a.add 4) λt4=>rQ h (a.add 5) λt5=>oY h (a.add 6) λb T t=>ia h (a.add 7) λt7=>lR h (a.add 8) λt8=> ∃t9,aX h (a.add 9)=some (.int .u64 t9)/\K t0 t1 t2 t3 t4 t5 b T t t7 t8 t9
abbrev aN.ST(h:ak)(a:Addr)(f0:Int)(f1:Bool)(f2:Int)(f3:Int)(f4:ByteArray)(f5:ByteArray)(Eb:bZ)(Ec Ed:Nat)(f7:Int)(f8:Int)(f9:Int)(K:ak->Prop):Prop:=aQ h a (.int .i64 f0) λH=>aQ H (a.add 1) (.bool f1) λc=>aQ c (a.add 2) (.int .u64 f2) λd=>aQ d (a.add 3) (.int .u64 f3) λe=>aQ e (a.add 4) (.string f4) λf=>aQ f (a.add 5) (.string f5) λg=>aQ g (a.add 6) (.slice Eb Ec Ed) λi=>aQ i (a.add 7) (.int .u64 f7) λj=>aQ j (a.add 8) (.int .i64 f8) λk=>aQ k (a.add 9) (.int .u64 f9) λb=>K b
abbrev ax.LD(h:ak)(a:Addr)(K:Bool->Int->Int->ByteArray->ByteArray->Prop):Prop:=x4 h a λt0=>ia h (a.add 1) λt1=>ia h (a.add 2) λt2=>rQ h (a.add 3) λt3=> ∃t4,aX h (a.add 4)=some (.string t4)/\K t0 t1 t2 t3 t4
abbrev bF.LD(h:ak)(a:Addr)(K:Int->Int->Bool->Prop):Prop:=lR h a λt0=>ia h (a.add 1) λt1=> ∃t2,aX h (a.add 2)=some (.bool t2)/\K t0 t1 t2
abbrev bF.ST(h:ak)(a:Addr)(f0:Int)(f1:Int)(f2:Bool)(K:ak->Prop):Prop:=aQ h a (.int .i64 f0) λH=>aQ H (a.add 1) (.int .u64 f1) λb=>aQ b (a.add 2) (.bool f2) λc=>K c
abbrev ai.LD(h:ak)(a:Addr)(K:Bool->Int->Int->ByteArray->ByteArray->Int->Int->Prop):Prop:=x4 h a λt0=>ia h (a.add 1) λt1=>ia h (a.add 2) λt2=>rQ h (a.add 3) λt3=>rQ h (a.add 4) λt4=>ia h (a.add 5) λt5=> ∃t6,aX h (a.add 6)=some (.int .u64 t6)/\K t0 t1 t2 t3 t4 t5 t6
abbrev ai.ST(h:ak)(a:Addr)(f0:Bool)(f1:Int)(f2:Int)(f3:ByteArray)(f4:ByteArray)(f5:Int)(f6:Int)(K:ak->Prop):Prop:=aQ h a (.bool f0) λH=>aQ H (a.add 1) (.int .u64 f1) λb=>aQ b (a.add 2) (.int .u64 f2) λc=>aQ c (a.add 3) (.string f3) λd=>aQ d (a.add 4) (.string f4) λe=>aQ e (a.add 5) (.int .u64 f5) λf=>aQ f (a.add 6) (.int .u64 f6) λg=>K g
abbrev aY.LD(h:ak)(a:Addr)(K:Int->Int->bZ->Nat->Nat->Int->Prop):Prop:=lR h a λt0=>lR h (a.add 1) λt1=>oY h (a.add 2) λb T t=> ∃t3,aX h (a.add 3)=some (.int .u64 t3)/\K t0 t1 b T t t3
abbrev aY.ST(h:ak)(a:Addr)(f0:Int)(f1:Int)(kV:bZ)(kR kW:Nat)(f3:Int)(K:ak->Prop):Prop:=aQ h a (.int .i64 f0) λH=>aQ H (a.add 1) (.int .i64 f1) λb=>aQ b (a.add 2) (.slice kV kR kW) λc=>aQ c (a.add 3) (.int .u64 f3) λd=>K d
abbrev bD.LD(h:ak)(a:Addr)(K:Bool->Int->Int->ByteArray->ByteArray->Int->Int->Prop):Prop:=x4 h a λt0=>ia h (a.add 1) λt1=>ia h (a.add 2) λt2=>rQ h (a.add 3) λt3=>rQ h (a.add 4) λt4=>lR h (a.add 5) λt5=> ∃t6,aX h (a.add 6)=some (.int .i64 t6)/\K t0 t1 t2 t3 t4 t5 t6
abbrev bD.ST(h:ak)(a:Addr)(f0:Bool)(f1:Int)(f2:Int)(f3:ByteArray)(f4:ByteArray)(f5:Int)(f6:Int)(K:ak->Prop):Prop:=aQ h a (.bool f0) λH=>aQ H (a.add 1) (.int .u64 f1) λb=>aQ b (a.add 2) (.int .u64 f2) λc=>aQ c (a.add 3) (.string f3) λd=>aQ d (a.add 4) (.string f4) λe=>aQ e (a.add 5) (.int .i64 f5) λf=>aQ f (a.add 6) (.int .i64 f6) λg=>K g
abbrev av.LD(h:ak)(a:Addr)(K:Int->Int->Int->Int->Int->bZ->Nat->Nat->Prop):Prop:=ia h a λt0=>lR h (a.add 1) λt1=>lR h (a.add 2) λt2=>lR h (a.add 3) λt3=>ia h (a.add 4) λt4=> ∃b T t,aX h (a.add 5)=some (.slice b T t)/\K t0 t1 t2 t3 t4 b T t
abbrev av.ST(h:ak)(a:Addr)(f0:Int)(f1:Int)(f2:Int)(f3:Int)(f4:Int)(sQ:bZ)(f5l sR:Nat)(K:ak->Prop):Prop:=aQ h a (.int .u64 f0) λH=>aQ H (a.add 1) (.int .i64 f1) λb=>aQ b (a.add 2) (.int .i64 f2) λc=>aQ c (a.add 3) (.int .i64 f3) λd=>aQ d (a.add 4) (.int .u64 f4) λe=>aQ e (a.add 5) (.slice sQ f5l sR) λf=>K f
abbrev bW.LD(h:ak)(a:Addr)(K:Int->bZ->Nat->Nat->Prop):Prop:=ia h a λt0=> ∃b T t,aX h (a.add 1)=some (.slice b T t)/\K t0 b T t
abbrev bW.ST(h:ak)(a:Addr)(f0:Int)(b:bZ)(F f:Nat)(K:ak->Prop):Prop:=aQ h a (.int .u64 f0) λH=>aQ H (a.add 1) (.slice b F f) λc=>K c
abbrev cG.LD(h:ak)(a:Addr)(K:Int->Int->Bool->Bool->bZ->Nat->Nat->bZ->Nat->Nat->Prop):Prop:=lR h a λt0=>ia h (a.add 1) λt1=>x4 h (a.add 2) λt2=>x4 h (a.add 3) λt3=>oY h (a.add 4) λe d c=> ∃b T t,aX h (a.add 5)=some (.slice b T t)/\K t0 t1 t2 t3 e d c b T t
abbrev cG.ST(h:ak)(a:Addr)(f0:Int)(f1:Int)(f2:Bool)(f3:Bool)(G9:bZ)(Ha Hc:Nat)(sQ:bZ)(f5l sR:Nat)(K:ak->Prop):Prop:=aQ h a (.int .i64 f0) λH=>aQ H (a.add 1) (.int .u64 f1) λb=>aQ b (a.add 2) (.bool f2) λc=>aQ c (a.add 3) (.bool f3) λd=>aQ d (a.add 4) (.slice G9 Ha Hc) λe=>aQ e (a.add 5) (.slice sQ f5l sR) λf=>K f
structure fy.S where
 f0:Int
 f1:Int
 f2:Bool
 f3:Int
 f4:Int
 f5:ByteArray
 f6:ByteArray
 f7:Bool
 f8:Int
 f9:Int
 f10:ByteArray
 f11:ByteArray
 f12:Bool
 f13:Int
 f14:Int
 f15:ByteArray
 f16:ByteArray
 f17:Int
 f18:Int
 f19:Int
 R7:bZ
 MS:Nat
 R8:Nat
 f21:bZ
 Vy:bZ
 Vz:Nat
 VA:Nat
abbrev fy.S.l(x:fy.S):List Value:= [.int .u64 x.f0,.int .i64 x.f1,.bool x.f2,.int .u64 x.f3,.int .u64 x.f4,.string x.f5,.string x.f6,.bool x.f7,.int .u64 x.f8,.int .u64 x.f9,.string x.f10,.string x.f11,.bool x.f12,.int .u64 x.f13,.int .u64 x.f14,.string x.f15,.string x.f16,.int .u64 x.f17,.int .u64 x.f18,.int .u64 x.f19,.slice x.R7 x.MS x.R8,.pointer x.f21,.slice x.Vy x.Vz x.VA]
abbrev fy.S.arr(x:fy.S):Array Value:=x.l.toArray
abbrev fy.S.agg(x:fy.S):Value:=.agg x.arr
abbrev fy.S.z:fy.S:=⟨0,0,false,0,0,(⟨#[]⟩:ByteArray),(⟨#[]⟩:ByteArray),false,0,0,(⟨#[]⟩:ByteArray),(⟨#[]⟩:ByteArray),false,0,0,(⟨#[]⟩:ByteArray),(⟨#[]⟩:ByteArray),0,0,0,none,0,0,none,none,0,0⟩
abbrev fy.EX(K:fy.S->Prop):Prop:= ∃t0 t1 t2 t3 t4 t5 t6 t7 t8 t9 t10 t11 t12 t13 t14 t15 t16 t17 t18 t19 a T t t21 d c b,K ⟨t0,t1,t2,t3,t4,t5,t6,t7,t8,t9,t10,t11,t12,t13,t14,t15,t16,t17,t18,t19,a,T,t,t21,d,c,b⟩
structure cv.S where
 f0:Int
 f1:Int
 f2:Bool
 f3:Int
 f4:Int
 f5:ByteArray
 f6:ByteArray
 f7:Bool
 f8:Int
 f9:Int
 f10:ByteArray
 f11:ByteArray
 f12:Int
 f13:Int
 f14:Int
 Pm:bZ
 MT:Nat
 Pn:Nat
 f16:Int
 f17:Int
 f18:Bool
 f19:bZ
 f20:Int
abbrev cv.S.l(x:cv.S):List Value:= [.int .u64 x.f0,.int .i64 x.f1,.bool x.f2,.int .u64 x.f3,.int .u64 x.f4,.string x.f5,.string x.f6,.bool x.f7,.int .u64 x.f8,.int .u64 x.f9,.string x.f10,.string x.f11,.int .i64 x.f12,.int .i64 x.f13,.int .i64 x.f14,.slice x.Pm x.MT x.Pn,.int .u64 x.f16,.int .u64 x.f17,.bool x.f18,.pointer x.f19,.int .i64 x.f20]
abbrev cv.S.arr(x:cv.S):Array Value:=x.l.toArray
abbrev cv.S.agg(x:cv.S):Value:=.agg x.arr
abbrev cv.S.z:cv.S:=⟨0,0,false,0,0,(⟨#[]⟩:ByteArray),(⟨#[]⟩:ByteArray),false,0,0,(⟨#[]⟩:ByteArray),(⟨#[]⟩:ByteArray),0,0,0,none,0,0,0,0,false,none,0⟩
abbrev cv.EX(K:cv.S->Prop):Prop:= ∃t0 t1 t2 t3 t4 t5 t6 t7 t8 t9 t10 t11 t12 t13 t14 a T t t16 t17 t18 t19 t20,K ⟨t0,t1,t2,t3,t4,t5,t6,t7,t8,t9,t10,t11,t12,t13,t14,a,T,t,t16,t17,t18,t19,t20⟩
abbrev cv.cW(h:ak)(a:Addr)(K:cv.S->Prop):Prop:=ia h a λt0=>lR h (a.add 1) λt1=>x4 h (a.add 2) λt2=>ia h (a.add 3) λt3=>ia h (a.add 4) λt4=>rQ h (a.add 5) λt5=>rQ h (a.add 6) λt6=>x4 h (a.add 7) λt7=>ia h (a.add 8) λt8=>ia h (a.add 9) λt9=>rQ h (a.add 10) λt10=>rQ h (a.add 11) λt11=>lR h (a.add 12) λt12=>lR h (a.add 13) λt13=>lR h (a.add 14) λt14=>oY h (a.add 15) λb T t=>ia h (a.add 16) λt16=>ia h (a.add 17) λt17=>x4 h (a.add 18) λt18=>Bm h (a.add 19) λt19=> ∃t20,aX h (a.add 20)=some (.int .i64 t20)/\K ⟨t0,t1,t2,t3,t4,t5,t6,t7,t8,t9,t10,t11,t12,t13,t14,b,T,t,t16,t17,t18,t19,t20⟩
structure ay.S where
 f0:Int
 f1:Int
 f2:Bool
 f3:Int
 f4:Int
 f5:ByteArray
 f6:ByteArray
 f7:Bool
 f8:Int
 f9:Int
 f10:ByteArray
 f11:ByteArray
 f12:Bool
 f13:Int
 f14:Int
 f15:ByteArray
 f16:ByteArray
 f17:Int
 f18:Int
 f19:Int
 R7:bZ
 MS:Nat
 R8:Nat
abbrev ay.S.l(x:ay.S):List Value:= [.int .u64 x.f0,.int .i64 x.f1,.bool x.f2,.int .u64 x.f3,.int .u64 x.f4,.string x.f5,.string x.f6,.bool x.f7,.int .u64 x.f8,.int .u64 x.f9,.string x.f10,.string x.f11,.bool x.f12,.int .u64 x.f13,.int .u64 x.f14,.string x.f15,.string x.f16,.int .u64 x.f17,.int .u64 x.f18,.int .u64 x.f19,.slice x.R7 x.MS x.R8]
abbrev ay.S.arr(x:ay.S):Array Value:=x.l.toArray
abbrev ay.S.agg(x:ay.S):Value:=.agg x.arr
abbrev ay.S.z:ay.S:=⟨0,0,false,0,0,(⟨#[]⟩:ByteArray),(⟨#[]⟩:ByteArray),false,0,0,(⟨#[]⟩:ByteArray),(⟨#[]⟩:ByteArray),false,0,0,(⟨#[]⟩:ByteArray),(⟨#[]⟩:ByteArray),0,0,0,none,0,0⟩
abbrev ay.EX(K:ay.S->Prop):Prop:= ∃t0 t1 t2 t3 t4 t5 t6 t7 t8 t9 t10 t11 t12 t13 t14 t15 t16 t17 t18 t19 a T t,K ⟨t0,t1,t2,t3,t4,t5,t6,t7,t8,t9,t10,t11,t12,t13,t14,t15,t16,t17,t18,t19,a,T,t⟩
abbrev ay.cW(h:ak)(a:Addr)(K:ay.S->Prop):Prop:=ia h a λt0=>lR h (a.add 1) λt1=>x4 h (a.add 2) λt2=>ia h (a.add 3) λt3=>ia h (a.add 4) λt4=>rQ h (a.add 5) λt5=>rQ h (a.add 6) λt6=>x4 h (a.add 7) λt7=>ia h (a.add 8) λt8=>ia h (a.add 9) λt9=>rQ h (a.add 10) λt10=>rQ h (a.add 11) λt11=>x4 h (a.add 12) λt12=>ia h (a.add 13) λt13=>ia h (a.add 14) λt14=>rQ h (a.add 15) λt15=>rQ h (a.add 16) λt16=>ia h (a.add 17) λt17=>ia h (a.add 18) λt18=>ia h (a.add 19) λt19=> ∃b T t,aX h (a.add 20)=some (.slice b T t)/\K ⟨t0,t1,t2,t3,t4,t5,t6,t7,t8,t9,t10,t11,t12,t13,t14,t15,t16,t17,t18,t19,b,T,t⟩
abbrev ay.dE(h:ak)(a:Addr)(x:ay.S)(K:ak->Prop):Prop:=eu a x.l 0 h K
structure aK.S where
 f0:Int
 f1:Int
 f2:Int
 f3:Int
 G9:bZ
 Ha:Nat
 Hc:Nat
abbrev aK.S.l(x:aK.S):List Value:= [.int .u64 x.f0,.int .u64 x.f1,.int .u64 x.f2,.int .i64 x.f3,.slice x.G9 x.Ha x.Hc]
abbrev aK.S.arr(x:aK.S):Array Value:=x.l.toArray
abbrev aK.S.agg(x:aK.S):Value:=.agg x.arr
abbrev aK.S.z:aK.S:=⟨0,0,0,0,none,0,0⟩
abbrev aK.EX(K:aK.S->Prop):Prop:= ∃t0 t1 t2 t3 a T t,K ⟨t0,t1,t2,t3,a,T,t⟩
abbrev aK.cW(h:ak)(a:Addr)(K:aK.S->Prop):Prop:=ia h a λt0=>ia h (a.add 1) λt1=>ia h (a.add 2) λt2=>lR h (a.add 3) λt3=> ∃b T t,aX h (a.add 4)=some (.slice b T t)/\K ⟨t0,t1,t2,t3,b,T,t⟩
abbrev aK.dE(h:ak)(a:Addr)(x:aK.S)(K:ak->Prop):Prop:=eu a x.l 0 h K
structure aa.S where
 f0:Int
 f1:Int
 kV:bZ
 kR:Nat
 kW:Nat
 ou:bZ
 lS:Nat
 nt:Nat
abbrev aa.S.l(x:aa.S):List Value:= [.int .i64 x.f0,.int .u64 x.f1,.slice x.kV x.kR x.kW,.slice x.ou x.lS x.nt]
abbrev aa.S.arr(x:aa.S):Array Value:=x.l.toArray
abbrev aa.S.agg(x:aa.S):Value:=.agg x.arr
abbrev aa.S.z:aa.S:=⟨0,0,none,0,0,none,0,0⟩
abbrev aa.EX(K:aa.S->Prop):Prop:= ∃t0 t1 a T t d c b,K ⟨t0,t1,a,T,t,d,c,b⟩
abbrev aa.cW(h:ak)(a:Addr)(K:aa.S->Prop):Prop:=lR h a λt0=>ia h (a.add 1) λt1=>oY h (a.add 2) λe d c=> ∃b T t,aX h (a.add 3)=some (.slice b T t)/\K ⟨t0,t1,e,d,c,b,T,t⟩
abbrev aa.dE(h:ak)(a:Addr)(x:aa.S)(K:ak->Prop):Prop:=eu a x.l 0 h K
structure aN.S where
 f0:Int
 f1:Bool
 f2:Int
 f3:Int
 f4:ByteArray
 f5:ByteArray
 Eb:bZ
 Ec:Nat
 Ed:Nat
 f7:Int
 f8:Int
 f9:Int
abbrev aN.S.l(x:aN.S):List Value:= [.int .i64 x.f0,.bool x.f1,.int .u64 x.f2,.int .u64 x.f3,.string x.f4,.string x.f5,.slice x.Eb x.Ec x.Ed,.int .u64 x.f7,.int .i64 x.f8,.int .u64 x.f9]
abbrev aN.S.arr(x:aN.S):Array Value:=x.l.toArray
abbrev aN.S.agg(x:aN.S):Value:=.agg x.arr
abbrev aN.S.z:aN.S:=⟨0,false,0,0,(⟨#[]⟩:ByteArray),(⟨#[]⟩:ByteArray),none,0,0,0,0,0⟩
abbrev aN.EX(K:aN.S->Prop):Prop:= ∃t0 t1 t2 t3 t4 t5 a T t t7 t8 t9,K ⟨t0,t1,t2,t3,t4,t5,a,T,t,t7,t8,t9⟩
abbrev aN.cW(h:ak)(a:Addr)(K:aN.S->Prop):Prop:=lR h a λt0=>x4 h (a.add 1) λt1=>ia h (a.add 2) λt2=>ia h (a.add 3) λt3=>rQ h (a.add 4) λt4=>rQ h (a.add 5) λt5=>oY h (a.add 6) λb T t=>ia h (a.add 7) λt7=>lR h (a.add 8) λt8=> ∃t9,aX h (a.add 9)=some (.int .u64 t9)/\K ⟨t0,t1,t2,t3,t4,t5,b,T,t,t7,t8,t9⟩
abbrev aN.dE(h:ak)(a:Addr)(x:aN.S)(K:ak->Prop):Prop:=eu a x.l 0 h K
structure ax.S where
 f0:Bool
 f1:Int
 f2:Int
 f3:ByteArray
 f4:ByteArray
abbrev ax.S.l(x:ax.S):List Value:= [.bool x.f0,.int .u64 x.f1,.int .u64 x.f2,.string x.f3,.string x.f4]
abbrev ax.S.arr(x:ax.S):Array Value:=x.l.toArray
abbrev ax.S.agg(x:ax.S):Value:=.agg x.arr
abbrev ax.S.z:ax.S:=⟨false,0,0,(⟨#[]⟩:ByteArray),(⟨#[]⟩:ByteArray)⟩
abbrev ax.EX(K:ax.S->Prop):Prop:= ∃t0 t1 t2 t3 t4,K ⟨t0,t1,t2,t3,t4⟩
abbrev ax.cW(h:ak)(a:Addr)(K:ax.S->Prop):Prop:=x4 h a λt0=>ia h (a.add 1) λt1=>ia h (a.add 2) λt2=>rQ h (a.add 3) λt3=> ∃t4,aX h (a.add 4)=some (.string t4)/\K ⟨t0,t1,t2,t3,t4⟩
abbrev ax.dE(h:ak)(a:Addr)(x:ax.S)(K:ak->Prop):Prop:=eu a x.l 0 h K
structure fZ.S where
 f0:Int
 f1:Int
 f2:Int
 f3:Int
 f4:Int
 f5:Int
 f6:Bool
 f7:Int
 f8:Int
 f9:ByteArray
 f10:ByteArray
 f11:Bool
 f12:Int
 f13:Int
 f14:ByteArray
 f15:ByteArray
 f16:Int
 f17:Int
 f18:Int
 VB:bZ
 VC:Nat
 VD:Nat
 f20:Int
 f21:Int
 f22:Bool
 VE:bZ
 VF:Nat
 VG:Nat
abbrev fZ.S.l(x:fZ.S):List Value:= [.int .u64 x.f0,.int .i64 x.f1,.int .u64 x.f2,.int .i64 x.f3,.int .u64 x.f4,.int .i64 x.f5,.bool x.f6,.int .u64 x.f7,.int .u64 x.f8,.string x.f9,.string x.f10,.bool x.f11,.int .u64 x.f12,.int .u64 x.f13,.string x.f14,.string x.f15,.int .i64 x.f16,.int .i64 x.f17,.int .i64 x.f18,.slice x.VB x.VC x.VD,.int .u64 x.f20,.int .u64 x.f21,.bool x.f22,.slice x.VE x.VF x.VG]
abbrev fZ.S.arr(x:fZ.S):Array Value:=x.l.toArray
abbrev fZ.S.agg(x:fZ.S):Value:=.agg x.arr
abbrev fZ.S.z:fZ.S:=⟨0,0,0,0,0,0,false,0,0,(⟨#[]⟩:ByteArray),(⟨#[]⟩:ByteArray),false,0,0,(⟨#[]⟩:ByteArray),(⟨#[]⟩:ByteArray),0,0,0,none,0,0,0,0,false,none,0,0⟩
abbrev fZ.EX(K:fZ.S->Prop):Prop:= ∃t0 t1 t2 t3 t4 t5 t6 t7 t8 t9 t10 t11 t12 t13 t14 t15 t16 t17 t18 a T t t20 t21 t22 d c b,K ⟨t0,t1,t2,t3,t4,t5,t6,t7,t8,t9,t10,t11,t12,t13,t14,t15,t16,t17,t18,a,T,t,t20,t21,t22,d,c,b⟩
structure ai.S where
 f0:Bool
 f1:Int
 f2:Int
 f3:ByteArray
 f4:ByteArray
 f5:Int
 f6:Int
abbrev ai.S.l(x:ai.S):List Value:= [.bool x.f0,.int .u64 x.f1,.int .u64 x.f2,.string x.f3,.string x.f4,.int .u64 x.f5,.int .u64 x.f6]
abbrev ai.S.arr(x:ai.S):Array Value:=x.l.toArray
abbrev ai.S.agg(x:ai.S):Value:=.agg x.arr
abbrev ai.S.z:ai.S:=⟨false,0,0,(⟨#[]⟩:ByteArray),(⟨#[]⟩:ByteArray),0,0⟩
abbrev ai.EX(K:ai.S->Prop):Prop:= ∃t0 t1 t2 t3 t4 t5 t6,K ⟨t0,t1,t2,t3,t4,t5,t6⟩
abbrev ai.cW(h:ak)(a:Addr)(K:ai.S->Prop):Prop:=x4 h a λt0=>ia h (a.add 1) λt1=>ia h (a.add 2) λt2=>rQ h (a.add 3) λt3=>rQ h (a.add 4) λt4=>ia h (a.add 5) λt5=> ∃t6,aX h (a.add 6)=some (.int .u64 t6)/\K ⟨t0,t1,t2,t3,t4,t5,t6⟩
abbrev ai.dE(h:ak)(a:Addr)(x:ai.S)(K:ak->Prop):Prop:=eu a x.l 0 h K
structure aY.S where
 f0:Int
 f1:Int
 kV:bZ
 kR:Nat
 kW:Nat
 f3:Int
abbrev aY.S.l(x:aY.S):List Value:= [.int .i64 x.f0,.int .i64 x.f1,.slice x.kV x.kR x.kW,.int .u64 x.f3]
abbrev aY.S.arr(x:aY.S):Array Value:=x.l.toArray
abbrev aY.S.agg(x:aY.S):Value:=.agg x.arr
abbrev aY.S.z:aY.S:=⟨0,0,none,0,0,0⟩
abbrev aY.EX(K:aY.S->Prop):Prop:= ∃t0 t1 a T t t3,K ⟨t0,t1,a,T,t,t3⟩
structure aG.S where
 f0:Int
 f1:Int
 f2:Bool
 f3:Int
 f4:Int
 f5:ByteArray
 f6:ByteArray
 f7:Bool
 f8:Int
 f9:Int
 f10:ByteArray
 f11:ByteArray
 f12:Bool
 f13:Int
 f14:Int
 f15:ByteArray
 f16:ByteArray
 f17:Int
 f18:Int
 f19:Int
abbrev aG.S.l(x:aG.S):List Value:= [.int .u64 x.f0,.int .i64 x.f1,.bool x.f2,.int .u64 x.f3,.int .u64 x.f4,.string x.f5,.string x.f6,.bool x.f7,.int .u64 x.f8,.int .u64 x.f9,.string x.f10,.string x.f11,.bool x.f12,.int .u64 x.f13,.int .u64 x.f14,.string x.f15,.string x.f16,.int .u64 x.f17,.int .u64 x.f18,.int .u64 x.f19]
abbrev aG.S.arr(x:aG.S):Array Value:=x.l.toArray
abbrev aG.S.agg(x:aG.S):Value:=.agg x.arr
abbrev aG.S.z:aG.S:=⟨0,0,false,0,0,(⟨#[]⟩:ByteArray),(⟨#[]⟩:ByteArray),false,0,0,(⟨#[]⟩:ByteArray),(⟨#[]⟩:ByteArray),false,0,0,(⟨#[]⟩:ByteArray),(⟨#[]⟩:ByteArray),0,0,0⟩
abbrev aG.EX(K:aG.S->Prop):Prop:= ∃t0 t1 t2 t3 t4 t5 t6 t7 t8 t9 t10 t11 t12 t13 t14 t15 t16 t17 t18 t19,K ⟨t0,t1,t2,t3,t4,t5,t6,t7,t8,t9,t10,t11,t12,t13,t14,t15,t16,t17,t18,t19⟩
abbrev aG.cW(h:ak)(a:Addr)(K:aG.S->Prop):Prop:=ia h a λt0=>lR h (a.add 1) λt1=>x4 h (a.add 2) λt2=>ia h (a.add 3) λt3=>ia h (a.add 4) λt4=>rQ h (a.add 5) λt5=>rQ h (a.add 6) λt6=>x4 h (a.add 7) λt7=>ia h (a.add 8) λt8=>ia h (a.add 9) λt9=>rQ h (a.add 10) λt10=>rQ h (a.add 11) λt11=>x4 h (a.add 12) λt12=>ia h (a.add 13) λt13=>ia h (a.add 14) λt14=>rQ h (a.add 15) λt15=>rQ h (a.add 16) λt16=>ia h (a.add 17) λt17=>ia h (a.add 18) λt18=> ∃t19,aX h (a.add 19)=some (.int .u64 t19)/\K ⟨t0,t1,t2,t3,t4,t5,t6,t7,t8,t9,t10,t11,t12,t13,t14,t15,t16,t17,t18,t19⟩
abbrev aG.dE(h:ak)(a:Addr)(x:aG.S)(K:ak->Prop):Prop:=eu a x.l 0 h K
structure av.S where
 f0:Int
 f1:Int
 f2:Int
 f3:Int
 f4:Int
 sQ:bZ
 f5l:Nat
 sR:Nat
abbrev av.S.l(x:av.S):List Value:= [.int .u64 x.f0,.int .i64 x.f1,.int .i64 x.f2,.int .i64 x.f3,.int .u64 x.f4,.slice x.sQ x.f5l x.sR]
abbrev av.S.arr(x:av.S):Array Value:=x.l.toArray
abbrev av.S.agg(x:av.S):Value:=.agg x.arr
abbrev av.S.z:av.S:=⟨0,0,0,0,0,none,0,0⟩
abbrev av.EX(K:av.S->Prop):Prop:= ∃t0 t1 t2 t3 t4 a T t,K ⟨t0,t1,t2,t3,t4,a,T,t⟩
abbrev av.cW(h:ak)(a:Addr)(K:av.S->Prop):Prop:=ia h a λt0=>lR h (a.add 1) λt1=>lR h (a.add 2) λt2=>lR h (a.add 3) λt3=>ia h (a.add 4) λt4=> ∃b T t,aX h (a.add 5)=some (.slice b T t)/\K ⟨t0,t1,t2,t3,t4,b,T,t⟩
abbrev av.dE(h:ak)(a:Addr)(x:av.S)(K:ak->Prop):Prop:=eu a x.l 0 h K
structure cF.S where
 f0:Bool
 f1:Bool
 f2:Bool
 f3:Int
 f4:Int
 f5:Bool
 f6:Int
 f7:Int
 f8:ByteArray
 f9:ByteArray
 f10:Int
 f11:Int
abbrev cF.S.l(x:cF.S):List Value:= [.bool x.f0,.bool x.f1,.bool x.f2,.int .u64 x.f3,.int .u64 x.f4,.bool x.f5,.int .u64 x.f6,.int .u64 x.f7,.string x.f8,.string x.f9,.int .u64 x.f10,.int .u64 x.f11]
abbrev cF.S.arr(x:cF.S):Array Value:=x.l.toArray
abbrev cF.S.agg(x:cF.S):Value:=.agg x.arr
abbrev cF.S.z:cF.S:=⟨false,false,false,0,0,false,0,0,(⟨#[]⟩:ByteArray),(⟨#[]⟩:ByteArray),0,0⟩
abbrev cF.EX(K:cF.S->Prop):Prop:= ∃t0 t1 t2 t3 t4 t5 t6 t7 t8 t9 t10 t11,K ⟨t0,t1,t2,t3,t4,t5,t6,t7,t8,t9,t10,t11⟩
abbrev cF.cW(h:ak)(a:Addr)(K:cF.S->Prop):Prop:=x4 h a λt0=>x4 h (a.add 1) λt1=>x4 h (a.add 2) λt2=>ia h (a.add 3) λt3=>ia h (a.add 4) λt4=>x4 h (a.add 5) λt5=>ia h (a.add 6) λt6=>ia h (a.add 7) λt7=>rQ h (a.add 8) λt8=>rQ h (a.add 9) λt9=>ia h (a.add 10) λt10=> ∃t11,aX h (a.add 11)=some (.int .u64 t11)/\K ⟨t0,t1,t2,t3,t4,t5,t6,t7,t8,t9,t10,t11⟩
structure aH.S where
 f0:Int
 f1:Int
 f2:Bool
 f3:Int
 f4:Int
 f5:ByteArray
 f6:ByteArray
 f7:Bool
 f8:Int
 f9:Int
 f10:ByteArray
 f11:ByteArray
 f12:Int
 f13:Int
 f14:Int
 Pm:bZ
 MT:Nat
 Pn:Nat
 f16:Int
 f17:Int
 f18:Bool
abbrev aH.S.l(x:aH.S):List Value:= [.int .u64 x.f0,.int .i64 x.f1,.bool x.f2,.int .u64 x.f3,.int .u64 x.f4,.string x.f5,.string x.f6,.bool x.f7,.int .u64 x.f8,.int .u64 x.f9,.string x.f10,.string x.f11,.int .i64 x.f12,.int .i64 x.f13,.int .i64 x.f14,.slice x.Pm x.MT x.Pn,.int .u64 x.f16,.int .u64 x.f17,.bool x.f18]
abbrev aH.S.arr(x:aH.S):Array Value:=x.l.toArray
abbrev aH.S.agg(x:aH.S):Value:=.agg x.arr
abbrev aH.S.z:aH.S:=⟨0,0,false,0,0,(⟨#[]⟩:ByteArray),(⟨#[]⟩:ByteArray),false,0,0,(⟨#[]⟩:ByteArray),(⟨#[]⟩:ByteArray),0,0,0,none,0,0,0,0,false⟩
abbrev aH.EX(K:aH.S->Prop):Prop:= ∃t0 t1 t2 t3 t4 t5 t6 t7 t8 t9 t10 t11 t12 t13 t14 a T t t16 t17 t18,K ⟨t0,t1,t2,t3,t4,t5,t6,t7,t8,t9,t10,t11,t12,t13,t14,a,T,t,t16,t17,t18⟩
abbrev aH.cW(h:ak)(a:Addr)(K:aH.S->Prop):Prop:=ia h a λt0=>lR h (a.add 1) λt1=>x4 h (a.add 2) λt2=>ia h (a.add 3) λt3=>ia h (a.add 4) λt4=>rQ h (a.add 5) λt5=>rQ h (a.add 6) λt6=>x4 h (a.add 7) λt7=>ia h (a.add 8) λt8=>ia h (a.add 9) λt9=>rQ h (a.add 10) λt10=>rQ h (a.add 11) λt11=>lR h (a.add 12) λt12=>lR h (a.add 13) λt13=>lR h (a.add 14) λt14=>oY h (a.add 15) λb T t=>ia h (a.add 16) λt16=>ia h (a.add 17) λt17=> ∃t18,aX h (a.add 18)=some (.bool t18)/\K ⟨t0,t1,t2,t3,t4,t5,t6,t7,t8,t9,t10,t11,t12,t13,t14,b,T,t,t16,t17,t18⟩
abbrev aH.dE(h:ak)(a:Addr)(x:aH.S)(K:ak->Prop):Prop:=eu a x.l 0 h K

section
variable {h:ak} {R:fG}
variable {b kR kW lS nt r q w u F f Ha Hc f5l sR Ec Ed e d:Nat} {f0 f1 g0 G f2 k f3 f5 f6 i l z f7 f8 f9 m n:Int} {kV ou t y c G9 sQ Eb g:bZ} {K:Nat->ak->Prop} {a:Addr} {f4 g4 s o p:ByteArray} {X:Bool}
def aa.at(h:ak)(b:Nat)(f0:Int)(f1:Int)(kV:bZ)(kR kW:Nat)(ou:bZ)(lS nt:Nat):Prop:=h[b]? =some (.cells #[.int .i64 f0,.int .u64 f1,.slice kV kR kW,.slice ou lS nt] 262 (0,0))
theorem aa.ld{K:Int->Int->bZ->Nat->Nat->bZ->Nat->Nat->Prop}(H:aa.at h b f0 f1 kV kR kW ou lS nt)(hk:K f0 f1 kV kR kW ou lS nt):aa.LD h (AA b 0) K:=
 ⟨_,aq H,_,aq H,_,_,_,aq H,_,_,_,aq H,hk⟩
theorem aa.wm{K:Int->Int->bZ->Nat->Nat->bZ->Nat->Nat->Prop}(H:dM a [.I f0,.U f1,.slice kV kR kW,.slice ou lS nt] 0 h)(hk:K f0 f1 kV kR kW ou lS nt):aa.LD h a K:=by
 obtain⟨Q,q1,q2,q3,_⟩:=H;rw[eK]at Q;exact⟨_,Q,_,q1,_,_,_,q2,_,_,_,q3,hk⟩
theorem aa.held(H:aa.at h b f0 f1 kV kR kW ou lS nt):dM (AA b 0) [.I f0,.U f1,.slice kV kR kW,.slice ou lS nt] 0 h:=
 gO H (λj v x=>by rw[bH];simpa using x)
theorem aa.qQ{K:ak->Prop}(hk:eu a [.I f0,.U f1,.slice kV kR kW,.slice ou lS nt] 0 h K):aa.ST h a f0 f1 kV kR kW ou lS nt K:=hk
theorem aa.new(hk: ∀b h',b=h.size->aa.at h' b f0 f1 kV kR kW ou lS nt->Fr No h h'->K b h'):aT h (.cells #[.I 0,.U 0,.Z,.Z] 262) λb H=>aa.ST H (AA b 0) f0 f1 kV kR kW ou lS nt (K b):=
 gz (vs:= [.I f0,.U f1,.slice kV kR kW,.slice ou lS nt]) rfl rfl hk
theorem aa.box(hk: ∀b h',b=h.size->aa.at h' b f0 f1 kV kR kW ou lS nt->Fr No h h'->K b h'):aT h (.cells #[.I f0,.U f1,.slice kV kR kW,.slice ou lS nt] 262) λb H=>K b H:=
 cI (hk _ _ rfl bV (Fr.push _ _))
theorem aa.set{K:ak->Prop}(a0:aa.at h b g0 G t r q y w u)(hk: ∀h',aa.at h' b f0 f1 kV kR kW ou lS nt->h'.size=h.size->(∀x,x≠b->h'[x]? =h[x]?)->K h'):aa.ST h (AA b 0) f0 f1 kV kR kW ou lS nt K:=
 aa.qQ (fo a0 rfl rfl hk)
def bF.at(h:ak)(b:Nat)(f0:Int)(f1:Int)(f2:Bool):Prop:=h[b]? =some (.cells #[.int .i64 f0,.int .u64 f1,.bool f2] 360 (0,0))
theorem bF.ld{f2:Bool}{K:Int->Int->Bool->Prop}(H:bF.at h b f0 f1 f2)(hk:K f0 f1 f2):bF.LD h (AA b 0) K:=
 ⟨_,aq H,_,aq H,_,aq H,hk⟩
theorem bF.qQ{f2:Bool}{K:ak->Prop}(hk:eu a [.I f0,.U f1,.bool f2] 0 h K):bF.ST h a f0 f1 f2 K:=hk
theorem bF.new{f2:Bool}(hk: ∀b h',b=h.size->bF.at h' b f0 f1 f2->Fr No h h'->K b h'):aT h (.cells #[.I 0,.U 0,.bool false] 360) λb H=>bF.ST H (AA b 0) f0 f1 f2 (K b):=
 gz (vs:= [.I f0,.U f1,.bool f2]) rfl rfl hk
theorem bF.box{f2:Bool}(hk: ∀b h',b=h.size->bF.at h' b f0 f1 f2->Fr No h h'->K b h'):aT h (.cells #[.I f0,.U f1,.bool f2] 360) λb H=>K b H:=
 cI (hk _ _ rfl bV (Fr.push _ _))
theorem bF.set{k:Bool}{f2:Bool}{K:ak->Prop}(a0:bF.at h b g0 G k)(hk: ∀h',bF.at h' b f0 f1 f2->h'.size=h.size->(∀x,x≠b->h'[x]? =h[x]?)->K h'):bF.ST h (AA b 0) f0 f1 f2 K:=
 bF.qQ (fo a0 rfl rfl hk)
def ai.at(h:ak)(b:Nat)(f0:Bool)(f1:Int)(f2:Int)(f3:ByteArray)(f4:ByteArray)(f5:Int)(f6:Int):Prop:=h[b]? =some (.cells #[.bool f0,.int .u64 f1,.int .u64 f2,.string f3,.string f4,.int .u64 f5,.int .u64 f6] 124 (0,0))
theorem ai.ld{f0:Bool}{f3:ByteArray}{K:Bool->Int->Int->ByteArray->ByteArray->Int->Int->Prop}(H:ai.at h b f0 f1 f2 f3 f4 f5 f6)(hk:K f0 f1 f2 f3 f4 f5 f6):ai.LD h (AA b 0) K:=
 ⟨_,aq H,_,aq H,_,aq H,_,aq H,_,aq H,_,aq H,_,aq H,hk⟩
theorem ai.qQ{f0:Bool}{f3:ByteArray}{K:ak->Prop}(hk:eu a [.bool f0,.U f1,.U f2,.string f3,.string f4,.U f5,.U f6] 0 h K):ai.ST h a f0 f1 f2 f3 f4 f5 f6 K:=hk
theorem ai.new{f0:Bool}{f3:ByteArray}(hk: ∀b h',b=h.size->ai.at h' b f0 f1 f2 f3 f4 f5 f6->Fr No h h'->K b h'):aT h (.cells #[.bool false,.U 0,.U 0,.string hC,.string hC,.U 0,.U 0] 124) λb H=>ai.ST H (AA b 0) f0 f1 f2 f3 f4 f5 f6 (K b):=
 gz (vs:= [.bool f0,.U f1,.U f2,.string f3,.string f4,.U f5,.U f6]) rfl rfl hk
theorem ai.box{f0:Bool}{f3:ByteArray}(hk: ∀b h',b=h.size->ai.at h' b f0 f1 f2 f3 f4 f5 f6->Fr No h h'->K b h'):aT h (.cells #[.bool f0,.U f1,.U f2,.string f3,.string f4,.U f5,.U f6] 124) λb H=>K b H:=
 cI (hk _ _ rfl bV (Fr.push _ _))
theorem ai.set{g0:Bool}{i:ByteArray}{f0:Bool}{f3:ByteArray}{K:ak->Prop}(a0:ai.at h b g0 G k i g4 l z)(hk: ∀h',ai.at h' b f0 f1 f2 f3 f4 f5 f6->h'.size=h.size->(∀x,x≠b->h'[x]? =h[x]?)->K h'):ai.ST h (AA b 0) f0 f1 f2 f3 f4 f5 f6 K:=
 ai.qQ (fo a0 rfl rfl hk)
def aY.at(h:ak)(b:Nat)(f0:Int)(f1:Int)(kV:bZ)(kR kW:Nat)(f3:Int):Prop:=h[b]? =some (.cells #[.int .i64 f0,.int .i64 f1,.slice kV kR kW,.int .u64 f3] 119 (0,0))
theorem aY.ld{K:Int->Int->bZ->Nat->Nat->Int->Prop}(H:aY.at h b f0 f1 kV kR kW f3)(hk:K f0 f1 kV kR kW f3):aY.LD h (AA b 0) K:=
 ⟨_,aq H,_,aq H,_,_,_,aq H,_,aq H,hk⟩
theorem aY.wm{K:Int->Int->bZ->Nat->Nat->Int->Prop}(H:dM a [.I f0,.I f1,.slice kV kR kW,.U f3] 0 h)(hk:K f0 f1 kV kR kW f3):aY.LD h a K:=by
 obtain⟨Q,q1,q2,q3,_⟩:=H;rw[eK]at Q;exact⟨_,Q,_,q1,_,_,_,q2,_,q3,hk⟩
theorem aY.qQ{K:ak->Prop}(hk:eu a [.I f0,.I f1,.slice kV kR kW,.U f3] 0 h K):aY.ST h a f0 f1 kV kR kW f3 K:=hk
theorem aY.new(hk: ∀b h',b=h.size->aY.at h' b f0 f1 kV kR kW f3->Fr No h h'->K b h'):aT h (.cells #[.I 0,.I 0,.Z,.U 0] 119) λb H=>aY.ST H (AA b 0) f0 f1 kV kR kW f3 (K b):=
 gz (vs:= [.I f0,.I f1,.slice kV kR kW,.U f3]) rfl rfl hk
theorem aY.box(hk: ∀b h',b=h.size->aY.at h' b f0 f1 kV kR kW f3->Fr No h h'->K b h'):aT h (.cells #[.I f0,.I f1,.slice kV kR kW,.U f3] 119) λb H=>K b H:=
 cI (hk _ _ rfl bV (Fr.push _ _))
theorem aY.set{K:ak->Prop}(a0:aY.at h b g0 G t r q i)(hk: ∀h',aY.at h' b f0 f1 kV kR kW f3->h'.size=h.size->(∀x,x≠b->h'[x]? =h[x]?)->K h'):aY.ST h (AA b 0) f0 f1 kV kR kW f3 K:=
 aY.qQ (fo a0 rfl rfl hk)
def bW.at(h:ak)(b:Nat)(f0:Int)(c:bZ)(F f:Nat):Prop:=h[b]? =some (.cells #[.int .u64 f0,.slice c F f] 161 (0,0))
theorem bW.ld{K:Int->bZ->Nat->Nat->Prop}(H:bW.at h b f0 c F f)(hk:K f0 c F f):bW.LD h (AA b 0) K:=
 ⟨_,aq H,_,_,_,aq H,hk⟩
theorem bW.wm{K:Int->bZ->Nat->Nat->Prop}(H:dM a [.U f0,.slice c F f] 0 h)(hk:K f0 c F f):bW.LD h a K:=by
 obtain⟨Q,q1,_⟩:=H;rw[eK]at Q;exact⟨_,Q,_,_,_,q1,hk⟩
theorem bW.new(hk: ∀b h',b=h.size->bW.at h' b f0 c F f->Fr No h h'->K b h'):aT h (.cells #[.U 0,.Z] 161) λb H=>bW.ST H (AA b 0) f0 c F f (K b):=
 gz (vs:= [.U f0,.slice c F f]) rfl rfl hk
theorem bW.box(hk: ∀b h',b=h.size->bW.at h' b f0 c F f->Fr No h h'->K b h'):aT h (.cells #[.U f0,.slice c F f] 161) λb H=>K b H:=
 cI (hk _ _ rfl bV (Fr.push _ _))
def cG.at(h:ak)(b:Nat)(f0:Int)(f1:Int)(f2:Bool)(f3:Bool)(G9:bZ)(Ha Hc:Nat)(sQ:bZ)(f5l sR:Nat):Prop:=h[b]? =some (.cells #[.int .i64 f0,.int .u64 f1,.bool f2,.bool f3,.slice G9 Ha Hc,.slice sQ f5l sR] 76 (0,0))
theorem cG.ld{f2:Bool}{f3:Bool}{K:Int->Int->Bool->Bool->bZ->Nat->Nat->bZ->Nat->Nat->Prop}(H:cG.at h b f0 f1 f2 f3 G9 Ha Hc sQ f5l sR)(hk:K f0 f1 f2 f3 G9 Ha Hc sQ f5l sR):cG.LD h (AA b 0) K:=
 ⟨_,aq H,_,aq H,_,aq H,_,aq H,_,_,_,aq H,_,_,_,aq H,hk⟩
theorem cG.wm{f2:Bool}{f3:Bool}{K:Int->Int->Bool->Bool->bZ->Nat->Nat->bZ->Nat->Nat->Prop}(H:dM a [.I f0,.U f1,.bool f2,.bool f3,.slice G9 Ha Hc,.slice sQ f5l sR] 0 h)(hk:K f0 f1 f2 f3 G9 Ha Hc sQ f5l sR):cG.LD h a K:=by
 obtain⟨Q,q1,q2,q3,q4,j,_⟩:=H;rw[eK]at Q;exact⟨_,Q,_,q1,_,q2,_,q3,_,_,_,q4,_,_,_,j,hk⟩
theorem cG.new{f2:Bool}{f3:Bool}(hk: ∀b h',b=h.size->cG.at h' b f0 f1 f2 f3 G9 Ha Hc sQ f5l sR->Fr No h h'->K b h'):aT h (.cells #[.I 0,.U 0,.bool false,.bool false,.Z,.Z] 76) λb H=>cG.ST H (AA b 0) f0 f1 f2 f3 G9 Ha Hc sQ f5l sR (K b):=
 gz (vs:= [.I f0,.U f1,.bool f2,.bool f3,.slice G9 Ha Hc,.slice sQ f5l sR]) rfl rfl hk
theorem cG.box{f2:Bool}{f3:Bool}(hk: ∀b h',b=h.size->cG.at h' b f0 f1 f2 f3 G9 Ha Hc sQ f5l sR->Fr No h h'->K b h'):aT h (.cells #[.I f0,.U f1,.bool f2,.bool f3,.slice G9 Ha Hc,.slice sQ f5l sR] 76) λb H=>K b H:=
 cI (hk _ _ rfl bV (Fr.push _ _))
def ax.at(h:ak)(b:Nat)(f0:Bool)(f1:Int)(f2:Int)(f3:ByteArray)(f4:ByteArray):Prop:=h[b]? =some (.cells #[.bool f0,.int .u64 f1,.int .u64 f2,.string f3,.string f4] 29 (0,0))
theorem ax.ld{f0:Bool}{f3:ByteArray}{K:Bool->Int->Int->ByteArray->ByteArray->Prop}(H:ax.at h b f0 f1 f2 f3 f4)(hk:K f0 f1 f2 f3 f4):ax.LD h (AA b 0) K:=
 ⟨_,aq H,_,aq H,_,aq H,_,aq H,_,aq H,hk⟩
theorem ax.held{f0:Bool}{f3:ByteArray}(H:ax.at h b f0 f1 f2 f3 f4):dM (AA b 0) [.bool f0,.U f1,.U f2,.string f3,.string f4] 0 h:=
 gO H (λj v x=>by rw[bH];simpa using x)
theorem ax.box{f0:Bool}{f3:ByteArray}(hk: ∀b h',b=h.size->ax.at h' b f0 f1 f2 f3 f4->Fr No h h'->K b h'):aT h (.cells #[.bool f0,.U f1,.U f2,.string f3,.string f4] 29) λb H=>K b H:=
 cI (hk _ _ rfl bV (Fr.push _ _))
def bD.at(h:ak)(b:Nat)(f0:Bool)(f1:Int)(f2:Int)(f3:ByteArray)(f4:ByteArray)(f5:Int)(f6:Int):Prop:=h[b]? =some (.cells #[.bool f0,.int .u64 f1,.int .u64 f2,.string f3,.string f4,.int .i64 f5,.int .i64 f6] 136 (0,0))
theorem bD.ld{f0:Bool}{f3:ByteArray}{K:Bool->Int->Int->ByteArray->ByteArray->Int->Int->Prop}(H:bD.at h b f0 f1 f2 f3 f4 f5 f6)(hk:K f0 f1 f2 f3 f4 f5 f6):bD.LD h (AA b 0) K:=
 ⟨_,aq H,_,aq H,_,aq H,_,aq H,_,aq H,_,aq H,_,aq H,hk⟩
theorem bD.wm{f0:Bool}{f3:ByteArray}{K:Bool->Int->Int->ByteArray->ByteArray->Int->Int->Prop}(H:dM a [.bool f0,.U f1,.U f2,.string f3,.string f4,.I f5,.I f6] 0 h)(hk:K f0 f1 f2 f3 f4 f5 f6):bD.LD h a K:=by
 obtain⟨Q,q1,q2,q3,q4,j,q6,_⟩:=H;rw[eK]at Q;exact⟨_,Q,_,q1,_,q2,_,q3,_,q4,_,j,_,q6,hk⟩
theorem bD.qQ{f0:Bool}{f3:ByteArray}{K:ak->Prop}(hk:eu a [.bool f0,.U f1,.U f2,.string f3,.string f4,.I f5,.I f6] 0 h K):bD.ST h a f0 f1 f2 f3 f4 f5 f6 K:=hk
theorem bD.new{f0:Bool}{f3:ByteArray}(hk: ∀b h',b=h.size->bD.at h' b f0 f1 f2 f3 f4 f5 f6->Fr No h h'->K b h'):aT h (.cells #[.bool false,.U 0,.U 0,.string hC,.string hC,.I 0,.I 0] 136) λb H=>bD.ST H (AA b 0) f0 f1 f2 f3 f4 f5 f6 (K b):=
 gz (vs:= [.bool f0,.U f1,.U f2,.string f3,.string f4,.I f5,.I f6]) rfl rfl hk
theorem bD.box{f0:Bool}{f3:ByteArray}(hk: ∀b h',b=h.size->bD.at h' b f0 f1 f2 f3 f4 f5 f6->Fr No h h'->K b h'):aT h (.cells #[.bool f0,.U f1,.U f2,.string f3,.string f4,.I f5,.I f6] 136) λb H=>K b H:=
 cI (hk _ _ rfl bV (Fr.push _ _))
theorem bD.set{g0:Bool}{i:ByteArray}{f0:Bool}{f3:ByteArray}{K:ak->Prop}(a0:bD.at h b g0 G k i g4 l z)(hk: ∀h',bD.at h' b f0 f1 f2 f3 f4 f5 f6->h'.size=h.size->(∀x,x≠b->h'[x]? =h[x]?)->K h'):bD.ST h (AA b 0) f0 f1 f2 f3 f4 f5 f6 K:=
 bD.qQ (fo a0 rfl rfl hk)
def aN.at(h:ak)(b:Nat)(f0:Int)(f1:Bool)(f2:Int)(f3:Int)(f4:ByteArray)(f5:ByteArray)(Eb:bZ)(Ec Ed:Nat)(f7:Int)(f8:Int)(f9:Int):Prop:=h[b]? =some (.cells #[.int .i64 f0,.bool f1,.int .u64 f2,.int .u64 f3,.string f4,.string f5,.slice Eb Ec Ed,.int .u64 f7,.int .i64 f8,.int .u64 f9] 114 (0,0))
theorem aN.ld{f1:Bool}{f5:ByteArray}{K:Int->Bool->Int->Int->ByteArray->ByteArray->bZ->Nat->Nat->Int->Int->Int->Prop}(H:aN.at h b f0 f1 f2 f3 f4 f5 Eb Ec Ed f7 f8 f9)(hk:K f0 f1 f2 f3 f4 f5 Eb Ec Ed f7 f8 f9):aN.LD h (AA b 0) K:=
 ⟨_,aq H,_,aq H,_,aq H,_,aq H,_,aq H,_,aq H,_,_,_,aq H,_,aq H,_,aq H,_,aq H,hk⟩
theorem aN.qQ{f1:Bool}{f5:ByteArray}{K:ak->Prop}(hk:eu a [.I f0,.bool f1,.U f2,.U f3,.string f4,.string f5,.slice Eb Ec Ed,.U f7,.I f8,.U f9] 0 h K):aN.ST h a f0 f1 f2 f3 f4 f5 Eb Ec Ed f7 f8 f9 K:=hk
theorem aN.new{f1:Bool}{f5:ByteArray}(hk: ∀b h',b=h.size->aN.at h' b f0 f1 f2 f3 f4 f5 Eb Ec Ed f7 f8 f9->Fr No h h'->K b h'):aT h (.cells #[.I 0,.bool false,.U 0,.U 0,.string hC,.string hC,.Z,.U 0,.I 0,.U 0] 114) λb H=>aN.ST H (AA b 0) f0 f1 f2 f3 f4 f5 Eb Ec Ed f7 f8 f9 (K b):=
 gz (vs:= [.I f0,.bool f1,.U f2,.U f3,.string f4,.string f5,.slice Eb Ec Ed,.U f7,.I f8,.U f9]) rfl rfl hk
theorem aN.box{f1:Bool}{f5:ByteArray}(hk: ∀b h',b=h.size->aN.at h' b f0 f1 f2 f3 f4 f5 Eb Ec Ed f7 f8 f9->Fr No h h'->K b h'):aT h (.cells #[.I f0,.bool f1,.U f2,.U f3,.string f4,.string f5,.slice Eb Ec Ed,.U f7,.I f8,.U f9] 114) λb H=>K b H:=
 cI (hk _ _ rfl bV (Fr.push _ _))
theorem aN.set{G:Bool}{l:ByteArray}{A:bZ}{v j:Nat}{B:Int}{C:Int}{D:Int}{f1:Bool}{f5:ByteArray}{K:ak->Prop}(a0:aN.at h b g0 G k i g4 l A v j B C D)(hk: ∀h',aN.at h' b f0 f1 f2 f3 f4 f5 Eb Ec Ed f7 f8 f9->h'.size=h.size->(∀x,x≠b->h'[x]? =h[x]?)->K h'):aN.ST h (AA b 0) f0 f1 f2 f3 f4 f5 Eb Ec Ed f7 f8 f9 K:=
 aN.qQ (fo a0 rfl rfl hk)
def av.at(h:ak)(b:Nat)(f0:Int)(f1:Int)(f2:Int)(f3:Int)(f4:Int)(sQ:bZ)(f5l sR:Nat):Prop:=h[b]? =some (.cells #[.int .u64 f0,.int .i64 f1,.int .i64 f2,.int .i64 f3,.int .u64 f4,.slice sQ f5l sR] 44 (0,0))
theorem av.ld{f4:Int}{K:Int->Int->Int->Int->Int->bZ->Nat->Nat->Prop}(H:av.at h b f0 f1 f2 f3 f4 sQ f5l sR)(hk:K f0 f1 f2 f3 f4 sQ f5l sR):av.LD h (AA b 0) K:=
 ⟨_,aq H,_,aq H,_,aq H,_,aq H,_,aq H,_,_,_,aq H,hk⟩
theorem av.held{f4:Int}(H:av.at h b f0 f1 f2 f3 f4 sQ f5l sR):dM (AA b 0) [.U f0,.I f1,.I f2,.I f3,.U f4,.slice sQ f5l sR] 0 h:=
 gO H (λj v x=>by rw[bH];simpa using x)
theorem av.qQ{f4:Int}{K:ak->Prop}(hk:eu a [.U f0,.I f1,.I f2,.I f3,.U f4,.slice sQ f5l sR] 0 h K):av.ST h a f0 f1 f2 f3 f4 sQ f5l sR K:=hk
theorem av.new{f4:Int}(hk: ∀b h',b=h.size->av.at h' b f0 f1 f2 f3 f4 sQ f5l sR->Fr No h h'->K b h'):aT h (.cells #[.U 0,.I 0,.I 0,.I 0,.U 0,.Z] 44) λb H=>av.ST H (AA b 0) f0 f1 f2 f3 f4 sQ f5l sR (K b):=
 gz (vs:= [.U f0,.I f1,.I f2,.I f3,.U f4,.slice sQ f5l sR]) rfl rfl hk
theorem av.box{f4:Int}(hk: ∀b h',b=h.size->av.at h' b f0 f1 f2 f3 f4 sQ f5l sR->Fr No h h'->K b h'):aT h (.cells #[.U f0,.I f1,.I f2,.I f3,.U f4,.slice sQ f5l sR] 44) λb H=>K b H:=
 cI (hk _ _ rfl bV (Fr.push _ _))
theorem av.set{g4:Int}{A:bZ}{v j:Nat}{f4:Int}{K:ak->Prop}(a0:av.at h b g0 G k i g4 A v j)(hk: ∀h',av.at h' b f0 f1 f2 f3 f4 sQ f5l sR->h'.size=h.size->(∀x,x≠b->h'[x]? =h[x]?)->K h'):av.ST h (AA b 0) f0 f1 f2 f3 f4 sQ f5l sR K:=
 av.qQ (fo a0 rfl rfl hk)
def cO.at(h:ak)(b:Nat)(g:bZ)(e d:Nat)(c:bZ)(F f:Nat)(kV:bZ)(kR kW:Nat)(ou:bZ)(lS nt:Nat):Prop:=h[b]? =some (.cells #[.slice g e d,.slice c F f,.slice kV kR kW,.slice ou lS nt] 152 (0,0))
theorem cO.held(H:cO.at h b g e d c F f kV kR kW ou lS nt):dM (AA b 0) [.slice g e d,.slice c F f,.slice kV kR kW,.slice ou lS nt] 0 h:=
 gO H (λj v x=>by rw[bH];simpa using x)
theorem cO.qQ{K:ak->Prop}(hk:eu a [.slice g e d,.slice c F f,.slice kV kR kW,.slice ou lS nt] 0 h K):cO.ST h a g e d c F f kV kR kW ou lS nt K:=hk
theorem cO.new(hk: ∀b h',b=h.size->cO.at h' b g e d c F f kV kR kW ou lS nt->Fr No h h'->K b h'):aT h (.cells #[.Z,.Z,.Z,.Z] 152) λb H=>cO.ST H (AA b 0) g e d c F f kV kR kW ou lS nt (K b):=
 gz (vs:= [.slice g e d,.slice c F f,.slice kV kR kW,.slice ou lS nt]) rfl rfl hk
theorem cO.box(hk: ∀b h',b=h.size->cO.at h' b g e d c F f kV kR kW ou lS nt->Fr No h h'->K b h'):aT h (.cells #[.slice g e d,.slice c F f,.slice kV kR kW,.slice ou lS nt] 152) λb H=>K b H:=
 cI (hk _ _ rfl bV (Fr.push _ _))
theorem cO.set{A:bZ}{v j:Nat}{D:bZ}{C B:Nat}{K:ak->Prop}(a0:cO.at h b A v j D C B t r q y w u)(hk: ∀h',cO.at h' b g e d c F f kV kR kW ou lS nt->h'.size=h.size->(∀x,x≠b->h'[x]? =h[x]?)->K h'):cO.ST h (AA b 0) g e d c F f kV kR kW ou lS nt K:=
 cO.qQ (fo a0 rfl rfl hk)
theorem wo.host.walk(B:aU Tryz.prog (Instr.range 9 (.string s)) h λv A=> ∃(it:Nat),v=.P it 0/\∃(I:ak->Prop)(M:ak->Nat),I A/\∀(j:ak),I j->aU Tryz.prog (Instr.next (.P it 0) true 0) j λV H=>(V=.tuple #[.bool false]/\R (.bool true) H)\/(∃(C T:Value),V=.tuple #[.bool true,C,T]/\∃t11,T=.int .i32 t11/\aI (λ(t34:Bool) (x:ak)=>if t34 then R (.bool false) x else(I x/\M x<M j)) (λJ=>if(decide (t11<97))then if(decide (t11<48))then if(t11 !=45)then J (t11 !=45) H else J false H else if(decide (t11>57))then if(t11 !=45)then J (t11 !=45) H else J false H else J false H else if(decide (t11>122))then if(decide (t11<48))then if(t11 !=45)then J (t11 !=45) H else J false H else if(decide (t11>57))then if(t11 !=45)then J (t11 !=45) H else J false H else J false H else J false H))):Cl 142 #[.string s,.int .i32 45] h R:=aR (lq (sq (lq (bq (.loop [] (lq (sq (cq lf lf) (bq (sq (.typed [(11,.one (.int .i32))]) (sq (.join [(34,.one (.bool))] lf) (cq ll lf))))))))) ll)) Tryz.func142 B
theorem wo.Ts.walk(B:aU Tryz.prog (Instr.range 9 (.string s)) h λv A=> ∃(it:Nat),v=.P it 0/\∃(I:ak->Prop)(M:ak->Nat),I A/\∀(j:ak),I j->aU Tryz.prog (Instr.next (.P it 0) true 0) j λV H=>(V=.tuple #[.bool false]/\R (.bool true) H)\/(∃(C T:Value),V=.tuple #[.bool true,C,T]/\∃t11,T=.int .i32 t11/\aI (λ(t34:Bool) (x:ak)=>if t34 then R (.bool false) x else(I x/\M x<M j)) (λJ=>if(decide (t11<97))then if(decide (t11<48))then if(t11 !=45)then J (t11 !=47) H else J false H else if(decide (t11>57))then if(t11 !=45)then J (t11 !=47) H else J false H else J false H else if(decide (t11>122))then if(decide (t11<48))then if(t11 !=45)then J (t11 !=47) H else J false H else if(decide (t11>57))then if(t11 !=45)then J (t11 !=47) H else J false H else J false H else J false H))):Cl 142 #[.string s,.int .i32 47] h R:=aR (lq (sq (lq (bq (.loop [] (lq (sq (cq lf lf) (bq (sq (.typed [(11,.one (.int .i32))]) (sq (.join [(34,.one (.bool))] lf) (cq ll lf))))))))) ll)) Tryz.func142 B
theorem KF.walk(A:aT h (.cells #[.bool X,.U m,.U n,.string o,.string p] 29) λb H=>ax.LD H (AA b 0) λO P Q S U=> ∃(eq:Bool),yD Tryz.prog 29 (.agg #[.bool O,.U P,.U Q,.string S,.string U]) (.agg #[.bool false,.U 0,.U 0,.string hC,.string hC]) eq/\if eq then R (.bool true) H else∃t9,Cc H b 0 (.bool t9)/\if t9 then ax.LD H (AA b 0) λT B C D E=>Hu H b 1 λt12=>Hu H b 2 λt14=> ∃(eq_1:Bool),yD Tryz.prog 29 (.agg #[.bool T,.U B,.U C,.string D,.string E]) (.agg #[.bool true,.U t12,.U t14,.string hC,.string hC]) eq_1/\if eq_1 then∃t19,Cc H b 1 (.U t19)/\if(decide (t19≥1))then∃t24,Cc H b 1 (.U t24)/\if(decide (t24<=4294967295))then∃t29,Cc H b 2 (.U t29)/\R (.bool (decide (t29<=4294967295))) H else R (.bool false) H else R (.bool false) H else R (.bool false) H else ax.LD H (AA b 0) λI J L M N=>Hs H b 3 λt34=>Hs H b 4 λt36=> ∃(eq_2:Bool),yD Tryz.prog 29 (.agg #[.bool I,.U J,.U L,.string M,.string N]) (.agg #[.bool false,.U 0,.U 0,.string t34,.string t36]) eq_2/\if eq_2 then∃t41,Cc H b 3 (.string t41)/\if(decide (((t41.size:Nat):Int)≥1))then∃t47,Cc H b 3 (.string t47)/\if(decide (((t47.size:Nat):Int)<=16))then∃t53,Cc H b 4 (.string t53)/\if(decide (((t53.size:Nat):Int)<=24))then Hs H b 3 λt59=>Cl 142 #[.string t59,.int .i32 45] H λv j=> ∃t60,v=.bool t60/\if t60 then Hs j b 4 λt64=>Cl 142 #[.string t64,.int .i32 47] j λV x=> ∃t65,V=.bool t65/\R (.bool t65) x else R (.bool false) j else R (.bool false) H else R (.bool false) H else R (.bool false) H else R (.bool false) H):Cl 86 #[.agg #[.bool X,.U m,.U n,.string o,.string p]] h R:=aR (lq (sq (bq (lq (cq ll (lq (cq ll lf))))) ll)) Tryz.func86 A
theorem KG.walk(j:aT h (.cells #[.bool X,.U m,.U n,.string o,.string p] 29) λb H=>ax.LD H (AA b 0) λT v x A B=> ∃(eq:Bool),yD Tryz.prog 29 (.agg #[.bool T,.U v,.U x,.string A,.string B]) (.agg #[.bool false,.U 0,.U 0,.string hC,.string hC]) eq/\if eq then R (.I 0) H else∃t9,Cc H b 0 (.bool t9)/\if t9 then R (.I 1) H else R (.I 2) H):Cl 184 #[.agg #[.bool X,.U m,.U n,.string o,.string p]] h R:=aR (lq (sq (bq (lq (cq ll (lq (cq ll lf))))) ll)) Tryz.func184 j
theorem MU.walk{A:Bool}{x:Int}{C:Int}{D:ByteArray}{E:ByteArray}{I:Bool}{B:Int}{J:Int}{L:ByteArray}{M:ByteArray}(hv:aT h (.cells #[.bool A,.U x,.U C,.string D,.string E] 29) λb b'=>aT b' (.cells #[.bool I,.U B,.U J,.string L,.string M] 29) λB j=>ax.LD j (AA b 0) λi' j' k' l' m'=>ax.LD j (AA B 0) λV W Y Z a'=>Cl 184 #[.agg #[.bool i',.U j',.U k',.string l',.string m']] j λv N=>Vi v λt7=>dM (AA B 0) [.bool V,.U W,.U Y,.string Z,.string a'] 0 N/\Cl 184 #[.agg #[.bool V,.U W,.U Y,.string Z,.string a']] N λn' H=> ∃t9,n'=.I t9/\if(t7 !=t9)then ax.LD H (AA b 0) λd' e' f' g' h'=>ax.LD H (AA B 0) λT P Q S U=>Cl 184 #[.agg #[.bool d',.U e',.U f',.string g',.string h']] H λo' O=>Vi o' λt12=>dM (AA B 0) [.bool T,.U P,.U Q,.string S,.string U] 0 O/\Cl 184 #[.agg #[.bool T,.U P,.U Q,.string S,.string U]] O λp' c'=> ∃t14,p'=.I t14/\R (.bool (decide (t12<t14))) c' else Hu H b 1 λt18=> ∃t20,Cc H B 1 (.U t20)/\if(t18 !=t20)then Hu H b 1 λt23=> ∃t25,Cc H B 1 (.U t25)/\R (.bool (decide (t23<t25))) H else Hu H b 2 λt29=> ∃t31,Cc H B 2 (.U t31)/\if(t29 !=t31)then Hu H b 2 λt34=> ∃t36,Cc H B 2 (.U t36)/\R (.bool (decide (t34<t36))) H else Hs H b 3 λt40=> ∃t42,Cc H B 3 (.string t42)/\if(!(t40.toList==t42.toList))then Hs H b 3 λt45=> ∃t47,Cc H B 3 (.string t47)/\R (.bool (Op.bytesLess t45.toList t47.toList)) H else Hs H b 4 λt50=> ∃t52,Cc H B 4 (.string t52)/\R (.bool (Op.bytesLess t50.toList t52.toList)) H):Cl 133 #[.agg #[.bool A,.U x,.U C,.string D,.string E],.agg #[.bool I,.U B,.U J,.string L,.string M]] h R:=aR (lq (sq (bq (sq (.gT (.op 0 (.op 2 (.op 1 (.op 3 (.op 4 (.op 5 .done))))))) (cq (sq (.gT (.op 0 (.op 2 (.op 1 (.op 3 (.op 4 (.op 5 .done))))))) lf) (lq (cq ll (lq (cq ll (lq (cq ll lf))))))))) ll)) Tryz.func133 hv

end
section
namespace iY
theorem MV{a b:ByteArray}:(a==b)=true↔a=b:=by
 obtain⟨a⟩:=a;obtain⟨b⟩:=b;constructor
 .intro h;have h:(a==b)=true:=h;rw[eq_of_beq h]
 .intro h;cases h;show(a==a)=true;simp
structure Ev where
 jT:Bool
 node:Int
 gr:Int
 host:ByteArray
 jv:ByteArray
theorem Ev.ext'{x y:Ev}(H:x.jT=y.jT)(a:x.node=y.node)(b:x.gr=y.gr)(c:x.host=y.host)(d:x.jv=y.jv):x=y:=by
 cases x;cases y;simp at H a b c d;simp[H,a,b,c,d]
def S0(x y:Ev):Bool:=x.jT==y.jT && (x.node==y.node && (x.gr==y.gr && (x.host==y.host && (x.jv==y.jv && true))))
theorem Dg{x y:Ev}:S0 x y=true↔x=y:=by
 unfold S0;simp only[aS,dp,MV,and_true];constructor
 .rintro⟨H,a,b,c,d⟩;exact Ev.ext' H a b c d
 .rintro rfl;simp
instance : DecidableEq Ev := λx y => decidable_of_iff (S0 x y = true) Dg
theorem Po(x y:Ev):S0 x y=decide (x=y):=by
 by_cases h:x=y
 .rw[aw h];exact Dg.2 h
 .rw[aD h];cases H:S0 x y
  .rfl
  .exact absurd (Dg.1 H) h
def kO(x:Ev):Value:=.agg #[.bool x.jT,.int .u64 x.node,.int .u64 x.gr,.string x.host,.string x.jv]
def Ev.zero:Ev:=⟨false,0,0,⟨#[]⟩,⟨#[]⟩⟩
theorem eqv(x y:Ev):yD Tryz.prog 29 (kO x) (kO y) (decide (x=y)):=by
 rw[<-Po];exact yD.of (by unfold S0;kernel_rfl)
theorem u0{x y:Ev}{a b:Value}(H:a=kO x)(c:b=kO y):yD Tryz.prog 29 a b (decide (x=y)):=by subst H c;exact eqv x y
theorem Tn(e:Bool)(a:Ev)(h:ak):rd Tryz.prog (Instr.checkKey e 10000 29 (kO a)) h=some ():=cZ
theorem under:(Tryz.prog.underlying 29).isSome=true:=cZ
theorem key:B4 Tryz.prog 29 kO:=⟨eqv,Tn,by
 obtain⟨d,h⟩:=fw.1 under;exact⟨d,h,λa b=> .inl (by unfold kO;cases d<;>rfl)⟩,λa=>by unfold kO;simp[Instr.sameBits,MV.2]⟩
def pl(more c:UInt8):Bool:=(decide (97<=c) && decide (c<=122))||(decide (48<=c) && decide (c<=57))||c==45||c==more
def mN(more:UInt8)(s:ByteArray):Bool:=s.data.toList.all (pl more)
def cV(x:Ev):Bool:=
 if x=.zero then true
 else if x.jT=true then decide (x.host=⟨#[]⟩/\x.jv=⟨#[]⟩/\1<=x.node/\x.node<=4294967295/\x.gr<=4294967295)
 else decide (x.node=0/\x.gr=0/\1<=x.host.size/\x.host.size<=16/\x.jv.size<=24) && (mN 45 x.host && mN 47 x.jv)
def iU(x:Ev):Int:=if x=.zero then 0 else if x.jT=true then 1 else 2
def bl(a b:ByteArray):Bool:=Op.bytesLess a.toList b.toList
def kI(x y:Ev):Bool:=
 if iU x≠iU y then decide (iU x<iU y)
 else if x.node≠y.node then decide (x.node<y.node)
 else if x.gr≠y.gr then decide (x.gr<y.gr)
 else if x.host≠y.host then bl x.host y.host
 else bl x.jv y.jv
theorem bytes_irrefl: ∀a:cM,Op.bytesLess a a=false
 | []=>rfl
 |a::x=>by unfold Op.bytesLess;simp[bytes_irrefl x]
theorem bytes_trans: ∀{a b c:cM},Op.bytesLess a b=true->Op.bytesLess b c=true->Op.bytesLess a c=true
 |_, [],_,h,_=>by unfold Op.bytesLess at h;cases h
 |_,_::_, [],_,h=>by unfold Op.bytesLess at h;cases h
 | [],b::y,c::z,_,_=>rfl
 |a::x,b::y,c::z,d,H=>by
  unfold Op.bytesLess at d H⊢;simp only[Bool.or_eq_true,aZ,aS,dp]at d H⊢;rcases d with d|⟨rfl,d⟩
  .rcases H with H|⟨rfl,H⟩
   .exact .inl (UInt8.lt_trans d H)
   .exact .inl d
  .rcases H with H|⟨rfl,H⟩
   .exact .inl H
   .exact .inr ⟨rfl,bytes_trans d H⟩
theorem bytes_total: ∀{a b:cM},a≠b->Op.bytesLess a b=true\/Op.bytesLess b a=true
 | [], [],h=>absurd rfl h
 | [],_::_,_=> .inl rfl
 |_::_, [],_=> .inr rfl
 |a::x,b::y,h=>by
  unfold Op.bytesLess;simp only[Bool.or_eq_true,aZ,aS,dp];by_cases e:a=b
  .subst e;rcases bytes_total (a:=x) (b:=y) (λe=>h (by rw[e]))with h1|h1
   .exact .inl (.inr ⟨rfl,h1⟩)
   .exact .inr (.inr ⟨rfl,h1⟩)
  .rcases UInt8.lt_or_lt_of_ne e with h1|h1
   .exact .inl (.inl h1)
   .exact .inr (.inl h1)
theorem Rn{a b:ByteArray}(h:a≠b):bl a b=true\/bl b a=true:=by
 refine bytes_total λe=>h ?_
 rw[toList_data,toList_data]at e;cases a;cases b;simp only[ByteArray.mk.injEq];exact Array.ext' e
theorem zL{a b c:ByteArray}(H:bl a b=true)(d:bl b c=true):bl a c=true:=bytes_trans H d
theorem Co(a:ByteArray):bl a a=false:=bytes_irrefl _
theorem u9{x y:Ev}:kI x y=true↔iU x<iU y\/(iU x=iU y/\(x.node<y.node\/(x.node=y.node/\(x.gr<y.gr\/(x.gr=y.gr/\((x.host≠y.host/\bl x.host y.host=true)\/(x.host=y.host/\bl x.jv y.jv=true))))))):=by
 unfold kI;by_cases H:iU x=iU y
 .rw[af (cH H)];by_cases a:x.node=y.node
  .rw[af (cH a)];by_cases b:x.gr=y.gr
   .rw[af (cH b)];by_cases c:x.host=y.host
    .rw[af (cH c)];simp[H,a,b,c]
    .rw[ah c];simp[H,a,b,c]
   .rw[ah b];simp[H,a,b]
  .rw[ah a];simp[H,a]
 .rw[ah H];simp[H]
theorem nI(x:Ev):kI x x=false:=by
 cases h:kI x x
 .rfl
 .rw[u9]at h;rcases h with h|⟨_,h|⟨_,h|⟨_,⟨h,_⟩|⟨_,h⟩⟩⟩⟩
  .omega
  .omega
  .omega
  .exact absurd rfl h
  .rw[Co]at h;cases h
theorem tX{x y z:Ev}(a:kI x y=true)(H:kI y z=true):kI x z=true:=by
 rw[u9]at a H⊢;rcases a with a|⟨c1,a⟩
 .rcases H with H|⟨c,_⟩
  .exact .inl ae
  .exact .inl ae
 rcases H with H|⟨c,H⟩
 .exact .inl ae
 refine .inr ⟨ae,?_⟩;rcases a with a|⟨n1,a⟩
 .rcases H with H|⟨n2,_⟩<;>exact .inl ae
 rcases H with H|⟨n2,H⟩
 .exact .inl ae
 refine .inr ⟨ae,?_⟩;rcases a with a|⟨s1,a⟩
 .rcases H with H|⟨s,_⟩<;>exact .inl ae
 rcases H with H|⟨s,H⟩
 .exact .inl ae
 refine .inr ⟨ae,?_⟩;rcases a with⟨e1,a⟩|⟨e1,a⟩
 .rcases H with⟨e2,H⟩|⟨e2,H⟩
  .refine .inl ⟨λe=> ?_,zL a H⟩;have:=zL a (e▸H);rw[Co]at this;cases this
  .exact .inl (by rw[<-e2];exact⟨e1,a⟩)
 .rcases H with⟨e2,H⟩|⟨e2,H⟩
  .exact .inl (by rw[e1];exact⟨e2,H⟩)
  .exact .inr ⟨e1.trans e2,zL a H⟩
theorem zM{x y:Ev}(h:iU x=iU y)(a:x=.zero):y=.zero:=by
 unfold iU at h;rw[ah a]at h;by_cases H:y=.zero
 .exact H
 .rw[af H]at h;split at h<;>omega
theorem zN{x y:Ev}(h:x≠y):kI x y=true\/kI y x=true:=by
 rw[u9,u9];by_cases H:iU x=iU y
 .by_cases a:x.node=y.node
  .by_cases b:x.gr=y.gr
   .by_cases c:x.host=y.host
    .have f:x.jv≠y.jv:=λe=>by
      have i:x≠ .zero:=λE=>h (E.trans (zM H E).symm)
      have j:y≠ .zero:=λE=>h ((zM H.symm E).trans E.symm)
      unfold iU at H;rw[af i,af j]at H;have g:x.jT=y.jT:=by
       cases ex:x.jT<;>cases d:y.jT<;>simp[ex,d]at H⊢
      exact h (Ev.ext' g a b c e)
     rcases Rn f with h5|h5
     .exact .inl (.inr ⟨H,.inr ⟨a,.inr ⟨b,.inr ⟨c,h5⟩⟩⟩⟩)
     .exact .inr (.inr ⟨H.symm,.inr ⟨a.symm,.inr ⟨b.symm,.inr ⟨c.symm,h5⟩⟩⟩⟩)
    .rcases Rn c with h5|h5
     .exact .inl (.inr ⟨H,.inr ⟨a,.inr ⟨b,.inl ⟨c,h5⟩⟩⟩⟩)
     .exact .inr (.inr ⟨H.symm,.inr ⟨a.symm,.inr ⟨b.symm,.inl ⟨fv c,h5⟩⟩⟩⟩)
   .rcases Int.lt_or_gt_of_ne b with h5|h5
    .exact .inl (.inr ⟨H,.inr ⟨a,.inl h5⟩⟩)
    .exact .inr (.inr ⟨H.symm,.inr ⟨a.symm,.inl h5⟩⟩)
  .rcases Int.lt_or_gt_of_ne a with h5|h5
   .exact .inl (.inr ⟨H,.inl h5⟩)
   .exact .inr (.inr ⟨H.symm,.inl h5⟩)
 .rcases Int.lt_or_gt_of_ne H with h5|h5
  .exact .inl (.inl h5)
  .exact .inr (.inl h5)
variable {h : ak} {R : Value → ak → Prop}
theorem get_at{s:ByteArray}{i:Nat}(H:i<s.size):s.get! i=s.data.toList.getD i 0:=by
 have:i<s.data.size:=H;show s.data[i]! =_;have e:s.data.toList[i]? =some s.data[i]:=by rw[dH];exact Array.getElem?_eq_getElem this
 rw[getElem!_pos s.data i this,bh,e];rfl
theorem decode_at(s:ByteArray)(i:Nat)(a:i<s.size):(s.data.toList.getD i 0<128->Utf8.decode s i=((s.data.toList.getD i 0).toNat,1))/\(¬s.data.toList.getD i 0<128->128<=(Utf8.decode s i).1):=by
 have e:=get_at a;have E:(s.get! (i+0)).toNat=(s.data.toList.getD i 0).toNat:=by rw[Nat.add_zero,e]
 constructor
 .intro h;have h:(s.data.toList.getD i 0).toNat<128:=h;unfold Utf8.decode;simp only[E];rw[ah h]
 .intro h;have h: ¬(s.data.toList.getD i 0).toNat<128:=h;unfold Utf8.decode;simp only[E];rw[af h];split
  .split
   .omega
   .show 128<=Utf8.runeError;decide
  .split
   .split
    .rename_i H;simp only[aS,aZ]at H;show 128<=_;omega
    .show 128<=Utf8.runeError;decide
   .split
    .split
     .rename_i H;simp only[aS,aZ]at H;show 128<=_;omega
     .show 128<=Utf8.runeError;decide
    .show 128<=Utf8.runeError;decide
def np(more:Int)(c:Int):Bool:=(decide (c<97)||decide (c>122)) && ((decide (c<48)||decide (c>57)) && ((c !=45) && (c !=more)))
theorem MW{more c:Int}(e:more<128)(h:128<=c):np more c=true:=by
 unfold np;have H:c>122:=ae
 have a:c>57:=ae
 have b:c≠45:=ae
 have d:c≠more:=ae
 simp[H,a,b,d]
theorem MX(more:UInt8)(b:UInt8):np (more.toNat:Int) (b.toNat:Int)= !pl more b:=by
 have e1:(b=45)↔((b.toNat:Int)=45):=by
  constructor
  .rintro rfl;rfl
  .intro e;exact UInt8.toNat_inj.1 (by show b.toNat=45;omega)
 have e2:(b=more)↔((b.toNat:Int)=(more.toNat:Int)):=by
  constructor
  .rintro rfl;rfl
  .intro e;exact UInt8.toNat_inj.1 ae
 have E:(97<=b)↔ ¬((b.toNat:Int)<97):=by rw[UInt8.le_iff_toNat_le];show 97<=b.toNat↔_;omega
 have a:(b<=122)↔ ¬((b.toNat:Int)>122):=by rw[UInt8.le_iff_toNat_le];show b.toNat<=122↔_;omega
 have c:(48<=b)↔ ¬((b.toNat:Int)<48):=by rw[UInt8.le_iff_toNat_le];show 48<=b.toNat↔_;omega
 have d:(b<=57)↔ ¬((b.toNat:Int)>57):=by rw[UInt8.le_iff_toNat_le];show b.toNat<=57↔_;omega
 unfold np pl;have f:(b==45)=decide ((b.toNat:Int)=45):=by by_cases q:b=45<;>simp[q,e1.symm]
 have g:(b==more)=decide ((b.toNat:Int)=(more.toNat:Int)):=by
  by_cases q:b=more
  .simp[q]
  .have: ¬((b.toNat:Int)=(more.toNat:Int)):=λe=>q (e2.2 e)
   rw[aD this];simp[q]
 rw[f,g];simp only[E,a,c,d];by_cases q1:(b.toNat:Int)<97<;>by_cases q2:(b.toNat:Int)>122<;>by_cases q3:(b.toNat:Int)<48<;>by_cases q4:(b.toNat:Int)>57<;>by_cases Q:(b.toNat:Int)=45<;>by_cases q6:(b.toNat:Int)=(more.toNat:Int)<;>simp[q1,q2,q3,q4,Q,q6]
end iY
end
end Go.Proofs.YtlenamcfacpheaaGreatDoor
namespace Go.Proofs
open Go.Den
open IntKind (wrap)
open Int (toNat)
section
open Go.Shelf
def Tryz.EV:Go.Shelf.Ren:=⟨fun|145=>313|220=>322|219=>326|217=>328|225=>329|224=>330|267=>331|266=>332|314=>333|n=>n,fun|9=>9|4=>4|59=>409|3=>3|5=>5|46=>211|146=>427|51=>315|n=>n,fun|1=>5|n=>n⟩
theorem Tryz.Pp : Go.Proofs.Lays.n145 Tryz.prog Tryz.EV := {
  mixed := by kernel_rfl
  f145 := Tryz.func313.trans (congrArg some (by kernel_rfl))
  f217 := Tryz.func328.trans (congrArg some (by kernel_rfl))
  f219 := Tryz.func326.trans (congrArg some (by kernel_rfl))
  f220 := Tryz.func322.trans (congrArg some (by kernel_rfl))
  f224 := Tryz.func330.trans (congrArg some (by kernel_rfl))
  f225 := Tryz.func329.trans (congrArg some (by kernel_rfl))
  f266 := Tryz.func332.trans (congrArg some (by kernel_rfl))
  f267 := Tryz.func331.trans (congrArg some (by kernel_rfl))
  f314 := Tryz.func333.trans (congrArg some (by kernel_rfl))
  t3 := Tryz.underlying3
  a3 := Tryz.isAgg3
  z3 := Tryz.sizeOf3
  v3 := Tryz.zeroValue3
  t4 := Tryz.underlying4
  a4 := Tryz.isAgg4
  z4 := Tryz.sizeOf4
  v4 := Tryz.zeroValue4
  t5 := Tryz.underlying5
  a5 := Tryz.isAgg5
  z5 := Tryz.sizeOf5
  v5 := Tryz.zeroValue5
  t9 := Tryz.underlying9
  a9 := Tryz.isAgg9
  z9 := Tryz.sizeOf9
  v9 := Tryz.zeroValue9
  t46 := Tryz.underlying211
  a46 := Tryz.isAgg211
  z46 := Tryz.sizeOf211
  v46 := Tryz.zeroValue211
  t51 := Tryz.underlying315
  a51 := Tryz.isAgg315
  z51 := Tryz.sizeOf315
  v51 := Tryz.zeroValue315
  t59 := Tryz.underlying409
  a59 := Tryz.isAgg409
  z59 := Tryz.sizeOf409
  v59 := Tryz.zeroValue409
  t146 := Tryz.underlying427
  a146 := Tryz.isAgg427
  z146 := Tryz.sizeOf427
  v146 := Tryz.zeroValue427
  g1 := by kernel_rfl }
def Tryz.EW:Go.Shelf.Ren:=⟨fun|103=>312|210=>321|206=>325|n=>n,fun|9=>9|4=>4|24=>407|3=>3|n=>n,fun|n=>n⟩
theorem Tryz.Pq : Go.Proofs.Lays.n103 Tryz.prog Tryz.EW := {
  mixed := by kernel_rfl
  f103 := Tryz.func312.trans (congrArg some (by kernel_rfl))
  f206 := Tryz.func325.trans (congrArg some (by kernel_rfl))
  f210 := Tryz.func321.trans (congrArg some (by kernel_rfl))
  t3 := Tryz.underlying3
  a3 := Tryz.isAgg3
  z3 := Tryz.sizeOf3
  v3 := Tryz.zeroValue3
  t4 := Tryz.underlying4
  a4 := Tryz.isAgg4
  z4 := Tryz.sizeOf4
  v4 := Tryz.zeroValue4
  t9 := Tryz.underlying9
  a9 := Tryz.isAgg9
  z9 := Tryz.sizeOf9
  v9 := Tryz.zeroValue9
  t24 := Tryz.underlying407
  a24 := Tryz.isAgg407
  z24 := Tryz.sizeOf407
  v24 := Tryz.zeroValue407 }

end
end Go.Proofs
namespace Go.Proofs.YtlenamcfacpheaaGreatDoor
open Go.Den
open IntKind (wrap)
open Int (toNat)
section
namespace mO
variable {h h':ak} {R:fG}
variable {s:ByteArray}
def Mx(h:ak):Prop:= ∃m,aX h ⟨5,0,none⟩=some (.int .i64 m)
theorem Mx.on(M:Mx h)(f:Fr No h h'):Mx h':=by
 obtain⟨m,H⟩:=M;exact⟨m,f.cell H id⟩
theorem Dh{S:ByteArray}(M:Mx h)(c:s.size<4294967281)(hk:R (.tuple #[.string ⟨(Lib.cut s.data.toList S.data.toList).1.toArray⟩,.string ⟨(Lib.cut s.data.toList S.data.toList).2.1.toArray⟩,.bool (Lib.cut s.data.toList S.data.toList).2.2]) h):Cl 313 #[.string s,.string S] h R:=λw d=>by
 subst d;obtain⟨m,b⟩:=M;refine(Any.strings_Cut Tryz.Pp s S m w c (by rw[ky];exact b)).mono λe w' ⟨a,n,H⟩=>⟨_,a,?_,?_⟩
 .rw[H];exact hk
 .rw[H];exact⟨rfl,rfl,rfl⟩
theorem KH{p:ByteArray}(hk:R (.tuple #[.string ⟨(Lib.trimPrefix s.data.toList p.data.toList).toArray⟩,.bool (Lib.hasPrefix s.data.toList p.data.toList)]) h):Cl 312 #[.string s,.string p] h R:=λw b=>
 (Any.strings_CutPrefix Tryz.Pq s p w).mono λe w' ⟨a,H⟩=>⟨_,a,by rw[H,b];exact hk,by rw[H];exact fM.refl _⟩

end mO
end
section
namespace Bn
open Cb
open iY (Ev cV)
def pH(s q:Nat):Nat:=if s%2=1 then(s/2) ^^^ q else s/2
def qR(q:Nat):Nat->Nat->Nat
 |0,s=>s
 |k+1,s=>qR q k (pH s q)
def Ro(s c q:Nat):Nat:=qR q 8 (s ^^^ c)
def runN(s:Nat)(b:cM)(q:Nat):Nat:=b.foldl (λs c=>Ro s c.toNat q) s
def zO(b:cM):Nat:=65535 ^^^ (runN 65535 b 33800%65536)
def xK(b:cM):Nat:=4294967295 ^^^ runN 4294967295 b 2197175160
def Di(b:cM):cM:= [UInt8.ofNat (zO b/256),UInt8.ofNat (zO b)]
def Je(b:cM):cM:= [UInt8.ofNat (xK b/16777216),UInt8.ofNat (xK b/65536),UInt8.ofNat (xK b/256),UInt8.ofNat (xK b)]
def EY(x:Ev):cM:= [47,47]++x.host.data.toList++ [47]++x.jv.data.toList
def Bo(x:Ev):Tr:=if x=.zero then si [num 1,num 0]else if x.jT=true then si [num 2,si [num x.node.toNat,num x.gr.toNat]]else si [num 1,.mk 3 0 (EY x) []]
def xL(s:cM):Ev:=⟨false,0,0,⟨(Lib.cut (Lib.trimPrefix s [47,47]) [47]).1.toArray⟩,⟨(Lib.cut (Lib.trimPrefix s [47,47]) [47]).2.1.toArray⟩⟩
def vc(s:cM):Bool:=Lib.hasPrefix s [47,47] && (Lib.cut (Lib.trimPrefix s [47,47]) [47]).2.2 && !(Lib.cut (Lib.trimPrefix s [47,47]) [47]).1.isEmpty && cV (xL s)
def at_(l:List Tr)(i:Nat):Tr:=l.getD i Ja
def zP(l:List Tr):Bool:=l.all λt=>ot t (num t.n)
def MY(t:Tr):Ev:=⟨true,((at_ t.l 0).n:Int),((at_ t.l 1).n:Int),⟨#[]⟩,⟨#[]⟩⟩
def oG(V:cM->Bool)(t:Tr):Option Ev:=
 if hH V t=true/\t.k=4/\t.l.length=2 then
  if ot (at_ t.l 0) (num 1)=true/\ot (at_ t.l 1) (num 0)=true then some .zero
  else if ot (at_ t.l 0) (num 1)=true/\(at_ t.l 1).k=3 then(if vc (at_ t.l 1).b=true then some (xL (at_ t.l 1).b)else none)
  else if ot (at_ t.l 0) (num 2)=true then(if(at_ t.l 1).k=4/\(at_ t.l 1).l.length=2/\zP (at_ t.l 1).l=true/\cV (MY (at_ t.l 1))=true then some (MY (at_ t.l 1))else none)
  else none
 else none
structure jh where
 e:Ev
 tm:Nat
 sq:Nat
deriving DecidableEq
def jh.zero:jh:=⟨.zero,0,0⟩
def hI(x:jh):Bool:=cV x.e && decide (x.tm<=1099511627776) && decide (x.sq<=1099511627776)
def MZ(x:jh):Tr:=si [Bo x.e,si [num x.tm,num x.sq]]
def kX(V:cM->Bool)(t:Tr):Option jh:=
 if t.k=4/\t.l.length=2/\(at_ t.l 1).k=4/\(at_ t.l 1).l.length=2 then
  match oG V (at_ t.l 0)with
  |none=>none
  |some e=>if hI ⟨e,(at_ (at_ t.l 1).l 0).n,(at_ (at_ t.l 1).l 1).n⟩=true/\ot (MZ ⟨e,(at_ (at_ t.l 1).l 0).n,(at_ (at_ t.l 1).l 1).n⟩) t=true then some ⟨e,(at_ (at_ t.l 1).l 0).n,(at_ (at_ t.l 1).l 1).n⟩else none
 else none
def typeAt(l:List Tr)(i:Nat):Int:=if i<l.length/\(at_ l i).n<=2/\ot (at_ l i) (num (at_ l i).n)=true then((at_ l i).n:Int)else -1
def sumOf(V:cM->Bool)(l:List Tr)(sum:Nat):Except Int (cM):=
 if hH V (si (l++ [qb (List.replicate (2*sum) 0)]))=true then .ok (if sum=1 then Di (enc (si (l++ [qb (List.replicate (2*sum) 0)])))else Je (enc (si (l++ [qb (List.replicate (2*sum) 0)]))))else .error 3
def nJ(V:cM->Bool)(l:List Tr)(i:Nat):Except Int Tr:=
 if i<l.length then
  if l.all (hH V)=true/\0<=typeAt l i then
   if 0<typeAt l i then(match sumOf V l (typeAt l i).toNat with
    | .error e=> .error e
    | .ok b=>if hH V (si (l++ [qb b]))=true then .ok (si (l++ [qb b]))else .error 3)
   else if hH V (si l)=true then .ok (si l)else .error 3
  else .error 3
 else .error 1
def pS(V:cM->Bool)(t:Tr)(i:Nat):Except Int (List Tr):=
 if hH V t=true/\t.k=4/\0<=typeAt t.l i then
  if typeAt t.l i=0 then .ok t.l
  else if i<t.l.length - 1/\ot (at_ t.l (t.l.length - 1)) (qb (at_ t.l (t.l.length - 1)).b)=true/\(at_ t.l (t.l.length - 1)).b.length=2*(typeAt t.l i).toNat then
   (match sumOf V (t.l.take (t.l.length - 1)) (typeAt t.l i).toNat with
   | .error e=> .error e
   | .ok b=>if b=(at_ t.l (t.l.length - 1)).b then .ok (t.l.take (t.l.length - 1))else .error 10)
  else .error 3
 else .error 3
structure Prim where
 fl:Nat
 sum:Int
 dest:Ev
 rep:Ev
 id:jh
 fj:Nat
deriving DecidableEq
def Prim.zero:Prim:=⟨0,0,.zero,.zero,.zero,0⟩
def Ta(n all:Int):Bool:=IntKind.wrap .u64 ((BitVec.ofInt (IntKind.bits .u64) n &&& ~~~ BitVec.ofInt (IntKind.bits .u64) all).toNat:Int)==0
def jM(p:Prim):Bool:=Ta (p.fl:Int) 409638 && decide (0<=p.sum) && decide (p.sum<=2) && cV p.dest && cV p.rep && hI p.id && decide (p.fj<=1099511627776)
def EZ(p:Prim):List Tr:= [num 7,num p.fl,num p.sum.toNat,Bo p.dest,Bo p.id.e,Bo p.rep,si [num p.id.tm,num p.id.sq],num p.fj]
def nK(V:cM->Bool)(p:Prim):Except Int Tr:=if jM p=true then nJ V (EZ p) 2 else .error 3
def wu(l:List Tr)(d r:Ev)(i:jh):Prim:=⟨(at_ l 1).n,((at_ l 2).n:Int),d,r,i,(at_ l 7).n⟩
def xM(V:cM->Bool)(t:Tr):Except Int Prim:=
 match pS V t 2 with
 | .error e=> .error e
 | .ok l=>if l.length=8 then(match oG V (at_ l 3),oG V (at_ l 5),kX V (si [at_ l 4,at_ l 6])with
  |some d,some r,some i=>(match nK V (wu l d r i)with
   | .ok a=>if ot a t=true then .ok (wu l d r i)else .error 3
   | .error _=> .error 3)
  |_,_,_=> .error 3)else .error 3
structure qj where
 ty:Nat
 nr:Nat
 fl:Nat
 sum:Int
 data:cM
deriving DecidableEq
def E0(l:List Nat):Tr:=si (l.map num)
def jN(V:cM->Bool)(bs:cM):Bool:=match pR V bs with| .ok (t,n)=>decide (n=bs.length) && decide (enc t=bs)| .error _=>false
def eZ(V:cM->Bool)(bs:cM):Tr:=match pR V bs with| .ok (t,_)=>t| .error _=>Ja
def R9(V:cM->Bool)(d:cM):Bool:=jN V d && ot (eZ V d) (num (eZ V d).n) && decide ((eZ V d).n<=1099511627776)
def nZ(t:Tr):Nat:=(at_ t.l 0).n
def zQ(t:Tr):Nat:=(at_ t.l 1).n
def M0(V:cM->Bool)(d:cM):Bool:=jN V d && decide ((eZ V d).k=4/\(eZ V d).l.length=2) && ot (eZ V d) (E0 [nZ (eZ V d),zQ (eZ V d)]) && decide (1<=nZ (eZ V d)/\nZ (eZ V d)<=255/\zQ (eZ V d)<=nZ (eZ V d))
def xN(V:cM->Bool)(ty:Nat)(d:cM):Bool:=(if ty=6 then jN V d && (oG V (eZ V d)).isSome else if ty=7 then R9 V d else if ty=10 then M0 V d else true) && decide (d.length<=200)
def mb(n:Nat):Bool:=decide (1<=n/\n<=255)
def jE(V:cM->Bool)(b:qj):Bool:=mb b.ty && mb b.nr && Ta (b.fl:Int) 23 && decide (0<=b.sum) && decide (b.sum<=2) && xN V b.ty b.data
def KI(b:qj):List Tr:= [num b.ty,num b.nr,num b.fl,num b.sum.toNat,qb b.data]
def sk(V:cM->Bool)(b:qj):Except Int Tr:=if jE V b=true then nJ V (KI b) 3 else .error 3
def qS(l:List Tr):qj:=⟨(at_ l 0).n,(at_ l 1).n,(at_ l 2).n,((at_ l 3).n:Int),(at_ l 4).b⟩
def zR(V:cM->Bool)(t:Tr):Except Int qj:=
 match pS V t 3 with
 | .error e=> .error e
 | .ok l=>if l.length=5/\(at_ l 4).k=2 then(match sk V (qS l)with
  | .ok a=>if ot a t=true then .ok (qS l)else .error 3
  | .error _=> .error 3)else .error 3
structure oH where
 p:Prim
 bl:List qj
deriving DecidableEq
def alone(k:Nat):Bool:=decide (k=1\/k=6\/k=7\/k=10)
def apart(b c:qj):Bool:=decide (c.nr≠b.nr) && (decide (c.ty≠b.ty)|| !alone b.ty)
def Dj(V:cM->Bool):List qj->List qj->Bool
 |_, []=>true
 |pre,b::l=>jE V b && pre.all (apart b) && Dj V (pre++ [b]) l
def x7(V:cM->Bool)(l:List qj):Bool:=match l.getLast? with
 |none=>false
 |some z=>decide (l.length<=8) && decide (z.ty=1/\z.nr=1) && Dj V [] l
def zS(V:cM->Bool)(t:Tr):cM:=if hH V t=true then enc t else []
def E6(V:cM->Bool):List qj->cM->Option (cM)
 | [],out=>some out
 |b::l,out=>match sk V b with
  | .error _=>none
  | .ok t=>E6 V l (out++zS V t)
def qT(V:cM->Bool)(b:oH):Option (cM):=match nK V b.p with
 | .error _=>none
 | .ok t=>E6 V b.bl (zS V t)
def kJ(V:cM->Bool)(b:oH):Option (cM):=
 if x7 V b.bl=true then(match qT V b with
  |none=>none
  |some l=>if l.length<=598 then some (159::(l++ [255]))else none)
 else none
def E7(V:cM->Bool):List Tr->List qj->Except Int (List qj)
 | [],out=> .ok out
 |t::l,out=>match zR V t with
  | .error e=> .error e
  | .ok b=>E7 V l (out++ [b])
def oI(V:cM->Bool)(bs:cM):Except Int oH:=
 if bs.length<=1200 then(match pR V bs with
  | .error e=> .error e
  | .ok (t,n)=>if n=bs.length/\t.k=4/\2<=t.l.length/\t.l.length<=9 then(match xM V (at_ t.l 0)with
   | .error e=> .error e
   | .ok p=>(match E7 V (t.l.drop 1) []with
    | .error e=> .error e
    | .ok l=>if(kJ V ⟨p,l⟩).isSome=true then .ok ⟨p,l⟩else .error 3))else .error 3)
 else .error 2
def tY(b:oH):cM:=match b.bl.getLast? with|none=> []|some z=>z.data
structure yI where
 rc:Bool
 dl:Bool
 de:Bool
 reason:Nat
 at':Nat
 of:jh
deriving DecidableEq
def iL(r:yI):Bool:=(r.rc||r.dl||r.de) && decide (r.reason<=255) && decide (r.at'<=1099511627776) && hI r.of
def E9(l:List Bool):Tr:=si (l.map λb=>num (if b=true then 1 else 0))
def Dk(r:yI):Tr:=si [num 1,si [E9 [r.rc,r.dl,r.de],num r.reason,num r.at',MZ r.of]]
def KJ(V:cM->Bool)(r:yI):Option (cM):=if iL r=true/\hH V (Dk r)=true then some (enc (Dk r))else none
def kY(V:cM->Bool)(r:yI)(dest:Ev)(id:jh)(fj:Nat):Option oH:=match KJ V r with
 |none=>none
 |some b=>if(kJ V ⟨⟨2,0,dest,.zero,id,fj⟩, [⟨1,1,0,0,b⟩]⟩).isSome=true then some ⟨⟨2,0,dest,.zero,id,fj⟩, [⟨1,1,0,0,b⟩]⟩else none

end Bn
end
section
namespace Ask
open iY (Ev cV)
structure Rq where
 id:Nat
 kind:Int
 ep:Ev
 dest:Ev
 jS:Int
 num:Int
 iV:Int
 oa:cM
 fj:Nat
 token:Nat
 on:Bool
deriving DecidableEq
def ji(x:Rq):Rq:=⟨x.id,x.kind,.zero,.zero,0,0,0, [],0,0,false⟩
def sr(x:Rq):Rq:=
 if x.kind=1\/x.kind=3 then { ji x with ep:=x.ep,jS:=x.jS }
 else if x.kind=2\/x.kind=6 then { ji x with ep:=x.ep }
 else if x.kind=4 then { ji x with ep:=x.ep,dest:=x.dest,oa:=x.oa,fj:=x.fj,on:=x.on }
 else if x.kind=5\/x.kind=8\/x.kind=9 then { ji x with num:=x.num }
 else if x.kind=7 then { ji x with ep:=x.ep,iV:=x.iV }
 else if x.kind=10 then { ji x with on:=x.on }
 else if x.kind=12 then { ji x with token:=x.token }
 else ji x
def mc(e:Ev):Bool:=cV e && !decide (e=.zero)
def lX(x:Rq):Bool:=
 if x.kind=1\/x.kind=3 then mc x.ep && decide (x.jS≥0) && decide (x.jS<=2)
 else if x.kind=2\/x.kind=6 then mc x.ep
 else if x.kind=4 then mc x.ep && mc x.dest && decide (x.oa.length<=200) && decide (x.fj≥1) && decide (x.fj<=1099511627776)
 else if x.kind=5\/x.kind=8\/x.kind=9 then decide (x.num≥1) && decide (x.num<=1099511627776)
 else if x.kind=7 then mc x.ep && decide (x.iV≥1) && decide (x.iV<=1000)
 else if x.kind=12 then decide (x.token≥1) && decide (x.token<=2147483648)
 else decide (x.kind=10\/x.kind=11)
def iW(x:Rq):Bool:=decide (x.id≥1) && decide (x.id<=1099511627776) && lX x && decide (x=sr x)

end Ask
end
section
variable {h:ak} {R:fG}
variable {w B c r:Nat} {n:Int} {d:bZ}
theorem ob.walk{s:bZ}{a S:Nat}(g:if s.isNone then R (.Z) h else aT h (.cells #[] 5) λb H=>aU Tryz.prog (Builtin.append_ #[22,22] 22 #[.slice (Sa b 0) 0 0,.slice s a S]) H λv f=> ∃e T t,v=.slice e T t/\R (.slice e T t) f):Cl 50 #[.slice s a S] h R:=aR (lq (sq (lq (cq ll lf)) ll)) Tryz.func50 g
theorem Hd.walk(a:aT h (.cells #[.bool true,.Z] 209) λb H=>R (.P b 0) H):Cl 65 #[] h R:=aR (lq ll) Tryz.func65 a
theorem vd.walk (u:aI (λ(t13:Bool) (a:ak)=>if t13 then R (.P w 0) a else∃(I:Int->ak->Prop)(m:Int->ak->Nat),I n a/\∀(N:Int)(H:ak),I N H->if(decide (N>127))then Hl H w 1 λz y x=>aT H (.cells #[.int .u8 (wrap .u8 ((qi (wrap .u8 N)|||qi 128).toNat:Int))] 5) λb l=>aU Tryz.prog (Builtin.append_ #[22,22] 22 #[.slice z y x,.slice (Sa b 0) 1 1]) l λv o=> ∃f T t,v=.slice f T t/\aQ o (AA w 1) (.slice f T t) λe=>(I (Int.fdiv N (2 ^ min (toNat 7) (IntKind.bits .u64))) e/\m (Int.fdiv N (2 ^ min (toNat 7) (IntKind.bits .u64))) e<m N H)else Hl H w 1 λD C A=>aT H (.cells #[.int .u8 (wrap .u8 N)] 5) λk p=>aU Tryz.prog (Builtin.append_ #[22,22] 22 #[.slice D C A,.slice (Sa k 0) 1 1]) p λV q=> ∃j i g,V=.slice j i g/\aQ q (AA w 1) (.slice j i g) λs=>R (.P w 0) s) (λJ=> ∃t11,Cc h w 0 (.bool t11)/\J (!t11) h)):Cl 72 #[.P w 0,.U n] h R:=aR (lq (sq (sq (.join [(13,.one (.bool))] lf) (cq ll lf)) (sq (bq (.loop [(1,.one (.int .u64))] (sq (lq (cq lf lf)) (bq ll)))) (lq ll)))) Tryz.func72 u
theorem ve.walk(a:Cl 72 #[.P w 0,.U (wrap .u64 (if 0>n then 0 else n))] h λv H=> ∃t9,v=.pointer t9/\R (.pointer t9) H):Cl 66 #[.P w 0,.I n] h R:=aR (lq ll) Tryz.func66 a
theorem tZ.walk{is:Bool}(b:if is then Cl 72 #[.P w 0,.U 1] h λv H=> ∃t7,v=.pointer t7/\R (.pointer t7) H else Cl 72 #[.P w 0,.U 0] h λV a=> ∃t9,V=.pointer t9/\R (.pointer t9) a):Cl 137 #[.P w 0,.bool is] h R:=aR (lq (sq (lq (cq ll lf)) ll)) Tryz.func137 b
theorem ua.walk(i:Cl 72 #[.P w 0,.U (wrap .u64 (B:Int))] h λv a=>Vp v λt9=>aI (λ(t17:Bool) (H:ak)=>aI (λ(e:ak)=>R (.P w 0) e) (λj=>if t17 then Hl H w 1 λm l k=>aU Tryz.prog (Builtin.append_ #[22,22] 22 #[.slice m l k,.slice d B c]) H λV f=> ∃b T t,V=.slice b T t/\aQ f (AA w 1) (.slice b T t) λg=>j g else j H)) (λJ=> ∃t16,Cc a w 0 (.bool t16)/\J t16 a)):Cl 71 #[.P w 0,.slice d B c] h R:=aR (lq (lq (sq (sq (.join [(17,.one (.bool))] lf) (.join [] (cq lf lf))) ll))) Tryz.func71 i
theorem ss.walk(b:Hl h w 1 λg f e=>Cl 50 #[.slice g f e] h λv H=> ∃a T t,v=.slice a T t/\R (.slice a T t) H):Cl 67 #[.P w 0] h R:=aR (lq (sq (lq (cq ll lf)) ll)) Tryz.func67 b
theorem vf.walk{f:Nat}{e:Int}(a: ∃t7,Cc h f 0 (.I t7)/\if(t7==0)then aQ h (AA f 0) (.I e) λH=>R (.tuple #[]) H else R (.tuple #[]) h):Cl 144 #[.P f 0,.I e] h R:=aR (lq (cq lf lf)) Tryz.func144 a
theorem Fa.walk(e:Cl 50 #[.slice d B c] h λv H=>Vl v λf T t=>aT H (.cells #[.I 0,.bool true,.slice f T t] 221) λb a=>R (.P b 0) a):Cl 91 #[.slice d B c] h R:=aR (lq ll) Tryz.func91 e
theorem uc.walk(H: ∃t9,Cc h r 1 (.bool t9)/\if t9 then∃t16,Cc h r 0 (.I t16)/\R (.bool (t16==0)) h else R (.bool false) h):Cl 143 #[.P r 0] h R:=aR (lq ll) Tryz.func143 H
theorem vg.walk (p:aI (λ(k:ak)=>R (.U 0) k) (λJ=> ∃(I:Int->Int->ak->Prop)(m:Int->Int->ak->Nat),I 0 0 h/\∀(n:Int)(i:Int)(f:ak),I n i f->Cl 143 #[.P r 0] f λv H=> ∃t7,v=.bool t7/\if t7 then∃s t q,Cc H r 2 (.slice s t q)/\if(((t:Nat):Int)==0)then Cl 144 #[.P r 0,.I 8] H λV l=>V=.tuple #[]/\J l else Hl H r 2 λx u A=>Bd 0 u/\aO x λa=>I6 H (a.add (toNat 0*1)) λt25=>Hl H r 2 λy g T=>((0:Int)<=1/\1<=(g:Int))/\aQ H (AA r 2) (.slice (cR y T (toNat 1) 1) (g - (toNat 1)) (T - (toNat 1))) λb=>aI (λ(t52:Bool) (e:ak)=>if t52 then Cl 144 #[.P r 0,.I 3] e λz o=>z=.tuple #[]/\J o else if wrap .i64 (7*i)<0 then False else if((wrap .u8 ((qi t25 &&& qi 128).toNat:Int))==0)then R (.U (wrap .u64 ((nE n|||nE (wrap .u64 ((wrap .u64 (wrap .u8 ((qi t25 &&& qi 127).toNat:Int)))*2 ^ min (toNat (wrap .i64 (7*i))) (IntKind.bits .u64)))).toNat:Int))) e else(I (wrap .u64 ((nE n|||nE (wrap .u64 ((wrap .u64 (wrap .u8 ((qi t25 &&& qi 127).toNat:Int)))*2 ^ min (toNat (wrap .i64 (7*i))) (IntKind.bits .u64)))).toNat:Int)) (wrap .i64 (i+1)) e/\m (wrap .u64 ((nE n|||nE (wrap .u64 ((wrap .u64 (wrap .u8 ((qi t25 &&& qi 127).toNat:Int)))*2 ^ min (toNat (wrap .i64 (7*i))) (IntKind.bits .u64)))).toNat:Int)) (wrap .i64 (i+1)) e<m n i f)) (λj=>if(i==10)then j true b else if((wrap .i64 (i*7))==63)then if(decide (t25>1))then j true b else if(t25==0)then j (decide (i>0)) b else j false b else if(t25==0)then j (decide (i>0)) b else j false b)else J H)):Cl 92 #[.P r 0] h R:=aR (lq (lq (sq (lq (.join [] (bq (.loop [(3,.one (.int .u64)),(4,.one (.int .i64))] (sq (lq (cq lf lf)) (sq (bq (sq (lq (cq ll lf)) (lq (lq (sq (sq (.join [(52,.one (.bool))] lf) (cq ll lf)) (lq (lq (cq ll lf)))))))) lf)))))) ll))) Tryz.func92 p
theorem qU.walk{t:Int}(b:Cl 92 #[.P r 0] h λv H=> ∃t7,v=.U t7/\if(decide (t7>t))then Cl 144 #[.P r 0,.I 3] H λV a=>V=.tuple #[]/\R (.U 0) a else R (.U t7) H):Cl 145 #[.P r 0,.U t] h R:=aR (lq (lq (sq (lq (cq (lq ll) lf)) ll))) Tryz.func145 b
theorem vh.walk(a:Cl 145 #[.P r 0,.U 1099511627776] h λv H=> ∃t4,v=.U t4/\R (.I (wrap .i64 t4)) H):Cl 93 #[.P r 0] h R:=aR (lq ll) Tryz.func93 a
theorem ud.walk (j:Cl 92 #[.P r 0] h λv f=>Vu v λt6=>Cl 143 #[.P r 0] f λV H=> ∃t8,V=.bool t8/\if(!t8)then R (.Z) H else∃l T k,Cc H r 2 (.slice l T k)/\if(decide (t6>(wrap .u64 ((T:Nat):Int))))then Cl 144 #[.P r 0,.I 8] H λu g=>u=.tuple #[]/\R (.Z) g else Hl H r 2 λm y t=>((0:Int)<=t6/\t6<=(t:Int))/\Cl 50 #[.slice (cR m t 0 1) ((toNat t6) - 0) (t - 0)] H λx a=>Vl x λq p o=>Hl a r 2 λs e b=>((0:Int)<=t6/\t6<=(e:Int))/\aQ a (AA r 2) (.slice (cR s b (toNat t6) 1) (e - (toNat t6)) (b - (toNat t6))) λi=>R (.slice q p o) i):Cl 94 #[.P r 0] h R:=aR (lq (lq (sq (lq (cq ll lf)) (sq (lq (cq (lq ll) lf)) (lq (lq ll)))))) Tryz.func94 j
theorem vi.walk (a:aI (λ(t3:Bool) (H:ak)=>if t3 then R (.I 6) H else∃t18,Cc H r 0 (.I t18)/\if(t18 !=0)then∃t24,Cc H r 0 (.I t24)/\R (.I t24) H else∃b t T,Cc H r 2 (.slice b t T)/\if(decide (((t:Nat):Int)>0))then R (.I 2) H else R (.I 0) H) (λJ=> ∃t10,Cc h r 1 (.bool t10)/\J (!t10) h)):Cl 95 #[.P r 0] h R:=aR (lq (sq (bq (sq (.join [(3,.one (.bool))] lf) (cq ll (lq (cq ll (lq (cq ll lf))))))) ll)) Tryz.func95 a

end
section
namespace hM
variable {h:ak} {bs:cM} {R:fG}
variable {p:bZ} {n c:Nat}
theorem tU:nW Tryz.prog 22 5 1 1 (.int .u8 0):=⟨cZ,cZ,rfl⟩
theorem uU:Tryz.prog.underlying 22=some (.slice 5):=cZ
theorem u8:Tryz.prog.underlying 5=some (.int .u8):=cZ
theorem uS:Tryz.prog.underlying 9=some .string:=cZ
theorem conv(a:Row h p (bc bs))(H:n=bs.length):qq Tryz.prog 22 9 (.slice p n c) h (str bs):=ED uU u8 uS a H
theorem gQ(H:Row h p (bc bs))(f:n=bs.length)(l:bs.length<=70368744177664)(hk: ∀P C h',fi h' P bs.length C 1 (bc bs)->Fr No h h'->(∀x,aL P x->h.size<=x)->R (.slice P bs.length C) h'):
  Cl 50 #[.slice p n c] h R:=by
 subst f;refine ob.walk ?_;cases p with
 |none=>
  have:bs= []:=by
   rcases H with H|⟨a,e,_⟩
   .cases bs with
    |nil=>rfl
    |cons b bs=>cases H
   .cases e
  subst this;exact hk none 0 h (.nil rfl rfl rfl rfl) (Fr.refl _ _) (λx ⟨a,e,_⟩=>by cases e)
 |some a=>
  simp only[Option.isNone_some,au,aM];refine cI ?_;have f1:Fr No h (h.push (.cells #[] 5)):=Fr.push _ _;refine dD (cs:= []) tU uU (.row h.size 0 #[] 5 rfl bV (bn _) bQ rfl (λj v d=>by cases d)) (H.frame f1 cb) (by rw[jq,cp]) (qJ bs) ae ae ?_;intro P C h' o1 _ f2 g;rw[bH,cy]at o1;refine⟨_,_,_,rfl,?_⟩;rw[bH];have G: ∀x,aL P x->h.size<=x:=λx i=>by
   rcases g x i with⟨a,e,rfl⟩|h2
   .cases e;exact bn _
   .simp at h2;omega
  exact hk P C h' o1 (f1.step f2 (λc k ⟨a,e,e2⟩=>by cases e;simp at e2;omega)) G
theorem Sb{cs:Array Value}{K:bZ->Nat->Nat->ak->Prop}(H:cs=(bc bs).toArray)(hk: ∀h',Row h' (Sa h.size 0) (bc bs)->Fr No h h'->K (Sa h.size 0) n n h'):
  aT h (.cells cs 5) λb e=>aU Tryz.prog (convert 22 22 (.slice (Sa b 0) n n)) e λv f=> ∃(p:bZ)(l c:Nat),v=.slice p l c/\K p l c f:=by
 subst H;refine cI (Pg uU u8 (a:=(AA h.size 0)) bV λd F g s o=>⟨_,_,_,rfl,?_⟩);refine hk d (.inr ⟨_,rfl,gO g (λj v i=>by rw[bH];simpa using i)⟩) ⟨by rw[s];simp,λc H _=>by rw[o c (by simp;omega),fN,dz]⟩

end hM
end
section
open Go.fk
namespace hM
variable {h j:ak} {w r:Nat} {S:Nat→Prop} {bs:cM} {e:Int} {R:fG}
variable {Q:Nat->Prop} {h':ak} {p:bZ} {c n:Nat} {K:ak->Prop} {t:cM}
def Wr(h:ak)(w:Nat)(S:Nat->Prop)(bs:cM):Prop:=
 ∃p c,h[w]? =some (.cells #[.bool true,.slice p bs.length c] 209 (0,0))/\fi h p bs.length c 1 (bc bs)/\¬aL p w/\∀x,S x↔x=w\/aL p x
theorem Wr.lt(H:Wr h w S bs): ∀x,S x->x<h.size:=by
 obtain⟨p,c,a,o,_,b⟩:=H;intro x hx;rcases(b x).1 hx with rfl|hx
 .exact aE a
 .exact o.dw hx
theorem Wr.frame(H:Wr h w S bs)(b:Fr Q h h')(d: ∀x,S x->¬Q x):Wr h' w S bs:=by
 obtain⟨p,c,f,o,g,a⟩:=H;exact⟨p,c,b.get f (d w ((a w).2 (.inl rfl))),o.frame b (λx i=>d x ((a x).2 (.inr i))),g,a⟩
theorem gu(hk: ∀h' w S,Wr h' w S []->Fr No h h'->(∀x,S x->h.size<=x)->R (.P w 0) h'):Cl 65 #[] h R:=by
 refine Hd.walk (cI ?_);refine hk _ _ (λx=>x=h.size) ⟨none,0,bV,.nil rfl rfl rfl rfl,(λ⟨a,e,_⟩=>by cases e),λx=> ?_⟩ (Fr.push _ _) (λx H=>ae);constructor
 .exact .inl
 .rintro(H|⟨a,e,_⟩)
  .exact H
  .cases e
theorem Wr.store{P:bZ}{C:Nat}{H:ak}{cs:cM}(d:h[w]? =some (.cells #[.bool true,.slice p bs.length c] 209 (0,0)))(i: ¬aL p w)(a: ∀x,S x↔x=w\/aL p x)(o:fi H P (bs.length+n) C 1 (bc bs++bc cs))(f:Fr (aL p) h H)(g: ∀x,aL P x->aL p x\/h.size<=x)(m:n=cs.length)(hk: ∀h' s,Wr h' w s (bs++cs)->Step S h s h'->K h'):aQ H (AA w 1) (.slice P (bs.length+n) C) K:=by
 subst m;have l:=f.get d i;have y:=aE d;have k: ¬aL P w:=λhx=>(g w hx).elim i (λb=>ae)
 refine bL l bQ λh' q u v=> ?_
 have f2:Fr (λx=>x=w) H h':=Fr.of_eq u v;refine hk h' (λx=>x=w\/aL P x) ⟨P,C,?_,?_,k,λx=>eU⟩ ⟨?_,?_⟩
 .rw[q,ar];rfl
 .rw[ar,kh];exact o.frame f2 (λx hx e=>k (e▸hx))
 .exact f.trans f2 (λx _ hx=>(a x).2 (.inr hx)) (λx _ hx=>(a x).2 (.inl hx))
 .rintro x (hx|hx)
  .exact .inl ((a x).2 (.inl hx))
  .exact(g x hx).imp (λb=>(a x).2 (.inr b)) id
theorem Wr.push{x:Int}{b:UInt8}(H:Wr h w S bs)(B:bs.length<=1099511627786)(z:x=(b.toNat:Int))(hk: ∀h' s,Wr h' w s (bs++ [b])->Step S h s h'->K h'):
  ∃(p:bZ)(l c:Nat),aX h (AA w 1)=some (.slice p l c)/\
  aT h (.cells #[.int .u8 x] 5) λb i=>
  aU Tryz.prog (Builtin.append_ #[22,22] 22 #[.slice p l c,.slice (Sa b 0) 1 1]) i λv k=>
  ∃(q:bZ)(m d:Nat),v=.slice q m d/\aQ k (AA w 1) (.slice q m d) K:=by
 obtain⟨p,c,a,o,y,u⟩:=H;refine⟨p,bs.length,c,aq a,?_⟩;refine iD tU uU o rfl (λv f=>by simp at f;subst f;rfl) ae ae ?_;intro P C A o1 f1 g;subst z;exact⟨_,_,_,rfl,Wr.store (cs:= [b]) a y u o1 f1 g rfl hk⟩
def VH(j:ak)(w:Nat)(s:Nat->Prop)(bs:cM)(N:Nat)(n:Int)(h:ak):Prop:=
 ∃(m:Nat)(S:Nat->Prop)(d:cM),n=(m:Int)/\m<18446744073709551616/\Wr h w S (bs++d)/\d++cd m=cd N/\Step s j S h
theorem fz{n:Int}(k:Nat)(H:Wr h w S bs)(B:bs.length<=1099511627776)(e:n=(k:Int))(x:k<18446744073709551616)(hk: ∀h' i,Wr h' w i (bs++cd k)->Step S h i h'->R (.P w 0) h'):Cl 72 #[.P w 0,.U n] h R:=by
 subst e;refine vd.walk ?_;obtain⟨p,c,o,_⟩:=id H;refine aI.of λJ v=>⟨true,aq o,?_⟩
 subst v;simp only[dh,au,aM];clear o;refine⟨VH h w S bs k,λn _=>n.toNat,⟨k,S, [],rfl,x,cH H,rfl,Step.refl _ _⟩,?_⟩;rintro _ z ⟨m,y,d,rfl,u,f,hd,st⟩;have A:d.length<=10:=by
  have:=bP List.length hd;rw[ar]at this;have:=(bO k).2;omega
 by_cases q:(m:Int)>127
 .simp only[q,bt,bg];refine f.push (by rw[ar];omega) (Tm m) λl s g a=> ?_
  rw[Vw];refine⟨⟨m/128,s,d++ [UInt8.ofNat (m%128+128)],rfl,ae,by rwa[cT]at g,?_,st.trans a⟩,?_⟩
  .rw[<-hd,xF u,gh];simp
  .show Int.toNat ((m/128:Nat):Int)<Int.toNat (m:Int);omega
 .simp only[q,bf,au,aM];refine f.push (by rw[ar];omega) (b:=UInt8.ofNat m) (by rw[lJ,fC]) λl s g a=> ?_
  refine hk l s ?_ (st.trans a);rwa[<-hd,xF u,dz,<-cT]
theorem VI(n:Int)(H:n<=9223372036854775807):IntKind.wrap .u64 (if 0>n then 0 else n)=((fJ n:Nat):Int):=by
 unfold fJ;split
 .rw[wrap_u64 ae ae];omega
 .rw[wrap_u64 ae ae];omega
theorem gR{n:Int}(H:Wr h w S bs)(b:bs.length<=1099511627776)(d:n<=9223372036854775807)(hk: ∀h' s,Wr h' w s (bs++cd (fJ n))->Step S h s h'->R (.P w 0) h'):Cl 66 #[.P w 0,.I n] h R:=
 ve.walk (fz (fJ n) H b (VI n d) (by unfold fJ;omega) λh' s a st=>⟨_,rfl,hk h' s a st⟩)
theorem Jf{b:Bool}(H:Wr h w S bs)(d:bs.length<=1099511627776)(hk: ∀h' s,Wr h' w s (bs++cd (bit b))->Step S h s h'->R (.P w 0) h'):Cl 137 #[.P w 0,.bool b] h R:=by
 refine tZ.walk ?_;cases b;all_goals simp only[bg,au,aM]
 .exact fz 0 H d rfl ae λh' s a st=>⟨_,rfl,hk h' s a st⟩
 .exact fz 1 H d rfl ae λh' s a st=>⟨_,rfl,hk h' s a st⟩
theorem mP(H:Wr h w S bs)(y:bs.length<=1099511627776)(B:Row h p (bc t))(z:n=t.length)(N:t.length<=1099511627776)(A: ∀x,aL p x->t≠ []->¬S x)(hk: ∀h' s,Wr h' w s (bs++dJ t)->Step S h s h'->R (.P w 0) h'):Cl 71 #[.P w 0,.slice p n c] h R:=by
 subst z;refine ua.walk (fz t.length H y (wrap_u64 ae ae) ae λL G k st1=>⟨_,rfl,?_⟩);obtain⟨q,d,b,o,D,C⟩:=k;refine aI.of λJ f=>⟨true,aq b,?_⟩
 subst f;refine aI.of λJ f=> ?_
 simp only[bg];subst f;refine⟨q,_,d,aq b,?_⟩;have M:=(bO t.length).2;rw[ar];rw[ar]at o;refine dD tU uU o (by
  by_cases i:t= []
  .rw[i];exact .inl rfl
  .exact B.frame st1.fr (λa e E=>A _ ⟨a,e,rfl⟩ i E)) (by rw[jq,cp]) (qJ t) ae ae ?_
 intro P I h' o1 _ f2 g;refine⟨_,_,_,rfl,?_⟩;rw[ar]at b;have:=Wr.store (n:=t.length) (cs:=t) (K:=λv=>R (Value.pointer (some { block:=w,off:=0 })) v) (bs:=bs++cd t.length) (by rw[ar];exact b) D C (by rw[ar];exact o1) f2 g rfl λu m l F=> ?_
 .rw[ar]at this;exact this
 .exact hk u m (by unfold dJ;rwa[cT]at l) (st1.trans F)
theorem nL(H:Wr h w S bs)(a:bs.length<=1099511627776)(f:Row h p (bc t))(b:n=t.length)(g:t.length<=1099511627776)(d: ∀x,aL p x->¬S x)(hk: ∀h' s,Wr h' w s (bs++dJ t)->Step S h s h'->R (.P w 0) h'):Cl 71 #[.P w 0,.slice p n c] h R:=
 mP H a f b g (λx i _=>d x i) hk
theorem ir(H:Wr h w S bs)(b:bs.length<=70368744177664)(hk: ∀P C h',fi h' P bs.length C 1 (bc bs)->Fr No h h'->(∀x,aL P x->h.size<=x)->R (.slice P bs.length C) h'):Cl 67 #[.P w 0] h R:=by
 obtain⟨p,c,a,o,f,d⟩:=H;exact ss.walk ⟨p,_,c,aq a,gQ o.iJ rfl b λP C h' o1 f1 g=>⟨_,_,_,rfl,hk P C h' o1 f1 g⟩⟩
def Rd(h:ak)(r:Nat)(S:Nat->Prop)(e:Int)(bs:cM):Prop:=
 ∃p c,h[r]? =some (.cells #[.int .i64 e,.bool true,.slice p bs.length c] 221 (0,0))/\fi h p bs.length c 1 (bc bs)/\¬aL p r/\S r/\(∀x,aL p x->S x)/\∀x,S x->x<h.size
theorem Rd.lt(H:Rd h r S e bs): ∀x,S x->x<h.size:=by
 obtain⟨p,c,_,_,_,_,_,a⟩:=H;exact a
theorem Rd.self(H:Rd h r S e bs):S r:=by
 obtain⟨p,c,_,_,_,a,_,_⟩:=H;exact a
theorem Rd.frame(H:Rd h r S e bs)(a:Fr Q h h')(g: ∀x,S x->¬Q x):Rd h' r S e bs:=by
 obtain⟨p,c,k,o,l,d,f,i⟩:=H;exact⟨p,c,a.get k (g r d),o.frame a (λx b=>g x (f x b)),l,d,f,λx b=>cE (i x b) a.1⟩
theorem vj(f:Row h p (bc bs))(d:n=bs.length)(b:bs.length<=70368744177664)(hk: ∀h' r S,Rd h' r S 0 bs->Fr No h h'->(∀x,S x->h.size<=x)->R (.P r 0) h'):Cl 91 #[.slice p n c] h R:=by
 refine Fa.walk (gQ f d b λP C a o1 f1 g=>⟨_,_,_,rfl,cI ?_⟩);refine hk _ _ (λx=>h.size<=x/\x<=a.size) ⟨P,C,bV,o1.frame (Fr.push (S:=λ_=>False) _ _) cb,?_,⟨f1.1,bn _⟩,?_,?_⟩ (Fr.on f1 (Fr.push _ _)) (λx H=>H.1)
 .intro H;have:=o1.dw H;omega
 .intro x H;have:=o1.dw H;exact⟨g x H,ae⟩
 .intro x H;rw[du];omega
theorem mi{E:Int}(H:Rd h r S e bs)(hk: ∀h',Rd h' r S (MC e E) bs->Fr (λx=>x=r) h h'->R (.tuple #[]) h'):Cl 144 #[.P r 0,.I E] h R:=by
 obtain⟨p,c,b,o,d,g,i,l⟩:=id H;refine vf.walk ⟨e,aq b,?_⟩;unfold MC at hk;by_cases j:e=0
 .subst j;simp only[ff,bg];refine bL b bQ λh' m k q=> ?_
  have f:Fr (λx=>x=r) h h':=Fr.of_eq k q;exact hk h' ⟨p,c,m,o.frame f (λx a e=>d (e▸a)),d,g,i,λx a=>by rw[k];exact l x a⟩ f
 .simp only[dp,j,aM];simp only[j,aM]at hk;exact hk h H (Fr.refl _ _)
theorem Dm(H:Rd h r S e bs)(hk:R (.bool (e==0)) h):Cl 143 #[.P r 0] h R:=by
 obtain⟨p,c,a,o,g,b,d,f⟩:=H;exact uc.walk ⟨true,aq a,e,aq a,hk⟩
def Tt(j:ak)(r:Nat)(S:Nat->Prop)(bs:cM)(n i:Int)(h:ak):Prop:=
 ∃(k a:Nat)(rest:cM),i=(k:Int)/\n=(a:Int)/\k<=10/\a<2 ^ (7*k)/\a<18446744073709551616/\Rd h r S 0 rest/\Fr (λx=>x=r) j h/\GG k a rest=GG 0 0 bs
theorem yJ(H:Rd h r S e bs)(hk: ∀h',Rd h' r S (fc e bs).2.1 (fc e bs).2.2->Fr (λx=>x=r) h h'->R (.U ((fc e bs).1:Int)) h'):
  Cl 92 #[.P r 0] h R:=by
 refine vg.walk (aI.of λf' E=> ?_);by_cases F:e=0
 .subst F;unfold fc at hk;rw[ah rfl]at hk;refine⟨Tt h r S bs,λ_ i _=>11 - i.toNat,⟨0,0,bs,rfl,rfl,ae,bQ,ae,H,Fr.refl _ _,rfl⟩,?_⟩;rintro _ _ q ⟨k,a,rest,rfl,rfl,i',ha,g',z,f2,d⟩;refine Dm z ⟨_,rfl,?_⟩;simp only[ff,bg];obtain⟨p,c,g,o,G,h1,P,M⟩:=id z;refine⟨p,_,c,aq g,?_⟩;cases rest with
  |nil=>
   simp only[bw,Int.natCast_zero,ff,bg];refine mi z λh4 V f4=>⟨rfl,?_⟩
   subst E;rw[GG]at d;rw[<-d]at hk;exact hk h4 V (f2.tt f4)
  |cons b rest=>
   have O:((((b::rest).length:Nat):Int)==0)=false:=by simp only[aW,dL,fL];omega
   simp only[O,au,aM];refine⟨p,_,c,aq g,⟨ae,by simp only[aW];omega⟩,?_⟩;obtain⟨Y,Z,rfl⟩:=o.some (by rw[jq];simp);refine az.2 ⟨(b.toNat:Int),o.cell rfl,some (AA Y Z),_,c,aq g,⟨ae,by simp only[aW];omega⟩,?_⟩;have o2:=o.sub (l:=1) (u:=(b::rest).length) bQ (bn _);have L:((bc (b::rest)).take ((b::rest).length*1)).drop (1*1)=bc rest:=by
    simp only[cp];rw[bk (by rw[jq];exact bn _)];rfl
   rw[L]at o2;have el:(b::rest).length - Int.toNat 1=rest.length:=bQ
   rw[el];have J:(b::rest).length - 1=rest.length:=bQ
   rw[J]at o2;refine bL g bQ λs T I U=> ?_
   have f5:Fr (λx=>x=r) q s:=Fr.of_eq I U;have A:Rd s r S 0 rest:=⟨_,_,T,o2.frame f5 (λx f e=>G (e▸mw f)),λf=>G (mw f),h1,λx f=>P x (mw f),λx f=>by rw[I];exact M x f⟩;have f25:=f2.tt f5;clear o2 T I U f5 L el J O o g P M G;have w1:IntKind.wrap .i64 ((k:Int)*7)=((7*k:Nat):Int):=by rw[bB ae ae];omega
   have w2:IntKind.wrap .i64 (7*(k:Int))=((7*k:Nat):Int):=by rw[bB ae ae];omega
   have w3:IntKind.wrap .i64 ((k:Int)+1)=((k+1:Nat):Int):=by rw[bB ae ae];omega
   have g:=b.toNat_lt;rw[GG]at d;refine aI.of λX d'=> ?_
   have fin:X (decide (k=10\/(k=9/\b.toNat>1)\/(b.toNat=0/\k>0))) s:=by
    subst d';by_cases v:k=10\/(k=9/\b.toNat>1)\/(b.toNat=0/\k>0)
    .simp only[v,bt,bg];rw[ah v]at d;refine mi A λh7 W f7=>⟨rfl,?_⟩
     subst E;rw[<-d]at hk;exact hk h7 W (f25.tt f7)
    .simp only[v,bf,au,aM];rw[af v]at d;rw[w2,w3,dz,R1,R2];have hd:b.toNat%128*2 ^ (7*k)<18446744073709551616:=by
      by_cases N:k=9
      .subst N;have:b.toNat%128<=1:=ae
       have:=cQ (2 ^ (7*9)) this;omega
      .have h8:k<=8:=ae
       have p1:(2:Nat) ^ (7*k)<=2 ^ 56:=fW ae ae;have p2:b.toNat%128<=127:=ae
       have:=Nat.mul_le_mul p2 p1;omega
     have key:IntKind.wrap .u64 ((b.toNat%128:Nat):Int)=((b.toNat%128:Nat):Int):=pA ae;have e':7*k<=64:=ae
     rw[key,R3 ha hd e'];by_cases y:b.toNat<128
     .simp only[y,bt,bg];rw[ah y]at d;rw[<-d]at hk;exact hk s A f25
     .simp only[y,bf,au,aM];rw[af y]at d;have N:k<=8:=ae
      have p3:(2:Nat) ^ (7*(k+1))=128*2 ^ (7*k):=by rw[Nat.mul_add,Nat.pow_add,gi]
      have p4:b.toNat%128+1<=128:=ae
      have p5:=cQ (2 ^ (7*k)) p4;rw[dW]at p5;have p6:(2:Nat) ^ (7*(k+1))<=2 ^ 63:=fW ae ae;refine⟨⟨k+1,_,rest,rfl,rfl,ae,ae,ae,A,f25,d⟩,?_⟩;show 11 - Int.toNat ((k+1:Nat):Int)<11 - Int.toNat (k:Int);omega
   rw[w1];by_cases c1:k=10
   .subst c1;simpa using fin
   .have a':((k:Int)==10)=false:=by simp only[dL,fL];omega
    simp only[a',au,aM];by_cases B:k=9
    .subst B;by_cases D:b.toNat>1
     .have m:(b.toNat:Int)>1:=ae
      have C: ¬b.toNat=0:=ae
      simpa[D,m,C]using fin
     .have m: ¬(b.toNat:Int)>1:=ae
      by_cases C:b.toNat=0
      .simpa[D,m,C]using fin
      .simpa[D,m,C]using fin
    .have b':(((7*k:Nat):Int)==63)=false:=by simp only[dL,fL];omega
     simp only[b',au,aM];by_cases C:b.toNat=0
     .have c5:decide ((k:Int)>0)=decide (k>0):=bQ
      simp only[C,Int.natCast_zero,ff,bg,c5];simpa[c1,B,C]using fin
     .have c':((b.toNat:Int)==0)=false:=by simp only[dL,fL];omega
      simp only[c',au,aM];simpa[c1,B,C]using fin
 .refine⟨λ_ _ q=>q=h,λ_ _ _=>0,rfl,?_⟩;rintro _ _ q rfl;refine Dm H ⟨_,rfl,?_⟩;have:(e==0)=false:=by simpa using F
  simp only[this,au,aM];subst E;unfold fc at hk;rw[af F]at hk;exact hk _ H (Fr.refl _ _)
theorem Pr(T:Nat){t:Int}(i:t=(T:Int))(H:Rd h r S e bs)(hk: ∀h',Rd h' r S (iF T e bs).2.1 (iF T e bs).2.2->Fr (λx=>x=r) h h'->R (.U ((iF T e bs).1:Int)) h'):
  Cl 145 #[.P r 0,.U t] h R:=by
 subst i;refine qU.walk (yJ H λf a f1=>⟨_,rfl,?_⟩);unfold iF at hk;by_cases b:(fc e bs).1>T
 .have:((fc e bs).1:Int)>(T:Int):=ae
  simp only[this,bt,bg];rw[ah b]at hk;exact mi a λg d f2=>⟨rfl,hk g d (f1.tt f2)⟩
 .have: ¬((fc e bs).1:Int)>(T:Int):=ae
  simp only[this,bf,au,aM];rw[af b]at hk;exact hk f a f1
theorem Dn(H:Rd h r S e bs)(hk: ∀h',Rd h' r S (lB e bs).2.1 (lB e bs).2.2->Fr (λx=>x=r) h h'->R (.I ((lB e bs).1:Int)) h'):
  Cl 93 #[.P r 0] h R:=
 vh.walk (Pr 1099511627776 rfl H λb a f1=>⟨_,rfl,by
  have:=EJ 1099511627776 e bs;rw[bB ae ae];exact hk b a f1⟩)
theorem M1(H:Rd h r S e bs)(U:bs.length<=70368744177664)(hk: ∀h' p c,Rd h' r S (jV e bs).2.1 (jV e bs).2.2->fi h' p (jV e bs).1.length c 1 (bc (jV e bs).1)->(∀x,aL p x->h.size<=x)->Fr (λx=>x=r) h h'->R (.slice p (jV e bs).1.length c) h'):
  Cl 94 #[.P r 0] h R:=by
 refine ud.walk (yJ H λB d f1=>⟨_,rfl,Dm d ⟨_,rfl,?_⟩⟩);unfold jV at hk;have W:=GX e bs;have V:(fc e bs).2.2.length<=bs.length:=by
  unfold fc;split
  .exact C9 bs 0 0
  .exact bn _
 generalize fc e bs=N at*;obtain⟨n,E,rest⟩:=N;dsimp only at*;by_cases j:E=0
 .subst j;simp only[ff,dh,au,aM];obtain⟨p,c,f,o,X,Y,Z,k3⟩:=id d;refine⟨p,_,c,aq f,?_⟩;rw[ah rfl]at hk;rw[wrap_u64 (n:=(rest.length:Int)) ae ae];by_cases m:n>rest.length
  .have:(n:Int)>(rest.length:Int):=ae
   simp only[this,bt,bg];rw[ah m]at hk;exact mi d λD v f2=>⟨rfl,hk D none 0 v (.nil rfl rfl rfl rfl) (λx ⟨a,e,_⟩=>by cases e) (f1.tt f2)⟩
  .have: ¬(n:Int)>(rest.length:Int):=ae
   simp only[this,bf,au,aM];rw[af m]at hk;have T:=o.le;refine⟨p,_,c,aq f,ae,?_⟩;have O:=o.sub (l:=0) (u:=n) ae ae;simp only[cp,gL,Pe]at O;have A:(rest.take n).length=n:=by rw[bC];omega
   refine gQ O.iJ (by rw[A];omega) ae λM z F L f4 g4=>⟨_,_,_,rfl,?_⟩
   have y:=d.frame f4 cb;obtain⟨P,C,k,o2,q,G,I,J⟩:=y;refine⟨P,_,C,aq k,ae,?_⟩;refine bL k bQ λi q1 q2 q3=> ?_
   have f5:Fr (λx=>x=r) F i:=Fr.of_eq q2 q3;have s:=o2.sub (l:=n) (u:=rest.length) ae (bn _);rw[cp,cp,<-jq rest,dZ,jq,Pf]at s;have g:(rest.drop n).length=rest.length - n:=bQ
   refine hk i M z ⟨cR P C n 1,C - n,?_,?_,λb=>q (mw b),G,λx b=>I x (mw b),λx b=>by rw[q2];exact J x b⟩ (L.frame f5 (λx b e=> ?_)) (λx b=> ?_) (f1.tt ((f4.mono λ_ _=>False.elim).tt f5))
   .rw[g];simpa using q1
   .rw[g];exact s.frame f5 (λx b e=>q (e▸mw b))
   .have:=g4 x b;have:=aE f;omega
   .have:=g4 x b;have:=f1.1;omega
 .have:(E==0)=false:=by simpa using j
  simp only[this,eL,bg];rw[af j]at hk;exact hk B none 0 d (.nil rfl rfl rfl rfl) (λx ⟨a,e,_⟩=>by cases e) f1
theorem Ps(H:Rd h r S e bs)(hk:R (.I (uV e bs)) h):Cl 95 #[.P r 0] h R:=by
 obtain⟨p,c,a,o,f,k,g,i⟩:=H;refine vi.walk (aI.of λJ d=>⟨true,aq a,?_⟩);subst d;simp only[dh,au,aM];refine⟨e,aq a,?_⟩;unfold uV at hk;by_cases j:e=0
 .subst j;simp only[bne_self_eq_false,au,aM];refine⟨p,_,c,aq a,?_⟩;rw[ah rfl]at hk;cases bs with
  |nil=>exact hk
  |cons b bs=>
   have:(((b::bs).length:Nat):Int)>0:=by simp only[aW];omega
   simp only[this,bt,bg];rwa[af bQ]at hk
 .have:(e !=0)=true:=by simpa using j
  simp only[this,bg];rw[af j]at hk;exact⟨e,aq a,hk⟩

end hM
end
end Go.Proofs.YtlenamcfacpheaaGreatDoor
namespace Go.Den
theorem Pv{P:Program}{S d e:TypeId}{h:ak}{s:ByteArray}{K:fG}(r:P.underlying S=some .string)(hd:P.underlying d=some (.slice e))(m:P.underlying e=some (.int .u8))(hk: ∀p c h',Row h' p (bc s.data.toList)->s.size<=c->Fr No h h'->(∀y,aL p y->h.size<=y)->K (.slice p s.size c) h'):aU P (convert S d (.string s)) h K:=by
 unfold convert;refine bU (s:=underlying S) (bJ r) ?_;refine bU (s:=underlying d) (bJ hd) ?_;show aU P (underlying e>>=_) h K;refine bU (s:=underlying e) (bJ m) ?_;show aU P (Conv.stringToBytes e s) h K;unfold Conv.stringToBytes;rw[dR];unfold choose;simp only[aU,Question.forced,au,aM,Question.cut];intro T;generalize x:s.size+T%(2 ^ 63 - s.size)=cap;have o:s.size<=cap:=ae
 generalize l:(s.data.map λb=>Value.int .u8 (b.toNat:Int))++Array.replicate (cap - s.size) (Value.int .u8 0)=cs;have q: ∀j v,(bc s.data.toList)[j]? =some v->cs[0+j]? =some v:=λj v g=>by
  have i:=(aB.1 g).1;rw[jq,eR]at i;rw[<-l,bH,dP (cH i),Array.getElem?_map,<-g];unfold bc;rw[aF,dH]
 show aU P (newRow e cs>>=_) h K;rw[dR];show aU P (markStringish (AA h.size 0)>>=λ_=>pure (.slice (Sa h.size 0) s.size cap)) (h.push (.cells cs e)) K;rw[dR];unfold markStringish shape;have u:oZ (h.push (.cells cs e)) h.size=some (e,cs.size):=by simp[oZ]
 show aU P (match oZ (h.push (.cells cs e)) h.size with|some (_,n)=>freeze { block:=h.size,off:=n } 1|_=>pure ()) (h.push (.cells cs e)) _;rw[u];show K (.slice (Sa h.size 0) s.size cap) (pd (h.push (.cells cs e)) { block:=h.size,off:=cs.size } 1);unfold pd;rw[dz];refine hk _ _ _ (.inr ⟨_,rfl,gO (c:=cs) (t:=e) (f:=if(0:Nat)==0 then(cs.size,cs.size+1)else(min 0 cs.size,max 0 (cs.size+1))) ?_ q⟩) o ⟨bQ,λc w _=> ?_⟩ (λy ⟨a,E,k⟩=>by cases E;exact Nat.le_of_eq k)
 .rw[dy,ah rfl,bV];rfl
 .rw[dy,af (by simp;omega),fN,dz]
end Go.Den
namespace Go.Proofs.YtlenamcfacpheaaGreatDoor
open Go.Den
namespace hM
variable {h h' H : ak} {R : Value → ak → Prop}
theorem Rp{s:ByteArray}{K:fG}(hk: ∀p c h',Row h' p (bc s.data.toList)->s.size<=c->Fr No h h'->(∀y,aL p y->h.size<=y)->K (.slice p s.size c) h'):aU Tryz.prog (convert 9 22 (.string s)) h K:=Pv uS uU u8 hk
end hM
end Go.Proofs.YtlenamcfacpheaaGreatDoor
namespace Go.Proofs.YtlenamcfacpheaaGreatDoor
open Go.Den
open IntKind (wrap)
open Int (toNat)
section
open Go.fk
namespace hM
variable {h h' g:ak} {p:bZ} {l c:Nat} {bs:List (cM)}
abbrev jO(n:BV):List Value:= [n.val]
theorem tN:nW Tryz.prog 64 22 1 24 (.Z):=⟨cZ,cZ,rfl⟩
theorem uN:Tryz.prog.underlying 64=some (.slice 22):=cZ
theorem jX(n:BV):(jO n).length=1:=rfl
theorem zT(xs:List BV): ∀v∈xs.flatMap jO,fX v=true:=by
 intro v b;obtain⟨a,_,H⟩:=List.mem_flatMap.1 b;simp at H;subst H;rfl
def BL(g h:ak)(p:bZ)(l c:Nat)(bs:List (cM)):Prop:=
 ∃(xs:List BV)(D:Nat->Prop),l=xs.length/\fi h p l c 1 (xs.flatMap jO)/\xs.map BV.b=bs/\(∀x∈xs,x.ok h D)/\(∀y,D y->g.size<=y/\y<h.size/\¬aL p y)/\∀y,aL p y->g.size<=y
theorem BL.nil:BL g h none 0 0 []:=⟨[],λ_=>False,rfl,.nil rfl rfl rfl rfl,rfl,(λx H=>by cases H),(λy b=>b.elim),λy ⟨a,e,_⟩=>by cases e⟩
theorem BL.on(H:BL g h p l c bs)(f:Fr No h h'):BL g h' p l c bs:=by
 obtain⟨xs,D,d,e,i,j,a,k⟩:=H;exact⟨xs,D,d,e.frame f cb,i,λx m=>(j x m).frame f cb,λy b=>⟨(a y b).1,cE (a y b).2.1 f.1,(a y b).2.2⟩,k⟩
theorem BL.len(H:BL g h p l c bs):l=bs.length:=by
 obtain⟨xs,D,a,_,b,_⟩:=H;rw[a,<-b,aA]
theorem BL.lt(H:BL g h p l c bs){y:Nat}(b:aL p y):y<h.size:=by
 obtain⟨xs,D,_,a,_⟩:=H;exact a.dw b
theorem BL.mono{a:ak}(H:BL a h p l c bs)(e:g.size<=a.size):BL g h p l c bs:=by
 obtain⟨xs,D,a,f,i,j,d,k⟩:=H;exact⟨xs,D,a,f,i,j,λy b=>⟨cD e (d y b).1,(d y b).2⟩,λy b=>cD e (k y b)⟩
theorem BL.push{b:cM}{q:bZ}{d:Nat}{K:fG}(H:BL g h p l c bs)(up:g.size<=h.size)(o:fi h q b.length d 1 (bc b))(i: ∀y,aL q y->g.size<=y/\¬aL p y)(r:l<=1000000)(hk: ∀P C h',BL g h' P (l+1) C (bs++ [b])->Fr (aL p) h h'->(∀y,aL P y->aL p y\/h.size<=y)->K (.slice P (l+1) C) h'):
  aT h (.cells #[.slice q b.length d] 22) λB e=>aU Tryz.prog (Builtin.append_ #[64,64] 64 #[.slice p l c,.slice (Sa B 0) 1 1]) e K:=by
 obtain⟨xs,D,e,h2,k,m,a,n⟩:=H;refine iD tN uN h2 rfl (λv j=>by simp at j;subst j;rfl) ae ae ?_;intro P C h' O f G;have lt: ∀y,aL q y->y<h.size:=λy hy=>o.dw hy
 refine hk P C h' ⟨xs++ [⟨q,d,b⟩],λy=>D y\/aL q y,by rw[ar,e];rfl,?_,?_,?_,?_,?_⟩ f G
 .rw[bY];simpa using O
 .rw[aV,k];rfl
 .intro x hx;rcases bz.1 hx with hx|hx
  .exact((m x hx).frame f (λy hy=>(a y hy).2.2)).mono (λy=> .inl)
  .simp at hx;subst hx;exact BV.jr (o.frame f (λy hy=>(i y hy).2)) (λy=> .inr)
 .have z:=f.1;rintro y (hy|hy)
  .exact⟨(a y hy).1,bR ((a y hy).2.1),λhx=>(G y hx).elim (a y hy).2.2 (λh2=>bR ((a y hy).2.1))⟩
  .exact⟨(i y hy).1,bR (lt y hy),λhx=>(G y hx).elim (i y hy).2 (λh2=>bR (lt y hy))⟩
 .intro y hy;rcases G y hy with h2|h2
  .exact n y h2
  .omega
theorem BL.rows(H:BL g h p l c bs): ∃xs:List BV,l=xs.length/\Row h p (xs.flatMap jO)/\xs.map BV.b=bs/\l<=c/\∀x∈xs,Row h x.p (bc x.b):=by
 obtain⟨xs,D,b,a,d,e,i,j⟩:=H;exact⟨xs,b,a.iJ,d,a.le,λx f=>(e x f).row⟩

end hM
end
end Go.Proofs.YtlenamcfacpheaaGreatDoor
