/-
  FD is proved here: parts of x4 proof, one behind x4 other (texts of this work, merged by a program; IX x4 theorem IY not use is left out). No condition.
-/
import Derived.Test.YtlenamcfacpheaaGreatDoorProg
import Derived.Shelf.Strings.Cut
import Derived.Shelf.Strconv.Itoa4
import Derived.Ground.NamesProg
import Derived.Shelf.Small.Wraps
import Derived.Test.YtlenamcfacpheaaGreatDoorMArtsa
set_option maxRecDepth 100000
set_option maxHeartbeats 4000000
namespace Go.Den
def bc(bs:cD):List Value:=bs.map λb=> .int .u8 (b.toNat:Int)
theorem jT(bs:cD):(bc bs).length=bs.length:=by simp[bc]
theorem jM(bs cs:cD):bc (bs++cs)=bc bs++bc cs:=by simp[bc]
theorem N8(bs:cD)(n:Nat):(bc bs).take n=bc (bs.take n):=by simp[bc,List.map_take]
theorem N9(bs:cD)(n:Nat):(bc bs).drop n=bc (bs.drop n):=by simp[bc,List.map_drop]
theorem pR(bs:cD): ∀v∈bc bs,fR v=true:=by
 intro v h;simp only[bc,bh]at h;obtain⟨b,_,rfl⟩:=h;rfl
def str(bs:cD):ByteArray:=⟨bs.toArray⟩
theorem wH(b:ByteArray): ∀(k i:Nat)(r:cD),b.size - i=k->i<=b.size->ByteArray.toList.loop b i r=r.reverse++b.data.toList.drop i
 |0,i,r,hk,H=>by
  have:i=b.size:=ag
  unfold ByteArray.toList.loop;rw[dc];have:b.data.toList.length<=i:=by rw[ee];exact Nat.le_of_eq this.symm
  rw[dC this];simp
 |k+1,i,r,hk,H=>by
  have h:i<b.size:=ag
  unfold ByteArray.toList.loop;rw[af h,wH b k (i+1) _ ag ag];have a:i<b.data.toList.length:=by rw[ee];exact h
  rw[cI a];have:b.get! i=b.data.toList[i]:=by
   show b.data[i]! =_;rw[getElem!_pos b.data i h];simp
  rw[this];simp
theorem toList_data(b:ByteArray):b.toList=b.data.toList:=by
 unfold ByteArray.toList;rw[wH b _ 0 [] rfl (bG _)];simp
theorem tp(bs:cD):(str bs).toList=bs:=by rw[toList_data];simp[str]
theorem Ln(s:ByteArray):str s.data.toList=s:=by cases s;simp[str]
section
variable {P : Program}
theorem DP(h:ai): ∀(bs:cD)(s:ByteArray),rd P (forIn (bc bs).toArray s λc s=>(do
   let .int .u8 n:=c|stuck "bytesToString: byte expected"
   pure (ForInStep.yield (s.push (UInt8.ofNat n.toNat))))) h=some ⟨s.data++bs.toArray⟩:=by
 intro bs;simp only[List.forIn_toArray];induction bs with
 |nil=>intro s;simp only[bc,List.map_nil,List.forIn_nil];show some s=_;cases s;simp
 |cons b bs i=>
  intro s;have e:bc (b::bs)=.int .u8 (b.toNat:Int)::bc bs:=rfl;rw[e,List.forIn_cons];rw[bt _ _ h (ForInStep.yield (s.push b)) (by show some (ForInStep.yield (s.push (UInt8.ofNat b.toNat)))=_;simp)];show rd P (forIn (bc bs) (s.push b) _) h=_;rw[i];simp[ByteArray.push]
theorem Lo{S D e:TypeId}{h:ai}{p:cy}{c n:Nat}{bs:cD}(j:P.underlying S=some (.slice e))(f:P.underlying e=some (.int .u8))(hd:P.underlying D=some .string)(H:Row h p (bc bs))(i:n=bs.length):wu P S D (.slice p n c) h (str bs):=by
 subst i;unfold wu convert;rw[bt _ _ _ _ (bA j),bt _ _ _ _ (bA hd)];show rd P (underlying e>>=_) h=_;rw[bt _ _ _ _ (bA f)];show rd P (Conv.bytesToString (.slice p bs.length c)) h=_;cases p with
 |none=>
  have:bs= []:=by
   rcases H with H|⟨a,e,_⟩
   .cases bs with
    |nil=>rfl
    |cons b bs=>cases H
   .cases e
  subst this;rfl
 |some a=>
  have d:dI a (bc bs) 0 h:=by
   rcases H with H|⟨A,e,d⟩
   .rw[H];trivial
   .cases e;exact d
  have g:rd P (loadCells a bs.length) h=some (bc bs).toArray:=by
   unfold loadCells;rw[<-jT,iu (bc bs) 0 #[] h d];simp
  show rd P (loadCells a bs.length>>=λcells=>(forIn cells ByteArray.empty λc s=>(do
   let .int .u8 n:=c|stuck "bytesToString: byte expected"
   pure (ForInStep.yield (s.push (UInt8.ofNat n.toNat)))))>>=λs=>pure (Value.string s)) h=_
  rw[bt _ _ _ _ g,bt _ _ _ _ (DP h bs ByteArray.empty)];show some (Value.string ⟨ByteArray.empty.data++bs.toArray⟩)=_;have:(⟨ByteArray.empty.data++bs.toArray⟩:ByteArray)=str bs:=by
   unfold str;congr 1;show #[]++bs.toArray=bs.toArray;simp
  rw[this]
theorem Oa{t e:TypeId}{h:ai}{a:Addr}{n c:Nat}{K:fp}(d:P.underlying t=some (.slice e))(g:P.underlying e=some (.int .u8)){cs:Array Value}{C:TypeId}{f:Nat×Nat}(H:h[a.block]? =some (.cells cs C f))(hk: ∀h' F,h'[a.block]? =some (.cells cs C F)->h'.size=h.size->(∀x,x≠a.block->h'[x]? =h[x]?)->K (.slice (some a) n c) h'):aW P (convert t t (.slice (some a) n c)) h K:=by
 unfold convert;refine bT (s:=underlying t) (bA d) ?_;refine bT (s:=underlying t) (bA d) ?_;show aW P (underlying e>>=_) h K;refine bT (s:=underlying e) (bA g) ?_;have j:(t==t)=true:=bP
 rw[j];show aW P (markStringish a>>=λ_=>pure (.slice (some a) n c)) h K;rw[dB];unfold markStringish shape;have i:nZ h a.block=some (C,cs.size):=by simp[nZ,H]
 show aW P (match nZ h a.block with|some (_,n)=>freeze { block:=a.block,off:=n } 1|_=>pure ()) h _;rw[i];show K (.slice (some a) n c) (ob h { block:=a.block,off:=cs.size } 1);unfold ob;rw[dc];obtain⟨l,b⟩:=f;refine hk _ (if l==b then(cs.size,cs.size+1)else(min l cs.size,max b (cs.size+1))) ?_ bP (λx k=> ?_)
 .simp[dO,H]
 .simp[dO,fo k]
theorem pP.bytes{h:ai}{t e:TypeId}{p:cy}{len cap:Nat}(c:P.cellsOf e=1)(hk:P.underlying e=some (.int .u8))(d:P.underlying t=some (.slice e))(f:pP P h t (.slice p len cap)):
  ∃bs:cD,bs.length=len/\Row h p (bc bs):=by
 obtain⟨xs,H,a,b⟩:=pP.ints c hk d f;refine⟨xs.map λx=>UInt8.ofNat x.toNat,cA H,?_⟩;have:bc (xs.map λx=>UInt8.ofNat x.toNat)=xs.map (.int .u8 ·):=by
  unfold bc;rw[dE];refine eh λx g=> ?_
  have:=wf_u8 (b x g);simp only[Function.comp,fV,Value.int.injEq,true_and];omega
 rw[this];exact a
end
theorem pf.bytes{P:Program}{h:ai}{t e:TypeId}{n:Nat}{v:Value}(f:P.cellsOf e=1)(hk:P.underlying e=some (.int .u8))(d:P.underlying t=some (.slice e))(b:pf P h n t [v]): ∃p c bs,v=.slice p (bs:cD).length c/\Row h p (bc bs):=by
 have: ∃p l c,v=.slice p l c:=by
  cases n with
  |zero=>exact b.elim
  |succ n=>
   unfold pf at b;rw[d]at b;rcases b with H|⟨a,l,c,H,_⟩
   .simp at H;exact⟨_,_,_,H⟩
   .simp at H;exact⟨_,_,_,H⟩
 obtain⟨p,l,c,rfl⟩:=this;obtain⟨bs,g,i⟩:=pP.bytes f hk d ⟨n,b⟩;subst g;exact⟨p,c,bs,rfl,i⟩
theorem kG(n:Nat):IntKind.wrap .u8 (n:Int)=((n%256:Nat):Int):=by
 show(n:Int)%256=_;omega
theorem oz{n:Nat}(h:n<18446744073709551616):IntKind.wrap .u64 (n:Int)=(n:Int):=wrap_u64 ag ag
theorem Re(n:Nat):IntKind.wrap .u8 ((BitVec.ofInt (IntKind.bits .u8) (IntKind.wrap .u8 (n:Int))|||BitVec.ofInt (IntKind.bits .u8) 128).toNat:Int)=((UInt8.ofNat (n%128+128)).toNat:Int):=by
 have key: ∀m:Fin 256,(((BitVec.ofInt 8 (m.val:Int)|||BitVec.ofInt 8 128).toNat%256:Nat))=m.val%128+128:=di
 rw[kG n,kG];have k:=key ⟨n%256,ag⟩;simp only at k;have e:IntKind.bits .u8=8:=rfl;rw[e,k];rw[fV];omega
theorem Qf(c:UInt8):(IntKind.wrap .u8 ((BitVec.ofInt (IntKind.bits .u8) (c.toNat:Int) &&& BitVec.ofInt (IntKind.bits .u8) 128).toNat:Int)==0)=decide (c.toNat<128):=by
 have key: ∀m:Fin 256,(((((BitVec.ofInt 8 (m.val:Int) &&& BitVec.ofInt 8 128).toNat%256:Nat):Int))==0)=decide (m.val<128):=di
 rw[kG];exact key ⟨c.toNat,c.toNat_lt⟩
theorem Qg(c:UInt8):IntKind.wrap .u8 ((BitVec.ofInt (IntKind.bits .u8) (c.toNat:Int) &&& BitVec.ofInt (IntKind.bits .u8) 127).toNat:Int)=((c.toNat%128:Nat):Int):=by
 have key: ∀m:Fin 256,((BitVec.ofInt 8 (m.val:Int) &&& BitVec.ofInt 8 127).toNat%256:Nat)=m.val%128:=di
 rw[kG];exact bU (λx:Nat=>(x:Int)) (key ⟨c.toNat,c.toNat_lt⟩)
theorem Qh{n d i:Nat}(a:n<2 ^ i)(hd:d*2 ^ i<18446744073709551616)(h:i<=64):
  IntKind.wrap .u64 ((BitVec.ofInt (IntKind.bits .u64) (n:Int)|||BitVec.ofInt (IntKind.bits .u64) (IntKind.wrap .u64 ((d:Int)*2 ^ min (Int.toNat (i:Int)) (IntKind.bits .u64)))).toNat:Int)=((n+d*2 ^ i:Nat):Int):=by
 have E:IntKind.bits .u64=64:=rfl;have f:(0:Nat)<2 ^ i:=Nat.two_pow_pos i;rw[aI,E,Nat.min_eq_left h];have e1:((d:Int)*2 ^ i)=((d*2 ^ i:Nat):Int):=bP
 rw[e1,oz hd];have b:n<18446744073709551616:=by
  have:(2:Nat) ^ i<=2 ^ 64:=fH ag h;omega
 have e2: ∀m:Nat,m<18446744073709551616->(BitVec.ofInt 64 (m:Int)).toNat=m:=λm c=>by
  rw[BitVec.toNat_ofInt];omega
 rw[BitVec.toNat_or,e2 n b,e2 _ hd];have e:n|||d*2 ^ i=n+d*2 ^ i:=by
  rw[Nat.or_comm,Nat.mul_comm,<-Nat.two_pow_add_eq_or_of_lt a d];omega
 rw[e];refine oz ?_;have H:d<2 ^ (64 - i):=by
  have:(18446744073709551616:Nat)=2 ^ (64 - i)*2 ^ i:=by rw[<-Nat.pow_add,Nat.sub_add_cancel h]
  rw[this]at hd;exact Nat.lt_of_mul_lt_mul_right hd
 have:(d+1)*2 ^ i<=2 ^ (64 - i)*2 ^ i:=cQ _ H;rw[<-Nat.pow_add,Nat.sub_add_cancel h,eM]at this;omega
theorem SN{n:Nat}:Int.fdiv (n:Int) (2 ^ min (Int.toNat 7) (IntKind.bits .u64))=((n/128:Nat):Int):=by
 show Int.fdiv (n:Int) 128=_;rw[Int.fdiv_eq_ediv_of_nonneg _ ag];omega
end Go.Den
namespace Go.Den
structure Step (S:Nat->Prop) (h:ai) (S':Nat->Prop) (h':ai):Prop where
 fr:Fr S h h'
 new: ∀c,S' c->S c\/h.size<=c
theorem Step.refl(S:Nat->Prop)(h:ai):Step S h S h:=⟨Fr.refl _ _,λ_=> .inl⟩
theorem Step.trans{S s d:Nat->Prop}{h H e:ai}(a:Step S h s H)(b:Step s H d e):Step S h d e:=
 ⟨a.fr.trans b.fr cb (λc hc f=>(a.new c f).resolve_right ag),λc hc=>by
  rcases b.new c hc with hc|hc
  .exact a.new c hc
  .have:=a.fr.1;exact .inr ag⟩
theorem Step.apart{S s Q:Nat->Prop}{h h':ai}(st:Step S h s h')(hd: ∀c,S c->¬Q c)(b: ∀c,Q c->c<h.size): ∀c,s c->¬Q c:=λc a H=>by
 rcases st.new c a with h1|h1
 .exact hd c h1 H
 .have:=b c H;omega
theorem Fr.fresh{S:Nat->Prop}{h H a:ai}(f:Fr (λ_=>False) h H)(g:Fr S H a)(b: ∀c,S c->h.size<=c):Fr (λ_=>False) h a:=
 f.step g λc e d=>by have:=b c d;omega
theorem Ja{h:ai}{c:Array Value}{t:TypeId}{f:Nat×Nat}{i:Nat}{v:Value}:mX (h.push (.cells c t f)) (AA h.size i) v=h.push (.cells (c.setIfInBounds i v) t f):=by
 apply Array.ext
 .simp[mX]
 .intro j a b;have e: ∀(x:ai)(H:j<x.size),x[j]? =some x[j]:=λx H=>Array.getElem?_eq_getElem H
  have:(mX (h.push (.cells c t f)) (AA h.size i) v)[j]? =(h.push (.cells (c.setIfInBounds i v) t f))[j]? :=by
   by_cases q:j=h.size
   .subst q;rw[vg bV,bV]
   .rw[si q];rw[fu,fu,ae q,ae q]
  rw[e _ a,e _ b]at this;exact aX this
theorem wI{h:ai}{c:Array Value}{t:TypeId}{i:Nat}{v:Value}{K:ai->Prop}(H:i<c.size)(hk:K (h.push (.cells (c.setIfInBounds i v) t (0,0)))):aS (h.push (.cells c t (0,0))) (AA h.size i) v K:=by
 refine⟨?_,mD bV,?_⟩
 .rw[kj bV];simp[H]
 .rintro _ rfl;rw[Ja];exact hk
theorem cF{h:ai}{o:Obj}{K:Nat->ai->Prop}(hk:K h.size (h.push o)):aQ h o K:=by
 rintro b h' rfl rfl;exact hk
section
variable {P : Program}
theorem jd{s x ty elem eT t:TypeId}{sz bytes:Nat}{z:Value}{h:ai}{p:cy}{len cap:Nat}{cs:List Value}{xs:Array Value}{K:fp}(T:oy P s elem sz bytes z)(m:P.underlying x=some (.slice eT))(own:fJ h p len cap sz cs)(n:xs.size=sz)(l: ∀v∈xs.toList,fR v=true)(e:(len+1)*bytes<=70368744177664)(f:len+1<=9223372036854775807)(hk: ∀a C h',fJ h' a (len+1) C sz (cs++xs.toList)->Fr (aR p) h h'->(∀c,aR a c->aR p c\/h.size<=c)->K (.slice a (len+1) C) h'):
  aQ h (.cells xs t) λb H=>aW P (Builtin.append_ #[s,x] ty #[.slice p len cap,.slice (Sa b 0) 1 1]) H K:=by
 refine cF ?_;have f1:Fr (λ_=>False) h (h.push (.cells xs t)):=Fr.push _ _;refine dT T m (own.frame f1 cb) (ds:=xs.toList) (.inr ⟨_,rfl,gT bV (λj v k=>by rw[bL];simpa using k)⟩) (by simp[n]) l e f ?_;intro a C h' o1 _ f2 g;exact hk a C h' o1 (Fr.no f1 f2) (λc i=>(g c i).imp id (λd=>by simp at d;omega))
end
end Go.Den
namespace Go.Den
structure Up (h0:ai) (S:Nat->Prop) (h:ai):Prop where
 fr:Fr (λ_=>False) h0 h
 ge: ∀c,S c->h0.size<=c
theorem Up.step{H h h':ai}{S s:Nat->Prop}(u:Up H S h)(st:Step S h s h'):Up H s h':=
 ⟨u.fr.fresh st.fr u.ge,λc a=>by
  rcases st.new c a with h1|h1
  .exact u.ge c h1
  .have:=u.fr.1;omega⟩
theorem Up.A8{H h h':ai}{S Q:Nat->Prop}(u:Up H S h)(f:Fr Q h h')(b: ∀c,Q c->S c):Up H S h':=⟨u.fr.fresh f (λc a=>u.ge c (b c a)),u.ge⟩
theorem jl{h:ai}{cs:List Value}{t:TypeId}:Row (h.push (.cells cs.toArray t)) (Sa h.size 0) cs:=.inr ⟨_,rfl,gT bV (λj v H=>by rw[bL];simpa using H)⟩
theorem fP(a:Addr):a.add 0=a:=by simp[Addr.add]
theorem lM(a:Addr)(n:Nat):(a.add n).block=a.block:=by unfold Addr.add;split<;>rfl
theorem jr{h:ai}{p:cy}{cs:List Value}(f:Row h p cs)(b:cs≠ []){x:Nat}(g:aR p x):x<h.size:=by
 obtain⟨a,rfl,rfl⟩:=g;rcases f with H|⟨A,e,H⟩
 .exact absurd H b
 .cases e;cases cs with
  |nil=>exact absurd rfl b
  |cons c cs=>
   obtain⟨_,_,_,d,_⟩:=yq H.1;have:=aD d;rwa[lM]at this
theorem Row.sub{h:ai}{p:cy}{cs:List Value}(d:Row h p cs){cap l u sz:Nat}(e:l<=u)(f:u<=cap):Row h (cO p cap l sz) ((cs.take (u*sz)).drop (l*sz)):=by
 by_cases b:cap=l
 .left;have:u=l:=ag
  subst this;rw[List.drop_eq_nil_iff,bB];exact Nat.min_le_left _ _
 .unfold cO;rw[ae b];rcases d with rfl|⟨a,rfl,c⟩
  .left;simp
  .refine .inr ⟨a.add (l*sz),rfl,jA.2 λj v H=> ?_⟩;rw[add_add,bL];rw[eO,cP]at H;split at H
   .have:=jA.1 c (l*sz+j) v H;rwa[bL]at this
   .cases H
structure Ft where
 M:Nat->Prop
 D:Nat->Prop
structure bm (F:Ft) (h:ai) (F':Ft) (h':ai):Prop where
 fr:Fr F.M h h'
 gI: ∀c,F'.M c->F.M c\/h.size<=c
 iF: ∀c,F'.D c->F.D c\/h.size<=c
 lE: ∀c,F.D c->F'.D c
theorem bm.refl(F:Ft)(h:ai):bm F h F h:=⟨Fr.refl _ _,λ_=> .inl,λ_=> .inl,λ_=>id⟩
theorem bm.trans{F f d:Ft}{h H e:ai}(a:bm F h f H)(b:bm f H d e):bm F h d e:=by
 have z:=a.fr.1;refine⟨a.fr.trans b.fr cb (λc hc g=>(a.gI c g).resolve_right ag),λc hc=> ?_,λc hc=> ?_,λc hc=>b.lE c (a.lE c hc)⟩
 .rcases b.gI c hc with hc|hc
  .exact a.gI c hc
  .exact .inr ag
 .rcases b.iF c hc with hc|hc
  .exact a.iF c hc
  .exact .inr ag
theorem bm.tB{F:Ft}{h h':ai}(f:Fr F.M h h'):bm F h F h':=⟨f,λ_=> .inl,λ_=> .inl,λ_=>id⟩
theorem bm.gr{F:Ft}{h h':ai}(f:Fr (λ_=>False) h h'):bm F h F h':=.tB (f.mono λ_ _=>False.elim)
theorem bm.no{F a:Ft}{h H c:ai}(f:Fr (λ_=>False) h H)(b:bm F H a c):bm F h a c:=(bm.gr f).trans b
theorem bm.on{F b:Ft}{h H c:ai}(a:bm F h b H)(f:Fr (λ_=>False) H c):bm F h b c:=a.trans (bm.gr f)
theorem bm.apart{F f:Ft}{Q:Nat->Prop}{h h':ai}(st:bm F h f h')(hd: ∀c,F.M c\/F.D c->¬Q c)(a: ∀c,Q c->c<h.size): ∀c,f.M c\/f.D c->¬Q c:=λc hc H=>by
 have:=a c H;rcases hc with hc|hc
 .rcases st.gI c hc with h1|h1
  .exact hd c (.inl h1) H
  .omega
 .rcases st.iF c hc with h1|h1
  .exact hd c (.inr h1) H
  .omega
structure Lp (h0:ai) (F:Ft) (h:ai):Prop where
 fr:Fr (λ_=>False) h0 h
 ge: ∀c,F.M c\/F.D c->h0.size<=c
theorem Lp.step{H h h':ai}{F f:Ft}(u:Lp H F h)(st:bm F h f h'):Lp H f h':=by
 have z:=u.fr.1;refine⟨u.fr.fresh st.fr (λc hc=>u.ge c (.inl hc)),λc hc=> ?_⟩;rcases hc with hc|hc
 .rcases st.gI c hc with h1|h1
  .exact u.ge c (.inl h1)
  .omega
 .rcases st.iF c hc with h1|h1
  .exact u.ge c (.inr h1)
  .omega
theorem Lp.on{H h h':ai}{F:Ft}(u:Lp H F h)(f:Fr (λ_=>False) h h'):Lp H F h':=⟨u.fr.tt f,u.ge⟩
theorem pS{b:Nat}{t:TypeId}: ∀(vs:List Value)(i:Nat)(h:ai)(c:Array Value)(K:ai->Prop),h[b]? =some (.cells c t (0,0))->i+vs.length<=c.size->vs.all fR=true->
  (∀h' c',h'[b]? =some (.cells c' t (0,0))->c'.size=c.size->(∀j,j<i\/i+vs.length<=j->c'[j]? =c[j]?)->(∀j v,vs[j]? =some v->c'[i+j]? =some v)->h'.size=h.size->(∀x,x≠b->h'[x]? =h[x]?)->K h')->
  dD (AA b 0) vs i h K
 | [],i,h,c,K,a,_,_,hk=>hk h c a rfl (λ_ _=>rfl) (λj v H=>by simp at H) rfl (λ_ _=>rfl)
 |v::vs,i,h,c,K,a,k,d,hk=>by
  rw[List.all_cons,aT]at d;rw[bf]at k;unfold dD;rw[d.1];dsimp only;rw[gz,bL];refine bw a ag λf a1 s1 o1=> ?_
  refine pS vs (i+1) f _ K a1 (by rw[Array.size_setIfInBounds];omega) d.2 λg c2 B z q2 r2 s2 o2=>hk g c2 B (by rw[z,Array.size_setIfInBounds]) (λj H=> ?_) (λj u H=> ?_) ag (λx e=>by rw[o2 x e,o1 x e])
  .rw[bf]at H;rw[q2 j ag,cB,dc]
  .cases j with
   |zero=>
    simp only[dw,br]at H;subst H;rw[Nat.add_zero,q2 i ag];rw[cB,af rfl,fK]
   |succ j=>
    have:=r2 j u (cA H);rwa[show i+1+j=i+(j+1) by omega]at this
theorem eI{h:ai}{b:Nat}{c:Array Value}{t:TypeId}{vs:List Value}{K:ai->Prop}(a:h[b]? =some (.cells c t (0,0)))(f:vs.length=c.size)(d:vs.all fR=true)(hk: ∀h',h'[b]? =some (.cells vs.toArray t (0,0))->h'.size=h.size->(∀x,x≠b->h'[x]? =h[x]?)->K h'):dD (AA b 0) vs 0 h K:=by
 refine pS vs 0 h c K a ag d λh' c' B z _ r s o=>hk h' ?_ s o
 have:c'=vs.toArray:=by
  apply Array.ext'
  apply eV
  intro j;by_cases H:j<vs.length
  .have e:=aj H;have:=r j _ e;rw[bL]at this;rw[dq,this];exact e.symm
  .rw[cK (by rw[ee];omega),cK (cA H)]
 rw[<-this];exact B
theorem fZ{h:ai}{c:Array Value}{t:TypeId}{vs:List Value}{K:Nat->ai->Prop}(a:vs.length=c.size)(f:vs.all fR=true)(hk: ∀b h',b=h.size->h'[b]? =some (.cells vs.toArray t (0,0))->Fr (λ_=>False) h h'->K b h'):aQ h (.cells c t) λb H=>dD (AA b 0) vs 0 H (K b):=
 cF (eI bV a f λh' B s o=>hk _ h' rfl B ((Fr.push h _).fresh (S:=λy=>y=h.size) ⟨ag,λy _ d=>o y d⟩ (λy e=>Nat.le_of_eq e.symm)))
end Go.Den
namespace Go.Den
structure BV where
 p:cy
 c:Nat
 b:cD
abbrev BV.val(x:BV):Value:=.slice x.p x.b.length x.c
structure BV.ok (h:ai) (D:Nat->Prop) (x:BV):Prop where
 row:Row h x.p (bc x.b)
 own:x.b≠ []->∀c,aR x.p c->D c
 cap:x.b.length<=x.c
theorem BV.ok.frame{h h':ai}{D Q:Nat->Prop}{x:BV}(H:x.ok h D)(f:Fr Q h h')(d: ∀c,D c->¬Q c):x.ok h' D:=by
 refine⟨?_,H.own,H.cap⟩;by_cases b:x.b= []
 .rw[b];exact .inl rfl
 .exact H.row.frame f (λa e=>d a.block (H.own b a.block ⟨a,e,rfl⟩))
theorem BV.ok.mono{h:ai}{D D':Nat->Prop}{x:BV}(H:x.ok h D)(hd: ∀c,D c->D' c):x.ok h D':=⟨H.row,λa c b=>hd c (H.own a c b),H.cap⟩
theorem BV.kU{h:ai}{D:Nat->Prop}{p:cy}{c:Nat}{b:cD}(o:fJ h p b.length c 1 (bc b))(hd: ∀x,aR p x->D x):BV.ok h D ⟨p,c,b⟩:=⟨o.iw,λ_=>hd,o.le⟩
theorem jN(p:cy)(m sz:Nat):cO p m 0 sz=p:=by
 unfold cO;split
 .rfl
 .cases p with
  |none=>rfl
  |some a=>simp[Addr.add]
theorem fJ.gJ{h:ai}{a:Addr}{len cap sz:Nat}{α:Type}{enc:α->List Value}{xs:List α}(own:fJ h (.some a) len cap sz (xs.flatMap enc))(H: ∀x,(enc x).length=sz){i:Nat}{x:α}(b:xs[i]? =.some x):dI (a.add (i*sz)) (enc x) 0 h:=by
 refine jA.2 λj v c=> ?_
 rw[bL,add_add];exact own.cell (qK enc sz H xs i x b j v c)
theorem Row.gJ{h:ai}{a:Addr}{sz:Nat}{α:Type}{enc:α->List Value}{xs:List α}(own:Row h (.some a) (xs.flatMap enc))(H: ∀x,(enc x).length=sz){i:Nat}{x:α}(b:xs[i]? =.some x):dI (a.add (i*sz)) (enc x) 0 h:=by
 refine jA.2 λj v c=> ?_
 rw[bL,add_add];exact own.cell (qK enc sz H xs i x b j v c)
theorem fJ.addr{h:ai}{p:cy}{len cap sz:Nat}{cs:List Value}(own:fJ h p len cap sz cs)(d:0<len): ∃b off,p=.some (AA b off):=by
 cases own with
 |nil _ a _ _=>omega
 |row b off c t H _ _ _ _ _=>exact⟨b,off,H⟩
theorem fJ.pre{h:ai}{p:cy}{len cap sz:Nat}{cs:List Value}(own:fJ h p len cap sz cs){i:Nat}(H:i<=len):fJ h p i cap sz (cs.take (i*sz)):=by
 have:=own.sub (l:=0) (u:=i) (bG _) H;rwa[jN,Nat.zero_mul,gv]at this
theorem lO{α:Type}(enc:α->List Value)(sz:Nat)(h: ∀x,(enc x).length=sz): ∀(xs:List α)(i:Nat),(xs.flatMap enc).take (i*sz)=(xs.take i).flatMap enc
 | [],i=>bP
 |x::xs,0=>bP
 |x::xs,i+1=>by
  rw[fL,fN,fL,List.take_append,h,bJ (by rw[h,eM];omega),show(i+1)*sz - sz=i*sz by rw[eM];omega,lO enc sz h xs i]
theorem lP{α:Type}(enc:α->List Value)(sz:Nat)(h: ∀x,(enc x).length=sz): ∀(xs:List α)(i:Nat),(xs.flatMap enc).drop (i*sz)=(xs.drop i).flatMap enc
 | [],i=>bP
 |x::xs,0=>bP
 |x::xs,i+1=>by
  rw[fL,List.drop_succ_cons,List.drop_append,h,dC (by rw[h,eM];omega),dW,show(i+1)*sz - sz=i*sz by rw[eM];omega,lP enc sz h xs i]
theorem Lq{α:Type}(enc:α->List Value)(sz:Nat)(h: ∀x,(enc x).length=sz): ∀(xs:List α)(i:Nat)(y:α),i<xs.length->∀(cs:List Value),cs.length=(xs.flatMap enc).length->(∀j,j/sz≠i\/sz=0->cs[j]? =(xs.flatMap enc)[j]?)->(∀j v,j<sz->(enc y)[j]? =some v->cs[i*sz+j]? =some v)->cs=(xs.set i y).flatMap enc:=by
 intro xs i y q cs s k p;apply eV
 intro j;by_cases n:sz=0
 .rw[k j (.inr n)];have e1: ∀zs:List α,zs.flatMap enc= []:=λzs=>by
   have:=eU enc sz h zs;rw[n,Nat.mul_zero]at this;exact List.eq_nil_of_length_eq_zero this
  rw[e1,e1]
 have g:0<sz:=ag
 by_cases d:j/sz=i
 .have f:j=i*sz+j%sz:=by rw[<-d,Nat.mul_comm];exact(Nat.div_add_mod j sz).symm
  have c:=Nat.mod_lt j g;have H:(enc y)[j%sz]? =some ((enc y)[j%sz]'(by rw[h];exact c)):=aj _;have a:=p _ _ c H;have b:=qK enc sz h (xs.set i y) i y (by simp[q]) _ _ H;rw[<-f]at a b;rw[a,b]
 .rw[k j (.inl d)];by_cases m:j/sz<xs.length
  .have f:j=(j/sz)*sz+j%sz:=by rw[Nat.mul_comm];exact(Nat.div_add_mod j sz).symm
   have c:=Nat.mod_lt j g;have o:xs[j/sz]? =some (xs[j/sz]):=aj m;have r:(xs.set i y)[j/sz]? =some (xs[j/sz]):=by rw[dt,ae (λe=>d e.symm)];exact o
   have H:(enc xs[j/sz])[j%sz]? =some ((enc xs[j/sz])[j%sz]'(by rw[h];exact c)):=aj _;have a:=qK enc sz h xs _ _ o _ _ H;have b:=qK enc sz h (xs.set i y) _ _ r _ _ H;rw[<-f]at a b;rw[a,b]
  .have l:xs.length*sz<=j:=by
    have:=(Nat.le_div_iff_mul_le g).1 (Nat.le_of_not_lt m);exact this
   rw[cK (by rw[eU enc sz h];exact l),cK (by rw[eU enc sz h,dy];exact l)]
section
variable {P : Program}
theorem Ba{S elem ty:TypeId}{sz bytes:Nat}{z:Value}{h:ai}{p:cy}{len cap i:Nat}{cs:List Value}{K:fp}(T:oy P S elem sz bytes z)(G: ∀v∈z.cells.toList,fR v=true)(own:fJ h p len cap sz cs)(d:i<=len)(hk: ∀h',fJ h' p i cap sz (cs.take (i*sz))->Fr (aR p) h h'->K (.tuple #[]) h'):aW P (Builtin.clear_ #[S] ty #[.slice (cO p cap i sz) (len - i) (cap - i)]) h K:=by
 have fin:K (.tuple #[]) h:=hk h (own.pre d) (Fr.refl _ _);obtain⟨a',B,Z,_,N⟩:=T.i;unfold Builtin.clear_;show aW P (underlying S>>=_) h K;refine bT (s:=underlying S) (bA T.u) ?_;cases own with
 |nil f l w g=>
  subst f;have:cO none cap i sz=none:=by unfold cO;split<;>rfl
  rw[this];exact fin
 |row b off c t f q l w D g=>
  subst f;by_cases A:len - i=0
  .rw[A];cases X:cO (Sa b off) cap i sz with
   |none=>exact fin
   |some a=>exact fin
  .obtain⟨n,m⟩: ∃n,len - i=n+1:=⟨len - i - 1,ag⟩;have y:cap≠i:=ag
   have u:cO (Sa b off) cap i sz=some ⟨b,off+i*sz,none⟩:=by
    unfold cO;rw[ae y];show some (((AA b off):Addr).add (i*sz))=_;rw[gz]
   rw[u,m];show aW P (zeroValue elem>>=λz=>storeCells ⟨b,off+i*sz,none⟩ (Builtin.zeroCells z.cells (n+1)).toList>>=λ_=>pure (Value.tuple #[])) h K;refine bT (s:=zeroValue elem) (iE B N) ?_;rw[dB];have Q:=T.zs;have O:(Builtin.zeroCells z.cells (n+1)).toList.length=(n+1)*sz:=by simp[Builtin.zeroCells,Q]
   have U:off+i*sz+(n+1)*sz<=off+cap*sz:=by
    rw[<-m,Nat.sub_mul];have R:i*sz<=len*sz:=cQ _ d;have m2:len*sz<=cap*sz:=cQ _ l;omega
   refine sj (c:=c) (off:=off+i*sz) _ 0 h b t _ ?_ q (by rw[O];omega) ?_
   .intro v o;simp only[Builtin.zeroCells,Array.toList_map,bh]at o;obtain⟨k,C,rfl⟩:=o;have J:0<z.cells.size:=by
     rcases Nat.eq_zero_or_pos z.cells.size with e|e
     .simp[e]at C
     .exact e
    have E:=Nat.mod_lt k J;rw[getElem!_pos z.cells _ E];exact G _ bP
   .intro h' c' r Y F W L I;refine hk h' (.row b off c' t rfl r ag ag ?_ ?_) (Fr.of_eq L λx M=>I x (λe=>M ⟨_,rfl,e.symm⟩))
    .rw[bB,D];have R:i*sz<=len*sz:=cQ _ d;omega
    .intro j v H;rw[cP]at H;split at H
     .rename_i V;rw[F (off+j) ag];exact g j v H
     .cases H
theorem vi{s X ty elem eT t:TypeId}{sz bytes:Nat}{z:Value}{h:ai}{q:cy}{n cq:Nat}{ds:List Value}{K:fp}(T:oy P s elem sz bytes z)(H:P.underlying X=some (.slice eT))(l:Row h q ds)(hd:ds.length=n*sz)(k: ∀v∈ds,fR v=true)(f:n*bytes<=70368744177664)(m:n<=9223372036854775807)(hk: ∀p C h',fJ h' p n C sz ds->Fr (λ_=>False) h h'->(∀c,aR p c->h.size<=c)->K (.slice p n C) h'):
  aQ h (.cells #[] t) λb d=>aW P (Builtin.append_ #[s,X] ty #[.slice (Sa b 0) 0 0,.slice q n cq]) d K:=by
 refine cF ?_;have f1:Fr (λ_=>False) h (h.push (.cells #[] t)):=Fr.push _ _;refine dT (cs:= []) T H (.row h.size 0 #[] t rfl bV (bk _) bP bP (λj v i=>by cases i)) (l.frame f1 cb) hd k (cA f) ag ?_;intro p c' h' o1 _ f2 g;rw[bL,dW]at o1;rw[bL];refine hk p c' h' o1 (f1.step f2 (λc o ⟨a,e,e2⟩=>by cases e;simp at e2;omega)) (λx H=> ?_);rcases g x H with⟨a,e,rfl⟩|h2
 .cases e;exact bk _
 .simp at h2;omega
end
theorem Jb{α:Type}{enc:α->List Value}(a: ∀x,(enc x).length=2){xs:List α}{i:Nat}{y:α}{V v1:Value}(b:i<xs.length)(c:enc y= [V,v1]):((xs.flatMap enc).set (i*2) V).set (i*2+1) v1=(xs.set i y).flatMap enc:=by
 have d:=eU enc 2 a xs;refine Lq enc 2 a xs i y b _ bP (λj H=> ?_) (λj v H h=> ?_)
 .have H:j/2≠i:=ag
  rw[dt,dt,dc,dc]
 .rw[c]at h
  match j,H with
  |0,_=>
   simp only[dw,br]at h;rw[dt,dc,dt,fK,fK,h]
  |1,_=>
   simp only[dv,dw,br]at h;rw[dt,af rfl,af (by rw[dy];omega),h]
end Go.Den
set_option linter.unusedSectionVars false
namespace Go.Den
section
variable {P : Program} {α : Type} [DecidableEq α]
structure Bb (P:Program) (kt:TypeId) (enc:α->Value):Prop where
 eq: ∀(a b:α) (h:ai),rd P (Op.equal kt (enc a) (enc b)) h=some (decide (a=b))
 Rf: ∀(e:Bool) (a:α) (h:ai),rd P (Instr.checkKey e 10000 kt (enc a)) h=some ()
 now: ∃d,P.underlying kt=some d/\∀a b,Instr.sameNow d (enc a) (enc b)=none\/Instr.sameNow d (enc a) (enc b)=some (decide (a=b))
 bits: ∀a,Instr.sameBits 10000 (enc a) (enc a)=true
abbrev oQ(enc:α->Value)(t:α×Value×Nat):MapEntry:=⟨enc t.1,t.2.1,t.2.2⟩
abbrev pr(t:α×Value×Nat):α×Value:=(t.1,t.2.1)
structure Rh (h:ai) (m:Nat) (enc:α->Value) (T:List (α×Value×Nat)) (clock:Nat):Prop where
 cT:h[m]? =some (.map (T.map (oQ enc)).toArray clock)
 keys:(T.map (·.1)).Nodup
 py: ∀t∈T,t.2.2<clock
 born:(T.map (·.2.2)).Nodup
def ja(h:ai)(m:Nat)(enc:α->Value)(l:List (α×Value)):Prop:= ∃T c,Rh h m enc T c/\(T.map pr).Perm l
def vj(l:List (α×Value))(k:α):List (α×Value):=l.filter (λe=> !decide (e.1=k))
def DQ(l:List (α×Value))(k:α)(v:Value):List (α×Value):=(k,v)::vj l k
theorem ja.perm{h:ai}{m:Nat}{enc:α->Value}{l L:List (α×Value)}(H:ja h m enc l)(p:l.Perm L):ja h m enc L:=by
 obtain⟨T,c,a,b⟩:=H;exact⟨T,c,a,b.trans p⟩
theorem ja.lW{h h':ai}{m:Nat}{enc:α->Value}{l:List (α×Value)}(H:ja h m enc l)(g:h'[m]? =h[m]?):ja h' m enc l:=by
 obtain⟨T,c,⟨a,b,d,e⟩,f⟩:=H;exact⟨T,c,⟨g.trans a,b,d,e⟩,f⟩
theorem ja.lt{h:ai}{m:Nat}{enc:α->Value}{l:List (α×Value)}(H:ja h m enc l):m<h.size:=by
 obtain⟨T,c,a,_⟩:=H;exact aD a.cT
theorem ja.frame{S:Nat->Prop}{h h':ai}{m:Nat}{enc:α->Value}{l:List (α×Value)}(H:ja h m enc l)(a:Fr S h h')(b: ¬S m):ja h' m enc l:=H.lW (a.2 m H.lt b)
theorem ja.push(h:ai)(enc:α->Value):ja (h.push (.map #[] 0)) h.size enc []:=⟨[],0,⟨bV,bP,bP,bP⟩,.refl _⟩
theorem ja.nodup{h:ai}{m:Nat}{enc:α->Value}{l:List (α×Value)}(H:ja h m enc l):(l.map (·.1)).Nodup:=by
 obtain⟨T,c,b,d⟩:=H;have a:=d.map (·.1);rw[dE]at a;exact a.nodup_iff.1 b.keys
def lY(k:α):List (α×Value×Nat)->Nat->Option (Nat×Value)
 | [],_=>none
 |t::T,i=>if k=t.1 then some (i,t.2.1)else lY k T (i+1)
theorem oA{k:α}: ∀{T:List (α×Value×Nat)}{i:Nat},lY k T i=none->∀t∈T,t.1≠k
 | [],_,_,_,ht=>by cases ht
 |u::T,i,h,t,ht=>by
  unfold lY at h;split at h
  .cases h
  .rename_i H;rcases bH.1 ht with rfl|ht
   .exact λe=>H e.symm
   .exact oA h t ht
theorem oB{k:α}: ∀{T:List (α×Value×Nat)}{i j:Nat}{v:Value},lY k T i=some (j,v)->∃A B b,T=A++(k,v,b)::B/\j=i+A.length
 | [],_,_,_,h=>by cases h
 |u::T,i,j,v,h=>by
  unfold lY at h;split at h
  .rename_i H;simp only[br,gh]at h;obtain⟨rfl,rfl⟩:=h;subst H;exact⟨[],T,u.2.2,rfl,rfl⟩
  .obtain⟨A,B,b,rfl,rfl⟩:=oB h;exact⟨u::A,B,b,rfl,by rw[bf];omega⟩
theorem wJ{kt:TypeId}{enc:α->Value}{d:TypeDesc}(hd: ∀a b,Instr.sameNow d (enc a) (enc b)=none\/Instr.sameNow d (enc a) (enc b)=some (decide (a=b)))(k:α):
  ∀(T:List (α×Value×Nat))(i:Nat),Instr.findNow d (enc k) (T.map (oQ enc)) i=none\/Instr.findNow d (enc k) (T.map (oQ enc)) i=some (lY k T i)
 | [],i=> .inr rfl
 |t::T,i=>by
  rw[bX];unfold Instr.findNow lY;rcases hd k t.1 with e|e<;>rw[e]
  .exact .inl rfl
  .by_cases hk:k=t.1
   .rw[av hk,af hk];exact .inr rfl
   .rw[az hk,ae hk];exact wJ (kt:=kt) hd k T (i+1)
theorem Be{kt:TypeId}{enc:α->Value}(K:Bb P kt enc)(k:α)(h:ai): ∀(T:List (α×Value×Nat))(i:Nat),rd P (Instr.findAsking kt (enc k) (T.map (oQ enc)) i) h=some (lY k T i)
 | [],i=>rfl
 |t::T,i=>by
  rw[bX];unfold Instr.findAsking lY;rw[bt _ _ _ _ (K.eq k t.1 h)];by_cases hk:k=t.1
  .rw[av hk,af hk,af rfl];rfl
  .rw[az hk,ae hk,ae bP];exact Be K k h T (i+1)
theorem Co{kt:TypeId}{enc:α->Value}(K:Bb P kt enc)(k:α)(h:ai)(T:List (α×Value×Nat)):rd P (Instr.findKey kt (enc k) (T.map (oQ enc))) h=some (lY k T 0):=by
 obtain⟨d,H,a⟩:=K.now;unfold Instr.findKey;rw[bt _ _ _ _ (bA H)];rcases wJ (kt:=kt) a k T 0 with e|e<;>rw[e]
 .exact Be K k h T 0
 .rfl
structure nf (P:Program) (t:TypeId) (enc:α->Value) (z:Value):Prop where
 ty: ∃k e,P.underlying t=some (.map k e)/\Bb P k enc/\∃i,P.info? e=some i/\i.zero=some z
theorem nf.of{t:TypeId}{enc:α->Value}{z:Value}(k e:TypeId)(a:P.underlying t=some (.map k e))(b:Bb P k enc)(h:(P.info? e).bind (·.zero)=some z):nf P t enc z:=by
 cases H:P.info? e with
 |none=>rw[H]at h;cases h
 |some i=>exact⟨k,e,a,b,i,H,by rw[H]at h;exact h⟩
def qY(l:List (α×Value))(k:α):Option Value:=(l.find? (λe=>decide (e.1=k))).map (·.2)
theorem Bf{l:List (α×Value)}{k:α}:qY l k=none↔ ∀e∈l,e.1≠k:=by
 unfold qY;rw[Option.map_eq_none_iff,List.find?_eq_none];simp
theorem Bg{l:List (α×Value)}{k:α}{v:Value}(H:(l.map (·.1)).Nodup):qY l k=some v↔(k,v)∈l:=by
 induction l with
 |nil=>simp[qY]
 |cons e l i=>
  rw[bX,eP]at H;unfold qY at i⊢;rw[List.find?_cons];by_cases h:e.1=k
  .rw[av h];simp only[cZ,br,bH];constructor
   .rintro rfl;exact .inl (by rw[<-h])
   .rintro(rfl|hm)
    .rfl
    .exact absurd (bx (f:=(·.1)) hm) (by rw[<-h];exact H.1)
  .rw[az h];rw[i H.2,bH];constructor
   .exact .inr
   .rintro(rfl|hm)
    .exact absurd rfl h
    .exact hm
theorem ja.find{h:ai}{m:Nat}{enc:α->Value}{l:List (α×Value)}(H:ja h m enc l){T:List (α×Value×Nat)}(a:(T.map pr).Perm l)(k:α):(lY k T 0).map (·.2)=qY l k:=by
 have c:=H.nodup;cases e:lY k T 0 with
 |none=>
  symm
  rw[Option.map_none,Bf];intro x f;obtain⟨t,d,rfl⟩:=bh.1 (a.mem_iff.2 f);exact oA e t d
 |some J=>
  obtain⟨j,v⟩:=J;obtain⟨A,B,b,rfl,_⟩:=oB e;symm
  rw[cZ,Bg c];exact a.mem_iff.1 bP
theorem PE{t:TypeId}{enc:α->Value}{z:Value}(K:nf P t enc z){h:ai}{m:Nat}{l:List (α×Value)}(H:ja h m enc l)(k:α)(ok:Bool):
  rd P (Instr.lookup t (.map (some m)) (enc k) ok) h=some (if ok then .tuple #[(qY l k).getD z,.bool (qY l k).isSome]else(qY l k).getD z):=by
 obtain⟨kt,e,f,hk,i,b,g⟩:=K.ty;have a:=H;obtain⟨T,c,H,d⟩:=H;rw[<-a.find d k];unfold Instr.lookup;rw[bt _ _ _ _ (bA f)];simp only;rw[bt _ _ _ _ (iO H.cT)];simp only;rw[bt _ _ _ _ (iU _),bt _ _ _ _ (hk.Rf _ k h),bt _ _ _ _ (Co hk k h T)];cases j:lY k T 0 with
 |none=>
  simp only;rw[bt _ _ _ _ (iE b g)];cases ok<;>rfl
 |some J=>cases ok<;>rfl
theorem HM{t:TypeId}{enc:α->Value}{z:Value}(K:nf P t enc z){h:ai}{m:Nat}{l:List (α×Value)}(H:ja h m enc l)(k:α):hI P t (.map (some m)) (enc k) false h ((qY l k).getD z):=λh' a=>by
 have:=PE K (H.lW (h':=h') a) k false;simpa using this
theorem Jc{t:TypeId}{enc:α->Value}{z:Value}(K:nf P t enc z){h:ai}{m:Nat}{l:List (α×Value)}(H:ja h m enc l)(k:α):hI P t (.map (some m)) (enc k) true h (.tuple #[(qY l k).getD z,.bool (qY l k).isSome]):=λh' a=>by
 have:=PE K (H.lW (h':=h') a) k true;simpa using this
theorem FP{t ty:TypeId}{enc:α->Value}{z:Value}(K:nf P t enc z){h:ai}{m:Nat}{l:List (α×Value)}(H:ja h m enc l):NY P #[t] ty (.map (some m)) h (.I (l.length:Int)):=λh' f=>by
 obtain⟨kt,e,g,_⟩:=K.ty;obtain⟨T,c,H,d⟩:=H;have a:h'[m]? =some (.map (T.map (oQ enc)).toArray c):=Eq.trans f H.cT;have b:T.length=l.length:=by rw[<-d.length_eq,aF]
 unfold Builtin.len_;show rd P (underlying t>>=_) h'=_;rw[bt _ _ _ _ (bA g)];show rd P (getObj m>>=_) h'=_;rw[bt _ _ _ _ (iO a)];show some (goInt _)=_;simp[b,goInt]
theorem FQ{b:Type}(A B:List b)(t:b)(f:b->b):(A++t::B).modify A.length f=A++f t::B:=by
 induction A with
 |nil=>rfl
 |cons a A i=>simp only[eR,bf,List.modify_succ_cons,i]
theorem Jd{b:Type}(A B:List b)(t:b):(A++t::B).eraseIdx A.length=A++B:=by
 induction A with
 |nil=>rfl
 |cons a A i=>simp only[eR,bf,List.eraseIdx_cons_succ,i]
theorem Bh{l L:List (α×Value)}(p:l.Perm L)(k:α):(vj l k).Perm (vj L k):=p.filter _
theorem DR{A B:List (α×Value×Nat)}{k:α}{v:Value}{b:Nat}(c:((A++(k,v,b)::B).map (·.1)).Nodup):vj ((A++(k,v,b)::B).map pr) k=(A++B).map pr:=by
 rw[aZ,bX,eK]at c;obtain⟨_,a,d⟩:=c;rw[eP]at a;unfold vj;rw[aZ,bX,fy,ch,ae bP,aZ];congr 1
 .rw[cj];intro e h;obtain⟨t,H,rfl⟩:=bh.1 h;have:=d t.1 (bx H) k bP;simp[this]
 .rw[cj];intro e h;obtain⟨t,H,rfl⟩:=bh.1 h;have:t.1≠k:=λe=>a.1 (bh.2 ⟨t,H,e⟩)
  simp[this]
theorem qL{l:List (α×Value)}{k:α}(H: ∀e∈l,e.1≠k):vj l k=l:=by
 unfold vj;rw[cj];intro e h;simp[H e h]
theorem yy{t:TypeId}{enc:α->Value}{z:Value}(K:nf P t enc z){h:ai}{m:Nat}{l:List (α×Value)}(H:ja h m enc l){k:α}{v:Value}{Q:Unit->ai->Prop}(hk: ∀h',ja h' m enc (DQ l k v)->h'.size=h.size->(∀c,c≠m->h'[c]? =h[c]?)->Q () h'):aW P (Instr.mapUpdate t (.map (some m)) (enc k) v) h Q:=by
 obtain⟨kt,e,ht,o,_⟩:=K.ty;obtain⟨T,c,H,p⟩:=H;have G:=aD H.cT;unfold Instr.mapUpdate;refine bT (bA ht) ?_;simp only;refine bT (iO H.cT) ?_;simp only;refine bT (o.Rf _ k h) ?_;have fin: ∀(d:List (α×Value×Nat))(E:Array MapEntry)(c':Nat),E.toList=d.map (oQ enc)->(d.map (·.1)).Nodup->(∀t∈d,t.2.2<c')->(d.map (·.2.2)).Nodup->(d.map pr).Perm (DQ l k v)->aW P (setObj m (.map E c')) h Q:=λd E c' w y C D F=>by
  refine⟨⟨_,H.cT,λc e f n=>by cases n⟩,?_⟩;refine hk _ ⟨d,c',⟨?_,y,C,D⟩,F⟩ bP (λx J=> ?_)
  .rw[<-w];simp[G]
  .rw[cB,ae (fo J)]
 refine bT (Co o k h T) ?_;cases q:lY k T 0 with
 |none=>
  simp only;have s:=oA q;refine fin (T++ [(k,v,c)]) _ _ bP ?_ ?_ ?_ ?_
  .rw[aZ,eK];refine⟨H.keys,bP,λa i b g=> ?_⟩;obtain⟨t,ht,rfl⟩:=bh.1 i;simp at g;subst g;exact s t ht
  .intro t ht;rcases bM.1 ht with ht|ht
   .exact Nat.lt_succ_of_lt (H.py t ht)
   .obtain rfl:=bN.1 ht;exact Nat.lt_succ_self _
  .rw[aZ,eK];refine⟨H.born,bP,λa i b g=> ?_⟩;obtain⟨t,ht,rfl⟩:=bh.1 i;simp at g;subst g;exact Nat.ne_of_lt (H.py t ht)
  .unfold DQ;rw[qL (λe n=>by obtain⟨t,ht,rfl⟩:=bh.1 (p.mem_iff.2 n);exact s t ht),aZ];exact(List.perm_append_comm.trans (.refl _)).trans (List.Perm.cons _ p)
 |some L=>
  obtain⟨j,u⟩:=L;obtain⟨A,B,b,rfl,r⟩:=oB q;rw[bL]at r;subst r;simp only;have I:rd P (Instr.keyThatStays (((((A++(k,u,b)::B).map (oQ enc)).toArray[A.length]?).map (·.key)).getD (enc k)) (enc k)) h=some (enc k):=by
   have:((A++(k,u,b)::B).map (oQ enc)).toArray[A.length]? =some (oQ enc (k,u,b)):=bP
   rw[this];simp only[cZ,Option.getD_some];unfold Instr.keyThatStays;rw[af (o.bits k)];rfl
  refine bT I ?_;refine fin (A++(k,v,b)::B) _ _ ?_ ?_ ?_ ?_ ?_
  .rw[Array.toList_modify,aZ,bX];have:=FQ (A.map (oQ enc)) (B.map (oQ enc)) (oQ enc (k,u,b)) (λe=> { e with key:=enc k,val:=v });rw[aF]at this;rw[this,aZ,bX]
  .have:=H.keys;simpa using this
  .intro t ht;rcases bM.1 ht with ht|ht
   .exact H.py t (dS _ ht)
   .rcases bH.1 ht with rfl|ht
    .exact H.py (k,u,b) bP
    .exact H.py t (by simp[ht])
  .have:=H.born;simpa using this
  .unfold DQ;refine List.Perm.trans ?_ (List.Perm.cons _ ((DR H.keys▸Bh p k)));rw[aZ,bX,aZ];exact List.perm_middle
theorem DS{t L ty:TypeId}{enc:α->Value}{z:Value}(K:nf P t enc z){h:ai}{m:Nat}{l:List (α×Value)}(H:ja h m enc l){k:α}{Q:fp}(hk: ∀h',ja h' m enc (vj l k)->h'.size=h.size->(∀c,c≠m->h'[c]? =h[c]?)->Q (.tuple #[]) h'):aW P (Builtin.delete_ #[t,L] ty #[.map (some m),enc k]) h Q:=by
 obtain⟨kt,e,d,r,_⟩:=K.ty;obtain⟨T,c,H,n⟩:=H;have F:=aD H.cT;unfold Builtin.delete_;refine bT (bA d) ?_;show aW P (do
   let __x<-getObj m
   match __x with
    |Obj.map es C=>do
     Instr.checkKey es.isEmpty 10000 kt (enc k)
     let __do_lift<-Instr.findKey kt (enc k) es.toList
     match __do_lift with
      |some (i,_)=>do
       setObj m (Obj.map (es.eraseIdxIfInBounds i) C)
       pure (Value.tuple #[])
      |none=>do
       setObj m (Obj.map es C)
       pure (Value.tuple #[])
    |_=>do
     stuck "delete: map expected"
     pure (Value.tuple #[])) h Q
 refine bT (iO H.cT) ?_;simp only;refine bT (r.Rf _ k h) ?_;have fin: ∀(a:List (α×Value×Nat))(E:Array MapEntry),E.toList=a.map (oQ enc)->(a.map (·.1)).Nodup->(∀t∈a,t.2.2<c)->(a.map (·.2.2)).Nodup->(a.map pr).Perm (vj l k)->aW P (do setObj m (.map E c);pure (Value.tuple #[])) h Q:=λa E s v w y D=>by
  rw[dB];refine⟨⟨_,H.cT,λc e f g=>by cases g⟩,?_⟩;refine hk _ ⟨a,c,⟨?_,v,w,y⟩,D⟩ bP (λx I=> ?_)
  .rw[<-s];simp[F]
  .rw[cB,ae (fo I)]
 refine bT (Co r k h T) ?_;cases p:lY k T 0 with
 |none=>
  have G:=oA p;refine fin T _ rfl H.keys H.py H.born ?_;rw[qL (λe g=>by obtain⟨t,d,rfl⟩:=bh.1 (n.mem_iff.2 g);exact G t d)];exact n
 |some J=>
  obtain⟨j,u⟩:=J;obtain⟨A,B,b,rfl,q⟩:=oB p;rw[bL]at q;subst q;have o:List.Sublist (A++B) (A++(k,u,b)::B):=List.Sublist.append (List.Sublist.refl _) (List.sublist_cons_self _ _);refine fin (A++B) _ ?_ ((o.map _).nodup H.keys) (λt d=>H.py t (o.subset d)) ((o.map _).nodup H.born) (DR H.keys▸Bh n k);rw[Array.toList_eraseIdxIfInBounds,aZ,bX];have:=Jd (A.map (oQ enc)) (B.map (oQ enc)) (oQ enc (k,u,b));rw[aF]at this;rw[this,aZ]
def Iter(h:ai)(r m:Nat)(enc:α->Value)(l done:List (α×Value)):Prop:=
 ∃T c D L,Rh h m enc T c/\(T.map pr).Perm l/\h[r]? =some (.mapIter (some m) c (D.map (·.2.2)).toArray L)/\(D≠ []->L=c)/\D.Nodup/\(∀t∈D,t∈T)/\D.map pr=done/\r≠m
theorem Iter.frame{S:Nat->Prop}{h h':ai}{r m:Nat}{enc:α->Value}{l done:List (α×Value)}(H:Iter h r m enc l done)(f:Fr S h h')(a: ¬S r)(b: ¬S m):Iter h' r m enc l done:=by
 obtain⟨T,c,D,L,A,B,C,E⟩:=H;exact⟨T,c,D,L,⟨f.get A.cT b,A.keys,A.py,A.born⟩,B,f.get C a,E⟩
theorem Iter.le{h:ai}{r m:Nat}{enc:α->Value}{l done:List (α×Value)}(H:Iter h r m enc l done):done.length<=l.length:=by
 obtain⟨T,c,D,L,A,B,_,_,a,b,rfl,_⟩:=H;rw[aF,<-B.length_eq,aF];exact a.length_le_of_subset (λt d=>b t d)
theorem FR{t:TypeId}{enc:α->Value}{z:Value}(K:nf P t enc z){h:ai}{m:Nat}{l:List (α×Value)}(H:ja h m enc l){Q:fp}(hk: ∀r h',r=h.size->Iter h' r m enc l []->Fr (λ_=>False) h h'->Q (.P r 0) h'):aW P (Instr.range t (.map (some m))) h Q:=by
 obtain⟨kt,e,a,d,_⟩:=K.ty;obtain⟨T,c,H,b⟩:=H;unfold Instr.range;refine bT (bA a) ?_;simp only;show aW P (getObj m>>=_) h Q;refine bT (iO H.cT) ?_
 .have f:Fr (λ_=>False) h (h.push (.mapIter (some m) c #[] c)):=Fr.push _ _;exact hk h.size _ rfl ⟨T,c, [],c,⟨f.get H.cT id,H.keys,H.py,H.born⟩,b,bV,(λe=>absurd rfl e),.nil,(λt a=>by cases a),rfl,λe=>bY (aD H.cT)⟩ f
theorem yz{a:Type}{n:Nat}{g:Nat->Sem a}{h:ai}{Q:a->ai->Prop}(H:0<n)(hk: ∀i,i<n->aW P (g i) h Q):aW P (choose (.mapNext n)>>=g) h Q:=by
 show(if(Question.mapNext n).forced=true then aW P (g 0) h Q else∀t,aW P (g ((Question.mapNext n).cut t)) h Q);split
 .exact hk 0 H
 .intro t;exact hk _ (Nat.mod_lt _ H)
theorem Je{ty:TypeId}{enc:α->Value}{h:ai}{r m:Nat}{l done:List (α×Value)}(I:Iter h r m enc l done){Q:fp}(k1:done.Perm l->Q (.tuple #[.bool false]) h)(k2: ∀a v h',(a,v)∈l->(a,v)∉done->Iter h' r m enc l (done++ [(a,v)])->h'.size=h.size->(∀c,c≠r->h'[c]? =h[c]?)->Q (.tuple #[.bool true,enc a,v]) h'):
  aW P (Instr.next (.P r 0) false ty) h Q:=by
 classical
 obtain⟨T,c,D,L,M,z,A,X,C,n,rfl,E⟩:=I;have Z:=aD A;have N:T.Nodup:=by
  have:=M.keys;exact List.Pairwise.of_map (S:=(· ≠ ·)) (·.1) (λa b R e=>R (by rw[e])) this
 unfold Instr.next;simp only;have e':rd P (getObj r) h=some (.mapIter (some m) c (D.map (·.2.2)).toArray L):=by unfold getObj;simp only[rd,A]
 refine bT e' ?_;simp only;refine bT (iO M.cT) ?_;simp only;have hq:(!(D.map (·.2.2)).toArray.isEmpty && !(T.map (oQ enc)).toArray.isEmpty && (T.map (oQ enc)).toArray.all (λe=>decide (e.born≥L)))=false:=by
  cases B:D with
  |nil=>rfl
  |cons d D'=>
   have hl:=X (by rw[B];simp);have hd:d∈T:=n d (by rw[B];simp);have:(T.map (oQ enc)).toArray.all (λe=>decide (e.born≥L))=false:=by
    rw[List.all_toArray,List.all_eq_false];exact⟨oQ enc d,bx hd,by simp;have:=M.py d hd;omega⟩
   rw[this];simp
 rw[ae (by rw[hq];simp)];have Y:(T.map (oQ enc)).toArray.filter (λe=> !(D.map (·.2.2)).toArray.contains e.born)=((T.filter (λt=> !decide (t∈D))).map (oQ enc)).toArray:=by
  apply Array.ext'
  rw[Array.toList_filter];simp only[];rw[du];congr 1
  apply dR
  intro t g;have:(D.map (·.2.2)).toArray.contains (oQ enc t).born=decide (t∈D):=by
   by_cases p:t∈D
   .rw[av p];simp;exact⟨t.1,t.2.1,p⟩
   .rw[az p];simp only[List.contains_toArray,List.contains_eq_mem,eN,bh,not_exists,not_and];intro u hu e;have W:u=t:=by
     have o:=M.born;have f':=n u hu;obtain⟨i,H⟩:=bE f';obtain⟨j,k⟩:=bE g;have y:=(aB.1 H).1;have:=(eg (l:=T.map (·.2.2)) (i:=i) (j:=j) (cA y) o).1 (by rw[aK,aK,H,k];simp[e]);subst this;rw[H]at k;exact aX k
    exact p (W▸hu)
  simp only[Function.comp,this]
 have d':(((T.filter (λt=> !decide (t∈D))).map (oQ enc)).toArray.filter (λe=>decide (e.born<c)))=((T.filter (λt=> !decide (t∈D))).map (oQ enc)).toArray:=by
  rw[Array.filter_eq_self];intro e w;obtain⟨t,g,rfl⟩:=bh.1 (List.mem_toArray.1 w);exact av (M.py t (ba.1 g).1)
 have c':(((T.filter (λt=> !decide (t∈D))).map (oQ enc)).toArray.filter (λe=>decide (e.born≥c)))= #[]:=by
  rw[Array.filter_eq_empty_iff];intro e w;obtain⟨t,g,rfl⟩:=bh.1 (List.mem_toArray.1 w);have:=M.py t (ba.1 g).1;simp;omega
 rw[Y,d',c'];simp only[Array.append_empty];cases s:T.filter (λt=> !decide (t∈D))with
 |nil=>
  refine yz bP λi H=> ?_
  have:i=0:=by simpa using H
  subst this;have J:((if((([]:List (α×Value×Nat)).map (oQ enc)).toArray.isEmpty=true)then #[none]else #[])++Array.map some (([]:List (α×Value×Nat)).map (oQ enc)).toArray)[0]? =some none:=bP
  rw[J];show aW P (pure (.tuple #[.bool false])) h Q;refine k1 ?_;refine List.Perm.trans (List.Perm.map _ ?_) z;rw[List.perm_ext_iff_of_nodup C N];intro t;refine⟨n t,λg=> ?_⟩;have:=List.filter_eq_nil_iff.1 s t g;simpa using this
 |cons f F=>
  refine yz bP λi H=> ?_
  rw[<-s]at H⊢;have b':(((T.filter (λt=> !decide (t∈D))).map (oQ enc)).toArray.isEmpty)=false:=by rw[s];rfl
  rw[b']at H⊢;simp only[au,aM,Array.empty_append]at H⊢;have V:i<(T.filter (λt=> !decide (t∈D))).length:=by simpa using H
  obtain⟨t,g⟩: ∃t,(T.filter (λt=> !decide (t∈D)))[i]? =some t:=⟨_,aj V⟩;have U:(Array.map some ((T.filter (λt=> !decide (t∈D))).map (oQ enc)).toArray)[i]? =some (some (oQ enc t)):=by simp[g]
  rw[U];have q:=ba.1 (bn g);have G:t∉D:=by simpa using q.2
  refine⟨⟨_,A,λ_ _ _ e=>by cases e⟩,?_⟩;refine k2 t.1 t.2.1 _ (z.mem_iff.1 (bx (f:=pr) q.1)) ?_ ⟨T,c,D++ [t],c,⟨?_,M.keys,M.py,M.born⟩,z,?_,(λ_=>rfl),?_,?_,?_,E⟩ bP (λx hx=> ?_)
  .intro a';obtain⟨u,hu,e⟩:=bh.1 a';have K:u.1=t.1:=bU (λx:α×Value=>x.1) e;have:u=t:=by
    obtain⟨i,H⟩:=bE (n u hu);obtain⟨j,k⟩:=bE q.1;have y:=(aB.1 H).1;have:=(eg (l:=T.map (·.1)) (i:=i) (j:=j) (cA y) M.keys).1 (by rw[aK,aK,H,k];simp[K]);subst this;rw[H]at k;exact aX k
   exact G (this▸hu)
  .rw[cB,ae E];exact M.cT
  .simp[Z]
  .rw[eK];exact⟨C,bP,λa O b o=>by simp at o;subst o;exact λe=>G (e▸O)⟩
  .intro u hu;rcases bM.1 hu with hu|hu
   .exact n u hu
   .obtain rfl:=bN.1 hu;exact q.1
  .rw[aZ];rfl
  .rw[cB,ae (fo hx)]
end
end Go.Den
namespace Go.Den
section
variable {P : Program} {α : Type}
theorem find_born(enc:α->Value){t:α×Value×Nat}: ∀{T:List (α×Value×Nat)},(T.map (·.2.2)).Nodup->t∈T->T.find? ((λe:MapEntry=>e.born==t.2.2) ∘ oQ enc)=some t
 | [],_,h=>by cases h
 |u::T,a,h=>by
  rw[bX,eP]at a;rw[List.find?_cons];by_cases H:u.2.2=t.2.2
  .have:((λe:MapEntry=>e.born==t.2.2) ∘ oQ enc) u=true:=by simp[H]
   rw[this];rcases bH.1 h with e|e
   .rw[e]
   .exact absurd (bh.2 ⟨t,e,H.symm⟩) a.1
  .have:((λe:MapEntry=>e.born==t.2.2) ∘ oQ enc) u=false:=by simp[H]
   rw[this];rcases bH.1 h with e|e
   .exact absurd (by rw[e]) H
   .exact find_born enc a.2 e
theorem yA{t:TypeId}{s:ByteArray}{h:ai}{Q:fp}(H:P.underlying t=some .string)(hk: ∀r h',r=h.size->h'[r]? =some (.stringIter s 0)->Fr (λ_=>False) h h'->Q (.P r 0) h'):
  aW P (Instr.range t (.string s)) h Q:=by
 unfold Instr.range;refine bT (bA H) ?_;exact hk h.size _ rfl bV (Fr.push _ _)
theorem Jf{ty:TypeId}{s:ByteArray}{h:ai}{r pos:Nat}{Q:fp}(a:h[r]? =some (.stringIter s pos))(k:s.size<=pos->Q (.tuple #[.bool false]) h)(K:pos<s.size->∀h',h'[r]? =some (.stringIter s (pos+(Utf8.decode s pos).2))->h'.size=h.size->(∀c,c≠r->h'[c]? =h[c]?)->Q (.tuple #[.bool true,.I (pos:Int),.int .i32 ((Utf8.decode s pos).1:Int)]) h'):
  aW P (Instr.next (.P r 0) true ty) h Q:=by
 have d:=aD a;unfold Instr.next;simp only;have f:rd P (getObj r) h=some (.stringIter s pos):=by unfold getObj;simp only[rd,a]
 refine bT f ?_;simp only;by_cases H:pos<s.size
 .rw[af H];refine⟨⟨_,a,λ_ _ _ e=>by cases e⟩,?_⟩;exact K H _ (by simp[d]) bP (λc b=>by rw[cB,ae (fo b)])
 .rw[ae H];exact k ag
theorem FU{enc:α->Value}{h:ai}{r m:Nat}{l done:List (α×Value)}{a:α}{v:Value}(I:Iter h r m enc l (done++ [(a,v)])){Q:fp}(hk:Q (.tuple #[enc a,v]) h):
  aW P (Instr.entry (.P r 0)) h Q:=by
 obtain⟨T,c,D,L,M,q,i,g,o,k,hd,p⟩:=I;rcases List.eq_nil_or_concat D with rfl|⟨D',t,rfl⟩
 .simp at hd
 rw[List.concat_eq_append]at*;rw[aZ]at hd;obtain⟨_,e2⟩:=List.append_inj' hd rfl;have e2:pr t=(a,v):=by simpa using e2
 have E:t.1=a:=bU (λx:α×Value=>x.1) e2;have b:t.2.1=v:=bU (λx:α×Value=>x.2) e2;have n:t∈T:=k t bP;have f:=g bP;unfold Instr.entry;simp only;have j:rd P (getObj r) h=some (.mapIter (some m) c ((D'++ [t]).map (·.2.2)).toArray L):=by unfold getObj;simp only[rd,i]
 refine bT j ?_;simp only;have H:((D'++ [t]).map (·.2.2)).toArray.back? =some t.2.2:=bP
 rw[H];simp only;refine bT (iO M.cT) ?_;simp only;rw[f,ae bP];have d:(T.map (oQ enc)).toArray.find? (λe=>e.born==t.2.2)=some (oQ enc t):=by
  rw[List.find?_toArray,List.find?_map];have:T.find? ((λe:MapEntry=>e.born==t.2.2) ∘ oQ enc)=some t:=find_born enc M.born n;rw[this];rfl
 rw[d];show Q (.tuple #[enc t.1,t.2.1]) h;rw[E,b];exact hk
end
end Go.Den
namespace Go.Den
section
variable {P : Program}
def Cq(P:Program)(eq:TypeId->Value->Value->Option Bool)(xs ys:Array Value)(t:TypeId)(off:Nat)(a:Option Bool):Option Bool:=
 match jO P (part t xs off),jO P (part t ys off)with
 |some u,some v=>(match eq t u v,a with|some b,some c=>some (b && c)|_,_=>none)
 |_,_=>none
def Ri(P:Program):Nat->TypeId->Value->Value->Option Bool
 |0,_,_,_=>none
 |n+1,t,x,y=>
  match P.underlying t with
  |some .bool=>(match x,y with| .bool a,.bool b=>some (a==b)|_,_=>none)
  |some (.int _)=>(match x,y with| .int k a,.int k' b=>(match decide (k=k')with|true=>some (a==b)|false=>none)|_,_=>none)
  |some .string=>(match x,y with| .string a,.string b=>some (a==b)|_,_=>none)
  |some (.struct fs)=>(match x,y with
   | .agg xs,.agg ys=>(match P.stoodInHeld t with
    |true=>none
    |false=>fs.toList.foldr (λf A=>match decide (f.name= "_")with|true=>A|false=>Cq P (Ri P n) xs ys f.type f.offset A) (some true))
   |_,_=>none)
  |some (.array len e)=>(match x,y,P.info? e with
   | .agg xs,.agg ys,some i=>(List.range len).foldr (λk A=>Cq P (Ri P n) xs ys e (k*i.size) A) (some true)
   |_,_,_=>none)
  |_=>none
theorem qM{i:Type}{h:ai}{step:i->Option Bool->Option Bool}{B:i->Option Bool×Unit->Sem (ForInStep (Option Bool×Unit))}: ∀(l:List i)(b:Bool),l.foldr step (some true)=some b->
  (∀f a b,step f a=some b->(a=some b/\rd P (B f (none,())) h=some (.yield (none,())))\/∃q c,a=some c/\b=(q && c)/\rd P (B f (none,())) h=some (if q=true then .yield (none,())else .done (some false,())))->
  rd P (forIn l (none,()) B) h=some (if b=true then(none,())else(some false,()))
 | [],b,H,_=>by
  cases aX H;rfl
 |f::l,b,H,g=>by
  rw[List.foldr_cons]at H;rw[List.forIn_cons];rcases g f _ b H with⟨d,e⟩|⟨q,c,d,rfl,e⟩
  .rw[bt _ _ _ _ e];exact qM l b d g
  .rw[bt _ _ _ _ e];cases q with
   |true=>rw[dL];exact qM l c d g
   |false=>rfl
theorem Bi{eq:TypeId->Value->Value->Option Bool}{n:Nat}(d: ∀t x y b,eq t x y=some b->∀h,rd P (Op.equalIn n t x y) h=some b){xs ys:Array Value}{t:TypeId}{off:Nat}{a:Option Bool}{b:Bool}{h:ai}(H:Cq P eq xs ys t off a=some b):
  ∃q c u v,a=some c/\b=(q && c)/\rd P (part t xs off) h=some u/\rd P (part t ys off) h=some v/\rd P (Op.equalIn n t u v) h=some q:=by
 unfold Cq at H;split at H
 .rename_i u v f g;split at H
  .rename_i q c e;exact⟨q,c,u,v,rfl,(aX H).symm,rX _ _ f h,rX _ _ g h,d _ _ _ _ e h⟩
  .cases H
 .cases H
theorem FV : ∀(n : Nat)(t : TypeId)(x y : Value)(b : Bool), Ri P n t x y = some b -> ∀ h, rd P (Op.equalIn n t x y) h = some b
  | 0, _, _, _, _, H => by cases H
  | n + 1, t, x, y, b, H => by
    intro h
    unfold Ri at H
    unfold Op.equalIn
    split at H
    · rename_i g
      rw [bt _ _ _ _ (bA g)]
      split at H
      · rw [<- H]; rfl
      · cases H
    · rename_i d g
      rw [bt _ _ _ _ (bA g)]
      split at H
      · rename_i k a k' c
        split at H
        · rename_i hk
          simp only [aU hk, bj]
          rw [<- H]; rfl
        · cases H
      · cases H
    · rename_i g
      rw [bt _ _ _ _ (bA g)]
      split at H
      · rw [<- H]; rfl
      · cases H
    · rename_i fs g
      rw [bt _ _ _ _ (bA g)]
      split at H
      · rename_i xs ys
        split at H
        · cases H
        · rename_i C
          dsimp only
          rw [bt _ _ _ _ (show rd P program h = some P from rfl), C]
          simp only [au, aM]
          rw [<- Array.forIn_toList, bt _ _ _ _ (qM (h := h) fs.toList b H ?_)]
          · cases b <;> rfl
          · intro f A b j
            split at j
            · rename_i w
              refine .inl ⟨j, ?_⟩
              rw [ae (cA w)]
              rfl
            · rename_i w
              obtain ⟨q, c, u, v, l, m, o, p, r⟩ := Bi (h := h) (λt x y b s h => FV n t x y b s h) j
              refine .inr ⟨q, c, l, m, ?_⟩
              rw [af (cA w), bt _ _ _ _ o, bt _ _ _ _ p, bt _ _ _ _ r]
              cases q <;> rfl
      · cases H
    · rename_i len e g
      rw [bt _ _ _ _ (bA g)]
      split at H
      · rename_i xs ys i z
        dsimp only
        rw [bt _ _ _ _ (gR z), Std.Legacy.Range.forIn_eq_forIn_range']
        have B : List.range' ([:len] : Std.Legacy.Range).start ([:len] : Std.Legacy.Range).size ([:len] : Std.Legacy.Range).step = List.range len := by
          simp [Std.Legacy.Range.size, fG]
        rw [B, bt _ _ _ _ (qM (h := h) (List.range len) b H ?_)]
        · cases b <;> rfl
        · intro k A b j
          obtain ⟨q, c, u, v, l, m, o, p, r⟩ := Bi (h := h) (λt x y b s h => FV n t x y b s h) j
          refine .inr ⟨q, c, l, m, ?_⟩
          rw [bt _ _ _ _ o, bt _ _ _ _ p, bt _ _ _ _ r]
          cases q <;> rfl
      · cases H
    · cases H
theorem Aj.of{t:TypeId}{x y:Value}{b:Bool}(H:Ri P 10000 t x y=some b):Aj P t x y b:=λh=>FV 10000 t x y b H h
end
section
variable {b off:Nat}
theorem tC : ∀(vs:List Value)(i:Nat)(h:ai)(K:ai->Prop),dD (AA b 0) vs (off+i) h K->dD (AA b off) vs i h K
 | [],_,_,_,H=>H
 |v::vs,i,h,K,H=>by
  unfold dD at H⊢;cases a:fR v with
  |false=>rw[a]at H;exact H
  |true=>
   rw[a]at H;dsimp only at H⊢;rw[gz,bL]at H;rw[gz];obtain⟨c,d,f⟩:=H;exact⟨c,d,λh' e=>tC vs (i+1) h' K (f h' e)⟩
theorem kk{h:ai}{c:Array Value}{t:TypeId}{vs ws:List Value}{K:ai->Prop}(d:h[b]? =some (.cells c t (0,0)))(i:off+vs.length<=c.size)(f:vs.all fR=true)(e:c.toList.take off++vs++c.toList.drop (off+vs.length)=ws)(hk: ∀h',h'[b]? =some (.cells ws.toArray t (0,0))->h'.size=h.size->(∀x,x≠b->h'[x]? =h[x]?)->K h'):dD (AA b off) vs 0 h K:=by
 refine tC vs 0 h K (pS vs (off+0) h c K d ag f λh' c' B z q r s o=>hk h' ?_ s o);have:c'=ws.toArray:=by
  subst e;apply Array.ext'
  apply eV
  intro j;have k:c.toList.length=c.size:=ee;rw[dq];show c'[j]? =(c.toList.take off++vs++c.toList.drop (off+vs.length))[j]?;by_cases a:j<off
  .rw[dQ,cS (by rw[bB];omega),cP,af a,dq];exact q j ag
  .by_cases g:j<off+vs.length
   .have l1:(c.toList.take off).length=off:=by rw[bB];omega
    rw[dQ,cG ag,l1,cS ag];have H:j - off<vs.length:=ag
    have:=r (j - off) vs[j - off] (aj H);rw[show off+0+(j - off)=j by omega]at this;rw[this,aj H]
   .have l1:(c.toList.take off++vs).length=off+vs.length:=by rw[aA,bB];omega
    rw[cG ag,l1,eO,dq,show off+vs.length+(j - (off+vs.length))=j by omega];exact q j ag
 rw[<-this];exact B

end
section
variable {P : Program}
theorem Lr{t elem:TypeId}{bytes:Nat}{z Z:Value}{h:ai}{K:fp}(T:oy P t elem 1 bytes z)(A:z.cells= #[Z])(n:Nat)(C:n*bytes<=70368744177664)(D:n<=9223372036854775807)(hk: ∀h' p,fJ h' p n n 1 (List.replicate n Z)->Fr (λ_=>False) h h'->(∀c,aR p c->h.size<=c)->K (.slice p n n) h'):
  aW P (Instr.makeSlice t (.I (n:Int)) (.I (n:Int))) h K:=by
 obtain⟨i,b,x,rfl,k⟩:=T.i;unfold Instr.makeSlice;refine bT (s:=underlying t) (bA T.u) ?_;refine bT (s:=asInt (.I (n:Int))) (a:=(n:Int)) rfl ?_;refine bT (s:=asInt (.I (n:Int))) (a:=(n:Int)) rfl ?_;refine bT (s:=typeInfo elem) (gQ b) ?_;simp only[];rw[bD (n:=(n:Int)) ag ag];have u:(i.bytes:Int)*(n:Int)=((n*i.bytes:Nat):Int):=by rw[Nat.mul_comm];simp
 have r:(decide ((n:Int)<0)||decide ((i.bytes:Int)*(n:Int)>2 ^ 48))=false:=by
  rw[u];have l: ¬(n:Int)<0:=ag
  have o: ¬((n*i.bytes:Nat):Int)>2 ^ 48:=ag
  rw[az l,az o];rfl
 have q:(((decide ((n:Int)<0)||decide ((i.bytes:Int)*(n:Int)>2 ^ 48))||decide ((n:Int)<0))||decide ((n:Int)>(n:Int)))=false:=by
  rw[r];simp
 rw[ae (by rw[q];simp)];have w: ∀(m:Nat)(K':Unit->ai->Prop),K' () h->aW P (askRoom m) h K':=λm K' g=>by
  unfold askRoom;split
  .exact g
  .exact g
 rw[dB];refine w _ _ ?_;refine bT (s:=sizeOf elem) (gR b) ?_;rw[aI,x,ct];have fin: ∀zs:Array Value,(n=0\/zs= #[Z])->aW P (newRow elem ((Array.range n).map (zs[· %zs.size]!))>>=λa=>pure (.slice (some a) n n)) h K:=by
  intro zs B;show K (.slice (Sa h.size 0) n n) (h.push (.cells ((Array.range n).map (zs[· %zs.size]!)) elem));refine hk _ _ (.row h.size 0 _ elem rfl bV (bk _) bP bP ?_) (Fr.push _ _) ?_
  .intro j v d;have f:j<n:=by have:=(aB.1 d).1;simpa using this
   have y:v=Z:=by
    rw[List.getElem?_replicate,af f]at d;exact(aX d).symm
   subst y;rcases B with k|rfl
   .omega
   .rw[bL];simp[f,Nat.mod_one]
  .rintro c ⟨a,e,rfl⟩;cases e;exact bk _
 by_cases H:n=0
 .rw[af H];exact fin #[] (.inl H)
 .rw[ae H];refine bT (s:=zeroValue elem) (iE b k) ?_;refine bT (s:=(pure z.cells:Sem (Array Value))) (a:=z.cells) rfl ?_;rw[A];exact fin #[Z] (.inr rfl)
end
end Go.Den
namespace Go.fT
def tD:Nat->Nat->cD
 |0,n=> [UInt8.ofNat n]
 |f+1,n=>if n>127 then UInt8.ofNat (n%128+128)::tD f (n/128)else [UInt8.ofNat n]
def hZ(n:Nat):cD:=tD 9 n
theorem Bj: ∀(f n:Nat),n<128 ^ (f+1)->tD (f+1) n=tD f n
 |0,n,h=>by
  unfold tD;rw[dc]
 |f+1,n,h=>by
  rw[show tD (f+1+1) n=if n>127 then UInt8.ofNat (n%128+128)::tD (f+1) (n/128)else [UInt8.ofNat n]from rfl,
   show tD (f+1) n=if n>127 then UInt8.ofNat (n%128+128)::tD f (n/128)else [UInt8.ofNat n]from rfl]
  split
  .rw[Bj f (n/128) (by rw[Nat.pow_succ]at h;omega)]
  .rfl
theorem wK{n:Nat}(h:n<18446744073709551616):hZ n=if n>127 then UInt8.ofNat (n%128+128)::hZ (n/128)else [UInt8.ofNat n]:=by
 unfold hZ;rw[tD];split
 .rw[<-Bj 8 (n/128) ag]
 .rfl
theorem DT: ∀(f n:Nat),1<=(tD f n).length/\(tD f n).length<=f+1
 |0,n=>by simp[tD]
 |f+1,n=>by
  have:=DT f (n/128);rw[tD];split
  .simp only[bf];omega
  .simp
theorem gx(n:Nat):1<=(hZ n).length/\(hZ n).length<=10:=DT 9 n
def wL:Nat->Nat->Nat
 |0,_=>1
 |f+1,n=>if n>127 then wL f (n/128)+1 else 1
def KX:Nat->Nat->cD->Nat×Int×cD
 |_,_, []=>(0,8, [])
 |i,n,c::bs=>
  if i=10\/(i=9/\c.toNat>1)\/(c.toNat=0/\i>0)then(0,3,bs)
  else if c.toNat<128 then(n+c.toNat%128*2 ^ (7*i),0,bs)
  else KX (i+1) (n+c.toNat%128*2 ^ (7*i)) bs
def eX(e:Int)(bs:cD):Nat×Int×cD:=if e=0 then KX 0 0 bs else(0,e,bs)
theorem Ls: ∀(bs:cD)(i n:Nat),i<=10->n<2 ^ (7*i)->n<18446744073709551616->(KX i n bs).1<18446744073709551616
 | [],_,_,_,_,_=>by simp[KX]
 |c::bs,i,n,d,e,f=>by
  rw[KX];split
  .simp
  .rename_i g;have b:c.toNat%128<128:=Nat.mod_lt _ ag;have h:n+c.toNat%128*2 ^ (7*i)<18446744073709551616/\n+c.toNat%128*2 ^ (7*i)<2 ^ (7*(i+1)):=by
    have j:(2:Nat) ^ (7*(i+1))=128*2 ^ (7*i):=by rw[Nat.mul_add,Nat.pow_add,Nat.mul_comm]
    have H:(c.toNat%128+1)*2 ^ (7*i)<=128*2 ^ (7*i):=cQ _ ag;rw[eM]at H;refine⟨?_,ag⟩;by_cases a:i=9
    .subst a;have:c.toNat<=1:=ag
     have:c.toNat%128<=1:=ag
     omega
    .have:(2:Nat) ^ (7*(i+1))<=2 ^ 63:=fH ag ag;omega
   split
   .exact h.1
   .exact Ls bs (i+1) _ ag h.2 h.1
theorem FW(e:Int)(bs:cD):(eX e bs).1<18446744073709551616:=by
 unfold eX;split
 .exact Ls bs 0 0 ag bP ag
 .simp
theorem Cr: ∀(bs:cD)(i n:Nat),(KX i n bs).2.2.length<=bs.length
 | [],_,_=>by simp[KX]
 |c::bs,i,n=>by
  rw[KX];split
  .simp
  .split
   .simp
   .have:=Cr bs (i+1) (n+c.toNat%128*2 ^ (7*i));simp only[bf];omega
def kH(n:Int):Nat:=n.toNat
def tF(t:cD):cD:=hZ t.length++t
def Lt(e E:Int):Int:=if e=0 then E else e
def je(t:Nat)(e:Int)(bs:cD):Nat×Int×cD:=
 if(eX e bs).1>t then(0,Lt (eX e bs).2.1 3,(eX e bs).2.2)else eX e bs
theorem DU(t:Nat)(e:Int)(bs:cD):(je t e bs).1<=t:=by
 unfold je;split
 .exact bG _
 .rename_i h;exact Nat.le_of_not_lt h
def kx(e:Int)(bs:cD):Nat×Int×cD:=je 1099511627776 e bs
def kI(e:Int)(bs:cD):cD×Int×cD:=
 if(eX e bs).2.1=0 then
  (if(eX e bs).1>(eX e bs).2.2.length then([],8,(eX e bs).2.2)
  else((eX e bs).2.2.take (eX e bs).1,0,(eX e bs).2.2.drop (eX e bs).1))
 else([],(eX e bs).2.1,(eX e bs).2.2)
def xO(e:Int)(bs:cD):Int:=if e=0 then(if bs= []then 0 else 2)else e
theorem pT(e:Int)(bs:cD):(eX e bs).2.2.length<=bs.length:=by
 unfold eX;split
 .exact Cr bs 0 0
 .exact bk _
theorem oC(t:Nat)(e:Int)(bs:cD):(je t e bs).2.2.length<=bs.length:=by
 unfold je;split<;>exact pT e bs

end Go.fT
namespace Go.jU
section
variable {n i j:Nat} {g:Int->Option Value} {k:Int}
abbrev E:=Int×Int
variable {x y z:E} {f:Nat->E} {es l L:List E}
def lt(x y:E):Prop:=x.2<y.2\/(x.2=y.2/\x.1<y.1)
def le(x y:E):Prop:= ¬lt y x
theorem lt_irrefl(x:E): ¬lt x x:=by unfold lt;omega
theorem lt_trans(h:lt x y)(h':lt y z):lt x z:=by unfold lt at*;omega
theorem le_refl(x:E):le x x:=lt_irrefl x
theorem le_trans(h:le x y)(h':le y z):le x z:=by unfold le lt at*;omega
theorem le_of_lt(h:lt x y):le x y:=by unfold le lt at*;omega
theorem lt_of_le_ne(h:le x y)(h':x.1≠y.1):lt x y:=by unfold le lt at*;omega
instance (x y : E) : Decidable (lt x y) := inferInstanceAs (Decidable (_ ∨ _))
def pU(f:Nat->E)(n:Nat):Prop:= ∀j,0<j->j<n->le (f ((j - 1)/2)) (f j)
def sk(f:Nat->E)(n i:Nat):Prop:=
 (∀j,0<j->j<n->j≠i->(j - 1)/2≠i->le (f ((j - 1)/2)) (f j))/\(0<i->∀j,0<j->j<n->(j - 1)/2=i->le (f ((i - 1)/2)) (f j))
def sr(f:Nat->E)(n i:Nat):Prop:=
 (∀j,0<j->j<n->(j - 1)/2≠i->le (f ((j - 1)/2)) (f j))/\(0<i->∀j,0<j->j<n->(j - 1)/2=i->le (f ((i - 1)/2)) (f j))
def yB(f:Nat->E)(n i:Nat):Prop:= ∀j,0<j->j<n->(j - 1)/2=i->le (f i) (f j)
def nh(f:Nat->E)(i j:Nat):Nat->E:=λk=>if k=i then f j else if k=j then f i else f k
theorem Ob(h:sk f n i)(d:i=0\/le (f ((i - 1)/2)) (f i)):sr f n i:=by
 refine⟨λj a b c=> ?_,h.2⟩;by_cases H:j=i
 .subst H;rcases d with h0|h0
  .omega
  .exact h0
 .exact h.1 j a b H c
theorem oD(h:sr f n i)(hk:yB f n i):pU f n:=by
 intro j a b;by_cases H:(j - 1)/2=i
 .have:=hk j a b H;rw[H];exact this
 .exact h.1 j a b H
theorem Oc{p:Nat}(h:sk f n i)(q:0<i)(u:i<n)(s:p=(i - 1)/2)(e:lt (f i) (f p)):sk (nh f i p) n p/\yB (nh f i p) n p:=by
 have m:p≠i:=ag
 refine⟨⟨λj a b c r=> ?_,λt j a b c=> ?_⟩,λj a b c=> ?_⟩
 ·
  have H:j≠i:=ag
  unfold nh;rw[ae H,ae c];by_cases d:(j - 1)/2=i
  .rw[af d,s];exact h.2 q j a b d
  .rw[ae d,ae r];exact h.1 j a b H d
 .have o:=h.1 p t ag m ag;unfold nh;rw[ae (show(p - 1)/2≠i by omega),ae (show(p - 1)/2≠p by omega)];by_cases H:j=i
  .rw[af H];exact o
  .rw[ae H,dc];have:=h.1 j a b H ag;rw[c]at this;exact le_trans o this
 .unfold nh;rw[ae m,af rfl];by_cases H:j=i
  .rw[af H];exact le_of_lt e
  .rw[ae H,dc];have:=h.1 j a b H ag;rw[c]at this;exact le_trans (le_of_lt e) this
theorem Jg{c:Nat}(h:sr f n i)(o:(c - 1)/2=i)(q:0<c)(t:c<n)(r:lt (f c) (f i))(s: ∀j,0<j->j<n->(j - 1)/2=i->le (f c) (f j)):sr (nh f i c) n c:=by
 have u:c≠i:=ag
 refine⟨λj H b m=> ?_,λ_ j H b m=> ?_⟩
 .unfold nh;by_cases p:j=i
  .subst p;rw[ae (show(j - 1)/2≠j by omega),ae (show(j - 1)/2≠c by omega),af rfl];exact h.2 H c q t o
  .by_cases a:(j - 1)/2=i
   .rw[af a,ae p];by_cases d:j=c
    .rw[af d];exact le_of_lt r
    .rw[ae d];exact s j H b a
   .have d:j≠c:=by intro e;subst e;exact a o
    rw[ae a,ae m,ae p,ae d];exact h.1 j H b a
 .unfold nh;rw[o,af rfl,ae (show j≠i by omega),ae (show j≠c by omega)];have:=h.1 j H b ag;rw[m]at this;exact this
theorem Lu(h:pU f n): ∀j,j<n->le (f 0) (f j):=by
 intro j;induction j using Nat.strongRecOn with
 |_ j I=>
  intro a;by_cases H:j=0
  .subst H;exact le_refl _
  .exact le_trans (I ((j - 1)/2) ag ag) (h j ag a)
def at_(es:List E)(i:Nat):E:=es.getD i (0,0)
theorem mP(h:i<es.length):at_ es i=es[i]:=by simp[at_,h]
theorem HN(h:i<es.length):es[i]? =some (at_ es i):=by simp[at_,h]
theorem FX(h:i<es.length):at_ (es.set i x) j=if j=i then x else at_ es j:=by
 unfold at_;by_cases e:j=i
 .subst e;simp[h]
 .simp[e,fo e]
def oR(es:List E)(i j:Nat):List E:=(es.set j (at_ es i)).set i (at_ es j)
theorem vm :(oR es i j).length=es.length:=by simp[oR]
theorem DV(h:i<es.length)(H:j<es.length)(k:Nat):at_ (oR es i j) k=nh (at_ es) i j k:=by
 unfold oR nh;rw[FX (cA h),FX H]
theorem Bl(h:i<es.length)(H:j<es.length):at_ (oR es i j)=nh (at_ es) i j:=funext (DV h H)
theorem ss(h:i<es.length)(H:j<es.length):(oR es i j).Perm es:=by
 unfold oR;rw[mP h,mP H];exact List.set_set_perm H h
def hP(es:List E)(g:Int->Option Value):Prop:=
 (es.map (·.1)).Nodup/\(∀j,j<es.length->g (at_ es j).1=some (.int .i64 j))/\∀k,k∉es.map (·.1)->g k=none
theorem key_inj(h:(es.map (·.1)).Nodup)(H:i<es.length)(b:j<es.length)(a:(at_ es i).1=(at_ es j).1):i=j:=by
 rw[mP H,mP b]at a;have c:=eg (i:=i) (j:=j) (cA H) h;exact c.1 (by simp[H,b,a])
theorem hP.swap(h:hP es g)(H:i<es.length)(a:j<es.length)(q:i≠j):
  hP (oR es i j) (λk=>if k=(at_ es j).1 then some (.I i)else if k=(at_ es i).1 then some (.I j)else g k):=by
 obtain⟨b,m,o⟩:=h;have d:=(ss H a).map (·.1);refine⟨d.nodup_iff.2 b,λk hk=> ?_,λk hk=> ?_⟩
 .rw[vm]at hk;rw[DV H a];unfold nh;by_cases e1:k=i
  .subst e1;simp
  .by_cases e2:k=j
   .subst e2;rw[ae e1,af rfl];have:(at_ es i).1≠(at_ es k).1:=λe=>q (key_inj b H a e)
    simp[this]
   .rw[ae e1,ae e2];have n1:(at_ es k).1≠(at_ es j).1:=λe=>e2 (key_inj b hk a e)
    have n2:(at_ es k).1≠(at_ es i).1:=λe=>e1 (key_inj b hk H e)
    simp[n1,n2,m k hk]
 .have c:k∉es.map (·.1):=λp=>hk (d.mem_iff.2 p)
  have M:(at_ es j).1∈es.map (·.1):=by rw[mP a];exact bx (dA a)
  have r:(at_ es i).1∈es.map (·.1):=by rw[mP H];exact bx (dA H)
  simp only[];rw[ae (show k≠_ from λe=>c (e.symm▸M)),ae (show k≠_ from λe=>c (e.symm▸r))];exact o k c
def iQ(l:List E):Prop:=l.Pairwise lt
def keys(l:List E):List Int:=l.map (·.1)
def fv(l:List E)(k:Int):List E:=l.filter (λe=> !(e.1==k))
def tG(l:List E)(x:E):List E:=l.filter (λe=>decide (lt e x))++x::l.filter (λe=> !decide (lt e x))
theorem lF(l:List E)(x:E):(tG l x).Perm (x::l):=by
 unfold tG;refine(List.perm_middle).trans (List.Perm.cons x ?_);exact List.filter_append_perm _ _
theorem iQ.drop(h:iQ l)(k:Int):iQ (fv l k):=fE _ h
theorem iQ.insert(h:iQ l)(x:E)(hk:x.1∉keys l):iQ (tG l x):=by
 unfold iQ tG;rw[List.pairwise_append];refine⟨fE _ h,?_,?_⟩
 .rw[dF];refine⟨λy a=> ?_,fE _ h⟩;obtain⟨c,H⟩:=ba.1 a;have b: ¬lt y x:=by simpa using H
  exact lt_of_le_ne b (λe=>hk (by rw[e];exact bx c))
 .intro y a z hz;obtain⟨_,H⟩:=ba.1 a;have m:lt y x:=by simpa using H
  rcases bH.1 hz with rfl|hz
  .exact m
  .obtain⟨_,d⟩:=ba.1 hz;have b: ¬lt z x:=by simpa using d
   unfold lt at*;omega
theorem FY(l:List E)(k:Int):k∉keys (fv l k):=by
 intro h;obtain⟨e,H,rfl⟩:=bh.1 h;have:=(ba.1 H).2;simp at this
theorem jF(h:k∉keys l):fv l k=l:=by
 unfold fv;rw[cj];intro e H;have:e.1≠k:=λE=>h (E▸bx H)
 simp[this]
theorem FZ(h:l.Perm L)(k:Int):(fv l k).Perm (fv L k):=h.filter _
theorem Lv(H:es.Perm l)(o:iQ l)(d:pU (at_ es) es.length)(a:0<es.length): ∃r,l=at_ es 0::r:=by
 cases l with
 |nil=>have:=H.length_eq;simp only[bz]at this;omega
 |cons x r=>
  refine⟨r,?_⟩;have p:x∈es:=H.mem_iff.2 dh;obtain⟨j,h⟩:=bE p;have b:j<es.length:=(aB.1 h).1;have c:=Lu d j b;rw[HN b]at h;have e1:at_ es j=x:=aX h;rw[e1]at c;have m:at_ es 0∈x::r:=H.mem_iff.1 (by rw[mP a];exact dA a);rcases bH.1 m with e|e
  .rw[e]
  .have:=(dF.1 o).1 _ e;exact absurd this c
theorem Bm(H:es.length=n+1):es=es.take n++ [at_ es n]:=by
 have h:n<es.length:=ag
 rw[mP h];have:=List.take_append_getElem h;rw[this,bJ ag]
theorem Cs(h:i<n):at_ (es.take n) i=at_ es i:=by
 unfold at_;rw[aY,aY,cP,af h]
theorem vo :at_ (es++ [x]) i=if i<es.length then at_ es i else if i=es.length then x else(0,0):=by
 unfold at_;rw[aY,aY];by_cases h:i<es.length
 .rw[cS h,af h]
 .rw[cG ag,ae h];by_cases e:i=es.length
  .subst e;simp
  .rw[ae e,cK (by simp;omega)];rfl
theorem mem_keys(h:k∈keys es): ∃j,j<es.length/\(at_ es j).1=k:=by
 obtain⟨e,b,rfl⟩:=bh.1 h;obtain⟨j,H⟩:=bE b;have a:=(aB.1 H).1;rw[HN a]at H;exact⟨j,a,bU Prod.fst (aX H)⟩
theorem at_mem(h:j<es.length):at_ es j∈es:=by rw[mP h];exact dA h
theorem keys_perm(h:l.Perm L):(keys l).Perm (keys L):=h.map _
def cut(es:List E)(n j:Nat):List E:=if j<n then(es.take n).set j (at_ es n)else es.take n
theorem DW(a:es.length=n+1)(c:j<es.length):es.Perm (at_ es j::cut es n j):=by
 unfold cut;have d:(es.take n).length=n:=by rw[bB];omega
 split
 .rename_i h;have H:j<(es.take n).length:=ag
  have e1:at_ es j=(es.take n)[j]:=by rw[<-Cs h,mP H]
  have p:es.Perm (at_ es n::es.take n):=by
   have:es.Perm (es.take n++ [at_ es n]):=by rw[<-Bm a]
   exact this.trans (dM _ _)
  have P:(es.take n).Perm (at_ es j::((es.take n).take j++(es.take n).drop (j+1))):=by
   rw[e1];have e2:es.take n=(es.take n).take j++(es.take n)[j]::(es.take n).drop (j+1):=by rw[<-cI H,List.take_append_drop]
   have e:(es.take n).Perm ((es.take n).take j++(es.take n)[j]::(es.take n).drop (j+1)):=List.Perm.of_eq e2;exact e.trans List.perm_middle
  have b:((es.take n).set j (at_ es n)).Perm (at_ es n::((es.take n).take j++(es.take n).drop (j+1))):=by
   rw[List.set_eq_take_append_cons_drop,af H];exact List.perm_middle
  exact p.trans ((P.cons _).trans ((List.Perm.swap _ _ _).trans (b.symm.cons _)))
 .have:j=n:=ag
  subst this;have:es.Perm (es.take j++ [at_ es j]):=by rw[<-Bm a]
  exact this.trans (dM _ _)
theorem Lw(c:es.length=n+1)(b:j<es.length)(hd:(keys es).Nodup)(d:es.Perm l):(cut es n j).Perm (fv l (at_ es j).1):=by
 have h:=DW c b;have hk:(at_ es j).1∉keys (cut es n j):=by
  have:=(keys_perm h).nodup_iff.1 hd;exact(eP.1 this).1
 have H:=FZ (h.symm.trans d) (at_ es j).1;have a:fv (at_ es j::cut es n j) (at_ es j).1=cut es n j:=by
  have:fv (at_ es j::cut es n j) (at_ es j).1=fv (cut es n j) (at_ es j).1:=by
   unfold fv;rw[ch];simp
  rw[this,jF hk]
 rw[a]at H;exact H
theorem Cu(h:es.length=n+1):(cut es n j).length=n:=by
 unfold cut;split
 .rw[dy,bB];omega
 .rw[bB];omega
theorem oE(a:es.length=n+1)(h:i<n):at_ (cut es n j) i=if i=j then at_ es n else at_ es i:=by
 have H:(es.take n).length=n:=by rw[bB];omega
 unfold cut;split
 .rw[FX ag,Cs h]
 .rw[Cs h,dc]
theorem Jh(h:hP es g)(a:es.length=n+1)(m:j<es.length):
  hP (cut es n j) (λk=>if j<n then(if k=(at_ es n).1 then some (.I j)else if k=(at_ es j).1 then none else g k)else if k=(at_ es j).1 then none else g k):=by
 obtain⟨b,p,q⟩:=h;have o:=keys_perm (DW a m);have t:=o.nodup_iff.1 b;refine⟨(eP.1 t).2,λi c=> ?_,λk hk=> ?_⟩
 .rw[Cu a]at c;rw[oE a c];by_cases e:i=j
  .subst e;simp[c]
  .rw[ae e];have n1:(at_ es i).1≠(at_ es n).1:=λx=>by have:=key_inj b ag ag x;omega
   have n2:(at_ es i).1≠(at_ es j).1:=λx=>e (key_inj b ag m x)
   simp[n1,n2,p i ag]
 .have d: ∀k,k∉(cut es n j).map (·.1)->k≠(at_ es j).1->g k=none:=λk hk u=>by
   refine q k λs=> ?_
   rcases bH.1 (o.mem_iff.1 s)with e|e
   .exact u e
   .exact hk e
  by_cases H:j<n
  .have r:(at_ es n).1∈(cut es n j).map (·.1):=by
    have:=at_mem (es:=cut es n j) (j:=j) (by rw[Cu a];exact H);rw[oE a H,af rfl]at this;exact bx this
   have n1:k≠(at_ es n).1:=λe=>hk (e▸r)
   by_cases e:k=(at_ es j).1
   .subst e;simp[H,n1]
   .simp[H,n1,e,d k hk e]
  .by_cases e:k=(at_ es j).1
   .subst e;simp[H]
   .simp[H,e,d k hk e]
theorem Lx(h:es.length=n+1)(o:j<n)(d:pU (at_ es) es.length):sk (at_ (cut es n j)) n j:=by
 refine⟨λc H a b m=> ?_,λe c H a b=> ?_⟩
 .rw[oE h a,oE h ag,ae b,ae m];exact d c H ag
 .rw[oE h a,oE h ag,dc,dc];have:=d c H ag;rw[b]at this;exact le_trans (d j e ag) this
theorem Ly(h:es.length=n+1)(d: ¬j<n)(b:pU (at_ es) es.length):pU (at_ (cut es n j)) n:=λc H a=>by
 rw[oE h a,oE h ag,dc,dc];exact b c H ag
theorem LA(b:pU (at_ es) es.length):sk (at_ (es++ [x])) (es.length+1) es.length/\yB (at_ (es++ [x])) (es.length+1) es.length:=by
 refine⟨⟨λc h H a e=> ?_,λd c h H a=>ag⟩,λc h H a=>ag⟩;rw[vo,vo,fK,fK];exact b c h ag
theorem Ji(h:hP es g)(H:x.1∉keys es):hP (es++ [x]) (λk=>if k=x.1 then some (.I es.length)else g k):=by
 obtain⟨a,b,c⟩:=h;refine⟨?_,λi d=> ?_,λk hk=> ?_⟩
 .have:((es++ [x]).map (·.1)).Perm (x.1::es.map (·.1)):=by
   rw[aZ];exact dM _ _
  exact this.nodup_iff.2 (eP.2 ⟨H,a⟩)
 .rw[aA,dp]at d;rw[vo];by_cases e:i<es.length
  .rw[af e];have:(at_ es i).1≠x.1:=λq=>H (q▸bx (at_mem e))
   simp[this,b i e]
  .have:i=es.length:=ag
   subst this;simp
 .rw[aZ,bM]at hk;have n1:k≠x.1:=λe=>hk (.inr (by simp[e]))
  simp[n1,c k (λm=>hk (.inl m))]
theorem F0{e:E}(hd:(keys (e::l)).Nodup):fv (e::l) e.1=l:=by
 have h:fv (e::l) e.1=fv l e.1:=by unfold fv;rw[ch];simp
 rw[h,jF (eP.1 hd).1]

end
end Go.jU
namespace Go.Den
section
variable {P : Program}
theorem LB{S x ty elem:TypeId}{sz bytes:Nat}{z:Value}{h:ai}{n:Nat}{K:fp}(T:oy P S elem sz bytes z)(w:P.underlying x=some (.int .i64))(D:0<n)(A:n*bytes<=70368744177664)(B:n<=4611686018427387904)(hk: ∀c h',fJ h' (Sa h.size 0) 0 c sz []->n<=c->Fr (λ_=>False) h h'->K (.slice (Sa h.size 0) n c) h'):
  aW P (Builtin.append_ #[S,x] ty #[.Z,.I (n:Int)]) h K:=by
 obtain⟨i,b,rfl,rfl,g⟩:=T.i;have u:=T.zs;unfold Builtin.append_;refine bT (s:=underlying S) (bA T.u) ?_;refine bT (s:=sizeOf elem) (gR b) ?_;refine bT (s:=underlying x) (bA w) ?_;refine bT (s:=(pure true:Sem Bool)) (a:=true) rfl ?_;have e:IntKind.wrap .i64 (n:Int)=(n:Int):=bD ag ag;refine bT (s:=asInt (.I (n:Int))) (a:=(n:Int)) rfl ?_;show aW P (if IntKind.wrap .i64 (n:Int)<0 then _ else _) h K;rw[ae (by rw[e];omega)];refine bT (s:=typeInfo elem) (gQ b) ?_;show aW P (if IntKind.wrap .i64 (n:Int)*(i.bytes:Int)>2 ^ 48 then _ else _) h K;have k:(n:Int)*(i.bytes:Int)=((n*i.bytes:Nat):Int):=bP
 rw[ae (by rw[e,k];omega)];refine bT (s:=(pure (IntKind.wrap .i64 (n:Int)).toNat:Sem Nat)) (a:=n) (by rw[e];rfl) ?_;show aW P (if 0+n<=0 then _ else _) h K;rw[dc];refine bT (s:=typeInfo elem) (gQ b) ?_;show aW P (if(((0+n:Nat):Int)>IntKind.max .i64/\(true=true\/i.bytes=0))then _ else _) h K;have q:IntKind.max .i64=9223372036854775807:=rfl;rw[ae (by rw[q];omega)];refine bT (s:=typeInfo elem) (gQ b) ?_;have p:=nextslicecap_le (need:=0+n) (cap:=0) ag;have r: ¬(Builtin.nextslicecap (0+n) 0*i.bytes>2 ^ 48):=by
  have d:Builtin.nextslicecap (0+n) 0*i.bytes<=2*(0+n)*i.bytes:=cQ _ p;rw[Nat.mul_assoc,bL]at d;rw[bL];omega
 show aW P (if Builtin.nextslicecap (0+n) 0*i.bytes>2 ^ 48 then _ else _) h K;rw[ae r];show aW P (choose (.appendCap (0+n) 0 elem)>>=_) h K;rw[dB];unfold choose;simp only[aW,Question.forced,au,aM,Question.cut];intro y;refine bT (s:=typeInfo elem) (gQ b) ?_;rw[dB];have t: ∀(m:Nat)(K':Unit->ai->Prop),K' () h->aW P (askRoom m) h K':=λm K' f=>by
  unfold askRoom;split
  .exact f
  .exact f
 refine t _ _ ?_;refine bT (s:=Builtin.firstCells i.size 0 (.Z)) (a:= #[]) (ku (ds:= []) (.inl rfl) bP) ?_;have R:=iE (h:=h) b g;refine bT (a:=if n*i.size=0 then #[]else Builtin.zeroCells z.cells n) ?_ ?_
 .show rd P (if n*i.size=0 then pure #[]else _) h=_;by_cases H:n*i.size=0
  .rw[af H,af H];rfl
  .rw[ae H,ae H,bt _ _ _ _ R];rfl
 refine bT (s:=zeroValue elem) (iE b g) ?_;generalize C:0+n+y%(2 ^ 63 - (0+n))=c;have l:n<=c:=ag
 have d: ∀m,(Builtin.zeroCells z.cells m).size=m*i.size:=λm=>by simp[Builtin.zeroCells,u]
 show K (.slice (Sa h.size 0) (0+n) c) (h.push (.cells (#[]++(if n*i.size=0 then #[]else Builtin.zeroCells z.cells n)++Builtin.zeroCells z.cells (c - (0+n))) elem));rw[bL];refine hk c _ (.row h.size 0 _ elem rfl bV (bG _) ?_ bP (λj v o=>by cases o)) l (Fr.push _ _);rw[Array.size_append,d];have:(#[]++(if n*i.size=0 then #[]else Builtin.zeroCells z.cells n):Array Value).size=n*i.size:=by
  by_cases H:n*i.size=0
  .rw[af H,H];rfl
  .rw[ae H,Array.size_append,d];simp
 rw[this,<-eM,bL,show n+(c - n)=c by omega];omega
end
section
variable {h h':ai} {X:Ft} {j:Nat}
def In(X:Ft)(y:Nat):Prop:=X.M y\/X.D y
abbrev only(X:Ft)(P:Nat->Prop):Prop:= ∀y,(X.M y↔P y)/\¬X.D y
abbrev pt(b:Nat):Value:=.pointer (some ⟨b,0,none⟩)
structure yC (P:Nat->ai->Ft->Prop):Prop where
 lt: ∀ {i h X},P i h X->∀y,In X y->y<h.size
 frame: ∀ {i h h' X} {Q:Nat->Prop},P i h X->Fr Q h h'->(∀y,In X y->¬Q y)->P i h' X
 tH: ∀ {i h X},P i h X->∀y,X.M y->X.D y->False
def F1(P:Nat->ai->Ft->Prop)(h:ai)(X:Ft):Prop:= ∃Y:Nat->Ft,(∀i,P i h (Y i))/\(∀i j y,i≠j->In (Y i) y->¬In (Y j) y)/\(∀y,X.M y↔ ∃i,(Y i).M y)/\∀y,X.D y↔ ∃i,(Y i).D y
variable {P p : Nat → ai → Ft → Prop}
theorem F1.lt(S:yC P)(H:F1 P h X)(y:Nat)(hy:X.M y\/X.D y):y<h.size:=by
 obtain⟨Y,b,_,c,hd⟩:=H;rcases hy with hy|hy
 .obtain⟨i,a⟩:=(c y).1 hy;exact S.lt (b i) y (.inl a)
 .obtain⟨i,a⟩:=(hd y).1 hy;exact S.lt (b i) y (.inr a)
theorem F1.tH(S:yC P)(H:F1 P h X)(y:Nat)(a:X.M y)(b:X.D y):False:=by
 obtain⟨Y,g,ap,f,hd⟩:=H;obtain⟨i,c⟩:=(f y).1 a;obtain⟨j,d⟩:=(hd y).1 b;by_cases e:i=j
 .subst e;exact S.tH (g i) y c d
 .exact ap i j y e (.inl c) (.inr d)
theorem F1.frame{Q:Nat->Prop}(S:yC P)(H:F1 P h X)(f:Fr Q h h')(d: ∀y,X.M y\/X.D y->¬Q y):F1 P h' X:=by
 obtain⟨Y,c,ap,b,hd⟩:=H;exact⟨Y,λi=>S.frame (c i) f (λy e=>d y (e.imp (λa=>(b y).2 ⟨i,a⟩) (λa=>(hd y).2 ⟨i,a⟩))),ap,b,hd⟩
theorem F1.use(S:yC P)(H:F1 P h X)(j:Nat): ∃Z,P j h Z/\(∀y,Z.M y->X.M y)/\(∀y,Z.D y->X.D y)/\∀h' z p,p j h' z->bm Z h z h'->(∀i,i≠j->p i=P i)->
  ∃x,F1 p h' x/\bm X h x h'/\(∀y,z.D y->x.D y)/\∀y,h.size<=y->x.M y\/x.D y->z.M y\/z.D y:=by
 obtain⟨Y,f,ap,d,hd⟩:=H;refine⟨Y j,f j,λy a=>(d y).2 ⟨j,a⟩,λy a=>(hd y).2 ⟨j,a⟩,λh' z p n st o=> ?_⟩;have py: ∀i y,i≠j->In (Y i) y->¬In z y:=λi y m c hz=>by
  have l:=S.lt (f i) y c;rcases hz with hz|hz
  .rcases st.gI y hz with a|a
   .exact ap i j y m c (.inl a)
   .omega
  .rcases st.iF y hz with a|a
   .exact ap i j y m c (.inr a)
   .omega
 refine⟨⟨λy=> ∃i,(if i=j then z else Y i).M y,λy=> ∃i,(if i=j then z else Y i).D y⟩,⟨λi=>if i=j then z else Y i,λi=> ?_,λi k y g c hz=> ?_,λ_=>eE,λ_=>eE⟩,⟨st.fr.mono (λy _ a=>(d y).2 ⟨j,a⟩),?_,?_,?_⟩,λy a=>⟨j,by rw[af rfl];exact a⟩,?_⟩
 .show p i h' (if i=j then z else Y i);by_cases e:i=j
  .rw[af e,e];exact n
  .rw[ae e,o i e];exact S.frame (f i) st.fr (λy c a=>ap i j y e c (.inl a))
 .dsimp only at c hz;by_cases e:i=j
  .rw[af e]at c;rw[ae (λq=>g (e.trans q.symm))]at hz;exact py k y (λq=>g (e.trans q.symm)) hz c
  .rw[ae e]at c;by_cases e2:k=j
   .rw[af e2]at hz;exact py i y e c hz
   .rw[ae e2]at hz;exact ap i k y g c hz
 .rintro y ⟨i,a⟩;by_cases e:i=j
  .rw[af e]at a;exact(st.gI y a).imp (λb=>(d y).2 ⟨j,b⟩) id
  .rw[ae e]at a;exact .inl ((d y).2 ⟨i,a⟩)
 .rintro y ⟨i,a⟩;by_cases e:i=j
  .rw[af e]at a;exact(st.iF y a).imp (λb=>(hd y).2 ⟨j,b⟩) id
  .rw[ae e]at a;exact .inl ((hd y).2 ⟨i,a⟩)
 .intro y a;obtain⟨i,a⟩:=(hd y).1 a;by_cases e:i=j
  .exact⟨j,by rw[af rfl];exact st.lE y (e▸a)⟩
  .exact⟨i,by rw[ae e];exact a⟩
 .intro y c a;have key: ∀i,In (if i=j then z else Y i) y->z.M y\/z.D y:=λi a=>by
   by_cases e:i=j
   .rw[af e]at a;exact a
   .rw[ae e]at a;have:=S.lt (f i) y a;omega
  rcases a with⟨i,a⟩|⟨i,a⟩
  .exact key i (.inl a)
  .exact key i (.inr a)
end
def Cv:List Value->Nat->List Value->List Value
 |cs,_, []=>cs
 |cs,p,v::vs=>Cv (cs.set p v) (p+1) vs
theorem fJ.dD{a:Addr}{len cap sz p:Nat}{K:ai->Prop}: ∀(vs:List Value)(k:Nat)(h:ai)(cs:List Value),fJ h (.some a) len cap sz cs->(∀v∈vs,fR v=true)->p+k+vs.length<=cs.length->
  (∀h',fJ h' (.some a) len cap sz (Cv cs (p+k) vs)->h'.size=h.size->(∀x,¬aR (.some a) x->h'[x]? =h[x]?)->K h')->Den.dD (a.add p) vs k h K
 | [],k,h,cs,o,_,_,hk=>hk h o rfl (λ_ _=>rfl)
 |v::vs,k,h,cs,o,H,e,hk=>by
  rw[bf]at e;unfold Den.dD;rw[H v dh];dsimp only;rw[add_add];refine o.store ag λc o1 s1 q1=> ?_
  refine fJ.dD vs (k+1) c _ o1 (λu f=>H u (bZ _ f)) (by rw[dy];omega) λd o2 s2 q2=>hk d ?_ ag (λx b=>by rw[q2 x b,q1 x b])
  unfold Cv;rw[show p+k+1=p+(k+1) by omega];exact o2

end Go.Den
namespace Go.fT
structure RD where
 id:Nat
 err:Int
 num:Int
 count:Int
 token:Nat
 b:cD
def RD.zero:RD:=⟨0,0,0,0,0, []⟩
def RD.ni(x:RD):Prop:=x.id<=1099511627776/\(0<=x.err/\x.err<=99)/\(0<=x.num/\x.num<=1099511627776)/\(0<=x.count/\x.count<=1099511627776)/\x.token<=2147483648/\x.b.length<=600/\(x.err≠0->x.num=0/\x.count=0/\x.token=0/\x.b= [])
instance (x : RD) : Decidable x.ni := by unfold RD.ni; infer_instance
def RD.same(x y:RD):Prop:=x.id=y.id/\x.err=y.err/\x.num=y.num/\x.count=y.count/\x.token=y.token/\x.b=y.b
instance (x y : RD) : Decidable (x.same y) := by unfold RD.same; infer_instance
def RD.enc(x:RD):cD:=hZ x.id++hZ (kH x.err)++hZ (kH x.num)++hZ (kH x.count)++hZ x.token++tF x.b
structure Uq where
 x:RD
 e:Int
 rest:cD
def SO(t:Nat)(m:Nat->Int->cD->Nat×Int×cD)(bs:cD):Uq:=
 let a:=eX 0 bs
 let b:=m t a.2.1 a.2.2
 let c:=m 1099511627776 b.2.1 b.2.2
 let d:=m 1099511627776 c.2.1 c.2.2
 let f:=eX d.2.1 d.2.2
 let g:=kI f.2.1 f.2.2
 ⟨⟨a.1,(b.1:Int),(c.1:Int),(d.1:Int),f.1,g.1⟩,g.2.1,g.2.2⟩
def yD(s:Uq):Option RD:=if xO s.e s.rest=0/\s.x.ni then some s.x else none
def Jj(bs:cD):Option RD:=yD (SO 1099511627776 je bs)
theorem jV{x:RD}(h:x.b.length<=600):x.enc.length<=700:=by
 have a1:=(gx x.id).2;have a2:=(gx (kH x.err)).2;have a3:=(gx (kH x.num)).2;have a4:=(gx (kH x.count)).2;have a5:=(gx x.token).2;have a6:=(gx x.b.length).2;unfold RD.enc tF;simp only[aA];omega

end Go.fT
namespace Go.Den
section
variable {h:ai}
def idxOf{α:Type}(P:α->Bool)(xs:List α):Int:=match xs.findIdx? P with|some k=>(k:Int)|none=> -1
theorem yE{α:Type}(P:α->Bool){xs:List α}{n:Nat}{R:fp}(B:Int->ai->(Bool->ai->Prop)->Prop)(l:n=xs.length)(s:xs.length<=1000000000)(d: ∀(k:Nat) g x K,xs[k]? =some x->Fr (λ_=>False) h g->(∀G,Fr (λ_=>False) h G->K (P x) G)->B (k:Int) g K)(hk: ∀g,Fr (λ_=>False) h g->R (.I (idxOf P xs)) g):
  ∃(I:Int->ai->Prop)(m:Int->ai->Nat),I 0 h/\∀(t:Int)(g:ai),I t g->if(decide (t<(n:Int)))=true then B t g (λq a=>if q=true then R (.I t) a else(I (IntKind.wrap .i64 (t+1)) a/\m (IntKind.wrap .i64 (t+1)) a<m t g))else R (.I (-1)) g:=by
 subst l;refine⟨λi g=>Fr (λ_=>False) h g/\∃k:Nat,i=(k:Int)/\k<=xs.length/\∀j (H:j<xs.length),j<k->¬P xs[j]=true,λi _=>xs.length - i.toNat,⟨Fr.refl _ _,0,rfl,ag,λj _ H=>ag⟩,?_⟩;rintro _ g ⟨f,k,rfl,r,b⟩;by_cases c:k<xs.length
 .rw[fK];refine d k g xs[k] _ (aj c) f λG F=> ?_
  by_cases e:P xs[k]=true
  .rw[af e];have:idxOf P xs=(k:Int):=by
    unfold idxOf;rw[show xs.findIdx? P=some k from cp.2 ⟨c,e,λj H=>b j ag H⟩]
   rw[this]at hk;exact hk G F
  .rw[ae e,bD ag ag];refine⟨⟨F,k+1,ag,ag,λj H p=> ?_⟩,by show xs.length - Int.toNat ((k:Int)+1)<xs.length - Int.toNat (k:Int);omega⟩;by_cases q:j=k
   .subst q;exact e
   .exact b j H ag
 .rw[ae (λq=>c (bY (aU q)))];have:idxOf P xs= -1:=by
   unfold idxOf;rw[show xs.findIdx? P=none from cY.2 λx o=> ?_];obtain⟨j,H,rfl⟩:=List.getElem_of_mem o;exact Bool.not_eq_true _▸b j H ag
  rw[this]at hk;exact hk g f

end
end Go.Den
namespace Go.Proofs.YtlenamcfacpheaaGreatDoor
open Go.Den
open IntKind (wrap)
open Int (toNat)
section
namespace Cb
inductive Tr where
 |mk (k:Int) (n:Nat) (b:cD) (l:List Tr)
namespace Tr
def k:Tr->Int| .mk k _ _ _=>k
def n:Tr->Nat| .mk _ n _ _=>n
def b:Tr->cD| .mk _ _ b _=>b
def l:Tr->List Tr| .mk _ _ _ l=>l
end Tr
abbrev num(n:Nat):Tr:=.mk 0 n [] []
abbrev pg(b:cD):Tr:=.mk 2 0 b []
abbrev qZ(l:List Tr):Tr:=.mk 4 0 [] l
def Bo:Tr:=.mk 0 0 [] []
mutual
def mW:Tr->Tr->Bool
 | .mk k n b l,.mk k' n' b' l'=>decide (k=k') && decide (n=n') && decide (b=b') && re l l'
def re:List Tr->List Tr->Bool
 | [], []=>true
 |t::ts,u::us=>mW t u && re ts us
 |_,_=>false
end
mutual
theorem Od: ∀(a b:Tr),mW a b=true↔a=b
 | .mk k n b l,.mk k' n' b' l'=>by
  simp only[mW,Bool.and_eq_true,decide_eq_true_eq,yF,Tr.mk.injEq,and_assoc]
theorem yF: ∀(a b:List Tr),re a b=true↔a=b
 | [], []=>by simp[re]
 |t::ts,u::us=>by simp only[re,Bool.and_eq_true,Od t u,yF ts us,List.cons.injEq]
 | [],u::us=>by simp[re]
 |t::ts, []=>by simp[re]
end
def LC(V:cD->Bool)(k:Int)(n:Nat)(b:cD)(l:List Tr):Bool:=
 if k=0 then b.isEmpty && l.isEmpty else if k=2 then decide (n=0) && l.isEmpty else if k=3 then decide (n=0) && l.isEmpty && V b else if k=4 then decide (n=0) && b.isEmpty else false
mutual
def mF (V:cD->Bool):Tr->Int->Int->Int
 | .mk k n b l,d,left=>if d>6\/left<1 then -1 else if LC V k n b l=true then lZ V l (d+1) (left - 1)else -1
def lZ (V:cD->Bool):List Tr->Int->Int->Int
 | [],_,left=>left
 |t::ts,d,left=>if mF V t d left<0 then -1 else lZ V ts d (mF V t d left)
end
mutual
theorem DX {V:cD->Bool} : ∀ {t:Tr} {d left:Int},mF V t d left= -1\/0<=mF V t d left/\mF V t d left<left
 | .mk k n b l,d,left=>by
  unfold mF;split
  ·exact .inl rfl
  ·split
   ·rcases Bp (V:=V) (ts:=l) (d:=d+1) (left:=left - 1) ag with h|h
    ·exact .inl h
    ·exact .inr ag
   ·exact .inl rfl
theorem Bp {V:cD->Bool} : ∀ {ts:List Tr} {d left:Int},0<=left->lZ V ts d left= -1\/0<=lZ V ts d left/\lZ V ts d left<=left
 | [],d,left,hl=>by unfold lZ;exact .inr ⟨hl,Int.le_refl _⟩
 |t::ts,d,left,hl=>by
  unfold lZ;split
  ·exact .inl rfl
  ·rcases DX (V:=V) (t:=t) (d:=d) (left:=left)with h1|h1
   ·omega
   ·rcases Bp (V:=V) (ts:=ts) (d:=d) (left:=mF V t d left) ag with h|h
    ·exact .inl h
    ·exact .inr ag
end
def gO(V:cD->Bool)(t:Tr):Bool:=decide (mF V t 1 256≥0)
def DY(n:Nat):Nat:=if n<24 then 0 else if n<256 then 1 else if n<65536 then 2 else if n<4294967296 then 4 else 8
def xa(n:Nat):Nat:=if n<24 then n else if n<256 then 24 else if n<65536 then 25 else if n<4294967296 then 26 else 27
def PF(k n:Nat):cD:=(List.range k).map λi=>UInt8.ofNat (n/2 ^ (8*(k - 1 - i)))
def LF(m:Int)(n:Nat):cD:=if 0<=m/\m<=7 then UInt8.ofNat (32*m.toNat+xa n)::PF (DY n) n else []
theorem HO(n:Nat):DY n<=8:=by unfold DY;repeat (first|omega|split)
theorem xP(k n:Nat):(PF k n).length=k:=by simp[PF]
theorem HP(m:Int)(n:Nat):(LF m n).length<=9:=by
 unfold LF;split
 .rw[bf,xP];have:=HO n;omega
 .simp
def PG(l:cD):Nat:=l.foldl (λv b=>v*256+b.toNat) 0
theorem DZ(l:cD)(b:UInt8):PG (l++ [b])=PG l*256+b.toNat:=by simp[PG]
theorem LG(l:cD):PG l<256 ^ l.length:=by
 suffices h: ∀(n:Nat)(l:cD),l.length=n->PG l<256 ^ n from h _ l rfl
 intro n;induction n with
 |zero=>intro l H;rw[List.length_eq_zero_iff.1 H];simp[PG]
 |succ n i=>
  intro l H;obtain⟨a,b,rfl⟩: ∃a b,l=a++ [b]:=⟨l.dropLast,l.getLast (by intro e;rw[e]at H;simp at H),(List.dropLast_concat_getLast _).symm⟩;rw[aA]at H;have:=i a (cA H);rw[DZ,Nat.pow_succ];have:=b.toNat_lt;omega
def pV(m:Nat):Bool:=decide (2<=m/\m<=5)||decide (m=7)
def Dv(bs:cD)(pos:Nat):Except Int (Nat×Nat×Bool×Nat):=
 match bs[pos]? with
 |none=> .error 8
 |some x=>
  if x.toNat%32<24 then .ok (x.toNat/32,x.toNat%32,false,pos+1)
  else if x.toNat%32=31/\pV (x.toNat/32)=true then .ok (x.toNat/32,0,true,pos+1)
  else if x.toNat%32>27 then .error 3
  else if pos+1+2 ^ (x.toNat%32 - 24)>bs.length then .error 8
  else .ok (x.toNat/32,PG ((bs.drop (pos+1)).take (2 ^ (x.toNat%32 - 24))),false,pos+1+2 ^ (x.toNat%32 - 24))
theorem vp{bs:cD}{pos m n N:Nat}{o:Bool}(h:Dv bs pos=.ok (m,n,o,N)):pos<N/\N<=bs.length/\n<18446744073709551616/\m<8/\pos<bs.length:=by
 unfold Dv at h;split at h
 .cases h
 .rename_i x c;have b:=(aB.1 c).1;have:=x.toNat_lt;split at h
  .cases h;omega
  .split at h
   .cases h;omega
   .split at h
    .cases h
    .split at h
     .cases h
     .rename_i H d f g;cases h;have a:=LG ((bs.drop (pos+1)).take (2 ^ (x.toNat%32 - 24)));have:((bs.drop (pos+1)).take (2 ^ (x.toNat%32 - 24))).length<=8:=by
       rw[bB];have:x.toNat%32 - 24=0\/x.toNat%32 - 24=1\/x.toNat%32 - 24=2\/x.toNat%32 - 24=3:=ag
       rcases this with e|e|e|e<;>rw[e]<;>omega
      have:=fH (n:=256) ag this;have H:1<=2 ^ (x.toNat%32 - 24):=Nat.one_le_two_pow;refine⟨ag,ag,?_,ag,b⟩
      calc _<_:=a
       _<=_:=this
       _=18446744073709551616:=di
def l6(V:cD->Bool)(bs:cD)(pos m n:Nat):Except Int (cD):=
 if n<=bs.length - pos then(if m≠3\/V ((bs.drop pos).take n)=true then .ok ((bs.drop pos).take n)else .error 3)else .error 8
def tJ(bs:cD)(pos:Nat):Bool:=match bs[pos]? with|some x=>decide (x.toNat=255)|none=>false
def D0(V:cD->Bool)(bs:cD)(m:Nat):Nat->Nat->cD->Except Int (cD×Nat)
 |0,_,_=> .error 8
 |k+1,pos,a=>if tJ bs pos=true then .ok (a,pos+1)else match Dv bs pos with
  | .error e=> .error e
  | .ok (M,n,o',N)=>if M=m/\o'=false then(match l6 V bs N M n with| .error e=> .error e| .ok w=>D0 V bs m k (N+n) (a++w))else .error 3
def Cw(V:cD->Bool)(bs:cD)(pos m n:Nat)(o:Bool):Except Int (cD×Nat):=
 match o with
 |true=>D0 V bs m (bs.length+1) pos []
 |false=>match l6 V bs pos m n with| .error e=> .error e| .ok w=> .ok (w,pos+n)
abbrev RF:=Nat->Nat->Except Int (Tr×Nat×Nat)
def wM(bs:cD)(f:RF):Nat->Nat->Nat->List Tr->Except Int (List Tr×Nat×Nat)
 |0,_,_,_=> .error 8
 |k+1,pos,left,ts=>if tJ bs pos=true then .ok (ts,pos+1,left)else match f pos left with
  | .error e=> .error e
  | .ok (t,n,lf)=>wM bs f k n lf (ts++ [t])
def tL(f:RF):Nat->Nat->Nat->List Tr->Except Int (List Tr×Nat×Nat)
 |0,pos,left,ts=> .ok (ts,pos,left)
 |k+1,pos,left,ts=>match f pos left with
  | .error e=> .error e
  | .ok (t,n,lf)=>tL f k n lf (ts++ [t])
def mG(bs:cD)(f:RF)(pos left n:Nat)(o:Bool):Except Int (List Tr×Nat×Nat):=
 match o with
 |true=>wM bs f (bs.length+1) pos left []
 |false=>if n<=bs.length - pos then tL f n pos left []else .error 8
def gC(V : cD -> Bool)(bs : cD): Nat -> RF
  | lv, pos, left => match Dv bs pos with
    | .error e => .error e
    | .ok (m, n, o, N) => if m = 0 \/ m = 2 \/ m = 3 \/ m = 4 then (match lv with
      | 0 => .error 9
      | lv + 1 => if left = 0 then .error 2 else if m = 0 then .ok (num n, N, left - 1)
        else if m = 4 then (match mG bs (gC V bs lv) N (left - 1) n o with | .error e => .error e | .ok (ts, p, lf) => .ok (qZ ts, p, lf))
        else (match Cw V bs N m n o with | .error e => .error e | .ok (w, p) => .ok (.mk m 0 w [], p, left - 1))) else .error 3
def lg(V:cD->Bool)(bs:cD):Except Int (Tr×Nat):=match gC V bs 6 0 256 with| .error e=> .error e| .ok (t,n,_)=> .ok (t,n)
mutual
def room:Tr->Nat
 | .mk _ _ b l=>9+b.length+dk l
def dk:List Tr->Nat
 | []=>0
 |t::ts=>room t+dk ts
end
-- VQ deep an item is
mutual
def deep:Tr->Nat
 | .mk _ _ _ l=>1+HQ l
def HQ:List Tr->Nat
 | []=>0
 |t::ts=>max (deep t) (HQ ts)
end
theorem hT{a b:List Tr}:dk (a++b)=dk a+dk b:=by
 induction a with
 |nil=>simp[dk]
 |cons t a i=>simp only[eR,dk,i];omega
theorem qN{t:Tr}{l:List Tr}(h:t∈l):deep t<=HQ l:=by
 induction l with
 |nil=>cases h
 |cons u l i=>
  simp only[HQ];rcases bH.1 h with rfl|h
  .omega
  .have:=i h;omega
def wL(k:Int)(n:Nat)(b:cD)(l:List Tr):Nat:=if k=2\/k=3 then b.length else if k=4 then l.length else n
mutual
def enc:Tr->cD
 | .mk k n b l=>LF k (wL k n b l)++b++xc l
def xc:List Tr->cD
 | []=> []
 |t::ts=>enc t++xc ts
end
mutual
theorem jV: ∀(t:Tr),(enc t).length<=room t
 | .mk k n b l=>by
  simp only[enc,room,List.length_append];have:=HP k (wL k n b l);have:=yG l;omega
theorem yG: ∀(l:List Tr),(xc l).length<=dk l
 | []=>Nat.zero_le _
 |t::ts=>by
  simp only[xc,dk,List.length_append];have:=jV t;have:=yG ts;omega
end
theorem Jk(l:List Tr)(t:Tr):xc (l++ [t])=xc l++enc t:=by
 induction l with
 |nil=>simp[xc]
 |cons u l i=>simp only[eR,xc,i,dQ]
theorem Oe{V:cD->Bool}{bs:cD}{m:Nat}: ∀(k pos:Nat)(a w:cD)(n:Nat),pos<=bs.length->D0 V bs m k pos a=.ok (w,n)->w.length+pos<=a.length+n/\pos<n/\n<=bs.length:=by
 intro k;induction k with
 |zero=>intro pos a w n _ h;cases h
 |succ k i=>
  intro pos a w n f h;unfold D0 at h;split at h
  .rename_i b;cases h;unfold tJ at b;split at b
   .rename_i x d;have:=(aB.1 d).1;omega
   .cases b
  .split at h
   .cases h
   .rename_i M N o' g c;have e:=vp c;split at h
    .split at h
     .cases h
     .rename_i v H;unfold l6 at H;split at H
      .split at H
       .cases H;have:=i _ _ _ _ ag h;rw[aA,bB,bF]at this;omega
       .cases H
      .cases H
    .cases h
def Qi(bs:cD)(f:RF):Prop:= ∀pos left t n lf,pos<=bs.length->f pos left=.ok (t,n,lf)->room t<=10*(n - pos)/\pos<n/\n<=bs.length/\lf<=left
theorem LH{bs:cD}{f:RF}(b:Qi bs f): ∀(k pos left:Nat)(ts u:List Tr)(n lf:Nat),pos<=bs.length->wM bs f k pos left ts=.ok (u,n,lf)->dk u+10*pos<=dk ts+10*n/\pos<=n/\n<=bs.length/\lf<=left:=by
 intro k;induction k with
 |zero=>intro pos left ts u n lf _ h;cases h
 |succ k i=>
  intro pos left ts u n lf d h;unfold wM at h;split at h
  .rename_i H;cases h;unfold tJ at H;split at H
   .rename_i x e;have:=(aB.1 e).1;omega
   .cases H
  .split at h
   .cases h
   .rename_i t N l c;have g:=b _ _ _ _ _ d c;have a:=i _ _ _ _ _ _ ag h;rw[hT]at a;simp only[dk]at a;omega
theorem LI{bs:cD}{f:RF}(a:Qi bs f): ∀(k pos left:Nat)(ts u:List Tr)(n lf:Nat),pos<=bs.length->tL f k pos left ts=.ok (u,n,lf)->dk u+10*pos<=dk ts+10*n/\pos<=n/\n<=bs.length/\lf<=left:=by
 intro k;induction k with
 |zero=>intro pos left ts u n lf _ h;cases h;omega
 |succ k i=>
  intro pos left ts u n lf c h;unfold tL at h;split at h
  .cases h
  .rename_i t N l b;have d:=a _ _ _ _ _ c b;have H:=i _ _ _ _ _ _ ag h;rw[hT]at H;simp only[dk]at H;omega
theorem D1{V:cD->Bool}{bs:cD}: ∀l,Qi bs (gC V bs l):=by
 intro l;induction l with
 |zero=>
  intro pos left t N lf e h;unfold gC at h;split at h
  .cases h
  .split at h<;>cases h
 |succ l i=>
  intro pos left t N lf e h;unfold gC at h;split at h
  .cases h
  .rename_i m n o c d;have f:=vp d;split at h
   .dsimp only at h;split at h
    .cases h
    .split at h
     .cases h;simp only[room,dk,bz];omega
     .split at h
      .split at h
       .cases h
       .rename_i ts p L H;cases h;have:dk ts+10*c<=10*N/\c<=N/\N<=bs.length/\lf<=left - 1:=by
         unfold mG at H;split at H
         .have:=LH i _ _ _ _ _ _ _ ag H;simpa[dk]using this
         .split at H
          .have:=LI i _ _ _ _ _ _ _ ag H;simpa[dk]using this
          .cases H
        simp only[room,bz];omega
      .split at h
       .cases h
       .rename_i w p a;cases h;have:w.length+c<=N/\c<=N/\N<=bs.length:=by
         unfold Cw at a;split at a
         .have:=Oe _ _ _ _ _ ag a;simp only[bz]at this;omega
         .split at a
          .cases a
          .rename_i v b;cases a;unfold l6 at b;split at b
           .split at b
            .cases b;rw[bB,bF];omega
            .cases b
           .cases b
        simp only[room,dk];omega
   .cases h
theorem Cx{bs:cD}{pos:Nat}{e:Int}(h:Dv bs pos=.error e):e≠0:=by
 unfold Dv at h;repeat (first|decide|cases h|split at h)
theorem yH{V:cD->Bool}{bs:cD}{pos m n:Nat}{e:Int}(h:l6 V bs pos m n=.error e):e≠0:=by
 unfold l6 at h;repeat (first|decide|cases h|split at h)
theorem LJ{V:cD->Bool}{bs:cD}{m:Nat}{e:Int}: ∀(k pos:Nat)(a:cD),D0 V bs m k pos a=.error e->e≠0:=by
 intro k;induction k with
 |zero=>intro pos a h;cases h;decide
 |succ k i=>
  intro pos a h;unfold D0 at h;split at h
  .cases h
  .split at h
   .rename_i H;cases h;exact Cx H
   .split at h
    .split at h
     .rename_i H;cases h;exact yH H
     .exact i _ _ h
    .cases h;decide
def Ur(f:RF):Prop:= ∀pos left e,f pos left=.error e->e≠0
theorem Jl{bs:cD}{f:RF}(a:Ur f){pos left n:Nat}{o:Bool}{e:Int}(h:mG bs f pos left n o=.error e):e≠0:=by
 have op: ∀(k pos left:Nat)(ts:List Tr),wM bs f k pos left ts=.error e->e≠0:=by
  intro k;induction k with
  |zero=>intro pos left ts h;cases h;decide
  |succ k i=>
   intro pos left ts h;unfold wM at h;split at h
   .cases h
   .split at h
    .rename_i H;cases h;exact a _ _ _ H
    .exact i _ _ _ h
 have m: ∀(k pos left:Nat)(ts:List Tr),tL f k pos left ts=.error e->e≠0:=by
  intro k;induction k with
  |zero=>intro pos left ts h;cases h
  |succ k i=>
   intro pos left ts h;unfold tL at h;split at h
   .rename_i H;cases h;exact a _ _ _ H
   .exact i _ _ _ h
 unfold mG at h;split at h
 .exact op _ _ _ _ h
 .split at h
  .exact m _ _ _ _ h
  .cases h;decide
theorem Jm{V:cD->Bool}{bs:cD}: ∀l,Ur (gC V bs l):=by
 intro l;induction l with
 |zero=>
  intro pos left e h;unfold gC at h;split at h
  .rename_i H;cases h;exact Cx H
  .split at h<;>(cases h;decide)
 |succ l i=>
  intro pos left e h;unfold gC at h;split at h
  .rename_i H;cases h;exact Cx H
  .split at h
   .dsimp only at h;split at h
    .cases h;decide
    .split at h
     .cases h
     .split at h
      .split at h
       .rename_i H;cases h;exact Jl i H
       .cases h
      .split at h
       .rename_i H;cases h;unfold Cw at H;split at H
        .exact LJ _ _ _ H
        .split at H
         .rename_i a;cases H;exact yH a
         .cases H
       .cases h
   .cases h;decide
theorem km{V:cD->Bool}{bs:cD}{e:Int}(h:lg V bs=.error e):e≠0:=by
 unfold lg at h;split at h
 .rename_i H;cases h;exact Jm 6 _ _ _ H
 .cases h
theorem pW{V:cD->Bool}{bs:cD}{t:Tr}{n:Nat}(h:lg V bs=.ok (t,n)):room t<=10*bs.length/\n<=bs.length:=by
 unfold lg at h;split at h
 .cases h
 .rename_i t N lf H;cases h;have:=D1 6 _ _ _ _ _ (bG _) H;omega
end Cb
end
abbrev Cl:=lS Tryz.prog
abbrev Ce:=hM Tryz.prog
abbrev Ga:List Nat:= [243,281,282,283,284,311]
abbrev gD.LD(h:ai)(a:Addr)(K:Int->Int->Int->Int->Int->Int->Prop):Prop:=jk h a λt0=>jk h (a.add 1) λt1=>jk h (a.add 2) λt2=>jk h (a.add 3) λt3=>jk h (a.add 4) λt4=> ∃t5,bg h (a.add 5)=some (.int .i64 t5)/\K t0 t1 t2 t3 t4 t5
abbrev gD.ST(h:ai)(a:Addr)(f0:Int)(f1:Int)(f2:Int)(f3:Int)(f4:Int)(f5:Int)(K:ai->Prop):Prop:=aS h a (.int .i64 f0) λH=>aS H (a.add 1) (.int .i64 f1) λb=>aS b (a.add 2) (.int .i64 f2) λc=>aS c (a.add 3) (.int .i64 f3) λd=>aS d (a.add 4) (.int .i64 f4) λe=>aS e (a.add 5) (.int .i64 f5) λf=>K f
abbrev aa.LD(h:ai)(a:Addr)(K:Int->Int->cy->Nat->Nat->cy->Nat->Nat->Prop):Prop:=jk h a λt0=>fW h (a.add 1) λt1=>oP h (a.add 2) λe d c=> ∃b T t,bg h (a.add 3)=some (.slice b T t)/\K t0 t1 e d c b T t
abbrev aa.ST(h:ai)(a:Addr)(f0:Int)(f1:Int)(nW:cy)(nj nY:Nat)(vq:cy)(oS sW:Nat)(K:ai->Prop):Prop:=aS h a (.int .i64 f0) λH=>aS H (a.add 1) (.int .u64 f1) λb=>aS b (a.add 2) (.slice nW nj nY) λc=>aS c (a.add 3) (.slice vq oS sW) λd=>K d
abbrev aN.LD(h:ai)(a:Addr)(K:Int->Bool->Int->Int->ByteArray->ByteArray->cy->Nat->Nat->Int->Int->Int->Prop):Prop:=jk h a λt0=>tj h (a.add 1) λt1=>fW h (a.add 2) λt2=>fW h (a.add 3) λt3=>mE h (a.add 4) λt4=>mE h (a.add 5) λt5=>oP h (a.add 6) λb T t=>fW h (a.add 7) λt7=>jk h (a.add 8) λt8=> ∃t9,bg h (a.add 9)=some (.int .u64 t9)/\K t0 t1 t2 t3 t4 t5 b T t t7 t8 t9
abbrev aN.ST(h:ai)(a:Addr)(f0:Int)(f1:Bool)(f2:Int)(f3:Int)(f4:ByteArray)(f5:ByteArray)(Dw:cy)(Dx Dy:Nat)(f7:Int)(f8:Int)(f9:Int)(K:ai->Prop):Prop:=aS h a (.int .i64 f0) λH=>aS H (a.add 1) (.bool f1) λc=>aS c (a.add 2) (.int .u64 f2) λd=>aS d (a.add 3) (.int .u64 f3) λe=>aS e (a.add 4) (.string f4) λf=>aS f (a.add 5) (.string f5) λg=>aS g (a.add 6) (.slice Dw Dx Dy) λi=>aS i (a.add 7) (.int .u64 f7) λj=>aS j (a.add 8) (.int .i64 f8) λk=>aS k (a.add 9) (.int .u64 f9) λb=>K b
abbrev ay.LD(h:ai)(a:Addr)(K:Bool->Int->Int->ByteArray->ByteArray->Prop):Prop:=tj h a λt0=>fW h (a.add 1) λt1=>fW h (a.add 2) λt2=>mE h (a.add 3) λt3=> ∃t4,bg h (a.add 4)=some (.string t4)/\K t0 t1 t2 t3 t4
abbrev bu.LD(h:ai)(a:Addr)(K:Int->Int->Bool->Prop):Prop:=jk h a λt0=>fW h (a.add 1) λt1=> ∃t2,bg h (a.add 2)=some (.bool t2)/\K t0 t1 t2
abbrev bu.ST(h:ai)(a:Addr)(f0:Int)(f1:Int)(f2:Bool)(K:ai->Prop):Prop:=aS h a (.int .i64 f0) λH=>aS H (a.add 1) (.int .u64 f1) λb=>aS b (a.add 2) (.bool f2) λc=>K c
abbrev ah.LD(h:ai)(a:Addr)(K:Bool->Int->Int->ByteArray->ByteArray->Int->Int->Prop):Prop:=tj h a λt0=>fW h (a.add 1) λt1=>fW h (a.add 2) λt2=>mE h (a.add 3) λt3=>mE h (a.add 4) λt4=>fW h (a.add 5) λt5=> ∃t6,bg h (a.add 6)=some (.int .u64 t6)/\K t0 t1 t2 t3 t4 t5 t6
abbrev ah.ST(h:ai)(a:Addr)(f0:Bool)(f1:Int)(f2:Int)(f3:ByteArray)(f4:ByteArray)(f5:Int)(f6:Int)(K:ai->Prop):Prop:=aS h a (.bool f0) λH=>aS H (a.add 1) (.int .u64 f1) λb=>aS b (a.add 2) (.int .u64 f2) λc=>aS c (a.add 3) (.string f3) λd=>aS d (a.add 4) (.string f4) λe=>aS e (a.add 5) (.int .u64 f5) λf=>aS f (a.add 6) (.int .u64 f6) λg=>K g
abbrev aH.LD(h:ai)(a:Addr)(K:Int->Int->cy->Nat->Nat->Int->Prop):Prop:=jk h a λt0=>jk h (a.add 1) λt1=>oP h (a.add 2) λb T t=> ∃t3,bg h (a.add 3)=some (.int .u64 t3)/\K t0 t1 b T t t3
abbrev aH.ST(h:ai)(a:Addr)(f0:Int)(f1:Int)(nW:cy)(nj nY:Nat)(f3:Int)(K:ai->Prop):Prop:=aS h a (.int .i64 f0) λH=>aS H (a.add 1) (.int .i64 f1) λb=>aS b (a.add 2) (.slice nW nj nY) λc=>aS c (a.add 3) (.int .u64 f3) λd=>K d
abbrev bR.LD(h:ai)(a:Addr)(K:Bool->Int->Int->ByteArray->ByteArray->Int->Int->Prop):Prop:=tj h a λt0=>fW h (a.add 1) λt1=>fW h (a.add 2) λt2=>mE h (a.add 3) λt3=>mE h (a.add 4) λt4=>jk h (a.add 5) λt5=> ∃t6,bg h (a.add 6)=some (.int .i64 t6)/\K t0 t1 t2 t3 t4 t5 t6
abbrev bR.ST(h:ai)(a:Addr)(f0:Bool)(f1:Int)(f2:Int)(f3:ByteArray)(f4:ByteArray)(f5:Int)(f6:Int)(K:ai->Prop):Prop:=aS h a (.bool f0) λH=>aS H (a.add 1) (.int .u64 f1) λb=>aS b (a.add 2) (.int .u64 f2) λc=>aS c (a.add 3) (.string f3) λd=>aS d (a.add 4) (.string f4) λe=>aS e (a.add 5) (.int .i64 f5) λf=>aS f (a.add 6) (.int .i64 f6) λg=>K g
abbrev ak.LD(h:ai)(a:Addr)(K:Int->Int->Int->Int->Int->cy->Nat->Nat->Prop):Prop:=fW h a λt0=>jk h (a.add 1) λt1=>jk h (a.add 2) λt2=>jk h (a.add 3) λt3=>fW h (a.add 4) λt4=> ∃b T t,bg h (a.add 5)=some (.slice b T t)/\K t0 t1 t2 t3 t4 b T t
abbrev ak.ST(h:ai)(a:Addr)(f0:Int)(f1:Int)(f2:Int)(f3:Int)(f4:Int)(xQ:cy)(f5l xR:Nat)(K:ai->Prop):Prop:=aS h a (.int .u64 f0) λH=>aS H (a.add 1) (.int .i64 f1) λb=>aS b (a.add 2) (.int .i64 f2) λc=>aS c (a.add 3) (.int .i64 f3) λd=>aS d (a.add 4) (.int .u64 f4) λe=>aS e (a.add 5) (.slice xQ f5l xR) λf=>K f
abbrev cz.LD(h:ai)(a:Addr)(K:Int->cy->Nat->Nat->Prop):Prop:=fW h a λt0=> ∃b T t,bg h (a.add 1)=some (.slice b T t)/\K t0 b T t
abbrev cz.ST(h:ai)(a:Addr)(f0:Int)(b:cy)(F f:Nat)(K:ai->Prop):Prop:=aS h a (.int .u64 f0) λH=>aS H (a.add 1) (.slice b F f) λc=>K c
structure cu.S where
 f0:Int
 f1:Int
 f2:Bool
 f3:Int
 f4:Int
 f5:ByteArray
 f6:ByteArray
 f7:Bool
 f8:Int
 f9:Int
 f10:ByteArray
 f11:ByteArray
 f12:Bool
 f13:Int
 f14:Int
 f15:ByteArray
 f16:ByteArray
 f17:Int
 f18:Int
 f19:Int
 Of:cy
 Gb:Nat
 Og:Nat
 f21:cy
 SP:cy
 SQ:Nat
 SR:Nat
abbrev cu.S.l(x:cu.S):List Value:= [.int .u64 x.f0,.int .i64 x.f1,.bool x.f2,.int .u64 x.f3,.int .u64 x.f4,.string x.f5,.string x.f6,.bool x.f7,.int .u64 x.f8,.int .u64 x.f9,.string x.f10,.string x.f11,.bool x.f12,.int .u64 x.f13,.int .u64 x.f14,.string x.f15,.string x.f16,.int .u64 x.f17,.int .u64 x.f18,.int .u64 x.f19,.slice x.Of x.Gb x.Og,.pointer x.f21,.slice x.SP x.SQ x.SR]
abbrev cu.S.arr(x:cu.S):Array Value:=x.l.toArray
abbrev cu.S.agg(x:cu.S):Value:=.agg x.arr
abbrev cu.S.z:cu.S:=⟨0,0,false,0,0,(⟨#[]⟩:ByteArray),(⟨#[]⟩:ByteArray),false,0,0,(⟨#[]⟩:ByteArray),(⟨#[]⟩:ByteArray),false,0,0,(⟨#[]⟩:ByteArray),(⟨#[]⟩:ByteArray),0,0,0,none,0,0,none,none,0,0⟩
abbrev cu.EX(K:cu.S->Prop):Prop:= ∃t0 t1 t2 t3 t4 t5 t6 t7 t8 t9 t10 t11 t12 t13 t14 t15 t16 t17 t18 t19 a T t t21 d c b,K ⟨t0,t1,t2,t3,t4,t5,t6,t7,t8,t9,t10,t11,t12,t13,t14,t15,t16,t17,t18,t19,a,T,t,t21,d,c,b⟩
abbrev cu.cv(h:ai)(a:Addr)(K:cu.S->Prop):Prop:=fW h a λt0=>jk h (a.add 1) λt1=>tj h (a.add 2) λt2=>fW h (a.add 3) λt3=>fW h (a.add 4) λt4=>mE h (a.add 5) λt5=>mE h (a.add 6) λt6=>tj h (a.add 7) λt7=>fW h (a.add 8) λt8=>fW h (a.add 9) λt9=>mE h (a.add 10) λt10=>mE h (a.add 11) λt11=>tj h (a.add 12) λt12=>fW h (a.add 13) λt13=>fW h (a.add 14) λt14=>mE h (a.add 15) λt15=>mE h (a.add 16) λt16=>fW h (a.add 17) λt17=>fW h (a.add 18) λt18=>fW h (a.add 19) λt19=>oP h (a.add 20) λe d c=>yu h (a.add 21) λt21=> ∃b T t,bg h (a.add 22)=some (.slice b T t)/\K ⟨t0,t1,t2,t3,t4,t5,t6,t7,t8,t9,t10,t11,t12,t13,t14,t15,t16,t17,t18,t19,e,d,c,t21,b,T,t⟩
structure cg.S where
 f0:Int
 f1:Int
 f2:Bool
 f3:Int
 f4:Int
 f5:ByteArray
 f6:ByteArray
 f7:Bool
 f8:Int
 f9:Int
 f10:ByteArray
 f11:ByteArray
 f12:Int
 f13:Int
 f14:Int
 Oh:cy
 LK:Nat
 Oi:Nat
 f16:Int
 f17:Int
 f18:Bool
 f19:cy
 f20:Int
abbrev cg.S.l(x:cg.S):List Value:= [.int .u64 x.f0,.int .i64 x.f1,.bool x.f2,.int .u64 x.f3,.int .u64 x.f4,.string x.f5,.string x.f6,.bool x.f7,.int .u64 x.f8,.int .u64 x.f9,.string x.f10,.string x.f11,.int .i64 x.f12,.int .i64 x.f13,.int .i64 x.f14,.slice x.Oh x.LK x.Oi,.int .u64 x.f16,.int .u64 x.f17,.bool x.f18,.pointer x.f19,.int .i64 x.f20]
abbrev cg.S.arr(x:cg.S):Array Value:=x.l.toArray
abbrev cg.S.agg(x:cg.S):Value:=.agg x.arr
abbrev cg.S.z:cg.S:=⟨0,0,false,0,0,(⟨#[]⟩:ByteArray),(⟨#[]⟩:ByteArray),false,0,0,(⟨#[]⟩:ByteArray),(⟨#[]⟩:ByteArray),0,0,0,none,0,0,0,0,false,none,0⟩
abbrev cg.EX(K:cg.S->Prop):Prop:= ∃t0 t1 t2 t3 t4 t5 t6 t7 t8 t9 t10 t11 t12 t13 t14 a T t t16 t17 t18 t19 t20,K ⟨t0,t1,t2,t3,t4,t5,t6,t7,t8,t9,t10,t11,t12,t13,t14,a,T,t,t16,t17,t18,t19,t20⟩
abbrev cg.cv(h:ai)(a:Addr)(K:cg.S->Prop):Prop:=fW h a λt0=>jk h (a.add 1) λt1=>tj h (a.add 2) λt2=>fW h (a.add 3) λt3=>fW h (a.add 4) λt4=>mE h (a.add 5) λt5=>mE h (a.add 6) λt6=>tj h (a.add 7) λt7=>fW h (a.add 8) λt8=>fW h (a.add 9) λt9=>mE h (a.add 10) λt10=>mE h (a.add 11) λt11=>jk h (a.add 12) λt12=>jk h (a.add 13) λt13=>jk h (a.add 14) λt14=>oP h (a.add 15) λb T t=>fW h (a.add 16) λt16=>fW h (a.add 17) λt17=>tj h (a.add 18) λt18=>yu h (a.add 19) λt19=> ∃t20,bg h (a.add 20)=some (.int .i64 t20)/\K ⟨t0,t1,t2,t3,t4,t5,t6,t7,t8,t9,t10,t11,t12,t13,t14,b,T,t,t16,t17,t18,t19,t20⟩
structure aq.S where
 f0:Int
 f1:Int
 f2:Bool
 f3:Int
 f4:Int
 f5:ByteArray
 f6:ByteArray
 f7:Bool
 f8:Int
 f9:Int
 f10:ByteArray
 f11:ByteArray
 f12:Bool
 f13:Int
 f14:Int
 f15:ByteArray
 f16:ByteArray
 f17:Int
 f18:Int
 f19:Int
 Of:cy
 Gb:Nat
 Og:Nat
abbrev aq.S.l(x:aq.S):List Value:= [.int .u64 x.f0,.int .i64 x.f1,.bool x.f2,.int .u64 x.f3,.int .u64 x.f4,.string x.f5,.string x.f6,.bool x.f7,.int .u64 x.f8,.int .u64 x.f9,.string x.f10,.string x.f11,.bool x.f12,.int .u64 x.f13,.int .u64 x.f14,.string x.f15,.string x.f16,.int .u64 x.f17,.int .u64 x.f18,.int .u64 x.f19,.slice x.Of x.Gb x.Og]
abbrev aq.S.arr(x:aq.S):Array Value:=x.l.toArray
abbrev aq.S.agg(x:aq.S):Value:=.agg x.arr
abbrev aq.S.z:aq.S:=⟨0,0,false,0,0,(⟨#[]⟩:ByteArray),(⟨#[]⟩:ByteArray),false,0,0,(⟨#[]⟩:ByteArray),(⟨#[]⟩:ByteArray),false,0,0,(⟨#[]⟩:ByteArray),(⟨#[]⟩:ByteArray),0,0,0,none,0,0⟩
abbrev aq.EX(K:aq.S->Prop):Prop:= ∃t0 t1 t2 t3 t4 t5 t6 t7 t8 t9 t10 t11 t12 t13 t14 t15 t16 t17 t18 t19 a T t,K ⟨t0,t1,t2,t3,t4,t5,t6,t7,t8,t9,t10,t11,t12,t13,t14,t15,t16,t17,t18,t19,a,T,t⟩
abbrev aq.cv(h:ai)(a:Addr)(K:aq.S->Prop):Prop:=fW h a λt0=>jk h (a.add 1) λt1=>tj h (a.add 2) λt2=>fW h (a.add 3) λt3=>fW h (a.add 4) λt4=>mE h (a.add 5) λt5=>mE h (a.add 6) λt6=>tj h (a.add 7) λt7=>fW h (a.add 8) λt8=>fW h (a.add 9) λt9=>mE h (a.add 10) λt10=>mE h (a.add 11) λt11=>tj h (a.add 12) λt12=>fW h (a.add 13) λt13=>fW h (a.add 14) λt14=>mE h (a.add 15) λt15=>mE h (a.add 16) λt16=>fW h (a.add 17) λt17=>fW h (a.add 18) λt18=>fW h (a.add 19) λt19=> ∃b T t,bg h (a.add 20)=some (.slice b T t)/\K ⟨t0,t1,t2,t3,t4,t5,t6,t7,t8,t9,t10,t11,t12,t13,t14,t15,t16,t17,t18,t19,b,T,t⟩
abbrev aq.cX(h:ai)(a:Addr)(x:aq.S)(K:ai->Prop):Prop:=dD a x.l 0 h K
structure ax.S where
 f0:Int
 f1:Int
 f2:Int
 f3:Int
 QY:cy
 QZ:Nat
 Q0:Nat
abbrev ax.S.l(x:ax.S):List Value:= [.int .u64 x.f0,.int .u64 x.f1,.int .u64 x.f2,.int .i64 x.f3,.slice x.QY x.QZ x.Q0]
abbrev ax.S.arr(x:ax.S):Array Value:=x.l.toArray
abbrev ax.S.agg(x:ax.S):Value:=.agg x.arr
abbrev ax.S.z:ax.S:=⟨0,0,0,0,none,0,0⟩
abbrev ax.EX(K:ax.S->Prop):Prop:= ∃t0 t1 t2 t3 a T t,K ⟨t0,t1,t2,t3,a,T,t⟩
abbrev ax.cv(h:ai)(a:Addr)(K:ax.S->Prop):Prop:=fW h a λt0=>fW h (a.add 1) λt1=>fW h (a.add 2) λt2=>jk h (a.add 3) λt3=> ∃b T t,bg h (a.add 4)=some (.slice b T t)/\K ⟨t0,t1,t2,t3,b,T,t⟩
abbrev ax.cX(h:ai)(a:Addr)(x:ax.S)(K:ai->Prop):Prop:=dD a x.l 0 h K
structure aa.S where
 f0:Int
 f1:Int
 nW:cy
 nj:Nat
 nY:Nat
 vq:cy
 oS:Nat
 sW:Nat
abbrev aa.S.l(x:aa.S):List Value:= [.int .i64 x.f0,.int .u64 x.f1,.slice x.nW x.nj x.nY,.slice x.vq x.oS x.sW]
abbrev aa.S.arr(x:aa.S):Array Value:=x.l.toArray
abbrev aa.S.agg(x:aa.S):Value:=.agg x.arr
abbrev aa.S.z:aa.S:=⟨0,0,none,0,0,none,0,0⟩
abbrev aa.EX(K:aa.S->Prop):Prop:= ∃t0 t1 a T t d c b,K ⟨t0,t1,a,T,t,d,c,b⟩
abbrev aa.cv(h:ai)(a:Addr)(K:aa.S->Prop):Prop:=jk h a λt0=>fW h (a.add 1) λt1=>oP h (a.add 2) λe d c=> ∃b T t,bg h (a.add 3)=some (.slice b T t)/\K ⟨t0,t1,e,d,c,b,T,t⟩
abbrev aa.cX(h:ai)(a:Addr)(x:aa.S)(K:ai->Prop):Prop:=dD a x.l 0 h K
structure aN.S where
 f0:Int
 f1:Bool
 f2:Int
 f3:Int
 f4:ByteArray
 f5:ByteArray
 Dw:cy
 Dx:Nat
 Dy:Nat
 f7:Int
 f8:Int
 f9:Int
abbrev aN.S.l(x:aN.S):List Value:= [.int .i64 x.f0,.bool x.f1,.int .u64 x.f2,.int .u64 x.f3,.string x.f4,.string x.f5,.slice x.Dw x.Dx x.Dy,.int .u64 x.f7,.int .i64 x.f8,.int .u64 x.f9]
abbrev aN.S.arr(x:aN.S):Array Value:=x.l.toArray
abbrev aN.S.agg(x:aN.S):Value:=.agg x.arr
abbrev aN.S.z:aN.S:=⟨0,false,0,0,(⟨#[]⟩:ByteArray),(⟨#[]⟩:ByteArray),none,0,0,0,0,0⟩
abbrev aN.EX(K:aN.S->Prop):Prop:= ∃t0 t1 t2 t3 t4 t5 a T t t7 t8 t9,K ⟨t0,t1,t2,t3,t4,t5,a,T,t,t7,t8,t9⟩
abbrev aN.cv(h:ai)(a:Addr)(K:aN.S->Prop):Prop:=jk h a λt0=>tj h (a.add 1) λt1=>fW h (a.add 2) λt2=>fW h (a.add 3) λt3=>mE h (a.add 4) λt4=>mE h (a.add 5) λt5=>oP h (a.add 6) λb T t=>fW h (a.add 7) λt7=>jk h (a.add 8) λt8=> ∃t9,bg h (a.add 9)=some (.int .u64 t9)/\K ⟨t0,t1,t2,t3,t4,t5,b,T,t,t7,t8,t9⟩
abbrev aN.cX(h:ai)(a:Addr)(x:aN.S)(K:ai->Prop):Prop:=dD a x.l 0 h K
structure ay.S where
 f0:Bool
 f1:Int
 f2:Int
 f3:ByteArray
 f4:ByteArray
abbrev ay.S.l(x:ay.S):List Value:= [.bool x.f0,.int .u64 x.f1,.int .u64 x.f2,.string x.f3,.string x.f4]
abbrev ay.S.arr(x:ay.S):Array Value:=x.l.toArray
abbrev ay.S.agg(x:ay.S):Value:=.agg x.arr
abbrev ay.S.z:ay.S:=⟨false,0,0,(⟨#[]⟩:ByteArray),(⟨#[]⟩:ByteArray)⟩
abbrev ay.EX(K:ay.S->Prop):Prop:= ∃t0 t1 t2 t3 t4,K ⟨t0,t1,t2,t3,t4⟩
abbrev ay.cv(h:ai)(a:Addr)(K:ay.S->Prop):Prop:=tj h a λt0=>fW h (a.add 1) λt1=>fW h (a.add 2) λt2=>mE h (a.add 3) λt3=> ∃t4,bg h (a.add 4)=some (.string t4)/\K ⟨t0,t1,t2,t3,t4⟩
abbrev ay.cX(h:ai)(a:Addr)(x:ay.S)(K:ai->Prop):Prop:=dD a x.l 0 h K
structure aP.S where
 f0:Int
 f1:Int
 f2:Int
 f3:Int
 f4:Int
 f5:Int
 f6:Bool
 f7:Int
 f8:Int
 f9:ByteArray
 f10:ByteArray
 f11:Bool
 f12:Int
 f13:Int
 f14:ByteArray
 f15:ByteArray
 f16:Int
 f17:Int
 f18:Int
 SU:cy
 SV:Nat
 SW:Nat
 f20:Int
 f21:Int
 f22:Bool
 SX:cy
 SY:Nat
 SZ:Nat
abbrev aP.S.l(x:aP.S):List Value:= [.int .u64 x.f0,.int .i64 x.f1,.int .u64 x.f2,.int .i64 x.f3,.int .u64 x.f4,.int .i64 x.f5,.bool x.f6,.int .u64 x.f7,.int .u64 x.f8,.string x.f9,.string x.f10,.bool x.f11,.int .u64 x.f12,.int .u64 x.f13,.string x.f14,.string x.f15,.int .i64 x.f16,.int .i64 x.f17,.int .i64 x.f18,.slice x.SU x.SV x.SW,.int .u64 x.f20,.int .u64 x.f21,.bool x.f22,.slice x.SX x.SY x.SZ]
abbrev aP.S.arr(x:aP.S):Array Value:=x.l.toArray
abbrev aP.S.agg(x:aP.S):Value:=.agg x.arr
abbrev aP.S.z:aP.S:=⟨0,0,0,0,0,0,false,0,0,(⟨#[]⟩:ByteArray),(⟨#[]⟩:ByteArray),false,0,0,(⟨#[]⟩:ByteArray),(⟨#[]⟩:ByteArray),0,0,0,none,0,0,0,0,false,none,0,0⟩
abbrev aP.EX(K:aP.S->Prop):Prop:= ∃t0 t1 t2 t3 t4 t5 t6 t7 t8 t9 t10 t11 t12 t13 t14 t15 t16 t17 t18 a T t t20 t21 t22 d c b,K ⟨t0,t1,t2,t3,t4,t5,t6,t7,t8,t9,t10,t11,t12,t13,t14,t15,t16,t17,t18,a,T,t,t20,t21,t22,d,c,b⟩
abbrev aP.cv(h:ai)(a:Addr)(K:aP.S->Prop):Prop:=fW h a λt0=>jk h (a.add 1) λt1=>fW h (a.add 2) λt2=>jk h (a.add 3) λt3=>fW h (a.add 4) λt4=>jk h (a.add 5) λt5=>tj h (a.add 6) λt6=>fW h (a.add 7) λt7=>fW h (a.add 8) λt8=>mE h (a.add 9) λt9=>mE h (a.add 10) λt10=>tj h (a.add 11) λt11=>fW h (a.add 12) λt12=>fW h (a.add 13) λt13=>mE h (a.add 14) λt14=>mE h (a.add 15) λt15=>jk h (a.add 16) λt16=>jk h (a.add 17) λt17=>jk h (a.add 18) λt18=>oP h (a.add 19) λe d c=>fW h (a.add 20) λt20=>fW h (a.add 21) λt21=>tj h (a.add 22) λt22=> ∃b T t,bg h (a.add 23)=some (.slice b T t)/\K ⟨t0,t1,t2,t3,t4,t5,t6,t7,t8,t9,t10,t11,t12,t13,t14,t15,t16,t17,t18,e,d,c,t20,t21,t22,b,T,t⟩
abbrev aP.cX(h:ai)(a:Addr)(x:aP.S)(K:ai->Prop):Prop:=dD a x.l 0 h K
structure ah.S where
 f0:Bool
 f1:Int
 f2:Int
 f3:ByteArray
 f4:ByteArray
 f5:Int
 f6:Int
abbrev ah.S.l(x:ah.S):List Value:= [.bool x.f0,.int .u64 x.f1,.int .u64 x.f2,.string x.f3,.string x.f4,.int .u64 x.f5,.int .u64 x.f6]
abbrev ah.S.arr(x:ah.S):Array Value:=x.l.toArray
abbrev ah.S.agg(x:ah.S):Value:=.agg x.arr
abbrev ah.S.z:ah.S:=⟨false,0,0,(⟨#[]⟩:ByteArray),(⟨#[]⟩:ByteArray),0,0⟩
abbrev ah.EX(K:ah.S->Prop):Prop:= ∃t0 t1 t2 t3 t4 t5 t6,K ⟨t0,t1,t2,t3,t4,t5,t6⟩
abbrev ah.cv(h:ai)(a:Addr)(K:ah.S->Prop):Prop:=tj h a λt0=>fW h (a.add 1) λt1=>fW h (a.add 2) λt2=>mE h (a.add 3) λt3=>mE h (a.add 4) λt4=>fW h (a.add 5) λt5=> ∃t6,bg h (a.add 6)=some (.int .u64 t6)/\K ⟨t0,t1,t2,t3,t4,t5,t6⟩
abbrev ah.cX(h:ai)(a:Addr)(x:ah.S)(K:ai->Prop):Prop:=dD a x.l 0 h K
structure aH.S where
 f0:Int
 f1:Int
 nW:cy
 nj:Nat
 nY:Nat
 f3:Int
abbrev aH.S.l(x:aH.S):List Value:= [.int .i64 x.f0,.int .i64 x.f1,.slice x.nW x.nj x.nY,.int .u64 x.f3]
abbrev aH.S.arr(x:aH.S):Array Value:=x.l.toArray
abbrev aH.S.agg(x:aH.S):Value:=.agg x.arr
abbrev aH.S.z:aH.S:=⟨0,0,none,0,0,0⟩
abbrev aH.EX(K:aH.S->Prop):Prop:= ∃t0 t1 a T t t3,K ⟨t0,t1,a,T,t,t3⟩
abbrev aH.cX(h:ai)(a:Addr)(x:aH.S)(K:ai->Prop):Prop:=dD a x.l 0 h K
structure aC.S where
 f0:Int
 f1:Int
 f2:Bool
 f3:Int
 f4:Int
 f5:ByteArray
 f6:ByteArray
 f7:Bool
 f8:Int
 f9:Int
 f10:ByteArray
 f11:ByteArray
 f12:Bool
 f13:Int
 f14:Int
 f15:ByteArray
 f16:ByteArray
 f17:Int
 f18:Int
 f19:Int
abbrev aC.S.l(x:aC.S):List Value:= [.int .u64 x.f0,.int .i64 x.f1,.bool x.f2,.int .u64 x.f3,.int .u64 x.f4,.string x.f5,.string x.f6,.bool x.f7,.int .u64 x.f8,.int .u64 x.f9,.string x.f10,.string x.f11,.bool x.f12,.int .u64 x.f13,.int .u64 x.f14,.string x.f15,.string x.f16,.int .u64 x.f17,.int .u64 x.f18,.int .u64 x.f19]
abbrev aC.S.arr(x:aC.S):Array Value:=x.l.toArray
abbrev aC.S.agg(x:aC.S):Value:=.agg x.arr
abbrev aC.S.z:aC.S:=⟨0,0,false,0,0,(⟨#[]⟩:ByteArray),(⟨#[]⟩:ByteArray),false,0,0,(⟨#[]⟩:ByteArray),(⟨#[]⟩:ByteArray),false,0,0,(⟨#[]⟩:ByteArray),(⟨#[]⟩:ByteArray),0,0,0⟩
abbrev aC.EX(K:aC.S->Prop):Prop:= ∃t0 t1 t2 t3 t4 t5 t6 t7 t8 t9 t10 t11 t12 t13 t14 t15 t16 t17 t18 t19,K ⟨t0,t1,t2,t3,t4,t5,t6,t7,t8,t9,t10,t11,t12,t13,t14,t15,t16,t17,t18,t19⟩
abbrev aC.cv(h:ai)(a:Addr)(K:aC.S->Prop):Prop:=fW h a λt0=>jk h (a.add 1) λt1=>tj h (a.add 2) λt2=>fW h (a.add 3) λt3=>fW h (a.add 4) λt4=>mE h (a.add 5) λt5=>mE h (a.add 6) λt6=>tj h (a.add 7) λt7=>fW h (a.add 8) λt8=>fW h (a.add 9) λt9=>mE h (a.add 10) λt10=>mE h (a.add 11) λt11=>tj h (a.add 12) λt12=>fW h (a.add 13) λt13=>fW h (a.add 14) λt14=>mE h (a.add 15) λt15=>mE h (a.add 16) λt16=>fW h (a.add 17) λt17=>fW h (a.add 18) λt18=> ∃t19,bg h (a.add 19)=some (.int .u64 t19)/\K ⟨t0,t1,t2,t3,t4,t5,t6,t7,t8,t9,t10,t11,t12,t13,t14,t15,t16,t17,t18,t19⟩
abbrev aC.cX(h:ai)(a:Addr)(x:aC.S)(K:ai->Prop):Prop:=dD a x.l 0 h K
structure ak.S where
 f0:Int
 f1:Int
 f2:Int
 f3:Int
 f4:Int
 xQ:cy
 f5l:Nat
 xR:Nat
abbrev ak.S.l(x:ak.S):List Value:= [.int .u64 x.f0,.int .i64 x.f1,.int .i64 x.f2,.int .i64 x.f3,.int .u64 x.f4,.slice x.xQ x.f5l x.xR]
abbrev ak.S.arr(x:ak.S):Array Value:=x.l.toArray
abbrev ak.S.agg(x:ak.S):Value:=.agg x.arr
abbrev ak.S.z:ak.S:=⟨0,0,0,0,0,none,0,0⟩
abbrev ak.EX(K:ak.S->Prop):Prop:= ∃t0 t1 t2 t3 t4 a T t,K ⟨t0,t1,t2,t3,t4,a,T,t⟩
abbrev ak.cv(h:ai)(a:Addr)(K:ak.S->Prop):Prop:=fW h a λt0=>jk h (a.add 1) λt1=>jk h (a.add 2) λt2=>jk h (a.add 3) λt3=>fW h (a.add 4) λt4=> ∃b T t,bg h (a.add 5)=some (.slice b T t)/\K ⟨t0,t1,t2,t3,t4,b,T,t⟩
abbrev ak.cX(h:ai)(a:Addr)(x:ak.S)(K:ai->Prop):Prop:=dD a x.l 0 h K
structure aJ.S where
 f0:Bool
 f1:Bool
 f2:Bool
 f3:Int
 f4:Int
 f5:Bool
 f6:Int
 f7:Int
 f8:ByteArray
 f9:ByteArray
 f10:Int
 f11:Int
abbrev aJ.S.l(x:aJ.S):List Value:= [.bool x.f0,.bool x.f1,.bool x.f2,.int .u64 x.f3,.int .u64 x.f4,.bool x.f5,.int .u64 x.f6,.int .u64 x.f7,.string x.f8,.string x.f9,.int .u64 x.f10,.int .u64 x.f11]
abbrev aJ.S.arr(x:aJ.S):Array Value:=x.l.toArray
abbrev aJ.S.agg(x:aJ.S):Value:=.agg x.arr
abbrev aJ.S.z:aJ.S:=⟨false,false,false,0,0,false,0,0,(⟨#[]⟩:ByteArray),(⟨#[]⟩:ByteArray),0,0⟩
abbrev aJ.EX(K:aJ.S->Prop):Prop:= ∃t0 t1 t2 t3 t4 t5 t6 t7 t8 t9 t10 t11,K ⟨t0,t1,t2,t3,t4,t5,t6,t7,t8,t9,t10,t11⟩
abbrev aJ.cv(h:ai)(a:Addr)(K:aJ.S->Prop):Prop:=tj h a λt0=>tj h (a.add 1) λt1=>tj h (a.add 2) λt2=>fW h (a.add 3) λt3=>fW h (a.add 4) λt4=>tj h (a.add 5) λt5=>fW h (a.add 6) λt6=>fW h (a.add 7) λt7=>mE h (a.add 8) λt8=>mE h (a.add 9) λt9=>fW h (a.add 10) λt10=> ∃t11,bg h (a.add 11)=some (.int .u64 t11)/\K ⟨t0,t1,t2,t3,t4,t5,t6,t7,t8,t9,t10,t11⟩
abbrev aJ.cX(h:ai)(a:Addr)(x:aJ.S)(K:ai->Prop):Prop:=dD a x.l 0 h K
structure aE.S where
 f0:Int
 f1:Int
 f2:Bool
 f3:Int
 f4:Int
 f5:ByteArray
 f6:ByteArray
 f7:Bool
 f8:Int
 f9:Int
 f10:ByteArray
 f11:ByteArray
 f12:Int
 f13:Int
 f14:Int
 Oh:cy
 LK:Nat
 Oi:Nat
 f16:Int
 f17:Int
 f18:Bool
abbrev aE.S.l(x:aE.S):List Value:= [.int .u64 x.f0,.int .i64 x.f1,.bool x.f2,.int .u64 x.f3,.int .u64 x.f4,.string x.f5,.string x.f6,.bool x.f7,.int .u64 x.f8,.int .u64 x.f9,.string x.f10,.string x.f11,.int .i64 x.f12,.int .i64 x.f13,.int .i64 x.f14,.slice x.Oh x.LK x.Oi,.int .u64 x.f16,.int .u64 x.f17,.bool x.f18]
abbrev aE.S.arr(x:aE.S):Array Value:=x.l.toArray
abbrev aE.S.agg(x:aE.S):Value:=.agg x.arr
abbrev aE.S.z:aE.S:=⟨0,0,false,0,0,(⟨#[]⟩:ByteArray),(⟨#[]⟩:ByteArray),false,0,0,(⟨#[]⟩:ByteArray),(⟨#[]⟩:ByteArray),0,0,0,none,0,0,0,0,false⟩
abbrev aE.EX(K:aE.S->Prop):Prop:= ∃t0 t1 t2 t3 t4 t5 t6 t7 t8 t9 t10 t11 t12 t13 t14 a T t t16 t17 t18,K ⟨t0,t1,t2,t3,t4,t5,t6,t7,t8,t9,t10,t11,t12,t13,t14,a,T,t,t16,t17,t18⟩
abbrev aE.cv(h:ai)(a:Addr)(K:aE.S->Prop):Prop:=fW h a λt0=>jk h (a.add 1) λt1=>tj h (a.add 2) λt2=>fW h (a.add 3) λt3=>fW h (a.add 4) λt4=>mE h (a.add 5) λt5=>mE h (a.add 6) λt6=>tj h (a.add 7) λt7=>fW h (a.add 8) λt8=>fW h (a.add 9) λt9=>mE h (a.add 10) λt10=>mE h (a.add 11) λt11=>jk h (a.add 12) λt12=>jk h (a.add 13) λt13=>jk h (a.add 14) λt14=>oP h (a.add 15) λb T t=>fW h (a.add 16) λt16=>fW h (a.add 17) λt17=> ∃t18,bg h (a.add 18)=some (.bool t18)/\K ⟨t0,t1,t2,t3,t4,t5,t6,t7,t8,t9,t10,t11,t12,t13,t14,b,T,t,t16,t17,t18⟩
abbrev aE.cX(h:ai)(a:Addr)(x:aE.S)(K:ai->Prop):Prop:=dD a x.l 0 h K

section
variable {h:ai} {R:fp}
variable {b nj nY oS sW l k F f f5l xR Dx Dy:Nat} {f0 f1 g0 g f2 d f3 f5 f6 G i n f7 f8 f9:Int} {nW vq m c xQ Dw:cy} {K:Nat->ai->Prop} {a:Addr} {f4 e s:ByteArray}
def aa.at(h:ai)(b:Nat)(f0:Int)(f1:Int)(nW:cy)(nj nY:Nat)(vq:cy)(oS sW:Nat):Prop:=h[b]? =some (.cells #[.int .i64 f0,.int .u64 f1,.slice nW nj nY,.slice vq oS sW] 262 (0,0))
theorem aa.ld{K:Int->Int->cy->Nat->Nat->cy->Nat->Nat->Prop}(H:aa.at h b f0 f1 nW nj nY vq oS sW)(hk:K f0 f1 nW nj nY vq oS sW):aa.LD h (AA b 0) K:=
 ⟨_,ar H,_,ar H,_,_,_,ar H,_,_,_,ar H,hk⟩
theorem aa.FA{K:Int->Int->cy->Nat->Nat->cy->Nat->Nat->Prop}(H:dI a [.I f0,.U f1,.slice nW nj nY,.slice vq oS sW] 0 h)(hk:K f0 f1 nW nj nY vq oS sW):aa.LD h a K:=by
 obtain⟨q,q1,q2,q3,_⟩:=H;rw[fP]at q;exact⟨_,q,_,q1,_,_,_,q2,_,_,_,q3,hk⟩
theorem aa.held(H:aa.at h b f0 f1 nW nj nY vq oS sW):dI (AA b 0) [.I f0,.U f1,.slice nW nj nY,.slice vq oS sW] 0 h:=
 gT H (λj v o=>by rw[bL];simpa using o)
theorem aa.rh{K:ai->Prop}(hk:dD a [.I f0,.U f1,.slice nW nj nY,.slice vq oS sW] 0 h K):aa.ST h a f0 f1 nW nj nY vq oS sW K:=hk
theorem aa.new(hk: ∀b h',b=h.size->aa.at h' b f0 f1 nW nj nY vq oS sW->Fr No h h'->K b h'):aQ h (.cells #[.I 0,.U 0,.Z,.Z] 262) λb H=>aa.ST H (AA b 0) f0 f1 nW nj nY vq oS sW (K b):=
 fZ (vs:= [.I f0,.U f1,.slice nW nj nY,.slice vq oS sW]) rfl rfl hk
theorem aa.box(hk: ∀b h',b=h.size->aa.at h' b f0 f1 nW nj nY vq oS sW->Fr No h h'->K b h'):aQ h (.cells #[.I f0,.U f1,.slice nW nj nY,.slice vq oS sW] 262) λb H=>K b H:=
 cF (hk _ _ rfl bV (Fr.push _ _))
theorem aa.set{p:cy}{o j:Nat}{K:ai->Prop}(a0:aa.at h b g0 g m l k p o j)(hk: ∀h',aa.at h' b f0 f1 nW nj nY vq oS sW->h'.size=h.size->(∀x,x≠b->h'[x]? =h[x]?)->K h'):aa.ST h (AA b 0) f0 f1 nW nj nY vq oS sW K:=
 aa.rh (eI a0 rfl rfl hk)
def bu.at(h:ai)(b:Nat)(f0:Int)(f1:Int)(f2:Bool):Prop:=h[b]? =some (.cells #[.int .i64 f0,.int .u64 f1,.bool f2] 360 (0,0))
theorem bu.ld{f2:Bool}{K:Int->Int->Bool->Prop}(H:bu.at h b f0 f1 f2)(hk:K f0 f1 f2):bu.LD h (AA b 0) K:=
 ⟨_,ar H,_,ar H,_,ar H,hk⟩
theorem bu.rh{f2:Bool}{K:ai->Prop}(hk:dD a [.I f0,.U f1,.bool f2] 0 h K):bu.ST h a f0 f1 f2 K:=hk
theorem bu.new{f2:Bool}(hk: ∀b h',b=h.size->bu.at h' b f0 f1 f2->Fr No h h'->K b h'):aQ h (.cells #[.I 0,.U 0,.bool false] 360) λb H=>bu.ST H (AA b 0) f0 f1 f2 (K b):=
 fZ (vs:= [.I f0,.U f1,.bool f2]) rfl rfl hk
theorem bu.box{f2:Bool}(hk: ∀b h',b=h.size->bu.at h' b f0 f1 f2->Fr No h h'->K b h'):aQ h (.cells #[.I f0,.U f1,.bool f2] 360) λb H=>K b H:=
 cF (hk _ _ rfl bV (Fr.push _ _))
theorem bu.set{d:Bool}{f2:Bool}{K:ai->Prop}(a0:bu.at h b g0 g d)(hk: ∀h',bu.at h' b f0 f1 f2->h'.size=h.size->(∀x,x≠b->h'[x]? =h[x]?)->K h'):bu.ST h (AA b 0) f0 f1 f2 K:=
 bu.rh (eI a0 rfl rfl hk)
def ah.at(h:ai)(b:Nat)(f0:Bool)(f1:Int)(f2:Int)(f3:ByteArray)(f4:ByteArray)(f5:Int)(f6:Int):Prop:=h[b]? =some (.cells #[.bool f0,.int .u64 f1,.int .u64 f2,.string f3,.string f4,.int .u64 f5,.int .u64 f6] 124 (0,0))
theorem ah.ld{f0:Bool}{f3:ByteArray}{K:Bool->Int->Int->ByteArray->ByteArray->Int->Int->Prop}(H:ah.at h b f0 f1 f2 f3 f4 f5 f6)(hk:K f0 f1 f2 f3 f4 f5 f6):ah.LD h (AA b 0) K:=
 ⟨_,ar H,_,ar H,_,ar H,_,ar H,_,ar H,_,ar H,_,ar H,hk⟩
theorem ah.rh{f0:Bool}{f3:ByteArray}{K:ai->Prop}(hk:dD a [.bool f0,.U f1,.U f2,.string f3,.string f4,.U f5,.U f6] 0 h K):ah.ST h a f0 f1 f2 f3 f4 f5 f6 K:=hk
theorem ah.box{f0:Bool}{f3:ByteArray}(hk: ∀b h',b=h.size->ah.at h' b f0 f1 f2 f3 f4 f5 f6->Fr No h h'->K b h'):aQ h (.cells #[.bool f0,.U f1,.U f2,.string f3,.string f4,.U f5,.U f6] 124) λb H=>K b H:=
 cF (hk _ _ rfl bV (Fr.push _ _))
theorem ah.set{g0:Bool}{G:ByteArray}{f0:Bool}{f3:ByteArray}{K:ai->Prop}(a0:ah.at h b g0 g d G e i n)(hk: ∀h',ah.at h' b f0 f1 f2 f3 f4 f5 f6->h'.size=h.size->(∀x,x≠b->h'[x]? =h[x]?)->K h'):ah.ST h (AA b 0) f0 f1 f2 f3 f4 f5 f6 K:=
 ah.rh (eI a0 rfl rfl hk)
def aH.at(h:ai)(b:Nat)(f0:Int)(f1:Int)(nW:cy)(nj nY:Nat)(f3:Int):Prop:=h[b]? =some (.cells #[.int .i64 f0,.int .i64 f1,.slice nW nj nY,.int .u64 f3] 119 (0,0))
theorem aH.ld{K:Int->Int->cy->Nat->Nat->Int->Prop}(H:aH.at h b f0 f1 nW nj nY f3)(hk:K f0 f1 nW nj nY f3):aH.LD h (AA b 0) K:=
 ⟨_,ar H,_,ar H,_,_,_,ar H,_,ar H,hk⟩
theorem aH.FA{K:Int->Int->cy->Nat->Nat->Int->Prop}(H:dI a [.I f0,.I f1,.slice nW nj nY,.U f3] 0 h)(hk:K f0 f1 nW nj nY f3):aH.LD h a K:=by
 obtain⟨q,q1,q2,q3,_⟩:=H;rw[fP]at q;exact⟨_,q,_,q1,_,_,_,q2,_,q3,hk⟩
theorem aH.rh{K:ai->Prop}(hk:dD a [.I f0,.I f1,.slice nW nj nY,.U f3] 0 h K):aH.ST h a f0 f1 nW nj nY f3 K:=hk
theorem aH.new(hk: ∀b h',b=h.size->aH.at h' b f0 f1 nW nj nY f3->Fr No h h'->K b h'):aQ h (.cells #[.I 0,.I 0,.Z,.U 0] 119) λb H=>aH.ST H (AA b 0) f0 f1 nW nj nY f3 (K b):=
 fZ (vs:= [.I f0,.I f1,.slice nW nj nY,.U f3]) rfl rfl hk
theorem aH.box(hk: ∀b h',b=h.size->aH.at h' b f0 f1 nW nj nY f3->Fr No h h'->K b h'):aQ h (.cells #[.I f0,.I f1,.slice nW nj nY,.U f3] 119) λb H=>K b H:=
 cF (hk _ _ rfl bV (Fr.push _ _))
theorem aH.set{K:ai->Prop}(a0:aH.at h b g0 g m l k G)(hk: ∀h',aH.at h' b f0 f1 nW nj nY f3->h'.size=h.size->(∀x,x≠b->h'[x]? =h[x]?)->K h'):aH.ST h (AA b 0) f0 f1 nW nj nY f3 K:=
 aH.rh (eI a0 rfl rfl hk)
def cz.at(h:ai)(b:Nat)(f0:Int)(c:cy)(F f:Nat):Prop:=h[b]? =some (.cells #[.int .u64 f0,.slice c F f] 161 (0,0))
theorem cz.ld{K:Int->cy->Nat->Nat->Prop}(H:cz.at h b f0 c F f)(hk:K f0 c F f):cz.LD h (AA b 0) K:=
 ⟨_,ar H,_,_,_,ar H,hk⟩
theorem cz.FA{K:Int->cy->Nat->Nat->Prop}(H:dI a [.U f0,.slice c F f] 0 h)(hk:K f0 c F f):cz.LD h a K:=by
 obtain⟨q,q1,_⟩:=H;rw[fP]at q;exact⟨_,q,_,_,_,q1,hk⟩
theorem cz.new(hk: ∀b h',b=h.size->cz.at h' b f0 c F f->Fr No h h'->K b h'):aQ h (.cells #[.U 0,.Z] 161) λb H=>cz.ST H (AA b 0) f0 c F f (K b):=
 fZ (vs:= [.U f0,.slice c F f]) rfl rfl hk
theorem cz.box(hk: ∀b h',b=h.size->cz.at h' b f0 c F f->Fr No h h'->K b h'):aQ h (.cells #[.U f0,.slice c F f] 161) λb H=>K b H:=
 cF (hk _ _ rfl bV (Fr.push _ _))
def iy.at(h:ai)(b:Nat)(f0:Int)(f1:Int)(f2:Bool)(f3:Bool)(QY:cy)(QZ Q0:Nat)(xQ:cy)(f5l xR:Nat):Prop:=h[b]? =some (.cells #[.int .i64 f0,.int .u64 f1,.bool f2,.bool f3,.slice QY QZ Q0,.slice xQ f5l xR] 76 (0,0))
theorem iy.box{f2:Bool}{f3:Bool}{QY:cy}{QZ Q0:Nat}(hk: ∀b h',b=h.size->iy.at h' b f0 f1 f2 f3 QY QZ Q0 xQ f5l xR->Fr No h h'->K b h'):aQ h (.cells #[.I f0,.U f1,.bool f2,.bool f3,.slice QY QZ Q0,.slice xQ f5l xR] 76) λb H=>K b H:=
 cF (hk _ _ rfl bV (Fr.push _ _))
def ay.at(h:ai)(b:Nat)(f0:Bool)(f1:Int)(f2:Int)(f3:ByteArray)(f4:ByteArray):Prop:=h[b]? =some (.cells #[.bool f0,.int .u64 f1,.int .u64 f2,.string f3,.string f4] 29 (0,0))
theorem ay.ld{f0:Bool}{f3:ByteArray}{K:Bool->Int->Int->ByteArray->ByteArray->Prop}(H:ay.at h b f0 f1 f2 f3 f4)(hk:K f0 f1 f2 f3 f4):ay.LD h (AA b 0) K:=
 ⟨_,ar H,_,ar H,_,ar H,_,ar H,_,ar H,hk⟩
theorem ay.held{f0:Bool}{f3:ByteArray}(H:ay.at h b f0 f1 f2 f3 f4):dI (AA b 0) [.bool f0,.U f1,.U f2,.string f3,.string f4] 0 h:=
 gT H (λj v o=>by rw[bL];simpa using o)
theorem ay.box{f0:Bool}{f3:ByteArray}(hk: ∀b h',b=h.size->ay.at h' b f0 f1 f2 f3 f4->Fr No h h'->K b h'):aQ h (.cells #[.bool f0,.U f1,.U f2,.string f3,.string f4] 29) λb H=>K b H:=
 cF (hk _ _ rfl bV (Fr.push _ _))
def bR.at(h:ai)(b:Nat)(f0:Bool)(f1:Int)(f2:Int)(f3:ByteArray)(f4:ByteArray)(f5:Int)(f6:Int):Prop:=h[b]? =some (.cells #[.bool f0,.int .u64 f1,.int .u64 f2,.string f3,.string f4,.int .i64 f5,.int .i64 f6] 136 (0,0))
theorem bR.ld{f0:Bool}{f3:ByteArray}{K:Bool->Int->Int->ByteArray->ByteArray->Int->Int->Prop}(H:bR.at h b f0 f1 f2 f3 f4 f5 f6)(hk:K f0 f1 f2 f3 f4 f5 f6):bR.LD h (AA b 0) K:=
 ⟨_,ar H,_,ar H,_,ar H,_,ar H,_,ar H,_,ar H,_,ar H,hk⟩
theorem bR.rh{f0:Bool}{f3:ByteArray}{K:ai->Prop}(hk:dD a [.bool f0,.U f1,.U f2,.string f3,.string f4,.I f5,.I f6] 0 h K):bR.ST h a f0 f1 f2 f3 f4 f5 f6 K:=hk
theorem bR.new{f0:Bool}{f3:ByteArray}(hk: ∀b h',b=h.size->bR.at h' b f0 f1 f2 f3 f4 f5 f6->Fr No h h'->K b h'):aQ h (.cells #[.bool false,.U 0,.U 0,.string fU,.string fU,.I 0,.I 0] 136) λb H=>bR.ST H (AA b 0) f0 f1 f2 f3 f4 f5 f6 (K b):=
 fZ (vs:= [.bool f0,.U f1,.U f2,.string f3,.string f4,.I f5,.I f6]) rfl rfl hk
theorem bR.box{f0:Bool}{f3:ByteArray}(hk: ∀b h',b=h.size->bR.at h' b f0 f1 f2 f3 f4 f5 f6->Fr No h h'->K b h'):aQ h (.cells #[.bool f0,.U f1,.U f2,.string f3,.string f4,.I f5,.I f6] 136) λb H=>K b H:=
 cF (hk _ _ rfl bV (Fr.push _ _))
theorem bR.set{g0:Bool}{G:ByteArray}{f0:Bool}{f3:ByteArray}{K:ai->Prop}(a0:bR.at h b g0 g d G e i n)(hk: ∀h',bR.at h' b f0 f1 f2 f3 f4 f5 f6->h'.size=h.size->(∀x,x≠b->h'[x]? =h[x]?)->K h'):bR.ST h (AA b 0) f0 f1 f2 f3 f4 f5 f6 K:=
 bR.rh (eI a0 rfl rfl hk)
def aN.at(h:ai)(b:Nat)(f0:Int)(f1:Bool)(f2:Int)(f3:Int)(f4:ByteArray)(f5:ByteArray)(Dw:cy)(Dx Dy:Nat)(f7:Int)(f8:Int)(f9:Int):Prop:=h[b]? =some (.cells #[.int .i64 f0,.bool f1,.int .u64 f2,.int .u64 f3,.string f4,.string f5,.slice Dw Dx Dy,.int .u64 f7,.int .i64 f8,.int .u64 f9] 114 (0,0))
theorem aN.ld{f1:Bool}{f5:ByteArray}{K:Int->Bool->Int->Int->ByteArray->ByteArray->cy->Nat->Nat->Int->Int->Int->Prop}(H:aN.at h b f0 f1 f2 f3 f4 f5 Dw Dx Dy f7 f8 f9)(hk:K f0 f1 f2 f3 f4 f5 Dw Dx Dy f7 f8 f9):aN.LD h (AA b 0) K:=
 ⟨_,ar H,_,ar H,_,ar H,_,ar H,_,ar H,_,ar H,_,_,_,ar H,_,ar H,_,ar H,_,ar H,hk⟩
theorem aN.rh{f1:Bool}{f5:ByteArray}{K:ai->Prop}(hk:dD a [.I f0,.bool f1,.U f2,.U f3,.string f4,.string f5,.slice Dw Dx Dy,.U f7,.I f8,.U f9] 0 h K):aN.ST h a f0 f1 f2 f3 f4 f5 Dw Dx Dy f7 f8 f9 K:=hk
theorem aN.new{f1:Bool}{f5:ByteArray}(hk: ∀b h',b=h.size->aN.at h' b f0 f1 f2 f3 f4 f5 Dw Dx Dy f7 f8 f9->Fr No h h'->K b h'):aQ h (.cells #[.I 0,.bool false,.U 0,.U 0,.string fU,.string fU,.Z,.U 0,.I 0,.U 0] 114) λb H=>aN.ST H (AA b 0) f0 f1 f2 f3 f4 f5 Dw Dx Dy f7 f8 f9 (K b):=
 fZ (vs:= [.I f0,.bool f1,.U f2,.U f3,.string f4,.string f5,.slice Dw Dx Dy,.U f7,.I f8,.U f9]) rfl rfl hk
theorem aN.box{f1:Bool}{f5:ByteArray}(hk: ∀b h',b=h.size->aN.at h' b f0 f1 f2 f3 f4 f5 Dw Dx Dy f7 f8 f9->Fr No h h'->K b h'):aQ h (.cells #[.I f0,.bool f1,.U f2,.U f3,.string f4,.string f5,.slice Dw Dx Dy,.U f7,.I f8,.U f9] 114) λb H=>K b H:=
 cF (hk _ _ rfl bV (Fr.push _ _))
theorem aN.set{g:Bool}{i:ByteArray}{p:cy}{o j:Nat}{q:Int}{r:Int}{t:Int}{f1:Bool}{f5:ByteArray}{K:ai->Prop}(a0:aN.at h b g0 g d G e i p o j q r t)(hk: ∀h',aN.at h' b f0 f1 f2 f3 f4 f5 Dw Dx Dy f7 f8 f9->h'.size=h.size->(∀x,x≠b->h'[x]? =h[x]?)->K h'):aN.ST h (AA b 0) f0 f1 f2 f3 f4 f5 Dw Dx Dy f7 f8 f9 K:=
 aN.rh (eI a0 rfl rfl hk)
def gD.at(h:ai)(b:Nat)(f0:Int)(f1:Int)(f2:Int)(f3:Int)(f4:Int)(f5:Int):Prop:=h[b]? =some (.cells #[.int .i64 f0,.int .i64 f1,.int .i64 f2,.int .i64 f3,.int .i64 f4,.int .i64 f5] 50 (0,0))
theorem gD.ld{f4:Int}{K:Int->Int->Int->Int->Int->Int->Prop}(H:gD.at h b f0 f1 f2 f3 f4 f5)(hk:K f0 f1 f2 f3 f4 f5):gD.LD h (AA b 0) K:=
 ⟨_,ar H,_,ar H,_,ar H,_,ar H,_,ar H,_,ar H,hk⟩
theorem gD.rh{f4:Int}{K:ai->Prop}(hk:dD a [.I f0,.I f1,.I f2,.I f3,.I f4,.I f5] 0 h K):gD.ST h a f0 f1 f2 f3 f4 f5 K:=hk
theorem gD.new{f4:Int}(hk: ∀b h',b=h.size->gD.at h' b f0 f1 f2 f3 f4 f5->Fr No h h'->K b h'):aQ h (.cells #[.I 0,.I 0,.I 0,.I 0,.I 0,.I 0] 50) λb H=>gD.ST H (AA b 0) f0 f1 f2 f3 f4 f5 (K b):=
 fZ (vs:= [.I f0,.I f1,.I f2,.I f3,.I f4,.I f5]) rfl rfl hk
theorem gD.box{f4:Int}(hk: ∀b h',b=h.size->gD.at h' b f0 f1 f2 f3 f4 f5->Fr No h h'->K b h'):aQ h (.cells #[.I f0,.I f1,.I f2,.I f3,.I f4,.I f5] 50) λb H=>K b H:=
 cF (hk _ _ rfl bV (Fr.push _ _))
theorem gD.set{e:Int}{f4:Int}{K:ai->Prop}(a0:gD.at h b g0 g d G e i)(hk: ∀h',gD.at h' b f0 f1 f2 f3 f4 f5->h'.size=h.size->(∀x,x≠b->h'[x]? =h[x]?)->K h'):gD.ST h (AA b 0) f0 f1 f2 f3 f4 f5 K:=
 gD.rh (eI a0 rfl rfl hk)
def ak.at(h:ai)(b:Nat)(f0:Int)(f1:Int)(f2:Int)(f3:Int)(f4:Int)(xQ:cy)(f5l xR:Nat):Prop:=h[b]? =some (.cells #[.int .u64 f0,.int .i64 f1,.int .i64 f2,.int .i64 f3,.int .u64 f4,.slice xQ f5l xR] 44 (0,0))
theorem ak.ld{f4:Int}{K:Int->Int->Int->Int->Int->cy->Nat->Nat->Prop}(H:ak.at h b f0 f1 f2 f3 f4 xQ f5l xR)(hk:K f0 f1 f2 f3 f4 xQ f5l xR):ak.LD h (AA b 0) K:=
 ⟨_,ar H,_,ar H,_,ar H,_,ar H,_,ar H,_,_,_,ar H,hk⟩
theorem ak.held{f4:Int}(H:ak.at h b f0 f1 f2 f3 f4 xQ f5l xR):dI (AA b 0) [.U f0,.I f1,.I f2,.I f3,.U f4,.slice xQ f5l xR] 0 h:=
 gT H (λj v o=>by rw[bL];simpa using o)
theorem ak.rh{f4:Int}{K:ai->Prop}(hk:dD a [.U f0,.I f1,.I f2,.I f3,.U f4,.slice xQ f5l xR] 0 h K):ak.ST h a f0 f1 f2 f3 f4 xQ f5l xR K:=hk
theorem ak.new{f4:Int}(hk: ∀b h',b=h.size->ak.at h' b f0 f1 f2 f3 f4 xQ f5l xR->Fr No h h'->K b h'):aQ h (.cells #[.U 0,.I 0,.I 0,.I 0,.U 0,.Z] 44) λb H=>ak.ST H (AA b 0) f0 f1 f2 f3 f4 xQ f5l xR (K b):=
 fZ (vs:= [.U f0,.I f1,.I f2,.I f3,.U f4,.slice xQ f5l xR]) rfl rfl hk
theorem ak.box{f4:Int}(hk: ∀b h',b=h.size->ak.at h' b f0 f1 f2 f3 f4 xQ f5l xR->Fr No h h'->K b h'):aQ h (.cells #[.U f0,.I f1,.I f2,.I f3,.U f4,.slice xQ f5l xR] 44) λb H=>K b H:=
 cF (hk _ _ rfl bV (Fr.push _ _))
theorem ak.set{e:Int}{p:cy}{o j:Nat}{f4:Int}{K:ai->Prop}(a0:ak.at h b g0 g d G e p o j)(hk: ∀h',ak.at h' b f0 f1 f2 f3 f4 xQ f5l xR->h'.size=h.size->(∀x,x≠b->h'[x]? =h[x]?)->K h'):ak.ST h (AA b 0) f0 f1 f2 f3 f4 xQ f5l xR K:=
 ak.rh (eI a0 rfl rfl hk)
theorem vr.host.walk(q:aW Tryz.prog (Instr.range 9 (.string s)) h λv p=> ∃(it:Nat),v=.P it 0/\∃(I:ai->Prop)(M:ai->Nat),I p/\∀(j:ai),I j->aW Tryz.prog (Instr.next (.P it 0) true 0) j λV H=>(V=.tuple #[.bool false]/\R (.bool true) H)\/(∃(T t:Value),V=.tuple #[.bool true,T,t]/\∃t11,t=.int .i32 t11/\aG (λ(t34:Bool) (o:ai)=>if t34 then R (.bool false) o else(I o/\M o<M j)) (λJ=>if(decide (t11<97))then if(decide (t11<48))then if(t11 !=45)then J (t11 !=45) H else J false H else if(decide (t11>57))then if(t11 !=45)then J (t11 !=45) H else J false H else J false H else if(decide (t11>122))then if(decide (t11<48))then if(t11 !=45)then J (t11 !=45) H else J false H else if(decide (t11>57))then if(t11 !=45)then J (t11 !=45) H else J false H else J false H else J false H))):Cl 142 #[.string s,.int .i32 45] h R:=aO (lq (sq (lq (bq (.loop [] (lq (sq (cq lf lf) (bq (sq (.typed [(11,.one (.int .i32))]) (sq (.join [(34,.one (.bool))] lf) (cq ll lf))))))))) ll)) Tryz.func142 q
theorem vr.Rj.walk(q:aW Tryz.prog (Instr.range 9 (.string s)) h λv p=> ∃(it:Nat),v=.P it 0/\∃(I:ai->Prop)(M:ai->Nat),I p/\∀(j:ai),I j->aW Tryz.prog (Instr.next (.P it 0) true 0) j λV H=>(V=.tuple #[.bool false]/\R (.bool true) H)\/(∃(T t:Value),V=.tuple #[.bool true,T,t]/\∃t11,t=.int .i32 t11/\aG (λ(t34:Bool) (o:ai)=>if t34 then R (.bool false) o else(I o/\M o<M j)) (λJ=>if(decide (t11<97))then if(decide (t11<48))then if(t11 !=45)then J (t11 !=47) H else J false H else if(decide (t11>57))then if(t11 !=45)then J (t11 !=47) H else J false H else J false H else if(decide (t11>122))then if(decide (t11<48))then if(t11 !=45)then J (t11 !=47) H else J false H else if(decide (t11>57))then if(t11 !=45)then J (t11 !=47) H else J false H else J false H else J false H))):Cl 142 #[.string s,.int .i32 47] h R:=aO (lq (sq (lq (bq (.loop [] (lq (sq (cq lf lf) (bq (sq (.typed [(11,.one (.int .i32))]) (sq (.join [(34,.one (.bool))] lf) (cq ll lf))))))))) ll)) Tryz.func142 q
theorem Jn.walk{x:Bool}{X:Int}{o:Int}{p:ByteArray}{q:ByteArray}(t:aQ h (.cells #[.bool x,.U X,.U o,.string p,.string q] 29) λb H=>ay.LD H (AA b 0) λI J L M N=> ∃(eq:Bool),Aj Tryz.prog 29 (.agg #[.bool I,.U J,.U L,.string M,.string N]) (.agg #[.bool false,.U 0,.U 0,.string fU,.string fU]) eq/\if eq then R (.bool true) H else∃t9,Cc H b 0 (.bool t9)/\if t9 then ay.LD H (AA b 0) λT u w y z=>Hu H b 1 λt12=>Hu H b 2 λt14=> ∃(eq_1:Bool),Aj Tryz.prog 29 (.agg #[.bool T,.U u,.U w,.string y,.string z]) (.agg #[.bool true,.U t12,.U t14,.string fU,.string fU]) eq_1/\if eq_1 then∃t19,Cc H b 1 (.U t19)/\if(decide (t19≥1))then∃t24,Cc H b 1 (.U t24)/\if(decide (t24<=4294967295))then∃t29,Cc H b 2 (.U t29)/\R (.bool (decide (t29<=4294967295))) H else R (.bool false) H else R (.bool false) H else R (.bool false) H else ay.LD H (AA b 0) λA B C D E=>Hs H b 3 λt34=>Hs H b 4 λt36=> ∃(eq_2:Bool),Aj Tryz.prog 29 (.agg #[.bool A,.U B,.U C,.string D,.string E]) (.agg #[.bool false,.U 0,.U 0,.string t34,.string t36]) eq_2/\if eq_2 then∃t41,Cc H b 3 (.string t41)/\if(decide (((t41.size:Nat):Int)≥1))then∃t47,Cc H b 3 (.string t47)/\if(decide (((t47.size:Nat):Int)<=16))then∃t53,Cc H b 4 (.string t53)/\if(decide (((t53.size:Nat):Int)<=24))then Hs H b 3 λt59=>Cl 142 #[.string t59,.int .i32 45] H λv j=> ∃t60,v=.bool t60/\if t60 then Hs j b 4 λt64=>Cl 142 #[.string t64,.int .i32 47] j λV r=> ∃t65,V=.bool t65/\R (.bool t65) r else R (.bool false) j else R (.bool false) H else R (.bool false) H else R (.bool false) H else R (.bool false) H):Cl 86 #[.agg #[.bool x,.U X,.U o,.string p,.string q]] h R:=aO (lq (sq (bq (lq (cq ll (lq (cq ll lf))))) ll)) Tryz.func86 t

end
section
namespace iW
theorem LL{a b:ByteArray}:(a==b)=true↔a=b:=by
 obtain⟨a⟩:=a;obtain⟨b⟩:=b;constructor
 .intro h;have h:(a==b)=true:=h;rw[eq_of_beq h]
 .intro h;cases h;show(a==a)=true;simp
structure Ev where
 ky:Bool
 node:Int
 gk:Int
 host:ByteArray
 jB:ByteArray
theorem Ev.ext'{x y:Ev}(H:x.ky=y.ky)(a:x.node=y.node)(b:x.gk=y.gk)(c:x.host=y.host)(d:x.jB=y.jB):x=y:=by
 cases x;cases y;simp at H a b c d;simp[H,a,b,c,d]
def Q1(x y:Ev):Bool:=x.ky==y.ky && (x.node==y.node && (x.gk==y.gk && (x.host==y.host && (x.jB==y.jB && true))))
theorem Cy{x y:Ev}:Q1 x y=true↔x=y:=by
 unfold Q1;simp only[aT,cR,LL,and_true];constructor
 .rintro⟨H,a,b,c,d⟩;exact Ev.ext' H a b c d
 .rintro rfl;simp
instance : DecidableEq Ev := λx y => decidable_of_iff (Q1 x y = true) Cy
theorem Oj(x y:Ev):Q1 x y=decide (x=y):=by
 by_cases h:x=y
 .rw[av h];exact Cy.2 h
 .rw[az h];cases H:Q1 x y
  .rfl
  .exact absurd (Cy.1 H) h
def kz(x:Ev):Value:=.agg #[.bool x.ky,.int .u64 x.node,.int .u64 x.gk,.string x.host,.string x.jB]
def Ev.zero:Ev:=⟨false,0,0,⟨#[]⟩,⟨#[]⟩⟩
theorem eqv(x y:Ev):Aj Tryz.prog 29 (kz x) (kz y) (decide (x=y)):=by
 rw[<-Oj];exact Aj.of (by unfold Q1;kernel_rfl)
theorem xd{x y:Ev}{a b:Value}(H:a=kz x)(c:b=kz y):Aj Tryz.prog 29 a b (decide (x=y)):=by subst H c;exact eqv x y
theorem Rf(e:Bool)(a:Ev)(h:ai):rd Tryz.prog (Instr.checkKey e 10000 29 (kz a)) h=some ():=dj
theorem under:(Tryz.prog.underlying 29).isSome=true:=dj
theorem key:Bb Tryz.prog 29 kz:=⟨eqv,Rf,by
 obtain⟨d,h⟩:=dG.1 under;exact⟨d,h,λa b=> .inl (by unfold kz;cases d<;>rfl)⟩,λa=>by unfold kz;simp[Instr.sameBits,LL.2]⟩
def pl(more c:UInt8):Bool:=(decide (97<=c) && decide (c<=122))||(decide (48<=c) && decide (c<=57))||c==45||c==more
def ma(more:UInt8)(s:ByteArray):Bool:=s.data.toList.all (pl more)
def cV(x:Ev):Bool:=
 if x=.zero then true
 else if x.ky=true then decide (x.host=⟨#[]⟩/\x.jB=⟨#[]⟩/\1<=x.node/\x.node<=4294967295/\x.gk<=4294967295)
 else decide (x.node=0/\x.gk=0/\1<=x.host.size/\x.host.size<=16/\x.jB.size<=24) && (ma 45 x.host && ma 47 x.jB)
def ju(x:Ev):Int:=if x=.zero then 0 else if x.ky=true then 1 else 2
def bl(a b:ByteArray):Bool:=Op.bytesLess a.toList b.toList
def nk(x y:Ev):Bool:=
 if ju x≠ju y then decide (ju x<ju y)
 else if x.node≠y.node then decide (x.node<y.node)
 else if x.gk≠y.gk then decide (x.gk<y.gk)
 else if x.host≠y.host then bl x.host y.host
 else bl x.jB y.jB
theorem bytes_irrefl: ∀a:cD,Op.bytesLess a a=false
 | []=>rfl
 |a::x=>by unfold Op.bytesLess;simp[bytes_irrefl x]
theorem bytes_trans: ∀{a b c:cD},Op.bytesLess a b=true->Op.bytesLess b c=true->Op.bytesLess a c=true
 |_, [],_,h,_=>by unfold Op.bytesLess at h;cases h
 |_,_::_, [],_,h=>by unfold Op.bytesLess at h;cases h
 | [],b::y,c::z,_,_=>rfl
 |a::x,b::y,c::z,d,H=>by
  unfold Op.bytesLess at d H⊢;simp only[Bool.or_eq_true,aV,aT,cR]at d H⊢;rcases d with d|⟨rfl,d⟩
  .rcases H with H|⟨rfl,H⟩
   .exact .inl (UInt8.lt_trans d H)
   .exact .inl d
  .rcases H with H|⟨rfl,H⟩
   .exact .inl H
   .exact .inr ⟨rfl,bytes_trans d H⟩
theorem bytes_total: ∀{a b:cD},a≠b->Op.bytesLess a b=true\/Op.bytesLess b a=true
 | [], [],h=>absurd rfl h
 | [],_::_,_=> .inl rfl
 |_::_, [],_=> .inr rfl
 |a::x,b::y,h=>by
  unfold Op.bytesLess;simp only[Bool.or_eq_true,aV,aT,cR];by_cases e:a=b
  .subst e;rcases bytes_total (a:=x) (b:=y) (λe=>h (by rw[e]))with h1|h1
   .exact .inl (.inr ⟨rfl,h1⟩)
   .exact .inr (.inr ⟨rfl,h1⟩)
  .rcases UInt8.lt_or_lt_of_ne e with h1|h1
   .exact .inl (.inl h1)
   .exact .inr (.inl h1)
theorem PH{a b:ByteArray}(h:a≠b):bl a b=true\/bl b a=true:=by
 refine bytes_total λe=>h ?_
 rw[toList_data,toList_data]at e;cases a;cases b;simp only[ByteArray.mk.injEq];exact Array.ext' e
theorem yI{a b c:ByteArray}(H:bl a b=true)(d:bl b c=true):bl a c=true:=bytes_trans H d
theorem Bq(a:ByteArray):bl a a=false:=bytes_irrefl _
theorem tM{x y:Ev}:nk x y=true↔ju x<ju y\/(ju x=ju y/\(x.node<y.node\/(x.node=y.node/\(x.gk<y.gk\/(x.gk=y.gk/\((x.host≠y.host/\bl x.host y.host=true)\/(x.host=y.host/\bl x.jB y.jB=true))))))):=by
 unfold nk;by_cases H:ju x=ju y
 .rw[ae (cA H)];by_cases a:x.node=y.node
  .rw[ae (cA a)];by_cases b:x.gk=y.gk
   .rw[ae (cA b)];by_cases c:x.host=y.host
    .rw[ae (cA c)];simp[H,a,b,c]
    .rw[af c];simp[H,a,b,c]
   .rw[af b];simp[H,a,b]
  .rw[af a];simp[H,a]
 .rw[af H];simp[H]
theorem wN(x:Ev):nk x x=false:=by
 cases h:nk x x
 .rfl
 .rw[tM]at h;rcases h with h|⟨_,h|⟨_,h|⟨_,⟨h,_⟩|⟨_,h⟩⟩⟩⟩
  .omega
  .omega
  .omega
  .exact absurd rfl h
  .rw[Bq]at h;cases h
theorem Gc{x y z:Ev}(a:nk x y=true)(H:nk y z=true):nk x z=true:=by
 rw[tM]at a H⊢;rcases a with a|⟨c1,a⟩
 .rcases H with H|⟨c2,_⟩
  .exact .inl ag
  .exact .inl ag
 rcases H with H|⟨c2,H⟩
 .exact .inl ag
 refine .inr ⟨ag,?_⟩;rcases a with a|⟨n1,a⟩
 .rcases H with H|⟨n2,_⟩<;>exact .inl ag
 rcases H with H|⟨n2,H⟩
 .exact .inl ag
 refine .inr ⟨ag,?_⟩;rcases a with a|⟨s1,a⟩
 .rcases H with H|⟨s2,_⟩<;>exact .inl ag
 rcases H with H|⟨s2,H⟩
 .exact .inl ag
 refine .inr ⟨ag,?_⟩;rcases a with⟨e1,a⟩|⟨e1,a⟩
 .rcases H with⟨e2,H⟩|⟨e2,H⟩
  .refine .inl ⟨λe=> ?_,yI a H⟩;have:=yI a (e▸H);rw[Bq]at this;cases this
  .exact .inl (by rw[<-e2];exact⟨e1,a⟩)
 .rcases H with⟨e2,H⟩|⟨e2,H⟩
  .exact .inl (by rw[e1];exact⟨e2,H⟩)
  .exact .inr ⟨e1.trans e2,yI a H⟩
theorem yJ{x y:Ev}(h:ju x=ju y)(a:x=.zero):y=.zero:=by
 unfold ju at h;rw[af a]at h;by_cases H:y=.zero
 .exact H
 .rw[ae H]at h;split at h<;>omega
theorem Gd{x y:Ev}(h:x≠y):nk x y=true\/nk y x=true:=by
 rw[tM,tM];by_cases H:ju x=ju y
 .by_cases a:x.node=y.node
  .by_cases b:x.gk=y.gk
   .by_cases c:x.host=y.host
    .have f:x.jB≠y.jB:=λe=>by
      have i:x≠ .zero:=λE=>h (E.trans (yJ H E).symm)
      have j:y≠ .zero:=λE=>h ((yJ H.symm E).trans E.symm)
      unfold ju at H;rw[ae i,ae j]at H;have g:x.ky=y.ky:=by
       cases ex:x.ky<;>cases d:y.ky<;>simp[ex,d]at H⊢
      exact h (Ev.ext' g a b c e)
     rcases PH f with h5|h5
     .exact .inl (.inr ⟨H,.inr ⟨a,.inr ⟨b,.inr ⟨c,h5⟩⟩⟩⟩)
     .exact .inr (.inr ⟨H.symm,.inr ⟨a.symm,.inr ⟨b.symm,.inr ⟨c.symm,h5⟩⟩⟩⟩)
    .rcases PH c with h5|h5
     .exact .inl (.inr ⟨H,.inr ⟨a,.inr ⟨b,.inl ⟨c,h5⟩⟩⟩⟩)
     .exact .inr (.inr ⟨H.symm,.inr ⟨a.symm,.inr ⟨b.symm,.inl ⟨fo c,h5⟩⟩⟩⟩)
   .rcases Int.lt_or_gt_of_ne b with h5|h5
    .exact .inl (.inr ⟨H,.inr ⟨a,.inl h5⟩⟩)
    .exact .inr (.inr ⟨H.symm,.inr ⟨a.symm,.inl h5⟩⟩)
  .rcases Int.lt_or_gt_of_ne a with h5|h5
   .exact .inl (.inr ⟨H,.inl h5⟩)
   .exact .inr (.inr ⟨H.symm,.inl h5⟩)
 .rcases Int.lt_or_gt_of_ne H with h5|h5
  .exact .inl (.inl h5)
  .exact .inr (.inl h5)
variable {h : ai} {R : Value → ai → Prop}
theorem get_at{s:ByteArray}{i:Nat}(H:i<s.size):s.get! i=s.data.toList.getD i 0:=by
 have:i<s.data.size:=H;show s.data[i]! =_;have e:s.data.toList[i]? =some s.data[i]:=by rw[dq];exact Array.getElem?_eq_getElem this
 rw[getElem!_pos s.data i this,aY,e];rfl
theorem decode_at(s:ByteArray)(i:Nat)(a:i<s.size):(s.data.toList.getD i 0<128->Utf8.decode s i=((s.data.toList.getD i 0).toNat,1))/\(¬s.data.toList.getD i 0<128->128<=(Utf8.decode s i).1):=by
 have e:=get_at a;have E:(s.get! (i+0)).toNat=(s.data.toList.getD i 0).toNat:=by rw[Nat.add_zero,e]
 constructor
 .intro h;have h:(s.data.toList.getD i 0).toNat<128:=h;unfold Utf8.decode;simp only[E];rw[af h]
 .intro h;have h: ¬(s.data.toList.getD i 0).toNat<128:=h;unfold Utf8.decode;simp only[E];rw[ae h];split
  .split
   .omega
   .show 128<=Utf8.runeError;decide
  .split
   .split
    .rename_i H;simp only[aT,aV]at H;show 128<=_;omega
    .show 128<=Utf8.runeError;decide
   .split
    .split
     .rename_i H;simp only[aT,aV]at H;show 128<=_;omega
     .show 128<=Utf8.runeError;decide
    .show 128<=Utf8.runeError;decide
def np(more:Int)(c:Int):Bool:=(decide (c<97)||decide (c>122)) && ((decide (c<48)||decide (c>57)) && ((c !=45) && (c !=more)))
theorem LM{more c:Int}(e:more<128)(h:128<=c):np more c=true:=by
 unfold np;have H:c>122:=ag
 have a:c>57:=ag
 have b:c≠45:=ag
 have d:c≠more:=ag
 simp[H,a,b,d]
theorem LN(more:UInt8)(b:UInt8):np (more.toNat:Int) (b.toNat:Int)= !pl more b:=by
 have e1:(b=45)↔((b.toNat:Int)=45):=by
  constructor
  .rintro rfl;rfl
  .intro e;exact UInt8.toNat_inj.1 (by show b.toNat=45;omega)
 have e2:(b=more)↔((b.toNat:Int)=(more.toNat:Int)):=by
  constructor
  .rintro rfl;rfl
  .intro e;exact UInt8.toNat_inj.1 ag
 have E:(97<=b)↔ ¬((b.toNat:Int)<97):=by rw[UInt8.le_iff_toNat_le];show 97<=b.toNat↔_;omega
 have a:(b<=122)↔ ¬((b.toNat:Int)>122):=by rw[UInt8.le_iff_toNat_le];show b.toNat<=122↔_;omega
 have c:(48<=b)↔ ¬((b.toNat:Int)<48):=by rw[UInt8.le_iff_toNat_le];show 48<=b.toNat↔_;omega
 have d:(b<=57)↔ ¬((b.toNat:Int)>57):=by rw[UInt8.le_iff_toNat_le];show b.toNat<=57↔_;omega
 unfold np pl;have f:(b==45)=decide ((b.toNat:Int)=45):=by by_cases q:b=45<;>simp[q,e1.symm]
 have g:(b==more)=decide ((b.toNat:Int)=(more.toNat:Int)):=by
  by_cases q:b=more
  .simp[q]
  .have: ¬((b.toNat:Int)=(more.toNat:Int)):=λe=>q (e2.2 e)
   rw[az this];simp[q]
 rw[f,g];simp only[E,a,c,d];by_cases q1:(b.toNat:Int)<97<;>by_cases q2:(b.toNat:Int)>122<;>by_cases q3:(b.toNat:Int)<48<;>by_cases q4:(b.toNat:Int)>57<;>by_cases Q:(b.toNat:Int)=45<;>by_cases q6:(b.toNat:Int)=(more.toNat:Int)<;>simp[q1,q2,q3,q4,Q,q6]
end iW
end
end Go.Proofs.YtlenamcfacpheaaGreatDoor
namespace Go.Proofs
open Go.Den
open IntKind (wrap)
open Int (toNat)
section
open Go.Shelf
def Tryz.D2:Go.Shelf.Ren:=⟨fun|145=>313|220=>322|219=>326|217=>328|225=>329|224=>330|267=>331|266=>332|314=>333|n=>n,fun|9=>9|4=>4|59=>409|3=>3|5=>5|46=>211|146=>427|51=>315|n=>n,fun|1=>5|n=>n⟩
theorem Tryz.Ol : Go.Proofs.Lays.n145 Tryz.prog Tryz.D2 := {
  mixed := by kernel_rfl
  f145 := Tryz.func313.trans (congrArg some (by kernel_rfl))
  f217 := Tryz.func328.trans (congrArg some (by kernel_rfl))
  f219 := Tryz.func326.trans (congrArg some (by kernel_rfl))
  f220 := Tryz.func322.trans (congrArg some (by kernel_rfl))
  f224 := Tryz.func330.trans (congrArg some (by kernel_rfl))
  f225 := Tryz.func329.trans (congrArg some (by kernel_rfl))
  f266 := Tryz.func332.trans (congrArg some (by kernel_rfl))
  f267 := Tryz.func331.trans (congrArg some (by kernel_rfl))
  f314 := Tryz.func333.trans (congrArg some (by kernel_rfl))
  t3 := Tryz.underlying3
  a3 := Tryz.isAgg3
  z3 := Tryz.sizeOf3
  v3 := Tryz.zeroValue3
  t4 := Tryz.underlying4
  a4 := Tryz.isAgg4
  z4 := Tryz.sizeOf4
  v4 := Tryz.zeroValue4
  t5 := Tryz.underlying5
  a5 := Tryz.isAgg5
  z5 := Tryz.sizeOf5
  v5 := Tryz.zeroValue5
  t9 := Tryz.underlying9
  a9 := Tryz.isAgg9
  z9 := Tryz.sizeOf9
  v9 := Tryz.zeroValue9
  t46 := Tryz.underlying211
  a46 := Tryz.isAgg211
  z46 := Tryz.sizeOf211
  v46 := Tryz.zeroValue211
  t51 := Tryz.underlying315
  a51 := Tryz.isAgg315
  z51 := Tryz.sizeOf315
  v51 := Tryz.zeroValue315
  t59 := Tryz.underlying409
  a59 := Tryz.isAgg409
  z59 := Tryz.sizeOf409
  v59 := Tryz.zeroValue409
  t146 := Tryz.underlying427
  a146 := Tryz.isAgg427
  z146 := Tryz.sizeOf427
  v146 := Tryz.zeroValue427
  g1 := by kernel_rfl }
def Tryz.D3:Go.Shelf.Ren:=⟨fun|103=>312|210=>321|206=>325|n=>n,fun|9=>9|4=>4|24=>407|3=>3|n=>n,fun|n=>n⟩
theorem Tryz.Om : Go.Proofs.Lays.n103 Tryz.prog Tryz.D3 := {
  mixed := by kernel_rfl
  f103 := Tryz.func312.trans (congrArg some (by kernel_rfl))
  f206 := Tryz.func325.trans (congrArg some (by kernel_rfl))
  f210 := Tryz.func321.trans (congrArg some (by kernel_rfl))
  t3 := Tryz.underlying3
  a3 := Tryz.isAgg3
  z3 := Tryz.sizeOf3
  v3 := Tryz.zeroValue3
  t4 := Tryz.underlying4
  a4 := Tryz.isAgg4
  z4 := Tryz.sizeOf4
  v4 := Tryz.zeroValue4
  t9 := Tryz.underlying9
  a9 := Tryz.isAgg9
  z9 := Tryz.sizeOf9
  v9 := Tryz.zeroValue9
  t24 := Tryz.underlying407
  a24 := Tryz.isAgg407
  z24 := Tryz.sizeOf407
  v24 := Tryz.zeroValue407 }

end
end Go.Proofs
namespace Go.Proofs.YtlenamcfacpheaaGreatDoor
open Go.Den
open IntKind (wrap)
open Int (toNat)
section
namespace oT
variable {h h':ai} {R:fp}
variable {s:ByteArray}
def Mx(h:ai):Prop:= ∃m,bg h ⟨5,0,none⟩=some (.int .i64 m)
theorem Mx.on(M:Mx h)(f:Fr No h h'):Mx h':=by
 obtain⟨m,H⟩:=M;exact⟨m,f.cell H id⟩
theorem yK{S:ByteArray}(M:Mx h)(c:s.size<4294967281)(hk:R (.tuple #[.string ⟨(Lib.cut s.data.toList S.data.toList).1.toArray⟩,.string ⟨(Lib.cut s.data.toList S.data.toList).2.1.toArray⟩,.bool (Lib.cut s.data.toList S.data.toList).2.2]) h):Cl 313 #[.string s,.string S] h R:=λw d=>by
 subst d;obtain⟨m,b⟩:=M;refine(Any.strings_Cut Tryz.Ol s S m w c (by rw[ks];exact b)).mono λe w' ⟨a,n,H⟩=>⟨_,a,?_,?_⟩
 .rw[H];exact hk
 .rw[H];exact⟨rfl,rfl,rfl⟩
theorem Jo{p:ByteArray}(hk:R (.tuple #[.string ⟨(Lib.trimPrefix s.data.toList p.data.toList).toArray⟩,.bool (Lib.hasPrefix s.data.toList p.data.toList)]) h):Cl 312 #[.string s,.string p] h R:=λw b=>
 (Any.strings_CutPrefix Tryz.Om s p w).mono λe w' ⟨a,H⟩=>⟨_,a,by rw[H,b];exact hk,by rw[H];exact fw.refl _⟩

end oT
end
section
namespace Bn
open Cb
open iW (Ev cV)
def oF(s q:Nat):Nat:=if s%2=1 then(s/2) ^^^ q else s/2
def pX(q:Nat):Nat->Nat->Nat
 |0,s=>s
 |k+1,s=>pX q k (oF s q)
def PI(s c q:Nat):Nat:=pX q 8 (s ^^^ c)
def runN(s:Nat)(b:cD)(q:Nat):Nat:=b.foldl (λs c=>PI s c.toNat q) s
def yL(b:cD):Nat:=65535 ^^^ (runN 65535 b 33800%65536)
def wO(b:cD):Nat:=4294967295 ^^^ runN 4294967295 b 2197175160
def Cz(b:cD):cD:= [UInt8.ofNat (yL b/256),UInt8.ofNat (yL b)]
def HR(b:cD):cD:= [UInt8.ofNat (wO b/16777216),UInt8.ofNat (wO b/65536),UInt8.ofNat (wO b/256),UInt8.ofNat (wO b)]
def D4(x:Ev):cD:= [47,47]++x.host.data.toList++ [47]++x.jB.data.toList
def Ar(x:Ev):Tr:=if x=.zero then qZ [num 1,num 0]else if x.ky=true then qZ [num 2,qZ [num x.node.toNat,num x.gk.toNat]]else qZ [num 1,.mk 3 0 (D4 x) []]
def wP(s:cD):Ev:=⟨false,0,0,⟨(Lib.cut (Lib.trimPrefix s [47,47]) [47]).1.toArray⟩,⟨(Lib.cut (Lib.trimPrefix s [47,47]) [47]).2.1.toArray⟩⟩
def tO(s:cD):Bool:=Lib.hasPrefix s [47,47] && (Lib.cut (Lib.trimPrefix s [47,47]) [47]).2.2 && !(Lib.cut (Lib.trimPrefix s [47,47]) [47]).1.isEmpty && cV (wP s)
def at_(l:List Tr)(i:Nat):Tr:=l.getD i Bo
def yM(l:List Tr):Bool:=l.all λt=>mW t (num t.n)
def LO(t:Tr):Ev:=⟨true,((at_ t.l 0).n:Int),((at_ t.l 1).n:Int),⟨#[]⟩,⟨#[]⟩⟩
def nm(V:cD->Bool)(t:Tr):Option Ev:=
 if gO V t=true/\t.k=4/\t.l.length=2 then
  if mW (at_ t.l 0) (num 1)=true/\mW (at_ t.l 1) (num 0)=true then some .zero
  else if mW (at_ t.l 0) (num 1)=true/\(at_ t.l 1).k=3 then(if tO (at_ t.l 1).b=true then some (wP (at_ t.l 1).b)else none)
  else if mW (at_ t.l 0) (num 2)=true then(if(at_ t.l 1).k=4/\(at_ t.l 1).l.length=2/\yM (at_ t.l 1).l=true/\cV (LO (at_ t.l 1))=true then some (LO (at_ t.l 1))else none)
  else none
 else none
structure iA where
 e:Ev
 tm:Nat
 sq:Nat
deriving DecidableEq
def iA.zero:iA:=⟨.zero,0,0⟩
def gE(x:iA):Bool:=cV x.e && decide (x.tm<=1099511627776) && decide (x.sq<=1099511627776)
def LP(x:iA):Tr:=qZ [Ar x.e,qZ [num x.tm,num x.sq]]
def jv(V:cD->Bool)(t:Tr):Option iA:=
 if t.k=4/\t.l.length=2/\(at_ t.l 1).k=4/\(at_ t.l 1).l.length=2 then
  match nm V (at_ t.l 0)with
  |none=>none
  |some e=>if gE ⟨e,(at_ (at_ t.l 1).l 0).n,(at_ (at_ t.l 1).l 1).n⟩=true/\mW (LP ⟨e,(at_ (at_ t.l 1).l 0).n,(at_ (at_ t.l 1).l 1).n⟩) t=true then some ⟨e,(at_ (at_ t.l 1).l 0).n,(at_ (at_ t.l 1).l 1).n⟩else none
 else none
def typeAt(l:List Tr)(i:Nat):Int:=if i<l.length/\(at_ l i).n<=2/\mW (at_ l i) (num (at_ l i).n)=true then((at_ l i).n:Int)else -1
def sumOf(V:cD->Bool)(l:List Tr)(sum:Nat):Except Int (cD):=
 if gO V (qZ (l++ [pg (List.replicate (2*sum) 0)]))=true then .ok (if sum=1 then Cz (enc (qZ (l++ [pg (List.replicate (2*sum) 0)])))else HR (enc (qZ (l++ [pg (List.replicate (2*sum) 0)]))))else .error 3
def mH(V:cD->Bool)(l:List Tr)(i:Nat):Except Int Tr:=
 if i<l.length then
  if l.all (gO V)=true/\0<=typeAt l i then
   if 0<typeAt l i then(match sumOf V l (typeAt l i).toNat with
    | .error e=> .error e
    | .ok b=>if gO V (qZ (l++ [pg b]))=true then .ok (qZ (l++ [pg b]))else .error 3)
   else if gO V (qZ l)=true then .ok (qZ l)else .error 3
  else .error 3
 else .error 1
def mI(V:cD->Bool)(t:Tr)(i:Nat):Except Int (List Tr):=
 if gO V t=true/\t.k=4/\0<=typeAt t.l i then
  if typeAt t.l i=0 then .ok t.l
  else if i<t.l.length - 1/\mW (at_ t.l (t.l.length - 1)) (pg (at_ t.l (t.l.length - 1)).b)=true/\(at_ t.l (t.l.length - 1)).b.length=2*(typeAt t.l i).toNat then
   (match sumOf V (t.l.take (t.l.length - 1)) (typeAt t.l i).toNat with
   | .error e=> .error e
   | .ok b=>if b=(at_ t.l (t.l.length - 1)).b then .ok (t.l.take (t.l.length - 1))else .error 10)
  else .error 3
 else .error 3
structure Prim where
 fl:Nat
 sum:Int
 dest:Ev
 rep:Ev
 id:iA
 dN:Nat
deriving DecidableEq
def Prim.zero:Prim:=⟨0,0,.zero,.zero,.zero,0⟩
def Q2(n all:Int):Bool:=IntKind.wrap .u64 ((BitVec.ofInt (IntKind.bits .u64) n &&& ~~~ BitVec.ofInt (IntKind.bits .u64) all).toNat:Int)==0
def iG(p:Prim):Bool:=Q2 (p.fl:Int) 409638 && decide (0<=p.sum) && decide (p.sum<=2) && cV p.dest && cV p.rep && gE p.id && decide (p.dN<=1099511627776)
def D5(p:Prim):List Tr:= [num 7,num p.fl,num p.sum.toNat,Ar p.dest,Ar p.id.e,Ar p.rep,qZ [num p.id.tm,num p.id.sq],num p.dN]
def mJ(V:cD->Bool)(p:Prim):Except Int Tr:=if iG p=true then mH V (D5 p) 2 else .error 3
def vt(l:List Tr)(d r:Ev)(i:iA):Prim:=⟨(at_ l 1).n,((at_ l 2).n:Int),d,r,i,(at_ l 7).n⟩
def oU(V:cD->Bool)(t:Tr):Except Int Prim:=
 match mI V t 2 with
 | .error e=> .error e
 | .ok l=>if l.length=8 then(match nm V (at_ l 3),nm V (at_ l 5),jv V (qZ [at_ l 4,at_ l 6])with
  |some d,some r,some i=>(match mJ V (vt l d r i)with
   | .ok a=>if mW a t=true then .ok (vt l d r i)else .error 3
   | .error _=> .error 3)
  |_,_,_=> .error 3)else .error 3
structure lh where
 ty:Nat
 nr:Nat
 fl:Nat
 sum:Int
 data:cD
deriving DecidableEq
def D6(l:List Nat):Tr:=qZ (l.map num)
def jw(V:cD->Bool)(bs:cD):Bool:=match lg V bs with| .ok (t,n)=>decide (n=bs.length) && decide (enc t=bs)| .error _=>false
def dU(V:cD->Bool)(bs:cD):Tr:=match lg V bs with| .ok (t,_)=>t| .error _=>Bo
def On(V:cD->Bool)(d:cD):Bool:=jw V d && mW (dU V d) (num (dU V d).n) && decide ((dU V d).n<=1099511627776)
def mQ(t:Tr):Nat:=(at_ t.l 0).n
def yN(t:Tr):Nat:=(at_ t.l 1).n
def LQ(V:cD->Bool)(d:cD):Bool:=jw V d && decide ((dU V d).k=4/\(dU V d).l.length=2) && mW (dU V d) (D6 [mQ (dU V d),yN (dU V d)]) && decide (1<=mQ (dU V d)/\mQ (dU V d)<=255/\yN (dU V d)<=mQ (dU V d))
def yO(V:cD->Bool)(ty:Nat)(d:cD):Bool:=(if ty=6 then jw V d && (nm V (dU V d)).isSome else if ty=7 then On V d else if ty=10 then LQ V d else true) && decide (d.length<=200)
def lj(n:Nat):Bool:=decide (1<=n/\n<=255)
def iR(V:cD->Bool)(b:lh):Bool:=lj b.ty && lj b.nr && Q2 (b.fl:Int) 23 && decide (0<=b.sum) && decide (b.sum<=2) && yO V b.ty b.data
def Jp(b:lh):List Tr:= [num b.ty,num b.nr,num b.fl,num b.sum.toNat,pg b.data]
def rj(V:cD->Bool)(b:lh):Except Int Tr:=if iR V b=true then mH V (Jp b) 3 else .error 3
def pY(l:List Tr):lh:=⟨(at_ l 0).n,(at_ l 1).n,(at_ l 2).n,((at_ l 3).n:Int),(at_ l 4).b⟩
def vu(V:cD->Bool)(t:Tr):Except Int lh:=
 match mI V t 3 with
 | .error e=> .error e
 | .ok l=>if l.length=5/\(at_ l 4).k=2 then(match rj V (pY l)with
  | .ok a=>if mW a t=true then .ok (pY l)else .error 3
  | .error _=> .error 3)else .error 3
structure kJ where
 p:Prim
 bl:List lh
deriving DecidableEq
def alone(k:Nat):Bool:=decide (k=1\/k=6\/k=7\/k=10)
def apart(b c:lh):Bool:=decide (c.nr≠b.nr) && (decide (c.ty≠b.ty)|| !alone b.ty)
def Ge(V:cD->Bool):List lh->List lh->Bool
 |_, []=>true
 |pre,b::l=>iR V b && pre.all (apart b) && Ge V (pre++ [b]) l
def As(V:cD->Bool)(l:List lh):Bool:=match l.getLast? with
 |none=>false
 |some z=>decide (l.length<=8) && decide (z.ty=1/\z.nr=1) && Ge V [] l
def yP(V:cD->Bool)(t:Tr):cD:=if gO V t=true then enc t else []
def D7(V:cD->Bool):List lh->cD->Option (cD)
 | [],out=>some out
 |b::l,out=>match rj V b with
  | .error _=>none
  | .ok t=>D7 V l (out++yP V t)
def pZ(V:cD->Bool)(b:kJ):Option (cD):=match mJ V b.p with
 | .error _=>none
 | .ok t=>D7 V b.bl (yP V t)
def iS(V:cD->Bool)(b:kJ):Option (cD):=
 if As V b.bl=true then(match pZ V b with
  |none=>none
  |some l=>if l.length<=598 then some (159::(l++ [255]))else none)
 else none
def wQ(V:cD->Bool):List Tr->List lh->Except Int (List lh)
 | [],out=> .ok out
 |t::l,out=>match vu V t with
  | .error e=> .error e
  | .ok b=>wQ V l (out++ [b])
def jG(V:cD->Bool)(bs:cD):Except Int kJ:=
 if bs.length<=1200 then(match lg V bs with
  | .error e=> .error e
  | .ok (t,n)=>if n=bs.length/\t.k=4/\2<=t.l.length/\t.l.length<=9 then(match oU V (at_ t.l 0)with
   | .error e=> .error e
   | .ok p=>(match wQ V (t.l.drop 1) []with
    | .error e=> .error e
    | .ok l=>if(iS V ⟨p,l⟩).isSome=true then .ok ⟨p,l⟩else .error 3))else .error 3)
 else .error 2
def qa(V:cD->Bool)(bs:cD):Bool:=match jG V bs with
 | .error _=>false
 | .ok b=>decide (iS V b=some bs)
def qb(b:kJ):cD:=match b.bl.getLast? with|none=> []|some z=>z.data
structure xS where
 rc:Bool
 dl:Bool
 de:Bool
 reason:Nat
 at':Nat
 of:iA
deriving DecidableEq
def ia(r:xS):Bool:=(r.rc||r.dl||r.de) && decide (r.reason<=255) && decide (r.at'<=1099511627776) && gE r.of
def D8(l:List Bool):Tr:=qZ (l.map λb=>num (if b=true then 1 else 0))
def CA(r:xS):Tr:=qZ [num 1,qZ [D8 [r.rc,r.dl,r.de],num r.reason,num r.at',LP r.of]]
def CB(V:cD->Bool)(r:xS):Option (cD):=if ia r=true/\gO V (CA r)=true then some (enc (CA r))else none
def kV(V:cD->Bool)(r:xS)(dest:Ev)(id:iA)(dN:Nat):Option kJ:=match CB V r with
 |none=>none
 |some b=>if(iS V ⟨⟨2,0,dest,.zero,id,dN⟩, [⟨1,1,0,0,b⟩]⟩).isSome=true then some ⟨⟨2,0,dest,.zero,id,dN⟩, [⟨1,1,0,0,b⟩]⟩else none

end Bn
end
section
namespace Ask
open iW (Ev cV)
structure Rq where
 id:Nat
 kind:Int
 ep:Ev
 dest:Ev
 j9:Int
 num:Int
 iz:Int
 kO:cD
 dN:Nat
 token:Nat
 on:Bool
deriving DecidableEq
def iK(x:Rq):Rq:=⟨x.id,x.kind,.zero,.zero,0,0,0, [],0,0,false⟩
def qc(x:Rq):Rq:=
 if x.kind=1\/x.kind=3 then { iK x with ep:=x.ep,j9:=x.j9 }
 else if x.kind=2\/x.kind=6 then { iK x with ep:=x.ep }
 else if x.kind=4 then { iK x with ep:=x.ep,dest:=x.dest,kO:=x.kO,dN:=x.dN,on:=x.on }
 else if x.kind=5\/x.kind=8\/x.kind=9 then { iK x with num:=x.num }
 else if x.kind=7 then { iK x with ep:=x.ep,iz:=x.iz }
 else if x.kind=10 then { iK x with on:=x.on }
 else if x.kind=12 then { iK x with token:=x.token }
 else iK x
def lu(e:Ev):Bool:=cV e && !decide (e=.zero)
def kW(x:Rq):Bool:=
 if x.kind=1\/x.kind=3 then lu x.ep && decide (x.j9≥0) && decide (x.j9<=2)
 else if x.kind=2\/x.kind=6 then lu x.ep
 else if x.kind=4 then lu x.ep && lu x.dest && decide (x.kO.length<=200) && decide (x.dN≥1) && decide (x.dN<=1099511627776)
 else if x.kind=5\/x.kind=8\/x.kind=9 then decide (x.num≥1) && decide (x.num<=1099511627776)
 else if x.kind=7 then lu x.ep && decide (x.iz≥1) && decide (x.iz<=1000)
 else if x.kind=12 then decide (x.token≥1) && decide (x.token<=2147483648)
 else decide (x.kind=10\/x.kind=11)
def jW(x:Rq):Bool:=decide (x.id≥1) && decide (x.id<=1099511627776) && kW x && decide (x=qc x)

end Ask
end
section
namespace Cb
structure CV where
 k:Int
 n:Nat
 v:BV
 q:cy
 ll:Nat
 cl:Nat
abbrev hN(x:CV):List Value:= [.int .i64 x.k,.int .u64 (x.n:Int),x.v.val,.slice x.q x.ll x.cl]
theorem gu(x:CV):(hN x).length=4:=rfl
abbrev CV.agg(x:CV):Value:=.agg (hN x).toArray
structure kX (h:ai) (D:Nat->Prop) (q:cy) (l c:Nat) (ys:List CV):Prop where
 len:l=ys.length
 row:Row h q (ys.flatMap hN)
 own:ys≠ []->∀y,aR q y->D y
 cap:l<=c
mutual
def gl (h:ai) (D:Nat->Prop):Tr->CV->Prop
 | .mk k n b l,x=>(x.k=k/\x.n=n/\x.v.b=b/\x.v.ok h D)/\∃ys,kX h D x.q x.ll x.cl ys/\df h D l ys
def df (h:ai) (D:Nat->Prop):List Tr->List CV->Prop
 | [], []=>True
 |t::ts,y::ys=>gl h D t y/\df h D ts ys
 |_,_=>False
end
variable {h h' : ai} {D D' : Nat → Prop}
theorem kX.frame{Q:Nat->Prop}{q:cy}{l c:Nat}{ys:List CV}(H:kX h D q l c ys)(f:Fr Q h h')(b: ∀y,D y->¬Q y):kX h' D q l c ys:=by
 refine⟨H.len,?_,H.own,H.cap⟩;by_cases e:ys= []
 .subst e;exact Row.nil
 .exact H.row.frame f (λa E=>b _ (H.own e _ ⟨a,E,rfl⟩))
theorem kX.mono{q:cy}{l c:Nat}{ys:List CV}(H:kX h D q l c ys)(hd: ∀y,D y->D' y):kX h D' q l c ys:=⟨H.len,H.row,λe y a=>hd y (H.own e y a),H.cap⟩
theorem kX.lt{q:cy}{l c:Nat}{ys:List CV}(H:kX h D q l c ys):kX h (λy=>D y/\y<h.size) q l c ys:=⟨H.len,H.row,λe y a=>⟨H.own e y a,jr H.row (by cases ys with|nil=>exact absurd rfl e|cons=>simp) a⟩,H.cap⟩
theorem D9{x:BV}(H:x.ok h D):x.ok h (λy=>D y/\y<h.size):=⟨H.row,λe y a=>⟨H.own e y a,jr H.row (by cases b:x.b with|nil=>exact absurd b e|cons=>simp[bc]) a⟩,H.cap⟩
mutual
theorem gl.frame {Q:Nat->Prop} (f:Fr Q h h') (hq: ∀y,D y->¬Q y): ∀ {t:Tr} {x:CV},gl h D t x->gl h' D t x
 | .mk k n b l,x,H=>by
  unfold gl at H⊢;obtain⟨⟨h1,h2,h3,h4⟩,ys,h5,h6⟩:=H;exact⟨⟨h1,h2,h3,h4.frame f hq⟩,ys,h5.frame f hq,df.frame f hq h6⟩
theorem df.frame {Q:Nat->Prop} (f:Fr Q h h') (hq: ∀y,D y->¬Q y): ∀ {ts:List Tr} {ys:List CV},df h D ts ys->df h' D ts ys
 | [], [],_=>trivial
 |t::ts,y::ys,H=>by
  unfold df at H⊢;exact⟨gl.frame f hq H.1,df.frame f hq H.2⟩
 | [],_::_,H=>by unfold df at H;exact H.elim
 |_::_, [],H=>by unfold df at H;exact H.elim
end
mutual
theorem gl.mono (hd: ∀y,D y->D' y): ∀ {t:Tr} {x:CV},gl h D t x->gl h D' t x
 | .mk k n b l,x,H=>by
  unfold gl at H⊢;obtain⟨⟨h1,h2,h3,h4⟩,ys,h5,h6⟩:=H;exact⟨⟨h1,h2,h3,h4.mono hd⟩,ys,h5.mono hd,df.mono hd h6⟩
theorem df.mono (hd: ∀y,D y->D' y): ∀ {ts:List Tr} {ys:List CV},df h D ts ys->df h D' ts ys
 | [], [],_=>trivial
 |t::ts,y::ys,H=>by
  unfold df at H⊢;exact⟨gl.mono hd H.1,df.mono hd H.2⟩
 | [],_::_,H=>by unfold df at H;exact H.elim
 |_::_, [],H=>by unfold df at H;exact H.elim
end
mutual
theorem gl.lt: ∀ {t:Tr} {x:CV},gl h D t x->gl h (λy=>D y/\y<h.size) t x
 | .mk k n b l,x,H=>by
  unfold gl at H⊢;obtain⟨⟨h1,h2,h3,h4⟩,ys,h5,h6⟩:=H;exact⟨⟨h1,h2,h3,D9 h4⟩,ys,h5.lt,df.lt h6⟩
theorem df.lt: ∀ {ts:List Tr} {ys:List CV},df h D ts ys->df h (λy=>D y/\y<h.size) ts ys
 | [], [],_=>trivial
 |t::ts,y::ys,H=>by
  unfold df at H⊢;exact⟨gl.lt H.1,df.lt H.2⟩
 | [],_::_,H=>by unfold df at H;exact H.elim
 |_::_, [],H=>by unfold df at H;exact H.elim
end
theorem gl.on{t:Tr}{x:CV}(H:gl h D t x)(f:Fr No h h'):gl h' D t x:=gl.frame f cb H
theorem df.on{ts:List Tr}{ys:List CV}(H:df h D ts ys)(f:Fr No h h'):df h' D ts ys:=df.frame f cb H
theorem df.len: ∀{ts:List Tr}{ys:List CV},df h D ts ys->ts.length=ys.length
 | [], [],_=>rfl
 |t::ts,y::ys,H=>by
  unfold df at H;rw[bf,bf,df.len H.2]
 | [],_::_,H=>by unfold df at H;exact H.elim
 |_::_, [],H=>by unfold df at H;exact H.elim
theorem df.get: ∀{ts:List Tr}{ys:List CV}{i:Nat}{y:CV},df h D ts ys->ys[i]? =some y->∃t,ts[i]? =some t/\gl h D t y
 | [], [],_,_,_,a=>by simp at a
 |t::ts,y::ys,0,z,H,a=>by
  unfold df at H;rw[dw]at a;cases a;exact⟨t,rfl,H.1⟩
 |t::ts,y::ys,i+1,z,H,a=>by
  unfold df at H;rw[dv]at a;obtain⟨u,b,c⟩:=df.get H.2 a;exact⟨u,by rw[dv];exact b,c⟩
 | [],_::_,_,_,H,_=>by unfold df at H;exact H.elim
 |_::_, [],_,_,H,_=>by unfold df at H;exact H.elim
theorem df.snoc: ∀{ts:List Tr}{ys:List CV}{t:Tr}{y:CV},df h D ts ys->gl h D t y->df h D (ts++ [t]) (ys++ [y])
 | [], [],_,_,_,a=>by
  show df h D [_] [_];unfold df;exact⟨a,trivial⟩
 |u::ts,z::ys,t,y,H,a=>by
  unfold df at H;show df h D (u::(ts++ [t])) (z::(ys++ [y]));unfold df;exact⟨H.1,df.snoc H.2 a⟩
 | [],_::_,_,_,H,_=>by unfold df at H;exact H.elim
 |_::_, [],_,_,H,_=>by unfold df at H;exact H.elim
theorem df.take: ∀{ts:List Tr}{ys:List CV}(n:Nat),df h D ts ys->df h D (ts.take n) (ys.take n)
 | [], [],n,_=>by simp[df]
 |t::ts,y::ys,0,_=>by simp[df]
 |t::ts,y::ys,n+1,H=>by
  unfold df at H;rw[fN,fN];unfold df;exact⟨H.1,df.take n H.2⟩
 | [],_::_,_,H=>by unfold df at H;exact H.elim
 |_::_, [],_,H=>by unfold df at H;exact H.elim
theorem df.drop: ∀{ts:List Tr}{ys:List CV}(n:Nat),df h D ts ys->df h D (ts.drop n) (ys.drop n)
 | [], [],n,_=>by simp[df]
 |t::ts,y::ys,0,H=>H
 |t::ts,y::ys,n+1,H=>by
  unfold df at H;rw[List.drop_succ_cons,List.drop_succ_cons];exact df.drop n H.2
 | [],_::_,_,H=>by unfold df at H;exact H.elim
 |_::_, [],_,H=>by unfold df at H;exact H.elim
end Cb
end
section
variable {h:ai} {R:fp}
variable {E:fp} {r c0 c1 c2 B g:Nat} {d H deep V n:Int} {c:Bool} {K:Option Value->ai->Prop} {f:cy}
theorem Jq.walk{is:Bool}{e:Int}(a:if(!is)then E (.iface 331 (.agg #[.I e])) h else R (.tuple #[]) h):hM Tryz.prog 282 #[.bool is,.I e] h R E:=gY (lq (cq lf lf)) Ga Tryz.func282 rfl rfl (Eq.mp dj a)
theorem vw.walk(O:aQ h (.cells #[.I 0,.U 0,.bool false] 360) λb H=>aG (λ(c:cy) (next:Int) (e:Int) (G:ai)=>Ce 282 #[.bool (e==0),.I e] G (λv I=>v=.tuple #[]/\aS I (AA r 1) (.I next) λm=>aL c λa=>bu.LD m a λU W X=>bu.ST m (AA b 0) U W X λo=>bu.LD o (AA b 0) λP Q S=>R (.agg #[.I P,.U Q,.bool S]) o) E) (λJ=>Hl H r 0 λj T t=>Hi H r 1 λt14=>(Cl 309 #[.slice j T t,.I t14] H λY L=> ∃p s w y A,Y=.tuple #[.agg #[.I p,.U s,.bool w],.I y,.I A]/\aQ L (.cells #[.I 0,.U 0,.bool false] 360) λk M=>bu.ST M (AA k 0) p s w λN=>([]:List Deferred)= []/\J (Sa k 0) y A N)/\(aQ H (.cells #[.I 0,.U 0,.bool false] 360) λl i=>Cc i r 1 (.I t14)/\Cc i r 0 (.slice j T t)/\Cl 309 #[.slice j T t,.I t14] i λZ D=> ∃q u x z C,Z=.tuple #[.agg #[.I q,.U u,.bool x],.I z,.I C]/\bu.ST D (AA l 0) q u x λF=>([]:List Deferred)= []/\J (Sa l 0) z C F)/\True)):hM Tryz.prog 281 #[.P r 0] h R E:=gY (lq (sq (.join [(3,.one (.ptr)),(4,.one (.int .i64)),(5,.one (.int .i64))] (.iC (fC 8 0 (.alts (.fork 8 (fC 8 9 .done) (.fork 13 (.op 8 (.op 9 (.op 10 (.op 11 (.op 12 (.op 14 (.op 15 (.op 16 .done)))))))) .gX)))))) (lq (lq ll)))) Ga Tryz.func281 rfl rfl (Eq.mp dj O)
theorem vx.walk (b:aG (λ(t25:Bool) (H:ai)=>if t25 then∃t29,Cc H r 1 (.I t29)/\aS H (AA r 1) (.I (wrap .i64 (t29+1))) λc=>R (.bool true) c else R (.bool false) H) (λJ=>Hi h r 1 λt6=> ∃e t T,Cc h r 0 (.slice e t T)/\if(decide (t6<((t:Nat):Int)))then Hl h r 0 λj i k=>Hi h r 1 λt21=>Bd t21 i/\aL j λa=> ∃t23,bg h (a.add (toNat t21*1))=some (.int .u8 t23)/\J (t23==255) h else J false h)):Cl 310 #[.P r 0] h R:=aO (lq (sq (sq (.join [(25,.one (.bool))] (pN 23)) (cq (lq ll) lf)) ll)) Tryz.func310 b
theorem tQ.walk (x:aQ h (.cells #[.I d,.U H,.bool c] 360) λb H=> ∃t7,Cc H b 1 (.U t7)/\∃o T m,Cc H r 0 (.slice o T m)/\∃t16,Cc H r 1 (.I t16)/\Ce 282 #[.bool (decide (t7<=(wrap .u64 (wrap .i64 (((T:Nat):Int) - t16))))),.I 8] H (λv c=>v=.tuple #[]/\Cc c r 1 (.I t16)/\Cc c r 0 (.slice o T m)/\Cc c b 1 (.U t7)/\∃i p t,Cc c r 0 (.slice i p t)/\∃t28,Cc c r 1 (.I t28)/\∃t32,Cc c r 1 (.I t32)/\∃t34,Cc c b 1 (.U t34)/\((0:Int)<=wrap .i64 (t32+(wrap .i64 t34))/\wrap .i64 (t32+(wrap .i64 t34))<=((t:Nat):Int))/\((0:Int)<=t28/\t28<=wrap .i64 (t32+(wrap .i64 t34)))/\Cl 50 #[.slice (cO i t (toNat t28) 1) ((toNat (wrap .i64 (t32+(wrap .i64 t34)))) - (toNat t28)) (t - (toNat t28))] c λy a=> ∃l k j,y=.slice l k j/\Cc a b 1 (.U t34)/\Cc a r 1 (.I t32)/\Cc a r 1 (.I t28)/\Cc a r 0 (.slice i p t)/\aG (λ(e:ai)=> ∃t50,Cc e r 1 (.I t50)/\∃t52,Cc e b 1 (.U t52)/\aS e (AA r 1) (.I (wrap .i64 (t50+(wrap .i64 t52)))) λq=>R (.slice l k j) q) (λJ=> ∃t40,Cc a b 0 (.I t40)/\if(t40 !=3)then Ce 282 #[.bool true,.I 3] a (λz s=>z=.tuple #[]/\([]:List Deferred)= []/\J s) E else Cl 316 #[.slice l k j] a λA u=> ∃t44,A=.bool t44/\Ce 282 #[.bool t44,.I 3] u (λC w=>C=.tuple #[]/\([]:List Deferred)= []/\J w) E)) E):hM Tryz.prog 311 #[.P r 0,.agg #[.I d,.U H,.bool c]] h R E:=gY (lq (sq (pN 15) (sq (pN 19) (sq (.join [] lf) (sq (pN 11) ll))))) Ga Tryz.func311 rfl rfl (Eq.mp dj x)
theorem su.walk (Y:aQ h (.cells #[.I d,.U H,.bool c] 360) λb H=>aQ H (.cells #[.I 0,.U 0,.Z,.Z] 262) λi c=>Hi c b 0 λt8=>aQ c (.cells #[.I 0,.U 0,.Z,.Z] 262) λa W=>aa.ST W (AA a 0) t8 0 none 0 0 none 0 0 λk=> ∃t11,Cc k b 2 (.bool t11)/\if(!t11)then bu.LD k (AA b 0) λp' q' r'=>Ce 311 #[.P r 0,.agg #[.I p',.U q',.bool r']] k (λv X=> ∃x w T,v=.slice x w T/\aS X (AA a 2) (.slice x w T) λt=>aa.LD t (AA a 0) λs' t' w' v' u' z' y' x'=>aa.ST t (AA i 0) s' t' w' v' u' z' y' x' λu=>aa.LD u (AA i 0) λZ b' h' f' d' n' l' j'=>R (.agg #[.I Z,.U b',.slice h' f' d',.slice n' l' j']) u) E else∃(I:ai->Prop)(M:ai->Nat),I k/\∀(m:ai),I m->Cl 310 #[.P r 0] m λO' o=> ∃t19,O'=.bool t19/\if(!t19)then Ce 281 #[.P r 0] o (λP' O=> ∃y z A,P'=.agg #[.I y,.U z,.bool A]/\aQ O (.cells #[.I 0,.U 0,.bool false] 360) λj P=>bu.ST P (AA j 0) y z A λe=>aG (λ(l:ai)=>Hl l a 2 λF D C=>bu.LD l (AA j 0) λA' B' C'=>Ce 311 #[.P r 0,.agg #[.I A',.U B',.bool C']] l (λQ' p=>Vl Q' λF' E' D'=>Cc p a 2 (.slice F D C)/\aW Tryz.prog (Builtin.append_ #[22,22] 22 #[.slice F D C,.slice F' E' D']) p λR' Q=> ∃N L G,R'=.slice N L G/\aS Q (AA a 2) (.slice N L G) λq=>(([]:List Deferred)= []/\I q/\M q<M m)) E) (λJ=>Hi e j 0 λt24=> ∃t26,Cc e b 0 (.I t26)/\if(t24==t26)then Hb e j 2 λt30=>Ce 282 #[.bool (!t30),.I 3] e (λS' S=>S'=.tuple #[]/\([]:List Deferred)= []/\J S) E else Ce 282 #[.bool false,.I 3] e (λT' U=>T'=.tuple #[]/\([]:List Deferred)= []/\J U) E)) E else aa.LD o (AA a 0) λG' H' K' J' I' N' M' L'=>aa.ST o (AA i 0) G' H' K' J' I' N' M' L' λs=>aa.LD s (AA i 0) λa' c' i' g' e' o' m' k'=>R (.agg #[.I a',.U c',.slice i' g' e',.slice o' m' k']) s):hM Tryz.prog 284 #[.P r 0,.agg #[.I d,.U H,.bool c]] h R E:=gY (lq (lq (sq (lq (cq (lq ll) lf)) (sq (bq (.loop [] (sq (lq (cq lf lf)) (bq (lq (sq (.join [] lf) (pN 8))))))) ll)))) Ga Tryz.func284 rfl rfl (Eq.mp dj Y)
theorem vy.walk (hv:aQ h (.cells #[.I d,.U H,.bool c] 360) λb H=>aQ H (.cells #[.I 0,.U 0,.Z,.Z] 262) λk c=>aQ c (.cells #[.I 0,.U 0,.Z,.Z] 262) λa q'=>aa.ST q' (AA a 0) 4 0 none 0 0 none 0 0 λi=> ∃t10,Cc i b 2 (.bool t10)/\if t10 then∃(I:ai->Prop)(M:ai->Nat),I i/\∀(u:ai),I u->Cl 310 #[.P r 0] u λv l=> ∃t12,v=.bool t12/\if(!t12)then∃m T t,Cc l a 3 (.slice m T t)/\Ce 243 #[.P r 0,.I (wrap .i64 (deep+1))] l (λY' F=> ∃L N Q P O W U S,Y'=.agg #[.I L,.U N,.slice Q P O,.slice W U S]/\Cc F a 3 (.slice m T t)/\aQ F (.cells #[.I L,.U N,.slice Q P O,.slice W U S] 262) λn' G=>Cc G a 3 (.slice m T t)/\aW Tryz.prog (Builtin.append_ #[260,260] 260 #[.slice m T t,.slice (Sa n' 0) 1 1]) G λZ' r'=> ∃Z Y X,Z'=.slice Z Y X/\aS r' (AA a 3) (.slice Z Y X) λx=>(([]:List Deferred)= []/\I x/\M x<M u)) E else aa.LD l (AA a 0) λI' J' M' L' K' P' O' N'=>aa.ST l (AA k 0) I' J' M' L' K' P' O' N' λy=>aa.LD y (AA k 0) λs' u' A' y' w' G' E' C'=>R (.agg #[.I s',.U u',.slice A' y' w',.slice G' E' C']) y else∃t25,Cc i b 1 (.U t25)/\∃b' w a',Cc i r 0 (.slice b' w a')/\∃t34,Cc i r 1 (.I t34)/\Ce 282 #[.bool (decide (t25<=(wrap .u64 (wrap .i64 (((w:Nat):Int) - t34))))),.I 8] i (λOo j=>Oo=.tuple #[]/\Cc j r 1 (.I t34)/\Cc j r 0 (.slice b' w a')/\Cc j b 1 (.U t25)/\∃t40,Cc j b 1 (.U t40)/\∃(s:Int->ai->Prop)(J:Int->ai->Nat),s 0 j/\∀(t41:Int)(e:ai),s t41 e->if(decide (t41<t40))then∃q p o,Cc e a 3 (.slice q p o)/\Ce 243 #[.P r 0,.I (wrap .i64 (deep+1))] e (λLR z=> ∃c' d' g' f' e' j' i' h',LR=.agg #[.I c',.U d',.slice g' f' e',.slice j' i' h']/\Cc z a 3 (.slice q p o)/\aQ z (.cells #[.I c',.U d',.slice g' f' e',.slice j' i' h'] 262) λo' A=>Cc A a 3 (.slice q p o)/\aW Tryz.prog (Builtin.append_ #[260,260] 260 #[.slice q p o,.slice (Sa o' 0) 1 1]) A λQj p'=> ∃m' l' k',Qj=.slice m' l' k'/\aS p' (AA a 3) (.slice m' l' k') λC=>(([]:List Deferred)= []/\s (wrap .u64 (t41+1)) C/\J (wrap .u64 (t41+1)) C<J t41 e)) E else aa.LD e (AA a 0) λQ' R' U' T' S' X' W' V'=>aa.ST e (AA k 0) Q' R' U' T' S' X' W' V' λD=>aa.LD D (AA k 0) λt' v' B' z' x' H' F' D'=>R (.agg #[.I t',.U v',.slice B' z' x',.slice H' F' D']) D) E):hM Tryz.prog 283 #[.P r 0,.agg #[.I d,.U H,.bool c],.I deep] h R E:=gY (lq (lq (sq (lq (cq (sq (bq (.loop [] (sq (lq (cq lf lf)) (bq (pN 10))))) ll) lf)) (sq (pN 15) (sq (lq (bq (.loop [(41,.one (.int .u64))] (lq (sq (cq lf lf) (sq (bq (pN 10)) lf)))))) ll))))) Ga Tryz.func283 rfl rfl (Eq.mp dj hv)
theorem nn.walk (Z:aQ h (.cells #[.I 0,.U 0,.Z,.Z] 262) λb H=>Ce 281 #[.P r 0] H (λv c=> ∃L M N,v=.agg #[.I L,.U M,.bool N]/\aQ c (.cells #[.I 0,.U 0,.bool false] 360) λa X=>bu.ST X (AA a 0) L M N λe=>aG (λ(Y:ai)=>Ce 282 #[.bool (decide (deep<=6)),.I 9] Y (λE' l=>E'=.tuple #[]/\Hi l r 2 λt33=>Ce 282 #[.bool (decide (t33>0)),.I 2] l (λF' m=>F'=.tuple #[]/\∃t39,Cc m r 2 (.I t39)/\aS m (AA r 2) (.I (wrap .i64 (t39 - 1))) λi=> ∃t44,Cc i a 0 (.I t44)/\if(t44==0)then Hu i a 1 λt48=>aa.ST i (AA b 0) 0 t48 none 0 0 none 0 0 λo=>aa.LD o (AA b 0) λa' d' m' j' g' v' s' p'=>R (.agg #[.I a',.U d',.slice m' j' g',.slice v' s' p']) o else if(t44==4)then bu.LD i (AA a 0) λy' z' A'=>Ce 283 #[.P r 0,.agg #[.I y',.U z',.bool A'],.I deep] i (λG' O=> ∃t T s q p x w u,G'=.agg #[.I t,.U T,.slice s q p,.slice x w u]/\aa.ST O (AA b 0) t T s q p x w u λj=>aa.LD j (AA b 0) λb' e' n' k' h' w' t' q'=>R (.agg #[.I b',.U e',.slice n' k' h',.slice w' t' q']) j) E else bu.LD i (AA a 0) λB' C' D'=>Ce 284 #[.P r 0,.agg #[.I B',.U C',.bool D']] i (λH' P=> ∃y z D C A I G F,H'=.agg #[.I y,.U z,.slice D C A,.slice I G F]/\aa.ST P (AA b 0) y z D C A I G F λk=>aa.LD k (AA b 0) λc' f' o' l' i' x' u' r'=>R (.agg #[.I c',.U f',.slice o' l' i',.slice x' u' r']) k) E) E) E) (λJ=> ∃t9,Cc e a 0 (.I t9)/\if(t9==0)then Ce 282 #[.bool true,.I 3] e (λI' Q=>I'=.tuple #[]/\([]:List Deferred)= []/\J Q) E else∃t13,Cc e a 0 (.I t13)/\if(t13==2)then Ce 282 #[.bool true,.I 3] e (λJ' S=>J'=.tuple #[]/\([]:List Deferred)= []/\J S) E else∃t18,Cc e a 0 (.I t18)/\if(t18==3)then Ce 282 #[.bool true,.I 3] e (λK' U=>K'=.tuple #[]/\([]:List Deferred)= []/\J U) E else Hi e a 0 λt23=>Ce 282 #[.bool (t23==4),.I 3] e (λL' W=>L'=.tuple #[]/\([]:List Deferred)= []/\J W) E)) E):hM Tryz.prog 243 #[.P r 0,.I deep] h R E:=gY (lq (lq (sq (.join [] lf) (lq (lq (lq (sq (lq (bq (lq (cq ll (lq (cq ll lf)))))) ll))))))) Ga Tryz.func243 rfl rfl (Eq.mp dj Z)
theorem qe.ret.walk(a:aQ h (.cells #[.I 0] 331) λb H=>aS H (AA b 0) (.I 0) λc=>K none c):pH Tryz.prog 242 #[.P c0 0,.P c1 0,.P c2 0] none h K:=pI (lq (lq (cq (pN 6) lf))) Tryz.func242 rfl rfl (Eq.mp dj a)
theorem qe.mq.walk{i:Int}(k:aQ h (.cells #[.I 0] 331) λb H=>aS H (AA b 0) (.I i) λc=>Hi c b 0 λt13=>aa.ST c (AA c0 0) 0 0 none 0 0 none 0 0 λa=>Cc a b 0 (.I t13)/\aS a (AA c1 0) (.I 0) λe=>Cc e b 0 (.I t13)/\aS e (AA c2 0) (.I t13) λj=>K none j):pH Tryz.prog 242 #[.P c0 0,.P c1 0,.P c2 0] (some (.iface 331 (.agg #[.I i]))) h K:=pI (lq (lq (cq (pN 6) lf))) Tryz.func242 rfl rfl (Eq.mp dj k)
theorem Jr.walk (N:aQ h (.cells #[.I 0,.U 0,.Z,.Z] 262) λb H=>aQ H (.cells #[.I 0] 3) λe c=>aQ c (.cells #[.I 0] 24) λi o=>aG (λ(t15:Bool) (p:ai)=>if t15 then aa.ST p (AA b 0) 0 0 none 0 0 none 0 0 λF=>aS F (AA e 0) (.I 0) λG=>aS G (AA i 0) (.I 1) λj=>aa.LD j (AA b 0) λO S d' a' X m' j' g'=>Hi j e 0 λr1=> ∃r2,Cc j i 0 (.I r2)/\R (.tuple #[.agg #[.I O,.U S,.slice d' a' X,.slice m' j' g'],.I r1,.I r2]) j else aQ p (.cells #[.slice f B g,.I V,.I 256] 335) λk I=>Ce 243 #[.P k 0,.I 1] I (λv L=> ∃t T x w u A z y,v=.agg #[.I t,.U T,.slice x w u,.slice A z y]/\aa.ST L (AA b 0) t T x w u A z y λl=>aa.LD l (AA b 0) λr' s' v' u' t' y' x' w'=>Hi l k 1 λt28=>aa.ST l (AA b 0) r' s' v' u' t' y' x' w' λm=>Cc m k 1 (.I t28)/\aS m (AA e 0) (.I t28) λC=>aS C (AA i 0) (.I 0) λD=>pH Tryz.prog 242 #[.P b 0,.P e 0,.P i 0] none D (Lf (λa=>aa.LD a (AA b 0) λP U e' b' Y n' k' h'=>Hi a e 0 λp'=> ∃q,Cc a i 0 (.I q)/\R (.tuple #[.agg #[.I P,.U U,.slice e' b' Y,.slice n' k' h'],.I p',.I q]) a) E)) (λv_ M=>pH Tryz.prog 242 #[.P b 0,.P e 0,.P i 0] (some v_) M (Lf (λa=>aa.LD a (AA b 0) λQ W f' c' Z o' l' i'=>Hi a e 0 λq'=> ∃s,Cc a i 0 (.I s)/\R (.tuple #[.agg #[.I Q,.U W,.slice f' c' Z,.slice o' l' i'],.I q',.I s]) a) E))) (λJ=>if(decide (V<0))then([]:List Deferred)= []/\J true o else([]:List Deferred)= []/\J (decide (V>(B:Int))) o)):hM Tryz.prog 193 #[.slice f B g,.I V] h R E:=gY (lq (sq (sq (.join [(15,.one (.bool))] lf) (cq ll lf)) (lq (lq (lq (sq (pN 8) lf)))))) Ga Tryz.func193 rfl rfl (Eq.mp dj N)
theorem Au.walk(u:Cl 193 #[.slice f B g,.I 0] h λv H=> ∃t T j i e m l k o p,v=.tuple #[.agg #[.I t,.U T,.slice j i e,.slice m l k],.I o,.I p]/\aQ H (.cells #[.I 0,.U 0,.Z,.Z] 262) λb c=>aa.ST c (AA b 0) t T j i e m l k λa=>if(p==0)then if(o==(B:Int))then aa.LD a (AA b 0) λw x A z y F D C=>Cl 208 #[.Z,.agg #[.I w,.U x,.slice A z y,.slice F D C]] a λL q=>Vl L λJ I G=>Cl 82 #[.slice J I G,.slice f B g] q λM s=> ∃t24,M=.bool t24/\R (.bool t24) s else R (.bool false) a else R (.bool false) a):Cl 314 #[.slice f B g] h R:=aO (lq (lq ll)) Tryz.func314 u
theorem CC.walk{m:Int}(a:if(decide (m≥2))then if(decide (m<=5))then R (.bool true) h else R (.bool (m==7)) h else R (.bool (m==7)) h):Cl 317 #[.I m] h R:=aO (lq ll) Tryz.func317 a
theorem Gg.walk(a:aQ h (.cells #[.I d,.U H,.bool c] 360) λb H=> ∃t4,Cc H b 2 (.bool t4)/\if t4 then bu.LD H (AA b 0) λt T e=>Hi H b 0 λt7=> ∃(eq:Bool),Aj Tryz.prog 360 (.agg #[.I t,.U T,.bool e]) (.agg #[.I t7,.U 0,.bool true]) eq/\if eq then Hi H b 0 λt12=>Cl 317 #[.I t12] H λv c=> ∃t13,v=.bool t13/\R (.bool t13) c else R (.bool false) H else∃t16,Cc H b 0 (.I t16)/\if(decide (t16≥0))then∃t20,Cc H b 0 (.I t20)/\R (.bool (decide (t20<=7))) H else R (.bool false) H):Cl 299 #[.agg #[.I d,.U H,.bool c]] h R:=aO (lq (sq (lq (cq ll lf)) ll)) Tryz.func299 a
theorem Ea.walk(a:if(decide (n<24))then R (.I 0) h else if(decide (n<256))then R (.I 1) h else if(decide (n<65536))then R (.I 2) h else if(decide (n<4294967296))then R (.I 4) h else R (.I 8) h):Cl 301 #[.U n] h R:=aO (lq (sq (bq (lq (cq ll (lq (cq ll (lq (cq ll (lq (cq ll lf))))))))) ll)) Tryz.func301 a
theorem Js.walk(a:Cl 301 #[.U n] h λv H=> ∃t4,v=.I t4/\if(t4==1)then R (.int .u8 24) H else if(t4==2)then R (.int .u8 25) H else if(t4==4)then R (.int .u8 26) H else if(t4==8)then R (.int .u8 27) H else R (.int .u8 (wrap .u8 n)) H):Cl 300 #[.U n] h R:=aO (lq (sq (lq (bq (lq (cq ll (lq (cq ll (lq (cq ll (lq (cq ll lf)))))))))) ll)) Tryz.func300 a
theorem Gh.walk (y:aQ h (.cells #[.I d,.U H,.bool c] 360) λb H=>bu.LD H (AA b 0) λz A C=>Cl 299 #[.agg #[.I z,.U A,.bool C]] H λv c=> ∃t9,v=.bool t9/\if(!t9)then R (.tuple #[.Z,.I 3]) c else∃t13,Cc c b 2 (.bool t13)/\if t13 then Hi c b 0 λt15=>aQ c (.cells #[.int .u8 (wrap .u8 ((px (wrap .u8 ((wrap .u8 t15)*2 ^ min (toNat 5) (IntKind.bits .u8)))|||px 31).toNat:Int))] 5) λp u=>R (.tuple #[.slice (Sa p 0) 1 1,.I 0]) u else Hi c b 0 λt21=>Hu c b 1 λt25=>Cl 300 #[.U t25] c λD k=> ∃t26,D=.int .u8 t26/\Cc k b 0 (.I t21)/\aQ k (.cells #[.int .u8 (wrap .u8 ((px (wrap .u8 ((wrap .u8 t21)*2 ^ min (toNat 5) (IntKind.bits .u8)))|||px t26).toNat:Int))] 5) λq i=>Cc i b 0 (.I t21)/\Hu i b 1 λt30=>Cl 301 #[.U t30] i λF w=>Vi F λt31=> ∃(I:cy->Nat->Nat->Int->ai->Prop)(m:cy->Nat->Nat->Int->ai->Nat),I (Sa q 0) 1 1 0 w/\∀(e:cy)(O o:Nat)(t33:Int)(a:ai),I e O o t33 a->if(decide (t33<t31))then∃t38,Cc a b 1 (.U t38)/\if wrap .i64 (8*(wrap .i64 ((wrap .i64 (t31 - 1)) - t33)))<0 then False else aQ a (.cells #[.int .u8 (wrap .u8 (Int.fdiv t38 (2 ^ min (toNat (wrap .i64 (8*(wrap .i64 ((wrap .i64 (t31 - 1)) - t33))))) (IntKind.bits .u64))))] 5) λs x=>aW Tryz.prog (Builtin.append_ #[22,22] 22 #[.slice e O o,.slice (Sa s 0) 1 1]) x λG l=> ∃j T t,G=.slice j T t/\(I j T t (wrap .i64 (t33+1)) l/\m j T t (wrap .i64 (t33+1)) l<m e O o t33 a)else R (.tuple #[.slice e O o,.I 0]) a):Cl 261 #[.agg #[.I d,.U H,.bool c]] h R:=aO (lq (sq (bq (lq (cq ll (lq (cq ll lf))))) (sq (pN 10) (lq (sq (lq (bq (.loop [(4,.one (.slice)),(33,.one (.int .i64))] (lq (sq (cq lf lf) (sq (bq ll) lf)))))) ll))))) Tryz.func261 y
theorem Jt.walk (F:aQ h (.cells #[.I 0,.U 0,.bool false] 360) λb H=>aG (λ(t11:Bool) (c:ai)=>if t11 then bu.ST c (AA b 0) 0 0 false λu=>bu.LD u (AA b 0) λG T b'=>R (.tuple #[.agg #[.I G,.U T,.bool b'],.I 0,.I 1]) u else if(V==(B:Int))then bu.ST c (AA b 0) 0 0 false λw=>bu.LD w (AA b 0) λL U c'=>R (.tuple #[.agg #[.I L,.U U,.bool c'],.I 0,.I 8]) w else Bd V B/\aL f λa=>HL c (a.add (toNat V*1)) λt30=>aQ c (.cells #[.I 0,.U 0,.bool false] 360) λe D=>bu.ST D (AA e 0) (wrap .i64 (Int.fdiv t30 (2 ^ min (toNat 5) (IntKind.bits .u8)))) 0 false λj=>Bd V B/\aL f λA=> ∃t37,bg j (A.add (toNat V*1))=some (.int .u8 t37)/\if(decide ((wrap .u8 ((px t37 &&& px 31).toNat:Int))<24))then aS j (AA e 1) (.U (wrap .u64 (wrap .u8 ((px t37 &&& px 31).toNat:Int)))) λx=>bu.LD x (AA e 0) λi' j' k'=>bu.ST x (AA b 0) i' j' k' λy=>bu.LD y (AA b 0) λN W d'=>R (.tuple #[.agg #[.I N,.U W,.bool d'],.I (wrap .i64 (V+1)),.I 0]) y else aG (λ(t49:Bool) (k:ai)=>if t49 then aS k (AA e 2) (.bool true) λm=>bu.LD m (AA e 0) λl' m' n'=>bu.ST m (AA b 0) l' m' n' λo=>bu.LD o (AA b 0) λO X e'=>R (.tuple #[.agg #[.I O,.U X,.bool e'],.I (wrap .i64 (V+1)),.I 0]) o else if(decide ((wrap .u8 ((px t37 &&& px 31).toNat:Int))>27))then bu.ST k (AA b 0) 0 0 false λp=>bu.LD p (AA b 0) λP Y f'=>R (.tuple #[.agg #[.I P,.U Y,.bool f'],.I 0,.I 3]) p else if wrap .u8 ((wrap .u8 ((px t37 &&& px 31).toNat:Int)) - 24)<0 then False else if(decide ((wrap .i64 (1*2 ^ min (toNat (wrap .u8 ((wrap .u8 ((px t37 &&& px 31).toNat:Int)) - 24))) (IntKind.bits .i64)))>(wrap .i64 ((B:Int) - (wrap .i64 (V+1))))))then bu.ST k (AA b 0) 0 0 false λq=>bu.LD q (AA b 0) λQ Z g'=>R (.tuple #[.agg #[.I Q,.U Z,.bool g'],.I 0,.I 8]) q else∃(I:Int->ai->Prop)(M:Int->ai->Nat),I 0 k/\∀(t75:Int)(i:ai),I t75 i->if(decide (t75<(wrap .i64 (1*2 ^ min (toNat (wrap .u8 ((wrap .u8 ((px t37 &&& px 31).toNat:Int)) - 24))) (IntKind.bits .i64)))))then Hu i e 1 λt79=>Bd (wrap .i64 ((wrap .i64 (V+1))+t75)) B/\aL f λz=> ∃t86,bg i (z.add (toNat (wrap .i64 ((wrap .i64 (V+1))+t75))*1))=some (.int .u8 t86)/\aS i (AA e 1) (.U (wrap .u64 ((mr (wrap .u64 (t79*2 ^ min (toNat 8) (IntKind.bits .u64)))|||mr (wrap .u64 t86)).toNat:Int))) λs=>(I (wrap .i64 (t75+1)) s/\M (wrap .i64 (t75+1)) s<M t75 i)else bu.LD i (AA e 0) λo' p' q'=>bu.ST i (AA b 0) o' p' q' λt=>bu.LD t (AA b 0) λS a' h'=>R (.tuple #[.agg #[.I S,.U a',.bool h'],.I (wrap .i64 ((wrap .i64 (V+1))+(wrap .i64 (1*2 ^ min (toNat (wrap .u8 ((wrap .u8 ((px t37 &&& px 31).toNat:Int)) - 24))) (IntKind.bits .i64))))),.I 0]) t) (λl=>if((wrap .u8 ((px t37 &&& px 31).toNat:Int))==31)then Hi j e 0 λt54=>Cl 317 #[.I t54] j λv C=> ∃t55,v=.bool t55/\l t55 C else l false j)) (λJ=>if(decide (V<0))then J true H else J (decide (V>(B:Int))) H)):Cl 309 #[.slice f B g,.I V] h R:=aO (lq (sq (bq (sq (.join [(11,.one (.bool))] lf) (cq ll (lq (cq ll lf))))) (lq (lq (lq (sq (bq (lq (cq (lq ll) (sq (.join [(49,.one (.bool))] lf) (cq (lq ll) (lq (cq ll lf))))))) (lq (sq (lq (cq ll lf)) (sq (lq (bq (.loop [(75,.one (.int .i64))] (lq (sq (cq lf lf) (sq (bq (lq (pN 13))) lf)))))) ll))))))))) Tryz.func309 F

end
section
namespace Cb
variable {h h':ai} {R E:fp} {p:cy} {r l c:Nat} {bs:cD}
variable {pos left:Nat}
abbrev Oq(e:Int):Value:=.iface 331 (.agg #[.int .i64 e])
structure uW (h:ai) (r:Nat) (p:cy) (c:Nat) (bs:cD) (pos left:Nat):Prop where
 cT:h[r]? =some (.cells #[.slice p bs.length c,.int .i64 (pos:Int),.int .i64 (left:Int)] 335 (0,0))
 row:Row h p (bc bs)
 cap:bs.length<=c
 pos:pos<=bs.length
 ap:bs≠ []->¬aR p r
 len:bs.length<=1000000
 left:left<=1000000
theorem gP{q:Bool}{e:Int}(k:q=true->R (.tuple #[]) h)(K:q=false->E (Oq e) h):hM Tryz.prog 282 #[.bool q,.I e] h R E:=by
 refine Jq.walk ?_;cases q with
 |true=>rw[dc];exact k rfl
 |false=>rw[fK];exact K rfl
theorem uW.frame{Q:Nat->Prop}(H:uW h r p c bs pos left)(f:Fr Q h h')(d: ¬Q r)(g: ∀y,aR p y->bs≠ []->¬Q y):uW h' r p c bs pos left:=by
 refine⟨f.get H.cT d,?_,H.cap,H.pos,H.ap,H.len,H.left⟩;by_cases e:bs= []
 .subst e;exact Row.nil
 .exact H.row.frame f (λa b=>g _ ⟨a,b,rfl⟩ e)
theorem uW.on(H:uW h r p c bs pos left)(f:Fr No h h'):uW h' r p c bs pos left:=H.frame f id (λ_ _ _=>id)
theorem uW.set{pos' left':Nat}(H:uW h r p c bs pos left)(j:pos'<=bs.length)(i:left'<=1000000)(d1:h'[r]? =some (.cells #[.slice p bs.length c,.I (pos':Int),.I (left':Int)] 335 (0,0)))(d2:h'.size=h.size)(d3: ∀x,x≠r->h'[x]? =h[x]?):
  uW h' r p c bs pos' left'/\Fr (λy=>y=r) h h':=by
 have f:Fr (λy=>y=r) h h':=Fr.of_eq d2 (λc g=>d3 c g);refine⟨⟨d1,?_,H.cap,j,H.ap,H.len,i⟩,f⟩;by_cases e:bs= []
 .subst e;exact Row.nil
 .exact H.row.frame f (λa d b=>H.ap e ⟨a,d,b⟩)
theorem HS(H:uW h r p c bs pos left)(K: ∀h',tJ bs pos=true->pos<bs.length->uW h' r p c bs (pos+1) left->Fr (λy=>y=r) h h'->R (.bool true) h')(k:tJ bs pos=false->R (.bool false) h):Cl 310 #[.P r 0] h R:=by
 have b:=H.cT;have m:=H.len;refine vx.walk (aG.of λJ g=>⟨_,ar b,_,_,_,ar b,?_⟩);by_cases d:pos<bs.length
 .rw[fK];obtain⟨a,rfl⟩:=H.row.some (by cases bs with|nil=>simp at d|cons=>simp[bc]);have j:(bc bs)[pos]? =some (.int .u8 ((bs[pos]).toNat:Int)):=by unfold bc;rw[aK,aj d];rfl
  have C:=H.row.cell j;have f:tJ bs pos=decide ((bs[pos]).toNat=255):=by unfold tJ;rw[aj d]
  generalize (bs[pos]).toNat=x at C f;refine⟨_,_,_,ar b,_,ar b,ag,aw.2 ⟨_,by rw[aI,ct];exact C,?_⟩⟩;subst g;dsimp only;split
  .rename_i q;refine⟨_,ar b,bw b (by show 1<3;omega) λi d1 d2 d3=> ?_⟩;rw[bD ag ag]at d1;obtain⟨q1,q2⟩:=H.set (pos':=pos+1) ag H.left d1 d2 d3;exact K i (by rw[f];have:=eq_of_beq q;exact av ag) d q1 q2
  .rename_i q;exact k (by rw[f];exact az λe=>q (by rw[e];rfl))
 .rw[ae (λe=>d (bY (aU e)))];subst g;dsimp only;rw[dc];exact k (by unfold tJ;rw[cK ag])
theorem Gi{m:Nat}(hk:R (.bool (pV m)) h):Cl 317 #[.I (m:Int)] h R:=by
 refine CC.walk ?_;have a:((m:Int)==7)=decide (m=7):=by
  by_cases e:m=7
  .subst e;rfl
  .rw[az e,db];omega
 have hk: ∀q,q=pV m->R (.bool q) h:=λq e=>by rw[e];exact hk
 unfold pV at hk;rw[a];split
 .rename_i q2;split
  .rename_i Q;exact hk _ (by rw[av];rfl;have:=aU q2;have:=aU Q;omega)
  .rename_i Q;exact hk _ (by rw[az (p:=2<=m/\m<=5)];rfl;intro e;exact Q (av ag))
 .rename_i q2;exact hk _ (by rw[az (p:=2<=m/\m<=5)];rfl;intro e;exact q2 (av ag))
theorem byte_at(b:Row h p (bc bs)){i:Nat}(H:i<bs.length): ∃a,p=some a/\bg h (a.add (i*1))=some (.int .u8 ((bs[i]).toNat:Int)):=by
 obtain⟨a,rfl⟩:=b.some (by cases bs with|nil=>simp at H|cons=>simp[bc]);exact⟨a,rfl,by rw[ct];exact b.cell (v:=.int .u8 ((bs[i]).toNat:Int)) (by unfold bc;rw[aK,aj H];rfl)⟩
theorem UO: ∀x:Fin 256,IntKind.wrap .i64 (Int.fdiv (x.val:Int) (2 ^ min (Int.toNat 5) (IntKind.bits .u8)))=((x.val/32:Nat):Int):=di
theorem Rk: ∀x:Fin 256,IntKind.wrap .u8 ((BitVec.ofInt (IntKind.bits .u8) (x.val:Int) &&& BitVec.ofInt (IntKind.bits .u8) 31).toNat:Int)=((x.val%32:Nat):Int):=di
theorem xT{n:Nat}(h:n<18446744073709551616):IntKind.wrap .u64 (n:Int)=(n:Int):=by
 have e:IntKind.wrap .u64 (n:Int)=(n:Int)%18446744073709551616:=by simp[IntKind.wrap,IntKind.bits,IntKind.signed]
 rw[e];omega
theorem Qk{v y:Nat}(H:v<72057594037927936)(a:y<256):IntKind.wrap .u64 ((BitVec.ofInt (IntKind.bits .u64) (IntKind.wrap .u64 ((v:Int)*2 ^ min (Int.toNat 8) (IntKind.bits .u64)))|||BitVec.ofInt (IntKind.bits .u64) (IntKind.wrap .u64 (y:Int))).toNat:Int)=((v*256+y:Nat):Int):=by
 have e1:(v:Int)*2 ^ min (Int.toNat 8) (IntKind.bits .u64)=((v*256:Nat):Int):=by
  rw[show(2:Int) ^ min (Int.toNat 8) (IntKind.bits .u64)=256 from rfl];omega
 rw[e1,xT (n:=v*256) ag,xT (n:=y) ag];have e2:((BitVec.ofInt (IntKind.bits .u64) ((v*256:Nat):Int)|||BitVec.ofInt (IntKind.bits .u64) (y:Int)).toNat)=v*256+y:=by
  rw[BitVec.toNat_or,BitVec.ofInt_natCast,BitVec.ofInt_natCast,BitVec.toNat_ofNat,BitVec.toNat_ofNat];rw[show(2:Nat) ^ IntKind.bits .u64=18446744073709551616 from rfl,Nat.mod_eq_of_lt ag,Nat.mod_eq_of_lt ag];have:=Nat.two_pow_add_eq_or_of_lt (i:=8) (b:=y) ag v;rw[show(2:Nat) ^ 8=256 from rfl]at this;rw[Nat.mul_comm v 256];exact this.symm
 rw[e2];exact xT ag
theorem Eb(O:Row h p (bc bs))(hl:l=bs.length)(i':bs.length<=1000000)(hp:pos<=bs.length)(k1: ∀h' (m n next:Nat) (o:Bool),Dv bs pos=.ok (m,n,o,next)->Fr No h h'->R (.tuple #[.agg #[.I (m:Int),.U (n:Int),.bool o],.I (next:Int),.I 0]) h')(k2: ∀h' e,Dv bs pos=.error e->Fr No h h'->e≠0->R (.tuple #[.agg #[.I 0,.U 0,.bool false],.I 0,.I e]) h'):Cl 309 #[.slice p l c,.I (pos:Int)] h R:=by
 subst hl;refine Jt.walk (bu.box λb s eb D f1=>aG.of λf' Z=> ?_);rw[dc,az ag];subst Z;dsimp only;rw[dc];have zb:=aD D;have err: ∀g e,Fr No s g->Dv bs pos=.error e->e≠0->bu.ST g (AA b 0) 0 0 false λj=>bu.LD j (AA b 0) λJ r1 r2=>R (.tuple #[.agg #[.I J,.U r1,.bool r2],.I 0,.I e]) j:=λg e F hx w=>
  bu.set (F.get D id) λj d1 d2 d3=>bu.ld d1 (k2 j e hx ((f1.tt F).fresh (Fr.of_eq (S:=λy=>y=b) d2 (λc d=>d3 c d)) (λy e=>ag)) w)
 by_cases w:pos=bs.length
 .rw[af (by rw[w];simp)];exact err s 8 (Fr.refl _ _) (by unfold Dv;rw[cK ag]) di
 rw[ae (λe=>w (bY (eq_of_beq e)))];have L:pos<bs.length:=ag
 obtain⟨a,rfl,B⟩:=byte_at O L;have H:Dv bs pos=Dv bs pos:=rfl;conv at H=>rhs;unfold Dv;rw[aj L]
 dsimp only at H;have X:=(bs[pos]).toNat_lt;generalize (bs[pos]).toNat=x at B H X;refine⟨ag,aw.2 ⟨_,f1.cell (by rw[aI];exact B) id,bu.new λb1 u g' k f2=>⟨ag,aw.2 ⟨_,(f1.tt f2).cell (by rw[aI];exact B) id,?_⟩⟩⟩⟩;have j':=aD k;have z2:=f2.1;have z1:=f1.1;rw[UO ⟨x,X⟩]at k;rw[Rk ⟨x,X⟩];rw[show(⟨x,X⟩:Fin 256).val=x from rfl]at k⊢;have e':x/32<8:=ag
 generalize em:x/32=m at k H e';have Y:x%32<32:=ag
 generalize x%32=f at H Y⊢;rw[bD (n:=(pos:Int)+1) ag ag];have ok: ∀g (n next:Nat) (o:Bool),bu.at g b1 (m:Int) (n:Int) o->bu.at g b 0 0 false->Fr No h g->Dv bs pos=.ok (m,n,o,next)->
   bu.LD g (AA b1 0) λt0 t1 t2=>bu.ST g (AA b 0) t0 t1 t2 λv=>bu.LD v (AA b 0) λJ r1 r2=>R (.tuple #[.agg #[.I J,.U r1,.bool r2],.I (next:Int),.I 0]) v:=λg n next o q1 q2 F s=>
  bu.ld q1 (bu.set q2 λv d1 d2 d3=>bu.ld d1 (k1 v m n next o s (F.fresh (Fr.of_eq (S:=λy=>y=b) d2 (λc d=>d3 c d)) (λy e=>ag))))
 have z:=f1.tt f2;have G:=f2.get D id;by_cases C:f<24
 .rw[fK];rw[af C]at H;refine bw k (by show 1<3;omega) λj d1 d2 d3=> ?_
  rw[xT ag]at d1;exact ok j f (pos+1) false d1 ((d3 b ag).trans G) (z.fresh (Fr.of_eq (S:=λy=>y=b1) d2 (λc d=>d3 c d)) (λy e=>ag)) H
 rw[ae (λe=>C (bY (aU e)))];rw[ae C]at H;refine aG.of λP b'=> ?_
 have rest: ∀q,q=decide (f=31/\pV m=true)->P q u:=by
  intro q M;subst b';dsimp only;cases q with
  |true=>
   rw[af rfl];rw[af (aU M.symm)]at H;refine bw k (by show 2<3;omega) λj d1 d2 d3=> ?_
   exact ok j 0 (pos+1) true d1 ((d3 b ag).trans G) (z.fresh (Fr.of_eq (S:=λy=>y=b1) d2 (λc d=>d3 c d)) (λy e=>ag)) H
  |false=>
   rw[dc];rw[ae (fz M.symm)]at H;by_cases A:f>27
   .rw[fK];rw[af A]at H;exact err u 3 f2 H di
   rw[ae (λe=>A (bY (aU e)))];rw[ae A]at H;have T:IntKind.wrap .u8 ((f:Int) - 24)=(f:Int) - 24:=wrap_u8 ag ag;rw[T,dc];obtain⟨N,U,lN,gN,V⟩: ∃N:Nat,IntKind.wrap .i64 (1*2 ^ min (Int.toNat ((f:Int) - 24)) (IntKind.bits .i64))=(N:Int)/\N<=8/\1<=N/\2 ^ (f - 24)=N:=by
    have:f=24\/f=25\/f=26\/f=27:=ag
    rcases this with rfl|rfl|rfl|rfl
    .exact⟨1,dj,ag,ag,rfl⟩
    .exact⟨2,dj,ag,ag,rfl⟩
    .exact⟨4,dj,ag,ag,rfl⟩
    .exact⟨8,dj,ag,ag,rfl⟩
   rw[V]at H;rw[U,bD (n:=(bs.length:Int) - ((pos:Int)+1)) ag ag];by_cases cs:(N:Int)>(bs.length:Int) - ((pos:Int)+1)
   .rw[af (av cs)];rw[fK]at H;exact err u 8 f2 H di
   rw[ae (λe=>cs (aU e))];rw[dc]at H;refine⟨λt g=> ∃i:Nat,t=(i:Int)/\i<=N/\bu.at g b1 (m:Int) (PG ((bs.drop (pos+1)).take i):Int) false/\Fr (λy=>y=b1) u g,λt _=>N - t.toNat,⟨0,rfl,bG _,by rw[dV];exact k,Fr.refl _ _⟩,?_⟩;rintro _ g ⟨i,rfl,hi,I,F⟩;have K:Fr No h g:=z.fresh F (λy e=>ag);by_cases c':i<N
   .rw[fK,bD (n:=(pos:Int)+1+(i:Int)) ag ag];obtain⟨a',W,Q⟩:=byte_at O (i:=pos+1+i) ag;cases W;refine⟨_,ar I,ag,aw.2 ⟨_,by rw[show Int.toNat ((pos:Int)+1+(i:Int))=pos+1+i by omega];exact K.cell Q id,?_⟩⟩;have hv:=LG ((bs.drop (pos+1)).take i);have d':=fH (n:=256) ag (show((bs.drop (pos+1)).take i).length<=7 by rw[bB];omega);rw[show(256:Nat) ^ 7=72057594037927936 from rfl]at d';refine bw I (by show 1<3;omega) λg2 d1 d2 d3=> ?_
    rw[Qk ag (bs[pos+1+i]).toNat_lt,<-DZ]at d1;rw[bD (n:=(i:Int)+1) ag ag];refine⟨⟨i+1,ag,ag,?_,F.tt (Fr.of_eq d2 (λc d=>d3 c d))⟩,by show N - Int.toNat ((i:Int)+1)<N - Int.toNat (i:Int);omega⟩;rw[bQ,eO,aj ag];exact d1
   .rw[ae (λe=>c' (bY (aU e)))];obtain rfl:i=N:=ag
    rw[bD (n:=(pos:Int)+1+(i:Int)) ag ag,show(pos:Int)+1+(i:Int)=((pos+1+i:Nat):Int) by omega];exact ok g _ (pos+1+i) false I (F.get G ag) K H
 split
 .rename_i q;have q:f=31:=by have:=eq_of_beq q;omega
  refine⟨_,ar k,Gi ⟨_,rfl,rest _ (by rw[q];simp)⟩⟩
 .rename_i q;exact rest false (by rw[eq_comm,eN];intro e;exact q (by rw[e.1];decide))

end Cb
end
section
namespace Cb
variable {h h':ai} {R E:fp} {p:cy} {r c:Nat} {bs:cD} {pos left:Nat}
theorem yQ(H:uW h r p c bs pos left)(M: ∀h' (m n next:Nat) (o:Bool),Dv bs pos=.ok (m,n,o,next)->uW h' r p c bs next left->Fr (λy=>y=r) h h'->R (.agg #[.I (m:Int),.U (n:Int),.bool o]) h')(N: ∀h' e,Dv bs pos=.error e->Fr No h h'->E (Oq e) h'):hM Tryz.prog 281 #[.P r 0] h R E:=by
 refine vw.walk (bu.box λb l O w f1=>aG.of λJ v=> ?_);have a:=H.on f1;have U:=aD H.cT;have T:=aD w;have done: ∀g b1 (m n next:Nat) (o:Bool),bu.at g b1 (m:Int) (n:Int) o->l.size<=b1->Fr No l g->Dv bs pos=.ok (m,n,o,next)->J (Sa b1 0) (next:Int) 0 g:=by
  intro g b1 m n next o k Z f q1;have q2:=(vp q1).2.1;subst v;have t:=a.on f;refine gP (λ_=>⟨rfl,bw t.cT (by show 1<3;omega) λC d1 d2 d3=> ?_⟩) (λe=>absurd e di);obtain⟨z,f5⟩:=t.set (pos':=next) q2 H.left d1 d2 d3;have D:=(d3 b1 (bY f1.1)).trans k;have I:=(d3 b (bY f1.1)).trans (f.get w id);refine aw.2 (bu.ld D (bu.set I λu e1 e2 A=>bu.ld e1 ?_));have f6:Fr (λy=>y=b) C u:=Fr.of_eq e2 (λc j=>A c j);refine M u m n next o q1 (z.frame f6 ag (λy L e d=> ?_)) ?_
  .have:=jr H.row (by cases K:bs with|nil=>exact absurd K e|cons=>simp[bc]) L;omega
  .exact(Fr.no (f1.tt f) f5).trans f6 cb (λx i e=>ag)
 have fail: ∀g b1 e,Fr No l g->Dv bs pos=.error e->e≠0->J (Sa b1 0) 0 e g:=by
  intro g b1 e f i d;subst v;exact gP (λq=>absurd (cA q) d) (λ_=>N g e i (f1.tt f))
 refine⟨_,_,_,ar a.cT,_,ar a.cT,?_,?_,trivial⟩
 .refine Eb a.row rfl H.len H.pos (λg m n next o q1 f=>⟨_,_,_,_,_,rfl,bu.new λb1 G e1 k F=>⟨rfl,done G b1 m n next o k (bY f.1) (f.tt F) q1⟩⟩) (λg e i f d=>⟨_,_,_,_,_,rfl,bu.new λb1 G e1 k F=>⟨rfl,fail G b1 e (f.tt F) i d⟩⟩)
 .refine bu.box λB P e2 s f10=>⟨cH (a.on f10).cT rfl,cH (a.on f10).cT rfl,?_⟩
  have Q:=aD s;refine Eb (a.on f10).row rfl H.len H.pos (λg m n next o q1 f=>⟨_,_,_,_,_,rfl,bu.set (f.get s id) λG d1 d2 d3=>⟨rfl,done G B m n next o d1 ag ((f10.tt f).fresh (Fr.of_eq (S:=λy=>y=B) d2 (λc j=>d3 c j)) (λy e=>ag)) q1⟩⟩) (λg e i f d=>⟨_,_,_,_,_,rfl,bu.set (f.get s id) λG d1 d2 d3=>⟨rfl,fail G B e ((f10.tt f).fresh (Fr.of_eq (S:=λy=>y=B) d2 (λc j=>d3 c j)) (λy e=>ag)) i d⟩⟩)

end Cb
end
section
variable {h:ai} {R:fp}
variable {w B c r:Nat} {n:Int} {d:cy}
theorem mR.walk{s:cy}{a S:Nat}(g:if s.isNone then R (.Z) h else aQ h (.cells #[] 5) λb H=>aW Tryz.prog (Builtin.append_ #[22,22] 22 #[.slice (Sa b 0) 0 0,.slice s a S]) H λv f=> ∃e T t,v=.slice e T t/\R (.slice e T t) f):Cl 50 #[.slice s a S] h R:=aO (lq (sq (lq (cq ll lf)) ll)) Tryz.func50 g
theorem Gj.walk(a:aQ h (.cells #[.bool true,.Z] 209) λb H=>R (.P b 0) H):Cl 65 #[] h R:=aO (lq ll) Tryz.func65 a
theorem tR.walk (u:aG (λ(t13:Bool) (a:ai)=>if t13 then R (.P w 0) a else∃(I:Int->ai->Prop)(m:Int->ai->Nat),I n a/\∀(N:Int)(H:ai),I N H->if(decide (N>127))then Hl H w 1 λz y x=>aQ H (.cells #[.int .u8 (wrap .u8 ((px (wrap .u8 N)|||px 128).toNat:Int))] 5) λb l=>aW Tryz.prog (Builtin.append_ #[22,22] 22 #[.slice z y x,.slice (Sa b 0) 1 1]) l λv o=> ∃f T t,v=.slice f T t/\aS o (AA w 1) (.slice f T t) λe=>(I (Int.fdiv N (2 ^ min (toNat 7) (IntKind.bits .u64))) e/\m (Int.fdiv N (2 ^ min (toNat 7) (IntKind.bits .u64))) e<m N H)else Hl H w 1 λD C A=>aQ H (.cells #[.int .u8 (wrap .u8 N)] 5) λk p=>aW Tryz.prog (Builtin.append_ #[22,22] 22 #[.slice D C A,.slice (Sa k 0) 1 1]) p λV q=> ∃j i g,V=.slice j i g/\aS q (AA w 1) (.slice j i g) λs=>R (.P w 0) s) (λJ=> ∃t11,Cc h w 0 (.bool t11)/\J (!t11) h)):Cl 72 #[.P w 0,.U n] h R:=aO (lq (sq (sq (.join [(13,.one (.bool))] lf) (cq ll lf)) (sq (bq (.loop [(1,.one (.int .u64))] (sq (lq (cq lf lf)) (bq ll)))) (lq ll)))) Tryz.func72 u
theorem tS.walk(a:Cl 72 #[.P w 0,.U (wrap .u64 (if 0>n then 0 else n))] h λv H=> ∃t9,v=.pointer t9/\R (.pointer t9) H):Cl 66 #[.P w 0,.I n] h R:=aO (lq ll) Tryz.func66 a
theorem sw.walk(i:Cl 72 #[.P w 0,.U (wrap .u64 (B:Int))] h λv a=>Vp v λt9=>aG (λ(t17:Bool) (H:ai)=>aG (λ(e:ai)=>R (.P w 0) e) (λj=>if t17 then Hl H w 1 λm l k=>aW Tryz.prog (Builtin.append_ #[22,22] 22 #[.slice m l k,.slice d B c]) H λV f=> ∃b T t,V=.slice b T t/\aS f (AA w 1) (.slice b T t) λg=>j g else j H)) (λJ=> ∃t16,Cc a w 0 (.bool t16)/\J t16 a)):Cl 71 #[.P w 0,.slice d B c] h R:=aO (lq (lq (sq (sq (.join [(17,.one (.bool))] lf) (.join [] (cq lf lf))) ll))) Tryz.func71 i
theorem rk.walk(b:Hl h w 1 λg f e=>Cl 50 #[.slice g f e] h λv H=> ∃a T t,v=.slice a T t/\R (.slice a T t) H):Cl 67 #[.P w 0] h R:=aO (lq (sq (lq (cq ll lf)) ll)) Tryz.func67 b
theorem tT.walk{f:Nat}{e:Int}(a: ∃t7,Cc h f 0 (.I t7)/\if(t7==0)then aS h (AA f 0) (.I e) λH=>R (.tuple #[]) H else R (.tuple #[]) h):Cl 144 #[.P f 0,.I e] h R:=aO (lq (cq lf lf)) Tryz.func144 a
theorem Ec.walk(e:Cl 50 #[.slice d B c] h λv H=>Vl v λf T t=>aQ H (.cells #[.I 0,.bool true,.slice f T t] 221) λb a=>R (.P b 0) a):Cl 91 #[.slice d B c] h R:=aO (lq ll) Tryz.func91 e
theorem sy.walk(H: ∃t9,Cc h r 1 (.bool t9)/\if t9 then∃t16,Cc h r 0 (.I t16)/\R (.bool (t16==0)) h else R (.bool false) h):Cl 143 #[.P r 0] h R:=aO (lq ll) Tryz.func143 H
theorem tV.walk (p:aG (λ(k:ai)=>R (.U 0) k) (λJ=> ∃(I:Int->Int->ai->Prop)(m:Int->Int->ai->Nat),I 0 0 h/\∀(n:Int)(i:Int)(f:ai),I n i f->Cl 143 #[.P r 0] f λv H=> ∃t7,v=.bool t7/\if t7 then∃s t q,Cc H r 2 (.slice s t q)/\if(((t:Nat):Int)==0)then Cl 144 #[.P r 0,.I 8] H λV l=>V=.tuple #[]/\J l else Hl H r 2 λx u A=>Bd 0 u/\aL x λa=>HL H (a.add (toNat 0*1)) λt25=>Hl H r 2 λy g T=>((0:Int)<=1/\1<=(g:Int))/\aS H (AA r 2) (.slice (cO y T (toNat 1) 1) (g - (toNat 1)) (T - (toNat 1))) λb=>aG (λ(t52:Bool) (e:ai)=>if t52 then Cl 144 #[.P r 0,.I 3] e λz o=>z=.tuple #[]/\J o else if wrap .i64 (7*i)<0 then False else if((wrap .u8 ((px t25 &&& px 128).toNat:Int))==0)then R (.U (wrap .u64 ((mr n|||mr (wrap .u64 ((wrap .u64 (wrap .u8 ((px t25 &&& px 127).toNat:Int)))*2 ^ min (toNat (wrap .i64 (7*i))) (IntKind.bits .u64)))).toNat:Int))) e else(I (wrap .u64 ((mr n|||mr (wrap .u64 ((wrap .u64 (wrap .u8 ((px t25 &&& px 127).toNat:Int)))*2 ^ min (toNat (wrap .i64 (7*i))) (IntKind.bits .u64)))).toNat:Int)) (wrap .i64 (i+1)) e/\m (wrap .u64 ((mr n|||mr (wrap .u64 ((wrap .u64 (wrap .u8 ((px t25 &&& px 127).toNat:Int)))*2 ^ min (toNat (wrap .i64 (7*i))) (IntKind.bits .u64)))).toNat:Int)) (wrap .i64 (i+1)) e<m n i f)) (λj=>if(i==10)then j true b else if((wrap .i64 (i*7))==63)then if(decide (t25>1))then j true b else if(t25==0)then j (decide (i>0)) b else j false b else if(t25==0)then j (decide (i>0)) b else j false b)else J H)):Cl 92 #[.P r 0] h R:=aO (lq (lq (sq (lq (.join [] (bq (.loop [(3,.one (.int .u64)),(4,.one (.int .i64))] (sq (lq (cq lf lf)) (sq (bq (sq (lq (cq ll lf)) (lq (lq (sq (sq (.join [(52,.one (.bool))] lf) (cq ll lf)) (lq (lq (cq ll lf)))))))) lf)))))) ll))) Tryz.func92 p
theorem qg.walk{t:Int}(b:Cl 92 #[.P r 0] h λv H=> ∃t7,v=.U t7/\if(decide (t7>t))then Cl 144 #[.P r 0,.I 3] H λV a=>V=.tuple #[]/\R (.U 0) a else R (.U t7) H):Cl 145 #[.P r 0,.U t] h R:=aO (lq (lq (sq (lq (cq (lq ll) lf)) ll))) Tryz.func145 b
theorem tW.walk(a:Cl 145 #[.P r 0,.U 1099511627776] h λv H=> ∃t4,v=.U t4/\R (.I (wrap .i64 t4)) H):Cl 93 #[.P r 0] h R:=aO (lq ll) Tryz.func93 a
theorem sA.walk (j:Cl 92 #[.P r 0] h λv f=>Vu v λt6=>Cl 143 #[.P r 0] f λV H=> ∃t8,V=.bool t8/\if(!t8)then R (.Z) H else∃l T k,Cc H r 2 (.slice l T k)/\if(decide (t6>(wrap .u64 ((T:Nat):Int))))then Cl 144 #[.P r 0,.I 8] H λu g=>u=.tuple #[]/\R (.Z) g else Hl H r 2 λm y t=>((0:Int)<=t6/\t6<=(t:Int))/\Cl 50 #[.slice (cO m t 0 1) ((toNat t6) - 0) (t - 0)] H λx a=>Vl x λq p o=>Hl a r 2 λs e b=>((0:Int)<=t6/\t6<=(e:Int))/\aS a (AA r 2) (.slice (cO s b (toNat t6) 1) (e - (toNat t6)) (b - (toNat t6))) λi=>R (.slice q p o) i):Cl 94 #[.P r 0] h R:=aO (lq (lq (sq (lq (cq ll lf)) (sq (lq (cq (lq ll) lf)) (lq (lq ll)))))) Tryz.func94 j
theorem tX.walk (a:aG (λ(t3:Bool) (H:ai)=>if t3 then R (.I 6) H else∃t18,Cc H r 0 (.I t18)/\if(t18 !=0)then∃t24,Cc H r 0 (.I t24)/\R (.I t24) H else∃b t T,Cc H r 2 (.slice b t T)/\if(decide (((t:Nat):Int)>0))then R (.I 2) H else R (.I 0) H) (λJ=> ∃t10,Cc h r 1 (.bool t10)/\J (!t10) h)):Cl 95 #[.P r 0] h R:=aO (lq (sq (bq (sq (.join [(3,.one (.bool))] lf) (cq ll (lq (cq ll (lq (cq ll lf))))))) ll)) Tryz.func95 a

end
section
namespace kK
variable {h:ai} {bs:cD} {R:fp}
variable {p:cy} {n c:Nat}
theorem tU:oy Tryz.prog 22 5 1 1 (.int .u8 0):=⟨dj,dj,rfl⟩
theorem uU:Tryz.prog.underlying 22=some (.slice 5):=dj
theorem u8:Tryz.prog.underlying 5=some (.int .u8):=dj
theorem uS:Tryz.prog.underlying 9=some .string:=dj
theorem conv(a:Row h p (bc bs))(H:n=bs.length):wu Tryz.prog 22 9 (.slice p n c) h (str bs):=Lo uU u8 uS a H
theorem gF(H:Row h p (bc bs))(f:n=bs.length)(l:bs.length<=70368744177664)(hk: ∀P c' h',fJ h' P bs.length c' 1 (bc bs)->Fr No h h'->(∀x,aR P x->h.size<=x)->R (.slice P bs.length c') h'):
  Cl 50 #[.slice p n c] h R:=by
 subst f;refine mR.walk ?_;cases p with
 |none=>
  have:bs= []:=by
   rcases H with H|⟨a,e,_⟩
   .cases bs with
    |nil=>rfl
    |cons b bs=>cases H
   .cases e
  subst this;exact hk none 0 h (.nil rfl rfl rfl rfl) (Fr.refl _ _) (λx ⟨a,e,_⟩=>by cases e)
 |some a=>
  simp only[gA,au,aM];refine cF ?_;have f1:Fr No h (h.push (.cells #[] 5)):=Fr.push _ _;refine dT (cs:= []) tU uU (.row h.size 0 #[] 5 rfl bV (bk _) bP rfl (λj v d=>by cases d)) (H.frame f1 cb) (by rw[jT,ct]) (pR bs) ag ag ?_;intro P c' h' o1 _ f2 g;rw[bL,dW]at o1;refine⟨_,_,_,rfl,?_⟩;rw[bL];have G: ∀x,aR P x->h.size<=x:=λx i=>by
   rcases g x i with⟨a,e,rfl⟩|h2
   .cases e;exact bk _
   .simp at h2;omega
  exact hk P c' h' o1 (f1.step f2 (λc k ⟨a,e,e2⟩=>by cases e;simp at e2;omega)) G
theorem Ql{cs:Array Value}{K:cy->Nat->Nat->ai->Prop}(H:cs=(bc bs).toArray)(hk: ∀h',Row h' (Sa h.size 0) (bc bs)->Fr No h h'->K (Sa h.size 0) n n h'):
  aQ h (.cells cs 5) λb e=>aW Tryz.prog (convert 22 22 (.slice (Sa b 0) n n)) e λv f=> ∃(p:cy)(l c:Nat),v=.slice p l c/\K p l c f:=by
 subst H;refine cF (Oa uU u8 (a:=(AA h.size 0)) bV λd F g s o=>⟨_,_,_,rfl,?_⟩);refine hk d (.inr ⟨_,rfl,gT g (λj v i=>by rw[bL];simpa using i)⟩) ⟨by rw[s];simp,λc H _=>by rw[o c (by simp;omega),fu,dc]⟩

end kK
end
section
namespace Cb
variable {V:cD→Bool} {h h0 h':ai} {R E:fp} {p:cy} {r l c:Nat} {bs:cD} {pos left:Nat}
def ke(V:cD->Bool)(h0:ai):Prop:= ∀(g:ai)(p:cy)(c:Nat)(bs:cD)(R:fp),Fr No h0 g->Row g p (bc bs)->bs.length<=1000000->bs.length<=c->(∀G,Fr No g G->R (.bool (V bs)) G)->Cl 316 #[.slice p bs.length c] g R
theorem Ed {m n : Nat} {o : Bool} (U : ke V h0) (u : Fr No h0 h) (H : uW h r p c bs pos left) (hn : n < 18446744073709551616)
    (k1 : ∀ h' (v : BV), l6 V bs pos m n = .ok v.b → v.ok h' (λy => h.size ≤ y) → v.b.length = n → pos + n ≤ bs.length → uW h' r p c bs (pos + n) left → Fr (λy => y = r) h h' → R v.val h')
    (kE : ∀ h' e, l6 V bs pos m n = .error e → Fr No h h' → E (Oq e) h') : hM Tryz.prog 311 #[.pointer (some ⟨r, 0, none⟩), .agg #[.int .i64 (m : Int), .int .u64 (n : Int), .bool o]] h R E := by
  refine tQ.walk (bu.box λb h1 eb hb f1 => ?_)
  have H1 := H.on f1
  have zr := aD H.cT
  have zb := aD hb
  have hp := H.pos
  have hlen := H.len
  have UP := H.cap
  refine ⟨_, cH hb rfl, _, _, _, cH H1.cT rfl, _, cH H1.cT rfl, ?_⟩
  rw [bD (n := ((bs.length : Nat) : Int) - (pos : Int)) (by omega) (by omega), wrap_u64 (by omega) (by omega)]
  refine gP (λhq => ?_) (λhq => kE h1 8 (by have := of_decide_eq_false hq; unfold l6; rw [if_neg (by omega)]) f1)
  have hq : pos + n ≤ bs.length := by have := of_decide_eq_true hq; omega
  have eD : (bs.take (pos + n)).drop pos = (bs.drop pos).take n := by rw [List.take_drop]
  have e1 : IntKind.wrap .i64 ((pos : Int) + (IntKind.wrap .i64 (n : Int))) = ((pos + n : Nat) : Int) := by rw [bD (n := (n : Int)) (by omega) (by omega), bD (by omega) (by omega)]; omega
  refine ⟨rfl, cH H1.cT rfl, cH H1.cT rfl, cH hb rfl, _, _, _, cH H1.cT rfl, _, cH H1.cT rfl, _, cH H1.cT rfl, _, cH hb rfl, ⟨by rw [e1]; omega, by rw [e1]; omega⟩, ⟨by omega, by rw [e1]; omega⟩, ?_⟩
  rw [e1]
  have row : Row h1 (cO p c (Int.toNat (pos : Int)) 1) (bc ((bs.take (pos + n)).drop pos)) := by
    have := H1.row.sub (cap := c) (l := pos) (u := pos + n) (sz := 1) (by omega) (by omega)
    rw [Nat.mul_one, Nat.mul_one] at this
    rw [Int.toNat_natCast]
    unfold bc at this ⊢
    rw [List.map_drop, List.map_take]
    exact this
  have ln : ((bs.take (pos + n)).drop pos).length = n := by rw [List.length_drop, List.length_take]; omega
  refine kK.gF row (by rw [ln]; omega) (by rw [ln]; omega) λp' c' h3 o3 f3 g3 => ⟨_, _, _, rfl, cH (f3.get hb id) rfl, cH (H1.on f3).cT rfl, cH (H1.on f3).cT rfl, cH (H1.on f3).cT rfl, aG.of λJ hJ => ⟨_, cH (f3.get hb id) rfl, ?_⟩⟩
  have done : ∀ g, Fr No h3 g → (m ≠ 3 ∨ V ((bs.drop pos).take n) = true) → J g := by
    intro g fg hv
    subst hJ
    have Hg := (H1.on f3).on fg
    have UQ := (f3.tt fg).get hb id
    refine ⟨_, cH Hg.cT rfl, _, cH UQ rfl, bw Hg.cT (by show 1 < 3; omega) λh5 d1 d2 d3 => ?_⟩
    rw [e1] at d1
    obtain ⟨H5, f5⟩ := Hg.set (pos' := pos + n) hq H.left d1 d2 d3
    have ov := (o3.frame fg (λ_ _ => id)).frame f5 (λy hy e => by have := g3 y hy; have := f1.1; omega)
    refine k1 h5 ⟨p', c', (bs.take (pos + n)).drop pos⟩ (by unfold l6; rw [if_pos (by omega), if_pos hv]; exact congrArg _ eD.symm) (BV.kU ov (λy hy => by have := g3 y hy; have := f1.1; omega)) ln hq H5 (Fr.no (f1.tt (f3.tt fg)) f5)
  split
  · rename_i q
    exact gP (λ_ => ⟨rfl, rfl, done h3 (Fr.refl _ _) (.inl λe => by rw [e] at q; exact absurd q (by decide))⟩) (λe => absurd e (by decide))
  · rename_i q
    have m3 : m = 3 := by
      have : ¬ ((m : Int) ≠ 3) := λe => q (by simpa using e)
      omega
    refine U h3 p' c' _ _ (u.tt (f1.tt f3)) o3.iw (by rw [ln]; omega) o3.le λg fg => ⟨_, rfl, ?_⟩
    rw [eD]
    exact gP (λhv => ⟨rfl, rfl, done g fg (.inr hv)⟩) (λhv => kE g 3 (by unfold l6; rw [if_pos (by omega), if_neg (λe => e.elim (λe => e m3) (λe => by rw [hv] at e; cases e))]) (f1.tt (f3.tt fg)))

end Cb
end
end Go.Proofs.YtlenamcfacpheaaGreatDoor
