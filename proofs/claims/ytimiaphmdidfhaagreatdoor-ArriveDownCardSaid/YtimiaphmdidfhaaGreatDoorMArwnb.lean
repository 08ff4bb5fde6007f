/-
  FU is proved here: parts of x7 proof, one behind x7 other (texts of this work, merged by a program; IA x7 theorem IB not use is left out). No condition.
-/
import Derived.Test.YtimiaphmdidfhaaGreatDoorProg
import Derived.Shelf.Strings.Cut
import Derived.Shelf.Strconv.Itoa4
import Derived.Ground.NamesProg
import Derived.Shelf.Small.Wraps
import Derived.Test.YtimiaphmdidfhaaGreatDoorMArwna
set_option maxRecDepth 100000
set_option maxHeartbeats 4000000
namespace Go.Den
def bc(B:cM):List Value:=B.map λb=> .int .u8 (b.toNat:Int)
theorem jP(b:cM):(bc b).length=b.length:=by simp[bc]
theorem kP(b c:cM):bc (b++c)=bc b++bc c:=by simp[bc]
theorem QG(b:cM)(n:Nat):(bc b).take n=bc (b.take n):=by simp[bc,List.map_take]
theorem QH(b:cM)(n:Nat):(bc b).drop n=bc (b.drop n):=by simp[bc,List.map_drop]
theorem rJ(B:cM): ∀v∈bc B,gw v=true:=by
 intro v h;simp only[bc,bp]at h;obtain⟨b,_,rfl⟩:=h;rfl
def str(b:cM):ByteArray:=⟨b.toArray⟩
theorem ym(b:ByteArray): ∀(k i:Nat)(r:cM),b.size - i=k->i<=b.size->ByteArray.toList.loop b i r=r.reverse++b.data.toList.drop i
 |0,i,r,a,H=>by
  have:i=b.size:=ae
  unfold ByteArray.toList.loop;rw[dB];have:b.data.toList.length<=i:=by rw[ee];exact Nat.le_of_eq this.symm
  rw[dV this];simp
 |k+1,i,r,a,H=>by
  have h:i<b.size:=ae
  unfold ByteArray.toList.loop;rw[ag h,ym b k (i+1) _ ae ae];have c:i<b.data.toList.length:=by rw[ee];exact h
  rw[cX c];have:b.get! i=b.data.toList[i]:=by
   show b.data[i]! =_;rw[getElem!_pos b.data i h];simp
  rw[this];simp
theorem toList_data(b:ByteArray):b.toList=b.data.toList:=by
 unfold ByteArray.toList;rw[ym b _ 0 [] rfl (bL _)];simp
theorem pg(b:cM):(str b).toList=b:=by rw[toList_data];simp[str]
theorem N1(s:ByteArray):str s.data.toList=s:=by cases s;simp[str]
section
variable {P : Program}
theorem Gk(h:aj): ∀(B:cM)(s:ByteArray),rd P (forIn (bc B).toArray s λc s=>(do
   let .int .u8 n:=c|stuck "bytesToString: byte expected"
   pure (ForInStep.yield (s.push (UInt8.ofNat n.toNat))))) h=some ⟨s.data++B.toArray⟩:=by
 intro B;simp only[List.forIn_toArray];induction B with
 |nil=>intro s;simp only[bc,List.map_nil,List.forIn_nil];show some s=_;cases s;simp
 |cons b B i=>
  intro s;have e:bc (b::B)=.int .u8 (b.toNat:Int)::bc B:=rfl;rw[e,List.forIn_cons];rw[bF _ _ h (ForInStep.yield (s.push b)) (by show some (ForInStep.yield (s.push (UInt8.ofNat b.toNat)))=_;simp)];show rd P (forIn (bc B) (s.push b) _) h=_;rw[i];simp[ByteArray.push]
theorem Gl{S D e:TypeId}{h:aj}{p:ck}{c n:Nat}{B:cM}(k:P.underlying S=some (.slice e))(g:P.underlying e=some (.int .u8))(f:P.underlying D=some .string)(H:Row h p (bc B))(j:n=B.length):re P S D (.L p n c) h (str B):=by
 subst j;unfold re convert;rw[bF _ _ _ _ (bN k),bF _ _ _ _ (bN f)];show rd P (underlying e>>=_) h=_;rw[bF _ _ _ _ (bN g)];show rd P (Conv.bytesToString (.L p B.length c)) h=_;cases p with
 |none=>
  have:B= []:=by
   rcases H with H|⟨a,e,_⟩
   .cases B with
    |nil=>rfl
    |cons b B=>cases H
   .cases e
  subst this;rfl
 |some a=>
  have d:dP a (bc B) 0 h:=by
   rcases H with H|⟨A,e,d⟩
   .rw[H];trivial
   .cases e;exact d
  have i:rd P (loadCells a B.length) h=some (bc B).toArray:=by
   unfold loadCells;rw[<-jP,jk (bc B) 0 #[] h d];simp
  show rd P (loadCells a B.length>>=λC=>(forIn C ByteArray.empty λc s=>(do
   let .int .u8 n:=c|stuck "bytesToString: byte expected"
   pure (ForInStep.yield (s.push (UInt8.ofNat n.toNat)))))>>=λs=>pure (Value.string s)) h=_
  rw[bF _ _ _ _ i,bF _ _ _ _ (Gk h B ByteArray.empty)];show some (Value.string ⟨ByteArray.empty.data++B.toArray⟩)=_;have:(⟨ByteArray.empty.data++B.toArray⟩:ByteArray)=str B:=by
   unfold str;congr 1;show #[]++B.toArray=B.toArray;simp
  rw[this]
theorem QI{t e:TypeId}{h:aj}{a:Addr}{n c:Nat}{K:fD}(i:P.underlying t=some (.slice e))(j:P.underlying e=some (.int .u8)){C:Array Value}{b:TypeId}{f:Nat×Nat}(d:h[a.block]? =some (.C C b f))(k: ∀H F,H[a.block]? =some (.C C b F)->H.size=h.size->(∀x,x≠a.block->H[x]? =h[x]?)->K (.L (some a) n c) H):aW P (convert t t (.L (some a) n c)) h K:=by
 unfold convert;refine cb (s:=underlying t) (bN i) ?_;refine cb (s:=underlying t) (bN i) ?_;show aW P (underlying e>>=_) h K;refine cb (s:=underlying e) (bN j) ?_;have o:(t==t)=true:=bV
 rw[o];show aW P (markStringish a>>=λ_=>pure (.L (some a) n c)) h K;rw[dU];unfold markStringish shape;have m:pQ h a.block=some (b,C.size):=by simp[pQ,d]
 show aW P (match pQ h a.block with|some (_,n)=>freeze { block:=a.block,off:=n } 1|_=>pure ()) h _;rw[m];show K (.L (some a) n c) (pS h { block:=a.block,off:=C.size } 1);unfold pS;rw[dB];obtain⟨l,g⟩:=f;refine k _ (if l==g then(C.size,C.size+1)else(min l C.size,max g (C.size+1))) ?_ bV (λx p=> ?_)
 .simp[dE,d]
 .simp[dE,fJ p]
theorem pf.bytes{h:aj}{t e:TypeId}{p:ck}{len cap:Nat}(d:P.cellsOf e=1)(f:P.underlying e=some (.int .u8))(g:P.underlying t=some (.slice e))(i:pf P h t (.L p len cap)):
  ∃b:cM,b.length=len/\Row h p (bc b):=by
 obtain⟨X,H,a,c⟩:=pf.ints d f g i;refine⟨X.map λx=>UInt8.ofNat x.toNat,cI H,?_⟩;have:bc (X.map λx=>UInt8.ofNat x.toNat)=X.map (.int .u8 ·):=by
  unfold bc;rw[dJ];refine eH λx j=> ?_
  have:=wf_u8 (c x j);simp only[Function.comp,gJ,Value.int.injEq,true_and];omega
 rw[this];exact a
end
theorem qO.bytes{P:Program}{h:aj}{t e:TypeId}{n:Nat}{v:Value}(f:P.cellsOf e=1)(g:P.underlying e=some (.int .u8))(d:P.underlying t=some (.slice e))(b:qO P h n t [v]): ∃p c B,v=.slice p (B:cM).length c/\Row h p (bc B):=by
 have: ∃p l c,v=.L p l c:=by
  cases n with
  |zero=>exact b.elim
  |succ n=>
   unfold qO at b;rw[d]at b;rcases b with H|⟨a,l,c,H,_⟩
   .simp at H;exact⟨_,_,_,H⟩
   .simp at H;exact⟨_,_,_,H⟩
 obtain⟨p,l,c,rfl⟩:=this;obtain⟨B,i,j⟩:=pf.bytes f g d ⟨n,b⟩;subst i;exact⟨p,c,B,rfl,j⟩
theorem mn(n:Nat):IntKind.wrap .u8 (n:Int)=((n%256:Nat):Int):=by
 show(n:Int)%256=_;omega
theorem qe{n:Nat}(h:n<18446744073709551616):IntKind.wrap .u64 (n:Int)=(n:Int):=wrap_u64 ae ae
theorem TU(n:Nat):IntKind.wrap .u8 ((BitVec.ofInt (IntKind.bits .u8) (IntKind.wrap .u8 (n:Int))|||BitVec.ofInt (IntKind.bits .u8) 128).toNat:Int)=((UInt8.ofNat (n%128+128)).toNat:Int):=by
 have K: ∀m:Fin 256,(((BitVec.ofInt 8 (m.val:Int)|||BitVec.ofInt 8 128).toNat%256:Nat))=m.val%128+128:=dN
 rw[mn n,mn];have k:=K ⟨n%256,ae⟩;simp only at k;have e:IntKind.bits .u8=8:=rfl;rw[e,k];rw[gJ];omega
theorem SE(c:UInt8):(IntKind.wrap .u8 ((BitVec.ofInt (IntKind.bits .u8) (c.toNat:Int) &&& BitVec.ofInt (IntKind.bits .u8) 128).toNat:Int)==0)=decide (c.toNat<128):=by
 have k: ∀m:Fin 256,(((((BitVec.ofInt 8 (m.val:Int) &&& BitVec.ofInt 8 128).toNat%256:Nat):Int))==0)=decide (m.val<128):=dN
 rw[mn];exact k ⟨c.toNat,c.toNat_lt⟩
theorem SF(c:UInt8):IntKind.wrap .u8 ((BitVec.ofInt (IntKind.bits .u8) (c.toNat:Int) &&& BitVec.ofInt (IntKind.bits .u8) 127).toNat:Int)=((c.toNat%128:Nat):Int):=by
 have k: ∀m:Fin 256,((BitVec.ofInt 8 (m.val:Int) &&& BitVec.ofInt 8 127).toNat%256:Nat)=m.val%128:=dN
 rw[mn];exact bQ (λx:Nat=>(x:Int)) (k ⟨c.toNat,c.toNat_lt⟩)
theorem SG{n d i:Nat}(f:n<2 ^ i)(h:d*2 ^ i<18446744073709551616)(H:i<=64):
  IntKind.wrap .u64 ((BitVec.ofInt (IntKind.bits .u64) (n:Int)|||BitVec.ofInt (IntKind.bits .u64) (IntKind.wrap .u64 ((d:Int)*2 ^ min (Int.toNat (i:Int)) (IntKind.bits .u64)))).toNat:Int)=((n+d*2 ^ i:Nat):Int):=by
 have b:IntKind.bits .u64=64:=rfl;have k:(0:Nat)<2 ^ i:=Nat.two_pow_pos i;rw[aF,b,Nat.min_eq_left H];have E:((d:Int)*2 ^ i)=((d*2 ^ i:Nat):Int):=bV
 rw[E,qe h];have g:n<18446744073709551616:=by
  have:(2:Nat) ^ i<=2 ^ 64:=gv ae H;omega
 have e: ∀m:Nat,m<18446744073709551616->(BitVec.ofInt 64 (m:Int)).toNat=m:=λm j=>by
  rw[BitVec.toNat_ofInt];omega
 rw[BitVec.toNat_or,e n g,e _ h];have a:n|||d*2 ^ i=n+d*2 ^ i:=by
  rw[Nat.or_comm,Nat.mul_comm,<-Nat.two_pow_add_eq_or_of_lt f d];omega
 rw[a];refine qe ?_;have c:d<2 ^ (64 - i):=by
  have:(18446744073709551616:Nat)=2 ^ (64 - i)*2 ^ i:=by rw[<-Nat.pow_add,Nat.sub_add_cancel H]
  rw[this]at h;exact Nat.lt_of_mul_lt_mul_right h
 have:(d+1)*2 ^ i<=2 ^ (64 - i)*2 ^ i:=cZ _ c;rw[<-Nat.pow_add,Nat.sub_add_cancel H,eW]at this;omega
theorem U5{n:Nat}:Int.fdiv (n:Int) (2 ^ min (Int.toNat 7) (IntKind.bits .u64))=((n/128:Nat):Int):=by
 show Int.fdiv (n:Int) 128=_;rw[Int.fdiv_eq_ediv_of_nonneg _ ae];omega
end Go.Den
namespace Go.Den
structure Step (S:Nat->Prop) (h:aj) (S':Nat->Prop) (h':aj):Prop where
 fr:Fr S h h'
 new: ∀c,S' c->S c\/h.size<=c
theorem Step.refl(S:Nat->Prop)(h:aj):Step S h S h:=⟨Fr.refl _ _,λ_=> .inl⟩
theorem Step.trans{S s d:Nat->Prop}{h H e:aj}(a:Step S h s H)(b:Step s H d e):Step S h d e:=
 ⟨a.fr.trans b.fr bX (λc hc f=>(a.new c f).resolve_right ae),λc hc=>by
  rcases b.new c hc with hc|hc
  .exact a.new c hc
  .have:=a.fr.1;exact .inr ae⟩
theorem Step.apart{S s Q:Nat->Prop}{h a:aj}(f:Step S h s a)(d: ∀c,S c->¬Q c)(e: ∀c,Q c->c<h.size): ∀c,s c->¬Q c:=λc b H=>by
 rcases f.new c b with h1|h1
 .exact d c h1 H
 .have:=e c H;omega
theorem Fr.fresh{S:Nat->Prop}{h H a:aj}(f:Fr (λ_=>False) h H)(g:Fr S H a)(b: ∀c,S c->h.size<=c):Fr (λ_=>False) h a:=
 f.step g λc e d=>by have:=b c d;omega
theorem Lr{h:aj}{c:Array Value}{t:TypeId}{f:Nat×Nat}{i:Nat}{v:Value}:oW (h.push (.C c t f)) (AA h.size i) v=h.push (.C (c.setIfInBounds i v) t f):=by
 apply Array.ext
 .simp[oW]
 .intro j a b;have e: ∀(x:aj)(H:j<x.size),x[j]? =some x[j]:=λx H=>Array.getElem?_eq_getElem H
  have:(oW (h.push (.C c t f)) (AA h.size i) v)[j]? =(h.push (.C (c.setIfInBounds i v) t f))[j]? :=by
   by_cases q:j=h.size
   .subst q;rw[wT bZ,bZ]
   .rw[ur q];rw[fZ,fZ,af q,af q]
  rw[e _ a,e _ b]at this;exact aZ this
theorem yo{h:aj}{c:Array Value}{t:TypeId}{i:Nat}{v:Value}{K:aj->Prop}(H:i<c.size)(a:K (h.push (.C (c.setIfInBounds i v) t (0,0)))):aT (h.push (.C c t (0,0))) (AA h.size i) v K:=by
 refine⟨?_,mi bZ,?_⟩
 .rw[kO bZ];simp[H]
 .rintro _ rfl;rw[Lr];exact a
theorem cK{h:aj}{o:Obj}{K:Nat->aj->Prop}(H:K h.size (h.push o)):bh h o K:=by
 rintro b a rfl rfl;exact H
section
variable {P : Program}
theorem iS{S X A elem e t:TypeId}{s bytes:Nat}{z:Value}{h:aj}{p:ck}{len cap:Nat}{d:List Value}{x:Array Value}{K:fD}(T:oN P S elem s bytes z)(u:P.underlying X=some (.slice e))(y:fz h p len cap s d)(w:x.size=s)(r: ∀v∈x.toList,gw v=true)(l:(len+1)*bytes<=70368744177664)(m:len+1<=9223372036854775807)(q: ∀a C H,fz H a (len+1) C s (d++x.toList)->Fr (aN p) h H->(∀c,aN a c->aN p c\/h.size<=c)->K (.L a (len+1) C) H):
  bh h (.C x t) λb i=>aW P (Builtin.append_ #[S,X] A #[.L p len cap,.L (Sa b 0) 1 1]) i K:=by
 refine cK ?_;have f:Fr (λ_=>False) h (h.push (.C x t)):=Fr.push _ _;refine dH T u (y.frame f bX) (ds:=x.toList) (.inr ⟨_,rfl,hT bZ (λj v o=>by rw[bM];simpa using o)⟩) (by simp[w]) r l m ?_;intro a C H O _ F g;exact q a C H O (Fr.no f F) (λc n=>(g c n).imp id (λk=>by simp at k;omega))
end
end Go.Den
namespace Go.Den
structure Up (h0:aj) (S:Nat->Prop) (h:aj):Prop where
 fr:Fr (λ_=>False) h0 h
 ge: ∀c,S c->h0.size<=c
theorem Up.step{a h H:aj}{S s:Nat->Prop}(u:Up a S h)(b:Step S h s H):Up a s H:=
 ⟨u.fr.fresh b.fr u.ge,λc d=>by
  rcases b.new c d with h1|h1
  .exact u.ge c h1
  .have:=u.fr.1;omega⟩
theorem Up.Dm{a h H:aj}{S Q:Nat->Prop}(u:Up a S h)(f:Fr Q h H)(d: ∀c,Q c->S c):Up a S H:=⟨u.fr.fresh f (λc b=>u.ge c (d c b)),u.ge⟩
theorem iT{h:aj}{cs:List Value}{t:TypeId}:Row (h.push (.C cs.toArray t)) (Sa h.size 0) cs:=.inr ⟨_,rfl,hT bZ (λj v H=>by rw[bM];simpa using H)⟩
theorem eX(a:Addr):a.add 0=a:=by simp[Addr.add]
theorem nh(a:Addr)(n:Nat):(a.add n).block=a.block:=by unfold Addr.add;split<;>rfl
theorem iZ{h:aj}{p:ck}{C:List Value}(f:Row h p C)(b:C≠ []){x:Nat}(g:aN p x):x<h.size:=by
 obtain⟨a,rfl,rfl⟩:=g;rcases f with H|⟨A,e,H⟩
 .exact absurd H b
 .cases e;cases C with
  |nil=>exact absurd rfl b
  |cons c C=>
   obtain⟨_,_,_,d,_⟩:=Ap H.1;have:=aC d;rwa[nh]at this
theorem Row.sub{h:aj}{p:ck}{c:List Value}(e:Row h p c){cap l u sz:Nat}(f:l<=u)(g:u<=cap):Row h (cT p cap l sz) ((c.take (u*sz)).drop (l*sz)):=by
 by_cases b:cap=l
 .left;have:u=l:=ae
  subst this;rw[List.drop_eq_nil_iff,bw];exact Nat.min_le_left _ _
 .unfold cT;rw[af b];rcases e with rfl|⟨a,rfl,d⟩
  .left;simp
  .refine .inr ⟨a.add (l*sz),rfl,lu.2 λj v H=> ?_⟩;rw[add_add,bM];rw[fx,df]at H;split at H
   .have:=lu.1 d (l*sz+j) v H;rwa[bM]at this
   .cases H
structure Ft where
 M:Nat->Prop
 D:Nat->Prop
structure bA (F:Ft) (h:aj) (F':Ft) (h':aj):Prop where
 fr:Fr F.M h h'
 iz: ∀c,F'.M c->F.M c\/h.size<=c
 jx: ∀c,F'.D c->F.D c\/h.size<=c
 mQ: ∀c,F.D c->F'.D c
theorem bA.refl(F:Ft)(h:aj):bA F h F h:=⟨Fr.refl _ _,λ_=> .inl,λ_=> .inl,λ_=>id⟩
theorem bA.trans{F f d:Ft}{h H e:aj}(a:bA F h f H)(b:bA f H d e):bA F h d e:=by
 have z:=a.fr.1;refine⟨a.fr.trans b.fr bX (λc hc g=>(a.iz c g).resolve_right ae),λc hc=> ?_,λc hc=> ?_,λc hc=>b.mQ c (a.mQ c hc)⟩
 .rcases b.iz c hc with hc|hc
  .exact a.iz c hc
  .exact .inr ae
 .rcases b.jx c hc with hc|hc
  .exact a.jx c hc
  .exact .inr ae
theorem bA.vw{F:Ft}{h H:aj}(f:Fr F.M h H):bA F h F H:=⟨f,λ_=> .inl,λ_=> .inl,λ_=>id⟩
theorem bA.hH{F:Ft}{h H:aj}(f:Fr (λ_=>False) h H):bA F h F H:=.vw (f.mono λ_ _=>False.elim)
theorem bA.no{F a:Ft}{h H c:aj}(f:Fr (λ_=>False) h H)(b:bA F H a c):bA F h a c:=(bA.hH f).trans b
theorem bA.on{F b:Ft}{h H c:aj}(a:bA F h b H)(f:Fr (λ_=>False) H c):bA F h b c:=a.trans (bA.hH f)
theorem bA.apart{F f:Ft}{Q:Nat->Prop}{h b:aj}(s:bA F h f b)(a: ∀c,F.M c\/F.D c->¬Q c)(d: ∀c,Q c->c<h.size): ∀c,f.M c\/f.D c->¬Q c:=λc hc H=>by
 have:=d c H;rcases hc with hc|hc
 .rcases s.iz c hc with h1|h1
  .exact a c (.inl h1) H
  .omega
 .rcases s.jx c hc with h1|h1
  .exact a c (.inr h1) H
  .omega
structure KA (h0:aj) (F:Ft) (h:aj):Prop where
 fr:Fr (λ_=>False) h0 h
 ge: ∀c,F.M c\/F.D c->h0.size<=c
theorem KA.step{a h H:aj}{F f:Ft}(u:KA a F h)(s:bA F h f H):KA a f H:=by
 have z:=u.fr.1;refine⟨u.fr.fresh s.fr (λc hc=>u.ge c (.inl hc)),λc hc=> ?_⟩;rcases hc with hc|hc
 .rcases s.iz c hc with h1|h1
  .exact u.ge c (.inl h1)
  .omega
 .rcases s.jx c hc with h1|h1
  .exact u.ge c (.inr h1)
  .omega
theorem KA.on{a h H:aj}{F:Ft}(u:KA a F h)(f:Fr (λ_=>False) h H):KA a F H:=⟨u.fr.tt f,u.ge⟩
theorem rK{b:Nat}{t:TypeId}: ∀(V:List Value)(i:Nat)(h:aj)(c:Array Value)(K:aj->Prop),h[b]? =some (.C c t (0,0))->i+V.length<=c.size->V.all gw=true->
  (∀a C,a[b]? =some (.C C t (0,0))->C.size=c.size->(∀j,j<i\/i+V.length<=j->C[j]? =c[j]?)->(∀j v,V[j]? =some v->C[i+j]? =some v)->a.size=h.size->(∀x,x≠b->a[x]? =h[x]?)->K a)->
  dO (AA b 0) V i h K
 | [],i,h,c,K,d,_,_,e=>e h c d rfl (λ_ _=>rfl) (λj v H=>by simp at H) rfl (λ_ _=>rfl)
 |v::V,i,h,c,K,d,n,f,e=>by
  rw[List.all_cons,aU]at f;rw[bf]at n;unfold dO;rw[f.1];dsimp only;rw[hY,bM];refine bD d ae λl A s o=> ?_
  refine rK V (i+1) l _ K A (by rw[Array.size_setIfInBounds];omega) f.2 λm k B z q r S O=>e m k B (by rw[z,Array.size_setIfInBounds]) (λj H=> ?_) (λj u H=> ?_) ae (λx g=>by rw[O x g,o x g])
  .rw[bf]at H;rw[q j ae,cO,dB]
  .cases j with
   |zero=>
    simp only[eU,bH]at H;subst H;rw[Nat.add_zero,q i ae];rw[cO,ag rfl,gk]
   |succ j=>
    have:=r j u (cI H);rwa[show i+1+j=i+(j+1) by omega]at this
theorem fp{h:aj}{b:Nat}{c:Array Value}{t:TypeId}{v:List Value}{K:aj->Prop}(d:h[b]? =some (.C c t (0,0)))(i:v.length=c.size)(g:v.all gw=true)(f: ∀H,H[b]? =some (.C v.toArray t (0,0))->H.size=h.size->(∀x,x≠b->H[x]? =h[x]?)->K H):dO (AA b 0) v 0 h K:=by
 refine rK v 0 h c K d ae g λH C B z _ r s o=>f H ?_ s o
 have:C=v.toArray:=by
  apply Array.ext'
  apply fE
  intro j;by_cases a:j<v.length
  .have e:=ai a;have:=r j _ e;rw[bM]at this;rw[dL,this];exact e.symm
  .rw[cY (by rw[ee];omega),cY (cI a)]
 rw[<-this];exact B
theorem gB{h:aj}{c:Array Value}{t:TypeId}{vs:List Value}{K:Nat->aj->Prop}(f:vs.length=c.size)(i:vs.all gw=true)(d: ∀b H,b=h.size->H[b]? =some (.C vs.toArray t (0,0))->Fr (λ_=>False) h H->K b H):bh h (.C c t) λb a=>dO (AA b 0) vs 0 a (K b):=
 cK (fp bZ f i λH B s o=>d _ H rfl B ((Fr.push h _).fresh (S:=λy=>y=h.size) ⟨ae,λy _ g=>o y g⟩ (λy e=>Nat.le_of_eq e.symm)))
end Go.Den
namespace Go.Den
structure BV where
 p:ck
 c:Nat
 b:cM
abbrev BV.val(x:BV):Value:=.slice x.p x.b.length x.c
structure BV.ok (h:aj) (D:Nat->Prop) (x:BV):Prop where
 row:Row h x.p (bc x.b)
 own:x.b≠ []->∀c,aN x.p c->D c
 cap:x.b.length<=x.c
theorem BV.ok.frame{h b:aj}{D Q:Nat->Prop}{x:BV}(H:x.ok h D)(f:Fr Q h b)(g: ∀c,D c->¬Q c):x.ok b D:=by
 refine⟨?_,H.own,H.cap⟩;by_cases d:x.b= []
 .rw[d];exact .inl rfl
 .exact H.row.frame f (λa e=>g a.block (H.own d a.block ⟨a,e,rfl⟩))
theorem BV.ok.mono{h:aj}{D D':Nat->Prop}{x:BV}(H:x.ok h D)(b: ∀c,D c->D' c):x.ok h D':=⟨H.row,λa c d=>b c (H.own a c d),H.cap⟩
theorem BV.jy{h:aj}{D:Nat->Prop}{p:ck}{c:Nat}{b:cM}(o:fz h p b.length c 1 (bc b))(H: ∀x,aN p x->D x):BV.ok h D ⟨p,c,b⟩:=⟨o.iy,λ_=>H,o.le⟩
theorem iU(p:ck)(m s:Nat):cT p m 0 s=p:=by
 unfold cT;split
 .rfl
 .cases p with
  |none=>rfl
  |some a=>simp[Addr.add]
theorem fz.fP{h:aj}{a:Addr}{len cap s:Nat}{b:Type}{e:b->List Value}{X:List b}(o:fz h (.some a) len cap s (X.flatMap e))(H: ∀x,(e x).length=s){i:Nat}{x:b}(c:X[i]? =.some x):dP (a.add (i*s)) (e x) 0 h:=by
 refine lu.2 λj v d=> ?_
 rw[bM,add_add];exact o.cell (sI e s H X i x c j v d)
theorem Row.fP{h:aj}{a:Addr}{s:Nat}{b:Type}{e:b->List Value}{X:List b}(o:Row h (.some a) (X.flatMap e))(H: ∀x,(e x).length=s){i:Nat}{x:b}(c:X[i]? =.some x):dP (a.add (i*s)) (e x) 0 h:=by
 refine lu.2 λj v d=> ?_
 rw[bM,add_add];exact o.cell (sI e s H X i x c j v d)
theorem fz.addr{h:aj}{p:ck}{len cap s:Nat}{C:List Value}(O:fz h p len cap s C)(d:0<len): ∃b o,p=.some (AA b o):=by
 cases O with
 |nil _ a _ _=>omega
 |row b o c t H _ _ _ _ _=>exact⟨b,o,H⟩
theorem fz.pre{h:aj}{p:ck}{len cap s:Nat}{c:List Value}(o:fz h p len cap s c){i:Nat}(H:i<=len):fz h p i cap s (c.take (i*s)):=by
 have:=o.sub (l:=0) (u:=i) (bL _) H;rwa[iU,Nat.zero_mul,hN]at this
theorem ni{a:Type}(e:a->List Value)(s:Nat)(h: ∀x,(e x).length=s): ∀(X:List a)(i:Nat),(X.flatMap e).take (i*s)=(X.take i).flatMap e
 | [],i=>bV
 |x::X,0=>bV
 |x::X,i+1=>by
  rw[fG,gz,fG,List.take_append,h,bn (by rw[h,eW];omega),show(i+1)*s - s=i*s by rw[eW];omega,ni e s h X i]
theorem nj{a:Type}(e:a->List Value)(s:Nat)(h: ∀x,(e x).length=s): ∀(X:List a)(i:Nat),(X.flatMap e).drop (i*s)=(X.drop i).flatMap e
 | [],i=>bV
 |x::X,0=>bV
 |x::X,i+1=>by
  rw[fG,List.drop_succ_cons,List.drop_append,h,dV (by rw[h,eW];omega),cH,show(i+1)*s - s=i*s by rw[eW];omega,nj e s h X i]
theorem Gm{f:Type}(E:f->List Value)(s:Nat)(h: ∀x,(E x).length=s): ∀(X:List f)(i:Nat)(y:f),i<X.length->∀(c:List Value),c.length=(X.flatMap E).length->(∀j,j/s≠i\/s=0->c[j]? =(X.flatMap E)[j]?)->(∀j v,j<s->(E y)[j]? =some v->c[i*s+j]? =some v)->c=(X.set i y).flatMap E:=by
 intro X i y u c A n t;apply fE
 intro j;by_cases q:s=0
 .rw[n j (.inr q)];have m: ∀z:List f,z.flatMap E= []:=λz=>by
   have:=eO E s h z;rw[q,Nat.mul_zero]at this;exact List.eq_nil_of_length_eq_zero this
  rw[m,m]
 have l:0<s:=ae
 by_cases g:j/s=i
 .have k:j=i*s+j%s:=by rw[<-g,Nat.mul_comm];exact(Nat.div_add_mod j s).symm
  have d:=Nat.mod_lt j l;have H:(E y)[j%s]? =some ((E y)[j%s]'(by rw[h];exact d)):=ai _;have a:=t _ _ d H;have b:=sI E s h (X.set i y) i y (by simp[u]) _ _ H;rw[<-k]at a b;rw[a,b]
 .rw[n j (.inl g)];by_cases p:j/s<X.length
  .have k:j=(j/s)*s+j%s:=by rw[Nat.mul_comm];exact(Nat.div_add_mod j s).symm
   have d:=Nat.mod_lt j l;have r:X[j/s]? =some (X[j/s]):=ai p;have w:(X.set i y)[j/s]? =some (X[j/s]):=by rw[dp,af (λe=>g e.symm)];exact r
   have H:(E X[j/s])[j%s]? =some ((E X[j/s])[j%s]'(by rw[h];exact d)):=ai _;have a:=sI E s h X _ _ r _ _ H;have b:=sI E s h (X.set i y) _ _ w _ _ H;rw[<-k]at a b;rw[a,b]
  .have o:X.length*s<=j:=by
    have:=(Nat.le_div_iff_mul_le l).1 (Nat.le_of_not_lt p);exact this
   rw[cY (by rw[eO E s h];exact o),cY (by rw[eO E s h,dt];exact o)]
section
variable {P : Program}
theorem Dn{S elem ty:TypeId}{s bytes:Nat}{z:Value}{h:aj}{p:ck}{len cap i:Nat}{C:List Value}{K:fD}(T:oN P S elem s bytes z)(M: ∀v∈z.cells.toList,gw v=true)(O:fz h p len cap s C)(d:i<=len)(m: ∀H,fz H p i cap s (C.take (i*s))->Fr (aN p) h H->K (.T #[]) H):aW P (Builtin.clear_ #[S] ty #[.L (cT p cap i s) (len - i) (cap - i)]) h K:=by
 have f:K (.T #[]) h:=m h (O.pre d) (Fr.refl _ _);obtain⟨i',F,h',_,X⟩:=T.i;unfold Builtin.clear_;show aW P (underlying S>>=_) h K;refine cb (s:=underlying S) (bN T.u) ?_;cases O with
 |nil g q B l=>
  subst g;have:cT none cap i s=none:=by unfold cT;split<;>rfl
  rw[this];exact f
 |row b o c t g x q B I l=>
  subst g;by_cases E:len - i=0
  .rw[E];cases hq:cT (Sa b o) cap i s with
   |none=>exact f
   |some c'=>exact f
  .obtain⟨n,r⟩: ∃n,len - i=n+1:=⟨len - i - 1,ae⟩;have D:cap≠i:=ae
   have A:cT (Sa b o) cap i s=some ⟨b,o+i*s,none⟩:=by
    unfold cT;rw[af D];show some (((AA b o):Addr).add (i*s))=_;rw[hY]
   rw[A,r];show aW P (zeroValue elem>>=λz=>storeCells ⟨b,o+i*s,none⟩ (Builtin.zeroCells z.cells (n+1)).toList>>=λ_=>pure (Value.tuple #[])) h K;refine cb (s:=zeroValue elem) (jw F X) ?_;rw[dU];have a':=T.zs;have Z:(Builtin.zeroCells z.cells (n+1)).toList.length=(n+1)*s:=by simp[Builtin.zeroCells,a']
   have d':o+i*s+(n+1)*s<=o+cap*s:=by
    rw[<-r,Nat.sub_mul];have m1:i*s<=len*s:=cZ _ d;have m2:len*s<=cap*s:=cZ _ q;omega
   refine uv (c:=c) (off:=o+i*s) _ 0 h b t _ ?_ x (by rw[Z];omega) ?_
   .intro v u;simp only[Builtin.zeroCells,Array.toList_map,bp]at u;obtain⟨k,G,rfl⟩:=u;have R:0<z.cells.size:=by
     rcases Nat.eq_zero_or_pos z.cells.size with e|e
     .simp[e]at G
     .exact e
    have J:=Nat.mod_lt k R;rw[getElem!_pos z.cells _ J];exact M _ bV
   .intro H w y g' L f' U Q;refine m H (.row b o w t rfl y ae ae ?_ ?_) (Fr.of_eq U λb' V=>Q b' (λe=>V ⟨_,rfl,e.symm⟩))
    .rw[bw,I];have m1:i*s<=len*s:=cZ _ d;omega
    .intro j v a;rw[df]at a;split at a
     .rename_i e';rw[L (o+j) ae];exact l j v a
     .cases a
theorem wV{S X D elem k t:TypeId}{s bytes:Nat}{z:Value}{h:aj}{q:ck}{n cq:Nat}{d:List Value}{K:fD}(T:oN P S elem s bytes z)(f:P.underlying X=some (.slice k))(B:Row h q d)(u:d.length=n*s)(A: ∀v∈d,gw v=true)(r:n*bytes<=70368744177664)(G:n<=9223372036854775807)(y: ∀p C H,fz H p n C s d->Fr (λ_=>False) h H->(∀c,aN p c->h.size<=c)->K (.L p n C) H):
  bh h (.C #[] t) λb m=>aW P (Builtin.append_ #[S,X] D #[.L (Sa b 0) 0 0,.L q n cq]) m K:=by
 refine cK ?_;have F:Fr (λ_=>False) h (h.push (.C #[] t)):=Fr.push _ _;refine dH (cs:= []) T f (.row h.size 0 #[] t rfl bZ (bm _) bV bV (λj v w=>by cases w)) (B.frame F bX) u A (cI r) ae ?_;intro p i H o _ l g;rw[bM,cH]at o;rw[bM];refine y p i H o (F.step l (λc I ⟨a,e,E⟩=>by cases e;simp at E;omega)) (λx f=> ?_);rcases g x f with⟨a,e,rfl⟩|h2
 .cases e;exact bm _
 .simp at h2;omega
end
theorem Ls{a:Type}{e:a->List Value}(b: ∀x,(e x).length=2){X:List a}{i:Nat}{y:a}{V c:Value}(d:i<X.length)(f:e y= [V,c]):((X.flatMap e).set (i*2) V).set (i*2+1) c=(X.set i y).flatMap e:=by
 have g:=eO e 2 b X;refine Gm e 2 b X i y d _ bV (λj H=> ?_) (λj v H h=> ?_)
 .have H:j/2≠i:=ae
  rw[dp,dp,dB,dB]
 .rw[f]at h
  match j,H with
  |0,_=>
   simp only[eU,bH]at h;rw[dp,dB,dp,gk,gk,h]
  |1,_=>
   simp only[dG,eU,bH]at h;rw[dp,ag rfl,ag (by rw[dt];omega),h]
end Go.Den
set_option linter.unusedSectionVars false
namespace Go.Den
section
variable {P : Program} {α : Type} [DecidableEq α]
structure Dp (P:Program) (kt:TypeId) (enc:α->Value):Prop where
 eq: ∀(a b:α) (h:aj),rd P (Op.equal kt (enc a) (enc b)) h=some (decide (a=b))
 TV: ∀(e:Bool) (a:α) (h:aj),rd P (Instr.checkKey e 10000 kt (enc a)) h=some ()
 now: ∃d,P.underlying kt=some d/\∀a b,Instr.sameNow d (enc a) (enc b)=none\/Instr.sameNow d (enc a) (enc b)=some (decide (a=b))
 bits: ∀a,Instr.sameBits 10000 (enc a) (enc a)=true
abbrev qD(e:α->Value)(t:α×Value×Nat):MapEntry:=⟨e t.1,t.2.1,t.2.2⟩
abbrev pr(t:α×Value×Nat):α×Value:=(t.1,t.2.1)
structure TW (h:aj) (m:Nat) (enc:α->Value) (T:List (α×Value×Nat)) (clock:Nat):Prop where
 cW:h[m]? =some (.map (T.map (qD enc)).toArray clock)
 keys:(T.map (·.1)).Nodup
 Lt: ∀t∈T,t.2.2<clock
 born:(T.map (·.2.2)).Nodup
def jV(h:aj)(m:Nat)(e:α->Value)(l:List (α×Value)):Prop:= ∃T c,TW h m e T c/\(T.map pr).Perm l
def wW(l:List (α×Value))(k:α):List (α×Value):=l.filter (λe=> !decide (e.1=k))
def Gp(l:List (α×Value))(k:α)(v:Value):List (α×Value):=(k,v)::wW l k
theorem jV.perm{h:aj}{m:Nat}{e:α->Value}{l L:List (α×Value)}(H:jV h m e l)(p:l.Perm L):jV h m e L:=by
 obtain⟨T,c,a,b⟩:=H;exact⟨T,c,a,b.trans p⟩
theorem jV.nE{h h':aj}{m:Nat}{E:α->Value}{l:List (α×Value)}(H:jV h m E l)(g:h'[m]? =h[m]?):jV h' m E l:=by
 obtain⟨T,c,⟨a,b,d,e⟩,f⟩:=H;exact⟨T,c,⟨g.trans a,b,d,e⟩,f⟩
theorem jV.lt{h:aj}{m:Nat}{e:α->Value}{l:List (α×Value)}(H:jV h m e l):m<h.size:=by
 obtain⟨T,c,a,_⟩:=H;exact aC a.cW
theorem jV.frame{S:Nat->Prop}{h a:aj}{m:Nat}{e:α->Value}{l:List (α×Value)}(H:jV h m e l)(b:Fr S h a)(c: ¬S m):jV a m e l:=H.nE (b.2 m H.lt c)
theorem jV.push(h:aj)(e:α->Value):jV (h.push (.map #[] 0)) h.size e []:=⟨[],0,⟨bZ,bV,bV,bV⟩,.refl _⟩
theorem jV.nodup{h:aj}{m:Nat}{e:α->Value}{l:List (α×Value)}(H:jV h m e l):(l.map (·.1)).Nodup:=by
 obtain⟨T,c,b,d⟩:=H;have a:=d.map (·.1);rw[dJ]at a;exact a.nodup_iff.1 b.keys
def nG(k:α):List (α×Value×Nat)->Nat->Option (Nat×Value)
 | [],_=>none
 |t::T,i=>if k=t.1 then some (i,t.2.1)else nG k T (i+1)
theorem qg{k:α}: ∀{T:List (α×Value×Nat)}{i:Nat},nG k T i=none->∀t∈T,t.1≠k
 | [],_,_,_,ht=>by cases ht
 |u::T,i,h,t,ht=>by
  unfold nG at h;split at h
  .cases h
  .rename_i H;rcases bK.1 ht with rfl|ht
   .exact λe=>H e.symm
   .exact qg h t ht
theorem qh{k:α}: ∀{T:List (α×Value×Nat)}{i j:Nat}{v:Value},nG k T i=some (j,v)->∃A B b,T=A++(k,v,b)::B/\j=i+A.length
 | [],_,_,_,h=>by cases h
 |u::T,i,j,v,h=>by
  unfold nG at h;split at h
  .rename_i H;simp only[bH,gT]at h;obtain⟨rfl,rfl⟩:=h;subst H;exact⟨[],T,u.2.2,rfl,rfl⟩
  .obtain⟨A,B,b,rfl,rfl⟩:=qh h;exact⟨u::A,B,b,rfl,by rw[bf];omega⟩
theorem yq{kt:TypeId}{E:α->Value}{d:TypeDesc}(H: ∀a b,Instr.sameNow d (E a) (E b)=none\/Instr.sameNow d (E a) (E b)=some (decide (a=b)))(k:α):
  ∀(T:List (α×Value×Nat))(i:Nat),Instr.findNow d (E k) (T.map (qD E)) i=none\/Instr.findNow d (E k) (T.map (qD E)) i=some (nG k T i)
 | [],i=> .inr rfl
 |t::T,i=>by
  rw[cu];unfold Instr.findNow nG;rcases H k t.1 with e|e<;>rw[e]
  .exact .inl rfl
  .by_cases h:k=t.1
   .rw[aw h,ag h];exact .inr rfl
   .rw[aB h,af h];exact yq (kt:=kt) H k T (i+1)
theorem Dq{a:TypeId}{e:α->Value}(K:Dp P a e)(k:α)(h:aj): ∀(T:List (α×Value×Nat))(i:Nat),rd P (Instr.findAsking a (e k) (T.map (qD e)) i) h=some (nG k T i)
 | [],i=>rfl
 |t::T,i=>by
  rw[cu];unfold Instr.findAsking nG;rw[bF _ _ _ _ (K.eq k t.1 h)];by_cases H:k=t.1
  .rw[aw H,ag H,ag rfl];rfl
  .rw[aB H,af H,af bV];exact Dq K k h T (i+1)
theorem Ex{a:TypeId}{E:α->Value}(K:Dp P a E)(k:α)(h:aj)(T:List (α×Value×Nat)):rd P (Instr.findKey a (E k) (T.map (qD E))) h=some (nG k T 0):=by
 obtain⟨d,H,b⟩:=K.now;unfold Instr.findKey;rw[bF _ _ _ _ (bN H)];rcases yq (kt:=a) b k T 0 with e|e<;>rw[e]
 .exact Dq K k h T 0
 .rfl
structure ph (P:Program) (t:TypeId) (enc:α->Value) (z:Value):Prop where
 ty: ∃k e,P.underlying t=some (.map k e)/\Dp P k enc/\∃i,P.info? e=some i/\i.zero=some z
theorem ph.of{t:TypeId}{E:α->Value}{z:Value}(k e:TypeId)(a:P.underlying t=some (.map k e))(b:Dp P k E)(h:(P.info? e).bind (·.zero)=some z):ph P t E z:=by
 cases H:P.info? e with
 |none=>rw[H]at h;cases h
 |some i=>exact⟨k,e,a,b,i,H,by rw[H]at h;exact h⟩
def sW(l:List (α×Value))(k:α):Option Value:=(l.find? (λe=>decide (e.1=k))).map (·.2)
theorem Dr{l:List (α×Value)}{k:α}:sW l k=none↔ ∀e∈l,e.1≠k:=by
 unfold sW;rw[Option.map_eq_none_iff,List.find?_eq_none];simp
theorem Ds{l:List (α×Value)}{k:α}{v:Value}(H:(l.map (·.1)).Nodup):sW l k=some v↔(k,v)∈l:=by
 induction l with
 |nil=>simp[sW]
 |cons e l i=>
  rw[cu,fL]at H;unfold sW at i⊢;rw[List.find?_cons];by_cases h:e.1=k
  .rw[aw h];simp only[du,bH,bK];constructor
   .rintro rfl;exact .inl (by rw[<-h])
   .rintro(rfl|hm)
    .rfl
    .exact absurd (bz (f:=(·.1)) hm) (by rw[<-h];exact H.1)
  .rw[aB h];rw[i H.2,bK];constructor
   .exact .inr
   .rintro(rfl|hm)
    .exact absurd rfl h
    .exact hm
theorem jV.find{h:aj}{m:Nat}{E:α->Value}{l:List (α×Value)}(H:jV h m E l){T:List (α×Value×Nat)}(a:(T.map pr).Perm l)(k:α):(nG k T 0).map (·.2)=sW l k:=by
 have c:=H.nodup;cases e:nG k T 0 with
 |none=>
  symm
  rw[Option.map_none,Dr];intro x f;obtain⟨t,d,rfl⟩:=bp.1 (a.mem_iff.2 f);exact qg e t d
 |some J=>
  obtain⟨j,v⟩:=J;obtain⟨A,B,b,rfl,_⟩:=qh e;symm
  rw[du,Ds c];exact a.mem_iff.1 bV
theorem RZ{t:TypeId}{E:α->Value}{z:Value}(K:ph P t E z){h:aj}{m:Nat}{l:List (α×Value)}(H:jV h m E l)(k:α)(o:Bool):
  rd P (Instr.lookup t (.map (some m)) (E k) o) h=some (if o then .T #[(sW l k).getD z,.B (sW l k).isSome]else(sW l k).getD z):=by
 obtain⟨p,e,g,a,i,d,j⟩:=K.ty;have b:=H;obtain⟨T,c,H,f⟩:=H;rw[<-b.find f k];unfold Instr.lookup;rw[bF _ _ _ _ (bN g)];simp only;rw[bF _ _ _ _ (jM H.cW)];simp only;rw[bF _ _ _ _ (jT _),bF _ _ _ _ (a.TV _ k h),bF _ _ _ _ (Ex a k h T)];cases n:nG k T 0 with
 |none=>
  simp only;rw[bF _ _ _ _ (jw d j)];cases o<;>rfl
 |some J=>cases o<;>rfl
theorem KB{t:TypeId}{e:α->Value}{z:Value}(K:ph P t e z){h:aj}{m:Nat}{l:List (α×Value)}(H:jV h m e l)(k:α):iJ P t (.map (some m)) (e k) false h ((sW l k).getD z):=λa b=>by
 have:=RZ K (H.nE (h':=a) b) k false;simpa using this
theorem Lu{t:TypeId}{e:α->Value}{z:Value}(K:ph P t e z){h:aj}{m:Nat}{l:List (α×Value)}(H:jV h m e l)(k:α):iJ P t (.map (some m)) (e k) true h (.T #[(sW l k).getD z,.B (sW l k).isSome]):=λa b=>by
 have:=RZ K (H.nE (h':=a) b) k true;simpa using this
theorem IP{t j:TypeId}{E:α->Value}{z:Value}(K:ph P t E z){h:aj}{m:Nat}{l:List (α×Value)}(H:jV h m E l):QA P #[t] j (.map (some m)) h (.I (l.length:Int)):=λa g=>by
 obtain⟨k,e,i,_⟩:=K.ty;obtain⟨T,c,H,f⟩:=H;have b:a[m]? =some (.map (T.map (qD E)).toArray c):=Eq.trans g H.cW;have d:T.length=l.length:=by rw[<-f.length_eq,ay]
 unfold Builtin.len_;show rd P (underlying t>>=_) a=_;rw[bF _ _ _ _ (bN i)];show rd P (getObj m>>=_) a=_;rw[bF _ _ _ _ (jM b)];show some (goInt _)=_;simp[d,goInt]
theorem IS{b:Type}(A B:List b)(t:b)(f:b->b):(A++t::B).modify A.length f=A++f t::B:=by
 induction A with
 |nil=>rfl
 |cons a A i=>simp only[eJ,bf,List.modify_succ_cons,i]
theorem Lv{b:Type}(A B:List b)(t:b):(A++t::B).eraseIdx A.length=A++B:=by
 induction A with
 |nil=>rfl
 |cons a A i=>simp only[eJ,bf,List.eraseIdx_cons_succ,i]
theorem Dt{l L:List (α×Value)}(p:l.Perm L)(k:α):(wW l k).Perm (wW L k):=p.filter _
theorem Gq{A B:List (α×Value×Nat)}{k:α}{v:Value}{b:Nat}(c:((A++(k,v,b)::B).map (·.1)).Nodup):wW ((A++(k,v,b)::B).map pr) k=(A++B).map pr:=by
 rw[aV,cu,ft]at c;obtain⟨_,a,d⟩:=c;rw[fL]at a;unfold wW;rw[aV,cu,gi,cC,af bV,aV];congr 1
 .rw[cD];intro e h;obtain⟨t,H,rfl⟩:=bp.1 h;have:=d t.1 (bz H) k bV;simp[this]
 .rw[cD];intro e h;obtain⟨t,H,rfl⟩:=bp.1 h;have:t.1≠k:=λe=>a.1 (bp.2 ⟨t,H,e⟩)
  simp[this]
theorem sJ{l:List (α×Value)}{k:α}(H: ∀e∈l,e.1≠k):wW l k=l:=by
 unfold wW;rw[cD];intro e h;simp[H e h]
theorem Av{t:TypeId}{E:α->Value}{z:Value}(K:ph P t E z){h:aj}{m:Nat}{l:List (α×Value)}(H:jV h m E l){k:α}{v:Value}{Q:Unit->aj->Prop}(M: ∀i,jV i m E (Gp l k v)->i.size=h.size->(∀c,c≠m->i[c]? =h[c]?)->Q () i):aW P (Instr.mapUpdate t (.map (some m)) (E k) v) h Q:=by
 obtain⟨V,e,ht,q,_⟩:=K.ty;obtain⟨T,c,H,r⟩:=H;have O:=aC H.cW;unfold Instr.mapUpdate;refine cb (bN ht) ?_;simp only;refine cb (jM H.cW) ?_;simp only;refine cb (q.TV _ k h) ?_;have F: ∀(d:List (α×Value×Nat))(n:Array MapEntry)(C:Nat),n.toList=d.map (qD E)->(d.map (·.1)).Nodup->(∀t∈d,t.2.2<C)->(d.map (·.2.2)).Nodup->(d.map pr).Perm (Gp l k v)->aW P (setObj m (.map n C)) h Q:=λd n C D G I J L=>by
  refine⟨⟨_,H.cW,λc e f p=>by cases p⟩,?_⟩;refine M _ ⟨d,C,⟨?_,G,I,J⟩,L⟩ bV (λx S=> ?_)
  .rw[<-D];simp[O]
  .rw[cO,af (fJ S)]
 refine cb (Ex q k h T) ?_;cases s:nG k T 0 with
 |none=>
  simp only;have y:=qg s;refine F (T++ [(k,v,c)]) _ _ bV ?_ ?_ ?_ ?_
  .rw[aV,ft];refine⟨H.keys,bV,λa o b g=> ?_⟩;obtain⟨t,ht,rfl⟩:=bp.1 o;simp at g;subst g;exact y t ht
  .intro t ht;rcases bE.1 ht with ht|ht
   .exact Nat.lt_succ_of_lt (H.Lt t ht)
   .obtain rfl:=bP.1 ht;exact Nat.lt_succ_self _
  .rw[aV,ft];refine⟨H.born,bV,λa o b g=> ?_⟩;obtain⟨t,ht,rfl⟩:=bp.1 o;simp at g;subst g;exact Nat.ne_of_lt (H.Lt t ht)
  .unfold Gp;rw[sJ (λe p=>by obtain⟨t,ht,rfl⟩:=bp.1 (r.mem_iff.2 p);exact y t ht),aV];exact(List.perm_append_comm.trans (.refl _)).trans (List.Perm.cons _ r)
 |some U=>
  obtain⟨j,u⟩:=U;obtain⟨A,B,b,rfl,w⟩:=qh s;rw[bM]at w;subst w;simp only;have R:rd P (Instr.keyThatStays (((((A++(k,u,b)::B).map (qD E)).toArray[A.length]?).map (·.key)).getD (E k)) (E k)) h=some (E k):=by
   have:((A++(k,u,b)::B).map (qD E)).toArray[A.length]? =some (qD E (k,u,b)):=bV
   rw[this];simp only[du,Option.getD_some];unfold Instr.keyThatStays;rw[ag (q.bits k)];rfl
  refine cb R ?_;refine F (A++(k,v,b)::B) _ _ ?_ ?_ ?_ ?_ ?_
  .rw[Array.toList_modify,aV,cu];have:=IS (A.map (qD E)) (B.map (qD E)) (qD E (k,u,b)) (λe=> { e with key:=E k,val:=v });rw[ay]at this;rw[this,aV,cu]
  .have:=H.keys;simpa using this
  .intro t ht;rcases bE.1 ht with ht|ht
   .exact H.Lt t (eV _ ht)
   .rcases bK.1 ht with rfl|ht
    .exact H.Lt (k,u,b) bV
    .exact H.Lt t (by simp[ht])
  .have:=H.born;simpa using this
  .unfold Gp;refine List.Perm.trans ?_ (List.Perm.cons _ ((Gq H.keys▸Dt r k)));rw[aV,cu,aV];exact List.perm_middle
theorem Gr{t V X:TypeId}{E:α->Value}{z:Value}(K:ph P t E z){h:aj}{m:Nat}{l:List (α×Value)}(H:jV h m E l){k:α}{Q:fD}(M: ∀n,jV n m E (wW l k)->n.size=h.size->(∀c,c≠m->n[c]? =h[c]?)->Q (.T #[]) n):aW P (Builtin.delete_ #[t,V] X #[.map (some m),E k]) h Q:=by
 obtain⟨y,e,d,w,_⟩:=K.ty;obtain⟨T,c,H,q⟩:=H;have O:=aC H.cW;unfold Builtin.delete_;refine cb (bN d) ?_;show aW P (do
   let __x<-getObj m
   match __x with
    |Obj.map g C=>do
     Instr.checkKey g.isEmpty 10000 y (E k)
     let __do_lift<-Instr.findKey y (E k) g.toList
     match __do_lift with
      |some (i,_)=>do
       setObj m (Obj.map (g.eraseIdxIfInBounds i) C)
       pure (Value.tuple #[])
      |none=>do
       setObj m (Obj.map g C)
       pure (Value.tuple #[])
    |_=>do
     stuck "delete: map expected"
     pure (Value.tuple #[])) h Q
 refine cb (jM H.cW) ?_;simp only;refine cb (w.TV _ k h) ?_;have F: ∀(a:List (α×Value×Nat))(o:Array MapEntry),o.toList=a.map (qD E)->(a.map (·.1)).Nodup->(∀t∈a,t.2.2<c)->(a.map (·.2.2)).Nodup->(a.map pr).Perm (wW l k)->aW P (do setObj m (.map o c);pure (Value.tuple #[])) h Q:=λa o D G I J L=>by
  rw[dU];refine⟨⟨_,H.cW,λc e f p=>by cases p⟩,?_⟩;refine M _ ⟨a,c,⟨?_,G,I,J⟩,L⟩ bV (λx S=> ?_)
  .rw[<-D];simp[O]
  .rw[cO,af (fJ S)]
 refine cb (Ex w k h T) ?_;cases s:nG k T 0 with
 |none=>
  have R:=qg s;refine F T _ rfl H.keys H.Lt H.born ?_;rw[sJ (λe p=>by obtain⟨t,d,rfl⟩:=bp.1 (q.mem_iff.2 p);exact R t d)];exact q
 |some U=>
  obtain⟨j,u⟩:=U;obtain⟨A,B,b,rfl,v⟩:=qh s;rw[bM]at v;subst v;have r:List.Sublist (A++B) (A++(k,u,b)::B):=List.Sublist.append (List.Sublist.refl _) (List.sublist_cons_self _ _);refine F (A++B) _ ?_ ((r.map _).nodup H.keys) (λt d=>H.Lt t (r.subset d)) ((r.map _).nodup H.born) (Gq H.keys▸Dt q k);rw[Array.toList_eraseIdxIfInBounds,aV,cu];have:=Lv (A.map (qD E)) (B.map (qD E)) (qD E (k,u,b));rw[ay]at this;rw[this,aV]
def Iter(h:aj)(r m:Nat)(e:α->Value)(l done:List (α×Value)):Prop:=
 ∃T c D L,TW h m e T c/\(T.map pr).Perm l/\h[r]? =some (.mapIter (some m) c (D.map (·.2.2)).toArray L)/\(D≠ []->L=c)/\D.Nodup/\(∀t∈D,t∈T)/\D.map pr=done/\r≠m
theorem Iter.frame{S:Nat->Prop}{h a:aj}{r m:Nat}{e:α->Value}{l done:List (α×Value)}(H:Iter h r m e l done)(f:Fr S h a)(b: ¬S r)(d: ¬S m):Iter a r m e l done:=by
 obtain⟨T,c,D,L,A,B,C,E⟩:=H;exact⟨T,c,D,L,⟨f.get A.cW d,A.keys,A.Lt,A.born⟩,B,f.get C b,E⟩
theorem Iter.le{h:aj}{r m:Nat}{e:α->Value}{l done:List (α×Value)}(H:Iter h r m e l done):done.length<=l.length:=by
 obtain⟨T,c,D,L,A,B,_,_,a,b,rfl,_⟩:=H;rw[ay,<-B.length_eq,ay];exact a.length_le_of_subset (λt d=>b t d)
theorem Aw{t:TypeId}{E:α->Value}{z:Value}(K:ph P t E z){h:aj}{m:Nat}{l:List (α×Value)}(H:jV h m E l){Q:fD}(d: ∀r a,r=h.size->Iter a r m E l []->Fr (λ_=>False) h a->Q (.P r 0) a):aW P (Instr.range t (.map (some m))) h Q:=by
 obtain⟨k,e,b,i,_⟩:=K.ty;obtain⟨T,c,H,g⟩:=H;unfold Instr.range;refine cb (bN b) ?_;simp only;show aW P (getObj m>>=_) h Q;refine cb (jM H.cW) ?_
 .have f:Fr (λ_=>False) h (h.push (.mapIter (some m) c #[] c)):=Fr.push _ _;exact d h.size _ rfl ⟨T,c, [],c,⟨f.get H.cW id,H.keys,H.Lt,H.born⟩,g,bZ,(λe=>absurd rfl e),.nil,(λt b=>by cases b),rfl,λe=>bR (aC H.cW)⟩ f
theorem Ax{b:Type}{n:Nat}{g:Nat->Sem b}{h:aj}{Q:b->aj->Prop}(a:0<n)(H: ∀i,i<n->aW P (g i) h Q):aW P (choose (.mapNext n)>>=g) h Q:=by
 show(if(Question.mapNext n).forced=true then aW P (g 0) h Q else∀t,aW P (g ((Question.mapNext n).cut t)) h Q);split
 .exact H 0 a
 .intro t;exact H _ (Nat.mod_lt _ a)
theorem Du{ty:TypeId}{E:α->Value}{h:aj}{r m:Nat}{l done:List (α×Value)}(I:Iter h r m E l done){Q:fD}(k1:done.Perm l->Q (.T #[.B false]) h)(k2: ∀a v n,(a,v)∈l->(a,v)∉done->Iter n r m E l (done++ [(a,v)])->n.size=h.size->(∀c,c≠r->n[c]? =h[c]?)->Q (.T #[.B true,E a,v]) n):
  aW P (Instr.next (.P r 0) false ty) h Q:=by
 classical
 obtain⟨T,c,D,L,M,z,A,a',F,k,rfl,G⟩:=I;have c':=aC A;have R:T.Nodup:=by
  have:=M.keys;exact List.Pairwise.of_map (S:=(· ≠ ·)) (·.1) (λa b U e=>U (by rw[e])) this
 unfold Instr.next;simp only;have h':rd P (getObj r) h=some (.mapIter (some m) c (D.map (·.2.2)).toArray L):=by unfold getObj;simp only[rd,A]
 refine cb h' ?_;simp only;refine cb (jM M.cW) ?_;simp only;have hq:(!(D.map (·.2.2)).toArray.isEmpty && !(T.map (qD E)).toArray.isEmpty && (T.map (qD E)).toArray.all (λe=>decide (e.born≥L)))=false:=by
  cases B:D with
  |nil=>rfl
  |cons d D'=>
   have hl:=a' (by rw[B];simp);have C:d∈T:=k d (by rw[B];simp);have:(T.map (qD E)).toArray.all (λe=>decide (e.born≥L))=false:=by
    rw[List.all_toArray,List.all_eq_false];exact⟨qD E d,bz C,by simp;have:=M.Lt d C;omega⟩
   rw[this];simp
 rw[af (by rw[hq];simp)];have b':(T.map (qD E)).toArray.filter (λe=> !(D.map (·.2.2)).toArray.contains e.born)=((T.filter (λt=> !decide (t∈D))).map (qD E)).toArray:=by
  apply Array.ext'
  rw[Array.toList_filter];simp only[];rw[dQ];congr 1
  apply eM
  intro t f;have:(D.map (·.2.2)).toArray.contains (qD E t).born=decide (t∈D):=by
   by_cases p:t∈D
   .rw[aw p];simp;exact⟨t.1,t.2.1,p⟩
   .rw[aB p];simp only[List.contains_toArray,List.contains_eq_mem,fv,bp,not_exists,not_and];intro u hu e;have Z:u=t:=by
     have o:=M.born;have i':=k u hu;obtain⟨i,H⟩:=bO i';obtain⟨j,g⟩:=bO f;have y:=(aE.1 H).1;have:=(eE (l:=T.map (·.2.2)) (i:=i) (j:=j) (cI y) o).1 (by rw[aD,aD,H,g];simp[e]);subst this;rw[H]at g;exact aZ g
    exact p (Z▸hu)
  simp only[Function.comp,this]
 have g':(((T.filter (λt=> !decide (t∈D))).map (qD E)).toArray.filter (λe=>decide (e.born<c)))=((T.filter (λt=> !decide (t∈D))).map (qD E)).toArray:=by
  rw[Array.filter_eq_self];intro e w;obtain⟨t,f,rfl⟩:=bp.1 (List.mem_toArray.1 w);exact aw (M.Lt t (bj.1 f).1)
 have f':(((T.filter (λt=> !decide (t∈D))).map (qD E)).toArray.filter (λe=>decide (e.born≥c)))= #[]:=by
  rw[Array.filter_eq_empty_iff];intro e w;obtain⟨t,f,rfl⟩:=bp.1 (List.mem_toArray.1 w);have:=M.Lt t (bj.1 f).1;simp;omega
 rw[b',g',f'];simp only[Array.append_empty];cases s:T.filter (λt=> !decide (t∈D))with
 |nil=>
  refine Ax bV λi H=> ?_
  have:i=0:=by simpa using H
  subst this;have K:((if((([]:List (α×Value×Nat)).map (qD E)).toArray.isEmpty=true)then #[none]else #[])++Array.map some (([]:List (α×Value×Nat)).map (qD E)).toArray)[0]? =some none:=bV
  rw[K];show aW P (pure (.T #[.B false])) h Q;refine k1 ?_;refine List.Perm.trans (List.Perm.map _ ?_) z;rw[List.perm_ext_iff_of_nodup F R];intro t;refine⟨k t,λf=> ?_⟩;have:=List.filter_eq_nil_iff.1 s t f;simpa using this
 |cons k' j'=>
  refine Ax bV λi H=> ?_
  rw[<-s]at H⊢;have e':(((T.filter (λt=> !decide (t∈D))).map (qD E)).toArray.isEmpty)=false:=by rw[s];rfl
  rw[e']at H⊢;simp only[aq,aL,Array.empty_append]at H⊢;have X:i<(T.filter (λt=> !decide (t∈D))).length:=by simpa using H
  obtain⟨t,f⟩: ∃t,(T.filter (λt=> !decide (t∈D)))[i]? =some t:=⟨_,ai X⟩;have V:(Array.map some ((T.filter (λt=> !decide (t∈D))).map (qD E)).toArray)[i]? =some (some (qD E t)):=by simp[f]
  rw[V];have q:=bj.1 (aK f);have J:t∉D:=by simpa using q.2
  refine⟨⟨_,A,λ_ _ _ e=>by cases e⟩,?_⟩;refine k2 t.1 t.2.1 _ (z.mem_iff.1 (bz (f:=pr) q.1)) ?_ ⟨T,c,D++ [t],c,⟨?_,M.keys,M.Lt,M.born⟩,z,?_,(λ_=>rfl),?_,?_,?_,G⟩ bV (λx hx=> ?_)
  .intro d';obtain⟨u,hu,e⟩:=bp.1 d';have O:u.1=t.1:=bQ (λx:α×Value=>x.1) e;have:u=t:=by
    obtain⟨i,H⟩:=bO (k u hu);obtain⟨j,g⟩:=bO q.1;have y:=(aE.1 H).1;have:=(eE (l:=T.map (·.1)) (i:=i) (j:=j) (cI y) M.keys).1 (by rw[aD,aD,H,g];simp[O]);subst this;rw[H]at g;exact aZ g
   exact J (this▸hu)
  .rw[cO,af G];exact M.cW
  .simp[c']
  .rw[ft];exact⟨F,bV,λa S b o=>by simp at o;subst o;exact λe=>J (e▸S)⟩
  .intro u hu;rcases bE.1 hu with hu|hu
   .exact k u hu
   .obtain rfl:=bP.1 hu;exact q.1
  .rw[aV];rfl
  .rw[cO,af (fJ hx)]
end
end Go.Den
namespace Go.Den
section
variable {P : Program} {a : Type}
theorem find_born(E:a->Value){t:a×Value×Nat}: ∀{T:List (a×Value×Nat)},(T.map (·.2.2)).Nodup->t∈T->T.find? ((λe:MapEntry=>e.born==t.2.2) ∘ qD E)=some t
 | [],_,h=>by cases h
 |u::T,b,h=>by
  rw[cu,fL]at b;rw[List.find?_cons];by_cases H:u.2.2=t.2.2
  .have:((λe:MapEntry=>e.born==t.2.2) ∘ qD E) u=true:=by simp[H]
   rw[this];rcases bK.1 h with e|e
   .rw[e]
   .exact absurd (bp.2 ⟨t,e,H.symm⟩) b.1
  .have:((λe:MapEntry=>e.born==t.2.2) ∘ qD E) u=false:=by simp[H]
   rw[this];rcases bK.1 h with e|e
   .exact absurd (by rw[e]) H
   .exact find_born E b.2 e
theorem Ay{t:TypeId}{s:ByteArray}{h:aj}{Q:fD}(c:P.underlying t=some .string)(b: ∀r H,r=h.size->H[r]? =some (.stringIter s 0)->Fr (λ_=>False) h H->Q (.P r 0) H):
  aW P (Instr.range t (.S s)) h Q:=by
 unfold Instr.range;refine cb (bN c) ?_;exact b h.size _ rfl bZ (Fr.push _ _)
theorem Lw{t:TypeId}{s:ByteArray}{h:aj}{r pos:Nat}{Q:fD}(d:h[r]? =some (.stringIter s pos))(k:s.size<=pos->Q (.T #[.B false]) h)(K:pos<s.size->∀H,H[r]? =some (.stringIter s (pos+(Utf8.decode s pos).2))->H.size=h.size->(∀c,c≠r->H[c]? =h[c]?)->Q (.T #[.B true,.I (pos:Int),.int .i32 ((Utf8.decode s pos).1:Int)]) H):
  aW P (Instr.next (.P r 0) true t) h Q:=by
 have g:=aC d;unfold Instr.next;simp only;have i:rd P (getObj r) h=some (.stringIter s pos):=by unfold getObj;simp only[rd,d]
 refine cb i ?_;simp only;by_cases b:pos<s.size
 .rw[ag b];refine⟨⟨_,d,λ_ _ _ e=>by cases e⟩,?_⟩;exact K b _ (by simp[g]) bV (λc f=>by rw[cO,af (fJ f)])
 .rw[af b];exact k ae
theorem Az{E:a->Value}{h:aj}{r m:Nat}{l done:List (a×Value)}{A:a}{v:Value}(I:Iter h r m E l (done++ [(A,v)])){Q:fD}(k:Q (.T #[E A,v]) h):
  aW P (Instr.entry (.P r 0)) h Q:=by
 obtain⟨T,c,D,L,M,z,p,o,w,s,H,y⟩:=I;rcases List.eq_nil_or_concat D with rfl|⟨d,t,rfl⟩
 .simp at H
 rw[List.concat_eq_append]at*;rw[aV]at H;obtain⟨_,b⟩:=List.append_inj' H rfl;have b:pr t=(A,v):=by simpa using b
 have f:t.1=A:=bQ (λx:a×Value=>x.1) b;have g:t.2.1=v:=bQ (λx:a×Value=>x.2) b;have u:t∈T:=s t bV;have n:=o bV;unfold Instr.entry;simp only;have q:rd P (getObj r) h=some (.mapIter (some m) c ((d++ [t]).map (·.2.2)).toArray L):=by unfold getObj;simp only[rd,p]
 refine cb q ?_;simp only;have i:((d++ [t]).map (·.2.2)).toArray.back? =some t.2.2:=bV
 rw[i];simp only;refine cb (jM M.cW) ?_;simp only;rw[n,af bV];have j:(T.map (qD E)).toArray.find? (λe=>e.born==t.2.2)=some (qD E t):=by
  rw[List.find?_toArray,List.find?_map];have:T.find? ((λe:MapEntry=>e.born==t.2.2) ∘ qD E)=some t:=find_born E M.born u;rw[this];rfl
 rw[j];show Q (.T #[E t.1,t.2.1]) h;rw[f,g];exact k
end
end Go.Den
namespace Go.Den
section
variable {P : Program}
def Ey(P:Program)(e:TypeId->Value->Value->Option Bool)(x y:Array Value)(t:TypeId)(o:Nat)(a:Option Bool):Option Bool:=
 match kW P (part t x o),kW P (part t y o)with
 |some u,some v=>(match e t u v,a with|some b,some c=>some (b && c)|_,_=>none)
 |_,_=>none
def TX(P:Program):Nat->TypeId->Value->Value->Option Bool
 |0,_,_,_=>none
 |n+1,t,x,y=>
  match P.underlying t with
  |some .bool=>(match x,y with| .bool a,.bool b=>some (a==b)|_,_=>none)
  |some (.int _)=>(match x,y with| .int k a,.int K b=>(match decide (k=K)with|true=>some (a==b)|false=>none)|_,_=>none)
  |some .string=>(match x,y with| .string a,.string b=>some (a==b)|_,_=>none)
  |some (.struct fs)=>(match x,y with
   | .agg X,.agg c=>(match P.stoodInHeld t with
    |true=>none
    |false=>fs.toList.foldr (λf A=>match decide (f.name= "_")with|true=>A|false=>Ey P (TX P n) X c f.type f.offset A) (some true))
   |_,_=>none)
  |some (.array len e)=>(match x,y,P.info? e with
   | .agg X,.agg c,some i=>(List.range len).foldr (λk A=>Ey P (TX P n) X c e (k*i.size) A) (some true)
   |_,_,_=>none)
  |_=>none
theorem sK{i:Type}{h:aj}{step:i->Option Bool->Option Bool}{B:i->Option Bool×Unit->Sem (ForInStep (Option Bool×Unit))}: ∀(l:List i)(b:Bool),l.foldr step (some true)=some b->
  (∀f a b,step f a=some b->(a=some b/\rd P (B f (none,())) h=some (.yield (none,())))\/∃q c,a=some c/\b=(q && c)/\rd P (B f (none,())) h=some (if q=true then .yield (none,())else .done (some false,())))->
  rd P (forIn l (none,()) B) h=some (if b=true then(none,())else(some false,()))
 | [],b,H,_=>by
  cases aZ H;rfl
 |f::l,b,H,g=>by
  rw[List.foldr_cons]at H;rw[List.forIn_cons];rcases g f _ b H with⟨d,e⟩|⟨q,c,d,rfl,e⟩
  .rw[bF _ _ _ _ e];exact sK l b d g
  .rw[bF _ _ _ _ e];cases q with
   |true=>rw[eI];exact sK l c d g
   |false=>rfl
theorem Dv{e:TypeId->Value->Value->Option Bool}{n:Nat}(f: ∀t x y b,e t x y=some b->∀h,rd P (Op.equalIn n t x y) h=some b){X d:Array Value}{t:TypeId}{o:Nat}{a:Option Bool}{b:Bool}{h:aj}(H:Ey P e X d t o a=some b):
  ∃q c u v,a=some c/\b=(q && c)/\rd P (part t X o) h=some u/\rd P (part t d o) h=some v/\rd P (Op.equalIn n t u v) h=some q:=by
 unfold Ey at H;split at H
 .rename_i u v i j;split at H
  .rename_i q c g;exact⟨q,c,u,v,rfl,(aZ H).symm,ud _ _ i h,ud _ _ j h,f _ _ _ _ g h⟩
  .cases H
 .cases H
theorem IT : ∀(n : Nat)(t : TypeId)(x y : Value)(b : Bool), TX P n t x y = some b -> ∀ h, rd P (Op.equalIn n t x y) h = some b
  | 0, _, _, _, _, H => by cases H
  | n + 1, t, x, y, b, H => by
    intro h
    unfold TX at H
    unfold Op.equalIn
    split at H
    · rename_i g
      rw [bF _ _ _ _ (bN g)]
      split at H
      · rw [<- H]; rfl
      · cases H
    · rename_i d g
      rw [bF _ _ _ _ (bN g)]
      split at H
      · rename_i k a K c
        split at H
        · rename_i B
          simp only [aS B, ba]
          rw [<- H]; rfl
        · cases H
      · cases H
    · rename_i g
      rw [bF _ _ _ _ (bN g)]
      split at H
      · rw [<- H]; rfl
      · cases H
    · rename_i fs g
      rw [bF _ _ _ _ (bN g)]
      split at H
      · rename_i X E
        split at H
        · cases H
        · rename_i D
          dsimp only
          rw [bF _ _ _ _ (show rd P program h = some P from rfl), D]
          simp only [aq, aL]
          rw [<- Array.forIn_toList, bF _ _ _ _ (sK (h := h) fs.toList b H ?_)]
          · cases b <;> rfl
          · intro f A b j
            split at j
            · rename_i w
              refine .inl ⟨j, ?_⟩
              rw [af (cI w)]
              rfl
            · rename_i w
              obtain ⟨q, c, u, v, l, m, o, p, r⟩ := Dv (h := h) (λt x y b s h => IT n t x y b s h) j
              refine .inr ⟨q, c, l, m, ?_⟩
              rw [ag (cI w), bF _ _ _ _ o, bF _ _ _ _ p, bF _ _ _ _ r]
              cases q <;> rfl
      · cases H
    · rename_i len e g
      rw [bF _ _ _ _ (bN g)]
      split at H
      · rename_i X E i z
        dsimp only
        rw [bF _ _ _ _ (iG z), Std.Legacy.Range.forIn_eq_forIn_range']
        have C : List.range' ([:len] : Std.Legacy.Range).start ([:len] : Std.Legacy.Range).size ([:len] : Std.Legacy.Range).step = List.range len := by
          simp [Std.Legacy.Range.size, gu]
        rw [C, bF _ _ _ _ (sK (h := h) (List.range len) b H ?_)]
        · cases b <;> rfl
        · intro k A b j
          obtain ⟨q, c, u, v, l, m, o, p, r⟩ := Dv (h := h) (λt x y b s h => IT n t x y b s h) j
          refine .inr ⟨q, c, l, m, ?_⟩
          rw [bF _ _ _ _ o, bF _ _ _ _ p, bF _ _ _ _ r]
          cases q <;> rfl
      · cases H
    · cases H
theorem zJ.of{t:TypeId}{x y:Value}{b:Bool}(H:TX P 10000 t x y=some b):zJ P t x y b:=λh=>IT 10000 t x y b H h
end
section
variable {b off:Nat}
theorem vx : ∀(V:List Value)(i:Nat)(h:aj)(K:aj->Prop),dO (AA b 0) V (off+i) h K->dO (AA b off) V i h K
 | [],_,_,_,H=>H
 |v::V,i,h,K,H=>by
  unfold dO at H⊢;cases c:gw v with
  |false=>rw[c]at H;exact H
  |true=>
   rw[c]at H;dsimp only at H⊢;rw[hY,bM]at H;rw[hY];obtain⟨d,f,g⟩:=H;exact⟨d,f,λa e=>vx V (i+1) a K (g a e)⟩
theorem lV{h:aj}{c:Array Value}{t:TypeId}{v ws:List Value}{K:aj->Prop}(e:h[b]? =some (.C c t (0,0)))(m:off+v.length<=c.size)(i:v.all gw=true)(f:c.toList.take off++v++c.toList.drop (off+v.length)=ws)(g: ∀H,H[b]? =some (.C ws.toArray t (0,0))->H.size=h.size->(∀x,x≠b->H[x]? =h[x]?)->K H):dO (AA b off) v 0 h K:=by
 refine vx v 0 h K (rK v (off+0) h c K e ae i λH C B z q r s o=>g H ?_ s o);have:C=ws.toArray:=by
  subst f;apply Array.ext'
  apply fE
  intro j;have n:c.toList.length=c.size:=ee;rw[dL];show C[j]? =(c.toList.take off++v++c.toList.drop (off+v.length))[j]?;by_cases d:j<off
  .rw[di,dh (by rw[bw];omega),df,ag d,dL];exact q j ae
  .by_cases k:j<off+v.length
   .have l:(c.toList.take off).length=off:=by rw[bw];omega
    rw[di,cV ae,l,dh ae];have a:j - off<v.length:=ae
    have:=r (j - off) v[j - off] (ai a);rw[show off+0+(j - off)=j by omega]at this;rw[this,ai a]
   .have l:(c.toList.take off++v).length=off+v.length:=by rw[au,bw];omega
    rw[cV ae,l,fx,dL,show off+v.length+(j - (off+v.length))=j by omega];exact q j ae
 rw[<-this];exact B

end
section
variable {P : Program}
theorem N4{t elem:TypeId}{bytes:Nat}{z b:Value}{h:aj}{K:fD}(T:oN P t elem 1 bytes z)(D:z.cells= #[b])(n:Nat)(G:n*bytes<=70368744177664)(I:n<=9223372036854775807)(w: ∀H p,fz H p n n 1 (List.replicate n b)->Fr (λ_=>False) h H->(∀c,aN p c->h.size<=c)->K (.L p n n) H):
  aW P (Instr.makeSlice t (.I (n:Int)) (.I (n:Int))) h K:=by
 obtain⟨i,f,B,rfl,q⟩:=T.i;unfold Instr.makeSlice;refine cb (s:=underlying t) (bN T.u) ?_;refine cb (s:=asInt (.I (n:Int))) (a:=(n:Int)) rfl ?_;refine cb (s:=asInt (.I (n:Int))) (a:=(n:Int)) rfl ?_;refine cb (s:=typeInfo elem) (iF f) ?_;simp only[];rw[bC (n:=(n:Int)) ae ae];have y:(i.bytes:Int)*(n:Int)=((n*i.bytes:Nat):Int):=by rw[Nat.mul_comm];simp
 have x:(decide ((n:Int)<0)||decide ((i.bytes:Int)*(n:Int)>2 ^ 48))=false:=by
  rw[y];have r: ¬(n:Int)<0:=ae
  have s: ¬((n*i.bytes:Nat):Int)>2 ^ 48:=ae
  rw[aB r,aB s];rfl
 have u:(((decide ((n:Int)<0)||decide ((i.bytes:Int)*(n:Int)>2 ^ 48))||decide ((n:Int)<0))||decide ((n:Int)>(n:Int)))=false:=by
  rw[x];simp
 rw[af (by rw[u];simp)];have A: ∀(m:Nat)(k:Unit->aj->Prop),k () h->aW P (askRoom m) h k:=λm k o=>by
  unfold askRoom;split
  .exact o
  .exact o
 rw[dU];refine A _ _ ?_;refine cb (s:=sizeOf elem) (iG f) ?_;rw[aF,B,cp];have F: ∀Z:Array Value,(n=0\/Z= #[b])->aW P (newRow elem ((Array.range n).map (Z[· %Z.size]!))>>=λa=>pure (.L (some a) n n)) h K:=by
  intro Z E;show K (.L (Sa h.size 0) n n) (h.push (.C ((Array.range n).map (Z[· %Z.size]!)) elem));refine w _ _ (.row h.size 0 _ elem rfl bZ (bm _) bV bV ?_) (Fr.push _ _) ?_
  .intro j v g;have l:j<n:=by have:=(aE.1 g).1;simpa using this
   have C:v=b:=by
    rw[List.getElem?_replicate,ag l]at g;exact(aZ g).symm
   subst C;rcases E with q|rfl
   .omega
   .rw[bM];simp[l,Nat.mod_one]
  .rintro c ⟨a,e,rfl⟩;cases e;exact bm _
 by_cases d:n=0
 .rw[ag d];exact F #[] (.inl d)
 .rw[af d];refine cb (s:=zeroValue elem) (jw f q) ?_;refine cb (s:=(pure z.cells:Sem (Array Value))) (a:=z.cells) rfl ?_;rw[D];exact F #[b] (.inr rfl)
end
end Go.Den
namespace Go.fV
def vy:Nat->Nat->cM
 |0,n=> [UInt8.ofNat n]
 |f+1,n=>if n>127 then UInt8.ofNat (n%128+128)::vy f (n/128)else [UInt8.ofNat n]
def ct(n:Nat):cM:=vy 9 n
theorem Dw: ∀(f n:Nat),n<128 ^ (f+1)->vy (f+1) n=vy f n
 |0,n,h=>by
  unfold vy;rw[dB]
 |f+1,n,h=>by
  rw[show vy (f+1+1) n=if n>127 then UInt8.ofNat (n%128+128)::vy (f+1) (n/128)else [UInt8.ofNat n]from rfl,
   show vy (f+1) n=if n>127 then UInt8.ofNat (n%128+128)::vy f (n/128)else [UInt8.ofNat n]from rfl]
  split
  .rw[Dw f (n/128) (by rw[Nat.pow_succ]at h;omega)]
  .rfl
theorem yr{n:Nat}(h:n<18446744073709551616):ct n=if n>127 then UInt8.ofNat (n%128+128)::ct (n/128)else [UInt8.ofNat n]:=by
 unfold ct;rw[vy];split
 .rw[<-Dw 8 (n/128) ae]
 .rfl
theorem Gs: ∀(f n:Nat),1<=(vy f n).length/\(vy f n).length<=f+1
 |0,n=>by simp[vy]
 |f+1,n=>by
  have:=Gs f (n/128);rw[vy];split
  .simp only[bf];omega
  .simp
theorem bU(n:Nat):1<=(ct n).length/\(ct n).length<=10:=Gs 9 n
def yt:Nat->Nat->Nat
 |0,_=>1
 |f+1,n=>if n>127 then yt f (n/128)+1 else 1
def Nz:Nat->Nat->cM->Nat×Int×cM
 |_,_, []=>(0,8, [])
 |i,n,c::b=>
  if i=10\/(i=9/\c.toNat>1)\/(c.toNat=0/\i>0)then(0,3,b)
  else if c.toNat<128 then(n+c.toNat%128*2 ^ (7*i),0,b)
  else Nz (i+1) (n+c.toNat%128*2 ^ (7*i)) b
def fH(e:Int)(b:cM):Nat×Int×cM:=if e=0 then Nz 0 0 b else(0,e,b)
theorem N7: ∀(b:cM)(i n:Nat),i<=10->n<2 ^ (7*i)->n<18446744073709551616->(Nz i n b).1<18446744073709551616
 | [],_,_,_,_,_=>by simp[Nz]
 |c::b,i,n,e,f,g=>by
  rw[Nz];split
  .simp
  .rename_i j;have d:c.toNat%128<128:=Nat.mod_lt _ ae;have h:n+c.toNat%128*2 ^ (7*i)<18446744073709551616/\n+c.toNat%128*2 ^ (7*i)<2 ^ (7*(i+1)):=by
    have k:(2:Nat) ^ (7*(i+1))=128*2 ^ (7*i):=by rw[Nat.mul_add,Nat.pow_add,Nat.mul_comm]
    have H:(c.toNat%128+1)*2 ^ (7*i)<=128*2 ^ (7*i):=cZ _ ae;rw[eW]at H;refine⟨?_,ae⟩;by_cases a:i=9
    .subst a;have:c.toNat<=1:=ae
     have:c.toNat%128<=1:=ae
     omega
    .have:(2:Nat) ^ (7*(i+1))<=2 ^ 63:=gv ae ae;omega
   split
   .exact h.1
   .exact N7 b (i+1) _ ae h.2 h.1
theorem IU(e:Int)(b:cM):(fH e b).1<18446744073709551616:=by
 unfold fH;split
 .exact N7 b 0 0 ae bV ae
 .simp
theorem Ez: ∀(b:cM)(i n:Nat),(Nz i n b).2.2.length<=b.length
 | [],_,_=>by simp[Nz]
 |c::b,i,n=>by
  rw[Nz];split
  .simp
  .split
   .simp
   .have:=Ez b (i+1) (n+c.toNat%128*2 ^ (7*i));simp only[bf];omega
def gC(n:Int):Nat:=n.toNat
def bit(b:Bool):Nat:=if b=true then 1 else 0
def dW(t:cM):cM:=ct t.length++t
def N8(e E:Int):Int:=if e=0 then E else e
def jX(t:Nat)(e:Int)(b:cM):Nat×Int×cM:=
 if(fH e b).1>t then(0,N8 (fH e b).2.1 3,(fH e b).2.2)else fH e b
theorem Gt(t:Nat)(e:Int)(b:cM):(jX t e b).1<=t:=by
 unfold jX;split
 .exact bL _
 .rename_i h;exact Nat.le_of_not_lt h
def me(e:Int)(b:cM):Nat×Int×cM:=jX 1099511627776 e b
def mq(e:Int)(b:cM):cM×Int×cM:=
 if(fH e b).2.1=0 then
  (if(fH e b).1>(fH e b).2.2.length then([],8,(fH e b).2.2)
  else((fH e b).2.2.take (fH e b).1,0,(fH e b).2.2.drop (fH e b).1))
 else([],(fH e b).2.1,(fH e b).2.2)
def zN(e:Int)(b:cM):Int:=if e=0 then(if b= []then 0 else 2)else e
theorem rL(e:Int)(b:cM):(fH e b).2.2.length<=b.length:=by
 unfold fH;split
 .exact Ez b 0 0
 .exact bm _
theorem qi(t:Nat)(e:Int)(b:cM):(jX t e b).2.2.length<=b.length:=by
 unfold jX;split<;>exact rL e b

end Go.fV
namespace Go.kA
section
variable {n i j:Nat} {g:Int->Option Value} {k:Int}
abbrev E:=Int×Int
variable {x y z:E} {f:Nat->E} {es l L:List E}
def lt(x y:E):Prop:=x.2<y.2\/(x.2=y.2/\x.1<y.1)
def le(x y:E):Prop:= ¬lt y x
theorem lt_irrefl(x:E): ¬lt x x:=by unfold lt;omega
theorem lt_trans(h:lt x y)(H:lt y z):lt x z:=by unfold lt at*;omega
theorem le_refl(x:E):le x x:=lt_irrefl x
theorem le_trans(h:le x y)(H:le y z):le x z:=by unfold le lt at*;omega
theorem le_of_lt(h:lt x y):le x y:=by unfold le lt at*;omega
theorem lt_of_le_ne(h:le x y)(H:x.1≠y.1):lt x y:=by unfold le lt at*;omega
instance (x y : E) : Decidable (lt x y) := inferInstanceAs (Decidable (_ ∨ _))
def rM(f:Nat->E)(n:Nat):Prop:= ∀j,0<j->j<n->le (f ((j - 1)/2)) (f j)
def uw(f:Nat->E)(n i:Nat):Prop:=
 (∀j,0<j->j<n->j≠i->(j - 1)/2≠i->le (f ((j - 1)/2)) (f j))/\(0<i->∀j,0<j->j<n->(j - 1)/2=i->le (f ((i - 1)/2)) (f j))
def ux(f:Nat->E)(n i:Nat):Prop:=
 (∀j,0<j->j<n->(j - 1)/2≠i->le (f ((j - 1)/2)) (f j))/\(0<i->∀j,0<j->j<n->(j - 1)/2=i->le (f ((i - 1)/2)) (f j))
def AB(f:Nat->E)(n i:Nat):Prop:= ∀j,0<j->j<n->(j - 1)/2=i->le (f i) (f j)
def pj(f:Nat->E)(i j:Nat):Nat->E:=λk=>if k=i then f j else if k=j then f i else f k
theorem QJ(h:uw f n i)(d:i=0\/le (f ((i - 1)/2)) (f i)):ux f n i:=by
 refine⟨λj a b c=> ?_,h.2⟩;by_cases H:j=i
 .subst H;rcases d with h0|h0
  .omega
  .exact h0
 .exact h.1 j a b H c
theorem qj(h:ux f n i)(c:AB f n i):rM f n:=by
 intro j a b;by_cases H:(j - 1)/2=i
 .have:=c j a b H;rw[H];exact this
 .exact h.1 j a b H
theorem QK{p:Nat}(h:uw f n i)(q:0<i)(u:i<n)(s:p=(i - 1)/2)(e:lt (f i) (f p)):uw (pj f i p) n p/\AB (pj f i p) n p:=by
 have m:p≠i:=ae
 refine⟨⟨λj a b c r=> ?_,λt j a b c=> ?_⟩,λj a b c=> ?_⟩
 ·
  have H:j≠i:=ae
  unfold pj;rw[af H,af c];by_cases d:(j - 1)/2=i
  .rw[ag d,s];exact h.2 q j a b d
  .rw[af d,af r];exact h.1 j a b H d
 .have o:=h.1 p t ae m ae;unfold pj;rw[af (show(p - 1)/2≠i by omega),af (show(p - 1)/2≠p by omega)];by_cases H:j=i
  .rw[ag H];exact o
  .rw[af H,dB];have:=h.1 j a b H ae;rw[c]at this;exact le_trans o this
 .unfold pj;rw[af m,ag rfl];by_cases H:j=i
  .rw[ag H];exact le_of_lt e
  .rw[af H,dB];have:=h.1 j a b H ae;rw[c]at this;exact le_trans (le_of_lt e) this
theorem Lx{c:Nat}(h:ux f n i)(o:(c - 1)/2=i)(q:0<c)(t:c<n)(r:lt (f c) (f i))(s: ∀j,0<j->j<n->(j - 1)/2=i->le (f c) (f j)):ux (pj f i c) n c:=by
 have u:c≠i:=ae
 refine⟨λj H b m=> ?_,λ_ j H b m=> ?_⟩
 .unfold pj;by_cases p:j=i
  .subst p;rw[af (show(j - 1)/2≠j by omega),af (show(j - 1)/2≠c by omega),ag rfl];exact h.2 H c q t o
  .by_cases a:(j - 1)/2=i
   .rw[ag a,af p];by_cases d:j=c
    .rw[ag d];exact le_of_lt r
    .rw[af d];exact s j H b a
   .have d:j≠c:=by intro e;subst e;exact a o
    rw[af a,af m,af p,af d];exact h.1 j H b a
 .unfold pj;rw[o,ag rfl,af (show j≠i by omega),af (show j≠c by omega)];have:=h.1 j H b ae;rw[m]at this;exact this
theorem N9(h:rM f n): ∀j,j<n->le (f 0) (f j):=by
 intro j;induction j using Nat.strongRecOn with
 |_ j I=>
  intro a;by_cases H:j=0
  .subst H;exact le_refl _
  .exact le_trans (I ((j - 1)/2) ae ae) (h j ae a)
def at_(es:List E)(i:Nat):E:=es.getD i (0,0)
theorem oO(h:i<es.length):at_ es i=es[i]:=by simp[at_,h]
theorem KC(h:i<es.length):es[i]? =some (at_ es i):=by simp[at_,h]
theorem IW(h:i<es.length):at_ (es.set i x) j=if j=i then x else at_ es j:=by
 unfold at_;by_cases e:j=i
 .subst e;simp[h]
 .simp[e,fJ e]
def qE(es:List E)(i j:Nat):List E:=(es.set j (at_ es i)).set i (at_ es j)
theorem wX :(qE es i j).length=es.length:=by simp[qE]
theorem Gu(h:i<es.length)(H:j<es.length)(k:Nat):at_ (qE es i j) k=pj (at_ es) i j k:=by
 unfold qE pj;rw[IW (cI h),IW H]
theorem Dx(h:i<es.length)(H:j<es.length):at_ (qE es i j)=pj (at_ es) i j:=funext (Gu h H)
theorem uy(h:i<es.length)(H:j<es.length):(qE es i j).Perm es:=by
 unfold qE;rw[oO h,oO H];exact List.set_set_perm H h
def iV(es:List E)(g:Int->Option Value):Prop:=
 (es.map (·.1)).Nodup/\(∀j,j<es.length->g (at_ es j).1=some (.int .i64 j))/\∀k,k∉es.map (·.1)->g k=none
theorem key_inj(h:(es.map (·.1)).Nodup)(H:i<es.length)(b:j<es.length)(a:(at_ es i).1=(at_ es j).1):i=j:=by
 rw[oO H,oO b]at a;have c:=eE (i:=i) (j:=j) (cI H) h;exact c.1 (by simp[H,b,a])
theorem iV.swap(h:iV es g)(H:i<es.length)(a:j<es.length)(s:i≠j):
  iV (qE es i j) (λk=>if k=(at_ es j).1 then some (.I i)else if k=(at_ es i).1 then some (.I j)else g k):=by
 obtain⟨c,p,q⟩:=h;have o:=(uy H a).map (·.1);refine⟨o.nodup_iff.2 c,λk b=> ?_,λk b=> ?_⟩
 .rw[wX]at b;rw[Gu H a];unfold pj;by_cases E:k=i
  .subst E;simp
  .by_cases d:k=j
   .subst d;rw[af E,ag rfl];have:(at_ es i).1≠(at_ es k).1:=λe=>s (key_inj c H a e)
    simp[this]
   .rw[af E,af d];have u:(at_ es k).1≠(at_ es j).1:=λe=>d (key_inj c b a e)
    have v:(at_ es k).1≠(at_ es i).1:=λe=>E (key_inj c b H e)
    simp[u,v,p k b]
 .have m:k∉es.map (·.1):=λr=>b (o.mem_iff.2 r)
  have M:(at_ es j).1∈es.map (·.1):=by rw[oO a];exact bz (dI a)
  have t:(at_ es i).1∈es.map (·.1):=by rw[oO H];exact bz (dI H)
  simp only[];rw[af (show k≠_ from λe=>m (e.symm▸M)),af (show k≠_ from λe=>m (e.symm▸t))];exact q k m
def jz(l:List E):Prop:=l.Pairwise lt
def keys(l:List E):List Int:=l.map (·.1)
def fU(l:List E)(k:Int):List E:=l.filter (λe=> !(e.1==k))
def vz(l:List E)(x:E):List E:=l.filter (λe=>decide (lt e x))++x::l.filter (λe=> !decide (lt e x))
theorem mR(l:List E)(x:E):(vz l x).Perm (x::l):=by
 unfold vz;refine(List.perm_middle).trans (List.Perm.cons x ?_);exact List.filter_append_perm _ _
theorem jz.drop(h:jz l)(k:Int):jz (fU l k):=gp _ h
theorem jz.insert(h:jz l)(x:E)(c:x.1∉keys l):jz (vz l x):=by
 unfold jz vz;rw[List.pairwise_append];refine⟨gp _ h,?_,?_⟩
 .rw[dY];refine⟨λy a=> ?_,gp _ h⟩;obtain⟨d,H⟩:=bj.1 a;have b: ¬lt y x:=by simpa using H
  exact lt_of_le_ne b (λe=>c (by rw[e];exact bz d))
 .intro y a z hz;obtain⟨_,H⟩:=bj.1 a;have o:lt y x:=by simpa using H
  rcases bK.1 hz with rfl|hz
  .exact o
  .obtain⟨_,m⟩:=bj.1 hz;have b: ¬lt z x:=by simpa using m
   unfold lt at*;omega
theorem IX(l:List E)(k:Int):k∉keys (fU l k):=by
 intro h;obtain⟨e,H,rfl⟩:=bp.1 h;have:=(bj.1 H).2;simp at this
theorem kI(h:k∉keys l):fU l k=l:=by
 unfold fU;rw[cD];intro e H;have:e.1≠k:=λE=>h (E▸bz H)
 simp[this]
theorem IY(h:l.Perm L)(k:Int):(fU l k).Perm (fU L k):=h.filter _
theorem Oa(H:es.Perm l)(o:jz l)(d:rM (at_ es) es.length)(a:0<es.length): ∃r,l=at_ es 0::r:=by
 cases l with
 |nil=>have:=H.length_eq;simp only[bG]at this;omega
 |cons x r=>
  refine⟨r,?_⟩;have p:x∈es:=H.mem_iff.2 dj;obtain⟨j,h⟩:=bO p;have b:j<es.length:=(aE.1 h).1;have c:=N9 d j b;rw[KC b]at h;have E:at_ es j=x:=aZ h;rw[E]at c;have m:at_ es 0∈x::r:=H.mem_iff.1 (by rw[oO a];exact dI a);rcases bK.1 m with e|e
  .rw[e]
  .have:=(dY.1 o).1 _ e;exact absurd this c
theorem Dy(H:es.length=n+1):es=es.take n++ [at_ es n]:=by
 have h:n<es.length:=ae
 rw[oO h];have:=List.take_append_getElem h;rw[this,bn ae]
theorem EA(h:i<n):at_ (es.take n) i=at_ es i:=by
 unfold at_;rw[bk,bk,df,ag h]
theorem wY :at_ (es++ [x]) i=if i<es.length then at_ es i else if i=es.length then x else(0,0):=by
 unfold at_;rw[bk,bk];by_cases h:i<es.length
 .rw[dh h,ag h]
 .rw[cV ae,af h];by_cases e:i=es.length
  .subst e;simp
  .rw[af e,cY (by simp;omega)];rfl
theorem mem_keys(h:k∈keys es): ∃j,j<es.length/\(at_ es j).1=k:=by
 obtain⟨e,b,rfl⟩:=bp.1 h;obtain⟨j,H⟩:=bO b;have a:=(aE.1 H).1;rw[KC a]at H;exact⟨j,a,bQ Prod.fst (aZ H)⟩
theorem at_mem(h:j<es.length):at_ es j∈es:=by rw[oO h];exact dI h
theorem keys_perm(h:l.Perm L):(keys l).Perm (keys L):=h.map _
def cut(es:List E)(n j:Nat):List E:=if j<n then(es.take n).set j (at_ es n)else es.take n
theorem Gv(a:es.length=n+1)(d:j<es.length):es.Perm (at_ es j::cut es n j):=by
 unfold cut;have m:(es.take n).length=n:=by rw[bw];omega
 split
 .rename_i h;have H:j<(es.take n).length:=ae
  have e:at_ es j=(es.take n)[j]:=by rw[<-EA h,oO H]
  have p:es.Perm (at_ es n::es.take n):=by
   have:es.Perm (es.take n++ [at_ es n]):=by rw[<-Dy a]
   exact this.trans (eK _ _)
  have P:(es.take n).Perm (at_ es j::((es.take n).take j++(es.take n).drop (j+1))):=by
   rw[e];have E:es.take n=(es.take n).take j++(es.take n)[j]::(es.take n).drop (j+1):=by rw[<-cX H,List.take_append_drop]
   have b:(es.take n).Perm ((es.take n).take j++(es.take n)[j]::(es.take n).drop (j+1)):=List.Perm.of_eq E;exact b.trans List.perm_middle
  have c:((es.take n).set j (at_ es n)).Perm (at_ es n::((es.take n).take j++(es.take n).drop (j+1))):=by
   rw[List.set_eq_take_append_cons_drop,ag H];exact List.perm_middle
  exact p.trans ((P.cons _).trans ((List.Perm.swap _ _ _).trans (c.symm.cons _)))
 .have:j=n:=ae
  subst this;have:es.Perm (es.take j++ [at_ es j]):=by rw[<-Dy a]
  exact this.trans (eK _ _)
theorem Ob(e:es.length=n+1)(c:j<es.length)(b:(keys es).Nodup)(m:es.Perm l):(cut es n j).Perm (fU l (at_ es j).1):=by
 have h:=Gv e c;have d:(at_ es j).1∉keys (cut es n j):=by
  have:=(keys_perm h).nodup_iff.1 b;exact(fL.1 this).1
 have H:=IY (h.symm.trans m) (at_ es j).1;have a:fU (at_ es j::cut es n j) (at_ es j).1=cut es n j:=by
  have:fU (at_ es j::cut es n j) (at_ es j).1=fU (cut es n j) (at_ es j).1:=by
   unfold fU;rw[cC];simp
  rw[this,kI d]
 rw[a]at H;exact H
theorem EB(h:es.length=n+1):(cut es n j).length=n:=by
 unfold cut;split
 .rw[dt,bw];omega
 .rw[bw];omega
theorem qk(a:es.length=n+1)(h:i<n):at_ (cut es n j) i=if i=j then at_ es n else at_ es i:=by
 have H:(es.take n).length=n:=by rw[bw];omega
 unfold cut;split
 .rw[IW ae,EA h]
 .rw[EA h,dB]
theorem Ly(h:iV es g)(b:es.length=n+1)(p:j<es.length):
  iV (cut es n j) (λk=>if j<n then(if k=(at_ es n).1 then some (.I j)else if k=(at_ es j).1 then none else g k)else if k=(at_ es j).1 then none else g k):=by
 obtain⟨d,r,s⟩:=h;have q:=keys_perm (Gv b p);have v:=q.nodup_iff.1 d;refine⟨(fL.1 v).2,λi m=> ?_,λk a=> ?_⟩
 .rw[EB b]at m;rw[qk b m];by_cases e:i=j
  .subst e;simp[m]
  .rw[af e];have c:(at_ es i).1≠(at_ es n).1:=λx=>by have:=key_inj d ae ae x;omega
   have A:(at_ es i).1≠(at_ es j).1:=λx=>e (key_inj d ae p x)
   simp[c,A,r i ae]
 .have o: ∀k,k∉(cut es n j).map (·.1)->k≠(at_ es j).1->g k=none:=λk a w=>by
   refine s k λu=> ?_
   rcases bK.1 (q.mem_iff.1 u)with e|e
   .exact w e
   .exact a e
  by_cases H:j<n
  .have t:(at_ es n).1∈(cut es n j).map (·.1):=by
    have:=at_mem (es:=cut es n j) (j:=j) (by rw[EB b];exact H);rw[qk b H,ag rfl]at this;exact bz this
   have c:k≠(at_ es n).1:=λe=>a (e▸t)
   by_cases e:k=(at_ es j).1
   .subst e;simp[H,c]
   .simp[H,c,e,o k a e]
  .by_cases e:k=(at_ es j).1
   .subst e;simp[H]
   .simp[H,e,o k a e]
theorem Oc(h:es.length=n+1)(o:j<n)(d:rM (at_ es) es.length):uw (at_ (cut es n j)) n j:=by
 refine⟨λc H a b m=> ?_,λe c H a b=> ?_⟩
 .rw[qk h a,qk h ae,af b,af m];exact d c H ae
 .rw[qk h a,qk h ae,dB,dB];have:=d c H ae;rw[b]at this;exact le_trans (d j e ae) this
theorem Od(h:es.length=n+1)(d: ¬j<n)(b:rM (at_ es) es.length):rM (at_ (cut es n j)) n:=λc H a=>by
 rw[qk h a,qk h ae,dB,dB];exact b c H ae
theorem Oe(b:rM (at_ es) es.length):uw (at_ (es++ [x])) (es.length+1) es.length/\AB (at_ (es++ [x])) (es.length+1) es.length:=by
 refine⟨⟨λc h H a e=> ?_,λd c h H a=>ae⟩,λc h H a=>ae⟩;rw[wY,wY,gk,gk];exact b c h ae
theorem LA(h:iV es g)(a:x.1∉keys es):iV (es++ [x]) (λk=>if k=x.1 then some (.I es.length)else g k):=by
 obtain⟨b,c,d⟩:=h;refine⟨?_,λi m=> ?_,λk H=> ?_⟩
 .have:((es++ [x]).map (·.1)).Perm (x.1::es.map (·.1)):=by
   rw[aV];exact eK _ _
  exact this.nodup_iff.2 (fL.2 ⟨a,b⟩)
 .rw[au,dF]at m;rw[wY];by_cases e:i<es.length
  .rw[ag e];have:(at_ es i).1≠x.1:=λq=>a (q▸bz (at_mem e))
   simp[this,c i e]
  .have:i=es.length:=ae
   subst this;simp
 .rw[aV,bE]at H;have p:k≠x.1:=λe=>H (.inr (by simp[e]))
  simp[p,d k (λo=>H (.inl o))]
theorem IZ{e:E}(H:(keys (e::l)).Nodup):fU (e::l) e.1=l:=by
 have h:fU (e::l) e.1=fU l e.1:=by unfold fU;rw[cC];simp
 rw[h,kI (fL.1 H).1]

end
end Go.kA
namespace Go.Den
section
variable {P : Program}
theorem Gw{s x C elem:TypeId}{S bytes:Nat}{z:Value}{h:aj}{n:Nat}{K:fD}(T:oN P s elem S bytes z)(A:P.underlying x=some (.int .i64))(G:0<n)(D:n*bytes<=70368744177664)(E:n<=4611686018427387904)(q: ∀c d,fz d (Sa h.size 0) 0 c S []->n<=c->Fr (λ_=>False) h d->K (.L (Sa h.size 0) n c) d):
  aW P (Builtin.append_ #[s,x] C #[.Z,.I (n:Int)]) h K:=by
 obtain⟨i,a,rfl,rfl,g⟩:=T.i;have y:=T.zs;unfold Builtin.append_;refine cb (s:=underlying s) (bN T.u) ?_;refine cb (s:=sizeOf elem) (iG a) ?_;refine cb (s:=underlying x) (bN A) ?_;refine cb (s:=(pure true:Sem Bool)) (a:=true) rfl ?_;have e:IntKind.wrap .i64 (n:Int)=(n:Int):=bC ae ae;refine cb (s:=asInt (.I (n:Int))) (a:=(n:Int)) rfl ?_;show aW P (if IntKind.wrap .i64 (n:Int)<0 then _ else _) h K;rw[af (by rw[e];omega)];refine cb (s:=typeInfo elem) (iF a) ?_;show aW P (if IntKind.wrap .i64 (n:Int)*(i.bytes:Int)>2 ^ 48 then _ else _) h K;have l:(n:Int)*(i.bytes:Int)=((n*i.bytes:Nat):Int):=bV
 rw[af (by rw[e,l];omega)];refine cb (s:=(pure (IntKind.wrap .i64 (n:Int)).toNat:Sem Nat)) (a:=n) (by rw[e];rfl) ?_;show aW P (if 0+n<=0 then _ else _) h K;rw[dB];refine cb (s:=typeInfo elem) (iF a) ?_;show aW P (if(((0+n:Nat):Int)>IntKind.max .i64/\(true=true\/i.bytes=0))then _ else _) h K;have t:IntKind.max .i64=9223372036854775807:=rfl;rw[af (by rw[t];omega)];refine cb (s:=typeInfo elem) (iF a) ?_;have r:=nextslicecap_le (need:=0+n) (cap:=0) ae;have u: ¬(Builtin.nextslicecap (0+n) 0*i.bytes>2 ^ 48):=by
  have b:Builtin.nextslicecap (0+n) 0*i.bytes<=2*(0+n)*i.bytes:=cZ _ r;rw[Nat.mul_assoc,bM]at b;rw[bM];omega
 show aW P (if Builtin.nextslicecap (0+n) 0*i.bytes>2 ^ 48 then _ else _) h K;rw[af u];show aW P (choose (.appendCap (0+n) 0 elem)>>=_) h K;rw[dU];unfold choose;simp only[aW,Question.forced,aq,aL,Question.cut];intro B;refine cb (s:=typeInfo elem) (iF a) ?_;rw[dU];have w: ∀(m:Nat)(k:Unit->aj->Prop),k () h->aW P (askRoom m) h k:=λm k f=>by
  unfold askRoom;split
  .exact f
  .exact f
 refine w _ _ ?_;refine cb (s:=Builtin.firstCells i.size 0 (.Z)) (a:= #[]) (mc (ds:= []) (.inl rfl) bV) ?_;have R:=jw (h:=h) a g;refine cb (a:=if n*i.size=0 then #[]else Builtin.zeroCells z.cells n) ?_ ?_
 .show rd P (if n*i.size=0 then pure #[]else _) h=_;by_cases H:n*i.size=0
  .rw[ag H,ag H];rfl
  .rw[af H,af H,bF _ _ _ _ R];rfl
 refine cb (s:=zeroValue elem) (jw a g) ?_;generalize F:0+n+B%(2 ^ 63 - (0+n))=c;have o:n<=c:=ae
 have b: ∀m,(Builtin.zeroCells z.cells m).size=m*i.size:=λm=>by simp[Builtin.zeroCells,y]
 show K (.L (Sa h.size 0) (0+n) c) (h.push (.C (#[]++(if n*i.size=0 then #[]else Builtin.zeroCells z.cells n)++Builtin.zeroCells z.cells (c - (0+n))) elem));rw[bM];refine q c _ (.row h.size 0 _ elem rfl bZ (bL _) ?_ bV (λj v p=>by cases p)) o (Fr.push _ _);rw[Array.size_append,b];have:(#[]++(if n*i.size=0 then #[]else Builtin.zeroCells z.cells n):Array Value).size=n*i.size:=by
  by_cases H:n*i.size=0
  .rw[ag H,H];rfl
  .rw[af H,Array.size_append,b];simp
 rw[this,<-eW,bM,show n+(c - n)=c by omega];omega
end
section
variable {h H:aj} {X:Ft} {j:Nat}
def In(X:Ft)(y:Nat):Prop:=X.M y\/X.D y
abbrev only(X:Ft)(P:Nat->Prop):Prop:= ∀y,(X.M y↔P y)/\¬X.D y
abbrev pt(b:Nat):Value:=.pointer (some ⟨b,0,none⟩)
structure AD (P:Nat->aj->Ft->Prop):Prop where
 lt: ∀ {i h X},P i h X->∀y,In X y->y<h.size
 frame: ∀ {i h H X} {Q:Nat->Prop},P i h X->Fr Q h H->(∀y,In X y->¬Q y)->P i H X
 vA: ∀ {i h X},P i h X->∀y,X.M y->X.D y->False
def I0(P:Nat->aj->Ft->Prop)(h:aj)(X:Ft):Prop:= ∃a:Nat->Ft,(∀i,P i h (a i))/\(∀i j y,i≠j->In (a i) y->¬In (a j) y)/\(∀y,X.M y↔ ∃i,(a i).M y)/\∀y,X.D y↔ ∃i,(a i).D y
variable {P p : Nat → aj → Ft → Prop}
theorem I0.lt(S:AD P)(c:I0 P h X)(y:Nat)(hy:X.M y\/X.D y):y<h.size:=by
 obtain⟨f,b,_,e,d⟩:=c;rcases hy with hy|hy
 .obtain⟨i,a⟩:=(e y).1 hy;exact S.lt (b i) y (.inl a)
 .obtain⟨i,a⟩:=(d y).1 hy;exact S.lt (b i) y (.inr a)
theorem I0.vA(S:AD P)(f:I0 P h X)(y:Nat)(a:X.M y)(b:X.D y):False:=by
 obtain⟨m,l,A,k,g⟩:=f;obtain⟨i,c⟩:=(k y).1 a;obtain⟨j,d⟩:=(g y).1 b;by_cases e:i=j
 .subst e;exact S.vA (l i) y c d
 .exact A i j y e (.inl c) (.inr d)
theorem I0.frame{Q:Nat->Prop}(S:AD P)(d:I0 P h X)(f:Fr Q h H)(k: ∀y,X.M y\/X.D y->¬Q y):I0 P H X:=by
 obtain⟨e,g,A,c,b⟩:=d;exact⟨e,λi=>S.frame (g i) f (λy l=>k y (l.imp (λa=>(c y).2 ⟨i,a⟩) (λa=>(b y).2 ⟨i,a⟩))),A,c,b⟩
theorem I0.use(S:AD P)(r:I0 P h X)(j:Nat): ∃Z,P j h Z/\(∀y,Z.M y->X.M y)/\(∀y,Z.D y->X.D y)/\∀H z p,p j H z->bA Z h z H->(∀i,i≠j->p i=P i)->
  ∃x,I0 p H x/\bA X h x H/\(∀y,z.D y->x.D y)/\∀y,h.size<=y->x.M y\/x.D y->z.M y\/z.D y:=by
 obtain⟨d,m,A,g,f⟩:=r;refine⟨d j,m j,λy a=>(g y).2 ⟨j,a⟩,λy a=>(f y).2 ⟨j,a⟩,λH z p t s u=> ?_⟩;have O: ∀i y,i≠j->In (d i) y->¬In z y:=λi y o c hz=>by
  have l:=S.lt (m i) y c;rcases hz with hz|hz
  .rcases s.iz y hz with a|a
   .exact A i j y o c (.inl a)
   .omega
  .rcases s.jx y hz with a|a
   .exact A i j y o c (.inr a)
   .omega
 refine⟨⟨λy=> ∃i,(if i=j then z else d i).M y,λy=> ∃i,(if i=j then z else d i).D y⟩,⟨λi=>if i=j then z else d i,λi=> ?_,λi k y n c hz=> ?_,λ_=>fi,λ_=>fi⟩,⟨s.fr.mono (λy _ a=>(g y).2 ⟨j,a⟩),?_,?_,?_⟩,λy a=>⟨j,by rw[ag rfl];exact a⟩,?_⟩
 .show p i H (if i=j then z else d i);by_cases e:i=j
  .rw[ag e,e];exact t
  .rw[af e,u i e];exact S.frame (m i) s.fr (λy c a=>A i j y e c (.inl a))
 .dsimp only at c hz;by_cases e:i=j
  .rw[ag e]at c;rw[af (λq=>n (e.trans q.symm))]at hz;exact O k y (λq=>n (e.trans q.symm)) hz c
  .rw[af e]at c;by_cases E:k=j
   .rw[ag E]at hz;exact O i y e c hz
   .rw[af E]at hz;exact A i k y n c hz
 .rintro y ⟨i,a⟩;by_cases e:i=j
  .rw[ag e]at a;exact(s.iz y a).imp (λb=>(g y).2 ⟨j,b⟩) id
  .rw[af e]at a;exact .inl ((g y).2 ⟨i,a⟩)
 .rintro y ⟨i,a⟩;by_cases e:i=j
  .rw[ag e]at a;exact(s.jx y a).imp (λb=>(f y).2 ⟨j,b⟩) id
  .rw[af e]at a;exact .inl ((f y).2 ⟨i,a⟩)
 .intro y a;obtain⟨i,a⟩:=(f y).1 a;by_cases e:i=j
  .exact⟨j,by rw[ag rfl];exact s.mQ y (e▸a)⟩
  .exact⟨i,by rw[af e];exact a⟩
 .intro y c a;have K: ∀i,In (if i=j then z else d i) y->z.M y\/z.D y:=λi a=>by
   by_cases e:i=j
   .rw[ag e]at a;exact a
   .rw[af e]at a;have:=S.lt (m i) y a;omega
  rcases a with⟨i,a⟩|⟨i,a⟩
  .exact K i (.inl a)
  .exact K i (.inr a)
end
section
variable {a:Addr} {len cap s i j:Nat} {K:aj->Prop}
def mS:List Value->Nat->List Value->List Value
 |cs,_, []=>cs
 |cs,p,v::V=>mS (cs.set p v) (p+1) V
theorem yu: ∀(V c:List Value)(p:Nat),(mS c p V).length=c.length
 | [],c,p=>rfl
 |v::V,c,p=>by unfold mS;rw[yu V,dt]
theorem uz: ∀(V c:List Value)(p:Nat),p+V.length<=c.length->∀j,(mS c p V)[j]? =if p<=j/\j<p+V.length then V[j - p]? else c[j]?
 | [],c,p,_,j=>by unfold mS;rw[af (by rw[bG];omega)]
 |v::V,c,p,b,j=>by
  unfold mS;rw[bf]at b⊢;rw[uz V _ (p+1) (by rw[dt];omega) j,dp];by_cases h:p+1<=j/\j<p+1+V.length
  .rw[ag h,gk,show j - p=(j - (p+1))+1 by omega,dG]
  .rw[af h];by_cases H:p=j
   .subst H;rw[ag rfl,gk,gk,Nat.sub_self];rfl
   .rw[af H,dB]
theorem fz.dO{p:Nat}: ∀(V:List Value)(k:Nat)(h:aj)(c:List Value),fz h (.some a) len cap s c->(∀v∈V,gw v=true)->p+k+V.length<=c.length->
  (∀H,fz H (.some a) len cap s (mS c (p+k) V)->H.size=h.size->(∀x,¬aN (.some a) x->H[x]? =h[x]?)->K H)->Den.dO (a.add p) V k h K
 | [],k,h,c,o,_,_,b=>b h o rfl (λ_ _=>rfl)
 |v::V,k,h,c,o,d,l,b=>by
  rw[bf]at l;unfold Den.dO;rw[d v dj];dsimp only;rw[add_add];refine o.store ae λf O S q=> ?_
  refine fz.dO V (k+1) f _ O (λu m=>d u (cv _ m)) (by rw[dt];omega) λg n r Q=>b g ?_ ae (λx e=>by rw[Q x e,q x e])
  unfold mS;rw[show p+k+1=p+(k+1) by omega];exact n
theorem fz.Gx{h:aj}{d:Type}{E:d->List Value}{X:List d}{y:d}(o:fz h (.some a) len cap s (X.flatMap E))(H: ∀x,(E x).length=s)(k: ∀v∈E y,gw v=true)(f:i<X.length)(g: ∀b,fz b (.some a) len cap s ((X.set i y).flatMap E)->b.size=h.size->(∀x,¬aN (.some a) x->b[x]? =h[x]?)->K b):Den.dO (a.add (i*s)) (E y) 0 h K:=by
 have c:=eO E s H X;have r:i*s+s<=X.length*s:=by
  have:=cZ s (show i+1<=X.length by omega);rwa[eW,Nat.one_mul]at this
 refine fz.dO (E y) 0 h _ o k (by rw[H,c];omega) λb O S q=>g b ?_ S q
 have e:mS (X.flatMap E) (i*s+0) (E y)=(X.set i y).flatMap E:=by
  refine Gm E s H X i y f _ (yu _ _ _) ?_ ?_
  .intro j hj;rw[uz _ _ _ (by rw[H,c];omega),H];rw[af];rintro⟨n,p⟩;rcases hj with hj|hj
   .apply hj
    have m:0<s:=ae
    rw[Nat.div_eq_iff m];constructor
    .omega
    .omega
   .omega
  .intro j v hj l;rw[uz _ _ _ (by rw[H,c];omega),H,gk,show i*s+j - (i*s+0)=j by omega];exact l
 rw[e]at O;exact O
def swp{b:Type}(X:List b)(i j:Nat):List b:=
 match X[i]?,X[j]? with
 |some x,some y=>(X.set i y).set j x
 |_,_=>X
theorem SH{b:Type}{X:List b}{x y:b}(h:X[i]? =some x)(H:X[j]? =some y):(X.set i y).set j x=swp X i j:=by unfold swp;rw[h,H]
theorem SI{d:Type}{x:List d}(b:i<x.length)(c:j<x.length)(k:Nat):(swp x i j)[k]? =if k=j then x[i]? else if k=i then x[j]? else x[k]? :=by
 have e:x[i]? =some x[i]:=ai b;have E:x[j]? =some x[j]:=ai c;unfold swp;rw[e,E];dsimp only;rw[dp,dp,dt];by_cases h:j=k
 .subst h;rw[ag rfl,ag c,ag rfl]
 .rw[af h,af (fJ h)];by_cases H:i=k
  .subst H;rw[ag rfl,ag b,ag rfl]
  .rw[af H,af (fJ H)]
theorem Of{b:Type}{x:List b}(h:i<x.length)(H:j<x.length):(swp x i j).Perm x:=by
 unfold swp;rw[ai h,ai H];dsimp only;exact List.set_set_perm h H

end
section
variable {d : Type} {l : d → d → Prop} {X c : List d} {a b i j : Nat}
def kB(l:d->d->Prop)(X:List d)(a b:Nat):Prop:= ∀(p q:Nat) x y,a<=p->p<q->q<b->X[p]? =some x->X[q]? =some y->l x y
theorem kB.pair(h:kB l X 0 X.length):X.Pairwise l:=by
 rw[List.pairwise_iff_getElem];intro i j e H f;exact h i j _ _ (bL _) f H (ai e) (ai H)
theorem kB.small(h:b<=a+1):kB l X a b:=λp q _ _ H e f=>ae
structure EC (l:d->d->Prop) (X c:List d) (a i j:Nat):Prop where
 perm:c.Perm X
 out: ∀k,k<a\/i<k->c[k]? =X[k]?
 so: ∀(p q:Nat) x y,a<=p->p<q->q<=i->p≠j->q≠j->c[p]? =some x->c[q]? =some y->l x y
 up: ∀(q:Nat) x y,j<q->q<=i->c[j]? =some x->c[q]? =some y->l x y
theorem EC.start(h:kB l X a i):EC l X X a i i:=
 ⟨.refl _,λ_ _=>rfl,λp q x y H e f _ g=>h p q x y H e ae,λq x y H e=>ae⟩
theorem EC.swap{x y:d}(H:EC l X c a i j)(A:a<j)(B:j<=i)(z:i<c.length)(t:c[j]? =some x)(w:c[j - 1]? =some y)(s:l x y):EC l X (swp c j (j - 1)) a i (j - 1):=by
 have at_: ∀k:Nat,(swp c j (j - 1))[k]? =if k=j - 1 then c[j]? else if k=j then c[j - 1]? else c[k]? :=SI ae ae
 refine⟨(Of ae ae).trans H.perm,λk r=> ?_,λp q u v f g m n o e h=> ?_,λq u v f g e h=> ?_⟩
 .rw[at_,dB,dB];exact H.out k r
 .rw[at_,af n]at e;rw[at_,af o]at h;by_cases P:p=j
  .rw[ag P]at e;rw[dB]at h;exact H.so (j - 1) q u v ae ae m ae ae e h
  .rw[af P]at e;by_cases Q:q=j
   .rw[ag Q]at h;exact H.so p (j - 1) u v f ae ae P ae e h
   .rw[af Q]at h;exact H.so p q u v f g m P Q e h
 .rw[at_,ag rfl]at e;rw[at_,dB]at h;by_cases Q:q=j
  .rw[ag Q]at h;rw[t]at e;rw[w]at h;cases e;cases h;exact s
  .rw[af Q]at h;exact H.up q u v ae g e h
theorem EC.stop(n: ∀{x y z},l x y->l y z->l x z)(H:EC l X c a i j)(t:a<=j)(w:j<=i)(s:i<c.length)(he:j=a\/∀x y,c[j]? =some x->c[j - 1]? =some y->l y x):kB l c a (i+1):=by
 intro p q u v g k r h e;by_cases P:p=j
 .subst P;exact H.up q u v k ae h e
 .by_cases Q:q=j
  .subst Q;rcases he with he|he
   .omega
   .have f:c[q - 1]? =some (c[q - 1]' ae):=ai _;have m:=he _ _ e f;by_cases o:p=q - 1
    .subst o;rw[f]at h;cases h;exact m
    .exact n (H.so p (q - 1) _ _ g ae ae P ae h f) m
  .exact H.so p q u v g k ae P Q h e
end
end Go.Den
namespace Go.fV
structure RD where
 id:Nat
 err:Int
 num:Int
 count:Int
 token:Nat
 b:cM
def RD.zero:RD:=⟨0,0,0,0,0, []⟩
def RD.pk(x:RD):Prop:=x.id<=1099511627776/\(0<=x.err/\x.err<=99)/\(0<=x.num/\x.num<=1099511627776)/\(0<=x.count/\x.count<=1099511627776)/\x.token<=2147483648/\x.b.length<=600/\(x.err≠0->x.num=0/\x.count=0/\x.token=0/\x.b= [])
instance (x : RD) : Decidable x.pk := by unfold RD.pk; infer_instance
def RD.same(x y:RD):Prop:=x.id=y.id/\x.err=y.err/\x.num=y.num/\x.count=y.count/\x.token=y.token/\x.b=y.b
instance (x y : RD) : Decidable (x.same y) := by unfold RD.same; infer_instance
def RD.enc(x:RD):cM:=ct x.id++ct (gC x.err)++ct (gC x.num)++ct (gC x.count)++ct x.token++dW x.b
structure V3 where
 x:RD
 e:Int
 rest:cM
def U6(t:Nat)(m:Nat->Int->cM->Nat×Int×cM)(B:cM):V3:=
 let a:=fH 0 B
 let b:=m t a.2.1 a.2.2
 let c:=m 1099511627776 b.2.1 b.2.2
 let d:=m 1099511627776 c.2.1 c.2.2
 let f:=fH d.2.1 d.2.2
 let g:=mq f.2.1 f.2.2
 ⟨⟨a.1,(b.1:Int),(c.1:Int),(d.1:Int),f.1,g.1⟩,g.2.1,g.2.2⟩
def AE(s:V3):Option RD:=if zN s.e s.rest=0/\s.x.pk then some s.x else none
def LB(b:cM):Option RD:=AE (U6 1099511627776 jX b)
theorem lB{x:RD}(h:x.b.length<=600):x.enc.length<=700:=by
 have a:=(bU x.id).2;have A:=(bU (gC x.err)).2;have b:=(bU (gC x.num)).2;have c:=(bU (gC x.count)).2;have d:=(bU x.token).2;have e:=(bU x.b.length).2;unfold RD.enc dW;simp only[au];omega

end Go.fV
namespace Go.Den
section
variable {h:aj}
def idxOf{a:Type}(P:a->Bool)(x:List a):Int:=match x.findIdx? P with|some k=>(k:Int)|none=> -1
theorem AF{l:Type}(P:l->Bool){X:List l}{n:Nat}{R:fD}(B:Int->aj->(Bool->aj->Prop)->Prop)(p:n=X.length)(v:X.length<=1000000000)(o: ∀(k:Nat) g x K,X[k]? =some x->Fr (λ_=>False) h g->(∀G,Fr (λ_=>False) h G->K (P x) G)->B (k:Int) g K)(a: ∀g,Fr (λ_=>False) h g->R (.I (idxOf P X)) g):
  ∃(I:Int->aj->Prop)(m:Int->aj->Nat),I 0 h/\∀(t:Int)(g:aj),I t g->if(decide (t<(n:Int)))=true then B t g (λq b=>if q=true then R (.I t) b else(I (IntKind.wrap .i64 (t+1)) b/\m (IntKind.wrap .i64 (t+1)) b<m t g))else R (.I (-1)) g:=by
 subst p;refine⟨λi g=>Fr (λ_=>False) h g/\∃k:Nat,i=(k:Int)/\k<=X.length/\∀j (H:j<X.length),j<k->¬P X[j]=true,λi _=>X.length - i.toNat,⟨Fr.refl _ _,0,rfl,ae,λj _ H=>ae⟩,?_⟩;rintro _ g ⟨f,k,rfl,u,c⟩;by_cases d:k<X.length
 .rw[gk];refine o k g X[k] _ (ai d) f λG F=> ?_
  by_cases e:P X[k]=true
  .rw[ag e];have:idxOf P X=(k:Int):=by
    unfold idxOf;rw[show X.findIdx? P=some k from cJ.2 ⟨d,e,λj H=>c j ae H⟩]
   rw[this]at a;exact a G F
  .rw[af e,bC ae ae];refine⟨⟨F,k+1,ae,ae,λj H s=> ?_⟩,by show X.length - Int.toNat ((k:Int)+1)<X.length - Int.toNat (k:Int);omega⟩;by_cases q:j=k
   .subst q;exact e
   .exact c j H ae
 .rw[af (λq=>d (bR (aS q)))];have:idxOf P X= -1:=by
   unfold idxOf;rw[show X.findIdx? P=none from dy.2 λx r=> ?_];obtain⟨j,H,rfl⟩:=List.getElem_of_mem r;exact Bool.not_eq_true _▸c j H ae
  rw[this]at a;exact a g f

end
end Go.Den
namespace Go.Proofs.YtimiaphmdidfhaaGreatDoor
open Go.Den
open IntKind (wrap)
open Int (toNat)
section
namespace Cb
inductive Tr where
 |mk (k:Int) (n:Nat) (b:cM) (l:List Tr)
namespace Tr
def k:Tr->Int| .mk k _ _ _=>k
def n:Tr->Nat| .mk _ n _ _=>n
def b:Tr->cM| .mk _ _ b _=>b
def l:Tr->List Tr| .mk _ _ _ l=>l
end Tr
abbrev num(n:Nat):Tr:=.mk 0 n [] []
abbrev qP(b:cM):Tr:=.mk 2 0 b []
abbrev sX(l:List Tr):Tr:=.mk 4 0 [] l
def Dz:Tr:=.mk 0 0 [] []
mutual
def oV:Tr->Tr->Bool
 | .mk k n b l,.mk k' n' b' l'=>decide (k=k') && decide (n=n') && decide (b=b') && sY l l'
def sY:List Tr->List Tr->Bool
 | [], []=>true
 |t::ts,u::us=>oV t u && sY ts us
 |_,_=>false
end
mutual
theorem QL: ∀(a b:Tr),oV a b=true↔a=b
 | .mk k n b l,.mk k' n' b' l'=>by
  simp only[oV,Bool.and_eq_true,decide_eq_true_eq,AG,Tr.mk.injEq,and_assoc]
theorem AG: ∀(a b:List Tr),sY a b=true↔a=b
 | [], []=>by simp[sY]
 |t::ts,u::us=>by simp only[sY,Bool.and_eq_true,QL t u,AG ts us,List.cons.injEq]
 | [],u::us=>by simp[sY]
 |t::ts, []=>by simp[sY]
end
def Og(V:cM->Bool)(k:Int)(n:Nat)(b:cM)(l:List Tr):Bool:=
 if k=0 then b.isEmpty && l.isEmpty else if k=2 then decide (n=0) && l.isEmpty else if k=3 then decide (n=0) && l.isEmpty && V b else if k=4 then decide (n=0) && b.isEmpty else false
mutual
def ou (V:cM->Bool):Tr->Int->Int->Int
 | .mk k n b l,d,left=>if d>6\/left<1 then -1 else if Og V k n b l=true then nH V l (d+1) (left - 1)else -1
def nH (V:cM->Bool):List Tr->Int->Int->Int
 | [],_,left=>left
 |t::ts,d,left=>if ou V t d left<0 then -1 else nH V ts d (ou V t d left)
end
mutual
theorem Gy {V:cM->Bool} : ∀ {t:Tr} {d left:Int},ou V t d left= -1\/0<=ou V t d left/\ou V t d left<left
 | .mk k n b l,d,left=>by
  unfold ou;split
  ·exact .inl rfl
  ·split
   ·rcases DA (V:=V) (ts:=l) (d:=d+1) (left:=left - 1) ae with h|h
    ·exact .inl h
    ·exact .inr ae
   ·exact .inl rfl
theorem DA {V:cM->Bool} : ∀ {ts:List Tr} {d left:Int},0<=left->nH V ts d left= -1\/0<=nH V ts d left/\nH V ts d left<=left
 | [],d,left,hl=>by unfold nH;exact .inr ⟨hl,Int.le_refl _⟩
 |t::ts,d,left,hl=>by
  unfold nH;split
  ·exact .inl rfl
  ·rcases Gy (V:=V) (t:=t) (d:=d) (left:=left)with h1|h1
   ·omega
   ·rcases DA (V:=V) (ts:=ts) (d:=d) (left:=ou V t d left) ae with h|h
    ·exact .inl h
    ·exact .inr ae
end
def iC(V:cM->Bool)(t:Tr):Bool:=decide (ou V t 1 256≥0)
def Gz(n:Nat):Nat:=if n<24 then 0 else if n<256 then 1 else if n<65536 then 2 else if n<4294967296 then 4 else 8
def yN(n:Nat):Nat:=if n<24 then n else if n<256 then 24 else if n<65536 then 25 else if n<4294967296 then 26 else 27
def R0(k n:Nat):cM:=(List.range k).map λi=>UInt8.ofNat (n/2 ^ (8*(k - 1 - i)))
def Oh(m:Int)(n:Nat):cM:=if 0<=m/\m<=7 then UInt8.ofNat (32*m.toNat+yN n)::R0 (Gz n) n else []
theorem KD(n:Nat):Gz n<=8:=by unfold Gz;repeat (first|omega|split)
theorem zO(k n:Nat):(R0 k n).length=k:=by simp[R0]
theorem KE(m:Int)(n:Nat):(Oh m n).length<=9:=by
 unfold Oh;split
 .rw[bf,zO];have:=KD n;omega
 .simp
def R2(l:cM):Nat:=l.foldl (λv b=>v*256+b.toNat) 0
theorem GA(l:cM)(b:UInt8):R2 (l++ [b])=R2 l*256+b.toNat:=by simp[R2]
theorem Oi(l:cM):R2 l<256 ^ l.length:=by
 suffices h: ∀(n:Nat)(l:cM),l.length=n->R2 l<256 ^ n from h _ l rfl
 intro n;induction n with
 |zero=>intro l H;rw[gW.1 H];simp[R2]
 |succ n i=>
  intro l H;obtain⟨a,b,rfl⟩: ∃a b,l=a++ [b]:=⟨l.dropLast,l.getLast (by intro e;rw[e]at H;simp at H),(List.dropLast_concat_getLast _).symm⟩;rw[au]at H;have:=i a (cI H);rw[GA,Nat.pow_succ];have:=b.toNat_lt;omega
def rN(m:Nat):Bool:=decide (2<=m/\m<=5)||decide (m=7)
def FM(b:cM)(pos:Nat):Except Int (Nat×Nat×Bool×Nat):=
 match b[pos]? with
 |none=> .error 8
 |some x=>
  if x.toNat%32<24 then .ok (x.toNat/32,x.toNat%32,false,pos+1)
  else if x.toNat%32=31/\rN (x.toNat/32)=true then .ok (x.toNat/32,0,true,pos+1)
  else if x.toNat%32>27 then .error 3
  else if pos+1+2 ^ (x.toNat%32 - 24)>b.length then .error 8
  else .ok (x.toNat/32,R2 ((b.drop (pos+1)).take (2 ^ (x.toNat%32 - 24))),false,pos+1+2 ^ (x.toNat%32 - 24))
theorem wZ{b:cM}{pos m n a:Nat}{o:Bool}(h:FM b pos=.ok (m,n,o,a)):pos<a/\a<=b.length/\n<18446744073709551616/\m<8/\pos<b.length:=by
 unfold FM at h;split at h
 .cases h
 .rename_i x f;have d:=(aE.1 f).1;have:=x.toNat_lt;split at h
  .cases h;omega
  .split at h
   .cases h;omega
   .split at h
    .cases h
    .split at h
     .cases h
     .rename_i H g i j;cases h;have c:=Oi ((b.drop (pos+1)).take (2 ^ (x.toNat%32 - 24)));have:((b.drop (pos+1)).take (2 ^ (x.toNat%32 - 24))).length<=8:=by
       rw[bw];have:x.toNat%32 - 24=0\/x.toNat%32 - 24=1\/x.toNat%32 - 24=2\/x.toNat%32 - 24=3:=ae
       rcases this with e|e|e|e<;>rw[e]<;>omega
      have:=gv (n:=256) ae this;have H:1<=2 ^ (x.toNat%32 - 24):=Nat.one_le_two_pow;refine⟨ae,ae,?_,ae,d⟩
      calc _<_:=c
       _<=_:=this
       _=18446744073709551616:=dN
def nI(V:cM->Bool)(b:cM)(pos m n:Nat):Except Int (cM):=
 if n<=b.length - pos then(if m≠3\/V ((b.drop pos).take n)=true then .ok ((b.drop pos).take n)else .error 3)else .error 8
def vB(b:cM)(pos:Nat):Bool:=match b[pos]? with|some x=>decide (x.toNat=255)|none=>false
def GC(V:cM->Bool)(b:cM)(m:Nat):Nat->Nat->cM->Except Int (cM×Nat)
 |0,_,_=> .error 8
 |k+1,pos,a=>if vB b pos=true then .ok (a,pos+1)else match FM b pos with
  | .error e=> .error e
  | .ok (M,n,o,c)=>if M=m/\o=false then(match nI V b c M n with| .error e=> .error e| .ok w=>GC V b m k (c+n) (a++w))else .error 3
def ED(V:cM->Bool)(b:cM)(pos m n:Nat)(o:Bool):Except Int (cM×Nat):=
 match o with
 |true=>GC V b m (b.length+1) pos []
 |false=>match nI V b pos m n with| .error e=> .error e| .ok w=> .ok (w,pos+n)
abbrev RF:=Nat->Nat->Except Int (Tr×Nat×Nat)
def yw(b:cM)(f:RF):Nat->Nat->Nat->List Tr->Except Int (List Tr×Nat×Nat)
 |0,_,_,_=> .error 8
 |k+1,pos,left,T=>if vB b pos=true then .ok (T,pos+1,left)else match f pos left with
  | .error e=> .error e
  | .ok (t,n,lf)=>yw b f k n lf (T++ [t])
def vC(f:RF):Nat->Nat->Nat->List Tr->Except Int (List Tr×Nat×Nat)
 |0,pos,left,T=> .ok (T,pos,left)
 |k+1,pos,left,T=>match f pos left with
  | .error e=> .error e
  | .ok (t,n,lf)=>vC f k n lf (T++ [t])
def oy(b:cM)(f:RF)(pos left n:Nat)(o:Bool):Except Int (List Tr×Nat×Nat):=
 match o with
 |true=>yw b f (b.length+1) pos left []
 |false=>if n<=b.length - pos then vC f n pos left []else .error 8
def ig(V : cM -> Bool)(b : cM): Nat -> RF
  | lv, pos, left => match FM b pos with
    | .error e => .error e
    | .ok (m, n, o, a) => if m = 0 \/ m = 2 \/ m = 3 \/ m = 4 then (match lv with
      | 0 => .error 9
      | lv + 1 => if left = 0 then .error 2 else if m = 0 then .ok (num n, a, left - 1)
        else if m = 4 then (match oy b (ig V b lv) a (left - 1) n o with | .error e => .error e | .ok (t, p, lf) => .ok (sX t, p, lf))
        else (match ED V b a m n o with | .error e => .error e | .ok (w, p) => .ok (.mk m 0 w [], p, left - 1))) else .error 3
def mK(V:cM->Bool)(b:cM):Except Int (Tr×Nat):=match ig V b 6 0 256 with| .error e=> .error e| .ok (t,n,_)=> .ok (t,n)
mutual
def room:Tr->Nat
 | .mk _ _ b l=>9+b.length+dK l
def dK:List Tr->Nat
 | []=>0
 |t::ts=>room t+dK ts
end
-- W9 deep an item is
mutual
def deep:Tr->Nat
 | .mk _ _ _ l=>1+KF l
def KF:List Tr->Nat
 | []=>0
 |t::ts=>max (deep t) (KF ts)
end
theorem iW{a b:List Tr}:dK (a++b)=dK a+dK b:=by
 induction a with
 |nil=>simp[dK]
 |cons t a i=>simp only[eJ,dK,i];omega
theorem sL{t:Tr}{l:List Tr}(h:t∈l):deep t<=KF l:=by
 induction l with
 |nil=>cases h
 |cons u l i=>
  simp only[KF];rcases bK.1 h with rfl|h
  .omega
  .have:=i h;omega
def yt(k:Int)(n:Nat)(b:cM)(l:List Tr):Nat:=if k=2\/k=3 then b.length else if k=4 then l.length else n
mutual
def enc:Tr->cM
 | .mk k n b l=>Oh k (yt k n b l)++b++yO l
def yO:List Tr->cM
 | []=> []
 |t::ts=>enc t++yO ts
end
mutual
theorem lB: ∀(t:Tr),(enc t).length<=room t
 | .mk k n b l=>by
  simp only[enc,room,List.length_append];have:=KE k (yt k n b l);have:=AH l;omega
theorem AH: ∀(l:List Tr),(yO l).length<=dK l
 | []=>Nat.zero_le _
 |t::ts=>by
  simp only[yO,dK,List.length_append];have:=lB t;have:=AH ts;omega
end
theorem LC(l:List Tr)(t:Tr):yO (l++ [t])=yO l++enc t:=by
 induction l with
 |nil=>simp[yO]
 |cons u l i=>simp only[eJ,yO,i,di]
theorem QM{V:cM->Bool}{b:cM}{m:Nat}: ∀(k pos:Nat)(a w:cM)(n:Nat),pos<=b.length->GC V b m k pos a=.ok (w,n)->w.length+pos<=a.length+n/\pos<n/\n<=b.length:=by
 intro k;induction k with
 |zero=>intro pos a w n _ h;cases h
 |succ k i=>
  intro pos a w n g h;unfold GC at h;split at h
  .rename_i c;cases h;unfold vB at c;split at c
   .rename_i x e;have:=(aE.1 e).1;omega
   .cases c
  .split at h
   .cases h
   .rename_i M j o l d;have f:=wZ d;split at h
    .split at h
     .cases h
     .rename_i v H;unfold nI at H;split at H
      .split at H
       .cases H;have:=i _ _ _ _ ae h;rw[au,bw,bT]at this;omega
       .cases H
      .cases H
    .cases h
def SJ(b:cM)(f:RF):Prop:= ∀pos left t n lf,pos<=b.length->f pos left=.ok (t,n,lf)->room t<=10*(n - pos)/\pos<n/\n<=b.length/\lf<=left
theorem Oj{b:cM}{f:RF}(c:SJ b f): ∀(k pos left:Nat)(T u:List Tr)(n lf:Nat),pos<=b.length->yw b f k pos left T=.ok (u,n,lf)->dK u+10*pos<=dK T+10*n/\pos<=n/\n<=b.length/\lf<=left:=by
 intro k;induction k with
 |zero=>intro pos left T u n lf _ h;cases h
 |succ k i=>
  intro pos left T u n lf e h;unfold yw at h;split at h
  .rename_i H;cases h;unfold vB at H;split at H
   .rename_i x g;have:=(aE.1 g).1;omega
   .cases H
  .split at h
   .cases h
   .rename_i t m l d;have j:=c _ _ _ _ _ e d;have a:=i _ _ _ _ _ _ ae h;rw[iW]at a;simp only[dK]at a;omega
theorem Ol{b:cM}{f:RF}(a:SJ b f): ∀(k pos left:Nat)(T u:List Tr)(n lf:Nat),pos<=b.length->vC f k pos left T=.ok (u,n,lf)->dK u+10*pos<=dK T+10*n/\pos<=n/\n<=b.length/\lf<=left:=by
 intro k;induction k with
 |zero=>intro pos left T u n lf _ h;cases h;omega
 |succ k i=>
  intro pos left T u n lf d h;unfold vC at h;split at h
  .cases h
  .rename_i t g l c;have e:=a _ _ _ _ _ d c;have H:=i _ _ _ _ _ _ ae h;rw[iW]at H;simp only[dK]at H;omega
theorem GD{V:cM->Bool}{B:cM}: ∀l,SJ B (ig V B l):=by
 intro l;induction l with
 |zero=>
  intro pos left t a lf f h;unfold ig at h;split at h
  .cases h
  .split at h<;>cases h
 |succ l i=>
  intro pos left t a lf f h;unfold ig at h;split at h
  .cases h
  .rename_i m n o d e;have g:=wZ e;split at h
   .dsimp only at h;split at h
    .cases h
    .split at h
     .cases h;simp only[room,dK,bG];omega
     .split at h
      .split at h
       .cases h
       .rename_i T p L H;cases h;have:dK T+10*d<=10*a/\d<=a/\a<=B.length/\lf<=left - 1:=by
         unfold oy at H;split at H
         .have:=Oj i _ _ _ _ _ _ _ ae H;simpa[dK]using this
         .split at H
          .have:=Ol i _ _ _ _ _ _ _ ae H;simpa[dK]using this
          .cases H
        simp only[room,bG];omega
      .split at h
       .cases h
       .rename_i w p b;cases h;have:w.length+d<=a/\d<=a/\a<=B.length:=by
         unfold ED at b;split at b
         .have:=QM _ _ _ _ _ ae b;simp only[bG]at this;omega
         .split at b
          .cases b
          .rename_i v c;cases b;unfold nI at c;split at c
           .split at c
            .cases c;rw[bw,bT];omega
            .cases c
           .cases c
        simp only[room,dK];omega
   .cases h
theorem EE{b:cM}{pos:Nat}{e:Int}(h:FM b pos=.error e):e≠0:=by
 unfold FM at h;repeat (first|decide|cases h|split at h)
theorem AI{V:cM->Bool}{b:cM}{pos m n:Nat}{e:Int}(h:nI V b pos m n=.error e):e≠0:=by
 unfold nI at h;repeat (first|decide|cases h|split at h)
theorem Om{V:cM->Bool}{b:cM}{m:Nat}{e:Int}: ∀(k pos:Nat)(a:cM),GC V b m k pos a=.error e->e≠0:=by
 intro k;induction k with
 |zero=>intro pos a h;cases h;decide
 |succ k i=>
  intro pos a h;unfold GC at h;split at h
  .cases h
  .split at h
   .rename_i H;cases h;exact EE H
   .split at h
    .split at h
     .rename_i H;cases h;exact AI H
     .exact i _ _ h
    .cases h;decide
def V4(f:RF):Prop:= ∀pos left e,f pos left=.error e->e≠0
theorem LF{b:cM}{f:RF}(a:V4 f){pos left n:Nat}{o:Bool}{e:Int}(h:oy b f pos left n o=.error e):e≠0:=by
 have O: ∀(k pos left:Nat)(t:List Tr),yw b f k pos left t=.error e->e≠0:=by
  intro k;induction k with
  |zero=>intro pos left t h;cases h;decide
  |succ k i=>
   intro pos left t h;unfold yw at h;split at h
   .cases h
   .split at h
    .rename_i H;cases h;exact a _ _ _ H
    .exact i _ _ _ h
 have m: ∀(k pos left:Nat)(t:List Tr),vC f k pos left t=.error e->e≠0:=by
  intro k;induction k with
  |zero=>intro pos left t h;cases h
  |succ k i=>
   intro pos left t h;unfold vC at h;split at h
   .rename_i H;cases h;exact a _ _ _ H
   .exact i _ _ _ h
 unfold oy at h;split at h
 .exact O _ _ _ _ h
 .split at h
  .exact m _ _ _ _ h
  .cases h;decide
theorem LG{V:cM->Bool}{b:cM}: ∀l,V4 (ig V b l):=by
 intro l;induction l with
 |zero=>
  intro pos left e h;unfold ig at h;split at h
  .rename_i H;cases h;exact EE H
  .split at h<;>(cases h;decide)
 |succ l i=>
  intro pos left e h;unfold ig at h;split at h
  .rename_i H;cases h;exact EE H
  .split at h
   .dsimp only at h;split at h
    .cases h;decide
    .split at h
     .cases h
     .split at h
      .split at h
       .rename_i H;cases h;exact LF i H
       .cases h
      .split at h
       .rename_i H;cases h;unfold ED at H;split at H
        .exact Om _ _ _ H
        .split at H
         .rename_i a;cases H;exact AI a
         .cases H
       .cases h
   .cases h;decide
theorem nk{V:cM->Bool}{b:cM}{e:Int}(h:mK V b=.error e):e≠0:=by
 unfold mK at h;split at h
 .rename_i H;cases h;exact LG 6 _ _ _ H
 .cases h
theorem rO{V:cM->Bool}{b:cM}{t:Tr}{n:Nat}(h:mK V b=.ok (t,n)):room t<=10*b.length/\n<=b.length:=by
 unfold mK at h;split at h
 .cases h
 .rename_i t a lf H;cases h;have:=GD 6 _ _ _ _ _ (bL _) H;omega
end Cb
end
abbrev Cl:=ny Tryz.prog
abbrev Ce:=iQ Tryz.prog
abbrev I1:List Nat:= [208,267,268,269,270,300]
abbrev cQ.LD(h:aj)(a:Addr)(K:ck->Nat->Nat->ck->Nat->Nat->ck->Nat->Nat->ck->Nat->Nat->Prop):Prop:=mJ h a λe d c=>mJ h (a.add 1) λi g f=>mJ h (a.add 2) λl k j=> ∃b T t,aY h (a.add 3)=some (.slice b T t)/\K e d c i g f l k j b T t
abbrev cQ.ST(h:aj)(a:Addr)(b:ck)(F f:Nat)(e:ck)(d c:Nat)(j:ck)(i g:Nat)(m:ck)(l k:Nat)(K:aj->Prop):Prop:=aT h a (.slice b F f) λH=>aT H (a.add 1) (.slice e d c) λn=>aT n (a.add 2) (.slice j i g) λo=>aT o (a.add 3) (.slice m l k) λp=>K p
abbrev aa.LD(h:aj)(a:Addr)(K:Int->Int->ck->Nat->Nat->ck->Nat->Nat->Prop):Prop:=kR h a λc=>gK h (a.add 1) λd=>mJ h (a.add 2) λg f e=> ∃b T t,aY h (a.add 3)=some (.slice b T t)/\K c d g f e b T t
abbrev aa.ST(h:aj)(a:Addr)(f:Int)(F:Int)(d:ck)(c b:Nat)(i:ck)(g e:Nat)(K:aj->Prop):Prop:=aT h a (.int .i64 f) λH=>aT H (a.add 1) (.int .u64 F) λj=>aT j (a.add 2) (.slice d c b) λk=>aT k (a.add 3) (.slice i g e) λl=>K l
abbrev aQ.LD(h:aj)(a:Addr)(K:Int->Bool->Int->Int->ByteArray->ByteArray->ck->Nat->Nat->Int->Int->Int->Prop):Prop:=kR h a λT=>uu h (a.add 1) λb=>gK h (a.add 2) λc=>gK h (a.add 3) λd=>ot h (a.add 4) λe=>ot h (a.add 5) λf=>mJ h (a.add 6) λj i g=>gK h (a.add 7) λk=>kR h (a.add 8) λl=> ∃t,aY h (a.add 9)=some (.int .u64 t)/\K T b c d e f j i g k l t
abbrev aQ.ST(h:aj)(a:Addr)(f:Int)(F:Bool)(b:Int)(c:Int)(d:ByteArray)(e:ByteArray)(j:ck)(i g:Nat)(k:Int)(l:Int)(m:Int)(K:aj->Prop):Prop:=aT h a (.int .i64 f) λH=>aT H (a.add 1) (.bool F) λo=>aT o (a.add 2) (.int .u64 b) λp=>aT p (a.add 3) (.int .u64 c) λq=>aT q (a.add 4) (.string d) λr=>aT r (a.add 5) (.string e) λs=>aT s (a.add 6) (.slice j i g) λt=>aT t (a.add 7) (.int .u64 k) λu=>aT u (a.add 8) (.int .i64 l) λv=>aT v (a.add 9) (.int .u64 m) λn=>K n
abbrev az.LD(h:aj)(a:Addr)(K:Bool->Int->Int->ByteArray->ByteArray->Prop):Prop:=uu h a λT=>gK h (a.add 1) λb=>gK h (a.add 2) λc=>ot h (a.add 3) λd=> ∃t,aY h (a.add 4)=some (.string t)/\K T b c d t
abbrev bJ.LD(h:aj)(a:Addr)(K:Int->Int->Bool->Prop):Prop:=kR h a λT=>gK h (a.add 1) λb=> ∃t,aY h (a.add 2)=some (.bool t)/\K T b t
abbrev bJ.ST(h:aj)(a:Addr)(f:Int)(F:Int)(b:Bool)(K:aj->Prop):Prop:=aT h a (.int .i64 f) λH=>aT H (a.add 1) (.int .u64 F) λc=>aT c (a.add 2) (.bool b) λd=>K d
abbrev ah.LD(h:aj)(a:Addr)(K:Bool->Int->Int->ByteArray->ByteArray->Int->Int->Prop):Prop:=uu h a λT=>gK h (a.add 1) λb=>gK h (a.add 2) λc=>ot h (a.add 3) λd=>ot h (a.add 4) λe=>gK h (a.add 5) λf=> ∃t,aY h (a.add 6)=some (.int .u64 t)/\K T b c d e f t
abbrev ah.ST(h:aj)(a:Addr)(f:Bool)(F:Int)(b:Int)(c:ByteArray)(d:ByteArray)(e:Int)(g:Int)(K:aj->Prop):Prop:=aT h a (.bool f) λH=>aT H (a.add 1) (.int .u64 F) λi=>aT i (a.add 2) (.int .u64 b) λj=>aT j (a.add 3) (.string c) λk=>aT k (a.add 4) (.string d) λl=>aT l (a.add 5) (.int .u64 e) λm=>aT m (a.add 6) (.int .u64 g) λn=>K n
abbrev aJ.LD(h:aj)(a:Addr)(K:Int->Int->ck->Nat->Nat->Int->Prop):Prop:=kR h a λT=>kR h (a.add 1) λb=>mJ h (a.add 2) λe d c=> ∃t,aY h (a.add 3)=some (.int .u64 t)/\K T b e d c t
abbrev aJ.ST(h:aj)(a:Addr)(f:Int)(F:Int)(d:ck)(c b:Nat)(e:Int)(K:aj->Prop):Prop:=aT h a (.int .i64 f) λH=>aT H (a.add 1) (.int .i64 F) λg=>aT g (a.add 2) (.slice d c b) λi=>aT i (a.add 3) (.int .u64 e) λj=>K j
abbrev bB.LD(h:aj)(a:Addr)(K:Bool->Int->Int->ByteArray->ByteArray->Int->Int->Prop):Prop:=uu h a λT=>gK h (a.add 1) λb=>gK h (a.add 2) λc=>ot h (a.add 3) λd=>ot h (a.add 4) λe=>kR h (a.add 5) λf=> ∃t,aY h (a.add 6)=some (.int .i64 t)/\K T b c d e f t
abbrev bB.ST(h:aj)(a:Addr)(f:Bool)(F:Int)(b:Int)(c:ByteArray)(d:ByteArray)(e:Int)(g:Int)(K:aj->Prop):Prop:=aT h a (.bool f) λH=>aT H (a.add 1) (.int .u64 F) λi=>aT i (a.add 2) (.int .u64 b) λj=>aT j (a.add 3) (.string c) λk=>aT k (a.add 4) (.string d) λl=>aT l (a.add 5) (.int .i64 e) λm=>aT m (a.add 6) (.int .i64 g) λn=>K n
abbrev ar.LD(h:aj)(a:Addr)(K:Int->Int->Int->Int->Int->ck->Nat->Nat->Prop):Prop:=gK h a λc=>kR h (a.add 1) λd=>kR h (a.add 2) λe=>kR h (a.add 3) λf=>gK h (a.add 4) λg=> ∃b T t,aY h (a.add 5)=some (.slice b T t)/\K c d e f g b T t
abbrev ar.ST(h:aj)(a:Addr)(f:Int)(F:Int)(b:Int)(c:Int)(d:Int)(i:ck)(g e:Nat)(K:aj->Prop):Prop:=aT h a (.int .u64 f) λH=>aT H (a.add 1) (.int .i64 F) λj=>aT j (a.add 2) (.int .i64 b) λk=>aT k (a.add 3) (.int .i64 c) λl=>aT l (a.add 4) (.int .u64 d) λm=>aT m (a.add 5) (.slice i g e) λn=>K n
abbrev cj.LD(h:aj)(a:Addr)(K:Int->ck->Nat->Nat->Prop):Prop:=gK h a λc=> ∃b T t,aY h (a.add 1)=some (.slice b T t)/\K c b T t
abbrev cj.ST(h:aj)(a:Addr)(f:Int)(c:ck)(b F:Nat)(K:aj->Prop):Prop:=aT h a (.int .u64 f) λH=>aT H (a.add 1) (.slice c b F) λd=>K d
abbrev cG.LD(h:aj)(a:Addr)(K:Int->Int->Bool->Bool->ck->Nat->Nat->ck->Nat->Nat->Prop):Prop:=kR h a λc=>gK h (a.add 1) λd=>uu h (a.add 2) λe=>uu h (a.add 3) λf=>mJ h (a.add 4) λj i g=> ∃b T t,aY h (a.add 5)=some (.slice b T t)/\K c d e f j i g b T t
abbrev cG.ST(h:aj)(a:Addr)(f:Int)(F:Int)(b:Bool)(c:Bool)(g:ck)(e d:Nat)(k:ck)(j i:Nat)(K:aj->Prop):Prop:=aT h a (.int .i64 f) λH=>aT H (a.add 1) (.int .u64 F) λl=>aT l (a.add 2) (.bool b) λm=>aT m (a.add 3) (.bool c) λn=>aT n (a.add 4) (.slice g e d) λo=>aT o (a.add 5) (.slice k j i) λp=>K p
structure cF.S where
 f0:Int
 f1:Int
 f2:Bool
 f3:Int
 f4:Int
 f5:ByteArray
 f6:ByteArray
 f7:Bool
 f8:Int
 f9:Int
 f10:ByteArray
 f11:ByteArray
 f12:Bool
 f13:Int
 f14:Int
 f15:ByteArray
 f16:ByteArray
 f17:Int
 f18:Int
 f19:Int
 QN:ck
 I2:Nat
 QO:Nat
 f21:ck
 U7:ck
 U9:Nat
 Va:Nat
abbrev cF.S.l(x:cF.S):List Value:= [.int .u64 x.f0,.int .i64 x.f1,.bool x.f2,.int .u64 x.f3,.int .u64 x.f4,.string x.f5,.string x.f6,.bool x.f7,.int .u64 x.f8,.int .u64 x.f9,.string x.f10,.string x.f11,.bool x.f12,.int .u64 x.f13,.int .u64 x.f14,.string x.f15,.string x.f16,.int .u64 x.f17,.int .u64 x.f18,.int .u64 x.f19,.slice x.QN x.I2 x.QO,.pointer x.f21,.slice x.U7 x.U9 x.Va]
abbrev cF.S.arr(x:cF.S):Array Value:=x.l.toArray
abbrev cF.S.agg(x:cF.S):Value:=.agg x.arr
abbrev cF.S.z:cF.S:=⟨0,0,false,0,0,(⟨#[]⟩:ByteArray),(⟨#[]⟩:ByteArray),false,0,0,(⟨#[]⟩:ByteArray),(⟨#[]⟩:ByteArray),false,0,0,(⟨#[]⟩:ByteArray),(⟨#[]⟩:ByteArray),0,0,0,none,0,0,none,none,0,0⟩ abbrev cF.NW (h:aj) (K:Nat->aj->Prop):Prop:=bh h (.cells cF.S.z.arr 188) K
abbrev cF.EX(K:cF.S->Prop):Prop:= ∃t T k s u v w x y z a b c d e f g h i j n m l o r q p,K ⟨t,T,k,s,u,v,w,x,y,z,a,b,c,d,e,f,g,h,i,j,n,m,l,o,r,q,p⟩
abbrev cF.cN(h:aj)(a:Addr)(K:cF.S->Prop):Prop:=gK h a λc=>kR h (a.add 1) λd=>uu h (a.add 2) λp=>gK h (a.add 3) λv=>gK h (a.add 4) λw=>ot h (a.add 5) λx=>ot h (a.add 6) λy=>uu h (a.add 7) λz=>gK h (a.add 8) λA=>gK h (a.add 9) λB=>ot h (a.add 10) λe=>ot h (a.add 11) λf=>uu h (a.add 12) λg=>gK h (a.add 13) λi=>gK h (a.add 14) λj=>ot h (a.add 15) λk=>ot h (a.add 16) λl=>gK h (a.add 17) λm=>gK h (a.add 18) λn=>gK h (a.add 19) λo=>mJ h (a.add 20) λs r q=>zM h (a.add 21) λu=> ∃b T t,aY h (a.add 22)=some (.slice b T t)/\K ⟨c,d,p,v,w,x,y,z,A,B,e,f,g,i,j,k,l,m,n,o,s,r,q,u,b,T,t⟩
structure cz.S where
 f0:Int
 f1:Int
 f2:Bool
 f3:Int
 f4:Int
 f5:ByteArray
 f6:ByteArray
 f7:Bool
 f8:Int
 f9:Int
 f10:ByteArray
 f11:ByteArray
 f12:Int
 f13:Int
 f14:Int
 QP:ck
 On:Nat
 QQ:Nat
 f16:Int
 f17:Int
 f18:Bool
 f19:ck
 f20:Int
abbrev cz.S.l(x:cz.S):List Value:= [.int .u64 x.f0,.int .i64 x.f1,.bool x.f2,.int .u64 x.f3,.int .u64 x.f4,.string x.f5,.string x.f6,.bool x.f7,.int .u64 x.f8,.int .u64 x.f9,.string x.f10,.string x.f11,.int .i64 x.f12,.int .i64 x.f13,.int .i64 x.f14,.slice x.QP x.On x.QQ,.int .u64 x.f16,.int .u64 x.f17,.bool x.f18,.pointer x.f19,.int .i64 x.f20]
abbrev cz.S.arr(x:cz.S):Array Value:=x.l.toArray
abbrev cz.S.agg(x:cz.S):Value:=.agg x.arr
abbrev cz.S.z:cz.S:=⟨0,0,false,0,0,(⟨#[]⟩:ByteArray),(⟨#[]⟩:ByteArray),false,0,0,(⟨#[]⟩:ByteArray),(⟨#[]⟩:ByteArray),0,0,0,none,0,0,0,0,false,none,0⟩ abbrev cz.NW (h:aj) (K:Nat->aj->Prop):Prop:=bh h (.cells cz.S.z.arr 181) K
abbrev cz.EX(K:cz.S->Prop):Prop:= ∃t T m o p q r s u v a b c d e h g f i j k l n,K ⟨t,T,m,o,p,q,r,s,u,v,a,b,c,d,e,h,g,f,i,j,k,l,n⟩
abbrev cz.cN(h:aj)(a:Addr)(K:cz.S->Prop):Prop:=gK h a λT=>kR h (a.add 1) λb=>uu h (a.add 2) λp=>gK h (a.add 3) λq=>gK h (a.add 4) λr=>ot h (a.add 5) λs=>ot h (a.add 6) λu=>uu h (a.add 7) λv=>gK h (a.add 8) λw=>gK h (a.add 9) λx=>ot h (a.add 10) λc=>ot h (a.add 11) λd=>kR h (a.add 12) λe=>kR h (a.add 13) λf=>kR h (a.add 14) λg=>mJ h (a.add 15) λk j i=>gK h (a.add 16) λl=>gK h (a.add 17) λm=>uu h (a.add 18) λn=>zM h (a.add 19) λo=> ∃t,aY h (a.add 20)=some (.int .i64 t)/\K ⟨T,b,p,q,r,s,u,v,w,x,c,d,e,f,g,k,j,i,l,m,n,o,t⟩
structure av.S where
 f0:Int
 f1:Int
 f2:Bool
 f3:Int
 f4:Int
 f5:ByteArray
 f6:ByteArray
 f7:Bool
 f8:Int
 f9:Int
 f10:ByteArray
 f11:ByteArray
 f12:Bool
 f13:Int
 f14:Int
 f15:ByteArray
 f16:ByteArray
 f17:Int
 f18:Int
 f19:Int
 QN:ck
 I2:Nat
 QO:Nat
abbrev av.S.l(x:av.S):List Value:= [.int .u64 x.f0,.int .i64 x.f1,.bool x.f2,.int .u64 x.f3,.int .u64 x.f4,.string x.f5,.string x.f6,.bool x.f7,.int .u64 x.f8,.int .u64 x.f9,.string x.f10,.string x.f11,.bool x.f12,.int .u64 x.f13,.int .u64 x.f14,.string x.f15,.string x.f16,.int .u64 x.f17,.int .u64 x.f18,.int .u64 x.f19,.slice x.QN x.I2 x.QO]
abbrev av.S.arr(x:av.S):Array Value:=x.l.toArray
abbrev av.S.agg(x:av.S):Value:=.agg x.arr
abbrev av.S.z:av.S:=⟨0,0,false,0,0,(⟨#[]⟩:ByteArray),(⟨#[]⟩:ByteArray),false,0,0,(⟨#[]⟩:ByteArray),(⟨#[]⟩:ByteArray),false,0,0,(⟨#[]⟩:ByteArray),(⟨#[]⟩:ByteArray),0,0,0,none,0,0⟩ abbrev av.NW (h:aj) (K:Nat->aj->Prop):Prop:=bh h (.cells av.S.z.arr 76) K
abbrev av.EX(K:av.S->Prop):Prop:= ∃t T k o p q r s u v a b c d e f g h i j n m l,K ⟨t,T,k,o,p,q,r,s,u,v,a,b,c,d,e,f,g,h,i,j,n,m,l⟩
abbrev av.cN(h:aj)(a:Addr)(K:av.S->Prop):Prop:=gK h a λc=>kR h (a.add 1) λd=>uu h (a.add 2) λp=>gK h (a.add 3) λq=>gK h (a.add 4) λr=>ot h (a.add 5) λs=>ot h (a.add 6) λu=>uu h (a.add 7) λv=>gK h (a.add 8) λw=>gK h (a.add 9) λx=>ot h (a.add 10) λe=>ot h (a.add 11) λf=>uu h (a.add 12) λg=>gK h (a.add 13) λi=>gK h (a.add 14) λj=>ot h (a.add 15) λk=>ot h (a.add 16) λl=>gK h (a.add 17) λm=>gK h (a.add 18) λn=>gK h (a.add 19) λo=> ∃b T t,aY h (a.add 20)=some (.slice b T t)/\K ⟨c,d,p,q,r,s,u,v,w,x,e,f,g,i,j,k,l,m,n,o,b,T,t⟩
abbrev av.dw(h:aj)(a:Addr)(x:av.S)(K:aj->Prop):Prop:=dO a x.l 0 h K
structure aA.S where
 f0:Int
 f1:Int
 f2:Int
 f3:Int
 LH:ck
 LI:Nat
 LJ:Nat
abbrev aA.S.l(x:aA.S):List Value:= [.int .u64 x.f0,.int .u64 x.f1,.int .u64 x.f2,.int .i64 x.f3,.slice x.LH x.LI x.LJ]
abbrev aA.S.arr(x:aA.S):Array Value:=x.l.toArray
abbrev aA.S.agg(x:aA.S):Value:=.agg x.arr
abbrev aA.S.z:aA.S:=⟨0,0,0,0,none,0,0⟩ abbrev aA.NW (h:aj) (K:Nat->aj->Prop):Prop:=bh h (.cells aA.S.z.arr 127) K
abbrev aA.EX(K:aA.S->Prop):Prop:= ∃t T a b e d c,K ⟨t,T,a,b,e,d,c⟩
abbrev aA.cN(h:aj)(a:Addr)(K:aA.S->Prop):Prop:=gK h a λc=>gK h (a.add 1) λd=>gK h (a.add 2) λe=>kR h (a.add 3) λf=> ∃b T t,aY h (a.add 4)=some (.slice b T t)/\K ⟨c,d,e,f,b,T,t⟩
abbrev aA.dw(h:aj)(a:Addr)(x:aA.S)(K:aj->Prop):Prop:=dO a x.l 0 h K
structure aa.S where
 f0:Int
 f1:Int
 Vc:ck
 UK:Nat
 Vd:Nat
 SK:ck
 FN:Nat
 Qy:Nat
abbrev aa.S.l(x:aa.S):List Value:= [.int .i64 x.f0,.int .u64 x.f1,.slice x.Vc x.UK x.Vd,.slice x.SK x.FN x.Qy]
abbrev aa.S.arr(x:aa.S):Array Value:=x.l.toArray
abbrev aa.S.agg(x:aa.S):Value:=.agg x.arr
abbrev aa.S.z:aa.S:=⟨0,0,none,0,0,none,0,0⟩ abbrev aa.NW (h:aj) (K:Nat->aj->Prop):Prop:=bh h (.cells aa.S.z.arr 167) K
abbrev aa.EX(K:aa.S->Prop):Prop:= ∃t T c b a f e d,K ⟨t,T,c,b,a,f,e,d⟩
abbrev aa.cN(h:aj)(a:Addr)(K:aa.S->Prop):Prop:=kR h a λc=>gK h (a.add 1) λd=>mJ h (a.add 2) λg f e=> ∃b T t,aY h (a.add 3)=some (.slice b T t)/\K ⟨c,d,g,f,e,b,T,t⟩
abbrev aa.dw(h:aj)(a:Addr)(x:aa.S)(K:aj->Prop):Prop:=dO a x.l 0 h K
structure aQ.S where
 f0:Int
 f1:Bool
 f2:Int
 f3:Int
 f4:ByteArray
 f5:ByteArray
 Iy:ck
 V5:Nat
 Iz:Nat
 f7:Int
 f8:Int
 f9:Int
abbrev aQ.S.l(x:aQ.S):List Value:= [.int .i64 x.f0,.bool x.f1,.int .u64 x.f2,.int .u64 x.f3,.string x.f4,.string x.f5,.slice x.Iy x.V5 x.Iz,.int .u64 x.f7,.int .i64 x.f8,.int .u64 x.f9]
abbrev aQ.S.arr(x:aQ.S):Array Value:=x.l.toArray
abbrev aQ.S.agg(x:aQ.S):Value:=.agg x.arr
abbrev aQ.S.z:aQ.S:=⟨0,false,0,0,(⟨#[]⟩:ByteArray),(⟨#[]⟩:ByteArray),none,0,0,0,0,0⟩ abbrev aQ.NW (h:aj) (K:Nat->aj->Prop):Prop:=bh h (.cells aQ.S.z.arr 194) K
abbrev aQ.EX(K:aQ.S->Prop):Prop:= ∃t T a b c d g f e h i j,K ⟨t,T,a,b,c,d,g,f,e,h,i,j⟩
abbrev aQ.cN(h:aj)(a:Addr)(K:aQ.S->Prop):Prop:=kR h a λT=>uu h (a.add 1) λb=>gK h (a.add 2) λc=>gK h (a.add 3) λd=>ot h (a.add 4) λe=>ot h (a.add 5) λf=>mJ h (a.add 6) λj i g=>gK h (a.add 7) λk=>kR h (a.add 8) λl=> ∃t,aY h (a.add 9)=some (.int .u64 t)/\K ⟨T,b,c,d,e,f,j,i,g,k,l,t⟩
abbrev aQ.dw(h:aj)(a:Addr)(x:aQ.S)(K:aj->Prop):Prop:=dO a x.l 0 h K
structure az.S where
 f0:Bool
 f1:Int
 f2:Int
 f3:ByteArray
 f4:ByteArray
abbrev az.S.l(x:az.S):List Value:= [.bool x.f0,.int .u64 x.f1,.int .u64 x.f2,.string x.f3,.string x.f4]
abbrev az.S.arr(x:az.S):Array Value:=x.l.toArray
abbrev az.S.agg(x:az.S):Value:=.agg x.arr
abbrev az.S.z:az.S:=⟨false,0,0,(⟨#[]⟩:ByteArray),(⟨#[]⟩:ByteArray)⟩ abbrev az.NW (h:aj) (K:Nat->aj->Prop):Prop:=bh h (.cells az.S.z.arr 25) K
abbrev az.EX(K:az.S->Prop):Prop:= ∃t T a b c,K ⟨t,T,a,b,c⟩
abbrev az.cN(h:aj)(a:Addr)(K:az.S->Prop):Prop:=uu h a λT=>gK h (a.add 1) λb=>gK h (a.add 2) λc=>ot h (a.add 3) λd=> ∃t,aY h (a.add 4)=some (.string t)/\K ⟨T,b,c,d,t⟩
abbrev az.dw(h:aj)(a:Addr)(x:az.S)(K:aj->Prop):Prop:=dO a x.l 0 h K
structure aR.S where
 f0:Int
 f1:Int
 f2:Int
 f3:Int
 f4:Int
 f5:Int
 f6:Bool
 f7:Int
 f8:Int
 f9:ByteArray
 f10:ByteArray
 f11:Bool
 f12:Int
 f13:Int
 f14:ByteArray
 f15:ByteArray
 f16:Int
 f17:Int
 f18:Int
 Ve:ck
 Vf:Nat
 Vg:Nat
 f20:Int
 f21:Int
 f22:Bool
 Vh:ck
 Vj:Nat
 Vk:Nat
abbrev aR.S.l(x:aR.S):List Value:= [.int .u64 x.f0,.int .i64 x.f1,.int .u64 x.f2,.int .i64 x.f3,.int .u64 x.f4,.int .i64 x.f5,.bool x.f6,.int .u64 x.f7,.int .u64 x.f8,.string x.f9,.string x.f10,.bool x.f11,.int .u64 x.f12,.int .u64 x.f13,.string x.f14,.string x.f15,.int .i64 x.f16,.int .i64 x.f17,.int .i64 x.f18,.slice x.Ve x.Vf x.Vg,.int .u64 x.f20,.int .u64 x.f21,.bool x.f22,.slice x.Vh x.Vj x.Vk]
abbrev aR.S.arr(x:aR.S):Array Value:=x.l.toArray
abbrev aR.S.agg(x:aR.S):Value:=.agg x.arr
abbrev aR.S.z:aR.S:=⟨0,0,0,0,0,0,false,0,0,(⟨#[]⟩:ByteArray),(⟨#[]⟩:ByteArray),false,0,0,(⟨#[]⟩:ByteArray),(⟨#[]⟩:ByteArray),0,0,0,none,0,0,0,0,false,none,0,0⟩ abbrev aR.NW (h:aj) (K:Nat->aj->Prop):Prop:=bh h (.cells aR.S.z.arr 30) K
abbrev aR.EX(K:aR.S->Prop):Prop:= ∃t T m u v w x y z A a b c d e f g h i l k j n o p s r q,K ⟨t,T,m,u,v,w,x,y,z,A,a,b,c,d,e,f,g,h,i,l,k,j,n,o,p,s,r,q⟩
abbrev aR.cN(h:aj)(a:Addr)(K:aR.S->Prop):Prop:=gK h a λc=>kR h (a.add 1) λd=>gK h (a.add 2) λr=>kR h (a.add 3) λw=>gK h (a.add 4) λx=>kR h (a.add 5) λy=>uu h (a.add 6) λz=>gK h (a.add 7) λA=>gK h (a.add 8) λB=>ot h (a.add 9) λC=>ot h (a.add 10) λe=>uu h (a.add 11) λf=>gK h (a.add 12) λg=>gK h (a.add 13) λi=>ot h (a.add 14) λj=>ot h (a.add 15) λk=>kR h (a.add 16) λl=>kR h (a.add 17) λm=>kR h (a.add 18) λn=>mJ h (a.add 19) λq p o=>gK h (a.add 20) λs=>gK h (a.add 21) λu=>uu h (a.add 22) λv=> ∃b T t,aY h (a.add 23)=some (.slice b T t)/\K ⟨c,d,r,w,x,y,z,A,B,C,e,f,g,i,j,k,l,m,n,q,p,o,s,u,v,b,T,t⟩
abbrev aR.dw(h:aj)(a:Addr)(x:aR.S)(K:aj->Prop):Prop:=dO a x.l 0 h K
structure ah.S where
 f0:Bool
 f1:Int
 f2:Int
 f3:ByteArray
 f4:ByteArray
 f5:Int
 f6:Int
abbrev ah.S.l(x:ah.S):List Value:= [.bool x.f0,.int .u64 x.f1,.int .u64 x.f2,.string x.f3,.string x.f4,.int .u64 x.f5,.int .u64 x.f6]
abbrev ah.S.arr(x:ah.S):Array Value:=x.l.toArray
abbrev ah.S.agg(x:ah.S):Value:=.agg x.arr
abbrev ah.S.z:ah.S:=⟨false,0,0,(⟨#[]⟩:ByteArray),(⟨#[]⟩:ByteArray),0,0⟩ abbrev ah.NW (h:aj) (K:Nat->aj->Prop):Prop:=bh h (.cells ah.S.z.arr 71) K
abbrev ah.EX(K:ah.S->Prop):Prop:= ∃t T a b c d e,K ⟨t,T,a,b,c,d,e⟩
abbrev ah.cN(h:aj)(a:Addr)(K:ah.S->Prop):Prop:=uu h a λT=>gK h (a.add 1) λb=>gK h (a.add 2) λc=>ot h (a.add 3) λd=>ot h (a.add 4) λe=>gK h (a.add 5) λf=> ∃t,aY h (a.add 6)=some (.int .u64 t)/\K ⟨T,b,c,d,e,f,t⟩
abbrev ah.dw(h:aj)(a:Addr)(x:ah.S)(K:aj->Prop):Prop:=dO a x.l 0 h K
structure aJ.S where
 f0:Int
 f1:Int
 Vc:ck
 UK:Nat
 Vd:Nat
 f3:Int
abbrev aJ.S.l(x:aJ.S):List Value:= [.int .i64 x.f0,.int .i64 x.f1,.slice x.Vc x.UK x.Vd,.int .u64 x.f3]
abbrev aJ.S.arr(x:aJ.S):Array Value:=x.l.toArray
abbrev aJ.S.agg(x:aJ.S):Value:=.agg x.arr
abbrev aJ.S.z:aJ.S:=⟨0,0,none,0,0,0⟩ abbrev aJ.NW (h:aj) (K:Nat->aj->Prop):Prop:=bh h (.cells aJ.S.z.arr 132) K
abbrev aJ.EX(K:aJ.S->Prop):Prop:= ∃t T c b a d,K ⟨t,T,c,b,a,d⟩
abbrev aJ.dw(h:aj)(a:Addr)(x:aJ.S)(K:aj->Prop):Prop:=dO a x.l 0 h K
structure aG.S where
 f0:Int
 f1:Int
 f2:Bool
 f3:Int
 f4:Int
 f5:ByteArray
 f6:ByteArray
 f7:Bool
 f8:Int
 f9:Int
 f10:ByteArray
 f11:ByteArray
 f12:Bool
 f13:Int
 f14:Int
 f15:ByteArray
 f16:ByteArray
 f17:Int
 f18:Int
 f19:Int
abbrev aG.S.l(x:aG.S):List Value:= [.int .u64 x.f0,.int .i64 x.f1,.bool x.f2,.int .u64 x.f3,.int .u64 x.f4,.string x.f5,.string x.f6,.bool x.f7,.int .u64 x.f8,.int .u64 x.f9,.string x.f10,.string x.f11,.bool x.f12,.int .u64 x.f13,.int .u64 x.f14,.string x.f15,.string x.f16,.int .u64 x.f17,.int .u64 x.f18,.int .u64 x.f19]
abbrev aG.S.arr(x:aG.S):Array Value:=x.l.toArray
abbrev aG.S.agg(x:aG.S):Value:=.agg x.arr
abbrev aG.S.z:aG.S:=⟨0,0,false,0,0,(⟨#[]⟩:ByteArray),(⟨#[]⟩:ByteArray),false,0,0,(⟨#[]⟩:ByteArray),(⟨#[]⟩:ByteArray),false,0,0,(⟨#[]⟩:ByteArray),(⟨#[]⟩:ByteArray),0,0,0⟩ abbrev aG.NW (h:aj) (K:Nat->aj->Prop):Prop:=bh h (.cells aG.S.z.arr 73) K
abbrev aG.EX(K:aG.S->Prop):Prop:= ∃t T k l m n o p q r a b c d e f g h i j,K ⟨t,T,k,l,m,n,o,p,q,r,a,b,c,d,e,f,g,h,i,j⟩
abbrev aG.cN(h:aj)(a:Addr)(K:aG.S->Prop):Prop:=gK h a λT=>kR h (a.add 1) λb=>uu h (a.add 2) λm=>gK h (a.add 3) λn=>gK h (a.add 4) λo=>ot h (a.add 5) λp=>ot h (a.add 6) λq=>uu h (a.add 7) λr=>gK h (a.add 8) λs=>gK h (a.add 9) λu=>ot h (a.add 10) λc=>ot h (a.add 11) λd=>uu h (a.add 12) λe=>gK h (a.add 13) λf=>gK h (a.add 14) λg=>ot h (a.add 15) λi=>ot h (a.add 16) λj=>gK h (a.add 17) λk=>gK h (a.add 18) λl=> ∃t,aY h (a.add 19)=some (.int .u64 t)/\K ⟨T,b,m,n,o,p,q,r,s,u,c,d,e,f,g,i,j,k,l,t⟩
abbrev aG.dw(h:aj)(a:Addr)(x:aG.S)(K:aj->Prop):Prop:=dO a x.l 0 h K
structure ar.S where
 f0:Int
 f1:Int
 f2:Int
 f3:Int
 f4:Int
 V6:ck
 f5l:Nat
 V7:Nat
abbrev ar.S.l(x:ar.S):List Value:= [.int .u64 x.f0,.int .i64 x.f1,.int .i64 x.f2,.int .i64 x.f3,.int .u64 x.f4,.slice x.V6 x.f5l x.V7]
abbrev ar.S.arr(x:ar.S):Array Value:=x.l.toArray
abbrev ar.S.agg(x:ar.S):Value:=.agg x.arr
abbrev ar.S.z:ar.S:=⟨0,0,0,0,0,none,0,0⟩ abbrev ar.NW (h:aj) (K:Nat->aj->Prop):Prop:=bh h (.cells ar.S.z.arr 47) K
abbrev ar.EX(K:ar.S->Prop):Prop:= ∃t T a b c f e d,K ⟨t,T,a,b,c,f,e,d⟩
abbrev ar.cN(h:aj)(a:Addr)(K:ar.S->Prop):Prop:=gK h a λc=>kR h (a.add 1) λd=>kR h (a.add 2) λe=>kR h (a.add 3) λf=>gK h (a.add 4) λg=> ∃b T t,aY h (a.add 5)=some (.slice b T t)/\K ⟨c,d,e,f,g,b,T,t⟩
abbrev ar.dw(h:aj)(a:Addr)(x:ar.S)(K:aj->Prop):Prop:=dO a x.l 0 h K
structure aO.S where
 f0:Bool
 f1:Bool
 f2:Bool
 f3:Int
 f4:Int
 f5:Bool
 f6:Int
 f7:Int
 f8:ByteArray
 f9:ByteArray
 f10:Int
 f11:Int
abbrev aO.S.l(x:aO.S):List Value:= [.bool x.f0,.bool x.f1,.bool x.f2,.int .u64 x.f3,.int .u64 x.f4,.bool x.f5,.int .u64 x.f6,.int .u64 x.f7,.string x.f8,.string x.f9,.int .u64 x.f10,.int .u64 x.f11]
abbrev aO.S.arr(x:aO.S):Array Value:=x.l.toArray
abbrev aO.S.agg(x:aO.S):Value:=.agg x.arr
abbrev aO.S.z:aO.S:=⟨false,false,false,0,0,false,0,0,(⟨#[]⟩:ByteArray),(⟨#[]⟩:ByteArray),0,0⟩ abbrev aO.NW (h:aj) (K:Nat->aj->Prop):Prop:=bh h (.cells aO.S.z.arr 237) K
abbrev aO.EX(K:aO.S->Prop):Prop:= ∃t T c d e f g h i j a b,K ⟨t,T,c,d,e,f,g,h,i,j,a,b⟩
abbrev aO.cN(h:aj)(a:Addr)(K:aO.S->Prop):Prop:=uu h a λT=>uu h (a.add 1) λb=>uu h (a.add 2) λd=>gK h (a.add 3) λe=>gK h (a.add 4) λf=>uu h (a.add 5) λg=>gK h (a.add 6) λi=>gK h (a.add 7) λj=>ot h (a.add 8) λk=>ot h (a.add 9) λl=>gK h (a.add 10) λc=> ∃t,aY h (a.add 11)=some (.int .u64 t)/\K ⟨T,b,d,e,f,g,i,j,k,l,c,t⟩
abbrev aO.dw(h:aj)(a:Addr)(x:aO.S)(K:aj->Prop):Prop:=dO a x.l 0 h K
structure aI.S where
 f0:Int
 f1:Int
 f2:Bool
 f3:Int
 f4:Int
 f5:ByteArray
 f6:ByteArray
 f7:Bool
 f8:Int
 f9:Int
 f10:ByteArray
 f11:ByteArray
 f12:Int
 f13:Int
 f14:Int
 QP:ck
 On:Nat
 QQ:Nat
 f16:Int
 f17:Int
 f18:Bool
abbrev aI.S.l(x:aI.S):List Value:= [.int .u64 x.f0,.int .i64 x.f1,.bool x.f2,.int .u64 x.f3,.int .u64 x.f4,.string x.f5,.string x.f6,.bool x.f7,.int .u64 x.f8,.int .u64 x.f9,.string x.f10,.string x.f11,.int .i64 x.f12,.int .i64 x.f13,.int .i64 x.f14,.slice x.QP x.On x.QQ,.int .u64 x.f16,.int .u64 x.f17,.bool x.f18]
abbrev aI.S.arr(x:aI.S):Array Value:=x.l.toArray
abbrev aI.S.agg(x:aI.S):Value:=.agg x.arr
abbrev aI.S.z:aI.S:=⟨0,0,false,0,0,(⟨#[]⟩:ByteArray),(⟨#[]⟩:ByteArray),false,0,0,(⟨#[]⟩:ByteArray),(⟨#[]⟩:ByteArray),0,0,0,none,0,0,0,0,false⟩ abbrev aI.NW (h:aj) (K:Nat->aj->Prop):Prop:=bh h (.cells aI.S.z.arr 28) K
abbrev aI.EX(K:aI.S->Prop):Prop:= ∃t T l m n o p q r s a b c d e h g f i j k,K ⟨t,T,l,m,n,o,p,q,r,s,a,b,c,d,e,h,g,f,i,j,k⟩
abbrev aI.cN(h:aj)(a:Addr)(K:aI.S->Prop):Prop:=gK h a λT=>kR h (a.add 1) λb=>uu h (a.add 2) λn=>gK h (a.add 3) λo=>gK h (a.add 4) λp=>ot h (a.add 5) λq=>ot h (a.add 6) λr=>uu h (a.add 7) λs=>gK h (a.add 8) λu=>gK h (a.add 9) λv=>ot h (a.add 10) λc=>ot h (a.add 11) λd=>kR h (a.add 12) λe=>kR h (a.add 13) λf=>kR h (a.add 14) λg=>mJ h (a.add 15) λk j i=>gK h (a.add 16) λl=>gK h (a.add 17) λm=> ∃t,aY h (a.add 18)=some (.bool t)/\K ⟨T,b,n,o,p,q,r,s,u,v,c,d,e,f,g,k,j,i,l,m,t⟩
abbrev aI.dw(h:aj)(a:Addr)(x:aI.S)(K:aj->Prop):Prop:=dO a x.l 0 h K

section
variable {h:aj} {R:fD}
variable {b j i m l Vm Vn V8 V9 t r LI LJ f5l p v Iz LK LL:Nat} {f F g0 g1 d g2 c g o g3 g5 g6 f7 f8 f9 UL UM:Int} {k n Vo Wa u LH q Iy LM:ck} {K:Nat->aj->Prop} {a:Addr} {e g4 s UN UO:ByteArray} {UP:Bool}
def aa.at(h:aj)(b:Nat)(f:Int)(F:Int)(k:ck)(j i:Nat)(n:ck)(m l:Nat):Prop:=h[b]? =some (.cells #[.int .i64 f,.int .u64 F,.slice k j i,.slice n m l] 167 (0,0))
theorem aa.ld{K:Int->Int->ck->Nat->Nat->ck->Nat->Nat->Prop}(H:aa.at h b f F k j i n m l)(w:K f F k j i n m l):aa.LD h (AA b 0) K:=
 ⟨_,ak H,_,ak H,_,_,_,ak H,_,_,_,ak H,w⟩
theorem aa.w5{K:Int->Int->ck->Nat->Nat->ck->Nat->Nat->Prop}(H:dP a [.I f,.U F,.L k j i,.L n m l] 0 h)(w:K f F k j i n m l):aa.LD h a K:=by
 obtain⟨Q,x,y,z,_⟩:=H;rw[eX]at Q;exact⟨_,Q,_,x,_,_,_,y,_,_,_,z,w⟩
theorem aa.held(H:aa.at h b f F k j i n m l):dP (AA b 0) [.I f,.U F,.L k j i,.L n m l] 0 h:=
 hT H (λJ V w=>by rw[bM];simpa using w)
theorem aa.Cu{K:aj->Prop}(H:dO a [.I f,.U F,.L k j i,.L n m l] 0 h K):aa.ST h a f F k j i n m l K:=H
theorem aa.new(x: ∀b H,b=h.size->aa.at H b f F k j i n m l->Fr No h H->K b H):bh h (.C #[.I 0,.U 0,.Z,.Z] 167) λb w=>aa.ST w (AA b 0) f F k j i n m l (K b):=
 gB (vs:= [.I f,.U F,.L k j i,.L n m l]) rfl rfl x
theorem aa.box(x: ∀b H,b=h.size->aa.at H b f F k j i n m l->Fr No h H->K b H):bh h (.C #[.I f,.U F,.L k j i,.L n m l] 167) λb w=>K b w:=
 cK (x _ _ rfl bZ (Fr.push _ _))
theorem aa.set{K:aj->Prop}(A:aa.at h b g0 g1 Vo Vm Vn Wa V8 V9)(w: ∀H,aa.at H b f F k j i n m l->H.size=h.size->(∀x,x≠b->H[x]? =h[x]?)->K H):aa.ST h (AA b 0) f F k j i n m l K:=
 aa.Cu (fp A rfl rfl w)
def bJ.at(h:aj)(b:Nat)(f:Int)(F:Int)(d:Bool):Prop:=h[b]? =some (.cells #[.int .i64 f,.int .u64 F,.bool d] 269 (0,0))
theorem bJ.ld{d:Bool}{K:Int->Int->Bool->Prop}(H:bJ.at h b f F d)(w:K f F d):bJ.LD h (AA b 0) K:=
 ⟨_,ak H,_,ak H,_,ak H,w⟩
theorem bJ.Cu{d:Bool}{K:aj->Prop}(H:dO a [.I f,.U F,.B d] 0 h K):bJ.ST h a f F d K:=H
theorem bJ.new{d:Bool}(x: ∀b H,b=h.size->bJ.at H b f F d->Fr No h H->K b H):bh h (.C #[.I 0,.U 0,.B false] 269) λb w=>bJ.ST w (AA b 0) f F d (K b):=
 gB (vs:= [.I f,.U F,.B d]) rfl rfl x
theorem bJ.box{d:Bool}(x: ∀b H,b=h.size->bJ.at H b f F d->Fr No h H->K b H):bh h (.C #[.I f,.U F,.B d] 269) λb w=>K b w:=
 cK (x _ _ rfl bZ (Fr.push _ _))
theorem bJ.set{g2:Bool}{d:Bool}{K:aj->Prop}(A:bJ.at h b g0 g1 g2)(w: ∀H,bJ.at H b f F d->H.size=h.size->(∀x,x≠b->H[x]? =h[x]?)->K H):bJ.ST h (AA b 0) f F d K:=
 bJ.Cu (fp A rfl rfl w)
def ah.at(h:aj)(b:Nat)(f:Bool)(F:Int)(d:Int)(c:ByteArray)(e:ByteArray)(g:Int)(o:Int):Prop:=h[b]? =some (.cells #[.bool f,.int .u64 F,.int .u64 d,.string c,.string e,.int .u64 g,.int .u64 o] 71 (0,0))
theorem ah.ld{f:Bool}{c:ByteArray}{K:Bool->Int->Int->ByteArray->ByteArray->Int->Int->Prop}(H:ah.at h b f F d c e g o)(w:K f F d c e g o):ah.LD h (AA b 0) K:=
 ⟨_,ak H,_,ak H,_,ak H,_,ak H,_,ak H,_,ak H,_,ak H,w⟩
theorem ah.Cu{f:Bool}{c:ByteArray}{K:aj->Prop}(H:dO a [.B f,.U F,.U d,.S c,.S e,.U g,.U o] 0 h K):ah.ST h a f F d c e g o K:=H
theorem ah.new{f:Bool}{c:ByteArray}(x: ∀b H,b=h.size->ah.at H b f F d c e g o->Fr No h H->K b H):bh h (.C #[.B false,.U 0,.U 0,.S gg,.S gg,.U 0,.U 0] 71) λb w=>ah.ST w (AA b 0) f F d c e g o (K b):=
 gB (vs:= [.B f,.U F,.U d,.S c,.S e,.U g,.U o]) rfl rfl x
theorem ah.box{f:Bool}{c:ByteArray}(x: ∀b H,b=h.size->ah.at H b f F d c e g o->Fr No h H->K b H):bh h (.C #[.B f,.U F,.U d,.S c,.S e,.U g,.U o] 71) λb w=>K b w:=
 cK (x _ _ rfl bZ (Fr.push _ _))
theorem ah.set{g0:Bool}{g3:ByteArray}{f:Bool}{c:ByteArray}{K:aj->Prop}(A:ah.at h b g0 g1 g2 g3 g4 g5 g6)(w: ∀H,ah.at H b f F d c e g o->H.size=h.size->(∀x,x≠b->H[x]? =h[x]?)->K H):ah.ST h (AA b 0) f F d c e g o K:=
 ah.Cu (fp A rfl rfl w)
def aJ.at(h:aj)(b:Nat)(f:Int)(F:Int)(k:ck)(j i:Nat)(c:Int):Prop:=h[b]? =some (.cells #[.int .i64 f,.int .i64 F,.slice k j i,.int .u64 c] 132 (0,0))
theorem aJ.ld{K:Int->Int->ck->Nat->Nat->Int->Prop}(H:aJ.at h b f F k j i c)(w:K f F k j i c):aJ.LD h (AA b 0) K:=
 ⟨_,ak H,_,ak H,_,_,_,ak H,_,ak H,w⟩
theorem aJ.w5{K:Int->Int->ck->Nat->Nat->Int->Prop}(H:dP a [.I f,.I F,.L k j i,.U c] 0 h)(w:K f F k j i c):aJ.LD h a K:=by
 obtain⟨Q,x,y,z,_⟩:=H;rw[eX]at Q;exact⟨_,Q,_,x,_,_,_,y,_,z,w⟩
theorem aJ.Cu{K:aj->Prop}(H:dO a [.I f,.I F,.L k j i,.U c] 0 h K):aJ.ST h a f F k j i c K:=H
theorem aJ.new(x: ∀b H,b=h.size->aJ.at H b f F k j i c->Fr No h H->K b H):bh h (.C #[.I 0,.I 0,.Z,.U 0] 132) λb w=>aJ.ST w (AA b 0) f F k j i c (K b):=
 gB (vs:= [.I f,.I F,.L k j i,.U c]) rfl rfl x
theorem aJ.box(x: ∀b H,b=h.size->aJ.at H b f F k j i c->Fr No h H->K b H):bh h (.C #[.I f,.I F,.L k j i,.U c] 132) λb w=>K b w:=
 cK (x _ _ rfl bZ (Fr.push _ _))
theorem aJ.set{K:aj->Prop}(A:aJ.at h b g0 g1 Vo Vm Vn g3)(w: ∀H,aJ.at H b f F k j i c->H.size=h.size->(∀x,x≠b->H[x]? =h[x]?)->K H):aJ.ST h (AA b 0) f F k j i c K:=
 aJ.Cu (fp A rfl rfl w)
def cj.at(h:aj)(b:Nat)(f:Int)(u:ck)(t r:Nat):Prop:=h[b]? =some (.cells #[.int .u64 f,.slice u t r] 90 (0,0))
theorem cj.ld{K:Int->ck->Nat->Nat->Prop}(H:cj.at h b f u t r)(w:K f u t r):cj.LD h (AA b 0) K:=
 ⟨_,ak H,_,_,_,ak H,w⟩
theorem cj.w5{K:Int->ck->Nat->Nat->Prop}(H:dP a [.U f,.L u t r] 0 h)(w:K f u t r):cj.LD h a K:=by
 obtain⟨Q,x,_⟩:=H;rw[eX]at Q;exact⟨_,Q,_,_,_,x,w⟩
theorem cj.new(x: ∀b H,b=h.size->cj.at H b f u t r->Fr No h H->K b H):bh h (.C #[.U 0,.Z] 90) λb w=>cj.ST w (AA b 0) f u t r (K b):=
 gB (vs:= [.U f,.L u t r]) rfl rfl x
theorem cj.box(x: ∀b H,b=h.size->cj.at H b f u t r->Fr No h H->K b H):bh h (.C #[.U f,.L u t r] 90) λb w=>K b w:=
 cK (x _ _ rfl bZ (Fr.push _ _))
def cG.at(h:aj)(b:Nat)(f:Int)(F:Int)(d:Bool)(c:Bool)(LH:ck)(LI LJ:Nat)(q:ck)(f5l p:Nat):Prop:=h[b]? =some (.cells #[.int .i64 f,.int .u64 F,.bool d,.bool c,.slice LH LI LJ,.slice q f5l p] 55 (0,0))
theorem cG.ld{d:Bool}{c:Bool}{K:Int->Int->Bool->Bool->ck->Nat->Nat->ck->Nat->Nat->Prop}(H:cG.at h b f F d c LH LI LJ q f5l p)(w:K f F d c LH LI LJ q f5l p):cG.LD h (AA b 0) K:=
 ⟨_,ak H,_,ak H,_,ak H,_,ak H,_,_,_,ak H,_,_,_,ak H,w⟩
theorem cG.w5{d:Bool}{c:Bool}{K:Int->Int->Bool->Bool->ck->Nat->Nat->ck->Nat->Nat->Prop}(H:dP a [.I f,.U F,.B d,.B c,.L LH LI LJ,.L q f5l p] 0 h)(w:K f F d c LH LI LJ q f5l p):cG.LD h a K:=by
 obtain⟨Q,x,y,z,A,B,_⟩:=H;rw[eX]at Q;exact⟨_,Q,_,x,_,y,_,z,_,_,_,A,_,_,_,B,w⟩
theorem cG.new{d:Bool}{c:Bool}(x: ∀b H,b=h.size->cG.at H b f F d c LH LI LJ q f5l p->Fr No h H->K b H):bh h (.C #[.I 0,.U 0,.B false,.B false,.Z,.Z] 55) λb w=>cG.ST w (AA b 0) f F d c LH LI LJ q f5l p (K b):=
 gB (vs:= [.I f,.U F,.B d,.B c,.L LH LI LJ,.L q f5l p]) rfl rfl x
theorem cG.box{d:Bool}{c:Bool}(x: ∀b H,b=h.size->cG.at H b f F d c LH LI LJ q f5l p->Fr No h H->K b H):bh h (.C #[.I f,.U F,.B d,.B c,.L LH LI LJ,.L q f5l p] 55) λb w=>K b w:=
 cK (x _ _ rfl bZ (Fr.push _ _))
def az.at(h:aj)(b:Nat)(f:Bool)(F:Int)(d:Int)(c:ByteArray)(e:ByteArray):Prop:=h[b]? =some (.cells #[.bool f,.int .u64 F,.int .u64 d,.string c,.string e] 25 (0,0))
theorem az.ld{f:Bool}{c:ByteArray}{K:Bool->Int->Int->ByteArray->ByteArray->Prop}(H:az.at h b f F d c e)(w:K f F d c e):az.LD h (AA b 0) K:=
 ⟨_,ak H,_,ak H,_,ak H,_,ak H,_,ak H,w⟩
theorem az.held{f:Bool}{c:ByteArray}(H:az.at h b f F d c e):dP (AA b 0) [.B f,.U F,.U d,.S c,.S e] 0 h:=
 hT H (λJ V w=>by rw[bM];simpa using w)
theorem az.box{f:Bool}{c:ByteArray}(x: ∀b H,b=h.size->az.at H b f F d c e->Fr No h H->K b H):bh h (.C #[.B f,.U F,.U d,.S c,.S e] 25) λb w=>K b w:=
 cK (x _ _ rfl bZ (Fr.push _ _))
def bB.at(h:aj)(b:Nat)(f:Bool)(F:Int)(d:Int)(c:ByteArray)(e:ByteArray)(g:Int)(o:Int):Prop:=h[b]? =some (.cells #[.bool f,.int .u64 F,.int .u64 d,.string c,.string e,.int .i64 g,.int .i64 o] 146 (0,0))
theorem bB.ld{f:Bool}{c:ByteArray}{K:Bool->Int->Int->ByteArray->ByteArray->Int->Int->Prop}(H:bB.at h b f F d c e g o)(w:K f F d c e g o):bB.LD h (AA b 0) K:=
 ⟨_,ak H,_,ak H,_,ak H,_,ak H,_,ak H,_,ak H,_,ak H,w⟩
theorem bB.w5{f:Bool}{c:ByteArray}{K:Bool->Int->Int->ByteArray->ByteArray->Int->Int->Prop}(H:dP a [.B f,.U F,.U d,.S c,.S e,.I g,.I o] 0 h)(w:K f F d c e g o):bB.LD h a K:=by
 obtain⟨Q,x,y,z,A,B,C,_⟩:=H;rw[eX]at Q;exact⟨_,Q,_,x,_,y,_,z,_,A,_,B,_,C,w⟩
theorem bB.Cu{f:Bool}{c:ByteArray}{K:aj->Prop}(H:dO a [.B f,.U F,.U d,.S c,.S e,.I g,.I o] 0 h K):bB.ST h a f F d c e g o K:=H
theorem bB.new{f:Bool}{c:ByteArray}(x: ∀b H,b=h.size->bB.at H b f F d c e g o->Fr No h H->K b H):bh h (.C #[.B false,.U 0,.U 0,.S gg,.S gg,.I 0,.I 0] 146) λb w=>bB.ST w (AA b 0) f F d c e g o (K b):=
 gB (vs:= [.B f,.U F,.U d,.S c,.S e,.I g,.I o]) rfl rfl x
theorem bB.box{f:Bool}{c:ByteArray}(x: ∀b H,b=h.size->bB.at H b f F d c e g o->Fr No h H->K b H):bh h (.C #[.B f,.U F,.U d,.S c,.S e,.I g,.I o] 146) λb w=>K b w:=
 cK (x _ _ rfl bZ (Fr.push _ _))
theorem bB.set{g0:Bool}{g3:ByteArray}{f:Bool}{c:ByteArray}{K:aj->Prop}(A:bB.at h b g0 g1 g2 g3 g4 g5 g6)(w: ∀H,bB.at H b f F d c e g o->H.size=h.size->(∀x,x≠b->H[x]? =h[x]?)->K H):bB.ST h (AA b 0) f F d c e g o K:=
 bB.Cu (fp A rfl rfl w)
def aQ.at(h:aj)(b:Nat)(f:Int)(F:Bool)(d:Int)(c:Int)(e:ByteArray)(g:ByteArray)(Iy:ck)(v Iz:Nat)(f7:Int)(f8:Int)(f9:Int):Prop:=h[b]? =some (.cells #[.int .i64 f,.bool F,.int .u64 d,.int .u64 c,.string e,.string g,.slice Iy v Iz,.int .u64 f7,.int .i64 f8,.int .u64 f9] 194 (0,0))
theorem aQ.ld{F:Bool}{g:ByteArray}{K:Int->Bool->Int->Int->ByteArray->ByteArray->ck->Nat->Nat->Int->Int->Int->Prop}(H:aQ.at h b f F d c e g Iy v Iz f7 f8 f9)(w:K f F d c e g Iy v Iz f7 f8 f9):aQ.LD h (AA b 0) K:=
 ⟨_,ak H,_,ak H,_,ak H,_,ak H,_,ak H,_,ak H,_,_,_,ak H,_,ak H,_,ak H,_,ak H,w⟩
theorem aQ.Cu{F:Bool}{g:ByteArray}{K:aj->Prop}(H:dO a [.I f,.B F,.U d,.U c,.S e,.S g,.L Iy v Iz,.U f7,.I f8,.U f9] 0 h K):aQ.ST h a f F d c e g Iy v Iz f7 f8 f9 K:=H
theorem aQ.new{F:Bool}{g:ByteArray}(x: ∀b H,b=h.size->aQ.at H b f F d c e g Iy v Iz f7 f8 f9->Fr No h H->K b H):bh h (.C #[.I 0,.B false,.U 0,.U 0,.S gg,.S gg,.Z,.U 0,.I 0,.U 0] 194) λb w=>aQ.ST w (AA b 0) f F d c e g Iy v Iz f7 f8 f9 (K b):=
 gB (vs:= [.I f,.B F,.U d,.U c,.S e,.S g,.L Iy v Iz,.U f7,.I f8,.U f9]) rfl rfl x
theorem aQ.box{F:Bool}{g:ByteArray}(x: ∀b H,b=h.size->aQ.at H b f F d c e g Iy v Iz f7 f8 f9->Fr No h H->K b H):bh h (.C #[.I f,.B F,.U d,.U c,.S e,.S g,.L Iy v Iz,.U f7,.I f8,.U f9] 194) λb w=>K b w:=
 cK (x _ _ rfl bZ (Fr.push _ _))
theorem aQ.set{g1:Bool}{g5:ByteArray}{y:ck}{w G:Nat}{z:Int}{B:Int}{C:Int}{F:Bool}{g:ByteArray}{K:aj->Prop}(A:aQ.at h b g0 g1 g2 g3 g4 g5 y w G z B C)(D: ∀H,aQ.at H b f F d c e g Iy v Iz f7 f8 f9->H.size=h.size->(∀x,x≠b->H[x]? =h[x]?)->K H):aQ.ST h (AA b 0) f F d c e g Iy v Iz f7 f8 f9 K:=
 aQ.Cu (fp A rfl rfl D)
def ar.at(h:aj)(b:Nat)(f:Int)(F:Int)(d:Int)(c:Int)(e:Int)(q:ck)(f5l p:Nat):Prop:=h[b]? =some (.cells #[.int .u64 f,.int .i64 F,.int .i64 d,.int .i64 c,.int .u64 e,.slice q f5l p] 47 (0,0))
theorem ar.ld{e:Int}{K:Int->Int->Int->Int->Int->ck->Nat->Nat->Prop}(H:ar.at h b f F d c e q f5l p)(w:K f F d c e q f5l p):ar.LD h (AA b 0) K:=
 ⟨_,ak H,_,ak H,_,ak H,_,ak H,_,ak H,_,_,_,ak H,w⟩
theorem ar.held{e:Int}(H:ar.at h b f F d c e q f5l p):dP (AA b 0) [.U f,.I F,.I d,.I c,.U e,.L q f5l p] 0 h:=
 hT H (λJ V w=>by rw[bM];simpa using w)
theorem ar.Cu{e:Int}{K:aj->Prop}(H:dO a [.U f,.I F,.I d,.I c,.U e,.L q f5l p] 0 h K):ar.ST h a f F d c e q f5l p K:=H
theorem ar.new{e:Int}(x: ∀b H,b=h.size->ar.at H b f F d c e q f5l p->Fr No h H->K b H):bh h (.C #[.U 0,.I 0,.I 0,.I 0,.U 0,.Z] 47) λb w=>ar.ST w (AA b 0) f F d c e q f5l p (K b):=
 gB (vs:= [.U f,.I F,.I d,.I c,.U e,.L q f5l p]) rfl rfl x
theorem ar.box{e:Int}(x: ∀b H,b=h.size->ar.at H b f F d c e q f5l p->Fr No h H->K b H):bh h (.C #[.U f,.I F,.I d,.I c,.U e,.L q f5l p] 47) λb w=>K b w:=
 cK (x _ _ rfl bZ (Fr.push _ _))
theorem ar.set{g4:Int}{y:ck}{w G:Nat}{e:Int}{K:aj->Prop}(A:ar.at h b g0 g1 g2 g3 g4 y w G)(z: ∀H,ar.at H b f F d c e q f5l p->H.size=h.size->(∀x,x≠b->H[x]? =h[x]?)->K H):ar.ST h (AA b 0) f F d c e q f5l p K:=
 ar.Cu (fp A rfl rfl z)
def cQ.at(h:aj)(b:Nat)(LM:ck)(LK LL:Nat)(u:ck)(t r:Nat)(k:ck)(j i:Nat)(n:ck)(m l:Nat):Prop:=h[b]? =some (.cells #[.slice LM LK LL,.slice u t r,.slice k j i,.slice n m l] 95 (0,0))
theorem cQ.held(H:cQ.at h b LM LK LL u t r k j i n m l):dP (AA b 0) [.L LM LK LL,.L u t r,.L k j i,.L n m l] 0 h:=
 hT H (λJ V w=>by rw[bM];simpa using w)
theorem cQ.Cu{K:aj->Prop}(H:dO a [.L LM LK LL,.L u t r,.L k j i,.L n m l] 0 h K):cQ.ST h a LM LK LL u t r k j i n m l K:=H
theorem cQ.new(x: ∀b H,b=h.size->cQ.at H b LM LK LL u t r k j i n m l->Fr No h H->K b H):bh h (.C #[.Z,.Z,.Z,.Z] 95) λb w=>cQ.ST w (AA b 0) LM LK LL u t r k j i n m l (K b):=
 gB (vs:= [.L LM LK LL,.L u t r,.L k j i,.L n m l]) rfl rfl x
theorem cQ.box(x: ∀b H,b=h.size->cQ.at H b LM LK LL u t r k j i n m l->Fr No h H->K b H):bh h (.C #[.L LM LK LL,.L u t r,.L k j i,.L n m l] 95) λb w=>K b w:=
 cK (x _ _ rfl bZ (Fr.push _ _))
theorem cQ.set{y:ck}{w G:Nat}{C:ck}{B z:Nat}{K:aj->Prop}(A:cQ.at h b y w G C B z Vo Vm Vn Wa V8 V9)(D: ∀H,cQ.at H b LM LK LL u t r k j i n m l->H.size=h.size->(∀x,x≠b->H[x]? =h[x]?)->K H):cQ.ST h (AA b 0) LM LK LL u t r k j i n m l K:=
 cQ.Cu (fp A rfl rfl D)
theorem w6.host.walk(B:aW Tryz.prog (Instr.range 9 (.S s)) h λE A=> ∃(y:Nat),E=.P y 0/\∃(I:aj->Prop)(M:aj->Nat),I A/\∀(w:aj),I w->aW Tryz.prog (Instr.next (.P y 0) true 0) w λV H=>(V=.T #[.B false]/\R (.B true) H)\/(∃(D z:Value),V=.T #[.B true,D,z]/\∃T,z=.int .i32 T/\aH (λ(C:Bool) (x:aj)=>if C then R (.B false) x else(I x/\M x<M w)) (λJ=>if(decide (T<97))then if(decide (T<48))then if(T !=45)then J (T !=45) H else J false H else if(decide (T>57))then if(T !=45)then J (T !=45) H else J false H else J false H else if(decide (T>122))then if(decide (T<48))then if(T !=45)then J (T !=45) H else J false H else if(decide (T>57))then if(T !=45)then J (T !=45) H else J false H else J false H else J false H))):Cl 73 #[.S s,.int .i32 45] h R:=aP (lq (sq (lq (bq (.loop [] (lq (sq (cq lf lf) (bq (sq (.typed [(11,.one (.int .i32))]) (sq (.join [(34,.one (.bool))] lf) (cq ll lf))))))))) ll)) Tryz.func73 B
theorem w6.TY.walk(B:aW Tryz.prog (Instr.range 9 (.S s)) h λE A=> ∃(y:Nat),E=.P y 0/\∃(I:aj->Prop)(M:aj->Nat),I A/\∀(w:aj),I w->aW Tryz.prog (Instr.next (.P y 0) true 0) w λV H=>(V=.T #[.B false]/\R (.B true) H)\/(∃(D z:Value),V=.T #[.B true,D,z]/\∃T,z=.int .i32 T/\aH (λ(C:Bool) (x:aj)=>if C then R (.B false) x else(I x/\M x<M w)) (λJ=>if(decide (T<97))then if(decide (T<48))then if(T !=45)then J (T !=47) H else J false H else if(decide (T>57))then if(T !=45)then J (T !=47) H else J false H else J false H else if(decide (T>122))then if(decide (T<48))then if(T !=45)then J (T !=47) H else J false H else if(decide (T>57))then if(T !=45)then J (T !=47) H else J false H else J false H else J false H))):Cl 73 #[.S s,.int .i32 47] h R:=aP (lq (sq (lq (bq (.loop [] (lq (sq (cq lf lf) (bq (sq (.typed [(11,.one (.int .i32))]) (sq (.join [(34,.one (.bool))] lf) (cq ll lf))))))))) ll)) Tryz.func73 B
theorem LN.walk(J:bh h (.C #[.B UP,.U UL,.U UM,.S UN,.S UO] 25) λb H=>az.LD H (AA b 0) λe' f' g' h' i'=> ∃(E:Bool),zJ Tryz.prog 25 (.agg #[.B e',.U f',.U g',.S h',.S i']) (.agg #[.B false,.U 0,.U 0,.S gg,.S gg]) E/\if E then R (.B true) H else∃G,Cc H b 0 (.B G)/\if G then az.LD H (AA b 0) λL M O P Q=>Hu H b 1 λS=>Hu H b 2 λU=> ∃(eq_1:Bool),zJ Tryz.prog 25 (.agg #[.B L,.U M,.U O,.S P,.S Q]) (.agg #[.B true,.U S,.U U,.S gg,.S gg]) eq_1/\if eq_1 then∃T,Cc H b 1 (.U T)/\if(decide (T≥1))then∃x,Cc H b 1 (.U x)/\if(decide (x<=4294967295))then∃y,Cc H b 2 (.U y)/\R (.B (decide (y<=4294967295))) H else R (.B false) H else R (.B false) H else R (.B false) H else az.LD H (AA b 0) λV X Z a' b'=>Hs H b 3 λc'=>Hs H b 4 λd'=> ∃(eq_2:Bool),zJ Tryz.prog 25 (.agg #[.B V,.U X,.U Z,.S a',.S b']) (.agg #[.B false,.U 0,.U 0,.S c',.S d']) eq_2/\if eq_2 then∃z,Cc H b 3 (.S z)/\if(decide (((z.size:Nat):Int)≥1))then∃A,Cc H b 3 (.S A)/\if(decide (((A.size:Nat):Int)<=16))then∃B,Cc H b 4 (.S B)/\if(decide (((B.size:Nat):Int)<=24))then Hs H b 3 λj'=>Cl 73 #[.S j',.int .i32 45] H λl' w=> ∃C,l'=.B C/\if C then Hs w b 4 λk'=>Cl 73 #[.S k',.int .i32 47] w λm' I=> ∃D,m'=.B D/\R (.B D) I else R (.B false) w else R (.B false) H else R (.B false) H else R (.B false) H else R (.B false) H):Cl 44 #[.agg #[.B UP,.U UL,.U UM,.S UN,.S UO]] h R:=aP (lq (sq (bq (lq (cq ll (lq (cq ll lf))))) ll)) Tryz.func44 J
theorem LO.walk(w:bh h (.C #[.B UP,.U UL,.U UM,.S UN,.S UO] 25) λb H=>az.LD H (AA b 0) λx y z A B=> ∃(E:Bool),zJ Tryz.prog 25 (.agg #[.B x,.U y,.U z,.S A,.S B]) (.agg #[.B false,.U 0,.U 0,.S gg,.S gg]) E/\if E then R (.I 0) H else∃T,Cc H b 0 (.B T)/\if T then R (.I 1) H else R (.I 2) H):Cl 159 #[.agg #[.B UP,.U UL,.U UM,.S UN,.S UO]] h R:=aP (lq (sq (bq (lq (cq ll (lq (cq ll lf))))) ll)) Tryz.func159 w
theorem Oo.walk{A:Bool}{x:Int}{y:Int}{z:ByteArray}{C:ByteArray}{D:Bool}{B:Int}{E:Int}{G:ByteArray}{I:ByteArray}(hv:bh h (.C #[.B A,.U x,.U y,.S z,.S C] 25) λb i'=>bh i' (.C #[.B D,.U B,.U E,.S G,.S I] 25) λB w=>az.LD w (AA b 0) λx' y' z' A' B'=>az.LD w (AA B 0) λd' e' f' g' h'=>Cl 159 #[.agg #[.B x',.U y',.U z',.S A',.S B']] w λC' J=>Vi C' λt7=>dP (AA B 0) [.B d',.U e',.U f',.S g',.S h'] 0 J/\Cl 159 #[.agg #[.B d',.U e',.U f',.S g',.S h']] J λD' H=> ∃t9,D'=.I t9/\if(t7 !=t9)then az.LD H (AA b 0) λk' l' m' n' o'=>az.LD H (AA B 0) λT M O P Q=>Cl 159 #[.agg #[.B k',.U l',.U m',.S n',.S o']] H λE' L=>Vi E' λp'=>dP (AA B 0) [.B T,.U M,.U O,.S P,.S Q] 0 L/\Cl 159 #[.agg #[.B T,.U M,.U O,.S P,.S Q]] L λF' j'=> ∃S,F'=.I S/\R (.B (decide (p'<S))) j' else Hu H b 1 λq'=> ∃U,Cc H B 1 (.U U)/\if(q' !=U)then Hu H b 1 λr'=> ∃V,Cc H B 1 (.U V)/\R (.B (decide (r'<V))) H else Hu H b 2 λs'=> ∃X,Cc H B 2 (.U X)/\if(s' !=X)then Hu H b 2 λt'=> ∃Z,Cc H B 2 (.U Z)/\R (.B (decide (t'<Z))) H else Hs H b 3 λu'=> ∃a',Cc H B 3 (.S a')/\if(!(u'.toList==a'.toList))then Hs H b 3 λv'=> ∃b',Cc H B 3 (.S b')/\R (.B (Op.bytesLess v'.toList b'.toList)) H else Hs H b 4 λw'=> ∃c',Cc H B 4 (.S c')/\R (.B (Op.bytesLess w'.toList c'.toList)) H):Cl 100 #[.agg #[.B A,.U x,.U y,.S z,.S C],.agg #[.B D,.U B,.U E,.S G,.S I]] h R:=aP (lq (sq (bq (sq (.lK (.op 0 (.op 2 (.op 1 (.op 3 (.op 4 (.op 5 .done))))))) (cq (sq (.lK (.op 0 (.op 2 (.op 1 (.op 3 (.op 4 (.op 5 .done))))))) lf) (lq (cq ll (lq (cq ll (lq (cq ll lf))))))))) ll)) Tryz.func100 hv

end
section
namespace jA
theorem Oq{a b:ByteArray}:(a==b)=true↔a=b:=by
 obtain⟨a⟩:=a;obtain⟨b⟩:=b;constructor
 .intro h;have h:(a==b)=true:=h;rw[eq_of_beq h]
 .intro h;cases h;show(a==a)=true;simp
structure Ev where
 km:Bool
 node:Int
 gy:Int
 host:ByteArray
 jN:ByteArray
theorem Ev.ext'{x y:Ev}(H:x.km=y.km)(a:x.node=y.node)(b:x.gy=y.gy)(c:x.host=y.host)(d:x.jN=y.jN):x=y:=by
 cases x;cases y;simp at H a b c d;simp[H,a,b,c,d]
def TF(x y:Ev):Bool:=x.km==y.km && (x.node==y.node && (x.gy==y.gy && (x.host==y.host && (x.jN==y.jN && true))))
theorem EF{x y:Ev}:TF x y=true↔x=y:=by
 unfold TF;simp only[aU,db,Oq,and_true];constructor
 .rintro⟨H,a,b,c,d⟩;exact Ev.ext' H a b c d
 .rintro rfl;simp
instance : DecidableEq Ev := λx y => decidable_of_iff (TF x y = true) EF
theorem QR(x y:Ev):TF x y=decide (x=y):=by
 by_cases h:x=y
 .rw[aw h];exact EF.2 h
 .rw[aB h];cases H:TF x y
  .rfl
  .exact absurd (EF.1 H) h
def lL(x:Ev):Value:=.agg #[.bool x.km,.int .u64 x.node,.int .u64 x.gy,.string x.host,.string x.jN]
def Ev.zero:Ev:=⟨false,0,0,⟨#[]⟩,⟨#[]⟩⟩
theorem eqv(x y:Ev):zJ Tryz.prog 25 (lL x) (lL y) (decide (x=y)):=by
 rw[<-QR];exact zJ.of (by unfold TF;kernel_rfl)
theorem vD{x y:Ev}{a b:Value}(H:a=lL x)(c:b=lL y):zJ Tryz.prog 25 a b (decide (x=y)):=by subst H c;exact eqv x y
theorem TV(e:Bool)(a:Ev)(h:aj):rd Tryz.prog (Instr.checkKey e 10000 25 (lL a)) h=some ():=dz
theorem under:(Tryz.prog.underlying 25).isSome=true:=dz
theorem key:Dp Tryz.prog 25 lL:=⟨eqv,TV,by
 obtain⟨d,h⟩:=dZ.1 under;exact⟨d,h,λa b=> .inl (by unfold lL;cases d<;>rfl)⟩,λa=>by unfold lL;simp[Instr.sameBits,Oq.2]⟩
def pl(m c:UInt8):Bool:=(decide (97<=c) && decide (c<=122))||(decide (48<=c) && decide (c<=57))||c==45||c==m
def nJ(m:UInt8)(s:ByteArray):Bool:=s.data.toList.all (pl m)
def dc(x:Ev):Bool:=
 if x=.zero then true
 else if x.km=true then decide (x.host=⟨#[]⟩/\x.jN=⟨#[]⟩/\1<=x.node/\x.node<=4294967295/\x.gy<=4294967295)
 else decide (x.node=0/\x.gy=0/\1<=x.host.size/\x.host.size<=16/\x.jN.size<=24) && (nJ 45 x.host && nJ 47 x.jN)
def jl(x:Ev):Int:=if x=.zero then 0 else if x.km=true then 1 else 2
def bl(a b:ByteArray):Bool:=Op.bytesLess a.toList b.toList
def lC(x y:Ev):Bool:=
 if jl x≠jl y then decide (jl x<jl y)
 else if x.node≠y.node then decide (x.node<y.node)
 else if x.gy≠y.gy then decide (x.gy<y.gy)
 else if x.host≠y.host then bl x.host y.host
 else bl x.jN y.jN
theorem bytes_irrefl: ∀a:cM,Op.bytesLess a a=false
 | []=>rfl
 |a::x=>by unfold Op.bytesLess;simp[bytes_irrefl x]
theorem bytes_trans: ∀{a b c:cM},Op.bytesLess a b=true->Op.bytesLess b c=true->Op.bytesLess a c=true
 |_, [],_,h,_=>by unfold Op.bytesLess at h;cases h
 |_,_::_, [],_,h=>by unfold Op.bytesLess at h;cases h
 | [],b::y,c::z,_,_=>rfl
 |a::x,b::y,c::z,d,H=>by
  unfold Op.bytesLess at d H⊢;simp only[Bool.or_eq_true,aX,aU,db]at d H⊢;rcases d with d|⟨rfl,d⟩
  .rcases H with H|⟨rfl,H⟩
   .exact .inl (UInt8.lt_trans d H)
   .exact .inl d
  .rcases H with H|⟨rfl,H⟩
   .exact .inl H
   .exact .inr ⟨rfl,bytes_trans d H⟩
theorem bytes_total: ∀{a b:cM},a≠b->Op.bytesLess a b=true\/Op.bytesLess b a=true
 | [], [],h=>absurd rfl h
 | [],_::_,_=> .inl rfl
 |_::_, [],_=> .inr rfl
 |a::x,b::y,h=>by
  unfold Op.bytesLess;simp only[Bool.or_eq_true,aX,aU,db];by_cases e:a=b
  .subst e;rcases bytes_total (a:=x) (b:=y) (λe=>h (by rw[e]))with h1|h1
   .exact .inl (.inr ⟨rfl,h1⟩)
   .exact .inr (.inr ⟨rfl,h1⟩)
  .rcases UInt8.lt_or_lt_of_ne e with h1|h1
   .exact .inl (.inl h1)
   .exact .inr (.inl h1)
theorem R3{a b:ByteArray}(h:a≠b):bl a b=true\/bl b a=true:=by
 refine bytes_total λe=>h ?_
 rw[toList_data,toList_data]at e;cases a;cases b;simp only[ByteArray.mk.injEq];exact Array.ext' e
theorem AJ{a b c:ByteArray}(H:bl a b=true)(d:bl b c=true):bl a c=true:=bytes_trans H d
theorem DC(a:ByteArray):bl a a=false:=bytes_irrefl _
theorem vE{x y:Ev}:lC x y=true↔jl x<jl y\/(jl x=jl y/\(x.node<y.node\/(x.node=y.node/\(x.gy<y.gy\/(x.gy=y.gy/\((x.host≠y.host/\bl x.host y.host=true)\/(x.host=y.host/\bl x.jN y.jN=true))))))):=by
 unfold lC;by_cases H:jl x=jl y
 .rw[af (cI H)];by_cases a:x.node=y.node
  .rw[af (cI a)];by_cases b:x.gy=y.gy
   .rw[af (cI b)];by_cases c:x.host=y.host
    .rw[af (cI c)];simp[H,a,b,c]
    .rw[ag c];simp[H,a,b,c]
   .rw[ag b];simp[H,a,b]
  .rw[ag a];simp[H,a]
 .rw[ag H];simp[H]
theorem oz(x:Ev):lC x x=false:=by
 cases h:lC x x
 .rfl
 .rw[vE]at h;rcases h with h|⟨_,h|⟨_,h|⟨_,⟨h,_⟩|⟨_,h⟩⟩⟩⟩
  .omega
  .omega
  .omega
  .exact absurd rfl h
  .rw[DC]at h;cases h
theorem uB{x y z:Ev}(a:lC x y=true)(H:lC y z=true):lC x z=true:=by
 rw[vE]at a H⊢;rcases a with a|⟨C,a⟩
 .rcases H with H|⟨c,_⟩
  .exact .inl ae
  .exact .inl ae
 rcases H with H|⟨c,H⟩
 .exact .inl ae
 refine .inr ⟨ae,?_⟩;rcases a with a|⟨d,a⟩
 .rcases H with H|⟨n,_⟩<;>exact .inl ae
 rcases H with H|⟨n,H⟩
 .exact .inl ae
 refine .inr ⟨ae,?_⟩;rcases a with a|⟨S,a⟩
 .rcases H with H|⟨s,_⟩<;>exact .inl ae
 rcases H with H|⟨s,H⟩
 .exact .inl ae
 refine .inr ⟨ae,?_⟩;rcases a with⟨b,a⟩|⟨b,a⟩
 .rcases H with⟨E,H⟩|⟨E,H⟩
  .refine .inl ⟨λe=> ?_,AJ a H⟩;have:=AJ a (e▸H);rw[DC]at this;cases this
  .exact .inl (by rw[<-E];exact⟨b,a⟩)
 .rcases H with⟨E,H⟩|⟨E,H⟩
  .exact .inl (by rw[b];exact⟨E,H⟩)
  .exact .inr ⟨b.trans E,AJ a H⟩
theorem AK{x y:Ev}(h:jl x=jl y)(a:x=.zero):y=.zero:=by
 unfold jl at h;rw[ag a]at h;by_cases H:y=.zero
 .exact H
 .rw[af H]at h;split at h<;>omega
theorem AL{x y:Ev}(h:x≠y):lC x y=true\/lC y x=true:=by
 rw[vE,vE];by_cases H:jl x=jl y
 .by_cases a:x.node=y.node
  .by_cases b:x.gy=y.gy
   .by_cases c:x.host=y.host
    .have g:x.jN≠y.jN:=λe=>by
      have j:x≠ .zero:=λE=>h (E.trans (AK H E).symm)
      have k:y≠ .zero:=λE=>h ((AK H.symm E).trans E.symm)
      unfold jl at H;rw[af j,af k]at H;have i:x.km=y.km:=by
       cases d:x.km<;>cases f:y.km<;>simp[d,f]at H⊢
      exact h (Ev.ext' i a b c e)
     rcases R3 g with h5|h5
     .exact .inl (.inr ⟨H,.inr ⟨a,.inr ⟨b,.inr ⟨c,h5⟩⟩⟩⟩)
     .exact .inr (.inr ⟨H.symm,.inr ⟨a.symm,.inr ⟨b.symm,.inr ⟨c.symm,h5⟩⟩⟩⟩)
    .rcases R3 c with h5|h5
     .exact .inl (.inr ⟨H,.inr ⟨a,.inr ⟨b,.inl ⟨c,h5⟩⟩⟩⟩)
     .exact .inr (.inr ⟨H.symm,.inr ⟨a.symm,.inr ⟨b.symm,.inl ⟨fJ c,h5⟩⟩⟩⟩)
   .rcases Int.lt_or_gt_of_ne b with h5|h5
    .exact .inl (.inr ⟨H,.inr ⟨a,.inl h5⟩⟩)
    .exact .inr (.inr ⟨H.symm,.inr ⟨a.symm,.inl h5⟩⟩)
  .rcases Int.lt_or_gt_of_ne a with h5|h5
   .exact .inl (.inr ⟨H,.inl h5⟩)
   .exact .inr (.inr ⟨H.symm,.inl h5⟩)
 .rcases Int.lt_or_gt_of_ne H with h5|h5
  .exact .inl (.inl h5)
  .exact .inr (.inl h5)
variable {h : aj} {R : Value → aj → Prop}
theorem get_at{s:ByteArray}{i:Nat}(H:i<s.size):s.get! i=s.data.toList.getD i 0:=by
 have:i<s.data.size:=H;show s.data[i]! =_;have e:s.data.toList[i]? =some s.data[i]:=by rw[dL];exact Array.getElem?_eq_getElem this
 rw[getElem!_pos s.data i this,bk,e];rfl
theorem decode_at(s:ByteArray)(i:Nat)(a:i<s.size):(s.data.toList.getD i 0<128->Utf8.decode s i=((s.data.toList.getD i 0).toNat,1))/\(¬s.data.toList.getD i 0<128->128<=(Utf8.decode s i).1):=by
 have e:=get_at a;have E:(s.get! (i+0)).toNat=(s.data.toList.getD i 0).toNat:=by rw[Nat.add_zero,e]
 constructor
 .intro h;have h:(s.data.toList.getD i 0).toNat<128:=h;unfold Utf8.decode;simp only[E];rw[ag h]
 .intro h;have h: ¬(s.data.toList.getD i 0).toNat<128:=h;unfold Utf8.decode;simp only[E];rw[af h];split
  .split
   .omega
   .show 128<=Utf8.runeError;decide
  .split
   .split
    .rename_i H;simp only[aU,aX]at H;show 128<=_;omega
    .show 128<=Utf8.runeError;decide
   .split
    .split
     .rename_i H;simp only[aU,aX]at H;show 128<=_;omega
     .show 128<=Utf8.runeError;decide
    .show 128<=Utf8.runeError;decide
def np(m:Int)(c:Int):Bool:=(decide (c<97)||decide (c>122)) && ((decide (c<48)||decide (c>57)) && ((c !=45) && (c !=m)))
theorem Ou{more c:Int}(e:more<128)(h:128<=c):np more c=true:=by
 unfold np;have H:c>122:=ae
 have a:c>57:=ae
 have b:c≠45:=ae
 have d:c≠more:=ae
 simp[H,a,b,d]
theorem Ov(m:UInt8)(b:UInt8):np (m.toNat:Int) (b.toNat:Int)= !pl m b:=by
 have E:(b=45)↔((b.toNat:Int)=45):=by
  constructor
  .rintro rfl;rfl
  .intro e;exact UInt8.toNat_inj.1 (by show b.toNat=45;omega)
 have a:(b=m)↔((b.toNat:Int)=(m.toNat:Int)):=by
  constructor
  .rintro rfl;rfl
  .intro e;exact UInt8.toNat_inj.1 ae
 have c:(97<=b)↔ ¬((b.toNat:Int)<97):=by rw[UInt8.le_iff_toNat_le];show 97<=b.toNat↔_;omega
 have d:(b<=122)↔ ¬((b.toNat:Int)>122):=by rw[UInt8.le_iff_toNat_le];show b.toNat<=122↔_;omega
 have f:(48<=b)↔ ¬((b.toNat:Int)<48):=by rw[UInt8.le_iff_toNat_le];show 48<=b.toNat↔_;omega
 have g:(b<=57)↔ ¬((b.toNat:Int)>57):=by rw[UInt8.le_iff_toNat_le];show b.toNat<=57↔_;omega
 unfold np pl;have i:(b==45)=decide ((b.toNat:Int)=45):=by by_cases q:b=45<;>simp[q,E.symm]
 have j:(b==m)=decide ((b.toNat:Int)=(m.toNat:Int)):=by
  by_cases q:b=m
  .simp[q]
  .have: ¬((b.toNat:Int)=(m.toNat:Int)):=λe=>q (a.2 e)
   rw[aB this];simp[q]
 rw[i,j];simp only[c,d,f,g];by_cases Q:(b.toNat:Int)<97<;>by_cases k:(b.toNat:Int)>122<;>by_cases l:(b.toNat:Int)<48<;>by_cases n:(b.toNat:Int)>57<;>by_cases o:(b.toNat:Int)=45<;>by_cases p:(b.toNat:Int)=(m.toNat:Int)<;>simp[Q,k,l,n,o,p]
end jA
end
end Go.Proofs.YtimiaphmdidfhaaGreatDoor
namespace Go.Proofs
open Go.Den
open IntKind (wrap)
open Int (toNat)
section
open Go.Shelf
def Tryz.GF:Go.Shelf.Ren:=⟨fun|145=>302|220=>314|219=>317|217=>318|225=>319|224=>320|267=>321|266=>322|314=>323|n=>n,fun|9=>9|4=>4|59=>394|3=>3|5=>5|46=>153|146=>417|51=>329|n=>n,fun|1=>5|n=>n⟩
theorem Tryz.QS : Go.Proofs.Lays.n145 Tryz.prog Tryz.GF := {
  mixed := by kernel_rfl
  f145 := Tryz.func302.trans (congrArg some (by kernel_rfl))
  f217 := Tryz.func318.trans (congrArg some (by kernel_rfl))
  f219 := Tryz.func317.trans (congrArg some (by kernel_rfl))
  f220 := Tryz.func314.trans (congrArg some (by kernel_rfl))
  f224 := Tryz.func320.trans (congrArg some (by kernel_rfl))
  f225 := Tryz.func319.trans (congrArg some (by kernel_rfl))
  f266 := Tryz.func322.trans (congrArg some (by kernel_rfl))
  f267 := Tryz.func321.trans (congrArg some (by kernel_rfl))
  f314 := Tryz.func323.trans (congrArg some (by kernel_rfl))
  t3 := Tryz.underlying3
  a3 := Tryz.isAgg3
  z3 := Tryz.sizeOf3
  v3 := Tryz.zeroValue3
  t4 := Tryz.underlying4
  a4 := Tryz.isAgg4
  z4 := Tryz.sizeOf4
  v4 := Tryz.zeroValue4
  t5 := Tryz.underlying5
  a5 := Tryz.isAgg5
  z5 := Tryz.sizeOf5
  v5 := Tryz.zeroValue5
  t9 := Tryz.underlying9
  a9 := Tryz.isAgg9
  z9 := Tryz.sizeOf9
  v9 := Tryz.zeroValue9
  t46 := Tryz.underlying153
  a46 := Tryz.isAgg153
  z46 := Tryz.sizeOf153
  v46 := Tryz.zeroValue153
  t51 := Tryz.underlying329
  a51 := Tryz.isAgg329
  z51 := Tryz.sizeOf329
  v51 := Tryz.zeroValue329
  t59 := Tryz.underlying394
  a59 := Tryz.isAgg394
  z59 := Tryz.sizeOf394
  v59 := Tryz.zeroValue394
  t146 := Tryz.underlying417
  a146 := Tryz.isAgg417
  z146 := Tryz.sizeOf417
  v146 := Tryz.zeroValue417
  g1 := by kernel_rfl }
def Tryz.GG:Go.Shelf.Ren:=⟨fun|103=>301|210=>313|206=>316|n=>n,fun|9=>9|4=>4|24=>392|3=>3|n=>n,fun|n=>n⟩
theorem Tryz.QT : Go.Proofs.Lays.n103 Tryz.prog Tryz.GG := {
  mixed := by kernel_rfl
  f103 := Tryz.func301.trans (congrArg some (by kernel_rfl))
  f206 := Tryz.func316.trans (congrArg some (by kernel_rfl))
  f210 := Tryz.func313.trans (congrArg some (by kernel_rfl))
  t3 := Tryz.underlying3
  a3 := Tryz.isAgg3
  z3 := Tryz.sizeOf3
  v3 := Tryz.zeroValue3
  t4 := Tryz.underlying4
  a4 := Tryz.isAgg4
  z4 := Tryz.sizeOf4
  v4 := Tryz.zeroValue4
  t9 := Tryz.underlying9
  a9 := Tryz.isAgg9
  z9 := Tryz.sizeOf9
  v9 := Tryz.zeroValue9
  t24 := Tryz.underlying392
  a24 := Tryz.isAgg392
  z24 := Tryz.sizeOf392
  v24 := Tryz.zeroValue392 }

end
end Go.Proofs
namespace Go.Proofs.YtimiaphmdidfhaaGreatDoor
open Go.Den
open IntKind (wrap)
open Int (toNat)
section
namespace lM
variable {h H:aj} {R:fD}
variable {s:ByteArray}
def Mx(h:aj):Prop:= ∃m,aY h ⟨5,0,none⟩=some (.int .i64 m)
theorem Mx.on(M:Mx h)(f:Fr No h H):Mx H:=by
 obtain⟨m,a⟩:=M;exact⟨m,f.cell a id⟩
theorem AM{S:ByteArray}(M:Mx h)(f:s.size<4294967281)(c:R (.T #[.string ⟨(Lib.cut s.data.toList S.data.toList).1.toArray⟩,.string ⟨(Lib.cut s.data.toList S.data.toList).2.1.toArray⟩,.B (Lib.cut s.data.toList S.data.toList).2.2]) h):Cl 302 #[.S s,.S S] h R:=λw g=>by
 subst g;obtain⟨m,d⟩:=M;refine(Any.strings_Cut Tryz.QS s S m w f (by rw[kV];exact d)).mono λe i ⟨b,n,a⟩=>⟨_,b,?_,?_⟩
 .rw[a];exact c
 .rw[a];exact⟨rfl,rfl,rfl⟩
theorem LP{p:ByteArray}(c:R (.T #[.string ⟨(Lib.trimPrefix s.data.toList p.data.toList).toArray⟩,.B (Lib.hasPrefix s.data.toList p.data.toList)]) h):Cl 301 #[.S s,.S p] h R:=λw d=>
 (Any.strings_CutPrefix Tryz.QT s p w).mono λe f ⟨b,a⟩=>⟨_,b,by rw[a,d];exact c,by rw[a];exact fX.refl _⟩

end lM
end
section
namespace Bn
open Cb
open jA (Ev dc)
def qm(s q:Nat):Nat:=if s%2=1 then(s/2) ^^^ q else s/2
def rP(q:Nat):Nat->Nat->Nat
 |0,s=>s
 |k+1,s=>rP q k (qm s q)
def R4(s c q:Nat):Nat:=rP q 8 (s ^^^ c)
def runN(s:Nat)(b:cM)(q:Nat):Nat:=b.foldl (λs c=>R4 s c.toNat q) s
def AN(b:cM):Nat:=65535 ^^^ (runN 65535 b 33800%65536)
def yx(b:cM):Nat:=4294967295 ^^^ runN 4294967295 b 2197175160
def EG(b:cM):cM:= [UInt8.ofNat (AN b/256),UInt8.ofNat (AN b)]
def KG(b:cM):cM:= [UInt8.ofNat (yx b/16777216),UInt8.ofNat (yx b/65536),UInt8.ofNat (yx b/256),UInt8.ofNat (yx b)]
def GH(x:Ev):cM:= [47,47]++x.host.data.toList++ [47]++x.jN.data.toList
def Cv(x:Ev):Tr:=if x=.zero then sX [num 1,num 0]else if x.km=true then sX [num 2,sX [num x.node.toNat,num x.gy.toNat]]else sX [num 1,.mk 3 0 (GH x) []]
def yy(s:cM):Ev:=⟨false,0,0,⟨(Lib.cut (Lib.trimPrefix s [47,47]) [47]).1.toArray⟩,⟨(Lib.cut (Lib.trimPrefix s [47,47]) [47]).2.1.toArray⟩⟩
def vF(s:cM):Bool:=Lib.hasPrefix s [47,47] && (Lib.cut (Lib.trimPrefix s [47,47]) [47]).2.2 && !(Lib.cut (Lib.trimPrefix s [47,47]) [47]).1.isEmpty && dc (yy s)
def at_(l:List Tr)(i:Nat):Tr:=l.getD i Dz
def AO(l:List Tr):Bool:=l.all λt=>oV t (num t.n)
def Ow(t:Tr):Ev:=⟨true,((at_ t.l 0).n:Int),((at_ t.l 1).n:Int),⟨#[]⟩,⟨#[]⟩⟩
def pn(V:cM->Bool)(t:Tr):Option Ev:=
 if iC V t=true/\t.k=4/\t.l.length=2 then
  if oV (at_ t.l 0) (num 1)=true/\oV (at_ t.l 1) (num 0)=true then some .zero
  else if oV (at_ t.l 0) (num 1)=true/\(at_ t.l 1).k=3 then(if vF (at_ t.l 1).b=true then some (yy (at_ t.l 1).b)else none)
  else if oV (at_ t.l 0) (num 2)=true then(if(at_ t.l 1).k=4/\(at_ t.l 1).l.length=2/\AO (at_ t.l 1).l=true/\dc (Ow (at_ t.l 1))=true then some (Ow (at_ t.l 1))else none)
  else none
 else none
structure jq where
 e:Ev
 tm:Nat
 sq:Nat
deriving DecidableEq
def jq.zero:jq:=⟨.zero,0,0⟩
def ij(x:jq):Bool:=dc x.e && decide (x.tm<=1099511627776) && decide (x.sq<=1099511627776)
def Ox(x:jq):Tr:=sX [Cv x.e,sX [num x.tm,num x.sq]]
def kq(V:cM->Bool)(t:Tr):Option jq:=
 if t.k=4/\t.l.length=2/\(at_ t.l 1).k=4/\(at_ t.l 1).l.length=2 then
  match pn V (at_ t.l 0)with
  |none=>none
  |some e=>if ij ⟨e,(at_ (at_ t.l 1).l 0).n,(at_ (at_ t.l 1).l 1).n⟩=true/\oV (Ox ⟨e,(at_ (at_ t.l 1).l 0).n,(at_ (at_ t.l 1).l 1).n⟩) t=true then some ⟨e,(at_ (at_ t.l 1).l 0).n,(at_ (at_ t.l 1).l 1).n⟩else none
 else none
def typeAt(l:List Tr)(i:Nat):Int:=if i<l.length/\(at_ l i).n<=2/\oV (at_ l i) (num (at_ l i).n)=true then((at_ l i).n:Int)else -1
def sumOf(V:cM->Bool)(l:List Tr)(s:Nat):Except Int (cM):=
 if iC V (sX (l++ [qP (List.replicate (2*s) 0)]))=true then .ok (if s=1 then EG (enc (sX (l++ [qP (List.replicate (2*s) 0)])))else KG (enc (sX (l++ [qP (List.replicate (2*s) 0)]))))else .error 3
def oA(V:cM->Bool)(l:List Tr)(i:Nat):Except Int Tr:=
 if i<l.length then
  if l.all (iC V)=true/\0<=typeAt l i then
   if 0<typeAt l i then(match sumOf V l (typeAt l i).toNat with
    | .error e=> .error e
    | .ok b=>if iC V (sX (l++ [qP b]))=true then .ok (sX (l++ [qP b]))else .error 3)
   else if iC V (sX l)=true then .ok (sX l)else .error 3
  else .error 3
 else .error 1
def qF(V:cM->Bool)(t:Tr)(i:Nat):Except Int (List Tr):=
 if iC V t=true/\t.k=4/\0<=typeAt t.l i then
  if typeAt t.l i=0 then .ok t.l
  else if i<t.l.length - 1/\oV (at_ t.l (t.l.length - 1)) (qP (at_ t.l (t.l.length - 1)).b)=true/\(at_ t.l (t.l.length - 1)).b.length=2*(typeAt t.l i).toNat then
   (match sumOf V (t.l.take (t.l.length - 1)) (typeAt t.l i).toNat with
   | .error e=> .error e
   | .ok b=>if b=(at_ t.l (t.l.length - 1)).b then .ok (t.l.take (t.l.length - 1))else .error 10)
  else .error 3
 else .error 3
structure Prim where
 fl:Nat
 sum:Int
 dest:Ev
 rep:Ev
 id:jq
 fW:Nat
deriving DecidableEq
def Prim.zero:Prim:=⟨0,0,.zero,.zero,.zero,0⟩
def TG(n a:Int):Bool:=IntKind.wrap .u64 ((BitVec.ofInt (IntKind.bits .u64) n &&& ~~~ BitVec.ofInt (IntKind.bits .u64) a).toNat:Int)==0
def jB(p:Prim):Bool:=TG (p.fl:Int) 409638 && decide (0<=p.sum) && decide (p.sum<=2) && dc p.dest && dc p.rep && ij p.id && decide (p.fW<=1099511627776)
def GI(p:Prim):List Tr:= [num 7,num p.fl,num p.sum.toNat,Cv p.dest,Cv p.id.e,Cv p.rep,sX [num p.id.tm,num p.id.sq],num p.fW]
def oB(V:cM->Bool)(p:Prim):Except Int Tr:=if jB p=true then oA V (GI p) 2 else .error 3
def w9(l:List Tr)(d r:Ev)(i:jq):Prim:=⟨(at_ l 1).n,((at_ l 2).n:Int),d,r,i,(at_ l 7).n⟩
def tX(V:cM->Bool)(t:Tr):Except Int Prim:=
 match qF V t 2 with
 | .error e=> .error e
 | .ok l=>if l.length=8 then(match pn V (at_ l 3),pn V (at_ l 5),kq V (sX [at_ l 4,at_ l 6])with
  |some d,some r,some i=>(match oB V (w9 l d r i)with
   | .ok a=>if oV a t=true then .ok (w9 l d r i)else .error 3
   | .error _=> .error 3)
  |_,_,_=> .error 3)else .error 3
structure mT where
 ty:Nat
 nr:Nat
 fl:Nat
 sum:Int
 data:cM
deriving DecidableEq
def GJ(l:List Nat):Tr:=sX (l.map num)
def ks(V:cM->Bool)(b:cM):Bool:=match mK V b with| .ok (t,n)=>decide (n=b.length) && decide (enc t=b)| .error _=>false
def eY(V:cM->Bool)(b:cM):Tr:=match mK V b with| .ok (t,_)=>t| .error _=>Dz
def QU(V:cM->Bool)(d:cM):Bool:=ks V d && oV (eY V d) (num (eY V d).n) && decide ((eY V d).n<=1099511627776)
def oP(t:Tr):Nat:=(at_ t.l 0).n
def AP(t:Tr):Nat:=(at_ t.l 1).n
def Oy(V:cM->Bool)(d:cM):Bool:=ks V d && decide ((eY V d).k=4/\(eY V d).l.length=2) && oV (eY V d) (GJ [oP (eY V d),AP (eY V d)]) && decide (1<=oP (eY V d)/\oP (eY V d)<=255/\AP (eY V d)<=oP (eY V d))
def AQ(V:cM->Bool)(t:Nat)(d:cM):Bool:=(if t=6 then ks V d && (pn V (eY V d)).isSome else if t=7 then QU V d else if t=10 then Oy V d else true) && decide (d.length<=200)
def mL(n:Nat):Bool:=decide (1<=n/\n<=255)
def jQ(V:cM->Bool)(b:mT):Bool:=mL b.ty && mL b.nr && TG (b.fl:Int) 23 && decide (0<=b.sum) && decide (b.sum<=2) && AQ V b.ty b.data
def LQ(b:mT):List Tr:= [num b.ty,num b.nr,num b.fl,num b.sum.toNat,qP b.data]
def sZ(V:cM->Bool)(b:mT):Except Int Tr:=if jQ V b=true then oA V (LQ b) 3 else .error 3
def rQ(l:List Tr):mT:=⟨(at_ l 0).n,(at_ l 1).n,(at_ l 2).n,((at_ l 3).n:Int),(at_ l 4).b⟩
def AR(V:cM->Bool)(t:Tr):Except Int mT:=
 match qF V t 3 with
 | .error e=> .error e
 | .ok l=>if l.length=5/\(at_ l 4).k=2 then(match sZ V (rQ l)with
  | .ok a=>if oV a t=true then .ok (rQ l)else .error 3
  | .error _=> .error 3)else .error 3
structure mr where
 p:Prim
 bl:List mT
deriving DecidableEq
def alone(k:Nat):Bool:=decide (k=1\/k=6\/k=7\/k=10)
def apart(b c:mT):Bool:=decide (c.nr≠b.nr) && (decide (c.ty≠b.ty)|| !alone b.ty)
def I3(V:cM->Bool):List mT->List mT->Bool
 |_, []=>true
 |pre,b::l=>jQ V b && pre.all (apart b) && I3 V (pre++ [b]) l
def Cw(V:cM->Bool)(l:List mT):Bool:=match l.getLast? with
 |none=>false
 |some z=>decide (l.length<=8) && decide (z.ty=1/\z.nr=1) && I3 V [] l
def AS(V:cM->Bool)(t:Tr):cM:=if iC V t=true then enc t else []
def GK(V:cM->Bool):List mT->cM->Option (cM)
 | [],o=>some o
 |b::l,o=>match sZ V b with
  | .error _=>none
  | .ok t=>GK V l (o++AS V t)
def rR(V:cM->Bool)(b:mr):Option (cM):=match oB V b.p with
 | .error _=>none
 | .ok t=>GK V b.bl (AS V t)
def jR(V:cM->Bool)(b:mr):Option (cM):=
 if Cw V b.bl=true then(match rR V b with
  |none=>none
  |some l=>if l.length<=598 then some (159::(l++ [255]))else none)
 else none
def GL(V:cM->Bool):List Tr->List mT->Except Int (List mT)
 | [],o=> .ok o
 |t::l,o=>match AR V t with
  | .error e=> .error e
  | .ok b=>GL V l (o++ [b])
def lD(V:cM->Bool)(b:cM):Except Int mr:=
 if b.length<=1200 then(match mK V b with
  | .error e=> .error e
  | .ok (t,n)=>if n=b.length/\t.k=4/\2<=t.l.length/\t.l.length<=9 then(match tX V (at_ t.l 0)with
   | .error e=> .error e
   | .ok p=>(match GL V (t.l.drop 1) []with
    | .error e=> .error e
    | .ok l=>if(jR V ⟨p,l⟩).isSome=true then .ok ⟨p,l⟩else .error 3))else .error 3)
 else .error 2
def rT(V:cM->Bool)(B:cM):Bool:=match lD V B with
 | .error _=>false
 | .ok b=>decide (jR V b=some B)
def rU(b:mr):cM:=match b.bl.getLast? with|none=> []|some z=>z.data
structure zP where
 rc:Bool
 dl:Bool
 de:Bool
 reason:Nat
 at':Nat
 of:jq
deriving DecidableEq
def ja(r:zP):Bool:=(r.rc||r.dl||r.de) && decide (r.reason<=255) && decide (r.at'<=1099511627776) && ij r.of
def GM(l:List Bool):Tr:=sX (l.map λb=>num (if b=true then 1 else 0))
def EH(r:zP):Tr:=sX [num 1,sX [GM [r.rc,r.dl,r.de],num r.reason,num r.at',Ox r.of]]
def EI(V:cM->Bool)(r:zP):Option (cM):=if ja r=true/\iC V (EH r)=true then some (enc (EH r))else none
def mE(V:cM->Bool)(r:zP)(d:Ev)(id:jq)(l:Nat):Option mr:=match EI V r with
 |none=>none
 |some b=>if(jR V ⟨⟨2,0,d,.zero,id,l⟩, [⟨1,1,0,0,b⟩]⟩).isSome=true then some ⟨⟨2,0,d,.zero,id,l⟩, [⟨1,1,0,0,b⟩]⟩else none

end Bn
end
section
namespace Ask
open jA (Ev dc)
structure Rq where
 id:Nat
 kind:Int
 ep:Ev
 dest:Ev
 kH:Int
 num:Int
 jm:Int
 mz:cM
 fW:Nat
 token:Nat
 on:Bool
deriving DecidableEq
def jF(x:Rq):Rq:=⟨x.id,x.kind,.zero,.zero,0,0,0, [],0,0,false⟩
def rV(x:Rq):Rq:=
 if x.kind=1\/x.kind=3 then { jF x with ep:=x.ep,kH:=x.kH }
 else if x.kind=2\/x.kind=6 then { jF x with ep:=x.ep }
 else if x.kind=4 then { jF x with ep:=x.ep,dest:=x.dest,mz:=x.mz,fW:=x.fW,on:=x.on }
 else if x.kind=5\/x.kind=8\/x.kind=9 then { jF x with num:=x.num }
 else if x.kind=7 then { jF x with ep:=x.ep,jm:=x.jm }
 else if x.kind=10 then { jF x with on:=x.on }
 else if x.kind=12 then { jF x with token:=x.token }
 else jF x
def mM(e:Ev):Bool:=dc e && !decide (e=.zero)
def lW(x:Rq):Bool:=
 if x.kind=1\/x.kind=3 then mM x.ep && decide (x.kH≥0) && decide (x.kH<=2)
 else if x.kind=2\/x.kind=6 then mM x.ep
 else if x.kind=4 then mM x.ep && mM x.dest && decide (x.mz.length<=200) && decide (x.fW≥1) && decide (x.fW<=1099511627776)
 else if x.kind=5\/x.kind=8\/x.kind=9 then decide (x.num≥1) && decide (x.num<=1099511627776)
 else if x.kind=7 then mM x.ep && decide (x.jm≥1) && decide (x.jm<=1000)
 else if x.kind=12 then decide (x.token≥1) && decide (x.token<=2147483648)
 else decide (x.kind=10\/x.kind=11)
def jS(x:Rq):Bool:=decide (x.id≥1) && decide (x.id<=1099511627776) && lW x && decide (x=rV x)

end Ask
end
section
namespace Cb
structure CV where
 k:Int
 n:Nat
 v:BV
 q:ck
 ll:Nat
 cl:Nat
abbrev iR(x:CV):List Value:= [.int .i64 x.k,.int .u64 (x.n:Int),x.v.val,.slice x.q x.ll x.cl]
theorem hM(x:CV):(iR x).length=4:=rfl
abbrev CV.agg(x:CV):Value:=.agg (iR x).toArray
structure mF (h:aj) (D:Nat->Prop) (q:ck) (l c:Nat) (ys:List CV):Prop where
 len:l=ys.length
 row:Row h q (ys.flatMap iR)
 own:ys≠ []->∀y,aN q y->D y
 cap:l<=c
mutual
def gX (h:aj) (D:Nat->Prop):Tr->CV->Prop
 | .mk k n b l,x=>(x.k=k/\x.n=n/\x.v.b=b/\x.v.ok h D)/\∃ys,mF h D x.q x.ll x.cl ys/\dD h D l ys
def dD (h:aj) (D:Nat->Prop):List Tr->List CV->Prop
 | [], []=>True
 |t::ts,y::ys=>gX h D t y/\dD h D ts ys
 |_,_=>False
end
variable {h a : aj} {D D' : Nat → Prop}
theorem mF.frame{Q:Nat->Prop}{q:ck}{l c:Nat}{b:List CV}(H:mF h D q l c b)(f:Fr Q h a)(d: ∀y,D y->¬Q y):mF a D q l c b:=by
 refine⟨H.len,?_,H.own,H.cap⟩;by_cases e:b= []
 .subst e;exact Row.nil
 .exact H.row.frame f (λA E=>d _ (H.own e _ ⟨A,E,rfl⟩))
theorem mF.mono{q:ck}{l c:Nat}{b:List CV}(H:mF h D q l c b)(d: ∀y,D y->D' y):mF h D' q l c b:=⟨H.len,H.row,λe y f=>d y (H.own e y f),H.cap⟩
theorem mF.lt{q:ck}{l c:Nat}{b:List CV}(H:mF h D q l c b):mF h (λy=>D y/\y<h.size) q l c b:=⟨H.len,H.row,λe y d=>⟨H.own e y d,iZ H.row (by cases b with|nil=>exact absurd rfl e|cons=>simp) d⟩,H.cap⟩
theorem GN{x:BV}(H:x.ok h D):x.ok h (λy=>D y/\y<h.size):=⟨H.row,λe y b=>⟨H.own e y b,iZ H.row (by cases c:x.b with|nil=>exact absurd c e|cons=>simp[bc]) b⟩,H.cap⟩
mutual
theorem gX.frame {Q:Nat->Prop} (f:Fr Q h a) (hq: ∀y,D y->¬Q y): ∀ {t:Tr} {x:CV},gX h D t x->gX a D t x
 | .mk k n b l,x,H=>by
  unfold gX at H⊢;obtain⟨⟨h1,h2,h3,h4⟩,ys,h5,h6⟩:=H;exact⟨⟨h1,h2,h3,h4.frame f hq⟩,ys,h5.frame f hq,dD.frame f hq h6⟩
theorem dD.frame {Q:Nat->Prop} (f:Fr Q h a) (hq: ∀y,D y->¬Q y): ∀ {ts:List Tr} {ys:List CV},dD h D ts ys->dD a D ts ys
 | [], [],_=>trivial
 |t::ts,y::ys,H=>by
  unfold dD at H⊢;exact⟨gX.frame f hq H.1,dD.frame f hq H.2⟩
 | [],_::_,H=>by unfold dD at H;exact H.elim
 |_::_, [],H=>by unfold dD at H;exact H.elim
end
mutual
theorem gX.mono (hd: ∀y,D y->D' y): ∀ {t:Tr} {x:CV},gX h D t x->gX h D' t x
 | .mk k n b l,x,H=>by
  unfold gX at H⊢;obtain⟨⟨h1,h2,h3,h4⟩,ys,h5,h6⟩:=H;exact⟨⟨h1,h2,h3,h4.mono hd⟩,ys,h5.mono hd,dD.mono hd h6⟩
theorem dD.mono (hd: ∀y,D y->D' y): ∀ {ts:List Tr} {ys:List CV},dD h D ts ys->dD h D' ts ys
 | [], [],_=>trivial
 |t::ts,y::ys,H=>by
  unfold dD at H⊢;exact⟨gX.mono hd H.1,dD.mono hd H.2⟩
 | [],_::_,H=>by unfold dD at H;exact H.elim
 |_::_, [],H=>by unfold dD at H;exact H.elim
end
mutual
theorem gX.lt: ∀ {t:Tr} {x:CV},gX h D t x->gX h (λy=>D y/\y<h.size) t x
 | .mk k n b l,x,H=>by
  unfold gX at H⊢;obtain⟨⟨h1,h2,h3,h4⟩,ys,h5,h6⟩:=H;exact⟨⟨h1,h2,h3,GN h4⟩,ys,h5.lt,dD.lt h6⟩
theorem dD.lt: ∀ {ts:List Tr} {ys:List CV},dD h D ts ys->dD h (λy=>D y/\y<h.size) ts ys
 | [], [],_=>trivial
 |t::ts,y::ys,H=>by
  unfold dD at H⊢;exact⟨gX.lt H.1,dD.lt H.2⟩
 | [],_::_,H=>by unfold dD at H;exact H.elim
 |_::_, [],H=>by unfold dD at H;exact H.elim
end
theorem gX.on{t:Tr}{x:CV}(H:gX h D t x)(f:Fr No h a):gX a D t x:=gX.frame f bX H
theorem dD.on{t:List Tr}{y:List CV}(H:dD h D t y)(f:Fr No h a):dD a D t y:=dD.frame f bX H
theorem dD.len: ∀{T:List Tr}{b:List CV},dD h D T b->T.length=b.length
 | [], [],_=>rfl
 |t::T,y::b,H=>by
  unfold dD at H;rw[bf,bf,dD.len H.2]
 | [],_::_,H=>by unfold dD at H;exact H.elim
 |_::_, [],H=>by unfold dD at H;exact H.elim
theorem dD.get: ∀{T:List Tr}{c:List CV}{i:Nat}{y:CV},dD h D T c->c[i]? =some y->∃t,T[i]? =some t/\gX h D t y
 | [], [],_,_,_,b=>by simp at b
 |t::T,y::c,0,z,H,b=>by
  unfold dD at H;rw[eU]at b;cases b;exact⟨t,rfl,H.1⟩
 |t::T,y::c,i+1,z,H,b=>by
  unfold dD at H;rw[dG]at b;obtain⟨u,d,e⟩:=dD.get H.2 b;exact⟨u,by rw[dG];exact d,e⟩
 | [],_::_,_,_,H,_=>by unfold dD at H;exact H.elim
 |_::_, [],_,_,H,_=>by unfold dD at H;exact H.elim
theorem dD.snoc: ∀{T:List Tr}{b:List CV}{t:Tr}{y:CV},dD h D T b->gX h D t y->dD h D (T++ [t]) (b++ [y])
 | [], [],_,_,_,c=>by
  show dD h D [_] [_];unfold dD;exact⟨c,trivial⟩
 |u::T,z::b,t,y,H,c=>by
  unfold dD at H;show dD h D (u::(T++ [t])) (z::(b++ [y]));unfold dD;exact⟨H.1,dD.snoc H.2 c⟩
 | [],_::_,_,_,H,_=>by unfold dD at H;exact H.elim
 |_::_, [],_,_,H,_=>by unfold dD at H;exact H.elim
theorem dD.take: ∀{T:List Tr}{b:List CV}(n:Nat),dD h D T b->dD h D (T.take n) (b.take n)
 | [], [],n,_=>by simp[dD]
 |t::T,y::b,0,_=>by simp[dD]
 |t::T,y::b,n+1,H=>by
  unfold dD at H;rw[gz,gz];unfold dD;exact⟨H.1,dD.take n H.2⟩
 | [],_::_,_,H=>by unfold dD at H;exact H.elim
 |_::_, [],_,H=>by unfold dD at H;exact H.elim
theorem dD.drop: ∀{T:List Tr}{b:List CV}(n:Nat),dD h D T b->dD h D (T.drop n) (b.drop n)
 | [], [],n,_=>by simp[dD]
 |t::T,y::b,0,H=>H
 |t::T,y::b,n+1,H=>by
  unfold dD at H;rw[List.drop_succ_cons,List.drop_succ_cons];exact dD.drop n H.2
 | [],_::_,_,H=>by unfold dD at H;exact H.elim
 |_::_, [],_,H=>by unfold dD at H;exact H.elim
end Cb
end
section
variable {h:aj} {R:fD}
variable {E:fD} {r C f g b d:Nat} {c H D v n:Int} {a:Bool} {K:Option Value->aj->Prop} {B:ck}
theorem LR.walk{i:Bool}{e:Int}(j:if(!i)then E (.iface 307 (.agg #[.I e])) h else R (.T #[]) h):iQ Tryz.prog 268 #[.B i,.I e] h R E:=iL (lq (cq lf lf)) I1 Tryz.func268 rfl rfl (Eq.mp dz j)
theorem xa.walk(X:bh h (.C #[.I 0,.U 0,.B false] 269) λl H=>aH (λ(a:ck) (next:Int) (e:Int) (P:aj)=>Ce 268 #[.B (e==0),.I e] P (λf' Q=>f'=.T #[]/\aT Q (AA r 1) (.I next) λp=>aM a λL=>bJ.LD p L λc' d' e'=>bJ.ST p (AA l 0) c' d' e' λq=>bJ.LD q (AA l 0) λZ a' b'=>R (.agg #[.I Z,.U a',.B b']) q) E) (λJ=>Hl H r 0 λj T t=>Hi H r 1 λk=>(Cl 298 #[.L j T t,.I k] H λg' S=> ∃s w y A G,g'=.T #[.agg #[.I s,.U w,.B y],.I A,.I G]/\bh S (.C #[.I 0,.U 0,.B false] 269) λm U=>bJ.ST U (AA m 0) s w y λV=>([]:List Deferred)= []/\J (Sa m 0) A G V)/\(bh H (.C #[.I 0,.U 0,.B false] 269) λo i=>Cc i r 1 (.I k)/\Cc i r 0 (.L j T t)/\Cl 298 #[.L j T t,.I k] i λh' M=> ∃u x z F I,h'=.T #[.agg #[.I u,.U x,.B z],.I F,.I I]/\bJ.ST M (AA o 0) u x z λO=>([]:List Deferred)= []/\J (Sa o 0) F I O)/\True)):iQ Tryz.prog 267 #[.P r 0] h R E:=iL (lq (sq (.join [(3,.one (.ptr)),(4,.one (.int .i64)),(5,.one (.int .i64))] (.lK (ga 8 0 (.alts (.fork 8 (ga 8 9 .done) (.fork 13 (.op 8 (.op 9 (.op 10 (.op 11 (.op 12 (.op 14 (.op 15 (.op 16 .done)))))))) .gM)))))) (lq (lq ll)))) I1 Tryz.func267 rfl rfl (Eq.mp dz X)
theorem xc.walk (j:aH (λ(p:Bool) (H:aj)=>if p then∃i,Cc H r 1 (.I i)/\aT H (AA r 1) (.I (wrap .i64 (i+1))) λa=>R (.B true) a else R (.B false) H) (λJ=>Hi h r 1 λq=> ∃l t k,Cc h r 0 (.L l t k)/\if(decide (q<((t:Nat):Int)))then Hl h r 0 λo m _=>Hi h r 1 λT=>Bd T m/\aM o λA=> ∃e,aY h (A.add (toNat T*1))=some (.int .u8 e)/\J (e==255) h else J false h)):Cl 299 #[.P r 0] h R:=aP (lq (sq (sq (.join [(25,.one (.bool))] (pN 23)) (cq (lq ll) lf)) ll)) Tryz.func299 j
theorem vG.walk (Q:bh h (.C #[.I c,.U H,.B a] 269) λi H=> ∃w,Cc H i 1 (.U w)/\∃y m x,Cc H r 0 (.L y m x)/\∃o,Cc H r 1 (.I o)/\Ce 268 #[.B (decide (w<=(wrap .u64 (wrap .i64 (((m:Nat):Int) - o))))),.I 8] H (λV a=>V=.T #[]/\Cc a r 1 (.I o)/\Cc a r 0 (.L y m x)/\Cc a i 1 (.U w)/\∃p z k,Cc a r 0 (.L p z k)/\∃t,Cc a r 1 (.I t)/\∃T,Cc a r 1 (.I T)/\∃j,Cc a i 1 (.U j)/\((0:Int)<=wrap .i64 (T+(wrap .i64 j))/\wrap .i64 (T+(wrap .i64 j))<=((k:Nat):Int))/\((0:Int)<=t/\t<=wrap .i64 (T+(wrap .i64 j)))/\Cl 27 #[.slice (cT p k (toNat t) 1) ((toNat (wrap .i64 (T+(wrap .i64 j)))) - (toNat t)) (k - (toNat t))] a λS e=> ∃u s q,S=.L u s q/\Cc e i 1 (.U j)/\Cc e r 1 (.I T)/\Cc e r 1 (.I t)/\Cc e r 0 (.L p z k)/\aH (λ(l:aj)=> ∃G,Cc l r 1 (.I G)/\∃I,Cc l i 1 (.U I)/\aT l (AA r 1) (.I (wrap .i64 (G+(wrap .i64 I)))) λL=>R (.L u s q) L) (λJ=> ∃A,Cc e i 0 (.I A)/\if(A !=3)then Ce 268 #[.B true,.I 3] e (λU M=>U=.T #[]/\([]:List Deferred)= []/\J M) E else Cl 291 #[.L u s q] e λX O=> ∃F,X=.B F/\Ce 268 #[.B F,.I 3] O (λZ P=>Z=.T #[]/\([]:List Deferred)= []/\J P) E)) E):iQ Tryz.prog 300 #[.P r 0,.agg #[.I c,.U H,.B a]] h R E:=iL (lq (sq (pN 15) (sq (pN 19) (sq (.join [] lf) (sq (pN 11) ll))))) I1 Tryz.func300 rfl rfl (Eq.mp dz Q)
theorem uC.walk (hv:bh h (.C #[.I c,.U H,.B a] 269) λj H=>bh H (.C #[.I 0,.U 0,.Z,.Z] 167) λk a=>Hi a j 0 λt8=>bh a (.C #[.I 0,.U 0,.Z,.Z] 167) λe f'=>aa.ST f' (AA e 0) t8 0 none 0 0 none 0 0 λm=> ∃T,Cc m j 2 (.B T)/\if(!T)then bJ.LD m (AA j 0) λx' y' z'=>Ce 300 #[.P r 0,.agg #[.I x',.U y',.B z']] m (λa1 g'=> ∃A z y,a1=.L A z y/\aT g' (AA e 2) (.L A z y) λw=>aa.LD w (AA e 0) λA' B' E' D' C' H' G' F'=>aa.ST w (AA k 0) A' B' E' D' C' H' G' F' λx=>aa.LD x (AA k 0) λh' j' p' n' l' v' t' r'=>R (.agg #[.I h',.U j',.L p' n' l',.L v' t' r']) x) E else∃(I:aj->Prop)(M:aj->Nat),I m/\∀(p:aj),I p->Cl 299 #[.P r 0] p λa2 q=> ∃F,a2=.B F/\if(!F)then Ce 267 #[.P r 0] q (λa3 a'=> ∃G L O,a3=.agg #[.I G,.U L,.B O]/\bh a' (.C #[.I 0,.U 0,.B false] 269) λl b'=>bJ.ST b' (AA l 0) G L O λi=>aH (λ(o:aj)=>Hl o e 2 λU S Q=>bJ.LD o (AA l 0) λK' L' M'=>Ce 300 #[.P r 0,.agg #[.I K',.U L',.B M']] o (λa4 s=>Vl a4 λQ' P' O'=>Cc s e 2 (.L U S Q)/\aW Tryz.prog (Builtin.append_ #[26,26] 26 #[.L U S Q,.L Q' P' O']) s λa5 c'=> ∃Z X V,a5=.L Z X V/\aT c' (AA e 2) (.L Z X V) λt=>(([]:List Deferred)= []/\I t/\M t<M p)) E) (λJ=>Hi i l 0 λI'=> ∃P,Cc i j 0 (.I P)/\if(I'==P)then Hb i l 2 λJ'=>Ce 268 #[.B (!J'),.I 3] i (λa6 d'=>a6=.T #[]/\([]:List Deferred)= []/\J d') E else Ce 268 #[.B false,.I 3] i (λa7 e'=>a7=.T #[]/\([]:List Deferred)= []/\J e') E)) E else aa.LD q (AA e 0) λR' S' V' U' T' a0 Z' X'=>aa.ST q (AA k 0) R' S' V' U' T' a0 Z' X' λu=>aa.LD u (AA k 0) λi' k' q' o' m' w' u' s'=>R (.agg #[.I i',.U k',.L q' o' m',.L w' u' s']) u):iQ Tryz.prog 270 #[.P r 0,.agg #[.I c,.U H,.B a]] h R E:=iL (lq (lq (sq (lq (cq (lq ll) lf)) (sq (bq (.loop [] (sq (lq (cq lf lf)) (bq (lq (sq (.join [] lf) (pN 8))))))) ll)))) I1 Tryz.func270 rfl rfl (Eq.mp dz hv)
theorem xd.walk (hv:bh h (.C #[.I c,.U H,.B a] 269) λl H=>bh H (.C #[.I 0,.U 0,.Z,.Z] 167) λm a=>bh a (.C #[.I 0,.U 0,.Z,.Z] 167) λe C'=>aa.ST C' (AA e 0) 4 0 none 0 0 none 0 0 λj=> ∃X,Cc j l 2 (.B X)/\if X then∃(I:aj->Prop)(U:aj->Nat),I j/\∀(y:aj),I y->Cl 299 #[.P r 0] y λb3 o=> ∃Z,b3=.B Z/\if(!Z)then∃q p T,Cc o e 3 (.L q p T)/\Ce 208 #[.P r 0,.I (wrap .i64 (D+1))] o (λb4 Q=> ∃a' b' e' d' c' h' g' f',b4=.agg #[.I a',.U b',.L e' d' c',.L h' g' f']/\Cc Q e 3 (.L q p T)/\bh Q (.C #[.I a',.U b',.L e' d' c',.L h' g' f'] 167) λz' S=>Cc S e 3 (.L q p T)/\aW Tryz.prog (Builtin.append_ #[165,165] 165 #[.L q p T,.L (Sa z' 0) 1 1]) S λb5 D'=> ∃k' j' i',b5=.L k' j' i'/\aT D' (AA e 3) (.L k' j' i') λG=>(([]:List Deferred)= []/\I G/\U G<U y)) E else aa.LD o (AA e 0) λV' X' a1 a0 Z' a4 a3 a2=>aa.ST o (AA m 0) V' X' a1 a0 Z' a4 a3 a2 λJ=>aa.LD J (AA m 0) λE' G' M' K' I' T' R' P'=>R (.agg #[.I E',.U G',.L M' K' I',.L T' R' P']) J else∃z,Cc j l 1 (.U z)/\∃m' A l',Cc j r 0 (.L m' A l')/\∃F,Cc j r 1 (.I F)/\Ce 268 #[.B (decide (z<=(wrap .u64 (wrap .i64 (((A:Nat):Int) - F))))),.I 8] j (λb6 k=>b6=.T #[]/\Cc k r 1 (.I F)/\Cc k r 0 (.L m' A l')/\Cc k l 1 (.U z)/\∃n',Cc k l 1 (.U n')/\∃(x:Int->aj->Prop)(V:Int->aj->Nat),x 0 k/\∀(t:Int)(i:aj),x t i->if(decide (t<n'))then∃w u s,Cc i e 3 (.L w u s)/\Ce 208 #[.P r 0,.I (wrap .i64 (D+1))] i (λb7 L=> ∃o' p' s' r' q' v' u' t',b7=.agg #[.I o',.U p',.L s' r' q',.L v' u' t']/\Cc L e 3 (.L w u s)/\bh L (.C #[.I o',.U p',.L s' r' q',.L v' u' t'] 167) λA' M=>Cc M e 3 (.L w u s)/\aW Tryz.prog (Builtin.append_ #[165,165] 165 #[.L w u s,.L (Sa A' 0) 1 1]) M λb8 B'=> ∃y' x' w',b8=.L y' x' w'/\aT B' (AA e 3) (.L y' x' w') λO=>(([]:List Deferred)= []/\x (wrap .u64 (t+1)) O/\V (wrap .u64 (t+1)) O<V t i)) E else aa.LD i (AA e 0) λa5 a6 a9 a8 a7 b2 b1 b0=>aa.ST i (AA m 0) a5 a6 a9 a8 a7 b2 b1 b0 λP=>aa.LD P (AA m 0) λF' H' O' L' J' U' S' Q'=>R (.agg #[.I F',.U H',.L O' L' J',.L U' S' Q']) P) E):iQ Tryz.prog 269 #[.P r 0,.agg #[.I c,.U H,.B a],.I D] h R E:=iL (lq (lq (sq (lq (cq (sq (bq (.loop [] (sq (lq (cq lf lf)) (bq (pN 10))))) ll) lf)) (sq (pN 15) (sq (lq (bq (.loop [(41,.one (.int .u64))] (lq (sq (cq lf lf) (sq (bq (pN 10)) lf)))))) ll))))) I1 Tryz.func269 rfl rfl (Eq.mp dz hv)
theorem pq.walk (hv:bh h (.C #[.I 0,.U 0,.Z,.Z] 167) λk H=>Ce 267 #[.P r 0] H (λR' a=> ∃X Z a',R'=.agg #[.I X,.U Z,.B a']/\bh a (.C #[.I 0,.U 0,.B false] 269) λe h'=>bJ.ST h' (AA e 0) X Z a' λi=>aH (λ(i':aj)=>Ce 268 #[.B (decide (D<=6)),.I 9] i' (λS' o=>S'=.T #[]/\Hi o r 2 λI'=>Ce 268 #[.B (decide (I'>0)),.I 2] o (λT' p=>T'=.T #[]/\∃u,Cc p r 2 (.I u)/\aT p (AA r 2) (.I (wrap .i64 (u - 1))) λj=> ∃t,Cc j e 0 (.I t)/\if(t==0)then Hu j e 1 λJ'=>aa.ST j (AA k 0) 0 J' none 0 0 none 0 0 λq=>aa.LD q (AA k 0) λj' m' v' s' p' E' B' y'=>R (.agg #[.I j',.U m',.L v' s' p',.L E' B' y']) q else if(t==4)then bJ.LD j (AA e 0) λK' L' M'=>Ce 269 #[.P r 0,.agg #[.I K',.U L',.B M'],.I D] j (λU' b'=> ∃w x A z y I G F,U'=.agg #[.I w,.U x,.L A z y,.L I G F]/\aa.ST b' (AA k 0) w x A z y I G F λl=>aa.LD l (AA k 0) λk' n' w' t' q' F' C' z'=>R (.agg #[.I k',.U n',.L w' t' q',.L F' C' z']) l) E else bJ.LD j (AA e 0) λO' P' Q'=>Ce 270 #[.P r 0,.agg #[.I O',.U P',.B Q']] j (λV' c'=> ∃L M Q P O V U S,V'=.agg #[.I L,.U M,.L Q P O,.L V U S]/\aa.ST c' (AA k 0) L M Q P O V U S λm=>aa.LD m (AA k 0) λl' o' x' u' r' G' D' A'=>R (.agg #[.I l',.U o',.L x' u' r',.L G' D' A']) m) E) E) E) (λJ=> ∃t9,Cc i e 0 (.I t9)/\if(t9==0)then Ce 268 #[.B true,.I 3] i (λX' d'=>X'=.T #[]/\([]:List Deferred)= []/\J d') E else∃T,Cc i e 0 (.I T)/\if(T==2)then Ce 268 #[.B true,.I 3] i (λZ' e'=>Z'=.T #[]/\([]:List Deferred)= []/\J e') E else∃s,Cc i e 0 (.I s)/\if(s==3)then Ce 268 #[.B true,.I 3] i (λa0 f'=>a0=.T #[]/\([]:List Deferred)= []/\J f') E else Hi i e 0 λH'=>Ce 268 #[.B (H'==4),.I 3] i (λa1 g'=>a1=.T #[]/\([]:List Deferred)= []/\J g') E)) E):iQ Tryz.prog 208 #[.P r 0,.I D] h R E:=iL (lq (lq (sq (.join [] lf) (lq (lq (lq (sq (lq (bq (lq (cq ll (lq (cq ll lf)))))) ll))))))) I1 Tryz.func208 rfl rfl (Eq.mp dz hv)
theorem rW.ret.walk(i:bh h (.C #[.I 0] 307) λe H=>aT H (AA e 0) (.I 0) λa=>K none a):rB Tryz.prog 207 #[.P C 0,.P f 0,.P g 0] none h K:=rC (lq (lq (cq (pN 6) lf))) Tryz.func207 rfl rfl (Eq.mp dz i)
theorem rW.Wu.walk{k:Int}(m:bh h (.C #[.I 0] 307) λe H=>aT H (AA e 0) (.I k) λa=>Hi a e 0 λt=>aa.ST a (AA C 0) 0 0 none 0 0 none 0 0 λi=>Cc i e 0 (.I t)/\aT i (AA f 0) (.I 0) λj=>Cc j e 0 (.I t)/\aT j (AA g 0) (.I t) λl=>K none l):rB Tryz.prog 207 #[.P C 0,.P f 0,.P g 0] (some (.iface 307 (.agg #[.I k]))) h K:=rC (lq (lq (cq (pN 6) lf))) Tryz.func207 rfl rfl (Eq.mp dz m)
theorem LS.walk (X:bh h (.C #[.I 0,.U 0,.Z,.Z] 167) λe H=>bh H (.C #[.I 0] 3) λj a=>bh a (.C #[.I 0] 32) λk q=>aH (λ(z':Bool) (s:aj)=>if z' then aa.ST s (AA e 0) 0 0 none 0 0 none 0 0 λP=>aT P (AA j 0) (.I 0) λQ=>aT Q (AA k 0) (.I 1) λl=>aa.LD l (AA e 0) λZ c' l' i' f' u' r' o'=>Hi l j 0 λr1=> ∃t,Cc l k 0 (.I t)/\R (.T #[.agg #[.I Z,.U c',.L l' i' f',.L u' r' o'],.I r1,.I t]) l else bh s (.C #[.L B b d,.I v,.I 256] 311) λm S=>Ce 208 #[.P m 0,.I 1] S (λI' U=> ∃T x A z y I G F,I'=.agg #[.I T,.U x,.L A z y,.L I G F]/\aa.ST U (AA e 0) T x A z y I G F λo=>aa.LD o (AA e 0) λA' B' E' D' C' H' G' F'=>Hi o m 1 λL=>aa.ST o (AA e 0) A' B' E' D' C' H' G' F' λp=>Cc p m 1 (.I L)/\aT p (AA j 0) (.I L) λM=>aT M (AA k 0) (.I 0) λO=>rB Tryz.prog 207 #[.P e 0,.P j 0,.P k 0] none O (NS (λi=>aa.LD i (AA e 0) λa' d' m' j' g' v' s' p'=>Hi i j 0 λx'=> ∃u,Cc i k 0 (.I u)/\R (.T #[.agg #[.I a',.U d',.L m' j' g',.L v' s' p'],.I x',.I u]) i) E)) (λv_ V=>rB Tryz.prog 207 #[.P e 0,.P j 0,.P k 0] (some v_) V (NS (λi=>aa.LD i (AA e 0) λb' e' n' k' h' w' t' q'=>Hi i j 0 λy'=> ∃w,Cc i k 0 (.I w)/\R (.T #[.agg #[.I b',.U e',.L n' k' h',.L w' t' q'],.I y',.I w]) i) E))) (λJ=>if(decide (v<0))then([]:List Deferred)= []/\J true q else([]:List Deferred)= []/\J (decide (v>(b:Int))) q)):iQ Tryz.prog 144 #[.L B b d,.I v] h R E:=iL (lq (sq (sq (.join [(15,.one (.bool))] lf) (cq ll lf)) (lq (lq (lq (sq (pN 8) lf)))))) I1 Tryz.func144 rfl rfl (Eq.mp dz X)
theorem Cx.walk(y:Cl 144 #[.L B b d,.I 0] h λV H=> ∃T j m l k q p o s u,V=.T #[.agg #[.I T,.U j,.L m l k,.L q p o],.I s,.I u]/\bh H (.C #[.I 0,.U 0,.Z,.Z] 167) λi a=>aa.ST a (AA i 0) T j m l k q p o λe=>if(u==0)then if(s==(b:Int))then aa.LD e (AA i 0) λz A I G F M L J=>Cl 112 #[.Z,.agg #[.I z,.U A,.L I G F,.L M L J]] e λS w=>Vl S λQ P O=>Cl 69 #[.L Q P O,.L B b d] w λU x=> ∃t,U=.B t/\R (.B t) x else R (.B false) e else R (.B false) e):Cl 289 #[.L B b d] h R:=aP (lq (lq ll)) Tryz.func289 y
theorem EJ.walk{m:Int}(e:if(decide (m≥2))then if(decide (m<=5))then R (.B true) h else R (.B (m==7)) h else R (.B (m==7)) h):Cl 292 #[.I m] h R:=aP (lq ll) Tryz.func292 e
theorem I4.walk(l:bh h (.C #[.I c,.U H,.B a] 269) λe H=> ∃k,Cc H e 2 (.B k)/\if k then bJ.LD H (AA e 0) λo p q=>Hi H e 0 λs=> ∃(i:Bool),zJ Tryz.prog 269 (.agg #[.I o,.U p,.B q]) (.agg #[.I s,.U 0,.B true]) i/\if i then Hi H e 0 λm=>Cl 292 #[.I m] H λV a=> ∃t,V=.B t/\R (.B t) a else R (.B false) H else∃T,Cc H e 0 (.I T)/\if(decide (T≥0))then∃j,Cc H e 0 (.I j)/\R (.B (decide (j<=7))) H else R (.B false) H):Cl 252 #[.agg #[.I c,.U H,.B a]] h R:=aP (lq (sq (lq (cq ll lf)) ll)) Tryz.func252 l
theorem GO.walk(e:if(decide (n<24))then R (.I 0) h else if(decide (n<256))then R (.I 1) h else if(decide (n<65536))then R (.I 2) h else if(decide (n<4294967296))then R (.I 4) h else R (.I 8) h):Cl 254 #[.U n] h R:=aP (lq (sq (bq (lq (cq ll (lq (cq ll (lq (cq ll (lq (cq ll lf))))))))) ll)) Tryz.func254 e
theorem LU.walk(e:Cl 254 #[.U n] h λV H=> ∃t,V=.I t/\if(t==1)then R (.int .u8 24) H else if(t==2)then R (.int .u8 25) H else if(t==4)then R (.int .u8 26) H else if(t==8)then R (.int .u8 27) H else R (.int .u8 (wrap .u8 n)) H):Cl 253 #[.U n] h R:=aP (lq (sq (lq (bq (lq (cq ll (lq (cq ll (lq (cq ll (lq (cq ll lf)))))))))) ll)) Tryz.func253 e
theorem I5.walk (Q:bh h (.C #[.I c,.U H,.B a] 269) λe H=>bJ.LD H (AA e 0) λX Z a'=>Cl 252 #[.agg #[.I X,.U Z,.B a']] H λb' a=> ∃z,b'=.B z/\if(!z)then R (.T #[.Z,.I 3]) a else∃w,Cc a e 2 (.B w)/\if w then Hi a e 0 λS=>bh a (.C #[.int .u8 (wrap .u8 ((qV (wrap .u8 ((wrap .u8 S)*2 ^ min (toNat 5) (IntKind.bits .u8)))|||qV 31).toNat:Int))] 5) λA J=>R (.T #[.L (Sa A 0) 1 1,.I 0]) J else Hi a e 0 λT=>Hu a e 1 λU=>Cl 253 #[.U U] a λc' s=> ∃x,c'=.int .u8 x/\Cc s e 0 (.I T)/\bh s (.C #[.int .u8 (wrap .u8 ((qV (wrap .u8 ((wrap .u8 T)*2 ^ min (toNat 5) (IntKind.bits .u8)))|||qV x).toNat:Int))] 5) λF k=>Cc k e 0 (.I T)/\Hu k e 1 λV=>Cl 254 #[.U V] k λd' L=>Vi d' λl=> ∃(I:ck->Nat->Nat->Int->aj->Prop)(M:ck->Nat->Nat->Int->aj->Nat),I (Sa F 0) 1 1 0 L/\∀(j:ck)(O o:Nat)(t:Int)(i:aj),I j O o t i->if(decide (t<l))then∃y,Cc i e 1 (.U y)/\if wrap .i64 (8*(wrap .i64 ((wrap .i64 (l - 1)) - t)))<0 then False else bh i (.C #[.int .u8 (wrap .u8 (Int.fdiv y (2 ^ min (toNat (wrap .i64 (8*(wrap .i64 ((wrap .i64 (l - 1)) - t))))) (IntKind.bits .u64))))] 5) λG P=>aW Tryz.prog (Builtin.append_ #[26,26] 26 #[.L j O o,.L (Sa G 0) 1 1]) P λe' u=> ∃q p m,e'=.L q p m/\(I q p m (wrap .i64 (t+1)) u/\M q p m (wrap .i64 (t+1)) u<M j O o t i)else R (.T #[.L j O o,.I 0]) i):Cl 175 #[.agg #[.I c,.U H,.B a]] h R:=aP (lq (sq (bq (lq (cq ll (lq (cq ll lf))))) (sq (pN 10) (lq (sq (lq (bq (.loop [(4,.one (.slice)),(33,.one (.int .i64))] (lq (sq (cq lf lf) (sq (bq ll) lf)))))) ll))))) Tryz.func175 Q
theorem LV.walk (U:bh h (.C #[.I 0,.U 0,.B false] 269) λe H=>aH (λ(s':Bool) (a:aj)=>if s' then bJ.ST a (AA e 0) 0 0 false λx=>bJ.LD x (AA e 0) λV e' l'=>R (.T #[.agg #[.I V,.U e',.B l'],.I 0,.I 1]) x else if(v==(b:Int))then bJ.ST a (AA e 0) 0 0 false λy=>bJ.LD y (AA e 0) λX f' m'=>R (.T #[.agg #[.I X,.U f',.B m'],.I 0,.I 8]) y else Bd v b/\aM B λL=>Kz a (L.add (toNat v*1)) λt'=>bh a (.C #[.I 0,.U 0,.B false] 269) λi S=>bJ.ST S (AA i 0) (wrap .i64 (Int.fdiv t' (2 ^ min (toNat 5) (IntKind.bits .u8)))) 0 false λk=>Bd v b/\aM B λO=> ∃t,aY k (O.add (toNat v*1))=some (.int .u8 t)/\if(decide ((wrap .u8 ((qV t &&& qV 31).toNat:Int))<24))then aT k (AA i 1) (.U (wrap .u64 (wrap .u8 ((qV t &&& qV 31).toNat:Int)))) λz=>bJ.LD z (AA i 0) λu' v' w'=>bJ.ST z (AA e 0) u' v' w' λA=>bJ.LD A (AA e 0) λZ g' n'=>R (.T #[.agg #[.I Z,.U g',.B n'],.I (wrap .i64 (v+1)),.I 0]) A else aH (λ(x':Bool) (l:aj)=>if x' then aT l (AA i 2) (.B true) λo=>bJ.LD o (AA i 0) λz' A' B'=>bJ.ST o (AA e 0) z' A' B' λp=>bJ.LD p (AA e 0) λa' h' o'=>R (.T #[.agg #[.I a',.U h',.B o'],.I (wrap .i64 (v+1)),.I 0]) p else if(decide ((wrap .u8 ((qV t &&& qV 31).toNat:Int))>27))then bJ.ST l (AA e 0) 0 0 false λq=>bJ.LD q (AA e 0) λb' i' p'=>R (.T #[.agg #[.I b',.U i',.B p'],.I 0,.I 3]) q else if wrap .u8 ((wrap .u8 ((qV t &&& qV 31).toNat:Int)) - 24)<0 then False else if(decide ((wrap .i64 (1*2 ^ min (toNat (wrap .u8 ((wrap .u8 ((qV t &&& qV 31).toNat:Int)) - 24))) (IntKind.bits .i64)))>(wrap .i64 ((b:Int) - (wrap .i64 (v+1))))))then bJ.ST l (AA e 0) 0 0 false λs=>bJ.LD s (AA e 0) λc' j' q'=>R (.T #[.agg #[.I c',.U j',.B q'],.I 0,.I 8]) s else∃(I:Int->aj->Prop)(M:Int->aj->Nat),I 0 l/\∀(T:Int)(j:aj),I T j->if(decide (T<(wrap .i64 (1*2 ^ min (toNat (wrap .u8 ((wrap .u8 ((qV t &&& qV 31).toNat:Int)) - 24))) (IntKind.bits .i64)))))then Hu j i 1 λC'=>Bd (wrap .i64 ((wrap .i64 (v+1))+T)) b/\aM B λP=> ∃G,aY j (P.add (toNat (wrap .i64 ((wrap .i64 (v+1))+T))*1))=some (.int .u8 G)/\aT j (AA i 1) (.U (wrap .u64 ((od (wrap .u64 (C'*2 ^ min (toNat 8) (IntKind.bits .u64)))|||od (wrap .u64 G)).toNat:Int))) λu=>(I (wrap .i64 (T+1)) u/\M (wrap .i64 (T+1)) u<M T j)else bJ.LD j (AA i 0) λD' E' F'=>bJ.ST j (AA e 0) D' E' F' λw=>bJ.LD w (AA e 0) λd' k' r'=>R (.T #[.agg #[.I d',.U k',.B r'],.I (wrap .i64 ((wrap .i64 (v+1))+(wrap .i64 (1*2 ^ min (toNat (wrap .u8 ((wrap .u8 ((qV t &&& qV 31).toNat:Int)) - 24))) (IntKind.bits .i64))))),.I 0]) w) (λm=>if((wrap .u8 ((qV t &&& qV 31).toNat:Int))==31)then Hi k i 0 λy'=>Cl 292 #[.I y'] k λG' Q=> ∃F,G'=.B F/\m F Q else m false k)) (λJ=>if(decide (v<0))then J true H else J (decide (v>(b:Int))) H)):Cl 298 #[.L B b d,.I v] h R:=aP (lq (sq (bq (sq (.join [(11,.one (.bool))] lf) (cq ll (lq (cq ll lf))))) (lq (lq (lq (sq (bq (lq (cq (lq ll) (sq (.join [(49,.one (.bool))] lf) (cq (lq ll) (lq (cq ll lf))))))) (lq (sq (lq (cq ll lf)) (sq (lq (bq (.loop [(75,.one (.int .i64))] (lq (sq (cq lf lf) (sq (bq (lq (pN 13))) lf)))))) ll))))))))) Tryz.func298 U

end
section
namespace Cb
variable {h H:aj} {R E:fD} {p:ck} {r l c:Nat} {b:cM}
variable {pos left:Nat}
abbrev QV(e:Int):Value:=.iface 307 (.agg #[.int .i64 e])
structure wL (h:aj) (r:Nat) (p:ck) (c:Nat) (b:cM) (pos left:Nat):Prop where
 cW:h[r]? =some (.cells #[.slice p b.length c,.int .i64 (pos:Int),.int .i64 (left:Int)] 311 (0,0))
 row:Row h p (bc b)
 cap:b.length<=c
 pos:pos<=b.length
 ap:b≠ []->¬aN p r
 len:b.length<=1000000
 left:left<=1000000
theorem iD{q:Bool}{e:Int}(k:q=true->R (.T #[]) h)(K:q=false->E (QV e) h):iQ Tryz.prog 268 #[.B q,.I e] h R E:=by
 refine LR.walk ?_;cases q with
 |true=>rw[dB];exact k rfl
 |false=>rw[gk];exact K rfl
theorem wL.frame{Q:Nat->Prop}(d:wL h r p c b pos left)(f:Fr Q h H)(i: ¬Q r)(j: ∀y,aN p y->b≠ []->¬Q y):wL H r p c b pos left:=by
 refine⟨f.get d.cW i,?_,d.cap,d.pos,d.ap,d.len,d.left⟩;by_cases e:b= []
 .subst e;exact Row.nil
 .exact d.row.frame f (λa g=>j _ ⟨a,g,rfl⟩ e)
theorem wL.on(a:wL h r p c b pos left)(f:Fr No h H):wL H r p c b pos left:=a.frame f id (λ_ _ _=>id)
theorem wL.set{pos' left':Nat}(d:wL h r p c b pos left)(o:pos'<=b.length)(n:left'<=1000000)(D:H[r]? =some (.C #[.L p b.length c,.I (pos':Int),.I (left':Int)] 311 (0,0)))(g:H.size=h.size)(i: ∀x,x≠r->H[x]? =h[x]?):
  wL H r p c b pos' left'/\Fr (λy=>y=r) h H:=by
 have f:Fr (λy=>y=r) h H:=Fr.of_eq g (λc m=>i c m);refine⟨⟨D,?_,d.cap,o,d.ap,d.len,n⟩,f⟩;by_cases e:b= []
 .subst e;exact Row.nil
 .exact d.row.frame f (λa k j=>d.ap e ⟨a,k,j⟩)
theorem KH(d:wL h r p c b pos left)(K: ∀H,vB b pos=true->pos<b.length->wL H r p c b (pos+1) left->Fr (λy=>y=r) h H->R (.B true) H)(k:vB b pos=false->R (.B false) h):Cl 299 #[.P r 0] h R:=by
 have f:=d.cW;have u:=d.len;refine xc.walk (aH.of λJ j=>⟨_,ak f,_,_,_,ak f,?_⟩);by_cases g:pos<b.length
 .rw[gk];obtain⟨a,rfl⟩:=d.row.some (by cases b with|nil=>simp at g|cons=>simp[bc]);have s:(bc b)[pos]? =some (.int .u8 ((b[pos]).toNat:Int)):=by unfold bc;rw[aD,ai g];rfl
  have C:=d.row.cell s;have i:vB b pos=decide ((b[pos]).toNat=255):=by unfold vB;rw[ai g]
  generalize (b[pos]).toNat=x at C i;refine⟨_,_,_,ak f,_,ak f,ae,ax.2 ⟨_,by rw[aF,cp];exact C,?_⟩⟩;subst j;dsimp only;split
  .rename_i q;refine⟨_,ak f,bD f (by show 1<3;omega) λo D m n=> ?_⟩;rw[bC ae ae]at D;obtain⟨Q,t⟩:=d.set (pos':=pos+1) ae d.left D m n;exact K o (by rw[i];have:=eq_of_beq q;exact aw ae) g Q t
  .rename_i q;exact k (by rw[i];exact aB λe=>q (by rw[e];rfl))
 .rw[af (λe=>g (bR (aS e)))];subst j;dsimp only;rw[dB];exact k (by unfold vB;rw[cY ae])
theorem I6{m:Nat}(a:R (.B (rN m)) h):Cl 292 #[.I (m:Int)] h R:=by
 refine EJ.walk ?_;have f:((m:Int)==7)=decide (m=7):=by
  by_cases e:m=7
  .subst e;rfl
  .rw[aB e,dA];omega
 have a: ∀q,q=rN m->R (.B q) h:=λq e=>by rw[e];exact a
 unfold rN at a;rw[f];split
 .rename_i Q;split
  .rename_i d;exact a _ (by rw[aw];rfl;have:=aS Q;have:=aS d;omega)
  .rename_i d;exact a _ (by rw[aB (p:=2<=m/\m<=5)];rfl;intro e;exact d (aw ae))
 .rename_i Q;exact a _ (by rw[aB (p:=2<=m/\m<=5)];rfl;intro e;exact Q (aw ae))
theorem byte_at(e:Row h p (bc b)){i:Nat}(d:i<b.length): ∃a,p=some a/\aY h (a.add (i*1))=some (.int .u8 ((b[i]).toNat:Int)):=by
 obtain⟨a,rfl⟩:=e.some (by cases b with|nil=>simp at d|cons=>simp[bc]);exact⟨a,rfl,by rw[cp];exact e.cell (v:=.int .u8 ((b[i]).toNat:Int)) (by unfold bc;rw[aD,ai d];rfl)⟩
theorem Wv: ∀x:Fin 256,IntKind.wrap .i64 (Int.fdiv (x.val:Int) (2 ^ min (Int.toNat 5) (IntKind.bits .u8)))=((x.val/32:Nat):Int):=dN
theorem TZ: ∀x:Fin 256,IntKind.wrap .u8 ((BitVec.ofInt (IntKind.bits .u8) (x.val:Int) &&& BitVec.ofInt (IntKind.bits .u8) 31).toNat:Int)=((x.val%32:Nat):Int):=dN
theorem zQ{n:Nat}(h:n<18446744073709551616):IntKind.wrap .u64 (n:Int)=(n:Int):=by
 have e:IntKind.wrap .u64 (n:Int)=(n:Int)%18446744073709551616:=by simp[IntKind.wrap,IntKind.bits,IntKind.signed]
 rw[e];omega
theorem SM{v y:Nat}(d:v<72057594037927936)(f:y<256):IntKind.wrap .u64 ((BitVec.ofInt (IntKind.bits .u64) (IntKind.wrap .u64 ((v:Int)*2 ^ min (Int.toNat 8) (IntKind.bits .u64)))|||BitVec.ofInt (IntKind.bits .u64) (IntKind.wrap .u64 (y:Int))).toNat:Int)=((v*256+y:Nat):Int):=by
 have e:(v:Int)*2 ^ min (Int.toNat 8) (IntKind.bits .u64)=((v*256:Nat):Int):=by
  rw[show(2:Int) ^ min (Int.toNat 8) (IntKind.bits .u64)=256 from rfl];omega
 rw[e,zQ (n:=v*256) ae,zQ (n:=y) ae];have a:((BitVec.ofInt (IntKind.bits .u64) ((v*256:Nat):Int)|||BitVec.ofInt (IntKind.bits .u64) (y:Int)).toNat)=v*256+y:=by
  rw[BitVec.toNat_or,BitVec.ofInt_natCast,BitVec.ofInt_natCast,BitVec.toNat_ofNat,BitVec.toNat_ofNat];rw[show(2:Nat) ^ IntKind.bits .u64=18446744073709551616 from rfl,Nat.mod_eq_of_lt ae,Nat.mod_eq_of_lt ae];have:=Nat.two_pow_add_eq_or_of_lt (i:=8) (b:=y) ae v;rw[show(2:Nat) ^ 8=256 from rfl]at this;rw[Nat.mul_comm v 256];exact this.symm
 rw[a];exact zQ ae
theorem GP(hr:Row h p (bc b))(hl:l=b.length)(m':b.length<=1000000)(hp:pos<=b.length)(k1: ∀H (m n next:Nat) (o:Bool),FM b pos=.ok (m,n,o,next)->Fr No h H->R (.T #[.agg #[.I (m:Int),.U (n:Int),.B o],.I (next:Int),.I 0]) H)(k2: ∀H e,FM b pos=.error e->Fr No h H->e≠0->R (.T #[.agg #[.I 0,.U 0,.B false],.I 0,.I e]) H):Cl 298 #[.L p l c,.I (pos:Int)] h R:=by
 subst hl;refine LV.walk (bJ.box λB A eb P z=>aH.of λj' hJ=> ?_);rw[dB,aB ae];subst hJ;dsimp only;rw[dB];have zb:=aC P;have O: ∀g e,Fr No A g->FM b pos=.error e->e≠0->bJ.ST g (AA B 0) 0 0 false λt=>bJ.LD t (AA B 0) λU V Z=>R (.T #[.agg #[.I U,.U V,.B Z],.I 0,.I e]) t:=λg e F hx I=>
  bJ.set (F.get P id) λt D k j=>bJ.ld D (k2 t e hx ((z.tt F).fresh (Fr.of_eq (S:=λy=>y=B) k (λc s=>j c s)) (λy e=>ae)) I)
 by_cases I:pos=b.length
 .rw[ag (by rw[I];simp)];exact O A 8 (Fr.refl _ _) (by unfold FM;rw[cY ae]) dN
 rw[af (λe=>I (bR (eq_of_beq e)))];have c':pos<b.length:=ae
 obtain⟨k',rfl,M⟩:=byte_at hr c';have a:FM b pos=FM b pos:=rfl;conv at a=>rhs;unfold FM;rw[ai c']
 dsimp only at a;have X:=(b[pos]).toNat_lt;generalize (b[pos]).toNat=x at M a X;refine⟨ae,ax.2 ⟨_,z.cell (by rw[aF];exact M) id,bJ.new λv C l' u w=>⟨ae,ax.2 ⟨_,(z.tt w).cell (by rw[aF];exact M) id,?_⟩⟩⟩⟩;have n':=aC u;have z2:=w.1;have z1:=z.1;rw[Wv ⟨x,X⟩]at u;rw[TZ ⟨x,X⟩];rw[show(⟨x,X⟩:Fin 256).val=x from rfl]at u⊢;have i':x/32<8:=ae
 generalize em:x/32=m at u a i';have e':x%32<32:=ae
 generalize x%32=f at a e'⊢;rw[bC (n:=(pos:Int)+1) ae ae];have T: ∀g (n next:Nat) (o:Bool),bJ.at g v (m:Int) (n:Int) o->bJ.at g B 0 0 false->Fr No h g->FM b pos=.ok (m,n,o,next)->
   bJ.LD g (AA v 0) λt0 t1 t2=>bJ.ST g (AA B 0) t0 t1 t2 λG=>bJ.LD G (AA B 0) λU V Z=>R (.T #[.agg #[.I U,.U V,.B Z],.I (next:Int),.I 0]) G:=λg n next o q1 q2 F A=>
  bJ.ld q1 (bJ.set q2 λG D k j=>bJ.ld D (k1 G m n next o A (F.fresh (Fr.of_eq (S:=λy=>y=B) k (λc s=>j c s)) (λy e=>ae))))
 have J:=z.tt w;have Q:=w.get P id;by_cases K:f<24
 .rw[gk];rw[ag K]at a;refine bD u (by show 1<3;omega) λt D k j=> ?_
  rw[zQ ae]at D;exact T t f (pos+1) false D ((j B ae).trans Q) (J.fresh (Fr.of_eq (S:=λy=>y=v) k (λc s=>j c s)) (λy e=>ae)) a
 rw[af (λe=>K (bR (aS e)))];rw[af K]at a;refine aH.of λJ1 f'=> ?_
 have d': ∀q,q=decide (f=31/\rN m=true)->J1 q C:=by
  intro q hq;subst f';dsimp only;cases q with
  |true=>
   rw[ag rfl];rw[ag (aS hq.symm)]at a;refine bD u (by show 2<3;omega) λt D k j=> ?_
   exact T t 0 (pos+1) true D ((j B ae).trans Q) (J.fresh (Fr.of_eq (S:=λy=>y=v) k (λc s=>j c s)) (λy e=>ae)) a
  |false=>
   rw[dB];rw[af (gj hq.symm)]at a;by_cases L:f>27
   .rw[gk];rw[ag L]at a;exact O C 3 w a dN
   rw[af (λe=>L (bR (aS e)))];rw[af L]at a;have e5:IntKind.wrap .u8 ((f:Int) - 24)=(f:Int) - 24:=wrap_u8 ae ae;rw[e5,dB];obtain⟨d,eN,lN,gN,eP⟩: ∃d:Nat,IntKind.wrap .i64 (1*2 ^ min (Int.toNat ((f:Int) - 24)) (IntKind.bits .i64))=(d:Int)/\d<=8/\1<=d/\2 ^ (f - 24)=d:=by
    have:f=24\/f=25\/f=26\/f=27:=ae
    rcases this with rfl|rfl|rfl|rfl
    .exact⟨1,dz,ae,ae,rfl⟩
    .exact⟨2,dz,ae,ae,rfl⟩
    .exact⟨4,dz,ae,ae,rfl⟩
    .exact⟨8,dz,ae,ae,rfl⟩
   rw[eP]at a;rw[eN,bC (n:=(b.length:Int) - ((pos:Int)+1)) ae ae];by_cases cs:(d:Int)>(b.length:Int) - ((pos:Int)+1)
   .rw[ag (aw cs)];rw[gk]at a;exact O C 8 w a dN
   rw[af (λe=>cs (aS e))];rw[dB]at a;refine⟨λb' g=> ∃i:Nat,b'=(i:Int)/\i<=d/\bJ.at g v (m:Int) (R2 ((b.drop (pos+1)).take i):Int) false/\Fr (λy=>y=v) C g,λb' _=>d - b'.toNat,⟨0,rfl,bL _,by rw[eZ];exact u,Fr.refl _ _⟩,?_⟩;rintro _ g ⟨i,rfl,hi,S,F⟩;have Fg:Fr No h g:=J.fresh F (λy e=>ae);by_cases g':i<d
   .rw[gk,bC (n:=(pos:Int)+1+(i:Int)) ae ae];obtain⟨a',ea,cy⟩:=byte_at hr (i:=pos+1+i) ae;cases ea;refine⟨_,ak S,ae,ax.2 ⟨_,by rw[show Int.toNat ((pos:Int)+1+(i:Int))=pos+1+i by omega];exact Fg.cell cy id,?_⟩⟩;have hv:=Oi ((b.drop (pos+1)).take i);have h':=gv (n:=256) ae (show((b.drop (pos+1)).take i).length<=7 by rw[bw];omega);rw[show(256:Nat) ^ 7=72057594037927936 from rfl]at h';refine bD S (by show 1<3;omega) λg2 D k j=> ?_
    rw[SM ae (b[pos+1+i]).toNat_lt,<-GA]at D;rw[bC (n:=(i:Int)+1) ae ae];refine⟨⟨i+1,ae,ae,?_,F.tt (Fr.of_eq k (λc s=>j c s))⟩,by show d - Int.toNat ((i:Int)+1)<d - Int.toNat (i:Int);omega⟩;rw[bt,fx,ai ae];exact D
   .rw[af (λe=>g' (bR (aS e)))];obtain rfl:i=d:=ae
    rw[bC (n:=(pos:Int)+1+(i:Int)) ae ae,show(pos:Int)+1+(i:Int)=((pos+1+i:Nat):Int) by omega];exact T g _ (pos+1+i) false S (F.get Q ae) Fg a
 split
 .rename_i q;have q:f=31:=by have:=eq_of_beq q;omega
  refine⟨_,ak u,I6 ⟨_,rfl,d' _ (by rw[q];simp)⟩⟩
 .rename_i q;exact d' false (by rw[eq_comm,fv];intro e;exact q (by rw[e.1];decide))

end Cb
end
section
namespace Cb
variable {h H:aj} {R E:fD} {p:ck} {r c:Nat} {b:cM} {pos left:Nat}
theorem AT(a:wL h r p c b pos left)(k1: ∀H (m n next:Nat) (o:Bool),FM b pos=.ok (m,n,o,next)->wL H r p c b next left->Fr (λy=>y=r) h H->R (.agg #[.I (m:Int),.U (n:Int),.B o]) H)(kE: ∀H e,FM b pos=.error e->Fr No h H->E (QV e) H):iQ Tryz.prog 267 #[.P r 0] h R E:=by
 refine xa.walk (bJ.box λI z eb P F=>aH.of λJ O=> ?_);have d:=a.on F;have zr:=aC a.cW;have zb:=aC P;have done: ∀g B (m n next:Nat) (o:Bool),bJ.at g B (m:Int) (n:Int) o->z.size<=B->Fr No z g->FM b pos=.ok (m,n,o,next)->J (Sa B 0) (next:Int) 0 g:=by
  intro g B m n next o v z1 f q;have q2:=(wZ q).2.1;subst O;have C:=d.on f;refine iD (λ_=>⟨rfl,bD C.cW (by show 1<3;omega) λU u k D=> ?_⟩) (λe=>absurd e dN);obtain⟨Q,T⟩:=C.set (pos':=next) q2 a.left u k D;have V:=(D B (bR F.1)).trans v;have X:=(D I (bR F.1)).trans (f.get P id);refine ax.2 (bJ.ld V (bJ.set X λM w K S=>bJ.ld w ?_));have L:Fr (λy=>y=I) U M:=Fr.of_eq K (λc s=>S c s);refine k1 M m n next o q (Q.frame L ae (λy hy e i=> ?_)) ?_
  .have:=iZ a.row (by cases Z:b with|nil=>exact absurd Z e|cons=>simp[bc]) hy;omega
  .exact(Fr.no (F.tt f) T).trans L bX (λc' j e=>ae)
 have fail: ∀g B e,Fr No z g->FM b pos=.error e->e≠0->J (Sa B 0) 0 e g:=by
  intro g B e f j i;subst O;exact iD (λa'=>absurd (cI a') i) (λ_=>kE g e j (F.tt f))
 refine⟨_,_,_,ak d.cW,_,ak d.cW,?_,?_,trivial⟩
 .refine GP d.row rfl a.len a.pos (λg m n next o q f=>⟨_,_,_,_,_,rfl,bJ.new λB G w v x=>⟨rfl,done G B m n next o v (bR f.1) (f.tt x) q⟩⟩) (λg e j f i=>⟨_,_,_,_,_,rfl,bJ.new λB G w v x=>⟨rfl,fail G B e (f.tt x) j i⟩⟩)
 .refine bJ.box λt b' K A l=>⟨cB (d.on l).cW rfl,cB (d.on l).cW rfl,?_⟩
  have z2:=aC A;refine GP (d.on l).row rfl a.len a.pos (λg m n next o q f=>⟨_,_,_,_,_,rfl,bJ.set (f.get A id) λG u k D=>⟨rfl,done G t m n next o u ae ((l.tt f).fresh (Fr.of_eq (S:=λy=>y=t) k (λc s=>D c s)) (λy e=>ae)) q⟩⟩) (λg e j f i=>⟨_,_,_,_,_,rfl,bJ.set (f.get A id) λG u k D=>⟨rfl,fail G t e ((l.tt f).fresh (Fr.of_eq (S:=λy=>y=t) k (λc s=>D c s)) (λy e=>ae)) j i⟩⟩)

end Cb
end
end Go.Proofs.YtimiaphmdidfhaaGreatDoor
