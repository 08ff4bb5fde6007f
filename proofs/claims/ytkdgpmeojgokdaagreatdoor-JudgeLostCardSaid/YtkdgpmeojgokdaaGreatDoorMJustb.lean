/-
  Fu is proved here: parts of xQ proof, one behind xQ other (texts of this work, merged by a program; HU xQ theorem HV not use is left out). No condition.
-/
import Derived.Test.YtkdgpmeojgokdaaGreatDoorProg
import Derived.Shelf.Strings.Cut
import Derived.Shelf.Strconv.Itoa4
import Derived.Ground.NamesProg
import Derived.Shelf.Small.Wraps
import Derived.Test.YtkdgpmeojgokdaaGreatDoorMJusta
set_option maxRecDepth 100000
set_option maxHeartbeats 4000000
namespace Go.Den
def bc(B:cG):List Value:=B.map λb=> .int .u8 (b.toNat:Int)
theorem kR(b:cG):(bc b).length=b.length:=by simp[bc]
theorem kF(b c:cG):bc (b++c)=bc b++bc c:=by simp[bc]
theorem Qm(b:cG)(n:Nat):(bc b).take n=bc (b.take n):=by simp[bc,List.map_take]
theorem Qn(b:cG)(n:Nat):(bc b).drop n=bc (b.drop n):=by simp[bc,List.map_drop]
theorem rB(B:cG): ∀v∈bc B,fZ v=true:=by
 intro v h;simp only[bc,bt]at h;obtain⟨b,_,rfl⟩:=h;rfl
def str(b:cG):ByteArray:=⟨b.toArray⟩
theorem x3(b:ByteArray): ∀(k i:Nat)(r:cG),b.size - i=k->i<=b.size->ByteArray.toList.loop b i r=r.reverse++b.data.toList.drop i
 |0,i,r,a,H=>by
  have:i=b.size:=ag
  unfold ByteArray.toList.loop;rw[dy];have:b.data.toList.length<=i:=by rw[eZ];exact Nat.le_of_eq this.symm
  rw[dE this];simp
 |k+1,i,r,a,H=>by
  have h:i<b.size:=ag
  unfold ByteArray.toList.loop;rw[af h,x3 b k (i+1) _ ag ag];have c:i<b.data.toList.length:=by rw[eZ];exact h
  rw[cP c];have:b.get! i=b.data.toList[i]:=by
   show b.data[i]! =_;rw[getElem!_pos b.data i h];simp
  rw[this];simp
theorem toList_data(b:ByteArray):b.toList=b.data.toList:=by
 unfold ByteArray.toList;rw[x3 b _ 0 [] rfl (bQ _)];simp
theorem vp(b:cG):(str b).toList=b:=by rw[toList_data];simp[str]
theorem ND(s:ByteArray):str s.data.toList=s:=by cases s;simp[str]
section
variable {P : Program}
theorem FK(h:ai): ∀(B:cG)(s:ByteArray),rd P (forIn (bc B).toArray s λc s=>(do
   let .int .u8 n:=c|stuck "bytesToString: byte expected"
   pure (ForInStep.yield (s.push (UInt8.ofNat n.toNat))))) h=some ⟨s.data++B.toArray⟩:=by
 intro B;simp only[List.forIn_toArray];induction B with
 |nil=>intro s;simp only[bc,List.map_nil,List.forIn_nil];show some s=_;cases s;simp
 |cons b B i=>
  intro s;have e:bc (b::B)=.int .u8 (b.toNat:Int)::bc B:=rfl;rw[e,List.forIn_cons];rw[bB _ _ h (ForInStep.yield (s.push b)) (by show some (ForInStep.yield (s.push (UInt8.ofNat b.toNat)))=_;simp)];show rd P (forIn (bc B) (s.push b) _) h=_;rw[i];simp[ByteArray.push]
theorem NF{S D e:TypeId}{h:ai}{p:ct}{c n:Nat}{B:cG}(k:P.underlying S=some (.slice e))(g:P.underlying e=some (.int .u8))(f:P.underlying D=some .string)(H:Row h p (bc B))(j:n=B.length):xR P S D (.L p n c) h (str B):=by
 subst j;unfold xR convert;rw[bB _ _ _ _ (bM k),bB _ _ _ _ (bM f)];show rd P (underlying e>>=_) h=_;rw[bB _ _ _ _ (bM g)];show rd P (Conv.bytesToString (.L p B.length c)) h=_;cases p with
 |none=>
  have:B= []:=by
   rcases H with H|⟨a,e,_⟩
   .cases B with
    |nil=>rfl
    |cons b B=>cases H
   .cases e
  subst this;rfl
 |some a=>
  have d:dN a (bc B) 0 h:=by
   rcases H with H|⟨A,e,d⟩
   .rw[H];trivial
   .cases e;exact d
  have i:rd P (loadCells a B.length) h=some (bc B).toArray:=by
   unfold loadCells;rw[<-kR,je (bc B) 0 #[] h d];simp
  show rd P (loadCells a B.length>>=λC=>(forIn C ByteArray.empty λc s=>(do
   let .int .u8 n:=c|stuck "bytesToString: byte expected"
   pure (ForInStep.yield (s.push (UInt8.ofNat n.toNat)))))>>=λs=>pure (Value.string s)) h=_
  rw[bB _ _ _ _ i,bB _ _ _ _ (FK h B ByteArray.empty)];show some (Value.string ⟨ByteArray.empty.data++B.toArray⟩)=_;have:(⟨ByteArray.empty.data++B.toArray⟩:ByteArray)=str B:=by
   unfold str;congr 1;show #[]++B.toArray=B.toArray;simp
  rw[this]
theorem rk.bytes{h:ai}{t e:TypeId}{p:ct}{len cap:Nat}(d:P.cellsOf e=1)(f:P.underlying e=some (.int .u8))(g:P.underlying t=some (.slice e))(i:rk P h t (.L p len cap)):
  ∃b:cG,b.length=len/\Row h p (bc b):=by
 obtain⟨X,H,a,c⟩:=rk.ints d f g i;refine⟨X.map λx=>UInt8.ofNat x.toNat,cR H,?_⟩;have:bc (X.map λx=>UInt8.ofNat x.toNat)=X.map (.int .u8 ·):=by
  unfold bc;rw[dT];refine fb λx j=> ?_
  have:=wf_u8 (c x j);simp only[Function.comp,gy,Value.int.injEq,true_and];omega
 rw[this];exact a
end
theorem qG.bytes{P:Program}{h:ai}{t e:TypeId}{n:Nat}{v:Value}(f:P.cellsOf e=1)(g:P.underlying e=some (.int .u8))(d:P.underlying t=some (.slice e))(b:qG P h n t [v]): ∃p c B,v=.slice p (B:cG).length c/\Row h p (bc B):=by
 have: ∃p l c,v=.L p l c:=by
  cases n with
  |zero=>exact b.elim
  |succ n=>
   unfold qG at b;rw[d]at b;rcases b with H|⟨a,l,c,H,_⟩
   .simp at H;exact⟨_,_,_,H⟩
   .simp at H;exact⟨_,_,_,H⟩
 obtain⟨p,l,c,rfl⟩:=this;obtain⟨B,i,j⟩:=rk.bytes f g d ⟨n,b⟩;subst i;exact⟨p,c,B,rfl,j⟩
theorem me(n:Nat):IntKind.wrap .u8 (n:Int)=((n%256:Nat):Int):=by
 show(n:Int)%256=_;omega
theorem pQ{n:Nat}(h:n<18446744073709551616):IntKind.wrap .u64 (n:Int)=(n:Int):=wrap_u64 ag ag
theorem TN(n:Nat):IntKind.wrap .u8 ((BitVec.ofInt (IntKind.bits .u8) (IntKind.wrap .u8 (n:Int))|||BitVec.ofInt (IntKind.bits .u8) 128).toNat:Int)=((UInt8.ofNat (n%128+128)).toNat:Int):=by
 have K: ∀m:Fin 256,(((BitVec.ofInt 8 (m.val:Int)|||BitVec.ofInt 8 128).toNat%256:Nat))=m.val%128+128:=dS
 rw[me n,me];have k:=K ⟨n%256,ag⟩;simp only at k;have e:IntKind.bits .u8=8:=rfl;rw[e,k];rw[gy];omega
theorem Sq(c:UInt8):(IntKind.wrap .u8 ((BitVec.ofInt (IntKind.bits .u8) (c.toNat:Int) &&& BitVec.ofInt (IntKind.bits .u8) 128).toNat:Int)==0)=decide (c.toNat<128):=by
 have k: ∀m:Fin 256,(((((BitVec.ofInt 8 (m.val:Int) &&& BitVec.ofInt 8 128).toNat%256:Nat):Int))==0)=decide (m.val<128):=dS
 rw[me];exact k ⟨c.toNat,c.toNat_lt⟩
theorem Sr(c:UInt8):IntKind.wrap .u8 ((BitVec.ofInt (IntKind.bits .u8) (c.toNat:Int) &&& BitVec.ofInt (IntKind.bits .u8) 127).toNat:Int)=((c.toNat%128:Nat):Int):=by
 have k: ∀m:Fin 256,((BitVec.ofInt 8 (m.val:Int) &&& BitVec.ofInt 8 127).toNat%256:Nat)=m.val%128:=dS
 rw[me];exact cf (λx:Nat=>(x:Int)) (k ⟨c.toNat,c.toNat_lt⟩)
theorem Ss{n d i:Nat}(f:n<2 ^ i)(h:d*2 ^ i<18446744073709551616)(H:i<=64):
  IntKind.wrap .u64 ((BitVec.ofInt (IntKind.bits .u64) (n:Int)|||BitVec.ofInt (IntKind.bits .u64) (IntKind.wrap .u64 ((d:Int)*2 ^ min (Int.toNat (i:Int)) (IntKind.bits .u64)))).toNat:Int)=((n+d*2 ^ i:Nat):Int):=by
 have b:IntKind.bits .u64=64:=rfl;have k:(0:Nat)<2 ^ i:=Nat.two_pow_pos i;rw[aH,b,Nat.min_eq_left H];have E:((d:Int)*2 ^ i)=((d*2 ^ i:Nat):Int):=bU
 rw[E,pQ h];have g:n<18446744073709551616:=by
  have:(2:Nat) ^ i<=2 ^ 64:=gn ag H;omega
 have e: ∀m:Nat,m<18446744073709551616->(BitVec.ofInt 64 (m:Int)).toNat=m:=λm j=>by
  rw[BitVec.toNat_ofInt];omega
 rw[BitVec.toNat_or,e n g,e _ h];have a:n|||d*2 ^ i=n+d*2 ^ i:=by
  rw[Nat.or_comm,Nat.mul_comm,<-Nat.two_pow_add_eq_or_of_lt f d];omega
 rw[a];refine pQ ?_;have c:d<2 ^ (64 - i):=by
  have:(18446744073709551616:Nat)=2 ^ (64 - i)*2 ^ i:=by rw[<-Nat.pow_add,Nat.sub_add_cancel H]
  rw[this]at h;exact Nat.lt_of_mul_lt_mul_right h
 have:(d+1)*2 ^ i<=2 ^ (64 - i)*2 ^ i:=dc _ c;rw[<-Nat.pow_add,Nat.sub_add_cancel H,fi]at this;omega
theorem U5{n:Nat}:Int.fdiv (n:Int) (2 ^ min (Int.toNat 7) (IntKind.bits .u64))=((n/128:Nat):Int):=by
 show Int.fdiv (n:Int) 128=_;rw[Int.fdiv_eq_ediv_of_nonneg _ ag];omega
end Go.Den
namespace Go.Den
structure Step (S:Nat->Prop) (h:ai) (S':Nat->Prop) (h':ai):Prop where
 fr:Fr S h h'
 new: ∀c,S' c->S c\/h.size<=c
theorem Step.refl(S:Nat->Prop)(h:ai):Step S h S h:=⟨Fr.refl _ _,λ_=> .inl⟩
theorem Step.trans{S s d:Nat->Prop}{h H e:ai}(a:Step S h s H)(b:Step s H d e):Step S h d e:=
 ⟨a.fr.trans b.fr bX (λc hc f=>(a.new c f).resolve_right ag),λc hc=>by
  rcases b.new c hc with hc|hc
  .exact a.new c hc
  .have:=a.fr.1;exact .inr ag⟩
theorem Step.apart{S s Q:Nat->Prop}{h a:ai}(f:Step S h s a)(d: ∀c,S c->¬Q c)(e: ∀c,Q c->c<h.size): ∀c,s c->¬Q c:=λc b H=>by
 rcases f.new c b with h1|h1
 .exact d c h1 H
 .have:=e c H;omega
theorem Fr.fresh{S:Nat->Prop}{h H a:ai}(f:Fr (λ_=>False) h H)(g:Fr S H a)(b: ∀c,S c->h.size<=c):Fr (λ_=>False) h a:=
 f.step g λc e d=>by have:=b c d;omega
theorem K7{h:ai}{c:Array Value}{t:TypeId}{f:Nat×Nat}{i:Nat}{v:Value}:oO (h.push (.C c t f)) (AA h.size i) v=h.push (.C (c.setIfInBounds i v) t f):=by
 apply Array.ext
 .simp[oO]
 .intro j a b;have e: ∀(x:ai)(H:j<x.size),x[j]? =some x[j]:=λx H=>Array.getElem?_eq_getElem H
  have:(oO (h.push (.C c t f)) (AA h.size i) v)[j]? =(h.push (.C (c.setIfInBounds i v) t f))[j]? :=by
   by_cases q:j=h.size
   .subst q;rw[wO bZ,bZ]
   .rw[uj q];rw[dY,dY,ae q,ae q]
  rw[e _ a,e _ b]at this;exact aX this
theorem x4{h:ai}{c:Array Value}{t:TypeId}{i:Nat}{v:Value}{K:ai->Prop}(H:i<c.size)(a:K (h.push (.C (c.setIfInBounds i v) t (0,0)))):aJ (h.push (.C c t (0,0))) (AA h.size i) v K:=by
 refine⟨?_,oh bZ,?_⟩
 .rw[lM bZ];simp[H]
 .rintro _ rfl;rw[K7];exact a
theorem cT{h:ai}{o:Obj}{K:Nat->ai->Prop}(H:K h.size (h.push o)):bf h o K:=by
 rintro b a rfl rfl;exact H
section
variable {P : Program}
theorem jn{S X A elem e t:TypeId}{s bytes:Nat}{z:Value}{h:ai}{p:ct}{len cap:Nat}{d:List Value}{x:Array Value}{K:fO}(T:oC P S elem s bytes z)(u:P.underlying X=some (.slice e))(y:Own h p len cap s d)(w:x.size=s)(r: ∀v∈x.toList,fZ v=true)(l:(len+1)*bytes<=70368744177664)(m:len+1<=9223372036854775807)(q: ∀a C H,Own H a (len+1) C s (d++x.toList)->Fr (aP p) h H->(∀c,aP a c->aP p c\/h.size<=c)->K (.L a (len+1) C) H):
  bf h (.C x t) λb i=>aT P (Builtin.append_ #[S,X] A #[.L p len cap,.L (Sa b 0) 1 1]) i K:=by
 refine cT ?_;have f:Fr (λ_=>False) h (h.push (.C x t)):=Fr.push _ _;refine dR T u (y.frame f bX) (ds:=x.toList) (.inr ⟨_,rfl,gH bZ (λj v o=>by rw[bK];simpa using o)⟩) (by simp[w]) r l m ?_;intro a C H O _ F g;exact q a C H O (Fr.no f F) (λc n=>(g c n).imp id (λk=>by simp at k;omega))
end
end Go.Den
namespace Go.Den
structure Up (h0:ai) (S:Nat->Prop) (h:ai):Prop where
 fr:Fr (λ_=>False) h0 h
 ge: ∀c,S c->h0.size<=c
theorem Up.step{a h H:ai}{S s:Nat->Prop}(u:Up a S h)(b:Step S h s H):Up a s H:=
 ⟨u.fr.fresh b.fr u.ge,λc d=>by
  rcases b.new c d with h1|h1
  .exact u.ge c h1
  .have:=u.fr.1;omega⟩
theorem Up.CK{a h H:ai}{S Q:Nat->Prop}(u:Up a S h)(f:Fr Q h H)(d: ∀c,Q c->S c):Up a S H:=⟨u.fr.fresh f (λc b=>u.ge c (d c b)),u.ge⟩
theorem ju{h:ai}{cs:List Value}{t:TypeId}:Row (h.push (.C cs.toArray t)) (Sa h.size 0) cs:=.inr ⟨_,rfl,gH bZ (λj v H=>by rw[bK];simpa using H)⟩
theorem fy(a:Addr):a.add 0=a:=by simp[Addr.add]
theorem jU(a:Addr)(n:Nat):(a.add n).block=a.block:=by unfold Addr.add;split<;>rfl
theorem jh{h:ai}{p:ct}{C:List Value}(f:Row h p C)(b:C≠ []){x:Nat}(g:aP p x):x<h.size:=by
 obtain⟨a,rfl,rfl⟩:=g;rcases f with H|⟨A,e,H⟩
 .exact absurd H b
 .cases e;cases C with
  |nil=>exact absurd rfl b
  |cons c C=>
   obtain⟨_,_,_,d,_⟩:=zU H.1;have:=aA d;rwa[jU]at this
theorem Row.sub{h:ai}{p:ct}{c:List Value}(e:Row h p c){cap l u sz:Nat}(f:l<=u)(g:u<=cap):Row h (cQ p cap l sz) ((c.take (u*sz)).drop (l*sz)):=by
 by_cases b:cap=l
 .left;have:u=l:=ag
  subst this;rw[List.drop_eq_nil_iff,bA];exact Nat.min_le_left _ _
 .unfold cQ;rw[ae b];rcases e with rfl|⟨a,rfl,d⟩
  .left;simp
  .refine .inr ⟨a.add (l*sz),rfl,kk.2 λj v H=> ?_⟩;rw[add_add,bK];rw[fp,cZ]at H;split at H
   .have:=kk.1 d (l*sz+j) v H;rwa[bK]at this
   .cases H
structure Ft where
 M:Nat->Prop
 D:Nat->Prop
structure bw (F:Ft) (h:ai) (F':Ft) (h':ai):Prop where
 fr:Fr F.M h h'
 hN: ∀c,F'.M c->F.M c\/h.size<=c
 ji: ∀c,F'.D c->F.D c\/h.size<=c
 mz: ∀c,F.D c->F'.D c
theorem bw.refl(F:Ft)(h:ai):bw F h F h:=⟨Fr.refl _ _,λ_=> .inl,λ_=> .inl,λ_=>id⟩
theorem bw.trans{F f d:Ft}{h H e:ai}(a:bw F h f H)(b:bw f H d e):bw F h d e:=by
 have z:=a.fr.1;refine⟨a.fr.trans b.fr bX (λc hc g=>(a.hN c g).resolve_right ag),λc hc=> ?_,λc hc=> ?_,λc hc=>b.mz c (a.mz c hc)⟩
 .rcases b.hN c hc with hc|hc
  .exact a.hN c hc
  .exact .inr ag
 .rcases b.ji c hc with hc|hc
  .exact a.ji c hc
  .exact .inr ag
theorem bw.vq{F:Ft}{h H:ai}(f:Fr F.M h H):bw F h F H:=⟨f,λ_=> .inl,λ_=> .inl,λ_=>id⟩
theorem bw.gT{F:Ft}{h H:ai}(f:Fr (λ_=>False) h H):bw F h F H:=.vq (f.mono λ_ _=>False.elim)
theorem bw.no{F a:Ft}{h H c:ai}(f:Fr (λ_=>False) h H)(b:bw F H a c):bw F h a c:=(bw.gT f).trans b
theorem bw.on{F b:Ft}{h H c:ai}(a:bw F h b H)(f:Fr (λ_=>False) H c):bw F h b c:=a.trans (bw.gT f)
theorem bw.apart{F f:Ft}{Q:Nat->Prop}{h b:ai}(s:bw F h f b)(a: ∀c,F.M c\/F.D c->¬Q c)(d: ∀c,Q c->c<h.size): ∀c,f.M c\/f.D c->¬Q c:=λc hc H=>by
 have:=d c H;rcases hc with hc|hc
 .rcases s.hN c hc with h1|h1
  .exact a c (.inl h1) H
  .omega
 .rcases s.ji c hc with h1|h1
  .exact a c (.inr h1) H
  .omega
structure Nb (h0:ai) (F:Ft) (h:ai):Prop where
 fr:Fr (λ_=>False) h0 h
 ge: ∀c,F.M c\/F.D c->h0.size<=c
theorem Nb.step{a h H:ai}{F f:Ft}(u:Nb a F h)(s:bw F h f H):Nb a f H:=by
 have z:=u.fr.1;refine⟨u.fr.fresh s.fr (λc hc=>u.ge c (.inl hc)),λc hc=> ?_⟩;rcases hc with hc|hc
 .rcases s.hN c hc with h1|h1
  .exact u.ge c (.inl h1)
  .omega
 .rcases s.ji c hc with h1|h1
  .exact u.ge c (.inr h1)
  .omega
theorem Nb.on{a h H:ai}{F:Ft}(u:Nb a F h)(f:Fr (λ_=>False) h H):Nb a F H:=⟨u.fr.tt f,u.ge⟩
theorem rC{b:Nat}{t:TypeId}: ∀(V:List Value)(i:Nat)(h:ai)(c:Array Value)(K:ai->Prop),h[b]? =some (.C c t (0,0))->i+V.length<=c.size->V.all fZ=true->
  (∀a C,a[b]? =some (.C C t (0,0))->C.size=c.size->(∀j,j<i\/i+V.length<=j->C[j]? =c[j]?)->(∀j v,V[j]? =some v->C[i+j]? =some v)->a.size=h.size->(∀x,x≠b->a[x]? =h[x]?)->K a)->
  dV (AA b 0) V i h K
 | [],i,h,c,K,d,_,_,e=>e h c d rfl (λ_ _=>rfl) (λj v H=>by simp at H) rfl (λ_ _=>rfl)
 |v::V,i,h,c,K,d,n,f,e=>by
  rw[List.all_cons,aW]at f;rw[bn]at n;unfold dV;rw[f.1];dsimp only;rw[gZ,bK];refine bk d ag λl A s o=> ?_
  refine rC V (i+1) l _ K A (by rw[Array.size_setIfInBounds];omega) f.2 λm k B z q r S O=>e m k B (by rw[z,Array.size_setIfInBounds]) (λj H=> ?_) (λj u H=> ?_) ag (λx g=>by rw[O x g,o x g])
  .rw[bn]at H;rw[q j ag,cJ,dy]
  .cases j with
   |zero=>
    simp only[eO,bC]at H;subst H;rw[Nat.add_zero,q i ag];rw[cJ,af rfl,gi]
   |succ j=>
    have:=r j u (cR H);rwa[show i+1+j=i+(j+1) by omega]at this
theorem ft{h:ai}{b:Nat}{c:Array Value}{t:TypeId}{v:List Value}{K:ai->Prop}(d:h[b]? =some (.C c t (0,0)))(i:v.length=c.size)(g:v.all fZ=true)(f: ∀H,H[b]? =some (.C v.toArray t (0,0))->H.size=h.size->(∀x,x≠b->H[x]? =h[x]?)->K H):dV (AA b 0) v 0 h K:=by
 refine rC v 0 h c K d ag g λH C B z _ r s o=>f H ?_ s o
 have:C=v.toArray:=by
  apply Array.ext'
  apply fE
  intro j;by_cases a:j<v.length
  .have e:=aj a;have:=r j _ e;rw[bK]at this;rw[dv,this];exact e.symm
  .rw[cV (by rw[eZ];omega),cV (cR a)]
 rw[<-this];exact B
theorem gz{h:ai}{c:Array Value}{t:TypeId}{vs:List Value}{K:Nat->ai->Prop}(f:vs.length=c.size)(i:vs.all fZ=true)(d: ∀b H,b=h.size->H[b]? =some (.C vs.toArray t (0,0))->Fr (λ_=>False) h H->K b H):bf h (.C c t) λb a=>dV (AA b 0) vs 0 a (K b):=
 cT (ft bZ f i λH B s o=>d _ H rfl B ((Fr.push h _).fresh (S:=λy=>y=h.size) ⟨ag,λy _ g=>o y g⟩ (λy e=>Nat.le_of_eq e.symm)))
end Go.Den
namespace Go.Den
structure BV where
 p:ct
 c:Nat
 b:cG
abbrev BV.val(x:BV):Value:=.slice x.p x.b.length x.c
structure BV.ok (h:ai) (D:Nat->Prop) (x:BV):Prop where
 row:Row h x.p (bc x.b)
 own:x.b≠ []->∀c,aP x.p c->D c
 cap:x.b.length<=x.c
theorem BV.ok.frame{h b:ai}{D Q:Nat->Prop}{x:BV}(H:x.ok h D)(f:Fr Q h b)(g: ∀c,D c->¬Q c):x.ok b D:=by
 refine⟨?_,H.own,H.cap⟩;by_cases d:x.b= []
 .rw[d];exact .inl rfl
 .exact H.row.frame f (λa e=>g a.block (H.own d a.block ⟨a,e,rfl⟩))
theorem BV.ok.mono{h:ai}{D D':Nat->Prop}{x:BV}(H:x.ok h D)(b: ∀c,D c->D' c):x.ok h D':=⟨H.row,λa c d=>b c (H.own a c d),H.cap⟩
theorem BV.kT{h:ai}{D:Nat->Prop}{p:ct}{c:Nat}{b:cG}(o:Own h p b.length c 1 (bc b))(H: ∀x,aP p x->D x):BV.ok h D ⟨p,c,b⟩:=⟨o.iz,λ_=>H,o.le⟩
theorem kG(p:ct)(m s:Nat):cQ p m 0 s=p:=by
 unfold cQ;split
 .rfl
 .cases p with
  |none=>rfl
  |some a=>simp[Addr.add]
theorem Own.gB{h:ai}{a:Addr}{len cap s:Nat}{b:Type}{e:b->List Value}{X:List b}(o:Own h (.some a) len cap s (X.flatMap e))(H: ∀x,(e x).length=s){i:Nat}{x:b}(c:X[i]? =.some x):dN (a.add (i*s)) (e x) 0 h:=by
 refine kk.2 λj v d=> ?_
 rw[bK,add_add];exact o.cell (sB e s H X i x c j v d)
theorem Row.gB{h:ai}{a:Addr}{s:Nat}{b:Type}{e:b->List Value}{X:List b}(o:Row h (.some a) (X.flatMap e))(H: ∀x,(e x).length=s){i:Nat}{x:b}(c:X[i]? =.some x):dN (a.add (i*s)) (e x) 0 h:=by
 refine kk.2 λj v d=> ?_
 rw[bK,add_add];exact o.cell (sB e s H X i x c j v d)
theorem Own.addr{h:ai}{p:ct}{len cap s:Nat}{C:List Value}(O:Own h p len cap s C)(d:0<len): ∃b o,p=.some (AA b o):=by
 cases O with
 |nil _ a _ _=>omega
 |row b o c t H _ _ _ _ _=>exact⟨b,o,H⟩
theorem Own.pre{h:ai}{p:ct}{len cap s:Nat}{c:List Value}(o:Own h p len cap s c){i:Nat}(H:i<=len):Own h p i cap s (c.take (i*s)):=by
 have:=o.sub (l:=0) (u:=i) (bQ _) H;rwa[kG,Nat.zero_mul,gx]at this
theorem kH{a:Type}(e:a->List Value)(s:Nat)(h: ∀x,(e x).length=s): ∀(X:List a)(i:Nat),(X.flatMap e).take (i*s)=(X.take i).flatMap e
 | [],i=>bU
 |x::X,0=>bU
 |x::X,i+1=>by
  rw[fU,gr,fU,List.take_append,h,bE (by rw[h,fi];omega),show(i+1)*s - s=i*s by rw[fi];omega,kH e s h X i]
theorem lO{a:Type}(e:a->List Value)(s:Nat)(h: ∀x,(e x).length=s): ∀(X:List a)(i:Nat),(X.flatMap e).drop (i*s)=(X.drop i).flatMap e
 | [],i=>bU
 |x::X,0=>bU
 |x::X,i+1=>by
  rw[fU,List.drop_succ_cons,List.drop_append,h,dE (by rw[h,fi];omega),da,show(i+1)*s - s=i*s by rw[fi];omega,lO e s h X i]
theorem NG{f:Type}(E:f->List Value)(s:Nat)(h: ∀x,(E x).length=s): ∀(X:List f)(i:Nat)(y:f),i<X.length->∀(c:List Value),c.length=(X.flatMap E).length->(∀j,j/s≠i\/s=0->c[j]? =(X.flatMap E)[j]?)->(∀j v,j<s->(E y)[j]? =some v->c[i*s+j]? =some v)->c=(X.set i y).flatMap E:=by
 intro X i y u c A n t;apply fE
 intro j;by_cases q:s=0
 .rw[n j (.inr q)];have m: ∀z:List f,z.flatMap E= []:=λz=>by
   have:=eL E s h z;rw[q,Nat.mul_zero]at this;exact List.eq_nil_of_length_eq_zero this
  rw[m,m]
 have l:0<s:=ag
 by_cases g:j/s=i
 .have k:j=i*s+j%s:=by rw[<-g,Nat.mul_comm];exact(Nat.div_add_mod j s).symm
  have d:=Nat.mod_lt j l;have H:(E y)[j%s]? =some ((E y)[j%s]'(by rw[h];exact d)):=aj _;have a:=t _ _ d H;have b:=sB E s h (X.set i y) i y (by simp[u]) _ _ H;rw[<-k]at a b;rw[a,b]
 .rw[n j (.inl g)];by_cases p:j/s<X.length
  .have k:j=(j/s)*s+j%s:=by rw[Nat.mul_comm];exact(Nat.div_add_mod j s).symm
   have d:=Nat.mod_lt j l;have r:X[j/s]? =some (X[j/s]):=aj p;have w:(X.set i y)[j/s]? =some (X[j/s]):=by rw[dM,ae (λe=>g e.symm)];exact r
   have H:(E X[j/s])[j%s]? =some ((E X[j/s])[j%s]'(by rw[h];exact d)):=aj _;have a:=sB E s h X _ _ r _ _ H;have b:=sB E s h (X.set i y) _ _ w _ _ H;rw[<-k]at a b;rw[a,b]
  .have o:X.length*s<=j:=by
    have:=(Nat.le_div_iff_mul_le l).1 (Nat.le_of_not_lt p);exact this
   rw[cV (by rw[eL E s h];exact o),cV (by rw[eL E s h,dQ];exact o)]
section
variable {P : Program}
theorem CL{S elem ty:TypeId}{s bytes:Nat}{z:Value}{h:ai}{p:ct}{len cap i:Nat}{C:List Value}{K:fO}(T:oC P S elem s bytes z)(M: ∀v∈z.cells.toList,fZ v=true)(O:Own h p len cap s C)(d:i<=len)(m: ∀H,Own H p i cap s (C.take (i*s))->Fr (aP p) h H->K (.T #[]) H):aT P (Builtin.clear_ #[S] ty #[.L (cQ p cap i s) (len - i) (cap - i)]) h K:=by
 have f:K (.T #[]) h:=m h (O.pre d) (Fr.refl _ _);obtain⟨i',F,h',_,X⟩:=T.i;unfold Builtin.clear_;show aT P (underlying S>>=_) h K;refine bY (s:=underlying S) (bM T.u) ?_;cases O with
 |nil g q B l=>
  subst g;have:cQ none cap i s=none:=by unfold cQ;split<;>rfl
  rw[this];exact f
 |row b o c t g x q B I l=>
  subst g;by_cases E:len - i=0
  .rw[E];cases hq:cQ (Sa b o) cap i s with
   |none=>exact f
   |some c'=>exact f
  .obtain⟨n,r⟩: ∃n,len - i=n+1:=⟨len - i - 1,ag⟩;have D:cap≠i:=ag
   have A:cQ (Sa b o) cap i s=some ⟨b,o+i*s,none⟩:=by
    unfold cQ;rw[ae D];show some (((AA b o):Addr).add (i*s))=_;rw[gZ]
   rw[A,r];show aT P (zeroValue elem>>=λz=>storeCells ⟨b,o+i*s,none⟩ (Builtin.zeroCells z.cells (n+1)).toList>>=λ_=>pure (Value.tuple #[])) h K;refine bY (s:=zeroValue elem) (jr F X) ?_;rw[dW];have a':=T.zs;have Z:(Builtin.zeroCells z.cells (n+1)).toList.length=(n+1)*s:=by simp[Builtin.zeroCells,a']
   have d':o+i*s+(n+1)*s<=o+cap*s:=by
    rw[<-r,Nat.sub_mul];have m1:i*s<=len*s:=dc _ d;have m2:len*s<=cap*s:=dc _ q;omega
   refine um (c:=c) (off:=o+i*s) _ 0 h b t _ ?_ x (by rw[Z];omega) ?_
   .intro v u;simp only[Builtin.zeroCells,Array.toList_map,bt]at u;obtain⟨k,G,rfl⟩:=u;have R:0<z.cells.size:=by
     rcases Nat.eq_zero_or_pos z.cells.size with e|e
     .simp[e]at G
     .exact e
    have J:=Nat.mod_lt k R;rw[getElem!_pos z.cells _ J];exact M _ bU
   .intro H w y g' L f' U Q;refine m H (.row b o w t rfl y ag ag ?_ ?_) (Fr.of_eq U λb' V=>Q b' (λe=>V ⟨_,rfl,e.symm⟩))
    .rw[bA,I];have m1:i*s<=len*s:=dc _ d;omega
    .intro j v a;rw[cZ]at a;split at a
     .rename_i e';rw[L (o+j) ag];exact l j v a
     .cases a
theorem wQ{S X D elem k t:TypeId}{s bytes:Nat}{z:Value}{h:ai}{q:ct}{n cq:Nat}{d:List Value}{K:fO}(T:oC P S elem s bytes z)(f:P.underlying X=some (.slice k))(B:Row h q d)(u:d.length=n*s)(A: ∀v∈d,fZ v=true)(r:n*bytes<=70368744177664)(G:n<=9223372036854775807)(y: ∀p C H,Own H p n C s d->Fr (λ_=>False) h H->(∀c,aP p c->h.size<=c)->K (.L p n C) H):
  bf h (.C #[] t) λb m=>aT P (Builtin.append_ #[S,X] D #[.L (Sa b 0) 0 0,.L q n cq]) m K:=by
 refine cT ?_;have F:Fr (λ_=>False) h (h.push (.C #[] t)):=Fr.push _ _;refine dR (cs:= []) T f (.row h.size 0 #[] t rfl bZ (bp _) bU bU (λj v w=>by cases w)) (B.frame F bX) u A (cR r) ag ?_;intro p i H o _ l g;rw[bK,da]at o;rw[bK];refine y p i H o (F.step l (λc I ⟨a,e,E⟩=>by cases e;simp at E;omega)) (λx f=> ?_);rcases g x f with⟨a,e,rfl⟩|h2
 .cases e;exact bp _
 .simp at h2;omega
end
theorem K9{a:Type}{e:a->List Value}(b: ∀x,(e x).length=2){X:List a}{i:Nat}{y:a}{V c:Value}(d:i<X.length)(f:e y= [V,c]):((X.flatMap e).set (i*2) V).set (i*2+1) c=(X.set i y).flatMap e:=by
 have g:=eL e 2 b X;refine NG e 2 b X i y d _ bU (λj H=> ?_) (λj v H h=> ?_)
 .have H:j/2≠i:=ag
  rw[dM,dM,dy,dy]
 .rw[f]at h
  match j,H with
  |0,_=>
   simp only[eO,bC]at h;rw[dM,dy,dM,gi,gi,h]
  |1,_=>
   simp only[dP,eO,bC]at h;rw[dM,af rfl,af (by rw[dQ];omega),h]
end Go.Den
set_option linter.unusedSectionVars false
namespace Go.Den
section
variable {P : Program} {α : Type} [DecidableEq α]
structure CM (P:Program) (kt:TypeId) (enc:α->Value):Prop where
 eq: ∀(a b:α) (h:ai),rd P (Op.equal kt (enc a) (enc b)) h=some (decide (a=b))
 TO: ∀(e:Bool) (a:α) (h:ai),rd P (Instr.checkKey e 10000 kt (enc a)) h=some ()
 now: ∃d,P.underlying kt=some d/\∀a b,Instr.sameNow d (enc a) (enc b)=none\/Instr.sameNow d (enc a) (enc b)=some (decide (a=b))
 bits: ∀a,Instr.sameBits 10000 (enc a) (enc a)=true
abbrev qi(e:α->Value)(t:α×Value×Nat):MapEntry:=⟨e t.1,t.2.1,t.2.2⟩
abbrev pr(t:α×Value×Nat):α×Value:=(t.1,t.2.1)
structure TP (h:ai) (m:Nat) (enc:α->Value) (T:List (α×Value×Nat)) (clock:Nat):Prop where
 di:h[m]? =some (.map (T.map (qi enc)).toArray clock)
 keys:(T.map (·.1)).Nodup
 La: ∀t∈T,t.2.2<clock
 born:(T.map (·.2.2)).Nodup
def jM(h:ai)(m:Nat)(e:α->Value)(l:List (α×Value)):Prop:= ∃T c,TP h m e T c/\(T.map pr).Perm l
def wR(l:List (α×Value))(k:α):List (α×Value):=l.filter (λe=> !decide (e.1=k))
def FL(l:List (α×Value))(k:α)(v:Value):List (α×Value):=(k,v)::wR l k
theorem jM.perm{h:ai}{m:Nat}{e:α->Value}{l L:List (α×Value)}(H:jM h m e l)(p:l.Perm L):jM h m e L:=by
 obtain⟨T,c,a,b⟩:=H;exact⟨T,c,a,b.trans p⟩
theorem jM.ni{h h':ai}{m:Nat}{E:α->Value}{l:List (α×Value)}(H:jM h m E l)(g:h'[m]? =h[m]?):jM h' m E l:=by
 obtain⟨T,c,⟨a,b,d,e⟩,f⟩:=H;exact⟨T,c,⟨g.trans a,b,d,e⟩,f⟩
theorem jM.lt{h:ai}{m:Nat}{e:α->Value}{l:List (α×Value)}(H:jM h m e l):m<h.size:=by
 obtain⟨T,c,a,_⟩:=H;exact aA a.di
theorem jM.frame{S:Nat->Prop}{h a:ai}{m:Nat}{e:α->Value}{l:List (α×Value)}(H:jM h m e l)(b:Fr S h a)(c: ¬S m):jM a m e l:=H.ni (b.2 m H.lt c)
theorem jM.push(h:ai)(e:α->Value):jM (h.push (.map #[] 0)) h.size e []:=⟨[],0,⟨bZ,bU,bU,bU⟩,.refl _⟩
theorem jM.nodup{h:ai}{m:Nat}{e:α->Value}{l:List (α×Value)}(H:jM h m e l):(l.map (·.1)).Nodup:=by
 obtain⟨T,c,b,d⟩:=H;have a:=d.map (·.1);rw[dT]at a;exact a.nodup_iff.1 b.keys
def nk(k:α):List (α×Value×Nat)->Nat->Option (Nat×Value)
 | [],_=>none
 |t::T,i=>if k=t.1 then some (i,t.2.1)else nk k T (i+1)
theorem pR{k:α}: ∀{T:List (α×Value×Nat)}{i:Nat},nk k T i=none->∀t∈T,t.1≠k
 | [],_,_,_,ht=>by cases ht
 |u::T,i,h,t,ht=>by
  unfold nk at h;split at h
  .cases h
  .rename_i H;rcases bg.1 ht with rfl|ht
   .exact λe=>H e.symm
   .exact pR h t ht
theorem pS{k:α}: ∀{T:List (α×Value×Nat)}{i j:Nat}{v:Value},nk k T i=some (j,v)->∃A B b,T=A++(k,v,b)::B/\j=i+A.length
 | [],_,_,_,h=>by cases h
 |u::T,i,j,v,h=>by
  unfold nk at h;split at h
  .rename_i H;simp only[bC,gK]at h;obtain⟨rfl,rfl⟩:=h;subst H;exact⟨[],T,u.2.2,rfl,rfl⟩
  .obtain⟨A,B,b,rfl,rfl⟩:=pS h;exact⟨u::A,B,b,rfl,by rw[bn];omega⟩
theorem x5{kt:TypeId}{E:α->Value}{d:TypeDesc}(H: ∀a b,Instr.sameNow d (E a) (E b)=none\/Instr.sameNow d (E a) (E b)=some (decide (a=b)))(k:α):
  ∀(T:List (α×Value×Nat))(i:Nat),Instr.findNow d (E k) (T.map (qi E)) i=none\/Instr.findNow d (E k) (T.map (qi E)) i=some (nk k T i)
 | [],i=> .inr rfl
 |t::T,i=>by
  rw[cb];unfold Instr.findNow nk;rcases H k t.1 with e|e<;>rw[e]
  .exact .inl rfl
  .by_cases h:k=t.1
   .rw[av h,af h];exact .inr rfl
   .rw[aC h,ae h];exact x5 (kt:=kt) H k T (i+1)
theorem CN{a:TypeId}{e:α->Value}(K:CM P a e)(k:α)(h:ai): ∀(T:List (α×Value×Nat))(i:Nat),rd P (Instr.findAsking a (e k) (T.map (qi e)) i) h=some (nk k T i)
 | [],i=>rfl
 |t::T,i=>by
  rw[cb];unfold Instr.findAsking nk;rw[bB _ _ _ _ (K.eq k t.1 h)];by_cases H:k=t.1
  .rw[av H,af H,af rfl];rfl
  .rw[aC H,ae H,ae bU];exact CN K k h T (i+1)
theorem DR{a:TypeId}{E:α->Value}(K:CM P a E)(k:α)(h:ai)(T:List (α×Value×Nat)):rd P (Instr.findKey a (E k) (T.map (qi E))) h=some (nk k T 0):=by
 obtain⟨d,H,b⟩:=K.now;unfold Instr.findKey;rw[bB _ _ _ _ (bM H)];rcases x5 (kt:=a) b k T 0 with e|e<;>rw[e]
 .exact CN K k h T 0
 .rfl
structure oR (P:Program) (t:TypeId) (enc:α->Value) (z:Value):Prop where
 ty: ∃k e,P.underlying t=some (.map k e)/\CM P k enc/\∃i,P.info? e=some i/\i.zero=some z
theorem oR.of{t:TypeId}{E:α->Value}{z:Value}(k e:TypeId)(a:P.underlying t=some (.map k e))(b:CM P k E)(h:(P.info? e).bind (·.zero)=some z):oR P t E z:=by
 cases H:P.info? e with
 |none=>rw[H]at h;cases h
 |some i=>exact⟨k,e,a,b,i,H,by rw[H]at h;exact h⟩
def sR(l:List (α×Value))(k:α):Option Value:=(l.find? (λe=>decide (e.1=k))).map (·.2)
theorem CO{l:List (α×Value)}{k:α}:sR l k=none↔ ∀e∈l,e.1≠k:=by
 unfold sR;rw[Option.map_eq_none_iff,List.find?_eq_none];simp
theorem CP{l:List (α×Value)}{k:α}{v:Value}(H:(l.map (·.1)).Nodup):sR l k=some v↔(k,v)∈l:=by
 induction l with
 |nil=>simp[sR]
 |cons e l i=>
  rw[cb,fL]at H;unfold sR at i⊢;rw[List.find?_cons];by_cases h:e.1=k
  .rw[av h];simp only[dq,bC,bg];constructor
   .rintro rfl;exact .inl (by rw[<-h])
   .rintro(rfl|hm)
    .rfl
    .exact absurd (bz (f:=(·.1)) hm) (by rw[<-h];exact H.1)
  .rw[aC h];rw[i H.2,bg];constructor
   .exact .inr
   .rintro(rfl|hm)
    .exact absurd rfl h
    .exact hm
theorem jM.find{h:ai}{m:Nat}{E:α->Value}{l:List (α×Value)}(H:jM h m E l){T:List (α×Value×Nat)}(a:(T.map pr).Perm l)(k:α):(nk k T 0).map (·.2)=sR l k:=by
 have c:=H.nodup;cases e:nk k T 0 with
 |none=>
  symm
  rw[gD,CO];intro x f;obtain⟨t,d,rfl⟩:=bt.1 (a.mem_iff.2 f);exact pR e t d
 |some J=>
  obtain⟨j,v⟩:=J;obtain⟨A,B,b,rfl,_⟩:=pS e;symm
  rw[dq,CP c];exact a.mem_iff.1 bU
theorem RJ{t:TypeId}{E:α->Value}{z:Value}(K:oR P t E z){h:ai}{m:Nat}{l:List (α×Value)}(H:jM h m E l)(k:α)(o:Bool):
  rd P (Instr.lookup t (.map (some m)) (E k) o) h=some (if o then .T #[(sR l k).getD z,.B (sR l k).isSome]else(sR l k).getD z):=by
 obtain⟨p,e,g,a,i,d,j⟩:=K.ty;have b:=H;obtain⟨T,c,H,f⟩:=H;rw[<-b.find f k];unfold Instr.lookup;rw[bB _ _ _ _ (bM g)];simp only;rw[bB _ _ _ _ (jF H.di)];simp only;rw[bB _ _ _ _ (jJ _),bB _ _ _ _ (a.TO _ k h),bB _ _ _ _ (DR a k h T)];cases n:nk k T 0 with
 |none=>
  simp only;rw[bB _ _ _ _ (jr d j)];cases o<;>rfl
 |some J=>cases o<;>rfl
theorem Kb{t:TypeId}{e:α->Value}{z:Value}(K:oR P t e z){h:ai}{m:Nat}{l:List (α×Value)}(H:jM h m e l)(k:α):iK P t (.map (some m)) (e k) false h ((sR l k).getD z):=λa b=>by
 have:=RJ K (H.ni (h':=a) b) k false;simpa using this
theorem Lb{t:TypeId}{e:α->Value}{z:Value}(K:oR P t e z){h:ai}{m:Nat}{l:List (α×Value)}(H:jM h m e l)(k:α):iK P t (.map (some m)) (e k) true h (.T #[(sR l k).getD z,.B (sR l k).isSome]):=λa b=>by
 have:=RJ K (H.ni (h':=a) b) k true;simpa using this
theorem NH{t j:TypeId}{E:α->Value}{z:Value}(K:oR P t E z){h:ai}{m:Nat}{l:List (α×Value)}(H:jM h m E l):Se P #[t] j (.map (some m)) h (.I (l.length:Int)):=λa g=>by
 obtain⟨k,e,i,_⟩:=K.ty;obtain⟨T,c,H,f⟩:=H;have b:a[m]? =some (.map (T.map (qi E)).toArray c):=Eq.trans g H.di;have d:T.length=l.length:=by rw[<-f.length_eq,aD]
 unfold Builtin.len_;show rd P (underlying t>>=_) a=_;rw[bB _ _ _ _ (bM i)];show rd P (getObj m>>=_) a=_;rw[bB _ _ _ _ (jF b)];show some (goInt _)=_;simp[d,goInt]
theorem Ii{b:Type}(A B:List b)(t:b)(f:b->b):(A++t::B).modify A.length f=A++f t::B:=by
 induction A with
 |nil=>rfl
 |cons a A i=>simp only[dk,bn,List.modify_succ_cons,i]
theorem Ld{b:Type}(A B:List b)(t:b):(A++t::B).eraseIdx A.length=A++B:=by
 induction A with
 |nil=>rfl
 |cons a A i=>simp only[dk,bn,List.eraseIdx_cons_succ,i]
theorem CQ{l L:List (α×Value)}(p:l.Perm L)(k:α):(wR l k).Perm (wR L k):=p.filter _
theorem FM{A B:List (α×Value×Nat)}{k:α}{v:Value}{b:Nat}(c:((A++(k,v,b)::B).map (·.1)).Nodup):wR ((A++(k,v,b)::B).map pr) k=(A++B).map pr:=by
 rw[ba,cb,fh]at c;obtain⟨_,a,d⟩:=c;rw[fL]at a;unfold wR;rw[ba,cb,gg,cu,ae bU,ba];congr 1
 .rw[cz];intro e h;obtain⟨t,H,rfl⟩:=bt.1 h;have:=d t.1 (bz H) k bU;simp[this]
 .rw[cz];intro e h;obtain⟨t,H,rfl⟩:=bt.1 h;have:t.1≠k:=λe=>a.1 (bt.2 ⟨t,H,e⟩)
  simp[this]
theorem sC{l:List (α×Value)}{k:α}(H: ∀e∈l,e.1≠k):wR l k=l:=by
 unfold wR;rw[cz];intro e h;simp[H e h]
theorem Aa{t:TypeId}{E:α->Value}{z:Value}(K:oR P t E z){h:ai}{m:Nat}{l:List (α×Value)}(H:jM h m E l){k:α}{v:Value}{Q:Unit->ai->Prop}(M: ∀i,jM i m E (FL l k v)->i.size=h.size->(∀c,c≠m->i[c]? =h[c]?)->Q () i):aT P (Instr.mapUpdate t (.map (some m)) (E k) v) h Q:=by
 obtain⟨V,e,ht,q,_⟩:=K.ty;obtain⟨T,c,H,r⟩:=H;have O:=aA H.di;unfold Instr.mapUpdate;refine bY (bM ht) ?_;simp only;refine bY (jF H.di) ?_;simp only;refine bY (q.TO _ k h) ?_;have F: ∀(d:List (α×Value×Nat))(n:Array MapEntry)(C:Nat),n.toList=d.map (qi E)->(d.map (·.1)).Nodup->(∀t∈d,t.2.2<C)->(d.map (·.2.2)).Nodup->(d.map pr).Perm (FL l k v)->aT P (setObj m (.map n C)) h Q:=λd n C D G I J L=>by
  refine⟨⟨_,H.di,λc e f p=>by cases p⟩,?_⟩;refine M _ ⟨d,C,⟨?_,G,I,J⟩,L⟩ bU (λx S=> ?_)
  .rw[<-D];simp[O]
  .rw[cJ,ae (fW S)]
 refine bY (DR q k h T) ?_;cases s:nk k T 0 with
 |none=>
  simp only;have y:=pR s;refine F (T++ [(k,v,c)]) _ _ bU ?_ ?_ ?_ ?_
  .rw[ba,fh];refine⟨H.keys,bU,λa o b g=> ?_⟩;obtain⟨t,ht,rfl⟩:=bt.1 o;simp at g;subst g;exact y t ht
  .intro t ht;rcases bH.1 ht with ht|ht
   .exact Nat.lt_succ_of_lt (H.La t ht)
   .obtain rfl:=bP.1 ht;exact Nat.lt_succ_self _
  .rw[ba,fh];refine⟨H.born,bU,λa o b g=> ?_⟩;obtain⟨t,ht,rfl⟩:=bt.1 o;simp at g;subst g;exact Nat.ne_of_lt (H.La t ht)
  .unfold FL;rw[sC (λe p=>by obtain⟨t,ht,rfl⟩:=bt.1 (r.mem_iff.2 p);exact y t ht),ba];exact(List.perm_append_comm.trans (.refl _)).trans (List.Perm.cons _ r)
 |some U=>
  obtain⟨j,u⟩:=U;obtain⟨A,B,b,rfl,w⟩:=pS s;rw[bK]at w;subst w;simp only;have R:rd P (Instr.keyThatStays (((((A++(k,u,b)::B).map (qi E)).toArray[A.length]?).map (·.key)).getD (E k)) (E k)) h=some (E k):=by
   have:((A++(k,u,b)::B).map (qi E)).toArray[A.length]? =some (qi E (k,u,b)):=bU
   rw[this];simp only[dq,Option.getD_some];unfold Instr.keyThatStays;rw[af (q.bits k)];rfl
  refine bY R ?_;refine F (A++(k,v,b)::B) _ _ ?_ ?_ ?_ ?_ ?_
  .rw[Array.toList_modify,ba,cb];have:=Ii (A.map (qi E)) (B.map (qi E)) (qi E (k,u,b)) (λe=> { e with key:=E k,val:=v });rw[aD]at this;rw[this,ba,cb]
  .have:=H.keys;simpa using this
  .intro t ht;rcases bH.1 ht with ht|ht
   .exact H.La t (dG _ ht)
   .rcases bg.1 ht with rfl|ht
    .exact H.La (k,u,b) bU
    .exact H.La t (by simp[ht])
  .have:=H.born;simpa using this
  .unfold FL;refine List.Perm.trans ?_ (List.Perm.cons _ ((FM H.keys▸CQ r k)));rw[ba,cb,ba];exact List.perm_middle
theorem FN{t V X:TypeId}{E:α->Value}{z:Value}(K:oR P t E z){h:ai}{m:Nat}{l:List (α×Value)}(H:jM h m E l){k:α}{Q:fO}(M: ∀n,jM n m E (wR l k)->n.size=h.size->(∀c,c≠m->n[c]? =h[c]?)->Q (.T #[]) n):aT P (Builtin.delete_ #[t,V] X #[.map (some m),E k]) h Q:=by
 obtain⟨y,e,d,w,_⟩:=K.ty;obtain⟨T,c,H,q⟩:=H;have O:=aA H.di;unfold Builtin.delete_;refine bY (bM d) ?_;show aT P (do
   let __x<-getObj m
   match __x with
    |Obj.map g C=>do
     Instr.checkKey g.isEmpty 10000 y (E k)
     let __do_lift<-Instr.findKey y (E k) g.toList
     match __do_lift with
      |some (i,_)=>do
       setObj m (Obj.map (g.eraseIdxIfInBounds i) C)
       pure (Value.tuple #[])
      |none=>do
       setObj m (Obj.map g C)
       pure (Value.tuple #[])
    |_=>do
     stuck "delete: map expected"
     pure (Value.tuple #[])) h Q
 refine bY (jF H.di) ?_;simp only;refine bY (w.TO _ k h) ?_;have F: ∀(a:List (α×Value×Nat))(o:Array MapEntry),o.toList=a.map (qi E)->(a.map (·.1)).Nodup->(∀t∈a,t.2.2<c)->(a.map (·.2.2)).Nodup->(a.map pr).Perm (wR l k)->aT P (do setObj m (.map o c);pure (Value.tuple #[])) h Q:=λa o D G I J L=>by
  rw[dW];refine⟨⟨_,H.di,λc e f p=>by cases p⟩,?_⟩;refine M _ ⟨a,c,⟨?_,G,I,J⟩,L⟩ bU (λx S=> ?_)
  .rw[<-D];simp[O]
  .rw[cJ,ae (fW S)]
 refine bY (DR w k h T) ?_;cases s:nk k T 0 with
 |none=>
  have R:=pR s;refine F T _ rfl H.keys H.La H.born ?_;rw[sC (λe p=>by obtain⟨t,d,rfl⟩:=bt.1 (q.mem_iff.2 p);exact R t d)];exact q
 |some U=>
  obtain⟨j,u⟩:=U;obtain⟨A,B,b,rfl,v⟩:=pS s;rw[bK]at v;subst v;have r:List.Sublist (A++B) (A++(k,u,b)::B):=List.Sublist.append (List.Sublist.refl _) (List.sublist_cons_self _ _);refine F (A++B) _ ?_ ((r.map _).nodup H.keys) (λt d=>H.La t (r.subset d)) ((r.map _).nodup H.born) (FM H.keys▸CQ q k);rw[Array.toList_eraseIdxIfInBounds,ba,cb];have:=Ld (A.map (qi E)) (B.map (qi E)) (qi E (k,u,b));rw[aD]at this;rw[this,ba]
def Iter(h:ai)(r m:Nat)(e:α->Value)(l done:List (α×Value)):Prop:=
 ∃T c D L,TP h m e T c/\(T.map pr).Perm l/\h[r]? =some (.mapIter (some m) c (D.map (·.2.2)).toArray L)/\(D≠ []->L=c)/\D.Nodup/\(∀t∈D,t∈T)/\D.map pr=done/\r≠m
theorem Iter.frame{S:Nat->Prop}{h a:ai}{r m:Nat}{e:α->Value}{l done:List (α×Value)}(H:Iter h r m e l done)(f:Fr S h a)(b: ¬S r)(d: ¬S m):Iter a r m e l done:=by
 obtain⟨T,c,D,L,A,B,C,E⟩:=H;exact⟨T,c,D,L,⟨f.get A.di d,A.keys,A.La,A.born⟩,B,f.get C b,E⟩
theorem Iter.le{h:ai}{r m:Nat}{e:α->Value}{l done:List (α×Value)}(H:Iter h r m e l done):done.length<=l.length:=by
 obtain⟨T,c,D,L,A,B,_,_,a,b,rfl,_⟩:=H;rw[aD,<-B.length_eq,aD];exact a.length_le_of_subset (λt d=>b t d)
theorem Ij{t:TypeId}{E:α->Value}{z:Value}(K:oR P t E z){h:ai}{m:Nat}{l:List (α×Value)}(H:jM h m E l){Q:fO}(d: ∀r a,r=h.size->Iter a r m E l []->Fr (λ_=>False) h a->Q (.P r 0) a):aT P (Instr.range t (.map (some m))) h Q:=by
 obtain⟨k,e,b,i,_⟩:=K.ty;obtain⟨T,c,H,g⟩:=H;unfold Instr.range;refine bY (bM b) ?_;simp only;show aT P (getObj m>>=_) h Q;refine bY (jF H.di) ?_
 .have f:Fr (λ_=>False) h (h.push (.mapIter (some m) c #[] c)):=Fr.push _ _;exact d h.size _ rfl ⟨T,c, [],c,⟨f.get H.di id,H.keys,H.La,H.born⟩,g,bZ,(λe=>absurd rfl e),.nil,(λt b=>by cases b),rfl,λe=>bW (aA H.di)⟩ f
theorem Ab{b:Type}{n:Nat}{g:Nat->Sem b}{h:ai}{Q:b->ai->Prop}(a:0<n)(H: ∀i,i<n->aT P (g i) h Q):aT P (choose (.mapNext n)>>=g) h Q:=by
 show(if(Question.mapNext n).forced=true then aT P (g 0) h Q else∀t,aT P (g ((Question.mapNext n).cut t)) h Q);split
 .exact H 0 a
 .intro t;exact H _ (Nat.mod_lt _ a)
theorem Le{ty:TypeId}{E:α->Value}{h:ai}{r m:Nat}{l done:List (α×Value)}(I:Iter h r m E l done){Q:fO}(k1:done.Perm l->Q (.T #[.B false]) h)(k2: ∀a v n,(a,v)∈l->(a,v)∉done->Iter n r m E l (done++ [(a,v)])->n.size=h.size->(∀c,c≠r->n[c]? =h[c]?)->Q (.T #[.B true,E a,v]) n):
  aT P (Instr.next (.P r 0) false ty) h Q:=by
 classical
 obtain⟨T,c,D,L,M,z,A,a',F,k,rfl,G⟩:=I;have c':=aA A;have R:T.Nodup:=by
  have:=M.keys;exact List.Pairwise.of_map (S:=(· ≠ ·)) (·.1) (λa b U e=>U (by rw[e])) this
 unfold Instr.next;simp only;have h':rd P (getObj r) h=some (.mapIter (some m) c (D.map (·.2.2)).toArray L):=by unfold getObj;simp only[rd,A]
 refine bY h' ?_;simp only;refine bY (jF M.di) ?_;simp only;have hq:(!(D.map (·.2.2)).toArray.isEmpty && !(T.map (qi E)).toArray.isEmpty && (T.map (qi E)).toArray.all (λe=>decide (e.born≥L)))=false:=by
  cases B:D with
  |nil=>rfl
  |cons d D'=>
   have hl:=a' (by rw[B];simp);have C:d∈T:=k d (by rw[B];simp);have:(T.map (qi E)).toArray.all (λe=>decide (e.born≥L))=false:=by
    rw[List.all_toArray,List.all_eq_false];exact⟨qi E d,bz C,by simp;have:=M.La d C;omega⟩
   rw[this];simp
 rw[ae (by rw[hq];simp)];have b':(T.map (qi E)).toArray.filter (λe=> !(D.map (·.2.2)).toArray.contains e.born)=((T.filter (λt=> !decide (t∈D))).map (qi E)).toArray:=by
  apply Array.ext'
  rw[Array.toList_filter];simp only[];rw[dO];congr 1
  apply eK
  intro t f;have:(D.map (·.2.2)).toArray.contains (qi E t).born=decide (t∈D):=by
   by_cases p:t∈D
   .rw[av p];simp;exact⟨t.1,t.2.1,p⟩
   .rw[aC p];simp only[List.contains_toArray,List.contains_eq_mem,fk,bt,not_exists,not_and];intro u hu e;have Z:u=t:=by
     have o:=M.born;have i':=k u hu;obtain⟨i,H⟩:=bL i';obtain⟨j,g⟩:=bL f;have y:=(az.1 H).1;have:=(fa (l:=T.map (·.2.2)) (i:=i) (j:=j) (cR y) o).1 (by rw[aL,aL,H,g];simp[e]);subst this;rw[H]at g;exact aX g
    exact p (Z▸hu)
  simp only[Function.comp,this]
 have g':(((T.filter (λt=> !decide (t∈D))).map (qi E)).toArray.filter (λe=>decide (e.born<c)))=((T.filter (λt=> !decide (t∈D))).map (qi E)).toArray:=by
  rw[Array.filter_eq_self];intro e w;obtain⟨t,f,rfl⟩:=bt.1 (List.mem_toArray.1 w);exact av (M.La t (bj.1 f).1)
 have f':(((T.filter (λt=> !decide (t∈D))).map (qi E)).toArray.filter (λe=>decide (e.born≥c)))= #[]:=by
  rw[Array.filter_eq_empty_iff];intro e w;obtain⟨t,f,rfl⟩:=bt.1 (List.mem_toArray.1 w);have:=M.La t (bj.1 f).1;simp;omega
 rw[b',g',f'];simp only[Array.append_empty];cases s:T.filter (λt=> !decide (t∈D))with
 |nil=>
  refine Ab bU λi H=> ?_
  have:i=0:=by simpa using H
  subst this;have K:((if((([]:List (α×Value×Nat)).map (qi E)).toArray.isEmpty=true)then #[none]else #[])++Array.map some (([]:List (α×Value×Nat)).map (qi E)).toArray)[0]? =some none:=bU
  rw[K];show aT P (pure (.T #[.B false])) h Q;refine k1 ?_;refine List.Perm.trans (List.Perm.map _ ?_) z;rw[List.perm_ext_iff_of_nodup F R];intro t;refine⟨k t,λf=> ?_⟩;have:=List.filter_eq_nil_iff.1 s t f;simpa using this
 |cons k' j'=>
  refine Ab bU λi H=> ?_
  rw[<-s]at H⊢;have e':(((T.filter (λt=> !decide (t∈D))).map (qi E)).toArray.isEmpty)=false:=by rw[s];rfl
  rw[e']at H⊢;simp only[ar,aQ,Array.empty_append]at H⊢;have X:i<(T.filter (λt=> !decide (t∈D))).length:=by simpa using H
  obtain⟨t,f⟩: ∃t,(T.filter (λt=> !decide (t∈D)))[i]? =some t:=⟨_,aj X⟩;have V:(Array.map some ((T.filter (λt=> !decide (t∈D))).map (qi E)).toArray)[i]? =some (some (qi E t)):=by simp[f]
  rw[V];have q:=bj.1 (aZ f);have J:t∉D:=by simpa using q.2
  refine⟨⟨_,A,λ_ _ _ e=>by cases e⟩,?_⟩;refine k2 t.1 t.2.1 _ (z.mem_iff.1 (bz (f:=pr) q.1)) ?_ ⟨T,c,D++ [t],c,⟨?_,M.keys,M.La,M.born⟩,z,?_,(λ_=>rfl),?_,?_,?_,G⟩ bU (λx hx=> ?_)
  .intro d';obtain⟨u,hu,e⟩:=bt.1 d';have O:u.1=t.1:=cf (λx:α×Value=>x.1) e;have:u=t:=by
    obtain⟨i,H⟩:=bL (k u hu);obtain⟨j,g⟩:=bL q.1;have y:=(az.1 H).1;have:=(fa (l:=T.map (·.1)) (i:=i) (j:=j) (cR y) M.keys).1 (by rw[aL,aL,H,g];simp[O]);subst this;rw[H]at g;exact aX g
   exact J (this▸hu)
  .rw[cJ,ae G];exact M.di
  .simp[c']
  .rw[fh];exact⟨F,bU,λa S b o=>by simp at o;subst o;exact λe=>J (e▸S)⟩
  .intro u hu;rcases bH.1 hu with hu|hu
   .exact k u hu
   .obtain rfl:=bP.1 hu;exact q.1
  .rw[ba];rfl
  .rw[cJ,ae (fW hx)]
end
end Go.Den
namespace Go.Den
section
variable {P : Program} {a : Type}
theorem find_born(E:a->Value){t:a×Value×Nat}: ∀{T:List (a×Value×Nat)},(T.map (·.2.2)).Nodup->t∈T->T.find? ((λe:MapEntry=>e.born==t.2.2) ∘ qi E)=some t
 | [],_,h=>by cases h
 |u::T,b,h=>by
  rw[cb,fL]at b;rw[List.find?_cons];by_cases H:u.2.2=t.2.2
  .have:((λe:MapEntry=>e.born==t.2.2) ∘ qi E) u=true:=by simp[H]
   rw[this];rcases bg.1 h with e|e
   .rw[e]
   .exact absurd (bt.2 ⟨t,e,H.symm⟩) b.1
  .have:((λe:MapEntry=>e.born==t.2.2) ∘ qi E) u=false:=by simp[H]
   rw[this];rcases bg.1 h with e|e
   .exact absurd (by rw[e]) H
   .exact find_born E b.2 e
theorem Ac{t:TypeId}{s:ByteArray}{h:ai}{Q:fO}(c:P.underlying t=some .string)(b: ∀r H,r=h.size->H[r]? =some (.stringIter s 0)->Fr (λ_=>False) h H->Q (.P r 0) H):
  aT P (Instr.range t (.S s)) h Q:=by
 unfold Instr.range;refine bY (bM c) ?_;exact b h.size _ rfl bZ (Fr.push _ _)
theorem Lf{t:TypeId}{s:ByteArray}{h:ai}{r pos:Nat}{Q:fO}(d:h[r]? =some (.stringIter s pos))(k:s.size<=pos->Q (.T #[.B false]) h)(K:pos<s.size->∀H,H[r]? =some (.stringIter s (pos+(Utf8.decode s pos).2))->H.size=h.size->(∀c,c≠r->H[c]? =h[c]?)->Q (.T #[.B true,.I (pos:Int),.int .i32 ((Utf8.decode s pos).1:Int)]) H):
  aT P (Instr.next (.P r 0) true t) h Q:=by
 have g:=aA d;unfold Instr.next;simp only;have i:rd P (getObj r) h=some (.stringIter s pos):=by unfold getObj;simp only[rd,d]
 refine bY i ?_;simp only;by_cases b:pos<s.size
 .rw[af b];refine⟨⟨_,d,λ_ _ _ e=>by cases e⟩,?_⟩;exact K b _ (by simp[g]) bU (λc f=>by rw[cJ,ae (fW f)])
 .rw[ae b];exact k ag
theorem Ik{E:a->Value}{h:ai}{r m:Nat}{l done:List (a×Value)}{A:a}{v:Value}(I:Iter h r m E l (done++ [(A,v)])){Q:fO}(k:Q (.T #[E A,v]) h):
  aT P (Instr.entry (.P r 0)) h Q:=by
 obtain⟨T,c,D,L,M,z,p,o,w,s,H,y⟩:=I;rcases List.eq_nil_or_concat D with rfl|⟨d,t,rfl⟩
 .simp at H
 rw[List.concat_eq_append]at*;rw[ba]at H;obtain⟨_,b⟩:=List.append_inj' H rfl;have b:pr t=(A,v):=by simpa using b
 have f:t.1=A:=cf (λx:a×Value=>x.1) b;have g:t.2.1=v:=cf (λx:a×Value=>x.2) b;have u:t∈T:=s t bU;have n:=o bU;unfold Instr.entry;simp only;have q:rd P (getObj r) h=some (.mapIter (some m) c ((d++ [t]).map (·.2.2)).toArray L):=by unfold getObj;simp only[rd,p]
 refine bY q ?_;simp only;have i:((d++ [t]).map (·.2.2)).toArray.back? =some t.2.2:=bU
 rw[i];simp only;refine bY (jF M.di) ?_;simp only;rw[n,ae bU];have j:(T.map (qi E)).toArray.find? (λe=>e.born==t.2.2)=some (qi E t):=by
  rw[List.find?_toArray,List.find?_map];have:T.find? ((λe:MapEntry=>e.born==t.2.2) ∘ qi E)=some t:=find_born E M.born u;rw[this];rfl
 rw[j];show Q (.T #[E t.1,t.2.1]) h;rw[f,g];exact k
end
end Go.Den
namespace Go.Den
section
variable {P : Program}
def DS(P:Program)(e:TypeId->Value->Value->Option Bool)(x y:Array Value)(t:TypeId)(o:Nat)(a:Option Bool):Option Bool:=
 match kM P (part t x o),kM P (part t y o)with
 |some u,some v=>(match e t u v,a with|some b,some c=>some (b && c)|_,_=>none)
 |_,_=>none
def TQ(P:Program):Nat->TypeId->Value->Value->Option Bool
 |0,_,_,_=>none
 |n+1,t,x,y=>
  match P.underlying t with
  |some .bool=>(match x,y with| .bool a,.bool b=>some (a==b)|_,_=>none)
  |some (.int _)=>(match x,y with| .int k a,.int K b=>(match decide (k=K)with|true=>some (a==b)|false=>none)|_,_=>none)
  |some .string=>(match x,y with| .string a,.string b=>some (a==b)|_,_=>none)
  |some (.struct fs)=>(match x,y with
   | .agg X,.agg c=>(match P.stoodInHeld t with
    |true=>none
    |false=>fs.toList.foldr (λf A=>match decide (f.name= "_")with|true=>A|false=>DS P (TQ P n) X c f.type f.offset A) (some true))
   |_,_=>none)
  |some (.array len e)=>(match x,y,P.info? e with
   | .agg X,.agg c,some i=>(List.range len).foldr (λk A=>DS P (TQ P n) X c e (k*i.size) A) (some true)
   |_,_,_=>none)
  |_=>none
theorem sD{i:Type}{h:ai}{step:i->Option Bool->Option Bool}{B:i->Option Bool×Unit->Sem (ForInStep (Option Bool×Unit))}: ∀(l:List i)(b:Bool),l.foldr step (some true)=some b->
  (∀f a b,step f a=some b->(a=some b/\rd P (B f (none,())) h=some (.yield (none,())))\/∃q c,a=some c/\b=(q && c)/\rd P (B f (none,())) h=some (if q=true then .yield (none,())else .done (some false,())))->
  rd P (forIn l (none,()) B) h=some (if b=true then(none,())else(some false,()))
 | [],b,H,_=>by
  cases aX H;rfl
 |f::l,b,H,g=>by
  rw[List.foldr_cons]at H;rw[List.forIn_cons];rcases g f _ b H with⟨d,e⟩|⟨q,c,d,rfl,e⟩
  .rw[bB _ _ _ _ e];exact sD l b d g
  .rw[bB _ _ _ _ e];cases q with
   |true=>rw[eu];exact sD l c d g
   |false=>rfl
theorem CR{e:TypeId->Value->Value->Option Bool}{n:Nat}(f: ∀t x y b,e t x y=some b->∀h,rd P (Op.equalIn n t x y) h=some b){X d:Array Value}{t:TypeId}{o:Nat}{a:Option Bool}{b:Bool}{h:ai}(H:DS P e X d t o a=some b):
  ∃q c u v,a=some c/\b=(q && c)/\rd P (part t X o) h=some u/\rd P (part t d o) h=some v/\rd P (Op.equalIn n t u v) h=some q:=by
 unfold DS at H;split at H
 .rename_i u v i j;split at H
  .rename_i q c g;exact⟨q,c,u,v,rfl,(aX H).symm,ud _ _ i h,ud _ _ j h,f _ _ _ _ g h⟩
  .cases H
 .cases H
theorem Il : ∀(n : Nat)(t : TypeId)(x y : Value)(b : Bool), TQ P n t x y = some b -> ∀ h, rd P (Op.equalIn n t x y) h = some b
  | 0, _, _, _, _, H => by cases H
  | n + 1, t, x, y, b, H => by
    intro h
    unfold TQ at H
    unfold Op.equalIn
    split at H
    · rename_i g
      rw [bB _ _ _ _ (bM g)]
      split at H
      · rw [<- H]; rfl
      · cases H
    · rename_i d g
      rw [bB _ _ _ _ (bM g)]
      split at H
      · rename_i k a K c
        split at H
        · rename_i B
          simp only [aV B, bm]
          rw [<- H]; rfl
        · cases H
      · cases H
    · rename_i g
      rw [bB _ _ _ _ (bM g)]
      split at H
      · rw [<- H]; rfl
      · cases H
    · rename_i fs g
      rw [bB _ _ _ _ (bM g)]
      split at H
      · rename_i X E
        split at H
        · cases H
        · rename_i D
          dsimp only
          rw [bB _ _ _ _ (show rd P program h = some P from rfl), D]
          simp only [ar, aQ]
          rw [<- Array.forIn_toList, bB _ _ _ _ (sD (h := h) fs.toList b H ?_)]
          · cases b <;> rfl
          · intro f A b j
            split at j
            · rename_i w
              refine .inl ⟨j, ?_⟩
              rw [ae (cR w)]
              rfl
            · rename_i w
              obtain ⟨q, c, u, v, l, m, o, p, r⟩ := CR (h := h) (λt x y b s h => Il n t x y b s h) j
              refine .inr ⟨q, c, l, m, ?_⟩
              rw [af (cR w), bB _ _ _ _ o, bB _ _ _ _ p, bB _ _ _ _ r]
              cases q <;> rfl
      · cases H
    · rename_i len e g
      rw [bB _ _ _ _ (bM g)]
      split at H
      · rename_i X E i z
        dsimp only
        rw [bB _ _ _ _ (iw z), Std.Legacy.Range.forIn_eq_forIn_range']
        have C : List.range' ([:len] : Std.Legacy.Range).start ([:len] : Std.Legacy.Range).size ([:len] : Std.Legacy.Range).step = List.range len := by
          simp [Std.Legacy.Range.size, gm]
        rw [C, bB _ _ _ _ (sD (h := h) (List.range len) b H ?_)]
        · cases b <;> rfl
        · intro k A b j
          obtain ⟨q, c, u, v, l, m, o, p, r⟩ := CR (h := h) (λt x y b s h => Il n t x y b s h) j
          refine .inr ⟨q, c, l, m, ?_⟩
          rw [bB _ _ _ _ o, bB _ _ _ _ p, bB _ _ _ _ r]
          cases q <;> rfl
      · cases H
    · cases H
theorem BP.of{t:TypeId}{x y:Value}{b:Bool}(H:TQ P 10000 t x y=some b):BP P t x y b:=λh=>Il 10000 t x y b H h
end
section
variable {b off:Nat}
theorem vr : ∀(V:List Value)(i:Nat)(h:ai)(K:ai->Prop),dV (AA b 0) V (off+i) h K->dV (AA b off) V i h K
 | [],_,_,_,H=>H
 |v::V,i,h,K,H=>by
  unfold dV at H⊢;cases c:fZ v with
  |false=>rw[c]at H;exact H
  |true=>
   rw[c]at H;dsimp only at H⊢;rw[gZ,bK]at H;rw[gZ];obtain⟨d,f,g⟩:=H;exact⟨d,f,λa e=>vr V (i+1) a K (g a e)⟩
theorem lP{h:ai}{c:Array Value}{t:TypeId}{v ws:List Value}{K:ai->Prop}(e:h[b]? =some (.C c t (0,0)))(m:off+v.length<=c.size)(i:v.all fZ=true)(f:c.toList.take off++v++c.toList.drop (off+v.length)=ws)(g: ∀H,H[b]? =some (.C ws.toArray t (0,0))->H.size=h.size->(∀x,x≠b->H[x]? =h[x]?)->K H):dV (AA b off) v 0 h K:=by
 refine vr v 0 h K (rC v (off+0) h c K e ag i λH C B z q r s o=>g H ?_ s o);have:C=ws.toArray:=by
  subst f;apply Array.ext'
  apply fE
  intro j;have n:c.toList.length=c.size:=eZ;rw[dv];show C[j]? =(c.toList.take off++v++c.toList.drop (off+v.length))[j]?;by_cases d:j<off
  .rw[eJ,cO (by rw[bA];omega),cZ,af d,dv];exact q j ag
  .by_cases k:j<off+v.length
   .have l:(c.toList.take off).length=off:=by rw[bA];omega
    rw[eJ,cH ag,l,cO ag];have a:j - off<v.length:=ag
    have:=r (j - off) v[j - off] (aj a);rw[show off+0+(j - off)=j by omega]at this;rw[this,aj a]
   .have l:(c.toList.take off++v).length=off+v.length:=by rw[aB,bA];omega
    rw[cH ag,l,fp,dv,show off+v.length+(j - (off+v.length))=j by omega];exact q j ag
 rw[<-this];exact B

end
section
variable {P : Program}
theorem NI{t elem:TypeId}{bytes:Nat}{z b:Value}{h:ai}{K:fO}(T:oC P t elem 1 bytes z)(D:z.cells= #[b])(n:Nat)(G:n*bytes<=70368744177664)(I:n<=9223372036854775807)(w: ∀H p,Own H p n n 1 (List.replicate n b)->Fr (λ_=>False) h H->(∀c,aP p c->h.size<=c)->K (.L p n n) H):
  aT P (Instr.makeSlice t (.I (n:Int)) (.I (n:Int))) h K:=by
 obtain⟨i,f,B,rfl,q⟩:=T.i;unfold Instr.makeSlice;refine bY (s:=underlying t) (bM T.u) ?_;refine bY (s:=asInt (.I (n:Int))) (a:=(n:Int)) rfl ?_;refine bY (s:=asInt (.I (n:Int))) (a:=(n:Int)) rfl ?_;refine bY (s:=typeInfo elem) (iu f) ?_;simp only[];rw[bJ (n:=(n:Int)) ag ag];have y:(i.bytes:Int)*(n:Int)=((n*i.bytes:Nat):Int):=by rw[Nat.mul_comm];simp
 have x:(decide ((n:Int)<0)||decide ((i.bytes:Int)*(n:Int)>2 ^ 48))=false:=by
  rw[y];have r: ¬(n:Int)<0:=ag
  have s: ¬((n*i.bytes:Nat):Int)>2 ^ 48:=ag
  rw[aC r,aC s];rfl
 have u:(((decide ((n:Int)<0)||decide ((i.bytes:Int)*(n:Int)>2 ^ 48))||decide ((n:Int)<0))||decide ((n:Int)>(n:Int)))=false:=by
  rw[x];simp
 rw[ae (by rw[u];simp)];have A: ∀(m:Nat)(k:Unit->ai->Prop),k () h->aT P (askRoom m) h k:=λm k o=>by
  unfold askRoom;split
  .exact o
  .exact o
 rw[dW];refine A _ _ ?_;refine bY (s:=sizeOf elem) (iw f) ?_;rw[aH,B,cE];have F: ∀Z:Array Value,(n=0\/Z= #[b])->aT P (newRow elem ((Array.range n).map (Z[· %Z.size]!))>>=λa=>pure (.L (some a) n n)) h K:=by
  intro Z E;show K (.L (Sa h.size 0) n n) (h.push (.C ((Array.range n).map (Z[· %Z.size]!)) elem));refine w _ _ (.row h.size 0 _ elem rfl bZ (bp _) bU bU ?_) (Fr.push _ _) ?_
  .intro j v g;have l:j<n:=by have:=(az.1 g).1;simpa using this
   have C:v=b:=by
    rw[List.getElem?_replicate,af l]at g;exact(aX g).symm
   subst C;rcases E with q|rfl
   .omega
   .rw[bK];simp[l,Nat.mod_one]
  .rintro c ⟨a,e,rfl⟩;cases e;exact bp _
 by_cases d:n=0
 .rw[af d];exact F #[] (.inl d)
 .rw[ae d];refine bY (s:=zeroValue elem) (jr f q) ?_;refine bY (s:=(pure z.cells:Sem (Array Value))) (a:=z.cells) rfl ?_;rw[D];exact F #[b] (.inr rfl)
end
end Go.Den
namespace Go.fV
def vt:Nat->Nat->cG
 |0,n=> [UInt8.ofNat n]
 |f+1,n=>if n>127 then UInt8.ofNat (n%128+128)::vt f (n/128)else [UInt8.ofNat n]
def iV(n:Nat):cG:=vt 9 n
theorem CS: ∀(f n:Nat),n<128 ^ (f+1)->vt (f+1) n=vt f n
 |0,n,h=>by
  unfold vt;rw[dy]
 |f+1,n,h=>by
  rw[show vt (f+1+1) n=if n>127 then UInt8.ofNat (n%128+128)::vt (f+1) (n/128)else [UInt8.ofNat n]from rfl,
   show vt (f+1) n=if n>127 then UInt8.ofNat (n%128+128)::vt f (n/128)else [UInt8.ofNat n]from rfl]
  split
  .rw[CS f (n/128) (by rw[Nat.pow_succ]at h;omega)]
  .rfl
theorem x6{n:Nat}(h:n<18446744073709551616):iV n=if n>127 then UInt8.ofNat (n%128+128)::iV (n/128)else [UInt8.ofNat n]:=by
 unfold iV;rw[vt];split
 .rw[<-CS 8 (n/128) ag]
 .rfl
theorem FO: ∀(f n:Nat),1<=(vt f n).length/\(vt f n).length<=f+1
 |0,n=>by simp[vt]
 |f+1,n=>by
  have:=FO f (n/128);rw[vt];split
  .simp only[bn];omega
  .simp
theorem gW(n:Nat):1<=(iV n).length/\(iV n).length<=10:=FO 9 n
def x7:Nat->Nat->Nat
 |0,_=>1
 |f+1,n=>if n>127 then x7 f (n/128)+1 else 1
def Nc:Nat->Nat->cG->Nat×Int×cG
 |_,_, []=>(0,8, [])
 |i,n,c::b=>
  if i=10\/(i=9/\c.toNat>1)\/(c.toNat=0/\i>0)then(0,3,b)
  else if c.toNat<128 then(n+c.toNat%128*2 ^ (7*i),0,b)
  else Nc (i+1) (n+c.toNat%128*2 ^ (7*i)) b
def fG(e:Int)(b:cG):Nat×Int×cG:=if e=0 then Nc 0 0 b else(0,e,b)
theorem NJ: ∀(b:cG)(i n:Nat),i<=10->n<2 ^ (7*i)->n<18446744073709551616->(Nc i n b).1<18446744073709551616
 | [],_,_,_,_,_=>by simp[Nc]
 |c::b,i,n,e,f,g=>by
  rw[Nc];split
  .simp
  .rename_i j;have d:c.toNat%128<128:=Nat.mod_lt _ ag;have h:n+c.toNat%128*2 ^ (7*i)<18446744073709551616/\n+c.toNat%128*2 ^ (7*i)<2 ^ (7*(i+1)):=by
    have k:(2:Nat) ^ (7*(i+1))=128*2 ^ (7*i):=by rw[Nat.mul_add,Nat.pow_add,Nat.mul_comm]
    have H:(c.toNat%128+1)*2 ^ (7*i)<=128*2 ^ (7*i):=dc _ ag;rw[fi]at H;refine⟨?_,ag⟩;by_cases a:i=9
    .subst a;have:c.toNat<=1:=ag
     have:c.toNat%128<=1:=ag
     omega
    .have:(2:Nat) ^ (7*(i+1))<=2 ^ 63:=gn ag ag;omega
   split
   .exact h.1
   .exact NJ b (i+1) _ ag h.2 h.1
theorem Im(e:Int)(b:cG):(fG e b).1<18446744073709551616:=by
 unfold fG;split
 .exact NJ b 0 0 ag bU ag
 .simp
theorem DT: ∀(b:cG)(i n:Nat),(Nc i n b).2.2.length<=b.length
 | [],_,_=>by simp[Nc]
 |c::b,i,n=>by
  rw[Nc];split
  .simp
  .split
   .simp
   .have:=DT b (i+1) (n+c.toNat%128*2 ^ (7*i));simp only[bn];omega
def mf(n:Int):Nat:=n.toNat
def vu(t:cG):cG:=iV t.length++t
def NK(e E:Int):Int:=if e=0 then E else e
def jP(t:Nat)(e:Int)(b:cG):Nat×Int×cG:=
 if(fG e b).1>t then(0,NK (fG e b).2.1 3,(fG e b).2.2)else fG e b
theorem FP(t:Nat)(e:Int)(b:cG):(jP t e b).1<=t:=by
 unfold jP;split
 .exact bQ _
 .rename_i h;exact Nat.le_of_not_lt h
def lU(e:Int)(b:cG):Nat×Int×cG:=jP 1099511627776 e b
def mg(e:Int)(b:cG):cG×Int×cG:=
 if(fG e b).2.1=0 then
  (if(fG e b).1>(fG e b).2.2.length then([],8,(fG e b).2.2)
  else((fG e b).2.2.take (fG e b).1,0,(fG e b).2.2.drop (fG e b).1))
 else([],(fG e b).2.1,(fG e b).2.2)
def zp(e:Int)(b:cG):Int:=if e=0 then(if b= []then 0 else 2)else e
theorem rD(e:Int)(b:cG):(fG e b).2.2.length<=b.length:=by
 unfold fG;split
 .exact DT b 0 0
 .exact bp _
theorem pT(t:Nat)(e:Int)(b:cG):(jP t e b).2.2.length<=b.length:=by
 unfold jP;split<;>exact rD e b

end Go.fV
namespace Go.kU
section
variable {n i j:Nat} {g:Int->Option Value} {k:Int}
abbrev E:=Int×Int
variable {x y z:E} {f:Nat->E} {es l L:List E}
def lt(x y:E):Prop:=x.2<y.2\/(x.2=y.2/\x.1<y.1)
def le(x y:E):Prop:= ¬lt y x
theorem lt_irrefl(x:E): ¬lt x x:=by unfold lt;omega
theorem lt_trans(h:lt x y)(H:lt y z):lt x z:=by unfold lt at*;omega
theorem le_refl(x:E):le x x:=lt_irrefl x
theorem le_trans(h:le x y)(H:le y z):le x z:=by unfold le lt at*;omega
theorem le_of_lt(h:lt x y):le x y:=by unfold le lt at*;omega
theorem lt_of_le_ne(h:le x y)(H:x.1≠y.1):lt x y:=by unfold le lt at*;omega
instance (x y : E) : Decidable (lt x y) := inferInstanceAs (Decidable (_ ∨ _))
def rE(f:Nat->E)(n:Nat):Prop:= ∀j,0<j->j<n->le (f ((j - 1)/2)) (f j)
def uo(f:Nat->E)(n i:Nat):Prop:=
 (∀j,0<j->j<n->j≠i->(j - 1)/2≠i->le (f ((j - 1)/2)) (f j))/\(0<i->∀j,0<j->j<n->(j - 1)/2=i->le (f ((i - 1)/2)) (f j))
def uq(f:Nat->E)(n i:Nat):Prop:=
 (∀j,0<j->j<n->(j - 1)/2≠i->le (f ((j - 1)/2)) (f j))/\(0<i->∀j,0<j->j<n->(j - 1)/2=i->le (f ((i - 1)/2)) (f j))
def Ad(f:Nat->E)(n i:Nat):Prop:= ∀j,0<j->j<n->(j - 1)/2=i->le (f i) (f j)
def oS(f:Nat->E)(i j:Nat):Nat->E:=λk=>if k=i then f j else if k=j then f i else f k
theorem Qo(h:uo f n i)(d:i=0\/le (f ((i - 1)/2)) (f i)):uq f n i:=by
 refine⟨λj a b c=> ?_,h.2⟩;by_cases H:j=i
 .subst H;rcases d with h0|h0
  .omega
  .exact h0
 .exact h.1 j a b H c
theorem pU(h:uq f n i)(c:Ad f n i):rE f n:=by
 intro j a b;by_cases H:(j - 1)/2=i
 .have:=c j a b H;rw[H];exact this
 .exact h.1 j a b H
theorem Qp{p:Nat}(h:uo f n i)(q:0<i)(u:i<n)(s:p=(i - 1)/2)(e:lt (f i) (f p)):uo (oS f i p) n p/\Ad (oS f i p) n p:=by
 have m:p≠i:=ag
 refine⟨⟨λj a b c r=> ?_,λt j a b c=> ?_⟩,λj a b c=> ?_⟩
 ·
  have H:j≠i:=ag
  unfold oS;rw[ae H,ae c];by_cases d:(j - 1)/2=i
  .rw[af d,s];exact h.2 q j a b d
  .rw[ae d,ae r];exact h.1 j a b H d
 .have o:=h.1 p t ag m ag;unfold oS;rw[ae (show(p - 1)/2≠i by omega),ae (show(p - 1)/2≠p by omega)];by_cases H:j=i
  .rw[af H];exact o
  .rw[ae H,dy];have:=h.1 j a b H ag;rw[c]at this;exact le_trans o this
 .unfold oS;rw[ae m,af rfl];by_cases H:j=i
  .rw[af H];exact le_of_lt e
  .rw[ae H,dy];have:=h.1 j a b H ag;rw[c]at this;exact le_trans (le_of_lt e) this
theorem Lh{c:Nat}(h:uq f n i)(o:(c - 1)/2=i)(q:0<c)(t:c<n)(r:lt (f c) (f i))(s: ∀j,0<j->j<n->(j - 1)/2=i->le (f c) (f j)):uq (oS f i c) n c:=by
 have u:c≠i:=ag
 refine⟨λj H b m=> ?_,λ_ j H b m=> ?_⟩
 .unfold oS;by_cases p:j=i
  .subst p;rw[ae (show(j - 1)/2≠j by omega),ae (show(j - 1)/2≠c by omega),af rfl];exact h.2 H c q t o
  .by_cases a:(j - 1)/2=i
   .rw[af a,ae p];by_cases d:j=c
    .rw[af d];exact le_of_lt r
    .rw[ae d];exact s j H b a
   .have d:j≠c:=by intro e;subst e;exact a o
    rw[ae a,ae m,ae p,ae d];exact h.1 j H b a
 .unfold oS;rw[o,af rfl,ae (show j≠i by omega),ae (show j≠c by omega)];have:=h.1 j H b ag;rw[m]at this;exact this
theorem NL(h:rE f n): ∀j,j<n->le (f 0) (f j):=by
 intro j;induction j using Nat.strongRecOn with
 |_ j I=>
  intro a;by_cases H:j=0
  .subst H;exact le_refl _
  .exact le_trans (I ((j - 1)/2) ag ag) (h j ag a)
def at_(es:List E)(i:Nat):E:=es.getD i (0,0)
theorem oD(h:i<es.length):at_ es i=es[i]:=by simp[at_,h]
theorem Kc(h:i<es.length):es[i]? =some (at_ es i):=by simp[at_,h]
theorem Io(h:i<es.length):at_ (es.set i x) j=if j=i then x else at_ es j:=by
 unfold at_;by_cases e:j=i
 .subst e;simp[h]
 .simp[e,fW e]
def qj(es:List E)(i j:Nat):List E:=(es.set j (at_ es i)).set i (at_ es j)
theorem wS :(qj es i j).length=es.length:=by simp[qj]
theorem FQ(h:i<es.length)(H:j<es.length)(k:Nat):at_ (qj es i j) k=oS (at_ es) i j k:=by
 unfold qj oS;rw[Io (cR h),Io H]
theorem CT(h:i<es.length)(H:j<es.length):at_ (qj es i j)=oS (at_ es) i j:=funext (FQ h H)
theorem ur(h:i<es.length)(H:j<es.length):(qj es i j).Perm es:=by
 unfold qj;rw[oD h,oD H];exact List.set_set_perm H h
def iR(es:List E)(g:Int->Option Value):Prop:=
 (es.map (·.1)).Nodup/\(∀j,j<es.length->g (at_ es j).1=some (.int .i64 j))/\∀k,k∉es.map (·.1)->g k=none
theorem key_inj(h:(es.map (·.1)).Nodup)(H:i<es.length)(b:j<es.length)(a:(at_ es i).1=(at_ es j).1):i=j:=by
 rw[oD H,oD b]at a;have c:=fa (i:=i) (j:=j) (cR H) h;exact c.1 (by simp[H,b,a])
theorem iR.swap(h:iR es g)(H:i<es.length)(a:j<es.length)(s:i≠j):
  iR (qj es i j) (λk=>if k=(at_ es j).1 then some (.I i)else if k=(at_ es i).1 then some (.I j)else g k):=by
 obtain⟨c,p,q⟩:=h;have o:=(ur H a).map (·.1);refine⟨o.nodup_iff.2 c,λk b=> ?_,λk b=> ?_⟩
 .rw[wS]at b;rw[FQ H a];unfold oS;by_cases E:k=i
  .subst E;simp
  .by_cases d:k=j
   .subst d;rw[ae E,af rfl];have:(at_ es i).1≠(at_ es k).1:=λe=>s (key_inj c H a e)
    simp[this]
   .rw[ae E,ae d];have u:(at_ es k).1≠(at_ es j).1:=λe=>d (key_inj c b a e)
    have v:(at_ es k).1≠(at_ es i).1:=λe=>E (key_inj c b H e)
    simp[u,v,p k b]
 .have m:k∉es.map (·.1):=λr=>b (o.mem_iff.2 r)
  have M:(at_ es j).1∈es.map (·.1):=by rw[oD a];exact bz (dF a)
  have t:(at_ es i).1∈es.map (·.1):=by rw[oD H];exact bz (dF H)
  simp only[];rw[ae (show k≠_ from λe=>m (e.symm▸M)),ae (show k≠_ from λe=>m (e.symm▸t))];exact q k m
def jH(l:List E):Prop:=l.Pairwise lt
def keys(l:List E):List Int:=l.map (·.1)
def fY(l:List E)(k:Int):List E:=l.filter (λe=> !(e.1==k))
def vw(l:List E)(x:E):List E:=l.filter (λe=>decide (lt e x))++x::l.filter (λe=> !decide (lt e x))
theorem mR(l:List E)(x:E):(vw l x).Perm (x::l):=by
 unfold vw;refine(List.perm_middle).trans (List.Perm.cons x ?_);exact List.filter_append_perm _ _
theorem jH.drop(h:jH l)(k:Int):jH (fY l k):=gk _ h
theorem jH.insert(h:jH l)(x:E)(c:x.1∉keys l):jH (vw l x):=by
 unfold jH vw;rw[List.pairwise_append];refine⟨gk _ h,?_,?_⟩
 .rw[dU];refine⟨λy a=> ?_,gk _ h⟩;obtain⟨d,H⟩:=bj.1 a;have b: ¬lt y x:=by simpa using H
  exact lt_of_le_ne b (λe=>c (by rw[e];exact bz d))
 .intro y a z hz;obtain⟨_,H⟩:=bj.1 a;have o:lt y x:=by simpa using H
  rcases bg.1 hz with rfl|hz
  .exact o
  .obtain⟨_,m⟩:=bj.1 hz;have b: ¬lt z x:=by simpa using m
   unfold lt at*;omega
theorem Ip(l:List E)(k:Int):k∉keys (fY l k):=by
 intro h;obtain⟨e,H,rfl⟩:=bt.1 h;have:=(bj.1 H).2;simp at this
theorem ku(h:k∉keys l):fY l k=l:=by
 unfold fY;rw[cz];intro e H;have:e.1≠k:=λE=>h (E▸bz H)
 simp[this]
theorem Iq(h:l.Perm L)(k:Int):(fY l k).Perm (fY L k):=h.filter _
theorem NM(H:es.Perm l)(o:jH l)(d:rE (at_ es) es.length)(a:0<es.length): ∃r,l=at_ es 0::r:=by
 cases l with
 |nil=>have:=H.length_eq;simp only[bG]at this;omega
 |cons x r=>
  refine⟨r,?_⟩;have p:x∈es:=H.mem_iff.2 dp;obtain⟨j,h⟩:=bL p;have b:j<es.length:=(az.1 h).1;have c:=NL d j b;rw[Kc b]at h;have E:at_ es j=x:=aX h;rw[E]at c;have m:at_ es 0∈x::r:=H.mem_iff.1 (by rw[oD a];exact dF a);rcases bg.1 m with e|e
  .rw[e]
  .have:=(dU.1 o).1 _ e;exact absurd this c
theorem CU(H:es.length=n+1):es=es.take n++ [at_ es n]:=by
 have h:n<es.length:=ag
 rw[oD h];have:=List.take_append_getElem h;rw[this,bE ag]
theorem DU(h:i<n):at_ (es.take n) i=at_ es i:=by
 unfold at_;rw[bh,bh,cZ,af h]
theorem wT :at_ (es++ [x]) i=if i<es.length then at_ es i else if i=es.length then x else(0,0):=by
 unfold at_;rw[bh,bh];by_cases h:i<es.length
 .rw[cO h,af h]
 .rw[cH ag,ae h];by_cases e:i=es.length
  .subst e;simp
  .rw[ae e,cV (by simp;omega)];rfl
theorem mem_keys(h:k∈keys es): ∃j,j<es.length/\(at_ es j).1=k:=by
 obtain⟨e,b,rfl⟩:=bt.1 h;obtain⟨j,H⟩:=bL b;have a:=(az.1 H).1;rw[Kc a]at H;exact⟨j,a,cf Prod.fst (aX H)⟩
theorem at_mem(h:j<es.length):at_ es j∈es:=by rw[oD h];exact dF h
theorem keys_perm(h:l.Perm L):(keys l).Perm (keys L):=h.map _
def cut(es:List E)(n j:Nat):List E:=if j<n then(es.take n).set j (at_ es n)else es.take n
theorem FR(a:es.length=n+1)(d:j<es.length):es.Perm (at_ es j::cut es n j):=by
 unfold cut;have m:(es.take n).length=n:=by rw[bA];omega
 split
 .rename_i h;have H:j<(es.take n).length:=ag
  have e:at_ es j=(es.take n)[j]:=by rw[<-DU h,oD H]
  have p:es.Perm (at_ es n::es.take n):=by
   have:es.Perm (es.take n++ [at_ es n]):=by rw[<-CU a]
   exact this.trans (eH _ _)
  have P:(es.take n).Perm (at_ es j::((es.take n).take j++(es.take n).drop (j+1))):=by
   rw[e];have E:es.take n=(es.take n).take j++(es.take n)[j]::(es.take n).drop (j+1):=by rw[<-cP H,List.take_append_drop]
   have b:(es.take n).Perm ((es.take n).take j++(es.take n)[j]::(es.take n).drop (j+1)):=List.Perm.of_eq E;exact b.trans List.perm_middle
  have c:((es.take n).set j (at_ es n)).Perm (at_ es n::((es.take n).take j++(es.take n).drop (j+1))):=by
   rw[List.set_eq_take_append_cons_drop,af H];exact List.perm_middle
  exact p.trans ((P.cons _).trans ((List.Perm.swap _ _ _).trans (c.symm.cons _)))
 .have:j=n:=ag
  subst this;have:es.Perm (es.take j++ [at_ es j]):=by rw[<-CU a]
  exact this.trans (eH _ _)
theorem NN(e:es.length=n+1)(c:j<es.length)(b:(keys es).Nodup)(m:es.Perm l):(cut es n j).Perm (fY l (at_ es j).1):=by
 have h:=FR e c;have d:(at_ es j).1∉keys (cut es n j):=by
  have:=(keys_perm h).nodup_iff.1 b;exact(fL.1 this).1
 have H:=Iq (h.symm.trans m) (at_ es j).1;have a:fY (at_ es j::cut es n j) (at_ es j).1=cut es n j:=by
  have:fY (at_ es j::cut es n j) (at_ es j).1=fY (cut es n j) (at_ es j).1:=by
   unfold fY;rw[cu];simp
  rw[this,ku d]
 rw[a]at H;exact H
theorem DV(h:es.length=n+1):(cut es n j).length=n:=by
 unfold cut;split
 .rw[dQ,bA];omega
 .rw[bA];omega
theorem pV(a:es.length=n+1)(h:i<n):at_ (cut es n j) i=if i=j then at_ es n else at_ es i:=by
 have H:(es.take n).length=n:=by rw[bA];omega
 unfold cut;split
 .rw[Io ag,DU h]
 .rw[DU h,dy]
theorem Li(h:iR es g)(b:es.length=n+1)(p:j<es.length):
  iR (cut es n j) (λk=>if j<n then(if k=(at_ es n).1 then some (.I j)else if k=(at_ es j).1 then none else g k)else if k=(at_ es j).1 then none else g k):=by
 obtain⟨d,r,s⟩:=h;have q:=keys_perm (FR b p);have v:=q.nodup_iff.1 d;refine⟨(fL.1 v).2,λi m=> ?_,λk a=> ?_⟩
 .rw[DV b]at m;rw[pV b m];by_cases e:i=j
  .subst e;simp[m]
  .rw[ae e];have c:(at_ es i).1≠(at_ es n).1:=λx=>by have:=key_inj d ag ag x;omega
   have A:(at_ es i).1≠(at_ es j).1:=λx=>e (key_inj d ag p x)
   simp[c,A,r i ag]
 .have o: ∀k,k∉(cut es n j).map (·.1)->k≠(at_ es j).1->g k=none:=λk a w=>by
   refine s k λu=> ?_
   rcases bg.1 (q.mem_iff.1 u)with e|e
   .exact w e
   .exact a e
  by_cases H:j<n
  .have t:(at_ es n).1∈(cut es n j).map (·.1):=by
    have:=at_mem (es:=cut es n j) (j:=j) (by rw[DV b];exact H);rw[pV b H,af rfl]at this;exact bz this
   have c:k≠(at_ es n).1:=λe=>a (e▸t)
   by_cases e:k=(at_ es j).1
   .subst e;simp[H,c]
   .simp[H,c,e,o k a e]
  .by_cases e:k=(at_ es j).1
   .subst e;simp[H]
   .simp[H,e,o k a e]
theorem NO(h:es.length=n+1)(o:j<n)(d:rE (at_ es) es.length):uo (at_ (cut es n j)) n j:=by
 refine⟨λc H a b m=> ?_,λe c H a b=> ?_⟩
 .rw[pV h a,pV h ag,ae b,ae m];exact d c H ag
 .rw[pV h a,pV h ag,dy,dy];have:=d c H ag;rw[b]at this;exact le_trans (d j e ag) this
theorem NP(h:es.length=n+1)(d: ¬j<n)(b:rE (at_ es) es.length):rE (at_ (cut es n j)) n:=λc H a=>by
 rw[pV h a,pV h ag,dy,dy];exact b c H ag
theorem NQ(b:rE (at_ es) es.length):uo (at_ (es++ [x])) (es.length+1) es.length/\Ad (at_ (es++ [x])) (es.length+1) es.length:=by
 refine⟨⟨λc h H a e=> ?_,λd c h H a=>ag⟩,λc h H a=>ag⟩;rw[wT,wT,gi,gi];exact b c h ag
theorem Lj(h:iR es g)(a:x.1∉keys es):iR (es++ [x]) (λk=>if k=x.1 then some (.I es.length)else g k):=by
 obtain⟨b,c,d⟩:=h;refine⟨?_,λi m=> ?_,λk H=> ?_⟩
 .have:((es++ [x]).map (·.1)).Perm (x.1::es.map (·.1)):=by
   rw[ba];exact eH _ _
  exact this.nodup_iff.2 (fL.2 ⟨a,b⟩)
 .rw[aB,dL]at m;rw[wT];by_cases e:i<es.length
  .rw[af e];have:(at_ es i).1≠x.1:=λq=>a (q▸bz (at_mem e))
   simp[this,c i e]
  .have:i=es.length:=ag
   subst this;simp
 .rw[ba,bH]at H;have p:k≠x.1:=λe=>H (.inr (by simp[e]))
  simp[p,d k (λo=>H (.inl o))]
theorem Ir{e:E}(H:(keys (e::l)).Nodup):fY (e::l) e.1=l:=by
 have h:fY (e::l) e.1=fY l e.1:=by unfold fY;rw[cu];simp
 rw[h,ku (fL.1 H).1]

end
end Go.kU
namespace Go.Den
section
variable {P : Program}
theorem NR{s x C elem:TypeId}{S bytes:Nat}{z:Value}{h:ai}{n:Nat}{K:fO}(T:oC P s elem S bytes z)(A:P.underlying x=some (.int .i64))(G:0<n)(D:n*bytes<=70368744177664)(E:n<=4611686018427387904)(q: ∀c d,Own d (Sa h.size 0) 0 c S []->n<=c->Fr (λ_=>False) h d->K (.L (Sa h.size 0) n c) d):
  aT P (Builtin.append_ #[s,x] C #[.Z,.I (n:Int)]) h K:=by
 obtain⟨i,a,rfl,rfl,g⟩:=T.i;have y:=T.zs;unfold Builtin.append_;refine bY (s:=underlying s) (bM T.u) ?_;refine bY (s:=sizeOf elem) (iw a) ?_;refine bY (s:=underlying x) (bM A) ?_;refine bY (s:=(pure true:Sem Bool)) (a:=true) rfl ?_;have e:IntKind.wrap .i64 (n:Int)=(n:Int):=bJ ag ag;refine bY (s:=asInt (.I (n:Int))) (a:=(n:Int)) rfl ?_;show aT P (if IntKind.wrap .i64 (n:Int)<0 then _ else _) h K;rw[ae (by rw[e];omega)];refine bY (s:=typeInfo elem) (iu a) ?_;show aT P (if IntKind.wrap .i64 (n:Int)*(i.bytes:Int)>2 ^ 48 then _ else _) h K;have l:(n:Int)*(i.bytes:Int)=((n*i.bytes:Nat):Int):=bU
 rw[ae (by rw[e,l];omega)];refine bY (s:=(pure (IntKind.wrap .i64 (n:Int)).toNat:Sem Nat)) (a:=n) (by rw[e];rfl) ?_;show aT P (if 0+n<=0 then _ else _) h K;rw[dy];refine bY (s:=typeInfo elem) (iu a) ?_;show aT P (if(((0+n:Nat):Int)>IntKind.max .i64/\(true=true\/i.bytes=0))then _ else _) h K;have t:IntKind.max .i64=9223372036854775807:=rfl;rw[ae (by rw[t];omega)];refine bY (s:=typeInfo elem) (iu a) ?_;have r:=nextslicecap_le (need:=0+n) (cap:=0) ag;have u: ¬(Builtin.nextslicecap (0+n) 0*i.bytes>2 ^ 48):=by
  have b:Builtin.nextslicecap (0+n) 0*i.bytes<=2*(0+n)*i.bytes:=dc _ r;rw[Nat.mul_assoc,bK]at b;rw[bK];omega
 show aT P (if Builtin.nextslicecap (0+n) 0*i.bytes>2 ^ 48 then _ else _) h K;rw[ae u];show aT P (choose (.appendCap (0+n) 0 elem)>>=_) h K;rw[dW];unfold choose;simp only[aT,Question.forced,ar,aQ,Question.cut];intro B;refine bY (s:=typeInfo elem) (iu a) ?_;rw[dW];have w: ∀(m:Nat)(k:Unit->ai->Prop),k () h->aT P (askRoom m) h k:=λm k f=>by
  unfold askRoom;split
  .exact f
  .exact f
 refine w _ _ ?_;refine bY (s:=Builtin.firstCells i.size 0 (.Z)) (a:= #[]) (lT (ds:= []) (.inl rfl) bU) ?_;have R:=jr (h:=h) a g;refine bY (a:=if n*i.size=0 then #[]else Builtin.zeroCells z.cells n) ?_ ?_
 .show rd P (if n*i.size=0 then pure #[]else _) h=_;by_cases H:n*i.size=0
  .rw[af H,af H];rfl
  .rw[ae H,ae H,bB _ _ _ _ R];rfl
 refine bY (s:=zeroValue elem) (jr a g) ?_;generalize F:0+n+B%(2 ^ 63 - (0+n))=c;have o:n<=c:=ag
 have b: ∀m,(Builtin.zeroCells z.cells m).size=m*i.size:=λm=>by simp[Builtin.zeroCells,y]
 show K (.L (Sa h.size 0) (0+n) c) (h.push (.C (#[]++(if n*i.size=0 then #[]else Builtin.zeroCells z.cells n)++Builtin.zeroCells z.cells (c - (0+n))) elem));rw[bK];refine q c _ (.row h.size 0 _ elem rfl bZ (bQ _) ?_ bU (λj v p=>by cases p)) o (Fr.push _ _);rw[Array.size_append,b];have:(#[]++(if n*i.size=0 then #[]else Builtin.zeroCells z.cells n):Array Value).size=n*i.size:=by
  by_cases H:n*i.size=0
  .rw[af H,H];rfl
  .rw[ae H,Array.size_append,b];simp
 rw[this,<-fi,bK,show n+(c - n)=c by omega];omega
end
section
variable {h H:ai} {X:Ft} {j:Nat}
def In(X:Ft)(y:Nat):Prop:=X.M y\/X.D y
abbrev only(X:Ft)(P:Nat->Prop):Prop:= ∀y,(X.M y↔P y)/\¬X.D y
abbrev pt(b:Nat):Value:=.pointer (some ⟨b,0,none⟩)
structure Ae (P:Nat->ai->Ft->Prop):Prop where
 lt: ∀ {i h X},P i h X->∀y,In X y->y<h.size
 frame: ∀ {i h H X} {Q:Nat->Prop},P i h X->Fr Q h H->(∀y,In X y->¬Q y)->P i H X
 vx: ∀ {i h X},P i h X->∀y,X.M y->X.D y->False
def Is(P:Nat->ai->Ft->Prop)(h:ai)(X:Ft):Prop:= ∃a:Nat->Ft,(∀i,P i h (a i))/\(∀i j y,i≠j->In (a i) y->¬In (a j) y)/\(∀y,X.M y↔ ∃i,(a i).M y)/\∀y,X.D y↔ ∃i,(a i).D y
variable {P p : Nat → ai → Ft → Prop}
theorem Is.lt(S:Ae P)(c:Is P h X)(y:Nat)(hy:X.M y\/X.D y):y<h.size:=by
 obtain⟨f,b,_,e,d⟩:=c;rcases hy with hy|hy
 .obtain⟨i,a⟩:=(e y).1 hy;exact S.lt (b i) y (.inl a)
 .obtain⟨i,a⟩:=(d y).1 hy;exact S.lt (b i) y (.inr a)
theorem Is.vx(S:Ae P)(f:Is P h X)(y:Nat)(a:X.M y)(b:X.D y):False:=by
 obtain⟨m,l,A,k,g⟩:=f;obtain⟨i,c⟩:=(k y).1 a;obtain⟨j,d⟩:=(g y).1 b;by_cases e:i=j
 .subst e;exact S.vx (l i) y c d
 .exact A i j y e (.inl c) (.inr d)
theorem Is.frame{Q:Nat->Prop}(S:Ae P)(d:Is P h X)(f:Fr Q h H)(k: ∀y,X.M y\/X.D y->¬Q y):Is P H X:=by
 obtain⟨e,g,A,c,b⟩:=d;exact⟨e,λi=>S.frame (g i) f (λy l=>k y (l.imp (λa=>(c y).2 ⟨i,a⟩) (λa=>(b y).2 ⟨i,a⟩))),A,c,b⟩
theorem Is.use(S:Ae P)(r:Is P h X)(j:Nat): ∃Z,P j h Z/\(∀y,Z.M y->X.M y)/\(∀y,Z.D y->X.D y)/\∀H z p,p j H z->bw Z h z H->(∀i,i≠j->p i=P i)->
  ∃x,Is p H x/\bw X h x H/\(∀y,z.D y->x.D y)/\∀y,h.size<=y->x.M y\/x.D y->z.M y\/z.D y:=by
 obtain⟨d,m,A,g,f⟩:=r;refine⟨d j,m j,λy a=>(g y).2 ⟨j,a⟩,λy a=>(f y).2 ⟨j,a⟩,λH z p t s u=> ?_⟩;have O: ∀i y,i≠j->In (d i) y->¬In z y:=λi y o c hz=>by
  have l:=S.lt (m i) y c;rcases hz with hz|hz
  .rcases s.hN y hz with a|a
   .exact A i j y o c (.inl a)
   .omega
  .rcases s.ji y hz with a|a
   .exact A i j y o c (.inr a)
   .omega
 refine⟨⟨λy=> ∃i,(if i=j then z else d i).M y,λy=> ∃i,(if i=j then z else d i).D y⟩,⟨λi=>if i=j then z else d i,λi=> ?_,λi k y n c hz=> ?_,λ_=>ff,λ_=>ff⟩,⟨s.fr.mono (λy _ a=>(g y).2 ⟨j,a⟩),?_,?_,?_⟩,λy a=>⟨j,by rw[af rfl];exact a⟩,?_⟩
 .show p i H (if i=j then z else d i);by_cases e:i=j
  .rw[af e,e];exact t
  .rw[ae e,u i e];exact S.frame (m i) s.fr (λy c a=>A i j y e c (.inl a))
 .dsimp only at c hz;by_cases e:i=j
  .rw[af e]at c;rw[ae (λq=>n (e.trans q.symm))]at hz;exact O k y (λq=>n (e.trans q.symm)) hz c
  .rw[ae e]at c;by_cases E:k=j
   .rw[af E]at hz;exact O i y e c hz
   .rw[ae E]at hz;exact A i k y n c hz
 .rintro y ⟨i,a⟩;by_cases e:i=j
  .rw[af e]at a;exact(s.hN y a).imp (λb=>(g y).2 ⟨j,b⟩) id
  .rw[ae e]at a;exact .inl ((g y).2 ⟨i,a⟩)
 .rintro y ⟨i,a⟩;by_cases e:i=j
  .rw[af e]at a;exact(s.ji y a).imp (λb=>(f y).2 ⟨j,b⟩) id
  .rw[ae e]at a;exact .inl ((f y).2 ⟨i,a⟩)
 .intro y a;obtain⟨i,a⟩:=(f y).1 a;by_cases e:i=j
  .exact⟨j,by rw[af rfl];exact s.mz y (e▸a)⟩
  .exact⟨i,by rw[ae e];exact a⟩
 .intro y c a;have K: ∀i,In (if i=j then z else d i) y->z.M y\/z.D y:=λi a=>by
   by_cases e:i=j
   .rw[af e]at a;exact a
   .rw[ae e]at a;have:=S.lt (m i) y a;omega
  rcases a with⟨i,a⟩|⟨i,a⟩
  .exact K i (.inl a)
  .exact K i (.inr a)
end
def DW:List Value->Nat->List Value->List Value
 |cs,_, []=>cs
 |cs,p,v::V=>DW (cs.set p v) (p+1) V
theorem Own.dV{a:Addr}{len cap s p:Nat}{K:ai->Prop}: ∀(V:List Value)(k:Nat)(h:ai)(c:List Value),Own h (.some a) len cap s c->(∀v∈V,fZ v=true)->p+k+V.length<=c.length->
  (∀H,Own H (.some a) len cap s (DW c (p+k) V)->H.size=h.size->(∀x,¬aP (.some a) x->H[x]? =h[x]?)->K H)->Den.dV (a.add p) V k h K
 | [],k,h,c,o,_,_,b=>b h o rfl (λ_ _=>rfl)
 |v::V,k,h,c,o,d,i,b=>by
  rw[bn]at i;unfold Den.dV;rw[d v dp];dsimp only;rw[add_add];refine o.store ag λf O S q=> ?_
  refine Own.dV V (k+1) f _ O (λu j=>d u (cv _ j)) (by rw[dQ];omega) λg l m Q=>b g ?_ ag (λx e=>by rw[Q x e,q x e])
  unfold DW;rw[show p+k+1=p+(k+1) by omega];exact l

end Go.Den
namespace Go.fV
structure RD where
 id:Nat
 err:Int
 num:Int
 count:Int
 token:Nat
 b:cG
def RD.zero:RD:=⟨0,0,0,0,0, []⟩
def RD.oT(x:RD):Prop:=x.id<=1099511627776/\(0<=x.err/\x.err<=99)/\(0<=x.num/\x.num<=1099511627776)/\(0<=x.count/\x.count<=1099511627776)/\x.token<=2147483648/\x.b.length<=600/\(x.err≠0->x.num=0/\x.count=0/\x.token=0/\x.b= [])
instance (x : RD) : Decidable x.oT := by unfold RD.oT; infer_instance
def RD.same(x y:RD):Prop:=x.id=y.id/\x.err=y.err/\x.num=y.num/\x.count=y.count/\x.token=y.token/\x.b=y.b
instance (x y : RD) : Decidable (x.same y) := by unfold RD.same; infer_instance
theorem RD.NS{x y:RD}:x.same y↔x=y:=by
 cases x;cases y;simp[RD.same]
def RD.enc(x:RD):cG:=iV x.id++iV (mf x.err)++iV (mf x.num)++iV (mf x.count)++iV x.token++vu x.b
variable {x:RD}
structure Wb where
 x:RD
 e:Int
 rest:cG
def U6(t:Nat)(m:Nat->Int->cG->Nat×Int×cG)(B:cG):Wb:=
 let a:=fG 0 B
 let b:=m t a.2.1 a.2.2
 let c:=m 1099511627776 b.2.1 b.2.2
 let d:=m 1099511627776 c.2.1 c.2.2
 let f:=fG d.2.1 d.2.2
 let g:=mg f.2.1 f.2.2
 ⟨⟨a.1,(b.1:Int),(c.1:Int),(d.1:Int),f.1,g.1⟩,g.2.1,g.2.2⟩
def Af(s:Wb):Option RD:=if zp s.e s.rest=0/\s.x.oT then some s.x else none
def Lk(b:cG):Option RD:=Af (U6 1099511627776 jP b)
theorem kV(h:x.b.length<=600):x.enc.length<=700:=by
 have a:=(gW x.id).2;have A:=(gW (mf x.err)).2;have b:=(gW (mf x.num)).2;have c:=(gW (mf x.count)).2;have d:=(gW x.token).2;have e:=(gW x.b.length).2;unfold RD.enc vu;simp only[aB];omega

end Go.fV
namespace Go.Den
section
variable {h:ai}
def idxOf{a:Type}(P:a->Bool)(x:List a):Int:=match x.findIdx? P with|some k=>(k:Int)|none=> -1
theorem rF{l:Type}(P:l->Bool){X:List l}{n:Nat}{R:fO}(B:Int->ai->(Bool->ai->Prop)->Prop)(p:n=X.length)(v:X.length<=1000000000)(o: ∀(k:Nat) g x K,X[k]? =some x->Fr (λ_=>False) h g->(∀G,Fr (λ_=>False) h G->K (P x) G)->B (k:Int) g K)(a: ∀g,Fr (λ_=>False) h g->R (.I (idxOf P X)) g):
  ∃(I:Int->ai->Prop)(m:Int->ai->Nat),I 0 h/\∀(t:Int)(g:ai),I t g->if(decide (t<(n:Int)))=true then B t g (λq b=>if q=true then R (.I t) b else(I (IntKind.wrap .i64 (t+1)) b/\m (IntKind.wrap .i64 (t+1)) b<m t g))else R (.I (-1)) g:=by
 subst p;refine⟨λi g=>Fr (λ_=>False) h g/\∃k:Nat,i=(k:Int)/\k<=X.length/\∀j (H:j<X.length),j<k->¬P X[j]=true,λi _=>X.length - i.toNat,⟨Fr.refl _ _,0,rfl,ag,λj _ H=>ag⟩,?_⟩;rintro _ g ⟨f,k,rfl,u,c⟩;by_cases d:k<X.length
 .rw[gi];refine o k g X[k] _ (aj d) f λG F=> ?_
  by_cases e:P X[k]=true
  .rw[af e];have:idxOf P X=(k:Int):=by
    unfold idxOf;rw[show X.findIdx? P=some k from cj.2 ⟨d,e,λj H=>c j ag H⟩]
   rw[this]at a;exact a G F
  .rw[ae e,bJ ag ag];refine⟨⟨F,k+1,ag,ag,λj H s=> ?_⟩,by show X.length - Int.toNat ((k:Int)+1)<X.length - Int.toNat (k:Int);omega⟩;by_cases q:j=k
   .subst q;exact e
   .exact c j H ag
 .rw[ae (λq=>d (bW (aV q)))];have:idxOf P X= -1:=by
   unfold idxOf;rw[show X.findIdx? P=none from dh.2 λx r=> ?_];obtain⟨j,H,rfl⟩:=List.getElem_of_mem r;exact Bool.not_eq_true _▸c j H ag
  rw[this]at a;exact a g f

end
end Go.Den
namespace Go.Proofs.YtkdgpmeojgokdaaGreatDoor
open Go.Den
open IntKind (wrap)
open Int (toNat)
section
namespace Cb
inductive Tr where
 |mk (k:Int) (n:Nat) (b:cG) (l:List Tr)
namespace Tr
def k:Tr->Int| .mk k _ _ _=>k
def n:Tr->Nat| .mk _ n _ _=>n
def b:Tr->cG| .mk _ _ b _=>b
def l:Tr->List Tr| .mk _ _ _ l=>l
end Tr
abbrev num(n:Nat):Tr:=.mk 0 n [] []
abbrev qH(b:cG):Tr:=.mk 2 0 b []
abbrev sS(l:List Tr):Tr:=.mk 4 0 [] l
def CW:Tr:=.mk 0 0 [] []
mutual
def oM:Tr->Tr->Bool
 | .mk k n b l,.mk k' n' b' l'=>decide (k=k') && decide (n=n') && decide (b=b') && sU l l'
def sU:List Tr->List Tr->Bool
 | [], []=>true
 |t::ts,u::us=>oM t u && sU ts us
 |_,_=>false
end
mutual
theorem Qq: ∀(a b:Tr),oM a b=true↔a=b
 | .mk k n b l,.mk k' n' b' l'=>by
  simp only[oM,Bool.and_eq_true,decide_eq_true_eq,Ag,Tr.mk.injEq,and_assoc]
theorem Ag: ∀(a b:List Tr),sU a b=true↔a=b
 | [], []=>by simp[sU]
 |t::ts,u::us=>by simp only[sU,Bool.and_eq_true,Qq t u,Ag ts us,List.cons.injEq]
 | [],u::us=>by simp[sU]
 |t::ts, []=>by simp[sU]
end
def NT(V:cG->Bool)(k:Int)(n:Nat)(b:cG)(l:List Tr):Bool:=
 if k=0 then b.isEmpty && l.isEmpty else if k=2 then decide (n=0) && l.isEmpty else if k=3 then decide (n=0) && l.isEmpty && V b else if k=4 then decide (n=0) && b.isEmpty else false
mutual
def oj (V:cG->Bool):Tr->Int->Int->Int
 | .mk k n b l,d,left=>if d>6\/left<1 then -1 else if NT V k n b l=true then nm V l (d+1) (left - 1)else -1
def nm (V:cG->Bool):List Tr->Int->Int->Int
 | [],_,left=>left
 |t::ts,d,left=>if oj V t d left<0 then -1 else nm V ts d (oj V t d left)
end
mutual
theorem FU {V:cG->Bool} : ∀ {t:Tr} {d left:Int},oj V t d left= -1\/0<=oj V t d left/\oj V t d left<left
 | .mk k n b l,d,left=>by
  unfold oj;split
  ·exact .inl rfl
  ·split
   ·rcases CX (V:=V) (ts:=l) (d:=d+1) (left:=left - 1) ag with h|h
    ·exact .inl h
    ·exact .inr ag
   ·exact .inl rfl
theorem CX {V:cG->Bool} : ∀ {ts:List Tr} {d left:Int},0<=left->nm V ts d left= -1\/0<=nm V ts d left/\nm V ts d left<=left
 | [],d,left,hl=>by unfold nm;exact .inr ⟨hl,Int.le_refl _⟩
 |t::ts,d,left,hl=>by
  unfold nm;split
  ·exact .inl rfl
  ·rcases FU (V:=V) (t:=t) (d:=d) (left:=left)with h1|h1
   ·omega
   ·rcases CX (V:=V) (ts:=ts) (d:=d) (left:=oj V t d left) ag with h|h
    ·exact .inl h
    ·exact .inr ag
end
def im(V:cG->Bool)(t:Tr):Bool:=decide (oj V t 1 256≥0)
def FV(n:Nat):Nat:=if n<24 then 0 else if n<256 then 1 else if n<65536 then 2 else if n<4294967296 then 4 else 8
def yy(n:Nat):Nat:=if n<24 then n else if n<256 then 24 else if n<65536 then 25 else if n<4294967296 then 26 else 27
def RL(k n:Nat):cG:=(List.range k).map λi=>UInt8.ofNat (n/2 ^ (8*(k - 1 - i)))
def NU(m:Int)(n:Nat):cG:=if 0<=m/\m<=7 then UInt8.ofNat (32*m.toNat+yy n)::RL (FV n) n else []
theorem Kd(n:Nat):FV n<=8:=by unfold FV;repeat (first|omega|split)
theorem zq(k n:Nat):(RL k n).length=k:=by simp[RL]
theorem Ke(m:Int)(n:Nat):(NU m n).length<=9:=by
 unfold NU;split
 .rw[bn,zq];have:=Kd n;omega
 .simp
def RM(l:cG):Nat:=l.foldl (λv b=>v*256+b.toNat) 0
theorem FW(l:cG)(b:UInt8):RM (l++ [b])=RM l*256+b.toNat:=by simp[RM]
theorem NV(l:cG):RM l<256 ^ l.length:=by
 suffices h: ∀(n:Nat)(l:cG),l.length=n->RM l<256 ^ n from h _ l rfl
 intro n;induction n with
 |zero=>intro l H;rw[List.length_eq_zero_iff.1 H];simp[RM]
 |succ n i=>
  intro l H;obtain⟨a,b,rfl⟩: ∃a b,l=a++ [b]:=⟨l.dropLast,l.getLast (by intro e;rw[e]at H;simp at H),(List.dropLast_concat_getLast _).symm⟩;rw[aB]at H;have:=i a (cR H);rw[FW,Nat.pow_succ];have:=b.toNat_lt;omega
def rG(m:Nat):Bool:=decide (2<=m/\m<=5)||decide (m=7)
def Fo(b:cG)(pos:Nat):Except Int (Nat×Nat×Bool×Nat):=
 match b[pos]? with
 |none=> .error 8
 |some x=>
  if x.toNat%32<24 then .ok (x.toNat/32,x.toNat%32,false,pos+1)
  else if x.toNat%32=31/\rG (x.toNat/32)=true then .ok (x.toNat/32,0,true,pos+1)
  else if x.toNat%32>27 then .error 3
  else if pos+1+2 ^ (x.toNat%32 - 24)>b.length then .error 8
  else .ok (x.toNat/32,RM ((b.drop (pos+1)).take (2 ^ (x.toNat%32 - 24))),false,pos+1+2 ^ (x.toNat%32 - 24))
theorem wU{b:cG}{pos m n a:Nat}{o:Bool}(h:Fo b pos=.ok (m,n,o,a)):pos<a/\a<=b.length/\n<18446744073709551616/\m<8/\pos<b.length:=by
 unfold Fo at h;split at h
 .cases h
 .rename_i x f;have d:=(az.1 f).1;have:=x.toNat_lt;split at h
  .cases h;omega
  .split at h
   .cases h;omega
   .split at h
    .cases h
    .split at h
     .cases h
     .rename_i H g i j;cases h;have c:=NV ((b.drop (pos+1)).take (2 ^ (x.toNat%32 - 24)));have:((b.drop (pos+1)).take (2 ^ (x.toNat%32 - 24))).length<=8:=by
       rw[bA];have:x.toNat%32 - 24=0\/x.toNat%32 - 24=1\/x.toNat%32 - 24=2\/x.toNat%32 - 24=3:=ag
       rcases this with e|e|e|e<;>rw[e]<;>omega
      have:=gn (n:=256) ag this;have H:1<=2 ^ (x.toNat%32 - 24):=Nat.one_le_two_pow;refine⟨ag,ag,?_,ag,d⟩
      calc _<_:=c
       _<=_:=this
       _=18446744073709551616:=dS
def nt(V:cG->Bool)(b:cG)(pos m n:Nat):Except Int (cG):=
 if n<=b.length - pos then(if m≠3\/V ((b.drop pos).take n)=true then .ok ((b.drop pos).take n)else .error 3)else .error 8
def vy(b:cG)(pos:Nat):Bool:=match b[pos]? with|some x=>decide (x.toNat=255)|none=>false
def FX(V:cG->Bool)(b:cG)(m:Nat):Nat->Nat->cG->Except Int (cG×Nat)
 |0,_,_=> .error 8
 |k+1,pos,a=>if vy b pos=true then .ok (a,pos+1)else match Fo b pos with
  | .error e=> .error e
  | .ok (M,n,o,c)=>if M=m/\o=false then(match nt V b c M n with| .error e=> .error e| .ok w=>FX V b m k (c+n) (a++w))else .error 3
def DX(V:cG->Bool)(b:cG)(pos m n:Nat)(o:Bool):Except Int (cG×Nat):=
 match o with
 |true=>FX V b m (b.length+1) pos []
 |false=>match nt V b pos m n with| .error e=> .error e| .ok w=> .ok (w,pos+n)
abbrev RF:=Nat->Nat->Except Int (Tr×Nat×Nat)
def x8(b:cG)(f:RF):Nat->Nat->Nat->List Tr->Except Int (List Tr×Nat×Nat)
 |0,_,_,_=> .error 8
 |k+1,pos,left,T=>if vy b pos=true then .ok (T,pos+1,left)else match f pos left with
  | .error e=> .error e
  | .ok (t,n,lf)=>x8 b f k n lf (T++ [t])
def vz(f:RF):Nat->Nat->Nat->List Tr->Except Int (List Tr×Nat×Nat)
 |0,pos,left,T=> .ok (T,pos,left)
 |k+1,pos,left,T=>match f pos left with
  | .error e=> .error e
  | .ok (t,n,lf)=>vz f k n lf (T++ [t])
def om(b:cG)(f:RF)(pos left n:Nat)(o:Bool):Except Int (List Tr×Nat×Nat):=
 match o with
 |true=>x8 b f (b.length+1) pos left []
 |false=>if n<=b.length - pos then vz f n pos left []else .error 8
def hO(V : cG -> Bool)(b : cG): Nat -> RF
  | lv, pos, left => match Fo b pos with
    | .error e => .error e
    | .ok (m, n, o, a) => if m = 0 \/ m = 2 \/ m = 3 \/ m = 4 then (match lv with
      | 0 => .error 9
      | lv + 1 => if left = 0 then .error 2 else if m = 0 then .ok (num n, a, left - 1)
        else if m = 4 then (match om b (hO V b lv) a (left - 1) n o with | .error e => .error e | .ok (t, p, lf) => .ok (sS t, p, lf))
        else (match DX V b a m n o with | .error e => .error e | .ok (w, p) => .ok (.mk m 0 w [], p, left - 1))) else .error 3
def mJ(V:cG->Bool)(b:cG):Except Int (Tr×Nat):=match hO V b 6 0 256 with| .error e=> .error e| .ok (t,n,_)=> .ok (t,n)
mutual
def room:Tr->Nat
 | .mk _ _ b l=>9+b.length+dJ l
def dJ:List Tr->Nat
 | []=>0
 |t::ts=>room t+dJ ts
end
-- Xd deep an item is
mutual
def deep:Tr->Nat
 | .mk _ _ _ l=>1+Kf l
def Kf:List Tr->Nat
 | []=>0
 |t::ts=>max (deep t) (Kf ts)
end
theorem iS{a b:List Tr}:dJ (a++b)=dJ a+dJ b:=by
 induction a with
 |nil=>simp[dJ]
 |cons t a i=>simp only[dk,dJ,i];omega
theorem sE{t:Tr}{l:List Tr}(h:t∈l):deep t<=Kf l:=by
 induction l with
 |nil=>cases h
 |cons u l i=>
  simp only[Kf];rcases bg.1 h with rfl|h
  .omega
  .have:=i h;omega
def x7(k:Int)(n:Nat)(b:cG)(l:List Tr):Nat:=if k=2\/k=3 then b.length else if k=4 then l.length else n
mutual
def enc:Tr->cG
 | .mk k n b l=>NU k (x7 k n b l)++b++yz l
def yz:List Tr->cG
 | []=> []
 |t::ts=>enc t++yz ts
end
mutual
theorem kV: ∀(t:Tr),(enc t).length<=room t
 | .mk k n b l=>by
  simp only[enc,room,List.length_append];have:=Ke k (x7 k n b l);have:=Ah l;omega
theorem Ah: ∀(l:List Tr),(yz l).length<=dJ l
 | []=>Nat.zero_le _
 |t::ts=>by
  simp only[yz,dJ,List.length_append];have:=kV t;have:=Ah ts;omega
end
theorem Ll(l:List Tr)(t:Tr):yz (l++ [t])=yz l++enc t:=by
 induction l with
 |nil=>simp[yz]
 |cons u l i=>simp only[dk,yz,i,eJ]
theorem Qr{V:cG->Bool}{b:cG}{m:Nat}: ∀(k pos:Nat)(a w:cG)(n:Nat),pos<=b.length->FX V b m k pos a=.ok (w,n)->w.length+pos<=a.length+n/\pos<n/\n<=b.length:=by
 intro k;induction k with
 |zero=>intro pos a w n _ h;cases h
 |succ k i=>
  intro pos a w n g h;unfold FX at h;split at h
  .rename_i c;cases h;unfold vy at c;split at c
   .rename_i x e;have:=(az.1 e).1;omega
   .cases c
  .split at h
   .cases h
   .rename_i M j o l d;have f:=wU d;split at h
    .split at h
     .cases h
     .rename_i v H;unfold nt at H;split at H
      .split at H
       .cases H;have:=i _ _ _ _ ag h;rw[aB,bA,bN]at this;omega
       .cases H
      .cases H
    .cases h
def Su(b:cG)(f:RF):Prop:= ∀pos left t n lf,pos<=b.length->f pos left=.ok (t,n,lf)->room t<=10*(n - pos)/\pos<n/\n<=b.length/\lf<=left
theorem NY{b:cG}{f:RF}(c:Su b f): ∀(k pos left:Nat)(T u:List Tr)(n lf:Nat),pos<=b.length->x8 b f k pos left T=.ok (u,n,lf)->dJ u+10*pos<=dJ T+10*n/\pos<=n/\n<=b.length/\lf<=left:=by
 intro k;induction k with
 |zero=>intro pos left T u n lf _ h;cases h
 |succ k i=>
  intro pos left T u n lf e h;unfold x8 at h;split at h
  .rename_i H;cases h;unfold vy at H;split at H
   .rename_i x g;have:=(az.1 g).1;omega
   .cases H
  .split at h
   .cases h
   .rename_i t m l d;have j:=c _ _ _ _ _ e d;have a:=i _ _ _ _ _ _ ag h;rw[iS]at a;simp only[dJ]at a;omega
theorem NZ{b:cG}{f:RF}(a:Su b f): ∀(k pos left:Nat)(T u:List Tr)(n lf:Nat),pos<=b.length->vz f k pos left T=.ok (u,n,lf)->dJ u+10*pos<=dJ T+10*n/\pos<=n/\n<=b.length/\lf<=left:=by
 intro k;induction k with
 |zero=>intro pos left T u n lf _ h;cases h;omega
 |succ k i=>
  intro pos left T u n lf d h;unfold vz at h;split at h
  .cases h
  .rename_i t g l c;have e:=a _ _ _ _ _ d c;have H:=i _ _ _ _ _ _ ag h;rw[iS]at H;simp only[dJ]at H;omega
theorem FY{V:cG->Bool}{B:cG}: ∀l,Su B (hO V B l):=by
 intro l;induction l with
 |zero=>
  intro pos left t a lf f h;unfold hO at h;split at h
  .cases h
  .split at h<;>cases h
 |succ l i=>
  intro pos left t a lf f h;unfold hO at h;split at h
  .cases h
  .rename_i m n o d e;have g:=wU e;split at h
   .dsimp only at h;split at h
    .cases h
    .split at h
     .cases h;simp only[room,dJ,bG];omega
     .split at h
      .split at h
       .cases h
       .rename_i T p L H;cases h;have:dJ T+10*d<=10*a/\d<=a/\a<=B.length/\lf<=left - 1:=by
         unfold om at H;split at H
         .have:=NY i _ _ _ _ _ _ _ ag H;simpa[dJ]using this
         .split at H
          .have:=NZ i _ _ _ _ _ _ _ ag H;simpa[dJ]using this
          .cases H
        simp only[room,bG];omega
      .split at h
       .cases h
       .rename_i w p b;cases h;have:w.length+d<=a/\d<=a/\a<=B.length:=by
         unfold DX at b;split at b
         .have:=Qr _ _ _ _ _ ag b;simp only[bG]at this;omega
         .split at b
          .cases b
          .rename_i v c;cases b;unfold nt at c;split at c
           .split at c
            .cases c;rw[bA,bN];omega
            .cases c
           .cases c
        simp only[room,dJ];omega
   .cases h
theorem DY{b:cG}{pos:Nat}{e:Int}(h:Fo b pos=.error e):e≠0:=by
 unfold Fo at h;repeat (first|decide|cases h|split at h)
theorem Ai{V:cG->Bool}{b:cG}{pos m n:Nat}{e:Int}(h:nt V b pos m n=.error e):e≠0:=by
 unfold nt at h;repeat (first|decide|cases h|split at h)
theorem N0{V:cG->Bool}{b:cG}{m:Nat}{e:Int}: ∀(k pos:Nat)(a:cG),FX V b m k pos a=.error e->e≠0:=by
 intro k;induction k with
 |zero=>intro pos a h;cases h;decide
 |succ k i=>
  intro pos a h;unfold FX at h;split at h
  .cases h
  .split at h
   .rename_i H;cases h;exact DY H
   .split at h
    .split at h
     .rename_i H;cases h;exact Ai H
     .exact i _ _ h
    .cases h;decide
def Wc(f:RF):Prop:= ∀pos left e,f pos left=.error e->e≠0
theorem Lm{b:cG}{f:RF}(a:Wc f){pos left n:Nat}{o:Bool}{e:Int}(h:om b f pos left n o=.error e):e≠0:=by
 have op: ∀(k pos left:Nat)(t:List Tr),x8 b f k pos left t=.error e->e≠0:=by
  intro k;induction k with
  |zero=>intro pos left t h;cases h;decide
  |succ k i=>
   intro pos left t h;unfold x8 at h;split at h
   .cases h
   .split at h
    .rename_i H;cases h;exact a _ _ _ H
    .exact i _ _ _ h
 have m: ∀(k pos left:Nat)(t:List Tr),vz f k pos left t=.error e->e≠0:=by
  intro k;induction k with
  |zero=>intro pos left t h;cases h
  |succ k i=>
   intro pos left t h;unfold vz at h;split at h
   .rename_i H;cases h;exact a _ _ _ H
   .exact i _ _ _ h
 unfold om at h;split at h
 .exact op _ _ _ _ h
 .split at h
  .exact m _ _ _ _ h
  .cases h;decide
theorem Lo{V:cG->Bool}{b:cG}: ∀l,Wc (hO V b l):=by
 intro l;induction l with
 |zero=>
  intro pos left e h;unfold hO at h;split at h
  .rename_i H;cases h;exact DY H
  .split at h<;>(cases h;decide)
 |succ l i=>
  intro pos left e h;unfold hO at h;split at h
  .rename_i H;cases h;exact DY H
  .split at h
   .dsimp only at h;split at h
    .cases h;decide
    .split at h
     .cases h
     .split at h
      .split at h
       .rename_i H;cases h;exact Lm i H
       .cases h
      .split at h
       .rename_i H;cases h;unfold DX at H;split at H
        .exact N0 _ _ _ H
        .split at H
         .rename_i a;cases H;exact Ai a
         .cases H
       .cases h
   .cases h;decide
theorem mX{V:cG->Bool}{b:cG}{e:Int}(h:mJ V b=.error e):e≠0:=by
 unfold mJ at h;split at h
 .rename_i H;cases h;exact Lo 6 _ _ _ H
 .cases h
theorem rH{V:cG->Bool}{b:cG}{t:Tr}{n:Nat}(h:mJ V b=.ok (t,n)):room t<=10*b.length/\n<=b.length:=by
 unfold mJ at h;split at h
 .cases h
 .rename_i t a lf H;cases h;have:=FY 6 _ _ _ _ _ (bQ _) H;omega
end Cb
end
abbrev Cl:=kL Tryz.prog
abbrev Ce:=iO Tryz.prog
abbrev Iu:List Nat:= [158,190,191,192,193,225]
abbrev aa.LD(h:ai)(a:Addr)(K:Int->Int->ct->Nat->Nat->ct->Nat->Nat->Prop):Prop:=kK h a λc=>gA h (a.add 1) λd=>oL h (a.add 2) λg f e=> ∃b T t,aU h (a.add 3)=some (.slice b T t)/\K c d g f e b T t
abbrev aa.ST(h:ai)(a:Addr)(f:Int)(F:Int)(d:ct)(c b:Nat)(i:ct)(g e:Nat)(K:ai->Prop):Prop:=aJ h a (.int .i64 f) λH=>aJ H (a.add 1) (.int .u64 F) λj=>aJ j (a.add 2) (.slice d c b) λk=>aJ k (a.add 3) (.slice i g e) λl=>K l
abbrev aR.LD(h:ai)(a:Addr)(K:Int->Bool->Int->Int->ByteArray->ByteArray->ct->Nat->Nat->Int->Int->Int->Prop):Prop:=kK h a λT=>uk h (a.add 1) λb=>gA h (a.add 2) λc=>gA h (a.add 3) λd=>oi h (a.add 4) λe=>oi h (a.add 5) λf=>oL h (a.add 6) λj i g=>gA h (a.add 7) λk=>kK h (a.add 8) λl=> ∃t,aU h (a.add 9)=some (.int .u64 t)/\K T b c d e f j i g k l t
abbrev aR.ST(h:ai)(a:Addr)(f:Int)(F:Bool)(b:Int)(c:Int)(d:ByteArray)(e:ByteArray)(j:ct)(i g:Nat)(k:Int)(l:Int)(m:Int)(K:ai->Prop):Prop:=aJ h a (.int .i64 f) λH=>aJ H (a.add 1) (.bool F) λo=>aJ o (a.add 2) (.int .u64 b) λp=>aJ p (a.add 3) (.int .u64 c) λq=>aJ q (a.add 4) (.string d) λr=>aJ r (a.add 5) (.string e) λs=>aJ s (a.add 6) (.slice j i g) λt=>aJ t (a.add 7) (.int .u64 k) λu=>aJ u (a.add 8) (.int .i64 l) λv=>aJ v (a.add 9) (.int .u64 m) λn=>K n
abbrev aw.LD(h:ai)(a:Addr)(K:Bool->Int->Int->ByteArray->ByteArray->Prop):Prop:=uk h a λT=>gA h (a.add 1) λb=>gA h (a.add 2) λc=>oi h (a.add 3) λd=> ∃t,aU h (a.add 4)=some (.string t)/\K T b c d t
abbrev bD.LD(h:ai)(a:Addr)(K:Int->Int->Bool->Prop):Prop:=kK h a λT=>gA h (a.add 1) λb=> ∃t,aU h (a.add 2)=some (.bool t)/\K T b t
abbrev bD.ST(h:ai)(a:Addr)(f:Int)(F:Int)(b:Bool)(K:ai->Prop):Prop:=aJ h a (.int .i64 f) λH=>aJ H (a.add 1) (.int .u64 F) λc=>aJ c (a.add 2) (.bool b) λd=>K d
abbrev ah.LD(h:ai)(a:Addr)(K:Bool->Int->Int->ByteArray->ByteArray->Int->Int->Prop):Prop:=uk h a λT=>gA h (a.add 1) λb=>gA h (a.add 2) λc=>oi h (a.add 3) λd=>oi h (a.add 4) λe=>gA h (a.add 5) λf=> ∃t,aU h (a.add 6)=some (.int .u64 t)/\K T b c d e f t
abbrev ah.ST(h:ai)(a:Addr)(f:Bool)(F:Int)(b:Int)(c:ByteArray)(d:ByteArray)(e:Int)(g:Int)(K:ai->Prop):Prop:=aJ h a (.bool f) λH=>aJ H (a.add 1) (.int .u64 F) λi=>aJ i (a.add 2) (.int .u64 b) λj=>aJ j (a.add 3) (.string c) λk=>aJ k (a.add 4) (.string d) λl=>aJ l (a.add 5) (.int .u64 e) λm=>aJ m (a.add 6) (.int .u64 g) λn=>K n
abbrev aI.LD(h:ai)(a:Addr)(K:Int->Int->ct->Nat->Nat->Int->Prop):Prop:=kK h a λT=>kK h (a.add 1) λb=>oL h (a.add 2) λe d c=> ∃t,aU h (a.add 3)=some (.int .u64 t)/\K T b e d c t
abbrev aI.ST(h:ai)(a:Addr)(f:Int)(F:Int)(d:ct)(c b:Nat)(e:Int)(K:ai->Prop):Prop:=aJ h a (.int .i64 f) λH=>aJ H (a.add 1) (.int .i64 F) λg=>aJ g (a.add 2) (.slice d c b) λi=>aJ i (a.add 3) (.int .u64 e) λj=>K j
abbrev bV.LD(h:ai)(a:Addr)(K:Bool->Int->Int->ByteArray->ByteArray->Int->Int->Prop):Prop:=uk h a λT=>gA h (a.add 1) λb=>gA h (a.add 2) λc=>oi h (a.add 3) λd=>oi h (a.add 4) λe=>kK h (a.add 5) λf=> ∃t,aU h (a.add 6)=some (.int .i64 t)/\K T b c d e f t
abbrev bV.ST(h:ai)(a:Addr)(f:Bool)(F:Int)(b:Int)(c:ByteArray)(d:ByteArray)(e:Int)(g:Int)(K:ai->Prop):Prop:=aJ h a (.bool f) λH=>aJ H (a.add 1) (.int .u64 F) λi=>aJ i (a.add 2) (.int .u64 b) λj=>aJ j (a.add 3) (.string c) λk=>aJ k (a.add 4) (.string d) λl=>aJ l (a.add 5) (.int .i64 e) λm=>aJ m (a.add 6) (.int .i64 g) λn=>K n
abbrev aq.LD(h:ai)(a:Addr)(K:Int->Int->Int->Int->Int->ct->Nat->Nat->Prop):Prop:=gA h a λc=>kK h (a.add 1) λd=>kK h (a.add 2) λe=>kK h (a.add 3) λf=>gA h (a.add 4) λg=> ∃b T t,aU h (a.add 5)=some (.slice b T t)/\K c d e f g b T t
abbrev aq.ST(h:ai)(a:Addr)(f:Int)(F:Int)(b:Int)(c:Int)(d:Int)(i:ct)(g e:Nat)(K:ai->Prop):Prop:=aJ h a (.int .u64 f) λH=>aJ H (a.add 1) (.int .i64 F) λj=>aJ j (a.add 2) (.int .i64 b) λk=>aJ k (a.add 3) (.int .i64 c) λl=>aJ l (a.add 4) (.int .u64 d) λm=>aJ m (a.add 5) (.slice i g e) λn=>K n
abbrev cp.LD(h:ai)(a:Addr)(K:Int->ct->Nat->Nat->Prop):Prop:=gA h a λc=> ∃b T t,aU h (a.add 1)=some (.slice b T t)/\K c b T t
abbrev cp.ST(h:ai)(a:Addr)(f:Int)(c:ct)(b F:Nat)(K:ai->Prop):Prop:=aJ h a (.int .u64 f) λH=>aJ H (a.add 1) (.slice c b F) λd=>K d
abbrev cI.LD(h:ai)(a:Addr)(K:Int->Int->Bool->Bool->ct->Nat->Nat->ct->Nat->Nat->Prop):Prop:=kK h a λc=>gA h (a.add 1) λd=>uk h (a.add 2) λe=>uk h (a.add 3) λf=>oL h (a.add 4) λj i g=> ∃b T t,aU h (a.add 5)=some (.slice b T t)/\K c d e f j i g b T t
abbrev cI.ST(h:ai)(a:Addr)(f:Int)(F:Int)(b:Bool)(c:Bool)(g:ct)(e d:Nat)(k:ct)(j i:Nat)(K:ai->Prop):Prop:=aJ h a (.int .i64 f) λH=>aJ H (a.add 1) (.int .u64 F) λl=>aJ l (a.add 2) (.bool b) λm=>aJ m (a.add 3) (.bool c) λn=>aJ n (a.add 4) (.slice g e d) λo=>aJ o (a.add 5) (.slice k j i) λp=>K p
structure cA.S where
 f0:Int
 f1:Int
 f2:Bool
 f3:Int
 f4:Int
 f5:ByteArray
 f6:ByteArray
 f7:Bool
 f8:Int
 f9:Int
 f10:ByteArray
 f11:ByteArray
 f12:Bool
 f13:Int
 f14:Int
 f15:ByteArray
 f16:ByteArray
 f17:Int
 f18:Int
 f19:Int
 Qs:ct
 Iv:Nat
 Qt:Nat
 f21:ct
 U7:ct
 U9:Nat
 Va:Nat
abbrev cA.S.l(x:cA.S):List Value:= [.int .u64 x.f0,.int .i64 x.f1,.bool x.f2,.int .u64 x.f3,.int .u64 x.f4,.string x.f5,.string x.f6,.bool x.f7,.int .u64 x.f8,.int .u64 x.f9,.string x.f10,.string x.f11,.bool x.f12,.int .u64 x.f13,.int .u64 x.f14,.string x.f15,.string x.f16,.int .u64 x.f17,.int .u64 x.f18,.int .u64 x.f19,.slice x.Qs x.Iv x.Qt,.pointer x.f21,.slice x.U7 x.U9 x.Va]
abbrev cA.S.arr(x:cA.S):Array Value:=x.l.toArray
abbrev cA.S.agg(x:cA.S):Value:=.agg x.arr
abbrev cA.S.z:cA.S:=⟨0,0,false,0,0,(⟨#[]⟩:ByteArray),(⟨#[]⟩:ByteArray),false,0,0,(⟨#[]⟩:ByteArray),(⟨#[]⟩:ByteArray),false,0,0,(⟨#[]⟩:ByteArray),(⟨#[]⟩:ByteArray),0,0,0,none,0,0,none,none,0,0⟩ abbrev cA.NW (h:ai) (K:Nat->ai->Prop):Prop:=bf h (.cells cA.S.z.arr 162) K
abbrev cA.EX(K:cA.S->Prop):Prop:= ∃t T k s u v w x y z a b c d e f g h i j n m l o r q p,K ⟨t,T,k,s,u,v,w,x,y,z,a,b,c,d,e,f,g,h,i,j,n,m,l,o,r,q,p⟩
abbrev cA.cC(h:ai)(a:Addr)(K:cA.S->Prop):Prop:=gA h a λc=>kK h (a.add 1) λd=>uk h (a.add 2) λp=>gA h (a.add 3) λv=>gA h (a.add 4) λw=>oi h (a.add 5) λx=>oi h (a.add 6) λy=>uk h (a.add 7) λz=>gA h (a.add 8) λA=>gA h (a.add 9) λB=>oi h (a.add 10) λe=>oi h (a.add 11) λf=>uk h (a.add 12) λg=>gA h (a.add 13) λi=>gA h (a.add 14) λj=>oi h (a.add 15) λk=>oi h (a.add 16) λl=>gA h (a.add 17) λm=>gA h (a.add 18) λn=>gA h (a.add 19) λo=>oL h (a.add 20) λs r q=>zX h (a.add 21) λu=> ∃b T t,aU h (a.add 22)=some (.slice b T t)/\K ⟨c,d,p,v,w,x,y,z,A,B,e,f,g,i,j,k,l,m,n,o,s,r,q,u,b,T,t⟩
structure ck.S where
 f0:Int
 f1:Int
 f2:Bool
 f3:Int
 f4:Int
 f5:ByteArray
 f6:ByteArray
 f7:Bool
 f8:Int
 f9:Int
 f10:ByteArray
 f11:ByteArray
 f12:Int
 f13:Int
 f14:Int
 Qu:ct
 N1:Nat
 Qv:Nat
 f16:Int
 f17:Int
 f18:Bool
 f19:ct
 f20:Int
abbrev ck.S.l(x:ck.S):List Value:= [.int .u64 x.f0,.int .i64 x.f1,.bool x.f2,.int .u64 x.f3,.int .u64 x.f4,.string x.f5,.string x.f6,.bool x.f7,.int .u64 x.f8,.int .u64 x.f9,.string x.f10,.string x.f11,.int .i64 x.f12,.int .i64 x.f13,.int .i64 x.f14,.slice x.Qu x.N1 x.Qv,.int .u64 x.f16,.int .u64 x.f17,.bool x.f18,.pointer x.f19,.int .i64 x.f20]
abbrev ck.S.arr(x:ck.S):Array Value:=x.l.toArray
abbrev ck.S.agg(x:ck.S):Value:=.agg x.arr
abbrev ck.S.z:ck.S:=⟨0,0,false,0,0,(⟨#[]⟩:ByteArray),(⟨#[]⟩:ByteArray),false,0,0,(⟨#[]⟩:ByteArray),(⟨#[]⟩:ByteArray),0,0,0,none,0,0,0,0,false,none,0⟩ abbrev ck.NW (h:ai) (K:Nat->ai->Prop):Prop:=bf h (.cells ck.S.z.arr 149) K
abbrev ck.EX(K:ck.S->Prop):Prop:= ∃t T m o p q r s u v a b c d e h g f i j k l n,K ⟨t,T,m,o,p,q,r,s,u,v,a,b,c,d,e,h,g,f,i,j,k,l,n⟩
abbrev ck.cC(h:ai)(a:Addr)(K:ck.S->Prop):Prop:=gA h a λT=>kK h (a.add 1) λb=>uk h (a.add 2) λp=>gA h (a.add 3) λq=>gA h (a.add 4) λr=>oi h (a.add 5) λs=>oi h (a.add 6) λu=>uk h (a.add 7) λv=>gA h (a.add 8) λw=>gA h (a.add 9) λx=>oi h (a.add 10) λc=>oi h (a.add 11) λd=>kK h (a.add 12) λe=>kK h (a.add 13) λf=>kK h (a.add 14) λg=>oL h (a.add 15) λk j i=>gA h (a.add 16) λl=>gA h (a.add 17) λm=>uk h (a.add 18) λn=>zX h (a.add 19) λo=> ∃t,aU h (a.add 20)=some (.int .i64 t)/\K ⟨T,b,p,q,r,s,u,v,w,x,c,d,e,f,g,k,j,i,l,m,n,o,t⟩
structure ak.S where
 f0:Int
 f1:Int
 f2:Bool
 f3:Int
 f4:Int
 f5:ByteArray
 f6:ByteArray
 f7:Bool
 f8:Int
 f9:Int
 f10:ByteArray
 f11:ByteArray
 f12:Bool
 f13:Int
 f14:Int
 f15:ByteArray
 f16:ByteArray
 f17:Int
 f18:Int
 f19:Int
 Qs:ct
 Iv:Nat
 Qt:Nat
abbrev ak.S.l(x:ak.S):List Value:= [.int .u64 x.f0,.int .i64 x.f1,.bool x.f2,.int .u64 x.f3,.int .u64 x.f4,.string x.f5,.string x.f6,.bool x.f7,.int .u64 x.f8,.int .u64 x.f9,.string x.f10,.string x.f11,.bool x.f12,.int .u64 x.f13,.int .u64 x.f14,.string x.f15,.string x.f16,.int .u64 x.f17,.int .u64 x.f18,.int .u64 x.f19,.slice x.Qs x.Iv x.Qt]
abbrev ak.S.arr(x:ak.S):Array Value:=x.l.toArray
abbrev ak.S.agg(x:ak.S):Value:=.agg x.arr
abbrev ak.S.z:ak.S:=⟨0,0,false,0,0,(⟨#[]⟩:ByteArray),(⟨#[]⟩:ByteArray),false,0,0,(⟨#[]⟩:ByteArray),(⟨#[]⟩:ByteArray),false,0,0,(⟨#[]⟩:ByteArray),(⟨#[]⟩:ByteArray),0,0,0,none,0,0⟩ abbrev ak.NW (h:ai) (K:Nat->ai->Prop):Prop:=bf h (.cells ak.S.z.arr 158) K
abbrev ak.EX(K:ak.S->Prop):Prop:= ∃t T k o p q r s u v a b c d e f g h i j n m l,K ⟨t,T,k,o,p,q,r,s,u,v,a,b,c,d,e,f,g,h,i,j,n,m,l⟩
abbrev ak.cC(h:ai)(a:Addr)(K:ak.S->Prop):Prop:=gA h a λc=>kK h (a.add 1) λd=>uk h (a.add 2) λp=>gA h (a.add 3) λq=>gA h (a.add 4) λr=>oi h (a.add 5) λs=>oi h (a.add 6) λu=>uk h (a.add 7) λv=>gA h (a.add 8) λw=>gA h (a.add 9) λx=>oi h (a.add 10) λe=>oi h (a.add 11) λf=>uk h (a.add 12) λg=>gA h (a.add 13) λi=>gA h (a.add 14) λj=>oi h (a.add 15) λk=>oi h (a.add 16) λl=>gA h (a.add 17) λm=>gA h (a.add 18) λn=>gA h (a.add 19) λo=> ∃b T t,aU h (a.add 20)=some (.slice b T t)/\K ⟨c,d,p,q,r,s,u,v,w,x,e,f,g,i,j,k,l,m,n,o,b,T,t⟩
abbrev ak.du(h:ai)(a:Addr)(x:ak.S)(K:ai->Prop):Prop:=dV a x.l 0 h K
structure ay.S where
 f0:Int
 f1:Int
 f2:Int
 f3:Int
 Lp:ct
 Lq:Nat
 Lr:Nat
abbrev ay.S.l(x:ay.S):List Value:= [.int .u64 x.f0,.int .u64 x.f1,.int .u64 x.f2,.int .i64 x.f3,.slice x.Lp x.Lq x.Lr]
abbrev ay.S.arr(x:ay.S):Array Value:=x.l.toArray
abbrev ay.S.agg(x:ay.S):Value:=.agg x.arr
abbrev ay.S.z:ay.S:=⟨0,0,0,0,none,0,0⟩ abbrev ay.NW (h:ai) (K:Nat->ai->Prop):Prop:=bf h (.cells ay.S.z.arr 204) K
abbrev ay.EX(K:ay.S->Prop):Prop:= ∃t T a b e d c,K ⟨t,T,a,b,e,d,c⟩
abbrev ay.cC(h:ai)(a:Addr)(K:ay.S->Prop):Prop:=gA h a λc=>gA h (a.add 1) λd=>gA h (a.add 2) λe=>kK h (a.add 3) λf=> ∃b T t,aU h (a.add 4)=some (.slice b T t)/\K ⟨c,d,e,f,b,T,t⟩
abbrev ay.du(h:ai)(a:Addr)(x:ay.S)(K:ai->Prop):Prop:=dV a x.l 0 h K
structure aa.S where
 f0:Int
 f1:Int
 Vc:ct
 UM:Nat
 Vd:Nat
 Sv:ct
 Fq:Nat
 Qf:Nat
abbrev aa.S.l(x:aa.S):List Value:= [.int .i64 x.f0,.int .u64 x.f1,.slice x.Vc x.UM x.Vd,.slice x.Sv x.Fq x.Qf]
abbrev aa.S.arr(x:aa.S):Array Value:=x.l.toArray
abbrev aa.S.agg(x:aa.S):Value:=.agg x.arr
abbrev aa.S.z:aa.S:=⟨0,0,none,0,0,none,0,0⟩ abbrev aa.NW (h:ai) (K:Nat->ai->Prop):Prop:=bf h (.cells aa.S.z.arr 198) K
abbrev aa.EX(K:aa.S->Prop):Prop:= ∃t T c b a f e d,K ⟨t,T,c,b,a,f,e,d⟩
abbrev aa.cC(h:ai)(a:Addr)(K:aa.S->Prop):Prop:=kK h a λc=>gA h (a.add 1) λd=>oL h (a.add 2) λg f e=> ∃b T t,aU h (a.add 3)=some (.slice b T t)/\K ⟨c,d,g,f,e,b,T,t⟩
abbrev aa.du(h:ai)(a:Addr)(x:aa.S)(K:ai->Prop):Prop:=dV a x.l 0 h K
structure aR.S where
 f0:Int
 f1:Bool
 f2:Int
 f3:Int
 f4:ByteArray
 f5:ByteArray
 HT:ct
 Wd:Nat
 We:Nat
 f7:Int
 f8:Int
 f9:Int
abbrev aR.S.l(x:aR.S):List Value:= [.int .i64 x.f0,.bool x.f1,.int .u64 x.f2,.int .u64 x.f3,.string x.f4,.string x.f5,.slice x.HT x.Wd x.We,.int .u64 x.f7,.int .i64 x.f8,.int .u64 x.f9]
abbrev aR.S.arr(x:aR.S):Array Value:=x.l.toArray
abbrev aR.S.agg(x:aR.S):Value:=.agg x.arr
abbrev aR.S.z:aR.S:=⟨0,false,0,0,(⟨#[]⟩:ByteArray),(⟨#[]⟩:ByteArray),none,0,0,0,0,0⟩ abbrev aR.NW (h:ai) (K:Nat->ai->Prop):Prop:=bf h (.cells aR.S.z.arr 168) K
abbrev aR.EX(K:aR.S->Prop):Prop:= ∃t T a b c d g f e h i j,K ⟨t,T,a,b,c,d,g,f,e,h,i,j⟩
abbrev aR.cC(h:ai)(a:Addr)(K:aR.S->Prop):Prop:=kK h a λT=>uk h (a.add 1) λb=>gA h (a.add 2) λc=>gA h (a.add 3) λd=>oi h (a.add 4) λe=>oi h (a.add 5) λf=>oL h (a.add 6) λj i g=>gA h (a.add 7) λk=>kK h (a.add 8) λl=> ∃t,aU h (a.add 9)=some (.int .u64 t)/\K ⟨T,b,c,d,e,f,j,i,g,k,l,t⟩
abbrev aR.du(h:ai)(a:Addr)(x:aR.S)(K:ai->Prop):Prop:=dV a x.l 0 h K
structure aw.S where
 f0:Bool
 f1:Int
 f2:Int
 f3:ByteArray
 f4:ByteArray
abbrev aw.S.l(x:aw.S):List Value:= [.bool x.f0,.int .u64 x.f1,.int .u64 x.f2,.string x.f3,.string x.f4]
abbrev aw.S.arr(x:aw.S):Array Value:=x.l.toArray
abbrev aw.S.agg(x:aw.S):Value:=.agg x.arr
abbrev aw.S.z:aw.S:=⟨false,0,0,(⟨#[]⟩:ByteArray),(⟨#[]⟩:ByteArray)⟩ abbrev aw.NW (h:ai) (K:Nat->ai->Prop):Prop:=bf h (.cells aw.S.z.arr 29) K
abbrev aw.EX(K:aw.S->Prop):Prop:= ∃t T a b c,K ⟨t,T,a,b,c⟩
abbrev aw.cC(h:ai)(a:Addr)(K:aw.S->Prop):Prop:=uk h a λT=>gA h (a.add 1) λb=>gA h (a.add 2) λc=>oi h (a.add 3) λd=> ∃t,aU h (a.add 4)=some (.string t)/\K ⟨T,b,c,d,t⟩
abbrev aw.du(h:ai)(a:Addr)(x:aw.S)(K:ai->Prop):Prop:=dV a x.l 0 h K
structure aM.S where
 f0:Int
 f1:Int
 f2:Int
 f3:Int
 f4:Int
 f5:Int
 f6:Bool
 f7:Int
 f8:Int
 f9:ByteArray
 f10:ByteArray
 f11:Bool
 f12:Int
 f13:Int
 f14:ByteArray
 f15:ByteArray
 f16:Int
 f17:Int
 f18:Int
 FZ:ct
 F0:Nat
 Ga:Nat
 f20:Int
 f21:Int
 f22:Bool
 Gb:ct
 Gc:Nat
 Gd:Nat
abbrev aM.S.l(x:aM.S):List Value:= [.int .u64 x.f0,.int .i64 x.f1,.int .u64 x.f2,.int .i64 x.f3,.int .u64 x.f4,.int .i64 x.f5,.bool x.f6,.int .u64 x.f7,.int .u64 x.f8,.string x.f9,.string x.f10,.bool x.f11,.int .u64 x.f12,.int .u64 x.f13,.string x.f14,.string x.f15,.int .i64 x.f16,.int .i64 x.f17,.int .i64 x.f18,.slice x.FZ x.F0 x.Ga,.int .u64 x.f20,.int .u64 x.f21,.bool x.f22,.slice x.Gb x.Gc x.Gd]
abbrev aM.S.arr(x:aM.S):Array Value:=x.l.toArray
abbrev aM.S.agg(x:aM.S):Value:=.agg x.arr
abbrev aM.S.z:aM.S:=⟨0,0,0,0,0,0,false,0,0,(⟨#[]⟩:ByteArray),(⟨#[]⟩:ByteArray),false,0,0,(⟨#[]⟩:ByteArray),(⟨#[]⟩:ByteArray),0,0,0,none,0,0,0,0,false,none,0,0⟩ abbrev aM.NW (h:ai) (K:Nat->ai->Prop):Prop:=bf h (.cells aM.S.z.arr 37) K
abbrev aM.EX(K:aM.S->Prop):Prop:= ∃t T m u v w x y z A a b c d e f g h i l k j n o p s r q,K ⟨t,T,m,u,v,w,x,y,z,A,a,b,c,d,e,f,g,h,i,l,k,j,n,o,p,s,r,q⟩
abbrev aM.cC(h:ai)(a:Addr)(K:aM.S->Prop):Prop:=gA h a λc=>kK h (a.add 1) λd=>gA h (a.add 2) λr=>kK h (a.add 3) λw=>gA h (a.add 4) λx=>kK h (a.add 5) λy=>uk h (a.add 6) λz=>gA h (a.add 7) λA=>gA h (a.add 8) λB=>oi h (a.add 9) λC=>oi h (a.add 10) λe=>uk h (a.add 11) λf=>gA h (a.add 12) λg=>gA h (a.add 13) λi=>oi h (a.add 14) λj=>oi h (a.add 15) λk=>kK h (a.add 16) λl=>kK h (a.add 17) λm=>kK h (a.add 18) λn=>oL h (a.add 19) λq p o=>gA h (a.add 20) λs=>gA h (a.add 21) λu=>uk h (a.add 22) λv=> ∃b T t,aU h (a.add 23)=some (.slice b T t)/\K ⟨c,d,r,w,x,y,z,A,B,C,e,f,g,i,j,k,l,m,n,q,p,o,s,u,v,b,T,t⟩
abbrev aM.du(h:ai)(a:Addr)(x:aM.S)(K:ai->Prop):Prop:=dV a x.l 0 h K
structure ah.S where
 f0:Bool
 f1:Int
 f2:Int
 f3:ByteArray
 f4:ByteArray
 f5:Int
 f6:Int
abbrev ah.S.l(x:ah.S):List Value:= [.bool x.f0,.int .u64 x.f1,.int .u64 x.f2,.string x.f3,.string x.f4,.int .u64 x.f5,.int .u64 x.f6]
abbrev ah.S.arr(x:ah.S):Array Value:=x.l.toArray
abbrev ah.S.agg(x:ah.S):Value:=.agg x.arr
abbrev ah.S.z:ah.S:=⟨false,0,0,(⟨#[]⟩:ByteArray),(⟨#[]⟩:ByteArray),0,0⟩ abbrev ah.NW (h:ai) (K:Nat->ai->Prop):Prop:=bf h (.cells ah.S.z.arr 82) K
abbrev ah.EX(K:ah.S->Prop):Prop:= ∃t T a b c d e,K ⟨t,T,a,b,c,d,e⟩
abbrev ah.cC(h:ai)(a:Addr)(K:ah.S->Prop):Prop:=uk h a λT=>gA h (a.add 1) λb=>gA h (a.add 2) λc=>oi h (a.add 3) λd=>oi h (a.add 4) λe=>gA h (a.add 5) λf=> ∃t,aU h (a.add 6)=some (.int .u64 t)/\K ⟨T,b,c,d,e,f,t⟩
abbrev ah.du(h:ai)(a:Addr)(x:ah.S)(K:ai->Prop):Prop:=dV a x.l 0 h K
structure aI.S where
 f0:Int
 f1:Int
 Vc:ct
 UM:Nat
 Vd:Nat
 f3:Int
abbrev aI.S.l(x:aI.S):List Value:= [.int .i64 x.f0,.int .i64 x.f1,.slice x.Vc x.UM x.Vd,.int .u64 x.f3]
abbrev aI.S.arr(x:aI.S):Array Value:=x.l.toArray
abbrev aI.S.agg(x:aI.S):Value:=.agg x.arr
abbrev aI.S.z:aI.S:=⟨0,0,none,0,0,0⟩ abbrev aI.NW (h:ai) (K:Nat->ai->Prop):Prop:=bf h (.cells aI.S.z.arr 117) K
abbrev aI.EX(K:aI.S->Prop):Prop:= ∃t T c b a d,K ⟨t,T,c,b,a,d⟩
abbrev aI.du(h:ai)(a:Addr)(x:aI.S)(K:ai->Prop):Prop:=dV a x.l 0 h K
structure aE.S where
 f0:Int
 f1:Int
 f2:Bool
 f3:Int
 f4:Int
 f5:ByteArray
 f6:ByteArray
 f7:Bool
 f8:Int
 f9:Int
 f10:ByteArray
 f11:ByteArray
 f12:Bool
 f13:Int
 f14:Int
 f15:ByteArray
 f16:ByteArray
 f17:Int
 f18:Int
 f19:Int
abbrev aE.S.l(x:aE.S):List Value:= [.int .u64 x.f0,.int .i64 x.f1,.bool x.f2,.int .u64 x.f3,.int .u64 x.f4,.string x.f5,.string x.f6,.bool x.f7,.int .u64 x.f8,.int .u64 x.f9,.string x.f10,.string x.f11,.bool x.f12,.int .u64 x.f13,.int .u64 x.f14,.string x.f15,.string x.f16,.int .u64 x.f17,.int .u64 x.f18,.int .u64 x.f19]
abbrev aE.S.arr(x:aE.S):Array Value:=x.l.toArray
abbrev aE.S.agg(x:aE.S):Value:=.agg x.arr
abbrev aE.S.z:aE.S:=⟨0,0,false,0,0,(⟨#[]⟩:ByteArray),(⟨#[]⟩:ByteArray),false,0,0,(⟨#[]⟩:ByteArray),(⟨#[]⟩:ByteArray),false,0,0,(⟨#[]⟩:ByteArray),(⟨#[]⟩:ByteArray),0,0,0⟩ abbrev aE.NW (h:ai) (K:Nat->ai->Prop):Prop:=bf h (.cells aE.S.z.arr 155) K
abbrev aE.EX(K:aE.S->Prop):Prop:= ∃t T k l m n o p q r a b c d e f g h i j,K ⟨t,T,k,l,m,n,o,p,q,r,a,b,c,d,e,f,g,h,i,j⟩
abbrev aE.cC(h:ai)(a:Addr)(K:aE.S->Prop):Prop:=gA h a λT=>kK h (a.add 1) λb=>uk h (a.add 2) λm=>gA h (a.add 3) λn=>gA h (a.add 4) λo=>oi h (a.add 5) λp=>oi h (a.add 6) λq=>uk h (a.add 7) λr=>gA h (a.add 8) λs=>gA h (a.add 9) λu=>oi h (a.add 10) λc=>oi h (a.add 11) λd=>uk h (a.add 12) λe=>gA h (a.add 13) λf=>gA h (a.add 14) λg=>oi h (a.add 15) λi=>oi h (a.add 16) λj=>gA h (a.add 17) λk=>gA h (a.add 18) λl=> ∃t,aU h (a.add 19)=some (.int .u64 t)/\K ⟨T,b,m,n,o,p,q,r,s,u,c,d,e,f,g,i,j,k,l,t⟩
abbrev aE.du(h:ai)(a:Addr)(x:aE.S)(K:ai->Prop):Prop:=dV a x.l 0 h K
structure aq.S where
 f0:Int
 f1:Int
 f2:Int
 f3:Int
 f4:Int
 TR:ct
 f5l:Nat
 TT:Nat
abbrev aq.S.l(x:aq.S):List Value:= [.int .u64 x.f0,.int .i64 x.f1,.int .i64 x.f2,.int .i64 x.f3,.int .u64 x.f4,.slice x.TR x.f5l x.TT]
abbrev aq.S.arr(x:aq.S):Array Value:=x.l.toArray
abbrev aq.S.agg(x:aq.S):Value:=.agg x.arr
abbrev aq.S.z:aq.S:=⟨0,0,0,0,0,none,0,0⟩ abbrev aq.NW (h:ai) (K:Nat->ai->Prop):Prop:=bf h (.cells aq.S.z.arr 40) K
abbrev aq.EX(K:aq.S->Prop):Prop:= ∃t T a b c f e d,K ⟨t,T,a,b,c,f,e,d⟩
abbrev aq.cC(h:ai)(a:Addr)(K:aq.S->Prop):Prop:=gA h a λc=>kK h (a.add 1) λd=>kK h (a.add 2) λe=>kK h (a.add 3) λf=>gA h (a.add 4) λg=> ∃b T t,aU h (a.add 5)=some (.slice b T t)/\K ⟨c,d,e,f,g,b,T,t⟩
abbrev aq.du(h:ai)(a:Addr)(x:aq.S)(K:ai->Prop):Prop:=dV a x.l 0 h K
structure aK.S where
 f0:Bool
 f1:Bool
 f2:Bool
 f3:Int
 f4:Int
 f5:Bool
 f6:Int
 f7:Int
 f8:ByteArray
 f9:ByteArray
 f10:Int
 f11:Int
abbrev aK.S.l(x:aK.S):List Value:= [.bool x.f0,.bool x.f1,.bool x.f2,.int .u64 x.f3,.int .u64 x.f4,.bool x.f5,.int .u64 x.f6,.int .u64 x.f7,.string x.f8,.string x.f9,.int .u64 x.f10,.int .u64 x.f11]
abbrev aK.S.arr(x:aK.S):Array Value:=x.l.toArray
abbrev aK.S.agg(x:aK.S):Value:=.agg x.arr
abbrev aK.S.z:aK.S:=⟨false,false,false,0,0,false,0,0,(⟨#[]⟩:ByteArray),(⟨#[]⟩:ByteArray),0,0⟩ abbrev aK.NW (h:ai) (K:Nat->ai->Prop):Prop:=bf h (.cells aK.S.z.arr 211) K
abbrev aK.EX(K:aK.S->Prop):Prop:= ∃t T c d e f g h i j a b,K ⟨t,T,c,d,e,f,g,h,i,j,a,b⟩
abbrev aK.cC(h:ai)(a:Addr)(K:aK.S->Prop):Prop:=uk h a λT=>uk h (a.add 1) λb=>uk h (a.add 2) λd=>gA h (a.add 3) λe=>gA h (a.add 4) λf=>uk h (a.add 5) λg=>gA h (a.add 6) λi=>gA h (a.add 7) λj=>oi h (a.add 8) λk=>oi h (a.add 9) λl=>gA h (a.add 10) λc=> ∃t,aU h (a.add 11)=some (.int .u64 t)/\K ⟨T,b,d,e,f,g,i,j,k,l,c,t⟩
abbrev aK.du(h:ai)(a:Addr)(x:aK.S)(K:ai->Prop):Prop:=dV a x.l 0 h K
structure aF.S where
 f0:Int
 f1:Int
 f2:Bool
 f3:Int
 f4:Int
 f5:ByteArray
 f6:ByteArray
 f7:Bool
 f8:Int
 f9:Int
 f10:ByteArray
 f11:ByteArray
 f12:Int
 f13:Int
 f14:Int
 Qu:ct
 N1:Nat
 Qv:Nat
 f16:Int
 f17:Int
 f18:Bool
abbrev aF.S.l(x:aF.S):List Value:= [.int .u64 x.f0,.int .i64 x.f1,.bool x.f2,.int .u64 x.f3,.int .u64 x.f4,.string x.f5,.string x.f6,.bool x.f7,.int .u64 x.f8,.int .u64 x.f9,.string x.f10,.string x.f11,.int .i64 x.f12,.int .i64 x.f13,.int .i64 x.f14,.slice x.Qu x.N1 x.Qv,.int .u64 x.f16,.int .u64 x.f17,.bool x.f18]
abbrev aF.S.arr(x:aF.S):Array Value:=x.l.toArray
abbrev aF.S.agg(x:aF.S):Value:=.agg x.arr
abbrev aF.S.z:aF.S:=⟨0,0,false,0,0,(⟨#[]⟩:ByteArray),(⟨#[]⟩:ByteArray),false,0,0,(⟨#[]⟩:ByteArray),(⟨#[]⟩:ByteArray),0,0,0,none,0,0,0,0,false⟩ abbrev aF.NW (h:ai) (K:Nat->ai->Prop):Prop:=bf h (.cells aF.S.z.arr 35) K
abbrev aF.EX(K:aF.S->Prop):Prop:= ∃t T l m n o p q r s a b c d e h g f i j k,K ⟨t,T,l,m,n,o,p,q,r,s,a,b,c,d,e,h,g,f,i,j,k⟩
abbrev aF.cC(h:ai)(a:Addr)(K:aF.S->Prop):Prop:=gA h a λT=>kK h (a.add 1) λb=>uk h (a.add 2) λn=>gA h (a.add 3) λo=>gA h (a.add 4) λp=>oi h (a.add 5) λq=>oi h (a.add 6) λr=>uk h (a.add 7) λs=>gA h (a.add 8) λu=>gA h (a.add 9) λv=>oi h (a.add 10) λc=>oi h (a.add 11) λd=>kK h (a.add 12) λe=>kK h (a.add 13) λf=>kK h (a.add 14) λg=>oL h (a.add 15) λk j i=>gA h (a.add 16) λl=>gA h (a.add 17) λm=> ∃t,aU h (a.add 18)=some (.bool t)/\K ⟨T,b,n,o,p,q,r,s,u,v,c,d,e,f,g,k,j,i,l,m,t⟩
abbrev aF.du(h:ai)(a:Addr)(x:aF.S)(K:ai->Prop):Prop:=dV a x.l 0 h K

section
variable {h:ai} {R:fO}
variable {b j i p o Wf Wg N4 N7 Lq Lr f5l l t r:Nat} {f F g0 g1 d g2 c g n g3 g5 g6 u v w:Int} {k q Wh N8 Lp m HT:ct} {K:Nat->ai->Prop} {a:Addr} {e g4 s:ByteArray}
def aa.at(h:ai)(b:Nat)(f:Int)(F:Int)(k:ct)(j i:Nat)(q:ct)(p o:Nat):Prop:=h[b]? =some (.cells #[.int .i64 f,.int .u64 F,.slice k j i,.slice q p o] 198 (0,0))
theorem aa.ld{K:Int->Int->ct->Nat->Nat->ct->Nat->Nat->Prop}(H:aa.at h b f F k j i q p o)(x:K f F k j i q p o):aa.LD h (AA b 0) K:=
 ⟨_,au H,_,au H,_,_,_,au H,_,_,_,au H,x⟩
theorem aa.DZ{K:Int->Int->ct->Nat->Nat->ct->Nat->Nat->Prop}(H:dN a [.I f,.U F,.L k j i,.L q p o] 0 h)(x:K f F k j i q p o):aa.LD h a K:=by
 obtain⟨Q,y,z,A,_⟩:=H;rw[fy]at Q;exact⟨_,Q,_,y,_,_,_,z,_,_,_,A,x⟩
theorem aa.held(H:aa.at h b f F k j i q p o):dN (AA b 0) [.I f,.U F,.L k j i,.L q p o] 0 h:=
 gH H (λJ V x=>by rw[bK];simpa using x)
theorem aa.D0{K:ai->Prop}(H:dV a [.I f,.U F,.L k j i,.L q p o] 0 h K):aa.ST h a f F k j i q p o K:=H
theorem aa.new(y: ∀b H,b=h.size->aa.at H b f F k j i q p o->Fr No h H->K b H):bf h (.C #[.I 0,.U 0,.Z,.Z] 198) λb x=>aa.ST x (AA b 0) f F k j i q p o (K b):=
 gz (vs:= [.I f,.U F,.L k j i,.L q p o]) rfl rfl y
theorem aa.box(y: ∀b H,b=h.size->aa.at H b f F k j i q p o->Fr No h H->K b H):bf h (.C #[.I f,.U F,.L k j i,.L q p o] 198) λb x=>K b x:=
 cT (y _ _ rfl bZ (Fr.push _ _))
theorem aa.set{z:ct}{y G:Nat}{K:ai->Prop}(A:aa.at h b g0 g1 Wh Wf Wg z y G)(B: ∀H,aa.at H b f F k j i q p o->H.size=h.size->(∀x,x≠b->H[x]? =h[x]?)->K H):aa.ST h (AA b 0) f F k j i q p o K:=
 aa.D0 (ft A rfl rfl B)
def bD.at(h:ai)(b:Nat)(f:Int)(F:Int)(d:Bool):Prop:=h[b]? =some (.cells #[.int .i64 f,.int .u64 F,.bool d] 299 (0,0))
theorem bD.ld{d:Bool}{K:Int->Int->Bool->Prop}(H:bD.at h b f F d)(x:K f F d):bD.LD h (AA b 0) K:=
 ⟨_,au H,_,au H,_,au H,x⟩
theorem bD.D0{d:Bool}{K:ai->Prop}(H:dV a [.I f,.U F,.B d] 0 h K):bD.ST h a f F d K:=H
theorem bD.new{d:Bool}(y: ∀b H,b=h.size->bD.at H b f F d->Fr No h H->K b H):bf h (.C #[.I 0,.U 0,.B false] 299) λb x=>bD.ST x (AA b 0) f F d (K b):=
 gz (vs:= [.I f,.U F,.B d]) rfl rfl y
theorem bD.box{d:Bool}(y: ∀b H,b=h.size->bD.at H b f F d->Fr No h H->K b H):bf h (.C #[.I f,.U F,.B d] 299) λb x=>K b x:=
 cT (y _ _ rfl bZ (Fr.push _ _))
theorem bD.set{g2:Bool}{d:Bool}{K:ai->Prop}(A:bD.at h b g0 g1 g2)(y: ∀H,bD.at H b f F d->H.size=h.size->(∀x,x≠b->H[x]? =h[x]?)->K H):bD.ST h (AA b 0) f F d K:=
 bD.D0 (ft A rfl rfl y)
def ah.at(h:ai)(b:Nat)(f:Bool)(F:Int)(d:Int)(c:ByteArray)(e:ByteArray)(g:Int)(n:Int):Prop:=h[b]? =some (.cells #[.bool f,.int .u64 F,.int .u64 d,.string c,.string e,.int .u64 g,.int .u64 n] 82 (0,0))
theorem ah.ld{f:Bool}{c:ByteArray}{K:Bool->Int->Int->ByteArray->ByteArray->Int->Int->Prop}(H:ah.at h b f F d c e g n)(x:K f F d c e g n):ah.LD h (AA b 0) K:=
 ⟨_,au H,_,au H,_,au H,_,au H,_,au H,_,au H,_,au H,x⟩
theorem ah.D0{f:Bool}{c:ByteArray}{K:ai->Prop}(H:dV a [.B f,.U F,.U d,.S c,.S e,.U g,.U n] 0 h K):ah.ST h a f F d c e g n K:=H
theorem ah.box{f:Bool}{c:ByteArray}(y: ∀b H,b=h.size->ah.at H b f F d c e g n->Fr No h H->K b H):bf h (.C #[.B f,.U F,.U d,.S c,.S e,.U g,.U n] 82) λb x=>K b x:=
 cT (y _ _ rfl bZ (Fr.push _ _))
theorem ah.set{g0:Bool}{g3:ByteArray}{f:Bool}{c:ByteArray}{K:ai->Prop}(A:ah.at h b g0 g1 g2 g3 g4 g5 g6)(y: ∀H,ah.at H b f F d c e g n->H.size=h.size->(∀x,x≠b->H[x]? =h[x]?)->K H):ah.ST h (AA b 0) f F d c e g n K:=
 ah.D0 (ft A rfl rfl y)
def aI.at(h:ai)(b:Nat)(f:Int)(F:Int)(k:ct)(j i:Nat)(c:Int):Prop:=h[b]? =some (.cells #[.int .i64 f,.int .i64 F,.slice k j i,.int .u64 c] 117 (0,0))
theorem aI.ld{K:Int->Int->ct->Nat->Nat->Int->Prop}(H:aI.at h b f F k j i c)(x:K f F k j i c):aI.LD h (AA b 0) K:=
 ⟨_,au H,_,au H,_,_,_,au H,_,au H,x⟩
theorem aI.DZ{K:Int->Int->ct->Nat->Nat->Int->Prop}(H:dN a [.I f,.I F,.L k j i,.U c] 0 h)(x:K f F k j i c):aI.LD h a K:=by
 obtain⟨Q,y,z,A,_⟩:=H;rw[fy]at Q;exact⟨_,Q,_,y,_,_,_,z,_,A,x⟩
theorem aI.D0{K:ai->Prop}(H:dV a [.I f,.I F,.L k j i,.U c] 0 h K):aI.ST h a f F k j i c K:=H
theorem aI.new(y: ∀b H,b=h.size->aI.at H b f F k j i c->Fr No h H->K b H):bf h (.C #[.I 0,.I 0,.Z,.U 0] 117) λb x=>aI.ST x (AA b 0) f F k j i c (K b):=
 gz (vs:= [.I f,.I F,.L k j i,.U c]) rfl rfl y
theorem aI.box(y: ∀b H,b=h.size->aI.at H b f F k j i c->Fr No h H->K b H):bf h (.C #[.I f,.I F,.L k j i,.U c] 117) λb x=>K b x:=
 cT (y _ _ rfl bZ (Fr.push _ _))
theorem aI.set{K:ai->Prop}(A:aI.at h b g0 g1 Wh Wf Wg g3)(y: ∀H,aI.at H b f F k j i c->H.size=h.size->(∀x,x≠b->H[x]? =h[x]?)->K H):aI.ST h (AA b 0) f F k j i c K:=
 aI.D0 (ft A rfl rfl y)
def cp.at(h:ai)(b:Nat)(f:Int)(N8:ct)(N4 N7:Nat):Prop:=h[b]? =some (.cells #[.int .u64 f,.slice N8 N4 N7] 135 (0,0))
theorem cp.ld{K:Int->ct->Nat->Nat->Prop}(H:cp.at h b f N8 N4 N7)(x:K f N8 N4 N7):cp.LD h (AA b 0) K:=
 ⟨_,au H,_,_,_,au H,x⟩
theorem cp.DZ{K:Int->ct->Nat->Nat->Prop}(H:dN a [.U f,.L N8 N4 N7] 0 h)(x:K f N8 N4 N7):cp.LD h a K:=by
 obtain⟨Q,y,_⟩:=H;rw[fy]at Q;exact⟨_,Q,_,_,_,y,x⟩
theorem cp.new(y: ∀b H,b=h.size->cp.at H b f N8 N4 N7->Fr No h H->K b H):bf h (.C #[.U 0,.Z] 135) λb x=>cp.ST x (AA b 0) f N8 N4 N7 (K b):=
 gz (vs:= [.U f,.L N8 N4 N7]) rfl rfl y
theorem cp.box(y: ∀b H,b=h.size->cp.at H b f N8 N4 N7->Fr No h H->K b H):bf h (.C #[.U f,.L N8 N4 N7] 135) λb x=>K b x:=
 cT (y _ _ rfl bZ (Fr.push _ _))
def cI.at(h:ai)(b:Nat)(f:Int)(F:Int)(d:Bool)(c:Bool)(Lp:ct)(Lq Lr:Nat)(m:ct)(f5l l:Nat):Prop:=h[b]? =some (.cells #[.int .i64 f,.int .u64 F,.bool d,.bool c,.slice Lp Lq Lr,.slice m f5l l] 105 (0,0))
theorem cI.ld{d:Bool}{c:Bool}{K:Int->Int->Bool->Bool->ct->Nat->Nat->ct->Nat->Nat->Prop}(H:cI.at h b f F d c Lp Lq Lr m f5l l)(x:K f F d c Lp Lq Lr m f5l l):cI.LD h (AA b 0) K:=
 ⟨_,au H,_,au H,_,au H,_,au H,_,_,_,au H,_,_,_,au H,x⟩
theorem cI.DZ{d:Bool}{c:Bool}{K:Int->Int->Bool->Bool->ct->Nat->Nat->ct->Nat->Nat->Prop}(H:dN a [.I f,.U F,.B d,.B c,.L Lp Lq Lr,.L m f5l l] 0 h)(x:K f F d c Lp Lq Lr m f5l l):cI.LD h a K:=by
 obtain⟨Q,y,z,A,B,C,_⟩:=H;rw[fy]at Q;exact⟨_,Q,_,y,_,z,_,A,_,_,_,B,_,_,_,C,x⟩
theorem cI.new{d:Bool}{c:Bool}(y: ∀b H,b=h.size->cI.at H b f F d c Lp Lq Lr m f5l l->Fr No h H->K b H):bf h (.C #[.I 0,.U 0,.B false,.B false,.Z,.Z] 105) λb x=>cI.ST x (AA b 0) f F d c Lp Lq Lr m f5l l (K b):=
 gz (vs:= [.I f,.U F,.B d,.B c,.L Lp Lq Lr,.L m f5l l]) rfl rfl y
theorem cI.box{d:Bool}{c:Bool}(y: ∀b H,b=h.size->cI.at H b f F d c Lp Lq Lr m f5l l->Fr No h H->K b H):bf h (.C #[.I f,.U F,.B d,.B c,.L Lp Lq Lr,.L m f5l l] 105) λb x=>K b x:=
 cT (y _ _ rfl bZ (Fr.push _ _))
def aw.at(h:ai)(b:Nat)(f:Bool)(F:Int)(d:Int)(c:ByteArray)(e:ByteArray):Prop:=h[b]? =some (.cells #[.bool f,.int .u64 F,.int .u64 d,.string c,.string e] 29 (0,0))
theorem aw.ld{f:Bool}{c:ByteArray}{K:Bool->Int->Int->ByteArray->ByteArray->Prop}(H:aw.at h b f F d c e)(x:K f F d c e):aw.LD h (AA b 0) K:=
 ⟨_,au H,_,au H,_,au H,_,au H,_,au H,x⟩
theorem aw.held{f:Bool}{c:ByteArray}(H:aw.at h b f F d c e):dN (AA b 0) [.B f,.U F,.U d,.S c,.S e] 0 h:=
 gH H (λJ V x=>by rw[bK];simpa using x)
theorem aw.box{f:Bool}{c:ByteArray}(y: ∀b H,b=h.size->aw.at H b f F d c e->Fr No h H->K b H):bf h (.C #[.B f,.U F,.U d,.S c,.S e] 29) λb x=>K b x:=
 cT (y _ _ rfl bZ (Fr.push _ _))
def bV.at(h:ai)(b:Nat)(f:Bool)(F:Int)(d:Int)(c:ByteArray)(e:ByteArray)(g:Int)(n:Int):Prop:=h[b]? =some (.cells #[.bool f,.int .u64 F,.int .u64 d,.string c,.string e,.int .i64 g,.int .i64 n] 184 (0,0))
theorem bV.ld{f:Bool}{c:ByteArray}{K:Bool->Int->Int->ByteArray->ByteArray->Int->Int->Prop}(H:bV.at h b f F d c e g n)(x:K f F d c e g n):bV.LD h (AA b 0) K:=
 ⟨_,au H,_,au H,_,au H,_,au H,_,au H,_,au H,_,au H,x⟩
theorem bV.D0{f:Bool}{c:ByteArray}{K:ai->Prop}(H:dV a [.B f,.U F,.U d,.S c,.S e,.I g,.I n] 0 h K):bV.ST h a f F d c e g n K:=H
theorem bV.new{f:Bool}{c:ByteArray}(y: ∀b H,b=h.size->bV.at H b f F d c e g n->Fr No h H->K b H):bf h (.C #[.B false,.U 0,.U 0,.S ij,.S ij,.I 0,.I 0] 184) λb x=>bV.ST x (AA b 0) f F d c e g n (K b):=
 gz (vs:= [.B f,.U F,.U d,.S c,.S e,.I g,.I n]) rfl rfl y
theorem bV.box{f:Bool}{c:ByteArray}(y: ∀b H,b=h.size->bV.at H b f F d c e g n->Fr No h H->K b H):bf h (.C #[.B f,.U F,.U d,.S c,.S e,.I g,.I n] 184) λb x=>K b x:=
 cT (y _ _ rfl bZ (Fr.push _ _))
theorem bV.set{g0:Bool}{g3:ByteArray}{f:Bool}{c:ByteArray}{K:ai->Prop}(A:bV.at h b g0 g1 g2 g3 g4 g5 g6)(y: ∀H,bV.at H b f F d c e g n->H.size=h.size->(∀x,x≠b->H[x]? =h[x]?)->K H):bV.ST h (AA b 0) f F d c e g n K:=
 bV.D0 (ft A rfl rfl y)
def aR.at(h:ai)(b:Nat)(f:Int)(F:Bool)(d:Int)(c:Int)(e:ByteArray)(g:ByteArray)(HT:ct)(t r:Nat)(u:Int)(v:Int)(w:Int):Prop:=h[b]? =some (.cells #[.int .i64 f,.bool F,.int .u64 d,.int .u64 c,.string e,.string g,.slice HT t r,.int .u64 u,.int .i64 v,.int .u64 w] 168 (0,0))
theorem aR.ld{F:Bool}{g:ByteArray}{K:Int->Bool->Int->Int->ByteArray->ByteArray->ct->Nat->Nat->Int->Int->Int->Prop}(H:aR.at h b f F d c e g HT t r u v w)(x:K f F d c e g HT t r u v w):aR.LD h (AA b 0) K:=
 ⟨_,au H,_,au H,_,au H,_,au H,_,au H,_,au H,_,_,_,au H,_,au H,_,au H,_,au H,x⟩
theorem aR.D0{F:Bool}{g:ByteArray}{K:ai->Prop}(H:dV a [.I f,.B F,.U d,.U c,.S e,.S g,.L HT t r,.U u,.I v,.U w] 0 h K):aR.ST h a f F d c e g HT t r u v w K:=H
theorem aR.new{F:Bool}{g:ByteArray}(y: ∀b H,b=h.size->aR.at H b f F d c e g HT t r u v w->Fr No h H->K b H):bf h (.C #[.I 0,.B false,.U 0,.U 0,.S ij,.S ij,.Z,.U 0,.I 0,.U 0] 168) λb x=>aR.ST x (AA b 0) f F d c e g HT t r u v w (K b):=
 gz (vs:= [.I f,.B F,.U d,.U c,.S e,.S g,.L HT t r,.U u,.I v,.U w]) rfl rfl y
theorem aR.box{F:Bool}{g:ByteArray}(y: ∀b H,b=h.size->aR.at H b f F d c e g HT t r u v w->Fr No h H->K b H):bf h (.C #[.I f,.B F,.U d,.U c,.S e,.S g,.L HT t r,.U u,.I v,.U w] 168) λb x=>K b x:=
 cT (y _ _ rfl bZ (Fr.push _ _))
theorem aR.set{g1:Bool}{g5:ByteArray}{z:ct}{y G:Nat}{B:Int}{C:Int}{D:Int}{F:Bool}{g:ByteArray}{K:ai->Prop}(A:aR.at h b g0 g1 g2 g3 g4 g5 z y G B C D)(E: ∀H,aR.at H b f F d c e g HT t r u v w->H.size=h.size->(∀x,x≠b->H[x]? =h[x]?)->K H):aR.ST h (AA b 0) f F d c e g HT t r u v w K:=
 aR.D0 (ft A rfl rfl E)
def aq.at(h:ai)(b:Nat)(f:Int)(F:Int)(d:Int)(c:Int)(e:Int)(m:ct)(f5l l:Nat):Prop:=h[b]? =some (.cells #[.int .u64 f,.int .i64 F,.int .i64 d,.int .i64 c,.int .u64 e,.slice m f5l l] 40 (0,0))
theorem aq.ld{e:Int}{K:Int->Int->Int->Int->Int->ct->Nat->Nat->Prop}(H:aq.at h b f F d c e m f5l l)(x:K f F d c e m f5l l):aq.LD h (AA b 0) K:=
 ⟨_,au H,_,au H,_,au H,_,au H,_,au H,_,_,_,au H,x⟩
theorem aq.held{e:Int}(H:aq.at h b f F d c e m f5l l):dN (AA b 0) [.U f,.I F,.I d,.I c,.U e,.L m f5l l] 0 h:=
 gH H (λJ V x=>by rw[bK];simpa using x)
theorem aq.D0{e:Int}{K:ai->Prop}(H:dV a [.U f,.I F,.I d,.I c,.U e,.L m f5l l] 0 h K):aq.ST h a f F d c e m f5l l K:=H
theorem aq.new{e:Int}(y: ∀b H,b=h.size->aq.at H b f F d c e m f5l l->Fr No h H->K b H):bf h (.C #[.U 0,.I 0,.I 0,.I 0,.U 0,.Z] 40) λb x=>aq.ST x (AA b 0) f F d c e m f5l l (K b):=
 gz (vs:= [.U f,.I F,.I d,.I c,.U e,.L m f5l l]) rfl rfl y
theorem aq.box{e:Int}(y: ∀b H,b=h.size->aq.at H b f F d c e m f5l l->Fr No h H->K b H):bf h (.C #[.U f,.I F,.I d,.I c,.U e,.L m f5l l] 40) λb x=>K b x:=
 cT (y _ _ rfl bZ (Fr.push _ _))
theorem aq.set{g4:Int}{z:ct}{y G:Nat}{e:Int}{K:ai->Prop}(A:aq.at h b g0 g1 g2 g3 g4 z y G)(B: ∀H,aq.at H b f F d c e m f5l l->H.size=h.size->(∀x,x≠b->H[x]? =h[x]?)->K H):aq.ST h (AA b 0) f F d c e m f5l l K:=
 aq.D0 (ft A rfl rfl B)
theorem wV.host.walk(C:aT Tryz.prog (Instr.range 9 (.S s)) h λG B=> ∃(z:Nat),G=.P z 0/\∃(I:ai->Prop)(M:ai->Nat),I B/\∀(x:ai),I x->aT Tryz.prog (Instr.next (.P z 0) true 0) x λV H=>(V=.T #[.B false]/\R (.B true) H)\/(∃(E A:Value),V=.T #[.B true,E,A]/\∃T,A=.int .i32 T/\aG (λ(D:Bool) (y:ai)=>if D then R (.B false) y else(I y/\M y<M x)) (λJ=>if(decide (T<97))then if(decide (T<48))then if(T !=45)then J (T !=45) H else J false H else if(decide (T>57))then if(T !=45)then J (T !=45) H else J false H else J false H else if(decide (T>122))then if(decide (T<48))then if(T !=45)then J (T !=45) H else J false H else if(decide (T>57))then if(T !=45)then J (T !=45) H else J false H else J false H else J false H))):Cl 52 #[.S s,.int .i32 45] h R:=aS [(6,.loop []),(15,λ_=> .typed [(11,.one (.int .i32))]),(17,.join [(34,.one (.bool))])] Tryz.func52 C
theorem wV.TU.walk(C:aT Tryz.prog (Instr.range 9 (.S s)) h λG B=> ∃(z:Nat),G=.P z 0/\∃(I:ai->Prop)(M:ai->Nat),I B/\∀(x:ai),I x->aT Tryz.prog (Instr.next (.P z 0) true 0) x λV H=>(V=.T #[.B false]/\R (.B true) H)\/(∃(E A:Value),V=.T #[.B true,E,A]/\∃T,A=.int .i32 T/\aG (λ(D:Bool) (y:ai)=>if D then R (.B false) y else(I y/\M y<M x)) (λJ=>if(decide (T<97))then if(decide (T<48))then if(T !=45)then J (T !=47) H else J false H else if(decide (T>57))then if(T !=45)then J (T !=47) H else J false H else J false H else if(decide (T>122))then if(decide (T<48))then if(T !=45)then J (T !=47) H else J false H else if(decide (T>57))then if(T !=45)then J (T !=47) H else J false H else J false H else J false H))):Cl 52 #[.S s,.int .i32 47] h R:=aS [(6,.loop []),(15,λ_=> .typed [(11,.one (.int .i32))]),(17,.join [(34,.one (.bool))])] Tryz.func52 C
theorem Ls.walk{X:Bool}{J:Int}{L:Int}{M:ByteArray}{O:ByteArray}(Q:bf h (.C #[.B X,.U J,.U L,.S M,.S O] 29) λb H=>aw.LD H (AA b 0) λk' l' m' n' o'=> ∃(E:Bool),BP Tryz.prog 29 (.agg #[.B k',.U l',.U m',.S n',.S o']) (.agg #[.B false,.U 0,.U 0,.S ij,.S ij]) E/\if E then R (.B true) H else∃I,Cc H b 0 (.B I)/\if I then aw.LD H (AA b 0) λS U V Z a'=>Hu H b 1 λb'=>Hu H b 2 λc'=> ∃(eq_1:Bool),BP Tryz.prog 29 (.agg #[.B S,.U U,.U V,.S Z,.S a']) (.agg #[.B true,.U b',.U c',.S ij,.S ij]) eq_1/\if eq_1 then∃T,Cc H b 1 (.U T)/\if(decide (T≥1))then∃y,Cc H b 1 (.U y)/\if(decide (y<=4294967295))then∃z,Cc H b 2 (.U z)/\R (.B (decide (z<=4294967295))) H else R (.B false) H else R (.B false) H else R (.B false) H else aw.LD H (AA b 0) λd' e' f' g' h'=>Hs H b 3 λi'=>Hs H b 4 λj'=> ∃(eq_2:Bool),BP Tryz.prog 29 (.agg #[.B d',.U e',.U f',.S g',.S h']) (.agg #[.B false,.U 0,.U 0,.S i',.S j']) eq_2/\if eq_2 then∃A,Cc H b 3 (.S A)/\if(decide (((A.size:Nat):Int)≥1))then∃B,Cc H b 3 (.S B)/\if(decide (((B.size:Nat):Int)<=16))then∃C,Cc H b 4 (.S C)/\if(decide (((C.size:Nat):Int)<=24))then Hs H b 3 λp'=>Cl 52 #[.S p',.int .i32 45] H λr' x=> ∃D,r'=.B D/\if D then Hs x b 4 λq'=>Cl 52 #[.S q',.int .i32 47] x λs' P=> ∃G,s'=.B G/\R (.B G) P else R (.B false) x else R (.B false) H else R (.B false) H else R (.B false) H else R (.B false) H):Cl 29 #[.agg #[.B X,.U J,.U L,.S M,.S O]] h R:=aS [] Tryz.func29 Q

end
section
namespace jG
theorem N9{a b:ByteArray}:(a==b)=true↔a=b:=by
 obtain⟨a⟩:=a;obtain⟨b⟩:=b;constructor
 .intro h;have h:(a==b)=true:=h;rw[eq_of_beq h]
 .intro h;cases h;show(a==a)=true;simp
structure Ev where
 lE:Bool
 node:Int
 gL:Int
 host:ByteArray
 jZ:ByteArray
theorem Ev.ext'{x y:Ev}(H:x.lE=y.lE)(a:x.node=y.node)(b:x.gL=y.gL)(c:x.host=y.host)(d:x.jZ=y.jZ):x=y:=by
 cases x;cases y;simp at H a b c d;simp[H,a,b,c,d]
def Tt(x y:Ev):Bool:=x.lE==y.lE && (x.node==y.node && (x.gL==y.gL && (x.host==y.host && (x.jZ==y.jZ && true))))
theorem D4{x y:Ev}:Tt x y=true↔x=y:=by
 unfold Tt;simp only[aW,df,N9,and_true];constructor
 .rintro⟨H,a,b,c,d⟩;exact Ev.ext' H a b c d
 .rintro rfl;simp
instance : DecidableEq Ev := λx y => decidable_of_iff (Tt x y = true) D4
theorem Qw(x y:Ev):Tt x y=decide (x=y):=by
 by_cases h:x=y
 .rw[av h];exact D4.2 h
 .rw[aC h];cases H:Tt x y
  .rfl
  .exact absurd (D4.1 H) h
def lC(x:Ev):Value:=.agg #[.bool x.lE,.int .u64 x.node,.int .u64 x.gL,.string x.host,.string x.jZ]
def Ev.zero:Ev:=⟨false,0,0,⟨#[]⟩,⟨#[]⟩⟩
theorem eqv(x y:Ev):BP Tryz.prog 29 (lC x) (lC y) (decide (x=y)):=by
 rw[<-Qw];exact BP.of (by unfold Tt;kernel_rfl)
theorem yA{x y:Ev}{a b:Value}(H:a=lC x)(c:b=lC y):BP Tryz.prog 29 a b (decide (x=y)):=by subst H c;exact eqv x y
theorem TO(e:Bool)(a:Ev)(h:ai):rd Tryz.prog (Instr.checkKey e 10000 29 (lC a)) h=some ():=dA
theorem under:(Tryz.prog.underlying 29).isSome=true:=dA
theorem key:CM Tryz.prog 29 lC:=⟨eqv,TO,by
 obtain⟨d,h⟩:=dH.1 under;exact⟨d,h,λa b=> .inl (by unfold lC;cases d<;>rfl)⟩,λa=>by unfold lC;simp[Instr.sameBits,N9.2]⟩
def pl(m c:UInt8):Bool:=(decide (97<=c) && decide (c<=122))||(decide (48<=c) && decide (c<=57))||c==45||c==m
def ny(m:UInt8)(s:ByteArray):Bool:=s.data.toList.all (pl m)
def dt(x:Ev):Bool:=
 if x=.zero then true
 else if x.lE=true then decide (x.host=⟨#[]⟩/\x.jZ=⟨#[]⟩/\1<=x.node/\x.node<=4294967295/\x.gL<=4294967295)
 else decide (x.node=0/\x.gL=0/\1<=x.host.size/\x.host.size<=16/\x.jZ.size<=24) && (ny 45 x.host && ny 47 x.jZ)
def ka(x:Ev):Int:=if x=.zero then 0 else if x.lE=true then 1 else 2
def bl(a b:ByteArray):Bool:=Op.bytesLess a.toList b.toList
def oU(x y:Ev):Bool:=
 if ka x≠ka y then decide (ka x<ka y)
 else if x.node≠y.node then decide (x.node<y.node)
 else if x.gL≠y.gL then decide (x.gL<y.gL)
 else if x.host≠y.host then bl x.host y.host
 else bl x.jZ y.jZ
theorem bytes_irrefl: ∀a:cG,Op.bytesLess a a=false
 | []=>rfl
 |a::x=>by unfold Op.bytesLess;simp[bytes_irrefl x]
theorem bytes_trans: ∀{a b c:cG},Op.bytesLess a b=true->Op.bytesLess b c=true->Op.bytesLess a c=true
 |_, [],_,h,_=>by unfold Op.bytesLess at h;cases h
 |_,_::_, [],_,h=>by unfold Op.bytesLess at h;cases h
 | [],b::y,c::z,_,_=>rfl
 |a::x,b::y,c::z,d,H=>by
  unfold Op.bytesLess at d H⊢;simp only[Bool.or_eq_true,aY,aW,df]at d H⊢;rcases d with d|⟨rfl,d⟩
  .rcases H with H|⟨rfl,H⟩
   .exact .inl (UInt8.lt_trans d H)
   .exact .inl d
  .rcases H with H|⟨rfl,H⟩
   .exact .inl H
   .exact .inr ⟨rfl,bytes_trans d H⟩
theorem bytes_total: ∀{a b:cG},a≠b->Op.bytesLess a b=true\/Op.bytesLess b a=true
 | [], [],h=>absurd rfl h
 | [],_::_,_=> .inl rfl
 |_::_, [],_=> .inr rfl
 |a::x,b::y,h=>by
  unfold Op.bytesLess;simp only[Bool.or_eq_true,aY,aW,df];by_cases e:a=b
  .subst e;rcases bytes_total (a:=x) (b:=y) (λe=>h (by rw[e]))with h1|h1
   .exact .inl (.inr ⟨rfl,h1⟩)
   .exact .inr (.inr ⟨rfl,h1⟩)
  .rcases UInt8.lt_or_lt_of_ne e with h1|h1
   .exact .inl (.inl h1)
   .exact .inr (.inl h1)
theorem RN{a b:ByteArray}(h:a≠b):bl a b=true\/bl b a=true:=by
 refine bytes_total λe=>h ?_
 rw[toList_data,toList_data]at e;cases a;cases b;simp only[ByteArray.mk.injEq];exact Array.ext' e
theorem Aj{a b c:ByteArray}(H:bl a b=true)(d:bl b c=true):bl a c=true:=bytes_trans H d
theorem CY(a:ByteArray):bl a a=false:=bytes_irrefl _
theorem vA{x y:Ev}:oU x y=true↔ka x<ka y\/(ka x=ka y/\(x.node<y.node\/(x.node=y.node/\(x.gL<y.gL\/(x.gL=y.gL/\((x.host≠y.host/\bl x.host y.host=true)\/(x.host=y.host/\bl x.jZ y.jZ=true))))))):=by
 unfold oU;by_cases H:ka x=ka y
 .rw[ae (cR H)];by_cases a:x.node=y.node
  .rw[ae (cR a)];by_cases b:x.gL=y.gL
   .rw[ae (cR b)];by_cases c:x.host=y.host
    .rw[ae (cR c)];simp[H,a,b,c]
    .rw[af c];simp[H,a,b,c]
   .rw[af b];simp[H,a,b]
  .rw[af a];simp[H,a]
 .rw[af H];simp[H]
theorem x9(x:Ev):oU x x=false:=by
 cases h:oU x x
 .rfl
 .rw[vA]at h;rcases h with h|⟨_,h|⟨_,h|⟨_,⟨h,_⟩|⟨_,h⟩⟩⟩⟩
  .omega
  .omega
  .omega
  .exact absurd rfl h
  .rw[CY]at h;cases h
theorem Iw{x y z:Ev}(a:oU x y=true)(H:oU y z=true):oU x z=true:=by
 rw[vA]at a H⊢;rcases a with a|⟨C,a⟩
 .rcases H with H|⟨c,_⟩
  .exact .inl ag
  .exact .inl ag
 rcases H with H|⟨c,H⟩
 .exact .inl ag
 refine .inr ⟨ag,?_⟩;rcases a with a|⟨d,a⟩
 .rcases H with H|⟨n,_⟩<;>exact .inl ag
 rcases H with H|⟨n,H⟩
 .exact .inl ag
 refine .inr ⟨ag,?_⟩;rcases a with a|⟨S,a⟩
 .rcases H with H|⟨s,_⟩<;>exact .inl ag
 rcases H with H|⟨s,H⟩
 .exact .inl ag
 refine .inr ⟨ag,?_⟩;rcases a with⟨b,a⟩|⟨b,a⟩
 .rcases H with⟨E,H⟩|⟨E,H⟩
  .refine .inl ⟨λe=> ?_,Aj a H⟩;have:=Aj a (e▸H);rw[CY]at this;cases this
  .exact .inl (by rw[<-E];exact⟨b,a⟩)
 .rcases H with⟨E,H⟩|⟨E,H⟩
  .exact .inl (by rw[b];exact⟨E,H⟩)
  .exact .inr ⟨b.trans E,Aj a H⟩
theorem Ak{x y:Ev}(h:ka x=ka y)(a:x=.zero):y=.zero:=by
 unfold ka at h;rw[af a]at h;by_cases H:y=.zero
 .exact H
 .rw[ae H]at h;split at h<;>omega
theorem Ix{x y:Ev}(h:x≠y):oU x y=true\/oU y x=true:=by
 rw[vA,vA];by_cases H:ka x=ka y
 .by_cases a:x.node=y.node
  .by_cases b:x.gL=y.gL
   .by_cases c:x.host=y.host
    .have g:x.jZ≠y.jZ:=λe=>by
      have j:x≠ .zero:=λE=>h (E.trans (Ak H E).symm)
      have k:y≠ .zero:=λE=>h ((Ak H.symm E).trans E.symm)
      unfold ka at H;rw[ae j,ae k]at H;have i:x.lE=y.lE:=by
       cases d:x.lE<;>cases f:y.lE<;>simp[d,f]at H⊢
      exact h (Ev.ext' i a b c e)
     rcases RN g with h5|h5
     .exact .inl (.inr ⟨H,.inr ⟨a,.inr ⟨b,.inr ⟨c,h5⟩⟩⟩⟩)
     .exact .inr (.inr ⟨H.symm,.inr ⟨a.symm,.inr ⟨b.symm,.inr ⟨c.symm,h5⟩⟩⟩⟩)
    .rcases RN c with h5|h5
     .exact .inl (.inr ⟨H,.inr ⟨a,.inr ⟨b,.inl ⟨c,h5⟩⟩⟩⟩)
     .exact .inr (.inr ⟨H.symm,.inr ⟨a.symm,.inr ⟨b.symm,.inl ⟨fW c,h5⟩⟩⟩⟩)
   .rcases Int.lt_or_gt_of_ne b with h5|h5
    .exact .inl (.inr ⟨H,.inr ⟨a,.inl h5⟩⟩)
    .exact .inr (.inr ⟨H.symm,.inr ⟨a.symm,.inl h5⟩⟩)
  .rcases Int.lt_or_gt_of_ne a with h5|h5
   .exact .inl (.inr ⟨H,.inl h5⟩)
   .exact .inr (.inr ⟨H.symm,.inl h5⟩)
 .rcases Int.lt_or_gt_of_ne H with h5|h5
  .exact .inl (.inl h5)
  .exact .inr (.inl h5)
variable {h : ai} {R : Value → ai → Prop}
theorem get_at{s:ByteArray}{i:Nat}(H:i<s.size):s.get! i=s.data.toList.getD i 0:=by
 have:i<s.data.size:=H;show s.data[i]! =_;have e:s.data.toList[i]? =some s.data[i]:=by rw[dv];exact Array.getElem?_eq_getElem this
 rw[getElem!_pos s.data i this,bh,e];rfl
theorem decode_at(s:ByteArray)(i:Nat)(a:i<s.size):(s.data.toList.getD i 0<128->Utf8.decode s i=((s.data.toList.getD i 0).toNat,1))/\(¬s.data.toList.getD i 0<128->128<=(Utf8.decode s i).1):=by
 have e:=get_at a;have E:(s.get! (i+0)).toNat=(s.data.toList.getD i 0).toNat:=by rw[Nat.add_zero,e]
 constructor
 .intro h;have h:(s.data.toList.getD i 0).toNat<128:=h;unfold Utf8.decode;simp only[E];rw[af h]
 .intro h;have h: ¬(s.data.toList.getD i 0).toNat<128:=h;unfold Utf8.decode;simp only[E];rw[ae h];split
  .split
   .omega
   .show 128<=Utf8.runeError;decide
  .split
   .split
    .rename_i H;simp only[aW,aY]at H;show 128<=_;omega
    .show 128<=Utf8.runeError;decide
   .split
    .split
     .rename_i H;simp only[aW,aY]at H;show 128<=_;omega
     .show 128<=Utf8.runeError;decide
    .show 128<=Utf8.runeError;decide
def np(m:Int)(c:Int):Bool:=(decide (c<97)||decide (c>122)) && ((decide (c<48)||decide (c>57)) && ((c !=45) && (c !=m)))
theorem Oa{more c:Int}(e:more<128)(h:128<=c):np more c=true:=by
 unfold np;have H:c>122:=ag
 have a:c>57:=ag
 have b:c≠45:=ag
 have d:c≠more:=ag
 simp[H,a,b,d]
theorem Ob(m:UInt8)(b:UInt8):np (m.toNat:Int) (b.toNat:Int)= !pl m b:=by
 have E:(b=45)↔((b.toNat:Int)=45):=by
  constructor
  .rintro rfl;rfl
  .intro e;exact UInt8.toNat_inj.1 (by show b.toNat=45;omega)
 have a:(b=m)↔((b.toNat:Int)=(m.toNat:Int)):=by
  constructor
  .rintro rfl;rfl
  .intro e;exact UInt8.toNat_inj.1 ag
 have c:(97<=b)↔ ¬((b.toNat:Int)<97):=by rw[UInt8.le_iff_toNat_le];show 97<=b.toNat↔_;omega
 have d:(b<=122)↔ ¬((b.toNat:Int)>122):=by rw[UInt8.le_iff_toNat_le];show b.toNat<=122↔_;omega
 have f:(48<=b)↔ ¬((b.toNat:Int)<48):=by rw[UInt8.le_iff_toNat_le];show 48<=b.toNat↔_;omega
 have g:(b<=57)↔ ¬((b.toNat:Int)>57):=by rw[UInt8.le_iff_toNat_le];show b.toNat<=57↔_;omega
 unfold np pl;have i:(b==45)=decide ((b.toNat:Int)=45):=by by_cases q:b=45<;>simp[q,E.symm]
 have j:(b==m)=decide ((b.toNat:Int)=(m.toNat:Int)):=by
  by_cases q:b=m
  .simp[q]
  .have: ¬((b.toNat:Int)=(m.toNat:Int)):=λe=>q (a.2 e)
   rw[aC this];simp[q]
 rw[i,j];simp only[c,d,f,g];by_cases Q:(b.toNat:Int)<97<;>by_cases k:(b.toNat:Int)>122<;>by_cases l:(b.toNat:Int)<48<;>by_cases n:(b.toNat:Int)>57<;>by_cases o:(b.toNat:Int)=45<;>by_cases p:(b.toNat:Int)=(m.toNat:Int)<;>simp[Q,k,l,n,o,p]
end jG
end
end Go.Proofs.YtkdgpmeojgokdaaGreatDoor
namespace Go.Proofs
open Go.Den
open IntKind (wrap)
open Int (toNat)
section
open Go.Shelf
def Tryz.Ge:Go.Shelf.Ren:=⟨fun|145=>231|220=>256|219=>278|217=>287|225=>288|224=>289|267=>290|266=>292|314=>293|n=>n,fun|9=>9|4=>4|59=>344|3=>3|5=>5|46=>256|146=>398|51=>340|n=>n,fun|1=>2|n=>n⟩
theorem Tryz.Qx : Go.Proofs.Lays.n145 Tryz.prog Tryz.Ge := {
  mixed := by kernel_rfl
  f145 := Tryz.func231.trans (congrArg some (by kernel_rfl))
  f217 := Tryz.func287.trans (congrArg some (by kernel_rfl))
  f219 := Tryz.func278.trans (congrArg some (by kernel_rfl))
  f220 := Tryz.func256.trans (congrArg some (by kernel_rfl))
  f224 := Tryz.func289.trans (congrArg some (by kernel_rfl))
  f225 := Tryz.func288.trans (congrArg some (by kernel_rfl))
  f266 := Tryz.func292.trans (congrArg some (by kernel_rfl))
  f267 := Tryz.func290.trans (congrArg some (by kernel_rfl))
  f314 := Tryz.func293.trans (congrArg some (by kernel_rfl))
  t3 := Tryz.underlying3
  a3 := Tryz.isAgg3
  z3 := Tryz.sizeOf3
  v3 := Tryz.zeroValue3
  t4 := Tryz.underlying4
  a4 := Tryz.isAgg4
  z4 := Tryz.sizeOf4
  v4 := Tryz.zeroValue4
  t5 := Tryz.underlying5
  a5 := Tryz.isAgg5
  z5 := Tryz.sizeOf5
  v5 := Tryz.zeroValue5
  t9 := Tryz.underlying9
  a9 := Tryz.isAgg9
  z9 := Tryz.sizeOf9
  v9 := Tryz.zeroValue9
  t46 := Tryz.underlying256
  a46 := Tryz.isAgg256
  z46 := Tryz.sizeOf256
  v46 := Tryz.zeroValue256
  t51 := Tryz.underlying340
  a51 := Tryz.isAgg340
  z51 := Tryz.sizeOf340
  v51 := Tryz.zeroValue340
  t59 := Tryz.underlying344
  a59 := Tryz.isAgg344
  z59 := Tryz.sizeOf344
  v59 := Tryz.zeroValue344
  t146 := Tryz.underlying398
  a146 := Tryz.isAgg398
  z146 := Tryz.sizeOf398
  v146 := Tryz.zeroValue398
  g1 := by kernel_rfl }
def Tryz.Gg:Go.Shelf.Ren:=⟨fun|103=>230|210=>255|206=>277|n=>n,fun|9=>9|4=>4|24=>342|3=>3|n=>n,fun|n=>n⟩
theorem Tryz.Qy : Go.Proofs.Lays.n103 Tryz.prog Tryz.Gg := {
  mixed := by kernel_rfl
  f103 := Tryz.func230.trans (congrArg some (by kernel_rfl))
  f206 := Tryz.func277.trans (congrArg some (by kernel_rfl))
  f210 := Tryz.func255.trans (congrArg some (by kernel_rfl))
  t3 := Tryz.underlying3
  a3 := Tryz.isAgg3
  z3 := Tryz.sizeOf3
  v3 := Tryz.zeroValue3
  t4 := Tryz.underlying4
  a4 := Tryz.isAgg4
  z4 := Tryz.sizeOf4
  v4 := Tryz.zeroValue4
  t9 := Tryz.underlying9
  a9 := Tryz.isAgg9
  z9 := Tryz.sizeOf9
  v9 := Tryz.zeroValue9
  t24 := Tryz.underlying342
  a24 := Tryz.isAgg342
  z24 := Tryz.sizeOf342
  v24 := Tryz.zeroValue342 }

end
end Go.Proofs
namespace Go.Proofs.YtkdgpmeojgokdaaGreatDoor
open Go.Den
open IntKind (wrap)
open Int (toNat)
section
namespace nR
variable {h H:ai} {R:fO}
variable {s:ByteArray}
def Mx(h:ai):Prop:= ∃m,aU h ⟨2,0,none⟩=some (.int .i64 m)
theorem Mx.on(M:Mx h)(f:Fr No h H):Mx H:=by
 obtain⟨m,a⟩:=M;exact⟨m,f.cell a id⟩
theorem Am{S:ByteArray}(M:Mx h)(f:s.size<4294967281)(c:R (.T #[.string ⟨(Lib.cut s.data.toList S.data.toList).1.toArray⟩,.string ⟨(Lib.cut s.data.toList S.data.toList).2.1.toArray⟩,.B (Lib.cut s.data.toList S.data.toList).2.2]) h):Cl 231 #[.S s,.S S] h R:=λw g=>by
 subst g;obtain⟨m,d⟩:=M;refine(Any.strings_Cut Tryz.Qx s S m w f (by rw[lS];exact d)).mono λe i ⟨b,n,a⟩=>⟨_,b,?_,?_⟩
 .rw[a];exact c
 .rw[a];exact⟨rfl,rfl,rfl⟩
theorem Lt{p:ByteArray}(c:R (.T #[.string ⟨(Lib.trimPrefix s.data.toList p.data.toList).toArray⟩,.B (Lib.hasPrefix s.data.toList p.data.toList)]) h):Cl 230 #[.S s,.S p] h R:=λw d=>
 (Any.strings_CutPrefix Tryz.Qy s p w).mono λe f ⟨b,a⟩=>⟨_,b,by rw[a,d];exact c,by rw[a];exact fc.refl _⟩

end nR
end
section
namespace Bn
open Cb
open jG (Ev dt)
def pW(s q:Nat):Nat:=if s%2=1 then(s/2) ^^^ q else s/2
def rJ(q:Nat):Nat->Nat->Nat
 |0,s=>s
 |k+1,s=>rJ q k (pW s q)
def RO(s c q:Nat):Nat:=rJ q 8 (s ^^^ c)
def runN(s:Nat)(b:cG)(q:Nat):Nat:=b.foldl (λs c=>RO s c.toNat q) s
def An(b:cG):Nat:=65535 ^^^ (runN 65535 b 33800%65536)
def ya(b:cG):Nat:=4294967295 ^^^ runN 4294967295 b 2197175160
def D5(b:cG):cG:= [UInt8.ofNat (An b/256),UInt8.ofNat (An b)]
def Kg(b:cG):cG:= [UInt8.ofNat (ya b/16777216),UInt8.ofNat (ya b/65536),UInt8.ofNat (ya b/256),UInt8.ofNat (ya b)]
def Gh(x:Ev):cG:= [47,47]++x.host.data.toList++ [47]++x.jZ.data.toList
def BX(x:Ev):Tr:=if x=.zero then sS [num 1,num 0]else if x.lE=true then sS [num 2,sS [num x.node.toNat,num x.gL.toNat]]else sS [num 1,.mk 3 0 (Gh x) []]
def yc(s:cG):Ev:=⟨false,0,0,⟨(Lib.cut (Lib.trimPrefix s [47,47]) [47]).1.toArray⟩,⟨(Lib.cut (Lib.trimPrefix s [47,47]) [47]).2.1.toArray⟩⟩
def vB(s:cG):Bool:=Lib.hasPrefix s [47,47] && (Lib.cut (Lib.trimPrefix s [47,47]) [47]).2.2 && !(Lib.cut (Lib.trimPrefix s [47,47]) [47]).1.isEmpty && dt (yc s)
def at_(l:List Tr)(i:Nat):Tr:=l.getD i CW
def Ao(l:List Tr):Bool:=l.all λt=>oM t (num t.n)
def Oc(t:Tr):Ev:=⟨true,((at_ t.l 0).n:Int),((at_ t.l 1).n:Int),⟨#[]⟩,⟨#[]⟩⟩
def oV(V:cG->Bool)(t:Tr):Option Ev:=
 if im V t=true/\t.k=4/\t.l.length=2 then
  if oM (at_ t.l 0) (num 1)=true/\oM (at_ t.l 1) (num 0)=true then some .zero
  else if oM (at_ t.l 0) (num 1)=true/\(at_ t.l 1).k=3 then(if vB (at_ t.l 1).b=true then some (yc (at_ t.l 1).b)else none)
  else if oM (at_ t.l 0) (num 2)=true then(if(at_ t.l 1).k=4/\(at_ t.l 1).l.length=2/\Ao (at_ t.l 1).l=true/\dt (Oc (at_ t.l 1))=true then some (Oc (at_ t.l 1))else none)
  else none
 else none
structure jm where
 e:Ev
 tm:Nat
 sq:Nat
deriving DecidableEq
def jm.zero:jm:=⟨.zero,0,0⟩
def hU(x:jm):Bool:=dt x.e && decide (x.tm<=1099511627776) && decide (x.sq<=1099511627776)
def Od(x:jm):Tr:=sS [BX x.e,sS [num x.tm,num x.sq]]
def ke(V:cG->Bool)(t:Tr):Option jm:=
 if t.k=4/\t.l.length=2/\(at_ t.l 1).k=4/\(at_ t.l 1).l.length=2 then
  match oV V (at_ t.l 0)with
  |none=>none
  |some e=>if hU ⟨e,(at_ (at_ t.l 1).l 0).n,(at_ (at_ t.l 1).l 1).n⟩=true/\oM (Od ⟨e,(at_ (at_ t.l 1).l 0).n,(at_ (at_ t.l 1).l 1).n⟩) t=true then some ⟨e,(at_ (at_ t.l 1).l 0).n,(at_ (at_ t.l 1).l 1).n⟩else none
 else none
def typeAt(l:List Tr)(i:Nat):Int:=if i<l.length/\(at_ l i).n<=2/\oM (at_ l i) (num (at_ l i).n)=true then((at_ l i).n:Int)else -1
def sumOf(V:cG->Bool)(l:List Tr)(s:Nat):Except Int (cG):=
 if im V (sS (l++ [qH (List.replicate (2*s) 0)]))=true then .ok (if s=1 then D5 (enc (sS (l++ [qH (List.replicate (2*s) 0)])))else Kg (enc (sS (l++ [qH (List.replicate (2*s) 0)]))))else .error 3
def oq(V:cG->Bool)(l:List Tr)(i:Nat):Except Int Tr:=
 if i<l.length then
  if l.all (im V)=true/\0<=typeAt l i then
   if 0<typeAt l i then(match sumOf V l (typeAt l i).toNat with
    | .error e=> .error e
    | .ok b=>if im V (sS (l++ [qH b]))=true then .ok (sS (l++ [qH b]))else .error 3)
   else if im V (sS l)=true then .ok (sS l)else .error 3
  else .error 3
 else .error 1
def qk(V:cG->Bool)(t:Tr)(i:Nat):Except Int (List Tr):=
 if im V t=true/\t.k=4/\0<=typeAt t.l i then
  if typeAt t.l i=0 then .ok t.l
  else if i<t.l.length - 1/\oM (at_ t.l (t.l.length - 1)) (qH (at_ t.l (t.l.length - 1)).b)=true/\(at_ t.l (t.l.length - 1)).b.length=2*(typeAt t.l i).toNat then
   (match sumOf V (t.l.take (t.l.length - 1)) (typeAt t.l i).toNat with
   | .error e=> .error e
   | .ok b=>if b=(at_ t.l (t.l.length - 1)).b then .ok (t.l.take (t.l.length - 1))else .error 10)
  else .error 3
 else .error 3
structure Prim where
 fl:Nat
 sum:Int
 dest:Ev
 rep:Ev
 id:jm
 fT:Nat
deriving DecidableEq
def Prim.zero:Prim:=⟨0,0,.zero,.zero,.zero,0⟩
def Tu(n a:Int):Bool:=IntKind.wrap .u64 ((BitVec.ofInt (IntKind.bits .u64) n &&& ~~~ BitVec.ofInt (IntKind.bits .u64) a).toNat:Int)==0
def jv(p:Prim):Bool:=Tu (p.fl:Int) 409638 && decide (0<=p.sum) && decide (p.sum<=2) && dt p.dest && dt p.rep && hU p.id && decide (p.fT<=1099511627776)
def Gi(p:Prim):List Tr:= [num 7,num p.fl,num p.sum.toNat,BX p.dest,BX p.id.e,BX p.rep,sS [num p.id.tm,num p.id.sq],num p.fT]
def ot(V:cG->Bool)(p:Prim):Except Int Tr:=if jv p=true then oq V (Gi p) 2 else .error 3
def wW(l:List Tr)(d r:Ev)(i:jm):Prim:=⟨(at_ l 1).n,((at_ l 2).n:Int),d,r,i,(at_ l 7).n⟩
def tV(V:cG->Bool)(t:Tr):Except Int Prim:=
 match qk V t 2 with
 | .error e=> .error e
 | .ok l=>if l.length=8 then(match oV V (at_ l 3),oV V (at_ l 5),ke V (sS [at_ l 4,at_ l 6])with
  |some d,some r,some i=>(match ot V (wW l d r i)with
   | .ok a=>if oM a t=true then .ok (wW l d r i)else .error 3
   | .error _=> .error 3)
  |_,_,_=> .error 3)else .error 3
structure nz where
 ty:Nat
 nr:Nat
 fl:Nat
 sum:Int
 data:cG
deriving DecidableEq
def Gj(l:List Nat):Tr:=sS (l.map num)
def kf(V:cG->Bool)(b:cG):Bool:=match mJ V b with| .ok (t,n)=>decide (n=b.length) && decide (enc t=b)| .error _=>false
def eU(V:cG->Bool)(b:cG):Tr:=match mJ V b with| .ok (t,_)=>t| .error _=>CW
def Qz(V:cG->Bool)(d:cG):Bool:=kf V d && oM (eU V d) (num (eU V d).n) && decide ((eU V d).n<=1099511627776)
def oE(t:Tr):Nat:=(at_ t.l 0).n
def Ap(t:Tr):Nat:=(at_ t.l 1).n
def Oe(V:cG->Bool)(d:cG):Bool:=kf V d && decide ((eU V d).k=4/\(eU V d).l.length=2) && oM (eU V d) (Gj [oE (eU V d),Ap (eU V d)]) && decide (1<=oE (eU V d)/\oE (eU V d)<=255/\Ap (eU V d)<=oE (eU V d))
def Aq(V:cG->Bool)(t:Nat)(d:cG):Bool:=(if t=6 then kf V d && (oV V (eU V d)).isSome else if t=7 then Qz V d else if t=10 then Oe V d else true) && decide (d.length<=200)
def mK(n:Nat):Bool:=decide (1<=n/\n<=255)
def jI(V:cG->Bool)(b:nz):Bool:=mK b.ty && mK b.nr && Tu (b.fl:Int) 23 && decide (0<=b.sum) && decide (b.sum<=2) && Aq V b.ty b.data
def Lu(b:nz):List Tr:= [num b.ty,num b.nr,num b.fl,num b.sum.toNat,qH b.data]
def sV(V:cG->Bool)(b:nz):Except Int Tr:=if jI V b=true then oq V (Lu b) 3 else .error 3
def rK(l:List Tr):nz:=⟨(at_ l 0).n,(at_ l 1).n,(at_ l 2).n,((at_ l 3).n:Int),(at_ l 4).b⟩
def Ar(V:cG->Bool)(t:Tr):Except Int nz:=
 match qk V t 3 with
 | .error e=> .error e
 | .ok l=>if l.length=5/\(at_ l 4).k=2 then(match sV V (rK l)with
  | .ok a=>if oM a t=true then .ok (rK l)else .error 3
  | .error _=> .error 3)else .error 3
structure mq where
 p:Prim
 bl:List nz
deriving DecidableEq
def alone(k:Nat):Bool:=decide (k=1\/k=6\/k=7\/k=10)
def apart(b c:nz):Bool:=decide (c.nr≠b.nr) && (decide (c.ty≠b.ty)|| !alone b.ty)
def Iy(V:cG->Bool):List nz->List nz->Bool
 |_, []=>true
 |pre,b::l=>jI V b && pre.all (apart b) && Iy V (pre++ [b]) l
def BY(V:cG->Bool)(l:List nz):Bool:=match l.getLast? with
 |none=>false
 |some z=>decide (l.length<=8) && decide (z.ty=1/\z.nr=1) && Iy V [] l
def As(V:cG->Bool)(t:Tr):cG:=if im V t=true then enc t else []
def Gk(V:cG->Bool):List nz->cG->Option (cG)
 | [],o=>some o
 |b::l,o=>match sV V b with
  | .error _=>none
  | .ok t=>Gk V l (o++As V t)
def rL(V:cG->Bool)(b:mq):Option (cG):=match ot V b.p with
 | .error _=>none
 | .ok t=>Gk V b.bl (As V t)
def jN(V:cG->Bool)(b:mq):Option (cG):=
 if BY V b.bl=true then(match rL V b with
  |none=>none
  |some l=>if l.length<=598 then some (159::(l++ [255]))else none)
 else none
def Gl(V:cG->Bool):List Tr->List nz->Except Int (List nz)
 | [],o=> .ok o
 |t::l,o=>match Ar V t with
  | .error e=> .error e
  | .ok b=>Gl V l (o++ [b])
def kW(V:cG->Bool)(b:cG):Except Int mq:=
 if b.length<=1200 then(match mJ V b with
  | .error e=> .error e
  | .ok (t,n)=>if n=b.length/\t.k=4/\2<=t.l.length/\t.l.length<=9 then(match tV V (at_ t.l 0)with
   | .error e=> .error e
   | .ok p=>(match Gl V (t.l.drop 1) []with
    | .error e=> .error e
    | .ok l=>if(jN V ⟨p,l⟩).isSome=true then .ok ⟨p,l⟩else .error 3))else .error 3)
 else .error 2
def rM(V:cG->Bool)(B:cG):Bool:=match kW V B with
 | .error _=>false
 | .ok b=>decide (jN V b=some B)
def rN(b:mq):cG:=match b.bl.getLast? with|none=> []|some z=>z.data
structure yd where
 rc:Bool
 dl:Bool
 de:Bool
 reason:Nat
 at':Nat
 of:jm
deriving DecidableEq
def iW(r:yd):Bool:=(r.rc||r.dl||r.de) && decide (r.reason<=255) && decide (r.at'<=1099511627776) && hU r.of
def Gm(l:List Bool):Tr:=sS (l.map λb=>num (if b=true then 1 else 0))
def D6(r:yd):Tr:=sS [num 1,sS [Gm [r.rc,r.dl,r.de],num r.reason,num r.at',Od r.of]]
def D7(V:cG->Bool)(r:yd):Option (cG):=if iW r=true/\im V (D6 r)=true then some (enc (D6 r))else none
def mA(V:cG->Bool)(r:yd)(d:Ev)(id:jm)(l:Nat):Option mq:=match D7 V r with
 |none=>none
 |some b=>if(jN V ⟨⟨2,0,d,.zero,id,l⟩, [⟨1,1,0,0,b⟩]⟩).isSome=true then some ⟨⟨2,0,d,.zero,id,l⟩, [⟨1,1,0,0,b⟩]⟩else none

end Bn
end
section
namespace Ask
open jG (Ev dt)
structure Rq where
 id:Nat
 kind:Int
 ep:Ev
 dest:Ev
 lV:Int
 num:Int
 ja:Int
 mh:cG
 fT:Nat
 token:Nat
 on:Bool
deriving DecidableEq
def jz(x:Rq):Rq:=⟨x.id,x.kind,.zero,.zero,0,0,0, [],0,0,false⟩
def rO(x:Rq):Rq:=
 if x.kind=1\/x.kind=3 then { jz x with ep:=x.ep,lV:=x.lV }
 else if x.kind=2\/x.kind=6 then { jz x with ep:=x.ep }
 else if x.kind=4 then { jz x with ep:=x.ep,dest:=x.dest,mh:=x.mh,fT:=x.fT,on:=x.on }
 else if x.kind=5\/x.kind=8\/x.kind=9 then { jz x with num:=x.num }
 else if x.kind=7 then { jz x with ep:=x.ep,ja:=x.ja }
 else if x.kind=10 then { jz x with on:=x.on }
 else if x.kind=12 then { jz x with token:=x.token }
 else jz x
def mL(e:Ev):Bool:=dt e && !decide (e=.zero)
def mB(x:Rq):Bool:=
 if x.kind=1\/x.kind=3 then mL x.ep && decide (x.lV≥0) && decide (x.lV<=2)
 else if x.kind=2\/x.kind=6 then mL x.ep
 else if x.kind=4 then mL x.ep && mL x.dest && decide (x.mh.length<=200) && decide (x.fT≥1) && decide (x.fT<=1099511627776)
 else if x.kind=5\/x.kind=8\/x.kind=9 then decide (x.num≥1) && decide (x.num<=1099511627776)
 else if x.kind=7 then mL x.ep && decide (x.ja≥1) && decide (x.ja<=1000)
 else if x.kind=12 then decide (x.token≥1) && decide (x.token<=2147483648)
 else decide (x.kind=10\/x.kind=11)
def kX(x:Rq):Bool:=decide (x.id≥1) && decide (x.id<=1099511627776) && mB x && decide (x=rO x)

end Ask
end
section
namespace Cb
structure CV where
 k:Int
 n:Nat
 v:BV
 q:ct
 ll:Nat
 cl:Nat
abbrev iP(x:CV):List Value:= [.int .i64 x.k,.int .u64 (x.n:Int),x.v.val,.slice x.q x.ll x.cl]
theorem gU(x:CV):(iP x).length=4:=rfl
abbrev CV.agg(x:CV):Value:=.agg (iP x).toArray
structure mC (h:ai) (D:Nat->Prop) (q:ct) (l c:Nat) (ys:List CV):Prop where
 len:l=ys.length
 row:Row h q (ys.flatMap iP)
 own:ys≠ []->∀y,aP q y->D y
 cap:l<=c
mutual
def gP (h:ai) (D:Nat->Prop):Tr->CV->Prop
 | .mk k n b l,x=>(x.k=k/\x.n=n/\x.v.b=b/\x.v.ok h D)/\∃ys,mC h D x.q x.ll x.cl ys/\dB h D l ys
def dB (h:ai) (D:Nat->Prop):List Tr->List CV->Prop
 | [], []=>True
 |t::ts,y::ys=>gP h D t y/\dB h D ts ys
 |_,_=>False
end
variable {h a : ai} {D D' : Nat → Prop}
theorem mC.frame{Q:Nat->Prop}{q:ct}{l c:Nat}{b:List CV}(H:mC h D q l c b)(f:Fr Q h a)(d: ∀y,D y->¬Q y):mC a D q l c b:=by
 refine⟨H.len,?_,H.own,H.cap⟩;by_cases e:b= []
 .subst e;exact Row.nil
 .exact H.row.frame f (λA E=>d _ (H.own e _ ⟨A,E,rfl⟩))
theorem mC.mono{q:ct}{l c:Nat}{b:List CV}(H:mC h D q l c b)(d: ∀y,D y->D' y):mC h D' q l c b:=⟨H.len,H.row,λe y f=>d y (H.own e y f),H.cap⟩
theorem mC.lt{q:ct}{l c:Nat}{b:List CV}(H:mC h D q l c b):mC h (λy=>D y/\y<h.size) q l c b:=⟨H.len,H.row,λe y d=>⟨H.own e y d,jh H.row (by cases b with|nil=>exact absurd rfl e|cons=>simp) d⟩,H.cap⟩
theorem Gn{x:BV}(H:x.ok h D):x.ok h (λy=>D y/\y<h.size):=⟨H.row,λe y b=>⟨H.own e y b,jh H.row (by cases c:x.b with|nil=>exact absurd c e|cons=>simp[bc]) b⟩,H.cap⟩
mutual
theorem gP.frame {Q:Nat->Prop} (f:Fr Q h a) (hq: ∀y,D y->¬Q y): ∀ {t:Tr} {x:CV},gP h D t x->gP a D t x
 | .mk k n b l,x,H=>by
  unfold gP at H⊢;obtain⟨⟨h1,h2,h3,h4⟩,ys,h5,h6⟩:=H;exact⟨⟨h1,h2,h3,h4.frame f hq⟩,ys,h5.frame f hq,dB.frame f hq h6⟩
theorem dB.frame {Q:Nat->Prop} (f:Fr Q h a) (hq: ∀y,D y->¬Q y): ∀ {ts:List Tr} {ys:List CV},dB h D ts ys->dB a D ts ys
 | [], [],_=>trivial
 |t::ts,y::ys,H=>by
  unfold dB at H⊢;exact⟨gP.frame f hq H.1,dB.frame f hq H.2⟩
 | [],_::_,H=>by unfold dB at H;exact H.elim
 |_::_, [],H=>by unfold dB at H;exact H.elim
end
mutual
theorem gP.mono (hd: ∀y,D y->D' y): ∀ {t:Tr} {x:CV},gP h D t x->gP h D' t x
 | .mk k n b l,x,H=>by
  unfold gP at H⊢;obtain⟨⟨h1,h2,h3,h4⟩,ys,h5,h6⟩:=H;exact⟨⟨h1,h2,h3,h4.mono hd⟩,ys,h5.mono hd,dB.mono hd h6⟩
theorem dB.mono (hd: ∀y,D y->D' y): ∀ {ts:List Tr} {ys:List CV},dB h D ts ys->dB h D' ts ys
 | [], [],_=>trivial
 |t::ts,y::ys,H=>by
  unfold dB at H⊢;exact⟨gP.mono hd H.1,dB.mono hd H.2⟩
 | [],_::_,H=>by unfold dB at H;exact H.elim
 |_::_, [],H=>by unfold dB at H;exact H.elim
end
mutual
theorem gP.lt: ∀ {t:Tr} {x:CV},gP h D t x->gP h (λy=>D y/\y<h.size) t x
 | .mk k n b l,x,H=>by
  unfold gP at H⊢;obtain⟨⟨h1,h2,h3,h4⟩,ys,h5,h6⟩:=H;exact⟨⟨h1,h2,h3,Gn h4⟩,ys,h5.lt,dB.lt h6⟩
theorem dB.lt: ∀ {ts:List Tr} {ys:List CV},dB h D ts ys->dB h (λy=>D y/\y<h.size) ts ys
 | [], [],_=>trivial
 |t::ts,y::ys,H=>by
  unfold dB at H⊢;exact⟨gP.lt H.1,dB.lt H.2⟩
 | [],_::_,H=>by unfold dB at H;exact H.elim
 |_::_, [],H=>by unfold dB at H;exact H.elim
end
theorem gP.on{t:Tr}{x:CV}(H:gP h D t x)(f:Fr No h a):gP a D t x:=gP.frame f bX H
theorem dB.on{t:List Tr}{y:List CV}(H:dB h D t y)(f:Fr No h a):dB a D t y:=dB.frame f bX H
theorem dB.len: ∀{T:List Tr}{b:List CV},dB h D T b->T.length=b.length
 | [], [],_=>rfl
 |t::T,y::b,H=>by
  unfold dB at H;rw[bn,bn,dB.len H.2]
 | [],_::_,H=>by unfold dB at H;exact H.elim
 |_::_, [],H=>by unfold dB at H;exact H.elim
theorem dB.get: ∀{T:List Tr}{c:List CV}{i:Nat}{y:CV},dB h D T c->c[i]? =some y->∃t,T[i]? =some t/\gP h D t y
 | [], [],_,_,_,b=>by simp at b
 |t::T,y::c,0,z,H,b=>by
  unfold dB at H;rw[eO]at b;cases b;exact⟨t,rfl,H.1⟩
 |t::T,y::c,i+1,z,H,b=>by
  unfold dB at H;rw[dP]at b;obtain⟨u,d,e⟩:=dB.get H.2 b;exact⟨u,by rw[dP];exact d,e⟩
 | [],_::_,_,_,H,_=>by unfold dB at H;exact H.elim
 |_::_, [],_,_,H,_=>by unfold dB at H;exact H.elim
theorem dB.snoc: ∀{T:List Tr}{b:List CV}{t:Tr}{y:CV},dB h D T b->gP h D t y->dB h D (T++ [t]) (b++ [y])
 | [], [],_,_,_,c=>by
  show dB h D [_] [_];unfold dB;exact⟨c,trivial⟩
 |u::T,z::b,t,y,H,c=>by
  unfold dB at H;show dB h D (u::(T++ [t])) (z::(b++ [y]));unfold dB;exact⟨H.1,dB.snoc H.2 c⟩
 | [],_::_,_,_,H,_=>by unfold dB at H;exact H.elim
 |_::_, [],_,_,H,_=>by unfold dB at H;exact H.elim
theorem dB.take: ∀{T:List Tr}{b:List CV}(n:Nat),dB h D T b->dB h D (T.take n) (b.take n)
 | [], [],n,_=>by simp[dB]
 |t::T,y::b,0,_=>by simp[dB]
 |t::T,y::b,n+1,H=>by
  unfold dB at H;rw[gr,gr];unfold dB;exact⟨H.1,dB.take n H.2⟩
 | [],_::_,_,H=>by unfold dB at H;exact H.elim
 |_::_, [],_,H=>by unfold dB at H;exact H.elim
theorem dB.drop: ∀{T:List Tr}{b:List CV}(n:Nat),dB h D T b->dB h D (T.drop n) (b.drop n)
 | [], [],n,_=>by simp[dB]
 |t::T,y::b,0,H=>H
 |t::T,y::b,n+1,H=>by
  unfold dB at H;rw[List.drop_succ_cons,List.drop_succ_cons];exact dB.drop n H.2
 | [],_::_,_,H=>by unfold dB at H;exact H.elim
 |_::_, [],_,H=>by unfold dB at H;exact H.elim
end Cb
end
section
variable {h:ai} {R:fO}
variable {E:fO} {r C f g b d:Nat} {c H D v n:Int} {a:Bool} {K:Option Value->ai->Prop} {B:ct}
theorem Lv.walk{i:Bool}{e:Int}(j:if(!i)then E (.iface 258 (.agg #[.I e])) h else R (.T #[]) h):iO Tryz.prog 191 #[.B i,.I e] h R E:=iD (lq (cq lf lf)) Iu Tryz.func191 rfl rfl (Eq.mp dA j)
theorem wX.walk(X:bf h (.C #[.I 0,.U 0,.B false] 299) λl H=>aG (λ(a:ct) (next:Int) (e:Int) (P:ai)=>Ce 191 #[.B (e==0),.I e] P (λf' Q=>f'=.T #[]/\aJ Q (AA r 1) (.I next) λp=>aN a λL=>bD.LD p L λc' d' e'=>bD.ST p (AA l 0) c' d' e' λq=>bD.LD q (AA l 0) λZ a' b'=>R (.agg #[.I Z,.U a',.B b']) q) E) (λJ=>Hl H r 0 λj T t=>Hi H r 1 λk=>(Cl 223 #[.L j T t,.I k] H λg' S=> ∃s w y A G,g'=.T #[.agg #[.I s,.U w,.B y],.I A,.I G]/\bf S (.C #[.I 0,.U 0,.B false] 299) λm U=>bD.ST U (AA m 0) s w y λV=>([]:List Deferred)= []/\J (Sa m 0) A G V)/\(bf H (.C #[.I 0,.U 0,.B false] 299) λo i=>Cc i r 1 (.I k)/\Cc i r 0 (.L j T t)/\Cl 223 #[.L j T t,.I k] i λh' M=> ∃u x z F I,h'=.T #[.agg #[.I u,.U x,.B z],.I F,.I I]/\bD.ST M (AA o 0) u x z λO=>([]:List Deferred)= []/\J (Sa o 0) F I O)/\True)):iO Tryz.prog 190 #[.P r 0] h R E:=iD (lq (sq (.join [(3,.one (.ptr)),(4,.one (.int .i64)),(5,.one (.int .i64))] (.qT (fC 8 0 (.alts (.fork 8 (fC 8 9 .done) (.fork 13 (.op 8 (.op 9 (.op 10 (.op 11 (.op 12 (.op 14 (.op 15 (.op 16 .done)))))))) .gw)))))) (lq (lq ll)))) Iu Tryz.func190 rfl rfl (Eq.mp dA X)
theorem wY.walk (j:aG (λ(p:Bool) (H:ai)=>if p then∃i,Cc H r 1 (.I i)/\aJ H (AA r 1) (.I (wrap .i64 (i+1))) λa=>R (.B true) a else R (.B false) H) (λJ=>Hi h r 1 λq=> ∃l t k,Cc h r 0 (.L l t k)/\if(decide (q<((t:Nat):Int)))then Hl h r 0 λo m _=>Hi h r 1 λT=>Bd T m/\aN o λA=> ∃e,aU h (A.add (toNat T*1))=some (.int .u8 e)/\J (e==255) h else J false h)):Cl 224 #[.P r 0] h R:=aS [(4,.join [(25,.one (.bool))]),(4,λ_=>pN 23)] Tryz.func224 j
theorem vC.walk (Q:bf h (.C #[.I c,.U H,.B a] 299) λi H=> ∃w,Cc H i 1 (.U w)/\∃y m x,Cc H r 0 (.L y m x)/\∃o,Cc H r 1 (.I o)/\Ce 191 #[.B (decide (w<=(wrap .u64 (wrap .i64 (((m:Nat):Int) - o))))),.I 8] H (λV a=>V=.T #[]/\Cc a r 1 (.I o)/\Cc a r 0 (.L y m x)/\Cc a i 1 (.U w)/\∃p z k,Cc a r 0 (.L p z k)/\∃t,Cc a r 1 (.I t)/\∃T,Cc a r 1 (.I T)/\∃j,Cc a i 1 (.U j)/\((0:Int)<=wrap .i64 (T+(wrap .i64 j))/\wrap .i64 (T+(wrap .i64 j))<=((k:Nat):Int))/\((0:Int)<=t/\t<=wrap .i64 (T+(wrap .i64 j)))/\Cl 54 #[.slice (cQ p k (toNat t) 1) ((toNat (wrap .i64 (T+(wrap .i64 j)))) - (toNat t)) (k - (toNat t))] a λS e=> ∃u s q,S=.L u s q/\Cc e i 1 (.U j)/\Cc e r 1 (.I T)/\Cc e r 1 (.I t)/\Cc e r 0 (.L p z k)/\aG (λ(l:ai)=> ∃G,Cc l r 1 (.I G)/\∃I,Cc l i 1 (.U I)/\aJ l (AA r 1) (.I (wrap .i64 (G+(wrap .i64 I)))) λL=>R (.L u s q) L) (λJ=> ∃A,Cc e i 0 (.I A)/\if(A !=3)then Ce 191 #[.B true,.I 3] e (λU M=>U=.T #[]/\([]:List Deferred)= []/\J M) E else Cl 252 #[.L u s q] e λX O=> ∃F,X=.B F/\Ce 191 #[.B F,.I 3] O (λZ P=>Z=.T #[]/\([]:List Deferred)= []/\J P) E)) E):iO Tryz.prog 225 #[.P r 0,.agg #[.I c,.U H,.B a]] h R E:=iD (lq (sq (pN 15) (sq (pN 19) (sq (.join [] lf) (sq (pN 11) ll))))) Iu Tryz.func225 rfl rfl (Eq.mp dA Q)
theorem uu.walk (hv:bf h (.C #[.I c,.U H,.B a] 299) λj H=>bf H (.C #[.I 0,.U 0,.Z,.Z] 198) λk a=>Hi a j 0 λt8=>bf a (.C #[.I 0,.U 0,.Z,.Z] 198) λe f'=>aa.ST f' (AA e 0) t8 0 none 0 0 none 0 0 λm=> ∃T,Cc m j 2 (.B T)/\if(!T)then bD.LD m (AA j 0) λx' y' z'=>Ce 225 #[.P r 0,.agg #[.I x',.U y',.B z']] m (λa1 g'=> ∃A z y,a1=.L A z y/\aJ g' (AA e 2) (.L A z y) λw=>aa.LD w (AA e 0) λA' B' E' D' C' H' G' F'=>aa.ST w (AA k 0) A' B' E' D' C' H' G' F' λx=>aa.LD x (AA k 0) λh' j' p' n' l' v' t' r'=>R (.agg #[.I h',.U j',.L p' n' l',.L v' t' r']) x) E else∃(I:ai->Prop)(M:ai->Nat),I m/\∀(p:ai),I p->Cl 224 #[.P r 0] p λa2 q=> ∃F,a2=.B F/\if(!F)then Ce 190 #[.P r 0] q (λa3 a'=> ∃G L O,a3=.agg #[.I G,.U L,.B O]/\bf a' (.C #[.I 0,.U 0,.B false] 299) λl b'=>bD.ST b' (AA l 0) G L O λi=>aG (λ(o:ai)=>Hl o e 2 λU S Q=>bD.LD o (AA l 0) λK' L' M'=>Ce 225 #[.P r 0,.agg #[.I K',.U L',.B M']] o (λa4 s=>Vl a4 λQ' P' O'=>Cc s e 2 (.L U S Q)/\aT Tryz.prog (Builtin.append_ #[33,33] 33 #[.L U S Q,.L Q' P' O']) s λa5 c'=> ∃Z X V,a5=.L Z X V/\aJ c' (AA e 2) (.L Z X V) λt=>(([]:List Deferred)= []/\I t/\M t<M p)) E) (λJ=>Hi i l 0 λI'=> ∃P,Cc i j 0 (.I P)/\if(I'==P)then Hb i l 2 λJ'=>Ce 191 #[.B (!J'),.I 3] i (λa6 d'=>a6=.T #[]/\([]:List Deferred)= []/\J d') E else Ce 191 #[.B false,.I 3] i (λa7 e'=>a7=.T #[]/\([]:List Deferred)= []/\J e') E)) E else aa.LD q (AA e 0) λR' S' V' U' T' a0 Z' X'=>aa.ST q (AA k 0) R' S' V' U' T' a0 Z' X' λu=>aa.LD u (AA k 0) λi' k' q' o' m' w' u' s'=>R (.agg #[.I i',.U k',.L q' o' m',.L w' u' s']) u):iO Tryz.prog 193 #[.P r 0,.agg #[.I c,.U H,.B a]] h R E:=iD (lq (lq (sq (lq (cq (lq ll) lf)) (sq (bq (.loop [] (sq (lq (cq lf lf)) (bq (lq (sq (.join [] lf) (pN 8))))))) ll)))) Iu Tryz.func193 rfl rfl (Eq.mp dA hv)
theorem wZ.walk (hv:bf h (.C #[.I c,.U H,.B a] 299) λl H=>bf H (.C #[.I 0,.U 0,.Z,.Z] 198) λm a=>bf a (.C #[.I 0,.U 0,.Z,.Z] 198) λe C'=>aa.ST C' (AA e 0) 4 0 none 0 0 none 0 0 λj=> ∃X,Cc j l 2 (.B X)/\if X then∃(I:ai->Prop)(U:ai->Nat),I j/\∀(y:ai),I y->Cl 224 #[.P r 0] y λb3 o=> ∃Z,b3=.B Z/\if(!Z)then∃q p T,Cc o e 3 (.L q p T)/\Ce 158 #[.P r 0,.I (wrap .i64 (D+1))] o (λb4 Q=> ∃a' b' e' d' c' h' g' f',b4=.agg #[.I a',.U b',.L e' d' c',.L h' g' f']/\Cc Q e 3 (.L q p T)/\bf Q (.C #[.I a',.U b',.L e' d' c',.L h' g' f'] 198) λz' S=>Cc S e 3 (.L q p T)/\aT Tryz.prog (Builtin.append_ #[196,196] 196 #[.L q p T,.L (Sa z' 0) 1 1]) S λb5 D'=> ∃k' j' i',b5=.L k' j' i'/\aJ D' (AA e 3) (.L k' j' i') λG=>(([]:List Deferred)= []/\I G/\U G<U y)) E else aa.LD o (AA e 0) λV' X' a1 a0 Z' a4 a3 a2=>aa.ST o (AA m 0) V' X' a1 a0 Z' a4 a3 a2 λJ=>aa.LD J (AA m 0) λE' G' M' K' I' T' R' P'=>R (.agg #[.I E',.U G',.L M' K' I',.L T' R' P']) J else∃z,Cc j l 1 (.U z)/\∃m' A l',Cc j r 0 (.L m' A l')/\∃F,Cc j r 1 (.I F)/\Ce 191 #[.B (decide (z<=(wrap .u64 (wrap .i64 (((A:Nat):Int) - F))))),.I 8] j (λb6 k=>b6=.T #[]/\Cc k r 1 (.I F)/\Cc k r 0 (.L m' A l')/\Cc k l 1 (.U z)/\∃n',Cc k l 1 (.U n')/\∃(x:Int->ai->Prop)(V:Int->ai->Nat),x 0 k/\∀(t:Int)(i:ai),x t i->if(decide (t<n'))then∃w u s,Cc i e 3 (.L w u s)/\Ce 158 #[.P r 0,.I (wrap .i64 (D+1))] i (λb7 L=> ∃o' p' s' r' q' v' u' t',b7=.agg #[.I o',.U p',.L s' r' q',.L v' u' t']/\Cc L e 3 (.L w u s)/\bf L (.C #[.I o',.U p',.L s' r' q',.L v' u' t'] 198) λA' M=>Cc M e 3 (.L w u s)/\aT Tryz.prog (Builtin.append_ #[196,196] 196 #[.L w u s,.L (Sa A' 0) 1 1]) M λb8 B'=> ∃y' x' w',b8=.L y' x' w'/\aJ B' (AA e 3) (.L y' x' w') λO=>(([]:List Deferred)= []/\x (wrap .u64 (t+1)) O/\V (wrap .u64 (t+1)) O<V t i)) E else aa.LD i (AA e 0) λa5 a6 a9 a8 a7 b2 b1 b0=>aa.ST i (AA m 0) a5 a6 a9 a8 a7 b2 b1 b0 λP=>aa.LD P (AA m 0) λF' H' O' L' J' U' S' Q'=>R (.agg #[.I F',.U H',.L O' L' J',.L U' S' Q']) P) E):iO Tryz.prog 192 #[.P r 0,.agg #[.I c,.U H,.B a],.I D] h R E:=iD (lq (lq (sq (lq (cq (sq (bq (.loop [] (sq (lq (cq lf lf)) (bq (pN 10))))) ll) lf)) (sq (pN 15) (sq (lq (bq (.loop [(41,.one (.int .u64))] (lq (sq (cq lf lf) (sq (bq (pN 10)) lf)))))) ll))))) Iu Tryz.func192 rfl rfl (Eq.mp dA hv)
theorem oW.walk (hv:bf h (.C #[.I 0,.U 0,.Z,.Z] 198) λk H=>Ce 190 #[.P r 0] H (λR' a=> ∃X Z a',R'=.agg #[.I X,.U Z,.B a']/\bf a (.C #[.I 0,.U 0,.B false] 299) λe h'=>bD.ST h' (AA e 0) X Z a' λi=>aG (λ(i':ai)=>Ce 191 #[.B (decide (D<=6)),.I 9] i' (λS' o=>S'=.T #[]/\Hi o r 2 λI'=>Ce 191 #[.B (decide (I'>0)),.I 2] o (λT' p=>T'=.T #[]/\∃u,Cc p r 2 (.I u)/\aJ p (AA r 2) (.I (wrap .i64 (u - 1))) λj=> ∃t,Cc j e 0 (.I t)/\if(t==0)then Hu j e 1 λJ'=>aa.ST j (AA k 0) 0 J' none 0 0 none 0 0 λq=>aa.LD q (AA k 0) λj' m' v' s' p' E' B' y'=>R (.agg #[.I j',.U m',.L v' s' p',.L E' B' y']) q else if(t==4)then bD.LD j (AA e 0) λK' L' M'=>Ce 192 #[.P r 0,.agg #[.I K',.U L',.B M'],.I D] j (λU' b'=> ∃w x A z y I G F,U'=.agg #[.I w,.U x,.L A z y,.L I G F]/\aa.ST b' (AA k 0) w x A z y I G F λl=>aa.LD l (AA k 0) λk' n' w' t' q' F' C' z'=>R (.agg #[.I k',.U n',.L w' t' q',.L F' C' z']) l) E else bD.LD j (AA e 0) λO' P' Q'=>Ce 193 #[.P r 0,.agg #[.I O',.U P',.B Q']] j (λV' c'=> ∃L M Q P O V U S,V'=.agg #[.I L,.U M,.L Q P O,.L V U S]/\aa.ST c' (AA k 0) L M Q P O V U S λm=>aa.LD m (AA k 0) λl' o' x' u' r' G' D' A'=>R (.agg #[.I l',.U o',.L x' u' r',.L G' D' A']) m) E) E) E) (λJ=> ∃t9,Cc i e 0 (.I t9)/\if(t9==0)then Ce 191 #[.B true,.I 3] i (λX' d'=>X'=.T #[]/\([]:List Deferred)= []/\J d') E else∃T,Cc i e 0 (.I T)/\if(T==2)then Ce 191 #[.B true,.I 3] i (λZ' e'=>Z'=.T #[]/\([]:List Deferred)= []/\J e') E else∃s,Cc i e 0 (.I s)/\if(s==3)then Ce 191 #[.B true,.I 3] i (λa0 f'=>a0=.T #[]/\([]:List Deferred)= []/\J f') E else Hi i e 0 λH'=>Ce 191 #[.B (H'==4),.I 3] i (λa1 g'=>a1=.T #[]/\([]:List Deferred)= []/\J g') E)) E):iO Tryz.prog 158 #[.P r 0,.I D] h R E:=iD (lq (lq (sq (.join [] lf) (lq (lq (lq (sq (lq (bq (lq (cq ll (lq (cq ll lf)))))) ll))))))) Iu Tryz.func158 rfl rfl (Eq.mp dA hv)
theorem rP.ret.walk(i:bf h (.C #[.I 0] 258) λe H=>aJ H (AA e 0) (.I 0) λa=>K none a):qX Tryz.prog 157 #[.P C 0,.P f 0,.P g 0] none h K:=qY (lq (lq (cq (pN 6) lf))) Tryz.func157 rfl rfl (Eq.mp dA i)
theorem rP.Wy.walk{k:Int}(m:bf h (.C #[.I 0] 258) λe H=>aJ H (AA e 0) (.I k) λa=>Hi a e 0 λt=>aa.ST a (AA C 0) 0 0 none 0 0 none 0 0 λi=>Cc i e 0 (.I t)/\aJ i (AA f 0) (.I 0) λj=>Cc j e 0 (.I t)/\aJ j (AA g 0) (.I t) λl=>K none l):qX Tryz.prog 157 #[.P C 0,.P f 0,.P g 0] (some (.iface 258 (.agg #[.I k]))) h K:=qY (lq (lq (cq (pN 6) lf))) Tryz.func157 rfl rfl (Eq.mp dA m)
theorem Lw.walk (X:bf h (.C #[.I 0,.U 0,.Z,.Z] 198) λe H=>bf H (.C #[.I 0] 3) λj a=>bf a (.C #[.I 0] 24) λk q=>aG (λ(z':Bool) (s:ai)=>if z' then aa.ST s (AA e 0) 0 0 none 0 0 none 0 0 λP=>aJ P (AA j 0) (.I 0) λQ=>aJ Q (AA k 0) (.I 1) λl=>aa.LD l (AA e 0) λZ c' l' i' f' u' r' o'=>Hi l j 0 λr1=> ∃t,Cc l k 0 (.I t)/\R (.T #[.agg #[.I Z,.U c',.L l' i' f',.L u' r' o'],.I r1,.I t]) l else bf s (.C #[.L B b d,.I v,.I 256] 262) λm S=>Ce 158 #[.P m 0,.I 1] S (λI' U=> ∃T x A z y I G F,I'=.agg #[.I T,.U x,.L A z y,.L I G F]/\aa.ST U (AA e 0) T x A z y I G F λo=>aa.LD o (AA e 0) λA' B' E' D' C' H' G' F'=>Hi o m 1 λL=>aa.ST o (AA e 0) A' B' E' D' C' H' G' F' λp=>Cc p m 1 (.I L)/\aJ p (AA j 0) (.I L) λM=>aJ M (AA k 0) (.I 0) λO=>qX Tryz.prog 157 #[.P e 0,.P j 0,.P k 0] none O (Nw (λi=>aa.LD i (AA e 0) λa' d' m' j' g' v' s' p'=>Hi i j 0 λx'=> ∃u,Cc i k 0 (.I u)/\R (.T #[.agg #[.I a',.U d',.L m' j' g',.L v' s' p'],.I x',.I u]) i) E)) (λv_ V=>qX Tryz.prog 157 #[.P e 0,.P j 0,.P k 0] (some v_) V (Nw (λi=>aa.LD i (AA e 0) λb' e' n' k' h' w' t' q'=>Hi i j 0 λy'=> ∃w,Cc i k 0 (.I w)/\R (.T #[.agg #[.I b',.U e',.L n' k' h',.L w' t' q'],.I y',.I w]) i) E))) (λJ=>if(decide (v<0))then([]:List Deferred)= []/\J true q else([]:List Deferred)= []/\J (decide (v>(b:Int))) q)):iO Tryz.prog 114 #[.L B b d,.I v] h R E:=iD (lq (sq (sq (.join [(15,.one (.bool))] lf) (cq ll lf)) (lq (lq (lq (sq (pN 8) lf)))))) Iu Tryz.func114 rfl rfl (Eq.mp dA X)
theorem BZ.walk(y:Cl 114 #[.L B b d,.I 0] h λV H=> ∃T j m l k q p o s u,V=.T #[.agg #[.I T,.U j,.L m l k,.L q p o],.I s,.I u]/\bf H (.C #[.I 0,.U 0,.Z,.Z] 198) λi a=>aa.ST a (AA i 0) T j m l k q p o λe=>if(u==0)then if(s==(b:Int))then aa.LD e (AA i 0) λz A I G F M L J=>Cl 215 #[.Z,.agg #[.I z,.U A,.L I G F,.L M L J]] e λS w=>Vl S λQ P O=>Cl 35 #[.L Q P O,.L B b d] w λU x=> ∃t,U=.B t/\R (.B t) x else R (.B false) e else R (.B false) e):Cl 279 #[.L B b d] h R:=aS [] Tryz.func279 y
theorem D8.walk{m:Int}(e:if(decide (m≥2))then if(decide (m<=5))then R (.B true) h else R (.B (m==7)) h else R (.B (m==7)) h):Cl 251 #[.I m] h R:=aS [] Tryz.func251 e
theorem Iz.walk(l:bf h (.C #[.I c,.U H,.B a] 299) λe H=> ∃k,Cc H e 2 (.B k)/\if k then bD.LD H (AA e 0) λo p q=>Hi H e 0 λs=> ∃(i:Bool),BP Tryz.prog 299 (.agg #[.I o,.U p,.B q]) (.agg #[.I s,.U 0,.B true]) i/\if i then Hi H e 0 λm=>Cl 251 #[.I m] H λV a=> ∃t,V=.B t/\R (.B t) a else R (.B false) H else∃T,Cc H e 0 (.I T)/\if(decide (T≥0))then∃j,Cc H e 0 (.I j)/\R (.B (decide (j<=7))) H else R (.B false) H):Cl 260 #[.agg #[.I c,.U H,.B a]] h R:=aS [] Tryz.func260 l
theorem Gp.walk(e:if(decide (n<24))then R (.I 0) h else if(decide (n<256))then R (.I 1) h else if(decide (n<65536))then R (.I 2) h else if(decide (n<4294967296))then R (.I 4) h else R (.I 8) h):Cl 262 #[.U n] h R:=aS [] Tryz.func262 e
theorem Lx.walk(e:Cl 262 #[.U n] h λV H=> ∃t,V=.I t/\if(t==1)then R (.int .u8 24) H else if(t==2)then R (.int .u8 25) H else if(t==4)then R (.int .u8 26) H else if(t==8)then R (.int .u8 27) H else R (.int .u8 (wrap .u8 n)) H):Cl 261 #[.U n] h R:=aS [] Tryz.func261 e
theorem IA.walk (Q:bf h (.C #[.I c,.U H,.B a] 299) λe H=>bD.LD H (AA e 0) λX Z a'=>Cl 260 #[.agg #[.I X,.U Z,.B a']] H λb' a=> ∃z,b'=.B z/\if(!z)then R (.T #[.Z,.I 3]) a else∃w,Cc a e 2 (.B w)/\if w then Hi a e 0 λS=>bf a (.C #[.int .u8 (wrap .u8 ((qN (wrap .u8 ((wrap .u8 S)*2 ^ min (toNat 5) (IntKind.bits .u8)))|||qN 31).toNat:Int))] 5) λA J=>R (.T #[.L (Sa A 0) 1 1,.I 0]) J else Hi a e 0 λT=>Hu a e 1 λU=>Cl 261 #[.U U] a λc' s=> ∃x,c'=.int .u8 x/\Cc s e 0 (.I T)/\bf s (.C #[.int .u8 (wrap .u8 ((qN (wrap .u8 ((wrap .u8 T)*2 ^ min (toNat 5) (IntKind.bits .u8)))|||qN x).toNat:Int))] 5) λF k=>Cc k e 0 (.I T)/\Hu k e 1 λV=>Cl 262 #[.U V] k λd' L=>Vi d' λl=> ∃(I:ct->Nat->Nat->Int->ai->Prop)(M:ct->Nat->Nat->Int->ai->Nat),I (Sa F 0) 1 1 0 L/\∀(j:ct)(O o:Nat)(t:Int)(i:ai),I j O o t i->if(decide (t<l))then∃y,Cc i e 1 (.U y)/\if wrap .i64 (8*(wrap .i64 ((wrap .i64 (l - 1)) - t)))<0 then False else bf i (.C #[.int .u8 (wrap .u8 (Int.fdiv y (2 ^ min (toNat (wrap .i64 (8*(wrap .i64 ((wrap .i64 (l - 1)) - t))))) (IntKind.bits .u64))))] 5) λG P=>aT Tryz.prog (Builtin.append_ #[33,33] 33 #[.L j O o,.L (Sa G 0) 1 1]) P λe' u=> ∃q p m,e'=.L q p m/\(I q p m (wrap .i64 (t+1)) u/\M q p m (wrap .i64 (t+1)) u<M j O o t i)else R (.T #[.L j O o,.I 0]) i):Cl 246 #[.agg #[.I c,.U H,.B a]] h R:=aS [(18,λ_=>pN 10),(25,.loop [(4,.one (.slice)),(33,.one (.int .i64))])] Tryz.func246 Q
theorem Ly.walk (U:bf h (.C #[.I 0,.U 0,.B false] 299) λe H=>aG (λ(s':Bool) (a:ai)=>if s' then bD.ST a (AA e 0) 0 0 false λx=>bD.LD x (AA e 0) λV e' l'=>R (.T #[.agg #[.I V,.U e',.B l'],.I 0,.I 1]) x else if(v==(b:Int))then bD.ST a (AA e 0) 0 0 false λy=>bD.LD y (AA e 0) λX f' m'=>R (.T #[.agg #[.I X,.U f',.B m'],.I 0,.I 8]) y else Bd v b/\aN B λL=>Ka a (L.add (toNat v*1)) λt'=>bf a (.C #[.I 0,.U 0,.B false] 299) λi S=>bD.ST S (AA i 0) (wrap .i64 (Int.fdiv t' (2 ^ min (toNat 5) (IntKind.bits .u8)))) 0 false λk=>Bd v b/\aN B λO=> ∃t,aU k (O.add (toNat v*1))=some (.int .u8 t)/\if(decide ((wrap .u8 ((qN t &&& qN 31).toNat:Int))<24))then aJ k (AA i 1) (.U (wrap .u64 (wrap .u8 ((qN t &&& qN 31).toNat:Int)))) λz=>bD.LD z (AA i 0) λu' v' w'=>bD.ST z (AA e 0) u' v' w' λA=>bD.LD A (AA e 0) λZ g' n'=>R (.T #[.agg #[.I Z,.U g',.B n'],.I (wrap .i64 (v+1)),.I 0]) A else aG (λ(x':Bool) (l:ai)=>if x' then aJ l (AA i 2) (.B true) λo=>bD.LD o (AA i 0) λz' A' B'=>bD.ST o (AA e 0) z' A' B' λp=>bD.LD p (AA e 0) λa' h' o'=>R (.T #[.agg #[.I a',.U h',.B o'],.I (wrap .i64 (v+1)),.I 0]) p else if(decide ((wrap .u8 ((qN t &&& qN 31).toNat:Int))>27))then bD.ST l (AA e 0) 0 0 false λq=>bD.LD q (AA e 0) λb' i' p'=>R (.T #[.agg #[.I b',.U i',.B p'],.I 0,.I 3]) q else if wrap .u8 ((wrap .u8 ((qN t &&& qN 31).toNat:Int)) - 24)<0 then False else if(decide ((wrap .i64 (1*2 ^ min (toNat (wrap .u8 ((wrap .u8 ((qN t &&& qN 31).toNat:Int)) - 24))) (IntKind.bits .i64)))>(wrap .i64 ((b:Int) - (wrap .i64 (v+1))))))then bD.ST l (AA e 0) 0 0 false λs=>bD.LD s (AA e 0) λc' j' q'=>R (.T #[.agg #[.I c',.U j',.B q'],.I 0,.I 8]) s else∃(I:Int->ai->Prop)(M:Int->ai->Nat),I 0 l/\∀(T:Int)(j:ai),I T j->if(decide (T<(wrap .i64 (1*2 ^ min (toNat (wrap .u8 ((wrap .u8 ((qN t &&& qN 31).toNat:Int)) - 24))) (IntKind.bits .i64)))))then Hu j i 1 λC'=>Bd (wrap .i64 ((wrap .i64 (v+1))+T)) b/\aN B λP=> ∃G,aU j (P.add (toNat (wrap .i64 ((wrap .i64 (v+1))+T))*1))=some (.int .u8 G)/\aJ j (AA i 1) (.U (wrap .u64 ((nQ (wrap .u64 (C'*2 ^ min (toNat 8) (IntKind.bits .u64)))|||nQ (wrap .u64 G)).toNat:Int))) λu=>(I (wrap .i64 (T+1)) u/\M (wrap .i64 (T+1)) u<M T j)else bD.LD j (AA i 0) λD' E' F'=>bD.ST j (AA e 0) D' E' F' λw=>bD.LD w (AA e 0) λd' k' r'=>R (.T #[.agg #[.I d',.U k',.B r'],.I (wrap .i64 ((wrap .i64 (v+1))+(wrap .i64 (1*2 ^ min (toNat (wrap .u8 ((wrap .u8 ((qN t &&& qN 31).toNat:Int)) - 24))) (IntKind.bits .i64))))),.I 0]) w) (λm=>if((wrap .u8 ((qN t &&& qN 31).toNat:Int))==31)then Hi k i 0 λy'=>Cl 251 #[.I y'] k λG' Q=> ∃F,G'=.B F/\m F Q else m false k)) (λJ=>if(decide (v<0))then J true H else J (decide (v>(b:Int))) H)):Cl 223 #[.L B b d,.I v] h R:=aS [(5,.join [(11,.one (.bool))]),(34,.join [(49,.one (.bool))]),(62,.loop [(75,.one (.int .i64))]),(73,λ_=>pN 13)] Tryz.func223 U

end
section
namespace Cb
variable {h H:ai} {R E:fO} {p:ct} {r l c:Nat} {b:cG}
variable {pos left:Nat}
abbrev QA(e:Int):Value:=.iface 258 (.agg #[.int .i64 e])
structure wE (h:ai) (r:Nat) (p:ct) (c:Nat) (b:cG) (pos left:Nat):Prop where
 di:h[r]? =some (.cells #[.slice p b.length c,.int .i64 (pos:Int),.int .i64 (left:Int)] 262 (0,0))
 row:Row h p (bc b)
 cap:b.length<=c
 pos:pos<=b.length
 ap:b≠ []->¬aP p r
 len:b.length<=1000000
 left:left<=1000000
theorem iq{q:Bool}{e:Int}(k:q=true->R (.T #[]) h)(K:q=false->E (QA e) h):iO Tryz.prog 191 #[.B q,.I e] h R E:=by
 refine Lv.walk ?_;cases q with
 |true=>rw[dy];exact k rfl
 |false=>rw[gi];exact K rfl
theorem wE.frame{Q:Nat->Prop}(d:wE h r p c b pos left)(f:Fr Q h H)(i: ¬Q r)(j: ∀y,aP p y->b≠ []->¬Q y):wE H r p c b pos left:=by
 refine⟨f.get d.di i,?_,d.cap,d.pos,d.ap,d.len,d.left⟩;by_cases e:b= []
 .subst e;exact Row.nil
 .exact d.row.frame f (λa g=>j _ ⟨a,g,rfl⟩ e)
theorem wE.on(a:wE h r p c b pos left)(f:Fr No h H):wE H r p c b pos left:=a.frame f id (λ_ _ _=>id)
theorem wE.set{pos' left':Nat}(d:wE h r p c b pos left)(o:pos'<=b.length)(n:left'<=1000000)(D:H[r]? =some (.C #[.L p b.length c,.I (pos':Int),.I (left':Int)] 262 (0,0)))(g:H.size=h.size)(i: ∀x,x≠r->H[x]? =h[x]?):
  wE H r p c b pos' left'/\Fr (λy=>y=r) h H:=by
 have f:Fr (λy=>y=r) h H:=Fr.of_eq g (λc m=>i c m);refine⟨⟨D,?_,d.cap,o,d.ap,d.len,n⟩,f⟩;by_cases e:b= []
 .subst e;exact Row.nil
 .exact d.row.frame f (λa k j=>d.ap e ⟨a,k,j⟩)
theorem Kh(d:wE h r p c b pos left)(K: ∀H,vy b pos=true->pos<b.length->wE H r p c b (pos+1) left->Fr (λy=>y=r) h H->R (.B true) H)(k:vy b pos=false->R (.B false) h):Cl 224 #[.P r 0] h R:=by
 have f:=d.di;have u:=d.len;refine wY.walk (aG.of λJ j=>⟨_,au f,_,_,_,au f,?_⟩);by_cases g:pos<b.length
 .rw[gi];obtain⟨a,rfl⟩:=d.row.some (by cases b with|nil=>simp at g|cons=>simp[bc]);have s:(bc b)[pos]? =some (.int .u8 ((b[pos]).toNat:Int)):=by unfold bc;rw[aL,aj g];rfl
  have C:=d.row.cell s;have i:vy b pos=decide ((b[pos]).toNat=255):=by unfold vy;rw[aj g]
  generalize (b[pos]).toNat=x at C i;refine⟨_,_,_,au f,_,au f,ag,ax.2 ⟨_,by rw[aH,cE];exact C,?_⟩⟩;subst j;dsimp only;split
  .rename_i q;refine⟨_,au f,bk f (by show 1<3;omega) λo D m n=> ?_⟩;rw[bJ ag ag]at D;obtain⟨Q,t⟩:=d.set (pos':=pos+1) ag d.left D m n;exact K o (by rw[i];have:=eq_of_beq q;exact av ag) g Q t
  .rename_i q;exact k (by rw[i];exact aC λe=>q (by rw[e];rfl))
 .rw[ae (λe=>g (bW (aV e)))];subst j;dsimp only;rw[dy];exact k (by unfold vy;rw[cV ag])
theorem IB{m:Nat}(a:R (.B (rG m)) h):Cl 251 #[.I (m:Int)] h R:=by
 refine D8.walk ?_;have f:((m:Int)==7)=decide (m=7):=by
  by_cases e:m=7
  .subst e;rfl
  .rw[aC e,dz];omega
 have a: ∀q,q=rG m->R (.B q) h:=λq e=>by rw[e];exact a
 unfold rG at a;rw[f];split
 .rename_i Q;split
  .rename_i d;exact a _ (by rw[av];rfl;have:=aV Q;have:=aV d;omega)
  .rename_i d;exact a _ (by rw[aC (p:=2<=m/\m<=5)];rfl;intro e;exact d (av ag))
 .rename_i Q;exact a _ (by rw[aC (p:=2<=m/\m<=5)];rfl;intro e;exact Q (av ag))
theorem byte_at(e:Row h p (bc b)){i:Nat}(d:i<b.length): ∃a,p=some a/\aU h (a.add (i*1))=some (.int .u8 ((b[i]).toNat:Int)):=by
 obtain⟨a,rfl⟩:=e.some (by cases b with|nil=>simp at d|cons=>simp[bc]);exact⟨a,rfl,by rw[cE];exact e.cell (v:=.int .u8 ((b[i]).toNat:Int)) (by unfold bc;rw[aL,aj d];rfl)⟩
theorem Wz: ∀x:Fin 256,IntKind.wrap .i64 (Int.fdiv (x.val:Int) (2 ^ min (Int.toNat 5) (IntKind.bits .u8)))=((x.val/32:Nat):Int):=dS
theorem TV: ∀x:Fin 256,IntKind.wrap .u8 ((BitVec.ofInt (IntKind.bits .u8) (x.val:Int) &&& BitVec.ofInt (IntKind.bits .u8) 31).toNat:Int)=((x.val%32:Nat):Int):=dS
theorem zt{n:Nat}(h:n<18446744073709551616):IntKind.wrap .u64 (n:Int)=(n:Int):=by
 have e:IntKind.wrap .u64 (n:Int)=(n:Int)%18446744073709551616:=by simp[IntKind.wrap,IntKind.bits,IntKind.signed]
 rw[e];omega
theorem Sw{v y:Nat}(d:v<72057594037927936)(f:y<256):IntKind.wrap .u64 ((BitVec.ofInt (IntKind.bits .u64) (IntKind.wrap .u64 ((v:Int)*2 ^ min (Int.toNat 8) (IntKind.bits .u64)))|||BitVec.ofInt (IntKind.bits .u64) (IntKind.wrap .u64 (y:Int))).toNat:Int)=((v*256+y:Nat):Int):=by
 have e:(v:Int)*2 ^ min (Int.toNat 8) (IntKind.bits .u64)=((v*256:Nat):Int):=by
  rw[show(2:Int) ^ min (Int.toNat 8) (IntKind.bits .u64)=256 from rfl];omega
 rw[e,zt (n:=v*256) ag,zt (n:=y) ag];have a:((BitVec.ofInt (IntKind.bits .u64) ((v*256:Nat):Int)|||BitVec.ofInt (IntKind.bits .u64) (y:Int)).toNat)=v*256+y:=by
  rw[BitVec.toNat_or,BitVec.ofInt_natCast,BitVec.ofInt_natCast,BitVec.toNat_ofNat,BitVec.toNat_ofNat];rw[show(2:Nat) ^ IntKind.bits .u64=18446744073709551616 from rfl,Nat.mod_eq_of_lt ag,Nat.mod_eq_of_lt ag];have:=Nat.two_pow_add_eq_or_of_lt (i:=8) (b:=y) ag v;rw[show(2:Nat) ^ 8=256 from rfl]at this;rw[Nat.mul_comm v 256];exact this.symm
 rw[a];exact zt ag
theorem Gq(hr:Row h p (bc b))(hl:l=b.length)(m':b.length<=1000000)(hp:pos<=b.length)(k1: ∀H (m n next:Nat) (o:Bool),Fo b pos=.ok (m,n,o,next)->Fr No h H->R (.T #[.agg #[.I (m:Int),.U (n:Int),.B o],.I (next:Int),.I 0]) H)(k2: ∀H e,Fo b pos=.error e->Fr No h H->e≠0->R (.T #[.agg #[.I 0,.U 0,.B false],.I 0,.I e]) H):Cl 223 #[.L p l c,.I (pos:Int)] h R:=by
 subst hl;refine Ly.walk (bD.box λB A eb P z=>aG.of λj' hJ=> ?_);rw[dy,aC ag];subst hJ;dsimp only;rw[dy];have zb:=aA P;have O: ∀g e,Fr No A g->Fo b pos=.error e->e≠0->bD.ST g (AA B 0) 0 0 false λt=>bD.LD t (AA B 0) λU V Z=>R (.T #[.agg #[.I U,.U V,.B Z],.I 0,.I e]) t:=λg e F hx I=>
  bD.set (F.get P id) λt D k j=>bD.ld D (k2 t e hx ((z.tt F).fresh (Fr.of_eq (S:=λy=>y=B) k (λc s=>j c s)) (λy e=>ag)) I)
 by_cases I:pos=b.length
 .rw[af (by rw[I];simp)];exact O A 8 (Fr.refl _ _) (by unfold Fo;rw[cV ag]) dS
 rw[ae (λe=>I (bW (eq_of_beq e)))];have c':pos<b.length:=ag
 obtain⟨k',rfl,M⟩:=byte_at hr c';have a:Fo b pos=Fo b pos:=rfl;conv at a=>rhs;unfold Fo;rw[aj c']
 dsimp only at a;have X:=(b[pos]).toNat_lt;generalize (b[pos]).toNat=x at M a X;refine⟨ag,ax.2 ⟨_,z.cell (by rw[aH];exact M) id,bD.new λv C l' u w=>⟨ag,ax.2 ⟨_,(z.tt w).cell (by rw[aH];exact M) id,?_⟩⟩⟩⟩;have n':=aA u;have z2:=w.1;have z1:=z.1;rw[Wz ⟨x,X⟩]at u;rw[TV ⟨x,X⟩];rw[show(⟨x,X⟩:Fin 256).val=x from rfl]at u⊢;have i':x/32<8:=ag
 generalize em:x/32=m at u a i';have e':x%32<32:=ag
 generalize x%32=f at a e'⊢;rw[bJ (n:=(pos:Int)+1) ag ag];have T: ∀g (n next:Nat) (o:Bool),bD.at g v (m:Int) (n:Int) o->bD.at g B 0 0 false->Fr No h g->Fo b pos=.ok (m,n,o,next)->
   bD.LD g (AA v 0) λt0 t1 t2=>bD.ST g (AA B 0) t0 t1 t2 λG=>bD.LD G (AA B 0) λU V Z=>R (.T #[.agg #[.I U,.U V,.B Z],.I (next:Int),.I 0]) G:=λg n next o q1 q2 F A=>
  bD.ld q1 (bD.set q2 λG D k j=>bD.ld D (k1 G m n next o A (F.fresh (Fr.of_eq (S:=λy=>y=B) k (λc s=>j c s)) (λy e=>ag))))
 have J:=z.tt w;have Q:=w.get P id;by_cases K:f<24
 .rw[gi];rw[af K]at a;refine bk u (by show 1<3;omega) λt D k j=> ?_
  rw[zt ag]at D;exact T t f (pos+1) false D ((j B ag).trans Q) (J.fresh (Fr.of_eq (S:=λy=>y=v) k (λc s=>j c s)) (λy e=>ag)) a
 rw[ae (λe=>K (bW (aV e)))];rw[ae K]at a;refine aG.of λJ1 f'=> ?_
 have d': ∀q,q=decide (f=31/\rG m=true)->J1 q C:=by
  intro q hq;subst f';dsimp only;cases q with
  |true=>
   rw[af rfl];rw[af (aV hq.symm)]at a;refine bk u (by show 2<3;omega) λt D k j=> ?_
   exact T t 0 (pos+1) true D ((j B ag).trans Q) (J.fresh (Fr.of_eq (S:=λy=>y=v) k (λc s=>j c s)) (λy e=>ag)) a
  |false=>
   rw[dy];rw[ae (gh hq.symm)]at a;by_cases L:f>27
   .rw[gi];rw[af L]at a;exact O C 3 w a dS
   rw[ae (λe=>L (bW (aV e)))];rw[ae L]at a;have e5:IntKind.wrap .u8 ((f:Int) - 24)=(f:Int) - 24:=wrap_u8 ag ag;rw[e5,dy];obtain⟨d,eN,lN,gN,eP⟩: ∃d:Nat,IntKind.wrap .i64 (1*2 ^ min (Int.toNat ((f:Int) - 24)) (IntKind.bits .i64))=(d:Int)/\d<=8/\1<=d/\2 ^ (f - 24)=d:=by
    have:f=24\/f=25\/f=26\/f=27:=ag
    rcases this with rfl|rfl|rfl|rfl
    .exact⟨1,dA,ag,ag,rfl⟩
    .exact⟨2,dA,ag,ag,rfl⟩
    .exact⟨4,dA,ag,ag,rfl⟩
    .exact⟨8,dA,ag,ag,rfl⟩
   rw[eP]at a;rw[eN,bJ (n:=(b.length:Int) - ((pos:Int)+1)) ag ag];by_cases cs:(d:Int)>(b.length:Int) - ((pos:Int)+1)
   .rw[af (av cs)];rw[gi]at a;exact O C 8 w a dS
   rw[ae (λe=>cs (aV e))];rw[dy]at a;refine⟨λb' g=> ∃i:Nat,b'=(i:Int)/\i<=d/\bD.at g v (m:Int) (RM ((b.drop (pos+1)).take i):Int) false/\Fr (λy=>y=v) C g,λb' _=>d - b'.toNat,⟨0,rfl,bQ _,by rw[eV];exact u,Fr.refl _ _⟩,?_⟩;rintro _ g ⟨i,rfl,hi,S,F⟩;have Fg:Fr No h g:=J.fresh F (λy e=>ag);by_cases g':i<d
   .rw[gi,bJ (n:=(pos:Int)+1+(i:Int)) ag ag];obtain⟨a',ea,cy⟩:=byte_at hr (i:=pos+1+i) ag;cases ea;refine⟨_,au S,ag,ax.2 ⟨_,by rw[show Int.toNat ((pos:Int)+1+(i:Int))=pos+1+i by omega];exact Fg.cell cy id,?_⟩⟩;have hv:=NV ((b.drop (pos+1)).take i);have h':=gn (n:=256) ag (show((b.drop (pos+1)).take i).length<=7 by rw[bA];omega);rw[show(256:Nat) ^ 7=72057594037927936 from rfl]at h';refine bk S (by show 1<3;omega) λg2 D k j=> ?_
    rw[Sw ag (b[pos+1+i]).toNat_lt,<-FW]at D;rw[bJ (n:=(i:Int)+1) ag ag];refine⟨⟨i+1,ag,ag,?_,F.tt (Fr.of_eq k (λc s=>j c s))⟩,by show d - Int.toNat ((i:Int)+1)<d - Int.toNat (i:Int);omega⟩;rw[bO,fp,aj ag];exact D
   .rw[ae (λe=>g' (bW (aV e)))];obtain rfl:i=d:=ag
    rw[bJ (n:=(pos:Int)+1+(i:Int)) ag ag,show(pos:Int)+1+(i:Int)=((pos+1+i:Nat):Int) by omega];exact T g _ (pos+1+i) false S (F.get Q ag) Fg a
 split
 .rename_i q;have q:f=31:=by have:=eq_of_beq q;omega
  refine⟨_,au u,IB ⟨_,rfl,d' _ (by rw[q];simp)⟩⟩
 .rename_i q;exact d' false (by rw[eq_comm,fk];intro e;exact q (by rw[e.1];decide))

end Cb
end
section
namespace Cb
variable {h H:ai} {R E:fO} {p:ct} {r c:Nat} {b:cG} {pos left:Nat}
theorem Au(a:wE h r p c b pos left)(k1: ∀H (m n next:Nat) (o:Bool),Fo b pos=.ok (m,n,o,next)->wE H r p c b next left->Fr (λy=>y=r) h H->R (.agg #[.I (m:Int),.U (n:Int),.B o]) H)(kE: ∀H e,Fo b pos=.error e->Fr No h H->E (QA e) H):iO Tryz.prog 190 #[.P r 0] h R E:=by
 refine wX.walk (bD.box λI z eb P F=>aG.of λJ O=> ?_);have d:=a.on F;have zr:=aA a.di;have zb:=aA P;have done: ∀g B (m n next:Nat) (o:Bool),bD.at g B (m:Int) (n:Int) o->z.size<=B->Fr No z g->Fo b pos=.ok (m,n,o,next)->J (Sa B 0) (next:Int) 0 g:=by
  intro g B m n next o v z1 f q;have q2:=(wU q).2.1;subst O;have C:=d.on f;refine iq (λ_=>⟨rfl,bk C.di (by show 1<3;omega) λU u k D=> ?_⟩) (λe=>absurd e dS);obtain⟨Q,T⟩:=C.set (pos':=next) q2 a.left u k D;have V:=(D B (bW F.1)).trans v;have X:=(D I (bW F.1)).trans (f.get P id);refine ax.2 (bD.ld V (bD.set X λM w K S=>bD.ld w ?_));have L:Fr (λy=>y=I) U M:=Fr.of_eq K (λc s=>S c s);refine k1 M m n next o q (Q.frame L ag (λy hy e i=> ?_)) ?_
  .have:=jh a.row (by cases Z:b with|nil=>exact absurd Z e|cons=>simp[bc]) hy;omega
  .exact(Fr.no (F.tt f) T).trans L bX (λc' j e=>ag)
 have fail: ∀g B e,Fr No z g->Fo b pos=.error e->e≠0->J (Sa B 0) 0 e g:=by
  intro g B e f j i;subst O;exact iq (λa'=>absurd (cR a') i) (λ_=>kE g e j (F.tt f))
 refine⟨_,_,_,au d.di,_,au d.di,?_,?_,trivial⟩
 .refine Gq d.row rfl a.len a.pos (λg m n next o q f=>⟨_,_,_,_,_,rfl,bD.new λB G w v x=>⟨rfl,done G B m n next o v (bW f.1) (f.tt x) q⟩⟩) (λg e j f i=>⟨_,_,_,_,_,rfl,bD.new λB G w v x=>⟨rfl,fail G B e (f.tt x) j i⟩⟩)
 .refine bD.box λt b' K A l=>⟨cB (d.on l).di rfl,cB (d.on l).di rfl,?_⟩
  have z2:=aA A;refine Gq (d.on l).row rfl a.len a.pos (λg m n next o q f=>⟨_,_,_,_,_,rfl,bD.set (f.get A id) λG u k D=>⟨rfl,done G t m n next o u ag ((l.tt f).fresh (Fr.of_eq (S:=λy=>y=t) k (λc s=>D c s)) (λy e=>ag)) q⟩⟩) (λg e j f i=>⟨_,_,_,_,_,rfl,bD.set (f.get A id) λG u k D=>⟨rfl,fail G t e ((l.tt f).fresh (Fr.of_eq (S:=λy=>y=t) k (λc s=>D c s)) (λy e=>ag)) j i⟩⟩)

end Cb
end
section
variable {h:ai} {R:fO}
variable {w b B r:Nat} {n:Int} {a:ct}
theorem oF.walk{s:ct}{c S:Nat}(g:if s.isNone then R (.Z) h else bf h (.C #[] 5) λe H=>aT Tryz.prog (Builtin.append_ #[33,33] 33 #[.L (Sa e 0) 0 0,.L s c S]) H λv f=> ∃d T t,v=.L d T t/\R (.L d T t) f):Cl 54 #[.L s c S] h R:=aS [] Tryz.func54 g
theorem IC.walk(d:bf h (.C #[.B true,.Z] 255) λc H=>R (.P c 0) H):Cl 106 #[] h R:=aS [] Tryz.func106 d
theorem vD.walk (y:aG (λ(z:Bool) (d:ai)=>if z then R (.P w 0) d else∃(I:Int->ai->Prop)(m:Int->ai->Nat),I n d/\∀(c:Int)(H:ai),I c H->if(decide (c>127))then Hl H w 1 λD C A=>bf H (.C #[.int .u8 (wrap .u8 ((qN (wrap .u8 c)|||qN 128).toNat:Int))] 5) λl p=>aT Tryz.prog (Builtin.append_ #[33,33] 33 #[.L D C A,.L (Sa l 0) 1 1]) p λv q=> ∃g f T,v=.L g f T/\aJ q (AA w 1) (.L g f T) λe=>(I (Int.fdiv c (2 ^ min (toNat 7) (IntKind.bits .u64))) e/\m (Int.fdiv c (2 ^ min (toNat 7) (IntKind.bits .u64))) e<m c H)else Hl H w 1 λG F E=>bf H (.C #[.int .u8 (wrap .u8 c)] 5) λo s=>aT Tryz.prog (Builtin.append_ #[33,33] 33 #[.L G F E,.L (Sa o 0) 1 1]) s λV u=> ∃k j i,V=.L k j i/\aJ u (AA w 1) (.L k j i) λx=>R (.P w 0) x) (λJ=> ∃t,Cc h w 0 (.B t)/\J (!t) h)):Cl 107 #[.P w 0,.U n] h R:=aS [(4,.join [(13,.one (.bool))]),(12,.loop [(1,.one (.int .u64))])] Tryz.func107 y
theorem vE.walk(c:Cl 107 #[.P w 0,.U (wrap .u64 (if 0>n then 0 else n))] h λv H=> ∃t,v=.pointer t/\R (.pointer t) H):Cl 108 #[.P w 0,.I n] h R:=aS [] Tryz.func108 c
theorem uv.walk(k:Cl 107 #[.P w 0,.U (wrap .u64 (b:Int))] h λv c=>Vp v λ_=>aG (λ(l:Bool) (H:ai)=>aG (λ(f:ai)=>R (.P w 0) f) (λj=>if l then Hl H w 1 λp o m=>aT Tryz.prog (Builtin.append_ #[33,33] 33 #[.L p o m,.L a b B]) H λV g=> ∃e d T,V=.L e d T/\aJ g (AA w 1) (.L e d T) λi=>j i else j H)) (λJ=> ∃t,Cc c w 0 (.B t)/\J t c)):Cl 109 #[.P w 0,.L a b B] h R:=aS [(6,.join [(17,.one (.bool))]),(7,.join [])] Tryz.func109 k
theorem sW.walk(d:Hl h w 1 λg f e=>Cl 54 #[.L g f e] h λv H=> ∃c T t,v=.L c T t/\R (.L c T t) H):Cl 110 #[.P w 0] h R:=aS [] Tryz.func110 d
theorem vF.walk{f:Nat}{e:Int}(c: ∃t,Cc h f 0 (.I t)/\if(t==0)then aJ h (AA f 0) (.I e) λH=>R (.T #[]) H else R (.T #[]) h):Cl 133 #[.P f 0,.I e] h R:=aS [] Tryz.func133 c
theorem Gr.walk(e:Cl 54 #[.L a b B] h λv H=>Vl v λf T t=>bf H (.C #[.I 0,.B true,.L f T t] 228) λc d=>R (.P c 0) d):Cl 88 #[.L a b B] h R:=aS [] Tryz.func88 e
theorem uw.walk(H: ∃T,Cc h r 1 (.B T)/\if T then∃t,Cc h r 0 (.I t)/\R (.B (t==0)) h else R (.B false) h):Cl 132 #[.P r 0] h R:=aS [] Tryz.func132 H
theorem vG.walk (q:aG (λ(l:ai)=>R (.U 0) l) (λJ=> ∃(I:Int->Int->ai->Prop)(m:Int->Int->ai->Nat),I 0 0 h/\∀(n:Int)(i:Int)(e:ai),I n i e->Cl 132 #[.P r 0] e λv H=> ∃k,v=.B k/\if k then∃u T s,Cc H r 2 (.L u T s)/\if(((T:Nat):Int)==0)then Cl 133 #[.P r 0,.I 8] H λV o=>V=.T #[]/\J o else Hl H r 2 λy x _=>Bd 0 x/\aN y λA=>Ka H (A.add (toNat 0*1)) λt=>Hl H r 2 λz g f=>((0:Int)<=1/\1<=(g:Int))/\aJ H (AA r 2) (.L (cQ z f (toNat 1) 1) (g - (toNat 1)) (f - (toNat 1))) λc=>aG (λ(C:Bool) (d:ai)=>if C then Cl 133 #[.P r 0,.I 3] d λD p=>D=.T #[]/\J p else if wrap .i64 (7*i)<0 then False else if((wrap .u8 ((qN t &&& qN 128).toNat:Int))==0)then R (.U (wrap .u64 ((nQ n|||nQ (wrap .u64 ((wrap .u64 (wrap .u8 ((qN t &&& qN 127).toNat:Int)))*2 ^ min (toNat (wrap .i64 (7*i))) (IntKind.bits .u64)))).toNat:Int))) d else(I (wrap .u64 ((nQ n|||nQ (wrap .u64 ((wrap .u64 (wrap .u8 ((qN t &&& qN 127).toNat:Int)))*2 ^ min (toNat (wrap .i64 (7*i))) (IntKind.bits .u64)))).toNat:Int)) (wrap .i64 (i+1)) d/\m (wrap .u64 ((nQ n|||nQ (wrap .u64 ((wrap .u64 (wrap .u8 ((qN t &&& qN 127).toNat:Int)))*2 ^ min (toNat (wrap .i64 (7*i))) (IntKind.bits .u64)))).toNat:Int)) (wrap .i64 (i+1)) d<m n i e)) (λj=>if(i==10)then j true c else if((wrap .i64 (i*7))==63)then if(decide (t>1))then j true c else if(t==0)then j (decide (i>0)) c else j false c else if(t==0)then j (decide (i>0)) c else j false c)else J H)):Cl 89 #[.P r 0] h R:=aS [(7,.join []),(8,.loop [(3,.one (.int .u64)),(4,.one (.int .i64))]),(31,.join [(52,.one (.bool))])] Tryz.func89 q
theorem rQ.walk{T:Int}(d:Cl 89 #[.P r 0] h λv H=> ∃t,v=.U t/\if(decide (t>T))then Cl 133 #[.P r 0,.I 3] H λV c=>V=.T #[]/\R (.U 0) c else R (.U t) H):Cl 134 #[.P r 0,.U T] h R:=aS [] Tryz.func134 d
theorem vH.walk(c:Cl 134 #[.P r 0,.U 1099511627776] h λv H=> ∃t,v=.U t/\R (.I (wrap .i64 t)) H):Cl 90 #[.P r 0] h R:=aS [] Tryz.func90 c
theorem ux.walk (l:Cl 89 #[.P r 0] h λv i=>Vu v λt=>Cl 132 #[.P r 0] i λV H=> ∃g,V=.B g/\if(!g)then R (.Z) H else∃o d m,Cc H r 2 (.L o d m)/\if(decide (t>(wrap .u64 ((d:Nat):Int))))then Cl 133 #[.P r 0,.I 8] H λy j=>y=.T #[]/\R (.Z) j else Hl H r 2 λp _ T=>((0:Int)<=t/\t<=(T:Int))/\Cl 54 #[.L (cQ p T 0 1) ((toNat t) - 0) (T - 0)] H λz c=>Vl z λu s q=>Hl c r 2 λx f e=>((0:Int)<=t/\t<=(f:Int))/\aJ c (AA r 2) (.L (cQ x e (toNat t) 1) (f - (toNat t)) (e - (toNat t))) λk=>R (.L u s q) k):Cl 91 #[.P r 0] h R:=aS [] Tryz.func91 l
theorem vI.walk (e:aG (λ(i:Bool) (H:ai)=>if i then R (.I 6) H else∃T,Cc H r 0 (.I T)/\if(T !=0)then∃c,Cc H r 0 (.I c)/\R (.I c) H else∃g d f,Cc H r 2 (.L g d f)/\if(decide (((d:Nat):Int)>0))then R (.I 2) H else R (.I 0) H) (λJ=> ∃t,Cc h r 1 (.B t)/\J (!t) h)):Cl 92 #[.P r 0] h R:=aS [(5,.join [(3,.one (.bool))])] Tryz.func92 e

end
section
namespace mi
variable {h:ai} {b:cG} {R:fO}
variable {p:ct} {n c:Nat}
theorem tU:oC Tryz.prog 33 5 1 1 (.int .u8 0):=⟨dA,dA,rfl⟩
theorem uU:Tryz.prog.underlying 33=some (.slice 5):=dA
theorem u8:Tryz.prog.underlying 5=some (.int .u8):=dA
theorem uS:Tryz.prog.underlying 9=some .string:=dA
theorem conv(a:Row h p (bc b))(H:n=b.length):xR Tryz.prog 33 9 (.L p n c) h (str b):=NF uU u8 uS a H
theorem gE(d:Row h p (bc b))(l:n=b.length)(r:b.length<=70368744177664)(i: ∀P C H,Own H P b.length C 1 (bc b)->Fr No h H->(∀x,aP P x->h.size<=x)->R (.L P b.length C) H):
  Cl 54 #[.L p n c] h R:=by
 subst l;refine oF.walk ?_;cases p with
 |none=>
  have:b= []:=by
   rcases d with d|⟨a,e,_⟩
   .cases b with
    |nil=>rfl
    |cons B b=>cases d
   .cases e
  subst this;exact i none 0 h (.nil rfl rfl rfl rfl) (Fr.refl _ _) (λx ⟨a,e,_⟩=>by cases e)
 |some a=>
  simp only[hM,ar,aQ];refine cT ?_;have f:Fr No h (h.push (.C #[] 5)):=Fr.push _ _;refine dR (cs:= []) tU uU (.row h.size 0 #[] 5 rfl bZ (bp _) bU rfl (λj v k=>by cases k)) (d.frame f bX) (by rw[kR,cE]) (rB b) ag ag ?_;intro P C H o _ F g;rw[bK,da]at o;refine⟨_,_,_,rfl,?_⟩;rw[bK];have G: ∀x,aP P x->h.size<=x:=λx m=>by
   rcases g x m with⟨a,e,rfl⟩|h2
   .cases e;exact bp _
   .simp at h2;omega
  exact i P C H o (f.step F (λc q ⟨a,e,E⟩=>by cases e;simp at E;omega)) G

end mi
end
section
namespace Cb
variable {V:cG→Bool} {h a H:ai} {R E:fO} {p:ct} {r l c:Nat} {b:cG} {pos left:Nat}
def kr(V:cG->Bool)(a:ai):Prop:= ∀(g:ai)(p:ct)(c:Nat)(b:cG)(R:fO),Fr No a g->Row g p (bc b)->b.length<=1000000->b.length<=c->(∀G,Fr No g G->R (.bool (V b)) G)->Cl 252 #[.slice p b.length c] g R
theorem Gs{m n : Nat}{a' : Bool}(U : kr V a)(c' : Fr No a h)(k : wE h r p c b pos left)(hn : n < 18446744073709551616)(Z : ∀ H (v : BV), nt V b pos m n = .ok v.b → v.ok H (λy => h.size ≤ y) → v.b.length = n → pos + n ≤ b.length → wE H r p c b (pos + n) left → Fr (λy => y = r) h H → R v.val H)(K : ∀ H e, nt V b pos m n = .error e → Fr No h H → E (QA e) H): iO Tryz.prog 225 #[.pointer (some ⟨r, 0, none⟩), .agg #[.int .i64 (m : Int), .int .u64 (n : Int), .bool a']] h R E := by
  refine vC.walk (bD.box λd' B eb j F => ?_)
  have d := k.on F
  have zr := aA k.di
  have zb := aA j
  have hp := k.pos
  have f' := k.len
  have e' := k.cap
  refine ⟨_, cB j rfl, _, _, _, cB d.di rfl, _, cB d.di rfl, ?_⟩
  rw [bJ (n := ((b.length : Nat) : Int) - (pos : Int)) (by omega) (by omega), wrap_u64 (by omega) (by omega)]
  refine iq (λo => ?_) (λo => K B 8 (by have := of_decide_eq_false o; unfold nt; rw [if_neg (by omega)]) F)
  have o : pos + n ≤ b.length := by have := of_decide_eq_true o; omega
  have z : (b.take (pos + n)).drop pos = (b.drop pos).take n := by rw [List.take_drop]
  have s : IntKind.wrap .i64 ((pos : Int) + (IntKind.wrap .i64 (n : Int))) = ((pos + n : Nat) : Int) := by rw [bJ (n := (n : Int)) (by omega) (by omega), bJ (by omega) (by omega)]; omega
  refine ⟨rfl, cB d.di rfl, cB d.di rfl, cB j rfl, _, _, _, cB d.di rfl, _, cB d.di rfl, _, cB d.di rfl, _, cB j rfl, ⟨by rw [s]; omega, by rw [s]; omega⟩, ⟨by omega, by rw [s]; omega⟩, ?_⟩
  rw [s]
  have b' : Row B (cQ p c (Int.toNat (pos : Int)) 1) (bc ((b.take (pos + n)).drop pos)) := by
    have := d.row.sub (cap := c) (l := pos) (u := pos + n) (sz := 1) (by omega) (by omega)
    rw [Nat.mul_one, Nat.mul_one] at this
    rw [Int.toNat_natCast]
    unfold bc at this ⊢
    rw [List.map_drop, List.map_take]
    exact this
  have L : ((b.take (pos + n)).drop pos).length = n := by rw [List.length_drop, List.length_take]; omega
  refine mi.gE b' (by rw [L]; omega) (by rw [L]; omega) λP C w O f G => ⟨_, _, _, rfl, cB (f.get j id) rfl, cB (d.on f).di rfl, cB (d.on f).di rfl, cB (d.on f).di rfl, aG.of λJ T => ⟨_, cB (f.get j id) rfl, ?_⟩⟩
  have done : ∀ g, Fr No w g → (m ≠ 3 ∨ V ((b.drop pos).take n) = true) → J g := by
    intro g i t
    subst T
    have u := (d.on f).on i
    have X := (f.tt i).get j id
    refine ⟨_, cB u.di rfl, _, cB X rfl, bk u.di (by show 1 < 3; omega) λS D M Q => ?_⟩
    rw [s] at D
    obtain ⟨I, A⟩ := u.set (pos' := pos + n) o k.left D M Q
    have ov := (O.frame i (λ_ _ => id)).frame A (λy x e => by have := G y x; have := F.1; omega)
    refine Z S ⟨P, C, (b.take (pos + n)).drop pos⟩ (by unfold nt; rw [if_pos (by omega), if_pos t]; exact congrArg _ z.symm) (BV.kT ov (λy x => by have := G y x; have := F.1; omega)) L o I (Fr.no (F.tt (f.tt i)) A)
  split
  · rename_i q
    exact iq (λ_ => ⟨rfl, rfl, done w (Fr.refl _ _) (.inl λe => by rw [e] at q; exact absurd q (by decide))⟩) (λe => absurd e (by decide))
  · rename_i q
    have m3 : m = 3 := by
      have : ¬ ((m : Int) ≠ 3) := λe => q (by simpa using e)
      omega
    refine U w P C _ _ (c'.tt (F.tt f)) O.iz (by rw [L]; omega) O.le λg i => ⟨_, rfl, ?_⟩
    rw [z]
    exact iq (λt => ⟨rfl, rfl, done g i (.inr t)⟩) (λt => K g 3 (by unfold nt; rw [if_pos (by omega), if_neg (λe => e.elim (λe => e m3) (λe => by rw [t] at e; cases e))]) (F.tt (f.tt i)))

end Cb
end
end Go.Proofs.YtkdgpmeojgokdaaGreatDoor
