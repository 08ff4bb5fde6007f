/-
  IY is proved here: parts of AH proof, one behind AH other (texts of this work, merged by a program; KW AH theorem KX not use is left out). No condition.
-/
import Derived.Test.YticlajoleibdnaaGreatDoorProg
import Derived.Shelf.Strings.Cut
import Derived.Shelf.Strconv.Itoa4
import Derived.Ground.NamesProg
import Derived.Shelf.Small.Wraps
import Derived.Shelf.Pu.ParseUintPublic10
import Derived.Ground.MpProg
import Derived.Shelf.Strings.Split
import Derived.Shelf.Strconv.Itoa3
import Derived.Shelf.LaysM
import Derived.Shelf.Small.Strs
import Derived.Shelf.Strings.OnBuilder
import Derived.Shelf.Strings.SlTrimAscii
import Derived.Shelf.Strconv.AtoiAll
import Derived.Shelf.LaysC
import Derived.Test.YticlajoleibdnaaGreatDoorMAusta
set_option linter.defProp false
set_option maxRecDepth 100000
set_option maxHeartbeats 4000000
set_option linter.unusedSectionVars false
namespace Go.Den
section
variable {P : Program} {c : Type} [DecidableEq c]
structure Gz (P:Program) (kt:TypeId) (enc:c->Value):Prop where
 eq: ∀(a b:c) (h:Heap),rd P (Op.equal kt (enc a) (enc b)) h=some (decide (a=b))
 Wo: ∀(e:Bool) (a:c) (h:Heap),rd P (Instr.checkKey e 10000 kt (enc a)) h=some ()
 now: ∃d,P.underlying kt=some d/\∀a b,Instr.sameNow d (enc a) (enc b)=none\/Instr.sameNow d (enc a) (enc b)=some (decide (a=b))
 bits: ∀a,Instr.sameBits 10000 (enc a) (enc a)=true
abbrev tQ(e:c->Value)(t:c×Value×Nat):MapEntry:=⟨e t.1,t.2.1,t.2.2⟩
abbrev pr(t:c×Value×Nat):c×Value:=(t.1,t.2.1)
structure Wp (h:Heap) (m:Nat) (enc:c->Value) (T:List (c×Value×Nat)) (clock:Nat):Prop where
 cV:h[m]? =some (.map (T.map (tQ enc)).toArray clock)
 keys:(T.map (·.1)).Nodup
 NT: ∀t∈T,t.2.2<clock
 born:(T.map (·.2.2)).Nodup
def jN(h:Heap)(m:Nat)(e:c->Value)(l:List (c×Value)):Prop:= ∃T C,Wp h m e T C/\(T.map pr).Perm l
def Dd(l:List (c×Value))(k:c):List (c×Value):=l.filter (λe=> !decide (e.1=k))
def Sv(l:List (c×Value))(k:c)(v:Value):List (c×Value):=(k,v)::Dd l k
def jN.mV{h f:Heap}{m:Nat}{E:c->Value}{l:List (c×Value)}(H:jN h m E l)(i:f[m]? =h[m]?):jN f m E l:=by have⟨T,C,⟨a,b,d,e⟩,g⟩:=H;exact⟨T,C,⟨i.trans a,b,d,e⟩,g⟩
def jN.lt{h:Heap}{m:Nat}{e:c->Value}{l:List (c×Value)}(H:jN h m e l):m<h.size:=by have⟨T,C,a,_⟩:=H;exact aE a.cV
def jN.frame{S:fZ}{h a:Heap}{m:Nat}{e:c->Value}{l:List (c×Value)}(H:jN h m e l)(b:Fr S h a)(d: ¬S m):jN a m e l:=H.mV (b.2 m H.lt d)
def jN.push(h:Heap)(e:c->Value):jN (h.push (.map #[] 0)) h.size e []:=⟨[],0,⟨aU,bO,bO,bO⟩,.refl _⟩
def jN.nodup{h:Heap}{m:Nat}{e:c->Value}{l:List (c×Value)}(H:jN h m e l):(l.map (·.1)).Nodup:=by have⟨T,C,b,d⟩:=H;have a:=d.map (·.1);rw[fu]at a;exact a.nodup_iff.1 b.keys
def mW(k:c):List (c×Value×Nat)->Nat->Option (Nat×Value)
 | [],_=>none
 |t::T,i=>if k=t.1 then some (i,t.2.1)else mW k T (i+1)
theorem qH{k:c}: ∀{T:List (c×Value×Nat)}{i:Nat},mW k T i=none->∀t∈T,t.1≠k
 | [],_,_,_,ht=>by cases ht
 |u::T,i,h,t,ht=>by unfold mW at h;split at h;cases h;rename_i H;rcases bG.1 ht with rfl|ht;grind;exact qH h t ht
theorem qI{k:c}: ∀{T:List (c×Value×Nat)}{i j:Nat}{v:Value},mW k T i=some (j,v)->∃A B b,T=A++(k,v,b)::B/\j=i+A.length
 | [],_,_,_,h=>by cases h
 |u::T,i,j,v,h=>by unfold mW at h;split at h;rename_i H;obtain⟨rfl,rfl⟩:=h;subst H;exact⟨[],T,u.2.2,rfl,rfl⟩;obtain⟨A,B,b,rfl,rfl⟩:=qI h;exact⟨u::A,B,b,rfl,by grind⟩
theorem AU{kt:TypeId}{E:c->Value}{d:TypeDesc}(h: ∀a b,Instr.sameNow d (E a) (E b)=none\/Instr.sameNow d (E a) (E b)=some (decide (a=b)))(k:c):
  ∀(T:List (c×Value×Nat))(i:Nat),Instr.findNow d (E k) (T.map (tQ E)) i=none\/Instr.findNow d (E k) (T.map (tQ E)) i=some (mW k T i)
 | [],i=> .inr rfl
 |t::T,i=>by rw[cp];unfold Instr.findNow mW;rcases h k t.1 with e|e<;>rw[e];simp;by_cases H:k=t.1;grind;rw[aA H,af H];exact AU (kt:=kt) h k T (i+1)
def GA{a:TypeId}{e:c->Value}(K:Gz P a e)(k:c)(h:Heap): ∀(T:List (c×Value×Nat))(i:Nat),rd P (Instr.findAsking a (e k) (T.map (tQ e)) i) h=some (mW k T i)
 | [],i=>rfl
 |t::T,i=>by rw[cp];unfold Instr.findAsking mW;rw[ba _ _ _ _ (K.eq k t.1 h)];by_cases H:k=t.1;rw[aq H,ah H,ah rfl];rfl;rw[aA H,af H,af bO];exact GA K k h T (i+1)
def HR{a:TypeId}{E:c->Value}(K:Gz P a E)(k:c)(h:Heap)(T:List (c×Value×Nat)):rd P (Instr.findKey a (E k) (T.map (tQ E))) h=some (mW k T 0):=by have⟨d,H,b⟩:=K.now;unfold Instr.findKey;rw[ba _ _ _ _ (bh H)];rcases AU (kt:=a) b k T 0 with e|e<;>rw[e];exact GA K k h T 0;rfl
structure mY (P:Program) (t:TypeId) (enc:c->Value) (z:Value):Prop where
 ty: ∃k e,P.underlying t=some (.map k e)/\Gz P k enc/\∃i,P.info? e=some i/\i.zero=some z
theorem mY.of{t:TypeId}{E:c->Value}{z:Value}(k e:TypeId)(h:P.underlying t=some (.map k e))(H:Gz P k E)(b:(P.info? e).bind (·.zero)=some z):mY P t E z:=by
 cases a:P.info? e with
 |none=>grind
 |some i=>exact⟨k,e,h,H,i,a,by grind⟩
def xW(l:List (c×Value))(k:c):Option Value:=(l.find? (λe=>decide (e.1=k))).map (·.2)
def NU{l:List (c×Value)}{k:c}:xW l k=none↔ ∀e∈l,e.1≠k:=by unfold xW;simp
theorem GC{l:List (c×Value)}{k:c}{v:Value}(H:(l.map (·.1)).Nodup):xW l k=some v↔(k,v)∈l:=by
 induction l with
 |nil=>simp[xW]
 |cons e l i=>unfold xW at i⊢;by_cases h:e.1=k;grind;grind
def jN.find{h:Heap}{m:Nat}{E:c->Value}{l:List (c×Value)}(H:jN h m E l){T:List (c×Value×Nat)}(a:(T.map pr).Perm l)(k:c):(mW k T 0).map (·.2)=xW l k:=by
 cases e:mW k T 0 with
 |none=>symm;rw[Option.map_none,NU];intro x f;obtain⟨t,d,rfl⟩:=bR.1 (a.mem_iff.2 f);exact qH e t d
 |some j=>obtain⟨A,B,b,rfl,_⟩:=qI e;symm;rw[dB,GC H.nodup];exact a.mem_iff.1 bO
def Uh{t:TypeId}{E:c->Value}{z:Value}(K:mY P t E z){h:Heap}{m:Nat}{l:List (c×Value)}(H:jN h m E l)(k:c)(o:Bool):
  rd P (Instr.lookup t (.map (some m)) (E k) o) h=some (if o then .T #[(xW l k).getD z,.B (xW l k).isSome]else(xW l k).getD z):=by
 have⟨p,e,g,a,i,d,j⟩:=K.ty;have b:=H;have⟨T,C,H,f⟩:=H;rw[<-b.find f k];unfold Instr.lookup;rw[ba _ _ _ _ (bh g)];rw[ba _ _ _ _ (jj H.cV)];rw[ba _ _ _ _ (jG _),ba _ _ _ _ (a.Wo _ k h),ba _ _ _ _ (HR a k h T)];cases n:mW k T 0 with
 |none=>rw[ba _ _ _ _ (gu d j)];cases o<;>rfl
 |some J=>rfl
def Mz{t:TypeId}{e:c->Value}{z:Value}(K:mY P t e z){h:Heap}{m:Nat}{l:List (c×Value)}(H:jN h m e l)(k:c):xK P t (.map (some m)) (e k) false h ((xW l k).getD z):=λb a=>by have:=Uh K (H.mV a) k false;simpa using this
def NV{t:TypeId}{e:c->Value}{z:Value}(K:mY P t e z){h:Heap}{m:Nat}{l:List (c×Value)}(H:jN h m e l)(k:c):xK P t (.map (some m)) (e k) true h (.T #[(xW l k).getD z,.B (xW l k).isSome]):=λb a=>by have:=Uh K (H.mV a) k true;simpa using this
def PS{t i:TypeId}{E:c->Value}{z:Value}(K:mY P t E z){h:Heap}{m:Nat}{l:List (c×Value)}(H:jN h m E l):Sm P #[t] i (.map (some m)) h (.I (l.length:Int)):=λa f=>by
 have⟨k,e,g,_⟩:=K.ty;have⟨T,C,H,d⟩:=H;have b:T.length=l.length:=by rw[<-d.length_eq,aM]
 show rd P (underlying t>>=_) a=_;rw[ba _ _ _ _ (bh g)];show rd P (getObj m>>=_) a=_;rw[ba _ _ _ _ (jj (Eq.trans f H.cV))];show some (goInt _)=_;simp[b,goInt]
theorem Ld{b:Type}(A B:List b)(t:b)(f:b->b):(A++t::B).modify A.length f=A++f t::B:=by
 induction A with
 |nil=>rfl
 |cons a A i=>grind
theorem NX{a:Type}(A B:List a)(t:a):(A++t::B).eraseIdx A.length=A++B:=by grind
def GD{l L:List (c×Value)}(p:l.Perm L)(k:c):(Dd l k).Perm (Dd L k):=p.filter _
def Jm{A B:List (c×Value×Nat)}{k:c}{v:Value}{b:Nat}(d:((A++(k,v,b)::B).map (·.1)).Nodup):Dd ((A++(k,v,b)::B).map pr) k=(A++B).map pr:=by rw[bB,cp,fN]at d;have⟨_,a,f⟩:=d;rw[fT]at a;unfold Dd;rw[bB,cp,List.filter_append,dK,af bO,bB];congr 1;rw[cZ];intro e h;obtain⟨t,H,rfl⟩:=bR.1 h;have:=f t.1 (cm H) k bO;simp[this];rw[cZ];intro e h;obtain⟨t,H,rfl⟩:=bR.1 h;have:t.1≠k:=λe=>a.1 (bR.2 ⟨t,H,e⟩);simp[this]
def GF{l:List (c×Value)}{k:c}(H: ∀e∈l,e.1≠k):Dd l k=l:=by unfold Dd;rw[cZ];intro e h;simp[H e h]
def PT{t:TypeId}{E:c->Value}{z:Value}(K:mY P t E z){h:Heap}{m:Nat}{l:List (c×Value)}(H:jN h m E l){k:c}{v:Value}{Q:Unit->cM}(O: ∀n,jN n m E (Sv l k v)->n.size=h.size->(∀C,C≠m->n[C]? =h[C]?)->Q () n):bu P (Instr.mapUpdate t (.map (some m)) (E k) v) h Q:=by
 obtain⟨X,e,ht,r,_⟩:=K.ty;obtain⟨T,C,H,s⟩:=H;have R:=aE H.cV;unfold Instr.mapUpdate;refine aZ (bh ht) ?_;simp only;refine aZ (jj H.cV) ?_;simp only;refine aZ (r.Wo _ k h) ?_;have F: ∀(d:List (c×Value×Nat))(o:Array MapEntry)(i:Nat),o.toList=d.map (tQ E)->(d.map (·.1)).Nodup->(∀t∈d,t.2.2<i)->(d.map (·.2.2)).Nodup->(d.map pr).Perm (Sv l k v)->bu P (setObj m (.map o i)) h Q:=λd o i G I J L M=>by refine⟨⟨_,H.cV,λC e f q=>by cases q⟩,?_⟩;refine O _ ⟨d,i,⟨?_,I,J,L⟩,M⟩ bO (λx U=> ?_);rw[<-G];simp[R];rw[cS,af (Ne.symm U)]
 refine aZ (HR r k h T) ?_;cases w:mW k T 0 with
 |none=>simp only;have D:=qH w;refine F (T++ [(k,v,C)]) _ _ bO ?_ ?_ ?_ ?_;rw[bB,fN];refine⟨H.keys,bO,λa p b g=> ?_⟩;obtain⟨t,ht,rfl⟩:=bR.1 p;simp at g;subst g;exact D t ht;intro t ht;rcases cG.1 ht with ht|ht;exact Nat.lt_succ_of_lt (H.NT t ht);obtain rfl:=bT.1 ht;exact Nat.lt_succ_self _;rw[bB,fN];refine⟨H.born,bO,λa p b g=> ?_⟩;obtain⟨t,ht,rfl⟩:=bR.1 p;simp at g;subst g;exact Nat.ne_of_lt (H.NT t ht);unfold Sv;rw[GF (λe q=>by obtain⟨t,ht,rfl⟩:=bR.1 (s.mem_iff.2 q);exact D t ht),bB];exact(List.perm_append_comm.trans (.refl _)).trans (List.Perm.cons _ s)
 |some V=>
  obtain⟨j,u⟩:=V;obtain⟨A,B,b,rfl,y⟩:=qI w;rw[aX]at y;subst y;simp only;have S:rd P (Instr.keyThatStays (((((A++(k,u,b)::B).map (tQ E)).toArray[A.length]?).map (·.key)).getD (E k)) (E k)) h=some (E k):=by
   have:((A++(k,u,b)::B).map (tQ E)).toArray[A.length]? =some (tQ E (k,u,b)):=bO
   rw[this];simp only[dB,Option.getD_some];unfold Instr.keyThatStays;rw[ah (r.bits k)];rfl
  refine aZ S ?_;refine F (A++(k,v,b)::B) _ _ ?_ ?_ ?_ ?_ ?_;rw[Array.toList_modify,bB,cp];have:=Ld (A.map (tQ E)) (B.map (tQ E)) (tQ E (k,u,b)) (λe=> { e with key:=E k,val:=v });rw[aM]at this;rw[this,bB,cp];have:=H.keys;simpa using this;intro t ht;rcases cG.1 ht with ht|ht;exact H.NT t (dp _ ht);rcases bG.1 ht with rfl|ht;exact H.NT (k,u,b) bO;exact H.NT t (by simp[ht]);have:=H.born;simpa using this;unfold Sv;refine List.Perm.trans ?_ (List.Perm.cons _ ((Jm H.keys▸GD s k)));rw[bB,cp,bB];exact List.perm_middle
def PU{t X Z:TypeId}{E:c->Value}{z:Value}(K:mY P t E z){h:Heap}{m:Nat}{l:List (c×Value)}(H:jN h m E l){k:c}{Q:dH}(O: ∀n,jN n m E (Dd l k)->n.size=h.size->(∀C,C≠m->n[C]? =h[C]?)->Q (.T #[]) n):bu P (Builtin.delete_ #[t,X] Z #[.map (some m),E k]) h Q:=by
 obtain⟨D,e,d,y,_⟩:=K.ty;obtain⟨T,C,H,q⟩:=H;have R:=aE H.cV;unfold Builtin.delete_;refine aZ (bh d) ?_;show bu P (do
   let __x<-getObj m
   match __x with
    |Obj.map g s=>do
     Instr.checkKey g.isEmpty 10000 D (E k)
     let __do_lift<-Instr.findKey D (E k) g.toList
     match __do_lift with
      |some (i,_)=>do
       setObj m (Obj.map (g.eraseIdxIfInBounds i) s)
       pure (Value.tuple #[])
      |none=>do
       setObj m (Obj.map g s)
       pure (Value.tuple #[])
    |_=>do
     stuck "delete: map expected"
     pure (Value.tuple #[])) h Q
 refine aZ (jj H.cV) ?_;simp only;refine aZ (y.Wo _ k h) ?_;have F: ∀(a:List (c×Value×Nat))(o:Array MapEntry),o.toList=a.map (tQ E)->(a.map (·.1)).Nodup->(∀t∈a,t.2.2<C)->(a.map (·.2.2)).Nodup->(a.map pr).Perm (Dd l k)->bu P (do setObj m (.map o C);pure (Value.tuple #[])) h Q:=λa o G I J L M=>by rw[cY];refine⟨⟨_,H.cV,λC e f p=>by cases p⟩,?_⟩;refine O _ ⟨a,C,⟨?_,I,J,L⟩,M⟩ bO (λx U=> ?_);rw[<-G];simp[R];rw[cS,af (Ne.symm U)]
 refine aZ (HR y k h T) ?_;cases v:mW k T 0 with
 |none=>have S:=qH v;refine F T _ rfl H.keys H.NT H.born ?_;rw[GF (λe p=>by obtain⟨t,d,rfl⟩:=bR.1 (q.mem_iff.2 p);exact S t d)];exact q
 |some V=>obtain⟨j,u⟩:=V;obtain⟨A,B,b,rfl,w⟩:=qI v;rw[aX]at w;subst w;have r:List.Sublist (A++B) (A++(k,u,b)::B):=List.Sublist.append (List.Sublist.refl _) (List.sublist_cons_self _ _);refine F (A++B) _ ?_ ((r.map _).nodup H.keys) (λt d=>H.NT t (r.subset d)) ((r.map _).nodup H.born) (Jm H.keys▸GD q k);rw[Array.toList_eraseIdxIfInBounds,bB,cp];have:=NX (A.map (tQ E)) (B.map (tQ E)) (tQ E (k,u,b));rw[aM]at this;rw[this,bB]
def Iter(h:Heap)(r m:Nat)(e:c->Value)(l done:List (c×Value)):Prop:=
 ∃T C D L,Wp h m e T C/\(T.map pr).Perm l/\h[r]? =some (.mapIter (some m) C (D.map (·.2.2)).toArray L)/\(D≠ []->L=C)/\D.Nodup/\(∀t∈D,t∈T)/\D.map pr=done/\r≠m
def Iter.frame{S:fZ}{h a:Heap}{r m:Nat}{e:c->Value}{l done:List (c×Value)}(H:Iter h r m e l done)(f:Fr S h a)(d: ¬S r)(g: ¬S m):Iter a r m e l done:=by have⟨T,b,D,L,A,B,C,E⟩:=H;exact⟨T,b,D,L,⟨f.get A.cV g,A.keys,A.NT,A.born⟩,B,f.get C d,E⟩
def Iter.le{h:Heap}{r m:Nat}{e:c->Value}{l done:List (c×Value)}(H:Iter h r m e l done):done.length<=l.length:=by obtain⟨T,C,D,L,A,B,_,_,a,b,rfl,_⟩:=H;rw[aM,<-B.length_eq,aM];exact a.length_le_of_subset (λt d=>b t d)
def De{t:TypeId}{E:c->Value}{z:Value}(K:mY P t E z){h:Heap}{m:Nat}{l:List (c×Value)}(H:jN h m E l){Q:dH}(d: ∀r a,r=h.size->Iter a r m E l []->Fr (λ_=>False) h a->Q (.P r 0) a):bu P (Instr.range t (.map (some m))) h Q:=by
 have⟨k,e,b,i,_⟩:=K.ty;have⟨T,C,H,g⟩:=H;refine aZ (bh b) (aZ (jj H.cV) ?_);have f:Fr (λ_=>False) h (h.push (.mapIter (some m) C #[] C)):=Fr.push _ _;exact d h.size _ rfl ⟨T,C, [],C,⟨f.get H.cV id,H.keys,H.NT,H.born⟩,g,aU,(λe=>absurd rfl e),.nil,(λt b=>by cases b),rfl,λe=>cv (aE H.cV)⟩ f
theorem Df{a:Type}{n:Nat}{g:Nat->Sem a}{h:Heap}{Q:a->cM}(b:0<n)(H: ∀i,i<n->bu P (g i) h Q):bu P (choose (.mapNext n)>>=g) h Q:=by show(if(Question.mapNext n).forced=true then bu P (g 0) h Q else∀t,bu P (g ((Question.mapNext n).cut t)) h Q);split;grind;intro t;exact H _ (Nat.mod_lt _ b)
theorem GG{ty:TypeId}{E:c->Value}{h:Heap}{r m:Nat}{l done:List (c×Value)}(I:Iter h r m E l done){Q:dH}(k1:done.Perm l->Q (.T #[.B false]) h)(k2: ∀a v k,(a,v)∈l->(a,v)∉done->Iter k r m E l (done++ [(a,v)])->k.size=h.size->(∀C,C≠r->k[C]? =h[C]?)->Q (.T #[.B true,E a,v]) k):
  bu P (Instr.next (.P r 0) false ty) h Q:=by
 classical
 obtain⟨T,C,D,L,M,w,y,X,hn,o,rfl,F⟩:=I;have a':=aE y;have K:T.Nodup:=by have:=M.keys;exact List.Pairwise.of_map (S:=(· ≠ ·)) (·.1) (λa j' O e=>O (by rw[e])) this
 unfold Instr.next;simp only;have f':rd P (getObj r) h=some (.mapIter (some m) C (D.map (·.2.2)).toArray L):=by unfold getObj;simp only[rd,y]
 refine aZ f' ?_;simp only;refine aZ (jj M.cV) ?_;simp only;have hq:(!(D.map (·.2.2)).toArray.isEmpty && !(T.map (tQ E)).toArray.isEmpty && (T.map (tQ E)).toArray.all (λe=>decide (e.born≥L)))=false:=by
  cases A:D with
  |nil=>rfl
  |cons d D'=>
   have hl:=X (by rw[A];simp);have B:d∈T:=o d (by rw[A];simp);have:(T.map (tQ E)).toArray.all (λe=>decide (e.born≥L))=false:=by rw[List.all_toArray,List.all_eq_false];exact⟨tQ E d,cm B,by simp;have:=M.NT d B;omega⟩
   rw[this];simp
 rw[af (by rw[hq];simp)];have Z:(T.map (tQ E)).toArray.filter (λe=> !(D.map (·.2.2)).toArray.contains e.born)=((T.filter (λt=> !decide (t∈D))).map (tQ E)).toArray:=by
  apply Array.ext';rw[Array.toList_filter];simp only[];rw[List.filter_map];congr 1;apply List.filter_congr;intro t b;have:(D.map (·.2.2)).toArray.contains (tQ E t).born=decide (t∈D):=by
   by_cases n:t∈D;rw[aq n];simp;exact⟨t.1,t.2.1,n⟩;rw[aA n];simp only[List.contains_toArray,List.contains_eq_mem,decide_eq_false_iff_not,bR,not_exists,not_and];intro u g e;have V:u=t:=by have R:=M.born;have h':=o u g;obtain⟨i,H⟩:=cd h';obtain⟨j,f⟩:=cd b;have s:=(aS.1 H).1;have:=(eK (l:=T.map (·.2.2)) (i:=i) (j:=j) (dQ s) R).1 (by rw[aP,aP,H,f];simp[e]);subst this;rw[H]at f;exact bL f
   exact n (V▸g)
  simp only[Function.comp,this]
 have e':(((T.filter (λt=> !decide (t∈D))).map (tQ E)).toArray.filter (λe=>decide (e.born<C)))=((T.filter (λt=> !decide (t∈D))).map (tQ E)).toArray:=by rw[Array.filter_eq_self];intro e q;obtain⟨t,b,rfl⟩:=bR.1 (List.mem_toArray.1 q);exact aq (M.NT t (bW.1 b).1)
 have d':(((T.filter (λt=> !decide (t∈D))).map (tQ E)).toArray.filter (λe=>decide (e.born≥C)))= #[]:=by rw[Array.filter_eq_empty_iff];intro e q;obtain⟨t,b,rfl⟩:=bR.1 (List.mem_toArray.1 q);have:=M.NT t (bW.1 b).1;simp;omega
 rw[Z,e',d'];simp only[Array.append_empty];cases p:T.filter (λt=> !decide (t∈D))with
 |nil=>
  refine Df bO λi H=> ?_;have:i=0:=by simpa using H
  subst this;have G:((if((([]:List (c×Value×Nat)).map (tQ E)).toArray.isEmpty=true)then #[none]else #[])++Array.map some (([]:List (c×Value×Nat)).map (tQ E)).toArray)[0]? =some none:=bO
  rw[G];show bu P (pure (.T #[.B false])) h Q;refine k1 ?_;refine List.Perm.trans (List.Perm.map _ ?_) w;rw[List.perm_ext_iff_of_nodup hn K];intro t;refine⟨o t,λb=> ?_⟩;have:=List.filter_eq_nil_iff.1 p t b;simpa using this
 |cons k' i'=>
  refine Df bO λi H=> ?_;rw[<-p]at H⊢;have c':(((T.filter (λt=> !decide (t∈D))).map (tQ E)).toArray.isEmpty)=false:=by rw[p];rfl
  rw[c']at H⊢;simp only[aV,bQ,Array.empty_append]at H⊢;have U:i<(T.filter (λt=> !decide (t∈D))).length:=by simpa using H
  obtain⟨t,b⟩: ∃t,(T.filter (λt=> !decide (t∈D)))[i]? =some t:=⟨_,ai U⟩;have S:(Array.map some ((T.filter (λt=> !decide (t∈D))).map (tQ E)).toArray)[i]? =some (some (tQ E t)):=by simp[b]
  rw[S];have z:=bW.1 (aW b);have g':t∉D:=by simpa using z.2
  refine⟨⟨_,y,λ_ _ _ e=>by cases e⟩,?_⟩;refine k2 t.1 t.2.1 _ (w.mem_iff.1 (cm (f:=pr) z.1)) ?_ ⟨T,C,D++ [t],C,⟨?_,M.keys,M.NT,M.born⟩,w,?_,(λ_=>rfl),?_,?_,?_,F⟩ bO (λx hx=> ?_);intro b';obtain⟨u,g,e⟩:=bR.1 b';have J:u.1=t.1:=bY (λx:c×Value=>x.1) e;have:u=t:=by obtain⟨i,H⟩:=cd (o u g);obtain⟨j,f⟩:=cd z.1;have s:=(aS.1 H).1;have:=(eK (l:=T.map (·.1)) (i:=i) (j:=j) (dQ s) M.keys).1 (by rw[aP,aP,H,f];simp[J]);subst this;rw[H]at f;exact bL f
  exact g' (this▸g);rw[cS,af F];exact M.cV;simp[a'];grind;grind;rw[bB];rfl;rw[cS,af (Ne.symm hx)]
end
end Go.Den
namespace Go.Den
section
variable {P : Program} {a : Type}
theorem find_born(E:a->Value){t:a×Value×Nat}: ∀{T:List (a×Value×Nat)},(T.map (·.2.2)).Nodup->t∈T->T.find? ((λe:MapEntry=>e.born==t.2.2) ∘ tQ E)=some t
 | [],_,h=>by cases h
 |u::T,H,h=>by
  rw[cp,fT]at H;rw[List.find?_cons];by_cases b:u.2.2=t.2.2;grind;have:((λe=>e.born==t.2.2) ∘ tQ E) u=false:=by simp[b]
  rw[this];rcases bG.1 h with e|e;grind;exact find_born E H.2 e
def Dg{t:TypeId}{s:bC}{h:Heap}{Q:dH}(c:P.underlying t=some .string)(b: ∀r H,r=h.size->H[r]? =some (.stringIter s 0)->Fr (λ_=>False) h H->Q (.P r 0) H):
  bu P (Instr.range t (.S s)) h Q:=by
 refine aZ (bh c) (b h.size _ rfl aU (Fr.push _ _))
theorem NY{t:TypeId}{s:bC}{h:Heap}{r pos:Nat}{Q:dH}(d:h[r]? =some (.stringIter s pos))(k:s.size<=pos->Q (.T #[.B false]) h)(K:pos<s.size->∀H,H[r]? =some (.stringIter s (pos+(Utf8.decode s pos).2))->H.size=h.size->(∀c,c≠r->H[c]? =h[c]?)->Q (.T #[.B true,.I (pos:Int),.int .i32 ((Utf8.decode s pos).1:Int)]) H):
  bu P (Instr.next (.P r 0) true t) h Q:=by
 unfold Instr.next;have f:rd P (getObj r) h=some (.stringIter s pos):=by unfold getObj;simp only[rd,d]
 refine aZ f ?_;simp only;by_cases b:pos<s.size;rw[ah b];refine⟨⟨_,d,λ_ _ _ e=>by cases e⟩,(K b _ (by simp[(aE d)]) bO (λc g=>by grind))⟩;rw[af b];exact k ae
theorem Dh{E:a->Value}{h:Heap}{r m:Nat}{l done:List (a×Value)}{A:a}{v:Value}(I:Iter h r m E l (done++ [(A,v)])){Q:dH}(j:Q (.T #[E A,v]) h):
  bu P (Instr.entry (.P r 0)) h Q:=by
 have⟨T,c,D,L,M,u,n,k,q,p,H,s⟩:=I;rcases List.eq_nil_or_concat D with rfl|⟨d,t,rfl⟩;simp at H;rw[List.concat_eq_append]at*;rw[bB]at H;have⟨_,b⟩:=List.append_inj' H rfl;have b:pr t=(A,v):=by grind
 have f:t.2.1=v:=bY (λx=>x.2) b;unfold Instr.entry;have o:rd P (getObj r) h=some (.mapIter (some m) c ((d++ [t]).map (·.2.2)).toArray L):=by unfold getObj;simp only[rd,n]
 refine aZ o ?_;simp only;have g:((d++ [t]).map (·.2.2)).toArray.back? =some t.2.2:=bO
 rw[g];refine aZ (jj M.cV) ?_;simp only;rw[(k bO),af bO];have i:(T.map (tQ E)).toArray.find? (λe=>e.born==t.2.2)=some (tQ E t):=by rw[List.find?_toArray,List.find?_map];have:=find_born E M.born (p t bO);rw[this];rfl
 rw[i];show Q (.T #[E t.1,t.2.1]) h;rw[(bY (λx=>x.1) b),f];exact j
end
end Go.Den
namespace Go.Den
section
variable {P : Program}
def HS(P:Program)(e:TypeId->Value->Value->Option Bool)(x y:Array Value)(t:TypeId)(o:Nat)(a:Option Bool):Option Bool:=
 match km P (part t x o),km P (part t y o)with
 |some u,some v=>(match e t u v,a with|some b,some c=>some (b && c)|_,_=>none)
 |_,_=>none
def Wq(P:Program):Nat->TypeId->Value->Value->Option Bool
 |0,_,_,_=>none
 |n+1,t,x,y=>
  match P.underlying t with
  |some .bool=>(match x,y with| .bool a,.bool b=>some (a==b)|_,_=>none)
  |some (.int _)=>(match x,y with| .int k a,.int K b=>(match decide (k=K)with|true=>some (a==b)|false=>none)|_,_=>none)
  |some .string=>(match x,y with| .string a,.string b=>some (a==b)|_,_=>none)
  |some (.struct fs)=>(match x,y with
   | .agg X,.agg c=>(match P.stoodInHeld t with
    |true=>none
    |false=>fs.toList.foldr (λf A=>match decide (f.name= "_")with|true=>A|false=>HS P (Wq P n) X c f.type f.offset A) (some true))
   |_,_=>none)
  |some (.array len e)=>(match x,y,P.info? e with
   | .agg X,.agg c,some i=>(List.range len).foldr (λk A=>HS P (Wq P n) X c e (k*i.size) A) (some true)
   |_,_,_=>none)
  |_=>none
def vt{i:Type}{h:Heap}{step:i->Option Bool->Option Bool}{B:i->Option Bool×Unit->Sem (ForInStep (Option Bool×Unit))}: ∀(l:List i)(b:Bool),l.foldr step (some true)=some b->
  (∀f a b,step f a=some b->(a=some b/\rd P (B f (none,())) h=some (.yield (none,())))\/∃q c,a=some c/\b=(q && c)/\rd P (B f (none,())) h=some (if q=true then .yield (none,())else .done (some false,())))->
  rd P (forIn l (none,()) B) h=some (if b=true then(none,())else(some false,()))
 | [],b,e,_=>by cases bL e;rfl
 |f::l,b,e,g=>by
  rw[List.forIn_cons];rcases g f _ b e with⟨H,d⟩|⟨q,c,H,rfl,d⟩;rw[ba _ _ _ _ d];exact vt l b H g;rw[ba _ _ _ _ d];cases q with
  |true=>exact vt l c H g
  |false=>rfl
def GH{e:TypeId->Value->Value->Option Bool}{n:Nat}(f: ∀t x y b,e t x y=some b->∀h,rd P (Op.equalIn n t x y) h=some b){X d:Array Value}{t:TypeId}{o:Nat}{a:Option Bool}{b:Bool}{h:Heap}(H:HS P e X d t o a=some b):
  ∃q c u v,a=some c/\b=(q && c)/\rd P (part t X o) h=some u/\rd P (part t d o) h=some v/\rd P (Op.equalIn n t u v) h=some q:=by
 unfold HS at H;split at H;rename_i u v i j;split at H;rename_i q c g;exact⟨q,c,u,v,rfl,(bL H).symm,wG _ _ i h,wG _ _ j h,f _ _ _ _ g h⟩;cases H;cases H
theorem Le : ∀(n : Nat)(t : TypeId)(x y : Value)(b : Bool), Wq P n t x y = some b -> ∀ h, rd P (Op.equalIn n t x y) h = some b
  | 0, _, _, _, _, H => by cases H
  | n + 1, t, x, y, b, H => by
    intro h
    unfold Wq at H
    unfold Op.equalIn
    split at H
    · rename_i g
      rw [ba _ _ _ _ (bh g)]
      split at H
      · rw [<- H]; rfl
      · cases H
    · rename_i d g
      rw [ba _ _ _ _ (bh g)]
      split at H
      · rename_i k a K c
        split at H
        · rename_i B
          simp only [bj B, cI]
          rw [<- H]; rfl
        · cases H
      · cases H
    · rename_i g
      rw [ba _ _ _ _ (bh g)]
      split at H
      · rw [<- H]; rfl
      · cases H
    · rename_i fs g
      rw [ba _ _ _ _ (bh g)]
      split at H
      · rename_i X E
        split at H
        · cases H
        · rename_i D
          dsimp only
          rw [ba _ _ _ _ (show rd P program h = some P from rfl), D]
          simp only [aV, bQ]
          rw [<- Array.forIn_toList, ba _ _ _ _ (vt (h := h) fs.toList b H ?_)]
          · cases b <;> rfl
          · intro f A b j
            split at j
            · rename_i w
              refine .inl ⟨j, ?_⟩
              rw [af (by grind)]
              rfl
            · rename_i w
              obtain ⟨q, c, u, v, l, m, o, p, r⟩ := GH (h := h) (λt x y b s h => Le n t x y b s h) j
              refine .inr ⟨q, c, l, m, ?_⟩
              rw [ah (by grind), ba _ _ _ _ o, ba _ _ _ _ p, ba _ _ _ _ r]
              cases q <;> rfl
      · cases H
    · rename_i len e g
      rw [ba _ _ _ _ (bh g)]
      split at H
      · rename_i X E i z
        dsimp only
        rw [ba _ _ _ _ (fI z), Std.Legacy.Range.forIn_eq_forIn_range']
        have C : List.range' ([:len] : Std.Legacy.Range).start ([:len] : Std.Legacy.Range).size ([:len] : Std.Legacy.Range).step = List.range len := by
          simp [Std.Legacy.Range.size, List.range_eq_range']
        rw [C, ba _ _ _ _ (vt (h := h) (List.range len) b H ?_)]
        · cases b <;> rfl
        · intro k A b j
          obtain ⟨q, c, u, v, l, m, o, p, r⟩ := GH (h := h) (λt x y b s h => Le n t x y b s h) j
          refine .inr ⟨q, c, l, m, ?_⟩
          rw [ba _ _ _ _ o, ba _ _ _ _ p, ba _ _ _ _ r]
          cases q <;> rfl
      · cases H
    · cases H
def NB.of{t:TypeId}{x y:Value}{b:Bool}(H:Wq P 10000 t x y=some b):NB P t x y b:=λh=>Le 10000 t x y b H h
end
section
variable {P : Program} {t : TypeId}
def zC{s x elem E:TypeId}{i:TypeInfo}{z:Value}{h:Heap}{p q:bH}{len cap n cq:Nat}{b d:List Value}{K:dH}(Q:P.underlying s=some (.slice elem))(T:P.underlying x=some (.slice E))(H:P.info? elem=some i)(U:i.zero=some z)(S:z.cells.size=i.size)(M:Row h p b)(l:b.length=len*i.size)(A: ¬len+n<=cap)(L:Row h q d)(o:d.length=n*i.size)(X:(len+n)*i.bytes<=70368744177664)(Z:len+n<=9223372036854775807)(F: ∀r C f,Own f r (len+n) C i.size (b++d)->Fr (λ_=>False) h f->(∀c,aN r c->h.size<=c)->K (.L r (len+n) C) f):
  bu P (Builtin.append_ #[s,x] t #[.L p len cap,.L q n cq]) h K:=by
 unfold Builtin.append_;refine aZ (s:=underlying s) (bh Q) ?_;refine aZ (s:=sizeOf elem) (fI H) ?_;refine aZ (s:=underlying x) (bh T) ?_;refine aZ (s:=(pure false:Sem Bool)) (a:=false) rfl ?_;refine aZ (s:=Builtin.lenOf (.L q n cq)) (a:=n) rfl ?_;show bu P (if len+n<=cap then _ else _) h K;rw[af A];have G:=nextslicecap_le (need:=len+n) (cap:=cap) ae;refine aZ (s:=typeInfo elem) (eE H) ?_;have I: ¬(((len+n:Nat):Int)>IntKind.max .i64/\(False\/i.bytes=0)):=λy=>by have:IntKind.max .i64=9223372036854775807:=rfl;rw[this]at y;omega
 show bu P (if(((len+n:Nat):Int)>IntKind.max .i64/\(false=true\/i.bytes=0))then _ else _) h K;rw[af (dQ I)];refine aZ (s:=typeInfo elem) (eE H) ?_;have J: ¬(Builtin.nextslicecap (len+n) cap*i.bytes>2 ^ 48):=by have g:Builtin.nextslicecap (len+n) cap*i.bytes<=2*(len+n)*i.bytes:=dP _ G;rw[Nat.mul_assoc]at g;omega
 show bu P (if Builtin.nextslicecap (len+n) cap*i.bytes>2 ^ 48 then _ else _) h K;rw[af J];show bu P (choose (.appendCap (len+n) cap elem)>>=_) h K;rw[cY];unfold choose;simp only[bu,Question.forced,aV,bQ,Question.cut];intro V;refine aZ (s:=typeInfo elem) (eE H) ?_;rw[cY];have O: ∀(m:Nat)(k:Unit->cM),k () h->bu P (askRoom m) h k:=λm k v=>by unfold askRoom;split;exact v;exact v
 refine O _ _ ?_;refine aZ (s:=Builtin.firstCells i.size len (.L p len cap)) (a:=b.toArray) (iF M l) ?_;refine aZ (s:=Builtin.firstCells i.size n (.L q n cq)) (a:=d.toArray) (iF L o) ?_;refine aZ (s:=zeroValue elem) (gu H U) ?_;generalize a':len+n+V%(2 ^ 63 - (len+n))=C;have B:len+n<=C:=ae
 show K (.L (Sa h.size 0) (len+n) C) (h.push (.C (b.toArray++d.toArray++Builtin.zeroCells z.cells (C - (len+n))) elem));have R:(b.toArray++d.toArray++Builtin.zeroCells z.cells (C - (len+n))).size=C*i.size:=by
  have g:(Builtin.zeroCells z.cells (C - (len+n))).size=(C - (len+n))*i.size:=by simp[Builtin.zeroCells,S]
  have w:=l;rw[Array.size_append,Array.size_append,g];simp only[List.size_toArray];rw[w,o,<-fW,<-fW];congr 1;omega
 refine F _ C _ (.row h.size 0 _ elem rfl aU B (by rw[R];omega) (by rw[ak,l,o,fW]) ?_) (Fr.push _ _) ?_;intro j b' u;rw[aX];have D:j<(b++d).length:=(aS.1 u).1;rw[cH (dQ D)];simpa using u;rintro c ⟨a,e,rfl⟩;cases e;exact bf _
def Di{S x elem e:TypeId}{s bytes:Nat}{z:Value}{h:Heap}{p q:bH}{len cap n cq:Nat}{C d:List Value}{K:dH}(T:jL P S elem s bytes z)(v:P.underlying x=some (.slice e))(u:Row h p C)(k:C.length=len*s)(j: ¬len+n<=cap)(r:Row h q d)(l:d.length=n*s)(f:(len+n)*bytes<=70368744177664)(g:len+n<=9223372036854775807)(o: ∀a b H,Own H a (len+n) b s (C++d)->Fr (λ_=>False) h H->(∀c,aN a c->h.size<=c)->K (.L a (len+n) b) H):
  bu P (Builtin.append_ #[S,x] t #[.L p len cap,.L q n cq]) h K:=by
 obtain⟨i,m,rfl,rfl,w⟩:=T.i;exact zC T.u v m w T.zs u k j r l f g o
end
def Src(h:Heap)(p:bH)(l c:Nat)(b:cO):Prop:=l=b.length/\(Own h p l c 1 (bc b)\/(Row h p (bc b)/\c=l))
def Src.frame{h d:Heap}{p:bH}{l c:Nat}{b:cO}{S:fZ}(H:Src h p l c b)(f:Fr S h d)(g: ∀y,aN p y->¬S y):Src d p l c b:=
 ⟨H.1,H.2.imp (λo=>o.frame f g) (λr=>⟨r.1.frame f (λa e=>g _ ⟨a,e,rfl⟩),r.2⟩)⟩
def Src.own{h:Heap}{p:bH}{l c:Nat}{bs:cO}(o:Own h p bs.length c 1 (bc bs))(H:l=bs.length):Src h p l c bs:=by subst H;exact⟨rfl,.inl o⟩
def ou{P:Program}{t s x elem E:TypeId}{z:Value}{h:Heap}{p q:bH}{len cap n cq:Nat}{bs d:cO}{K:dH}(T:jL P s elem 1 1 z)(l:P.underlying x=some (.slice E))(H:Src h p len cap bs)(k:Row h q (bc d))(i:n=d.length)(v:0<n)(u:len+n<=70368744177664)(j: ∀b e a,Own a b (bs++d).length e 1 (bc (bs++d))->Fr (aN p) h a->(∀c,aN b c->aN p c\/h.size<=c)->K (.slice b (bs++d).length e) a):
  bu P (Builtin.append_ #[s,x] t #[.L p len cap,.L q n cq]) h K:=by
 obtain⟨rfl,o|⟨r,rfl⟩⟩:=H;subst i;refine du T l o k (by rw[fO,bJ]) (kY _) ae ae λb C a O _ f g=> ?_;rw[<-ak]at O⊢;rw[<-hZ]at O;exact j b C a O f g;subst i;refine Di T l r (by rw[fO,bJ]) ae k (by rw[fO,bJ]) ae ae λb C a O f g=> ?_;rw[<-ak]at O⊢;rw[<-hZ]at O;exact j b C a O (f.mono λ_ _=>False.elim) (λc m=> .inr (g c m))
def xX{P:Program}{u s X elem E C:TypeId}{z:Value}{h:Heap}{p:bH}{len cap:Nat}{B:cO}{x:Int}{K:dH}(c:UInt8)(l:x=(c.toNat:Int))(T:jL P s elem 1 1 z)(n:P.underlying X=some (.slice E))(H:Src h p len cap B)(k:len+1<=70368744177664)(m: ∀d e a,Own a d (B++ [c]).length e 1 (bc (B++ [c]))->Fr (aN p) h a->(∀y,aN d y->aN p y\/h.size<=y)->K (.slice d (B++ [c]).length e) a):
  aT h (.C #[.int .u8 x] C) λb j=>bu P (Builtin.append_ #[s,X] u #[.L p len cap,.L (Sa b 0) 1 1]) j K:=by
 subst l;refine bn ?_;have F:Fr (λ_=>False) h (h.push (.C #[.int .u8 (c.toNat:Int)] C)):=Fr.push _ _;have r:Row (h.push (.C #[.int .u8 (c.toNat:Int)] C)) (Sa h.size 0) (bc [c]):=gW (cs:=bc [c]);refine ou T n (H.frame F bD) r rfl ae k λd i a o f g=>m d i a o (Fr.no F f) λy t=>(g y t).imp id λq=>by have:=F.1;omega
def NZ{P:Program}{ty S X elem:TypeId}{h:Heap}{p:bH}{len cap n:Nat}{B:cO}{K:dH}(T:jL P S elem 1 1 (.int .u8 0))(u:P.underlying X=some (.int .i64))(O:Own h p len cap 1 (bc B))(M:len=B.length)(hn:0<n)(hb:len+n<=70368744177664)(z: ∀w C d,Own d w (len+n) C 1 (bc (B++List.replicate n 0))->Fr (aN p) h d->(∀c,aN w c->aN p c\/h.size<=c)->K (.L w (len+n) C) d):
  bu P (Builtin.append_ #[S,X] ty #[.L p len cap,.I (n:Int)]) h K:=by
 obtain⟨i,a,s,x,F⟩:=T.i;have Z: ∀m,Builtin.zeroCells (Value.int .u8 0).cells m=(List.replicate m (.int .u8 0)).toArray:=λm=>by apply Array.ext_getElem?;intro j;by_cases H:j<m;simp[Builtin.zeroCells,Value.cells,H,Nat.mod_one];rw[eU (by simp[Builtin.zeroCells,Value.cells];omega),eU (by simp;omega)]
 have E:bc (List.replicate n 0)=List.replicate n (.int .u8 0):=by unfold bc;rw[List.map_replicate];rfl
 have V: ∀v∈List.replicate n (Value.int .u8 0),fH v=true:=λv hv=>by rw[(List.mem_replicate.1 hv).2];rfl
 refine aZ (bh T.u) ?_;refine aZ (fI a) ?_;refine aZ (bh u) ?_;refine aZ rfl ?_;have hw:IntKind.wrap .i64 (n:Int)=(n:Int):=eY;refine aZ (a:=(n:Int)) rfl ?_;rw[hw];rw[fe];refine aZ (eE a) ?_;rw[af (by rw[x];omega)];refine aZ (a:=n) rfl ?_;have R: ∀g,rd P (if n*i.size=0 then pure #[]else do pure (Builtin.zeroCells (<-zeroValue elem).cells n):Sem (Array Value)) g=some (List.replicate n (Value.int .u8 0)).toArray:=λg=>by rw[s,fe,ba _ _ _ _ (gu a F)];show some (Builtin.zeroCells (Value.int .u8 0).cells n)=_;rw[Z]
 show bu P (if len+n<=cap then _ else _) h K;by_cases q:len+n<=cap;rw[ah q];refine aZ (R h) ?_;cases O with
 |nil D M l y=>omega
 |row b o c t D J h' l r y=>subst D;show bu P (storeCells (((AA b o):Addr).add (len*i.size)) (List.replicate n (Value.int .u8 0))>>=λ_=>pure (.L (Sa b o) (len+n) cap)) h K;rw[hH,cY,s,bJ];refine wL (c:=c) (off:=o+len) _ 0 h b t _ V J (by simp;omega) ?_;intro d G I j' U Q c' a';show K (.L (Sa b o) (len+n) cap) d;rw[bJ]at r;refine z _ cap d (.row b o G t rfl I q ae (by rw[fO,ak,List.length_replicate];omega) ?_) (Fr.of_eq c' λd' u=>a' d' (λe=>u ⟨_,rfl,e.symm⟩)) (λc l=> .inl l);intro j v H;rw[hZ,E]at H;by_cases f:j<(bc B).length;rw[List.getElem?_append_left f]at H;rw[U _ (by rw[r]at f;omega)];exact y j v H;rw[dC ae]at H;have:=Q _ v H;rw[r]at this f;rwa[show o+len+0+(j - len)=o+j by omega]at this
 rw[af q];have g':=nextslicecap_le (need:=len+n) (cap:=cap) ae;refine aZ (eE a) ?_;have i':IntKind.max .i64=9223372036854775807:=rfl;rw[fe];refine aZ (eE a) ?_;rw[af (by rw[x];omega)];rw[cY];unfold choose;simp only[bu,Question.forced,aV,bQ,Question.cut];intro tq;refine aZ (eE a) ?_;rw[cY];have b': ∀(m:Nat)(k:Unit->cM),k () h->bu P (askRoom m) h k:=λm k A=>by unfold askRoom;split;exact A;exact A
 refine b' _ _ ?_;refine aZ (iF O.iy (by rw[s];exact O.length)) ?_;refine aZ (R h) ?_;refine aZ (gu a F) ?_;generalize f':len+n+tq%(2 ^ 63 - (len+n))=C;have L:len+n<=C:=ae
 have lo:=O.length;rw[fO,bJ]at lo;refine z _ C _ (.row h.size 0 _ elem rfl aU L ?_ (by rw[fO,ak,List.length_replicate];omega) ?_) (Fr.push _ _) ?_;rw[Z];simp[fO];omega;intro j v H;rw[aX];rw[hZ,E]at H;have f:j<(bc B++List.replicate n (Value.int .u8 0)).length:=(aS.1 H).1;rw[cH (dQ f),show((bc B).toArray++(List.replicate n (Value.int .u8 0)).toArray)=(bc B++List.replicate n (Value.int .u8 0)).toArray from List.append_toArray _ _,List.getElem?_toArray];exact H;rintro c ⟨e',e,rfl⟩;cases e;exact .inr (bf _)
section
variable {P:Program} {h:Heap}
variable {a:Addr} {i:Nat} {v:Value}
abbrev Ws(B:cO):List Value:=B.map λb=> .int .u8 (b.toNat:Int)
def tR : ∀(B:cO)(i:Nat)(F:List Value->Prop),cz a (Ws B) i h->F (Ws B)->AI h a (List.replicate B.length (.int .u8)) i F
 | [],_,_,_,H=>H
 |b::B,i,F,c,H=>by rw[bw,List.replicate_succ];exact⟨_,c.1,tR B (i+1) _ c.2 H⟩
def PV{b:cO}{n:Nat}{F:List Value->Prop}(d:b.length=n)(c:cz a (Ws b) i h)(H:F (Ws b)):AI h a (List.replicate n (.int .u8)) i F:=by subst d;exact tR b i F c H
def PW: ∀(B:cO)(F:List Value->Prop),F (Ws B)->V5 (List.replicate B.length (.int .u8)) F
 | [],_,H=>H
 |b::B,F,H=>by rw[bw,List.replicate_succ];exact⟨_,PW B _ H⟩
def Dj: ∀(U:List Value)(k:Nat)(c:Array Value)(o:Nat),o+k+U.length<=c.size->
  ∃C,((U.zipIdx k).foldl (λd (x:Value×Nat)=>d.setIfInBounds (o+x.2) x.1) c)=C/\C.size=c.size/\(∀j,j<U.length->C[o+k+j]? =U[j]?)/\∀j,(j<o+k\/o+k+U.length<=j)->C[j]? =c[j]?
 | [],k,c,o,_=>⟨c,rfl,rfl,λj H=>by simp at H,λ_ _=>rfl⟩
 |u::U,k,c,o,l=>by
  rw[bw]at l;obtain⟨C,e,f,g,b⟩:=Dj U (k+1) (c.setIfInBounds (o+k) u) o (by simp;omega);refine⟨C,by rw[List.zipIdx_cons,List.foldl_cons];exact e,by rw[f];simp,λj H=> ?_,λj H=> ?_⟩;cases j with
  |zero=>rw[b _ (.inl ae)];show(c.setIfInBounds (o+k) u)[o+k]? =_;rw[Array.getElem?_setIfInBounds_self_of_lt ae];rfl
  |succ j=>rw[show o+k+(j+1)=o+(k+1)+j by omega,g j (dQ H)];rfl
  rw[bw]at H;rw[b j ae,Array.getElem?_setIfInBounds_ne ae]
def zD{p:Nat->Option (Nat×Nat)}{c:Array Value}{off size:Nat}{r:List (Nat×Value)}(H:p i=some (off,size))(b:v.cells.size=size)(d:off+v.cells.size<=c.size):
  Instr.fill p c ((i,v)::r)=Instr.fill p (v.cells.zipIdx.foldl (λC (x:Value×Nat)=>C.setIfInBounds (off+x.2) x.1) c) r:=by
 rw[Instr.fill,H];dsimp only;rw[af (by simp[b];omega)]
def Jo{t:TypeId}{fs:Array Field}{i0 i1 it:TypeInfo}{f0 f1:Field}{u:List Value}{z:Value}(A:P.underlying t=some (.struct fs))(r:fs= #[f0,f1])(p:P.info? f0.type=some i0)(q:P.info? f1.type=some i1)(O:f0.offset=0)(G:f1.offset=1)(S:i0.size=1)(I:i1.size=u.length)(y:P.info? t=some it)(F:it.zero=some z)(Z:z.cells.size=u.length+1)(B:fH v=true):K3 P t #[(0,v),(1,.agg u.toArray)] (.agg (v::u).toArray):=λH=>by
 subst r;unfold Instr.build;have k:rd P (zeroValue t) H=some z:=by unfold zeroValue;rw[ba _ _ _ _ (eE y),F];rfl
 rw[ba _ _ _ _ k,ba _ _ _ _ (bh A)];have E: ∀(f:Field)(i:TypeInfo),P.info? f.type=some i->rd P (do pure (f.offset,<-sizeOf f.type):Sem (Nat×Nat)) H=some (f.offset,i.size):=λf i s=>by rw[ba _ _ _ _ (fI s)];rfl
 have m:rd P ((#[f0,f1]:Array Field).mapM λf=>do pure (f.offset,<-sizeOf f.type)) H=some #[(0,1),(1,u.length)]:=by simp only[Array.mapM_eq_mapM_toList,List.mapM_cons,List.mapM_nil];show rd P (Bind.bind _ (λl=>pure (List.toArray l))) H=_;refine(ba _ _ _ [(0,1),(1,u.length)] ?_).trans rfl;refine(ba _ _ _ _ (E f0 i0 p)).trans ((ba _ _ _ [(1,u.length)] ((ba _ _ _ _ (E f1 i1 q)).trans ?_)).trans ?_);rw[G,I];rfl;rw[O,S];rfl
 rw[ba _ _ _ _ m];have e:v.cells= #[v]:=by cases v<;>first|rfl|cases B
 obtain⟨J,d,D,b,g⟩:=Dj u 0 (z.cells.setIfInBounds 0 v) 1 (by simp;omega);have n:Instr.fill (λx=> #[(0,1),(1,u.length)][x]?) z.cells [(0,v),(1,.agg u.toArray)]=some (v::u).toArray:=by rw[zD (off:=0) (size:=1) rfl (by rw[e];rfl) (by rw[e];show 0+1<=_;omega),e];have o:(Array.foldl (λc (x:Value×Nat)=>c.setIfInBounds (0+x.2) x.1) z.cells (#[v]:Array Value).zipIdx)=z.cells.setIfInBounds 0 v:=rfl;rw[o,zD (off:=1) (size:=u.length) rfl (by show u.toArray.size=_;simp) (by show 1+u.toArray.size<=_;simp;omega)];show some (Array.foldl (λc (x:Value×Nat)=>c.setIfInBounds (1+x.2) x.1) (z.cells.setIfInBounds 0 v) u.toArray.zipIdx)=_;rw[<-Array.foldl_toList,Array.toList_zipIdx,d];congr 1;refine Array.ext_getElem? λj=> ?_;rcases j with _|j;rw[g 0 (.inl ae),Array.getElem?_setIfInBounds_self_of_lt ae];simp;by_cases w:j<u.length;have:=b j w;rw[show 1+0+j=j+1 by omega]at this;rw[this];simp;rw[eU (by rw[D];simp;omega),eU (by simp;omega)]
 show rd P (match Instr.fill _ z.cells [(0,v),(1,Value.agg u.toArray)]with|some C=>pure (Value.agg C)|_=>_) H=_;rw[n];rfl

end
section
variable {P : Program}
def N0{t elem:TypeId}{s bytes:Nat}{z b:Value}{h:Heap}{K:dH}(T:jL P t elem s bytes z)(I:z.cells=Array.replicate s b)(E:0<s)(n:Nat)(L:n*bytes<=70368744177664)(M:n<=9223372036854775807)(x: ∀H p,Own H p n n s (List.replicate (n*s) b)->Fr (λ_=>False) h H->(∀c,aN p c->h.size<=c)->K (.L p n n) H):
  bu P (Instr.makeSlice t (.I (n:Int)) (.I (n:Int))) h K:=by
 obtain⟨i,d,D,rfl,l⟩:=T.i;unfold Instr.makeSlice;refine aZ (s:=underlying t) (bh T.u) ?_;refine aZ (s:=asInt (.I (n:Int))) (a:=(n:Int)) rfl ?_;refine aZ (s:=asInt (.I (n:Int))) (a:=(n:Int)) rfl ?_;refine aZ (s:=typeInfo elem) (eE d) ?_;simp only[];rw[df (n:=(n:Int)) ae ae];have B:(i.bytes:Int)*(n:Int)=((n*i.bytes:Nat):Int):=by rw[Nat.mul_comm];simp
 have y:(decide ((n:Int)<0)||decide ((i.bytes:Int)*(n:Int)>2 ^ 48))=false:=by
  rw[B];have r: ¬(n:Int)<0:=ae
  have u: ¬((n*i.bytes:Nat):Int)>2 ^ 48:=ae
  rw[aA r,aA u];rfl
 have w:(((decide ((n:Int)<0)||decide ((i.bytes:Int)*(n:Int)>2 ^ 48))||decide ((n:Int)<0))||decide ((n:Int)>(n:Int)))=false:=by rw[y];simp
 rw[af (by rw[w];simp)];have C: ∀(m:Nat)(k:Unit->cM),k () h->bu P (askRoom m) h k:=λm k q=>by unfold askRoom;split;exact q;exact q
 rw[cY];refine C _ _ ?_;refine aZ (s:=sizeOf elem) (fI d) ?_;rw[aG,D];have F: ∀Z:Array Value,(n=0\/Z=Array.replicate s b)->bu P (newRow elem ((Array.range (n*s)).map (Z[· %Z.size]!))>>=λa=>pure (.L (some a) n n)) h K:=by
  intro Z J;show K (.L (Sa h.size 0) n n) (h.push (.C ((Array.range (n*s)).map (Z[· %Z.size]!)) elem));refine x _ _ (.row h.size 0 _ elem rfl aU (bf _) bO bO ?_) (Fr.push _ _) ?_;intro j v f;have g:j<n*s:=by have:=(aS.1 f).1;simpa using this
  have G:v=b:=by rw[List.getElem?_replicate,ah g]at f;exact(bL f).symm
  subst G;rcases J with l|rfl;rw[l,Nat.zero_mul]at g;omega;have A:j%s<s:=Nat.mod_lt _ E;rw[aX];simp[g,A];rintro c ⟨a,e,rfl⟩;cases e;exact bf _
 by_cases o:n=0;rw[ah (by rw[o,Nat.zero_mul])];exact F #[] (.inl o);rw[af (λe=>by rcases Nat.mul_eq_zero.1 e with a|a<;>omega)];refine aZ (s:=zeroValue elem) (gu d l) ?_;refine aZ (s:=(pure z.cells:Sem (Array Value))) (a:=z.cells) rfl ?_;rw[I];exact F _ (.inr rfl)
end
section
variable {a:Addr} {len cap s i j:Nat} {K:Heap->Prop}
def mC:List Value->Nat->List Value->List Value
 |cs,_, []=>cs
 |cs,p,v::V=>mC (cs.set p v) (p+1) V
def AW: ∀(V c:List Value)(p:Nat),(mC c p V).length=c.length
 | [],c,p=>rfl
 |v::V,c,p=>by unfold mC;rw[AW V,fz]
theorem wM: ∀(V c:List Value)(p:Nat),p+V.length<=c.length->∀j,(mC c p V)[j]? =if p<=j/\j<p+V.length then V[j - p]? else c[j]?
 | [],c,p,_,j=>by unfold mC;rw[af bO]
 |v::V,c,p,H,j=>by unfold mC;rw[wM V _ (p+1) (by grind) j,List.getElem?_set];by_cases h:p+1<=j/\j<p+1+V.length;grind;grind
theorem Own.cQ{p:Nat}: ∀(V:List Value)(k:Nat)(h:Heap)(c:List Value),Own h (.some a) len cap s c->(∀v∈V,fH v=true)->p+k+V.length<=c.length->
  (∀H,Own H (.some a) len cap s (mC c (p+k) V)->H.size=h.size->(∀x,¬aN (.some a) x->H[x]? =h[x]?)->K H)->Den.cQ (a.add p) V k h K
 | [],k,h,c,o,_,_,b=>b h o rfl (λ_ _=>rfl)
 |v::V,k,h,c,o,d,g,b=>by rw[bw]at g;unfold Den.cQ;rw[d v dz];rw[add_add];refine o.store ae λe O S q=>(Own.cQ V (k+1) e _ O (λu l=>d u (cD _ l)) (by grind) λf m r Q=>b f ?_ ae (λx n=>by grind));unfold mC;exact m
theorem Own.Dm{h:Heap}{c:Type}{E:c->List Value}{X:List c}{y:c}(o:Own h (.some a) len cap s (X.flatMap E))(b: ∀x,(E x).length=s)(k: ∀v∈E y,fH v=true)(f:i<X.length)(g: ∀H,Own H (.some a) len cap s ((X.set i y).flatMap E)->H.size=h.size->(∀x,¬aN (.some a) x->H[x]? =h[x]?)->K H):Den.cQ (a.add (i*s)) (E y) 0 h K:=by
 have d:=ky E s b X;have r:=by have:=dP s (show i+1<=X.length by omega);rwa[fW,Nat.one_mul]at this
 refine Own.cQ (E y) 0 h _ o k (by grind) λH O S q=>g H ?_ S q;have e:mC (X.flatMap E) (i*s+0) (E y)=(X.set i y).flatMap E:=by
  refine PR E s b X i y f _ (AW _ _ _) ?_ ?_;intro j hj;rw[wM _ _ _ (by rw[b,d];omega),b,af];rintro⟨n,p⟩;rcases hj with hj|hj;apply hj;have m:0<s:=ae
  rw[Nat.div_eq_iff m];constructor;omega;omega;omega;intro j v hj l;rw[wM _ _ _ (by rw[b,d];omega),b,iE,show i*s+j - (i*s+0)=j by omega];exact l
 rw[e]at O;exact O
def swp{b:Type}(X:List b)(i j:Nat):List b:=
 match X[i]?,X[j]? with
 |some x,some y=>(X.set i y).set j x
 |_,_=>X
def UZ{b:Type}{X:List b}{x y:b}(h:X[i]? =some x)(H:X[j]? =some y):(X.set i y).set j x=swp X i j:=by unfold swp;rw[h,H]
theorem U0{b:Type}{x:List b}(H:i<x.length)(c:j<x.length)(k:Nat):(swp x i j)[k]? =if k=j then x[i]? else if k=i then x[j]? else x[k]? :=by unfold swp;by_cases h:j=k;grind;grind
def PX{b:Type}{x:List b}(h:i<x.length)(H:j<x.length):(swp x i j).Perm x:=by unfold swp;rw[ai h,ai H];exact List.set_set_perm h H

end
section
variable {h H:Heap} {X:Ft} {j:Nat}
def In(X:Ft)(y:Nat):Prop:=X.M y\/X.D y
abbrev only(X:Ft)(P:fZ):Prop:= ∀y,(X.M y↔P y)/\¬X.D y
abbrev pt(b:Nat):Value:=.pointer (some ⟨b,0,none⟩)
structure HT (P:Nat->Heap->Ft->Prop):Prop where
 lt: ∀ {i h X},P i h X->∀y,In X y->y<h.size
 frame: ∀ {i h H X} {Q:fZ},P i h X->Fr Q h H->(∀y,In X y->¬Q y)->P i H X
 IT: ∀ {i h X},P i h X->∀y,X.M y->X.D y->False
def Pj(P:Nat->Heap->Ft->Prop)(h:Heap)(X:Ft):Prop:= ∃a:Nat->Ft,(∀i,P i h (a i))/\(∀i j y,i≠j->In (a i) y->¬In (a j) y)/\(∀y,X.M y↔ ∃i,(a i).M y)/\∀y,X.D y↔ ∃i,(a i).D y
variable {P p : Nat → Heap → Ft → Prop}
def Pj.lt(S:HT P)(c:Pj P h X)(y:Nat)(hy:X.M y\/X.D y):y<h.size:=by have⟨f,b,_,e,d⟩:=c;rcases hy with hy|hy;have⟨i,a⟩:=(e y).1 hy;exact S.lt (b i) y (.inl a);have⟨i,a⟩:=(d y).1 hy;exact S.lt (b i) y (.inr a)
def Pj.frame{Q:fZ}(S:HT P)(d:Pj P h X)(f:Fr Q h H)(k: ∀y,X.M y\/X.D y->¬Q y):Pj P H X:=by have⟨e,g,A,c,b⟩:=d;exact⟨e,λi=>S.frame (g i) f (λy l=>k y (l.imp (λa=>(c y).2 ⟨i,a⟩) (λa=>(b y).2 ⟨i,a⟩))),A,c,b⟩
def Pj.use(S:HT P)(r:Pj P h X)(j:Nat): ∃Z,P j h Z/\(∀y,Z.M y->X.M y)/\(∀y,Z.D y->X.D y)/\∀H z p,p j H z->cW Z h z H->(∀i,i≠j->p i=P i)->
  ∃x,Pj p H x/\cW X h x H/\(∀y,z.D y->x.D y)/\∀y,h.size<=y->x.M y\/x.D y->z.M y\/z.D y:=by
 obtain⟨d,m,A,g,f⟩:=r;refine⟨d j,m j,λy a=>(g y).2 ⟨j,a⟩,λy a=>(f y).2 ⟨j,a⟩,λH z p t s u=> ?_⟩;have O: ∀i y,i≠j->In (d i) y->¬In z y:=λi y o c hz=>by have l:=S.lt (m i) y c;rcases hz with hz|hz;rcases s.nT y hz with a|a;exact A i j y o c (.inl a);omega;rcases s.qG y hz with a|a;exact A i j y o c (.inr a);omega
 refine⟨⟨λy=> ∃i,(if i=j then z else d i).M y,λy=> ∃i,(if i=j then z else d i).D y⟩,⟨λi=>if i=j then z else d i,λi=> ?_,λi k y n c hz=> ?_,λ_=>dY,λ_=>dY⟩,⟨s.fr.mono (λy _ a=>(g y).2 ⟨j,a⟩),?_,?_,?_⟩,λy a=>⟨j,by rw[ah rfl];exact a⟩,?_⟩;show p i H (if i=j then z else d i);by_cases e:i=j;rw[ah e,e];exact t;rw[af e,u i e];exact S.frame (m i) s.fr (λy c a=>A i j y e c (.inl a));dsimp only at c hz;by_cases e:i=j;rw[ah e]at c;rw[af (λq=>n (e.trans q.symm))]at hz;exact O k y (λq=>n (e.trans q.symm)) hz c;rw[af e]at c;by_cases E:k=j;rw[ah E]at hz;exact O i y e c hz;rw[af E]at hz;exact A i k y n c hz;rintro y ⟨i,a⟩;by_cases e:i=j;rw[ah e]at a;exact(s.nT y a).imp (λb=>(g y).2 ⟨j,b⟩) id;rw[af e]at a;exact .inl ((g y).2 ⟨i,a⟩);rintro y ⟨i,a⟩;by_cases e:i=j;rw[ah e]at a;exact(s.qG y a).imp (λb=>(f y).2 ⟨j,b⟩) id;rw[af e]at a;exact .inl ((f y).2 ⟨i,a⟩);intro y a;obtain⟨i,a⟩:=(f y).1 a;by_cases e:i=j;exact⟨j,by rw[ah rfl];exact s.NR y (e▸a)⟩;exact⟨i,by rw[af e];exact a⟩;intro y c a;have K: ∀i,In (if i=j then z else d i) y->z.M y\/z.D y:=λi a=>by by_cases e:i=j;rw[ah e]at a;exact a;rw[af e]at a;have:=S.lt (m i) y a;omega
 rcases a with⟨i,a⟩|⟨i,a⟩;exact K i (.inl a);exact K i (.inr a)
end
section
variable {h:Heap}
def idxOf{a:Type}(P:a->Bool)(x:List a):Int:=match x.findIdx? P with|some k=>(k:Int)|none=> -1
theorem PY{l:Type}(P:l->Bool){X:List l}{n:Nat}{R:dH}(B:Int->Heap->(Bool->cM)->Prop)(v:n=X.length)(u:X.length<=1000000000)(o: ∀(k:Nat) g x K,X[k]? =some x->Fr (λ_=>False) h g->(∀G,Fr (λ_=>False) h G->K (P x) G)->B (k:Int) g K)(a: ∀g,Fr (λ_=>False) h g->R (.I (idxOf P X)) g):
  ∃(I:iT)(m:iW),I 0 h/\∀(t:Int)(g:Heap),I t g->if(decide (t<(n:Int)))=true then B t g (λq b=>if q=true then R (.I t) b else(I (IntKind.wrap .i64 (t+1)) b/\m (IntKind.wrap .i64 (t+1)) b<m t g))else R (.I (-1)) g:=by
 refine⟨λi g=>Fr (λ_=>False) h g/\∃k:Nat,i=(k)/\k<=X.length/\∀j (H:j<X.length),j<k->¬P X[j]=true,λi _=>X.length - i.toNat,⟨Fr.refl _ _,0,rfl,ae,λj _ H=>ae⟩,?_⟩;rintro _ g ⟨f,k,rfl,s,d⟩;by_cases c:k<X.length;rw[iE];refine o k g X[k] _ (ai c) f λG F=> ?_;by_cases e:P X[k]=true;rw[ah e];have:idxOf P X=(k):=by unfold idxOf;rw[show X.findIdx? P=some k from List.findIdx?_eq_some_iff_getElem.2 ⟨c,e,λj H=>d j ae H⟩]
 rw[this]at a;exact a G F;rw[af e,eY];refine⟨⟨F,k+1,ae,ae,λj H r=> ?_⟩,by grind⟩;by_cases q:j=k;grind;grind;rw[af (λq=>c (by grind))];have:idxOf P X= -1:=by unfold idxOf;rw[show X.findIdx? P=none from List.findIdx?_eq_none_iff.2 λx p=> ?_];obtain⟨j,H,rfl⟩:=List.getElem_of_mem p;exact Bool.not_eq_true _▸d j H ae
 rw[this]at a;exact a g f

end
end Go.Den
namespace Go.Fields
def xY:Nat->Nat->cO
 |0,n=> [UInt8.ofNat n]
 |f+1,n=>if n>127 then UInt8.ofNat (n%128+128)::xY f (n/128)else [UInt8.ofNat n]
def bU(n:Nat):cO:=xY 9 n
def GI: ∀(f n:Nat),n<128 ^ (f+1)->xY (f+1) n=xY f n
 |0,n,h=>by unfold xY;rw[fe]
 |f+1,n,h=>by
  rw[show xY (f+1+1) n=if n>127 then UInt8.ofNat (n%128+128)::xY (f+1) (n/128)else [UInt8.ofNat n]from rfl,
   show xY (f+1) n=if n>127 then UInt8.ofNat (n%128+128)::xY f (n/128)else [UInt8.ofNat n]from rfl]
  split
  rw[GI f (n/128) ae];rfl
def AX{n:Nat}(h:n<18446744073709551616):bU n=if n>127 then UInt8.ofNat (n%128+128)::bU (n/128)else [UInt8.ofNat n]:=by unfold bU;rw[xY];split;rw[<-GI 8 (n/128) ae];rfl
theorem kz: ∀(f n:Nat),1<=(xY f n).length/\(xY f n).length<=f+1
 |0,n=>by simp[xY]
 |f+1,n=>by have:=kz f (n/128);rw[xY];split;grind;simp
def bF(n:Nat):1<=(bU n).length/\(bU n).length<=10:=kz 9 n
def AY:Nat->Nat->Nat
 |0,_=>1
 |f+1,n=>if n>127 then AY f (n/128)+1 else 1
def gv(n:Int):Nat:=n.toNat
def bit(b:Bool):Nat:=if b=true then 1 else 0
def dF(t:cO):cO:=bU t.length++t

end Go.Fields
namespace Go.mj
section
variable {n i j:Nat} {g:Int->Option Value} {k:Int}
abbrev E:=Int×Int
variable {x y z:E} {f:Nat->E} {a l L:List E}
def lt(x y:E):Prop:=x.2<y.2\/(x.2=y.2/\x.1<y.1)
def le(x y:E):Prop:= ¬lt y x
def lt_irrefl(x:E): ¬lt x x:=by unfold lt;omega
def lt_trans(h:lt x y)(H:lt y z):lt x z:=by unfold lt at*;omega
def le_refl(x:E):le x x:=lt_irrefl x
def le_trans(h:le x y)(H:le y z):le x z:=by unfold le lt at*;omega
def le_of_lt(h:lt x y):le x y:=by unfold le lt at*;omega
instance (x y : E) : Decidable (lt x y) := inferInstanceAs (Decidable (_ ∨ _))
def wk(f:Nat->E)(n:Nat):Prop:= ∀j,0<j->j<n->le (f ((j - 1)/2)) (f j)
def zE(f:Nat->E)(n i:Nat):Prop:=
 (∀j,0<j->j<n->j≠i->(j - 1)/2≠i->le (f ((j - 1)/2)) (f j))/\(0<i->∀j,0<j->j<n->(j - 1)/2=i->le (f ((i - 1)/2)) (f j))
def wN(f:Nat->E)(n i:Nat):Prop:=
 (∀j,0<j->j<n->(j - 1)/2≠i->le (f ((j - 1)/2)) (f j))/\(0<i->∀j,0<j->j<n->(j - 1)/2=i->le (f ((i - 1)/2)) (f j))
def HU(f:Nat->E)(n i:Nat):Prop:= ∀j,0<j->j<n->(j - 1)/2=i->le (f i) (f j)
def px(f:Nat->E)(i j:Nat):Nat->E:=λk=>if k=i then f j else if k=j then f i else f k
theorem Sw(h:zE f n i)(e:i=0\/le (f ((i - 1)/2)) (f i)):wN f n i:=by refine⟨λj H b c=> ?_,h.2⟩;by_cases d:j=i;grind;exact h.1 j H b d c
def qJ(h:wN f n i)(d:HU f n i):wk f n:=by intro j b c;by_cases H:(j - 1)/2=i;have:=d j b c H;rw[H];exact this;exact h.1 j b c H
theorem Sx{p:Nat}(h:zE f n i)(q:0<i)(v:i<n)(s:p=(i - 1)/2)(m:lt (f i) (f p)):zE (px f i p) n p/\HU (px f i p) n p:=by
 have o:p≠i:=ae
 refine⟨⟨λj b c d r=> ?_,λt j b c d=> ?_⟩,λj b c d=> ?_⟩
 ·
  have H:j≠i:=ae
  unfold px;rw[af H,af d];by_cases e:(j - 1)/2=i;rw[ah e,s];exact h.2 q j b c e;rw[af e,af r];exact h.1 j b c H e
 have u:=h.1 p t ae o ae;unfold px;rw[af (show(p - 1)/2≠i by omega),af (show(p - 1)/2≠p by omega)];by_cases H:j=i;grind;rw[af H,fe];have:=h.1 j b c H ae;rw[d]at this;exact le_trans u this;unfold px;rw[af o,ah rfl];by_cases H:j=i;rw[ah H];exact le_of_lt m;rw[af H,fe];have:=h.1 j b c H ae;rw[d]at this;exact le_trans (le_of_lt m) this
theorem N1{c:Nat}(h:wN f n i)(p:(c - 1)/2=i)(q:0<c)(s:c<n)(r:lt (f c) (f i))(t: ∀j,0<j->j<n->(j - 1)/2=i->le (f c) (f j)):wN (px f i c) n c:=by
 refine⟨λj H b d=> ?_,λ_ j H b d=> ?_⟩;unfold px;by_cases m:j=i;subst m;rw[af (show(j - 1)/2≠j by omega),af (show(j - 1)/2≠c by omega),ah rfl];exact h.2 H c q s p;by_cases o:(j - 1)/2=i;rw[ah o,af m];by_cases e:j=c;rw[ah e];exact le_of_lt r;grind;have e:j≠c:=ae
 rw[af o,af d,af m,af e];exact h.1 j H b o;unfold px;rw[p,ah rfl,af (show j≠i by omega),af (show j≠c by omega)];have:=h.1 j H b ae;rw[d]at this;exact this
def PZ(h:wk f n): ∀j,j<n->le (f 0) (f j):=by
 intro j;induction j using Nat.strongRecOn with
 |_ j I=>intro b;by_cases H:j=0;subst H;exact le_refl _;exact le_trans (I ((j - 1)/2) ae ae) (h j ae b)
def at_(a:List E)(i:Nat):E:=a.getD i (0,0)
def Dn(h:i<a.length):at_ a i=a[i]:=by simp[at_,h]
def MA(h:i<a.length):a[i]? =some (at_ a i):=by simp[at_,h]
theorem Lf(h:i<a.length):at_ (a.set i x) j=if j=i then x else at_ a j:=by unfold at_;by_cases e:j=i;grind;grind
def rB(a:List E)(i j:Nat):List E:=(a.set j (at_ a i)).set i (at_ a j)
def zH :(rB a i j).length=a.length:=by simp[rB]
theorem Jp(H:i<a.length)(h:j<a.length)(k:Nat):at_ (rB a i j) k=px (at_ a) i j k:=by unfold rB px;rw[Lf (by grind),Lf h]
def GJ(h:i<a.length)(H:j<a.length):at_ (rB a i j)=px (at_ a) i j:=funext (Jp h H)
def wO(h:i<a.length)(H:j<a.length):(rB a i j).Perm a:=by unfold rB;rw[Dn h,Dn H];exact List.set_set_perm H h
def iY(a:List E)(g:Int->Option Value):Prop:=
 (a.map (·.1)).Nodup/\(∀j,j<a.length->g (at_ a j).1=some (.int .i64 j))/\∀k,k∉a.map (·.1)->g k=none
theorem iY.swap(h:iY a g)(H:i<a.length)(b:j<a.length)(p:i≠j):
  iY (rB a i j) (λk=>if k=(at_ a j).1 then some (.I i)else if k=(at_ a i).1 then some (.I j)else g k):=by
 have⟨d,m,o⟩:=h;have e:=(wO H b).map (·.1);refine⟨e.nodup_iff.2 d,λk c=> ?_,λk c=> ?_⟩;rw[zH]at c;rw[Jp H b];unfold px;by_cases E:k=i;grind;grind;grind
def kA(l:List E):Prop:=l.Pairwise lt
def keys(l:List E):List Int:=l.map (·.1)
def gO(l:List E)(k:Int):List E:=l.filter (λe=> !(e.1==k))
def Sy(l:List E)(x:E):List E:=l.filter (λe=>decide (lt e x))++x::l.filter (λe=> !decide (lt e x))
def kA.drop(h:kA l)(k:Int):kA (gO l k):=List.Pairwise.filter _ h
def mZ(h:k∉keys l):gO l k=l:=by unfold gO;rw[cZ];intro e H;have:e.1≠k:=λE=>h (E▸cm H);simp[this]
def Lh(h:l.Perm L)(k:Int):(gO l k).Perm (gO L k):=h.filter _
def P0(H:a.Perm l)(p:kA l)(m:wk (at_ a) a.length)(b:0<a.length): ∃r,l=at_ a 0::r:=by
 cases l with
 |nil=>have:=H.length_eq;simp only[bZ]at this;omega
 |cons x r=>refine⟨r,?_⟩;have q:x∈a:=H.mem_iff.2 dz;obtain⟨j,h⟩:=cd q;have c:j<a.length:=(aS.1 h).1;have d:=PZ m j c;rw[MA c]at h;have E:at_ a j=x:=bL h;rw[E]at d;have o:at_ a 0∈x::r:=H.mem_iff.1 (by rw[Dn b];exact cx b);rcases bG.1 o with e|e;rw[e];have:=(gj.1 p).1 _ e;exact absurd this d
def GK(H:a.length=n+1):a=a.take n++ [at_ a n]:=by
 have h:n<a.length:=ae
 rw[Dn h];have:=List.take_append_getElem h;rw[this,bz ae]
def HV(h:i<n):at_ (a.take n) i=at_ a i:=by unfold at_;rw[aL,aL,eC,ah h]
def mem_keys(h:k∈keys a): ∃j,j<a.length/\(at_ a j).1=k:=by obtain⟨e,c,rfl⟩:=bR.1 h;have⟨j,H⟩:=cd c;have b:=(aS.1 H).1;rw[MA b]at H;exact⟨j,b,bY Prod.fst (bL H)⟩
def keys_perm(h:l.Perm L):(keys l).Perm (keys L):=h.map _
def cut(a:List E)(n j:Nat):List E:=if j<n then(a.take n).set j (at_ a n)else a.take n
theorem Jq(b:a.length=n+1)(d:j<a.length):a.Perm (at_ a j::cut a n j):=by
 unfold cut;have m:(a.take n).length=n:=by grind
 split
 rename_i h;have H:j<(a.take n).length:=ae
 have e:at_ a j=(a.take n)[j]:=by rw[<-HV h,Dn H]
 have p:=by
  have:a.Perm (a.take n++ [at_ a n]):=by rw[<-GK b]
  exact this.trans (List.perm_append_singleton _ _)
 have P:(a.take n).Perm (at_ a j::((a.take n).take j++(a.take n).drop (j+1))):=by
  rw[e];have E:a.take n=(a.take n).take j++(a.take n)[j]::(a.take n).drop (j+1):=by rw[<-cK H,List.take_append_drop]
  exact(List.Perm.of_eq E).trans List.perm_middle
 have c:((a.take n).set j (at_ a n)).Perm (at_ a n::((a.take n).take j++(a.take n).drop (j+1))):=by grind
 exact p.trans ((P.cons _).trans ((List.Perm.swap _ _ _).trans (c.symm.cons _)));have:j=n:=ae
 subst this;have:a.Perm (a.take j++ [at_ a j]):=by rw[<-GK b]
 exact this.trans (List.perm_append_singleton _ _)
def P1(m:a.length=n+1)(d:j<a.length)(c:(keys a).Nodup)(o:a.Perm l):(cut a n j).Perm (gO l (at_ a j).1):=by
 have h:=Jq m d;have e:=by have:=(keys_perm h).nodup_iff.1 c;exact(fT.1 this).1
 have H:=Lh (h.symm.trans o) (at_ a j).1;have b:gO (at_ a j::cut a n j) (at_ a j).1=cut a n j:=by
  have:gO (at_ a j::cut a n j) (at_ a j).1=gO (cut a n j) (at_ a j).1:=by unfold gO;simp
  rw[this,mZ e]
 rw[b]at H;exact H
theorem MB(h:a.length=n+1):(cut a n j).length=n:=by unfold cut;split;grind;grind
theorem tV(b:a.length=n+1)(h:i<n):at_ (cut a n j) i=if i=j then at_ a n else at_ a i:=by
 have H:(a.take n).length=n:=by grind
 unfold cut;split;rw[Lf ae,HV h];rw[HV h,fe]
theorem N4(h:iY a g)(H:a.length=n+1)(p:j<a.length):
  iY (cut a n j) (λk=>if j<n then(if k=(at_ a n).1 then some (.I j)else if k=(at_ a j).1 then none else g k)else if k=(at_ a j).1 then none else g k):=by
 have⟨m,r,o⟩:=h;have d:=keys_perm (Jq H p);refine⟨(fT.1 (d.nodup_iff.1 m)).2,λi b=> ?_,λk c=> ?_⟩;rw[MB H]at b;rw[tV H b];by_cases e:i=j;grind;grind;have s: ∀k,k∉(cut a n j).map (·.1)->k≠(at_ a j).1->g k=none:=λk c u=>by refine o k λq=> ?_;rcases bG.1 (d.mem_iff.1 q)with e|e;grind;exact c e
 by_cases t:j<n;grind;grind
def P3(h:a.length=n+1)(p:j<n)(e:wk (at_ a) a.length):zE (at_ (cut a n j)) n j:=by refine⟨λc H b d o=> ?_,λm c H b d=> ?_⟩;rw[tV h b,tV h ae,af d,af o];exact e c H ae;rw[tV h b,tV h ae,fe,fe];have:=e c H ae;rw[d]at this;exact le_trans (e j m ae) this
def P4(h:a.length=n+1)(e: ¬j<n)(d:wk (at_ a) a.length):wk (at_ (cut a n j)) n:=λc H b=>by rw[tV h b,tV h ae,fe,fe];exact d c H ae
def Li{e:E}(H:(keys (e::l)).Nodup):gO (e::l) e.1=l:=by
 have h:gO (e::l) e.1=gO l e.1:=by unfold gO;simp
 rw[h,mZ (fT.1 H).1]

end
end Go.mj
namespace Go.Den
section
variable {P : Program}
theorem Jr{s x A elem:TypeId}{S bytes:Nat}{z:Value}{h:Heap}{n:Nat}{K:dH}(T:jL P s elem S bytes z)(w:P.underlying x=some (.int .i64))(G:0<n)(B:n*bytes<=70368744177664)(C:n<=4611686018427387904)(o: ∀c b,Own b (Sa h.size 0) 0 c S []->n<=c->Fr (λ_=>False) h b->K (.L (Sa h.size 0) n c) b):
  bu P (Builtin.append_ #[s,x] A #[.Z,.I (n:Int)]) h K:=by
 obtain⟨i,H,rfl,rfl,f⟩:=T.i;have t:=T.zs;refine aZ (bh T.u) ?_;refine aZ (fI H) ?_;refine aZ (bh w) ?_;refine aZ rfl ?_;have u:IntKind.wrap .i64 (n)=(n):=eY;refine aZ (a:=(n:Int)) rfl ?_;rw[fe];refine aZ (eE H) ?_;have D:(n)*(i.bytes)=((n*i.bytes:Nat)):=bO
 rw[af (by grind)];refine aZ (a:=n) (by rw[u];rfl) ?_;show bu P (if 0+n<=0 then _ else _) h K;rw[fe];refine aZ (eE H) ?_;have F:IntKind.max .i64=9223372036854775807:=rfl;rw[fe];refine aZ (eE H) ?_;have p:=nextslicecap_le (need:=0+n) (cap:=0) ae;have q: ¬(Builtin.nextslicecap (0+n) 0*i.bytes>2 ^ 48):=by have d:Builtin.nextslicecap (0+n) 0*i.bytes<=2*(0+n)*i.bytes:=dP _ p;rw[Nat.mul_assoc,aX]at d;rw[aX];omega
 rw[af q];rw[cY];unfold choose;simp only[bu,Question.forced,aV,bQ,Question.cut];intro y;refine aZ (eE H) ?_;rw[cY];have r: ∀(m:Nat)(k:Unit->cM),k () h->bu P (askRoom m) h k:=λm k e=>by unfold askRoom;split;exact e;exact e
 refine r _ _ ?_;refine aZ (iF (.inl rfl) bO) ?_;have R:=gu (h:=h) H f;refine aZ (a:=if n*i.size=0 then #[]else Builtin.zeroCells z.cells n) ?_ ?_;show rd P (if n*i.size=0 then pure #[]else _) h=_;by_cases a:n*i.size=0;rw[ah a,ah a];rfl;rw[af a,af a,ba _ _ _ _ R];rfl;refine aZ (gu H f) ?_;generalize E:0+n+y%(2 ^ 63 - (0+n))=c;have g:n<=c:=ae
 have d: ∀m,(Builtin.zeroCells z.cells m).size=m*i.size:=λm=>by simp[Builtin.zeroCells,t]
 rw[aX];refine o c _ (.row h.size 0 _ elem rfl aU (bg _) ?_ bO (λj v l=>by cases l)) g (Fr.push _ _);rw[Array.size_append,d];have:(#[]++(if n*i.size=0 then #[]else Builtin.zeroCells z.cells n)).size=n*i.size:=by grind
 rw[this,<-fW,aX,show n+(c - n)=c by omega];omega
end
section
variable {d : Type} {lt : d → d → Prop} {X c : List d} {a b i j : Nat}
def jO(lt:d->d->Prop)(X:List d)(a b:Nat):Prop:= ∀(p q:Nat) x y,a<=p->p<q->q<b->X[p]? =some x->X[q]? =some y->lt x y
def jO.pair(h:jO lt X 0 X.length):X.Pairwise lt:=by rw[List.pairwise_iff_getElem];intro i j e H f;exact h i j _ _ (bg _) f H (ai e) (ai H)
def jO.small(h:b<=a+1):jO lt X a b:=λp q _ _ H e f=>ae
structure HW (lt:d->d->Prop) (X c:List d) (a i j:Nat):Prop where
 perm:c.Perm X
 out: ∀k,k<a\/i<k->c[k]? =X[k]?
 so: ∀(p q:Nat) x y,a<=p->p<q->q<=i->p≠j->q≠j->c[p]? =some x->c[q]? =some y->lt x y
 up: ∀(q:Nat) x y,j<q->q<=i->c[j]? =some x->c[q]? =some y->lt x y
def HW.start(h:jO lt X a i):HW lt X X a i i:=
 ⟨.refl _,λ_ _=>rfl,λp q x y H e f _ g=>h p q x y H e ae,λq x y H e=>ae⟩
theorem HW.swap{x y:d}(H:HW lt X c a i j)(s:a<j)(t:j<=i)(r:i<c.length)(z:c[j]? =some x)(B:c[j - 1]? =some y)(w:lt x y):HW lt X (swp c j (j - 1)) a i (j - 1):=by have A: ∀k,(swp c j (j - 1))[k]? =if k=j - 1 then c[j]? else if k=j then c[j - 1]? else c[k]? :=U0 ae ae;refine⟨(PX ae ae).trans H.perm,λk o=> ?_,λp q u v f g l m n e h=> ?_,λq u v f g e h=> ?_⟩;rw[A,fe,fe];exact H.out k o;rw[A,af m]at e;rw[A,af n]at h;by_cases P:p=j;rw[ah P]at e;rw[fe]at h;exact H.so (j - 1) q u v ae ae l ae ae e h;rw[af P]at e;by_cases Q:q=j;rw[ah Q]at h;exact H.so p (j - 1) u v f ae ae P ae e h;rw[af Q]at h;exact H.so p q u v f g l P Q e h;rw[A,ah rfl]at e;rw[A,fe]at h;by_cases Q:q=j;grind;rw[af Q]at h;exact H.up q u v ae g e h
theorem HW.stop(l: ∀{x y z},lt x y->lt y z->lt x z)(H:HW lt X c a i j)(o:a<=j)(r:j<=i)(n:i<c.length)(he:j=a\/∀x y,c[j]? =some x->c[j - 1]? =some y->lt y x):jO lt c a (i+1):=by intro p q u v f g m h e;by_cases P:p=j;subst P;exact H.up q u v g ae h e;by_cases Q:q=j;subst Q;rcases he with he|he;omega;have k:c[q - 1]? =some (c[q - 1]' ae):=ai _;by_cases s:p=q - 1;grind;exact l (H.so p (q - 1) _ _ f ae ae P ae h k) (he _ _ e k);exact H.so p q u v f g ae P Q h e
end
section
variable {b o:Nat}
theorem xZ : ∀(V:List Value)(i:Nat)(h:Heap)(K:cM),cQ (AA b 0) V (o+i) h K->cQ (AA b o) V i h K
 | [],_,_,_,H=>H
 |v::V,i,h,K,H=>by
  unfold cQ at H⊢;cases g:fH v with
  |false=>grind
  |true=>rw[g]at H;rw[hH,aX]at H;rw[hH];have⟨c,d,f⟩:=H;exact⟨c,d,λa e=>xZ V (i+1) a K (f a e)⟩
theorem vu{h:Heap}{c:Array Value}{t:TypeId}{v w:List Value}{K:cM}(a:h[b]? =some (.C c t (0,0)))(k:o+v.length<=c.size)(f:v.all fH=true)(d:c.toList.take o++v++c.toList.drop (o+v.length)=w)(e: ∀H,H[b]? =some (.C w.toArray t (0,0))->H.size=h.size->(∀x,x≠b->H[x]? =h[x]?)->K H):cQ (AA b o) v 0 h K:=by
 refine xZ v 0 h K (tO v (o+0) h c K a ae f λH C B z q r s O=>e H ?_ s O);have:C=w.toArray:=by
  subst d;apply Array.ext';apply List.ext_getElem?;intro j;have m:c.toList.length=c.size:=Array.length_toList;rw[eu];by_cases g:j<o;grind;by_cases i:j<o+v.length;grind;have l:(c.toList.take o++v).length=o+v.length:=by grind
  rw[dC ae,l,fj,eu,show o+v.length+(j - (o+v.length))=j by omega];exact q j ae
 rw[<-this];exact B

end
section
variable {P : Program}
def P6{t elem:TypeId}{bytes:Nat}{z b:Value}{h:Heap}{K:dH}(T:jL P t elem 1 bytes z)(D:z.cells= #[b])(n:Nat)(G:n*bytes<=70368744177664)(I:n<=9223372036854775807)(w: ∀H p,Own H p n n 1 (List.replicate n b)->Fr (λ_=>False) h H->(∀c,aN p c->h.size<=c)->K (.L p n n) H):
  bu P (Instr.makeSlice t (.I (n:Int)) (.I (n:Int))) h K:=by
 obtain⟨i,f,B,rfl,q⟩:=T.i;unfold Instr.makeSlice;refine aZ (s:=underlying t) (bh T.u) ?_;refine aZ (s:=asInt (.I (n:Int))) (a:=(n:Int)) rfl ?_;refine aZ (s:=asInt (.I (n:Int))) (a:=(n:Int)) rfl ?_;refine aZ (s:=typeInfo elem) (eE f) ?_;simp only[];rw[df (n:=(n:Int)) ae ae];have y:(i.bytes:Int)*(n:Int)=((n*i.bytes:Nat):Int):=by rw[Nat.mul_comm];simp
 have x:(decide ((n:Int)<0)||decide ((i.bytes:Int)*(n:Int)>2 ^ 48))=false:=by
  rw[y];have r: ¬(n:Int)<0:=ae
  have s: ¬((n*i.bytes:Nat):Int)>2 ^ 48:=ae
  rw[aA r,aA s];rfl
 have u:(((decide ((n:Int)<0)||decide ((i.bytes:Int)*(n:Int)>2 ^ 48))||decide ((n:Int)<0))||decide ((n:Int)>(n:Int)))=false:=by rw[x];simp
 rw[af (by rw[u];simp)];have A: ∀(m:Nat)(k:Unit->cM),k () h->bu P (askRoom m) h k:=λm k o=>by unfold askRoom;split;exact o;exact o
 rw[cY];refine A _ _ ?_;refine aZ (s:=sizeOf elem) (fI f) ?_;rw[aG,B,bJ];have F: ∀Z:Array Value,(n=0\/Z= #[b])->bu P (newRow elem ((Array.range n).map (Z[· %Z.size]!))>>=λa=>pure (.L (some a) n n)) h K:=by
  intro Z E;show K (.L (Sa h.size 0) n n) (h.push (.C ((Array.range n).map (Z[· %Z.size]!)) elem));refine w _ _ (.row h.size 0 _ elem rfl aU (bf _) bO bO ?_) (Fr.push _ _) ?_;intro j v g;have l:j<n:=by have:=(aS.1 g).1;simpa using this
  have C:v=b:=by rw[List.getElem?_replicate,ah l]at g;exact(bL g).symm
  subst C;rcases E with q|rfl;omega;rw[aX];simp[l,Nat.mod_one];rintro c ⟨a,e,rfl⟩;cases e;exact bf _
 by_cases d:n=0;rw[ah d];exact F #[] (.inl d);rw[af d];refine aZ (s:=zeroValue elem) (gu f q) ?_;refine aZ (s:=(pure z.cells:Sem (Array Value))) (a:=z.cells) rfl ?_;rw[D];exact F #[b] (.inr rfl)
end
end Go.Den
namespace Go.Fields
structure RD where
 id:Nat
 err:Int
 num:Int
 count:Int
 token:Nat
 b:cO
def RD.Dp(x:RD):Prop:=x.id<=1099511627776/\(0<=x.err/\x.err<=99)/\(0<=x.num/\x.num<=1099511627776)/\(0<=x.count/\x.count<=1099511627776)/\x.token<=2147483648/\x.b.length<=600/\(x.err≠0->x.num=0/\x.count=0/\x.token=0/\x.b= [])
instance (x : RD) : Decidable x.Dp := by unfold RD.Dp; infer_instance
def RD.same(x y:RD):Prop:=x.id=y.id/\x.err=y.err/\x.num=y.num/\x.count=y.count/\x.token=y.token/\x.b=y.b
instance (x y : RD) : Decidable (x.same y) := by unfold RD.same; infer_instance
def RD.enc(x:RD):cO:=bU x.id++bU (gv x.err)++bU (gv x.num)++bU (gv x.count)++bU x.token++dF x.b
def mD{x:RD}(h:x.b.length<=600):x.enc.length<=700:=by have a:=(bF x.id).2;have A:=(bF (gv x.err)).2;have b:=(bF (gv x.num)).2;have c:=(bF (gv x.count)).2;have d:=(bF x.token).2;have e:=(bF x.b.length).2;unfold RD.enc dF;simp only[ak];omega

end Go.Fields
namespace Go.Proofs.YticlajoleibdnaaGreatDoor
open Go.Den
open IntKind (wrap)
open Int (toNat)
abbrev Cl:=jS Tryz.prog
abbrev ij{a : Type}:= @bu Tryz.prog a
abbrev Pk := xK Tryz.prog
abbrev Lj := NB Tryz.prog
abbrev Ce:=iX Tryz.prog
abbrev Lk:List Nat:= [323,381,382,383,384,456]
abbrev cu.LD(h:Heap)(a:Addr)(K:bH->Nat->Nat->bH->Nat->Nat->bH->Nat->Nat->bH->Nat->fZ):Prop:=oM h a λe d c=>oM h (a.add 1) λi g f=>oM h (a.add 2) λl k j=> ∃b T t,aQ h (a.add 3)=some (.slice b T t)/\K e d c i g f l k j b T t
abbrev cu.ST(h:Heap)(a:Addr)(b:bH)(F f:Nat)(e:bH)(d c:Nat)(j:bH)(i g:Nat)(m:bH)(l k:Nat)(K:cM):Prop:=aI h a (.slice b F f) λH=>aI H (a.add 1) (.slice e d c) λn=>aI n (a.add 2) (.slice j i g) λo=>aI o (a.add 3) (.slice m l k) λp=>K p
abbrev aa.LD(h:Heap)(a:Addr)(K:Int->Int->bH->Nat->Nat->bH->Nat->fZ):Prop:=iw h a λc=>fM h (a.add 1) λd=>oM h (a.add 2) λg f e=> ∃b T t,aQ h (a.add 3)=some (.slice b T t)/\K c d g f e b T t
abbrev aa.ST(h:Heap)(a:Addr)(f:Int)(F:Int)(d:bH)(c b:Nat)(i:bH)(g e:Nat)(K:cM):Prop:=aI h a (.int .i64 f) λH=>aI H (a.add 1) (.int .u64 F) λj=>aI j (a.add 2) (.slice d c b) λk=>aI k (a.add 3) (.slice i g e) λl=>K l
abbrev aw.LD(h:Heap)(a:Addr)(K:Bool->Int->Int->bC->bC->Prop):Prop:=wj h a λT=>fM h (a.add 1) λb=>fM h (a.add 2) λc=>jZ h (a.add 3) λd=> ∃t,aQ h (a.add 4)=some (.string t)/\K T b c d t
abbrev bp.LD(h:Heap)(a:Addr)(K:Int->Int->Bool->Prop):Prop:=iw h a λT=>fM h (a.add 1) λb=> ∃t,aQ h (a.add 2)=some (.bool t)/\K T b t
abbrev bp.ST(h:Heap)(a:Addr)(f:Int)(F:Int)(b:Bool)(K:cM):Prop:=aI h a (.int .i64 f) λH=>aI H (a.add 1) (.int .u64 F) λc=>aI c (a.add 2) (.bool b) λd=>K d
abbrev aB.LD(h:Heap)(a:Addr)(K:Bool->Int->Int->bC->bC->Int->Int->Prop):Prop:=wj h a λT=>fM h (a.add 1) λb=>fM h (a.add 2) λc=>jZ h (a.add 3) λd=>jZ h (a.add 4) λe=>fM h (a.add 5) λf=> ∃t,aQ h (a.add 6)=some (.int .u64 t)/\K T b c d e f t
abbrev aB.ST(h:Heap)(a:Addr)(f:Bool)(F:Int)(b:Int)(c:bC)(d:bC)(e:Int)(g:Int)(K:cM):Prop:=aI h a (.bool f) λH=>aI H (a.add 1) (.int .u64 F) λi=>aI i (a.add 2) (.int .u64 b) λj=>aI j (a.add 3) (.string c) λk=>aI k (a.add 4) (.string d) λl=>aI l (a.add 5) (.int .u64 e) λm=>aI m (a.add 6) (.int .u64 g) λn=>K n
abbrev aR.LD(h:Heap)(a:Addr)(K:Int->Int->bH->Nat->Nat->Int->Prop):Prop:=iw h a λT=>iw h (a.add 1) λb=>oM h (a.add 2) λe d c=> ∃t,aQ h (a.add 3)=some (.int .u64 t)/\K T b e d c t
abbrev aR.ST(h:Heap)(a:Addr)(f:Int)(F:Int)(d:bH)(c b:Nat)(e:Int)(K:cM):Prop:=aI h a (.int .i64 f) λH=>aI H (a.add 1) (.int .i64 F) λg=>aI g (a.add 2) (.slice d c b) λi=>aI i (a.add 3) (.int .u64 e) λj=>K j
abbrev bX.LD(h:Heap)(a:Addr)(K:Bool->Int->Int->bC->bC->Int->Int->Prop):Prop:=wj h a λT=>fM h (a.add 1) λb=>fM h (a.add 2) λc=>jZ h (a.add 3) λd=>jZ h (a.add 4) λe=>iw h (a.add 5) λf=> ∃t,aQ h (a.add 6)=some (.int .i64 t)/\K T b c d e f t
abbrev bX.ST(h:Heap)(a:Addr)(f:Bool)(F:Int)(b:Int)(c:bC)(d:bC)(e:Int)(g:Int)(K:cM):Prop:=aI h a (.bool f) λH=>aI H (a.add 1) (.int .u64 F) λi=>aI i (a.add 2) (.int .u64 b) λj=>aI j (a.add 3) (.string c) λk=>aI k (a.add 4) (.string d) λl=>aI l (a.add 5) (.int .i64 e) λm=>aI m (a.add 6) (.int .i64 g) λn=>K n
abbrev ag.LD(h:Heap)(a:Addr)(K:Int->Int->Int->Int->Int->bH->Nat->fZ):Prop:=fM h a λc=>iw h (a.add 1) λd=>iw h (a.add 2) λe=>iw h (a.add 3) λf=>fM h (a.add 4) λg=> ∃b T t,aQ h (a.add 5)=some (.slice b T t)/\K c d e f g b T t
abbrev ag.ST(h:Heap)(a:Addr)(f:Int)(F:Int)(b:Int)(c:Int)(d:Int)(i:bH)(g e:Nat)(K:cM):Prop:=aI h a (.int .u64 f) λH=>aI H (a.add 1) (.int .i64 F) λj=>aI j (a.add 2) (.int .i64 b) λk=>aI k (a.add 3) (.int .i64 c) λl=>aI l (a.add 4) (.int .u64 d) λm=>aI m (a.add 5) (.slice i g e) λn=>K n
abbrev dL.LD(h:Heap)(a:Addr)(K:Int->bH->Nat->fZ):Prop:=fM h a λc=> ∃b T t,aQ h (a.add 1)=some (.slice b T t)/\K c b T t
abbrev dL.ST(h:Heap)(a:Addr)(f:Int)(c:bH)(b F:Nat)(K:cM):Prop:=aI h a (.int .u64 f) λH=>aI H (a.add 1) (.slice c b F) λd=>K d
abbrev cg.LD(h:Heap)(a:Addr)(K:Int->Int->Bool->Bool->bH->Nat->Nat->bH->Nat->fZ):Prop:=iw h a λc=>fM h (a.add 1) λd=>wj h (a.add 2) λe=>wj h (a.add 3) λf=>oM h (a.add 4) λj i g=> ∃b T t,aQ h (a.add 5)=some (.slice b T t)/\K c d e f j i g b T t
abbrev cg.ST(h:Heap)(a:Addr)(f:Int)(F:Int)(b:Bool)(c:Bool)(g:bH)(e d:Nat)(k:bH)(j i:Nat)(K:cM):Prop:=aI h a (.int .i64 f) λH=>aI H (a.add 1) (.int .u64 F) λl=>aI l (a.add 2) (.bool b) λm=>aI m (a.add 3) (.bool c) λn=>aI n (a.add 4) (.slice g e d) λo=>aI o (a.add 5) (.slice k j i) λp=>K p
structure aO.S where
 f0:Int
 f1:Int
abbrev aO.S.l(x:aO.S):List Value:= [.int .i64 x.f0,.int .i64 x.f1]
abbrev aO.S.arr(x:aO.S):Array Value:=x.l.toArray
abbrev aO.S.agg(x:aO.S):Value:=.agg x.arr
abbrev aO.S.z:aO.S:=⟨0,0⟩ abbrev aO.NW (h:Heap) (K:Nat->cM):Prop:=aT h (.cells aO.S.z.arr 334) K
abbrev aO.EX(K:aO.S->Prop):Prop:= ∃t T,K ⟨t,T⟩
abbrev aO.ck(h:Heap)(a:Addr)(K:aO.S->Prop):Prop:=iw h a λT=> ∃t,aQ h (a.add 1)=some (.int .i64 t)/\K ⟨T,t⟩
abbrev aO.cR(h:Heap)(a:Addr)(x:aO.S)(K:cM):Prop:=cQ a x.l 0 h K
structure cJ.S where
 f0:Int
 f1:Int
 f2:Bool
 f3:Int
 f4:Int
 f5:bC
 f6:bC
 f7:Bool
 f8:Int
 f9:Int
 f10:bC
 f11:bC
 f12:Bool
 f13:Int
 f14:Int
 f15:bC
 f16:bC
 f17:Int
 f18:Int
 f19:Int
 Sz:bH
 P7:Nat
 SA:Nat
 f21:bH
 XH:bH
 XI:Nat
 XK:Nat
abbrev cJ.S.l(x:cJ.S):List Value:= [.int .u64 x.f0,.int .i64 x.f1,.bool x.f2,.int .u64 x.f3,.int .u64 x.f4,.string x.f5,.string x.f6,.bool x.f7,.int .u64 x.f8,.int .u64 x.f9,.string x.f10,.string x.f11,.bool x.f12,.int .u64 x.f13,.int .u64 x.f14,.string x.f15,.string x.f16,.int .u64 x.f17,.int .u64 x.f18,.int .u64 x.f19,.slice x.Sz x.P7 x.SA,.pointer x.f21,.slice x.XH x.XI x.XK]
abbrev cJ.S.arr(x:cJ.S):Array Value:=x.l.toArray
abbrev cJ.S.agg(x:cJ.S):Value:=.agg x.arr
abbrev cJ.S.z:cJ.S:=⟨0,0,false,0,0,(⟨#[]⟩:bC),(⟨#[]⟩:bC),false,0,0,(⟨#[]⟩:bC),(⟨#[]⟩:bC),false,0,0,(⟨#[]⟩:bC),(⟨#[]⟩:bC),0,0,0,none,0,0,none,none,0,0⟩ abbrev cJ.NW (h:Heap) (K:Nat->cM):Prop:=aT h (.cells cJ.S.z.arr 526) K
abbrev cJ.EX(K:cJ.S->Prop):Prop:= ∃t T k s u v w x y z a b c d e f g h i j n m l o r q p,K ⟨t,T,k,s,u,v,w,x,y,z,a,b,c,d,e,f,g,h,i,j,n,m,l,o,r,q,p⟩
abbrev cJ.ck(h:Heap)(a:Addr)(K:cJ.S->Prop):Prop:=fM h a λc=>iw h (a.add 1) λd=>wj h (a.add 2) λp=>fM h (a.add 3) λv=>fM h (a.add 4) λw=>jZ h (a.add 5) λx=>jZ h (a.add 6) λy=>wj h (a.add 7) λz=>fM h (a.add 8) λA=>fM h (a.add 9) λB=>jZ h (a.add 10) λe=>jZ h (a.add 11) λf=>wj h (a.add 12) λg=>fM h (a.add 13) λi=>fM h (a.add 14) λj=>jZ h (a.add 15) λk=>jZ h (a.add 16) λl=>fM h (a.add 17) λm=>fM h (a.add 18) λn=>fM h (a.add 19) λo=>oM h (a.add 20) λs r q=>UX h (a.add 21) λu=> ∃b T t,aQ h (a.add 22)=some (.slice b T t)/\K ⟨c,d,p,v,w,x,y,z,A,B,e,f,g,i,j,k,l,m,n,o,s,r,q,u,b,T,t⟩
structure gz.S where
 f0:Int
 f1:Int
 f2:Bool
 f3:Int
 f4:Int
 f5:bC
 f6:bC
 f7:Bool
 f8:Int
 f9:Int
 f10:bC
 f11:bC
 f12:Int
 f13:Int
 f14:Int
 SB:bH
 SD:Nat
 SE:Nat
 f16:Int
 f17:Int
 f18:Bool
 f19:bH
 f20:Int
abbrev gz.S.l(x:gz.S):List Value:= [.int .u64 x.f0,.int .i64 x.f1,.bool x.f2,.int .u64 x.f3,.int .u64 x.f4,.string x.f5,.string x.f6,.bool x.f7,.int .u64 x.f8,.int .u64 x.f9,.string x.f10,.string x.f11,.int .i64 x.f12,.int .i64 x.f13,.int .i64 x.f14,.slice x.SB x.SD x.SE,.int .u64 x.f16,.int .u64 x.f17,.bool x.f18,.pointer x.f19,.int .i64 x.f20]
abbrev gz.S.arr(x:gz.S):Array Value:=x.l.toArray
abbrev gz.S.agg(x:gz.S):Value:=.agg x.arr
abbrev gz.S.z:gz.S:=⟨0,0,false,0,0,(⟨#[]⟩:bC),(⟨#[]⟩:bC),false,0,0,(⟨#[]⟩:bC),(⟨#[]⟩:bC),0,0,0,none,0,0,0,0,false,none,0⟩ abbrev gz.NW (h:Heap) (K:Nat->cM):Prop:=aT h (.cells gz.S.z.arr 522) K
abbrev gz.EX(K:gz.S->Prop):Prop:= ∃t T m o p q r s u v a b c d e h g f i j k l n,K ⟨t,T,m,o,p,q,r,s,u,v,a,b,c,d,e,h,g,f,i,j,k,l,n⟩
structure fP.S where
 f0:Bool
 f1:Bool
 f2:Int
 f3:Int
 f4:Int
 f5:Int
 f6:Int
 f7:Int
abbrev fP.S.l(x:fP.S):List Value:= [.bool x.f0,.bool x.f1,.int .i64 x.f2,.int .i64 x.f3,.int .i64 x.f4,.int .i64 x.f5,.int .i64 x.f6,.int .i64 x.f7]
abbrev fP.S.arr(x:fP.S):Array Value:=x.l.toArray
abbrev fP.S.agg(x:fP.S):Value:=.agg x.arr
abbrev fP.S.z:fP.S:=⟨false,false,0,0,0,0,0,0⟩ abbrev fP.NW (h:Heap) (K:Nat->cM):Prop:=aT h (.cells fP.S.z.arr 36) K
abbrev fP.EX(K:fP.S->Prop):Prop:= ∃t T a b c d e f,K ⟨t,T,a,b,c,d,e,f⟩
structure az.S where
 f0:Int
 f1:Int
 f2:Bool
 f3:Int
 f4:Int
 f5:bC
 f6:bC
 f7:Bool
 f8:Int
 f9:Int
 f10:bC
 f11:bC
 f12:Bool
 f13:Int
 f14:Int
 f15:bC
 f16:bC
 f17:Int
 f18:Int
 f19:Int
 Sz:bH
 P7:Nat
 SA:Nat
abbrev az.S.l(x:az.S):List Value:= [.int .u64 x.f0,.int .i64 x.f1,.bool x.f2,.int .u64 x.f3,.int .u64 x.f4,.string x.f5,.string x.f6,.bool x.f7,.int .u64 x.f8,.int .u64 x.f9,.string x.f10,.string x.f11,.bool x.f12,.int .u64 x.f13,.int .u64 x.f14,.string x.f15,.string x.f16,.int .u64 x.f17,.int .u64 x.f18,.int .u64 x.f19,.slice x.Sz x.P7 x.SA]
abbrev az.S.arr(x:az.S):Array Value:=x.l.toArray
abbrev az.S.agg(x:az.S):Value:=.agg x.arr
abbrev az.S.z:az.S:=⟨0,0,false,0,0,(⟨#[]⟩:bC),(⟨#[]⟩:bC),false,0,0,(⟨#[]⟩:bC),(⟨#[]⟩:bC),false,0,0,(⟨#[]⟩:bC),(⟨#[]⟩:bC),0,0,0,none,0,0⟩ abbrev az.NW (h:Heap) (K:Nat->cM):Prop:=aT h (.cells az.S.z.arr 277) K
abbrev az.EX(K:az.S->Prop):Prop:= ∃t T k o p q r s u v a b c d e f g h i j n m l,K ⟨t,T,k,o,p,q,r,s,u,v,a,b,c,d,e,f,g,h,i,j,n,m,l⟩
abbrev az.ck(h:Heap)(a:Addr)(K:az.S->Prop):Prop:=fM h a λc=>iw h (a.add 1) λd=>wj h (a.add 2) λp=>fM h (a.add 3) λq=>fM h (a.add 4) λr=>jZ h (a.add 5) λs=>jZ h (a.add 6) λu=>wj h (a.add 7) λv=>fM h (a.add 8) λw=>fM h (a.add 9) λx=>jZ h (a.add 10) λe=>jZ h (a.add 11) λf=>wj h (a.add 12) λg=>fM h (a.add 13) λi=>fM h (a.add 14) λj=>jZ h (a.add 15) λk=>jZ h (a.add 16) λl=>fM h (a.add 17) λm=>fM h (a.add 18) λn=>fM h (a.add 19) λo=> ∃b T t,aQ h (a.add 20)=some (.slice b T t)/\K ⟨c,d,p,q,r,s,u,v,w,x,e,f,g,i,j,k,l,m,n,o,b,T,t⟩
abbrev az.cR(h:Heap)(a:Addr)(x:az.S)(K:cM):Prop:=cQ a x.l 0 h K
structure aK.S where
 f0:Int
 f1:Int
 f2:Int
 f3:Int
 N5:bH
 N7:Nat
 N8:Nat
abbrev aK.S.l(x:aK.S):List Value:= [.int .u64 x.f0,.int .u64 x.f1,.int .u64 x.f2,.int .i64 x.f3,.slice x.N5 x.N7 x.N8]
abbrev aK.S.arr(x:aK.S):Array Value:=x.l.toArray
abbrev aK.S.agg(x:aK.S):Value:=.agg x.arr
abbrev aK.S.z:aK.S:=⟨0,0,0,0,none,0,0⟩ abbrev aK.NW (h:Heap) (K:Nat->cM):Prop:=aT h (.cells aK.S.z.arr 374) K
abbrev aK.EX(K:aK.S->Prop):Prop:= ∃t T a b e d c,K ⟨t,T,a,b,e,d,c⟩
abbrev aK.ck(h:Heap)(a:Addr)(K:aK.S->Prop):Prop:=fM h a λc=>fM h (a.add 1) λd=>fM h (a.add 2) λe=>iw h (a.add 3) λf=> ∃b T t,aQ h (a.add 4)=some (.slice b T t)/\K ⟨c,d,e,f,b,T,t⟩
abbrev aK.cR(h:Heap)(a:Addr)(x:aK.S)(K:cM):Prop:=cQ a x.l 0 h K
structure aa.S where
 f0:Int
 f1:Int
 Sc:bH
 SF:Nat
 Ui:Nat
 Pl:bH
 Fw:Nat
 Ll:Nat
abbrev aa.S.l(x:aa.S):List Value:= [.int .i64 x.f0,.int .u64 x.f1,.slice x.Sc x.SF x.Ui,.slice x.Pl x.Fw x.Ll]
abbrev aa.S.arr(x:aa.S):Array Value:=x.l.toArray
abbrev aa.S.agg(x:aa.S):Value:=.agg x.arr
abbrev aa.S.z:aa.S:=⟨0,0,none,0,0,none,0,0⟩ abbrev aa.NW (h:Heap) (K:Nat->cM):Prop:=aT h (.cells aa.S.z.arr 368) K
abbrev aa.EX(K:aa.S->Prop):Prop:= ∃t T c b a f e d,K ⟨t,T,c,b,a,f,e,d⟩
abbrev aa.ck(h:Heap)(a:Addr)(K:aa.S->Prop):Prop:=iw h a λc=>fM h (a.add 1) λd=>oM h (a.add 2) λg f e=> ∃b T t,aQ h (a.add 3)=some (.slice b T t)/\K ⟨c,d,g,f,e,b,T,t⟩
abbrev aa.cR(h:Heap)(a:Addr)(x:aa.S)(K:cM):Prop:=cQ a x.l 0 h K
structure gB.S where
 f0:bH
 GL:bH
 MC:Nat
 vw:Nat
 f2:Int
 Pl:bH
 Fw:Nat
 Ll:Nat
 f4:Int
abbrev gB.S.l(x:gB.S):List Value:= [.pointer x.f0,.slice x.GL x.MC x.vw,.int .i64 x.f2,.slice x.Pl x.Fw x.Ll,.int .i64 x.f4]
abbrev gB.S.arr(x:gB.S):Array Value:=x.l.toArray
abbrev gB.S.agg(x:gB.S):Value:=.agg x.arr
abbrev gB.S.z:gB.S:=⟨none,none,0,0,0,none,0,0,0⟩ abbrev gB.NW (h:Heap) (K:Nat->cM):Prop:=aT h (.cells gB.S.z.arr 353) K
abbrev gB.EX(K:gB.S->Prop):Prop:= ∃t b a T c f e d g,K ⟨t,b,a,T,c,f,e,d,g⟩
structure eL.S where
 f0:Int
 f1:Bool
 f2:Int
 f3:Int
 f4:bC
 f5:bC
 Y5:bH
 Y6:Nat
 Y7:Nat
 f7:Int
 f8:Int
 f9:Int
abbrev eL.S.l(x:eL.S):List Value:= [.int .i64 x.f0,.bool x.f1,.int .u64 x.f2,.int .u64 x.f3,.string x.f4,.string x.f5,.slice x.Y5 x.Y6 x.Y7,.int .u64 x.f7,.int .i64 x.f8,.int .u64 x.f9]
abbrev eL.S.arr(x:eL.S):Array Value:=x.l.toArray
abbrev eL.S.agg(x:eL.S):Value:=.agg x.arr
abbrev eL.S.z:eL.S:=⟨0,false,0,0,(⟨#[]⟩:bC),(⟨#[]⟩:bC),none,0,0,0,0,0⟩ abbrev eL.NW (h:Heap) (K:Nat->cM):Prop:=aT h (.cells eL.S.z.arr 560) K
abbrev eL.EX(K:eL.S->Prop):Prop:= ∃t T a b c d g f e h i j,K ⟨t,T,a,b,c,d,g,f,e,h,i,j⟩
structure ee.S where
 f0:bH
 f1:Option Nat
 f2:Int
 f3:bH
 f4:Int
abbrev ee.S.l(x:ee.S):List Value:= [.pointer x.f0,.map x.f1,.int .i64 x.f2,.pointer x.f3,.int .u64 x.f4]
abbrev ee.S.arr(x:ee.S):Array Value:=x.l.toArray
abbrev ee.S.agg(x:ee.S):Value:=.agg x.arr
abbrev ee.S.z:ee.S:=⟨none,none,0,none,0⟩ abbrev ee.NW (h:Heap) (K:Nat->cM):Prop:=aT h (.cells ee.S.z.arr 249) K
abbrev ee.EX(K:ee.S->Prop):Prop:= ∃t T a b c,K ⟨t,T,a,b,c⟩
structure ao.S where
 f0:Int
 f1:Int
 f2:Int
 f3:Bool
 f4:Int
 f5:Int
 f6:bC
 f7:bC
 f8:Bool
 f9:Int
 f10:Int
 f11:bC
 f12:bC
 f13:Int
 f14:Int
 f15:Int
 XL:bH
 XM:Nat
 XN:Nat
 f17:Int
 f18:Int
 f19:Bool
 f20:Int
 f21:Int
 f22:Int
 f23:Int
 f24:Int
 f25:Int
 f26:Bool
 f27:Int
 f28:Int
 f29:bC
 f30:bC
 f31:Bool
 f32:Int
 f33:Int
 f34:bC
 f35:bC
 f36:Int
 f37:Int
 f38:Int
 XO:bH
 XP:Nat
 XQ:Nat
 f40:Int
 f41:Int
 f42:Bool
 XR:bH
 XT:Nat
 XU:Nat
 f44:Int
 f45:Int
 f46:Int
 f47:Int
 f48:Int
 XV:bH
 XW:Nat
 XX:Nat
 f50:Int
abbrev ao.S.l(x:ao.S):List Value:= [.int .i64 x.f0,.int .u64 x.f1,.int .i64 x.f2,.bool x.f3,.int .u64 x.f4,.int .u64 x.f5,.string x.f6,.string x.f7,.bool x.f8,.int .u64 x.f9,.int .u64 x.f10,.string x.f11,.string x.f12,.int .i64 x.f13,.int .i64 x.f14,.int .i64 x.f15,.slice x.XL x.XM x.XN,.int .u64 x.f17,.int .u64 x.f18,.bool x.f19,.int .u64 x.f20,.int .i64 x.f21,.int .u64 x.f22,.int .i64 x.f23,.int .u64 x.f24,.int .i64 x.f25,.bool x.f26,.int .u64 x.f27,.int .u64 x.f28,.string x.f29,.string x.f30,.bool x.f31,.int .u64 x.f32,.int .u64 x.f33,.string x.f34,.string x.f35,.int .i64 x.f36,.int .i64 x.f37,.int .i64 x.f38,.slice x.XO x.XP x.XQ,.int .u64 x.f40,.int .u64 x.f41,.bool x.f42,.slice x.XR x.XT x.XU,.int .u64 x.f44,.int .i64 x.f45,.int .i64 x.f46,.int .i64 x.f47,.int .u64 x.f48,.slice x.XV x.XW x.XX,.int .i64 x.f50]
abbrev ao.S.arr(x:ao.S):Array Value:=x.l.toArray
abbrev ao.S.agg(x:ao.S):Value:=.agg x.arr
abbrev ao.S.z:ao.S:=⟨0,0,0,false,0,0,(⟨#[]⟩:bC),(⟨#[]⟩:bC),false,0,0,(⟨#[]⟩:bC),(⟨#[]⟩:bC),0,0,0,none,0,0,0,0,false,0,0,0,0,0,0,false,0,0,(⟨#[]⟩:bC),(⟨#[]⟩:bC),false,0,0,(⟨#[]⟩:bC),(⟨#[]⟩:bC),0,0,0,none,0,0,0,0,false,none,0,0,0,0,0,0,0,none,0,0,0⟩ abbrev ao.NW (h:Heap) (K:Nat->cM):Prop:=aT h (.cells ao.S.z.arr 189) K
abbrev ao.EX(K:ao.S->Prop):Prop:= ∃t T m y M t5 t6 t7 t8 t9 a b c d e f i h g j k l n o p q r s u v w x z A B C D E F G H L J I O P Q U S R V X Z a' b' e' d' c' f',K ⟨t,T,m,y,M,t5,t6,t7,t8,t9,a,b,c,d,e,f,i,h,g,j,k,l,n,o,p,q,r,s,u,v,w,x,z,A,B,C,D,E,F,G,H,L,J,I,O,P,Q,U,S,R,V,X,Z,a',b',e',d',c',f'⟩
abbrev ao.ck(h:Heap)(a:Addr)(K:ao.S->Prop):Prop:=iw h a λT=>fM h (a.add 1) λb=>iw h (a.add 2) λp=>wj h (a.add 3) λB=>fM h (a.add 4) λQ=>fM h (a.add 5) λt5=>jZ h (a.add 6) λt6=>jZ h (a.add 7) λt7=>wj h (a.add 8) λt8=>fM h (a.add 9) λt9=>fM h (a.add 10) λc=>jZ h (a.add 11) λd=>jZ h (a.add 12) λe=>iw h (a.add 13) λf=>iw h (a.add 14) λg=>iw h (a.add 15) λi=>oM h (a.add 16) λl k j=>fM h (a.add 17) λm=>fM h (a.add 18) λn=>wj h (a.add 19) λo=>fM h (a.add 20) λq=>iw h (a.add 21) λr=>fM h (a.add 22) λs=>iw h (a.add 23) λu=>fM h (a.add 24) λv=>iw h (a.add 25) λw=>wj h (a.add 26) λx=>fM h (a.add 27) λy=>fM h (a.add 28) λz=>jZ h (a.add 29) λA=>jZ h (a.add 30) λC=>wj h (a.add 31) λD=>fM h (a.add 32) λE=>fM h (a.add 33) λF=>jZ h (a.add 34) λG=>jZ h (a.add 35) λH=>iw h (a.add 36) λI=>iw h (a.add 37) λJ=>iw h (a.add 38) λL=>oM h (a.add 39) λP O M=>fM h (a.add 40) λR=>fM h (a.add 41) λS=>wj h (a.add 42) λU=>oM h (a.add 43) λZ X V=>fM h (a.add 44) λa'=>iw h (a.add 45) λb'=>iw h (a.add 46) λc'=>iw h (a.add 47) λd'=>fM h (a.add 48) λe'=>oM h (a.add 49) λh' g' f'=> ∃t,aQ h (a.add 50)=some (.int .i64 t)/\K ⟨T,b,p,B,Q,t5,t6,t7,t8,t9,c,d,e,f,g,i,l,k,j,m,n,o,q,r,s,u,v,w,x,y,z,A,C,D,E,F,G,H,I,J,L,P,O,M,R,S,U,Z,X,V,a',b',c',d',e',h',g',f',t⟩
abbrev ao.cR(h:Heap)(a:Addr)(x:ao.S)(K:cM):Prop:=cQ a x.l 0 h K
structure bk.S where
 f0:bC
 GL:bH
 MC:Nat
 vw:Nat
 Sc:bH
 SF:Nat
 Ui:Nat
 Pl:bH
 Fw:Nat
 Ll:Nat
abbrev bk.S.l(x:bk.S):List Value:= [.string x.f0,.slice x.GL x.MC x.vw,.slice x.Sc x.SF x.Ui,.slice x.Pl x.Fw x.Ll]
abbrev bk.S.arr(x:bk.S):Array Value:=x.l.toArray
abbrev bk.S.agg(x:bk.S):Value:=.agg x.arr
abbrev bk.S.z:bk.S:=⟨(⟨#[]⟩:bC),none,0,0,none,0,0,none,0,0⟩ abbrev bk.NW (h:Heap) (K:Nat->cM):Prop:=aT h (.cells bk.S.z.arr 72) K
abbrev bk.EX(K:bk.S->Prop):Prop:= ∃t b a T e d c h g f,K ⟨t,b,a,T,e,d,c,h,g,f⟩
abbrev bk.ck(h:Heap)(a:Addr)(K:bk.S->Prop):Prop:=jZ h a λc=>oM h (a.add 1) λf e d=>oM h (a.add 2) λj i g=> ∃b T t,aQ h (a.add 3)=some (.slice b T t)/\K ⟨c,f,e,d,j,i,g,b,T,t⟩
abbrev bk.cR(h:Heap)(a:Addr)(x:bk.S)(K:cM):Prop:=cQ a x.l 0 h K
structure eA.S where
 Lm:bH
 Ln:Nat
 Lo:Nat
 GL:bH
 MC:Nat
 vw:Nat
 f2:Int
 f3:Int
abbrev eA.S.l(x:eA.S):List Value:= [.slice x.Lm x.Ln x.Lo,.slice x.GL x.MC x.vw,.int .i64 x.f2,.int .i64 x.f3]
abbrev eA.S.arr(x:eA.S):Array Value:=x.l.toArray
abbrev eA.S.agg(x:eA.S):Value:=.agg x.arr
abbrev eA.S.z:eA.S:=⟨none,0,0,none,0,0,0,0⟩ abbrev eA.NW (h:Heap) (K:Nat->cM):Prop:=aT h (.cells eA.S.z.arr 148) K
abbrev eA.EX(K:eA.S->Prop):Prop:= ∃a T t d c b e f,K ⟨a,T,t,d,c,b,e,f⟩
structure aw.S where
 f0:Bool
 f1:Int
 f2:Int
 f3:bC
 f4:bC
abbrev aw.S.l(x:aw.S):List Value:= [.bool x.f0,.int .u64 x.f1,.int .u64 x.f2,.string x.f3,.string x.f4]
abbrev aw.S.arr(x:aw.S):Array Value:=x.l.toArray
abbrev aw.S.agg(x:aw.S):Value:=.agg x.arr
abbrev aw.S.z:aw.S:=⟨false,0,0,(⟨#[]⟩:bC),(⟨#[]⟩:bC)⟩ abbrev aw.NW (h:Heap) (K:Nat->cM):Prop:=aT h (.cells aw.S.z.arr 64) K
abbrev aw.EX(K:aw.S->Prop):Prop:= ∃t T a b c,K ⟨t,T,a,b,c⟩
abbrev aw.ck(h:Heap)(a:Addr)(K:aw.S->Prop):Prop:=wj h a λT=>fM h (a.add 1) λb=>fM h (a.add 2) λc=>jZ h (a.add 3) λd=> ∃t,aQ h (a.add 4)=some (.string t)/\K ⟨T,b,c,d,t⟩
abbrev aw.cR(h:Heap)(a:Addr)(x:aw.S)(K:cM):Prop:=cQ a x.l 0 h K
structure ax.S where
 f0:Int
 f1:Int
 f2:Int
 f3:Int
 f4:Int
 f5:Int
 f6:Bool
 f7:Int
 f8:Int
 f9:bC
 f10:bC
 f11:Bool
 f12:Int
 f13:Int
 f14:bC
 f15:bC
 f16:Int
 f17:Int
 f18:Int
 zI:bH
 Bp:Nat
 HX:Nat
 f20:Int
 f21:Int
 f22:Bool
 Bq:bH
 Br:Nat
 HY:Nat
abbrev ax.S.l(x:ax.S):List Value:= [.int .u64 x.f0,.int .i64 x.f1,.int .u64 x.f2,.int .i64 x.f3,.int .u64 x.f4,.int .i64 x.f5,.bool x.f6,.int .u64 x.f7,.int .u64 x.f8,.string x.f9,.string x.f10,.bool x.f11,.int .u64 x.f12,.int .u64 x.f13,.string x.f14,.string x.f15,.int .i64 x.f16,.int .i64 x.f17,.int .i64 x.f18,.slice x.zI x.Bp x.HX,.int .u64 x.f20,.int .u64 x.f21,.bool x.f22,.slice x.Bq x.Br x.HY]
abbrev ax.S.arr(x:ax.S):Array Value:=x.l.toArray
abbrev ax.S.agg(x:ax.S):Value:=.agg x.arr
abbrev ax.S.z:ax.S:=⟨0,0,0,0,0,0,false,0,0,(⟨#[]⟩:bC),(⟨#[]⟩:bC),false,0,0,(⟨#[]⟩:bC),(⟨#[]⟩:bC),0,0,0,none,0,0,0,0,false,none,0,0⟩ abbrev ax.NW (h:Heap) (K:Nat->cM):Prop:=aT h (.cells ax.S.z.arr 176) K
abbrev ax.EX(K:ax.S->Prop):Prop:= ∃t T m u v w x y z A a b c d e f g h i l k j n o p s r q,K ⟨t,T,m,u,v,w,x,y,z,A,a,b,c,d,e,f,g,h,i,l,k,j,n,o,p,s,r,q⟩
abbrev ax.ck(h:Heap)(a:Addr)(K:ax.S->Prop):Prop:=fM h a λc=>iw h (a.add 1) λd=>fM h (a.add 2) λr=>iw h (a.add 3) λw=>fM h (a.add 4) λx=>iw h (a.add 5) λy=>wj h (a.add 6) λz=>fM h (a.add 7) λA=>fM h (a.add 8) λB=>jZ h (a.add 9) λC=>jZ h (a.add 10) λe=>wj h (a.add 11) λf=>fM h (a.add 12) λg=>fM h (a.add 13) λi=>jZ h (a.add 14) λj=>jZ h (a.add 15) λk=>iw h (a.add 16) λl=>iw h (a.add 17) λm=>iw h (a.add 18) λn=>oM h (a.add 19) λq p o=>fM h (a.add 20) λs=>fM h (a.add 21) λu=>wj h (a.add 22) λv=> ∃b T t,aQ h (a.add 23)=some (.slice b T t)/\K ⟨c,d,r,w,x,y,z,A,B,C,e,f,g,i,j,k,l,m,n,q,p,o,s,u,v,b,T,t⟩
abbrev ax.cR(h:Heap)(a:Addr)(x:ax.S)(K:cM):Prop:=cQ a x.l 0 h K
structure gC.S where
 f0:bH
 f1:bH
 f2:Int
abbrev gC.S.l(x:gC.S):List Value:= [.pointer x.f0,.pointer x.f1,.int .i64 x.f2]
abbrev gC.S.arr(x:gC.S):Array Value:=x.l.toArray
abbrev gC.S.agg(x:gC.S):Value:=.agg x.arr
abbrev gC.S.z:gC.S:=⟨none,none,0⟩ abbrev gC.NW (h:Heap) (K:Nat->cM):Prop:=aT h (.cells gC.S.z.arr 233) K
abbrev gC.EX(K:gC.S->Prop):Prop:= ∃t T a,K ⟨t,T,a⟩
structure ej.S where
 f0:Bool
 GL:bH
 MC:Nat
 vw:Nat
 f2:Int
abbrev ej.S.l(x:ej.S):List Value:= [.bool x.f0,.slice x.GL x.MC x.vw,.int .i64 x.f2]
abbrev ej.S.arr(x:ej.S):Array Value:=x.l.toArray
abbrev ej.S.agg(x:ej.S):Value:=.agg x.arr
abbrev ej.S.z:ej.S:=⟨false,none,0,0,0⟩ abbrev ej.NW (h:Heap) (K:Nat->cM):Prop:=aT h (.cells ej.S.z.arr 442) K
abbrev ej.EX(K:ej.S->Prop):Prop:= ∃t b a T c,K ⟨t,b,a,T,c⟩
structure dE.S where
 f0:Bool
 GL:bH
 MC:Nat
 vw:Nat
 f2:Int
abbrev dE.S.l(x:dE.S):List Value:= [.bool x.f0,.slice x.GL x.MC x.vw,.int .i64 x.f2]
abbrev dE.S.arr(x:dE.S):Array Value:=x.l.toArray
abbrev dE.S.agg(x:dE.S):Value:=.agg x.arr
abbrev dE.S.z:dE.S:=⟨false,none,0,0,0⟩ abbrev dE.NW (h:Heap) (K:Nat->cM):Prop:=aT h (.cells dE.S.z.arr 181) K
abbrev dE.EX(K:dE.S->Prop):Prop:= ∃t b a T c,K ⟨t,b,a,T,c⟩
structure aF.S where
 f0:Int
 f1:Int
 f2:Int
 f3:Int
 f4:Int
 f5:Int
 f6:Bool
 f7:Int
 f8:Int
 f9:bC
 f10:bC
 f11:Bool
 f12:Int
 f13:Int
 f14:bC
 f15:bC
 f16:Int
 f17:Int
 f18:Int
 zI:bH
 Bp:Nat
 HX:Nat
 f20:Int
 f21:Int
 f22:Bool
 Bq:bH
 Br:Nat
 HY:Nat
 f24:Int
 f25:Int
 f26:Int
 f27:Int
 f28:Int
 Wt:bH
 U1:Nat
 Wu:Nat
 f30:Bool
 f31:Bool
abbrev aF.S.l(x:aF.S):List Value:= [.int .u64 x.f0,.int .i64 x.f1,.int .u64 x.f2,.int .i64 x.f3,.int .u64 x.f4,.int .i64 x.f5,.bool x.f6,.int .u64 x.f7,.int .u64 x.f8,.string x.f9,.string x.f10,.bool x.f11,.int .u64 x.f12,.int .u64 x.f13,.string x.f14,.string x.f15,.int .i64 x.f16,.int .i64 x.f17,.int .i64 x.f18,.slice x.zI x.Bp x.HX,.int .u64 x.f20,.int .u64 x.f21,.bool x.f22,.slice x.Bq x.Br x.HY,.int .u64 x.f24,.int .i64 x.f25,.int .i64 x.f26,.int .i64 x.f27,.int .u64 x.f28,.slice x.Wt x.U1 x.Wu,.bool x.f30,.bool x.f31]
abbrev aF.S.arr(x:aF.S):Array Value:=x.l.toArray
abbrev aF.S.agg(x:aF.S):Value:=.agg x.arr
abbrev aF.S.z:aF.S:=⟨0,0,0,0,0,0,false,0,0,(⟨#[]⟩:bC),(⟨#[]⟩:bC),false,0,0,(⟨#[]⟩:bC),(⟨#[]⟩:bC),0,0,0,none,0,0,0,0,false,none,0,0,0,0,0,0,0,none,0,0,false,false⟩ abbrev aF.NW (h:Heap) (K:Nat->cM):Prop:=aT h (.cells aF.S.z.arr 212) K
abbrev aF.EX(K:aF.S->Prop):Prop:= ∃t T m C F G H I J L a b c d e f g h i l k j n o p s r q u v w x y B A z D E,K ⟨t,T,m,C,F,G,H,I,J,L,a,b,c,d,e,f,g,h,i,l,k,j,n,o,p,s,r,q,u,v,w,x,y,B,A,z,D,E⟩
abbrev aF.ck(h:Heap)(a:Addr)(K:aF.S->Prop):Prop:=fM h a λT=>iw h (a.add 1) λb=>fM h (a.add 2) λp=>iw h (a.add 3) λF=>fM h (a.add 4) λH=>iw h (a.add 5) λI=>wj h (a.add 6) λJ=>fM h (a.add 7) λL=>fM h (a.add 8) λM=>jZ h (a.add 9) λO=>jZ h (a.add 10) λc=>wj h (a.add 11) λd=>fM h (a.add 12) λe=>fM h (a.add 13) λf=>jZ h (a.add 14) λg=>jZ h (a.add 15) λi=>iw h (a.add 16) λj=>iw h (a.add 17) λk=>iw h (a.add 18) λl=>oM h (a.add 19) λo n m=>fM h (a.add 20) λq=>fM h (a.add 21) λr=>wj h (a.add 22) λs=>oM h (a.add 23) λw v u=>fM h (a.add 24) λx=>iw h (a.add 25) λy=>iw h (a.add 26) λz=>iw h (a.add 27) λA=>fM h (a.add 28) λB=>oM h (a.add 29) λE D C=>wj h (a.add 30) λG=> ∃t,aQ h (a.add 31)=some (.bool t)/\K ⟨T,b,p,F,H,I,J,L,M,O,c,d,e,f,g,i,j,k,l,o,n,m,q,r,s,w,v,u,x,y,z,A,B,E,D,C,G,t⟩
abbrev aF.cR(h:Heap)(a:Addr)(x:aF.S)(K:cM):Prop:=cQ a x.l 0 h K
structure aB.S where
 f0:Bool
 f1:Int
 f2:Int
 f3:bC
 f4:bC
 f5:Int
 f6:Int
abbrev aB.S.l(x:aB.S):List Value:= [.bool x.f0,.int .u64 x.f1,.int .u64 x.f2,.string x.f3,.string x.f4,.int .u64 x.f5,.int .u64 x.f6]
abbrev aB.S.arr(x:aB.S):Array Value:=x.l.toArray
abbrev aB.S.agg(x:aB.S):Value:=.agg x.arr
abbrev aB.S.z:aB.S:=⟨false,0,0,(⟨#[]⟩:bC),(⟨#[]⟩:bC),0,0⟩ abbrev aB.NW (h:Heap) (K:Nat->cM):Prop:=aT h (.cells aB.S.z.arr 272) K
abbrev aB.EX(K:aB.S->Prop):Prop:= ∃t T a b c d e,K ⟨t,T,a,b,c,d,e⟩
abbrev aB.ck(h:Heap)(a:Addr)(K:aB.S->Prop):Prop:=wj h a λT=>fM h (a.add 1) λb=>fM h (a.add 2) λc=>jZ h (a.add 3) λd=>jZ h (a.add 4) λe=>fM h (a.add 5) λf=> ∃t,aQ h (a.add 6)=some (.int .u64 t)/\K ⟨T,b,c,d,e,f,t⟩
abbrev aB.cR(h:Heap)(a:Addr)(x:aB.S)(K:cM):Prop:=cQ a x.l 0 h K
structure cL.S where
 f0:bH
 f1:Int
 f2:Int
 f3:Int
 f4:Int
 f5:Int
 f6:Int
 f7:Int
 Y8:bH
 Y9:Nat
 Za:Nat
 f9:Int
 f10:Int
 f11:Int
 f12:Int
 f13:Int
 f14:Int
 f15:Int
abbrev cL.S.l(x:cL.S):List Value:= [.pointer x.f0,.int .i64 x.f1,.int .i64 x.f2,.int .i64 x.f3,.int .i64 x.f4,.int .u64 x.f5,.int .i64 x.f6,.int .i64 x.f7,.slice x.Y8 x.Y9 x.Za,.int .i64 x.f9,.int .i64 x.f10,.int .i64 x.f11,.int .i64 x.f12,.int .i64 x.f13,.int .i64 x.f14,.int .i64 x.f15]
abbrev cL.S.arr(x:cL.S):Array Value:=x.l.toArray
abbrev cL.S.agg(x:cL.S):Value:=.agg x.arr
abbrev cL.S.z:cL.S:=⟨none,0,0,0,0,0,0,0,none,0,0,0,0,0,0,0,0,0⟩ abbrev cL.NW (h:Heap) (K:Nat->cM):Prop:=aT h (.cells cL.S.z.arr 341) K
abbrev cL.EX(K:cL.S->Prop):Prop:= ∃t T g h i j k l o n m p a b c d e f,K ⟨t,T,g,h,i,j,k,l,o,n,m,p,a,b,c,d,e,f⟩
structure eO.S where
 f0:Int
 f1:Int
 f2:Int
 f3:Int
abbrev eO.S.l(x:eO.S):List Value:= [.int .i64 x.f0,.int .i64 x.f1,.int .i64 x.f2,.int .i64 x.f3]
abbrev eO.S.arr(x:eO.S):Array Value:=x.l.toArray
abbrev eO.S.agg(x:eO.S):Value:=.agg x.arr
abbrev eO.S.z:eO.S:=⟨0,0,0,0⟩ abbrev eO.NW (h:Heap) (K:Nat->cM):Prop:=aT h (.cells eO.S.z.arr 339) K
abbrev eO.EX(K:eO.S->Prop):Prop:= ∃t T a b,K ⟨t,T,a,b⟩
structure aR.S where
 f0:Int
 f1:Int
 Sc:bH
 SF:Nat
 Ui:Nat
 f3:Int
abbrev aR.S.l(x:aR.S):List Value:= [.int .i64 x.f0,.int .i64 x.f1,.slice x.Sc x.SF x.Ui,.int .u64 x.f3]
abbrev aR.S.arr(x:aR.S):Array Value:=x.l.toArray
abbrev aR.S.agg(x:aR.S):Value:=.agg x.arr
abbrev aR.S.z:aR.S:=⟨0,0,none,0,0,0⟩ abbrev aR.NW (h:Heap) (K:Nat->cM):Prop:=aT h (.cells aR.S.z.arr 434) K
abbrev aR.EX(K:aR.S->Prop):Prop:= ∃t T c b a d,K ⟨t,T,c,b,a,d⟩
abbrev aR.cR(h:Heap)(a:Addr)(x:aR.S)(K:cM):Prop:=cQ a x.l 0 h K
structure fQ.S where
 f0:Bool
 GL:bH
 MC:Nat
 vw:Nat
abbrev fQ.S.l(x:fQ.S):List Value:= [.bool x.f0,.slice x.GL x.MC x.vw]
abbrev fQ.S.arr(x:fQ.S):Array Value:=x.l.toArray
abbrev fQ.S.agg(x:fQ.S):Value:=.agg x.arr
abbrev fQ.S.z:fQ.S:=⟨false,none,0,0⟩ abbrev fQ.NW (h:Heap) (K:Nat->cM):Prop:=aT h (.cells fQ.S.z.arr 346) K
abbrev fQ.EX(K:fQ.S->Prop):Prop:= ∃t b a T,K ⟨t,b,a,T⟩
structure aH.S where
 f0:Int
 f1:Int
 f2:Bool
 f3:Int
 f4:Int
 f5:bC
 f6:bC
 f7:Bool
 f8:Int
 f9:Int
 f10:bC
 f11:bC
 f12:Bool
 f13:Int
 f14:Int
 f15:bC
 f16:bC
 f17:Int
 f18:Int
 f19:Int
abbrev aH.S.l(x:aH.S):List Value:= [.int .u64 x.f0,.int .i64 x.f1,.bool x.f2,.int .u64 x.f3,.int .u64 x.f4,.string x.f5,.string x.f6,.bool x.f7,.int .u64 x.f8,.int .u64 x.f9,.string x.f10,.string x.f11,.bool x.f12,.int .u64 x.f13,.int .u64 x.f14,.string x.f15,.string x.f16,.int .u64 x.f17,.int .u64 x.f18,.int .u64 x.f19]
abbrev aH.S.arr(x:aH.S):Array Value:=x.l.toArray
abbrev aH.S.agg(x:aH.S):Value:=.agg x.arr
abbrev aH.S.z:aH.S:=⟨0,0,false,0,0,(⟨#[]⟩:bC),(⟨#[]⟩:bC),false,0,0,(⟨#[]⟩:bC),(⟨#[]⟩:bC),false,0,0,(⟨#[]⟩:bC),(⟨#[]⟩:bC),0,0,0⟩ abbrev aH.NW (h:Heap) (K:Nat->cM):Prop:=aT h (.cells aH.S.z.arr 274) K
abbrev aH.EX(K:aH.S->Prop):Prop:= ∃t T k l m n o p q r a b c d e f g h i j,K ⟨t,T,k,l,m,n,o,p,q,r,a,b,c,d,e,f,g,h,i,j⟩
abbrev aH.ck(h:Heap)(a:Addr)(K:aH.S->Prop):Prop:=fM h a λT=>iw h (a.add 1) λb=>wj h (a.add 2) λm=>fM h (a.add 3) λn=>fM h (a.add 4) λo=>jZ h (a.add 5) λp=>jZ h (a.add 6) λq=>wj h (a.add 7) λr=>fM h (a.add 8) λs=>fM h (a.add 9) λu=>jZ h (a.add 10) λc=>jZ h (a.add 11) λd=>wj h (a.add 12) λe=>fM h (a.add 13) λf=>fM h (a.add 14) λg=>jZ h (a.add 15) λi=>jZ h (a.add 16) λj=>fM h (a.add 17) λk=>fM h (a.add 18) λl=> ∃t,aQ h (a.add 19)=some (.int .u64 t)/\K ⟨T,b,m,n,o,p,q,r,s,u,c,d,e,f,g,i,j,k,l,t⟩
abbrev aH.cR(h:Heap)(a:Addr)(x:aH.S)(K:cM):Prop:=cQ a x.l 0 h K
structure ag.S where
 f0:Int
 f1:Int
 f2:Int
 f3:Int
 f4:Int
 Wv:bH
 Ww:Nat
 Wx:Nat
abbrev ag.S.l(x:ag.S):List Value:= [.int .u64 x.f0,.int .i64 x.f1,.int .i64 x.f2,.int .i64 x.f3,.int .u64 x.f4,.slice x.Wv x.Ww x.Wx]
abbrev ag.S.arr(x:ag.S):Array Value:=x.l.toArray
abbrev ag.S.agg(x:ag.S):Value:=.agg x.arr
abbrev ag.S.z:ag.S:=⟨0,0,0,0,0,none,0,0⟩ abbrev ag.NW (h:Heap) (K:Nat->cM):Prop:=aT h (.cells ag.S.z.arr 110) K
abbrev ag.EX(K:ag.S->Prop):Prop:= ∃t T a b c f e d,K ⟨t,T,a,b,c,f,e,d⟩
abbrev ag.ck(h:Heap)(a:Addr)(K:ag.S->Prop):Prop:=fM h a λc=>iw h (a.add 1) λd=>iw h (a.add 2) λe=>iw h (a.add 3) λf=>fM h (a.add 4) λg=> ∃b T t,aQ h (a.add 5)=some (.slice b T t)/\K ⟨c,d,e,f,g,b,T,t⟩
abbrev ag.cR(h:Heap)(a:Addr)(x:ag.S)(K:cM):Prop:=cQ a x.l 0 h K
structure dj.S where
 f0:Bool
 f1:Bool
 f2:Bool
 f3:Int
 f4:Int
 f5:Bool
 f6:Int
 f7:Int
 f8:bC
 f9:bC
 f10:Int
 f11:Int
abbrev dj.S.l(x:dj.S):List Value:= [.bool x.f0,.bool x.f1,.bool x.f2,.int .u64 x.f3,.int .u64 x.f4,.bool x.f5,.int .u64 x.f6,.int .u64 x.f7,.string x.f8,.string x.f9,.int .u64 x.f10,.int .u64 x.f11]
abbrev dj.S.arr(x:dj.S):Array Value:=x.l.toArray
abbrev dj.S.agg(x:dj.S):Value:=.agg x.arr
abbrev dj.S.z:dj.S:=⟨false,false,false,0,0,false,0,0,(⟨#[]⟩:bC),(⟨#[]⟩:bC),0,0⟩ abbrev dj.NW (h:Heap) (K:Nat->cM):Prop:=aT h (.cells dj.S.z.arr 604) K
abbrev dj.EX(K:dj.S->Prop):Prop:= ∃t T c d e f g h i j a b,K ⟨t,T,c,d,e,f,g,h,i,j,a,b⟩
abbrev dj.cR(h:Heap)(a:Addr)(x:dj.S)(K:cM):Prop:=cQ a x.l 0 h K
structure aC.S where
 f0:Int
 f1:Int
 f2:Bool
 f3:Int
 f4:Int
 f5:bC
 f6:bC
 f7:Bool
 f8:Int
 f9:Int
 f10:bC
 f11:bC
 f12:Int
 f13:Int
 f14:Int
 SB:bH
 SD:Nat
 SE:Nat
 f16:Int
 f17:Int
 f18:Bool
abbrev aC.S.l(x:aC.S):List Value:= [.int .u64 x.f0,.int .i64 x.f1,.bool x.f2,.int .u64 x.f3,.int .u64 x.f4,.string x.f5,.string x.f6,.bool x.f7,.int .u64 x.f8,.int .u64 x.f9,.string x.f10,.string x.f11,.int .i64 x.f12,.int .i64 x.f13,.int .i64 x.f14,.slice x.SB x.SD x.SE,.int .u64 x.f16,.int .u64 x.f17,.bool x.f18]
abbrev aC.S.arr(x:aC.S):Array Value:=x.l.toArray
abbrev aC.S.agg(x:aC.S):Value:=.agg x.arr
abbrev aC.S.z:aC.S:=⟨0,0,false,0,0,(⟨#[]⟩:bC),(⟨#[]⟩:bC),false,0,0,(⟨#[]⟩:bC),(⟨#[]⟩:bC),0,0,0,none,0,0,0,0,false⟩ abbrev aC.NW (h:Heap) (K:Nat->cM):Prop:=aT h (.cells aC.S.z.arr 174) K
abbrev aC.EX(K:aC.S->Prop):Prop:= ∃t T l m n o p q r s a b c d e h g f i j k,K ⟨t,T,l,m,n,o,p,q,r,s,a,b,c,d,e,h,g,f,i,j,k⟩
abbrev aC.ck(h:Heap)(a:Addr)(K:aC.S->Prop):Prop:=fM h a λT=>iw h (a.add 1) λb=>wj h (a.add 2) λn=>fM h (a.add 3) λo=>fM h (a.add 4) λp=>jZ h (a.add 5) λq=>jZ h (a.add 6) λr=>wj h (a.add 7) λs=>fM h (a.add 8) λu=>fM h (a.add 9) λv=>jZ h (a.add 10) λc=>jZ h (a.add 11) λd=>iw h (a.add 12) λe=>iw h (a.add 13) λf=>iw h (a.add 14) λg=>oM h (a.add 15) λk j i=>fM h (a.add 16) λl=>fM h (a.add 17) λm=> ∃t,aQ h (a.add 18)=some (.bool t)/\K ⟨T,b,n,o,p,q,r,s,u,v,c,d,e,f,g,k,j,i,l,m,t⟩
abbrev aC.cR(h:Heap)(a:Addr)(x:aC.S)(K:cM):Prop:=cQ a x.l 0 h K
structure au.S where
 f0:Int
 f1:Int
 f2:Int
abbrev au.S.l(x:au.S):List Value:= [.int .u64 x.f0,.int .i64 x.f1,.int .i64 x.f2]
abbrev au.S.arr(x:au.S):Array Value:=x.l.toArray
abbrev au.S.agg(x:au.S):Value:=.agg x.arr
abbrev au.S.z:au.S:=⟨0,0,0⟩ abbrev au.NW (h:Heap) (K:Nat->cM):Prop:=aT h (.cells au.S.z.arr 337) K
abbrev au.EX(K:au.S->Prop):Prop:= ∃t T a,K ⟨t,T,a⟩
abbrev au.ck(h:Heap)(a:Addr)(K:au.S->Prop):Prop:=fM h a λT=>iw h (a.add 1) λb=> ∃t,aQ h (a.add 2)=some (.int .i64 t)/\K ⟨T,b,t⟩
abbrev au.cR(h:Heap)(a:Addr)(x:au.S)(K:cM):Prop:=cQ a x.l 0 h K

end Go.Proofs.YticlajoleibdnaaGreatDoor
namespace Go.Proofs
open Go.Den
open IntKind (wrap)
open Int (toNat)
section
open Go.Shelf
def Tryz.Js:Go.Shelf.Ren:=⟨fun|145=>460|220=>515|219=>68|217=>134|225=>135|224=>136|267=>137|266=>202|314=>203|n=>n,fun|9=>9|4=>4|59=>617|3=>3|5=>5|46=>185|146=>307|51=>306|n=>n,fun|1=>0|n=>n⟩
def Tryz.SG:Go.Proofs.Lays.n145 Tryz.prog Tryz.Js:=by constructor;all_goals first|kernel_rfl|(intro _;kernel_rfl)
def Tryz.Jt:Go.Shelf.Ren:=⟨fun|103=>411|210=>474|206=>540|n=>n,fun|9=>9|4=>4|24=>95|3=>3|n=>n,fun|n=>n⟩
def Tryz.SH:Go.Proofs.Lays.n103 Tryz.prog Tryz.Jt:=by constructor;all_goals first|kernel_rfl|(intro _;kernel_rfl)
def Tryz.Lp:Go.Shelf.Ren:=⟨fun|14=>93|16=>138|17=>37|19=>204|20=>205|21=>70|22=>71|23=>72|24=>73|25=>139|27=>24|26=>140|28=>38|29=>74|30=>141|31=>142|32=>143|33=>144|35=>207|34=>206|36=>208|37=>209|38=>210|39=>282|40=>283|n=>n,fun|9=>9|3=>3|22=>62|24=>54|25=>182|4=>4|34=>125|5=>5|36=>185|37=>69|0=>0|39=>128|21=>21|44=>222|47=>270|50=>312|48=>310|2=>2|52=>224|55=>227|59=>314|60=>306|20=>20|61=>315|65=>499|66=>500|67=>205|n=>n,fun|0=>1|1=>2|2=>5|3=>6|4=>7|n=>n⟩
def Tryz.Lq:Go.Proofs.LaysPu.n14 Tryz.prog Tryz.Lp:=by constructor;all_goals first|kernel_rfl|(intro _;kernel_rfl)

end
end Go.Proofs
namespace Go.Proofs.YticlajoleibdnaaGreatDoor
open Go.Den
open IntKind (wrap)
open Int (toNat)
section
namespace jk
variable {h H:Heap} {R:dH}
variable {s:bC}
def Mx(h:Heap):Prop:= ∃m,aQ h ⟨0,0,none⟩=some (.int .i64 m)
def Mx.on(M:Mx h)(f:Fr No h H):Mx H:=by have⟨m,a⟩:=M;exact⟨m,f.cell a id⟩
theorem HZ{S:bC}(M:Mx h)(c:s.size<4294967281)(g:R (.T #[.string ⟨(Lib.cut s.data.toList S.data.toList).1.toArray⟩,.string ⟨(Lib.cut s.data.toList S.data.toList).2.1.toArray⟩,.B (Lib.cut s.data.toList S.data.toList).2.2]) h):Cl 460 #[.S s,.S S] h R:=λw d=>by subst d;have⟨m,b⟩:=M;refine(Any.strings_Cut Tryz.SG s S m w c (by exact b)).mono λe i ⟨a,n,f⟩=>⟨_,a,?_,?_⟩;simp_all;rw[f];exact⟨rfl,rfl,rfl⟩
theorem N9{p:bC}(c:R (.T #[.string ⟨(Lib.trimPrefix s.data.toList p.data.toList).toArray⟩,.B (Lib.hasPrefix s.data.toList p.data.toList)]) h):Cl 411 #[.S s,.S p] h R:=λw d=>(Any.strings_CutPrefix Tryz.SH s p w).mono λe f ⟨a,b⟩=>⟨_,a,by grind,by rw[b];exact eJ.refl _⟩

end jk
end
end Go.Proofs.YticlajoleibdnaaGreatDoor
namespace Go.Proofs
open Go.Den
open IntKind (wrap)
open Int (toNat)
section
open Go.Shelf
def Tryz.Ju:Go.Shelf.Ren:=⟨fun|284=>142|129=>207|317=>206|318=>208|n=>n,fun|53=>62|3=>3|212=>314|0=>0|4=>4|46=>185|5=>5|9=>9|n=>n,fun|17=>5|n=>n⟩
def Tryz.SI:Go.Proofs.LaysM.n284 Tryz.prog Tryz.Ju:=by constructor;constructor;all_goals first|kernel_rfl|(intro _;kernel_rfl)
def Tryz.Jv:Go.Shelf.Ren:=⟨fun|285=>143|n=>n,fun|37=>69|53=>62|3=>3|4=>4|51=>306|9=>9|5=>5|0=>0|n=>n,fun|n=>n⟩
def Tryz.SJ:Go.Proofs.Lays.n285 Tryz.prog Tryz.Jv:=by constructor;all_goals first|kernel_rfl|(intro _;kernel_rfl)
def Tryz.Jw:Go.Shelf.Ren:=⟨fun|283=>141|n=>n,fun|3=>3|9=>9|4=>4|n=>n,fun|n=>n⟩
def Tryz.SK:Go.Proofs.Lays.n283 Tryz.prog Tryz.Jw:=by constructor;all_goals first|kernel_rfl|(intro _;kernel_rfl)

end
end Go.Proofs
namespace Go.Proofs.YticlajoleibdnaaGreatDoor
open Go.Den
open IntKind (wrap)
open Int (toNat)
section
namespace jk
variable {h H:Heap} {R:dH}
def vx(h:Heap):Prop:= ∃t f,h[(5:Nat)]? =some (.cells (Lib.pow10Tab.map λz=>Value.int .u64 z).toArray t f)
def vx.frame{S:fZ}(T:vx h)(f:Fr S h H)(b: ∀c,c<h.size->¬S c):vx H:=by obtain⟨t,F,a⟩:=T;exact⟨t,F,f.get a (b _ (aE a))⟩
def vx.on(T:vx h)(f:Fr No h H):vx H:=T.frame f bD
def vx.is{w:World}{s:String}(b:Tryz.prog.globalNamed s=some 5)(T:vx w.heap):Lib.TabIs Tryz.prog w s .u64 Lib.pow10Tab:=by obtain⟨t,f,a⟩:=T;unfold Lib.TabIs World.var?;rw[b];show(match w.heap[(5:Nat)]? with|some (.cells c _ _)=>some c|_=>none)=_;rw[a]
def P8{i:Nat}(c:i<100)(d:R (.string ⟨(Lib.decDigits i).toArray⟩) h):Cl 141 #[.I i] h R:=λw f=>(Any.internal_strconv_small Tryz.SK i c w).mono λe g ⟨b,a⟩=>⟨_,b,by rw[a,f];exact d,by rw[a];exact eJ.refl _⟩
def Oa{u:Nat}(T:vx h)(c:1<=u)(d:u<18446744073709551616)(g:R (.I (Lib.nDigits u)) h):Cl 142 #[.U u] h R:=λw a=>(Any.internal_strconv_numDigits Tryz.SI u c d w (by rw[<-a]at T;exact T.is zzkr)).mono λe i ⟨f,b⟩=>⟨_,f,by rw[b,a];exact g,by rw[b];exact eJ.refl _⟩

end jk
end
section
variable {h:Heap} {R:dH}
variable {i b:Int}
def kB (j:ite (b==10) (ite (decide (i<100)) (Cl 141 #[.I (wrap .i64 i)] h λv d=> ∃T,v=.S T/\R (.S T) d) (aT h (.C #[.int .u8 0,.int .u8 0,.int .u8 0,.int .u8 0,.int .u8 0,.int .u8 0,.int .u8 0,.int .u8 0,.int .u8 0,.int .u8 0,.int .u8 0,.int .u8 0,.int .u8 0,.int .u8 0,.int .u8 0,.int .u8 0,.int .u8 0,.int .u8 0,.int .u8 0,.int .u8 0,.int .u8 0,.int .u8 0,.int .u8 0,.int .u8 0] 224) λB e=>Cl 142 #[.U i] e λV f=>Vi V λt=>((0:Int)<=t/\t<=((24:Nat):Int))/\Cl 143 #[.L (bV (Sa B 0) 24 0 1) ((toNat t) - 0) (24 - 0),.U i] f λn H=>n=.T #[]/\((0:Int)<=t/\t<=((24:Nat):Int))/\∃(a:bC),xL Tryz.prog 69 9 (.L (bV (Sa B 0) 24 0 1) ((toNat t) - 0) (24 - 0)) H a/\R (.S a) H)) (Cl 144 #[.Z,.U i,.I b,.B false,.B false] h λo g=> ∃m l k c,o=.T #[.L m l k,.S c]/\R (.S c) g)):Cl 161 #[.U i,.I b] h R:=aD [] j
def py(a:Cl 161 #[.U i,.I b] h λv H=> ∃t,v=.S t/\R (.S t) H):Cl 94 #[.U i,.I b] h R:=aD [] a

end
section
namespace jk
variable {h H:Heap} {R:dH}
variable {u:Nat}
def Ob{B n cap:Nat}{c:Array Value}{t:TypeId}(f:h[B]? =some (.C c t (0,0)))(l: ∀j,j<n->c[j]? =some (.int .u8 0))(r:u<10 ^ n)(s:u<18446744073709551616)(A:n<100)(q: ∀H C d v,H[B]? =some (.C C t (0,0))->Lib.FmtInv n u 0 v d->(∀j,j<n->C[j]? =some (.int .u8 ((d[j]!).toNat:Int)))->H.size=h.size->(∀x,x≠B->H[x]? =h[x]?)->R (.T #[]) H):
  Cl 143 #[.L (Sa B 0) n cap,.U u] h R:=λw y=>by
 subst y;have m:Sort.Holds (λ(b:UInt8)=>Value.int .u8 (b.toNat:Int)) w B 0 (Array.replicate n 0):=λj a=>by
  rw[Array.size_replicate]at a;refine⟨?_,?_⟩;rw[kk,jY f,aX,l j a];have:(Array.replicate n (0:UInt8))[j]! =0:=by simp[a]
  rw[this];rfl;rw[vi];exact lM f
 have K:=Any.internal_strconv_formatBase10 Tryz.SJ B 0 cap u (Array.replicate n 0) w m (by rw[Array.size_replicate];exact r) s (by rw[Array.size_replicate];omega);rw[Array.size_replicate]at K;refine Calls.mono K λe D ⟨o,k,v,d,i,g⟩=>⟨_,o,?_,?_⟩;subst i;have p:((Sort.putRow (λ(b:UInt8)=>Value.int .u8 (b.toNat:Int)) w B 0 d).drewN k).heap=w.heap.modify B (Sort.onCells (Sort.putCells (λ(b:UInt8)=>Value.int .u8 (b.toNat:Int)) 0 d)):=rfl;rw[p];refine q _ (Sort.putCells (λ(b:UInt8)=>Value.int .u8 (b.toNat:Int)) 0 d c) d v ?_ g (λj a=> ?_) bO (λx z=>by rw[cX,af (λe=>z e.symm)]);rw[cX,ah rfl,f];rfl;unfold Sort.putCells;rw[Array.getElem?_mapIdx,l j a,dB,ah ⟨bg _,by rw[g.size];omega⟩,Nat.sub_zero];subst i;exact⟨rfl,rfl,rfl⟩
def tS:Tryz.prog.underlying 69=some (.slice 5):=zzkr
def t8:Tryz.prog.underlying 5=some (.int .u8):=zzkr
def tT:Tryz.prog.underlying 9=some .string:=zzkr
def Oc(t:vx h)(d:u<18446744073709551616)(g: jA h R (.string ⟨(Lib.decDigits u).toArray⟩)):Cl 161 #[.U u,.I 10] h R:=by
 refine kB ?_;rw[ah (by rfl)];by_cases i:u<100;rw[iE,eY];exact P8 i ⟨_,rfl,g h (Fr.refl _ _)⟩;rw[af (by simp;omega)];refine bn ?_;generalize q:(#[.int .u8 0,.int .u8 0,.int .u8 0,.int .u8 0,.int .u8 0,.int .u8 0,.int .u8 0,.int .u8 0,.int .u8 0,.int .u8 0,.int .u8 0,.int .u8 0,.int .u8 0,.int .u8 0,.int .u8 0,.int .u8 0,.int .u8 0,.int .u8 0,.int .u8 0,.int .u8 0,.int .u8 0,.int .u8 0,.int .u8 0,.int .u8 0]:Array Value)=c;have o: ∀j,j<24->c[j]? =some (.int .u8 0):=by
  have:c=Array.replicate 24 (.int .u8 0):=by rw[<-q];rfl
  intro j a;rw[this];simp[a]
 have f:Fr No h (h.push (.C c 224)):=Fr.push _ _;have m:(h.push (.C c 224))[h.size]? =some (.C c 224 (0,0)):=aU;have w:Lib.nDigits u<=20:=by have:=Lib.numDigits_eq u ae d;split at this<;>omega
 refine Oa (t.on f) ae d ⟨_,rfl,ae,?_⟩;have E:bV (some ((AA h.size 0):Addr)) 24 0 1=some (AA h.size 0):=rfl;rw[E,aG,Nat.sub_zero];refine Ob m (λj a=>o j ae) (Lib.lt_pow_nDigits u) d ae λk C D V n l p S O=>⟨rfl,ae,str (Lib.decDigits u),?_,?_⟩;refine Jl tS t8 tT (.inr ⟨_,rfl,dy n (λj v a=> ?_)⟩) (Lib.decDigits_length u).symm;rw[aX];have b:j<(Lib.decDigits u).length:=by have:=(aS.1 a).1;rwa[fO]at this
 have r:j<Lib.nDigits u:=by rwa[Lib.decDigits_length]at b
 rw[p j r,<-Lib.row_is_numeral l j b,<-a];unfold bc;rw[aP,ai b];rfl;exact g k (f.fresh (S:=λy=>y=h.size) ⟨ae,λy _ s=>O y s⟩ (λy e=>Nat.le_of_eq e.symm))
def jm(t:vx h)(c:u<18446744073709551616)(b: jA h R (.string ⟨(Lib.decDigits u).toArray⟩)):Cl 94 #[.U u,.I 10] h R:=
 py (Oc t c λa f=>⟨_,rfl,b a f⟩)

end jk
end
end Go.Proofs.YticlajoleibdnaaGreatDoor
namespace Go.Proofs
open Go.Den
open IntKind (wrap)
open Int (toNat)
section
open Go.Shelf
def Tryz.Jx:Go.Shelf.Ren:=⟨fun|146=>13|221=>19|268=>33|138=>34|143=>35|195=>65|197=>66|218=>67|219=>68|260=>133|217=>134|225=>135|224=>136|267=>137|266=>202|314=>203|n=>n,fun|9=>9|31=>40|3=>3|4=>4|0=>0|105=>122|21=>21|5=>5|46=>185|119=>302|139=>305|138=>304|146=>307|51=>306|n=>n,fun|1=>0|3=>3|4=>4|n=>n⟩
def Tryz.SM:Go.Proofs.Lays.n146 Tryz.prog Tryz.Jx:=by constructor;all_goals first|kernel_rfl|(intro _;kernel_rfl)
def Tryz.Jy:Go.Shelf.Ren:=⟨fun|171=>24|243=>38|246=>74|283=>141|284=>142|285=>143|286=>144|129=>207|317=>206|318=>208|319=>209|320=>210|337=>282|338=>283|n=>n,fun|3=>3|9=>9|2=>2|4=>4|171=>224|0=>0|53=>62|37=>69|5=>5|173=>227|212=>314|51=>306|20=>20|213=>315|46=>185|232=>499|233=>500|n=>n,fun|17=>5|18=>6|19=>7|n=>n⟩
def Tryz.SN:Go.Proofs.LaysM.n171 Tryz.prog Tryz.Jy:=by constructor;constructor;all_goals first|kernel_rfl|(intro _;kernel_rfl)
def Tryz.Jz:Go.Shelf.Ren:=⟨fun|137=>95|217=>134|266=>202|n=>n,fun|9=>9|5=>5|3=>3|n=>n,fun|n=>n⟩
def Tryz.SO:Go.Proofs.Lays.n137 Tryz.prog Tryz.Jz:=by constructor;all_goals first|kernel_rfl|(intro _;kernel_rfl)
def Tryz.AZ:Go.Shelf.Ren:=⟨fun|156=>98|165=>164|166=>165|169=>114|240=>183|241=>235|276=>252|277=>314|n=>n,fun|31=>40|9=>9|3=>3|4=>4|0=>0|20=>20|72=>203|76=>55|70=>201|37=>69|75=>54|127=>270|164=>364|5=>5|80=>205|n=>n,fun|n=>n⟩
def Tryz.SP:Go.Proofs.Lays.n156 Tryz.prog Tryz.AZ:=by constructor;all_goals first|kernel_rfl|(intro _;kernel_rfl)
def Tryz.JA:Go.Shelf.Ren:=⟨fun|160=>39|232=>76|231=>75|227=>77|234=>79|233=>78|236=>81|235=>80|228=>145|271=>147|151=>146|197=>66|120=>212|152=>211|260=>133|137=>95|119=>284|224=>136|225=>135|217=>134|266=>202|n=>n,fun|9=>9|4=>4|3=>3|5=>5|117=>135|116=>134|0=>0|124=>138|21=>21|105=>122|46=>185|119=>302|139=>305|138=>304|n=>n,fun|3=>3|4=>4|n=>n⟩
def Tryz.SQ:Go.Proofs.Lays.n160 Tryz.prog Tryz.JA:=by constructor;all_goals first|kernel_rfl|(intro _;kernel_rfl)
def Tryz.JB:Go.Shelf.Ren:=⟨fun|172=>23|244=>36|245=>37|247=>69|279=>70|280=>71|281=>72|282=>73|287=>138|316=>139|171=>24|205=>140|321=>204|322=>205|243=>38|246=>74|283=>141|284=>142|285=>143|286=>144|129=>207|317=>206|318=>208|319=>209|320=>210|337=>282|338=>283|n=>n,fun|9=>9|3=>3|75=>54|76=>55|4=>4|5=>5|167=>125|37=>69|0=>0|85=>126|2=>2|168=>128|53=>62|175=>182|46=>185|210=>222|127=>270|145=>312|143=>310|21=>21|171=>224|173=>227|212=>314|51=>306|20=>20|213=>315|232=>499|233=>500|80=>205|n=>n,fun|15=>1|16=>2|17=>5|18=>6|19=>7|n=>n⟩
def Tryz.H0:Go.Proofs.LaysC.n172 Tryz.prog Tryz.JB:=by constructor;constructor;constructor;all_goals first|kernel_rfl|(intro _;kernel_rfl)

end
end Go.Proofs
namespace Go.Proofs.YticlajoleibdnaaGreatDoor
open Go.Den
open IntKind (wrap)
open Int (toNat)
section
open Go.Shelf Go.RowKit
namespace jk
variable {h H:Heap} {R:dH}
variable {w a:World} {s:bC} {c:Nat}
def jg(b:Below w.heap.size w a):Fr No w.heap a.heap/\eJ w a:=⟨⟨b.size,λc d _=>b.block c d⟩,b.os,b.output,b.tape⟩
abbrev sp:bC:=⟨#[32]⟩
def words(s:bC):List bC:=Lib.splitB sp 0 (Lib.countB s sp) s
def pz(s:bC):(words s).length=Lib.countB s sp+1:=Lib.splitB_all sp bA 0 _ s rfl
def A2(S:bC): ∀(k:Nat)(s w:bC),w∈Lib.splitB S 0 k s->w.size<=s.size
 |0,s,w,b=>by rw[Lib.splitB_zero,bT]at b;subst b;exact bf _
 |k+1,s,w,b=>by unfold Lib.splitB at b;split at b;rw[bT]at b;subst b;exact bf _;rcases bG.1 b with e|e;subst e;simp[ByteArray.size_extract];omega;have:=A2 S k _ w e;simp[ByteArray.size_extract]at this;omega
def zJ{w:bC}(b:w∈words s):w.size<=s.size:=A2 sp _ s w b
def Lr(i:Nat):((words s).getD i ⟨#[]⟩).size<=s.size:=by
 rw[aL];cases e:(words s)[i]? with
 |none=>exact bg _
 |some w=>exact zJ (aW e)
def JC(s:bC):(words s).length<=s.size+1:=by rw[pz];have:=Lib.countB_le sp bA s.size s (bf _);omega
def Dq(M:Mx h)(j:s.size<4294967281)(f: ∀g,Fr No h g->Row g (Sa h.size 0) ((words s).map Value.string)->R (.slice (Sa h.size 0) (words s).length (words s).length) g):
  Cl 13 #[.S s,.S sp] h R:=λw k=>by
 subst k;have⟨m,i⟩:=M;refine(Any.strings_Split Tryz.SM zzkr s sp m w j (by exact i) bA).mono λe a ⟨d,b⟩=>⟨_,d,?_,?_⟩;rw[<-pz,b];exact f _ (Fr.push _ _) gW;rw[b];exact⟨rfl,rfl,rfl⟩
def kC{n:Int}(t:vx h)(d: -9223372036854775808<=n)(f:n<=9223372036854775807)(l: ∀g,Fr No h g->R (.S (str (Lib.itoa n))) g):Cl 24 #[.I n] h R:=λw m=>by subst m;refine(Any.strconv_Itoa Tryz.SN n d f w (t.is zzkr)).mono λe a ⟨j,k,os,b⟩=>⟨_,j,?_,?_⟩;rw[b];refine l _ ⟨by simp[Sort.grow,World.drewN],λc i _=> ?_⟩;show(w.heap++os)[c]? =_;rw[cH i];rw[b];exact⟨rfl,rfl,rfl⟩
def MD(i:c<256)(f:R (.I (Lib.indexByte s.data.toList (UInt8.ofNat c))) h):Cl 95 #[.S s,.int .u8 (c:Int)] h R:=λw g=>by subst g;refine(Any.strings_IndexByte Tryz.SO s c w).mono λe a ⟨d,b⟩=>⟨_,d,?_,?_⟩;rw[b];exact f;rw[b];exact eJ.refl _
def x3:Builder.Extra Tryz.prog Tryz.AZ:=
 { sizeBuilder:=zzkr,liesBuilder:=zzkr,t5:=zzkr,a5:=λw=>zzkr,z5:=λw=>zzkr,v5:=λw=>zzkr,infoByte:=zzkr,cellsByte:=zzkr,sizeByte:=zzkr,neB5:=by decide }
def Ia{xs:List bC}{b o l:Nat}(p:Row h (Sa b o) (xs.map Value.string))(n:l=xs.length)(f:b<h.size)(u:xs.length<=1000)(i:l<=c)(q:(Lib.join (xs.map (·.data.toList)) [32]).length<=140737488355328) (m: ∀g,Fr No h g->R (.S (str (Lib.join (xs.map (·.data.toList)) [32]))) g):Cl 98 #[.L (Sa b o) l c,.S sp] h R:=λw r=>by
 subst r n;refine(Any.strings_Join Tryz.SP x3 b o c xs sp w (λj x t=> ?_) f ae i q).mono λe a ⟨k,d⟩=>⟨_,k,m _ (jg d).1,(jg d).2⟩;rw[kk];have:=p.cell (j:=j) (by rw[aP,t];rfl);unfold Addr.add at this;by_cases e:j=0;subst e;exact this;rw[af e]at this;exact this
abbrev JD:cO:= [48,49,50,51,52,53,54,55,56,57,97,98,99,100,101,102]
def SR(j:s.size<=100000)(f: ∀g,Fr No h g->R (.S (str (Lib.trimS s.data.toList JD))) g):Cl 39 #[.S s,.string ⟨#[48,49,50,51,52,53,54,55,56,57,97,98,99,100,101,102]⟩] h R:=λw i=>by subst i;exact(Any.strings_Trim_laid Tryz.SQ zzkr s _ w ae bA (ascii_of_all bA)).mono λe a ⟨d,b⟩=>⟨_,d,f _ (jg b).1,(jg b).2⟩
def JE(v:Value):Prop:=v=.nilIface\/∃t p,v=.iface t p
structure Er (h:Heap):Prop where
 s: ∃v,aQ h ⟨1,0,none⟩=some v/\JE v
 r: ∃v,aQ h ⟨2,0,none⟩=some v/\JE v
def Er.on(E:Er h)(f:Fr No h H):Er H:=by obtain⟨⟨v,g,e⟩,⟨u,d,b⟩⟩:=E;exact⟨⟨v,f.cell g id,e⟩,⟨u,f.cell d id,b⟩⟩
def Xu(v:Value)(b:Bool):Prop:=(b=true/\v=.nilIface)\/(b=false/\∃t n,v=.iface t (.pointer (some ⟨n,0,none⟩)))
def x4{t:TypeId}(e:a=Lib.bytesWorld w t s):Fr No w.heap a.heap/\eJ w a:=by subst e;refine⟨?_,by unfold Lib.bytesWorld World.freeze;split<;>exact⟨rfl,rfl,rfl⟩⟩;unfold Lib.bytesWorld;rw[Gm];have E:(w.drew.alloc (.C (Lib.bytesCells w t s) t)).heap=w.heap.push (.C (Lib.bytesCells w t s) t):=rfl;rw[E];unfold oo;split;exact Fr.push _ _;refine⟨bO,λc b _=> ?_⟩;rw[cX,af (by simp;omega),eV,fe]
def oy(s:bC):Int:=match Lib.atoiAll s.data.toList with| .ok v=>v| .range=>Lib.atoiSat s.data.toList|_=>0
def Ib(s:bC):Bool:=match Lib.atoiAll s.data.toList with| .ok _=>true|_=>false
def ME(E:Er h)(m:s.size<=100000)(b: ∀g v,Fr No h g->Xu v (Ib s)->R (.T #[.I (oy s),v]) g):Cl 23 #[.S s] h R:=λw l=>by
 subst l;unfold oy Ib at b;cases q:Lib.atoiAll s.data.toList with
 |ok v=>rw[q]at b;refine(Any.strconv_Atoi_ok Tryz.H0 s ae v q w).mono λe a ⟨f,d⟩=> ?_;rcases d with rfl|⟨t,e⟩;exact⟨_,f,b _ _ (Fr.refl _ _) (.inl ⟨rfl,rfl⟩),eJ.refl _⟩;exact⟨_,f,b _ _ (x4 e).1 (.inl ⟨rfl,rfl⟩),(x4 e).2⟩
 |range=>rw[q]at b;obtain⟨_,⟨j,k,i⟩⟩:=E;exact(Any.strconv_Atoi_range Tryz.H0 s ae q j w (by exact k) i).mono λe a ⟨n,f,_,_,d⟩=>⟨_,f,b _ _ (jg d).1 (.inr ⟨rfl,_,_,rfl⟩),(jg d).2⟩
 |_=>rw[q]at b;obtain⟨⟨j,k,i⟩,_⟩:=E;exact(Any.strconv_Atoi_syntax Tryz.H0 s ae q j w (by exact k) i).mono λe a ⟨n,f,_,_,d⟩=>⟨_,f,b _ _ (jg d).1 (.inr ⟨rfl,_,_,rfl⟩),(jg d).2⟩
def FE(s:bC):Nat:=match Lib.parseUintB 64 s.data.toList with| .ok v=>v| .range=>18446744073709551615|_=>0
def MF(s:bC):Bool:=match Lib.parseUintB 64 s.data.toList with| .ok _=>true|_=>false
def U2(E:Er h)(m:s.size<=100000)(b: ∀g v,Fr No h g->Xu v (MF s)->R (.T #[.U (FE s:Int),v]) g):Cl 93 #[.S s,.I 10,.I 64] h R:=λw l=>by
 subst l;unfold FE MF at b;cases q:Lib.parseUintB 64 s.data.toList with
 |ok v=>rw[q]at b;refine(Any.strconv_ParseUint_10_at64_ok Tryz.Lq s ae v q w).mono λe a ⟨f,d⟩=> ?_;rcases d with rfl|e;exact⟨_,f,b _ _ (Fr.refl _ _) (.inl ⟨rfl,rfl⟩),eJ.refl _⟩;exact⟨_,f,b _ _ (x4 e).1 (.inl ⟨rfl,rfl⟩),(x4 e).2⟩
 |range=>rw[q]at b;obtain⟨_,⟨j,k,i⟩⟩:=E;exact(Any.strconv_ParseUint_10_at64_range Tryz.Lq s ae q j w (by exact k) i).mono λe a ⟨n,f,_,_,d⟩=>⟨_,f,b _ _ (jg d).1 (.inr ⟨rfl,_,_,rfl⟩),(jg d).2⟩
 |_=>rw[q]at b;obtain⟨⟨j,k,i⟩,_⟩:=E;exact(Any.strconv_ParseUint_10_at64_syntax Tryz.Lq s ae q j w (by exact k) i).mono λe a ⟨n,f,_,_,d⟩=>⟨_,f,b _ _ (jg d).1 (.inr ⟨rfl,_,_,rfl⟩),(jg d).2⟩
def MG: ∀(l:cO)(A u:Nat),A<18446744073709551616->Lib.parseUintM (2 ^ 64 - 1) A l=.ok u->u<18446744073709551616
 | [],A,u,b,h=>by simp only[Lib.parseUintM]at h;injection h with h;omega
 |c::r,A,u,b,h=>by simp only[Lib.parseUintM]at h;split at h;split at h;cases h;split at h;cases h;exact MG r _ u ae h;cases h
def Qa(s:bC):FE s<18446744073709551616:=by unfold FE;split;rename_i v e;unfold Lib.parseUintB at e;split at e;cases e;exact MG _ 0 v bA e;decide;decide
def JF(s:bC): -9223372036854775808<=oy s/\oy s<=9223372036854775807:=by
 unfold oy;split;rename_i v e;unfold Lib.atoiAll at e;split at e;cases e;dsimp only at e;split at e;cases e;cases e;split at e
 cases e;split at e
 cases e;injection e with e;subst e;split<;>constructor<;>omega;unfold Lib.atoiSat;split<;>decide;decide
def Xu.eq{v:Value}{b:Bool}(e:Xu v b):NB Tryz.prog 54 v .nilIface b:=by
 rcases e with⟨rfl,rfl⟩|⟨rfl,t,n,rfl⟩;exact λh=>zzkr
 exact λh=>zzkr

end jk
end
section
namespace zK
open jk
variable {n:Nat} {P:Nat->Bool}
def isS(s:bC)(l:cO):Bool:=s.data.toList==l
def eqs(s:bC)(l:cO):(s.toList==(⟨l.toArray⟩:bC).toList)=isS s l:=by rw[toList_data,toList_data];rfl
def XY(s t:bC):(s.toList==t.toList)=isS s t.data.toList:=by rw[toList_data,toList_data];rfl
def iO(v:bC):cO×Bool:=
 if(isS v [99,111,110,110,101,99,116]||(isS v [115,116,101,112]||(isS v [97,110,115,119,101,114]||(isS v [116,97,107,101]||(isS v [110,111,119]||(isS v [108,105,110,101,115]||isS v [106,117,100,103,101]))))))=true then([],true)
 else if(isS v [99,108,111,115,101]||(isS v [111,117,116]||(isS v [116,105,99,107]||isS v [119,97,105,116,115])))=true then([110],true)
 else if isS v [114,117,110]=true then([110,110],true)
 else if isS v [102,101,101,100]=true then([110,98],true)
 else if isS v [97,114,114,105,118,101]=true then([98],true)
 else if isS v [99,114,97,115,104]=true then([107],true)
 else([],false)
def U3(s:bC):Bool:=MF s && (decide (FE s<=2147483648) && isS (str (Lib.decDigits (FE s))) s.data.toList)
def Od(c:UInt8):Bool:= !decide (Lib.indexByte JD c<0)
def FG(s:bC)(i:Nat):UInt8:=s.data.toList.getD i 0
def GM(s:bC)(k:Nat):Bool:=Od (FG s (2*k)) && Od (FG s (2*k+1))
def Ls(s:bC):Bool:=isS s [45]||((List.range (s.size/2)).all (GM s) && (!isS s [] && decide (s.size%2=0)))
def Lt(s:bC)(k:Nat):Bool:=FG s k==48||FG s k==49
def Qb(s:bC):Bool:=isS s [45]||((List.range s.size).all (Lt s) && (!isS s [] && decide (s.size<=64)))
def okW(k:UInt8)(w:bC):Bool:=if k=110 then U3 w else if k=98 then Ls w else Qb w
def ga(s:bC)(i:Nat):bC:=(words s).getD i ⟨#[]⟩
def A4(s:bC):Bool:=(iO (ga s 0)).2 && (decide ((words s).length=(iO (ga s 0)).1.length+1) && (List.range (iO (ga s 0)).1.length).all λi=>okW ((iO (ga s 0)).1.getD i 0) (ga s (i+1)))
def GN(s:bC):Bool:=decide (s.size<=4096) && A4 s
def all_true(h: ∀j,j<n->P j=true):(List.range n).all P=true:=eG.2 λj H=>h j (List.mem_range.1 H)
def all_false{k:Nat}(H:k<n)(h:P k=false):(List.range n).all P=false:=by
 cases e:(List.range n).all P with
 |false=>rfl
 |true=>rw[eG.1 e k (List.mem_range.2 H)]at h;cases h
def Qc(v:bC):(iO v).1.length<=2:=by
 unfold iO;split<;>first|decide|skip
 split<;>first|decide|skip
 split<;>first|decide|skip
 split<;>first|decide|skip
 split<;>first|decide|skip
 split<;>decide
structure BK where
 oz:Bool
 heard:Int
 now:Int
 ml:Int
 l0:Int
 l1:Int
 l2:Int
def CA:BK:=⟨false,0,0,0,0,0,0⟩
def Qd(s:bC):Bool:=Ib s && (!decide (oy s<0) && (isS (str (Lib.itoa (oy s))) s.data.toList && !decide (s.size>18)))
def jw(l:List bC):Option (List Int):=if l.all Qd=true then some (l.map oy)else none
def x6(s:bC):Bool:=isS s [45]||(!isS s [] && (decide (s.size%2=0) && (Lib.trimS s.data.toList JD== [])))
def MH(v:bC):Bool:=isS v [97,110,115,119,101,114]||(isS v [119,97,105,116,115]||(isS v [110,111,119]||(isS v [108,105,110,101,115]||isS v [106,117,100,103,101])))
def Bu(l:List bC)(m:Int):Bool:=match jw l with|some [n]=>decide (n<=m)|_=>false
def zL(l:List bC)(f:Bool):Bool:=
 match l with
 | [a,b,c,d,e,w]=>x6 w && match jw [a,b,c,d,e]with
  |some [X,x,g,h,i]=> !decide (x>99) && ((f||decide (X=0)) && (decide (x=0)||(!(decide (g>0)||(decide (h>0)||decide (i>0))) && isS w [45])))
  |_=>false
 |_=>false
def wr(n:Int):Int:=IntKind.wrap .i64 n
def yY(b:BK)(l t:List bC):BK×Bool:=
 let v:=l.getD 0 ⟨#[]⟩
 if isS v [99,111,110,110,101,99,116]=true then({ b with ml:=wr (b.ml+1) },Bu t (wr (b.ml+1)) && isS (t.getD 0 ⟨#[]⟩) (Lib.itoa (wr (b.ml+1))))
 else if isS v [99,114,97,115,104]=true then({ b with ml:=0 },(jw t).isSome && decide (t.length=1))
 else if isS v [116,105,99,107]=true then({ b with now:=wr (b.now+oy (l.getD 1 ⟨#[]⟩)) },decide (t.length=0))
 else if isS v [115,116,101,112]=true then(b,Bu t 3)
 else if isS v [97,110,115,119,101,114]=true then(b,Bu t 64)
 else if isS v [119,97,105,116,115]=true then(b,Bu t 8)
 else if isS v [110,111,119]=true then(b,decide (t.length=1) && isS (t.getD 0 ⟨#[]⟩) (Lib.itoa b.now))
 else if isS v [111,117,116]=true then(b,decide (t.length=1) && x6 (t.getD 0 ⟨#[]⟩))
 else if(isS v [114,117,110]||(isS v [97,114,114,105,118,101]||isS v [116,97,107,101]))=true then(b,zL t (isS v [114,117,110]))
 else if isS v [108,105,110,101,115]=true then
  match jw t with
  |some [x,X,a]=>if(decide (X>x)||(decide (a>X)||(decide (x<b.l0)||decide (a<b.l2))))=true then(b,false)else({ b with l0:=x,l1:=X,l2:=a },true)
  |_=>(b,false)
 else if isS v [106,117,100,103,101]=true then(b,match jw t with|some [n]=>decide (n≥b.l0)|_=>false)
 else(b,decide (t.length=0))
def pA(b:BK)(l T:bC):BK×Bool:=
 if GN l=true then
  let t:=words T
  if isS (t.getD 0 ⟨#[]⟩) [101,114,114]=true then(b,Bu (t.drop 1) 99 && (!isS (t.getD 1 ⟨#[]⟩) [48] && !MH (ga l 0)))
  else if isS (t.getD 0 ⟨#[]⟩) [111,107]=true then yY b (words l) (t.drop 1)
  else(b,false)
 else(b,isS T [98,97,100])
def gH(b:BK)(x:bC×bC):BK×Bool×Int:=
 if b.oz=true then(b,false,7)
 else
  let r:=pA { b with heard:=wr (b.heard+1) } x.1 x.2
  ({ r.1 with oz:= !r.2 },r.2,0)
def fR:BK->List (bC×bC)->Nat
 |_, []=>0
 |b,x::l=>if(gH b x).2.1=true then fR (gH b x).1 l+1 else 0

end zK
end
section
variable {h:Heap} {R:dH}
variable {w:Nat} {n:Int}
def lR{s:bH}{a S:Nat}(e:ite s.isNone (R (.Z) h) (aT h (.C #[] 5) λb H=>ij (Builtin.append_ #[69,69] 69 #[.L (Sa b 0) 0 0,.L s a S]) H λv d=> ∃c T t,v=.L c T t/\R (.L c T t) d)):Cl 152 #[.L s a S] h R:=aD [] e
def Bv(a:aT h (.C #[.B true,.Z] 423) λb H=>R (.P b 0) H):Cl 217 #[] h R:=aD [] a
def qK (r:ay (λ(s:Bool) c=>ite s (R (.P w 0) c) (∃(I:iT)(m:iW),I n c/\∀a H,I a H->ite (decide (a>127)) (Hl H w 1 λy x u=>aT H (.C #[.int .u8 (wrap .u8 ((vq (wrap .u8 a)|||vq 128).toNat:Int))] 5) λb k=>ij (Builtin.append_ #[69,69] 69 #[.L y x u,.L (Sa b 0) 1 1]) k λv l=> ∃f e T,v=.L f e T/\aI l (AA w 1) (.L f e T) λd=>(I (Int.fdiv a (2 ^ min (toNat 7) (IntKind.bits .u64))) d/\m (Int.fdiv a (2 ^ min (toNat 7) (IntKind.bits .u64))) d<m a H)) (Hl H w 1 λC A z=>aT H (.C #[.int .u8 (wrap .u8 a)] 5) λB o=>ij (Builtin.append_ #[69,69] 69 #[.L C A z,.L (Sa B 0) 1 1]) o λV p=> ∃j i g,V=.L j i g/\aI p (AA w 1) (.L j i g) λq=>R (.P w 0) q))) (λJ=> ∃t,Cc h w 0 (.B t)/\J (!t) h)):Cl 218 #[.P w 0,.U n] h R:=aD [(4,.join [(13,sB)]),(12,.loop [(1,sU)])] r
def qL(a:Cl 218 #[.P w 0,.U (wrap .u64 (if 0>n then 0 else n))] h λv H=> ∃t,v=.Q t/\R (.Q t) H):Cl 219 #[.P w 0,.I n] h R:=aD [] a
def pB{i:Bool}(b:ite i (Cl 218 #[.P w 0,.U 1] h λv H=> ∃t,v=.Q t/\R (.Q t) H) (Cl 218 #[.P w 0,.U 0] h λV a=> ∃T,V=.Q T/\R (.Q T) a)):Cl 300 #[.P w 0,.B i] h R:=aD [] b
def pC{a:bH}{b B:Nat}(k:Cl 218 #[.P w 0,.U (wrap .u64 (b:Int))] h λv c=>Vp v λq=>ay (λ(l:Bool) H=>ay (λf=>R (.P w 0) f) (λj=>ite l (Hl H w 1 λp o m=>ij (Builtin.append_ #[69,69] 69 #[.L p o m,.L a b B]) H λV g=> ∃e d T,V=.L e d T/\aI g (AA w 1) (.L e d T) λi=>j i) (j H))) (λJ=> ∃t,Cc c w 0 (.B t)/\J t c)):Cl 221 #[.P w 0,.L a b B] h R:=aD [(6,.join [(17,sB)]),(7,.join [])] k
def oN(b:Hl h w 1 λe d c=>Cl 152 #[.L e d c] h λv H=> ∃a T t,v=.L a T t/\R (.L a T t) H):Cl 222 #[.P w 0] h R:=aD [] b

end
section
namespace gD
variable {h:Heap} {bs:cO} {R:dH}
variable {p:bH} {n c:Nat}
def tU:jL Tryz.prog 69 5 1 1 (.int .u8 0):=⟨zzkr,zzkr,rfl⟩
def uU:Tryz.prog.underlying 69=some (.slice 5):=zzkr
def u8:Tryz.prog.underlying 5=some (.int .u8):=zzkr
def uS:Tryz.prog.underlying 9=some .string:=zzkr
def conv(a:Row h p (bc bs))(H:n=bs.length):xL Tryz.prog 69 9 (.L p n c) h (str bs):=Jl uU u8 uS a H
def jC(d:Row h p (bc bs))(b:n=bs.length)(e:bs.length<=70368744177664)(a: ∀P C H,Own H P bs.length C 1 (bc bs)->Fr No h H->(∀x,aN P x->h.size<=x)->R (.L P bs.length C) H):
  Cl 152 #[.L p n c] h R:=by
 subst b;exact lR (Gy tU uU bA d (by rw[fO,bJ]) (kY bs) ae ae a)
def U5{C:Array Value}{K:bH->Nat->Nat->cM}(a:C=(bc bs).toArray)(k: ∀H,Row H (Sa h.size 0) (bc bs)->Fr No h H->K (Sa h.size 0) n n H):
  aT h (.C C 5) λb e=>bu Tryz.prog (convert 69 69 (.L (Sa b 0) n n)) e λv f=> ∃(p:bH)(l c:Nat),v=.L p l c/\K p l c f:=by
 subst a;refine bn (Su uU u8 (a:=(AA h.size 0)) aU λd F g s o=>⟨_,_,_,rfl,?_⟩);refine k d (.inr ⟨_,rfl,dy g (λj v i=>by rw[aX];simpa using i)⟩) ⟨by rw[s];simp,λc a _=>by rw[o c (by simp;omega),eV,fe]⟩

end gD
end
section
variable {h:Heap} {R:dH}
variable {n IU KU V7 B f F g0 g1 g g2 o p g5 g6 Xv:Int} {Sd rC rD m t XZ YM y N5 w Lm:bH} {Lu Se rE rF rG rH d j l k r q b X5 X6 YN YO x vw N7 N8 v u Ln Lo:Nat} {s c i g3 g4 Xw Xx:bC} {K:Nat->Heap->Prop} {a:Addr}
def FH(z:aT h (.C #[.I 0,.U 0,.Z,.Z] 368) λb e=>aa.ST e (AA b 0) 0 n none 0 0 none 0 0 λH=>aa.LD H (AA b 0) λA C G E D L J I=>R (.agg #[.I A,.U C,.L G E D,.L L J I]) H):Cl 390 #[.U n] h R:=aD [] z
def Bw(A:aT h (.C #[.I 0,.U 0,.Z,.Z] 368) λb e=>Cl 152 #[.L Sd Lu Se] e λV z=>Vl V λP O T=>aa.ST z (AA b 0) 2 0 P O T none 0 0 λH=>aa.LD H (AA b 0) λC D I G E M L J=>R (.agg #[.I C,.U D,.L I G E,.L M L J]) H):Cl 387 #[.L Sd Lu Se] h R:=aD [] A
def Dr(A:aT h (.C #[.I 0,.U 0,.Z,.Z] 368) λb e=>ij (convert 9 69 (.S s)) e λV z=>Vl V λP O T=>aa.ST z (AA b 0) 3 0 P O T none 0 0 λH=>aa.LD H (AA b 0) λC D I G E M L J=>R (.agg #[.I C,.U D,.L I G E,.L M L J]) H):Cl 461 #[.S s] h R:=aD [] A
def zM(hv:aT h (.C #[.I IU,.U KU,.L rC rE rF,.L rD rG rH] 368) λb l'=>aT l' (.C #[.I 0,.U 0,.Z,.Z] 368) λB M=>Hl M b 2 λa2 a1 a0=>Cl 152 #[.L a2 a1 a0] M λa3 n'=> ∃j' i' h',a3=.L j' i' h'/\aI n' (AA b 2) (.L j' i' h') λO=> ∃S z y',Cc O b 3 (.L S z y')/\aI O (AA b 3) (.Z) λo'=> ∃(I:iT)(Q:iW),I 0 o'/\∀T H,I T H->ite (decide (T<((z:Nat):Int))) (Bd T z/\aJ S λa=>aa.LD H (a.add (toNat T*4)) λz' A' D' C' B' G' F' E'=>aT H (.C #[.I 0,.U 0,.Z,.Z] 368) λE p'=>aa.ST p' (AA E 0) z' A' D' C' B' G' F' E' λe=>Hl e b 3 λD C A=>aa.LD e (AA E 0) λH' I' L' K' J' P' O' M'=>Cl 394 #[.agg #[.I H',.U I',.L L' K' J',.L P' O' M']] e λa4 P=> ∃U V a' Z X d' c' b',a4=.agg #[.I U,.U V,.L a' Z X,.L d' c' b']/\Cc P b 3 (.L D C A)/\aT P (.C #[.I U,.U V,.L a' Z X,.L d' c' b'] 368) λk' G=>Cc G b 3 (.L D C A)/\ij (Builtin.append_ #[366,366] 366 #[.L D C A,.L (Sa k' 0) 1 1]) G λa5 m'=> ∃g' f' e',a5=.L g' f' e'/\aI m' (AA b 3) (.L g' f' e') λJ=>(I (wrap .i64 (T+1)) J/\Q (wrap .i64 (T+1)) J<Q T H)) (aa.LD H (AA b 0) λQ' R' U' T' S' Z' X' V'=>aa.ST H (AA B 0) Q' R' U' T' S' Z' X' V' λL=>aa.LD L (AA B 0) λq' r' u' t' s' x' w' v'=>R (.agg #[.I q',.U r',.L u' t' s',.L x' w' v']) L)):Cl 394 #[.agg #[.I IU,.U KU,.L rC rE rF,.L rD rG rH]] h R:=aD [(12,.loop [(15,sI)]),(23,λ_=>pN 8)] hv
def Ds{O:bH}{L l':Nat}(hv:aT h (.C #[.I 0,.U 0,.Z,.Z] 368) λb g'=>aT g' (.C #[.I 0,.U 0,.Z,.Z] 368) λB h'=>aa.ST h' (AA B 0) 4 0 none 0 0 none 0 0 λi'=> ∃(I:iT)(P:iW),I 0 i'/\∀T H,I T H->ite (decide (T<(L:Int))) (Bd T L/\aJ O λa=>aa.LD H (a.add (toNat T*4)) λu' v' y' x' w' B' A' z'=>aT H (.C #[.I 0,.U 0,.Z,.Z] 368) λD j'=>aa.ST j' (AA D 0) u' v' y' x' w' B' A' z' λe=>Hl e B 3 λC A z=>aa.LD e (AA D 0) λC' D' G' F' E' J' I' H'=>Cl 394 #[.agg #[.I C',.U D',.L G' F' E',.L J' I' H']] e λT' J=> ∃Q S X V U b' a' Z,T'=.agg #[.I Q,.U S,.L X V U,.L b' a' Z]/\Cc J B 3 (.L C A z)/\aT J (.C #[.I Q,.U S,.L X V U,.L b' a' Z] 368) λf' M=>Cc M B 3 (.L C A z)/\ij (Builtin.append_ #[366,366] 366 #[.L C A z,.L (Sa f' 0) 1 1]) M λU' k'=> ∃e' d' c',U'=.L e' d' c'/\aI k' (AA B 3) (.L e' d' c') λE=>(I (wrap .i64 (T+1)) E/\P (wrap .i64 (T+1)) E<P T H)) (aa.LD H (AA B 0) λK' L' P' O' M' S' R' Q'=>aa.ST H (AA b 0) K' L' P' O' M' S' R' Q' λG=>aa.LD G (AA b 0) λm' n' q' p' o' t' s' r'=>R (.agg #[.I m',.U n',.L q' p' o',.L t' s' r']) G)):Cl 327 #[.L O L l'] h R:=aD [(8,.loop [(9,sI)]),(19,λ_=>pN 8)] hv
def la{z:bH}{e A:Nat}(H: ∃(T:bC),xL Tryz.prog 69 9 (.L z e A) h T/\∃(C:bC),xL Tryz.prog 69 9 (.L Sd Lu Se) h C/\R (.B (T.toList==C.toList)) h):Cl 194 #[.L z e A,.L Sd Lu Se] h R:=aD [] H
def Dt{A:Int}{D:bH}{C z:Nat}{I:bH}{G E:Nat}{J:Int}{O:bH}{M L:Nat}{S:bH}{Q P:Nat}(hv:aT h (.C #[.I A,.U V7,.L D C z,.L I G E] 368) λb Z=>aT Z (.C #[.I J,.U B,.L O M L,.L S Q P] 368) λB H=>Hi H b 0 λt6=> ∃X,Cc H B 0 (.I X)/\ite (t6==X) (Hu H b 1 λb'=> ∃T,Cc H B 1 (.U T)/\ite (b'==T) (Hl H b 2 λe' d' c'=>Hl H B 2 λh' g' f'=>Cl 194 #[.L e' d' c',.L h' g' f'] H λo' e=> ∃U,o'=.B U/\ite U (Hl e b 3 λk' j' i'=>Hl e B 3 λn' m' l'=>Cl 398 #[.L k' j' i',.L n' m' l',.func (.func 329) #[] #[]] e λp' a'=> ∃V,p'=.B V/\R (.B V) a') (R (.B false) e)) (R (.B false) H)) (R (.B false) H)):Cl 329 #[.agg #[.I A,.U V7,.L D C z,.L I G E],.agg #[.I J,.U B,.L O M L,.L S Q P]] h R:=aD [] hv
def fS{D:bH}{S P:Nat}{E:bH}{A Q:Nat} (O:ite ((S:Int) !=(A:Int)) (R (.B false) h) (∃(I:iT)(M:iW),I 0 h/\∀T H,I T H->ite (decide (T<(S:Int))) (Bd T S/\aJ D λa=>aa.LD H (a.add (toNat T*4)) λU V a' Z X d' c' b'=>aT H (.C #[.I 0,.U 0,.Z,.Z] 368) λb J=>aa.ST J (AA b 0) U V a' Z X d' c' b' λC=>Bd T A/\aJ E λV7=>aa.LD C (V7.add (toNat T*4)) λe' f' i' h' g' l' k' j'=>aT C (.C #[.I 0,.U 0,.Z,.Z] 368) λB L=>aa.ST L (AA B 0) e' f' i' h' g' l' k' j' λe=>aa.LD e (AA b 0) λm' n' q' p' o' t' s' r'=>aa.LD e (AA B 0) λu' v' y' x' w' B' A' z'=>Cl 329 #[.agg #[.I m',.U n',.L q' p' o',.L t' s' r'],.agg #[.I u',.U v',.L y' x' w',.L B' A' z']] e λC' z=> ∃G,C'=.B G/\ite (!G) (R (.B false) z) ((I (wrap .i64 (T+1)) z/\M (wrap .i64 (T+1)) z<M T H))) (R (.B true) H))):Cl 398 #[.L D S P,.L E A Q,.func (.func 329) #[] #[]] h R:=aD [(14,.loop [(17,sI)])] O
def FI (M:aT h (.C #[.I IU,.U KU,.L rC rE rF,.L rD rG rH] 368) λb H=> ∃T,Cc H b 0 (.I T)/\ite (T==0) (∃e' J d',Cc H b 2 (.L e' J d')/\ite (((J:Nat):Int)==0) (∃P e O,Cc H b 3 (.L P e O)/\R (.B (((e:Nat):Int)==0)) H) (R (.B false) H)) (ite (T==2) (∃z,Cc H b 1 (.U z)/\ite (z==0) (∃S A Q,Cc H b 3 (.L S A Q)/\R (.B (((A:Nat):Int)==0)) H) (R (.B false) H)) (ite (T==3) (∃C,Cc H b 1 (.U C)/\ite (C==0) (∃V D U,Cc H b 3 (.L V D U)/\ite (((D:Nat):Int)==0) (Hl H b 2 λa' Z X=>Cl 513 #[.L a' Z X] H λf' L=> ∃E,f'=.B E/\R (.B E) L) (R (.B false) H)) (R (.B false) H)) (ite (T==4) (∃G,Cc H b 1 (.U G)/\ite (G==0) (∃c' I b',Cc H b 2 (.L c' I b')/\R (.B (((I:Nat):Int)==0)) H) (R (.B false) H)) (R (.B false) H))))):Cl 514 #[.agg #[.I IU,.U KU,.L rC rE rF,.L rD rG rH]] h R:=aD [] M
def Du{D:Int}{left:Int} (S:aT h (.C #[.I IU,.U KU,.L rC rE rF,.L rD rG rH] 368) λb e=>ay (λ(e':Bool) A=>ite e' (R (.I (-1)) A) (Hl A b 3 λf' O y'=> ∃(I:Int->iT)(M:Int->iW),I (wrap .i64 (left - 1)) 0 A/\∀L T H,I L T H->ite (decide (T<(O:Int))) (Bd T O/\aJ f' λa=>aa.LD H (a.add (toNat T*4)) λg' h' k' j' i' n' m' l'=>aT H (.C #[.I 0,.U 0,.Z,.Z] 368) λB P=>aa.ST P (AA B 0) g' h' k' j' i' n' m' l' λE=>aa.LD E (AA B 0) λo' p' s' r' q' v' u' t'=>Cl 457 #[.agg #[.I o',.U p',.L s' r' q',.L v' u' t'],.I (wrap .i64 (D+1)),.I L] E λw' C=> ∃z,w'=.I z/\ite (decide (z<0)) (R (.I (-1)) C) ((I z (wrap .i64 (T+1)) C/\M z (wrap .i64 (T+1)) C<M L T H))) (R (.I L) H))) (λJ=>ite (decide (D>6)) (J true e) (ite (decide (left<1)) (J true e) (aa.LD e (AA b 0) λU V a' Z X d' c' b'=>Cl 514 #[.agg #[.I U,.U V,.L a' Z X,.L d' c' b']] e λx' Q=> ∃G,x'=.B G/\J (!G) Q)))):Cl 457 #[.agg #[.I IU,.U KU,.L rC rE rF,.L rD rG rH],.I D,.I left] h R:=aD [(4,.join [(19,sB)]),(16,.loop [(2,sI),(25,sI)])] S
def By(z:aT h (.C #[.I IU,.U KU,.L rC rE rF,.L rD rG rH] 368) λb H=>aa.LD H (AA b 0) λA C G E D L J I=>Cl 457 #[.agg #[.I A,.U C,.L G E D,.L L J I],.I 1,.I 256] H λV e=> ∃T,V=.I T/\R (.B (decide (T≥0))) e):Cl 385 #[.agg #[.I IU,.U KU,.L rC rE rF,.L rD rG rH]] h R:=aD [] z
def FJ{c':bH}{b' a':Nat} (hv:aT h (.C #[.I IU,.U KU,.L rC rE rF,.L rD rG rH] 368) λb z=>Hu z b 1 λs'=>Hi z b 0 λD=>ay (λ(n:Int) Q=>Hi Q b 0 λy'=>Cl 469 #[.agg #[.I y',.U n,.B false]] Q λa0 S=> ∃h' g' f' z',a0=.T #[.L h' g' f',.I z']/\Hl S b 2 λk' j' i'=>ij (Builtin.append_ #[69,69] 69 #[.L c' b' a',.L h' g' f']) S λa1 U=>Vl a1 λC' B' A'=>Cc U b 2 (.L k' j' i')/\ij (Builtin.append_ #[69,69] 69 #[.L C' B' A',.L k' j' i']) U λa2 V=>Vl a2 λF' E' D'=>Hl V b 3 λG' l' a4=> ∃(I:bH->Nat->Nat->iT)(mu:bH->Nat->Nat->iW),I F' E' D' 0 V/\∀C A O T e,I C A O T e->ite (decide (T<(l':Int))) (Bd T l'/\aJ G' λa=>aa.LD e (a.add (toNat T*4)) λH' I' L' K' J' P' O' M'=>aT e (.C #[.I 0,.U 0,.Z,.Z] 368) λB p'=>aa.ST p' (AA B 0) H' I' L' K' J' P' O' M' λX=>aa.LD X (AA B 0) λQ' R' U' T' S' Z' X' V'=>Cl 402 #[.L C A O,.agg #[.I Q',.U R',.L U' T' S',.L Z' X' V']] X λa3 Z=> ∃J G E,a3=.L J G E/\(I J G E (wrap .i64 (T+1)) Z/\mu J G E (wrap .i64 (T+1)) Z<mu C A O T e)) (R (.L C A O) e)) (λm'=>ay (λ(t':Bool) H=>ay (λ(q':Int) n'=>m' q' n') (λM=>ite t' (∃v' d' u',Cc H b 2 (.L v' d' u')/\M (wrap .u64 ((d':Nat):Int)) H) (ay (λ(r':Int) o'=>M r' o') (λP=>ite (D==4) (∃x' e' w',Cc H b 3 (.L x' e' w')/\P (wrap .u64 ((e':Nat):Int)) H) (P s' H))))) (λL=>ite (D==2) (L (D==2) z) (L (D==3) z)))):Cl 402 #[.L c' b' a',.agg #[.I IU,.U KU,.L rC rE rF,.L rD rG rH]] h R:=aD [(7,.join [(5,sU)]),(11,.join [(14,sB)]),(14,.join [(5,sU)]),(18,.join [(5,sU)]),(24,λ_=> .pn (mL [0,1,3,4,2,5,6] .done)),(29,.loop [(0,sS),(44,sI)])] hv
def Bz(E:aT h (.C #[.I IU,.U KU,.L rC rE rF,.L rD rG rH] 368) λb e=>aa.LD e (AA b 0) λG I M L J Q P O=>Cl 385 #[.agg #[.I G,.U I,.L M L J,.L Q P O]] e λd' H=> ∃T,d'=.B T/\ite (!T) (R (.T #[.Z,.I 3]) H) (aa.LD H (AA b 0) λS U Z X V c' b' a'=>Cl 402 #[.Z,.agg #[.I S,.U U,.L Z X V,.L c' b' a']] H λe' D=> ∃C A z,e'=.L C A z/\R (.T #[.L C A z,.I 0]) D)):Cl 333 #[.agg #[.I IU,.U KU,.L rC rE rF,.L rD rG rH]] h R:=aD [] E
def eO.ex{K:eO.S->Prop}(X:eO.S)(H:K X):eO.EX K:=⟨_,_,_,_,H⟩
abbrev cL.ff(h:Heap)(b:Nat)(X:cL.S):Prop:=h[b]? =some (.cells X.arr 341 (0,0))
def cL.ex{K:cL.S->Prop}(X:cL.S)(H:K X):cL.EX K:=⟨_,_,_,_,_,_,_,_,_,_,_,_,_,_,_,_,_,_,H⟩
def x8{s:au.S}(P:aT h (.C s.arr 337) λb G=>Cl 294 #[.P d 0] G λV I=>aO.EX λz=>aO.EX λA=> ∃Q,V=.T #[z.agg,A.agg,.I Q]/\aO.NW I λB J=>aO.NW J λe L=>aO.cR L (AA B 0) z λM=>aO.cR M (AA e 0) A λH=>aO.ck H (AA B 0) λC=>aO.ck H (AA e 0) λD=>au.ck H (AA b 0) λT=>aT H (.C #[.P d 0,.I C.f0,.I C.f1,.I D.f0,.I D.f1,.U T.f0,.I T.f1,.I T.f2,.Z,.I 0,.I 0,.I 0,.I 0,.I 0,.I 0,.I 0] 341) λE O=>R (.P E 0) O):Cl 286 #[.P d 0,s.agg] h R:=aD [] P
def vF(G:Cl 83 #[.P d 0] h λV H=> ∃D,V=.I D/\ite (D==0) (R (.T #[.Q none,.I 6]) H) (Cl 286 #[.P d 0,.agg #[.U 1,.I 0,.I 0]] H λJ e=>Vp J λA=>aJ A λa=>au.ck e (a.add 5) λI=>Cl 296 #[.P d 0,I.agg] e λL z=> ∃T,L=.I T/\ite (T !=0) (R (.T #[.Q none,.I T]) z) (Cl 297 #[.P d 0] z λM E=> ∃C,M=.I C/\R (.T #[.Q A,.I C]) E))):Cl 216 #[.P d 0] h R:=aD [] G
def rU (H:ite (decide ((Lu:Int)≥1)) (R (.B (decide ((Lu:Int)<=2000))) h) (R (.B false) h)):Cl 227 #[.L Sd Lu Se] h R:=aD [] H
def wP (C:aT h (.C #[.int .u8 (wrap .u8 (Int.fdiv (Lu:Int) (2 ^ min (toNat 8) (IntKind.bits .i64)))),.int .u8 (wrap .u8 (Lu:Int))] 5) λb H=>ij (Builtin.append_ #[69,69] 69 #[.L (Sa b 0) 2 2,.L Sd Lu Se]) H λV A=> ∃z e T,V=.L z e T/\R (.L z e T) A):Cl 228 #[.L Sd Lu Se] h R:=aD [] C
def nU(H: ∃T,Cc h j 0 (.Q T)/\R (.B (!T.isNone)) h):Cl 226 #[.P j 0] h R:=aD [] H
def nV(z:Cl 226 #[.P j 0] h λV H=> ∃T,V=.B T/\ite (!T) (R (.I 0) H) (∃e,Cc H j 15 (.I e)/\R (.I e) H)):Cl 180 #[.P j 0] h R:=aD [] z
def nW (H: ∃z,Cc h j 13 (.I z)/\ite (z !=0) (Hi h j 9 λA=>Hi h j 11 λC=> ∃E T D,Cc h j 8 (.L E T D)/\R (.T #[.I A,.I (wrap .i64 (C+((T:Nat):Int)))]) h) (Hi h j 6 λG=>Hi h j 7 λI=> ∃L e J,Cc h j 8 (.L L e J)/\R (.T #[.I G,.I (wrap .i64 (I+((e:Nat):Int)))]) h)):Cl 301 #[.P j 0] h R:=aD [(7,λ_=>pK 18),(11,λ_=>pK 18)] H
def nY (G:ay (λ(I:Bool) e=>ite I (R (.B false) e) (Cl 301 #[.P j 0] e λV z=> ∃T A,V=.T #[.I T,.I A]/\Bd T 2/\aO.ck z (((AA j 1):Addr).add (toNat T*2)) λL=>Cl 295 #[L.agg] z λM E=> ∃C,M=.I C/\R (.B (decide ((wrap .i64 (n+2))<=(wrap .i64 (C - A))))) E)) (λJ=>Cl 226 #[.P j 0] h λO H=> ∃D,O=.B D/\ite (!D) (J true H) (ite (decide (n<1)) (J true H) (J (decide (n>2000)) H)))):Cl 223 #[.P j 0,.I n] h R:=aD [(4,.join [(17,sB)])] G
def mE (V:Cl 226 #[.P j 0] h λb' e=> ∃S,b'=.B S/\ite (!S) (R (.T #[.I 0,.I 6]) e) (Cl 227 #[.L Sd Lu Se] e λc' z=> ∃T,c'=.B T/\ite (!T) (R (.T #[.I 0,.I 1]) z) (Cl 223 #[.P j 0,.I (Lu:Int)] z λd' H=> ∃E,d'=.B E/\ite (!E) (R (.T #[.I 0,.I 5]) H) (Hl H j 8 λa' Z X=>Cl 228 #[.L Sd Lu Se] H λe' A=> ∃J I G,e'=.L J I G/\Kp H A [(Sa j 8)]/\ij (Builtin.append_ #[69,69] 69 #[.L a' Z X,.L J I G]) A λf' U=> ∃O M L,f'=.L O M L/\aI U (AA j 8) (.L O M L) λC=> ∃P,Cc C j 14 (.I P)/\aI C (AA j 14) (.I (wrap .i64 (P+1))) λD=> ∃Q,Cc D j 14 (.I Q)/\R (.T #[.I Q,.I 0]) D)))):Cl 156 #[.P j 0,.L Sd Lu Se] h R:=aD [(24,λ_=>pK 11)] V
def nZ (hv:Cl 226 #[.P j 0] h λu' H=> ∃M,u'=.B M/\ite (!M) (R (.T #[.I 0,.I 6]) H) (Hi H j 13 λT=>ay (λ(e:Int) D=> ∃P,Cc D j 13 (.I P)/\R (.T #[.I P,.I e]) D) (λJ=>ay (λ(Q:Int) a'=>J Q a') (λz=>ite (T==0) (∃j' G i',Cc H j 8 (.L j' G i')/\ite (((G:Nat):Int)==0) (R (.T #[.I 0,.I 4]) H) (Hi H j 6 λk'=>Hi H j 7 λl'=>Hl H j 8 λo' n' m'=>Cl 302 #[.P j 0,.I k',.I l',.L o' n' m'] H λv' b'=> ∃I,v'=.I I/\z I b')) (ay (λ(S:Int) c'=>z S c') (λA=>ite (T==1) (Hp H j 0 λp'=>Cl 297 #[.Q p'] H λw' d'=> ∃L,w'=.I L/\aI d' (AA j 13) (.I 2) λe'=>A L e') (ay (λ(U:Int) f'=>A U f') (λC=>ite (T==2) (Hp H j 0 λq'=>Hu H j 5 λr'=>Hi H j 9 λs'=>Hi H j 11 λt'=>Cl 296 #[.Q q',.agg #[.U (wrap .u64 (r'+1)),.I s',.I t']] H λx' E=> ∃O,x'=.I O/\Kp H E [(Sa j 11),(Sa j 9),(Sa j 5)]/\aI E (AA j 13) (.I 3) λV=>C O V) (Hp H j 0 λg'=>Cl 297 #[.Q g'] H λy' X=>Vi y' λh'=>Cl 313 #[.P j 0] X λz' Z=>z'=.T #[]/\C h' Z))))))))):Cl 233 #[.P j 0] h R:=aD [(15,.join [(4,sI)]),(18,.join [(4,sI)]),(27,λ_=>pK 17),(30,.join [(4,sI)]),(36,.join [(4,sI)]),(38,λ_=>pK 23)] hv
def aa.at(h:Heap)(b:Nat)(f:Int)(F:Int)(m:bH)(l k:Nat)(t:bH)(r q:Nat):Prop:=h[b]? =some (.cells #[.int .i64 f,.int .u64 F,.slice m l k,.slice t r q] 368 (0,0))
def aa.vy{K:Int->Int->bH->Nat->Nat->bH->Nat->fZ}(H:cz a [.I f,.U F,.L m l k,.L t r q] 0 h)(e:K f F m l k t r q):aa.LD h a K:=by obtain⟨Q,z,A,C,_⟩:=H;rw[cA]at Q;exact⟨_,Q,_,z,_,_,_,A,_,_,_,C,e⟩
def aa.held(H:aa.at h b f F m l k t r q):cz (AA b 0) [.I f,.U F,.L m l k,.L t r q] 0 h:=
 dy H (λj V e=>by rw[aX];simpa using e)
def aa.ld{K:Int->Int->bH->Nat->Nat->bH->Nat->fZ}(H:aa.at h b f F m l k t r q)(e:K f F m l k t r q):aa.LD h (AA b 0) K:=vy (held H) e
def aa.Oe{K:cM}(H:cQ a [.I f,.U F,.L m l k,.L t r q] 0 h K):aa.ST h a f F m l k t r q K:=H
def aa.new(z: ∀b H,b=h.size->aa.at H b f F m l k t r q->Fr No h H->K b H):aT h (.C #[.I 0,.U 0,.Z,.Z] 368) λb e=>aa.ST e (AA b 0) f F m l k t r q (K b):=
 fL (vs:= [.I f,.U F,.L m l k,.L t r q]) rfl rfl z
def aa.box(z: ∀b H,b=h.size->aa.at H b f F m l k t r q->Fr No h H->K b H):aT h (.C #[.I f,.U F,.L m l k,.L t r q] 368) λb e=>K b e:=
 bn (z _ _ rfl aU (Fr.push _ _))
def aa.set{K:cM}(A:aa.at h b g0 g1 XZ X5 X6 YM YN YO)(e: ∀H,aa.at H b f F m l k t r q->H.size=h.size->(∀X,X≠b->H[X]? =h[X]?)->K H):aa.ST h (AA b 0) f F m l k t r q K:=
 aa.Oe (dM A rfl rfl e)
def bp.at(h:Heap)(b:Nat)(f:Int)(F:Int)(g:Bool):Prop:=h[b]? =some (.cells #[.int .i64 f,.int .u64 F,.bool g] 531 (0,0))
def bp.vy{g:Bool}{K:Int->Int->Bool->Prop}(H:cz a [.I f,.U F,.B g] 0 h)(e:K f F g):bp.LD h a K:=by obtain⟨Q,z,A,_⟩:=H;rw[cA]at Q;exact⟨_,Q,_,z,_,A,e⟩
def bp.held{g:Bool}(H:bp.at h b f F g):cz (AA b 0) [.I f,.U F,.B g] 0 h:=
 dy H (λj V e=>by rw[aX];simpa using e)
def bp.ld{g:Bool}{K:Int->Int->Bool->Prop}(H:bp.at h b f F g)(e:K f F g):bp.LD h (AA b 0) K:=vy (held H) e
def bp.Oe{g:Bool}{K:cM}(H:cQ a [.I f,.U F,.B g] 0 h K):bp.ST h a f F g K:=H
def bp.new{g:Bool}(z: ∀b H,b=h.size->bp.at H b f F g->Fr No h H->K b H):aT h (.C #[.I 0,.U 0,.B false] 531) λb e=>bp.ST e (AA b 0) f F g (K b):=
 fL (vs:= [.I f,.U F,.B g]) rfl rfl z
def bp.box{g:Bool}(z: ∀b H,b=h.size->bp.at H b f F g->Fr No h H->K b H):aT h (.C #[.I f,.U F,.B g] 531) λb e=>K b e:=
 bn (z _ _ rfl aU (Fr.push _ _))
def bp.set{g2:Bool}{g:Bool}{K:cM}(A:bp.at h b g0 g1 g2)(e: ∀H,bp.at H b f F g->H.size=h.size->(∀X,X≠b->H[X]? =h[X]?)->K H):bp.ST h (AA b 0) f F g K:=
 bp.Oe (dM A rfl rfl e)
def aB.at(h:Heap)(b:Nat)(f:Bool)(F:Int)(g:Int)(c:bC)(i:bC)(o:Int)(p:Int):Prop:=h[b]? =some (.cells #[.bool f,.int .u64 F,.int .u64 g,.string c,.string i,.int .u64 o,.int .u64 p] 272 (0,0))
def aB.vy{f:Bool}{K:Bool->Int->Int->bC->bC->Int->Int->Prop}(H:cz a [.B f,.U F,.U g,.S c,.S i,.U o,.U p] 0 h)(e:K f F g c i o p):aB.LD h a K:=by obtain⟨Q,z,A,C,D,E,G,_⟩:=H;rw[cA]at Q;exact⟨_,Q,_,z,_,A,_,C,_,D,_,E,_,G,e⟩
def aB.held{f:Bool}(H:aB.at h b f F g c i o p):cz (AA b 0) [.B f,.U F,.U g,.S c,.S i,.U o,.U p] 0 h:=
 dy H (λj V e=>by rw[aX];simpa using e)
def aB.ld{f:Bool}{K:Bool->Int->Int->bC->bC->Int->Int->Prop}(H:aB.at h b f F g c i o p)(e:K f F g c i o p):aB.LD h (AA b 0) K:=vy (held H) e
def aB.Oe{f:Bool}{K:cM}(H:cQ a [.B f,.U F,.U g,.S c,.S i,.U o,.U p] 0 h K):aB.ST h a f F g c i o p K:=H
def aB.new{f:Bool}(z: ∀b H,b=h.size->aB.at H b f F g c i o p->Fr No h H->K b H):aT h (.C #[.B false,.U 0,.U 0,.S (⟨#[]⟩:bC),.S (⟨#[]⟩:bC),.U 0,.U 0] 272) λb e=>aB.ST e (AA b 0) f F g c i o p (K b):=
 fL (vs:= [.B f,.U F,.U g,.S c,.S i,.U o,.U p]) rfl rfl z
def aB.box{f:Bool}(z: ∀b H,b=h.size->aB.at H b f F g c i o p->Fr No h H->K b H):aT h (.C #[.B f,.U F,.U g,.S c,.S i,.U o,.U p] 272) λb e=>K b e:=
 bn (z _ _ rfl aU (Fr.push _ _))
def aB.set{g0:Bool}{f:Bool}{K:cM}(A:aB.at h b g0 g1 g2 g3 g4 g5 g6)(e: ∀H,aB.at H b f F g c i o p->H.size=h.size->(∀X,X≠b->H[X]? =h[X]?)->K H):aB.ST h (AA b 0) f F g c i o p K:=
 aB.Oe (dM A rfl rfl e)
def aR.at(h:Heap)(b:Nat)(f:Int)(F:Int)(m:bH)(l k:Nat)(c:Int):Prop:=h[b]? =some (.cells #[.int .i64 f,.int .i64 F,.slice m l k,.int .u64 c] 434 (0,0))
def aR.vy{c:Int}{K:Int->Int->bH->Nat->Nat->Int->Prop}(H:cz a [.I f,.I F,.L m l k,.U c] 0 h)(e:K f F m l k c):aR.LD h a K:=by obtain⟨Q,z,A,C,_⟩:=H;rw[cA]at Q;exact⟨_,Q,_,z,_,_,_,A,_,C,e⟩
def aR.held{c:Int}(H:aR.at h b f F m l k c):cz (AA b 0) [.I f,.I F,.L m l k,.U c] 0 h:=
 dy H (λj V e=>by rw[aX];simpa using e)
def aR.ld{c:Int}{K:Int->Int->bH->Nat->Nat->Int->Prop}(H:aR.at h b f F m l k c)(e:K f F m l k c):aR.LD h (AA b 0) K:=vy (held H) e
def aR.Oe{c:Int}{K:cM}(H:cQ a [.I f,.I F,.L m l k,.U c] 0 h K):aR.ST h a f F m l k c K:=H
def aR.new{c:Int}(z: ∀b H,b=h.size->aR.at H b f F m l k c->Fr No h H->K b H):aT h (.C #[.I 0,.I 0,.Z,.U 0] 434) λb e=>aR.ST e (AA b 0) f F m l k c (K b):=
 fL (vs:= [.I f,.I F,.L m l k,.U c]) rfl rfl z
def aR.box{c:Int}(z: ∀b H,b=h.size->aR.at H b f F m l k c->Fr No h H->K b H):aT h (.C #[.I f,.I F,.L m l k,.U c] 434) λb e=>K b e:=
 bn (z _ _ rfl aU (Fr.push _ _))
def aR.set{g3:Int}{c:Int}{K:cM}(A:aR.at h b g0 g1 XZ X5 X6 g3)(e: ∀H,aR.at H b f F m l k c->H.size=h.size->(∀X,X≠b->H[X]? =h[X]?)->K H):aR.ST h (AA b 0) f F m l k c K:=
 aR.Oe (dM A rfl rfl e)
def dL.at(h:Heap)(b:Nat)(f:Int)(y:bH)(x vw:Nat):Prop:=h[b]? =some (.cells #[.int .u64 f,.slice y x vw] 240 (0,0))
def dL.vy{K:Int->bH->Nat->fZ}(H:cz a [.U f,.L y x vw] 0 h)(e:K f y x vw):dL.LD h a K:=by obtain⟨Q,z,_⟩:=H;rw[cA]at Q;exact⟨_,Q,_,_,_,z,e⟩
def dL.new(z: ∀b H,b=h.size->dL.at H b f y x vw->Fr No h H->K b H):aT h (.C #[.U 0,.Z] 240) λb e=>dL.ST e (AA b 0) f y x vw (K b):=
 fL (vs:= [.U f,.L y x vw]) rfl rfl z
def cg.at(h:Heap)(b:Nat)(f:Int)(F:Int)(g:Bool)(c:Bool)(N5:bH)(N7 N8:Nat)(w:bH)(v u:Nat):Prop:=h[b]? =some (.cells #[.int .i64 f,.int .u64 F,.bool g,.bool c,.slice N5 N7 N8,.slice w v u] 166 (0,0))
def cg.vy{g:Bool}{c:Bool}{K:Int->Int->Bool->Bool->bH->Nat->Nat->bH->Nat->fZ}(H:cz a [.I f,.U F,.B g,.B c,.L N5 N7 N8,.L w v u] 0 h)(e:K f F g c N5 N7 N8 w v u):cg.LD h a K:=by obtain⟨Q,z,A,C,D,E,_⟩:=H;rw[cA]at Q;exact⟨_,Q,_,z,_,A,_,C,_,_,_,D,_,_,_,E,e⟩
def cg.held{g:Bool}{c:Bool}(H:cg.at h b f F g c N5 N7 N8 w v u):cz (AA b 0) [.I f,.U F,.B g,.B c,.L N5 N7 N8,.L w v u] 0 h:=
 dy H (λj V e=>by rw[aX];simpa using e)
def cg.ld{g:Bool}{c:Bool}{K:Int->Int->Bool->Bool->bH->Nat->Nat->bH->Nat->fZ}(H:cg.at h b f F g c N5 N7 N8 w v u)(e:K f F g c N5 N7 N8 w v u):cg.LD h (AA b 0) K:=vy (held H) e
def cg.new{g:Bool}{c:Bool}(z: ∀b H,b=h.size->cg.at H b f F g c N5 N7 N8 w v u->Fr No h H->K b H):aT h (.C #[.I 0,.U 0,.B false,.B false,.Z,.Z] 166) λb e=>cg.ST e (AA b 0) f F g c N5 N7 N8 w v u (K b):=
 fL (vs:= [.I f,.U F,.B g,.B c,.L N5 N7 N8,.L w v u]) rfl rfl z
def aw.at(h:Heap)(b:Nat)(f:Bool)(F:Int)(g:Int)(c:bC)(i:bC):Prop:=h[b]? =some (.cells #[.bool f,.int .u64 F,.int .u64 g,.string c,.string i] 64 (0,0))
def aw.vy{f:Bool}{K:Bool->Int->Int->bC->bC->Prop}(H:cz a [.B f,.U F,.U g,.S c,.S i] 0 h)(e:K f F g c i):aw.LD h a K:=by obtain⟨Q,z,A,C,D,_⟩:=H;rw[cA]at Q;exact⟨_,Q,_,z,_,A,_,C,_,D,e⟩
def aw.held{f:Bool}(H:aw.at h b f F g c i):cz (AA b 0) [.B f,.U F,.U g,.S c,.S i] 0 h:=
 dy H (λj V e=>by rw[aX];simpa using e)
def aw.ld{f:Bool}{K:Bool->Int->Int->bC->bC->Prop}(H:aw.at h b f F g c i)(e:K f F g c i):aw.LD h (AA b 0) K:=vy (held H) e
def aw.box{f:Bool}(z: ∀b H,b=h.size->aw.at H b f F g c i->Fr No h H->K b H):aT h (.C #[.B f,.U F,.U g,.S c,.S i] 64) λb e=>K b e:=
 bn (z _ _ rfl aU (Fr.push _ _))
def bX.at(h:Heap)(b:Nat)(f:Bool)(F:Int)(g:Int)(c:bC)(i:bC)(o:Int)(p:Int):Prop:=h[b]? =some (.cells #[.bool f,.int .u64 F,.int .u64 g,.string c,.string i,.int .i64 o,.int .i64 p] 479 (0,0))
def bX.vy{f:Bool}{K:Bool->Int->Int->bC->bC->Int->Int->Prop}(H:cz a [.B f,.U F,.U g,.S c,.S i,.I o,.I p] 0 h)(e:K f F g c i o p):bX.LD h a K:=by obtain⟨Q,z,A,C,D,E,G,_⟩:=H;rw[cA]at Q;exact⟨_,Q,_,z,_,A,_,C,_,D,_,E,_,G,e⟩
def bX.held{f:Bool}(H:bX.at h b f F g c i o p):cz (AA b 0) [.B f,.U F,.U g,.S c,.S i,.I o,.I p] 0 h:=
 dy H (λj V e=>by rw[aX];simpa using e)
def bX.ld{f:Bool}{K:Bool->Int->Int->bC->bC->Int->Int->Prop}(H:bX.at h b f F g c i o p)(e:K f F g c i o p):bX.LD h (AA b 0) K:=vy (held H) e
def bX.Oe{f:Bool}{K:cM}(H:cQ a [.B f,.U F,.U g,.S c,.S i,.I o,.I p] 0 h K):bX.ST h a f F g c i o p K:=H
def bX.new{f:Bool}(z: ∀b H,b=h.size->bX.at H b f F g c i o p->Fr No h H->K b H):aT h (.C #[.B false,.U 0,.U 0,.S (⟨#[]⟩:bC),.S (⟨#[]⟩:bC),.I 0,.I 0] 479) λb e=>bX.ST e (AA b 0) f F g c i o p (K b):=
 fL (vs:= [.B f,.U F,.U g,.S c,.S i,.I o,.I p]) rfl rfl z
def bX.box{f:Bool}(z: ∀b H,b=h.size->bX.at H b f F g c i o p->Fr No h H->K b H):aT h (.C #[.B f,.U F,.U g,.S c,.S i,.I o,.I p] 479) λb e=>K b e:=
 bn (z _ _ rfl aU (Fr.push _ _))
def bX.set{g0:Bool}{f:Bool}{K:cM}(A:bX.at h b g0 g1 g2 g3 g4 g5 g6)(e: ∀H,bX.at H b f F g c i o p->H.size=h.size->(∀X,X≠b->H[X]? =h[X]?)->K H):bX.ST h (AA b 0) f F g c i o p K:=
 bX.Oe (dM A rfl rfl e)
def eL.at(h:Heap)(b:Nat)(f:Int)(F:Bool)(g:Int)(c:Int)(i:bC)(o:bC)(A:bH)(z e:Nat)(C:Int)(D:Int)(E:Int):Prop:=h[b]? =some (.cells #[.int .i64 f,.bool F,.int .u64 g,.int .u64 c,.string i,.string o,.slice A z e,.int .u64 C,.int .i64 D,.int .u64 E] 560 (0,0))
def ag.at(h:Heap)(b:Nat)(f:Int)(F:Int)(g:Int)(c:Int)(i:Int)(w:bH)(v u:Nat):Prop:=h[b]? =some (.cells #[.int .u64 f,.int .i64 F,.int .i64 g,.int .i64 c,.int .u64 i,.slice w v u] 110 (0,0))
def ag.vy{c:Int}{i:Int}{K:Int->Int->Int->Int->Int->bH->Nat->fZ}(H:cz a [.U f,.I F,.I g,.I c,.U i,.L w v u] 0 h)(e:K f F g c i w v u):ag.LD h a K:=by obtain⟨Q,z,A,C,D,E,_⟩:=H;rw[cA]at Q;exact⟨_,Q,_,z,_,A,_,C,_,D,_,_,_,E,e⟩
def ag.held{c:Int}{i:Int}(H:ag.at h b f F g c i w v u):cz (AA b 0) [.U f,.I F,.I g,.I c,.U i,.L w v u] 0 h:=
 dy H (λj V e=>by rw[aX];simpa using e)
def ag.ld{c:Int}{i:Int}{K:Int->Int->Int->Int->Int->bH->Nat->fZ}(H:ag.at h b f F g c i w v u)(e:K f F g c i w v u):ag.LD h (AA b 0) K:=vy (held H) e
def ag.new{c:Int}{i:Int}(z: ∀b H,b=h.size->ag.at H b f F g c i w v u->Fr No h H->K b H):aT h (.C #[.U 0,.I 0,.I 0,.I 0,.U 0,.Z] 110) λb e=>ag.ST e (AA b 0) f F g c i w v u (K b):=
 fL (vs:= [.U f,.I F,.I g,.I c,.U i,.L w v u]) rfl rfl z
def ag.box{c:Int}{i:Int}(z: ∀b H,b=h.size->ag.at H b f F g c i w v u->Fr No h H->K b H):aT h (.C #[.U f,.I F,.I g,.I c,.U i,.L w v u] 110) λb e=>K b e:=
 bn (z _ _ rfl aU (Fr.push _ _))
def cu.at(h:Heap)(b:Nat)(Lm:bH)(Ln Lo:Nat)(y:bH)(x vw:Nat)(m:bH)(l k:Nat)(t:bH)(r q:Nat):Prop:=h[b]? =some (.cells #[.slice Lm Ln Lo,.slice y x vw,.slice m l k,.slice t r q] 386 (0,0))
def cu.held(H:cu.at h b Lm Ln Lo y x vw m l k t r q):cz (AA b 0) [.L Lm Ln Lo,.L y x vw,.L m l k,.L t r q] 0 h:=
 dy H (λj V e=>by rw[aX];simpa using e)
def cu.Oe{K:cM}(H:cQ a [.L Lm Ln Lo,.L y x vw,.L m l k,.L t r q] 0 h K):cu.ST h a Lm Ln Lo y x vw m l k t r q K:=H
def cu.new(z: ∀b H,b=h.size->cu.at H b Lm Ln Lo y x vw m l k t r q->Fr No h H->K b H):aT h (.C #[.Z,.Z,.Z,.Z] 386) λb e=>cu.ST e (AA b 0) Lm Ln Lo y x vw m l k t r q (K b):=
 fL (vs:= [.L Lm Ln Lo,.L y x vw,.L m l k,.L t r q]) rfl rfl z
def cu.box(z: ∀b H,b=h.size->cu.at H b Lm Ln Lo y x vw m l k t r q->Fr No h H->K b H):aT h (.C #[.L Lm Ln Lo,.L y x vw,.L m l k,.L t r q] 386) λb e=>K b e:=
 bn (z _ _ rfl aU (Fr.push _ _))
def cu.set{z:bH}{e G:Nat}{E:bH}{D C:Nat}{K:cM}(A:cu.at h b z e G E D C XZ X5 X6 YM YN YO)(I: ∀H,cu.at H b Lm Ln Lo y x vw m l k t r q->H.size=h.size->(∀X,X≠b->H[X]? =h[X]?)->K H):cu.ST h (AA b 0) Lm Ln Lo y x vw m l k t r q K:=
 cu.Oe (dM A rfl rfl I)
def vG (E:ij (Instr.range 9 (.S s)) h λO D=> ∃(A:Nat),O=.P A 0/\∃(I:cM)(M:Heap->Nat),I D/\∀e,I e->ij (Instr.next (.P A 0) true 0) e λV H=>(V=.T #[.B false]/\R (.B true) H)\/(∃(L C:Value),V=.T #[.B true,L,C]/\∃T,C=.int .i32 T/\ay (λ(G:Bool) z=>ite G (R (.B false) z) ((I z/\M z<M e))) (λJ=>ite (decide (T<97)) (ite (decide (T<48)) (ite (T !=45) (J (T !=45) H) (J false H)) (ite (decide (T>57)) (ite (T !=45) (J (T !=45) H) (J false H)) (J false H))) (ite (decide (T>122)) (ite (decide (T<48)) (ite (T !=45) (J (T !=45) H) (J false H)) (ite (decide (T>57)) (ite (T !=45) (J (T !=45) H) (J false H)) (J false H))) (J false H))))):Cl 148 #[.S s,.int .i32 45] h R:=aD [(6,.loop []),(15,λ_=> .typed [(11,.one (.int .i32))]),(17,.join [(34,sB)])] E
def tX (E:ij (Instr.range 9 (.S s)) h λO D=> ∃(A:Nat),O=.P A 0/\∃(I:cM)(M:Heap->Nat),I D/\∀e,I e->ij (Instr.next (.P A 0) true 0) e λV H=>(V=.T #[.B false]/\R (.B true) H)\/(∃(L C:Value),V=.T #[.B true,L,C]/\∃T,C=.int .i32 T/\ay (λ(G:Bool) z=>ite G (R (.B false) z) ((I z/\M z<M e))) (λJ=>ite (decide (T<97)) (ite (decide (T<48)) (ite (T !=45) (J (T !=47) H) (J false H)) (ite (decide (T>57)) (ite (T !=45) (J (T !=47) H) (J false H)) (J false H))) (ite (decide (T>122)) (ite (decide (T<48)) (ite (T !=45) (J (T !=47) H) (J false H)) (ite (decide (T>57)) (ite (T !=45) (J (T !=47) H) (J false H)) (J false H))) (J false H))))):Cl 148 #[.S s,.int .i32 47] h R:=aD [(6,.loop []),(15,λ_=> .typed [(11,.one (.int .i32))]),(17,.join [(34,sB)])] E
def Dv{IU:Bool} (O:aT h (.C #[.B IU,.U KU,.U Xv,.S Xw,.S Xx] 64) λb H=>aw.LD H (AA b 0) λh' i' j' k' l'=> ∃(E:Bool),Lj 64 (.agg #[.B h',.U i',.U j',.S k',.S l']) (.agg #[.B false,.U 0,.U 0,.S (⟨#[]⟩:bC),.S (⟨#[]⟩:bC)]) E/\ite E (R (.B true) H) (∃L,Cc H b 0 (.B L)/\ite L (aw.LD H (AA b 0) λP Q S U V=>Hu H b 1 λX=>Hu H b 2 λZ=> ∃(eq_1:Bool),Lj 64 (.agg #[.B P,.U Q,.U S,.S U,.S V]) (.agg #[.B true,.U X,.U Z,.S (⟨#[]⟩:bC),.S (⟨#[]⟩:bC)]) eq_1/\ite eq_1 (∃T,Cc H b 1 (.U T)/\ite (decide (T≥1)) (∃z,Cc H b 1 (.U z)/\ite (decide (z<=4294967295)) (∃A,Cc H b 2 (.U A)/\R (.B (decide (A<=4294967295))) H) (R (.B false) H)) (R (.B false) H)) (R (.B false) H)) (aw.LD H (AA b 0) λa' b' c' d' e'=>Hs H b 3 λf'=>Hs H b 4 λg'=> ∃(eq_2:Bool),Lj 64 (.agg #[.B a',.U b',.U c',.S d',.S e']) (.agg #[.B false,.U 0,.U 0,.S f',.S g']) eq_2/\ite eq_2 (∃C,Cc H b 3 (.S C)/\ite (decide (((C.size:Nat):Int)≥1)) (∃D,Cc H b 3 (.S D)/\ite (decide (((D.size:Nat):Int)<=16)) (∃G,Cc H b 4 (.S G)/\ite (decide (((G.size:Nat):Int)<=24)) (Hs H b 3 λm'=>Cl 148 #[.S m',.int .i32 45] H λo' e=> ∃I,o'=.B I/\ite I (Hs e b 4 λn'=>Cl 148 #[.S n',.int .i32 47] e λp' M=> ∃J,p'=.B J/\R (.B J) M) (R (.B false) e)) (R (.B false) H)) (R (.B false) H)) (R (.B false) H)) (R (.B false) H)))):Cl 84 #[.agg #[.B IU,.U KU,.U Xv,.S Xw,.S Xx]] h R:=aD [] O
def Dw{IU:Bool}(z:aT h (.C #[.B IU,.U KU,.U Xv,.S Xw,.S Xx] 64) λb H=>aw.LD H (AA b 0) λA C D E G=> ∃(e:Bool),Lj 64 (.agg #[.B A,.U C,.U D,.S E,.S G]) (.agg #[.B false,.U 0,.U 0,.S (⟨#[]⟩:bC),.S (⟨#[]⟩:bC)]) e/\ite e (R (.I 0) H) (∃T,Cc H b 0 (.B T)/\ite T (R (.I 1) H) (R (.I 2) H))):Cl 472 #[.agg #[.B IU,.U KU,.U Xv,.S Xw,.S Xx]] h R:=aD [] z
def FK{A:Bool}{z:Int}{C:bC}{D:bC}{E:Bool}{G:Int}{I:bC}{J:bC} (hv:aT h (.C #[.B A,.U V7,.U z,.S C,.S D] 64) λb j'=>aT j' (.C #[.B E,.U B,.U G,.S I,.S J] 64) λB e=>aw.LD e (AA b 0) λy' z' A' B' C'=>aw.LD e (AA B 0) λe' f' g' h' i'=>Cl 472 #[.agg #[.B y',.U z',.U A',.S B',.S C']] e λD' L=>Vi D' λt7=>cz (AA B 0) [.B e',.U f',.U g',.S h',.S i'] 0 L/\Cl 472 #[.agg #[.B e',.U f',.U g',.S h',.S i']] L λE' H=> ∃t9,E'=.I t9/\ite (t7 !=t9) (aw.LD H (AA b 0) λl' m' n' o' p'=>aw.LD H (AA B 0) λT O P Q S=>Cl 472 #[.agg #[.B l',.U m',.U n',.S o',.S p']] H λF' M=>Vi F' λq'=>cz (AA B 0) [.B T,.U O,.U P,.S Q,.S S] 0 M/\Cl 472 #[.agg #[.B T,.U O,.U P,.S Q,.S S]] M λG' k'=> ∃U,G'=.I U/\R (.B (decide (q'<U))) k') (Hu H b 1 λr'=> ∃V,Cc H B 1 (.U V)/\ite (r' !=V) (Hu H b 1 λs'=> ∃X,Cc H B 1 (.U X)/\R (.B (decide (s'<X))) H) (Hu H b 2 λt'=> ∃Z,Cc H B 2 (.U Z)/\ite (t' !=Z) (Hu H b 2 λu'=> ∃a',Cc H B 2 (.U a')/\R (.B (decide (u'<a'))) H) (Hs H b 3 λv'=> ∃b',Cc H B 3 (.S b')/\ite (!(v'.toList==b'.toList)) (Hs H b 3 λw'=> ∃c',Cc H B 3 (.S c')/\R (.B (Op.bytesLess w'.toList c'.toList)) H) (Hs H b 4 λx'=> ∃d',Cc H B 4 (.S d')/\R (.B (Op.bytesLess x'.toList d'.toList)) H))))):Cl 406 #[.agg #[.B A,.U V7,.U z,.S C,.S D],.agg #[.B E,.U B,.U G,.S I,.S J]] h R:=aD [(5,λ_=> .pn (mL [0,2,1,3,4,5] .done)),(8,λ_=> .pn (mL [0,2,1,3,4,5] .done))] hv

end
section
namespace iZ
def Qe{a b:bC}:(a==b)=true↔a=b:=by have⟨a⟩:=a;have⟨b⟩:=b;constructor;intro h;have h:(a==b)=true:=h;rw[eq_of_beq h];intro h;cases h;show(a==a)=true;simp
structure Ev where
 lS:Bool
 node:Int
 iA:Int
 host:bC
 kj:bC
def Ev.ext'{x y:Ev}(H:x.lS=y.lS)(a:x.node=y.node)(b:x.iA=y.iA)(c:x.host=y.host)(d:x.kj=y.kj):x=y:=by cases x;cases y;simp at H a b c d;simp[H,a,b,c,d]
def Wy(x y:Ev):Bool:=x.lS==y.lS && (x.node==y.node && (x.iA==y.iA && (x.host==y.host && (x.kj==y.kj && true))))
theorem Ic{x y:Ev}:Wy x y=true↔x=y:=by unfold Wy;simp only[bE,cU,Qe,and_true];constructor;rintro⟨H,a,b,c,d⟩;exact Ev.ext' H a b c d;grind
instance : DecidableEq Ev := λx y => decidable_of_iff (Wy x y = true) Ic
def SV(x y:Ev):Wy x y=decide (x=y):=by by_cases h:x=y;rw[aq h];exact Ic.2 h;rw[aA h];cases H:Wy x y;rfl;exact absurd (Ic.1 H) h
def jQ(x:Ev):Value:=.agg #[.bool x.lS,.int .u64 x.node,.int .u64 x.iA,.string x.host,.string x.kj]
def Ev.zero:Ev:=⟨false,0,0,⟨#[]⟩,⟨#[]⟩⟩
def eqv(x y:Ev):NB Tryz.prog 64 (jQ x) (jQ y) (decide (x=y)):=by rw[<-SV];exact NB.of (by rfl)
def Dx{x y:Ev}{a b:Value}(H:a=jQ x)(c:b=jQ y):NB Tryz.prog 64 a b (decide (x=y)):=by subst H c;exact eqv x y
def Wo(e:Bool)(a:Ev)(h:Heap):rd Tryz.prog (Instr.checkKey e 10000 64 (jQ a)) h=some ():=zzkr
def under:(Tryz.prog.underlying 64).isSome=true:=zzkr
def key:Gz Tryz.prog 64 jQ:=⟨eqv,Wo,by have⟨d,h⟩:=dV.1 under;exact⟨d,h,λa b=> .inl (by cases d<;>rfl)⟩,λa=>by unfold jQ;simp[Instr.sameBits,Qe.2]⟩
def pl(m c:UInt8):Bool:=(decide (97<=c) && decide (c<=122))||(decide (48<=c) && decide (c<=57))||c==45||c==m
def na(m:UInt8)(s:bC):Bool:=s.data.toList.all (pl m)
def dD(x:Ev):Bool:=
 if x=.zero then true
 else if x.lS=true then decide (x.host=⟨#[]⟩/\x.kj=⟨#[]⟩/\1<=x.node/\x.node<=4294967295/\x.iA<=4294967295)
 else decide (x.node=0/\x.iA=0/\1<=x.host.size/\x.host.size<=16/\x.kj.size<=24) && (na 45 x.host && na 47 x.kj)
def jD(x:Ev):Int:=if x=.zero then 0 else if x.lS=true then 1 else 2
def bl(a b:bC):Bool:=Op.bytesLess a.toList b.toList
def mn(x y:Ev):Bool:=
 if jD x≠jD y then decide (jD x<jD y)
 else if x.node≠y.node then decide (x.node<y.node)
 else if x.iA≠y.iA then decide (x.iA<y.iA)
 else if x.host≠y.host then bl x.host y.host
 else bl x.kj y.kj
def bytes_irrefl: ∀a:cO,Op.bytesLess a a=false
 | []=>rfl
 |a::x=>by unfold Op.bytesLess;simp[bytes_irrefl x]
theorem bytes_trans: ∀{a b c:cO},Op.bytesLess a b=true->Op.bytesLess b c=true->Op.bytesLess a c=true
 |_, [],_,h,_=>by unfold Op.bytesLess at h;cases h
 |_,_::_, [],_,h=>by cases h
 | [],b::y,c::z,_,_=>rfl
 |a::x,b::y,c::z,H,d=>by unfold Op.bytesLess at H d⊢;simp only[Bool.or_eq_true,bN,bE,cU]at H d⊢;rcases H with H|⟨rfl,H⟩;grind;rcases d with d|⟨rfl,d⟩;grind;exact .inr ⟨rfl,bytes_trans H d⟩
theorem bytes_total: ∀{a b:cO},a≠b->Op.bytesLess a b=true\/Op.bytesLess b a=true
 | [], [],h=>absurd rfl h
 | [],_::_,_=> .inl rfl
 |_::_, [],_=> .inr rfl
 |a::x,b::y,h=>by unfold Op.bytesLess;by_cases e:a=b;subst e;rcases bytes_total (a:=x) (λe=>h (by rw[e]))with h1|h1;grind;grind;grind
def Uj{a b:bC}(h:a≠b):bl a b=true\/bl b a=true:=by refine bytes_total λe=>h ?_;rw[toList_data,toList_data]at e;cases a;cases b;simp only[ByteArray.mk.injEq];exact Array.ext' e
def Dy{a b c:bC}(H:bl a b=true)(d:bl b c=true):bl a c=true:=bytes_trans H d
def GO(a:bC):bl a a=false:=bytes_irrefl _
def x9{x y:Ev}:mn x y=true↔jD x<jD y\/(jD x=jD y/\(x.node<y.node\/(x.node=y.node/\(x.iA<y.iA\/(x.iA=y.iA/\((x.host≠y.host/\bl x.host y.host=true)\/(x.host=y.host/\bl x.kj y.kj=true))))))):=by unfold mn;by_cases H:jD x=jD y;rw[af (dQ H)];by_cases a:x.node=y.node;rw[af (dQ a)];by_cases b:x.iA=y.iA;rw[af (dQ b)];by_cases c:x.host=y.host;rw[af (dQ c)];simp[H,a,b,c];rw[ah c];simp[H,a,b,c];rw[ah b];simp[H,a,b];rw[ah a];simp[H,a];rw[ah H];simp[H]
theorem A5(x:Ev):mn x x=false:=by cases h:mn x x;rfl;rw[x9]at h;rcases h with h|⟨_,h|⟨_,h|⟨_,⟨h,_⟩|⟨_,h⟩⟩⟩⟩;omega;omega;omega;grind;rw[GO]at h;cases h
theorem Dz{x y z:Ev}(a:mn x y=true)(H:mn y z=true):mn x z=true:=by rw[x9]at a H⊢;rcases a with a|⟨c,a⟩;grind;rcases H with H|⟨C,H⟩;exact .inl ae;refine .inr ⟨ae,?_⟩;rcases a with a|⟨n,a⟩;omega;rcases H with H|⟨d,H⟩;exact .inl ae;refine .inr ⟨ae,?_⟩;rcases a with a|⟨s,a⟩;omega;rcases H with H|⟨S,H⟩;omega;refine .inr ⟨ae,?_⟩;rcases a with⟨b,a⟩|⟨b,a⟩;rcases H with⟨E,H⟩|⟨E,H⟩;refine .inl ⟨λe=> ?_,Dy a H⟩;have:=Dy a (e▸H);rw[GO]at this;cases this;grind;rcases H with⟨E,H⟩|⟨E,H⟩;grind;exact .inr ⟨b.trans E,Dy a H⟩
theorem Lv{x y:Ev}(h:x≠y):mn x y=true\/mn y x=true:=by
 rw[x9,x9];by_cases a:jD x=jD y;by_cases b:x.node=y.node;by_cases c:x.iA=y.iA;by_cases H:x.host=y.host;rcases Uj (λe=>by
  unfold jD at a;have d:x.lS=y.lS:=by grind
  exact h (Ev.ext' d b c H e))with h5|h5
 grind;grind;rcases Uj H with h5|h5;grind;grind;grind;grind;grind
variable {h : Heap} {R : Value → Heap → Prop}
def get_at{s:bC}{i:Nat}(H:i<s.size):s.get! i=s.data.toList.getD i 0:=by
 have:=H;show s.data[i]! =_;have e:s.data.toList[i]? =some s.data[i]:=bO
 rw[getElem!_pos s.data i this,aL,e];rfl
theorem decode_at(s:bC)(i:Nat)(a:i<s.size):(s.data.toList.getD i 0<128->Utf8.decode s i=((s.data.toList.getD i 0).toNat,1))/\(¬s.data.toList.getD i 0<128->128<=(Utf8.decode s i).1):=by
 have e:=get_at a;have E:(s.get! (i+0)).toNat=(s.data.toList.getD i 0).toNat:=by grind
 constructor;intro h;have h:(s.data.toList.getD i 0).toNat<128:=h;unfold Utf8.decode;simp only[E];rw[ah h];intro h;have h: ¬(s.data.toList.getD i 0).toNat<128:=h;unfold Utf8.decode;simp only[E];rw[af h];split;split
 omega;decide;split
 split
 grind;decide;split
 split
 rename_i H;simp only[bE,bN]at H;omega;decide;decide
def np(m:Int)(c:Int):Bool:=(decide (c<97)||decide (c>122)) && ((decide (c<48)||decide (c>57)) && ((c !=45) && (c !=m)))
def Qf{more c:Int}(e:more<128)(h:128<=c):np more c=true:=by
 unfold np;have H:c>122:=ae
 have a:c>57:=ae
 have b:c≠45:=ae
 have d:c≠more:=ae
 simp[H,a,b,d]
theorem Qg(m:UInt8)(b:UInt8):np (m.toNat:Int) (b.toNat:Int)= !pl m b:=by
 have n:(b=45)↔((b.toNat:Int)=45):=by constructor;simp_all;intro e;exact UInt8.toNat_inj.1 (by grind)
 have o:(b=m)↔((b.toNat:Int)=(m.toNat:Int)):=by constructor;rintro rfl;rfl;intro e;exact UInt8.toNat_inj.1 ae
 have E:(97<=b)↔ ¬((b.toNat:Int)<97):=by rw[UInt8.le_iff_toNat_le];show 97<=b.toNat↔_;omega
 have a:(b<=122)↔ ¬((b.toNat:Int)>122):=by rw[UInt8.le_iff_toNat_le];show b.toNat<=122↔_;omega
 have c:(48<=b)↔ ¬((b.toNat:Int)<48):=by rw[UInt8.le_iff_toNat_le];show 48<=b.toNat↔_;omega
 have d:(b<=57)↔ ¬((b.toNat:Int)>57):=by rw[UInt8.le_iff_toNat_le];show b.toNat<=57↔_;omega
 unfold np pl;have f:(b==45)=decide ((b.toNat:Int)=45):=by grind
 have g:(b==m)=decide ((b.toNat:Int)=(m.toNat:Int)):=by grind
 rw[f,g];simp only[E,a,c,d];by_cases q:(b.toNat:Int)<97<;>by_cases Q:(b.toNat:Int)>122<;>by_cases i:(b.toNat:Int)<48<;>by_cases j:(b.toNat:Int)>57<;>by_cases k:(b.toNat:Int)=45<;>by_cases l:(b.toNat)=(m.toNat:Int)<;>simp[q,Q,i,j,k,l]
end iZ
end
section
namespace iZ
variable {h H:Heap} {R:dH}
variable {s:bC} {pos:Nat} {m:UInt8}
theorem byte_at(a:pos<s.size):s.data.toList[pos]? =some (s.data.toList.getD pos 0):=by simp_all
def Wz{b:UInt8}(d:m.toNat<128)(h:pl m b=true):b<128:=by by_cases c:b.toNat<128;exact c;have a:=Qf (more:=(m.toNat)) (c:=(b.toNat)) ae ae;rw[Qg,h]at a;cases a
theorem Qh(e:m.toNat<128)(c:pos<s.size)(h:np (m.toNat:Int) ((Utf8.decode s pos).1:Int)=false):
  pl m (s.data.toList.getD pos 0)=true/\(Utf8.decode s pos).2=1:=by
 have⟨a,d⟩:=decode_at s pos c;by_cases b:s.data.toList.getD pos 0<128;rw[a b]at h⊢;rw[Qg]at h;exact⟨by grind,rfl⟩;have:=Qf (more:=(m.toNat)) (c:=((Utf8.decode s pos).1)) ae (by grind);rw[this]at h;cases h
def SW(e:m.toNat<128)(a:pos<s.size)(h:np (m.toNat:Int) ((Utf8.decode s pos).1:Int)=true):na m s=false:=by
 cases d:na m s with
 |false=>rfl
 |true=>have b:=eG.1 d _ (aW (byte_at a));have⟨c,_⟩:=decode_at s pos a;rw[c (Wz e b),Qg,b]at h;cases h
def DA{i:Nat}{ty:TypeId}{d f:Heap}(t:m.toNat<128)(hit:f[i]? =some (.stringIter s 0))(z:d.size<=i)(u:Fr No d f)(r: ∀H,Fr No d H->R (.B (na m s)) H):
  ∃(I:cM)(M:Heap->Nat),I f/\∀g,I g->bu Tryz.prog (Instr.next (.P i 0) true ty) g λv G=>(v=.T #[.B false]/\R (.B true) G)\/∃(a b:Value),v=.T #[.B true,a,b]/\∃(c:Int),b=.int .i32 c/\if np (m.toNat:Int) c=true then R (.B false) G else(I G/\M G<M g):=by
 refine⟨λg=> ∃pos,g[i]? =some (.stringIter s pos)/\Fr No d g/\pos<=s.size/\(s.data.toList.take pos).all (pl m)=true,λg=>(match g[i]? with|some (.stringIter _ p)=>s.size - p|_=>0),⟨0,hit,u,bg _,bO⟩,?_⟩;rintro g ⟨pos,q,F,A,l⟩;refine NY q (λx=> .inl ⟨rfl,?_⟩) (λj G n B y=> .inr ⟨_,_,rfl,_,rfl,?_⟩);have:na m s=true:=by unfold na;rw[bz (by show s.data.toList.length<=pos;exact x)]at l;exact l
 rw[<-this];exact r g F;have o:Fr No d G:=F.fresh (S:=λc=>c=i) ⟨ae,λc _ k=>y c k⟩ (λc e=>ae);cases k:np (m.toNat:Int) ((Utf8.decode s pos).1:Int)with
 |true=>rw[ah rfl,<-SW t j k];exact r G o
 |false=>rw[af bO];obtain⟨f,w⟩:=Qh t j k;rw[w]at n;refine⟨⟨pos+1,n,o,j,?_⟩,?_⟩;rw[bt,byte_at j,List.all_append,l];show(true && (pl m (s.data.toList.getD pos 0) && true))=true;rw[f];rfl;simp only[q,n];omega
theorem Lw(p: jA h R (.B (na 45 s))):Cl 148 #[.S s,.int .i32 45] h R:=by
 refine vG (Dg zzkr λr q u hit F=>⟨_,rfl,?_⟩);have⟨I,M,l,n⟩:=DA (ty:=0) bA hit ae F p;refine⟨I,M,l,λg o=>jB _ _ (λv G d=> ?_) (n g o)⟩;rcases d with d|⟨a,b,e,c,E,d⟩;grind;refine .inr ⟨a,b,e,c,E,ay.of λJ t=> ?_⟩;have key:J (np 45 c) G:=by grind
 unfold np at key;revert key;generalize decide (c<97)=B;generalize decide (c>122)=f;generalize decide (c<48)=i;generalize decide (c>57)=j;generalize (c !=45)=k;intro key;cases B<;>cases f<;>cases i<;>cases j<;>cases k<;>exact key
theorem JG(q: jA h R (.B (na 47 s))):Cl 148 #[.S s,.int .i32 47] h R:=by
 refine tX (Dg zzkr λr t w hit F=>⟨_,rfl,?_⟩);have⟨I,M,n,o⟩:=DA (ty:=0) bA hit ae F q;refine⟨I,M,n,λg p=>jB _ _ (λv G d=> ?_) (o g p)⟩;rcases d with d|⟨a,b,e,c,E,d⟩;grind;refine .inr ⟨a,b,e,c,E,ay.of λJ u=> ?_⟩;have key:J (np 47 c) G:=by grind
 unfold np at key;revert key;generalize decide (c<97)=B;generalize decide (c>122)=f;generalize decide (c<48)=i;generalize decide (c>57)=j;generalize (c !=45)=k;generalize (c !=47)=l;intro key;cases B<;>cases f<;>cases i<;>cases j<;>cases k<;>cases l<;>exact key
theorem fA(x:Ev)(k: jA h R (.B (dD x))):Cl 84 #[.agg #[.B x.lS,.U x.node,.U x.iA,.S x.host,.S x.kj]] h R:=by
 refine Dv (aw.box λb o w c F=>aw.ld c ⟨_,Dx (y:=.zero) (x:=x) rfl rfl,?_⟩);have K:=k o F;unfold dD at K;by_cases f:x=.zero;rw[ah (aq f)];rw[ah f]at K;exact K;rw[af (dQ f)];rw[af f]at K;refine⟨_,aj c,?_⟩;by_cases e:x.lS=true;rw[ah e];rw[ah e]at K;refine aw.ld c ⟨_,aj c,_,aj c,_,Dx (y:=⟨true,x.node,x.iA,⟨#[]⟩,⟨#[]⟩⟩) (x:=x) rfl rfl,?_⟩;by_cases d:x=⟨true,x.node,x.iA,⟨#[]⟩,⟨#[]⟩⟩;have E:x.host=⟨#[]⟩:=bY Ev.host d;have i:x.kj=⟨#[]⟩:=bY Ev.kj d;rw[ah (aq d)];refine⟨_,aj c,?_⟩;by_cases Q:x.node≥1;rw[ah (aq Q)];refine⟨_,aj c,?_⟩;by_cases g:x.node<=4294967295;rw[ah (aq g)];refine⟨_,aj c,?_⟩;have v:1<=x.node:=Q;simp only[E,i,v,g,true_and]at K;exact K;grind;grind;rw[af (dQ d)];have: ¬(x.host=⟨#[]⟩/\x.kj=⟨#[]⟩/\1<=x.node/\x.node<=4294967295/\x.iA<=4294967295):=λ⟨a,b,_⟩=>d (Ev.ext' e rfl rfl a b);rw[aA this]at K;exact K;have u:x.lS=false:=by simpa using e
 rw[af e];rw[af e]at K;refine aw.ld c ⟨_,aj c,_,aj c,_,Dx (y:=⟨false,0,0,x.host,x.kj⟩) (x:=x) rfl rfl,?_⟩;by_cases d:x=⟨false,0,0,x.host,x.kj⟩;have E:x.node=0:=bY Ev.node d;have i:x.iA=0:=bY Ev.iA d;rw[ah (aq d)];refine⟨_,aj c,?_⟩;simp only[E,i,true_and]at K;by_cases Q:1<=x.host.size;rw[iE];refine⟨_,aj c,?_⟩;by_cases g:x.host.size<=16;rw[iE];refine⟨_,aj c,?_⟩;by_cases l:x.kj.size<=24;rw[iE];simp only[Q,g,l,and_self,di,Bool.true_and]at K;refine⟨_,aj c,Lw λp j=>⟨_,rfl,?_⟩⟩;have t:=j.get c id;by_cases q:na 45 x.host=true;rw[ah q];refine⟨_,aj t,JG λr n=>⟨_,rfl,?_⟩⟩;have:=k r (F.tt (j.tt n));unfold dD at this;rw[af f,af e,q]at this;simp only[E,i,Q,g,l,and_self,di,Bool.true_and]at this;exact this;rw[af q];have:=k p (F.tt j);unfold dD at this;have q:na 45 x.host=false:=by simpa using q
 rw[af f,af e,q]at this;simp only[Bool.false_and,Bool.and_false]at this;exact this;grind;grind;grind;rw[af (dQ d)];have: ¬(x.node=0/\x.iA=0/\1<=x.host.size/\x.host.size<=16/\x.kj.size<=24):=λ⟨a,b,_⟩=>d (Ev.ext' u a b rfl rfl);rw[aA this,Bool.false_and]at K;exact K
theorem ya(x:Ev)(d: jA h R (.I (jD x))):Cl 472 #[.agg #[.B x.lS,.U x.node,.U x.iA,.S x.host,.S x.kj]] h R:=by refine Dw (aw.box λb c e a f=>aw.ld a ⟨_,Dx (y:=.zero) rfl rfl,?_⟩);have K:=d c f;unfold jD at K;by_cases g:x=.zero;grind;rw[af (by grind)];refine⟨_,aj a,?_⟩;by_cases i:x.lS=true;grind;grind
theorem Qi{a b:bC}:(a.toList==b.toList)=true↔a=b:=by rw[cU,toList_data,toList_data];constructor;intro e;cases a;cases b;simp only[ByteArray.mk.injEq];exact Array.ext' e;grind
theorem SX(x y:Ev)(o: jA h R (.B (mn x y))):Cl 406 #[.agg #[.B x.lS,.U x.node,.U x.iA,.S x.host,.S x.kj],.agg #[.B y.lS,.U y.node,.U y.iA,.S y.host,.S y.kj]] h R:=by
 refine FK (aw.box λb A E w j=>aw.box λc B z g f=> ?_);have n:=f.get w id;refine aw.ld n (aw.ld g (ya x λC k=>⟨_,rfl,aw.held (k.get g id),ya y λu r=>⟨_,rfl,?_⟩⟩));have F:=k.tt r;have d:=F.get n id;have a:=F.get g id;have K:=o u (j.tt (f.tt F));unfold mn at K;by_cases Q:jD x=jD y;rw[af (dQ Q)];rw[af (dQ Q)]at K;refine⟨_,aj d,_,aj a,?_⟩;by_cases i:x.node=y.node;rw[af (dQ i)];rw[fe]at K;refine⟨_,aj d,_,aj a,?_⟩;by_cases q:x.iA=y.iA;rw[af (dQ q)];rw[af (dQ q)]at K;refine⟨_,aj d,_,aj a,?_⟩;by_cases p:x.host=y.host;rw[af (by grind)];rw[af (by grind)]at K;exact⟨_,aj d,_,aj a,K⟩;have:(x.host.toList==y.host.toList)=false:=by cases e:x.host.toList==y.host.toList;rfl;exact absurd (Qi.1 e) p
 rw[ah (by simp[this])];rw[ah p]at K;exact⟨_,aj d,_,aj a,K⟩;rw[ah (dQ q)];rw[ah q]at K;exact⟨_,aj d,_,aj a,K⟩;rw[ah (dQ i)];rw[ah i]at K;exact⟨_,aj d,_,aj a,K⟩;rw[ah (by grind)];refine aw.ld d (aw.ld a (ya x λD l=>⟨_,rfl,aw.held (l.get a id),ya y λv t=>⟨_,rfl,?_⟩⟩));have K:=o v (j.tt (f.tt (F.tt (l.tt t))));unfold mn at K;rw[ah Q]at K;exact K

end iZ
end
section
variable {h:Heap} {R:dH}
variable {b B c:Nat} {p:Int} {a:bH}
abbrev au.ff(h:Heap)(b:Nat)(x:au.S):Prop:=h[b]? =some (.cells x.arr 337 (0,0))
def au.ex{K:au.S->Prop}(x:au.S)(H:K x):au.EX K:=⟨_,_,_,H⟩
def au.gT{A:Addr}{x:au.S}{K:au.S->Prop}(H:cz A x.l 0 h)(d:K x):au.ck h A K:=by obtain⟨q,Q,e,_⟩:=H;rw[cA]at q;exact⟨_,q,_,Q,_,e,d⟩
def au.im{x:au.S}(H:au.ff h b x):cz (AA b 0) x.l 0 h:=
 dy H (λj v d=>by rw[aX];simpa using d)
def au.dZ{x:au.S}{K:au.S->Prop}(H:au.ff h b x)(d:K x):au.ck h (AA b 0) K:=gT (im H) d
def au.fX{x:au.S}{K:Nat->cM}(e: ∀b H,b=h.size->au.ff H b x->Fr No h H->K b H):aT h (.C au.S.z.arr 337) λb d=>au.cR d (AA b 0) x (K b):=
 fL (vs:=x.l) rfl rfl e
def au.cE{x:au.S}{K:Nat->cM}(e: ∀b H,b=h.size->au.ff H b x->Fr No h H->K b H):aT h (.C x.arr 337) λb d=>K b d:=
 bn (e _ _ rfl aU (Fr.push _ _))
def au.fB{y x:au.S}{K:cM}(A:au.ff h b y)(i: ∀H,au.ff H b x->Fr (λy=>y=b) h H->H.size=h.size->K H):au.cR h (AA b 0) x K:=
 (show cQ (AA b 0) x.l 0 h K from dM A rfl rfl λf D d e=>i f D (Fr.of_eq d λC g=>e C g) d)
variable {K:au.S->Prop} {x s:au.S}
def pD (k:aT h (.C s.arr 337) λb H=> ∃i,Cc H b 0 (.U i)/\ite (decide (i≥1)) (∃j,Cc H b 0 (.U j)/\ite (decide (j<=1099511627776)) (∃t,Cc H b 1 (.I t)/\ite (t==0) (∃d,Cc H b 2 (.I d)/\ite (decide (d≥0)) (∃f,Cc H b 2 (.I f)/\R (.B (decide (f<=1048576))) H) (R (.B false) H)) (∃T,Cc H b 1 (.I T)/\ite (T==1) (∃e,Cc H b 2 (.I e)/\ite (decide (e≥0)) (∃g,Cc H b 2 (.I g)/\R (.B (decide (g<=1048576))) H) (R (.B false) H)) (R (.B false) H))) (R (.B false) H)) (R (.B false) H)):Cl 421 #[s.agg] h R:=aD [] k
def DC{k:bH}{j i:Nat}{n:Int}{size:Int} (q: ∃(I:bH->Nat->Nat->iT)(m:bH->Nat->Nat->iW),I k j i 0 h/\∀d O o t H,I d O o t H->ite (decide (t<size)) (if wrap .i64 (8*(wrap .i64 ((wrap .i64 (size - 1)) - t)))<0 then False else aT H (.C #[.int .u8 (wrap .u8 (Int.fdiv n (2 ^ min (toNat (wrap .i64 (8*(wrap .i64 ((wrap .i64 (size - 1)) - t))))) (IntKind.bits .u64))))] 5) λb l=>ij (Builtin.append_ #[69,69] 69 #[.L d O o,.L (Sa b 0) 1 1]) l λv g=> ∃f e T,v=.L f e T/\(I f e T (wrap .i64 (t+1)) g/\m f e T (wrap .i64 (t+1)) g<m d O o t H)) (R (.L d O o) H)):Cl 422 #[.L k j i,.U n,.I size] h R:=aD [(6,.loop [(0,sS),(9,sI)])] q
theorem pE (X:aT h (.C s.arr 337) λb H=>au.ck H (AA b 0) λZ=>Cl 421 #[Z.agg] H λv f=> ∃F,v=.B F/\ite (!F) (R (.T #[.Z,.I 3]) f) (aT f (.C #[.int .u8 80,.int .u8 76,.int .u8 70,.int .u8 84] 5) λL Q=>ij (convert 69 69 (.L (Sa L 0) 4 4)) Q λa' g=> ∃J I G,a'=.L J I G/\∃k,Cc g b 0 (.U k)/\Cl 422 #[.L J I G,.U k,.I 8] g λb' i=> ∃n m l,b'=.L n m l/\∃o,Cc i b 1 (.I o)/\aT i (.C #[.int .u8 (wrap .u8 o)] 5) λM S=>ij (Builtin.append_ #[69,69] 69 #[.L n m l,.L (Sa M 0) 1 1]) S λc' j=> ∃u r q,c'=.L u r q/\∃w,Cc j b 2 (.I w)/\Cl 422 #[.L u r q,.U (wrap .u64 w),.I 4] j λd' U=> ∃d T t,d'=.L d T t/\Cl 423 #[.L d T t] U λe' V=> ∃y,e'=.int .u32 y/\Cl 422 #[.L d T t,.U (wrap .u64 y),.I 4] V λf' O=> ∃A e z,f'=.L A e z/\ij (Builtin.append_ #[69,3] 69 #[.L A e z,.I (wrap .i64 (128 - ((e:Nat):Int)))]) O λg' P=> ∃E D C,g'=.L E D C/\R (.T #[.L E D C,.I 0]) P)):Cl 358 #[s.agg] h R:=aD [] X
def BA(d:aT h (.C s.arr 337) λb H=> ∃t,Cc H b 0 (.U t)/\R (.I (wrap .i64 (Int.tmod t 2))) H):Cl 349 #[s.agg] h R:=aD [] d
def DD{d:Nat}(l:aT h (.C s.arr 337) λb e=>au.ck e (AA b 0) λo=>Cl 358 #[o.agg] e λv H=> ∃i g f t,v=.T #[.L i g f,.I t]/\ite (t !=0) (R (.I t) H) (au.ck H (AA b 0) λm=>Cl 349 #[m.agg] H λV j=>Vi V λn=>Cl 359 #[.P d 0,.I n,.L i g f] j λq k=> ∃T,q=.I T/\R (.I T) k)):Cl 296 #[.P d 0,s.agg] h R:=aD [] l
def rJ{s:Int} (H:ite ((wrap .u32 ((BitVec.ofInt (IntKind.bits .u32) s &&& BitVec.ofInt (IntKind.bits .u32) 1).toNat:Int))==1) (R (.int .u32 (wrap .u32 ((BitVec.ofInt (IntKind.bits .u32) (Int.fdiv s (2 ^ min (toNat 1) (IntKind.bits .u32))) ^^^ BitVec.ofInt (IntKind.bits .u32) p).toNat:Int))) h) (R (.int .u32 (Int.fdiv s (2 ^ min (toNat 1) (IntKind.bits .u32)))) h)):Cl 567 #[.int .u32 s,.int .u32 p] h R:=aD [] H
def pF{s:Int}{C:Int}(e: ∃(I:Int->iT)(m:Int->iW),I (wrap .u32 ((BitVec.ofInt (IntKind.bits .u32) s ^^^ BitVec.ofInt (IntKind.bits .u32) (wrap .u32 C)).toNat:Int)) 0 h/\∀S t H,I S t H->ite (decide (t<8)) (Cl 567 #[.int .u32 S,.int .u32 p] H λv d=> ∃T,v=.int .u32 T/\(I T (wrap .i64 (t+1)) d/\m T (wrap .i64 (t+1)) d<m S t H)) (R (.int .u32 S) H)):Cl 544 #[.int .u32 s,.int .u8 C,.int .u32 p] h R:=aD [(8,.loop [(0,.one (.int .u32)),(11,sI)])] e
def wm{s:Int}(e: ∃(I:Int->iT)(m:Int->iW),I s 0 h/\∀S t H,I S t H->ite (decide (t<(B:Int))) (Bd t B/\aJ a λA=>Ji H (A.add (toNat t*1)) λf=>Cl 544 #[.int .u32 S,.int .u8 f,.int .u32 p] H λv d=> ∃T,v=.int .u32 T/\(I T (wrap .i64 (t+1)) d/\m T (wrap .i64 (t+1)) d<m S t H)) (R (.int .u32 S) H)):Cl 480 #[.int .u32 s,.L a B c,.int .u32 p] h R:=aD [(6,.loop [(0,.one (.int .u32)),(11,sI)])] e
def tY (d:Cl 480 #[.int .u32 4294967295,.L a B c,.int .u32 2197175160] h λv H=> ∃t,v=.int .u32 t/\R (.int .u32 (wrap .u32 ((BitVec.ofInt (IntKind.bits .u32) (IntKind.max .u32) ^^^ BitVec.ofInt (IntKind.bits .u32) t).toNat:Int))) H):Cl 423 #[.L a B c] h R:=aD [] d

end
section
namespace Bt
variable {h:Heap} {R:dH}
variable {p:bH} {B:cO} {n s q c l:Nat}
def byte_at(b:Row h p (bc B)){i:Nat}(H:i<B.length): ∃a,p=some a/\aQ h (a.add (i*1))=some (.int .u8 ((B[i]).toNat:Int)):=by obtain⟨a,rfl⟩:=b.some (by cases B with|nil=>simp at H|cons=>simp[bc]);exact⟨a,rfl,by rw[bJ];exact b.cell (by unfold bc;rw[aP,ai H];rfl)⟩
def jK(s q:Nat):Nat:=if s%2=1 then(s/2) ^^^ q else s/2
def jU(q:Nat):Nat->Nat->Nat
 |0,s=>s
 |k+1,s=>jU q k (jK s q)
def JH(s c q:Nat):Nat:=jU q 8 (s ^^^ c)
def runN(s:Nat)(b:cO)(q:Nat):Nat:=b.foldl (λs c=>JH s c.toNat q) s
def mq(b:cO):Nat:=4294967295 ^^^ runN 4294967295 b 2197175160
def DE(n k:Nat):Int.fdiv (n:Int) (2 ^ k)=((n/2 ^ k:Nat):Int):=by
 rw[Int.fdiv_eq_ediv_of_nonneg _ (by exact_mod_cast bg (2 ^ k))]
 exact_mod_cast rfl
def Lx(H:n<4294967296):IntKind.wrap .u32 (n:Int)=(n:Int):=by
 have e:IntKind.wrap .u32 (n:Int)=(n:Int)%4294967296:=by simp[IntKind.wrap,IntKind.bits,IntKind.signed]
 rw[e];omega
def U6(H:n<4294967296):(BitVec.ofInt (IntKind.bits .u32) (n:Int)).toNat=n:=by rw[fG,gg];exact fo H
def DF{a b:Nat}(H:a<4294967296)(d:b<4294967296):IntKind.wrap .u32 ((BitVec.ofInt (IntKind.bits .u32) (a:Int) ^^^ BitVec.ofInt (IntKind.bits .u32) (b:Int)).toNat:Int)=((a ^^^ b:Nat):Int):=by rw[BitVec.toNat_xor,U6 H,U6 d];exact Lx (dS (n:=32) H d)
def Qj(H:s<4294967296):IntKind.wrap .u32 ((BitVec.ofInt (IntKind.bits .u32) (s:Int) &&& BitVec.ofInt (IntKind.bits .u32) 1).toNat:Int)=((s%2:Nat):Int):=by rw[BitVec.toNat_and,U6 H,show(BitVec.ofInt (IntKind.bits .u32) 1).toNat=1 from rfl,Nat.and_one_is_mod];exact Lx ae
def Ly(s:Nat):Int.fdiv (s:Int) (2 ^ min (Int.toNat 1) (IntKind.bits .u32))=((s/2:Nat):Int):=DE s 1
def zN(a:s<4294967296)(H:q<4294967296):jK s q<4294967296:=by unfold jK;split;exact dS (n:=32) (show s/2<2 ^ 32 by omega) H;omega
def DG(b:s<4294967296)(a:q<4294967296)(H:R (.int .u32 (jK s q:Int)) h):Cl 567 #[.int .u32 (s:Int),.int .u32 (q:Int)] h R:=by refine rJ ?_;unfold jK at H;rw[Qj b,Ly,DF ae a];by_cases c:s%2=1;rw[ah (by rw[c];rfl)];rw[ah c]at H;exact H;rw[af (λe=>c (cv (eq_of_beq e)))];rw[af c]at H;exact H
def nf(q:Nat): ∀(k s:Nat),jU q (k+1) s=jK (jU q k s) q
 |0,_=>rfl
 |k+1,s=>by show jU q (k+1) (jK s q)=jK (jU q k (jK s q)) q;exact nf q k _
def nh(a:q<4294967296): ∀(k s:Nat),s<4294967296->jU q k s<4294967296
 |0,_,H=>H
 |k+1,s,H=>nh a k _ (zN H a)
def zO(a:s<4294967296)(j:c<256)(H:q<4294967296)(b:R (.int .u32 (JH s c q:Int)) h):Cl 544 #[.int .u32 (s:Int),.int .u8 (c:Int),.int .u32 (q:Int)] h R:=by
 have f:=dS (n:=32) (x:=s) (y:=c) a ae;refine pF ⟨λz t g=>g=h/\∃i:Nat,t=(i:Int)/\i<=8/\z=(jU q i (s ^^^ c):Int),λ_ t _=>8 - t.toNat,⟨rfl,0,rfl,ae,?_⟩,?_⟩;rw[Lx (n:=c) ae,DF a ae];rfl;rintro _ _ _ ⟨rfl,i,rfl,k,rfl⟩;have d:=nh H i (s ^^^ c) f;by_cases C:i<8;rw[iE];refine DG d H ⟨_,rfl,?_⟩;rw[eY,<-nf];exact⟨⟨rfl,i+1,ae,ae,rfl⟩,by show 8 - Int.toNat ((i:Int)+1)<8 - Int.toNat (i:Int);omega⟩;rw[af (λe=>C (cv (bj e)))];obtain rfl:i=8:=ae
 exact b
def oB(a:q<4294967296): ∀(b:cO)(s:Nat),s<4294967296->runN s b q<4294967296
 | [],_,H=>H
 |c::b,s,H=>oB a b _ (nh a 8 _ (dS (n:=32) H (cv c.toNat_lt)))
def Ie(j:s<4294967296)(H:q<4294967296)(r:Row h p (bc B))(f:l=B.length)(m:B.length<=100000000)(d:R (.int .u32 (runN s B q:Int)) h):Cl 480 #[.int .u32 (s:Int),.L p l c,.int .u32 (q:Int)] h R:=by subst f;refine wm ⟨λz t g=>g=h/\∃i:Nat,t=(i:Int)/\i<=B.length/\z=(runN s (B.take i) q:Int),λ_ t _=>B.length - t.toNat,⟨rfl,0,rfl,ae,by rw[fy];rfl⟩,?_⟩;rintro _ _ _ ⟨rfl,i,rfl,k,rfl⟩;by_cases C:i<B.length;rw[iE];obtain⟨a,rfl,b⟩:=byte_at r C;refine⟨ae,av.2 ⟨_,by rw[aG];exact b,zO (oB H _ _ j) (B[i]).toNat_lt H ⟨_,rfl,?_⟩⟩⟩;rw[eY];refine⟨⟨rfl,i+1,ae,ae,?_⟩,by show B.length - Int.toNat ((i:Int)+1)<B.length - Int.toNat (i:Int);omega⟩;rw[bt,ai C];unfold runN;rw[List.foldl_append];rfl;rw[af (λe=>C (cv (bj e)))];rw[bz ae];exact d
def Ig(r:Row h p (bc B))(a:l=B.length)(b:B.length<=100000000)(H:R (.int .u32 (mq B:Int)) h):Cl 423 #[.L p l c] h R:=by refine tY (Ie (s:=4294967295) (q:=2197175160) bA bA r a b ⟨_,rfl,?_⟩);have:=DF (a:=4294967295) (b:=runN 4294967295 B 2197175160) bA (oB bA _ _ bA);rw[show(IntKind.max .u32)=((4294967295:Nat):Int)from rfl,this];exact H
def Qk(b:cO):mq b<4294967296:=dS (n:=32) bA (oB bA _ _ bA)

end Bt
end
section
namespace qM
structure DS where
 L:List (cO)
 W:List (Nat×cO)
structure DS.ok (s:DS) (m:Nat):Prop where
 n:s.L.length=m
 l: ∀b∈s.L,b.length=128
 w: ∀x∈s.W,x.1<m/\x.2.length=128
def rK(i:Nat):List (Nat×cO)->cO->cO
 | [],b=>b
 |w::a,b=>rK i a (if w.1=i then w.2 else b)
def DS.get(s:DS)(i:Nat):cO:=rK i s.W (s.L.getD i [])
def DS.put(s:DS)(i:Nat)(b:cO):DS:=⟨s.L,s.W++ [(i,b)]⟩
def DS.sync(s:DS):DS:=⟨s.W.foldl (λL w=>L.set w.1 w.2) s.L, []⟩
def wu:cO:=List.replicate 128 0
def qG(n:Nat):DS:=⟨List.replicate n wu, []⟩
variable {s : DS} {n i : Nat} {b : List UInt8}
def MI(n:Nat):(qG n).ok n:=⟨by simp[qG],λb h=>by rw[(List.mem_replicate.1 h).2];simp[wu],λx H=>by cases H⟩
def DS.ok.put(H:s.ok n)(c:i<n)(h:b.length=128):(s.put i b).ok n:=⟨H.n,H.l,λx d=>by rcases cG.1 d with a|a;exact H.w x a;rw[bT.1 a];exact⟨c,h⟩⟩
def Ih: ∀(c:List (Nat×cO))(L:List (cO)),(⟨L,c⟩:DS).ok n->(∀b∈c.foldl (λL w=>L.set w.1 w.2) L,b.length=128)/\(c.foldl (λL w=>L.set w.1 w.2) L).length=n
 | [],L,H=>⟨H.l,H.n⟩
 |w::c,L,H=>Ih c (L.set w.1 w.2) ⟨by rw[fz];exact H.n,λb h=>by rcases List.mem_or_eq_of_mem_set h with a|a;exact H.l b a;rw[a];exact(H.w w dz).2,λx d=>H.w x (cD _ d)⟩
def DS.ok.sync(H:s.ok n):s.sync.ok n:=⟨(Ih s.W s.L H).2,(Ih s.W s.L H).1,λx h=>by cases h⟩
def DH{i:Nat}{w:Nat×cO}: ∀(a:List (Nat×cO))(b:cO),rK i (a++ [w]) b=if w.1=i then w.2 else rK i a b
 | [],b=>rfl
 |v::a,b=>by rw[eH];unfold rK;exact DH a _
def fit(b:cO):cO:=(b++wu).take 128
def MJ(b:cO):(fit b).length=128:=by unfold fit wu;rw[bM,ak,List.length_replicate];omega
def Ii(h:b.length=128):fit b=b:=by unfold fit;rw[List.take_append,bz ae,show 128 - b.length=0 by omega,fy,List.append_nil]
def wQ(b:cO):List Value:=bc (fit b)
def rV(w:Nat×cO):List Value:=.int .i64 (w.1:Int)::bc (fit w.2)
def yc(b:cO):(wQ b).length=128:=by unfold wQ;rw[fO,MJ]
def lT(w:Nat×cO):(rV w).length=129:=by unfold rV;rw[bw,fO,MJ]
def DI(w:Nat×cO): ∀v∈rV w,fH v=true:=λv h=>by rcases bG.1 h with rfl|a;rfl;exact kY _ v a
def Of(n:Nat):(List.replicate n wu).flatMap wQ=List.replicate (n*128) (.int .u8 0):=by
 have e:wQ wu=List.replicate 128 (.int .u8 0):=zzkr
 induction n with
 |zero=>simp
 |succ n I=>rw[List.replicate_succ,eM,I,e,List.replicate_append_replicate];congr 1;omega
end qM
end
section
variable {h:Heap} {R:dH}
variable {d:Nat} {n i:Int}
abbrev eA.ff(h:Heap)(b:Nat)(x:eA.S):Prop:=h[b]? =some (.cells x.arr 148 (0,0))
def eA.ex{K:eA.S->Prop}(x:eA.S)(H:K x):eA.EX K:=⟨_,_,_,_,_,_,_,_,H⟩
def eA.cE{x:eA.S}{K:Nat->cM}(c: ∀b H,b=h.size->eA.ff H b x->Fr No h H->K b H):aT h (.C x.arr 148) λb a=>K b a:=
 bn (c _ _ rfl aU (Fr.push _ _))
def qN(H: ∃a t T,Cc h d 0 (.L a t T)/\R (.I ((t:Nat):Int)) h):Cl 83 #[.P d 0] h R:=aD [] H
def FL(e:ay (λ(g:Bool) H=>ite g (R (.T #[.Q none,.I 1]) H) (ij (Instr.makeSlice 140 (.I n) (.I n)) H λv a=>Vl v λf T t=>aT a (.C #[.L f T t,.Z,.I 0,.I 0] 148) λb c=>R (.T #[.P b 0,.I 0]) c)) (λJ=>ite (decide (n<4)) (J true h) (J (decide (n>4096)) h))):Cl 42 #[.I n] h R:=aD [(4,.join [(9,sB)])] e
def wR (b:Cl 83 #[.P d 0] h λv H=> ∃T,v=.I T/\ite (T==0) (R (.I 6) H) (ay (λ(f:Bool) a=>ite f (R (.I 1) a) (R (.I 0) a)) (λJ=>ite (decide (i<0)) (J true H) (∃e t c,Cc H d 0 (.L e t c)/\J (decide (i≥((t:Nat):Int))) H)))):Cl 408 #[.P d 0,.I i] h R:=aD [(11,.join [(9,sB)])] b
def tZ{b:bH}{B o:Nat}(r:Cl 408 #[.P d 0,.I i] h λv H=> ∃t,v=.I t/\ite (t !=0) (R (.I t) H) (ite ((B:Int) !=128) (R (.I 3) H) (Hl H d 1 λw u s=>128<=B/\aJ b λa=>sQ H a (List.replicate 128 (.int .u8)) λx=>V5 ([.int .i64]++List.replicate 128 (.int .u8)) λT=>K3 Tryz.prog 383 #[(0,.I i),(1,.agg x.toArray)] (.agg T.toArray)/\ij (Instr.buildSlice 141 1 #[(0,.agg T.toArray)]) H λV c=> ∃j g f,V=.L j g f/\Kp H c [b,(Sa d 1)]/\ij (Builtin.append_ #[141,141] 141 #[.L w u s,.L j g f]) c λz e=> ∃m l k,z=.L m l k/\Kp c e [b]/\aI e (AA d 1) (.L m l k) λp=>Cl 360 #[.P d 2,.I 1] p λA q=> ∃y,A=.I y/\R (.I 0) q))):Cl 359 #[.P d 0,.I i,.L b B o] h R:=aD [(21,λ_=>pK 15)] r
def vH (w:Cl 408 #[.P d 0,.I i] h λv c=> ∃T,v=.I T/\ite (T !=0) (R (.T #[.Z,.I T]) c) (Hl c d 0 λy x D=>Bd i x/\aJ y λa=>sQ c (a.add (toNat i*128)) (List.replicate 128 (.int .u8)) λk=>aT c (.C ((List.replicate 128 (.int .u8 0):List Value)).toArray 381) λb q=>k.length=128/\cQ (AA b 0) k 0 q λf=>Hl f d 1 λz l E=> ∃(I:iT)(m:iW),I 0 f/\∀t H,I t H->ite (decide (t<(l:Int))) (ay (λg=>(I (wrap .i64 (t+1)) g/\m (wrap .i64 (t+1)) g<m t H)) (λJ=>Bd t l/\aJ z λA=>sQ H (A.add (toNat t*129)) ([.int .i64]++List.replicate 128 (.int .u8)) λo=>aT H (.C (([.I 0]++List.replicate 128 (.int .u8 0):List Value)).toArray 383) λB r=>o.length=129/\cQ (AA B 0) o 0 r λe=>Hi e B 0 λC=>ay (λs=>J s) (λj=>ite (C==i) (sQ e (AA B 1) (List.replicate 128 (.int .u8)) λp=>p.length=128/\cQ (AA b 0) p 0 e λu=>j u) (j e)))) (R (.T #[.L (bV (Sa b 0) 128 0 1) (128 - 0) (128 - 0),.I 0]) H))):Cl 347 #[.P d 0,.I i] h R:=aD [(18,.loop [(28,sI)]),(26,.join []),(31,.join [])] w
def vI (r:Cl 83 #[.P d 0] h λv e=> ∃l,v=.I l/\ite (l==0) (R (.I 6) e) (Hl e d 1 λs T y=> ∃(I:iT)(m:iW),I 0 e/\∀t H,I t H->ite (decide (t<(T:Int))) (Bd t T/\aJ s λa=>sQ H (a.add (toNat t*129)) ([.int .i64]++List.replicate 128 (.int .u8)) λg=>aT H (.C (([.I 0]++List.replicate 128 (.int .u8 0):List Value)).toArray 383) λb o=>g.length=129/\cQ (AA b 0) g 0 o λc=>Hl c d 0 λw u z=>Hi c b 0 λj=>sQ c (AA b 1) (List.replicate 128 (.int .u8)) λk=>Bd j u/\aJ w λA=>k.length=128/\cQ (A.add (toNat j*128)) k 0 c λf=>(I (wrap .i64 (t+1)) f/\m (wrap .i64 (t+1)) f<m t H)) (aI H (AA d 1) (.Z) λp=>Cl 360 #[.P d 3,.I 1] p λV q=> ∃x,V=.I x/\R (.I 0) q))):Cl 297 #[.P d 0] h R:=aD [(14,.loop [(13,sI)]),(25,λ_=>pK 10)] r
def mh{x:Addr}{delta:Int}(a:ij (callFunc 424 #[.Q (some x),.I delta]) h λb H=>Uf b λv=> ∃t,v=.I t/\R (.I t) H):Cl 360 #[.Q (some x),.I delta] h R:=aD [] a
def Ql:Extern.find Tryz.f424=some (Extern.Atomic.update (Op.intArith .add) .i64 true):=zzkr
def Ij:(Extern.findNext Tryz.f424).isNone=true:=zzkr
theorem den_add {a : Addr} {n δ : Int} {K : Next → Heap → Prop} (hc : aQ h a = some (.int .i64 n))
    (hk : aI h a (.int .i64 (IntKind.wrap .i64 (n + δ))) λh' => K (.value (.int .i64 (IntKind.wrap .i64 (n + δ)))) h') :
    bu Tryz.prog (callFunc 424 #[.pointer (some a), .int .i64 δ]) h K := by
  have e1 : Tryz.prog.funcs[424]? = some Tryz.f424 := Tryz.func424
  have e2 : Extern.findNext Tryz.f424 = none := Option.isNone_iff_eq_none.1 Ij
  have ⟨k1, k2, k3⟩ := hk
  unfold callFunc
  refine aZ (s := program) (a := Tryz.prog) rfl ?_
  rw [e1]
  dsimp only
  rw [if_neg (by decide +kernel), if_pos (by kernel_rfl)]
  refine aZ (s := mark (Mark.extern 424)) (a := ()) rfl ?_
  rw [e2, Ql]
  dsimp only
  rw [cY]
  refine ⟨.int .i64 n, hc, ?_⟩
  exact ⟨rfl, k1, k2, k3 _ rfl⟩
def Qm{a:Addr}{δ:Int}(b:aQ h a=some (.I n))(c:aI h a (.I (IntKind.wrap .i64 (n+δ))) λH=>R (.I (IntKind.wrap .i64 (n+δ))) H):
  Cl 360 #[.Q (some a),.I δ] h R:=
 mh (den_add b (by obtain⟨k,K,f⟩:=c;exact⟨k,K,λH e=>⟨_,rfl,f H e⟩⟩))

end
end Go.Proofs.YticlajoleibdnaaGreatDoor
