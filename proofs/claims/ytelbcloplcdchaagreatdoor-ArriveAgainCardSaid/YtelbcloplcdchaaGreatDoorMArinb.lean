/-
  IF is proved here: parts of zp proof, one behind zp other (texts of this work, merged by a program; JW zp theorem JX not use is left out). No condition.
-/
import Derived.Test.YtelbcloplcdchaaGreatDoorProg
import Derived.Shelf.Strings.Cut
import Derived.Shelf.Strconv.Itoa4
import Derived.Ground.NamesProg
import Derived.Shelf.Small.Wraps
import Derived.Shelf.Pu.ParseUintPublic10
import Derived.Ground.MpProg
import Derived.Test.YtelbcloplcdchaaGreatDoorMArina
set_option linter.defProp false
set_option maxRecDepth 100000
set_option maxHeartbeats 4000000
set_option linter.unusedSectionVars false
namespace Go.Den
section
variable {P : Program} {c : Type} [DecidableEq c]
structure Hn (P:Program) (kt:TypeId) (enc:c->Value):Prop where
 eq: ∀(a b:c) (h:aA),rd P (Op.equal kt (enc a) (enc b)) h=some (decide (a=b))
 WA: ∀(e:Bool) (a:c) (h:aA),rd P (Instr.checkKey e 10000 kt (enc a)) h=some ()
 now: ∃d,P.underlying kt=some d/\∀a b,Instr.sameNow d (enc a) (enc b)=none\/Instr.sameNow d (enc a) (enc b)=some (decide (a=b))
 bits: ∀a,Instr.sameBits 10000 (enc a) (enc a)=true
abbrev vB(e:c->Value)(t:c×Value×Nat):MapEntry:=⟨e t.1,t.2.1,t.2.2⟩
abbrev pr(t:c×Value×Nat):c×Value:=(t.1,t.2.1)
structure WB (h:aA) (m:Nat) (enc:c->Value) (T:List (c×Value×Nat)) (clock:Nat):Prop where
 cN:h[m]? =some (.map (T.map (vB enc)).toArray clock)
 keys:(T.map (·.1)).Nodup
 OO: ∀t∈T,t.2.2<clock
 born:(T.map (·.2.2)).Nodup
def kz(h:aA)(m:Nat)(e:c->Value)(l:List (c×Value)):Prop:= ∃T C,WB h m e T C/\(T.map pr).Perm l
def AY(l:List (c×Value))(k:c):List (c×Value):=l.filter (λe=> !decide (e.1=k))
def Kv(l:List (c×Value))(k:c)(v:Value):List (c×Value):=(k,v)::AY l k
def kz.perm{h:aA}{m:Nat}{e:c->Value}{l L:List (c×Value)}(H:kz h m e l)(p:l.Perm L):kz h m e L:=by have⟨T,C,a,b⟩:=H;exact⟨T,C,a,b.trans p⟩
def kz.oQ{h f:aA}{m:Nat}{E:c->Value}{l:List (c×Value)}(H:kz h m E l)(i:f[m]? =h[m]?):kz f m E l:=by have⟨T,C,⟨a,b,d,e⟩,g⟩:=H;exact⟨T,C,⟨i.trans a,b,d,e⟩,g⟩
def kz.lt{h:aA}{m:Nat}{e:c->Value}{l:List (c×Value)}(H:kz h m e l):m<h.size:=by have⟨T,C,a,_⟩:=H;exact aD a.cN
def kz.frame{S:gF}{h a:aA}{m:Nat}{e:c->Value}{l:List (c×Value)}(H:kz h m e l)(b:Fr S h a)(d: ¬S m):kz a m e l:=H.oQ (b.2 m H.lt d)
def kz.push(h:aA)(e:c->Value):kz (h.push (.map #[] 0)) h.size e []:=⟨[],0,⟨bR,bt,bt,bt⟩,.refl _⟩
def kz.nodup{h:aA}{m:Nat}{e:c->Value}{l:List (c×Value)}(H:kz h m e l):(l.map (·.1)).Nodup:=by have⟨T,C,b,d⟩:=H;have a:=d.map (·.1);rw[dR]at a;exact a.nodup_iff.1 b.keys
def oT(k:c):List (c×Value×Nat)->Nat->Option (Nat×Value)
 | [],_=>none
 |t::T,i=>if k=t.1 then some (i,t.2.1)else oT k T (i+1)
theorem sf{k:c}: ∀{T:List (c×Value×Nat)}{i:Nat},oT k T i=none->∀t∈T,t.1≠k
 | [],_,_,_,ht=>by cases ht
 |u::T,i,h,t,ht=>by unfold oT at h;split at h;cases h;rename_i H;rcases bG.1 ht with rfl|ht;grind;exact sf h t ht
theorem si{k:c}: ∀{T:List (c×Value×Nat)}{i j:Nat}{v:Value},oT k T i=some (j,v)->∃A B b,T=A++(k,v,b)::B/\j=i+A.length
 | [],_,_,_,h=>by cases h
 |u::T,i,j,v,h=>by unfold oT at h;split at h;rename_i H;obtain⟨rfl,rfl⟩:=h;subst H;exact⟨[],T,u.2.2,rfl,rfl⟩;obtain⟨A,B,b,rfl,rfl⟩:=si h;exact⟨u::A,B,b,rfl,by grind⟩
theorem CH{kt:TypeId}{E:c->Value}{d:TypeDesc}(h: ∀a b,Instr.sameNow d (E a) (E b)=none\/Instr.sameNow d (E a) (E b)=some (decide (a=b)))(k:c):
  ∀(T:List (c×Value×Nat))(i:Nat),Instr.findNow d (E k) (T.map (vB E)) i=none\/Instr.findNow d (E k) (T.map (vB E)) i=some (oT k T i)
 | [],i=> .inr rfl
 |t::T,i=>by rw[cp];unfold Instr.findNow oT;rcases h k t.1 with e|e<;>rw[e];simp;by_cases H:k=t.1;grind;rw[aT H,af H];exact CH (kt:=kt) h k T (i+1)
def Ho{a:TypeId}{e:c->Value}(K:Hn P a e)(k:c)(h:aA): ∀(T:List (c×Value×Nat))(i:Nat),rd P (Instr.findAsking a (e k) (T.map (vB e)) i) h=some (oT k T i)
 | [],i=>rfl
 |t::T,i=>by rw[cp];unfold Instr.findAsking oT;rw[bE _ _ _ _ (K.eq k t.1 h)];by_cases H:k=t.1;rw[aC H,ag H,ag rfl];rfl;rw[aT H,af H,af bt];exact Ho K k h T (i+1)
def IY{a:TypeId}{E:c->Value}(K:Hn P a E)(k:c)(h:aA)(T:List (c×Value×Nat)):rd P (Instr.findKey a (E k) (T.map (vB E))) h=some (oT k T 0):=by have⟨d,H,b⟩:=K.now;unfold Instr.findKey;rw[bE _ _ _ _ (bH H)];rcases CH (kt:=a) b k T 0 with e|e<;>rw[e];exact Ho K k h T 0;rfl
structure qK (P:Program) (t:TypeId) (enc:c->Value) (z:Value):Prop where
 ty: ∃k e,P.underlying t=some (.map k e)/\Hn P k enc/\∃i,P.info? e=some i/\i.zero=some z
theorem qK.of{t:TypeId}{E:c->Value}{z:Value}(k e:TypeId)(h:P.underlying t=some (.map k e))(H:Hn P k E)(b:(P.info? e).bind (·.zero)=some z):qK P t E z:=by
 cases a:P.info? e with
 |none=>grind
 |some i=>exact⟨k,e,h,H,i,a,by grind⟩
def yh(l:List (c×Value))(k:c):Option Value:=(l.find? (λe=>decide (e.1=k))).map (·.2)
def Hr{l:List (c×Value)}{k:c}:yh l k=none↔ ∀e∈l,e.1≠k:=by unfold yh;simp
theorem Ht{l:List (c×Value)}{k:c}{v:Value}(H:(l.map (·.1)).Nodup):yh l k=some v↔(k,v)∈l:=by
 induction l with
 |nil=>simp[yh]
 |cons e l i=>unfold yh at i⊢;by_cases h:e.1=k;grind;grind
def kz.find{h:aA}{m:Nat}{E:c->Value}{l:List (c×Value)}(H:kz h m E l){T:List (c×Value×Nat)}(a:(T.map pr).Perm l)(k:c):(oT k T 0).map (·.2)=yh l k:=by
 cases e:oT k T 0 with
 |none=>symm;rw[Option.map_none,Hr];intro x f;obtain⟨t,d,rfl⟩:=bh.1 (a.mem_iff.2 f);exact sf e t d
 |some j=>obtain⟨A,B,b,rfl,_⟩:=si e;symm;rw[eu,Ht H.nodup];exact a.mem_iff.1 bt
def UP{t:TypeId}{E:c->Value}{z:Value}(K:qK P t E z){h:aA}{m:Nat}{l:List (c×Value)}(H:kz h m E l)(k:c)(o:Bool):
  rd P (Instr.lookup t (.map (some m)) (E k) o) h=some (if o then .T #[(yh l k).getD z,.B (yh l k).isSome]else(yh l k).getD z):=by
 have⟨p,e,g,a,i,d,j⟩:=K.ty;have b:=H;have⟨T,C,H,f⟩:=H;rw[<-b.find f k];unfold Instr.lookup;rw[bE _ _ _ _ (bH g)];rw[bE _ _ _ _ (km H.cN)];rw[bE _ _ _ _ (kP _),bE _ _ _ _ (a.WA _ k h),bE _ _ _ _ (IY a k h T)];cases n:oT k T 0 with
 |none=>rw[bE _ _ _ _ (jT d j)];cases o<;>rfl
 |some J=>rfl
def ND{t:TypeId}{e:c->Value}{z:Value}(K:qK P t e z){h:aA}{m:Nat}{l:List (c×Value)}(H:kz h m e l)(k:c):xU P t (.map (some m)) (e k) false h ((yh l k).getD z):=λb a=>by have:=UP K (H.oQ a) k false;simpa using this
def OQ{t:TypeId}{e:c->Value}{z:Value}(K:qK P t e z){h:aA}{m:Nat}{l:List (c×Value)}(H:kz h m e l)(k:c):xU P t (.map (some m)) (e k) true h (.T #[(yh l k).getD z,.B (yh l k).isSome]):=λb a=>by have:=UP K (H.oQ a) k true;simpa using this
def Mi{t i:TypeId}{E:c->Value}{z:Value}(K:qK P t E z){h:aA}{m:Nat}{l:List (c×Value)}(H:kz h m E l):Tl P #[t] i (.map (some m)) h (.I (l.length:Int)):=λa f=>by
 have⟨k,e,g,_⟩:=K.ty;have⟨T,C,H,d⟩:=H;have b:T.length=l.length:=by rw[<-d.length_eq,aw]
 show rd P (underlying t>>=_) a=_;rw[bE _ _ _ _ (bH g)];show rd P (getObj m>>=_) a=_;rw[bE _ _ _ _ (km (Eq.trans f H.cN))];show some (goInt _)=_;simp[b,goInt]
theorem Mj{b:Type}(A B:List b)(t:b)(f:b->b):(A++t::B).modify A.length f=A++f t::B:=by
 induction A with
 |nil=>rfl
 |cons a A i=>grind
theorem OR{a:Type}(A B:List a)(t:a):(A++t::B).eraseIdx A.length=A++B:=by grind
def Hv{l L:List (c×Value)}(p:l.Perm L)(k:c):(AY l k).Perm (AY L k):=p.filter _
def Kw{A B:List (c×Value×Nat)}{k:c}{v:Value}{b:Nat}(d:((A++(k,v,b)::B).map (·.1)).Nodup):AY ((A++(k,v,b)::B).map pr) k=(A++B).map pr:=by rw[aS,cp,ft]at d;have⟨_,a,f⟩:=d;rw[gz]at a;unfold AY;rw[aS,cp,fz,di,af bt,aS];congr 1;rw[cK];intro e h;obtain⟨t,H,rfl⟩:=bh.1 h;have:=f t.1 (bL H) k bt;simp[this];rw[cK];intro e h;obtain⟨t,H,rfl⟩:=bh.1 h;have:t.1≠k:=λe=>a.1 (bh.2 ⟨t,H,e⟩);simp[this]
def xa{l:List (c×Value)}{k:c}(H: ∀e∈l,e.1≠k):AY l k=l:=by unfold AY;rw[cK];intro e h;simp[H e h]
def zL{t:TypeId}{E:c->Value}{z:Value}(K:qK P t E z){h:aA}{m:Nat}{l:List (c×Value)}(H:kz h m E l){k:c}{v:Value}{Q:Unit->dw}(O: ∀n,kz n m E (Kv l k v)->n.size=h.size->(∀C,C≠m->n[C]? =h[C]?)->Q () n):bM P (Instr.mapUpdate t (.map (some m)) (E k) v) h Q:=by
 obtain⟨X,e,ht,r,_⟩:=K.ty;obtain⟨T,C,H,s⟩:=H;have R:=aD H.cN;unfold Instr.mapUpdate;refine bY (bH ht) ?_;simp only;refine bY (km H.cN) ?_;simp only;refine bY (r.WA _ k h) ?_;have F: ∀(d:List (c×Value×Nat))(o:Array MapEntry)(i:Nat),o.toList=d.map (vB E)->(d.map (·.1)).Nodup->(∀t∈d,t.2.2<i)->(d.map (·.2.2)).Nodup->(d.map pr).Perm (Kv l k v)->bM P (setObj m (.map o i)) h Q:=λd o i G I J L M=>by refine⟨⟨_,H.cN,λC e f q=>by cases q⟩,?_⟩;refine O _ ⟨d,i,⟨?_,I,J,L⟩,M⟩ bt (λx U=> ?_);rw[<-G];simp[R];rw[dK,af (Ne.symm U)]
 refine bY (IY r k h T) ?_;cases w:oT k T 0 with
 |none=>simp only;have D:=sf w;refine F (T++ [(k,v,C)]) _ _ bt ?_ ?_ ?_ ?_;rw[aS,ft];refine⟨H.keys,bt,λa p b g=> ?_⟩;obtain⟨t,ht,rfl⟩:=bh.1 p;simp at g;subst g;exact D t ht;intro t ht;rcases bP.1 ht with ht|ht;exact Nat.lt_succ_of_lt (H.OO t ht);obtain rfl:=bW.1 ht;exact Nat.lt_succ_self _;rw[aS,ft];refine⟨H.born,bt,λa p b g=> ?_⟩;obtain⟨t,ht,rfl⟩:=bh.1 p;simp at g;subst g;exact Nat.ne_of_lt (H.OO t ht);unfold Kv;rw[xa (λe q=>by obtain⟨t,ht,rfl⟩:=bh.1 (s.mem_iff.2 q);exact D t ht),aS];exact(List.perm_append_comm.trans (.refl _)).trans (List.Perm.cons _ s)
 |some V=>
  obtain⟨j,u⟩:=V;obtain⟨A,B,b,rfl,y⟩:=si w;rw[bj]at y;subst y;simp only;have S:rd P (Instr.keyThatStays (((((A++(k,u,b)::B).map (vB E)).toArray[A.length]?).map (·.key)).getD (E k)) (E k)) h=some (E k):=by
   have:((A++(k,u,b)::B).map (vB E)).toArray[A.length]? =some (vB E (k,u,b)):=bt
   rw[this];simp only[eu,Option.getD_some];unfold Instr.keyThatStays;rw[ag (r.bits k)];rfl
  refine bY S ?_;refine F (A++(k,v,b)::B) _ _ ?_ ?_ ?_ ?_ ?_;rw[Array.toList_modify,aS,cp];have:=Mj (A.map (vB E)) (B.map (vB E)) (vB E (k,u,b)) (λe=> { e with key:=E k,val:=v });rw[aw]at this;rw[this,aS,cp];have:=H.keys;simpa using this;intro t ht;rcases bP.1 ht with ht|ht;exact H.OO t (dY _ ht);rcases bG.1 ht with rfl|ht;exact H.OO (k,u,b) bt;exact H.OO t (by simp[ht]);have:=H.born;simpa using this;unfold Kv;refine List.Perm.trans ?_ (List.Perm.cons _ ((Kw H.keys▸Hv s k)));rw[aS,cp,aS];exact List.perm_middle
def Kx{t X Z:TypeId}{E:c->Value}{z:Value}(K:qK P t E z){h:aA}{m:Nat}{l:List (c×Value)}(H:kz h m E l){k:c}{Q:fp}(O: ∀n,kz n m E (AY l k)->n.size=h.size->(∀C,C≠m->n[C]? =h[C]?)->Q (.T #[]) n):bM P (Builtin.delete_ #[t,X] Z #[.map (some m),E k]) h Q:=by
 obtain⟨D,e,d,y,_⟩:=K.ty;obtain⟨T,C,H,q⟩:=H;have R:=aD H.cN;unfold Builtin.delete_;refine bY (bH d) ?_;show bM P (do
   let __x<-getObj m
   match __x with
    |Obj.map g s=>do
     Instr.checkKey g.isEmpty 10000 D (E k)
     let __do_lift<-Instr.findKey D (E k) g.toList
     match __do_lift with
      |some (i,_)=>do
       setObj m (Obj.map (g.eraseIdxIfInBounds i) s)
       pure (Value.tuple #[])
      |none=>do
       setObj m (Obj.map g s)
       pure (Value.tuple #[])
    |_=>do
     stuck "delete: map expected"
     pure (Value.tuple #[])) h Q
 refine bY (km H.cN) ?_;simp only;refine bY (y.WA _ k h) ?_;have F: ∀(a:List (c×Value×Nat))(o:Array MapEntry),o.toList=a.map (vB E)->(a.map (·.1)).Nodup->(∀t∈a,t.2.2<C)->(a.map (·.2.2)).Nodup->(a.map pr).Perm (AY l k)->bM P (do setObj m (.map o C);pure (Value.tuple #[])) h Q:=λa o G I J L M=>by rw[fu];refine⟨⟨_,H.cN,λC e f p=>by cases p⟩,?_⟩;refine O _ ⟨a,C,⟨?_,I,J,L⟩,M⟩ bt (λx U=> ?_);rw[<-G];simp[R];rw[dK,af (Ne.symm U)]
 refine bY (IY y k h T) ?_;cases v:oT k T 0 with
 |none=>have S:=sf v;refine F T _ rfl H.keys H.OO H.born ?_;rw[xa (λe p=>by obtain⟨t,d,rfl⟩:=bh.1 (q.mem_iff.2 p);exact S t d)];exact q
 |some V=>obtain⟨j,u⟩:=V;obtain⟨A,B,b,rfl,w⟩:=si v;rw[bj]at w;subst w;have r:List.Sublist (A++B) (A++(k,u,b)::B):=List.Sublist.append (List.Sublist.refl _) (List.sublist_cons_self _ _);refine F (A++B) _ ?_ ((r.map _).nodup H.keys) (λt d=>H.OO t (r.subset d)) ((r.map _).nodup H.born) (Kw H.keys▸Hv q k);rw[Array.toList_eraseIdxIfInBounds,aS,cp];have:=OR (A.map (vB E)) (B.map (vB E)) (vB E (k,u,b));rw[aw]at this;rw[this,aS]
def Iter(h:aA)(r m:Nat)(e:c->Value)(l done:List (c×Value)):Prop:=
 ∃T C D L,WB h m e T C/\(T.map pr).Perm l/\h[r]? =some (.mapIter (some m) C (D.map (·.2.2)).toArray L)/\(D≠ []->L=C)/\D.Nodup/\(∀t∈D,t∈T)/\D.map pr=done/\r≠m
def Iter.frame{S:gF}{h a:aA}{r m:Nat}{e:c->Value}{l done:List (c×Value)}(H:Iter h r m e l done)(f:Fr S h a)(d: ¬S r)(g: ¬S m):Iter a r m e l done:=by have⟨T,b,D,L,A,B,C,E⟩:=H;exact⟨T,b,D,L,⟨f.get A.cN g,A.keys,A.OO,A.born⟩,B,f.get C d,E⟩
def Iter.le{h:aA}{r m:Nat}{e:c->Value}{l done:List (c×Value)}(H:Iter h r m e l done):done.length<=l.length:=by obtain⟨T,C,D,L,A,B,_,_,a,b,rfl,_⟩:=H;rw[aw,<-B.length_eq,aw];exact a.length_le_of_subset (λt d=>b t d)
def El{t:TypeId}{E:c->Value}{z:Value}(K:qK P t E z){h:aA}{m:Nat}{l:List (c×Value)}(H:kz h m E l){Q:fp}(d: ∀r a,r=h.size->Iter a r m E l []->Fr (λ_=>False) h a->Q (.P r 0) a):bM P (Instr.range t (.map (some m))) h Q:=by
 have⟨k,e,b,i,_⟩:=K.ty;have⟨T,C,H,g⟩:=H;refine bY (bH b) (bY (km H.cN) ?_);have f:Fr (λ_=>False) h (h.push (.mapIter (some m) C #[] C)):=Fr.push _ _;exact d h.size _ rfl ⟨T,C, [],C,⟨f.get H.cN id,H.keys,H.OO,H.born⟩,g,bR,(λe=>absurd rfl e),.nil,(λt b=>by cases b),rfl,λe=>bN (aD H.cN)⟩ f
theorem Em{a:Type}{n:Nat}{g:Nat->Sem a}{h:aA}{Q:a->dw}(b:0<n)(H: ∀i,i<n->bM P (g i) h Q):bM P (choose (.mapNext n)>>=g) h Q:=by show(if(Question.mapNext n).forced=true then bM P (g 0) h Q else∀t,bM P (g ((Question.mapNext n).cut t)) h Q);split;grind;intro t;exact H _ (Nat.mod_lt _ b)
theorem Hw{ty:TypeId}{E:c->Value}{h:aA}{r m:Nat}{l done:List (c×Value)}(I:Iter h r m E l done){Q:fp}(k1:done.Perm l->Q (.T #[.B false]) h)(k2: ∀a v k,(a,v)∈l->(a,v)∉done->Iter k r m E l (done++ [(a,v)])->k.size=h.size->(∀C,C≠r->k[C]? =h[C]?)->Q (.T #[.B true,E a,v]) k):
  bM P (Instr.next (.P r 0) false ty) h Q:=by
 classical
 obtain⟨T,C,D,L,M,w,y,X,hn,o,rfl,F⟩:=I;have a':=aD y;have K:T.Nodup:=by have:=M.keys;exact List.Pairwise.of_map (S:=(· ≠ ·)) (·.1) (λa j' O e=>O (by rw[e])) this
 unfold Instr.next;simp only;have f':rd P (getObj r) h=some (.mapIter (some m) C (D.map (·.2.2)).toArray L):=by unfold getObj;simp only[rd,y]
 refine bY f' ?_;simp only;refine bY (km M.cN) ?_;simp only;have hq:(!(D.map (·.2.2)).toArray.isEmpty && !(T.map (vB E)).toArray.isEmpty && (T.map (vB E)).toArray.all (λe=>decide (e.born≥L)))=false:=by
  cases A:D with
  |nil=>rfl
  |cons d D'=>
   have hl:=X (by rw[A];simp);have B:d∈T:=o d (by rw[A];simp);have:(T.map (vB E)).toArray.all (λe=>decide (e.born≥L))=false:=by rw[List.all_toArray,List.all_eq_false];exact⟨vB E d,bL B,by simp;have:=M.OO d B;omega⟩
   rw[this];simp
 rw[af (by rw[hq];simp)];have Z:(T.map (vB E)).toArray.filter (λe=> !(D.map (·.2.2)).toArray.contains e.born)=((T.filter (λt=> !decide (t∈D))).map (vB E)).toArray:=by
  apply Array.ext';rw[Array.toList_filter];simp only[];rw[dT];congr 1;apply eO;intro t b;have:(D.map (·.2.2)).toArray.contains (vB E t).born=decide (t∈D):=by
   by_cases n:t∈D;rw[aC n];simp;exact⟨t.1,t.2.1,n⟩;rw[aT n];simp only[List.contains_toArray,List.contains_eq_mem,eK,bh,not_exists,not_and];intro u g e;have V:u=t:=by have R:=M.born;have h':=o u g;obtain⟨i,H⟩:=bA h';obtain⟨j,f⟩:=bA b;have s:=(aJ.1 H).1;have:=(eE (l:=T.map (·.2.2)) (i:=i) (j:=j) (dH s) R).1 (by rw[aN,aN,H,f];simp[e]);subst this;rw[H]at f;exact bF f
   exact n (V▸g)
  simp only[Function.comp,this]
 have e':(((T.filter (λt=> !decide (t∈D))).map (vB E)).toArray.filter (λe=>decide (e.born<C)))=((T.filter (λt=> !decide (t∈D))).map (vB E)).toArray:=by rw[Array.filter_eq_self];intro e q;obtain⟨t,b,rfl⟩:=bh.1 (List.mem_toArray.1 q);exact aC (M.OO t (bD.1 b).1)
 have d':(((T.filter (λt=> !decide (t∈D))).map (vB E)).toArray.filter (λe=>decide (e.born≥C)))= #[]:=by rw[Array.filter_eq_empty_iff];intro e q;obtain⟨t,b,rfl⟩:=bh.1 (List.mem_toArray.1 q);have:=M.OO t (bD.1 b).1;simp;omega
 rw[Z,e',d'];simp only[Array.append_empty];cases p:T.filter (λt=> !decide (t∈D))with
 |nil=>
  refine Em bt λi H=> ?_;have:i=0:=by simpa using H
  subst this;have G:((if((([]:List (c×Value×Nat)).map (vB E)).toArray.isEmpty=true)then #[none]else #[])++Array.map some (([]:List (c×Value×Nat)).map (vB E)).toArray)[0]? =some none:=bt
  rw[G];show bM P (pure (.T #[.B false])) h Q;refine k1 ?_;refine List.Perm.trans (List.Perm.map _ ?_) w;rw[List.perm_ext_iff_of_nodup hn K];intro t;refine⟨o t,λb=> ?_⟩;have:=List.filter_eq_nil_iff.1 p t b;simpa using this
 |cons k' i'=>
  refine Em bt λi H=> ?_;rw[<-p]at H⊢;have c':(((T.filter (λt=> !decide (t∈D))).map (vB E)).toArray.isEmpty)=false:=by rw[p];rfl
  rw[c']at H⊢;simp only[az,aY,Array.empty_append]at H⊢;have U:i<(T.filter (λt=> !decide (t∈D))).length:=by simpa using H
  obtain⟨t,b⟩: ∃t,(T.filter (λt=> !decide (t∈D)))[i]? =some t:=⟨_,au U⟩;have S:(Array.map some ((T.filter (λt=> !decide (t∈D))).map (vB E)).toArray)[i]? =some (some (vB E t)):=by simp[b]
  rw[S];have z:=bD.1 (aG b);have g':t∉D:=by simpa using z.2
  refine⟨⟨_,y,λ_ _ _ e=>by cases e⟩,?_⟩;refine k2 t.1 t.2.1 _ (w.mem_iff.1 (bL (f:=pr) z.1)) ?_ ⟨T,C,D++ [t],C,⟨?_,M.keys,M.OO,M.born⟩,w,?_,(λ_=>rfl),?_,?_,?_,F⟩ bt (λx hx=> ?_);intro b';obtain⟨u,g,e⟩:=bh.1 b';have J:u.1=t.1:=bV (λx:c×Value=>x.1) e;have:u=t:=by obtain⟨i,H⟩:=bA (o u g);obtain⟨j,f⟩:=bA z.1;have s:=(aJ.1 H).1;have:=(eE (l:=T.map (·.1)) (i:=i) (j:=j) (dH s) M.keys).1 (by rw[aN,aN,H,f];simp[J]);subst this;rw[H]at f;exact bF f
  exact g' (this▸g);rw[dK,af F];exact M.cN;simp[a'];grind;grind;rw[aS];rfl;rw[dK,af (Ne.symm hx)]
end
end Go.Den
namespace Go.Den
section
variable {P : Program} {a : Type}
theorem find_born(E:a->Value){t:a×Value×Nat}: ∀{T:List (a×Value×Nat)},(T.map (·.2.2)).Nodup->t∈T->T.find? ((λe:MapEntry=>e.born==t.2.2) ∘ vB E)=some t
 | [],_,h=>by cases h
 |u::T,H,h=>by
  rw[cp,gz]at H;rw[List.find?_cons];by_cases b:u.2.2=t.2.2;grind;have:((λe=>e.born==t.2.2) ∘ vB E) u=false:=by simp[b]
  rw[this];rcases bG.1 h with e|e;grind;exact find_born E H.2 e
def Eo{t:TypeId}{s:cF}{h:aA}{Q:fp}(c:P.underlying t=some .string)(b: ∀r H,r=h.size->H[r]? =some (.stringIter s 0)->Fr (λ_=>False) h H->Q (.P r 0) H):
  bM P (Instr.range t (.S s)) h Q:=by
 refine bY (bH c) (b h.size _ rfl bR (Fr.push _ _))
theorem OS{t:TypeId}{s:cF}{h:aA}{r pos:Nat}{Q:fp}(d:h[r]? =some (.stringIter s pos))(k:s.size<=pos->Q (.T #[.B false]) h)(K:pos<s.size->∀H,H[r]? =some (.stringIter s (pos+(Utf8.decode s pos).2))->H.size=h.size->(∀c,c≠r->H[c]? =h[c]?)->Q (.T #[.B true,.I (pos:Int),.int .i32 ((Utf8.decode s pos).1:Int)]) H):
  bM P (Instr.next (.P r 0) true t) h Q:=by
 unfold Instr.next;have f:rd P (getObj r) h=some (.stringIter s pos):=by unfold getObj;simp only[rd,d]
 refine bY f ?_;simp only;by_cases b:pos<s.size;rw[ag b];refine⟨⟨_,d,λ_ _ _ e=>by cases e⟩,(K b _ (by simp[(aD d)]) bt (λc g=>by grind))⟩;rw[af b];exact k ae
theorem Ep{E:a->Value}{h:aA}{r m:Nat}{l done:List (a×Value)}{A:a}{v:Value}(I:Iter h r m E l (done++ [(A,v)])){Q:fp}(j:Q (.T #[E A,v]) h):
  bM P (Instr.entry (.P r 0)) h Q:=by
 have⟨T,c,D,L,M,u,n,k,q,p,H,s⟩:=I;rcases List.eq_nil_or_concat D with rfl|⟨d,t,rfl⟩;simp at H;rw[List.concat_eq_append]at*;rw[aS]at H;have⟨_,b⟩:=List.append_inj' H rfl;have b:pr t=(A,v):=by grind
 have f:t.2.1=v:=bV (λx=>x.2) b;unfold Instr.entry;have o:rd P (getObj r) h=some (.mapIter (some m) c ((d++ [t]).map (·.2.2)).toArray L):=by unfold getObj;simp only[rd,n]
 refine bY o ?_;simp only;have g:((d++ [t]).map (·.2.2)).toArray.back? =some t.2.2:=bt
 rw[g];refine bY (km M.cN) ?_;simp only;rw[(k bt),af bt];have i:(T.map (vB E)).toArray.find? (λe=>e.born==t.2.2)=some (vB E t):=by rw[List.find?_toArray,List.find?_map];have:=find_born E M.born (p t bt);rw[this];rfl
 rw[i];show Q (.T #[E t.1,t.2.1]) h;rw[(bV (λx=>x.1) b),f];exact j
end
end Go.Den
namespace Go.Den
section
variable {P : Program}
def IZ(P:Program)(e:TypeId->Value->Value->Option Bool)(x y:Array Value)(t:TypeId)(o:Nat)(a:Option Bool):Option Bool:=
 match lX P (part t x o),lX P (part t y o)with
 |some u,some v=>(match e t u v,a with|some b,some c=>some (b && c)|_,_=>none)
 |_,_=>none
def WC(P:Program):Nat->TypeId->Value->Value->Option Bool
 |0,_,_,_=>none
 |n+1,t,x,y=>
  match P.underlying t with
  |some .bool=>(match x,y with| .bool a,.bool b=>some (a==b)|_,_=>none)
  |some (.int _)=>(match x,y with| .int k a,.int K b=>(match decide (k=K)with|true=>some (a==b)|false=>none)|_,_=>none)
  |some .string=>(match x,y with| .string a,.string b=>some (a==b)|_,_=>none)
  |some (.struct fs)=>(match x,y with
   | .agg X,.agg c=>(match P.stoodInHeld t with
    |true=>none
    |false=>fs.toList.foldr (λf A=>match decide (f.name= "_")with|true=>A|false=>IZ P (WC P n) X c f.type f.offset A) (some true))
   |_,_=>none)
  |some (.array len e)=>(match x,y,P.info? e with
   | .agg X,.agg c,some i=>(List.range len).foldr (λk A=>IZ P (WC P n) X c e (k*i.size) A) (some true)
   |_,_,_=>none)
  |_=>none
def xc{i:Type}{h:aA}{step:i->Option Bool->Option Bool}{B:i->Option Bool×Unit->Sem (ForInStep (Option Bool×Unit))}: ∀(l:List i)(b:Bool),l.foldr step (some true)=some b->
  (∀f a b,step f a=some b->(a=some b/\rd P (B f (none,())) h=some (.yield (none,())))\/∃q c,a=some c/\b=(q && c)/\rd P (B f (none,())) h=some (if q=true then .yield (none,())else .done (some false,())))->
  rd P (forIn l (none,()) B) h=some (if b=true then(none,())else(some false,()))
 | [],b,e,_=>by cases bF e;rfl
 |f::l,b,e,g=>by
  rw[List.forIn_cons];rcases g f _ b e with⟨H,d⟩|⟨q,c,H,rfl,d⟩;rw[bE _ _ _ _ d];exact xc l b H g;rw[bE _ _ _ _ d];cases q with
  |true=>exact xc l c H g
  |false=>rfl
def Hx{e:TypeId->Value->Value->Option Bool}{n:Nat}(f: ∀t x y b,e t x y=some b->∀h,rd P (Op.equalIn n t x y) h=some b){X d:Array Value}{t:TypeId}{o:Nat}{a:Option Bool}{b:Bool}{h:aA}(H:IZ P e X d t o a=some b):
  ∃q c u v,a=some c/\b=(q && c)/\rd P (part t X o) h=some u/\rd P (part t d o) h=some v/\rd P (Op.equalIn n t u v) h=some q:=by
 unfold IZ at H;split at H;rename_i u v i j;split at H;rename_i q c g;exact⟨q,c,u,v,rfl,(bF H).symm,x9 _ _ i h,x9 _ _ j h,f _ _ _ _ g h⟩;cases H;cases H
theorem Ml : ∀(n : Nat)(t : TypeId)(x y : Value)(b : Bool), WC P n t x y = some b -> ∀ h, rd P (Op.equalIn n t x y) h = some b
  | 0, _, _, _, _, H => by cases H
  | n + 1, t, x, y, b, H => by
    intro h
    unfold WC at H
    unfold Op.equalIn
    split at H
    · rename_i g
      rw [bE _ _ _ _ (bH g)]
      split at H
      · rw [<- H]; rfl
      · cases H
    · rename_i d g
      rw [bE _ _ _ _ (bH g)]
      split at H
      · rename_i k a K c
        split at H
        · rename_i B
          simp only [bk B, bJ]
          rw [<- H]; rfl
        · cases H
      · cases H
    · rename_i g
      rw [bE _ _ _ _ (bH g)]
      split at H
      · rw [<- H]; rfl
      · cases H
    · rename_i fs g
      rw [bE _ _ _ _ (bH g)]
      split at H
      · rename_i X E
        split at H
        · cases H
        · rename_i D
          dsimp only
          rw [bE _ _ _ _ (show rd P program h = some P from rfl), D]
          simp only [az, aY]
          rw [<- Array.forIn_toList, bE _ _ _ _ (xc (h := h) fs.toList b H ?_)]
          · cases b <;> rfl
          · intro f A b j
            split at j
            · rename_i w
              refine .inl ⟨j, ?_⟩
              rw [af (by grind)]
              rfl
            · rename_i w
              obtain ⟨q, c, u, v, l, m, o, p, r⟩ := Hx (h := h) (λt x y b s h => Ml n t x y b s h) j
              refine .inr ⟨q, c, l, m, ?_⟩
              rw [ag (by grind), bE _ _ _ _ o, bE _ _ _ _ p, bE _ _ _ _ r]
              cases q <;> rfl
      · cases H
    · rename_i len e g
      rw [bE _ _ _ _ (bH g)]
      split at H
      · rename_i X E i z
        dsimp only
        rw [bE _ _ _ _ (iY z), Std.Legacy.Range.forIn_eq_forIn_range']
        have C : List.range' ([:len] : Std.Legacy.Range).start ([:len] : Std.Legacy.Range).size ([:len] : Std.Legacy.Range).step = List.range len := by
          simp [Std.Legacy.Range.size, List.range_eq_range']
        rw [C, bE _ _ _ _ (xc (h := h) (List.range len) b H ?_)]
        · cases b <;> rfl
        · intro k A b j
          obtain ⟨q, c, u, v, l, m, o, p, r⟩ := Hx (h := h) (λt x y b s h => Ml n t x y b s h) j
          refine .inr ⟨q, c, l, m, ?_⟩
          rw [bE _ _ _ _ o, bE _ _ _ _ p, bE _ _ _ _ r]
          cases q <;> rfl
      · cases H
    · cases H
def Ox.of{t:TypeId}{x y:Value}{b:Bool}(H:WC P 10000 t x y=some b):Ox P t x y b:=λh=>Ml 10000 t x y b H h
end
section
variable {b o:Nat}
theorem zM : ∀(V:List Value)(i:Nat)(h:aA)(K:dw),dG (AA b 0) V (o+i) h K->dG (AA b o) V i h K
 | [],_,_,_,H=>H
 |v::V,i,h,K,H=>by
  unfold dG at H⊢;cases g:gk v with
  |false=>grind
  |true=>rw[g]at H;rw[iP,bj]at H;rw[iP];have⟨c,d,f⟩:=H;exact⟨c,d,λa e=>zM V (i+1) a K (f a e)⟩
theorem mN{h:aA}{c:Array Value}{t:TypeId}{v w:List Value}{K:dw}(a:h[b]? =some (.C c t (0,0)))(k:o+v.length<=c.size)(f:v.all gk=true)(d:c.toList.take o++v++c.toList.drop (o+v.length)=w)(e: ∀H,H[b]? =some (.C w.toArray t (0,0))->H.size=h.size->(∀x,x≠b->H[x]? =h[x]?)->K H):dG (AA b o) v 0 h K:=by
 refine zM v 0 h K (qa v (o+0) h c K a ae f λH C B z q r s O=>e H ?_ s O);have:C=w.toArray:=by
  subst d;apply Array.ext';apply fH;intro j;have m:c.toList.length=c.size:=Array.length_toList;rw[dP];by_cases g:j<o;grind;by_cases i:j<o+v.length;grind;have l:(c.toList.take o++v).length=o+v.length:=by grind
  rw[du ae,l,fC,dP,show o+v.length+(j - (o+v.length))=j by omega];exact q j ae
 rw[<-this];exact B

end
section
variable {P : Program}
def QP{t elem:TypeId}{bytes:Nat}{z b:Value}{h:aA}{K:fp}(T:pJ P t elem 1 bytes z)(D:z.cells= #[b])(n:Nat)(G:n*bytes<=70368744177664)(I:n<=9223372036854775807)(w: ∀H p,Own H p n n 1 (List.replicate n b)->Fr (λ_=>False) h H->(∀c,aL p c->h.size<=c)->K (.L p n n) H):
  bM P (Instr.makeSlice t (.I (n:Int)) (.I (n:Int))) h K:=by
 obtain⟨i,f,B,rfl,q⟩:=T.i;unfold Instr.makeSlice;refine bY (s:=underlying t) (bH T.u) ?_;refine bY (s:=asInt (.I (n:Int))) (a:=(n:Int)) rfl ?_;refine bY (s:=asInt (.I (n:Int))) (a:=(n:Int)) rfl ?_;refine bY (s:=typeInfo elem) (iU f) ?_;simp only[];rw[dJ (n:=(n:Int)) ae ae];have y:(i.bytes:Int)*(n:Int)=((n*i.bytes:Nat):Int):=by rw[Nat.mul_comm];simp
 have x:(decide ((n:Int)<0)||decide ((i.bytes:Int)*(n:Int)>2 ^ 48))=false:=by
  rw[y];have r: ¬(n:Int)<0:=ae
  have s: ¬((n*i.bytes:Nat):Int)>2 ^ 48:=ae
  rw[aT r,aT s];rfl
 have u:(((decide ((n:Int)<0)||decide ((i.bytes:Int)*(n:Int)>2 ^ 48))||decide ((n:Int)<0))||decide ((n:Int)>(n:Int)))=false:=by rw[x];simp
 rw[af (by rw[u];simp)];have A: ∀(m:Nat)(k:Unit->dw),k () h->bM P (askRoom m) h k:=λm k o=>by unfold askRoom;split;exact o;exact o
 rw[fu];refine A _ _ ?_;refine bY (s:=sizeOf elem) (iY f) ?_;rw[aK,B,cC];have F: ∀Z:Array Value,(n=0\/Z= #[b])->bM P (newRow elem ((Array.range n).map (Z[· %Z.size]!))>>=λa=>pure (.L (some a) n n)) h K:=by
  intro Z E;show K (.L (Sa h.size 0) n n) (h.push (.C ((Array.range n).map (Z[· %Z.size]!)) elem));refine w _ _ (.row h.size 0 _ elem rfl bR (bu _) bt bt ?_) (Fr.push _ _) ?_;intro j v g;have l:j<n:=by have:=(aJ.1 g).1;simpa using this
  have C:v=b:=by rw[List.getElem?_replicate,ag l]at g;exact(bF g).symm
  subst C;rcases E with q|rfl;omega;rw[bj];simp[l,Nat.mod_one];rintro c ⟨a,e,rfl⟩;cases e;exact bu _
 by_cases d:n=0;rw[ag d];exact F #[] (.inl d);rw[af d];refine bY (s:=zeroValue elem) (jT f q) ?_;refine bY (s:=(pure z.cells:Sem (Array Value))) (a:=z.cells) rfl ?_;rw[D];exact F #[b] (.inr rfl)
end
section
variable {h:aA}
def idxOf{a:Type}(P:a->Bool)(x:List a):Int:=match x.findIdx? P with|some k=>(k:Int)|none=> -1
theorem qL{l:Type}(P:l->Bool){X:List l}{n:Nat}{R:fp}(B:Int->aA->(Bool->dw)->Prop)(v:n=X.length)(u:X.length<=1000000000)(o: ∀(k:Nat) g x K,X[k]? =some x->Fr (λ_=>False) h g->(∀G,Fr (λ_=>False) h G->K (P x) G)->B (k:Int) g K)(a: ∀g,Fr (λ_=>False) h g->R (.I (idxOf P X)) g):
  ∃(I:kj)(m:kG),I 0 h/\∀(t:Int)(g:aA),I t g->if(decide (t<(n:Int)))=true then B t g (λq b=>if q=true then R (.I t) b else(I (IntKind.wrap .i64 (t+1)) b/\m (IntKind.wrap .i64 (t+1)) b<m t g))else R (.I (-1)) g:=by
 refine⟨λi g=>Fr (λ_=>False) h g/\∃k:Nat,i=(k)/\k<=X.length/\∀j (H:j<X.length),j<k->¬P X[j]=true,λi _=>X.length - i.toNat,⟨Fr.refl _ _,0,rfl,ae,λj _ H=>ae⟩,?_⟩;rintro _ g ⟨f,k,rfl,s,d⟩;by_cases c:k<X.length;rw[gH];refine o k g X[k] _ (au c) f λG F=> ?_;by_cases e:P X[k]=true;rw[ag e];have:idxOf P X=(k):=by unfold idxOf;rw[show X.findIdx? P=some k from dp.2 ⟨c,e,λj H=>d j ae H⟩]
 rw[this]at a;exact a G F;rw[af e,fc];refine⟨⟨F,k+1,ae,ae,λj H r=> ?_⟩,by grind⟩;by_cases q:j=k;grind;grind;rw[af (λq=>c (by grind))];have:idxOf P X= -1:=by unfold idxOf;rw[show X.findIdx? P=none from List.findIdx?_eq_none_iff.2 λx p=> ?_];obtain⟨j,H,rfl⟩:=List.getElem_of_mem p;exact Bool.not_eq_true _▸d j H ae
 rw[this]at a;exact a g f

end
end Go.Den
namespace Go.fv
section
variable {n:Nat}
def vC:Nat->Nat->cQ
 |0,n=> [UInt8.ofNat n]
 |f+1,n=>if n>127 then UInt8.ofNat (n%128+128)::vC f (n/128)else [UInt8.ofNat n]
def bm(n:Nat):cQ:=vC 9 n
def Hz: ∀(f n:Nat),n<128 ^ (f+1)->vC (f+1) n=vC f n
 |0,n,h=>by unfold vC;rw[dz]
 |f+1,n,h=>by
  rw[show vC (f+1+1) n=if n>127 then UInt8.ofNat (n%128+128)::vC (f+1) (n/128)else [UInt8.ofNat n]from rfl,
   show vC (f+1) n=if n>127 then UInt8.ofNat (n%128+128)::vC f (n/128)else [UInt8.ofNat n]from rfl]
  split
  rw[Hz f (n/128) ae];rfl
def CI(h:n<18446744073709551616):bm n=if n>127 then UInt8.ofNat (n%128+128)::bm (n/128)else [UInt8.ofNat n]:=by unfold bm;rw[vC];split;rw[<-Hz 8 (n/128) ae];rfl
theorem Ky: ∀(f n:Nat),1<=(vC f n).length/\(vC f n).length<=f+1
 |0,n=>by simp[vC]
 |f+1,n=>by have:=Ky f (n/128);rw[vC];split;grind;simp
def bw(n:Nat):1<=(bm n).length/\(bm n).length<=10:=Ky 9 n
def CJ:Nat->Nat->Nat
 |0,_=>1
 |f+1,n=>if n>127 then CJ f (n/128)+1 else 1
def LU:Nat->Nat->cQ->Nat×Int×cQ
 |_,_, []=>(0,8, [])
 |i,n,c::b=>
  if i=10\/(i=9/\c.toNat>1)\/(c.toNat=0/\i>0)then(0,3,b)
  else if c.toNat<128 then(n+c.toNat%128*2 ^ (7*i),0,b)
  else LU (i+1) (n+c.toNat%128*2 ^ (7*i)) b
def fb(e:Int)(b:cQ):Nat×Int×cQ:=if e=0 then LU 0 0 b else(0,e,b)
theorem QQ: ∀(b:cQ)(i n:Nat),i<=10->n<2 ^ (7*i)->n<18446744073709551616->(LU i n b).1<18446744073709551616
 | [],_,_,_,_,_=>by simp[LU]
 |c::b,i,n,d,e,f=>by
  rw[LU];split;simp;rename_i g;have h:n+c.toNat%128*2 ^ (7*i)<18446744073709551616/\n+c.toNat%128*2 ^ (7*i)<2 ^ (7*(i+1)):=by
   have j:(2) ^ (7*(i+1))=128*2 ^ (7*i):=by grind
   have H:(c.toNat%128+1)*2 ^ (7*i)<=128*2 ^ (7*i):=dc _ ae;rw[gG]at H;refine⟨?_,ae⟩;by_cases a:i=9;grind;have:(2) ^ (7*(i+1))<=2 ^ 63:=gL ae ae;omega
  split
  omega;exact QQ b (i+1) _ ae h.2 h.1
def Mn(e:Int)(b:cQ):(fb e b).1<18446744073709551616:=by unfold fb;split;exact QQ b 0 0 ae bt ae;simp
def I0: ∀(b:cQ)(i n:Nat),(LU i n b).2.2.length<=b.length
 | [],_,_=>by simp[LU]
 |c::b,i,n=>by
  rw[LU];split;simp;split
  simp;have:=I0 b (i+1) (n+c.toNat%128*2 ^ (7*i));simp only[ba];omega
def NF: ∀(f n i a:Nat)(r:cQ),i+f=9->n*2 ^ (7*i)<18446744073709551616->(n=0->i=0)->LU i a (vC f n++r)=(a+n*2 ^ (7*i),0,r)
 |0,n,i,a,r,g,H,b=>by
  have j:i=9:=ae
  subst j;have o:n<2:=by have:n*2 ^ 63<2*2 ^ 63:=H;exact Nat.lt_of_mul_lt_mul_right this
  have p:n≠0:=λe=>by have:=b e;omega
  obtain rfl:n=1:=ae
  simp[vC,LU]
 |f+1,n,i,a,r,g,H,b=>by
  have c:(2:Nat) ^ (7*(i+1))=128*2 ^ (7*i):=by rw[Nat.mul_add,Nat.pow_add,Nat.mul_comm]
  have m:n<18446744073709551616:=by have:n*1<=n*2 ^ (7*i):=Nat.mul_le_mul_left _ (Nat.two_pow_pos _);omega
  rw[vC];split;rename_i k;rw[dC,LU];have h:(UInt8.ofNat (n%128+128)).toNat=n%128+128:=by rw[fU];omega
  rw[h,dz,dz];have E:(n%128+128)%128=n%128:=ae
  have d:n=128*(n/128)+n%128:=(Nat.div_add_mod n 128).symm;rw[NF f (n/128) (i+1) _ r ae ?_ (λe=>ae),E];refine Prod.ext ?_ rfl;simp only;rw[c];have:n/128*(128*2 ^ (7*i))=(128*(n/128))*2 ^ (7*i):=by rw[Nat.mul_comm 128 (n/128),Nat.mul_assoc]
  rw[this,Nat.add_assoc,<-gG,Nat.add_comm (n%128),<-d];rw[c];have:n/128*(128*2 ^ (7*i))=(128*(n/128))*2 ^ (7*i):=by rw[Nat.mul_comm 128 (n/128),Nat.mul_assoc]
  rw[this];refine Nat.lt_of_le_of_lt (dc _ ?_) H;omega;rename_i l;rw[dC,dj,LU];have h:(UInt8.ofNat n).toNat=n:=by rw[fU];omega
  rw[h,dz,gH,Nat.mod_eq_of_lt ae]
def iW(h:n<18446744073709551616)(r:cQ):fb 0 (bm n++r)=(n,0,r):=by unfold fb bm;rw[ag rfl,NF 9 n 0 0 r ae ae (λ_=>rfl)];simp
def fx(n:Int):Nat:=n.toNat
def bit(b:Bool):Nat:=if b=true then 1 else 0
def cX(t:cQ):cQ:=bm t.length++t
def QR(e E:Int):Int:=if e=0 then E else e
def hU(t:Nat)(e:Int)(b:cQ):Nat×Int×cQ:=
 if(fb e b).1>t then(0,QR (fb e b).2.1 3,(fb e b).2.2)else fb e b
def Kz(t:Nat)(e:Int)(b:cQ):(hU t e b).1<=t:=by unfold hU;split;omega;omega
def gV(e:Int)(b:cQ):Nat×Int×cQ:=hU 1099511627776 e b
def jo(e:Int)(b:cQ):cQ×Int×cQ:=
 if(fb e b).2.1=0 then
  (if(fb e b).1>(fb e b).2.2.length then([],8,(fb e b).2.2)
  else((fb e b).2.2.take (fb e b).1,0,(fb e b).2.2.drop (fb e b).1))
 else([],(fb e b).2.1,(fb e b).2.2)
def oA(e:Int)(b:cQ):Int:=if e=0 then(if b= []then 0 else 2)else e
def gA{top:Nat}(h:n<=top)(H:top<18446744073709551616)(y:cQ):hU top 0 (bm n++y)=(n,0,y):=by unfold hU;rw[iW ae,dz]
def kT{t:cQ}(h:t.length<18446744073709551616)(y:cQ):jo 0 (cX t++y)=(t,0,y):=by unfold jo cX;rw[cu,iW h];simp
def VA(b:Bool):bit b<=1:=by unfold bit;split<;>omega
def vD(e:Int)(b:cQ):(fb e b).2.2.length<=b.length:=by unfold fb;split;exact I0 b 0 0;simp
def sr(t:Nat)(e:Int)(b:cQ):(hU t e b).2.2.length<=b.length:=by unfold hU;split<;>exact vD e b

end
end Go.fv
namespace Go.jD
section
variable {n i j:Nat} {g:Int->Option Value} {k:Int}
abbrev E:=Int×Int
variable {x y z:E} {f:Nat->E} {a l L:List E}
def lt(x y:E):Prop:=x.2<y.2\/(x.2=y.2/\x.1<y.1)
def le(x y:E):Prop:= ¬lt y x
def lt_irrefl(x:E): ¬lt x x:=by unfold lt;omega
def lt_trans(h:lt x y)(H:lt y z):lt x z:=by unfold lt at*;omega
def le_refl(x:E):le x x:=lt_irrefl x
def le_trans(h:le x y)(H:le y z):le x z:=by unfold le lt at*;omega
def le_of_lt(h:lt x y):le x y:=by unfold le lt at*;omega
def lt_of_le_ne(h:le x y)(H:x.1≠y.1):lt x y:=by unfold le lt at*;omega
instance (x y : E) : Decidable (lt x y) := inferInstanceAs (Decidable (_ ∨ _))
def vE(f:Nat->E)(n:Nat):Prop:= ∀j,0<j->j<n->le (f ((j - 1)/2)) (f j)
def yi(f:Nat->E)(n i:Nat):Prop:=
 (∀j,0<j->j<n->j≠i->(j - 1)/2≠i->le (f ((j - 1)/2)) (f j))/\(0<i->∀j,0<j->j<n->(j - 1)/2=i->le (f ((i - 1)/2)) (f j))
def yj(f:Nat->E)(n i:Nat):Prop:=
 (∀j,0<j->j<n->(j - 1)/2≠i->le (f ((j - 1)/2)) (f j))/\(0<i->∀j,0<j->j<n->(j - 1)/2=i->le (f ((i - 1)/2)) (f j))
def Er(f:Nat->E)(n i:Nat):Prop:= ∀j,0<j->j<n->(j - 1)/2=i->le (f i) (f j)
def qM(f:Nat->E)(i j:Nat):Nat->E:=λk=>if k=i then f j else if k=j then f i else f k
theorem Tv(h:yi f n i)(e:i=0\/le (f ((i - 1)/2)) (f i)):yj f n i:=by refine⟨λj H b c=> ?_,h.2⟩;by_cases d:j=i;grind;exact h.1 j H b d c
def ss(h:yj f n i)(d:Er f n i):vE f n:=by intro j b c;by_cases H:(j - 1)/2=i;have:=d j b c H;rw[H];exact this;exact h.1 j b c H
theorem Tw{p:Nat}(h:yi f n i)(q:0<i)(v:i<n)(s:p=(i - 1)/2)(m:lt (f i) (f p)):yi (qM f i p) n p/\Er (qM f i p) n p:=by
 have o:p≠i:=ae
 refine⟨⟨λj b c d r=> ?_,λt j b c d=> ?_⟩,λj b c d=> ?_⟩
 ·
  have H:j≠i:=ae
  unfold qM;rw[af H,af d];by_cases e:(j - 1)/2=i;rw[ag e,s];exact h.2 q j b c e;rw[af e,af r];exact h.1 j b c H e
 have u:=h.1 p t ae o ae;unfold qM;rw[af (show(p - 1)/2≠i by omega),af (show(p - 1)/2≠p by omega)];by_cases H:j=i;grind;rw[af H,dz];have:=h.1 j b c H ae;rw[d]at this;exact le_trans u this;unfold qM;rw[af o,ag rfl];by_cases H:j=i;rw[ag H];exact le_of_lt m;rw[af H,dz];have:=h.1 j b c H ae;rw[d]at this;exact le_trans (le_of_lt m) this
theorem OT{c:Nat}(h:yj f n i)(p:(c - 1)/2=i)(q:0<c)(s:c<n)(r:lt (f c) (f i))(t: ∀j,0<j->j<n->(j - 1)/2=i->le (f c) (f j)):yj (qM f i c) n c:=by
 refine⟨λj H b d=> ?_,λ_ j H b d=> ?_⟩;unfold qM;by_cases m:j=i;subst m;rw[af (show(j - 1)/2≠j by omega),af (show(j - 1)/2≠c by omega),ag rfl];exact h.2 H c q s p;by_cases o:(j - 1)/2=i;rw[ag o,af m];by_cases e:j=c;rw[ag e];exact le_of_lt r;grind;have e:j≠c:=ae
 rw[af o,af d,af m,af e];exact h.1 j H b o;unfold qM;rw[p,ag rfl,af (show j≠i by omega),af (show j≠c by omega)];have:=h.1 j H b ae;rw[d]at this;exact this
def QS(h:vE f n): ∀j,j<n->le (f 0) (f j):=by
 intro j;induction j using Nat.strongRecOn with
 |_ j I=>intro b;by_cases H:j=0;subst H;exact le_refl _;exact le_trans (I ((j - 1)/2) ae ae) (h j ae b)
def at_(a:List E)(i:Nat):E:=a.getD i (0,0)
def AZ(h:i<a.length):at_ a i=a[i]:=by simp[at_,h]
def NG(h:i<a.length):a[i]? =some (at_ a i):=by simp[at_,h]
theorem Mo(h:i<a.length):at_ (a.set i x) j=if j=i then x else at_ a j:=by unfold at_;by_cases e:j=i;grind;grind
def tR(a:List E)(i j:Nat):List E:=(a.set j (at_ a i)).set i (at_ a j)
def A2 :(tR a i j).length=a.length:=by simp[tR]
theorem KA(H:i<a.length)(h:j<a.length)(k:Nat):at_ (tR a i j) k=qM (at_ a) i j k:=by unfold tR qM;rw[Mo (by grind),Mo h]
def HA(h:i<a.length)(H:j<a.length):at_ (tR a i j)=qM (at_ a) i j:=funext (KA h H)
def ym(h:i<a.length)(H:j<a.length):(tR a i j).Perm a:=by unfold tR;rw[AZ h,AZ H];exact List.set_set_perm H h
def jq(a:List E)(g:Int->Option Value):Prop:=
 (a.map (·.1)).Nodup/\(∀j,j<a.length->g (at_ a j).1=some (.int .i64 j))/\∀k,k∉a.map (·.1)->g k=none
theorem jq.swap(h:jq a g)(H:i<a.length)(b:j<a.length)(p:i≠j):
  jq (tR a i j) (λk=>if k=(at_ a j).1 then some (.I i)else if k=(at_ a i).1 then some (.I j)else g k):=by
 have⟨d,m,o⟩:=h;have e:=(ym H b).map (·.1);refine⟨e.nodup_iff.2 d,λk c=> ?_,λk c=> ?_⟩;rw[A2]at c;rw[KA H b];unfold qM;by_cases E:k=i;grind;grind;grind
def jL(l:List E):Prop:=l.Pairwise lt
def keys(l:List E):List Int:=l.map (·.1)
def gE(l:List E)(k:Int):List E:=l.filter (λe=> !(e.1==k))
def DF(l:List E)(x:E):List E:=l.filter (λe=>decide (lt e x))++x::l.filter (λe=> !decide (lt e x))
def me(l:List E)(x:E):(DF l x).Perm (x::l):=by refine(List.perm_middle).trans (List.Perm.cons x (List.filter_append_perm _ _))
def jL.drop(h:jL l)(k:Int):jL (gE l k):=gJ _ h
theorem jL.insert(h:jL l)(x:E)(d:x.1∉keys l):jL (DF l x):=by
 unfold jL DF;rw[List.pairwise_append];refine⟨gJ _ h,?_,?_⟩;rw[dF];refine⟨λy H=> ?_,gJ _ h⟩;have⟨m,c⟩:=bD.1 H;have b: ¬lt y x:=by grind
 exact lt_of_le_ne b (λe=>d (by rw[e];exact bL m));intro y H z hz;have⟨_,c⟩:=bD.1 H;have o:=by simpa using c
 rcases bG.1 hz with rfl|hz;exact o;have b: ¬lt z x:=by grind
 unfold lt at*;omega
def Mq(l:List E)(k:Int):k∉keys (gE l k):=by intro h;obtain⟨e,H,rfl⟩:=bh.1 h;have:=(bD.1 H).2;simp at this
def kJ(h:k∉keys l):gE l k=l:=by unfold gE;rw[cK];intro e H;have:e.1≠k:=λE=>h (E▸bL H);simp[this]
def Mr(h:l.Perm L)(k:Int):(gE l k).Perm (gE L k):=h.filter _
def QT(H:a.Perm l)(p:jL l)(m:vE (at_ a) a.length)(b:0<a.length): ∃r,l=at_ a 0::r:=by
 cases l with
 |nil=>have:=H.length_eq;simp only[cA]at this;omega
 |cons x r=>refine⟨r,?_⟩;have q:x∈a:=H.mem_iff.2 dN;obtain⟨j,h⟩:=bA q;have c:j<a.length:=(aJ.1 h).1;have d:=QS m j c;rw[NG c]at h;have E:at_ a j=x:=bF h;rw[E]at d;have o:at_ a 0∈x::r:=H.mem_iff.1 (by rw[AZ b];exact fZ b);rcases bG.1 o with e|e;rw[e];have:=(dF.1 p).1 _ e;exact absurd this d
def HB(H:a.length=n+1):a=a.take n++ [at_ a n]:=by
 have h:n<a.length:=ae
 rw[AZ h];have:=List.take_append_getElem h;rw[this,aX ae]
def I1(h:i<n):at_ (a.take n) i=at_ a i:=by unfold at_;rw[bx,bx,db,ag h]
theorem A4 :at_ (a++ [x]) i=if i<a.length then at_ a i else if i=a.length then x else(0,0):=by unfold at_;by_cases h:i<a.length;grind;grind
def mem_keys(h:k∈keys a): ∃j,j<a.length/\(at_ a j).1=k:=by obtain⟨e,c,rfl⟩:=bh.1 h;have⟨j,H⟩:=bA c;have b:=(aJ.1 H).1;rw[NG b]at H;exact⟨j,b,bV Prod.fst (bF H)⟩
def at_mem(h:j<a.length):at_ a j∈a:=by rw[AZ h];exact fZ h
def keys_perm(h:l.Perm L):(keys l).Perm (keys L):=h.map _
def cut(a:List E)(n j:Nat):List E:=if j<n then(a.take n).set j (at_ a n)else a.take n
theorem KB(b:a.length=n+1)(d:j<a.length):a.Perm (at_ a j::cut a n j):=by
 unfold cut;have m:(a.take n).length=n:=by grind
 split
 rename_i h;have H:j<(a.take n).length:=ae
 have e:at_ a j=(a.take n)[j]:=by rw[<-I1 h,AZ H]
 have p:=by
  have:a.Perm (a.take n++ [at_ a n]):=by rw[<-HB b]
  exact this.trans (eJ _ _)
 have P:(a.take n).Perm (at_ a j::((a.take n).take j++(a.take n).drop (j+1))):=by
  rw[e];have E:a.take n=(a.take n).take j++(a.take n)[j]::(a.take n).drop (j+1):=by rw[<-cG H,fM]
  exact(List.Perm.of_eq E).trans List.perm_middle
 have c:((a.take n).set j (at_ a n)).Perm (at_ a n::((a.take n).take j++(a.take n).drop (j+1))):=by grind
 exact p.trans ((P.cons _).trans ((List.Perm.swap _ _ _).trans (c.symm.cons _)));have:j=n:=ae
 subst this;have:a.Perm (a.take j++ [at_ a j]):=by rw[<-HB b]
 exact this.trans (eJ _ _)
def QU(m:a.length=n+1)(d:j<a.length)(c:(keys a).Nodup)(o:a.Perm l):(cut a n j).Perm (gE l (at_ a j).1):=by
 have h:=KB m d;have e:=by have:=(keys_perm h).nodup_iff.1 c;exact(gz.1 this).1
 have H:=Mr (h.symm.trans o) (at_ a j).1;have b:gE (at_ a j::cut a n j) (at_ a j).1=cut a n j:=by
  have:gE (at_ a j::cut a n j) (at_ a j).1=gE (cut a n j) (at_ a j).1:=by unfold gE;simp
  rw[this,kJ e]
 rw[b]at H;exact H
theorem NH(h:a.length=n+1):(cut a n j).length=n:=by unfold cut;split;grind;grind
theorem vF(b:a.length=n+1)(h:i<n):at_ (cut a n j) i=if i=j then at_ a n else at_ a i:=by
 have H:(a.take n).length=n:=by grind
 unfold cut;split;rw[Mo ae,I1 h];rw[I1 h,dz]
theorem OU(h:jq a g)(H:a.length=n+1)(p:j<a.length):
  jq (cut a n j) (λk=>if j<n then(if k=(at_ a n).1 then some (.I j)else if k=(at_ a j).1 then none else g k)else if k=(at_ a j).1 then none else g k):=by
 have⟨m,r,o⟩:=h;have d:=keys_perm (KB H p);refine⟨(gz.1 (d.nodup_iff.1 m)).2,λi b=> ?_,λk c=> ?_⟩;rw[NH H]at b;rw[vF H b];by_cases e:i=j;grind;grind;have s: ∀k,k∉(cut a n j).map (·.1)->k≠(at_ a j).1->g k=none:=λk c u=>by refine o k λq=> ?_;rcases bG.1 (d.mem_iff.1 q)with e|e;grind;exact c e
 by_cases t:j<n;grind;grind
def QV(h:a.length=n+1)(p:j<n)(e:vE (at_ a) a.length):yi (at_ (cut a n j)) n j:=by refine⟨λc H b d o=> ?_,λm c H b d=> ?_⟩;rw[vF h b,vF h ae,af d,af o];exact e c H ae;rw[vF h b,vF h ae,dz,dz];have:=e c H ae;rw[d]at this;exact le_trans (e j m ae) this
def QW(h:a.length=n+1)(e: ¬j<n)(d:vE (at_ a) a.length):vE (at_ (cut a n j)) n:=λc H b=>by rw[vF h b,vF h ae,dz,dz];exact d c H ae
def QX(d:vE (at_ a) a.length):yi (at_ (a++ [x])) (a.length+1) a.length/\Er (at_ (a++ [x])) (a.length+1) a.length:=by refine⟨⟨λc h H b m=> ?_,λe c h H b=>ae⟩,λc h H b=>ae⟩;rw[A4,A4,gH,gH];exact d c h ae
theorem OV(h:jq a g)(H:x.1∉keys a):jq (a++ [x]) (λk=>if k=x.1 then some (.I a.length)else g k):=by
 have⟨b,c,d⟩:=h;refine⟨?_,λi m=> ?_,λk o=> ?_⟩;have:((a++ [x]).map (·.1)).Perm (x.1::a.map (·.1)):=bt
 exact this.nodup_iff.2 (gz.2 ⟨H,b⟩);rw[A4];by_cases e:i<a.length;rw[ag e];have:(at_ a i).1≠x.1:=λq=>H (q▸bL (at_mem e));simp[this,c i e];grind;grind
def Ms{e:E}(H:(keys (e::l)).Nodup):gE (e::l) e.1=l:=by
 have h:gE (e::l) e.1=gE l e.1:=by unfold gE;simp
 rw[h,kJ (gz.1 H).1]

end
end Go.jD
namespace Go.Den
section
variable {P : Program}
theorem KC{s x A elem:TypeId}{S bytes:Nat}{z:Value}{h:aA}{n:Nat}{K:fp}(T:pJ P s elem S bytes z)(w:P.underlying x=some (.int .i64))(G:0<n)(B:n*bytes<=70368744177664)(C:n<=4611686018427387904)(o: ∀c b,Own b (Sa h.size 0) 0 c S []->n<=c->Fr (λ_=>False) h b->K (.L (Sa h.size 0) n c) b):
  bM P (Builtin.append_ #[s,x] A #[.Z,.I (n:Int)]) h K:=by
 obtain⟨i,H,rfl,rfl,f⟩:=T.i;have t:=T.zs;refine bY (bH T.u) ?_;refine bY (iY H) ?_;refine bY (bH w) ?_;refine bY rfl ?_;have u:IntKind.wrap .i64 (n)=(n):=fc;refine bY (a:=(n:Int)) rfl ?_;rw[dz];refine bY (iU H) ?_;have D:(n)*(i.bytes)=((n*i.bytes:Nat)):=bt
 rw[af (by grind)];refine bY (a:=n) (by rw[u];rfl) ?_;show bM P (if 0+n<=0 then _ else _) h K;rw[dz];refine bY (iU H) ?_;have F:IntKind.max .i64=9223372036854775807:=rfl;rw[dz];refine bY (iU H) ?_;have p:=nextslicecap_le (need:=0+n) (cap:=0) ae;have q: ¬(Builtin.nextslicecap (0+n) 0*i.bytes>2 ^ 48):=by have d:Builtin.nextslicecap (0+n) 0*i.bytes<=2*(0+n)*i.bytes:=dc _ p;rw[Nat.mul_assoc,bj]at d;rw[bj];omega
 rw[af q];rw[fu];unfold choose;simp only[bM,Question.forced,az,aY,Question.cut];intro y;refine bY (iU H) ?_;rw[fu];have r: ∀(m:Nat)(k:Unit->dw),k () h->bM P (askRoom m) h k:=λm k e=>by unfold askRoom;split;exact e;exact e
 refine r _ _ ?_;refine bY (mV (.inl rfl) bt) ?_;have R:=jT (h:=h) H f;refine bY (a:=if n*i.size=0 then #[]else Builtin.zeroCells z.cells n) ?_ ?_;show rd P (if n*i.size=0 then pure #[]else _) h=_;by_cases a:n*i.size=0;rw[ag a,ag a];rfl;rw[af a,af a,bE _ _ _ _ R];rfl;refine bY (jT H f) ?_;generalize E:0+n+y%(2 ^ 63 - (0+n))=c;have g:n<=c:=ae
 have d: ∀m,(Builtin.zeroCells z.cells m).size=m*i.size:=λm=>by simp[Builtin.zeroCells,t]
 rw[bj];refine o c _ (.row h.size 0 _ elem rfl bR (bK _) ?_ bt (λj v l=>by cases l)) g (Fr.push _ _);rw[Array.size_append,d];have:(#[]++(if n*i.size=0 then #[]else Builtin.zeroCells z.cells n)).size=n*i.size:=by grind
 rw[this,<-gG,bj,show n+(c - n)=c by omega];omega
end
section
variable {h H:aA} {X:Ft} {j:Nat}
def In(X:Ft)(y:Nat):Prop:=X.M y\/X.D y
abbrev only(X:Ft)(P:gF):Prop:= ∀y,(X.M y↔P y)/\¬X.D y
abbrev pt(b:Nat):Value:=.pointer (some ⟨b,0,none⟩)
structure yo (P:Nat->aA->Ft->Prop):Prop where
 lt: ∀ {i h X},P i h X->∀y,In X y->y<h.size
 frame: ∀ {i h H X} {Q:gF},P i h X->Fr Q h H->(∀y,In X y->¬Q y)->P i H X
 xY: ∀ {i h X},P i h X->∀y,X.M y->X.D y->False
def HC(P:Nat->aA->Ft->Prop)(h:aA)(X:Ft):Prop:= ∃a:Nat->Ft,(∀i,P i h (a i))/\(∀i j y,i≠j->In (a i) y->¬In (a j) y)/\(∀y,X.M y↔ ∃i,(a i).M y)/\∀y,X.D y↔ ∃i,(a i).D y
variable {P p : Nat → aA → Ft → Prop}
def HC.lt(S:yo P)(c:HC P h X)(y:Nat)(hy:X.M y\/X.D y):y<h.size:=by have⟨f,b,_,e,d⟩:=c;rcases hy with hy|hy;have⟨i,a⟩:=(e y).1 hy;exact S.lt (b i) y (.inl a);have⟨i,a⟩:=(d y).1 hy;exact S.lt (b i) y (.inr a)
def HC.xY(S:yo P)(f:HC P h X)(y:Nat)(a:X.M y)(b:X.D y):False:=by have⟨m,l,A,k,g⟩:=f;have⟨i,c⟩:=(k y).1 a;have⟨j,d⟩:=(g y).1 b;by_cases e:i=j;subst e;exact S.xY (l i) y c d;exact A i j y e (.inl c) (.inr d)
def HC.frame{Q:gF}(S:yo P)(d:HC P h X)(f:Fr Q h H)(k: ∀y,X.M y\/X.D y->¬Q y):HC P H X:=by have⟨e,g,A,c,b⟩:=d;exact⟨e,λi=>S.frame (g i) f (λy l=>k y (l.imp (λa=>(c y).2 ⟨i,a⟩) (λa=>(b y).2 ⟨i,a⟩))),A,c,b⟩
def HC.use(S:yo P)(r:HC P h X)(j:Nat): ∃Z,P j h Z/\(∀y,Z.M y->X.M y)/\(∀y,Z.D y->X.D y)/\∀H z p,p j H z->bp Z h z H->(∀i,i≠j->p i=P i)->
  ∃x,HC p H x/\bp X h x H/\(∀y,z.D y->x.D y)/\∀y,h.size<=y->x.M y\/x.D y->z.M y\/z.D y:=by
 obtain⟨d,m,A,g,f⟩:=r;refine⟨d j,m j,λy a=>(g y).2 ⟨j,a⟩,λy a=>(f y).2 ⟨j,a⟩,λH z p t s u=> ?_⟩;have O: ∀i y,i≠j->In (d i) y->¬In z y:=λi y o c hz=>by have l:=S.lt (m i) y c;rcases hz with hz|hz;rcases s.iA y hz with a|a;exact A i j y o c (.inl a);omega;rcases s.jF y hz with a|a;exact A i j y o c (.inr a);omega
 refine⟨⟨λy=> ∃i,(if i=j then z else d i).M y,λy=> ∃i,(if i=j then z else d i).D y⟩,⟨λi=>if i=j then z else d i,λi=> ?_,λi k y n c hz=> ?_,λ_=>eV,λ_=>eV⟩,⟨s.fr.mono (λy _ a=>(g y).2 ⟨j,a⟩),?_,?_,?_⟩,λy a=>⟨j,by rw[ag rfl];exact a⟩,?_⟩;show p i H (if i=j then z else d i);by_cases e:i=j;rw[ag e,e];exact t;rw[af e,u i e];exact S.frame (m i) s.fr (λy c a=>A i j y e c (.inl a));dsimp only at c hz;by_cases e:i=j;rw[ag e]at c;rw[af (λq=>n (e.trans q.symm))]at hz;exact O k y (λq=>n (e.trans q.symm)) hz c;rw[af e]at c;by_cases E:k=j;rw[ag E]at hz;exact O i y e c hz;rw[af E]at hz;exact A i k y n c hz;rintro y ⟨i,a⟩;by_cases e:i=j;rw[ag e]at a;exact(s.iA y a).imp (λb=>(g y).2 ⟨j,b⟩) id;rw[af e]at a;exact .inl ((g y).2 ⟨i,a⟩);rintro y ⟨i,a⟩;by_cases e:i=j;rw[ag e]at a;exact(s.jF y a).imp (λb=>(f y).2 ⟨j,b⟩) id;rw[af e]at a;exact .inl ((f y).2 ⟨i,a⟩);intro y a;obtain⟨i,a⟩:=(f y).1 a;by_cases e:i=j;exact⟨j,by rw[ag rfl];exact s.nP y (e▸a)⟩;exact⟨i,by rw[af e];exact a⟩;intro y c a;have K: ∀i,In (if i=j then z else d i) y->z.M y\/z.D y:=λi a=>by by_cases e:i=j;rw[ag e]at a;exact a;rw[af e]at a;have:=S.lt (m i) y a;omega
 rcases a with⟨i,a⟩|⟨i,a⟩;exact K i (.inl a);exact K i (.inr a)
end
section
variable {a:Addr} {len cap s i j:Nat} {K:aA->Prop}
def oB:List Value->Nat->List Value->List Value
 |cs,_, []=>cs
 |cs,p,v::V=>oB (cs.set p v) (p+1) V
def CK: ∀(V c:List Value)(p:Nat),(oB c p V).length=c.length
 | [],c,p=>rfl
 |v::V,c,p=>by unfold oB;rw[CK V,fS]
theorem yq: ∀(V c:List Value)(p:Nat),p+V.length<=c.length->∀j,(oB c p V)[j]? =if p<=j/\j<p+V.length then V[j - p]? else c[j]?
 | [],c,p,_,j=>by unfold oB;rw[af bt]
 |v::V,c,p,H,j=>by unfold oB;rw[yq V _ (p+1) (by grind) j,List.getElem?_set];by_cases h:p+1<=j/\j<p+1+V.length;grind;grind
theorem Own.dG{p:Nat}: ∀(V:List Value)(k:Nat)(h:aA)(c:List Value),Own h (.some a) len cap s c->(∀v∈V,gk v=true)->p+k+V.length<=c.length->
  (∀H,Own H (.some a) len cap s (oB c (p+k) V)->H.size=h.size->(∀x,¬aL (.some a) x->H[x]? =h[x]?)->K H)->Den.dG (a.add p) V k h K
 | [],k,h,c,o,_,_,b=>b h o rfl (λ_ _=>rfl)
 |v::V,k,h,c,o,d,g,b=>by rw[ba]at g;unfold Den.dG;rw[d v dN];rw[add_add];refine o.store ae λe O S q=>(Own.dG V (k+1) e _ O (λu l=>d u (bQ _ l)) (by grind) λf m r Q=>b f ?_ ae (λx n=>by grind));unfold oB;exact m
theorem Own.KD{h:aA}{c:Type}{E:c->List Value}{X:List c}{y:c}(o:Own h (.some a) len cap s (X.flatMap E))(b: ∀x,(E x).length=s)(k: ∀v∈E y,gk v=true)(f:i<X.length)(g: ∀H,Own H (.some a) len cap s ((X.set i y).flatMap E)->H.size=h.size->(∀x,¬aL (.some a) x->H[x]? =h[x]?)->K H):Den.dG (a.add (i*s)) (E y) 0 h K:=by
 have d:=iH E s b X;have r:=by have:=dc s (show i+1<=X.length by omega);rwa[gG,Nat.one_mul]at this
 refine Own.dG (E y) 0 h _ o k (by grind) λH O S q=>g H ?_ S q;have e:oB (X.flatMap E) (i*s+0) (E y)=(X.set i y).flatMap E:=by
  refine Ku E s b X i y f _ (CK _ _ _) ?_ ?_;intro j hj;rw[yq _ _ _ (by rw[b,d];omega),b,af];rintro⟨n,p⟩;rcases hj with hj|hj;apply hj;have m:0<s:=ae
  rw[Nat.div_eq_iff m];constructor;omega;omega;omega;intro j v hj l;rw[yq _ _ _ (by rw[b,d];omega),b,gH,show i*s+j - (i*s+0)=j by omega];exact l
 rw[e]at O;exact O
def swp{b:Type}(X:List b)(i j:Nat):List b:=
 match X[i]?,X[j]? with
 |some x,some y=>(X.set i y).set j x
 |_,_=>X
def VB{b:Type}{X:List b}{x y:b}(h:X[i]? =some x)(H:X[j]? =some y):(X.set i y).set j x=swp X i j:=by unfold swp;rw[h,H]
theorem VC{b:Type}{x:List b}(H:i<x.length)(c:j<x.length)(k:Nat):(swp x i j)[k]? =if k=j then x[i]? else if k=i then x[j]? else x[k]? :=by unfold swp;by_cases h:j=k;grind;grind
def QY{b:Type}{x:List b}(h:i<x.length)(H:j<x.length):(swp x i j).Perm x:=by unfold swp;rw[au h,au H];exact List.set_set_perm h H

end
section
variable {d : Type} {lt : d → d → Prop} {X c : List d} {a b i j : Nat}
def lg(lt:d->d->Prop)(X:List d)(a b:Nat):Prop:= ∀(p q:Nat) x y,a<=p->p<q->q<b->X[p]? =some x->X[q]? =some y->lt x y
def lg.pair(h:lg lt X 0 X.length):X.Pairwise lt:=by rw[List.pairwise_iff_getElem];intro i j e H f;exact h i j _ _ (bK _) f H (au e) (au H)
def lg.small(h:b<=a+1):lg lt X a b:=λp q _ _ H e f=>ae
structure I2 (lt:d->d->Prop) (X c:List d) (a i j:Nat):Prop where
 perm:c.Perm X
 out: ∀k,k<a\/i<k->c[k]? =X[k]?
 so: ∀(p q:Nat) x y,a<=p->p<q->q<=i->p≠j->q≠j->c[p]? =some x->c[q]? =some y->lt x y
 up: ∀(q:Nat) x y,j<q->q<=i->c[j]? =some x->c[q]? =some y->lt x y
def I2.start(h:lg lt X a i):I2 lt X X a i i:=
 ⟨.refl _,λ_ _=>rfl,λp q x y H e f _ g=>h p q x y H e ae,λq x y H e=>ae⟩
theorem I2.swap{x y:d}(H:I2 lt X c a i j)(s:a<j)(t:j<=i)(r:i<c.length)(z:c[j]? =some x)(B:c[j - 1]? =some y)(w:lt x y):I2 lt X (swp c j (j - 1)) a i (j - 1):=by have A: ∀k,(swp c j (j - 1))[k]? =if k=j - 1 then c[j]? else if k=j then c[j - 1]? else c[k]? :=VC ae ae;refine⟨(QY ae ae).trans H.perm,λk o=> ?_,λp q u v f g l m n e h=> ?_,λq u v f g e h=> ?_⟩;rw[A,dz,dz];exact H.out k o;rw[A,af m]at e;rw[A,af n]at h;by_cases P:p=j;rw[ag P]at e;rw[dz]at h;exact H.so (j - 1) q u v ae ae l ae ae e h;rw[af P]at e;by_cases Q:q=j;rw[ag Q]at h;exact H.so p (j - 1) u v f ae ae P ae e h;rw[af Q]at h;exact H.so p q u v f g l P Q e h;rw[A,ag rfl]at e;rw[A,dz]at h;by_cases Q:q=j;grind;rw[af Q]at h;exact H.up q u v ae g e h
theorem I2.stop(l: ∀{x y z},lt x y->lt y z->lt x z)(H:I2 lt X c a i j)(o:a<=j)(r:j<=i)(n:i<c.length)(he:j=a\/∀x y,c[j]? =some x->c[j - 1]? =some y->lt y x):lg lt c a (i+1):=by intro p q u v f g m h e;by_cases P:p=j;subst P;exact H.up q u v g ae h e;by_cases Q:q=j;subst Q;rcases he with he|he;omega;have k:c[q - 1]? =some (c[q - 1]' ae):=au _;by_cases s:p=q - 1;grind;exact l (H.so p (q - 1) _ _ f ae ae P ae h k) (he _ _ e k);exact H.so p q u v f g ae P Q h e
end
end Go.Den
namespace Go.fv
structure RD where
 id:Nat
 err:Int
 num:Int
 count:Int
 token:Nat
 b:cQ
def RD.zero:RD:=⟨0,0,0,0,0, []⟩
def RD.qN(x:RD):Prop:=x.id<=1099511627776/\(0<=x.err/\x.err<=99)/\(0<=x.num/\x.num<=1099511627776)/\(0<=x.count/\x.count<=1099511627776)/\x.token<=2147483648/\x.b.length<=600/\(x.err≠0->x.num=0/\x.count=0/\x.token=0/\x.b= [])
instance (x : RD) : Decidable x.qN := by unfold RD.qN; infer_instance
def RD.same(x y:RD):Prop:=x.id=y.id/\x.err=y.err/\x.num=y.num/\x.count=y.count/\x.token=y.token/\x.b=y.b
instance (x y : RD) : Decidable (x.same y) := by unfold RD.same; infer_instance
def RD.QZ{x y:RD}:x.same y↔x=y:=by cases x;cases y;simp[RD.same]
def RD.enc(x:RD):cQ:=bm x.id++bm (fx x.err)++bm (fx x.num)++bm (fx x.count)++bm x.token++cX x.b
variable {x:RD}
structure YD where
 x:RD
 e:Int
 rest:cQ
def XG(t:Nat)(m:Nat->Int->cQ->Nat×Int×cQ)(B:cQ):YD:=
 let a:=fb 0 B
 let b:=m t a.2.1 a.2.2
 let c:=m 1099511627776 b.2.1 b.2.2
 let d:=m 1099511627776 c.2.1 c.2.2
 let f:=fb d.2.1 d.2.2
 let g:=jo f.2.1 f.2.2
 ⟨⟨a.1,(b.1:Int),(c.1:Int),(d.1:Int),f.1,g.1⟩,g.2.1,g.2.2⟩
def Es(s:YD):Option RD:=if oA s.e s.rest=0/\s.x.qN then some s.x else none
def OW(b:cQ):Option RD:=Es (XG 1099511627776 hU b)
def mf(h:x.b.length<=600):x.enc.length<=700:=by have a:=(bw x.id).2;have A:=(bw (fx x.err)).2;have b:=(bw (fx x.num)).2;have c:=(bw (fx x.count)).2;have d:=(bw x.token).2;have e:=(bw x.b.length).2;unfold RD.enc cX;simp only[aq];omega

end Go.fv
namespace Go.Proofs.YtelbcloplcdchaaGreatDoor
open Go.Den
open IntKind (wrap)
open Int (toNat)
section
namespace Cb
inductive Tr where
 |mk (k:Int) (n:Nat) (b:cQ) (l:List Tr)
namespace Tr
def k:Tr->Int| .mk k _ _ _=>k
def n:Tr->Nat| .mk _ n _ _=>n
def b:Tr->cQ| .mk _ _ b _=>b
def l:Tr->List Tr| .mk _ _ _ l=>l
end Tr
abbrev num(n:Nat):Tr:=.mk 0 n [] []
abbrev uk(b:cQ):Tr:=.mk 2 0 b []
abbrev vG(l:List Tr):Tr:=.mk 4 0 [] l
def HD:Tr:=.mk 0 0 [] []
mutual
def qO:Tr->Tr->Bool
 | .mk k n b l,.mk k' n' b' l'=>decide (k=k') && decide (n=n') && decide (b=b') && xq l l'
def xq:List Tr->List Tr->Bool
 | [], []=>true
 |t::ts,u::us=>qO t u && xq ts us
 |_,_=>false
end
mutual
theorem Tx: ∀(a b:Tr),qO a b=true↔a=b
 | .mk k n b l,.mk k' n' b' l'=>by simp only[qO,Bool.and_eq_true,decide_eq_true_eq,Et,Tr.mk.injEq,and_assoc]
theorem Et: ∀(a b:List Tr),xq a b=true↔a=b
 | [], []=>by simp[xq]
 |t::ts,u::us=>by simp only[xq,Bool.and_eq_true,Tx t u,Et ts us,List.cons.injEq]
 | [],u::us=>by simp[xq]
 |t::ts, []=>by simp[xq]
end
def Q0(V:kF)(k:Int)(n:Nat)(b:cQ)(l:List Tr):Bool:=
 if k=0 then b.isEmpty && l.isEmpty else if k=2 then decide (n=0) && l.isEmpty else if k=3 then decide (n=0) && l.isEmpty && V b else if k=4 then decide (n=0) && b.isEmpty else false
mutual
def qb (V:kF):Tr->Int->Int->Int
 | .mk k n b l,d,left=>if d>6\/left<1 then -1 else if Q0 V k n b l=true then oU V l (d+1) (left - 1)else -1
def oU (V:kF):List Tr->Int->Int->Int
 | [],_,left=>left
 |t::ts,d,left=>if qb V t d left<0 then -1 else oU V ts d (qb V t d left)
end
mutual
theorem KE {V:kF} : ∀ {t:Tr} {d left:Int},qb V t d left= -1\/0<=qb V t d left/\qb V t d left<left
 | .mk k n b l,d,left=>by unfold qb;split;exact .inl rfl;split;rcases HE (V:=V) (ts:=l) (d:=d+1) (left:=left - 1) ae with h|h;exact .inl h;exact .inr ae;exact .inl rfl
theorem HE {V:kF} : ∀ {ts:List Tr} {d left:Int},0<=left->oU V ts d left= -1\/0<=oU V ts d left/\oU V ts d left<=left
 | [],d,left,hl=>by unfold oU;exact .inr ⟨hl,Int.le_refl _⟩
 |t::ts,d,left,hl=>by unfold oU;split;exact .inl rfl;rcases KE (V:=V) (t:=t) (d:=d) (left:=left)with h1|h1;omega;rcases HE (V:=V) (ts:=ts) (d:=d) (left:=qb V t d left) ae with h|h;exact .inl h;exact .inr ae
end
def iQ(V:kF)(t:Tr):Bool:=decide (qb V t 1 256≥0)
def KF(n:Nat):Nat:=if n<24 then 0 else if n<256 then 1 else if n<65536 then 2 else if n<4294967296 then 4 else 8
def C1(n:Nat):Nat:=if n<24 then n else if n<256 then 24 else if n<65536 then 25 else if n<4294967296 then 26 else 27
def UQ(k n:Nat):cQ:=(List.range k).map λi=>UInt8.ofNat (n/2 ^ (8*(k - 1 - i)))
def Q1(m:Int)(n:Nat):cQ:=if 0<=m/\m<=7 then UInt8.ofNat (32*m.toNat+C1 n)::UQ (KF n) n else []
def NI(n:Nat):KF n<=8:=by unfold KF;repeat (first|omega|split)
def DG(k n:Nat):(UQ k n).length=k:=by simp[UQ]
def NJ(m:Int)(n:Nat):(Q1 m n).length<=9:=by unfold Q1;split;rw[ba,DG];have:=NI n;omega;simp
def UR(l:cQ):Nat:=l.foldl (λv b=>v*256+b.toNat) 0
def KG(l:cQ)(b:UInt8):UR (l++ [b])=UR l*256+b.toNat:=by simp[UR]
theorem Q2(l:cQ):UR l<256 ^ l.length:=by
 suffices h: ∀(n:Nat)(l:cQ),l.length=n->UR l<256 ^ n from h _ l rfl
 intro n;induction n with
 |zero=>intro l H;rw[gO.1 H];simp[UR]
 |succ n i=>intro l H;obtain⟨a,b,rfl⟩: ∃a b,l=a++ [b]:=⟨l.dropLast,l.getLast (by grind),(List.dropLast_concat_getLast _).symm⟩;have:=i a (by grind);rw[KG,Nat.pow_succ];have:=b.toNat_lt;omega
def zN(m:Nat):Bool:=decide (2<=m/\m<=5)||decide (m=7)
def JR(b:cQ)(pos:Nat):Except Int (Nat×Nat×Bool×Nat):=
 match b[pos]? with
 |none=> .error 8
 |some x=>
  if x.toNat%32<24 then .ok (x.toNat/32,x.toNat%32,false,pos+1)
  else if x.toNat%32=31/\zN (x.toNat/32)=true then .ok (x.toNat/32,0,true,pos+1)
  else if x.toNat%32>27 then .error 3
  else if pos+1+2 ^ (x.toNat%32 - 24)>b.length then .error 8
  else .ok (x.toNat/32,UR ((b.drop (pos+1)).take (2 ^ (x.toNat%32 - 24))),false,pos+1+2 ^ (x.toNat%32 - 24))
theorem A5{b:cQ}{pos m n a:Nat}{o:Bool}(h:JR b pos=.ok (m,n,o,a)):pos<a/\a<=b.length/\n<18446744073709551616/\m<8/\pos<b.length:=by
 unfold JR at h;split at h;cases h
 .rename_i x d;have c:=(aJ.1 d).1;have:=x.toNat_lt;split at h;cases h;omega
  .split at h
   grind
   .split at h
    cases h
    .split at h
     cases h
     .rename_i H f g i;cases h;have:((b.drop (pos+1)).take (2 ^ (x.toNat%32 - 24))).length<=8:=by
       rw[bT];have:x.toNat%32 - 24=0\/x.toNat%32 - 24=1\/x.toNat%32 - 24=2\/x.toNat%32 - 24=3:=ae
       rcases this with e|e|e|e<;>rw[e]<;>omega
      have:=gL (n:=256) ae this;have H:1<=2 ^ (x.toNat%32 - 24):=Nat.one_le_two_pow;refine⟨ae,ae,?_,ae,c⟩
      calc _<_:=(Q2 ((b.drop (pos+1)).take (2 ^ (x.toNat%32 - 24))))
       _<=_:=this
       _=18446744073709551616:=cW
def oV(V:kF)(b:cQ)(pos m n:Nat):Except Int (cQ):=
 if n<=b.length - pos then(if m≠3\/V ((b.drop pos).take n)=true then .ok ((b.drop pos).take n)else .error 3)else .error 8
def zO(b:cQ)(pos:Nat):Bool:=match b[pos]? with|some x=>decide (x.toNat=255)|none=>false
def KH(V:kF)(b:cQ)(m:Nat):Nat->Nat->cQ->Except Int (cQ×Nat)
 |0,_,_=> .error 8
 |k+1,pos,a=>if zO b pos=true then .ok (a,pos+1)else match JR b pos with
  | .error e=> .error e
  | .ok (M,n,o,c)=>if M=m/\o=false then(match oV V b c M n with| .error e=> .error e| .ok w=>KH V b m k (c+n) (a++w))else .error 3
def I3(V:kF)(b:cQ)(pos m n:Nat)(o:Bool):Except Int (cQ×Nat):=
 match o with
 |true=>KH V b m (b.length+1) pos []
 |false=>match oV V b pos m n with| .error e=> .error e| .ok w=> .ok (w,pos+n)
abbrev RF:=Nat->Nat->Except Int (Tr×Nat×Nat)
def CL(b:cQ)(f:RF):Nat->Nat->Nat->List Tr->Except Int (List Tr×Nat×Nat)
 |0,_,_,_=> .error 8
 |k+1,pos,left,T=>if zO b pos=true then .ok (T,pos+1,left)else match f pos left with
  | .error e=> .error e
  | .ok (t,n,lf)=>CL b f k n lf (T++ [t])
def zP(f:RF):Nat->Nat->Nat->List Tr->Except Int (List Tr×Nat×Nat)
 |0,pos,left,T=> .ok (T,pos,left)
 |k+1,pos,left,T=>match f pos left with
  | .error e=> .error e
  | .ok (t,n,lf)=>zP f k n lf (T++ [t])
def qc(b:cQ)(f:RF)(pos left n:Nat)(o:Bool):Except Int (List Tr×Nat×Nat):=
 match o with
 |true=>CL b f (b.length+1) pos left []
 |false=>if n<=b.length - pos then zP f n pos left []else .error 8
def iI(V : cQ -> Bool)(b : cQ): Nat -> RF
  | lv, pos, left => match JR b pos with
    | .error e => .error e
    | .ok (m, n, o, a) => if m = 0 \/ m = 2 \/ m = 3 \/ m = 4 then (match lv with
      | 0 => .error 9
      | lv + 1 => if left = 0 then .error 2 else if m = 0 then .ok (num n, a, left - 1)
        else if m = 4 then (match qc b (iI V b lv) a (left - 1) n o with | .error e => .error e | .ok (t, p, lf) => .ok (vG t, p, lf))
        else (match I3 V b a m n o with | .error e => .error e | .ok (w, p) => .ok (.mk m 0 w [], p, left - 1))) else .error 3
def od(V:kF)(b:cQ):Except Int (Tr×Nat):=match iI V b 6 0 256 with| .error e=> .error e| .ok (t,n,_)=> .ok (t,n)
mutual
def room:Tr->Nat
 | .mk _ _ b l=>9+b.length+dS l
def dS:List Tr->Nat
 | []=>0
 |t::ts=>room t+dS ts
end
-- Zq deep an item is
mutual
def deep:Tr->Nat
 | .mk _ _ _ l=>1+NK l
def NK:List Tr->Nat
 | []=>0
 |t::ts=>max (deep t) (NK ts)
end
def jr{a b:List Tr}:dS (a++b)=dS a+dS b:=by
 induction a with
 |nil=>simp[dS]
 |cons t a i=>simp only[dC,dS,i];omega
theorem xd{t:Tr}{l:List Tr}(h:t∈l):deep t<=NK l:=by
 induction l with
 |nil=>cases h
 |cons u l i=>simp only[NK];rcases bG.1 h with rfl|h;omega;grind
def CJ(k:Int)(n:Nat)(b:cQ)(l:List Tr):Nat:=if k=2\/k=3 then b.length else if k=4 then l.length else n
mutual
def enc:Tr->cQ
 | .mk k n b l=>Q1 k (CJ k n b l)++b++C2 l
def C2:List Tr->cQ
 | []=> []
 |t::ts=>enc t++C2 ts
end
mutual
theorem mf: ∀(t:Tr),(enc t).length<=room t
 | .mk k n b l=>by simp only[enc,room,List.length_append];have:=NJ k (CJ k n b l);have:=Eu l;omega
theorem Eu: ∀(l:List Tr),(C2 l).length<=dS l
 | []=>Nat.zero_le _
 |t::ts=>by simp only[C2,dS,List.length_append];have:=mf t;have:=Eu ts;omega
end
def OX(l:List Tr)(t:Tr):C2 (l++ [t])=C2 l++enc t:=by
 induction l with
 |nil=>simp[C2]
 |cons u l i=>simp only[dC,C2,i,cu]
theorem Ty{V:kF}{b:cQ}{m:Nat}: ∀(k pos:Nat)(a w:cQ)(n:Nat),pos<=b.length->KH V b m k pos a=.ok (w,n)->w.length+pos<=a.length+n/\pos<n/\n<=b.length:=by
 intro k;induction k with
 |zero=>intro pos a w n _ h;cases h
 |succ k i=>
  intro pos a w n f h;unfold KH at h;split at h;rename_i c;cases h;unfold zO at c;split at c;grind;cases c;split at h
  cases h;rename_i M g o j d;have e:=A5 d;split at h;split at h
  cases h;rename_i v H;unfold oV at H;split at H;split at H
  cases H;have:=i _ _ _ _ ae h;rw[aq,bT,cR]at this;omega;cases H;cases H;cases h
def VD(b:cQ)(f:RF):Prop:= ∀pos left t n lf,pos<=b.length->f pos left=.ok (t,n,lf)->room t<=10*(n - pos)/\pos<n/\n<=b.length/\lf<=left
theorem Q6{b:cQ}{f:RF}(c:VD b f): ∀(k pos left:Nat)(T u:List Tr)(n lf:Nat),pos<=b.length->CL b f k pos left T=.ok (u,n,lf)->dS u+10*pos<=dS T+10*n/\pos<=n/\n<=b.length/\lf<=left:=by
 intro k;induction k with
 |zero=>intro pos left T u n lf _ h;cases h
 |succ k i=>
  intro pos left T u n lf e h;unfold CL at h;split at h;rename_i H;cases h;unfold zO at H;split at H;grind;cases H;split at h
  cases h;rename_i t j l d;have g:=c _ _ _ _ _ e d;have a:=i _ _ _ _ _ _ ae h;rw[jr]at a;simp only[dS]at a;omega
def Q7{b:cQ}{f:RF}(a:VD b f): ∀(k pos left:Nat)(T u:List Tr)(n lf:Nat),pos<=b.length->zP f k pos left T=.ok (u,n,lf)->dS u+10*pos<=dS T+10*n/\pos<=n/\n<=b.length/\lf<=left:=by
 intro k;induction k with
 |zero=>intro pos left T u n lf _ h;cases h;omega
 |succ k i=>intro pos left T u n lf d h;unfold zP at h;split at h;cases h;rename_i t g l c;have e:=a _ _ _ _ _ d c;have H:=i _ _ _ _ _ _ ae h;rw[jr]at H;simp only[dS]at H;omega
theorem KI{V:kF}{B:cQ}: ∀l,VD B (iI V B l):=by
 intro l;induction l with
 |zero=>intro pos left t a lf f h;unfold iI at h;split at h;cases h;grind
 |succ l i=>
  intro pos left t a lf f h;unfold iI at h;split at h;cases h;rename_i m n o c e;have g:=A5 e;split at h;dsimp only at h;split at h;cases h;split at h;cases h;simp only[room,dS,cA];omega;split at h;split at h;cases h;rename_i T p L H;cases h;have:dS T+10*c<=10*a/\c<=a/\a<=B.length/\lf<=left - 1:=by unfold qc at H;split at H;have:=Q6 i _ _ _ _ _ _ _ ae H;simpa[dS]using this;split at H;have:=Q7 i _ _ _ _ _ _ _ ae H;simpa[dS]using this;cases H
  simp only[room,cA];omega;split at h;cases h;rename_i w p b;cases h;have:w.length+c<=a/\c<=a/\a<=B.length:=by unfold I3 at b;split at b;have:=Ty _ _ _ _ _ ae b;simp only[cA]at this;omega;split at b;cases b;rename_i v d;cases b;unfold oV at d;split at d;grind;cases d
  simp only[room,dS];omega;cases h
theorem I4{b:cQ}{pos:Nat}{e:Int}(h:JR b pos=.error e):e≠0:=by unfold JR at h;repeat grind
theorem Ew{V:kF}{b:cQ}{pos m n:Nat}{e:Int}(h:oV V b pos m n=.error e):e≠0:=by unfold oV at h;repeat grind
theorem Q8{V:kF}{b:cQ}{m:Nat}{e:Int}: ∀(k pos:Nat)(a:cQ),KH V b m k pos a=.error e->e≠0:=by
 intro k;induction k with
 |zero=>intro pos a h;cases h;decide
 |succ k i=>
  intro pos a h;unfold KH at h;split at h;cases h;split at h
  rename_i H;cases h;exact I4 H;split at h
  split at h
  rename_i H;cases h;exact Ew H;grind;grind
def YE(f:RF):Prop:= ∀pos left e,f pos left=.error e->e≠0
theorem OY{b:cQ}{f:RF}(a:YE f){pos left n:Nat}{o:Bool}{e:Int}(h:qc b f pos left n o=.error e):e≠0:=by
 have O: ∀(k pos left:Nat)(t:List Tr),CL b f k pos left t=.error e->e≠0:=by
  intro k;induction k with
  |zero=>intro pos left t h;cases h;decide
  |succ k i=>intro pos left t h;unfold CL at h;split at h;cases h;split at h;rename_i H;cases h;exact a _ _ _ H;grind
 have m: ∀(k pos left:Nat)(t:List Tr),zP f k pos left t=.error e->e≠0:=by
  intro k;induction k with
  |zero=>intro pos left t h;cases h
  |succ k i=>intro pos left t h;unfold zP at h;split at h;rename_i H;cases h;exact a _ _ _ H;exact i _ _ _ h
 unfold qc at h;split at h;grind;grind
theorem OZ{V:kF}{b:cQ}: ∀l,YE (iI V b l):=by
 intro l;induction l with
 |zero=>intro pos left e h;unfold iI at h;split at h;rename_i H;cases h;exact I4 H;grind
 |succ l i=>
  intro pos left e h;unfold iI at h;split at h;rename_i H;cases h;exact I4 H;split at h;dsimp only at h;split at h;grind;split at h;cases h;split at h;split at h
  rename_i H;cases h;exact OY i H;cases h;split at h;rename_i H;cases h;unfold I3 at H;split at H;exact Q8 _ _ _ H;split at H;rename_i a;cases H;exact Ew a;cases H;cases h;cases h;decide
def oJ{V:kF}{b:cQ}{e:Int}(h:od V b=.error e):e≠0:=by unfold od at h;split at h;rename_i H;cases h;exact OZ 6 _ _ _ H;cases h
def vH{V:kF}{b:cQ}{t:Tr}{n:Nat}(h:od V b=.ok (t,n)):room t<=10*b.length/\n<=b.length:=by unfold od at h;split at h;cases h;rename_i t a lf H;cases h;have:=KI 6 _ _ _ _ _ (bK _) H;omega
end Cb
end
abbrev Cl:=mJ Tryz.prog
abbrev jE{a : Type}:= @bM Tryz.prog a
abbrev Gs := xU Tryz.prog
abbrev JS := Ox Tryz.prog
abbrev Ce:=jm Tryz.prog
abbrev Mt:List Nat:= [274,322,323,324,325,344]
abbrev cP.LD(h:aA)(a:Addr)(K:bZ->Nat->Nat->bZ->Nat->Nat->bZ->Nat->Nat->bZ->Nat->gF):Prop:=lW h a λe d c=>lW h (a.add 1) λi g f=>lW h (a.add 2) λl k j=> ∃b T t,aU h (a.add 3)=some (.slice b T t)/\K e d c i g f l k j b T t
abbrev cP.ST(h:aA)(a:Addr)(b:bZ)(F f:Nat)(e:bZ)(d c:Nat)(j:bZ)(i g:Nat)(m:bZ)(l k:Nat)(K:dw):Prop:=aO h a (.slice b F f) λH=>aO H (a.add 1) (.slice e d c) λn=>aO n (a.add 2) (.slice j i g) λo=>aO o (a.add 3) (.slice m l k) λp=>K p
abbrev aa.LD(h:aA)(a:Addr)(K:Int->Int->bZ->Nat->Nat->bZ->Nat->gF):Prop:=kU h a λc=>gZ h (a.add 1) λd=>lW h (a.add 2) λg f e=> ∃b T t,aU h (a.add 3)=some (.slice b T t)/\K c d g f e b T t
abbrev aa.ST(h:aA)(a:Addr)(f:Int)(F:Int)(d:bZ)(c b:Nat)(i:bZ)(g e:Nat)(K:dw):Prop:=aO h a (.int .i64 f) λH=>aO H (a.add 1) (.int .u64 F) λj=>aO j (a.add 2) (.slice d c b) λk=>aO k (a.add 3) (.slice i g e) λl=>K l
abbrev aQ.LD(h:aA)(a:Addr)(K:Int->Bool->Int->Int->cF->cF->bZ->Nat->Nat->Int->Int->Int->Prop):Prop:=kU h a λT=>ye h (a.add 1) λb=>gZ h (a.add 2) λc=>gZ h (a.add 3) λd=>pZ h (a.add 4) λe=>pZ h (a.add 5) λf=>lW h (a.add 6) λj i g=>gZ h (a.add 7) λk=>kU h (a.add 8) λl=> ∃t,aU h (a.add 9)=some (.int .u64 t)/\K T b c d e f j i g k l t
abbrev aQ.ST(h:aA)(a:Addr)(f:Int)(F:Bool)(b:Int)(c:Int)(d:cF)(e:cF)(j:bZ)(i g:Nat)(k:Int)(l:Int)(m:Int)(K:dw):Prop:=aO h a (.int .i64 f) λH=>aO H (a.add 1) (.bool F) λo=>aO o (a.add 2) (.int .u64 b) λp=>aO p (a.add 3) (.int .u64 c) λq=>aO q (a.add 4) (.string d) λr=>aO r (a.add 5) (.string e) λs=>aO s (a.add 6) (.slice j i g) λt=>aO t (a.add 7) (.int .u64 k) λu=>aO u (a.add 8) (.int .i64 l) λv=>aO v (a.add 9) (.int .u64 m) λn=>K n
abbrev av.LD(h:aA)(a:Addr)(K:Bool->Int->Int->cF->cF->Prop):Prop:=ye h a λT=>gZ h (a.add 1) λb=>gZ h (a.add 2) λc=>pZ h (a.add 3) λd=> ∃t,aU h (a.add 4)=some (.string t)/\K T b c d t
abbrev av.ST(h:aA)(a:Addr)(f:Bool)(F:Int)(b:Int)(c:cF)(d:cF)(K:dw):Prop:=aO h a (.bool f) λH=>aO H (a.add 1) (.int .u64 F) λe=>aO e (a.add 2) (.int .u64 b) λg=>aO g (a.add 3) (.string c) λi=>aO i (a.add 4) (.string d) λj=>K j
abbrev bB.LD(h:aA)(a:Addr)(K:Int->Int->Bool->Prop):Prop:=kU h a λT=>gZ h (a.add 1) λb=> ∃t,aU h (a.add 2)=some (.bool t)/\K T b t
abbrev bB.ST(h:aA)(a:Addr)(f:Int)(F:Int)(b:Bool)(K:dw):Prop:=aO h a (.int .i64 f) λH=>aO H (a.add 1) (.int .u64 F) λc=>aO c (a.add 2) (.bool b) λd=>K d
abbrev ah.LD(h:aA)(a:Addr)(K:Bool->Int->Int->cF->cF->Int->Int->Prop):Prop:=ye h a λT=>gZ h (a.add 1) λb=>gZ h (a.add 2) λc=>pZ h (a.add 3) λd=>pZ h (a.add 4) λe=>gZ h (a.add 5) λf=> ∃t,aU h (a.add 6)=some (.int .u64 t)/\K T b c d e f t
abbrev ah.ST(h:aA)(a:Addr)(f:Bool)(F:Int)(b:Int)(c:cF)(d:cF)(e:Int)(g:Int)(K:dw):Prop:=aO h a (.bool f) λH=>aO H (a.add 1) (.int .u64 F) λi=>aO i (a.add 2) (.int .u64 b) λj=>aO j (a.add 3) (.string c) λk=>aO k (a.add 4) (.string d) λl=>aO l (a.add 5) (.int .u64 e) λm=>aO m (a.add 6) (.int .u64 g) λn=>K n
abbrev aF.LD(h:aA)(a:Addr)(K:Int->Int->bZ->Nat->Nat->Int->Prop):Prop:=kU h a λT=>kU h (a.add 1) λb=>lW h (a.add 2) λe d c=> ∃t,aU h (a.add 3)=some (.int .u64 t)/\K T b e d c t
abbrev aF.ST(h:aA)(a:Addr)(f:Int)(F:Int)(d:bZ)(c b:Nat)(e:Int)(K:dw):Prop:=aO h a (.int .i64 f) λH=>aO H (a.add 1) (.int .i64 F) λg=>aO g (a.add 2) (.slice d c b) λi=>aO i (a.add 3) (.int .u64 e) λj=>K j
abbrev bg.LD(h:aA)(a:Addr)(K:Bool->Int->Int->cF->cF->Int->Int->Prop):Prop:=ye h a λT=>gZ h (a.add 1) λb=>gZ h (a.add 2) λc=>pZ h (a.add 3) λd=>pZ h (a.add 4) λe=>kU h (a.add 5) λf=> ∃t,aU h (a.add 6)=some (.int .i64 t)/\K T b c d e f t
abbrev bg.ST(h:aA)(a:Addr)(f:Bool)(F:Int)(b:Int)(c:cF)(d:cF)(e:Int)(g:Int)(K:dw):Prop:=aO h a (.bool f) λH=>aO H (a.add 1) (.int .u64 F) λi=>aO i (a.add 2) (.int .u64 b) λj=>aO j (a.add 3) (.string c) λk=>aO k (a.add 4) (.string d) λl=>aO l (a.add 5) (.int .i64 e) λm=>aO m (a.add 6) (.int .i64 g) λn=>K n
abbrev aj.LD(h:aA)(a:Addr)(K:Int->Int->Int->Int->Int->bZ->Nat->gF):Prop:=gZ h a λc=>kU h (a.add 1) λd=>kU h (a.add 2) λe=>kU h (a.add 3) λf=>gZ h (a.add 4) λg=> ∃b T t,aU h (a.add 5)=some (.slice b T t)/\K c d e f g b T t
abbrev aj.ST(h:aA)(a:Addr)(f:Int)(F:Int)(b:Int)(c:Int)(d:Int)(i:bZ)(g e:Nat)(K:dw):Prop:=aO h a (.int .u64 f) λH=>aO H (a.add 1) (.int .i64 F) λj=>aO j (a.add 2) (.int .i64 b) λk=>aO k (a.add 3) (.int .i64 c) λl=>aO l (a.add 4) (.int .u64 d) λm=>aO m (a.add 5) (.slice i g e) λn=>K n
abbrev bO.LD(h:aA)(a:Addr)(K:Int->bZ->Nat->gF):Prop:=gZ h a λc=> ∃b T t,aU h (a.add 1)=some (.slice b T t)/\K c b T t
abbrev bO.ST(h:aA)(a:Addr)(f:Int)(c:bZ)(b F:Nat)(K:dw):Prop:=aO h a (.int .u64 f) λH=>aO H (a.add 1) (.slice c b F) λd=>K d
abbrev cB.LD(h:aA)(a:Addr)(K:Int->Int->Bool->Bool->bZ->Nat->Nat->bZ->Nat->gF):Prop:=kU h a λc=>gZ h (a.add 1) λd=>ye h (a.add 2) λe=>ye h (a.add 3) λf=>lW h (a.add 4) λj i g=> ∃b T t,aU h (a.add 5)=some (.slice b T t)/\K c d e f j i g b T t
abbrev cB.ST(h:aA)(a:Addr)(f:Int)(F:Int)(b:Bool)(c:Bool)(g:bZ)(e d:Nat)(k:bZ)(j i:Nat)(K:dw):Prop:=aO h a (.int .i64 f) λH=>aO H (a.add 1) (.int .u64 F) λl=>aO l (a.add 2) (.bool b) λm=>aO m (a.add 3) (.bool c) λn=>aO n (a.add 4) (.slice g e d) λo=>aO o (a.add 5) (.slice k j i) λp=>K p
structure cb.S where
 f0:Int
 f1:Int
 f2:Bool
 f3:Int
 f4:Int
 f5:cF
 f6:cF
 f7:Bool
 f8:Int
 f9:Int
 f10:cF
 f11:cF
 f12:Bool
 f13:Int
 f14:Int
 f15:cF
 f16:cF
 f17:Int
 f18:Int
 f19:Int
 TA:bZ
 Mu:Nat
 TC:Nat
 f21:bZ
 XH:bZ
 XI:Nat
 XJ:Nat
abbrev cb.S.l(x:cb.S):List Value:= [.int .u64 x.f0,.int .i64 x.f1,.bool x.f2,.int .u64 x.f3,.int .u64 x.f4,.string x.f5,.string x.f6,.bool x.f7,.int .u64 x.f8,.int .u64 x.f9,.string x.f10,.string x.f11,.bool x.f12,.int .u64 x.f13,.int .u64 x.f14,.string x.f15,.string x.f16,.int .u64 x.f17,.int .u64 x.f18,.int .u64 x.f19,.slice x.TA x.Mu x.TC,.pointer x.f21,.slice x.XH x.XI x.XJ]
abbrev cb.S.arr(x:cb.S):Array Value:=x.l.toArray
abbrev cb.S.agg(x:cb.S):Value:=.agg x.arr
abbrev cb.S.z:cb.S:=⟨0,0,false,0,0,(⟨#[]⟩:cF),(⟨#[]⟩:cF),false,0,0,(⟨#[]⟩:cF),(⟨#[]⟩:cF),false,0,0,(⟨#[]⟩:cF),(⟨#[]⟩:cF),0,0,0,none,0,0,none,none,0,0⟩ abbrev cb.NW (h:aA) (K:Nat->dw):Prop:=aW h (.cells cb.S.z.arr 249) K
abbrev cb.EX(K:cb.S->Prop):Prop:= ∃t T k s u v w x y z a b c d e f g h i j n m l o r q p,K ⟨t,T,k,s,u,v,w,x,y,z,a,b,c,d,e,f,g,h,i,j,n,m,l,o,r,q,p⟩
abbrev cb.cJ(h:aA)(a:Addr)(K:cb.S->Prop):Prop:=gZ h a λc=>kU h (a.add 1) λd=>ye h (a.add 2) λp=>gZ h (a.add 3) λv=>gZ h (a.add 4) λw=>pZ h (a.add 5) λx=>pZ h (a.add 6) λy=>ye h (a.add 7) λz=>gZ h (a.add 8) λA=>gZ h (a.add 9) λB=>pZ h (a.add 10) λe=>pZ h (a.add 11) λf=>ye h (a.add 12) λg=>gZ h (a.add 13) λi=>gZ h (a.add 14) λj=>pZ h (a.add 15) λk=>pZ h (a.add 16) λl=>gZ h (a.add 17) λm=>gZ h (a.add 18) λn=>gZ h (a.add 19) λo=>lW h (a.add 20) λs r q=>AN h (a.add 21) λu=> ∃b T t,aU h (a.add 22)=some (.slice b T t)/\K ⟨c,d,p,v,w,x,y,z,A,B,e,f,g,i,j,k,l,m,n,o,s,r,q,u,b,T,t⟩
structure cf.S where
 f0:Int
 f1:Int
 f2:Bool
 f3:Int
 f4:Int
 f5:cF
 f6:cF
 f7:Bool
 f8:Int
 f9:Int
 f10:cF
 f11:cF
 f12:Int
 f13:Int
 f14:Int
 TD:bZ
 TE:Nat
 TF:Nat
 f16:Int
 f17:Int
 f18:Bool
 f19:bZ
 f20:Int
abbrev cf.S.l(x:cf.S):List Value:= [.int .u64 x.f0,.int .i64 x.f1,.bool x.f2,.int .u64 x.f3,.int .u64 x.f4,.string x.f5,.string x.f6,.bool x.f7,.int .u64 x.f8,.int .u64 x.f9,.string x.f10,.string x.f11,.int .i64 x.f12,.int .i64 x.f13,.int .i64 x.f14,.slice x.TD x.TE x.TF,.int .u64 x.f16,.int .u64 x.f17,.bool x.f18,.pointer x.f19,.int .i64 x.f20]
abbrev cf.S.arr(x:cf.S):Array Value:=x.l.toArray
abbrev cf.S.agg(x:cf.S):Value:=.agg x.arr
abbrev cf.S.z:cf.S:=⟨0,0,false,0,0,(⟨#[]⟩:cF),(⟨#[]⟩:cF),false,0,0,(⟨#[]⟩:cF),(⟨#[]⟩:cF),0,0,0,none,0,0,0,0,false,none,0⟩ abbrev cf.NW (h:aA) (K:Nat->dw):Prop:=aW h (.cells cf.S.z.arr 242) K
abbrev cf.EX(K:cf.S->Prop):Prop:= ∃t T m o p q r s u v a b c d e h g f i j k l n,K ⟨t,T,m,o,p,q,r,s,u,v,a,b,c,d,e,h,g,f,i,j,k,l,n⟩
abbrev cf.cJ(h:aA)(a:Addr)(K:cf.S->Prop):Prop:=gZ h a λT=>kU h (a.add 1) λb=>ye h (a.add 2) λp=>gZ h (a.add 3) λq=>gZ h (a.add 4) λr=>pZ h (a.add 5) λs=>pZ h (a.add 6) λu=>ye h (a.add 7) λv=>gZ h (a.add 8) λw=>gZ h (a.add 9) λx=>pZ h (a.add 10) λc=>pZ h (a.add 11) λd=>kU h (a.add 12) λe=>kU h (a.add 13) λf=>kU h (a.add 14) λg=>lW h (a.add 15) λk j i=>gZ h (a.add 16) λl=>gZ h (a.add 17) λm=>ye h (a.add 18) λn=>AN h (a.add 19) λo=> ∃t,aU h (a.add 20)=some (.int .i64 t)/\K ⟨T,b,p,q,r,s,u,v,w,x,c,d,e,f,g,k,j,i,l,m,n,o,t⟩
structure ak.S where
 f0:Int
 f1:Int
 f2:Bool
 f3:Int
 f4:Int
 f5:cF
 f6:cF
 f7:Bool
 f8:Int
 f9:Int
 f10:cF
 f11:cF
 f12:Bool
 f13:Int
 f14:Int
 f15:cF
 f16:cF
 f17:Int
 f18:Int
 f19:Int
 TA:bZ
 Mu:Nat
 TC:Nat
abbrev ak.S.l(x:ak.S):List Value:= [.int .u64 x.f0,.int .i64 x.f1,.bool x.f2,.int .u64 x.f3,.int .u64 x.f4,.string x.f5,.string x.f6,.bool x.f7,.int .u64 x.f8,.int .u64 x.f9,.string x.f10,.string x.f11,.bool x.f12,.int .u64 x.f13,.int .u64 x.f14,.string x.f15,.string x.f16,.int .u64 x.f17,.int .u64 x.f18,.int .u64 x.f19,.slice x.TA x.Mu x.TC]
abbrev ak.S.arr(x:ak.S):Array Value:=x.l.toArray
abbrev ak.S.agg(x:ak.S):Value:=.agg x.arr
abbrev ak.S.z:ak.S:=⟨0,0,false,0,0,(⟨#[]⟩:cF),(⟨#[]⟩:cF),false,0,0,(⟨#[]⟩:cF),(⟨#[]⟩:cF),false,0,0,(⟨#[]⟩:cF),(⟨#[]⟩:cF),0,0,0,none,0,0⟩ abbrev ak.NW (h:aA) (K:Nat->dw):Prop:=aW h (.cells ak.S.z.arr 73) K
abbrev ak.EX(K:ak.S->Prop):Prop:= ∃t T k o p q r s u v a b c d e f g h i j n m l,K ⟨t,T,k,o,p,q,r,s,u,v,a,b,c,d,e,f,g,h,i,j,n,m,l⟩
abbrev ak.cJ(h:aA)(a:Addr)(K:ak.S->Prop):Prop:=gZ h a λc=>kU h (a.add 1) λd=>ye h (a.add 2) λp=>gZ h (a.add 3) λq=>gZ h (a.add 4) λr=>pZ h (a.add 5) λs=>pZ h (a.add 6) λu=>ye h (a.add 7) λv=>gZ h (a.add 8) λw=>gZ h (a.add 9) λx=>pZ h (a.add 10) λe=>pZ h (a.add 11) λf=>ye h (a.add 12) λg=>gZ h (a.add 13) λi=>gZ h (a.add 14) λj=>pZ h (a.add 15) λk=>pZ h (a.add 16) λl=>gZ h (a.add 17) λm=>gZ h (a.add 18) λn=>gZ h (a.add 19) λo=> ∃b T t,aU h (a.add 20)=some (.slice b T t)/\K ⟨c,d,p,q,r,s,u,v,w,x,e,f,g,i,j,k,l,m,n,o,b,T,t⟩
abbrev ak.dv(h:aA)(a:Addr)(x:ak.S)(K:dw):Prop:=dG a x.l 0 h K
structure ay.S where
 f0:Int
 f1:Int
 f2:Int
 f3:Int
 Mv:bZ
 Mw:Nat
 My:Nat
abbrev ay.S.l(x:ay.S):List Value:= [.int .u64 x.f0,.int .u64 x.f1,.int .u64 x.f2,.int .i64 x.f3,.slice x.Mv x.Mw x.My]
abbrev ay.S.arr(x:ay.S):Array Value:=x.l.toArray
abbrev ay.S.agg(x:ay.S):Value:=.agg x.arr
abbrev ay.S.z:ay.S:=⟨0,0,0,0,none,0,0⟩ abbrev ay.NW (h:aA) (K:Nat->dw):Prop:=aW h (.cells ay.S.z.arr 134) K
abbrev ay.EX(K:ay.S->Prop):Prop:= ∃t T a b e d c,K ⟨t,T,a,b,e,d,c⟩
abbrev ay.cJ(h:aA)(a:Addr)(K:ay.S->Prop):Prop:=gZ h a λc=>gZ h (a.add 1) λd=>gZ h (a.add 2) λe=>kU h (a.add 3) λf=> ∃b T t,aU h (a.add 4)=some (.slice b T t)/\K ⟨c,d,e,f,b,T,t⟩
abbrev ay.dv(h:aA)(a:Addr)(x:ay.S)(K:dw):Prop:=dG a x.l 0 h K
structure aa.S where
 f0:Int
 f1:Int
 XK:bZ
 Xn:Nat
 XL:Nat
 VE:bZ
 JT:Nat
 Ti:Nat
abbrev aa.S.l(x:aa.S):List Value:= [.int .i64 x.f0,.int .u64 x.f1,.slice x.XK x.Xn x.XL,.slice x.VE x.JT x.Ti]
abbrev aa.S.arr(x:aa.S):Array Value:=x.l.toArray
abbrev aa.S.agg(x:aa.S):Value:=.agg x.arr
abbrev aa.S.z:aa.S:=⟨0,0,none,0,0,none,0,0⟩ abbrev aa.NW (h:aA) (K:Nat->dw):Prop:=aW h (.cells aa.S.z.arr 201) K
abbrev aa.EX(K:aa.S->Prop):Prop:= ∃t T c b a f e d,K ⟨t,T,c,b,a,f,e,d⟩
abbrev aa.cJ(h:aA)(a:Addr)(K:aa.S->Prop):Prop:=kU h a λc=>gZ h (a.add 1) λd=>lW h (a.add 2) λg f e=> ∃b T t,aU h (a.add 3)=some (.slice b T t)/\K ⟨c,d,g,f,e,b,T,t⟩
abbrev aa.dv(h:aA)(a:Addr)(x:aa.S)(K:dw):Prop:=dG a x.l 0 h K
structure aQ.S where
 f0:Int
 f1:Bool
 f2:Int
 f3:Int
 f4:cF
 f5:cF
 HF:bZ
 HG:Nat
 HI:Nat
 f7:Int
 f8:Int
 f9:Int
abbrev aQ.S.l(x:aQ.S):List Value:= [.int .i64 x.f0,.bool x.f1,.int .u64 x.f2,.int .u64 x.f3,.string x.f4,.string x.f5,.slice x.HF x.HG x.HI,.int .u64 x.f7,.int .i64 x.f8,.int .u64 x.f9]
abbrev aQ.S.arr(x:aQ.S):Array Value:=x.l.toArray
abbrev aQ.S.agg(x:aQ.S):Value:=.agg x.arr
abbrev aQ.S.z:aQ.S:=⟨0,false,0,0,(⟨#[]⟩:cF),(⟨#[]⟩:cF),none,0,0,0,0,0⟩ abbrev aQ.NW (h:aA) (K:Nat->dw):Prop:=aW h (.cells aQ.S.z.arr 229) K
abbrev aQ.EX(K:aQ.S->Prop):Prop:= ∃t T a b c d g f e h i j,K ⟨t,T,a,b,c,d,g,f,e,h,i,j⟩
abbrev aQ.cJ(h:aA)(a:Addr)(K:aQ.S->Prop):Prop:=kU h a λT=>ye h (a.add 1) λb=>gZ h (a.add 2) λc=>gZ h (a.add 3) λd=>pZ h (a.add 4) λe=>pZ h (a.add 5) λf=>lW h (a.add 6) λj i g=>gZ h (a.add 7) λk=>kU h (a.add 8) λl=> ∃t,aU h (a.add 9)=some (.int .u64 t)/\K ⟨T,b,c,d,e,f,j,i,g,k,l,t⟩
abbrev aQ.dv(h:aA)(a:Addr)(x:aQ.S)(K:dw):Prop:=dG a x.l 0 h K
structure av.S where
 f0:Bool
 f1:Int
 f2:Int
 f3:cF
 f4:cF
abbrev av.S.l(x:av.S):List Value:= [.bool x.f0,.int .u64 x.f1,.int .u64 x.f2,.string x.f3,.string x.f4]
abbrev av.S.arr(x:av.S):Array Value:=x.l.toArray
abbrev av.S.agg(x:av.S):Value:=.agg x.arr
abbrev av.S.z:av.S:=⟨false,0,0,(⟨#[]⟩:cF),(⟨#[]⟩:cF)⟩ abbrev av.NW (h:aA) (K:Nat->dw):Prop:=aW h (.cells av.S.z.arr 29) K
abbrev av.EX(K:av.S->Prop):Prop:= ∃t T a b c,K ⟨t,T,a,b,c⟩
abbrev av.cJ(h:aA)(a:Addr)(K:av.S->Prop):Prop:=ye h a λT=>gZ h (a.add 1) λb=>gZ h (a.add 2) λc=>pZ h (a.add 3) λd=> ∃t,aU h (a.add 4)=some (.string t)/\K ⟨T,b,c,d,t⟩
abbrev av.dv(h:aA)(a:Addr)(x:av.S)(K:dw):Prop:=dG a x.l 0 h K
structure aR.S where
 f0:Int
 f1:Int
 f2:Int
 f3:Int
 f4:Int
 f5:Int
 f6:Bool
 f7:Int
 f8:Int
 f9:cF
 f10:cF
 f11:Bool
 f12:Int
 f13:Int
 f14:cF
 f15:cF
 f16:Int
 f17:Int
 f18:Int
 XM:bZ
 XN:Nat
 XO:Nat
 f20:Int
 f21:Int
 f22:Bool
 XP:bZ
 XQ:Nat
 XR:Nat
abbrev aR.S.l(x:aR.S):List Value:= [.int .u64 x.f0,.int .i64 x.f1,.int .u64 x.f2,.int .i64 x.f3,.int .u64 x.f4,.int .i64 x.f5,.bool x.f6,.int .u64 x.f7,.int .u64 x.f8,.string x.f9,.string x.f10,.bool x.f11,.int .u64 x.f12,.int .u64 x.f13,.string x.f14,.string x.f15,.int .i64 x.f16,.int .i64 x.f17,.int .i64 x.f18,.slice x.XM x.XN x.XO,.int .u64 x.f20,.int .u64 x.f21,.bool x.f22,.slice x.XP x.XQ x.XR]
abbrev aR.S.arr(x:aR.S):Array Value:=x.l.toArray
abbrev aR.S.agg(x:aR.S):Value:=.agg x.arr
abbrev aR.S.z:aR.S:=⟨0,0,0,0,0,0,false,0,0,(⟨#[]⟩:cF),(⟨#[]⟩:cF),false,0,0,(⟨#[]⟩:cF),(⟨#[]⟩:cF),0,0,0,none,0,0,0,0,false,none,0,0⟩ abbrev aR.NW (h:aA) (K:Nat->dw):Prop:=aW h (.cells aR.S.z.arr 36) K
abbrev aR.EX(K:aR.S->Prop):Prop:= ∃t T m u v w x y z A a b c d e f g h i l k j n o p s r q,K ⟨t,T,m,u,v,w,x,y,z,A,a,b,c,d,e,f,g,h,i,l,k,j,n,o,p,s,r,q⟩
abbrev aR.cJ(h:aA)(a:Addr)(K:aR.S->Prop):Prop:=gZ h a λc=>kU h (a.add 1) λd=>gZ h (a.add 2) λr=>kU h (a.add 3) λw=>gZ h (a.add 4) λx=>kU h (a.add 5) λy=>ye h (a.add 6) λz=>gZ h (a.add 7) λA=>gZ h (a.add 8) λB=>pZ h (a.add 9) λC=>pZ h (a.add 10) λe=>ye h (a.add 11) λf=>gZ h (a.add 12) λg=>gZ h (a.add 13) λi=>pZ h (a.add 14) λj=>pZ h (a.add 15) λk=>kU h (a.add 16) λl=>kU h (a.add 17) λm=>kU h (a.add 18) λn=>lW h (a.add 19) λq p o=>gZ h (a.add 20) λs=>gZ h (a.add 21) λu=>ye h (a.add 22) λv=> ∃b T t,aU h (a.add 23)=some (.slice b T t)/\K ⟨c,d,r,w,x,y,z,A,B,C,e,f,g,i,j,k,l,m,n,q,p,o,s,u,v,b,T,t⟩
abbrev aR.dv(h:aA)(a:Addr)(x:aR.S)(K:dw):Prop:=dG a x.l 0 h K
structure ah.S where
 f0:Bool
 f1:Int
 f2:Int
 f3:cF
 f4:cF
 f5:Int
 f6:Int
abbrev ah.S.l(x:ah.S):List Value:= [.bool x.f0,.int .u64 x.f1,.int .u64 x.f2,.string x.f3,.string x.f4,.int .u64 x.f5,.int .u64 x.f6]
abbrev ah.S.arr(x:ah.S):Array Value:=x.l.toArray
abbrev ah.S.agg(x:ah.S):Value:=.agg x.arr
abbrev ah.S.z:ah.S:=⟨false,0,0,(⟨#[]⟩:cF),(⟨#[]⟩:cF),0,0⟩ abbrev ah.NW (h:aA) (K:Nat->dw):Prop:=aW h (.cells ah.S.z.arr 68) K
abbrev ah.EX(K:ah.S->Prop):Prop:= ∃t T a b c d e,K ⟨t,T,a,b,c,d,e⟩
abbrev ah.cJ(h:aA)(a:Addr)(K:ah.S->Prop):Prop:=ye h a λT=>gZ h (a.add 1) λb=>gZ h (a.add 2) λc=>pZ h (a.add 3) λd=>pZ h (a.add 4) λe=>gZ h (a.add 5) λf=> ∃t,aU h (a.add 6)=some (.int .u64 t)/\K ⟨T,b,c,d,e,f,t⟩
abbrev ah.dv(h:aA)(a:Addr)(x:ah.S)(K:dw):Prop:=dG a x.l 0 h K
structure aF.S where
 f0:Int
 f1:Int
 XK:bZ
 Xn:Nat
 XL:Nat
 f3:Int
abbrev aF.S.l(x:aF.S):List Value:= [.int .i64 x.f0,.int .i64 x.f1,.slice x.XK x.Xn x.XL,.int .u64 x.f3]
abbrev aF.S.arr(x:aF.S):Array Value:=x.l.toArray
abbrev aF.S.agg(x:aF.S):Value:=.agg x.arr
abbrev aF.S.z:aF.S:=⟨0,0,none,0,0,0⟩ abbrev aF.NW (h:aA) (K:Nat->dw):Prop:=aW h (.cells aF.S.z.arr 92) K
abbrev aF.EX(K:aF.S->Prop):Prop:= ∃t T c b a d,K ⟨t,T,c,b,a,d⟩
abbrev aF.dv(h:aA)(a:Addr)(x:aF.S)(K:dw):Prop:=dG a x.l 0 h K
structure aE.S where
 f0:Int
 f1:Int
 f2:Bool
 f3:Int
 f4:Int
 f5:cF
 f6:cF
 f7:Bool
 f8:Int
 f9:Int
 f10:cF
 f11:cF
 f12:Bool
 f13:Int
 f14:Int
 f15:cF
 f16:cF
 f17:Int
 f18:Int
 f19:Int
abbrev aE.S.l(x:aE.S):List Value:= [.int .u64 x.f0,.int .i64 x.f1,.bool x.f2,.int .u64 x.f3,.int .u64 x.f4,.string x.f5,.string x.f6,.bool x.f7,.int .u64 x.f8,.int .u64 x.f9,.string x.f10,.string x.f11,.bool x.f12,.int .u64 x.f13,.int .u64 x.f14,.string x.f15,.string x.f16,.int .u64 x.f17,.int .u64 x.f18,.int .u64 x.f19]
abbrev aE.S.arr(x:aE.S):Array Value:=x.l.toArray
abbrev aE.S.agg(x:aE.S):Value:=.agg x.arr
abbrev aE.S.z:aE.S:=⟨0,0,false,0,0,(⟨#[]⟩:cF),(⟨#[]⟩:cF),false,0,0,(⟨#[]⟩:cF),(⟨#[]⟩:cF),false,0,0,(⟨#[]⟩:cF),(⟨#[]⟩:cF),0,0,0⟩ abbrev aE.NW (h:aA) (K:Nat->dw):Prop:=aW h (.cells aE.S.z.arr 70) K
abbrev aE.EX(K:aE.S->Prop):Prop:= ∃t T k l m n o p q r a b c d e f g h i j,K ⟨t,T,k,l,m,n,o,p,q,r,a,b,c,d,e,f,g,h,i,j⟩
abbrev aE.cJ(h:aA)(a:Addr)(K:aE.S->Prop):Prop:=gZ h a λT=>kU h (a.add 1) λb=>ye h (a.add 2) λm=>gZ h (a.add 3) λn=>gZ h (a.add 4) λo=>pZ h (a.add 5) λp=>pZ h (a.add 6) λq=>ye h (a.add 7) λr=>gZ h (a.add 8) λs=>gZ h (a.add 9) λu=>pZ h (a.add 10) λc=>pZ h (a.add 11) λd=>ye h (a.add 12) λe=>gZ h (a.add 13) λf=>gZ h (a.add 14) λg=>pZ h (a.add 15) λi=>pZ h (a.add 16) λj=>gZ h (a.add 17) λk=>gZ h (a.add 18) λl=> ∃t,aU h (a.add 19)=some (.int .u64 t)/\K ⟨T,b,m,n,o,p,q,r,s,u,c,d,e,f,g,i,j,k,l,t⟩
abbrev aE.dv(h:aA)(a:Addr)(x:aE.S)(K:dw):Prop:=dG a x.l 0 h K
structure aj.S where
 f0:Int
 f1:Int
 f2:Int
 f3:Int
 f4:Int
 YV:bZ
 f5l:Nat
 YW:Nat
abbrev aj.S.l(x:aj.S):List Value:= [.int .u64 x.f0,.int .i64 x.f1,.int .i64 x.f2,.int .i64 x.f3,.int .u64 x.f4,.slice x.YV x.f5l x.YW]
abbrev aj.S.arr(x:aj.S):Array Value:=x.l.toArray
abbrev aj.S.agg(x:aj.S):Value:=.agg x.arr
abbrev aj.S.z:aj.S:=⟨0,0,0,0,0,none,0,0⟩ abbrev aj.NW (h:aA) (K:Nat->dw):Prop:=aW h (.cells aj.S.z.arr 42) K
abbrev aj.EX(K:aj.S->Prop):Prop:= ∃t T a b c f e d,K ⟨t,T,a,b,c,f,e,d⟩
abbrev aj.cJ(h:aA)(a:Addr)(K:aj.S->Prop):Prop:=gZ h a λc=>kU h (a.add 1) λd=>kU h (a.add 2) λe=>kU h (a.add 3) λf=>gZ h (a.add 4) λg=> ∃b T t,aU h (a.add 5)=some (.slice b T t)/\K ⟨c,d,e,f,g,b,T,t⟩
abbrev aj.dv(h:aA)(a:Addr)(x:aj.S)(K:dw):Prop:=dG a x.l 0 h K
structure aM.S where
 f0:Bool
 f1:Bool
 f2:Bool
 f3:Int
 f4:Int
 f5:Bool
 f6:Int
 f7:Int
 f8:cF
 f9:cF
 f10:Int
 f11:Int
abbrev aM.S.l(x:aM.S):List Value:= [.bool x.f0,.bool x.f1,.bool x.f2,.int .u64 x.f3,.int .u64 x.f4,.bool x.f5,.int .u64 x.f6,.int .u64 x.f7,.string x.f8,.string x.f9,.int .u64 x.f10,.int .u64 x.f11]
abbrev aM.S.arr(x:aM.S):Array Value:=x.l.toArray
abbrev aM.S.agg(x:aM.S):Value:=.agg x.arr
abbrev aM.S.z:aM.S:=⟨false,false,false,0,0,false,0,0,(⟨#[]⟩:cF),(⟨#[]⟩:cF),0,0⟩ abbrev aM.NW (h:aA) (K:Nat->dw):Prop:=aW h (.cells aM.S.z.arr 303) K
abbrev aM.EX(K:aM.S->Prop):Prop:= ∃t T c d e f g h i j a b,K ⟨t,T,c,d,e,f,g,h,i,j,a,b⟩
abbrev aM.cJ(h:aA)(a:Addr)(K:aM.S->Prop):Prop:=ye h a λT=>ye h (a.add 1) λb=>ye h (a.add 2) λd=>gZ h (a.add 3) λe=>gZ h (a.add 4) λf=>ye h (a.add 5) λg=>gZ h (a.add 6) λi=>gZ h (a.add 7) λj=>pZ h (a.add 8) λk=>pZ h (a.add 9) λl=>gZ h (a.add 10) λc=> ∃t,aU h (a.add 11)=some (.int .u64 t)/\K ⟨T,b,d,e,f,g,i,j,k,l,c,t⟩
abbrev aM.dv(h:aA)(a:Addr)(x:aM.S)(K:dw):Prop:=dG a x.l 0 h K
structure aI.S where
 f0:Int
 f1:Int
 f2:Bool
 f3:Int
 f4:Int
 f5:cF
 f6:cF
 f7:Bool
 f8:Int
 f9:Int
 f10:cF
 f11:cF
 f12:Int
 f13:Int
 f14:Int
 TD:bZ
 TE:Nat
 TF:Nat
 f16:Int
 f17:Int
 f18:Bool
abbrev aI.S.l(x:aI.S):List Value:= [.int .u64 x.f0,.int .i64 x.f1,.bool x.f2,.int .u64 x.f3,.int .u64 x.f4,.string x.f5,.string x.f6,.bool x.f7,.int .u64 x.f8,.int .u64 x.f9,.string x.f10,.string x.f11,.int .i64 x.f12,.int .i64 x.f13,.int .i64 x.f14,.slice x.TD x.TE x.TF,.int .u64 x.f16,.int .u64 x.f17,.bool x.f18]
abbrev aI.S.arr(x:aI.S):Array Value:=x.l.toArray
abbrev aI.S.agg(x:aI.S):Value:=.agg x.arr
abbrev aI.S.z:aI.S:=⟨0,0,false,0,0,(⟨#[]⟩:cF),(⟨#[]⟩:cF),false,0,0,(⟨#[]⟩:cF),(⟨#[]⟩:cF),0,0,0,none,0,0,0,0,false⟩ abbrev aI.NW (h:aA) (K:Nat->dw):Prop:=aW h (.cells aI.S.z.arr 34) K
abbrev aI.EX(K:aI.S->Prop):Prop:= ∃t T l m n o p q r s a b c d e h g f i j k,K ⟨t,T,l,m,n,o,p,q,r,s,a,b,c,d,e,h,g,f,i,j,k⟩
abbrev aI.cJ(h:aA)(a:Addr)(K:aI.S->Prop):Prop:=gZ h a λT=>kU h (a.add 1) λb=>ye h (a.add 2) λn=>gZ h (a.add 3) λo=>gZ h (a.add 4) λp=>pZ h (a.add 5) λq=>pZ h (a.add 6) λr=>ye h (a.add 7) λs=>gZ h (a.add 8) λu=>gZ h (a.add 9) λv=>pZ h (a.add 10) λc=>pZ h (a.add 11) λd=>kU h (a.add 12) λe=>kU h (a.add 13) λf=>kU h (a.add 14) λg=>lW h (a.add 15) λk j i=>gZ h (a.add 16) λl=>gZ h (a.add 17) λm=> ∃t,aU h (a.add 18)=some (.bool t)/\K ⟨T,b,n,o,p,q,r,s,u,v,c,d,e,f,g,k,j,i,l,m,t⟩
abbrev aI.dv(h:aA)(a:Addr)(x:aI.S)(K:dw):Prop:=dG a x.l 0 h K

section
variable {h:aA} {R:fp}
variable {a:Addr} {f F g0 g1 d g2 g l g5 g6 v f8 f9 Xo Xp:Int} {k o XS YF u Mv q HF O0:bZ} {j i n m b XT XU YG YH t r Mw My f5l p HG HI O4 O5:Nat} {K:Nat->aA->Prop} {c e g3 g4 s Xq Xr:cF} {Xs:Bool}
def aa.at(h:aA)(b:Nat)(f:Int)(F:Int)(k:bZ)(j i:Nat)(o:bZ)(n m:Nat):Prop:=h[b]? =some (.cells #[.int .i64 f,.int .u64 F,.slice k j i,.slice o n m] 201 (0,0))
def aa.qq{K:Int->Int->bZ->Nat->Nat->bZ->Nat->gF}(H:cH a [.I f,.U F,.L k j i,.L o n m] 0 h)(w:K f F k j i o n m):aa.LD h a K:=by obtain⟨Q,x,y,z,_⟩:=H;rw[cj]at Q;exact⟨_,Q,_,x,_,_,_,y,_,_,_,z,w⟩
def aa.held(H:aa.at h b f F k j i o n m):cH (AA b 0) [.I f,.U F,.L k j i,.L o n m] 0 h:=
 dO H (λJ V w=>by rw[bj];simpa using w)
def aa.ld{K:Int->Int->bZ->Nat->Nat->bZ->Nat->gF}(H:aa.at h b f F k j i o n m)(w:K f F k j i o n m):aa.LD h (AA b 0) K:=qq (held H) w
def aa.I5{K:dw}(H:dG a [.I f,.U F,.L k j i,.L o n m] 0 h K):aa.ST h a f F k j i o n m K:=H
def aa.new(x: ∀b H,b=h.size->aa.at H b f F k j i o n m->Fr No h H->K b H):aW h (.C #[.I 0,.U 0,.Z,.Z] 201) λb w=>aa.ST w (AA b 0) f F k j i o n m (K b):=
 gQ (vs:= [.I f,.U F,.L k j i,.L o n m]) rfl rfl x
def aa.box(x: ∀b H,b=h.size->aa.at H b f F k j i o n m->Fr No h H->K b H):aW h (.C #[.I f,.U F,.L k j i,.L o n m] 201) λb w=>K b w:=
 cg (x _ _ rfl bR (Fr.push _ _))
def aa.set{K:dw}(A:aa.at h b g0 g1 XS XT XU YF YG YH)(w: ∀H,aa.at H b f F k j i o n m->H.size=h.size->(∀x,x≠b->H[x]? =h[x]?)->K H):aa.ST h (AA b 0) f F k j i o n m K:=
 aa.I5 (eX A rfl rfl w)
def bB.at(h:aA)(b:Nat)(f:Int)(F:Int)(d:Bool):Prop:=h[b]? =some (.cells #[.int .i64 f,.int .u64 F,.bool d] 324 (0,0))
def bB.qq{d:Bool}{K:Int->Int->Bool->Prop}(H:cH a [.I f,.U F,.B d] 0 h)(w:K f F d):bB.LD h a K:=by obtain⟨Q,x,y,_⟩:=H;rw[cj]at Q;exact⟨_,Q,_,x,_,y,w⟩
def bB.held{d:Bool}(H:bB.at h b f F d):cH (AA b 0) [.I f,.U F,.B d] 0 h:=
 dO H (λJ V w=>by rw[bj];simpa using w)
def bB.ld{d:Bool}{K:Int->Int->Bool->Prop}(H:bB.at h b f F d)(w:K f F d):bB.LD h (AA b 0) K:=qq (held H) w
def bB.I5{d:Bool}{K:dw}(H:dG a [.I f,.U F,.B d] 0 h K):bB.ST h a f F d K:=H
def bB.new{d:Bool}(x: ∀b H,b=h.size->bB.at H b f F d->Fr No h H->K b H):aW h (.C #[.I 0,.U 0,.B false] 324) λb w=>bB.ST w (AA b 0) f F d (K b):=
 gQ (vs:= [.I f,.U F,.B d]) rfl rfl x
def bB.box{d:Bool}(x: ∀b H,b=h.size->bB.at H b f F d->Fr No h H->K b H):aW h (.C #[.I f,.U F,.B d] 324) λb w=>K b w:=
 cg (x _ _ rfl bR (Fr.push _ _))
def bB.set{g2:Bool}{d:Bool}{K:dw}(A:bB.at h b g0 g1 g2)(w: ∀H,bB.at H b f F d->H.size=h.size->(∀x,x≠b->H[x]? =h[x]?)->K H):bB.ST h (AA b 0) f F d K:=
 bB.I5 (eX A rfl rfl w)
def ah.at(h:aA)(b:Nat)(f:Bool)(F:Int)(d:Int)(c:cF)(e:cF)(g:Int)(l:Int):Prop:=h[b]? =some (.cells #[.bool f,.int .u64 F,.int .u64 d,.string c,.string e,.int .u64 g,.int .u64 l] 68 (0,0))
def ah.qq{f:Bool}{K:Bool->Int->Int->cF->cF->Int->Int->Prop}(H:cH a [.B f,.U F,.U d,.S c,.S e,.U g,.U l] 0 h)(w:K f F d c e g l):ah.LD h a K:=by obtain⟨Q,x,y,z,A,B,C,_⟩:=H;rw[cj]at Q;exact⟨_,Q,_,x,_,y,_,z,_,A,_,B,_,C,w⟩
def ah.held{f:Bool}(H:ah.at h b f F d c e g l):cH (AA b 0) [.B f,.U F,.U d,.S c,.S e,.U g,.U l] 0 h:=
 dO H (λJ V w=>by rw[bj];simpa using w)
def ah.ld{f:Bool}{K:Bool->Int->Int->cF->cF->Int->Int->Prop}(H:ah.at h b f F d c e g l)(w:K f F d c e g l):ah.LD h (AA b 0) K:=qq (held H) w
def ah.I5{f:Bool}{K:dw}(H:dG a [.B f,.U F,.U d,.S c,.S e,.U g,.U l] 0 h K):ah.ST h a f F d c e g l K:=H
def ah.new{f:Bool}(x: ∀b H,b=h.size->ah.at H b f F d c e g l->Fr No h H->K b H):aW h (.C #[.B false,.U 0,.U 0,.S (⟨#[]⟩:cF),.S (⟨#[]⟩:cF),.U 0,.U 0] 68) λb w=>ah.ST w (AA b 0) f F d c e g l (K b):=
 gQ (vs:= [.B f,.U F,.U d,.S c,.S e,.U g,.U l]) rfl rfl x
def ah.box{f:Bool}(x: ∀b H,b=h.size->ah.at H b f F d c e g l->Fr No h H->K b H):aW h (.C #[.B f,.U F,.U d,.S c,.S e,.U g,.U l] 68) λb w=>K b w:=
 cg (x _ _ rfl bR (Fr.push _ _))
def ah.set{g0:Bool}{f:Bool}{K:dw}(A:ah.at h b g0 g1 g2 g3 g4 g5 g6)(w: ∀H,ah.at H b f F d c e g l->H.size=h.size->(∀x,x≠b->H[x]? =h[x]?)->K H):ah.ST h (AA b 0) f F d c e g l K:=
 ah.I5 (eX A rfl rfl w)
def aF.at(h:aA)(b:Nat)(f:Int)(F:Int)(k:bZ)(j i:Nat)(c:Int):Prop:=h[b]? =some (.cells #[.int .i64 f,.int .i64 F,.slice k j i,.int .u64 c] 92 (0,0))
def aF.qq{c:Int}{K:Int->Int->bZ->Nat->Nat->Int->Prop}(H:cH a [.I f,.I F,.L k j i,.U c] 0 h)(w:K f F k j i c):aF.LD h a K:=by obtain⟨Q,x,y,z,_⟩:=H;rw[cj]at Q;exact⟨_,Q,_,x,_,_,_,y,_,z,w⟩
def aF.held{c:Int}(H:aF.at h b f F k j i c):cH (AA b 0) [.I f,.I F,.L k j i,.U c] 0 h:=
 dO H (λJ V w=>by rw[bj];simpa using w)
def aF.ld{c:Int}{K:Int->Int->bZ->Nat->Nat->Int->Prop}(H:aF.at h b f F k j i c)(w:K f F k j i c):aF.LD h (AA b 0) K:=qq (held H) w
def aF.I5{c:Int}{K:dw}(H:dG a [.I f,.I F,.L k j i,.U c] 0 h K):aF.ST h a f F k j i c K:=H
def aF.new{c:Int}(x: ∀b H,b=h.size->aF.at H b f F k j i c->Fr No h H->K b H):aW h (.C #[.I 0,.I 0,.Z,.U 0] 92) λb w=>aF.ST w (AA b 0) f F k j i c (K b):=
 gQ (vs:= [.I f,.I F,.L k j i,.U c]) rfl rfl x
def aF.box{c:Int}(x: ∀b H,b=h.size->aF.at H b f F k j i c->Fr No h H->K b H):aW h (.C #[.I f,.I F,.L k j i,.U c] 92) λb w=>K b w:=
 cg (x _ _ rfl bR (Fr.push _ _))
def aF.set{g3:Int}{c:Int}{K:dw}(A:aF.at h b g0 g1 XS XT XU g3)(w: ∀H,aF.at H b f F k j i c->H.size=h.size->(∀x,x≠b->H[x]? =h[x]?)->K H):aF.ST h (AA b 0) f F k j i c K:=
 aF.I5 (eX A rfl rfl w)
def bO.at(h:aA)(b:Nat)(f:Int)(u:bZ)(t r:Nat):Prop:=h[b]? =some (.cells #[.int .u64 f,.slice u t r] 169 (0,0))
def bO.qq{K:Int->bZ->Nat->gF}(H:cH a [.U f,.L u t r] 0 h)(w:K f u t r):bO.LD h a K:=by obtain⟨Q,x,_⟩:=H;rw[cj]at Q;exact⟨_,Q,_,_,_,x,w⟩
def bO.held(H:bO.at h b f u t r):cH (AA b 0) [.U f,.L u t r] 0 h:=
 dO H (λJ V w=>by rw[bj];simpa using w)
def bO.ld{K:Int->bZ->Nat->gF}(H:bO.at h b f u t r)(w:K f u t r):bO.LD h (AA b 0) K:=qq (held H) w
def bO.new(x: ∀b H,b=h.size->bO.at H b f u t r->Fr No h H->K b H):aW h (.C #[.U 0,.Z] 169) λb w=>bO.ST w (AA b 0) f u t r (K b):=
 gQ (vs:= [.U f,.L u t r]) rfl rfl x
def bO.box(x: ∀b H,b=h.size->bO.at H b f u t r->Fr No h H->K b H):aW h (.C #[.U f,.L u t r] 169) λb w=>K b w:=
 cg (x _ _ rfl bR (Fr.push _ _))
def cB.at(h:aA)(b:Nat)(f:Int)(F:Int)(d:Bool)(c:Bool)(Mv:bZ)(Mw My:Nat)(q:bZ)(f5l p:Nat):Prop:=h[b]? =some (.cells #[.int .i64 f,.int .u64 F,.bool d,.bool c,.slice Mv Mw My,.slice q f5l p] 166 (0,0))
def cB.qq{d:Bool}{c:Bool}{K:Int->Int->Bool->Bool->bZ->Nat->Nat->bZ->Nat->gF}(H:cH a [.I f,.U F,.B d,.B c,.L Mv Mw My,.L q f5l p] 0 h)(w:K f F d c Mv Mw My q f5l p):cB.LD h a K:=by obtain⟨Q,x,y,z,A,B,_⟩:=H;rw[cj]at Q;exact⟨_,Q,_,x,_,y,_,z,_,_,_,A,_,_,_,B,w⟩
def cB.held{d:Bool}{c:Bool}(H:cB.at h b f F d c Mv Mw My q f5l p):cH (AA b 0) [.I f,.U F,.B d,.B c,.L Mv Mw My,.L q f5l p] 0 h:=
 dO H (λJ V w=>by rw[bj];simpa using w)
def cB.ld{d:Bool}{c:Bool}{K:Int->Int->Bool->Bool->bZ->Nat->Nat->bZ->Nat->gF}(H:cB.at h b f F d c Mv Mw My q f5l p)(w:K f F d c Mv Mw My q f5l p):cB.LD h (AA b 0) K:=qq (held H) w
def cB.new{d:Bool}{c:Bool}(x: ∀b H,b=h.size->cB.at H b f F d c Mv Mw My q f5l p->Fr No h H->K b H):aW h (.C #[.I 0,.U 0,.B false,.B false,.Z,.Z] 166) λb w=>cB.ST w (AA b 0) f F d c Mv Mw My q f5l p (K b):=
 gQ (vs:= [.I f,.U F,.B d,.B c,.L Mv Mw My,.L q f5l p]) rfl rfl x
def cB.box{d:Bool}{c:Bool}(x: ∀b H,b=h.size->cB.at H b f F d c Mv Mw My q f5l p->Fr No h H->K b H):aW h (.C #[.I f,.U F,.B d,.B c,.L Mv Mw My,.L q f5l p] 166) λb w=>K b w:=
 cg (x _ _ rfl bR (Fr.push _ _))
def av.at(h:aA)(b:Nat)(f:Bool)(F:Int)(d:Int)(c:cF)(e:cF):Prop:=h[b]? =some (.cells #[.bool f,.int .u64 F,.int .u64 d,.string c,.string e] 29 (0,0))
def av.qq{f:Bool}{K:Bool->Int->Int->cF->cF->Prop}(H:cH a [.B f,.U F,.U d,.S c,.S e] 0 h)(w:K f F d c e):av.LD h a K:=by obtain⟨Q,x,y,z,A,_⟩:=H;rw[cj]at Q;exact⟨_,Q,_,x,_,y,_,z,_,A,w⟩
def av.held{f:Bool}(H:av.at h b f F d c e):cH (AA b 0) [.B f,.U F,.U d,.S c,.S e] 0 h:=
 dO H (λJ V w=>by rw[bj];simpa using w)
def av.ld{f:Bool}{K:Bool->Int->Int->cF->cF->Prop}(H:av.at h b f F d c e)(w:K f F d c e):av.LD h (AA b 0) K:=qq (held H) w
def av.I5{f:Bool}{K:dw}(H:dG a [.B f,.U F,.U d,.S c,.S e] 0 h K):av.ST h a f F d c e K:=H
def av.new{f:Bool}(x: ∀b H,b=h.size->av.at H b f F d c e->Fr No h H->K b H):aW h (.C #[.B false,.U 0,.U 0,.S (⟨#[]⟩:cF),.S (⟨#[]⟩:cF)] 29) λb w=>av.ST w (AA b 0) f F d c e (K b):=
 gQ (vs:= [.B f,.U F,.U d,.S c,.S e]) rfl rfl x
def av.box{f:Bool}(x: ∀b H,b=h.size->av.at H b f F d c e->Fr No h H->K b H):aW h (.C #[.B f,.U F,.U d,.S c,.S e] 29) λb w=>K b w:=
 cg (x _ _ rfl bR (Fr.push _ _))
def av.set{g0:Bool}{f:Bool}{K:dw}(A:av.at h b g0 g1 g2 g3 g4)(w: ∀H,av.at H b f F d c e->H.size=h.size->(∀x,x≠b->H[x]? =h[x]?)->K H):av.ST h (AA b 0) f F d c e K:=
 av.I5 (eX A rfl rfl w)
def bg.at(h:aA)(b:Nat)(f:Bool)(F:Int)(d:Int)(c:cF)(e:cF)(g:Int)(l:Int):Prop:=h[b]? =some (.cells #[.bool f,.int .u64 F,.int .u64 d,.string c,.string e,.int .i64 g,.int .i64 l] 173 (0,0))
def bg.qq{f:Bool}{K:Bool->Int->Int->cF->cF->Int->Int->Prop}(H:cH a [.B f,.U F,.U d,.S c,.S e,.I g,.I l] 0 h)(w:K f F d c e g l):bg.LD h a K:=by obtain⟨Q,x,y,z,A,B,C,_⟩:=H;rw[cj]at Q;exact⟨_,Q,_,x,_,y,_,z,_,A,_,B,_,C,w⟩
def bg.held{f:Bool}(H:bg.at h b f F d c e g l):cH (AA b 0) [.B f,.U F,.U d,.S c,.S e,.I g,.I l] 0 h:=
 dO H (λJ V w=>by rw[bj];simpa using w)
def bg.ld{f:Bool}{K:Bool->Int->Int->cF->cF->Int->Int->Prop}(H:bg.at h b f F d c e g l)(w:K f F d c e g l):bg.LD h (AA b 0) K:=qq (held H) w
def bg.I5{f:Bool}{K:dw}(H:dG a [.B f,.U F,.U d,.S c,.S e,.I g,.I l] 0 h K):bg.ST h a f F d c e g l K:=H
def bg.new{f:Bool}(x: ∀b H,b=h.size->bg.at H b f F d c e g l->Fr No h H->K b H):aW h (.C #[.B false,.U 0,.U 0,.S (⟨#[]⟩:cF),.S (⟨#[]⟩:cF),.I 0,.I 0] 173) λb w=>bg.ST w (AA b 0) f F d c e g l (K b):=
 gQ (vs:= [.B f,.U F,.U d,.S c,.S e,.I g,.I l]) rfl rfl x
def bg.box{f:Bool}(x: ∀b H,b=h.size->bg.at H b f F d c e g l->Fr No h H->K b H):aW h (.C #[.B f,.U F,.U d,.S c,.S e,.I g,.I l] 173) λb w=>K b w:=
 cg (x _ _ rfl bR (Fr.push _ _))
def bg.set{g0:Bool}{f:Bool}{K:dw}(A:bg.at h b g0 g1 g2 g3 g4 g5 g6)(w: ∀H,bg.at H b f F d c e g l->H.size=h.size->(∀x,x≠b->H[x]? =h[x]?)->K H):bg.ST h (AA b 0) f F d c e g l K:=
 bg.I5 (eX A rfl rfl w)
def aQ.at(h:aA)(b:Nat)(f:Int)(F:Bool)(d:Int)(c:Int)(e:cF)(g:cF)(HF:bZ)(HG HI:Nat)(v:Int)(f8:Int)(f9:Int):Prop:=h[b]? =some (.cells #[.int .i64 f,.bool F,.int .u64 d,.int .u64 c,.string e,.string g,.slice HF HG HI,.int .u64 v,.int .i64 f8,.int .u64 f9] 229 (0,0))
def aQ.qq{F:Bool}{c:Int}{g:cF}{K:Int->Bool->Int->Int->cF->cF->bZ->Nat->Nat->Int->Int->Int->Prop}(H:cH a [.I f,.B F,.U d,.U c,.S e,.S g,.L HF HG HI,.U v,.I f8,.U f9] 0 h)(w:K f F d c e g HF HG HI v f8 f9):aQ.LD h a K:=by obtain⟨Q,x,y,z,A,B,C,D,E,G,_⟩:=H;rw[cj]at Q;exact⟨_,Q,_,x,_,y,_,z,_,A,_,B,_,_,_,C,_,D,_,E,_,G,w⟩
def aQ.held{F:Bool}{c:Int}{g:cF}(H:aQ.at h b f F d c e g HF HG HI v f8 f9):cH (AA b 0) [.I f,.B F,.U d,.U c,.S e,.S g,.L HF HG HI,.U v,.I f8,.U f9] 0 h:=
 dO H (λJ V w=>by rw[bj];simpa using w)
def aQ.ld{F:Bool}{c:Int}{g:cF}{K:Int->Bool->Int->Int->cF->cF->bZ->Nat->Nat->Int->Int->Int->Prop}(H:aQ.at h b f F d c e g HF HG HI v f8 f9)(w:K f F d c e g HF HG HI v f8 f9):aQ.LD h (AA b 0) K:=qq (held H) w
def aQ.I5{F:Bool}{c:Int}{g:cF}{K:dw}(H:dG a [.I f,.B F,.U d,.U c,.S e,.S g,.L HF HG HI,.U v,.I f8,.U f9] 0 h K):aQ.ST h a f F d c e g HF HG HI v f8 f9 K:=H
def aQ.new{F:Bool}{c:Int}{g:cF}(x: ∀b H,b=h.size->aQ.at H b f F d c e g HF HG HI v f8 f9->Fr No h H->K b H):aW h (.C #[.I 0,.B false,.U 0,.U 0,.S (⟨#[]⟩:cF),.S (⟨#[]⟩:cF),.Z,.U 0,.I 0,.U 0] 229) λb w=>aQ.ST w (AA b 0) f F d c e g HF HG HI v f8 f9 (K b):=
 gQ (vs:= [.I f,.B F,.U d,.U c,.S e,.S g,.L HF HG HI,.U v,.I f8,.U f9]) rfl rfl x
def aQ.box{F:Bool}{c:Int}{g:cF}(x: ∀b H,b=h.size->aQ.at H b f F d c e g HF HG HI v f8 f9->Fr No h H->K b H):aW h (.C #[.I f,.B F,.U d,.U c,.S e,.S g,.L HF HG HI,.U v,.I f8,.U f9] 229) λb w=>K b w:=
 cg (x _ _ rfl bR (Fr.push _ _))
def aQ.set{g1:Bool}{g3:Int}{g5:cF}{y:bZ}{w G:Nat}{z:Int}{B:Int}{C:Int}{F:Bool}{c:Int}{g:cF}{K:dw}(A:aQ.at h b g0 g1 g2 g3 g4 g5 y w G z B C)(D: ∀H,aQ.at H b f F d c e g HF HG HI v f8 f9->H.size=h.size->(∀x,x≠b->H[x]? =h[x]?)->K H):aQ.ST h (AA b 0) f F d c e g HF HG HI v f8 f9 K:=
 aQ.I5 (eX A rfl rfl D)
def aj.at(h:aA)(b:Nat)(f:Int)(F:Int)(d:Int)(c:Int)(e:Int)(q:bZ)(f5l p:Nat):Prop:=h[b]? =some (.cells #[.int .u64 f,.int .i64 F,.int .i64 d,.int .i64 c,.int .u64 e,.slice q f5l p] 42 (0,0))
def aj.qq{c:Int}{e:Int}{K:Int->Int->Int->Int->Int->bZ->Nat->gF}(H:cH a [.U f,.I F,.I d,.I c,.U e,.L q f5l p] 0 h)(w:K f F d c e q f5l p):aj.LD h a K:=by obtain⟨Q,x,y,z,A,B,_⟩:=H;rw[cj]at Q;exact⟨_,Q,_,x,_,y,_,z,_,A,_,_,_,B,w⟩
def aj.held{c:Int}{e:Int}(H:aj.at h b f F d c e q f5l p):cH (AA b 0) [.U f,.I F,.I d,.I c,.U e,.L q f5l p] 0 h:=
 dO H (λJ V w=>by rw[bj];simpa using w)
def aj.ld{c:Int}{e:Int}{K:Int->Int->Int->Int->Int->bZ->Nat->gF}(H:aj.at h b f F d c e q f5l p)(w:K f F d c e q f5l p):aj.LD h (AA b 0) K:=qq (held H) w
def aj.I5{c:Int}{e:Int}{K:dw}(H:dG a [.U f,.I F,.I d,.I c,.U e,.L q f5l p] 0 h K):aj.ST h a f F d c e q f5l p K:=H
def aj.new{c:Int}{e:Int}(x: ∀b H,b=h.size->aj.at H b f F d c e q f5l p->Fr No h H->K b H):aW h (.C #[.U 0,.I 0,.I 0,.I 0,.U 0,.Z] 42) λb w=>aj.ST w (AA b 0) f F d c e q f5l p (K b):=
 gQ (vs:= [.U f,.I F,.I d,.I c,.U e,.L q f5l p]) rfl rfl x
def aj.box{c:Int}{e:Int}(x: ∀b H,b=h.size->aj.at H b f F d c e q f5l p->Fr No h H->K b H):aW h (.C #[.U f,.I F,.I d,.I c,.U e,.L q f5l p] 42) λb w=>K b w:=
 cg (x _ _ rfl bR (Fr.push _ _))
def aj.set{g3:Int}{g4:Int}{y:bZ}{w G:Nat}{c:Int}{e:Int}{K:dw}(A:aj.at h b g0 g1 g2 g3 g4 y w G)(z: ∀H,aj.at H b f F d c e q f5l p->H.size=h.size->(∀x,x≠b->H[x]? =h[x]?)->K H):aj.ST h (AA b 0) f F d c e q f5l p K:=
 aj.I5 (eX A rfl rfl z)
def cP.at(h:aA)(b:Nat)(O0:bZ)(O4 O5:Nat)(u:bZ)(t r:Nat)(k:bZ)(j i:Nat)(o:bZ)(n m:Nat):Prop:=h[b]? =some (.cells #[.slice O0 O4 O5,.slice u t r,.slice k j i,.slice o n m] 98 (0,0))
def cP.held(H:cP.at h b O0 O4 O5 u t r k j i o n m):cH (AA b 0) [.L O0 O4 O5,.L u t r,.L k j i,.L o n m] 0 h:=
 dO H (λJ V w=>by rw[bj];simpa using w)
def cP.I5{K:dw}(H:dG a [.L O0 O4 O5,.L u t r,.L k j i,.L o n m] 0 h K):cP.ST h a O0 O4 O5 u t r k j i o n m K:=H
def cP.new(x: ∀b H,b=h.size->cP.at H b O0 O4 O5 u t r k j i o n m->Fr No h H->K b H):aW h (.C #[.Z,.Z,.Z,.Z] 98) λb w=>cP.ST w (AA b 0) O0 O4 O5 u t r k j i o n m (K b):=
 gQ (vs:= [.L O0 O4 O5,.L u t r,.L k j i,.L o n m]) rfl rfl x
def cP.box(x: ∀b H,b=h.size->cP.at H b O0 O4 O5 u t r k j i o n m->Fr No h H->K b H):aW h (.C #[.L O0 O4 O5,.L u t r,.L k j i,.L o n m] 98) λb w=>K b w:=
 cg (x _ _ rfl bR (Fr.push _ _))
def cP.set{y:bZ}{w G:Nat}{C:bZ}{B z:Nat}{K:dw}(A:cP.at h b y w G C B z XS XT XU YF YG YH)(D: ∀H,cP.at H b O0 O4 O5 u t r k j i o n m->H.size=h.size->(∀x,x≠b->H[x]? =h[x]?)->K H):cP.ST h (AA b 0) O0 O4 O5 u t r k j i o n m K:=
 cP.I5 (eX A rfl rfl D)
def xu (B:jE (Instr.range 9 (.S s)) h λE A=> ∃(y:Nat),E=.P y 0/\∃(I:dw)(M:aA->Nat),I A/\∀w,I w->jE (Instr.next (.P y 0) true 0) w λV H=>(V=.T #[.B false]/\R (.B true) H)\/(∃(D z:Value),V=.T #[.B true,D,z]/\∃T,z=.int .i32 T/\aB (λ(C:Bool) x=>ite C (R (.B false) x) ((I x/\M x<M w))) (λJ=>ite (decide (T<97)) (ite (decide (T<48)) (ite (T !=45) (J (T !=45) H) (J false H)) (ite (decide (T>57)) (ite (T !=45) (J (T !=45) H) (J false H)) (J false H))) (ite (decide (T>122)) (ite (decide (T<48)) (ite (T !=45) (J (T !=45) H) (J false H)) (ite (decide (T>57)) (ite (T !=45) (J (T !=45) H) (J false H)) (J false H))) (J false H))))):Cl 97 #[.S s,.int .i32 45] h R:=aP [(6,.loop []),(15,λ_=> .typed [(11,.one (.int .i32))]),(17,.join [(34,sB)])] B
def vI (B:jE (Instr.range 9 (.S s)) h λE A=> ∃(y:Nat),E=.P y 0/\∃(I:dw)(M:aA->Nat),I A/\∀w,I w->jE (Instr.next (.P y 0) true 0) w λV H=>(V=.T #[.B false]/\R (.B true) H)\/(∃(D z:Value),V=.T #[.B true,D,z]/\∃T,z=.int .i32 T/\aB (λ(C:Bool) x=>ite C (R (.B false) x) ((I x/\M x<M w))) (λJ=>ite (decide (T<97)) (ite (decide (T<48)) (ite (T !=45) (J (T !=47) H) (J false H)) (ite (decide (T>57)) (ite (T !=45) (J (T !=47) H) (J false H)) (J false H))) (ite (decide (T>122)) (ite (decide (T<48)) (ite (T !=45) (J (T !=47) H) (J false H)) (ite (decide (T>57)) (ite (T !=45) (J (T !=47) H) (J false H)) (J false H))) (J false H))))):Cl 97 #[.S s,.int .i32 47] h R:=aP [(6,.loop []),(15,λ_=> .typed [(11,.one (.int .i32))]),(17,.join [(34,sB)])] B
def Ex (J:aW h (.C #[.B Xs,.U Xo,.U Xp,.S Xq,.S Xr] 29) λb H=>av.LD H (AA b 0) λe' f' g' h' i'=> ∃(E:Bool),JS 29 (.agg #[.B e',.U f',.U g',.S h',.S i']) (.agg #[.B false,.U 0,.U 0,.S (⟨#[]⟩:cF),.S (⟨#[]⟩:cF)]) E/\ite E (R (.B true) H) (∃G,Cc H b 0 (.B G)/\ite G (av.LD H (AA b 0) λL M O P Q=>Hu H b 1 λS=>Hu H b 2 λU=> ∃(eq_1:Bool),JS 29 (.agg #[.B L,.U M,.U O,.S P,.S Q]) (.agg #[.B true,.U S,.U U,.S (⟨#[]⟩:cF),.S (⟨#[]⟩:cF)]) eq_1/\ite eq_1 (∃T,Cc H b 1 (.U T)/\ite (decide (T≥1)) (∃x,Cc H b 1 (.U x)/\ite (decide (x<=4294967295)) (∃y,Cc H b 2 (.U y)/\R (.B (decide (y<=4294967295))) H) (R (.B false) H)) (R (.B false) H)) (R (.B false) H)) (av.LD H (AA b 0) λV X Z a' b'=>Hs H b 3 λc'=>Hs H b 4 λd'=> ∃(eq_2:Bool),JS 29 (.agg #[.B V,.U X,.U Z,.S a',.S b']) (.agg #[.B false,.U 0,.U 0,.S c',.S d']) eq_2/\ite eq_2 (∃z,Cc H b 3 (.S z)/\ite (decide (((z.size:Nat):Int)≥1)) (∃A,Cc H b 3 (.S A)/\ite (decide (((A.size:Nat):Int)<=16)) (∃B,Cc H b 4 (.S B)/\ite (decide (((B.size:Nat):Int)<=24)) (Hs H b 3 λj'=>Cl 97 #[.S j',.int .i32 45] H λl' w=> ∃C,l'=.B C/\ite C (Hs w b 4 λk'=>Cl 97 #[.S k',.int .i32 47] w λm' I=> ∃D,m'=.B D/\R (.B D) I) (R (.B false) w)) (R (.B false) H)) (R (.B false) H)) (R (.B false) H)) (R (.B false) H)))):Cl 53 #[.agg #[.B Xs,.U Xo,.U Xp,.S Xq,.S Xr]] h R:=aP [] J
def Ey(w:aW h (.C #[.B Xs,.U Xo,.U Xp,.S Xq,.S Xr] 29) λb H=>av.LD H (AA b 0) λx y z A B=> ∃(E:Bool),JS 29 (.agg #[.B x,.U y,.U z,.S A,.S B]) (.agg #[.B false,.U 0,.U 0,.S (⟨#[]⟩:cF),.S (⟨#[]⟩:cF)]) E/\ite E (R (.I 0) H) (∃T,Cc H b 0 (.B T)/\ite T (R (.I 1) H) (R (.I 2) H))):Cl 154 #[.agg #[.B Xs,.U Xo,.U Xp,.S Xq,.S Xr]] h R:=aP [] w
def GA{A:Bool}{x:Int}{y:Int}{z:cF}{C:cF}{D:Bool}{B:Int}{E:Int}{G:cF}{I:cF} (hv:aW h (.C #[.B A,.U x,.U y,.S z,.S C] 29) λb i'=>aW i' (.C #[.B D,.U B,.U E,.S G,.S I] 29) λB w=>av.LD w (AA b 0) λx' y' z' A' B'=>av.LD w (AA B 0) λd' e' f' g' h'=>Cl 154 #[.agg #[.B x',.U y',.U z',.S A',.S B']] w λC' J=>Vi C' λt7=>cH (AA B 0) [.B d',.U e',.U f',.S g',.S h'] 0 J/\Cl 154 #[.agg #[.B d',.U e',.U f',.S g',.S h']] J λD' H=> ∃t9,D'=.I t9/\ite (t7 !=t9) (av.LD H (AA b 0) λk' l' m' n' o'=>av.LD H (AA B 0) λT M O P Q=>Cl 154 #[.agg #[.B k',.U l',.U m',.S n',.S o']] H λE' L=>Vi E' λp'=>cH (AA B 0) [.B T,.U M,.U O,.S P,.S Q] 0 L/\Cl 154 #[.agg #[.B T,.U M,.U O,.S P,.S Q]] L λF' j'=> ∃S,F'=.I S/\R (.B (decide (p'<S))) j') (Hu H b 1 λq'=> ∃U,Cc H B 1 (.U U)/\ite (q' !=U) (Hu H b 1 λr'=> ∃V,Cc H B 1 (.U V)/\R (.B (decide (r'<V))) H) (Hu H b 2 λs'=> ∃X,Cc H B 2 (.U X)/\ite (s' !=X) (Hu H b 2 λt'=> ∃Z,Cc H B 2 (.U Z)/\R (.B (decide (t'<Z))) H) (Hs H b 3 λu'=> ∃a',Cc H B 3 (.S a')/\ite (!(u'.toList==a'.toList)) (Hs H b 3 λv'=> ∃b',Cc H B 3 (.S b')/\R (.B (Op.bytesLess v'.toList b'.toList)) H) (Hs H b 4 λw'=> ∃c',Cc H B 4 (.S c')/\R (.B (Op.bytesLess w'.toList c'.toList)) H))))):Cl 106 #[.agg #[.B A,.U x,.U y,.S z,.S C],.agg #[.B D,.U B,.U E,.S G,.S I]] h R:=aP [(5,λ_=> .ni (lO [0,2,1,3,4,5] .done)),(8,λ_=> .ni (lO [0,2,1,3,4,5] .done))] hv

end
section
namespace ju
def Q9{a b:cF}:(a==b)=true↔a=b:=by have⟨a⟩:=a;have⟨b⟩:=b;constructor;intro h;have h:(a==b)=true:=h;rw[eq_of_beq h];intro h;cases h;show(a==a)=true;simp
structure Ev where
 jY:Bool
 node:Int
 fK:Int
 host:cF
 jl:cF
def Ev.ext'{x y:Ev}(H:x.jY=y.jY)(a:x.node=y.node)(b:x.fK=y.fK)(c:x.host=y.host)(d:x.jl=y.jl):x=y:=by cases x;cases y;simp at H a b c d;simp[H,a,b,c,d]
def Wo(x y:Ev):Bool:=x.jY==y.jY && (x.node==y.node && (x.fK==y.fK && (x.host==y.host && (x.jl==y.jl && true))))
theorem I6{x y:Ev}:Wo x y=true↔x=y:=by unfold Wo;simp only[aZ,dQ,Q9,and_true];constructor;rintro⟨H,a,b,c,d⟩;exact Ev.ext' H a b c d;grind
instance : DecidableEq Ev := λx y => decidable_of_iff (Wo x y = true) I6
def NL(x y:Ev):Wo x y=decide (x=y):=by by_cases h:x=y;rw[aC h];exact I6.2 h;rw[aT h];cases H:Wo x y;rfl;exact absurd (I6.1 H) h
def mh(x:Ev):Value:=.agg #[.bool x.jY,.int .u64 x.node,.int .u64 x.fK,.string x.host,.string x.jl]
def Ev.zero:Ev:=⟨false,0,0,⟨#[]⟩,⟨#[]⟩⟩
def eqv(x y:Ev):Ox Tryz.prog 29 (mh x) (mh y) (decide (x=y)):=by rw[<-NL];exact Ox.of (by rfl)
def zQ{x y:Ev}{a b:Value}(H:a=mh x)(c:b=mh y):Ox Tryz.prog 29 a b (decide (x=y)):=by subst H c;exact eqv x y
def WA(e:Bool)(a:Ev)(h:aA):rd Tryz.prog (Instr.checkKey e 10000 29 (mh a)) h=some ():=cZ
def under:(Tryz.prog.underlying 29).isSome=true:=cZ
def key:Hn Tryz.prog 29 mh:=⟨eqv,WA,by have⟨d,h⟩:=dL.1 under;exact⟨d,h,λa b=> .inl (by cases d<;>rfl)⟩,λa=>by unfold mh;simp[Instr.sameBits,Q9.2]⟩
def pl(m c:UInt8):Bool:=(decide (97<=c) && decide (c<=122))||(decide (48<=c) && decide (c<=57))||c==45||c==m
def nQ(m:UInt8)(s:cF):Bool:=s.data.toList.all (pl m)
def cY(x:Ev):Bool:=
 if x=.zero then true
 else if x.jY=true then decide (x.host=⟨#[]⟩/\x.jl=⟨#[]⟩/\1<=x.node/\x.node<=4294967295/\x.fK<=4294967295)
 else decide (x.node=0/\x.fK=0/\1<=x.host.size/\x.host.size<=16/\x.jl.size<=24) && (nQ 45 x.host && nQ 47 x.jl)
def kK(x:Ev):Int:=if x=.zero then 0 else if x.jY=true then 1 else 2
def bl(a b:cF):Bool:=Op.bytesLess a.toList b.toList
def lR(x y:Ev):Bool:=
 if kK x≠kK y then decide (kK x<kK y)
 else if x.node≠y.node then decide (x.node<y.node)
 else if x.fK≠y.fK then decide (x.fK<y.fK)
 else if x.host≠y.host then bl x.host y.host
 else bl x.jl y.jl
def bytes_irrefl: ∀a:cQ,Op.bytesLess a a=false
 | []=>rfl
 |a::x=>by unfold Op.bytesLess;simp[bytes_irrefl x]
theorem bytes_trans: ∀{a b c:cQ},Op.bytesLess a b=true->Op.bytesLess b c=true->Op.bytesLess a c=true
 |_, [],_,h,_=>by unfold Op.bytesLess at h;cases h
 |_,_::_, [],_,h=>by cases h
 | [],b::y,c::z,_,_=>rfl
 |a::x,b::y,c::z,H,d=>by unfold Op.bytesLess at H d⊢;simp only[Bool.or_eq_true,bn,aZ,dQ]at H d⊢;rcases H with H|⟨rfl,H⟩;grind;rcases d with d|⟨rfl,d⟩;grind;exact .inr ⟨rfl,bytes_trans H d⟩
theorem bytes_total: ∀{a b:cQ},a≠b->Op.bytesLess a b=true\/Op.bytesLess b a=true
 | [], [],h=>absurd rfl h
 | [],_::_,_=> .inl rfl
 |_::_, [],_=> .inr rfl
 |a::x,b::y,h=>by unfold Op.bytesLess;by_cases e:a=b;subst e;rcases bytes_total (a:=x) (λe=>h (by rw[e]))with h1|h1;grind;grind;grind
def US{a b:cF}(h:a≠b):bl a b=true\/bl b a=true:=by refine bytes_total λe=>h ?_;rw[toList_data,toList_data]at e;cases a;cases b;simp only[ByteArray.mk.injEq];exact Array.ext' e
def Ez{a b c:cF}(H:bl a b=true)(d:bl b c=true):bl a c=true:=bytes_trans H d
def HJ(a:cF):bl a a=false:=bytes_irrefl _
def zR{x y:Ev}:lR x y=true↔kK x<kK y\/(kK x=kK y/\(x.node<y.node\/(x.node=y.node/\(x.fK<y.fK\/(x.fK=y.fK/\((x.host≠y.host/\bl x.host y.host=true)\/(x.host=y.host/\bl x.jl y.jl=true))))))):=by unfold lR;by_cases H:kK x=kK y;rw[af (dH H)];by_cases a:x.node=y.node;rw[af (dH a)];by_cases b:x.fK=y.fK;rw[af (dH b)];by_cases c:x.host=y.host;rw[af (dH c)];simp[H,a,b,c];rw[ag c];simp[H,a,b,c];rw[ag b];simp[H,a,b];rw[ag a];simp[H,a];rw[ag H];simp[H]
theorem ny(x:Ev):lR x x=false:=by cases h:lR x x;rfl;rw[zR]at h;rcases h with h|⟨_,h|⟨_,h|⟨_,⟨h,_⟩|⟨_,h⟩⟩⟩⟩;omega;omega;omega;grind;rw[HJ]at h;cases h
theorem yr{x y z:Ev}(a:lR x y=true)(H:lR y z=true):lR x z=true:=by rw[zR]at a H⊢;rcases a with a|⟨c,a⟩;grind;rcases H with H|⟨C,H⟩;exact .inl ae;refine .inr ⟨ae,?_⟩;rcases a with a|⟨n,a⟩;omega;rcases H with H|⟨d,H⟩;exact .inl ae;refine .inr ⟨ae,?_⟩;rcases a with a|⟨s,a⟩;omega;rcases H with H|⟨S,H⟩;omega;refine .inr ⟨ae,?_⟩;rcases a with⟨b,a⟩|⟨b,a⟩;rcases H with⟨E,H⟩|⟨E,H⟩;refine .inl ⟨λe=> ?_,Ez a H⟩;have:=Ez a (e▸H);rw[HJ]at this;cases this;grind;rcases H with⟨E,H⟩|⟨E,H⟩;grind;exact .inr ⟨b.trans E,Ez a H⟩
theorem EA{x y:Ev}(h:x≠y):lR x y=true\/lR y x=true:=by
 rw[zR,zR];by_cases a:kK x=kK y;by_cases b:x.node=y.node;by_cases c:x.fK=y.fK;by_cases H:x.host=y.host;rcases US (λe=>by
  unfold kK at a;have d:x.jY=y.jY:=by grind
  exact h (Ev.ext' d b c H e))with h5|h5
 grind;grind;rcases US H with h5|h5;grind;grind;grind;grind;grind
variable {h : aA} {R : Value → aA → Prop}
def get_at{s:cF}{i:Nat}(H:i<s.size):s.get! i=s.data.toList.getD i 0:=by
 have:=H;show s.data[i]! =_;have e:s.data.toList[i]? =some s.data[i]:=bt
 rw[getElem!_pos s.data i this,bx,e];rfl
theorem decode_at(s:cF)(i:Nat)(a:i<s.size):(s.data.toList.getD i 0<128->Utf8.decode s i=((s.data.toList.getD i 0).toNat,1))/\(¬s.data.toList.getD i 0<128->128<=(Utf8.decode s i).1):=by
 have e:=get_at a;have E:(s.get! (i+0)).toNat=(s.data.toList.getD i 0).toNat:=by grind
 constructor;intro h;have h:(s.data.toList.getD i 0).toNat<128:=h;unfold Utf8.decode;simp only[E];rw[ag h];intro h;have h: ¬(s.data.toList.getD i 0).toNat<128:=h;unfold Utf8.decode;simp only[E];rw[af h];split;split
 omega;decide;split
 split
 grind;decide;split
 split
 rename_i H;simp only[aZ,bn]at H;omega;decide;decide
def np(m:Int)(c:Int):Bool:=(decide (c<97)||decide (c>122)) && ((decide (c<48)||decide (c>57)) && ((c !=45) && (c !=m)))
def Ra{more c:Int}(e:more<128)(h:128<=c):np more c=true:=by
 unfold np;have H:c>122:=ae
 have a:c>57:=ae
 have b:c≠45:=ae
 have d:c≠more:=ae
 simp[H,a,b,d]
theorem Rb(m:UInt8)(b:UInt8):np (m.toNat:Int) (b.toNat:Int)= !pl m b:=by
 have n:(b=45)↔((b.toNat:Int)=45):=by constructor;simp_all;intro e;exact UInt8.toNat_inj.1 (by grind)
 have o:(b=m)↔((b.toNat:Int)=(m.toNat:Int)):=by constructor;rintro rfl;rfl;intro e;exact UInt8.toNat_inj.1 ae
 have E:(97<=b)↔ ¬((b.toNat:Int)<97):=by rw[UInt8.le_iff_toNat_le];show 97<=b.toNat↔_;omega
 have a:(b<=122)↔ ¬((b.toNat:Int)>122):=by rw[UInt8.le_iff_toNat_le];show b.toNat<=122↔_;omega
 have c:(48<=b)↔ ¬((b.toNat:Int)<48):=by rw[UInt8.le_iff_toNat_le];show 48<=b.toNat↔_;omega
 have d:(b<=57)↔ ¬((b.toNat:Int)>57):=by rw[UInt8.le_iff_toNat_le];show b.toNat<=57↔_;omega
 unfold np pl;have f:(b==45)=decide ((b.toNat:Int)=45):=by grind
 have g:(b==m)=decide ((b.toNat:Int)=(m.toNat:Int)):=by grind
 rw[f,g];simp only[E,a,c,d];by_cases q:(b.toNat:Int)<97<;>by_cases Q:(b.toNat:Int)>122<;>by_cases i:(b.toNat:Int)<48<;>by_cases j:(b.toNat:Int)>57<;>by_cases k:(b.toNat:Int)=45<;>by_cases l:(b.toNat)=(m.toNat:Int)<;>simp[q,Q,i,j,k,l]
end ju
end
end Go.Proofs.YtelbcloplcdchaaGreatDoor
namespace Go.Proofs
open Go.Den
open IntKind (wrap)
open Int (toNat)
section
open Go.Shelf
def Tryz.KJ:Go.Shelf.Ren:=⟨fun|145=>104|220=>151|219=>218|217=>296|225=>297|224=>298|267=>299|266=>335|314=>336|n=>n,fun|9=>9|4=>4|59=>206|3=>3|5=>5|46=>181|146=>435|51=>336|n=>n,fun|1=>1|n=>n⟩
def Tryz.TG:Go.Proofs.Lays.n145 Tryz.prog Tryz.KJ:=by constructor;all_goals first|kernel_rfl|(intro _;kernel_rfl)
def Tryz.KK:Go.Shelf.Ren:=⟨fun|103=>58|210=>103|206=>150|n=>n,fun|9=>9|4=>4|24=>140|3=>3|n=>n,fun|n=>n⟩
def Tryz.TH:Go.Proofs.Lays.n103 Tryz.prog Tryz.KK:=by constructor;all_goals first|kernel_rfl|(intro _;kernel_rfl)
def Tryz.oW:Go.Shelf.Ren:=⟨fun|14=>105|16=>152|17=>153|19=>219|20=>220|21=>221|22=>222|23=>223|24=>224|25=>300|27=>302|26=>301|28=>337|29=>352|30=>166|31=>167|32=>168|33=>169|35=>231|34=>230|36=>232|37=>233|38=>234|39=>304|40=>305|n=>n,fun|9=>9|3=>3|22=>27|24=>209|25=>210|4=>4|34=>326|5=>5|36=>181|37=>32|0=>0|39=>329|21=>21|44=>407|47=>437|50=>440|48=>438|2=>2|52=>274|55=>277|59=>335|60=>336|20=>20|61=>337|65=>441|66=>442|67=>463|n=>n,fun|0=>2|1=>3|2=>0|3=>4|4=>5|n=>n⟩
def Tryz.VF:Go.Proofs.LaysPu.n14 Tryz.prog Tryz.oW:=by constructor;all_goals first|kernel_rfl|(intro _;kernel_rfl)

end
end Go.Proofs
namespace Go.Proofs.YtelbcloplcdchaaGreatDoor
open Go.Den
open IntKind (wrap)
open Int (toNat)
section
namespace jS
variable {h H:aA} {R:fp}
variable {s:cF}
def Mx(h:aA):Prop:= ∃m,aU h ⟨1,0,none⟩=some (.int .i64 m)
def Mx.on(M:Mx h)(f:Fr No h H):Mx H:=by have⟨m,a⟩:=M;exact⟨m,f.cell a id⟩
theorem A6{S:cF}(M:Mx h)(c:s.size<4294967281)(g:R (.T #[.string ⟨(Lib.cut s.data.toList S.data.toList).1.toArray⟩,.string ⟨(Lib.cut s.data.toList S.data.toList).2.1.toArray⟩,.B (Lib.cut s.data.toList S.data.toList).2.2]) h):Cl 104 #[.S s,.S S] h R:=λw d=>by subst d;have⟨m,b⟩:=M;refine(Any.strings_Cut Tryz.TG s S m w c (by exact b)).mono λe i ⟨a,n,f⟩=>⟨_,a,?_,?_⟩;simp_all;rw[f];exact⟨rfl,rfl,rfl⟩
theorem A7{p:cF}(c:R (.T #[.string ⟨(Lib.trimPrefix s.data.toList p.data.toList).toArray⟩,.B (Lib.hasPrefix s.data.toList p.data.toList)]) h):Cl 58 #[.S s,.S p] h R:=λw d=>(Any.strings_CutPrefix Tryz.TH s p w).mono λe f ⟨a,b⟩=>⟨_,a,by grind,by rw[b];exact fQ.refl _⟩
def qP{u:Nat}(j:s.size<=1000)(f:Lib.parseUintB 32 s.data.toList=.ok u)(a: iG h R (.T #[.U (u:Int),.nilIface])):Cl 105 #[.S s,.I 10,.I 32] h R:=λw g=>by subst g;refine(Any.strconv_ParseUint_10_at32_ok Tryz.VF s ae u f w).mono λe k ⟨d,b⟩=>⟨_,d,?_,?_⟩;rcases b with rfl|rfl;exact a _ (Fr.refl _ _);refine a _ ?_;unfold Lib.bytesWorld;rw[G0];have E:(w.drew.alloc (.C (Lib.bytesCells w (Tryz.oW.t 5) s) (Tryz.oW.t 5))).heap=w.heap.push (.C (Lib.bytesCells w (Tryz.oW.t 5) s) (Tryz.oW.t 5)):=rfl;rw[E];unfold pU;rw[dz];refine⟨bt,λc i _=> ?_⟩;rw[dD,af (by simp;omega),dh,dz];rcases b with rfl|rfl;exact fQ.refl _;unfold Lib.bytesWorld World.freeze;split<;>exact⟨rfl,rfl,rfl⟩

end jS
end
section
namespace Bn
open Cb
open ju (Ev cY)
def A8(s q:Nat):Nat:=if s%2=1 then(s/2) ^^^ q else s/2
def Ba(q:Nat):Nat->Nat->Nat
 |0,s=>s
 |k+1,s=>Ba q k (A8 s q)
def UU(s c q:Nat):Nat:=Ba q 8 (s ^^^ c)
def runN(s:Nat)(b:cQ)(q:Nat):Nat:=b.foldl (λs c=>UU s c.toNat q) s
def EB(b:cQ):Nat:=65535 ^^^ (runN 65535 b 33800%65536)
def CM(b:cQ):Nat:=4294967295 ^^^ runN 4294967295 b 2197175160
def I7(b:cQ):cQ:= [UInt8.ofNat (EB b/256),UInt8.ofNat (EB b)]
def NM(b:cQ):cQ:= [UInt8.ofNat (CM b/16777216),UInt8.ofNat (CM b/65536),UInt8.ofNat (CM b/256),UInt8.ofNat (CM b)]
def KL(x:Ev):cQ:= [47,47]++x.host.data.toList++ [47]++x.jl.data.toList
def GC(x:Ev):Tr:=if x=.zero then vG [num 1,num 0]else if x.jY=true then vG [num 2,vG [num x.node.toNat,num x.fK.toNat]]else vG [num 1,.mk 3 0 (KL x) []]
def vJ(s:cQ):Ev:=⟨false,0,0,⟨(Lib.cut (Lib.trimPrefix s [47,47]) [47]).1.toArray⟩,⟨(Lib.cut (Lib.trimPrefix s [47,47]) [47]).2.1.toArray⟩⟩
def vK(s:cQ):Bool:=Lib.hasPrefix s [47,47] && (Lib.cut (Lib.trimPrefix s [47,47]) [47]).2.2 && !(Lib.cut (Lib.trimPrefix s [47,47]) [47]).1.isEmpty && cY (vJ s)
def at_(l:List Tr)(i:Nat):Tr:=l.getD i HD
def EC(l:List Tr):Bool:=l.all λt=>qO t (num t.n)
def Rc(t:Tr):Ev:=⟨true,((at_ t.l 0).n:Int),((at_ t.l 1).n:Int),⟨#[]⟩,⟨#[]⟩⟩
def qQ(V:kF)(t:Tr):Option Ev:=
 if iQ V t=true/\t.k=4/\t.l.length=2 then
  if qO (at_ t.l 0) (num 1)=true/\qO (at_ t.l 1) (num 0)=true then some .zero
  else if qO (at_ t.l 0) (num 1)=true/\(at_ t.l 1).k=3 then(if vK (at_ t.l 1).b=true then some (vJ (at_ t.l 1).b)else none)
  else if qO (at_ t.l 0) (num 2)=true then(if(at_ t.l 1).k=4/\(at_ t.l 1).l.length=2/\EC (at_ t.l 1).l=true/\cY (Rc (at_ t.l 1))=true then some (Rc (at_ t.l 1))else none)
  else none
 else none
structure jP where
 e:Ev
 tm:Nat
 sq:Nat
deriving DecidableEq
def jP.zero:jP:=⟨.zero,0,0⟩
def iJ(x:jP):Bool:=cY x.e && decide (x.tm<=1099511627776) && decide (x.sq<=1099511627776)
def Re(x:jP):Tr:=vG [GC x.e,vG [num x.tm,num x.sq]]
def kX(V:kF)(t:Tr):Option jP:=
 if t.k=4/\t.l.length=2/\(at_ t.l 1).k=4/\(at_ t.l 1).l.length=2 then
  match qQ V (at_ t.l 0)with
  |none=>none
  |some e=>if iJ ⟨e,(at_ (at_ t.l 1).l 0).n,(at_ (at_ t.l 1).l 1).n⟩=true/\qO (Re ⟨e,(at_ (at_ t.l 1).l 0).n,(at_ (at_ t.l 1).l 1).n⟩) t=true then some ⟨e,(at_ (at_ t.l 1).l 0).n,(at_ (at_ t.l 1).l 1).n⟩else none
 else none
def typeAt(l:List Tr)(i:Nat):Int:=if i<l.length/\(at_ l i).n<=2/\qO (at_ l i) (num (at_ l i).n)=true then((at_ l i).n:Int)else -1
def sumOf(V:kF)(l:List Tr)(sum:Nat):Except Int (cQ):=
 if iQ V (vG (l++ [uk (List.replicate (2*sum) 0)]))=true then .ok (if sum=1 then I7 (enc (vG (l++ [uk (List.replicate (2*sum) 0)])))else NM (enc (vG (l++ [uk (List.replicate (2*sum) 0)]))))else .error 3
def qe(V:kF)(l:List Tr)(i:Nat):Except Int Tr:=
 if i<l.length then
  if l.all (iQ V)=true/\0<=typeAt l i then
   if 0<typeAt l i then(match sumOf V l (typeAt l i).toNat with
    | .error e=> .error e
    | .ok b=>if iQ V (vG (l++ [uk b]))=true then .ok (vG (l++ [uk b]))else .error 3)
   else if iQ V (vG l)=true then .ok (vG l)else .error 3
  else .error 3
 else .error 1
def tV(V:kF)(t:Tr)(i:Nat):Except Int (List Tr):=
 if iQ V t=true/\t.k=4/\0<=typeAt t.l i then
  if typeAt t.l i=0 then .ok t.l
  else if i<t.l.length - 1/\qO (at_ t.l (t.l.length - 1)) (uk (at_ t.l (t.l.length - 1)).b)=true/\(at_ t.l (t.l.length - 1)).b.length=2*(typeAt t.l i).toNat then
   (match sumOf V (t.l.take (t.l.length - 1)) (typeAt t.l i).toNat with
   | .error e=> .error e
   | .ok b=>if b=(at_ t.l (t.l.length - 1)).b then .ok (t.l.take (t.l.length - 1))else .error 10)
  else .error 3
 else .error 3
structure Prim where
 fl:Nat
 sum:Int
 dest:Ev
 rep:Ev
 id:jP
 gT:Nat
deriving DecidableEq
def Prim.zero:Prim:=⟨0,0,.zero,.zero,.zero,0⟩
def XV(n all:Int):Bool:=IntKind.wrap .u64 ((BitVec.ofInt (IntKind.bits .u64) n &&& ~~~ BitVec.ofInt (IntKind.bits .u64) all).toNat:Int)==0
def nR(p:Prim):Bool:=XV (p.fl:Int) 409638 && decide (0<=p.sum) && decide (p.sum<=2) && cY p.dest && cY p.rep && iJ p.id && decide (p.gT<=1099511627776)
def KM(p:Prim):List Tr:= [num 7,num p.fl,num p.sum.toNat,GC p.dest,GC p.id.e,GC p.rep,vG [num p.id.tm,num p.id.sq],num p.gT]
def qh(V:kF)(p:Prim):Except Int Tr:=if nR p=true then qe V (KM p) 2 else .error 3
def Bb(l:List Tr)(d r:Ev)(i:jP):Prim:=⟨(at_ l 1).n,((at_ l 2).n:Int),d,r,i,(at_ l 7).n⟩
def xZ(V:kF)(t:Tr):Except Int Prim:=
 match tV V t 2 with
 | .error e=> .error e
 | .ok l=>if l.length=8 then(match qQ V (at_ l 3),qQ V (at_ l 5),kX V (vG [at_ l 4,at_ l 6])with
  |some d,some r,some i=>(match qh V (Bb l d r i)with
   | .ok a=>if qO a t=true then .ok (Bb l d r i)else .error 3
   | .error _=> .error 3)
  |_,_,_=> .error 3)else .error 3
structure oX where
 ty:Nat
 nr:Nat
 fl:Nat
 sum:Int
 data:cQ
deriving DecidableEq
def Rf(l:List Nat):Tr:=vG (l.map num)
def mi(V:kF)(b:cQ):Bool:=match od V b with| .ok (t,n)=>decide (n=b.length) && decide (enc t=b)| .error _=>false
def fP(V:kF)(b:cQ):Tr:=match od V b with| .ok (t,_)=>t| .error _=>HD
def TI(V:kF)(d:cQ):Bool:=mi V d && qO (fP V d) (num (fP V d).n) && decide ((fP V d).n<=1099511627776)
def vL(t:Tr):Nat:=(at_ t.l 0).n
def I8(t:Tr):Nat:=(at_ t.l 1).n
def Rh(V:kF)(d:cQ):Bool:=mi V d && decide ((fP V d).k=4/\(fP V d).l.length=2) && qO (fP V d) (Rf [vL (fP V d),I8 (fP V d)]) && decide (1<=vL (fP V d)/\vL (fP V d)<=255/\I8 (fP V d)<=vL (fP V d))
def CN(V:kF)(t:Nat)(d:cQ):Bool:=(if t=6 then mi V d && (qQ V (fP V d)).isSome else if t=7 then TI V d else if t=10 then Rh V d else true) && decide (d.length<=200)
def oe(n:Nat):Bool:=decide (1<=n/\n<=255)
def mO(V:kF)(b:oX):Bool:=oe b.ty && oe b.nr && XV (b.fl:Int) 23 && decide (0<=b.sum) && decide (b.sum<=2) && CN V b.ty b.data
def O6(b:oX):List Tr:= [num b.ty,num b.nr,num b.fl,num b.sum.toNat,uk b.data]
def xw(V:kF)(b:oX):Except Int Tr:=if mO V b=true then qe V (O6 b) 3 else .error 3
def vM(l:List Tr):oX:=⟨(at_ l 0).n,(at_ l 1).n,(at_ l 2).n,((at_ l 3).n:Int),(at_ l 4).b⟩
def ED(V:kF)(t:Tr):Except Int oX:=
 match tV V t 3 with
 | .error e=> .error e
 | .ok l=>if l.length=5/\(at_ l 4).k=2 then(match xw V (vM l)with
  | .ok a=>if qO a t=true then .ok (vM l)else .error 3
  | .error _=> .error 3)else .error 3
structure nT where
 p:Prim
 bl:List oX
deriving DecidableEq
def alone(k:Nat):Bool:=decide (k=1\/k=6\/k=7\/k=10)
def apart(b c:oX):Bool:=decide (c.nr≠b.nr) && (decide (c.ty≠b.ty)|| !alone b.ty)
def Mz(V:kF):List oX->List oX->Bool
 |_, []=>true
 |pre,b::l=>mO V b && pre.all (apart b) && Mz V (pre++ [b]) l
def GD(V:kF)(l:List oX):Bool:=match l.getLast? with
 |none=>false
 |some z=>decide (l.length<=8) && decide (z.ty=1/\z.nr=1) && Mz V [] l
def EE(V:kF)(t:Tr):cQ:=if iQ V t=true then enc t else []
def KN(V:kF):List oX->cQ->Option (cQ)
 | [],o=>some o
 |b::l,o=>match xw V b with
  | .error _=>none
  | .ok t=>KN V l (o++EE V t)
def vN(V:kF)(b:nT):Option (cQ):=match qh V b.p with
 | .error _=>none
 | .ok t=>KN V b.bl (EE V t)
def ku(V:kF)(b:nT):Option (cQ):=
 if GD V b.bl=true then(match vN V b with
  |none=>none
  |some l=>if l.length<=598 then some (159::(l++ [255]))else none)
 else none
def KO(V:kF):List Tr->List oX->Except Int (List oX)
 | [],o=> .ok o
 |t::l,o=>match ED V t with
  | .error e=> .error e
  | .ok b=>KO V l (o++ [b])
def mj(V:kF)(b:cQ):Except Int nT:=
 if b.length<=1200 then(match od V b with
  | .error e=> .error e
  | .ok (t,n)=>if n=b.length/\t.k=4/\2<=t.l.length/\t.l.length<=9 then(match xZ V (at_ t.l 0)with
   | .error e=> .error e
   | .ok p=>(match KO V (t.l.drop 1) []with
    | .error e=> .error e
    | .ok l=>if(ku V ⟨p,l⟩).isSome=true then .ok ⟨p,l⟩else .error 3))else .error 3)
 else .error 2
def vO(V:kF)(B:cQ):Bool:=match mj V B with
 | .error _=>false
 | .ok b=>decide (ku V b=some B)
def vP(b:nT):cQ:=match b.bl.getLast? with|none=> []|some z=>z.data
structure C4 where
 rc:Bool
 dl:Bool
 de:Bool
 reason:Nat
 at':Nat
 of:jP
deriving DecidableEq
def jn(r:C4):Bool:=(r.rc||r.dl||r.de) && decide (r.reason<=255) && decide (r.at'<=1099511627776) && iJ r.of
def MA(l:List Bool):Tr:=vG (l.map λb=>num (if b=true then 1 else 0))
def Ja(r:C4):Tr:=vG [num 1,vG [MA [r.rc,r.dl,r.de],num r.reason,num r.at',Re r.of]]
def Jb(V:kF)(r:C4):Option (cQ):=if jn r=true/\iQ V (Ja r)=true then some (enc (Ja r))else none
def nU(V:kF)(r:C4)(d:Ev)(id:jP)(l:Nat):Option nT:=match Jb V r with
 |none=>none
 |some b=>if(ku V ⟨⟨2,0,d,.zero,id,l⟩, [⟨1,1,0,0,b⟩]⟩).isSome=true then some ⟨⟨2,0,d,.zero,id,l⟩, [⟨1,1,0,0,b⟩]⟩else none

end Bn
end
section
namespace Ask
open ju (Ev cY)
structure Rq where
 id:Nat
 kind:Int
 ep:Ev
 dest:Ev
 lS:Int
 num:Int
 kV:Int
 nL:cQ
 gT:Nat
 token:Nat
 on:Bool
deriving DecidableEq
def jZ(x:Rq):Rq:=⟨x.id,x.kind,.zero,.zero,0,0,0, [],0,0,false⟩
def vQ(x:Rq):Rq:=
 if x.kind=1\/x.kind=3 then { jZ x with ep:=x.ep,lS:=x.lS }
 else if x.kind=2\/x.kind=6 then { jZ x with ep:=x.ep }
 else if x.kind=4 then { jZ x with ep:=x.ep,dest:=x.dest,nL:=x.nL,gT:=x.gT,on:=x.on }
 else if x.kind=5\/x.kind=8\/x.kind=9 then { jZ x with num:=x.num }
 else if x.kind=7 then { jZ x with ep:=x.ep,kV:=x.kV }
 else if x.kind=10 then { jZ x with on:=x.on }
 else if x.kind=12 then { jZ x with token:=x.token }
 else jZ x
def tW(e:Ev):Bool:=cY e && !decide (e=.zero)
def oY(x:Rq):Bool:=
 if x.kind=1\/x.kind=3 then tW x.ep && decide (x.lS≥0) && decide (x.lS<=2)
 else if x.kind=2\/x.kind=6 then tW x.ep
 else if x.kind=4 then tW x.ep && tW x.dest && decide (x.nL.length<=200) && decide (x.gT≥1) && decide (x.gT<=1099511627776)
 else if x.kind=5\/x.kind=8\/x.kind=9 then decide (x.num≥1) && decide (x.num<=1099511627776)
 else if x.kind=7 then tW x.ep && decide (x.kV≥1) && decide (x.kV<=1000)
 else if x.kind=12 then decide (x.token≥1) && decide (x.token<=2147483648)
 else decide (x.kind=10\/x.kind=11)
def mP(x:Rq):Bool:=decide (x.id≥1) && decide (x.id<=1099511627776) && oY x && decide (x=vQ x)

end Ask
end
section
namespace Cb
structure CV where
 k:Int
 n:Nat
 v:BV
 q:bZ
 ll:Nat
 cl:Nat
abbrev kx(x:CV):List Value:= [.int .i64 x.k,.int .u64 (x.n:Int),x.v.val,.slice x.q x.ll x.cl]
def iy(x:CV):(kx x).length=4:=rfl
abbrev CV.agg(x:CV):Value:=.agg (kx x).toArray
structure nV (h:aA) (D:gF) (q:bZ) (l c:Nat) (ys:List CV):Prop where
 len:l=ys.length
 row:Row h q (ys.flatMap kx)
 own:ys≠ []->∀y,aL q y->D y
 cap:l<=c
mutual
def iD (h:aA) (D:gF):Tr->CV->Prop
 | .mk k n b l,x=>(x.k=k/\x.n=n/\x.v.b=b/\x.v.ok h D)/\∃ys,nV h D x.q x.ll x.cl ys/\eZ h D l ys
def eZ (h:aA) (D:gF):List Tr->List CV->Prop
 | [], []=>True
 |t::ts,y::ys=>iD h D t y/\eZ h D ts ys
 |_,_=>False
end
variable {h a : aA} {D D' : Nat → Prop}
def nV.frame{Q:gF}{q:bZ}{l c:Nat}{b:List CV}(H:nV h D q l c b)(f:Fr Q h a)(d: ∀y,D y->¬Q y):nV a D q l c b:=by refine⟨H.len,?_,H.own,H.cap⟩;by_cases e:b= [];subst e;exact Row.nil;exact H.row.frame f (λA E=>d _ (H.own e _ ⟨A,E,rfl⟩))
def nV.mono{q:bZ}{l c:Nat}{b:List CV}(H:nV h D q l c b)(d: ∀y,D y->D' y):nV h D' q l c b:=⟨H.len,H.row,λe y f=>d y (H.own e y f),H.cap⟩
theorem nV.lt{q:bZ}{l c:Nat}{b:List CV}(H:nV h D q l c b):nV h (λy=>D y/\y<h.size) q l c b:=⟨H.len,H.row,λe y d=>⟨H.own e y d,jd H.row (by cases b with|nil=>grind|cons=>simp) d⟩,H.cap⟩
theorem NN{x:BV}(H:x.ok h D):x.ok h (λy=>D y/\y<h.size):=⟨H.row,λe y b=>⟨H.own e y b,jd H.row (by cases c:x.b with|nil=>grind|cons=>simp[bc]) b⟩,H.cap⟩
mutual
theorem iD.frame {Q:gF} (f:Fr Q h a) (hq: ∀y,D y->¬Q y): ∀ {t:Tr} {x:CV},iD h D t x->iD a D t x
 | .mk k n b l,x,H=>by unfold iD at H⊢;obtain⟨⟨h1,h2,h3,h4⟩,ys,h5,h6⟩:=H;exact⟨⟨h1,h2,h3,h4.frame f hq⟩,ys,h5.frame f hq,eZ.frame f hq h6⟩
theorem eZ.frame {Q:gF} (f:Fr Q h a) (hq: ∀y,D y->¬Q y): ∀ {ts:List Tr} {ys:List CV},eZ h D ts ys->eZ a D ts ys
 | [], [],_=>trivial
 |t::ts,y::ys,H=>by unfold eZ at H⊢;exact⟨iD.frame f hq H.1,eZ.frame f hq H.2⟩
 | [],_::_,H=>by unfold eZ at H;exact H.elim
 |_::_, [],H=>by unfold eZ at H;exact H.elim
end
mutual
theorem iD.mono (hd: ∀y,D y->D' y): ∀ {t:Tr} {x:CV},iD h D t x->iD h D' t x
 | .mk k n b l,x,H=>by unfold iD at H⊢;obtain⟨⟨h1,h2,h3,h4⟩,ys,h5,h6⟩:=H;exact⟨⟨h1,h2,h3,h4.mono hd⟩,ys,h5.mono hd,eZ.mono hd h6⟩
theorem eZ.mono (hd: ∀y,D y->D' y): ∀ {ts:List Tr} {ys:List CV},eZ h D ts ys->eZ h D' ts ys
 | [], [],_=>trivial
 |t::ts,y::ys,H=>by unfold eZ at H⊢;exact⟨iD.mono hd H.1,eZ.mono hd H.2⟩
 | [],_::_,H=>by unfold eZ at H;exact H.elim
 |_::_, [],H=>by unfold eZ at H;exact H.elim
end
mutual
theorem iD.lt: ∀ {t:Tr} {x:CV},iD h D t x->iD h (λy=>D y/\y<h.size) t x
 | .mk k n b l,x,H=>by unfold iD at H⊢;obtain⟨⟨h1,h2,h3,h4⟩,ys,h5,h6⟩:=H;exact⟨⟨h1,h2,h3,NN h4⟩,ys,h5.lt,eZ.lt h6⟩
theorem eZ.lt: ∀ {ts:List Tr} {ys:List CV},eZ h D ts ys->eZ h (λy=>D y/\y<h.size) ts ys
 | [], [],_=>trivial
 |t::ts,y::ys,H=>by unfold eZ at H⊢;exact⟨iD.lt H.1,eZ.lt H.2⟩
 | [],_::_,H=>by unfold eZ at H;exact H.elim
 |_::_, [],H=>by unfold eZ at H;exact H.elim
end
def iD.on{t:Tr}{x:CV}(H:iD h D t x)(f:Fr No h a):iD a D t x:=iD.frame f bC H
def eZ.on{t:List Tr}{y:List CV}(H:eZ h D t y)(f:Fr No h a):eZ a D t y:=eZ.frame f bC H
def eZ.len: ∀{T:List Tr}{b:List CV},eZ h D T b->T.length=b.length
 | [], [],_=>rfl
 |t::T,y::b,H=>by rw[ba,ba,eZ.len H.2]
 | [],_::_,H=>by exact H.elim
 |_::_, [],H=>by exact H.elim
theorem eZ.get: ∀{T:List Tr}{c:List CV}{i:Nat}{y:CV},eZ h D T c->c[i]? =some y->∃t,T[i]? =some t/\iD h D t y
 | [], [],_,_,_,b=>by simp at b
 |t::T,y::c,0,z,H,b=>by cases b;exact⟨t,rfl,H.1⟩
 |t::T,y::c,i+1,z,H,b=>by have⟨u,e,d⟩:=eZ.get H.2 b;exact⟨u,by grind,d⟩
 | [],_::_,_,_,H,_=>by exact H.elim
 |_::_, [],_,_,H,_=>by grind
def eZ.snoc: ∀{T:List Tr}{c:List CV}{t:Tr}{y:CV},eZ h D T c->iD h D t y->eZ h D (T++ [t]) (c++ [y])
 | [], [],_,_,_,b=>by exact⟨b,trivial⟩
 |u::T,z::c,t,y,H,b=>by exact⟨H.1,eZ.snoc H.2 b⟩
 | [],_::_,_,_,H,_=>by exact H.elim
 |_::_, [],_,_,H,_=>by exact H.elim
def eZ.take: ∀{T:List Tr}{b:List CV}(n:Nat),eZ h D T b->eZ h D (T.take n) (b.take n)
 | [], [],n,_=>by simp[eZ]
 |t::T,y::b,0,_=>by simp[eZ]
 |t::T,y::b,n+1,H=>by exact⟨H.1,eZ.take n H.2⟩
 | [],_::_,_,H=>by exact H.elim
 |_::_, [],_,H=>by exact H.elim
theorem eZ.drop: ∀{T:List Tr}{b:List CV}(n:Nat),eZ h D T b->eZ h D (T.drop n) (b.drop n)
 | [], [],n,_=>by grind
 |t::T,y::b,0,H=>H
 |t::T,y::b,n+1,H=>by exact eZ.drop n H.2
 | [],_::_,_,H=>by exact H.elim
 |_::_, [],_,H=>by exact H.elim
end Cb
end
section
variable {h:aA} {R:fp}
variable {E:fp} {r C f g b d:Nat} {c H D v n:Int} {a:Bool} {K:Option Value->aA->Prop} {B:bZ}
def EF{i:Bool}{e:Int}(j:ite (!i) (E (.iface 376 (.agg #[.I e])) h) (R (.T #[]) h)):jm Tryz.prog 323 #[.B i,.I e] h R E:=jc (lq (cq lf lf)) Mt Tryz.func323 rfl rfl (Eq.mp cZ j)
def um(X:aW h (.C #[.I 0,.U 0,.B false] 324) λl H=>aB (λ(a:bZ) (next:Int) (e:Int) P=>Ce 323 #[.B (e==0),.I e] P (λf' Q=>f'=.T #[]/\aO Q (AA r 1) (.I next) λp=>aH a λL=>bB.LD p L λc' d' e'=>bB.ST p (AA l 0) c' d' e' λq=>bB.LD q (AA l 0) λZ a' b'=>R (.agg #[.I Z,.U a',.B b']) q) E) (λJ=>Hl H r 0 λj T t=>Hi H r 1 λk=>(Cl 342 #[.L j T t,.I k] H λg' S=> ∃s w y A G,g'=.T #[.agg #[.I s,.U w,.B y],.I A,.I G]/\aW S (.C #[.I 0,.U 0,.B false] 324) λm U=>bB.ST U (AA m 0) s w y λV=>([]:List Deferred)= []/\J (Sa m 0) A G V)/\(aW H (.C #[.I 0,.U 0,.B false] 324) λo i=>Cc i r 1 (.I k)/\Cc i r 0 (.L j T t)/\Cl 342 #[.L j T t,.I k] i λh' M=> ∃u x z F I,h'=.T #[.agg #[.I u,.U x,.B z],.I F,.I I]/\bB.ST M (AA o 0) u x z λO=>([]:List Deferred)= []/\J (Sa o 0) F I O)/\True)):jm Tryz.prog 322 #[.P r 0] h R E:=jc (lq (sq (.join [(3,.one (.ptr)),(4,.one (.int .i64)),(5,.one (.int .i64))] (.ni (gB 8 0 (.alts (.fork 8 (gB 8 9 .done) (.fork 13 (.op 8 (.op 9 (.op 10 (.op 11 (.op 12 (.op 14 (.op 15 (.op 16 .done)))))))) .hO)))))) (lq (lq ll)))) Mt Tryz.func322 rfl rfl (Eq.mp cZ X)
def uo (j:aB (λ(p:Bool) H=>ite p (∃i,Cc H r 1 (.I i)/\aO H (AA r 1) (.I (wrap .i64 (i+1))) λa=>R (.B true) a) (R (.B false) H)) (λJ=>Hi h r 1 λq=> ∃l t k,Cc h r 0 (.L l t k)/\ite (decide (q<((t:Nat):Int))) (Hl h r 0 λo m _=>Hi h r 1 λT=>Bd T m/\aH o λA=> ∃e,aU h (A.add (toNat T*1))=some (.int .u8 e)/\J (e==255) h) (J false h))):Cl 343 #[.P r 0] h R:=aP [(4,.join [(25,sB)]),(4,λ_=>pN 23)] j
theorem su (Q:aW h (.C #[.I c,.U H,.B a] 324) λi H=> ∃w,Cc H i 1 (.U w)/\∃y m x,Cc H r 0 (.L y m x)/\∃o,Cc H r 1 (.I o)/\Ce 323 #[.B (decide (w<=(wrap .u64 (wrap .i64 (((m:Nat):Int) - o))))),.I 8] H (λV a=>V=.T #[]/\Cc a r 1 (.I o)/\Cc a r 0 (.L y m x)/\Cc a i 1 (.U w)/\∃p z k,Cc a r 0 (.L p z k)/\∃t,Cc a r 1 (.I t)/\∃T,Cc a r 1 (.I T)/\∃j,Cc a i 1 (.U j)/\((0:Int)<=wrap .i64 (T+(wrap .i64 j))/\wrap .i64 (T+(wrap .i64 j))<=((k:Nat):Int))/\((0:Int)<=t/\t<=wrap .i64 (T+(wrap .i64 j)))/\Cl 57 #[.slice (cE p k (toNat t) 1) ((toNat (wrap .i64 (T+(wrap .i64 j)))) - (toNat t)) (k - (toNat t))] a λS e=> ∃u s q,S=.L u s q/\Cc e i 1 (.U j)/\Cc e r 1 (.I T)/\Cc e r 1 (.I t)/\Cc e r 0 (.L p z k)/\aB (λl=> ∃G,Cc l r 1 (.I G)/\∃I,Cc l i 1 (.U I)/\aO l (AA r 1) (.I (wrap .i64 (G+(wrap .i64 I)))) λL=>R (.L u s q) L) (λJ=> ∃A,Cc e i 0 (.I A)/\ite (A !=3) (Ce 323 #[.B true,.I 3] e (λU M=>U=.T #[]/\([]:List Deferred)= []/\J M) E) (Cl 333 #[.L u s q] e λX O=> ∃F,X=.B F/\Ce 323 #[.B F,.I 3] O (λZ P=>Z=.T #[]/\([]:List Deferred)= []/\J P) E))) E):jm Tryz.prog 344 #[.P r 0,.agg #[.I c,.U H,.B a]] h R E:=jc (lq (sq (pN 15) (sq (pN 19) (sq (.join [] lf) (sq (pN 11) ll))))) Mt Tryz.func344 rfl rfl (Eq.mp cZ Q)
def qR (hv:aW h (.C #[.I c,.U H,.B a] 324) λj H=>aW H (.C #[.I 0,.U 0,.Z,.Z] 201) λk a=>Hi a j 0 λt8=>aW a (.C #[.I 0,.U 0,.Z,.Z] 201) λe f'=>aa.ST f' (AA e 0) t8 0 none 0 0 none 0 0 λm=> ∃T,Cc m j 2 (.B T)/\ite (!T) (bB.LD m (AA j 0) λx' y' z'=>Ce 344 #[.P r 0,.agg #[.I x',.U y',.B z']] m (λa1 g'=> ∃A z y,a1=.L A z y/\aO g' (AA e 2) (.L A z y) λw=>aa.LD w (AA e 0) λA' B' E' D' C' H' G' F'=>aa.ST w (AA k 0) A' B' E' D' C' H' G' F' λx=>aa.LD x (AA k 0) λh' j' p' n' l' v' t' r'=>R (.agg #[.I h',.U j',.L p' n' l',.L v' t' r']) x) E) (∃(I:dw)(M:aA->Nat),I m/\∀p,I p->Cl 343 #[.P r 0] p λa2 q=> ∃F,a2=.B F/\ite (!F) (Ce 322 #[.P r 0] q (λa3 a'=> ∃G L O,a3=.agg #[.I G,.U L,.B O]/\aW a' (.C #[.I 0,.U 0,.B false] 324) λl b'=>bB.ST b' (AA l 0) G L O λi=>aB (λo=>Hl o e 2 λU S Q=>bB.LD o (AA l 0) λK' L' M'=>Ce 344 #[.P r 0,.agg #[.I K',.U L',.B M']] o (λa4 s=>Vl a4 λQ' P' O'=>Cc s e 2 (.L U S Q)/\jE (Builtin.append_ #[32,32] 32 #[.L U S Q,.L Q' P' O']) s λa5 c'=> ∃Z X V,a5=.L Z X V/\aO c' (AA e 2) (.L Z X V) λt=>(([]:List Deferred)= []/\I t/\M t<M p)) E) (λJ=>Hi i l 0 λI'=> ∃P,Cc i j 0 (.I P)/\ite (I'==P) (Hb i l 2 λJ'=>Ce 323 #[.B (!J'),.I 3] i (λa6 d'=>a6=.T #[]/\([]:List Deferred)= []/\J d') E) (Ce 323 #[.B false,.I 3] i (λa7 e'=>a7=.T #[]/\([]:List Deferred)= []/\J e') E))) E) (aa.LD q (AA e 0) λR' S' V' U' T' a0 Z' X'=>aa.ST q (AA k 0) R' S' V' U' T' a0 Z' X' λu=>aa.LD u (AA k 0) λi' k' q' o' m' w' u' s'=>R (.agg #[.I i',.U k',.L q' o' m',.L w' u' s']) u))):jm Tryz.prog 325 #[.P r 0,.agg #[.I c,.U H,.B a]] h R E:=jc (lq (lq (sq (lq (cq (lq ll) lf)) (sq (bq (.loop [] (sq (lq (cq lf lf)) (bq (lq (sq (.join [] lf) (pN 8))))))) ll)))) Mt Tryz.func325 rfl rfl (Eq.mp cZ hv)
theorem uq (hv:aW h (.C #[.I c,.U H,.B a] 324) λl H=>aW H (.C #[.I 0,.U 0,.Z,.Z] 201) λm a=>aW a (.C #[.I 0,.U 0,.Z,.Z] 201) λe C'=>aa.ST C' (AA e 0) 4 0 none 0 0 none 0 0 λj=> ∃X,Cc j l 2 (.B X)/\ite X (∃(I:aA->Prop)(U:aA->Nat),I j/\∀y,I y->Cl 343 #[.P r 0] y λb3 o=> ∃Z,b3=.B Z/\ite (!Z) (∃q p T,Cc o e 3 (.L q p T)/\Ce 274 #[.P r 0,.I (wrap .i64 (D+1))] o (λb4 Q=> ∃a' b' e' d' c' h' g' f',b4=.agg #[.I a',.U b',.L e' d' c',.L h' g' f']/\Cc Q e 3 (.L q p T)/\aW Q (.C #[.I a',.U b',.L e' d' c',.L h' g' f'] 201) λz' S=>Cc S e 3 (.L q p T)/\jE (Builtin.append_ #[199,199] 199 #[.L q p T,.L (Sa z' 0) 1 1]) S λb5 D'=> ∃k' j' i',b5=.L k' j' i'/\aO D' (AA e 3) (.L k' j' i') λG=>(([]:List Deferred)= []/\I G/\U G<U y)) E) (aa.LD o (AA e 0) λV' X' a1 a0 Z' a4 a3 a2=>aa.ST o (AA m 0) V' X' a1 a0 Z' a4 a3 a2 λJ=>aa.LD J (AA m 0) λE' G' M' K' I' T' R' P'=>R (.agg #[.I E',.U G',.L M' K' I',.L T' R' P']) J)) (∃z,Cc j l 1 (.U z)/\∃m' A l',Cc j r 0 (.L m' A l')/\∃F,Cc j r 1 (.I F)/\Ce 323 #[.B (decide (z<=(wrap .u64 (wrap .i64 (((A:Nat):Int) - F))))),.I 8] j (λb6 k=>b6=.T #[]/\Cc k r 1 (.I F)/\Cc k r 0 (.L m' A l')/\Cc k l 1 (.U z)/\∃n',Cc k l 1 (.U n')/\∃(x:Int->aA->Prop)(V:Int->aA->Nat),x 0 k/\∀t i,x t i->ite (decide (t<n')) (∃w u s,Cc i e 3 (.L w u s)/\Ce 274 #[.P r 0,.I (wrap .i64 (D+1))] i (λb7 L=> ∃o' p' s' r' q' v' u' t',b7=.agg #[.I o',.U p',.L s' r' q',.L v' u' t']/\Cc L e 3 (.L w u s)/\aW L (.C #[.I o',.U p',.L s' r' q',.L v' u' t'] 201) λA' M=>Cc M e 3 (.L w u s)/\jE (Builtin.append_ #[199,199] 199 #[.L w u s,.L (Sa A' 0) 1 1]) M λb8 B'=> ∃y' x' w',b8=.L y' x' w'/\aO B' (AA e 3) (.L y' x' w') λO=>(([]:List Deferred)= []/\x (wrap .u64 (t+1)) O/\V (wrap .u64 (t+1)) O<V t i)) E) (aa.LD i (AA e 0) λa5 a6 a9 a8 a7 b2 b1 b0=>aa.ST i (AA m 0) a5 a6 a9 a8 a7 b2 b1 b0 λP=>aa.LD P (AA m 0) λF' H' O' L' J' U' S' Q'=>R (.agg #[.I F',.U H',.L O' L' J',.L U' S' Q']) P)) E)):jm Tryz.prog 324 #[.P r 0,.agg #[.I c,.U H,.B a],.I D] h R E:=jc (lq (lq (sq (lq (cq (sq (bq (.loop [] (sq (lq (cq lf lf)) (bq (pN 10))))) ll) lf)) (sq (pN 15) (sq (lq (bq (.loop [(41,.one (.int .u64))] (lq (sq (cq lf lf) (sq (bq (pN 10)) lf)))))) ll))))) Mt Tryz.func324 rfl rfl (Eq.mp cZ hv)
def mF (hv:aW h (.C #[.I 0,.U 0,.Z,.Z] 201) λk H=>Ce 322 #[.P r 0] H (λR' a=> ∃X Z a',R'=.agg #[.I X,.U Z,.B a']/\aW a (.C #[.I 0,.U 0,.B false] 324) λe h'=>bB.ST h' (AA e 0) X Z a' λi=>aB (λi'=>Ce 323 #[.B (decide (D<=6)),.I 9] i' (λS' o=>S'=.T #[]/\Hi o r 2 λI'=>Ce 323 #[.B (decide (I'>0)),.I 2] o (λT' p=>T'=.T #[]/\∃u,Cc p r 2 (.I u)/\aO p (AA r 2) (.I (wrap .i64 (u - 1))) λj=> ∃t,Cc j e 0 (.I t)/\ite (t==0) (Hu j e 1 λJ'=>aa.ST j (AA k 0) 0 J' none 0 0 none 0 0 λq=>aa.LD q (AA k 0) λj' m' v' s' p' E' B' y'=>R (.agg #[.I j',.U m',.L v' s' p',.L E' B' y']) q) (ite (t==4) (bB.LD j (AA e 0) λK' L' M'=>Ce 324 #[.P r 0,.agg #[.I K',.U L',.B M'],.I D] j (λU' b'=> ∃w x A z y I G F,U'=.agg #[.I w,.U x,.L A z y,.L I G F]/\aa.ST b' (AA k 0) w x A z y I G F λl=>aa.LD l (AA k 0) λk' n' w' t' q' F' C' z'=>R (.agg #[.I k',.U n',.L w' t' q',.L F' C' z']) l) E) (bB.LD j (AA e 0) λO' P' Q'=>Ce 325 #[.P r 0,.agg #[.I O',.U P',.B Q']] j (λV' c'=> ∃L M Q P O V U S,V'=.agg #[.I L,.U M,.L Q P O,.L V U S]/\aa.ST c' (AA k 0) L M Q P O V U S λm=>aa.LD m (AA k 0) λl' o' x' u' r' G' D' A'=>R (.agg #[.I l',.U o',.L x' u' r',.L G' D' A']) m) E))) E) E) (λJ=> ∃t9,Cc i e 0 (.I t9)/\ite (t9==0) (Ce 323 #[.B true,.I 3] i (λX' d'=>X'=.T #[]/\([]:List Deferred)= []/\J d') E) (∃T,Cc i e 0 (.I T)/\ite (T==2) (Ce 323 #[.B true,.I 3] i (λZ' e'=>Z'=.T #[]/\([]:List Deferred)= []/\J e') E) (∃s,Cc i e 0 (.I s)/\ite (s==3) (Ce 323 #[.B true,.I 3] i (λa0 f'=>a0=.T #[]/\([]:List Deferred)= []/\J f') E) (Hi i e 0 λH'=>Ce 323 #[.B (H'==4),.I 3] i (λa1 g'=>a1=.T #[]/\([]:List Deferred)= []/\J g') E))))) E):jm Tryz.prog 274 #[.P r 0,.I D] h R E:=jc (lq (lq (sq (.join [] lf) (lq (lq (lq (sq (lq (bq (lq (cq ll (lq (cq ll lf)))))) ll))))))) Mt Tryz.func274 rfl rfl (Eq.mp cZ hv)
def vR(i:aW h (.C #[.I 0] 376) λe H=>aO H (AA e 0) (.I 0) λa=>K none a):vp Tryz.prog 273 #[.P C 0,.P f 0,.P g 0] none h K:=vq (lq (lq (cq (pN 6) lf))) Tryz.func273 rfl rfl (Eq.mp cZ i)
def vS{k:Int}(m:aW h (.C #[.I 0] 376) λe H=>aO H (AA e 0) (.I k) λa=>Hi a e 0 λt=>aa.ST a (AA C 0) 0 0 none 0 0 none 0 0 λi=>Cc i e 0 (.I t)/\aO i (AA f 0) (.I 0) λj=>Cc j e 0 (.I t)/\aO j (AA g 0) (.I t) λl=>K none l):vp Tryz.prog 273 #[.P C 0,.P f 0,.P g 0] (some (.iface 376 (.agg #[.I k]))) h K:=vq (lq (lq (cq (pN 6) lf))) Tryz.func273 rfl rfl (Eq.mp cZ m)
def EG (X:aW h (.C #[.I 0,.U 0,.Z,.Z] 201) λe H=>aW H (.C #[.I 0] 3) λj a=>aW a (.C #[.I 0] 24) λk q=>aB (λ(z':Bool) s=>ite z' (aa.ST s (AA e 0) 0 0 none 0 0 none 0 0 λP=>aO P (AA j 0) (.I 0) λQ=>aO Q (AA k 0) (.I 1) λl=>aa.LD l (AA e 0) λZ c' l' i' f' u' r' o'=>Hi l j 0 λr1=> ∃t,Cc l k 0 (.I t)/\R (.T #[.agg #[.I Z,.U c',.L l' i' f',.L u' r' o'],.I r1,.I t]) l) (aW s (.C #[.L B b d,.I v,.I 256] 380) λm S=>Ce 274 #[.P m 0,.I 1] S (λI' U=> ∃T x A z y I G F,I'=.agg #[.I T,.U x,.L A z y,.L I G F]/\aa.ST U (AA e 0) T x A z y I G F λo=>aa.LD o (AA e 0) λA' B' E' D' C' H' G' F'=>Hi o m 1 λL=>aa.ST o (AA e 0) A' B' E' D' C' H' G' F' λp=>Cc p m 1 (.I L)/\aO p (AA j 0) (.I L) λM=>aO M (AA k 0) (.I 0) λO=>vp Tryz.prog 273 #[.P e 0,.P j 0,.P k 0] none O (QJ (λi=>aa.LD i (AA e 0) λa' d' m' j' g' v' s' p'=>Hi i j 0 λx'=> ∃u,Cc i k 0 (.I u)/\R (.T #[.agg #[.I a',.U d',.L m' j' g',.L v' s' p'],.I x',.I u]) i) E)) (λv_ V=>vp Tryz.prog 273 #[.P e 0,.P j 0,.P k 0] (some v_) V (QJ (λi=>aa.LD i (AA e 0) λb' e' n' k' h' w' t' q'=>Hi i j 0 λy'=> ∃w,Cc i k 0 (.I w)/\R (.T #[.agg #[.I b',.U e',.L n' k' h',.L w' t' q'],.I y',.I w]) i) E)))) (λJ=>ite (decide (v<0)) (([]:List Deferred)= []/\J true q) (([]:List Deferred)= []/\J (decide (v>(b:Int))) q))):jm Tryz.prog 196 #[.L B b d,.I v] h R E:=jc (lq (sq (sq (.join [(15,.one (.bool))] lf) (cq ll lf)) (lq (lq (lq (sq (pN 8) lf)))))) Mt Tryz.func196 rfl rfl (Eq.mp cZ X)
def yt(y:Cl 196 #[.L B b d,.I 0] h λV H=> ∃T j m l k q p o s u,V=.T #[.agg #[.I T,.U j,.L m l k,.L q p o],.I s,.I u]/\aW H (.C #[.I 0,.U 0,.Z,.Z] 201) λi a=>aa.ST a (AA i 0) T j m l k q p o λe=>ite (u==0) (ite (s==(b:Int)) (aa.LD e (AA i 0) λz A I G F M L J=>Cl 147 #[.Z,.agg #[.I z,.U A,.L I G F,.L M L J]] e λS w=>Vl S λQ P O=>Cl 35 #[.L Q P O,.L B b d] w λU x=> ∃t,U=.B t/\R (.B t) x) (R (.B false) e)) (R (.B false) e)):Cl 331 #[.L B b d] h R:=aP [] y
def zS{m:Int}(e:ite (decide (m≥2)) (ite (decide (m<=5)) (R (.B true) h) (R (.B (m==7)) h)) (R (.B (m==7)) h)):Cl 334 #[.I m] h R:=aP [] e
def C6 (l:aW h (.C #[.I c,.U H,.B a] 324) λe H=> ∃k,Cc H e 2 (.B k)/\ite k (bB.LD H (AA e 0) λo p q=>Hi H e 0 λs=> ∃(i:Bool),JS 324 (.agg #[.I o,.U p,.B q]) (.agg #[.I s,.U 0,.B true]) i/\ite i (Hi H e 0 λm=>Cl 334 #[.I m] H λV a=> ∃t,V=.B t/\R (.B t) a) (R (.B false) H)) (∃T,Cc H e 0 (.I T)/\ite (decide (T≥0)) (∃j,Cc H e 0 (.I j)/\R (.B (decide (j<=7))) H) (R (.B false) H))):Cl 293 #[.agg #[.I c,.U H,.B a]] h R:=aP [] l
def Be (e:ite (decide (n<24)) (R (.I 0) h) (ite (decide (n<256)) (R (.I 1) h) (ite (decide (n<65536)) (R (.I 2) h) (ite (decide (n<4294967296)) (R (.I 4) h) (R (.I 8) h))))):Cl 295 #[.U n] h R:=aP [] e
def EH (e:Cl 295 #[.U n] h λV H=> ∃t,V=.I t/\ite (t==1) (R (.int .u8 24) H) (ite (t==2) (R (.int .u8 25) H) (ite (t==4) (R (.int .u8 26) H) (ite (t==8) (R (.int .u8 27) H) (R (.int .u8 (wrap .u8 n)) H))))):Cl 294 #[.U n] h R:=aP [] e
def C7 (Q:aW h (.C #[.I c,.U H,.B a] 324) λe H=>bB.LD H (AA e 0) λX Z a'=>Cl 293 #[.agg #[.I X,.U Z,.B a']] H λb' a=> ∃z,b'=.B z/\ite (!z) (R (.T #[.Z,.I 3]) a) (∃w,Cc a e 2 (.B w)/\ite w (Hi a e 0 λS=>aW a (.C #[.int .u8 (wrap .u8 ((uY (wrap .u8 ((wrap .u8 S)*2 ^ min (toNat 5) (IntKind.bits .u8)))|||uY 31).toNat:Int))] 5) λA J=>R (.T #[.L (Sa A 0) 1 1,.I 0]) J) (Hi a e 0 λT=>Hu a e 1 λU=>Cl 294 #[.U U] a λc' s=> ∃x,c'=.int .u8 x/\Cc s e 0 (.I T)/\aW s (.C #[.int .u8 (wrap .u8 ((uY (wrap .u8 ((wrap .u8 T)*2 ^ min (toNat 5) (IntKind.bits .u8)))|||uY x).toNat:Int))] 5) λF k=>Cc k e 0 (.I T)/\Hu k e 1 λV=>Cl 295 #[.U V] k λd' L=>Vi d' λl=> ∃(I:bZ->Nat->Nat->kj)(M:bZ->Nat->Nat->kG),I (Sa F 0) 1 1 0 L/\∀j O o t i,I j O o t i->ite (decide (t<l)) (∃y,Cc i e 1 (.U y)/\if wrap .i64 (8*(wrap .i64 ((wrap .i64 (l - 1)) - t)))<0 then False else aW i (.C #[.int .u8 (wrap .u8 (Int.fdiv y (2 ^ min (toNat (wrap .i64 (8*(wrap .i64 ((wrap .i64 (l - 1)) - t))))) (IntKind.bits .u64))))] 5) λG P=>jE (Builtin.append_ #[32,32] 32 #[.L j O o,.L (Sa G 0) 1 1]) P λe' u=> ∃q p m,e'=.L q p m/\(I q p m (wrap .i64 (t+1)) u/\M q p m (wrap .i64 (t+1)) u<M j O o t i)) (R (.T #[.L j O o,.I 0]) i)))):Cl 217 #[.agg #[.I c,.U H,.B a]] h R:=aP [(18,λ_=>pN 10),(25,.loop [(4,sS),(33,sI)])] Q
def EI (U:aW h (.C #[.I 0,.U 0,.B false] 324) λe H=>aB (λ(s':Bool) a=>ite s' (bB.ST a (AA e 0) 0 0 false λx=>bB.LD x (AA e 0) λV e' l'=>R (.T #[.agg #[.I V,.U e',.B l'],.I 0,.I 1]) x) (ite (v==(b:Int)) (bB.ST a (AA e 0) 0 0 false λy=>bB.LD y (AA e 0) λX f' m'=>R (.T #[.agg #[.I X,.U f',.B m'],.I 0,.I 8]) y) (Bd v b/\aH B λL=>NC a (L.add (toNat v*1)) λt'=>aW a (.C #[.I 0,.U 0,.B false] 324) λi S=>bB.ST S (AA i 0) (wrap .i64 (Int.fdiv t' (2 ^ min (toNat 5) (IntKind.bits .u8)))) 0 false λk=>Bd v b/\aH B λO=> ∃t,aU k (O.add (toNat v*1))=some (.int .u8 t)/\ite (decide ((wrap .u8 ((uY t &&& uY 31).toNat:Int))<24)) (aO k (AA i 1) (.U (wrap .u64 (wrap .u8 ((uY t &&& uY 31).toNat:Int)))) λz=>bB.LD z (AA i 0) λu' v' w'=>bB.ST z (AA e 0) u' v' w' λA=>bB.LD A (AA e 0) λZ g' n'=>R (.T #[.agg #[.I Z,.U g',.B n'],.I (wrap .i64 (v+1)),.I 0]) A) (aB (λ(x':Bool) l=>ite x' (aO l (AA i 2) (.B true) λo=>bB.LD o (AA i 0) λz' A' B'=>bB.ST o (AA e 0) z' A' B' λp=>bB.LD p (AA e 0) λa' h' o'=>R (.T #[.agg #[.I a',.U h',.B o'],.I (wrap .i64 (v+1)),.I 0]) p) (ite (decide ((wrap .u8 ((uY t &&& uY 31).toNat:Int))>27)) (bB.ST l (AA e 0) 0 0 false λq=>bB.LD q (AA e 0) λb' i' p'=>R (.T #[.agg #[.I b',.U i',.B p'],.I 0,.I 3]) q) (if wrap .u8 ((wrap .u8 ((uY t &&& uY 31).toNat:Int)) - 24)<0 then False else ite (decide ((wrap .i64 (1*2 ^ min (toNat (wrap .u8 ((wrap .u8 ((uY t &&& uY 31).toNat:Int)) - 24))) (IntKind.bits .i64)))>(wrap .i64 ((b:Int) - (wrap .i64 (v+1)))))) (bB.ST l (AA e 0) 0 0 false λs=>bB.LD s (AA e 0) λc' j' q'=>R (.T #[.agg #[.I c',.U j',.B q'],.I 0,.I 8]) s) (∃(I:kj)(M:kG),I 0 l/\∀T j,I T j->ite (decide (T<(wrap .i64 (1*2 ^ min (toNat (wrap .u8 ((wrap .u8 ((uY t &&& uY 31).toNat:Int)) - 24))) (IntKind.bits .i64))))) (Hu j i 1 λC'=>Bd (wrap .i64 ((wrap .i64 (v+1))+T)) b/\aH B λP=> ∃G,aU j (P.add (toNat (wrap .i64 ((wrap .i64 (v+1))+T))*1))=some (.int .u8 G)/\aO j (AA i 1) (.U (wrap .u64 ((pG (wrap .u64 (C'*2 ^ min (toNat 8) (IntKind.bits .u64)))|||pG (wrap .u64 G)).toNat:Int))) λu=>(I (wrap .i64 (T+1)) u/\M (wrap .i64 (T+1)) u<M T j)) (bB.LD j (AA i 0) λD' E' F'=>bB.ST j (AA e 0) D' E' F' λw=>bB.LD w (AA e 0) λd' k' r'=>R (.T #[.agg #[.I d',.U k',.B r'],.I (wrap .i64 ((wrap .i64 (v+1))+(wrap .i64 (1*2 ^ min (toNat (wrap .u8 ((wrap .u8 ((uY t &&& uY 31).toNat:Int)) - 24))) (IntKind.bits .i64))))),.I 0]) w))))) (λm=>ite ((wrap .u8 ((uY t &&& uY 31).toNat:Int))==31) (Hi k i 0 λy'=>Cl 334 #[.I y'] k λG' Q=> ∃F,G'=.B F/\m F Q) (m false k)))))) (λJ=>ite (decide (v<0)) (J true H) (J (decide (v>(b:Int))) H))):Cl 342 #[.L B b d,.I v] h R:=aP [(5,.join [(11,sB)]),(34,.join [(49,sB)]),(62,.loop [(75,sI)]),(73,λ_=>pN 13)] U

end
section
namespace Cb
variable {h H:aA} {R E:fp} {p:bZ} {r l c:Nat} {b:cQ}
variable {pos left:Nat}
abbrev TJ(e:Int):Value:=.iface 376 (.agg #[.int .i64 e])
structure AO (h:aA) (r:Nat) (p:bZ) (c:Nat) (b:cQ) (pos left:Nat):Prop where
 cN:h[r]? =some (.cells #[.slice p b.length c,.int .i64 (pos:Int),.int .i64 (left:Int)] 380 (0,0))
 row:Row h p (bc b)
 cap:b.length<=c
 pos:pos<=b.length
 ap:b≠ []->¬aL p r
 len:b.length<=1000000
 left:left<=1000000
theorem hH{q:Bool}{e:Int}(k:q=true->R (.T #[]) h)(K:q=false->E (TJ e) h):jm Tryz.prog 323 #[.B q,.I e] h R E:=by
 refine EF ?_;cases q with
 |_=>grind
def AO.frame{Q:gF}(d:AO h r p c b pos left)(f:Fr Q h H)(i: ¬Q r)(j: ∀y,aL p y->b≠ []->¬Q y):AO H r p c b pos left:=by refine⟨f.get d.cN i,?_,d.cap,d.pos,d.ap,d.len,d.left⟩;by_cases e:b= [];subst e;exact Row.nil;exact d.row.frame f (λa g=>j _ ⟨a,g,rfl⟩ e)
def AO.on(a:AO h r p c b pos left)(f:Fr No h H):AO H r p c b pos left:=a.frame f id (λ_ _ _=>id)
def AO.set{pos' left':Nat}(d:AO h r p c b pos left)(o:pos'<=b.length)(n:left'<=1000000)(D:H[r]? =some (.C #[.L p b.length c,.I (pos':Int),.I (left':Int)] 380 (0,0)))(g:H.size=h.size)(i: ∀x,x≠r->H[x]? =h[x]?):
  AO H r p c b pos' left'/\Fr (λy=>y=r) h H:=by
 have f:=Fr.of_eq g (λc m=>i c m);refine⟨⟨D,?_,d.cap,o,d.ap,d.len,n⟩,f⟩;by_cases e:b= [];subst e;exact Row.nil;exact d.row.frame f (λa k j=>d.ap e ⟨a,k,j⟩)
theorem NO(d:AO h r p c b pos left)(K: ∀H,zO b pos=true->pos<b.length->AO H r p c b (pos+1) left->Fr (λy=>y=r) h H->R (.B true) H)(s:zO b pos=false->R (.B false) h):Cl 343 #[.P r 0] h R:=by
 have f:=d.cN;have u:=d.len;refine uo (aB.of λJ i=>⟨_,ai f,_,_,_,ai f,?_⟩);by_cases g:pos<b.length;rw[gH];obtain⟨a,rfl⟩:=d.row.some (by cases b with|nil=>grind|cons=>simp[bc]);have o:(bc b)[pos]? =some (.int .u8 ((b[pos]).toNat)):=by unfold bc;rw[aN,au g];rfl
 have C:=d.row.cell o;have n:zO b pos=decide ((b[pos]).toNat=255):=by unfold zO;rw[au g]
 generalize (b[pos]).toNat=x at C n;refine⟨_,_,_,ai f,_,ai f,ae,ar.2 ⟨_,by simp;omega,?_⟩⟩;subst i;dsimp only;split;rename_i q;refine⟨_,ai f,bf f bt λm D j k=> ?_⟩;rw[fc]at D;have⟨Q,t⟩:=d.set (pos':=pos+1) ae d.left D j k;exact K m (by grind) g Q t;grind;rw[af (λe=>g (by grind))];subst i;exact s (by unfold zO;rw[List.getElem?_eq_none ae])
theorem MB{m:Nat}(a:R (.B (zN m)) h):Cl 334 #[.I (m:Int)] h R:=by
 refine zS ?_;have e:(((m):Int)==7)=decide (m=7):=by grind
 unfold zN at a;split;grind;grind
def byte_at(e:Row h p (bc b)){i:Nat}(d:i<b.length): ∃a,p=some a/\aU h (a.add (i*1))=some (.int .u8 ((b[i]).toNat:Int)):=by obtain⟨a,rfl⟩:=e.some (by cases b with|nil=>simp at d|cons=>simp[bc]);exact⟨a,rfl,by rw[cC];exact e.cell (by unfold bc;rw[aN,au d];rfl)⟩
def YX: ∀x:Fin 256,IntKind.wrap .i64 (Int.fdiv (x.val:Int) (2 ^ min (Int.toNat 5) (IntKind.bits .u8)))=((x.val/32:Nat):Int):=cW
def WD: ∀x:Fin 256,IntKind.wrap .u8 ((BitVec.ofInt (IntKind.bits .u8) (x.val:Int) &&& BitVec.ofInt (IntKind.bits .u8) 31).toNat:Int)=((x.val%32:Nat):Int):=cW
def DH{n:Nat}(h:n<18446744073709551616):IntKind.wrap .u64 (n:Int)=(n:Int):=by
 have e:IntKind.wrap .u64 (n)=(n)%18446744073709551616:=by rfl
 omega
def VG{v y:Nat}(d:v<72057594037927936)(f:y<256):IntKind.wrap .u64 ((BitVec.ofInt (IntKind.bits .u64) (IntKind.wrap .u64 ((v:Int)*2 ^ min (Int.toNat 8) (IntKind.bits .u64)))|||BitVec.ofInt (IntKind.bits .u64) (IntKind.wrap .u64 (y:Int))).toNat:Int)=((v*256+y:Nat):Int):=by
 have e:(v)*2 ^ min (Int.toNat 8) (IntKind.bits .u64)=((v*256:Nat):Int):=by rw[show(2:Int) ^ min (Int.toNat 8) (IntKind.bits .u64)=256 from rfl];omega
 rw[e,DH (n:=v*256) ae,DH (n:=y) ae];have a:((BitVec.ofInt (IntKind.bits .u64) ((v*256:Nat))|||BitVec.ofInt (IntKind.bits .u64) ((y:Nat))).toNat)=v*256+y:=by rw[BitVec.toNat_or,BitVec.ofInt_natCast,BitVec.ofInt_natCast,BitVec.toNat_ofNat,BitVec.toNat_ofNat,show(2) ^ IntKind.bits .u64=18446744073709551616 from rfl,Nat.mod_eq_of_lt ae,Nat.mod_eq_of_lt ae];have:=Nat.two_pow_add_eq_or_of_lt (i:=8) ae v;rw[Nat.mul_comm v 256];exact this.symm
 rw[a];exact DH ae
theorem KP(hr:Row h p (bc b))(hl:l=b.length)(m':b.length<=1000000)(hp:pos<=b.length)(k1: ∀H (m n next:Nat) (o:Bool),JR b pos=.ok (m,n,o,next)->Fr No h H->R (.T #[.agg #[.I (m:Int),.U (n:Int),.B o],.I (next:Int),.I 0]) H)(k2: ∀H e,JR b pos=.error e->Fr No h H->e≠0->R (.T #[.agg #[.I 0,.U 0,.B false],.I 0,.I e]) H):Cl 342 #[.L p l c,.I (pos:Int)] h R:=by
 subst hl;refine EI (bB.box λB C eb M z=>aB.of λj' hJ=> ?_);rw[dz,aT ae];subst hJ;dsimp only;rw[dz];have zb:=aD M;have c': ∀g e,Fr No C g->JR b pos=.error e->e≠0->bB.ST g (AA B 0) 0 0 false λu=>bB.LD u (AA B 0) λS T U=>R (.T #[.agg #[.I S,.U T,.B U],.I 0,.I e]) u:=λg e F hx I=>bB.set (F.get M id) λu d k D=>bB.ld d (k2 u e hx ((z.tt F).fresh (Fr.of_eq (S:=λy=>y=B) k (λc s=>D c s)) (λy e=>ae)) I);by_cases I:pos=b.length;rw[ag (by rw[I];simp)];exact c' C 8 (Fr.refl _ _) (by unfold JR;rw[List.getElem?_eq_none ae]) cW;rw[af (λe=>I (bN (eq_of_beq e)))];have b':pos<b.length:=ae
 obtain⟨k',rfl,L⟩:=byte_at hr b';have a:JR b pos=JR b pos:=rfl;conv at a=>rhs;unfold JR;rw[au b']
 dsimp only at a;have X:=(b[pos]).toNat_lt;generalize (b[pos]).toNat=x at L a X;refine⟨ae,ar.2 ⟨_,z.cell (by rw[aK];exact L) id,bB.new λw h2 l' v A=>⟨ae,ar.2 ⟨_,(z.tt A).cell (by rw[aK];exact L) id,?_⟩⟩⟩⟩;have n':=aD v;have z2:=A.1;have z1:=z.1;rw[YX ⟨x,X⟩]at v;rw[WD ⟨x,X⟩];rw[show(⟨x,X⟩:Fin 256).val=x from rfl]at v⊢;have h':x/32<8:=ae
 generalize em:x/32=m at v a h';have d':x%32<32:=ae
 generalize x%32=f at a d'⊢;rw[dJ (n:=(pos:Int)+1) ae ae];have Q: ∀g (n next:Nat) (o:Bool),bB.at g w (m:Int) (n:Int) o->bB.at g B 0 0 false->Fr No h g->JR b pos=.ok (m,n,o,next)->
   bB.LD g (AA w 0) λt0 t1 t2=>bB.ST g (AA B 0) t0 t1 t2 λG=>bB.LD G (AA B 0) λS T U=>R (.T #[.agg #[.I S,.U T,.B U],.I (next:Int),.I 0]) G:=λg n next o q1 q2 F C=>
  bB.ld q1 (bB.set q2 λG d k D=>bB.ld d (k1 G m n next o C (F.fresh (Fr.of_eq (S:=λy=>y=B) k (λc s=>D c s)) (λy e=>ae))))
 have J:=z.tt A;have O:=A.get M id;by_cases K:f<24;rw[gH];rw[ag K]at a;refine bf v (by show 1<3;omega) λu d k D=> ?_;rw[DH ae]at d;exact Q u f (pos+1) false d ((D B ae).trans O) (J.fresh (Fr.of_eq (S:=λy=>y=w) k (λc s=>D c s)) (λy e=>ae)) a;rw[af (λe=>K (bN (bk e)))];rw[af K]at a;refine aB.of λJ1 e'=> ?_;have i': ∀q,q=decide (f=31/\zN m=true)->J1 q h2:=by
  intro q hq;subst e';dsimp only;cases q with
  |true=>rw[ag rfl];rw[ag (bk hq.symm)]at a;refine bf v (by show 2<3;omega) λu d k D=> ?_;exact Q u 0 (pos+1) true d ((D B ae).trans O) (J.fresh (Fr.of_eq (S:=λy=>y=w) k (λc s=>D c s)) (λy e=>ae)) a
  |false=>
   rw[dz];rw[af (fV hq.symm)]at a;by_cases Z:f>27;grind;rw[af (λe=>Z (bN (bk e)))];rw[af Z]at a;have e5:IntKind.wrap .u8 ((f:Int) - 24)=(f:Int) - 24:=wrap_u8 ae ae;rw[e5,dz];obtain⟨j,eN,lN,gN,eP⟩: ∃j:Nat,IntKind.wrap .i64 (1*2 ^ min (Int.toNat ((f:Int) - 24)) (IntKind.bits .i64))=(j:Int)/\j<=8/\1<=j/\2 ^ (f - 24)=j:=by
    have:f=24\/f=25\/f=26\/f=27:=ae
    rcases this with rfl|rfl|rfl|rfl;exact⟨1,cZ,ae,ae,rfl⟩;exact⟨2,cZ,ae,ae,rfl⟩;exact⟨4,cZ,ae,ae,rfl⟩;exact⟨8,cZ,ae,ae,rfl⟩
   rw[eP]at a;rw[eN,dJ (n:=(b.length:Int) - ((pos:Int)+1)) ae ae];by_cases cs:(j:Int)>(b.length:Int) - ((pos:Int)+1);grind;rw[af (λe=>cs (bk e))];rw[dz]at a;refine⟨λt g=> ∃i:Nat,t=(i:Int)/\i<=j/\bB.at g w (m:Int) (UR ((b.drop (pos+1)).take i):Int) false/\Fr (λy=>y=w) h2 g,λt _=>j - t.toNat,⟨0,rfl,bK _,by rw[fN];exact v,Fr.refl _ _⟩,?_⟩;rintro _ g ⟨i,rfl,hi,P,F⟩;have V:Fr No h g:=J.fresh F (λy e=>ae);by_cases f':i<j;rw[gH,dJ (n:=(pos:Int)+1+(i:Int)) ae ae];obtain⟨a',ea,cy⟩:=byte_at hr (i:=pos+1+i) ae;cases ea;refine⟨_,ai P,ae,ar.2 ⟨_,by rw[show Int.toNat ((pos:Int)+1+(i:Int))=pos+1+i by omega];exact V.cell cy id,?_⟩⟩;have hv:=Q2 ((b.drop (pos+1)).take i);have g':=gL (n:=256) ae (show((b.drop (pos+1)).take i).length<=7 by rw[bT];omega);rw[show(256:Nat) ^ 7=72057594037927936 from rfl]at g';refine bf P (by show 1<3;omega) λg2 d k D=> ?_;rw[VG ae (b[pos+1+i]).toNat_lt,<-KG]at d;rw[dJ (n:=(i:Int)+1) ae ae];refine⟨⟨i+1,ae,ae,?_,F.tt (Fr.of_eq k (λc s=>D c s))⟩,by grind⟩;rw[aV,fC,au ae];exact d;rw[af (λe=>f' (bN (bk e)))];obtain rfl:i=j:=ae
   rw[dJ (n:=(pos:Int)+1+(i:Int)) ae ae,show(pos:Int)+1+(i:Int)=((pos+1+i:Nat):Int) by omega];exact Q g _ (pos+1+i) false P (F.get O ae) V a
 split
 rename_i q;have q:f=31:=by have:=eq_of_beq q;omega
 refine⟨_,ai v,MB ⟨_,rfl,i' _ (by rw[q];simp)⟩⟩;grind

end Cb
end
section
namespace Cb
variable {h H:aA} {R E:fp} {p:bZ} {r c:Nat} {b:cQ} {pos left:Nat}
theorem EJ(a:AO h r p c b pos left)(V: ∀H (m n next:Nat) (o:Bool),JR b pos=.ok (m,n,o,next)->AO H r p c b next left->Fr (λy=>y=r) h H->R (.agg #[.I (m:Int),.U (n:Int),.B o]) H)(X: ∀H e,JR b pos=.error e->Fr No h H->E (TJ e) H):jm Tryz.prog 322 #[.P r 0] h R E:=by
 refine um (bB.box λP x Z L v=>aB.of λJ K=> ?_);have d:=a.on v;have zr:=aD a.cN;have zb:=aD L;have done: ∀g B (m n next:Nat) (o:Bool),bB.at g B (m) (n) o->x.size<=B->Fr No x g->JR b pos=.ok (m,n,o,next)->J (Sa B 0) (next) 0 g:=by
  intro g B m n next o t z1 f q;subst K;have z:=d.on f;refine hH (λ_=>⟨rfl,bf z.cN bt λh5 s k D=> ?_⟩) (λe=>absurd e cW);have⟨O,S⟩:=z.set ((A5 q).2.1) a.left s k D;refine ar.2 (bB.ld ((D B ae).trans t) (bB.set ((D P ae).trans (f.get L id)) λT u C Q=>bB.ld u ?_));have I:=Fr.of_eq C (λc l=>Q c l);refine V T m n next o q (O.frame I ae (λy U e i=> ?_)) ?_
  have:=jd a.row (by cases b':b with|nil=>grind|cons=>simp[bc]) U;omega;exact(Fr.no (v.tt f) S).trans I bC (λd' j e=>ae)
 have fail: ∀g B e,Fr No x g->JR b pos=.error e->e≠0->J (Sa B 0) 0 e g:=by intro g B e f j i;subst K;exact hH (λc'=>absurd (by grind) i) (λ_=>X g e j (v.tt f))
 refine⟨_,_,_,ai d.cN,_,ai d.cN,?_,?_,trivial⟩
 .refine KP d.row rfl a.len a.pos (λg m n next o q f=>⟨_,_,_,_,_,rfl,bB.new λB G u t w=>⟨rfl,done G B m n next o t (bN f.1) (f.tt w) q⟩⟩) (λg e j f i=>⟨_,_,_,_,_,rfl,bB.new λB G u t w=>⟨rfl,fail G B e (f.tt w) j i⟩⟩)
 .refine bB.box λA a' C M F=>⟨gm (d.on F).cN rfl,gm (d.on F).cN rfl,(KP (d.on F).row rfl a.len a.pos (λg m n next o q f=>⟨_,_,_,_,_,rfl,bB.set (f.get M id) λG s k D=>⟨rfl,done G A m n next o s ae ((F.tt f).fresh (Fr.of_eq k (λc l=>D c l)) (λy e=>ae)) q⟩⟩) (λg e j f i=>⟨_,_,_,_,_,rfl,bB.set (f.get M id) λG s k D=>⟨rfl,fail G A e ((F.tt f).fresh (Fr.of_eq k (λc l=>D c l)) (λy e=>ae)) j i⟩⟩))⟩

end Cb
end
section
variable {h:aA} {R:fp}
variable {w b B r:Nat} {n:Int} {a:bZ}
def nz{s:bZ}{c S:Nat}(g:ite s.isNone (R (.Z) h) (aW h (.C #[] 5) λe H=>jE (Builtin.append_ #[32,32] 32 #[.L (Sa e 0) 0 0,.L s c S]) H λv f=> ∃d T t,v=.L d T t/\R (.L d T t) f)):Cl 57 #[.L s c S] h R:=aP [] g
def C8(d:aW h (.C #[.B true,.Z] 180) λc H=>R (.P c 0) H):Cl 42 #[] h R:=aP [] d
def sw (y:aB (λ(z:Bool) d=>ite z (R (.P w 0) d) (∃(I:kj)(m:kG),I n d/\∀c H,I c H->ite (decide (c>127)) (Hl H w 1 λD C A=>aW H (.C #[.int .u8 (wrap .u8 ((uY (wrap .u8 c)|||uY 128).toNat:Int))] 5) λl p=>jE (Builtin.append_ #[32,32] 32 #[.L D C A,.L (Sa l 0) 1 1]) p λv q=> ∃g f T,v=.L g f T/\aO q (AA w 1) (.L g f T) λe=>(I (Int.fdiv c (2 ^ min (toNat 7) (IntKind.bits .u64))) e/\m (Int.fdiv c (2 ^ min (toNat 7) (IntKind.bits .u64))) e<m c H)) (Hl H w 1 λG F E=>aW H (.C #[.int .u8 (wrap .u8 c)] 5) λo s=>jE (Builtin.append_ #[32,32] 32 #[.L G F E,.L (Sa o 0) 1 1]) s λV u=> ∃k j i,V=.L k j i/\aO u (AA w 1) (.L k j i) λx=>R (.P w 0) x))) (λJ=> ∃t,Cc h w 0 (.B t)/\J (!t) h)):Cl 44 #[.P w 0,.U n] h R:=aP [(4,.join [(13,sB)]),(12,.loop [(1,sU)])] y
def sA(c:Cl 44 #[.P w 0,.U (wrap .u64 (if 0>n then 0 else n))] h λv H=> ∃t,v=.Q t/\R (.Q t) H):Cl 45 #[.P w 0,.I n] h R:=aP [] c
def qS{i:Bool}(d:ite i (Cl 44 #[.P w 0,.U 1] h λv H=> ∃t,v=.Q t/\R (.Q t) H) (Cl 44 #[.P w 0,.U 0] h λV c=> ∃T,V=.Q T/\R (.Q T) c)):Cl 77 #[.P w 0,.B i] h R:=aP [] d
def qT(k:Cl 44 #[.P w 0,.U (wrap .u64 (b:Int))] h λv c=>Vp v λ_=>aB (λ(l:Bool) H=>aB (λf=>R (.P w 0) f) (λj=>ite l (Hl H w 1 λp o m=>jE (Builtin.append_ #[32,32] 32 #[.L p o m,.L a b B]) H λV g=> ∃e d T,V=.L e d T/\aO g (AA w 1) (.L e d T) λi=>j i) (j H))) (λJ=> ∃t,Cc c w 0 (.B t)/\J t c)):Cl 43 #[.P w 0,.L a b B] h R:=aP [(6,.join [(17,sB)]),(7,.join [])] k
def qt(d:Hl h w 1 λg f e=>Cl 57 #[.L g f e] h λv H=> ∃c T t,v=.L c T t/\R (.L c T t) H):Cl 46 #[.P w 0] h R:=aP [] d
def sC{f:Nat}{e:Int}(c: ∃t,Cc h f 0 (.I t)/\ite (t==0) (aO h (AA f 0) (.I e) λH=>R (.T #[]) H) (R (.T #[]) h)):Cl 62 #[.P f 0,.I e] h R:=aP [] c
def Bf(e:Cl 57 #[.L a b B] h λv H=>Vl v λf T t=>aW H (.C #[.I 0,.B true,.L f T t] 139) λc d=>R (.P c 0) d):Cl 23 #[.L a b B] h R:=aP [] e
def qU(H: ∃T,Cc h r 1 (.B T)/\ite T (∃t,Cc h r 0 (.I t)/\R (.B (t==0)) h) (R (.B false) h)):Cl 61 #[.P r 0] h R:=aP [] H
def sD (q:aB (λl=>R (.U 0) l) (λJ=> ∃(I:Int->kj)(m:Int->kG),I 0 0 h/\∀n i e,I n i e->Cl 61 #[.P r 0] e λv H=> ∃k,v=.B k/\ite k (∃u T s,Cc H r 2 (.L u T s)/\ite (((T:Nat):Int)==0) (Cl 62 #[.P r 0,.I 8] H λV o=>V=.T #[]/\J o) (Hl H r 2 λy x _=>Bd 0 x/\aH y λA=>NC H (A.add (toNat 0*1)) λt=>Hl H r 2 λz g f=>((0:Int)<=1/\1<=(g:Int))/\aO H (AA r 2) (.L (cE z f (toNat 1) 1) (g - (toNat 1)) (f - (toNat 1))) λc=>aB (λ(C:Bool) d=>ite C (Cl 62 #[.P r 0,.I 3] d λD p=>D=.T #[]/\J p) (if wrap .i64 (7*i)<0 then False else ite ((wrap .u8 ((uY t &&& uY 128).toNat:Int))==0) (R (.U (wrap .u64 ((pG n|||pG (wrap .u64 ((wrap .u64 (wrap .u8 ((uY t &&& uY 127).toNat:Int)))*2 ^ min (toNat (wrap .i64 (7*i))) (IntKind.bits .u64)))).toNat:Int))) d) ((I (wrap .u64 ((pG n|||pG (wrap .u64 ((wrap .u64 (wrap .u8 ((uY t &&& uY 127).toNat:Int)))*2 ^ min (toNat (wrap .i64 (7*i))) (IntKind.bits .u64)))).toNat:Int)) (wrap .i64 (i+1)) d/\m (wrap .u64 ((pG n|||pG (wrap .u64 ((wrap .u64 (wrap .u8 ((uY t &&& uY 127).toNat:Int)))*2 ^ min (toNat (wrap .i64 (7*i))) (IntKind.bits .u64)))).toNat:Int)) (wrap .i64 (i+1)) d<m n i e)))) (λj=>ite (i==10) (j true c) (ite ((wrap .i64 (i*7))==63) (ite (decide (t>1)) (j true c) (ite (t==0) (j (decide (i>0)) c) (j false c))) (ite (t==0) (j (decide (i>0)) c) (j false c)))))) (J H))):Cl 26 #[.P r 0] h R:=aP [(7,.join []),(8,.loop [(3,sU),(4,sI)]),(31,.join [(52,sB)])] q
def pL{T:Int}(d:Cl 26 #[.P r 0] h λv H=> ∃t,v=.U t/\ite (decide (t>T)) (Cl 62 #[.P r 0,.I 3] H λV c=>V=.T #[]/\R (.U 0) c) (R (.U t) H)):Cl 63 #[.P r 0,.U T] h R:=aP [] d
def sE(c:Cl 63 #[.P r 0,.U 1099511627776] h λv H=> ∃t,v=.U t/\R (.I (wrap .i64 t)) H):Cl 27 #[.P r 0] h R:=aP [] c
def qV(c:Cl 63 #[.P r 0,.U 1] h λv H=> ∃t,v=.U t/\R (.B (t==1)) H):Cl 156 #[.P r 0] h R:=aP [] c
def qW (l:Cl 26 #[.P r 0] h λv i=>Vu v λt=>Cl 61 #[.P r 0] i λV H=> ∃g,V=.B g/\ite (!g) (R (.Z) H) (∃o d m,Cc H r 2 (.L o d m)/\ite (decide (t>(wrap .u64 ((d:Nat):Int)))) (Cl 62 #[.P r 0,.I 8] H λy j=>y=.T #[]/\R (.Z) j) (Hl H r 2 λp _ T=>((0:Int)<=t/\t<=(T:Int))/\Cl 57 #[.L (cE p T 0 1) ((toNat t) - 0) (T - 0)] H λz c=>Vl z λu s q=>Hl c r 2 λx f e=>((0:Int)<=t/\t<=(f:Int))/\aO c (AA r 2) (.L (cE x e (toNat t) 1) (f - (toNat t)) (e - (toNat t))) λk=>R (.L u s q) k))):Cl 25 #[.P r 0] h R:=aP [] l
def sF (e:aB (λ(i:Bool) H=>ite i (R (.I 6) H) (∃T,Cc H r 0 (.I T)/\ite (T !=0) (∃c,Cc H r 0 (.I c)/\R (.I c) H) (∃g d f,Cc H r 2 (.L g d f)/\ite (decide (((d:Nat):Int)>0)) (R (.I 2) H) (R (.I 0) H)))) (λJ=> ∃t,Cc h r 1 (.B t)/\J (!t) h)):Cl 30 #[.P r 0] h R:=aP [(5,.join [(3,sB)])] e

end
section
namespace gg
variable {h:aA} {bs:cQ} {R:fp}
variable {p:bZ} {n c:Nat}
def tU:pJ Tryz.prog 32 5 1 1 (.int .u8 0):=⟨cZ,cZ,rfl⟩
def uU:Tryz.prog.underlying 32=some (.slice 5):=cZ
def u8:Tryz.prog.underlying 5=some (.int .u8):=cZ
def uS:Tryz.prog.underlying 9=some .string:=cZ
def conv(a:Row h p (bc bs))(H:n=bs.length):pV Tryz.prog 32 9 (.L p n c) h (str bs):=Kt uU u8 uS a H
def hY(d:Row h p (bc bs))(b:n=bs.length)(e:bs.length<=70368744177664)(a: ∀P C H,Own H P bs.length C 1 (bc bs)->Fr No h H->(∀x,aL P x->h.size<=x)->R (.L P bs.length C) H):
  Cl 57 #[.L p n c] h R:=by
 subst b;exact nz (w9 tU uU cW d (by rw[ks,cC]) (vA bs) ae ae a)
def VH{C:Array Value}{K:bZ->Nat->Nat->dw}(a:C=(bc bs).toArray)(k: ∀H,Row H (Sa h.size 0) (bc bs)->Fr No h H->K (Sa h.size 0) n n H):
  aW h (.C C 5) λb e=>bM Tryz.prog (convert 32 32 (.L (Sa b 0) n n)) e λv f=> ∃(p:bZ)(l c:Nat),v=.L p l c/\K p l c f:=by
 subst a;refine cg (Tu uU u8 (a:=(AA h.size 0)) bR λd F g s o=>⟨_,_,_,rfl,?_⟩);refine k d (.inr ⟨_,rfl,dO g (λj v i=>by rw[bj];simpa using i)⟩) ⟨by rw[s];simp,λc a _=>by rw[o c (by simp;omega),dh,dz]⟩

end gg
end
section
namespace Cb
variable {V:cQ→Bool} {h d H:aA} {R E:fp} {p:bZ} {r l c:Nat} {b:cQ} {pos left:Nat}
variable {m n a i C f:Nat} {o:Bool} {deep:Int} {K:Option Value->aA->Prop}
def mG(V:kF)(d:aA):Prop:= ∀(g:aA)(p:bZ)(c:Nat)(b:cQ)(R:fp),Fr No d g->Row g p (bc b)->b.length<=1000000->b.length<=c->(∀G,Fr No g G->R (.bool (V b)) G)->Cl 333 #[.slice p b.length c] g R
theorem KQ(U:mG V d)(d':Fr No d h)(s:AO h r p c b pos left)(hn:n<18446744073709551616)(k1: ∀H (v:BV),oV V b pos m n=.ok v.b->v.ok H (λy=>h.size<=y)->v.b.length=n->pos+n<=b.length->AO H r p c b (pos+n) left->Fr (λy=>y=r) h H->R v.val H)(Q: ∀H e,oV V b pos m n=.error e->Fr No h H->E (TJ e) H):jm Tryz.prog 344 #[.P r 0,.agg #[.I (m:Int),.U (n:Int),.B o]] h R E:=by
 refine su (bB.box λe' M eb q t=> ?_);have j:=s.on t;have zr:=aD s.cN;have zb:=aD q;have hp:=s.pos;have g':=s.len;have f':=s.cap;refine⟨_,ai q,_,_,_,ai j.cN,_,ai j.cN,?_⟩;rw[dJ (n:=(b.length:Int) - (pos:Int)) ae ae,vx];refine hH (λw=> ?_) (λw=>Q M 8 (by have:=fV w;unfold oV;rw[dz]) t);have w:pos+n<=b.length:=by grind
 have G:(b.take (pos+n)).drop pos=(b.drop pos).take n:=by rw[List.take_drop]
 have u:IntKind.wrap .i64 ((pos:Int)+(IntKind.wrap .i64 (n:Int)))=((pos+n:Nat):Int):=by rw[dJ (n:=(n:Int)) ae ae,fc];omega
 refine⟨rfl,ai j.cN,ai j.cN,ai q,_,_,_,ai j.cN,_,ai j.cN,_,ai j.cN,_,ai q,⟨by rw[u];omega,by rw[u];omega⟩,⟨ae,by rw[u];omega⟩,?_⟩;rw[u];have c':Row M (cE p c (Int.toNat (pos:Int)) 1) (bc ((b.take (pos+n)).drop pos)):=by have:=j.row.sub (cap:=c) (l:=pos) (u:=pos+n) (sz:=1) ae ae;rw[cC,cC]at this;rw[aK];unfold bc at this⊢;rw[List.map_drop,List.map_take];exact this
 have L:((b.take (pos+n)).drop pos).length=n:=by grind
 refine gg.hY c' (by rw[L];omega) (by rw[L];omega) λS B A O F g3=>⟨_,_,_,rfl,ai (F.get q id),gm (j.on F).cN rfl,gm (j.on F).cN rfl,gm (j.on F).cN rfl,aB.of λJ hJ=>⟨_,ai (F.get q id),?_⟩⟩;have done: ∀g,Fr No A g->(m≠3\/V ((b.drop pos).take n)=true)->J g:=by intro g k x;subst hJ;have z:=(j.on F).on k;have a':=(F.tt k).get q id;refine⟨_,ai z.cN,_,ai a',bf z.cN (by show 1<3;omega) λh5 D X Z=> ?_⟩;rw[u]at D;obtain⟨T,I⟩:=z.set (pos':=pos+n) w s.left D X Z;have ov:=(O.frame k bC).frame I (λy P e=>by grind);refine k1 h5 ⟨S,B,(b.take (pos+n)).drop pos⟩ (by unfold oV;rw[gH,ag x];exact bV _ G.symm) (BV.jK ov (λy P=>gM (g3 y P) t.1)) L w T (Fr.no (t.tt (F.tt k)) I)
 split
 .rename_i b';exact hH (λ_=>⟨rfl,rfl,done A (Fr.refl _ _) (.inl λe=>by grind)⟩) (λe=>absurd e cW)
 .rename_i b';have m3:m=3:=by
   grind
  refine U A S B _ _ (d'.tt (t.tt F)) O.hT (by rw[L];omega) O.le λg k=>⟨_,rfl,?_⟩;rw[G];exact hH (λx=>⟨rfl,rfl,done g k (.inr x)⟩) (λx=>Q g 3 (by unfold oV;rw[gH,af (λe=>e.elim (λe=>e m3) (λe=>by grind))]) (t.tt (F.tt k)))
def zT(g:aA)(r:Nat):Nat:=match aU g ⟨r,1,none⟩with
 |some (.int _ z)=>z.toNat
 |_=>0
def AO.zT(e:AO h r p c b pos left):zT h r=pos:=by unfold Cb.zT;rw[show aU h (AA r 1)=some (.I (pos))from ai e.cN];exact aK _
def HK{D:gF}{v:BV}{m:Int}(g:v.ok h D):iD h D (.mk m 0 v.b []) ⟨m,0,v,none,0,0⟩:=by exact⟨⟨rfl,rfl,rfl,g⟩, [],⟨rfl,Row.nil,λe=>absurd rfl e,bu _⟩,by trivial⟩
theorem O7(U:mG V d)(D':Fr No d h)(hr:d.size<=r)(a':AO h r p c b pos left)(hn:n<18446744073709551616)(k1: ∀H (x:CV) (e':cQ) (next:Nat),I3 V b pos m n o=.ok (e',next)->iD H (λy=>h.size<=y) (.mk m 0 e' []) x->AO H r p c b next left->Fr (λy=>y=r) h H->R x.agg H)(X: ∀H e,I3 V b pos m n o=.error e->Fr (λy=>y=r) h H->E (TJ e) H):jm Tryz.prog 325 #[.P r 0,.agg #[.I (m:Int),.U (n:Int),.B o]] h R E:=by
 refine qR (bB.box λe' h1 eb hb f1=>aa.box λb1 h2 b4 x' P=>⟨_,ai (P.get hb id),aa.new λB t b5 j' Q=>⟨_,ai ((P.tt Q).get hb id),?_⟩⟩);have zr:=aD a'.cN;have zb:=aD hb;have c7:=aD x';have c8:=aD j';have z1:=f1.1;have z2:=P.1;have z4:=Q.1;have A:=f1.tt (P.tt Q);have H4:=a'.on A;have z':=(P.tt Q).get hb id;have y':=Q.get x' id;have b9:=a'.len;have M: ∀y,aL p y->b≠ []->y<h.size:=λy j e=>jd a'.row (by cases O':b with|nil=>exact absurd O' e|cons=>simp[bc]) j;have u': ∀g (v:BV) (next:Nat),aa.at g B m 0 v.p v.b.length v.c none 0 0->aa.at g b1 0 0 none 0 0 none 0 0->v.ok g (λy=>t.size<=y)->I3 V b pos m n o=.ok (v.b,next)->AO g r p c b next left->Fr (λy=>y=r\/y=B) t g->
   aa.LD g (AA B 0) λt0 t1 a7 a6 a5 b0 a9 a8=>aa.ST g (AA b1 0) t0 t1 a7 a6 a5 b0 a9 a8 λT=>aa.LD T (AA b1 0) λr0 r1 Z' X' V' a4 a3 a0=>R (.agg #[.I r0,.U r1,.L Z' X' V',.L a4 a3 a0]) T:=by
  intro g v next q2 q1 qv ql qr qf;refine aa.ld q2 (aa.set q1 λT O D G=>aa.ld O ?_);have f7:Fr (λy=>y=b1) g T:=Fr.of_eq D (λc z=>G c z);refine k1 T ⟨m,0,v,none,0,0⟩ v.b next ql (HK ((qv.frame f7 (λy j e=>ae)).mono (λy j=>ae))) (qr.frame f7 ae (λy j e L=>bN (M y j e))) ?_;exact((Fr.no A qf).trans f7 (S'':=λy=>y=r) (λx hx e=>ae) (λx hx e=>ae))
 cases o with
 |false=>rw[gH];refine bB.ld z' (KQ U (D'.tt A) H4 hn (λh5 v pv T' a le H5 S=>⟨_,_,_,rfl,?_⟩) (λh5 e pe S=>X h5 e (by simp only[I3,pe]) ((A.tt S).mono λ_ _=>False.elim)));have L':=S.get j' ae;refine bf L' (by show 2<4;omega) λh6 O D G=> ?_;have f6:Fr (λy=>y=B) h5 h6:=Fr.of_eq D (λc z=>G c z);refine u' h6 v (pos+n) O (f6.get (S.get y' ae) ae) (T'.frame f6 (λy j e=>ae)) (by simp only[I3,pv]) (H5.frame f6 ae (λy j e L=>bN (M y j e))) (S.trans f6 (λ_ _=> .inl) (λ_ _=> .inr))
 |true=>
  rw[dz];refine⟨λg=> ∃(k next:Nat)(v:BV),(b.length+1<=k+next/\KH V b m k next v.b=I3 V b pos m n true)/\aa.at g B m 0 v.p v.b.length v.c none 0 0/\Own g v.p v.b.length v.c 1 (bc v.b)/\(∀y,aL v.p y->t.size<=y)/\AO g r p c b next left/\Fr (λy=>y=r\/y=B) t g/\v.b.length<=next,λg=>b.length+1 - zT g r,
   ⟨b.length+1,pos,⟨none,0, []⟩,⟨ae,rfl⟩,j',.nil rfl rfl rfl rfl,(λy ⟨b2,e,_⟩=>by cases e),H4,Fr.refl _ _,bK _⟩,?_⟩
  rintro g ⟨k,next,v,⟨b8,q⟩,g2,ov,nv,Hg,J,hv⟩;have c1:=Hg.pos;have K':=J.get y' ae;have M':=J.get z' ae;obtain⟨k,rfl⟩: ∃k',k=k'+1:=⟨k - 1,ae⟩;refine NO Hg (λh9 L c0 H9 f9=>⟨_,rfl,?_⟩) (λL=>⟨_,rfl,?_⟩);all_goals unfold KH at q;simp only[L,bJ,az,aY]at q
  .rw[dz];exact u' h9 v (next+1) (f9.get g2 ae) (f9.get K' ae) (BV.jK (ov.frame f9 (λy j e=>bN (nv y j))) nv) q.symm H9 (J.trans f9 bC (λ_ _=> .inl))
  .rw[gH];refine EJ Hg (λv' m' n' B' o' hh F' u=>⟨_,_,_,rfl,bB.new λb3 s b6 l' I=>aB.of λH' hJ=>⟨_,ai l',_,ai (I.get (u.get M' ae) id),?_⟩⟩) (λv' e hh u=>X v' e (by rw[<-q,hh]) ?_)
   .obtain⟨c3,c2,Q',_⟩:=A5 hh;rw[hh]at q;dsimp only at q;have G':=F'.on I;have t':Fr (λy=>y=r\/y=B) t s:=(J.trans u bC (λ_ _=> .inl)).on I;have zg:=J.1;have c4:=u.1;have g':aa.at s B m 0 v.p v.b.length v.c none 0 0:=I.get (u.get g2 ae) id;have R':=(ov.frame u (λy j e=>bN (nv y j))).frame I bC;have Z:Fr (λy=>y=r) h s:=(Fr.no A t').mono (λx hx e=>ae);have I':Fr No d s:=D'.fresh Z (λy e=>ae);have done: ∀g3,Fr No s g3->(m'=m/\o'=false)->H' g3:=by
     intro g3 F P';rw[ag P']at q;subst hJ;refine⟨_,_,_,ai (F.get g' id),bB.ld (F.get l' id) (KQ U (I'.tt F) (G'.on F) Q' (λh' E' pw U' lw le s' w=>⟨_,_,_,rfl,ai (w.get (F.get g' id) ae),?_⟩) (λh' e pe w=>X h' e (by rw[<-q,pe]) (Z.on (F.tt w))))⟩;have S':=(R'.frame F bC).frame w (λy j e=>bN (nv y j));have a:v.b.length<=1000000:=ae
     refine dI gg.tU gg.uU S' U'.row (by rw[ks,cC]) (vA E'.b) ae ae ?_;intro p' c' w' C' _ b' b7;rw[<-lQ]at C';have c5:=I.1;have z3:=F.1;have c6:=w.1;refine⟨_,_,_,rfl,bf (b'.get (w.get (F.get g' id) ae) (λj=>bN (nv _ j))) (by show 2<4;omega) λi' O D G=>⟨rfl,?_,?_⟩⟩;have f':Fr (λy=>y=B) w' i':=Fr.of_eq D (λc z=>G c z);have A': ∀y,aL p' y->t.size<=y:=λy j=>by grind
     have d':=s'.frame b' (λj=>bN (nv _ j)) (λy j e q'=>gM (nv _ q') (M y j e));rw[pw]at q;refine⟨k,B'+n',⟨p',c',v.b++E'.b⟩,⟨ae,q⟩,by rw[aq];exact O,by rw[aq];exact C'.frame f' (λy j e=>bN (A' y j)),A',d'.frame f' ae (λy j e L=>bN (M y j e)),?_,by rw[aq];omega⟩;have a1:Fr (λy=>y=r\/y=B) t h':=(t'.on F).trans w bC (λ_ _=> .inl);have a2:Fr (λy=>y=r\/y=B) t w':=a1.trans b' bC (λx hx j=>bN (nv x j));exact a2.trans f' bC (λ_ _=> .inr);have J':zT i' r=B'+n':=by have d':=s'.frame b' (λj=>bN (nv _ j)) (λy j e q'=>gM (nv _ q') (M y j e));exact(d'.frame (Fr.of_eq (S:=λy=>y=B) D (λc z=>G c z)) ae (λy j e L=>bN (M y j e))).zT
     show b.length+1 - zT i' r<b.length+1 - zT g r;rw[J',Hg.zT];omega
    split
    .rename_i r';have em:m'=m:=by have:=eq_of_beq r';omega
     refine⟨_,ai l',hH (λho=>⟨rfl,rfl,done s (Fr.refl _ _) ⟨em,by cases o' with|true=>cases ho|false=>rfl⟩⟩) (λho=>X s 3 (by grind) Z)⟩
    rename_i r';exact hH (λe=>absurd e cW) (λ_=>X s 3 (by rw[<-q,af (λe=>r' (by rw[e.1];simp))]) Z)
   exact((Fr.no A J).on u).mono (λx hx e=>ae)
def tI:pJ Tryz.prog 199 201 4 64 (.agg #[.I 0,.U 0,.Z,.Z]):=⟨cZ,cZ,rfl⟩
def uI:Tryz.prog.underlying 199=some (.slice 201):=cZ
def qX(x:CV): ∀v∈kx x,gk v=true:=by intro v e;simp only[bG,gX,or_false]at e;rcases e with rfl|rfl|rfl|rfl<;>rfl
def iZ: ∀(t:List Tr),9*t.length<=dS t
 | []=>bK _
 | .mk k n B l::t=>by have:=iZ t;simp only[dS,room,ba];omega
def MC(V:kF)(d:aA)(r:Nat)(p:bZ)(c:Nat)(b:cQ)(a:Nat):Prop:= ∀(h:aA)(pos left:Nat)(R E:fp),Fr No d h->AO h r p c b pos left->
 (∀H (t:Tr) (x:CV) (next L:Nat),iI V b a pos left=.ok (t,next,L)->iD H (λy=>h.size<=y) t x->AO H r p c b next L->Fr (λy=>y=r) h H->R x.agg H)->
 (∀H e,iI V b a pos left=.error e->Fr (λy=>y=r) h H->E (TJ e) H)->jm Tryz.prog 274 #[.pointer (some ⟨r,0,none⟩),.int .i64 (7 - (a:Int))] h R E
structure VI (h4 g:aA) (r b2:Nat) (p:bZ) (c:Nat) (b:cQ) (pos next left:Nat) (ts:List Tr) (ys:List CV) (q:bZ) (cl:Nat):Prop where
 cN:aa.at g b2 4 0 none 0 0 q ys.length cl
 own:Own g q ys.length cl 4 (ys.flatMap kx)
 ge: ∀y,aL q y->h4.size<=y
 tr:eZ g (λy=>h4.size<=y/\¬aL q y) ts ys
 room:dS ts<=10*(next - pos)
 le:pos<=next
 rd:AO g r p c b next left
 fr:Fr (λy=>y=r\/y=b2) h4 g
theorem Ri{k g:aA}{B next:Nat}{U:List Tr}{w:List CV}{q:bZ}{cl:Nat}{Φ:dw}(IH:MC V d r p c b a)(u4:Fr No d k)(D':d.size<=r)(r4:r<k.size)(b4:B<k.size)(rb:r≠B)(b0:d.size<=B)(hd:deep=6 - (a:Int))(C':a<=6)(v': ∀y,aL p y->b≠ []->y<k.size/\y≠B)(L:VI k g r B p c b pos next left U w q cl)(hk: ∀X P c' t y' Q O,iI V b a next left=.ok (t,P,c')->VI k X r B p c b pos P c' (U++ [t]) y' Q O->next<P->Φ X)(kE: ∀H e,iI V b a next left=.error e->Fr (λy=>y=r\/y=B) k H->E (TJ e) H):
  ∃(J:bZ)(I G:Nat),aU g (AA B 3)=some (.L J I G)/\
  Ce 274 #[.P r 0,.I (IntKind.wrap .i64 (deep+1))] g (λw' a'=>
  ∃(e' f':Int)(i':bZ)(h' g':Nat)(l':bZ)(k' j':Nat),w'=.agg #[.I e',.U f',.L i' h' g',.L l' k' j']/\
  aU a' (AA B 3)=some (.L J I G)/\
  aW a' (.C #[.I e',.U f',.L i' h' g',.L l' k' j'] 201) λp' b'=>
  aU b' (AA B 3)=some (.L J I G)/\
  bM Tryz.prog (Builtin.append_ #[199,199] 199 #[.L J I G,.L (Sa p' 0) 1 1]) b' λx' r'=>
  ∃(o':bZ)(n' m':Nat),x'=.L o' n' m'/\
  aO r' (AA B 3) (.L o' n' m') λq'=>Φ q') E:=by
 have zg:=L.fr.1;have B':=L.rd.len;have hp:=L.rd.pos;have A':=L.le;have ll:w.length<=2000000:=by have h1:=iZ U;have h2:=L.room;have h3:=L.tr.len;omega
 refine⟨_,_,_,ai L.cN,?_⟩;rw[dJ (n:=deep+1) ae ae];rw[show deep+1=7 - (a:Int) by omega];refine IH g next left _ E (u4.fresh L.fr (λy e=>ae)) L.rd (λA t x u' t' D tx H7 s=> ?_) (λA e D s=>kE A e D (L.fr.trans s bC (λ_ _=> .inl)));obtain⟨rx,lx,_,_⟩:=KI a _ _ _ _ _ L.rd.pos D;have z7:=s.1;have M:=s.get L.cN ae;refine⟨_,_,_,_,_,_,_,_,rfl,ai M,aa.box λb3 h8 z' s' F=>⟨ai (F.get M id),?_⟩⟩;have z8:=F.1;have o8:=(L.own.frame s (λy j e=>bN (L.ge y j))).frame F bC;have q7: ∀y,aL q y->y<g.size:=λy j=>L.own.dk j
 refine dI tI uI o8 (ds:=kx x) (.inr ⟨_,rfl,aa.held s'⟩) rfl (qX x) ae ae λQ O h9 o9 _ u g9=>⟨_,_,_,rfl,?_⟩;have z9:=u.1;have S: ∀y,aL q y->k.size<=y:=L.ge;have b9:=u.get (F.get M id) (λj=>bN (S _ j));refine bf b9 (by show 3<4;omega) λZ d1 d2 d3=> ?_;have z:Fr (λy=>y=B) h9 Z:=Fr.of_eq d2 (λc hc=>d3 c hc);have d': ∀y,aL Q y->k.size<=y:=λy j=>by grind
 have ef:w.flatMap kx++kx x=(w++ [x]).flatMap kx:=bt
 have H9:=(H7.on F).frame u (λj=>bN (S _ j)) (λy j e v=>by grind);refine hk Z u' t' t (w++ [x]) Q O D ⟨?_,?_,d',?_,?_,ae,H9.frame z ae (λy j e he=>(v' y j e).2 he),?_⟩ lx;rw[aq];exact d1;rw[aq,<-ef];exact o9.frame z (λy j e=>bN (d' y j));have t1:=((L.tr.lt.frame s (λy j e=>ae)).frame F bC).frame u (λy j v=>j.1.2 v);have T:=tx.lt.mono (D':=λy=>g.size<=y/\y<A.size) (λ_=>id);have T:=(T.on F).mono (D':=λy=>g.size<=y/\y<A.size) (λ_=>id);have T:=iD.frame u (λy j v=>bN (q7 y v)) T;have m1:=eZ.mono (D':=λy=>k.size<=y/\¬aL Q y) (λy j=>⟨j.1.1,λv=>by grind⟩) t1;have m2:=iD.mono (D':=λy=>k.size<=y/\¬aL Q y) (λy j=>⟨ae,λv=>by grind⟩) T;exact eZ.frame z (λy j e=>ae) (m1.snoc m2);rw[jr];have:=L.room;simp only[dS];omega;have a1:=(L.fr.trans s (S'':=λy=>y=r\/y=B) bC (λ_ _=> .inl)).on F;have a2:=a1.trans u (S'':=λy=>y=r\/y=B) bC (λx hx j=>bN (S x j));exact a2.trans z bC (λ_ _=> .inr)
theorem TK(IH:MC V d r p c b a)(j':Fr No d h)(hr:d.size<=r)(D:AO h r p c b pos left)(hd:deep=6 - (a:Int))(o':a<=6)(hn:n<18446744073709551616)(k1: ∀H (T:List Tr) (x:CV) (next j:Nat),qc b (iI V b a) pos left n o=.ok (T,next,j)->iD H (λy=>h.size<=y) (.mk 4 0 [] T) x->AO H r p c b next j->Fr (λy=>y=r) h H->R x.agg H)(kE: ∀H e,qc b (iI V b a) pos left n o=.error e->Fr (λy=>y=r) h H->E (TJ e) H):jm Tryz.prog 324 #[.P r 0,.agg #[.I (m:Int),.U (n:Int),.B o],.I deep] h R E:=by
 refine uq (bB.box λI' h1 eb hb f1=>aa.box λX h2 J' e' P=>aa.new λB z K' f' J=>⟨_,ai ((P.tt J).get hb id),?_⟩);have zr:=aD D.cN;have zb:=aD hb;have Q':=aD e';have G':=aD f';have z0:=j'.1;have z1:=f1.1;have z2:=P.1;have z4:=J.1;have O:=f1.tt (P.tt J);have F:=D.on O;have a':=(P.tt J).get hb id;have m':=J.get e' id;have M':=D.len;have P':=D.pos;have y': ∀y,aL p y->b≠ []->y<z.size/\y≠B:=λy w e=>by have:=jd D.row (by cases b':b with|nil=>exact absurd b' e|cons=>simp[bc]) w;omega
 have i': ∀g e,qc b (iI V b a) pos left n o=.error e->Fr (λy=>y=r\/y=B) z g->E (TJ e) g:=λg e A Z=>kE g e A ((Fr.no O Z).mono (λx A q=>ae));have d': ∀g next j T u q v,VI z g r B p c b pos next j T u q v->qc b (iI V b a) pos left n o=.ok (T,next,j)->
   aa.LD g (AA B 0) λt0 t1 B' A' z' E' D' C'=>aa.ST g (AA X 0) t0 t1 B' A' z' E' D' C' λM=>aa.LD M (AA X 0) λr0 r1 u' t' s' x' w' v'=>R (.agg #[.I r0,.U r1,.L u' t' s',.L x' w' v']) M:=by
  intro g next j T u q v L A;refine aa.ld L.cN (aa.set (L.fr.get m' ae) λM d1 d2 d3=>aa.ld d1 ?_);have S:Fr (λy=>y=X) g M:=Fr.of_eq d2 (λc hc=>d3 c hc);have o7:=L.own.frame S (λy w e=>bN (L.ge y w));have t7:=eZ.frame S (λy w e=>ae) L.tr;refine k1 M T ⟨4,0,⟨none,0, []⟩,q,u.length,v⟩ next j A ?_ (L.rd.frame S ae (λy w e he=>bN (jd D.row (by cases b':b with|nil=>exact absurd b' e|cons=>simp[bc]) w))) ?_
  unfold iD;exact⟨⟨rfl,rfl,rfl,⟨Row.nil,λe=>absurd rfl e,bu _⟩⟩,u,⟨rfl,o7.hT,λ_ y w=>bN (L.ge y w),o7.le⟩,eZ.mono (λy w=>ae) t7⟩;exact((Fr.no O L.fr).trans S (S'':=λy=>y=r) (λx A e=>ae) (λx A e=>ae))
 have L0:VI z z r B p c b pos pos left [] [] none 0:=⟨f',.nil rfl rfl rfl rfl,(λy ⟨H',e,_⟩=>by cases e),by unfold eZ;trivial,by simp[dS],bu _,F,Fr.refl _ _⟩;have step:=fun {g next j T u q v} {Φ:dw} (L:VI z g r B p c b pos next j T u q v) hk (hE: ∀e,iI V b a next j=.error e->qc b (iI V b a) pos left n o=.error e)=>Ri (V:=V) (Φ:=Φ) (E:=E) (deep:=deep) IH (j'.tt O) hr ae G' ae ae hd o' y' L hk (λg e A Z=>i' g e (hE e A) Z);cases o with
 |true=>
  rw[ag rfl];refine⟨λg=> ∃k next j T u q v,(b.length+1<=k+next/\CL b (iI V b a) k next j T=qc b (iI V b a) pos left n true)/\VI z g r B p c b pos next j T u q v,λg=>b.length+1 - zT g r,⟨_,_,_,_,_,_,_,⟨ae,rfl⟩,L0⟩,?_⟩;rintro g ⟨k,next,j,T,u,q,v,⟨L',s⟩,L⟩;have O':=L.rd.pos;obtain⟨k,rfl⟩: ∃k',k=k'+1:=⟨k - 1,ae⟩;refine NO L.rd (λh6 he h' H6 Q=>⟨_,rfl,?_⟩) (λhe=>⟨_,rfl,?_⟩);all_goals unfold CL at s;simp only[he,bJ,az,aY]at s
  .rw[dz];have t6:=eZ.frame Q (λy w e=>ae) L.tr;refine d' h6 (next+1) j T u q v ⟨Q.get L.cN ae,L.own.frame Q (λy w e=>bN (L.ge y w)),L.ge,t6,gM L.room L.le,bN L.le,H6,L.fr.trans Q bC (λ_ _=> .inl)⟩ s.symm
  rw[gH];refine step L (λg' r' p' t F' q' l' U G h'=>⟨rfl,⟨k,_,_,_,_,_,_,⟨ae,by rw[U]at s;exact s⟩,G⟩,?_⟩) (λe U=>by rw[<-s,U]);show b.length+1 - zT g' r<b.length+1 - zT g r;rw[G.rd.zT,L.rd.zT];have:=G.rd.pos;omega
 |false=>
  rw[dz];refine⟨_,ai a',_,_,_,ai F.cN,_,ai F.cN,?_⟩;rw[dJ (n:=(b.length:Int) - (pos:Int)) ae ae,vx];refine hH (λhq=> ?_) (λhq=>i' z 8 (by have:=fV hq;unfold qc;dsimp only;rw[dz]) (Fr.refl _ _));have hq:pos+n<=b.length:=by grind
  refine⟨rfl,ai F.cN,ai F.cN,ai a',_,ai a',?_⟩;have e0:qc b (iI V b a) pos left n false=zP (iI V b a) n pos left []:=by unfold qc;dsimp only;rw[gH]
  refine⟨λt g=> ∃I next j T u q v,t=((I:Nat):Int)/\I<=n/\zP (iI V b a) (n - I) next j T=qc b (iI V b a) pos left n false/\VI z g r B p c b pos next j T u q v,λt _=>n - t.toNat,⟨0,_,_,_,_,_,_,rfl,bK _,e0.symm,L0⟩,?_⟩;rintro _ g ⟨I,next,j,T,u,q,v,rfl,U,s,L⟩;by_cases n':I<n;rw[gH];rw[show n - I=(n - (I+1))+1 by omega]at s;unfold zP at s;refine step L (λg' r' p' t F' q' l' c' G h'=>⟨rfl,?_,?_⟩) (λe c'=>by rw[<-s,c']);rw[wrap_u64 (n:=(I:Int)+1) ae ae];exact⟨I+1,_,_,_,_,_,_,ae,ae,by rw[c']at s;exact s,G⟩;rw[wrap_u64 (n:=(I:Int)+1) ae ae];show n - Int.toNat ((I:Int)+1)<n - Int.toNat (I:Int);omega
  .rw[af (λe=>n' (bN (bk e)))];rw[show n - I=0 by omega]at s;exact d' g next j T u q v L s.symm
theorem Rj(U:mG V d)(hr:d.size<=r): ∀a,a<=6->MC V d r p c b a:=by
 intro a;induction a with
 |zero=>
  intro _ h pos left R E i' A k1 v;refine mF (aa.box λI h1 eb hb F=>EJ (A.on F) (λJ m n next o u O t=>⟨_,_,_,rfl,bB.new λb1 s l' k G=>aB.of λc' hJ=> ?_⟩) (λJ e u t=>v J e (by unfold iI;rw[u]) ((F.tt t).mono λ_ _=>False.elim)));have z1:=F.1;have zr:=aD A.cN;have z:Fr (λy=>y=r) h s:=(Fr.no F t).on G;have done:(m=0\/m=2\/m=3\/m=4)->c' s:=by intro hm;subst hJ;exact hH (λg'=>absurd g' cW) (λ_=>v s 9 (by unfold iI;rw[u];dsimp only;rw[ag hm]) z)
  refine⟨_,ai k,?_⟩;split
  .rename_i q;exact hH (λ_=>⟨rfl,rfl,done (.inl (by grind))⟩) (λe=>absurd e cW)
  rename_i q0;refine⟨_,ai k,?_⟩;split
  .rename_i q;exact hH (λ_=>⟨rfl,rfl,done (.inr (.inl (bN (eq_of_beq q))))⟩) (λe=>absurd e cW)
  rename_i q2;refine⟨_,ai k,?_⟩;split
  .rename_i q;exact hH (λ_=>⟨rfl,rfl,done (.inr (.inr (.inl (bN (eq_of_beq q)))))⟩) (λe=>absurd e cW)
  rename_i q3;refine⟨_,ai k,?_⟩;refine hH (λq=>⟨rfl,rfl,done (.inr (.inr (.inr (bN (eq_of_beq q)))))⟩) (λq=>v s 3 (by unfold iI;rw[u];dsimp only;rw[af];rintro(rfl|rfl|rfl|rfl)<;>first|exact q0 rfl|exact q2 rfl|exact q3 rfl|grind) z)
 |succ a IH=>
  intro y' h pos left R E i' A k1 v;have IH:=IH ae;have zr:=aD A.cN;refine mF (aa.box λI h1 eb hb F=>EJ (A.on F) (λJ m n next o u O t=>⟨_,_,_,rfl,bB.new λb1 s l' k G=>aB.of λc' hJ=> ?_⟩) (λJ e u t=>v J e (by unfold iI;rw[u]) ((F.tt t).mono λ_ _=>False.elim)));obtain⟨x',_,hn,_⟩:=A5 u;have j:iI V b (a+1) pos left=iI V b (a+1) pos left:=rfl;conv at j=>rhs;unfold iI;rw[u]
  dsimp only at j;have zb:=aD hb;have z':=aD k;have z1:=F.1;have z2:=t.1;have z4:=G.1;have hp:=A.pos;have o':=O.pos;have w':=O.left;have z:Fr (λy=>y=r) h s:=(Fr.no F t).on G;have U4:Fr No d s:=i'.fresh z (λy e=>ae);have P:=O.on G;have m':=G.get (t.get hb ae) id;have p': ∀y,aL p y->b≠ []->y<h.size:=λy B e=>jd A.row (by cases n':b with|nil=>exact absurd n' e|cons=>simp[bc]) B;have h': ∀g (b':Tr) (x:CV) w L,aa.at g I 0 0 none 0 0 none 0 0->iD g (λy=>h1.size<=y) b' x->iI V b (a+1) pos left=.ok (b',w,L)->AO g r p c b w L->Fr (λy=>y=r) h g->
    aa.ST g (AA I 0) x.k (x.n:Int) x.v.p x.v.b.length x.v.c x.q x.ll x.cl λM=>aa.LD M (AA I 0) λr0 r1 s' r' q' v' u' t'=>R (.agg #[.I r0,.U r1,.L s' r' q',.L v' u' t']) M:=by
   intro g b' x w L gb T rx Hg fg;refine aa.set gb λM Q d2 d3=>aa.ld Q ?_;have f9:Fr (λy=>y=I) g M:=Fr.of_eq d2 (λc hc=>d3 c hc);exact k1 M b' x w L rx (iD.mono (λy B=>ae) (iD.frame f9 (λy B e=>ae) T)) (Hg.frame f9 ae (λy B e he=>bN (p' y B e))) (fg.trans f9 bC (λx hx e=>ae))
  have done:(m=0\/m=2\/m=3\/m=4)->c' s:=by
   intro hm;rw[ag hm]at j;subst hJ;refine hH (λ_=>⟨rfl,_,ai P.cN,hH (λhl=>⟨rfl,_,ai P.cN,bf P.cN (by show 2<3;omega) λh8 Q d2 d3=> ?_⟩) (λhl=>v s 2 (by grind) z)⟩) (λg'=>absurd (fV g') ae);have hl:=bk hl;rw[dz]at j;rw[dJ (n:=(left:Int) - 1) ae ae,show(left:Int) - 1=((left - 1:Nat):Int) by omega]at Q;obtain⟨H8,Z⟩:=P.set (pos':=next) (left':=left - 1) o' ae Q d2 d3;have a':=Z.get k ae;have f':=Z.get m' ae;have D:Fr (λy=>y=r) h h8:=z.tt Z;have U8:Fr No d h8:=i'.fresh D (λy e=>ae);have z8:=Z.1;refine⟨_,ai a',?_⟩;split
   .rename_i q;rw[ag (bN (eq_of_beq q))]at j;refine⟨_,ai a',?_⟩;refine h' h8 (.mk 0 n [] []) ⟨0,n,⟨none,0, []⟩,none,0,0⟩ next (left - 1) f' ?_ j H8 D;unfold iD;exact⟨⟨rfl,rfl,rfl,⟨Row.nil,λe=>absurd rfl e,bu _⟩⟩, [],⟨rfl,Row.nil,λe=>absurd rfl e,bu _⟩,by unfold eZ;trivial⟩
   rename_i q0;rw[af (λe=>q0 (by rw[e];rfl))]at j;split;rename_i q;have m4:m=4:=by have:=eq_of_beq q;omega
   rw[ag m4]at j;refine bB.ld a' (TK IH U8 hr H8 ae ae hn (λd' ts x w L hL T j' S=>⟨_,_,_,_,_,_,_,_,rfl,?_⟩) (λd' e hL S=>v d' e (by rw[j,hL]) (D.tt S)));exact h' d' (.mk 4 0 [] ts) x w L (S.get f' ae) (iD.mono (λy B=>ae) T) (by rw[j,hL]) j' (D.tt S);rename_i q;rw[af (λe=>q (by rw[e];rfl))]at j;refine bB.ld a' (O7 U U8 hr H8 hn (λe' x sb w hS T k' X=>⟨_,_,_,_,_,_,_,_,rfl,?_⟩) (λe' e hS X=>v e' e (by rw[j,hS]) (D.tt X)));exact h' e' (.mk m 0 sb []) x w (left - 1) (X.get f' ae) (iD.mono (λy B=>ae) T) (by rw[j,hS]) k' (D.tt X)
  refine⟨_,ai k,?_⟩;split
  .rename_i q;exact hH (λ_=>⟨rfl,rfl,done (.inl (bN (eq_of_beq q)))⟩) (λe=>absurd e cW)
  rename_i q0;refine⟨_,ai k,?_⟩;split
  .rename_i q;exact hH (λ_=>⟨rfl,rfl,done (.inr (.inl (bN (eq_of_beq q))))⟩) (λe=>absurd e cW)
  rename_i q2;refine⟨_,ai k,?_⟩;split
  .rename_i q;exact hH (λ_=>⟨rfl,rfl,done (.inr (.inr (.inl (bN (eq_of_beq q)))))⟩) (λe=>absurd e cW)
  rename_i q3;refine⟨_,ai k,?_⟩;refine hH (λq=>⟨rfl,rfl,done (.inr (.inr (.inr (bN (eq_of_beq q)))))⟩) (λq=>v s 3 (by grind) z)
def O8(e: ∀H,Fr No h H->K none H):vp Tryz.prog 273 #[.P i 0,.P C 0,.P f 0] none h K:=by refine vR (cg (kH cW (e _ (Fr.push _ _))))
def O9{e M G:Int}{Q X:bZ}{P O U T:Nat}{n0 L:Int}(d:aa.at h i M G Q P O X U T)(u:h[C]? =some (.C #[.I n0] 3 (0,0)))(Z:h[f]? =some (.C #[.I L] 24 (0,0)))(b':i≠C)(c':i≠f)(d':C≠f)(hk: ∀H,aa.at H i 0 0 none 0 0 none 0 0->H[C]? =some (.C #[.I 0] 3 (0,0))->H[f]? =some (.C #[.I e] 24 (0,0))->Fr (λy=>y=i\/y=C\/y=f) h H->K none H):
  vp Tryz.prog 273 #[.P i 0,.P C 0,.P f 0] (some (TJ e)) h K:=by
 refine vS (cg (kH cW ?_));have g:Fr No h (h.push (.C (#[Value.I 0].setIfInBounds 0 (.I e)) 376 (0,0))):=Fr.push _ _;have s:(h.push (.C (#[Value.I 0].setIfInBounds 0 (.I e)) 376 (0,0)))[h.size]? =some (.C #[.I e] 376 (0,0)):=bR;have z0:=aD d;have z1:=aD u;generalize h.push (.C (#[Value.I 0].setIfInBounds 0 (.I e)) 376 (0,0))=a' at g s⊢;refine⟨_,ai s,aa.set (g.get d id) λG D I J=> ?_⟩;have F:=Fr.of_eq I (λc j=>J c j);refine⟨ai (F.get s ae),bf (F.get (g.get u id) ae) bt λg2 A v w=> ?_⟩;have k:=Fr.of_eq v (λc j=>w c j);refine⟨ai (k.get (F.get s ae) ae),bf (k.get (F.get (g.get Z id) ae) ae) (by show 0<1;omega) λS B x z=> ?_⟩;have t:=Fr.of_eq x (λc j=>z c j);exact hk S (t.get (k.get D ae) ae) (t.get A ae) B (((Fr.no g F).trans k (S'':=λy=>y=i\/y=C) (λ_ _=> .inl) (λ_ _=> .inr)).trans t (λe' _ q=>q.imp id .inl) (λ_ _ q=> .inr (.inr q)))
theorem zU(U:mG V h)(f':Row h p (bc b))(hl:l=b.length)(cap:b.length<=c)(h':b.length<=1000000)(k1: ∀H (t:Tr) (x:CV) (next:Nat),od V b=.ok (t,next)->iD H (λy=>h.size<=y) t x->Fr No h H->R (.T #[x.agg,.I (next:Int),.I 0]) H)(k2: ∀H e,od V b=.error e->Fr No h H->R (.T #[CV.agg ⟨0,0,⟨none,0, []⟩,none,0,0⟩,.I 0,.I e]) H):
  Cl 196 #[.L p l c,.I 0] h R:=by
 subst hl;refine jm.YS (EG (aa.box λj' k eb hb f1=>cg (cg ?_)));have zb:=aD hb;have z1:=f1.1;have f2:Fr No k (k.push (.C #[.I 0] 3)):=Fr.push _ _;have A:(k.push (.C #[.I 0] 3))[k.size]? =some (.C #[.I 0] 3 (0,0)):=bR;generalize k.push (.C #[.I 0] 3)=q at f2 A⊢;have M:Fr No q (q.push (.C #[.I 0] 24)):=Fr.push _ _;have B:(q.push (.C #[.I 0] 24))[q.size]? =some (.C #[.I 0] 24 (0,0)):=bR;have z2:=aD A;generalize q.push (.C #[.I 0] 24)=s at M B⊢;have z3:=aD B;have⟨X,a'⟩: ∃X,X=k.size:=⟨_,rfl⟩;have⟨Z,b'⟩: ∃Z,Z=q.size:=⟨_,rfl⟩;rw[<-a']at A;rw[<-b']at B;rw[<-a',<-b'];refine aB.of λi' hJ=>⟨rfl,?_⟩;subst hJ;dsimp only;refine cg ?_;have v:Fr No s (s.push (.C #[.L p b.length c,.I 0,.I 256] 380)):=Fr.push _ _;have J:(s.push (.C #[.L p b.length c,.I 0,.I 256] 380))[s.size]? =some (.C #[.L p b.length c,.I 0,.I 256] 380 (0,0)):=bR;generalize s.push (.C #[.L p b.length c,.I 0,.I 256] 380)=h4 at v J⊢;have⟨L,c'⟩: ∃L,L=s.size:=⟨_,rfl⟩;rw[<-c']at J;rw[<-c'];have P:=(f2.tt M).tt v;have z:=f1.tt P;have o': ∀y,aL p y->b≠ []->y<h.size:=λy g e=>jd f' (by cases n':b with|nil=>grind|cons=>simp[bc]) g;have H4:AO h4 L p c b 0 256:=⟨J,f'.frame z bC,cap,bK _,λe g=>by grind,h',ae⟩;have e':=P.get hb id;have S:=(M.tt v).get A id;have T:=v.get B id;refine Rj U ae 6 (bu _) h4 0 256 _ _ z H4 (λh9 t x next p' O tx H9 F=> ?_) (λh9 e O F=> ?_)
 .refine⟨_,_,_,_,_,_,_,_,rfl,aa.set (F.get e' ae) λd' d1 d2 d3=>aa.ld d1 ?_⟩;have G:=Fr.of_eq d2 (λc j=>d3 c j);have Q:=H9.frame G ae (λy g e he=>by grind);refine⟨_,ai Q.cN,aa.set d1 λk' e1 e2 e3=> ?_⟩;have w:=Fr.of_eq e2 (λc j=>e3 c j);refine⟨ai (w.get Q.cN ae),bf (w.get (G.get (F.get S ae) ae) ae) (by show 0<1;omega) λl' C f c3=> ?_⟩;have D:=Fr.of_eq f (λc j=>c3 c j);refine bf (D.get (w.get (G.get (F.get T ae) ae) ae) ae) bt λm' m1 m2 m3=> ?_;have I:=Fr.of_eq m2 (λc j=>m3 c j);refine O8 λg' u=>aa.ld (u.get (I.get (D.get e1 ae) ae) id) ⟨_,ai (u.get (I.get C ae) id),_,ai (u.get m1 id),?_⟩;have z4:=v.1;refine k1 g' t x next (by unfold od;rw[O]) (iD.mono (λy g=>ae) (iD.frame u bC (iD.frame I (λy g e=>ae) (iD.frame D (λy g e=>ae) (iD.frame w (λy g e=>ae) (iD.frame G (λy g e=>ae) tx)))))) (((((((z.fresh F (λy e=>ae)).fresh G (λy e=>ae)).fresh w (λy e=>ae)).fresh D (λy e=>ae)).fresh I (λy e=>ae)).tt u))
 refine O9 (F.get e' ae) (F.get S ae) (F.get T ae) ae ae ae λd' q1 q2 q3 G=>aa.ld q1 ⟨_,ai q2,_,ai q3,(k2 d' e (by unfold od;rw[O]) ((z.fresh F (λy e=>ae)).fresh G (λy e=>ae)))⟩

end Cb
end
end Go.Proofs.YtelbcloplcdchaaGreatDoor
