/-
  EI is proved here: parts of w5 proof, one behind w5 other (texts of this work, merged by a program; Iy w5 theorem Iz not use is left out). No condition.
-/
import Derived.Recover
import Derived.Test.YtlenamcfacpheaaGreatDoorProg
import Derived.Shelf.Strings.Cut
import Derived.Shelf.Strconv.Itoa4
import Derived.Ground.NamesProg
import Derived.Shelf.Small.Wraps
import Derived.Test.YtlenamcfacpheaaGreatDoorMAsesa
set_option maxRecDepth 100000
set_option maxHeartbeats 4000000
set_option linter.unusedSectionVars false
namespace Go.Den
section
variable {P : Program} {α : Type} [DecidableEq α]
structure Am (P:Program) (kt:TypeId) (enc:α->Value):Prop where
 eq: ∀(a b:α) (h:ai),rd P (Op.equal kt (enc a) (enc b)) h=some (decide (a=b))
 RA: ∀(e:Bool) (a:α) (h:ai),rd P (Instr.checkKey e 10000 kt (enc a)) h=some ()
 now: ∃d,P.underlying kt=some d/\∀a b,Instr.sameNow d (enc a) (enc b)=none\/Instr.sameNow d (enc a) (enc b)=some (decide (a=b))
 bits: ∀a,Instr.sameBits 10000 (enc a) (enc a)=true
abbrev oz(enc:α->Value)(t:α×Value×Nat):MapEntry:=⟨enc t.1,t.2.1,t.2.2⟩
abbrev pr(t:α×Value×Nat):α×Value:=(t.1,t.2.1)
structure RB (h:ai) (m:Nat) (enc:α->Value) (T:List (α×Value×Nat)) (clock:Nat):Prop where
 cR:h[m]? =some (.map (T.map (oz enc)).toArray clock)
 keys:(T.map (·.1)).Nodup
 wU: ∀t∈T,t.2.2<clock
 born:(T.map (·.2.2)).Nodup
def iR(h:ai)(m:Nat)(enc:α->Value)(l:List (α×Value)):Prop:= ∃T c,RB h m enc T c/\(T.map pr).Perm l
def uh(l:List (α×Value))(k:α):List (α×Value):=l.filter (λe=> !decide (e.1=k))
def Db(l:List (α×Value))(k:α)(v:Value):List (α×Value):=(k,v)::uh l k
theorem iR.perm{h:ai}{m:Nat}{enc:α->Value}{l L:List (α×Value)}(H:iR h m enc l)(p:l.Perm L):iR h m enc L:=by
 obtain⟨T,c,a,b⟩:=H;exact⟨T,c,a,b.trans p⟩
theorem iR.lu{h h':ai}{m:Nat}{enc:α->Value}{l:List (α×Value)}(H:iR h m enc l)(g:h'[m]? =h[m]?):iR h' m enc l:=by
 obtain⟨T,c,⟨a,b,d,e⟩,f⟩:=H;exact⟨T,c,⟨g.trans a,b,d,e⟩,f⟩
theorem iR.lt{h:ai}{m:Nat}{enc:α->Value}{l:List (α×Value)}(H:iR h m enc l):m<h.size:=by
 obtain⟨T,c,a,_⟩:=H;exact aF a.cR
theorem iR.frame{S:Nat->Prop}{h h':ai}{m:Nat}{enc:α->Value}{l:List (α×Value)}(H:iR h m enc l)(a:Fr S h h')(b: ¬S m):iR h' m enc l:=H.lu (a.2 m H.lt b)
theorem iR.push(h:ai)(enc:α->Value):iR (h.push (.map #[] 0)) h.size enc []:=⟨[],0,⟨bT,bM,bM,bM⟩,.refl _⟩
theorem iR.nodup{h:ai}{m:Nat}{enc:α->Value}{l:List (α×Value)}(H:iR h m enc l):(l.map (·.1)).Nodup:=by
 obtain⟨T,c,b,d⟩:=H;have a:=d.map (·.1);rw[dH]at a;exact a.nodup_iff.1 b.keys
def lF(k:α):List (α×Value×Nat)->Nat->Option (Nat×Value)
 | [],_=>none
 |t::T,i=>if k=t.1 then some (i,t.2.1)else lF k T (i+1)
theorem nR{k:α}: ∀{T:List (α×Value×Nat)}{i:Nat},lF k T i=none->∀t∈T,t.1≠k
 | [],_,_,_,ht=>by cases ht
 |u::T,i,h,t,ht=>by
  unfold lF at h;split at h
  .cases h
  .rename_i H;rcases bD.1 ht with rfl|ht
   .exact λe=>H e.symm
   .exact nR h t ht
theorem nT{k:α}: ∀{T:List (α×Value×Nat)}{i j:Nat}{v:Value},lF k T i=some (j,v)->∃A B b,T=A++(k,v,b)::B/\j=i+A.length
 | [],_,_,_,h=>by cases h
 |u::T,i,j,v,h=>by
  unfold lF at h;split at h
  .rename_i H;simp only[bw,fS]at h;obtain⟨rfl,rfl⟩:=h;subst H;exact⟨[],T,u.2.2,rfl,rfl⟩
  .obtain⟨A,B,b,rfl,rfl⟩:=nT h;exact⟨u::A,B,b,rfl,by rw[ba];omega⟩
theorem vJ{kt:TypeId}{enc:α->Value}{d:TypeDesc}(hd: ∀a b,Instr.sameNow d (enc a) (enc b)=none\/Instr.sameNow d (enc a) (enc b)=some (decide (a=b)))(k:α):
  ∀(T:List (α×Value×Nat))(i:Nat),Instr.findNow d (enc k) (T.map (oz enc)) i=none\/Instr.findNow d (enc k) (T.map (oz enc)) i=some (lF k T i)
 | [],i=> .inr rfl
 |t::T,i=>by
  rw[bV];unfold Instr.findNow lF;rcases hd k t.1 with e|e<;>rw[e]
  .exact .inl rfl
  .by_cases hk:k=t.1
   .rw[aq hk,af hk];exact .inr rfl
   .rw[az hk,ag hk];exact vJ (kt:=kt) hd k T (i+1)
theorem An{kt:TypeId}{enc:α->Value}(K:Am P kt enc)(k:α)(h:ai): ∀(T:List (α×Value×Nat))(i:Nat),rd P (Instr.findAsking kt (enc k) (T.map (oz enc)) i) h=some (lF k T i)
 | [],i=>rfl
 |t::T,i=>by
  rw[bV];unfold Instr.findAsking lF;rw[bm _ _ _ _ (K.eq k t.1 h)];by_cases hk:k=t.1
  .rw[aq hk,af hk,af rfl];rfl
  .rw[az hk,ag hk,ag bM];exact An K k h T (i+1)
theorem Bv{kt:TypeId}{enc:α->Value}(K:Am P kt enc)(k:α)(h:ai)(T:List (α×Value×Nat)):rd P (Instr.findKey kt (enc k) (T.map (oz enc))) h=some (lF k T 0):=by
 obtain⟨d,H,a⟩:=K.now;unfold Instr.findKey;rw[bm _ _ _ _ (bu H)];rcases vJ (kt:=kt) a k T 0 with e|e<;>rw[e]
 .exact An K k h T 0
 .rfl
structure mS (P:Program) (t:TypeId) (enc:α->Value) (z:Value):Prop where
 ty: ∃k e,P.underlying t=some (.map k e)/\Am P k enc/\∃i,P.info? e=some i/\i.zero=some z
theorem mS.of{t:TypeId}{enc:α->Value}{z:Value}(k e:TypeId)(a:P.underlying t=some (.map k e))(b:Am P k enc)(h:(P.info? e).bind (·.zero)=some z):mS P t enc z:=by
 cases H:P.info? e with
 |none=>rw[H]at h;cases h
 |some i=>exact⟨k,e,a,b,i,H,by rw[H]at h;exact h⟩
def qE(l:List (α×Value))(k:α):Option Value:=(l.find? (λe=>decide (e.1=k))).map (·.2)
theorem Ao{l:List (α×Value)}{k:α}:qE l k=none↔ ∀e∈l,e.1≠k:=by
 unfold qE;rw[Option.map_eq_none_iff,List.find?_eq_none];simp
theorem Ap{l:List (α×Value)}{k:α}{v:Value}(H:(l.map (·.1)).Nodup):qE l k=some v↔(k,v)∈l:=by
 induction l with
 |nil=>simp[qE]
 |cons e l i=>
  rw[bV,en]at H;unfold qE at i⊢;rw[List.find?_cons];by_cases h:e.1=k
  .rw[aq h];simp only[cO,bw,bD];constructor
   .rintro rfl;exact .inl (by rw[<-h])
   .rintro(rfl|hm)
    .rfl
    .exact absurd (br (f:=(·.1)) hm) (by rw[<-h];exact H.1)
  .rw[az h];rw[i H.2,bD];constructor
   .exact .inr
   .rintro(rfl|hm)
    .exact absurd rfl h
    .exact hm
theorem iR.find{h:ai}{m:Nat}{enc:α->Value}{l:List (α×Value)}(H:iR h m enc l){T:List (α×Value×Nat)}(a:(T.map pr).Perm l)(k:α):(lF k T 0).map (·.2)=qE l k:=by
 have c:=H.nodup;cases e:lF k T 0 with
 |none=>
  symm
  rw[Option.map_none,Ao];intro x f;obtain⟨t,d,rfl⟩:=bg.1 (a.mem_iff.2 f);exact nR e t d
 |some J=>
  obtain⟨j,v⟩:=J;obtain⟨A,B,b,rfl,_⟩:=nT e;symm
  rw[cO,Ap c];exact a.mem_iff.1 bM
theorem OY{t:TypeId}{enc:α->Value}{z:Value}(K:mS P t enc z){h:ai}{m:Nat}{l:List (α×Value)}(H:iR h m enc l)(k:α)(ok:Bool):
  rd P (Instr.lookup t (.map (some m)) (enc k) ok) h=some (if ok then .tuple #[(qE l k).getD z,.bool (qE l k).isSome]else(qE l k).getD z):=by
 obtain⟨kt,e,f,hk,i,b,g⟩:=K.ty;have a:=H;obtain⟨T,c,H,d⟩:=H;rw[<-a.find d k];unfold Instr.lookup;rw[bm _ _ _ _ (bu f)];simp only;rw[bm _ _ _ _ (iE H.cR)];simp only;rw[bm _ _ _ _ (iJ _),bm _ _ _ _ (hk.RA _ k h),bm _ _ _ _ (Bv hk k h T)];cases j:lF k T 0 with
 |none=>
  simp only;rw[bm _ _ _ _ (iq b g)];cases ok<;>rfl
 |some J=>cases ok<;>rfl
theorem GU{t:TypeId}{enc:α->Value}{z:Value}(K:mS P t enc z){h:ai}{m:Nat}{l:List (α×Value)}(H:iR h m enc l)(k:α):gP P t (.map (some m)) (enc k) false h ((qE l k).getD z):=λh' a=>by
 have:=OY K (H.lu (h':=h') a) k false;simpa using this
theorem IS{t:TypeId}{enc:α->Value}{z:Value}(K:mS P t enc z){h:ai}{m:Nat}{l:List (α×Value)}(H:iR h m enc l)(k:α):gP P t (.map (some m)) (enc k) true h (.tuple #[(qE l k).getD z,.bool (qE l k).isSome]):=λh' a=>by
 have:=OY K (H.lu (h':=h') a) k true;simpa using this
theorem ES{t ty:TypeId}{enc:α->Value}{z:Value}(K:mS P t enc z){h:ai}{m:Nat}{l:List (α×Value)}(H:iR h m enc l):Nj P #[t] ty (.map (some m)) h (.I (l.length:Int)):=λh' f=>by
 obtain⟨kt,e,g,_⟩:=K.ty;obtain⟨T,c,H,d⟩:=H;have a:h'[m]? =some (.map (T.map (oz enc)).toArray c):=Eq.trans f H.cR;have b:T.length=l.length:=by rw[<-d.length_eq,aJ]
 unfold Builtin.len_;show rd P (underlying t>>=_) h'=_;rw[bm _ _ _ _ (bu g)];show rd P (getObj m>>=_) h'=_;rw[bm _ _ _ _ (iE a)];show some (goInt _)=_;simp[b,goInt]
theorem ET{b:Type}(A B:List b)(t:b)(f:b->b):(A++t::B).modify A.length f=A++f t::B:=by
 induction A with
 |nil=>rfl
 |cons a A i=>simp only[dB,ba,List.modify_succ_cons,i]
theorem IT{b:Type}(A B:List b)(t:b):(A++t::B).eraseIdx A.length=A++B:=by
 induction A with
 |nil=>rfl
 |cons a A i=>simp only[dB,ba,List.eraseIdx_cons_succ,i]
theorem Aq{l L:List (α×Value)}(p:l.Perm L)(k:α):(uh l k).Perm (uh L k):=p.filter _
theorem Dc{A B:List (α×Value×Nat)}{k:α}{v:Value}{b:Nat}(c:((A++(k,v,b)::B).map (·.1)).Nodup):uh ((A++(k,v,b)::B).map pr) k=(A++B).map pr:=by
 rw[bf,bV,dX]at c;obtain⟨_,a,d⟩:=c;rw[en]at a;unfold uh;rw[bf,bV,fh,bU,ag bM,bf];congr 1
 .rw[cb];intro e h;obtain⟨t,H,rfl⟩:=bg.1 h;have:=d t.1 (br H) k bM;simp[this]
 .rw[cb];intro e h;obtain⟨t,H,rfl⟩:=bg.1 h;have:t.1≠k:=λe=>a.1 (bg.2 ⟨t,H,e⟩)
  simp[this]
theorem qj{l:List (α×Value)}{k:α}(H: ∀e∈l,e.1≠k):uh l k=l:=by
 unfold uh;rw[cb];intro e h;simp[H e h]
theorem xz{t:TypeId}{enc:α->Value}{z:Value}(K:mS P t enc z){h:ai}{m:Nat}{l:List (α×Value)}(H:iR h m enc l){k:α}{v:Value}{Q:Unit->ai->Prop}(hk: ∀h',iR h' m enc (Db l k v)->h'.size=h.size->(∀c,c≠m->h'[c]? =h[c]?)->Q () h'):aV P (Instr.mapUpdate t (.map (some m)) (enc k) v) h Q:=by
 obtain⟨kt,e,ht,o,_⟩:=K.ty;obtain⟨T,c,H,p⟩:=H;have I:=aF H.cR;unfold Instr.mapUpdate;refine bK (bu ht) ?_;simp only;refine bK (iE H.cR) ?_;simp only;refine bK (o.RA _ k h) ?_;have fin: ∀(d:List (α×Value×Nat))(E:Array MapEntry)(C:Nat),E.toList=d.map (oz enc)->(d.map (·.1)).Nodup->(∀t∈d,t.2.2<C)->(d.map (·.2.2)).Nodup->(d.map pr).Perm (Db l k v)->aV P (setObj m (.map E C)) h Q:=λd E C w y D F G=>by
  refine⟨⟨_,H.cR,λc e f n=>by cases n⟩,?_⟩;refine hk _ ⟨d,C,⟨?_,y,D,F⟩,G⟩ bM (λx L=> ?_)
  .rw[<-w];simp[I]
  .rw[ct,ag (e6 L)]
 refine bK (Bv o k h T) ?_;cases q:lF k T 0 with
 |none=>
  simp only;have s:=nR q;refine fin (T++ [(k,v,c)]) _ _ bM ?_ ?_ ?_ ?_
  .rw[bf,dX];refine⟨H.keys,bM,λa i b g=> ?_⟩;obtain⟨t,ht,rfl⟩:=bg.1 i;simp at g;subst g;exact s t ht
  .intro t ht;rcases bJ.1 ht with ht|ht
   .exact Nat.lt_succ_of_lt (H.wU t ht)
   .obtain rfl:=bH.1 ht;exact Nat.lt_succ_self _
  .rw[bf,dX];refine⟨H.born,bM,λa i b g=> ?_⟩;obtain⟨t,ht,rfl⟩:=bg.1 i;simp at g;subst g;exact Nat.ne_of_lt (H.wU t ht)
  .unfold Db;rw[qj (λe n=>by obtain⟨t,ht,rfl⟩:=bg.1 (p.mem_iff.2 n);exact s t ht),bf];exact(List.perm_append_comm.trans (.refl _)).trans (List.Perm.cons _ p)
 |some M=>
  obtain⟨j,u⟩:=M;obtain⟨A,B,b,rfl,r⟩:=nT q;rw[bE]at r;subst r;simp only;have J:rd P (Instr.keyThatStays (((((A++(k,u,b)::B).map (oz enc)).toArray[A.length]?).map (·.key)).getD (enc k)) (enc k)) h=some (enc k):=by
   have:((A++(k,u,b)::B).map (oz enc)).toArray[A.length]? =some (oz enc (k,u,b)):=bM
   rw[this];simp only[cO,Option.getD_some];unfold Instr.keyThatStays;rw[af (o.bits k)];rfl
  refine bK J ?_;refine fin (A++(k,v,b)::B) _ _ ?_ ?_ ?_ ?_ ?_
  .rw[Array.toList_modify,bf,bV];have:=ET (A.map (oz enc)) (B.map (oz enc)) (oz enc (k,u,b)) (λe=> { e with key:=enc k,val:=v });rw[aJ]at this;rw[this,bf,bV]
  .have:=H.keys;simpa using this
  .intro t ht;rcases bJ.1 ht with ht|ht
   .exact H.wU t (dI _ ht)
   .rcases bD.1 ht with rfl|ht
    .exact H.wU (k,u,b) bM
    .exact H.wU t (by simp[ht])
  .have:=H.born;simpa using this
  .unfold Db;refine List.Perm.trans ?_ (List.Perm.cons _ ((Dc H.keys▸Aq p k)));rw[bf,bV,bf];exact List.perm_middle
theorem Dd{t L ty:TypeId}{enc:α->Value}{z:Value}(K:mS P t enc z){h:ai}{m:Nat}{l:List (α×Value)}(H:iR h m enc l){k:α}{Q:fx}(hk: ∀h',iR h' m enc (uh l k)->h'.size=h.size->(∀c,c≠m->h'[c]? =h[c]?)->Q (.tuple #[]) h'):aV P (Builtin.delete_ #[t,L] ty #[.map (some m),enc k]) h Q:=by
 obtain⟨kt,e,d,r,_⟩:=K.ty;obtain⟨T,c,H,n⟩:=H;have F:=aF H.cR;unfold Builtin.delete_;refine bK (bu d) ?_;show aV P (do
   let __x<-getObj m
   match __x with
    |Obj.map es C=>do
     Instr.checkKey es.isEmpty 10000 kt (enc k)
     let __do_lift<-Instr.findKey kt (enc k) es.toList
     match __do_lift with
      |some (i,_)=>do
       setObj m (Obj.map (es.eraseIdxIfInBounds i) C)
       pure (Value.tuple #[])
      |none=>do
       setObj m (Obj.map es C)
       pure (Value.tuple #[])
    |_=>do
     stuck "delete: map expected"
     pure (Value.tuple #[])) h Q
 refine bK (iE H.cR) ?_;simp only;refine bK (r.RA _ k h) ?_;have fin: ∀(a:List (α×Value×Nat))(E:Array MapEntry),E.toList=a.map (oz enc)->(a.map (·.1)).Nodup->(∀t∈a,t.2.2<c)->(a.map (·.2.2)).Nodup->(a.map pr).Perm (uh l k)->aV P (do setObj m (.map E c);pure (Value.tuple #[])) h Q:=λa E s v w y D=>by
  rw[dw];refine⟨⟨_,H.cR,λc e f g=>by cases g⟩,?_⟩;refine hk _ ⟨a,c,⟨?_,v,w,y⟩,D⟩ bM (λx I=> ?_)
  .rw[<-s];simp[F]
  .rw[ct,ag (e6 I)]
 refine bK (Bv r k h T) ?_;cases p:lF k T 0 with
 |none=>
  have G:=nR p;refine fin T _ rfl H.keys H.wU H.born ?_;rw[qj (λe g=>by obtain⟨t,d,rfl⟩:=bg.1 (n.mem_iff.2 g);exact G t d)];exact n
 |some J=>
  obtain⟨j,u⟩:=J;obtain⟨A,B,b,rfl,q⟩:=nT p;rw[bE]at q;subst q;have o:List.Sublist (A++B) (A++(k,u,b)::B):=List.Sublist.append (List.Sublist.refl _) (List.sublist_cons_self _ _);refine fin (A++B) _ ?_ ((o.map _).nodup H.keys) (λt d=>H.wU t (o.subset d)) ((o.map _).nodup H.born) (Dc H.keys▸Aq n k);rw[Array.toList_eraseIdxIfInBounds,bf,bV];have:=IT (A.map (oz enc)) (B.map (oz enc)) (oz enc (k,u,b));rw[aJ]at this;rw[this,bf]
def Iter(h:ai)(r m:Nat)(enc:α->Value)(l done:List (α×Value)):Prop:=
 ∃T c D L,RB h m enc T c/\(T.map pr).Perm l/\h[r]? =some (.mapIter (some m) c (D.map (·.2.2)).toArray L)/\(D≠ []->L=c)/\D.Nodup/\(∀t∈D,t∈T)/\D.map pr=done/\r≠m
theorem Iter.frame{S:Nat->Prop}{h h':ai}{r m:Nat}{enc:α->Value}{l done:List (α×Value)}(H:Iter h r m enc l done)(f:Fr S h h')(a: ¬S r)(b: ¬S m):Iter h' r m enc l done:=by
 obtain⟨T,c,D,L,A,B,C,E⟩:=H;exact⟨T,c,D,L,⟨f.get A.cR b,A.keys,A.wU,A.born⟩,B,f.get C a,E⟩
theorem Iter.le{h:ai}{r m:Nat}{enc:α->Value}{l done:List (α×Value)}(H:Iter h r m enc l done):done.length<=l.length:=by
 obtain⟨T,c,D,L,A,B,_,_,a,b,rfl,_⟩:=H;rw[aJ,<-B.length_eq,aJ];exact a.length_le_of_subset (λt d=>b t d)
theorem EU{t:TypeId}{enc:α->Value}{z:Value}(K:mS P t enc z){h:ai}{m:Nat}{l:List (α×Value)}(H:iR h m enc l){Q:fx}(hk: ∀r h',r=h.size->Iter h' r m enc l []->Fr (λ_=>False) h h'->Q (.P r 0) h'):aV P (Instr.range t (.map (some m))) h Q:=by
 obtain⟨kt,e,a,d,_⟩:=K.ty;obtain⟨T,c,H,b⟩:=H;unfold Instr.range;refine bK (bu a) ?_;simp only;show aV P (getObj m>>=_) h Q;refine bK (iE H.cR) ?_
 .have f:Fr (λ_=>False) h (h.push (.mapIter (some m) c #[] c)):=Fr.push _ _;exact hk h.size _ rfl ⟨T,c, [],c,⟨f.get H.cR id,H.keys,H.wU,H.born⟩,b,bT,(λe=>absurd rfl e),.nil,(λt a=>by cases a),rfl,λe=>cf (aF H.cR)⟩ f
theorem xA{a:Type}{n:Nat}{g:Nat->Sem a}{h:ai}{Q:a->ai->Prop}(H:0<n)(hk: ∀i,i<n->aV P (g i) h Q):aV P (choose (.mapNext n)>>=g) h Q:=by
 show(if(Question.mapNext n).forced=true then aV P (g 0) h Q else∀t,aV P (g ((Question.mapNext n).cut t)) h Q);split
 .exact hk 0 H
 .intro t;exact hk _ (Nat.mod_lt _ H)
theorem IU{ty:TypeId}{enc:α->Value}{h:ai}{r m:Nat}{l done:List (α×Value)}(I:Iter h r m enc l done){Q:fx}(k1:done.Perm l->Q (.tuple #[.bool false]) h)(k2: ∀a v h',(a,v)∈l->(a,v)∉done->Iter h' r m enc l (done++ [(a,v)])->h'.size=h.size->(∀c,c≠r->h'[c]? =h[c]?)->Q (.tuple #[.bool true,enc a,v]) h'):
  aV P (Instr.next (.P r 0) false ty) h Q:=by
 classical
 obtain⟨T,c,D,L,M,z,A,X,C,n,rfl,E⟩:=I;have Z:=aF A;have N:T.Nodup:=by
  have:=M.keys;exact List.Pairwise.of_map (S:=(· ≠ ·)) (·.1) (λa b R e=>R (by rw[e])) this
 unfold Instr.next;simp only;have e':rd P (getObj r) h=some (.mapIter (some m) c (D.map (·.2.2)).toArray L):=by unfold getObj;simp only[rd,A]
 refine bK e' ?_;simp only;refine bK (iE M.cR) ?_;simp only;have hq:(!(D.map (·.2.2)).toArray.isEmpty && !(T.map (oz enc)).toArray.isEmpty && (T.map (oz enc)).toArray.all (λe=>decide (e.born≥L)))=false:=by
  cases B:D with
  |nil=>rfl
  |cons d D'=>
   have hl:=X (by rw[B];simp);have hd:d∈T:=n d (by rw[B];simp);have:(T.map (oz enc)).toArray.all (λe=>decide (e.born≥L))=false:=by
    rw[List.all_toArray,List.all_eq_false];exact⟨oz enc d,br hd,by simp;have:=M.wU d hd;omega⟩
   rw[this];simp
 rw[ag (by rw[hq];simp)];have Y:(T.map (oz enc)).toArray.filter (λe=> !(D.map (·.2.2)).toArray.contains e.born)=((T.filter (λt=> !decide (t∈D))).map (oz enc)).toArray:=by
  apply Array.ext'
  rw[Array.toList_filter];simp only[];rw[dk];congr 1
  apply dG
  intro t g;have:(D.map (·.2.2)).toArray.contains (oz enc t).born=decide (t∈D):=by
   by_cases p:t∈D
   .rw[aq p];simp;exact⟨t.1,t.2.1,p⟩
   .rw[az p];simp only[List.contains_toArray,List.contains_eq_mem,ee,bg,not_exists,not_and];intro u hu e;have W:u=t:=by
     have o:=M.born;have f':=n u hu;obtain⟨i,H⟩:=bx f';obtain⟨j,k⟩:=bx g;have y:=(aC.1 H).1;have:=(dR (l:=T.map (·.2.2)) (i:=i) (j:=j) (cD y) o).1 (by rw[aM,aM,H,k];simp[e]);subst this;rw[H]at k;exact bn k
    exact p (W▸hu)
  simp only[Function.comp,this]
 have d':(((T.filter (λt=> !decide (t∈D))).map (oz enc)).toArray.filter (λe=>decide (e.born<c)))=((T.filter (λt=> !decide (t∈D))).map (oz enc)).toArray:=by
  rw[Array.filter_eq_self];intro e w;obtain⟨t,g,rfl⟩:=bg.1 (List.mem_toArray.1 w);exact aq (M.wU t (aW.1 g).1)
 have c':(((T.filter (λt=> !decide (t∈D))).map (oz enc)).toArray.filter (λe=>decide (e.born≥c)))= #[]:=by
  rw[Array.filter_eq_empty_iff];intro e w;obtain⟨t,g,rfl⟩:=bg.1 (List.mem_toArray.1 w);have:=M.wU t (aW.1 g).1;simp;omega
 rw[Y,d',c'];simp only[Array.append_empty];cases s:T.filter (λt=> !decide (t∈D))with
 |nil=>
  refine xA bM λi H=> ?_
  have:i=0:=by simpa using H
  subst this;have J:((if((([]:List (α×Value×Nat)).map (oz enc)).toArray.isEmpty=true)then #[none]else #[])++Array.map some (([]:List (α×Value×Nat)).map (oz enc)).toArray)[0]? =some none:=bM
  rw[J];show aV P (pure (.tuple #[.bool false])) h Q;refine k1 ?_;refine List.Perm.trans (List.Perm.map _ ?_) z;rw[List.perm_ext_iff_of_nodup C N];intro t;refine⟨n t,λg=> ?_⟩;have:=List.filter_eq_nil_iff.1 s t g;simpa using this
 |cons f F=>
  refine xA bM λi H=> ?_
  rw[<-s]at H⊢;have b':(((T.filter (λt=> !decide (t∈D))).map (oz enc)).toArray.isEmpty)=false:=by rw[s];rfl
  rw[b']at H⊢;simp only[au,aN,Array.empty_append]at H⊢;have V:i<(T.filter (λt=> !decide (t∈D))).length:=by simpa using H
  obtain⟨t,g⟩: ∃t,(T.filter (λt=> !decide (t∈D)))[i]? =some t:=⟨_,aj V⟩;have U:(Array.map some ((T.filter (λt=> !decide (t∈D))).map (oz enc)).toArray)[i]? =some (some (oz enc t)):=by simp[g]
  rw[U];have q:=aW.1 (bj g);have G:t∉D:=by simpa using q.2
  refine⟨⟨_,A,λ_ _ _ e=>by cases e⟩,?_⟩;refine k2 t.1 t.2.1 _ (z.mem_iff.1 (br (f:=pr) q.1)) ?_ ⟨T,c,D++ [t],c,⟨?_,M.keys,M.wU,M.born⟩,z,?_,(λ_=>rfl),?_,?_,?_,E⟩ bM (λx hx=> ?_)
  .intro a';obtain⟨u,hu,e⟩:=bg.1 a';have K:u.1=t.1:=bY (λx:α×Value=>x.1) e;have:u=t:=by
    obtain⟨i,H⟩:=bx (n u hu);obtain⟨j,k⟩:=bx q.1;have y:=(aC.1 H).1;have:=(dR (l:=T.map (·.1)) (i:=i) (j:=j) (cD y) M.keys).1 (by rw[aM,aM,H,k];simp[K]);subst this;rw[H]at k;exact bn k
   exact G (this▸hu)
  .rw[ct,ag E];exact M.cR
  .simp[Z]
  .rw[dX];exact⟨C,bM,λa O b o=>by simp at o;subst o;exact λe=>G (e▸O)⟩
  .intro u hu;rcases bJ.1 hu with hu|hu
   .exact n u hu
   .obtain rfl:=bH.1 hu;exact q.1
  .rw[bf];rfl
  .rw[ct,ag (e6 hx)]
end
end Go.Den
namespace Go.Den
section
variable {P : Program} {α : Type}
theorem find_born(enc:α->Value){t:α×Value×Nat}: ∀{T:List (α×Value×Nat)},(T.map (·.2.2)).Nodup->t∈T->T.find? ((λe:MapEntry=>e.born==t.2.2) ∘ oz enc)=some t
 | [],_,h=>by cases h
 |u::T,a,h=>by
  rw[bV,en]at a;rw[List.find?_cons];by_cases H:u.2.2=t.2.2
  .have:((λe:MapEntry=>e.born==t.2.2) ∘ oz enc) u=true:=by simp[H]
   rw[this];rcases bD.1 h with e|e
   .rw[e]
   .exact absurd (bg.2 ⟨t,e,H.symm⟩) a.1
  .have:((λe:MapEntry=>e.born==t.2.2) ∘ oz enc) u=false:=by simp[H]
   rw[this];rcases bD.1 h with e|e
   .exact absurd (by rw[e]) H
   .exact find_born enc a.2 e
theorem xB{t:TypeId}{s:ByteArray}{h:ai}{Q:fx}(H:P.underlying t=some .string)(hk: ∀r h',r=h.size->h'[r]? =some (.stringIter s 0)->Fr (λ_=>False) h h'->Q (.P r 0) h'):
  aV P (Instr.range t (.string s)) h Q:=by
 unfold Instr.range;refine bK (bu H) ?_;exact hk h.size _ rfl bT (Fr.push _ _)
theorem IW{ty:TypeId}{s:ByteArray}{h:ai}{r pos:Nat}{Q:fx}(a:h[r]? =some (.stringIter s pos))(k:s.size<=pos->Q (.tuple #[.bool false]) h)(K:pos<s.size->∀h',h'[r]? =some (.stringIter s (pos+(Utf8.decode s pos).2))->h'.size=h.size->(∀c,c≠r->h'[c]? =h[c]?)->Q (.tuple #[.bool true,.I (pos:Int),.int .i32 ((Utf8.decode s pos).1:Int)]) h'):
  aV P (Instr.next (.P r 0) true ty) h Q:=by
 have d:=aF a;unfold Instr.next;simp only;have f:rd P (getObj r) h=some (.stringIter s pos):=by unfold getObj;simp only[rd,a]
 refine bK f ?_;simp only;by_cases H:pos<s.size
 .rw[af H];refine⟨⟨_,a,λ_ _ _ e=>by cases e⟩,?_⟩;exact K H _ (by simp[d]) bM (λc b=>by rw[ct,ag (e6 b)])
 .rw[ag H];exact k ae
theorem EV{enc:α->Value}{h:ai}{r m:Nat}{l done:List (α×Value)}{a:α}{v:Value}(I:Iter h r m enc l (done++ [(a,v)])){Q:fx}(hk:Q (.tuple #[enc a,v]) h):
  aV P (Instr.entry (.P r 0)) h Q:=by
 obtain⟨T,c,D,L,M,q,i,g,o,k,hd,p⟩:=I;rcases List.eq_nil_or_concat D with rfl|⟨D',t,rfl⟩
 .simp at hd
 rw[List.concat_eq_append]at*;rw[bf]at hd;obtain⟨_,e2⟩:=List.append_inj' hd rfl;have e2:pr t=(a,v):=by simpa using e2
 have E:t.1=a:=bY (λx:α×Value=>x.1) e2;have b:t.2.1=v:=bY (λx:α×Value=>x.2) e2;have n:t∈T:=k t bM;have f:=g bM;unfold Instr.entry;simp only;have j:rd P (getObj r) h=some (.mapIter (some m) c ((D'++ [t]).map (·.2.2)).toArray L):=by unfold getObj;simp only[rd,i]
 refine bK j ?_;simp only;have H:((D'++ [t]).map (·.2.2)).toArray.back? =some t.2.2:=bM
 rw[H];simp only;refine bK (iE M.cR) ?_;simp only;rw[f,ag bM];have d:(T.map (oz enc)).toArray.find? (λe=>e.born==t.2.2)=some (oz enc t):=by
  rw[List.find?_toArray,List.find?_map];have:T.find? ((λe:MapEntry=>e.born==t.2.2) ∘ oz enc)=some t:=find_born enc M.born n;rw[this];rfl
 rw[d];show Q (.tuple #[enc t.1,t.2.1]) h;rw[E,b];exact hk
end
end Go.Den
namespace Go.Den
section
variable {P : Program}
def Bw(P:Program)(eq:TypeId->Value->Value->Option Bool)(xs ys:Array Value)(t:TypeId)(off:Nat)(a:Option Bool):Option Bool:=
 match jE P (part t xs off),jE P (part t ys off)with
 |some u,some v=>(match eq t u v,a with|some b,some c=>some (b && c)|_,_=>none)
 |_,_=>none
def RC(P:Program):Nat->TypeId->Value->Value->Option Bool
 |0,_,_,_=>none
 |n+1,t,x,y=>
  match P.underlying t with
  |some .bool=>(match x,y with| .bool a,.bool b=>some (a==b)|_,_=>none)
  |some (.int _)=>(match x,y with| .int k a,.int k' b=>(match decide (k=k')with|true=>some (a==b)|false=>none)|_,_=>none)
  |some .string=>(match x,y with| .string a,.string b=>some (a==b)|_,_=>none)
  |some (.struct fs)=>(match x,y with
   | .agg xs,.agg ys=>(match P.stoodInHeld t with
    |true=>none
    |false=>fs.toList.foldr (λf A=>match decide (f.name= "_")with|true=>A|false=>Bw P (RC P n) xs ys f.type f.offset A) (some true))
   |_,_=>none)
  |some (.array len e)=>(match x,y,P.info? e with
   | .agg xs,.agg ys,some i=>(List.range len).foldr (λk A=>Bw P (RC P n) xs ys e (k*i.size) A) (some true)
   |_,_,_=>none)
  |_=>none
theorem qk{i:Type}{h:ai}{step:i->Option Bool->Option Bool}{B:i->Option Bool×Unit->Sem (ForInStep (Option Bool×Unit))}: ∀(l:List i)(b:Bool),l.foldr step (some true)=some b->
  (∀f a b,step f a=some b->(a=some b/\rd P (B f (none,())) h=some (.yield (none,())))\/∃q c,a=some c/\b=(q && c)/\rd P (B f (none,())) h=some (if q=true then .yield (none,())else .done (some false,())))->
  rd P (forIn l (none,()) B) h=some (if b=true then(none,())else(some false,()))
 | [],b,H,_=>by
  cases bn H;rfl
 |f::l,b,H,g=>by
  rw[List.foldr_cons]at H;rw[List.forIn_cons];rcases g f _ b H with⟨d,e⟩|⟨q,c,d,rfl,e⟩
  .rw[bm _ _ _ _ e];exact qk l b d g
  .rw[bm _ _ _ _ e];cases q with
   |true=>rw[dA];exact qk l c d g
   |false=>rfl
theorem Ar{eq:TypeId->Value->Value->Option Bool}{n:Nat}(d: ∀t x y b,eq t x y=some b->∀h,rd P (Op.equalIn n t x y) h=some b){xs ys:Array Value}{t:TypeId}{off:Nat}{a:Option Bool}{b:Bool}{h:ai}(H:Bw P eq xs ys t off a=some b):
  ∃q c u v,a=some c/\b=(q && c)/\rd P (part t xs off) h=some u/\rd P (part t ys off) h=some v/\rd P (Op.equalIn n t u v) h=some q:=by
 unfold Bw at H;split at H
 .rename_i u v f g;split at H
  .rename_i q c e;exact⟨q,c,u,v,rfl,(bn H).symm,rk _ _ f h,rk _ _ g h,d _ _ _ _ e h⟩
  .cases H
 .cases H
theorem EW : ∀(n : Nat)(t : TypeId)(x y : Value)(b : Bool), RC P n t x y = some b -> ∀ h, rd P (Op.equalIn n t x y) h = some b
  | 0, _, _, _, _, H => by cases H
  | n + 1, t, x, y, b, H => by
    intro h
    unfold RC at H
    unfold Op.equalIn
    split at H
    · rename_i g
      rw [bm _ _ _ _ (bu g)]
      split at H
      · rw [<- H]; rfl
      · cases H
    · rename_i d g
      rw [bm _ _ _ _ (bu g)]
      split at H
      · rename_i k a k' c
        split at H
        · rename_i hk
          simp only [aQ hk, bh]
          rw [<- H]; rfl
        · cases H
      · cases H
    · rename_i g
      rw [bm _ _ _ _ (bu g)]
      split at H
      · rw [<- H]; rfl
      · cases H
    · rename_i fs g
      rw [bm _ _ _ _ (bu g)]
      split at H
      · rename_i xs ys
        split at H
        · cases H
        · rename_i C
          dsimp only
          rw [bm _ _ _ _ (show rd P program h = some P from rfl), C]
          simp only [au, aN]
          rw [<- Array.forIn_toList, bm _ _ _ _ (qk (h := h) fs.toList b H ?_)]
          · cases b <;> rfl
          · intro f A b j
            split at j
            · rename_i w
              refine .inl ⟨j, ?_⟩
              rw [ag (cD w)]
              rfl
            · rename_i w
              obtain ⟨q, c, u, v, l, m, o, p, r⟩ := Ar (h := h) (λt x y b s h => EW n t x y b s h) j
              refine .inr ⟨q, c, l, m, ?_⟩
              rw [af (cD w), bm _ _ _ _ o, bm _ _ _ _ p, bm _ _ _ _ r]
              cases q <;> rfl
      · cases H
    · rename_i len e g
      rw [bm _ _ _ _ (bu g)]
      split at H
      · rename_i xs ys i z
        dsimp only
        rw [bm _ _ _ _ (gD z), Std.Legacy.Range.forIn_eq_forIn_range']
        have B : List.range' ([:len] : Std.Legacy.Range).start ([:len] : Std.Legacy.Range).size ([:len] : Std.Legacy.Range).step = List.range len := by
          simp [Std.Legacy.Range.size, fu]
        rw [B, bm _ _ _ _ (qk (h := h) (List.range len) b H ?_)]
        · cases b <;> rfl
        · intro k A b j
          obtain ⟨q, c, u, v, l, m, o, p, r⟩ := Ar (h := h) (λt x y b s h => EW n t x y b s h) j
          refine .inr ⟨q, c, l, m, ?_⟩
          rw [bm _ _ _ _ o, bm _ _ _ _ p, bm _ _ _ _ r]
          cases q <;> rfl
      · cases H
    · cases H
theorem vw.of{t:TypeId}{x y:Value}{b:Bool}(H:RC P 10000 t x y=some b):vw P t x y b:=λh=>EW 10000 t x y b H h
end
abbrev ring(v:Value):List PanicEntry:= [{ v,recovered:=false }]
def gT(P:Program)(f:FuncId)(args:Array Value)(h:ai)(R E:fx):Prop:=
 ∀w:World,w.heap=h->Calls P f args w λe w'=>fc w w'/\((∃v,e=.returned v/\R v w'.heap)\/∃v,e=.panicked (ring v)/\E v w'.heap)
section
variable {P : Program} {f : FuncId} {args : Array Value} {h : ai} {R r E a : Value → ai → Prop}
theorem gT.mono(b:gT P f args h R E)(d: ∀v h',R v h'->r v h')(H: ∀v h',E v h'->a v h'):gT P f args h r a:=
 λw i=>(b w i).mono λ_ _ ⟨g,c⟩=>⟨g,c.imp (λ⟨v,e,h⟩=>⟨v,e,d _ _ h⟩) (λ⟨v,e,h⟩=>⟨v,e,H _ _ h⟩)⟩
end
theorem gT.Vw{P:Program}{f:FuncId}{args:Array Value}{h:ai}{R:fx}(H:gT P f args h R (λ_ _=>False)):ar P f args h R:=
 λw c=>(H w c).mono λ_ _ ⟨b,a⟩=>a.elim (λ⟨v,e,h⟩=>⟨v,e,h,b⟩) (λ⟨_,_,h⟩=>h.elim)
def ui(P:Program)(lU:List Nat)(o:Oper)(σ:Env)(h:ai)(K E:fx):Prop:=
 match o.op with
 | .panic x=>(match σ.ev x with
  |some (.iface t v)=>E (.iface t v) h
  |_=>False)
 | .call { callee:=.value f,args:=args,argTypes:=_ } =>(match σ.ev f,Na σ args.toList with
  |some (.func (.func g) first c),some vs=>(match lU.any (Nat.beq g)with
   |true=>(match nI P g with
    |true=>gT P g (first.toList++vs++c.toList).toArray h (λv h'=>qU P o.type λV=>v=V/\K V h') E
    |false=>False)
   |false=>vy P o σ h K)
  |_,_=>vy P o σ h K)
 |_=>vy P o σ h K
theorem KP{P:Program}{o:Oper}{σ:Env}{b:Operand->Value}{h:ai}{f:Operand}{args:Array Operand}{t:Array TypeId}{g:FuncId}{first c:Array Value}{vs:List Value}(a:Fits σ b)(k:o.op=.call { callee:=.value f,args:=args,argTypes:=t })(i:σ.ev f=some (.func (.func g) first c))(m:Na σ args.toList=some vs)(H:nI P g=true):
  aV P (execOp b o) h λx h'=>x=.enter g (first.toList++vs++c.toList).toArray/\h'=h:=by
 unfold execOp;rw[k];simp only[resolve,sj a m,a _ _ i,Deferred.ofValue];rw[dw,xd];simp only[invoke,callFunc];rw[dw];unfold nI at H;split at H
 .rename_i F d;simp only[aT,Bool.not_eq_true']at H;show aV P (match P.funcs[g]? with|none=>_|some F=>_) h _;rw[d];have j:F.body.isNone=false:=by cases l:F.body<;>simp[l]at H⊢
  simp only[H.2,j,au,aN];have e:(first++vs.toArray++c)=(first.toList++vs++c.toList).toArray:=by
   apply Array.ext'
   simp
  rw[e];exact⟨rfl,rfl⟩
 .cases H
theorem As{P:Program}{lU:List Nat}{o:Oper}{σ:Env}{a:Act}{w:World}{K E:fx}{next:Act->World->Prop}{Q:Exit->Act->World->Prop}(H:Fits σ a.eval)(h:ui P lU o σ w.heap K E)(b: ∀v w',K v w'.heap->fc w w'->next (a.put o.dst v) w')(d: ∀v w',E v w'.heap->fc w w'->Q (.panic (ring v)) a w'):o.wp P a w next Q:=by
 unfold ui at h;split at h
 .rename_i x c;split at h
  .rename_i t v r;unfold Oper.wp execOp;rw[c];simp only[H _ _ r];exact d _ _ h (fc.refl w)
  .exact h.elim
 .rename_i f args T c;split at h
  .rename_i g first C vs n p;split at h
   .split at h
    .rename_i m;obtain⟨x,w',R,⟨rfl,q⟩,i⟩:=nH _ _ _ (KP H c n p m) w rfl;unfold Oper.wp;rw[R];refine(h w' q).mono ?_;rintro e W ⟨j,⟨v,rfl,l⟩|⟨v,rfl,k⟩⟩
     .exact b _ _ (xa l) (i.trans j)
     .exact d _ _ k (i.trans j)
    .exact h.elim
   .exact(mP H h).wp b
  .exact(mP H h).wp b
 .exact(mP H h).wp b
structure jb (n:Nat) (D:List Deferred) (σ:Env) (a:Act):Prop where
 size:a.tmps.size=n
 at_: ∀t v,σ t=some v->a.tmps.getD t undef=v
 defs:a.defers=D
theorem jb.fits{n:Nat}{D:List Deferred}{σ:Env}{a:Act}(h:jb n D σ a):Fits σ a.eval:=by
 intro x v H;cases x with
 |tmp t=>exact h.at_ t v H
 |const c=>simpa[Env.ev,Act.eval]using H
 |global g=>simpa[Env.ev,Act.eval]using H
 |func f=>simpa[Env.ev,Act.eval]using H
theorem jb.bare{n:Nat}{D:List Deferred}{σ:Env}{a:Act}(h:jb n D σ a):Rel n σ { a with defers:= [] } :=⟨rfl,h.size,h.at_⟩
theorem jb.of{n:Nat}{D:List Deferred}{σ:Env}{a:Act}(h:Rel n σ { a with defers:= [] })(hd:a.defers=D):jb n D σ a:=⟨h.size,h.at_,hd⟩
theorem De(a:Act)(d:Option Nat)(v:Value):(a.put d v).defers=a.defers:=by cases d<;>rfl
theorem nU{n:Nat}{D:List Deferred}{σ:Env}{a:Act}{d:Option Nat}{v:Value}{K:Env->Prop}(H:jb n D σ a)(h:hT n σ d v K): ∃b,jb n D b (a.put d v)/\K b:=by
 obtain⟨b,c,f⟩:=ij H.bare h;refine⟨b,.of ?_ ((De _ _ _).trans H.defs),f⟩;have e:({ a with defers:= [] } :Act).put d v= { (a.put d v)with defers:= [] } :=by cases d<;>rfl
 rw[<-e];exact c
theorem nV{n:Nat}{D:List Deferred}{O:Array Oper}{o:Oper}{σ:Env}{a:Act}{r skip:Env->Prop}(e:jb n D σ a)(h:iF O o σ r skip):
  (Region.wanted o (yielded O a.tmps)=true/\∃b,jb n D b a/\r b)\/(Region.wanted o (yielded O a.tmps)=false/\∃b,jb n D b a/\skip b):=by
 rcases iX e.bare h with⟨H,b,c,d⟩|⟨H,b,c,d⟩
 .exact .inl ⟨H,b,.of c e.defs,d⟩
 .exact .inr ⟨H,b,.of c e.defs,d⟩
def Qm(n:Nat)(D:List Deferred)(a0:Act)(w0:World)(W:List Nat)(K:List Deferred->Env->ai->Prop)(E:fx):Exit->Act->World->Prop:=
 λe a w=>(e=.normal/\∃D' σ,jb n D' σ a/\K D' σ w.heap/\fc w0 w/\eV W a0 a)\/(a.defers=D/\a.tmps.size=n/\eV W a0 a/\fc w0 w/\∃v,e=.panic (ring v)/\E v w.heap)
def xC(o:Oper)(D:List Deferred)(σ:Env):Option (List Deferred):=
 match o.op with
 | .defer { callee:=.value f,args:=args,argTypes:=_ } =>(match σ.ev f,Na σ args.toList with
  |some (.func g first c),some vs=>some ({ target:=.fn g c,args:=(first.toList++vs).toArray } ::D)
  |_,_=>none)
 |_=>none
theorem Df{P:Program}{o:Oper}{σ:Env}{a:Act}{w:World}{D D':List Deferred}{next:Act->World->Prop}{Q:Exit->Act->World->Prop}(H:Fits σ a.eval)(hd:a.defers=D)(h:xC o D σ=some D')(c:next ({ a with defers:=D' }.put o.dst undef) w):o.wp P a w next Q:=by
 unfold xC at h;split at h
 .rename_i f args t d;split at h
  .rename_i g first C vs b i;cases h;subst hd;unfold Oper.wp execOp;rw[d];simp only[resolve,sj H i,H _ _ b,Deferred.ofValue];have e:first++vs.toArray=(first.toList++vs).toArray:=by apply Array.ext';simp
   rw[e];exact c
  .cases h
 .cases h
def mi(P:Program)(lU:List Nat)(n:Nat)(O:Array Oper)(ty:List (Nat×Sh))(E:fx):List Oper->List Deferred->Env->ai->(List Deferred->Env->ai->Prop)->Prop
 | [],D,σ,h,K=>K D σ h
 |o::rest,D,σ,h,K=>(match o.op with
  | .defer _=>iF O o σ
   (λσ=>(match xC o D σ with
    |some D'=>(match rest with| []=>hT n σ o.dst undef λa=>K D' a h|_=>False)
    |none=>False))
   (λσ=>hT n σ o.dst undef λa=>mi P lU n O ty E rest D a h K)
  |_=>iF O o σ
   (λσ=>ui P lU o σ h (λv h'=>CW ty o.dst v λv=>hT n σ o.dst v λa=>mi P lU n O ty E rest D a h' K) E)
   (λσ=>hT n σ o.dst undef λa=>mi P lU n O ty E rest D a h K))
theorem nW{P:Program}{lU:List Nat}{n:Nat}{O:Array Oper}{ty:List (Nat×Sh)}{E:fx}{D:List Deferred}{K:List Deferred->Env->ai->Prop}{a0:Act}{w0:World}: ∀(rest:List Oper)(k:Nat)(σ:Env)(a:Act)(w:World),
  (∀j,rest[j]? =O[k+j]?)->jb n D σ a->fc w0 w->eV (cx O) a0 a->mi P lU n O ty E rest D σ w.heap K->wpOps P O (Qm n D a0 w0 (cx O) K E) (List.range' k rest.length) a w
 | [],k,σ,a,w,_,p,e,f,h=> .inl ⟨rfl,D,σ,p,h,e,f⟩
 |o::rest,k,σ,a,w,r,p,e,f,h=>by
  have m:O[k]? =some o:=by have:=r 0;simpa using this.symm
  have s: ∀j,rest[j]? =O[k+1+j]? :=λj=>by have:=r (j+1);simpa[Nat.add_assoc,Nat.add_comm 1 j]using this
  simp only[ba,List.range'_succ,wpOps,m];have skip: ∀{d:Env},Region.wanted o (yielded O a.tmps)=false->jb n D d a->(hT n d o.dst undef λd=>mi P lU n O ty E rest D d w.heap K)->
    (if Region.wanted o (yielded O a.tmps)=true then o.wp P a w (wpOps P O (Qm n D a0 w0 (cx O) K E) (List.range' (k+1) rest.length)) (Qm n D a0 w0 (cx O) K E)\/(o.asks P a w/\LetsOut (Qm n D a0 w0 (cx O) K E))else wpOps P O (Qm n D a0 w0 (cx O) K E) (List.range' (k+1) rest.length) (a.put o.dst undef) w):=by
   intro d b H h;rw[ag (by rw[b];simp)];obtain⟨l,i,g⟩:=nU H h;exact nW rest (k+1) l _ w s i e (f.trans (eV.put (dT m))) g
  unfold mi at h;split at h
  .rename_i c x;rcases nV p h with⟨b,d,H,h⟩|⟨b,d,H,h⟩
   .rw[af b];split at h
    .rename_i D' t;split at h
     .obtain⟨l,i,g⟩:=nU (D:=D') (a:= { a with defers:=D' }) ⟨H.size,H.at_,rfl⟩ h;exact .inl (Df H.fits H.defs t (.inl ⟨rfl,D',l,i,g,e,f.trans (eV.put (a:= { a with defers:=D' }) (dT m))⟩))
     .exact h.elim
    .exact h.elim
   .exact skip b H h
  .rcases nV p h with⟨b,d,H,h⟩|⟨b,d,H,h⟩
   .rw[af b];refine .inl (As H.fits h (λv w' hk q=> ?_) (λv w' u q=> .inr ⟨H.defs,H.size,f,e.trans q,v,rfl,u⟩));obtain⟨l,i,g⟩:=nU H (oZ hk);exact nW rest (k+1) l _ w' s i (e.trans q) (f.trans (eV.put (dT m))) g
   .exact skip b H h
def gr(P:Program)(lU:List Nat)(n:Nat)(O:Array Oper)(E:fx):oK->List (Nat×(ai->Prop))->Env->ai->(Env->ai->Prop)->Prop
 | .done,_,σ,h,K=>K σ h
 | .op i rest,G,σ,h,K=>(match O[i]? with
  |some o=>iF O o σ
    (λσ=>(match kx P o with
     |true=>ma P o σ h λv S=>hT n σ o.dst v λa=>gr P lU n O E rest (ss i S G) a h K
     |false=>ui P lU o σ h (λv h'=>o0 h' (hT n σ o.dst v λa=>gr P lU n O E rest (fo o G) a h' K) (fo o G)) E))
    (λσ=>hT n σ o.dst undef λa=>gr P lU n O E rest G a h K)
  |none=>False)
 | .alts q,G,σ,h,K=>gr P lU n O E q G σ h K
 | .fork i rest q,G,σ,h,K=>(match O[i]? with
  |some o=>iF O o σ
    (λσ=>ui P lU o σ h (λv h'=>o0 h' (hT n σ o.dst v λa=>gr P lU n O E rest (fo o G) a h' K) (fo o G)) E)
    (λσ=>hT n σ o.dst undef λa=>gr P lU n O E rest G a h K)
  |none=>False)/\gr P lU n O E q G σ h K
 | .gQ,_,_,_,_=>True
theorem eV.RE{W:List Nat}{a b:Act}{D:Option Nat}{v:Value}(h: ∀d,D=some d->d∈W)(f:eV W a (b.put D v)):eV W a b:=λt H=>by
 rw[<-f t H];cases D with
 |none=>rfl
 |some d=>
  have c:t≠d:=λe=>H (e▸h d rfl)
  simp[Act.put,e6 c]
section
variable {P : Program} {lU : List Nat} {n : Nat} {O : Array Oper} {E : Value → ai → Prop} {D : List Deferred} {K : Env → ai → Prop} {a0 : Act} {w0 : World}
abbrev Nc(n:Nat)(D:List Deferred)(a0:Act)(w0:World)(O:Array Oper)(K:Env->ai->Prop)(E:fx):=Qm n D a0 w0 (cx O) (λD' σ h=>D'=D/\K σ h) E
theorem vK{rest:oK}{i m:Nat}{o:Oper}{L:Array Bool}{G:List (Nat×(ai->Prop))}{σ:Env}{a:Act}{w:World}(I: ∀G σ a w,jb n D σ a->fc w0 w->eV (cx O) a0 a->(∀g∈G,g.2 w.heap)->gr P lU n O E rest G σ w.heap K->gI P O (Nc n D a0 w0 O K E) m G (L.setIfInBounds i true) a w)(c:O[i]? =some o)(x:jb n D σ a)(j:fc w0 w)(l:eV (cx O) a0 a)(s: ∀g∈G,g.2 w.heap)(h:iF O o σ (λσ=>ui P lU o σ w.heap (λv h'=>o0 h' (hT n σ o.dst v λb=>gr P lU n O E rest (fo o G) b h' K) (fo o G)) E) (λσ=>hT n σ o.dst undef λb=>gr P lU n O E rest G b w.heap K)):
  wpOp P O (Nc n D a0 w0 O K E) i (λA w'=>(∀g∈fo o G,g.2 w'.heap)/\gI P O (Nc n D a0 w0 O K E) m (fo o G) (L.setIfInBounds i true) A w') a w:=by
 rcases nV x h with⟨p,b,H,h⟩|⟨p,b,H,y⟩
 .unfold wpOp;simp only[c,p,bh];refine .inl (As H.fits h (λv w' hk k=> ?_) (λv w' u k=> .inr ⟨H.defs,H.size,l,j.trans k,v,rfl,u⟩));obtain⟨r,t⟩:=sr hk;obtain⟨q,f,d⟩:=nU H t;exact⟨r,I _ q _ w' f (j.trans k) (l.trans (eV.put (dT c))) r d⟩
 .unfold wpOp;simp only[c,p,au,aN];obtain⟨q,f,d⟩:=nU H y;have I:=I G q _ w f j (l.trans (eV.put (dT c))) s d;exact⟨λg e=>s g (iD e),jV _ _ _ _ _ _ (λg e=>iD e) I⟩
theorem zq(b':Region.noSelect O=true)(gS:oK):
  (∀(m:Nat)(l:Array Bool)(G:List (Nat×(ai->Prop)))(σ:Env)(a:Act)(w:World),qB gS m=true->
   hI P O gS none l=true->jb n D σ a->fc w0 w->eV (cx O) a0 a->(∀g∈G,g.2 w.heap)->gr P lU n O E gS G σ w.heap K->
   gI P O (Nc n D a0 w0 O K E) m G l a w)/\
  (∀(m:Nat)(R:List Nat)(l:Array Bool)(G:List (Nat×(ai->Prop)))(σ:Env)(a:Act)(w:World),qB gS (m+1)=true->
   hI P O gS (some R) l=true->jb n D σ a->fc w0 w->eV (cx O) a0 a->(∀g∈G,g.2 w.heap)->gr P lU n O E gS G σ w.heap K->
   ∀j∈R,∀o,O[j]? =some o->wpOp P O (Nc n D a0 w0 O K E) j (λX w'=>(∀g∈fo o G,g.2 w'.heap)/\gI P O (Nc n D a0 w0 O K E) m (fo o G) (l.setIfInBounds j true) X w') a w):=by
 induction gS with
 |done=>
  refine⟨λm l G σ a w b H f k p d h=> ?_,λm R l G σ a w b H=>by cases H⟩;obtain rfl:m=0:=bO b;simp only[hI,List.isEmpty_iff]at H;exact⟨H,.inl ⟨rfl,D,σ,f,⟨rfl,h⟩,k,p⟩⟩
 |gQ=>
  refine⟨λm l G σ a w b H=>(by cases H),λm R l G σ a w b H f k p d h j t=> ?_⟩;simp only[hI,List.isEmpty_iff]at H;subst H;cases t
 |alts q I=>
  refine⟨λm l G σ a w b H f k p d h=> ?_,λm R l G σ a w b H=>by cases H⟩;cases m with
  |zero=>cases b
  |succ m=>
   simp only[hI]at H;split at H
   .cases H
   .rename_i j js A;refine⟨(λe=>by rw[A]at e;cases e),λj' U o r=> ?_⟩;rw[A]at U;exact I.2 m _ l G σ a w b H f k p d h j' U o r
 |fork i rest q d' e'=>
  refine⟨λm l G σ a w b H=>(by cases H),λm R l G σ a w b H f k p d h j t o r=> ?_⟩;simp only[hI,aT]at H;obtain⟨⟨s,C⟩,a'⟩:=H;simp only[qB,aT]at b;simp only[gr]at h;by_cases V:i=j
  .subst V;have h:=h.1;rw[r]at h;exact vK (λG σ a w f k p d h=>d'.1 m _ G σ a w b.1 C f k p d h) r f k p d h
  .refine e'.2 m _ l G σ a w b.2 a' f k p d h.2 j (aW.2 ⟨t,?_⟩) o r;have:Nat.beq i j=false:=by cases hb:Nat.beq i j;rfl;exact absurd (bO hb) V
   simp[this]
 |op i rest I=>
  refine⟨λm l G σ a w b H f k p d h=> ?_,λm R l G σ a w b H=>by cases H⟩;cases m with
  |zero=>cases b
  |succ m=>
   simp only[hI,aT]at H;obtain⟨s,C⟩:=H;simp only[gr]at h;split at h
   .rename_i o r;simp only[r]at s;have Z: ∀v,∀c a w,Nc n D a0 w0 O K E (.panic c) (a.put o.dst v) w->Nc n D a0 w0 O K E (.panic c) a w:=λv c a w hq=>by
     rcases hq with⟨e,_⟩|⟨F,J,L,z⟩
     .cases e
     .refine .inr ⟨(De _ _ _).symm.trans F,?_,L.RE (dT r),z⟩;rw[<-J];cases o.dst<;>simp[Act.put]
    have take: ∀(v:Value)(S:Option (ai->Prop))(y:Env),kx P o=true->jb n D y (a.put o.dst v)->YieldsIf P O (λw=>tY S w.heap) o v a->tY S w.heap->
      gr P lU n O E rest (ss i S G) y w.heap K->gI P O (Nc n D a0 w0 O K E) (m+1) G l a w:=λv S y x u hy B hd=>by
     rw[x]at s;simp only[aT]at s;have Y: ∀g∈ss i S G,g.2 w.heap:=by
      intro g T;cases S with
      |none=>exact d g T
      |some S=>
       rcases bD.1 T with e|e
       .rw[e];exact B
       .exact d g e
     have I:=I.1 m _ (ss i S G) y (a.put o.dst v) w b C u k (p.trans (eV.put (dT r))) Y hd;refine nO (S:=tY S) r (Region.noSelect_spec b') (Z v) m G l a w (Region.free_spec r s.2) (cD s.1) hy B d ?_;cases S with
     |none=>exact mc i _ _ _ _ _ I
     |some S=>exact I
    cases x:kx P o with
    |true=>
     rcases nV f h with⟨N,y,u,h⟩|⟨N,y,u,c'⟩
     .rw[x]at h;obtain⟨v,S,F,J,L⟩:=nK u.fits h;obtain⟨Q,M,z⟩:=nU u F;exact take v S Q x M (.inl ⟨N,λw' B=>oT _ _ _ (L _ B)⟩) J z
     .obtain⟨Q,M,z⟩:=nU u c';exact take undef none Q x M (.inr ⟨N,rfl⟩) trivial z
    |false=>
     rw[x]at s h;simp only at s h;have A:Region.ready .any O l= [i]:=by
      split at s
      .rename_i j t;rw[t,bO s]
      .cases s
     refine⟨(λe=>by rw[A]at e;cases e),λj t o' W=> ?_⟩;rw[A]at t;obtain rfl:j=i:=by simpa using t
     obtain rfl:o'=o:=by rw[r]at W;exact(bn W).symm
     exact vK (λG σ a w f k p d h=>I.1 m _ G σ a w b C f k p d h) r f k p d h
   .exact h.elim
end
def KQ(K:List Deferred->Env->ai->Prop)(Q:Exit->List Deferred->Env->ai->Prop):Exit->List Deferred->Env->ai->Prop
 | .normal=>K
 |e=>Q e
def KR(id:Nat)(Q:Exit->List Deferred->Env->ai->Prop):Exit->List Deferred->Env->ai->Prop
 | .exit i=>(match Nat.beq i id with|true=>Q .normal|false=>Q (.exit i))
 |e=>Q e
def oM(P : Program)(lU : List Nat)(n : Nat)(E : List Deferred -> Env -> fx): sf -> Code -> (Exit -> List Deferred -> Env -> ai -> Prop) -> List Deferred -> Env -> ai -> Prop
  | .leaf, c, Q, D, σ, h => (match c with
    | .skip => Q .normal D σ h
    | .label _ => Q .normal D σ h
    | .exit id => Q (.exit id) D σ h
    | .ret => Q .ret D σ h
    | .region _ o false => mi P lU n o [] (E D (σ.forget (cx o))) o.toList D σ h (Q .normal)
    | _ => False)
  | .typed ty, c, Q, D, σ, h => (match c with
    | .region _ o false => mi P lU n o ty (E D (σ.forget (cx o))) o.toList D σ h (Q .normal)
    | _ => False)
  | .gS p, c, Q, D, σ, h => (match c with
    | .region _ o true => (match (P.follows .mixedOrders && Region.noSelect o && qB p o.size && hI P o p none (Array.replicate o.size false)) with
      | true => gr P lU n o (E D (σ.forget (cx o))) p [] σ h (Q .normal D)
      | false => False)
    | _ => False)
  | .seq a b, c, Q, D, σ, h => (match c with
    | .seq c d => oM P lU n E a c (KQ (λD' e h' => oM P lU n E b d Q D' e h') Q) D σ h
    | _ => False)
  | .cond a b, c, Q, D, σ, h => (match c with
    | .cond x c d => (match σ.ev x with
      | some (.bool q) => if q = true then oM P lU n E a c Q D σ h else oM P lU n E b d Q D σ h
      | _ => False)
    | _ => False)
  | .block a, c, Q, D, σ, h => (match c with
    | .block id c => oM P lU n E a c (KR id Q) D σ h
    | _ => False)
  | .loop L a, c, Q, D, σ, h => (match c with
    | .loop c => ∃(I : rC (ai -> Prop) L)(g : rC (ai -> Nat) L), mz False L I σ (λf => f h) /\
        Kw L (λe => ∀ h', mz False L I e (λf => f h') ->
          oM P lU n E a c (KQ (λD' i H => D' = D /\ mz False L I i (λf => f H) /\ mz 0 L g i (λf => f H) < mz 0 L g e (λf => f h')) Q) D e h') (σ.forget (writes c))
    | _ => False)
  | .join L a, c, Q, D, σ, h => aK (α := rC (ai -> Prop) L) (Nk L (λe h' => Q .normal D e h') (σ.forget (writes c)))
      (λJ => oM P lU n E a c (KQ (λD' e h' => D' = D /\ mz False L J e (λf => f h')) Q) D σ h)
  | .scope _ _ _ _, _, _, _, _, _ => False
  | .jk _, _, _, _, _, _ => False
def Qn(n:Nat)(a0:Act)(w0:World)(W:List Nat)(Q:Exit->List Deferred->Env->ai->Prop)(E:List Deferred->Env->fx):Exit->Act->World->Prop:=
 λe a w=>fc w0 w/\eV W a0 a/\((∃D σ,jb n D σ a/\Q e D σ w.heap/\∀c,e≠ .panic c)\/∃D σ v,jb n D σ a/\e=.panic (ring v)/\E D σ v w.heap)
theorem jb.rE{n:Nat}{D D':List Deferred}{σ b c:Env}{a A:Act}{W:List Nat}(H:jb n D σ a)(h:jb n D' b A)(e:eV W a A)(d:Sub c (σ.forget W) b):jb n D' c A:=
 .of (Rel.rE H.bare h.bare e d) h.defs
theorem rM{n:Nat}{D:List Deferred}{a0:Act}{w0:World}{σ:Env}{W:List Nat}{Q:Exit->List Deferred->Env->ai->Prop}{E:List Deferred->Env->fx}(g:jb n D σ a0){e:Exit}{a:Act}{w:World}(h:Qm n D a0 w0 W (Q .normal) (E D (σ.forget W)) e a w):Qn n a0 w0 W Q E e a w:=by
 rcases h with⟨rfl,D',j,b,c,H,d⟩|⟨b,c,H,d,v,rfl,f⟩
 .exact⟨H,d,.inl ⟨D',j,b,c,λ_ e=>by cases e⟩⟩
 .refine⟨d,H,.inr ⟨D,_,v,⟨c,λt u i=> ?_,b⟩,rfl,f⟩⟩;obtain⟨q1,q2⟩:=Env.vA i;rw[H t q1];exact g.at_ t u q2
theorem sF{n:Nat}{a0:Act}{w0:World}{W b:List Nat}{Q:Exit->List Deferred->Env->ai->Prop}{E:List Deferred->Env->fx}(H: ∀t,t∈W->t∈b){e:Exit}{a:Act}{w:World}(h:Qn n a0 w0 W Q E e a w):Qn n a0 w0 b Q E e a w:=
 ⟨h.1,h.2.1.mono H,h.2.2⟩
theorem IX{n:Nat}{a0 A:Act}{w0 b:World}{W:List Nat}{Q:Exit->List Deferred->Env->ai->Prop}{E:List Deferred->Env->fx}(H:fc w0 b)(c:eV W a0 A){e:Exit}{a:Act}{w:World}(h:Qn n A b W Q E e a w):Qn n a0 w0 W Q E e a w:=
 ⟨H.trans h.1,c.trans h.2.1,h.2.2⟩
theorem mj{P:Program}{lU:List Nat}{n:Nat}{E:List Deferred->Env->fx}: ∀(V:sf)(c:Code)(Q:Exit->List Deferred->Env->ai->Prop)(D:List Deferred)(σ:Env)(a:Act)(w:World),jb n D σ a->
  oM P lU n E V c Q D σ w.heap->c.wp P (Qn n a w (writes c) Q E) a w
 | .leaf,c,Q,D,σ,a,w,o,h=>by
  unfold oM at h;have ok: ∀e,(∀C,e≠ .panic C)->Q e D σ w.heap->Qn n a w (writes c) Q E e a w:=λe H hq=>⟨fc.refl w,eV.refl _ _,.inl ⟨D,σ,o,hq,H⟩⟩
  split at h
  .exact wp_skip (ok _ (λ_ e=>by cases e) h)
  .exact wp_label (ok _ (λ_ e=>by cases e) h)
  .exact wp_exit (ok _ (λ_ e=>by cases e) h)
  .exact wp_ret (ok _ (λ_ e=>by cases e) h)
  .rename_i id O;refine wp_mono (wp_region ?_) (λe A w' hq=>rM o hq);have:=nW (a0:=a) (w0:=w) O.toList 0 σ a w bM o (fc.refl w) (eV.refl _ _) h;rw[fu];rw[dQ]at this;exact this
  .exact h.elim
 | .typed ty,c,Q,D,σ,a,w,o,h=>by
  unfold oM at h;split at h
  .rename_i id O;refine wp_mono (wp_region ?_) (λe A w' hq=>rM o hq);have:=nW (a0:=a) (w0:=w) O.toList 0 σ a w bM o (fc.refl w) (eV.refl _ _) h;rw[fu];rw[dQ]at this;exact this
  .exact h.elim
 | .gS p,c,Q,D,σ,a,w,o,h=>by
  unfold oM at h;split at h
  .rename_i id O;split at h
   .rename_i G;simp only[aT]at G;obtain⟨⟨⟨X,Y⟩,Z⟩,h4⟩:=G;refine wp_mono (wp_region_any (Q:=Nc n D a w O (Q .normal D) (E D (σ.forget (cx O)))) X ?_) (λe A w' hq=>rM (Q:=Q) o ?_)
    .exact nN _ _ _ _ _ ((zq (a0:=a) (w0:=w) Y p).1 O.size (Array.replicate O.size false) [] σ a { w with drawn:=w.drawn+1 } Z h4 o ⟨rfl,rfl,rfl⟩ (eV.refl _ _) (λ_ hm=>by cases hm) h)
    .rcases hq with⟨e,D',j,q1,⟨rfl,q2⟩,q3⟩|hq
     .exact .inl ⟨e,_,j,q1,q2,q3⟩
     .exact .inr hq
   .exact h.elim
  .exact h.elim
 | .seq x y,c,Q,D,σ,a,w,o,h=>by
  unfold oM at h;split at h
  .rename_i c d;have hW: ∀t,t∈writes c->t∈writes (.seq c d):=λt r=>dI _ r
   refine wp_seq (wp_mono (mj x c _ D σ a w o h) ?_);rintro e A w' hq;have hq:=sF hW hq;obtain⟨i,g,⟨D',j,m,hq,H⟩|⟨D',j,v,m,rfl,hE⟩⟩:=hq
   .cases e with
    |normal=>exact wp_mono (mj y d Q D' j A w' m hq) (λe2 a2 w2 b'=>IX i g (sF (λt r=>dV _ r) b'))
    |exit id=>exact⟨i,g,.inl ⟨D',j,m,hq,H⟩⟩
    |goto l=>exact⟨i,g,.inl ⟨D',j,m,hq,H⟩⟩
    |ret=>exact⟨i,g,.inl ⟨D',j,m,hq,H⟩⟩
    |panic C=>exact absurd rfl (H C)
    |outgrown=>exact⟨i,g,.inl ⟨D',j,m,hq,H⟩⟩
   .exact⟨i,g,.inr ⟨D',j,v,m,rfl,hE⟩⟩
  .exact h.elim
 | .cond x y,c,Q,D,σ,a,w,o,h=>by
  unfold oM at h;split at h
  .rename_i k c d;split at h
   .rename_i q hq;have H:=o.fits _ _ hq;split at h
    .rename_i r;subst r;exact wp_cond_true H (wp_mono (mj x c Q D σ a w o h) (λ_ _ _=>sF λt r=>dI _ r))
    .rename_i r;have r:q=false:=by simpa using r
     subst r;exact wp_cond_false H (wp_mono (mj y d Q D σ a w o h) (λ_ _ _=>sF λt r=>dV _ r))
   .exact h.elim
  .exact h.elim
 | .block x,c,Q,D,σ,a,w,o,h=>by
  unfold oM at h;split at h
  .rename_i id c;refine wp_block (wp_mono (mj x c _ D σ a w o h) ?_);rintro e A w' ⟨i,g,⟨D',j,m,hq,H⟩|⟨D',j,v,m,rfl,hE⟩⟩
   .cases e with
    |exit M=>
     simp only[Exit.inBlock];simp only[KR]at hq;by_cases hid:M=id
     .subst hid;simp only[Nat.beq_refl]at hq;rw[af rfl];exact⟨i,g,.inl ⟨D',j,m,hq,λ_ e=>by cases e⟩⟩
     .rw[ag hid];have:Nat.beq M id=false:=by cases G:Nat.beq M id;rfl;exact absurd (bO G) hid
      rw[this]at hq;exact⟨i,g,.inl ⟨D',j,m,hq,H⟩⟩
    |normal=>exact⟨i,g,.inl ⟨D',j,m,hq,H⟩⟩
    |goto l=>exact⟨i,g,.inl ⟨D',j,m,hq,H⟩⟩
    |ret=>exact⟨i,g,.inl ⟨D',j,m,hq,H⟩⟩
    |panic C=>exact absurd rfl (H C)
    |outgrown=>exact⟨i,g,.inl ⟨D',j,m,hq,H⟩⟩
   .exact⟨i,g,.inr ⟨D',j,v,m,rfl,hE⟩⟩
  .exact h.elim
 | .loop L x,c,Q,D,σ,a,w,o,h=>by
  unfold oM at h;split at h
  .rename_i c;obtain⟨I,μ,W,c'⟩:=h;refine wp_loop (λA w'=> ∃j,jb n D j A/\mz False L I j (λf=>f w'.heap)/\fc w w'/\eV (writes c) a A)
    (λA w'=>mz 0 L μ (vC A) (λf=>f w'.heap)) ⟨σ,o,W,fc.refl w,eV.refl _ _⟩ ?_
   rintro A w' ⟨j,m,N,i,g⟩;obtain⟨J,hF,K,hL,_⟩:=wS L _ I c' N;have T:=jb.rE o m g K;have R:mz False L I J (λf=>f w'.heap):=by rw[mO L I hL];exact N
   have hd:=hF w'.heap R;refine wp_mono (mj x c _ D J A w' T hd) ?_;rintro e U w1 ⟨B,F,⟨z,u,s,hq,H⟩|⟨z,u,v,s,rfl,hE⟩⟩
   .cases e with
    |normal=>
     obtain⟨rfl,S,a'⟩:=hq;refine⟨⟨u,s,S,i.trans B,g.trans F⟩,?_⟩;have ev: ∀b:Act,vC { b with defers:= [] } =vC b:=λ_=>rfl
     rw[<-ev U,<-ev A,kT s.bare (nL L I S),kT T.bare (nL L I R)];exact a'
    |exit id=>exact⟨i.trans B,g.trans F,.inl ⟨z,u,s,hq,H⟩⟩
    |goto l=>exact⟨i.trans B,g.trans F,.inl ⟨z,u,s,hq,H⟩⟩
    |ret=>exact⟨i.trans B,g.trans F,.inl ⟨z,u,s,hq,H⟩⟩
    |panic C=>exact absurd rfl (H C)
    |outgrown=>exact⟨i.trans B,g.trans F,.inl ⟨z,u,s,hq,H⟩⟩
   .exact⟨i.trans B,g.trans F,.inr ⟨z,u,v,s,rfl,hE⟩⟩
  .exact h.elim
 | .join L x,c,Q,D,σ,a,w,o,h=>by
  unfold oM at h;unfold aK at h;refine wp_mono (mj x c _ D σ a w o h) ?_;rintro e A w' ⟨i,g,⟨D',j,m,hq,H⟩|hE⟩
  .cases e with
   |normal=>
    obtain⟨rfl,hq⟩:=hq;obtain⟨J,hQ,K⟩:=xf L _ hq;exact⟨i,g,.inl ⟨_,J,jb.rE o m g K,hQ,H⟩⟩
   |exit id=>exact⟨i,g,.inl ⟨D',j,m,hq,H⟩⟩
   |goto l=>exact⟨i,g,.inl ⟨D',j,m,hq,H⟩⟩
   |ret=>exact⟨i,g,.inl ⟨D',j,m,hq,H⟩⟩
   |panic C=>exact absurd rfl (H C)
   |outgrown=>exact⟨i,g,.inl ⟨D',j,m,hq,H⟩⟩
  .exact⟨i,g,.inr hE⟩
 | .scope _ _ _ _,_,_,_,_,_,_,_,h=>by unfold oM at h;exact h.elim
def vL:Option Value->FrameMode
 |none=> .returning
 |some v=> .panicking (ring v)
def pn(P:Program)(g:FuncId)(args:Array Value)(rv:Option Value)(h:ai)(K:Option Value->ai->Prop):Prop:=
 ∀w:World,w.heap=h->CallsD P g args (vL rv) w λe u w'=>(∃v,e=.returned v)/\fc w w'/\∃r,settle u=vL r/\K r w'.heap
def KS(A:ai->Prop)(E:fx):Option Value->ai->Prop
 |none,h=>A h
 |some v,h=>E v h
def xD(P:Program)(r:List ResultVar)(R E:fx):List Deferred->Option Value->Env->ai->Prop
 | [],none,σ,h=>rF P r σ h λvs=>R (vD vs) h
 | [],some v,_,h=>E v h
 | [d],rv,σ,h=>(match d.target with
  | .fn (.func g) cap=>(match nI P g with
   |true=>pn P g (d.args.toList++cap.toList).toArray rv h (KS (λh'=>rF P r σ h' λvs=>R (vD vs) h') E)
   |false=>False)
  |_=>False)
 |_::_::_,_,_,_=>False
theorem Nt{P:Program}{n:Nat}{D:List Deferred}{σ:Env}{a:Act}{h:ai}{f:Func}{F:Value->Prop}(b:jb n D σ a)(H:rF P f.results.toList σ h λvs=>F (vD vs)): ∃v,F v/\rd P (results f a.tmps) h=some v:=
 rG (a:= { a with defers:= [] }) b.bare H
theorem xE{P:Program}{n:Nat}{f:Func}{R E:fx}{w0:World}{D:List Deferred}{rv:Option Value}{σ:Env}{a:Act}{w:World}(q:jb n D σ a)(b:fc w0 w)(h:xD P f.results.toList R E D rv σ w.heap):
  Leaves P f a.tmps (λe w'=>fc w0 w'/\((∃v,e=.returned v/\R v w'.heap)\/∃v,e=.panicked (ring v)/\E v w'.heap)) D (vL rv) w:=by
 have fin: ∀(rv:Option Value)(w:World),fc w0 w->(match rv with|none=>rF P f.results.toList σ w.heap λvs=>R (vD vs) w.heap|some v=>E v w.heap)->
   Leaves P f a.tmps (λe w'=>fc w0 w'/\((∃v,e=.returned v/\R v w'.heap)\/∃v,e=.panicked (ring v)/\E v w'.heap)) [] (vL rv) w:=by
  intro rv w b h;cases rv with
  |none=>
   obtain⟨v,i,j⟩:=Nt (F:=λv=>R v w.heap) q h;exact⟨v,oT _ _ _ j,b,.inl ⟨v,rfl,i⟩⟩
  |some v=>exact⟨b,.inr ⟨v,rfl,h⟩⟩
 match D,h with
 | [],h=>
  refine fin rv w b ?_;cases rv<;>exact h
 | [d],h=>
  simp only[xD]at h;split at h
  .rename_i g cap k;split at h
   .rename_i H;refine⟨by cases rv<;>simp[vL],.func g,cap,g,(d.args.toList++cap.toList).toArray,k,?_,?_⟩
    .rw[k];unfold nI at H;split at H
     .rename_i f2 m;simp only[aT,Bool.not_eq_true']at H;have o:f2.body.isNone=false:=by cases p:f2.body<;>simp[p]at H⊢
      have e:d.args++cap=(d.args.toList++cap.toList).toArray:=by apply Array.ext';simp
      rw[<-e];refine oT _ _ _ ?_;simp only[invoke,callFunc];show rd P (match P.funcs[g]? with|none=>_|some f=>_) w.heap=_;rw[m];simp only[H.2,o,au,aN];rfl
     .cases H
    .intro c cs t;obtain⟨e,u,w',fr,⟨⟨v,rfl⟩,s,r,i,j⟩,l⟩:=h w rfl c cs t;refine⟨_,u,w',fr,?_,l⟩;show Leaves P f a.tmps _ [] (settle u) w';rw[i];exact fin r w' (b.trans s) (by cases r<;>exact j)
   .exact h.elim
  .exact h.elim
 |_::_::_,h=>exact h.elim
def Tv(P:Program)(r:Array ResultVar)(R E:fx):Exit->List Deferred->Env->ai->Prop
 | .normal,D,σ,h=>xD P r.toList R E D none σ h
 | .ret,D,σ,h=>xD P r.toList R E D none σ h
 |_,_,_,_=>False
theorem gJ{P:Program}{f:FuncId}{F:Func}{args:List Value}{h:ai}{R E:fx}(A:sf)(lU:List Nat)(o:P.funcs[f]? =some F)(m:F.body.isSome=true)(k:Nat.ble args.length F.ntmps=true)(hd:oM P lU F.ntmps (λD σ v h=>xD P F.results.toList R E D (some v) σ h) A (rH F) (Tv P F.results R E) [] (lj args) h):gT P f args.toArray h R E:=by
 obtain⟨c,j⟩:=eL.1 m;rw[rH,j]at hd;intro w q;subst q;have k:=Nat.le_of_ble_eq_true k;refine calls_of_wp_defers o j ?_;have H:jb F.ntmps [] (lj args) { tmps:=args.toArray++Array.replicate (F.ntmps - args.toArray.size) undef,defers:= [] } :=by
  refine⟨by simp;omega,λt v g=> ?_,rfl⟩;unfold lj at g;have p:t<args.length:=(aC.1 g).1;simp only[eu];rw[dv (cD p)];simp[g]
 refine wp_mono (mj A c _ _ _ _ w H hd) ?_;rintro e a w' ⟨d,_,⟨D,σ,H,b,n⟩|⟨D,σ,v,H,rfl,i⟩⟩
 .cases e with
  |normal=>rw[<-H.defs]at b H;exact xE (rv:=none) H d b
  |ret=>rw[<-H.defs]at b H;exact xE (rv:=none) H d b
  |exit id=>exact b.elim
  |goto l=>exact b.elim
  |panic C=>exact absurd rfl (n C)
  |outgrown=>exact b.elim
 .rw[<-H.defs]at i H;exact xE (rv:=some v) H d i
inductive RS where
 |calm
 |KT (v:Value)
 |done (v:Value)
def RS.mode:RS->FrameMode
 | .calm=> .returning
 | .KT v=> .panicking (ring v)
 | .done v=> .panicking [{ v,recovered:=true }]
def RS.left:RS->Option Value
 | .KT v=>some v
 |_=>none
def RS.of:Option Value->RS
 |none=> .calm
 |some v=> .KT v
theorem RS.settle(a:RS):settle a.mode=vL a.left:=by cases a<;>rfl
theorem RS.Nu(rv:Option Value):(RS.of rv).mode=vL rv:=by cases rv<;>rfl
def isRec(o:Oper):Bool:=match o.op with
 | .call { callee:=.builtin .recover,args:=_,argTypes:=_ } =>true
 |_=>false
theorem IY{P:Program}{o:Oper}{a:Operand->Value}{w:World}(h:isRec o=true):(execOp a o).run P w=.ok .recover w:=by
 unfold isRec at h;split at h
 .rename_i H;unfold execOp;rw[H];rfl
 .cases h
def EY(P:Program)(o:Oper)(σ:Env)(h:ai)(K:fx):Prop:=
 match o.op with
 | .typeAssert x X a ok=>(match σ.ev x with
  |some v=>aV P (Instr.typeAssert v X a ok) h K
  |none=>False)
 |_=>vy P o σ h K
theorem IZ{P:Program}{o:Oper}{σ:Env}{b:Operand->Value}{h:ai}{K:fx}(a:Fits σ b)(H:EY P o σ h K):oU P o b h K:=by
 unfold EY at H;split at H
 .rename_i x X A ok c;split at H
  .rename_i v d;unfold oU execOp;rw[c];simp only[a _ _ d];rw[dw];exact H
  .exact H.elim
 .exact mP a H
def iK(P:Program)(n:Nat)(O:Array Oper)(ty:List (Nat×Sh)):List Oper->RS->Env->ai->(RS->Env->ai->Prop)->Prop
 | [],b,σ,h,K=>K b σ h
 |o::rest,b,σ,h,K=>(match isRec o with
  |true=>iF O o σ
   (λσ=>(match b with
    | .KT v=>hT n σ o.dst v λa=>iK P n O ty rest (.done v) a h K
    | .calm=>hT n σ o.dst .nilIface λa=>iK P n O ty rest .calm a h K
    | .done v=>hT n σ o.dst .nilIface λa=>iK P n O ty rest (.done v) a h K))
   (λσ=>hT n σ o.dst undef λa=>iK P n O ty rest b a h K)
  |false=>iF O o σ
   (λσ=>EY P o σ h λv h'=>CW ty o.dst v λv=>hT n σ o.dst v λa=>iK P n O ty rest b a h' K)
   (λσ=>hT n σ o.dst undef λa=>iK P n O ty rest b a h K))
def Rj(n:Nat)(a0:Act)(w0:World)(W:List Nat)(c0:Frame)(cs0:List Frame)(Q:Exit->RS->Env->ai->Prop):Exit->Act->List Frame->World->Prop:=
 λe a cs w=> ∃b σ,cs= { c0 with mode:=b.mode } ::cs0/\Rel n σ a/\Q e b σ w.heap/\fc w0 w/\eV W a0 a
def KU(K:RS->Env->ai->Prop):Exit->RS->Env->ai->Prop
 | .normal=>K
 |_=>λ_ _ _=>False
theorem xF{P:Program}{n:Nat}{O:Array Oper}{ty:List (Nat×Sh)}{K:RS->Env->ai->Prop}{a0:Act}{w0:World}{c0:Frame}{cs0:List Frame}: ∀(rest:List Oper)(k:Nat)(c:RS)(σ:Env)(a:Act)(w:World),
  (∀j,rest[j]? =O[k+j]?)->Rel n σ a->fc w0 w->eV (cx O) a0 a->iK P n O ty rest c σ w.heap K->wpOpsS P O (Rj n a0 w0 (cx O) c0 cs0 (KU K)) (List.range' k rest.length) a ({ c0 with mode:=c.mode } ::cs0) w
 | [],k,c,σ,a,w,_,g,i,m,h=>⟨c,σ,rfl,g,h,i,m⟩
 |o::rest,k,c,σ,a,w,q,g,i,m,h=>by
  have p:O[k]? =some o:=by have:=q 0;simpa using this.symm
  have u: ∀j,rest[j]? =O[k+1+j]? :=λj=>by have:=q (j+1);simpa[Nat.add_assoc,Nat.add_comm 1 j]using this
  simp only[ba,List.range'_succ,wpOpsS,p];unfold iK at h;have next: ∀{b:Env}{v:Value}{CK:RS}{w':World},fc w w'->Rel n b a->(hT n b o.dst v λb=>iK P n O ty rest CK b w'.heap K)->
    wpOpsS P O (Rj n a0 w0 (cx O) c0 cs0 (KU K)) (List.range' (k+1) rest.length) (a.put o.dst v) ({ c0 with mode:=CK.mode } ::cs0) w':=by
   intro b v CK w' l H h;obtain⟨B,y,s⟩:=ij H h;exact xF rest (k+1) CK B _ w' u y (i.trans l) (m.trans (eV.put (dT p))) s
  split at h
  .rename_i z;rcases iX g h with⟨d,b,H,h⟩|⟨d,b,H,h⟩
   .rw[af d,IY z];cases c with
    |calm=>exact next (CK:=.calm) (fc.refl w) H h
    |KT v=>exact next (CK:=.done v) (fc.refl w) H h
    |done v=>exact next (CK:=.done v) (fc.refl w) H h
   .rw[ag (by rw[d];simp)];exact next (fc.refl w) H h
  .rcases iX g h with⟨d,b,H,h⟩|⟨d,b,H,h⟩
   .rw[af d];obtain⟨x,w',A,r,R⟩:=nH _ _ _ (IZ H.fits h) w rfl;rw[A];cases x with
    |value v=>exact next R H (oZ (F:=λv=>hT n b o.dst v λb=>iK P n O ty rest c b w'.heap K) r)
    |skip=>exact next R H (oZ (F:=λv=>hT n b o.dst v λb=>iK P n O ty rest c b w'.heap K) r)
    |enter f args=>
     refine(r w' rfl).mono ?_;rintro e W ⟨v,rfl,t,l⟩;exact next (R.trans l) H (oZ t)
    |_=>exact r.elim
   .rw[ag (by rw[d];simp)];exact next (fc.refl w) H h
def thenS(K:RS->Env->ai->Prop)(Q:Exit->RS->Env->ai->Prop):Exit->RS->Env->ai->Prop
 | .normal=>K
 |e=>Q e
def EZ(P:Program)(n:Nat):sf->Code->(Exit->RS->Env->ai->Prop)->RS->Env->ai->Prop
 | .seq a b,c,Q,f,σ,h=>(match c with
  | .seq c d=>EZ P n a c (thenS (λCK g h'=>EZ P n b d Q CK g h') Q) f σ h
  |_=>False)
 | .typed ty,c,Q,f,σ,h=>(match c with
  | .region _ o false=>iK P n o ty o.toList f σ h (Q .normal)
  |_=>False)
 | .leaf,c,Q,f,σ,h=>(match c with
  | .region _ o false=>iK P n o [] o.toList f σ h (Q .normal)
  |c=>den P n .leaf none c (λe g h'=>Q e f g h') σ h)
 |Vx,c,Q,f,σ,h=>den P n Vx none c (λe g h'=>Q e f g h') σ h
theorem Nv{P:Program}{n:Nat}{c0:Frame}{cs0:List Frame}: ∀(A:sf)(c:Code)(Q:Exit->RS->Env->ai->Prop)(f:RS)(σ:Env)(a:Act)(w:World),Rel n σ a->EZ P n A c Q f σ w.heap->
  c.wpS P (Rj n a w (writes c) c0 cs0 Q) a ({ c0 with mode:=f.mode } ::cs0) w:=by
 have mono: ∀{c:Code}{Q J:Exit->Act->List Frame->World->Prop}{a:Act}{cs:List Frame}{w:World},c.wpS P Q a cs w->(∀e a cs w,Q e a cs w->J e a cs w)->c.wpS P J a cs w:=
  λh i b k K H=>let ⟨e,B,E,w',q,r⟩:=h b k K H;⟨e,B,E,w',i _ _ _ _ q,r⟩
 have j: ∀(A:sf)(c:Code)(Q:Exit->RS->Env->ai->Prop)(f:RS)(σ:Env)(a:Act)(w:World),Rel n σ a->den P n A none c (λe g h'=>Q e f g h') σ w.heap->
   c.wpS P (Rj n a w (writes c) c0 cs0 Q) a ({ c0 with mode:=f.mode } ::cs0) w:=λA c Q f σ a w H h=>
  wpS_of_wp (wp_mono (jI A none c _ σ a w H h).wp λe B w' ⟨g,C,F,D,G⟩=>⟨f,g,rfl,C,F,D,G⟩)
 have R: ∀(id:Nat)(o:Array Oper)(ty:List (Nat×Sh))(Q:Exit->RS->Env->ai->Prop)(f:RS)(σ:Env)(a:Act)(w:World),Rel n σ a->iK P n o ty o.toList f σ w.heap (Q .normal)->
   (Code.region id o false).wpS P (Rj n a w (cx o) c0 cs0 Q) a ({ c0 with mode:=f.mode } ::cs0) w:=λid o ty Q f σ a w H h=>by
  refine mono (wpS_region (Q:=Rj n a w (cx o) c0 cs0 (KU (Q .normal))) ?_) ?_
  .have:=xF (c0:=c0) (cs0:=cs0) (a0:=a) (w0:=w) o.toList 0 f σ a w bM H (fc.refl w) (eV.refl _ _) h;rw[fu];rw[dQ]at this;exact this
  .rintro e B E w' ⟨CK,g,C,F,D,G⟩;cases e with
   |normal=>exact⟨CK,g,C,F,D,G⟩
   |_=>exact D.elim
 intro A;induction A with
 |seq x y T U=>
  intro c Q f σ a w H h;unfold EZ at h;split at h
  .rename_i c d;have m: ∀t,t∈writes c->t∈writes (.seq c d):=λt I=>dI _ I
   refine wpS_seq (mono (T c _ f σ a w H h) ?_);rintro e B E w' ⟨CK,g,rfl,s,i,u,v⟩;cases e with
   |normal=>
    refine mono (U d Q CK g B w' s i) ?_;rintro e2 X Z w2 ⟨V,W,C,N,M,O,S⟩;exact⟨V,W,C,N,M,u.trans O,(v.mono m).trans (S.mono λt I=>dV _ I)⟩
   |exit id=>exact⟨CK,g,rfl,s,i,u,v.mono m⟩
   |goto l=>exact⟨CK,g,rfl,s,i,u,v.mono m⟩
   |ret=>exact⟨CK,g,rfl,s,i,u,v.mono m⟩
   |panic Y=>exact⟨CK,g,rfl,s,i,u,v.mono m⟩
   |outgrown=>exact⟨CK,g,rfl,s,i,u,v.mono m⟩
  .exact h.elim
 |typed ty=>
  intro c Q f σ a w H h;unfold EZ at h;split at h
  .exact R _ _ ty Q f σ a w H h
  .exact h.elim
 |leaf=>
  intro c Q f σ a w H h;unfold EZ at h;split at h
  .exact R _ _ [] Q f σ a w H h
  .exact j .leaf c Q f σ a w H h
 |cond x y=>exact λc Q f σ a w H h=>j _ c Q f σ a w H h
 |block x=>exact λc Q f σ a w H h=>j _ c Q f σ a w H h
 |loop L x=>exact λc Q f σ a w H h=>j _ c Q f σ a w H h
 |join L x=>exact λc Q f σ a w H h=>j _ c Q f σ a w H h
 |gS p=>exact λc Q f σ a w H h=>j _ c Q f σ a w H h
 |jk p=>exact λc Q f σ a w H h=>j _ c Q f σ a w H h
 |scope z L x y=>exact λc Q f σ a w H h=>j _ c Q f σ a w H h
def Tw(P:Program)(r:Array ResultVar)(K:Option Value->ai->Prop):Exit->RS->Env->ai->Prop
 | .normal,a,σ,h=>rF P r.toList σ h λ_=>K a.left h
 | .ret,a,σ,h=>rF P r.toList σ h λ_=>K a.left h
 |_,_,_,_=>False
theorem pq{P:Program}{f:FuncId}{a:Func}{args:List Value}{rv:Option Value}{h:ai}{K:Option Value->ai->Prop}(j:sf)(x:P.funcs[f]? =some a)(g:a.body.isSome=true)(n:Nat.ble args.length a.ntmps=true)(hd:EZ P a.ntmps j (rH a) (Tw P a.results K) (RS.of rv) (lj args) h):pn P f args.toArray rv h K:=by
 obtain⟨c,m⟩:=eL.1 g;rw[rH,m]at hd;intro w I;subst I;have n:=Nat.le_of_ble_eq_true n;refine callsD_of_wpS x m λc0 cs B=> ?_
 have E:c0= { c0 with mode:=(RS.of rv).mode } :=by rw[RS.Nu,<-B]
 have C:Rel a.ntmps (lj args) { tmps:=args.toArray++Array.replicate (a.ntmps - args.toArray.size) undef,defers:= [] } :=by
  refine⟨rfl,by simp;omega,λt v i=> ?_⟩;unfold lj at i;have z:t<args.length:=(aC.1 i).1;simp only[eu];rw[dv (cD z)];simp[i]
 have key:=Nv (c0:=c0) (cs0:=cs) j c _ (RS.of rv) _ _ w C hd;rw[<-E]at key;intro b k g D;obtain⟨e,A,L,w',⟨d,σ,rfl,o,H,G,_⟩,s⟩:=key b k g D;refine⟨e,A,_,w',?_,s⟩;have fin:(rF P a.results.toList σ w'.heap λ_=>K d.left w'.heap)->A.defers= []/\∃u,({ c0 with mode:=d.mode } ::cs:List Frame)= { c0 with mode:=u } ::cs/\∃v,(results a A.tmps).run P w'=.ok v w'/\(∃V,Ending.returned v=.returned V)/\fc w w'/\∃r,Go.settle u=vL r/\K r w'.heap:=λy=>by
  obtain⟨v,p,q⟩:=rG (F:=λ_=>K d.left w'.heap) o y;exact⟨o.defers,d.mode,rfl,v,oT _ _ _ q,⟨v,rfl⟩,G,d.left,RS.settle d,p⟩
 cases e with
 |normal=>exact fin H
 |ret=>exact fin H
 |exit id=>exact H.elim
 |goto l=>exact H.elim
 |panic J=>exact H.elim
 |outgrown=>exact H.elim
end Go.Den
namespace Go.Proofs.YtlenamcfacpheaaGreatDoor
open Go.Den
open IntKind (wrap)
open Int (toNat)
abbrev Cl:=ar Tryz.prog
abbrev Ce:=gT Tryz.prog
abbrev E0:List Nat:= [243,281,282,283,284,311]
abbrev fC.LD(h:ai)(a:Addr)(K:Int->Int->Int->Int->Int->Int->Prop):Prop:= ∃(t0:Int),aB h a=some (.int .i64 t0)/\∃(t1:Int),aB h (a.add 1)=some (.int .i64 t1)/\∃(t2:Int),aB h (a.add 2)=some (.int .i64 t2)/\∃(t3:Int),aB h (a.add 3)=some (.int .i64 t3)/\∃(t4:Int),aB h (a.add 4)=some (.int .i64 t4)/\∃(t5:Int),aB h (a.add 5)=some (.int .i64 t5)/\K t0 t1 t2 t3 t4 t5
abbrev fC.ST(h:ai)(a:Addr)(f0:Int)(f1:Int)(f2:Int)(f3:Int)(f4:Int)(f5:Int)(K:ai->Prop):Prop:=aE h a (.int .i64 f0) λH=>aE H (a.add 1) (.int .i64 f1) λb=>aE b (a.add 2) (.int .i64 f2) λc=>aE c (a.add 3) (.int .i64 f3) λd=>aE d (a.add 4) (.int .i64 f4) λe=>aE e (a.add 5) (.int .i64 f5) λf=>K f
abbrev aa.LD(h:ai)(a:Addr)(K:Int->Int->cj->Nat->Nat->cj->Nat->Nat->Prop):Prop:= ∃(t0:Int),aB h a=some (.int .i64 t0)/\∃(t1:Int),aB h (a.add 1)=some (.int .u64 t1)/\∃(b:cj)(T t:Nat),aB h (a.add 2)=some (.slice b T t)/\∃(e:cj)(d c:Nat),aB h (a.add 3)=some (.slice e d c)/\K t0 t1 b T t e d c
abbrev aa.ST(h:ai)(a:Addr)(f0:Int)(f1:Int)(lY:cj)(lV lZ:Nat)(sg:cj)(nC qF:Nat)(K:ai->Prop):Prop:=aE h a (.int .i64 f0) λH=>aE H (a.add 1) (.int .u64 f1) λb=>aE b (a.add 2) (.slice lY lV lZ) λc=>aE c (a.add 3) (.slice sg nC qF) λd=>K d
abbrev aL.LD(h:ai)(a:Addr)(K:Int->Bool->Int->Int->ByteArray->ByteArray->cj->Nat->Nat->Int->Int->Int->Prop):Prop:= ∃(t0:Int),aB h a=some (.int .i64 t0)/\∃(t1:Bool),aB h (a.add 1)=some (.bool t1)/\∃(t2:Int),aB h (a.add 2)=some (.int .u64 t2)/\∃(t3:Int),aB h (a.add 3)=some (.int .u64 t3)/\∃(t4:ByteArray),aB h (a.add 4)=some (.string t4)/\∃(t5:ByteArray),aB h (a.add 5)=some (.string t5)/\∃(b:cj)(T t:Nat),aB h (a.add 6)=some (.slice b T t)/\∃(t7:Int),aB h (a.add 7)=some (.int .u64 t7)/\∃(t8:Int),aB h (a.add 8)=some (.int .i64 t8)/\∃(t9:Int),aB h (a.add 9)=some (.int .u64 t9)/\K t0 t1 t2 t3 t4 t5 b T t t7 t8 t9
abbrev aL.ST(h:ai)(a:Addr)(f0:Int)(f1:Bool)(f2:Int)(f3:Int)(f4:ByteArray)(f5:ByteArray)(zt:cj)(zu zx:Nat)(f7:Int)(f8:Int)(f9:Int)(K:ai->Prop):Prop:=aE h a (.int .i64 f0) λH=>aE H (a.add 1) (.bool f1) λc=>aE c (a.add 2) (.int .u64 f2) λd=>aE d (a.add 3) (.int .u64 f3) λe=>aE e (a.add 4) (.string f4) λf=>aE f (a.add 5) (.string f5) λg=>aE g (a.add 6) (.slice zt zu zx) λi=>aE i (a.add 7) (.int .u64 f7) λj=>aE j (a.add 8) (.int .i64 f8) λk=>aE k (a.add 9) (.int .u64 f9) λb=>K b
abbrev ax.LD(h:ai)(a:Addr)(K:Bool->Int->Int->ByteArray->ByteArray->Prop):Prop:= ∃(t0:Bool),aB h a=some (.bool t0)/\∃(t1:Int),aB h (a.add 1)=some (.int .u64 t1)/\∃(t2:Int),aB h (a.add 2)=some (.int .u64 t2)/\∃(t3:ByteArray),aB h (a.add 3)=some (.string t3)/\∃(t4:ByteArray),aB h (a.add 4)=some (.string t4)/\K t0 t1 t2 t3 t4
abbrev bp.LD(h:ai)(a:Addr)(K:Int->Int->Bool->Prop):Prop:= ∃(t0:Int),aB h a=some (.int .i64 t0)/\∃(t1:Int),aB h (a.add 1)=some (.int .u64 t1)/\∃(t2:Bool),aB h (a.add 2)=some (.bool t2)/\K t0 t1 t2
abbrev bp.ST(h:ai)(a:Addr)(f0:Int)(f1:Int)(f2:Bool)(K:ai->Prop):Prop:=aE h a (.int .i64 f0) λH=>aE H (a.add 1) (.int .u64 f1) λb=>aE b (a.add 2) (.bool f2) λc=>K c
abbrev ah.LD(h:ai)(a:Addr)(K:Bool->Int->Int->ByteArray->ByteArray->Int->Int->Prop):Prop:= ∃(t0:Bool),aB h a=some (.bool t0)/\∃(t1:Int),aB h (a.add 1)=some (.int .u64 t1)/\∃(t2:Int),aB h (a.add 2)=some (.int .u64 t2)/\∃(t3:ByteArray),aB h (a.add 3)=some (.string t3)/\∃(t4:ByteArray),aB h (a.add 4)=some (.string t4)/\∃(t5:Int),aB h (a.add 5)=some (.int .u64 t5)/\∃(t6:Int),aB h (a.add 6)=some (.int .u64 t6)/\K t0 t1 t2 t3 t4 t5 t6
abbrev ah.ST(h:ai)(a:Addr)(f0:Bool)(f1:Int)(f2:Int)(f3:ByteArray)(f4:ByteArray)(f5:Int)(f6:Int)(K:ai->Prop):Prop:=aE h a (.bool f0) λH=>aE H (a.add 1) (.int .u64 f1) λb=>aE b (a.add 2) (.int .u64 f2) λc=>aE c (a.add 3) (.string f3) λd=>aE d (a.add 4) (.string f4) λe=>aE e (a.add 5) (.int .u64 f5) λf=>aE f (a.add 6) (.int .u64 f6) λg=>K g
abbrev aU.LD(h:ai)(a:Addr)(K:Int->Int->cj->Nat->Nat->Int->Prop):Prop:= ∃(t0:Int),aB h a=some (.int .i64 t0)/\∃(t1:Int),aB h (a.add 1)=some (.int .i64 t1)/\∃(b:cj)(T t:Nat),aB h (a.add 2)=some (.slice b T t)/\∃(t3:Int),aB h (a.add 3)=some (.int .u64 t3)/\K t0 t1 b T t t3
abbrev aU.ST(h:ai)(a:Addr)(f0:Int)(f1:Int)(lY:cj)(lV lZ:Nat)(f3:Int)(K:ai->Prop):Prop:=aE h a (.int .i64 f0) λH=>aE H (a.add 1) (.int .i64 f1) λb=>aE b (a.add 2) (.slice lY lV lZ) λc=>aE c (a.add 3) (.int .u64 f3) λd=>K d
abbrev bQ.LD(h:ai)(a:Addr)(K:Bool->Int->Int->ByteArray->ByteArray->Int->Int->Prop):Prop:= ∃(t0:Bool),aB h a=some (.bool t0)/\∃(t1:Int),aB h (a.add 1)=some (.int .u64 t1)/\∃(t2:Int),aB h (a.add 2)=some (.int .u64 t2)/\∃(t3:ByteArray),aB h (a.add 3)=some (.string t3)/\∃(t4:ByteArray),aB h (a.add 4)=some (.string t4)/\∃(t5:Int),aB h (a.add 5)=some (.int .i64 t5)/\∃(t6:Int),aB h (a.add 6)=some (.int .i64 t6)/\K t0 t1 t2 t3 t4 t5 t6
abbrev bQ.ST(h:ai)(a:Addr)(f0:Bool)(f1:Int)(f2:Int)(f3:ByteArray)(f4:ByteArray)(f5:Int)(f6:Int)(K:ai->Prop):Prop:=aE h a (.bool f0) λH=>aE H (a.add 1) (.int .u64 f1) λb=>aE b (a.add 2) (.int .u64 f2) λc=>aE c (a.add 3) (.string f3) λd=>aE d (a.add 4) (.string f4) λe=>aE e (a.add 5) (.int .i64 f5) λf=>aE f (a.add 6) (.int .i64 f6) λg=>K g
abbrev ak.LD(h:ai)(a:Addr)(K:Int->Int->Int->Int->Int->cj->Nat->Nat->Prop):Prop:= ∃(t0:Int),aB h a=some (.int .u64 t0)/\∃(t1:Int),aB h (a.add 1)=some (.int .i64 t1)/\∃(t2:Int),aB h (a.add 2)=some (.int .i64 t2)/\∃(t3:Int),aB h (a.add 3)=some (.int .i64 t3)/\∃(t4:Int),aB h (a.add 4)=some (.int .u64 t4)/\∃(b:cj)(T t:Nat),aB h (a.add 5)=some (.slice b T t)/\K t0 t1 t2 t3 t4 b T t
abbrev ak.ST(h:ai)(a:Addr)(f0:Int)(f1:Int)(f2:Int)(f3:Int)(f4:Int)(vM:cj)(f5l vN:Nat)(K:ai->Prop):Prop:=aE h a (.int .u64 f0) λH=>aE H (a.add 1) (.int .i64 f1) λb=>aE b (a.add 2) (.int .i64 f2) λc=>aE c (a.add 3) (.int .i64 f3) λd=>aE d (a.add 4) (.int .u64 f4) λe=>aE e (a.add 5) (.slice vM f5l vN) λf=>K f
abbrev cp.LD(h:ai)(a:Addr)(K:Int->cj->Nat->Nat->Prop):Prop:= ∃(t0:Int),aB h a=some (.int .u64 t0)/\∃(b:cj)(T t:Nat),aB h (a.add 1)=some (.slice b T t)/\K t0 b T t
abbrev cp.ST(h:ai)(a:Addr)(f0:Int)(b:cj)(F f:Nat)(K:ai->Prop):Prop:=aE h a (.int .u64 f0) λH=>aE H (a.add 1) (.slice b F f) λc=>K c
structure eM.S where
 f0:Int
 f1:Int
 f2:Bool
 f3:Int
 f4:Int
 f5:ByteArray
 f6:ByteArray
 f7:Bool
 f8:Int
 f9:Int
 f10:ByteArray
 f11:ByteArray
 f12:Bool
 f13:Int
 f14:Int
 f15:ByteArray
 f16:ByteArray
 f17:Int
 f18:Int
 f19:Int
 Dg:cj
 zy:Nat
 Dh:Nat
 f21:cj
 Qo:cj
 Qp:Nat
 Qq:Nat
abbrev eM.S.l(x:eM.S):List Value:= [.int .u64 x.f0,.int .i64 x.f1,.bool x.f2,.int .u64 x.f3,.int .u64 x.f4,.string x.f5,.string x.f6,.bool x.f7,.int .u64 x.f8,.int .u64 x.f9,.string x.f10,.string x.f11,.bool x.f12,.int .u64 x.f13,.int .u64 x.f14,.string x.f15,.string x.f16,.int .u64 x.f17,.int .u64 x.f18,.int .u64 x.f19,.slice x.Dg x.zy x.Dh,.pointer x.f21,.slice x.Qo x.Qp x.Qq]
abbrev eM.S.arr(x:eM.S):Array Value:= #[.int .u64 x.f0,.int .i64 x.f1,.bool x.f2,.int .u64 x.f3,.int .u64 x.f4,.string x.f5,.string x.f6,.bool x.f7,.int .u64 x.f8,.int .u64 x.f9,.string x.f10,.string x.f11,.bool x.f12,.int .u64 x.f13,.int .u64 x.f14,.string x.f15,.string x.f16,.int .u64 x.f17,.int .u64 x.f18,.int .u64 x.f19,.slice x.Dg x.zy x.Dh,.pointer x.f21,.slice x.Qo x.Qp x.Qq]
abbrev eM.S.agg(x:eM.S):Value:=.agg #[.int .u64 x.f0,.int .i64 x.f1,.bool x.f2,.int .u64 x.f3,.int .u64 x.f4,.string x.f5,.string x.f6,.bool x.f7,.int .u64 x.f8,.int .u64 x.f9,.string x.f10,.string x.f11,.bool x.f12,.int .u64 x.f13,.int .u64 x.f14,.string x.f15,.string x.f16,.int .u64 x.f17,.int .u64 x.f18,.int .u64 x.f19,.slice x.Dg x.zy x.Dh,.pointer x.f21,.slice x.Qo x.Qp x.Qq]
abbrev eM.S.z:eM.S:=⟨0,0,false,0,0,(⟨#[]⟩:ByteArray),(⟨#[]⟩:ByteArray),false,0,0,(⟨#[]⟩:ByteArray),(⟨#[]⟩:ByteArray),false,0,0,(⟨#[]⟩:ByteArray),(⟨#[]⟩:ByteArray),0,0,0,none,0,0,none,none,0,0⟩
abbrev eM.EX(K:eM.S->Prop):Prop:= ∃(t0:Int),∃(t1:Int),∃(t2:Bool),∃(t3:Int),∃(t4:Int),∃(t5:ByteArray),∃(t6:ByteArray),∃(t7:Bool),∃(t8:Int),∃(t9:Int),∃(t10:ByteArray),∃(t11:ByteArray),∃(t12:Bool),∃(t13:Int),∃(t14:Int),∃(t15:ByteArray),∃(t16:ByteArray),∃(t17:Int),∃(t18:Int),∃(t19:Int),∃(a:cj)(T t:Nat),∃(t21:cj),∃(d:cj)(c b:Nat),K ⟨t0,t1,t2,t3,t4,t5,t6,t7,t8,t9,t10,t11,t12,t13,t14,t15,t16,t17,t18,t19,a,T,t,t21,d,c,b⟩
structure bW.S where
 f0:Int
 f1:Int
 f2:Bool
 f3:Int
 f4:Int
 f5:ByteArray
 f6:ByteArray
 f7:Bool
 f8:Int
 f9:Int
 f10:ByteArray
 f11:ByteArray
 f12:Int
 f13:Int
 f14:Int
 By:cj
 zA:Nat
 Bz:Nat
 f16:Int
 f17:Int
 f18:Bool
 f19:cj
 f20:Int
abbrev bW.S.l(x:bW.S):List Value:= [.int .u64 x.f0,.int .i64 x.f1,.bool x.f2,.int .u64 x.f3,.int .u64 x.f4,.string x.f5,.string x.f6,.bool x.f7,.int .u64 x.f8,.int .u64 x.f9,.string x.f10,.string x.f11,.int .i64 x.f12,.int .i64 x.f13,.int .i64 x.f14,.slice x.By x.zA x.Bz,.int .u64 x.f16,.int .u64 x.f17,.bool x.f18,.pointer x.f19,.int .i64 x.f20]
abbrev bW.S.arr(x:bW.S):Array Value:= #[.int .u64 x.f0,.int .i64 x.f1,.bool x.f2,.int .u64 x.f3,.int .u64 x.f4,.string x.f5,.string x.f6,.bool x.f7,.int .u64 x.f8,.int .u64 x.f9,.string x.f10,.string x.f11,.int .i64 x.f12,.int .i64 x.f13,.int .i64 x.f14,.slice x.By x.zA x.Bz,.int .u64 x.f16,.int .u64 x.f17,.bool x.f18,.pointer x.f19,.int .i64 x.f20]
abbrev bW.S.agg(x:bW.S):Value:=.agg #[.int .u64 x.f0,.int .i64 x.f1,.bool x.f2,.int .u64 x.f3,.int .u64 x.f4,.string x.f5,.string x.f6,.bool x.f7,.int .u64 x.f8,.int .u64 x.f9,.string x.f10,.string x.f11,.int .i64 x.f12,.int .i64 x.f13,.int .i64 x.f14,.slice x.By x.zA x.Bz,.int .u64 x.f16,.int .u64 x.f17,.bool x.f18,.pointer x.f19,.int .i64 x.f20]
abbrev bW.S.z:bW.S:=⟨0,0,false,0,0,(⟨#[]⟩:ByteArray),(⟨#[]⟩:ByteArray),false,0,0,(⟨#[]⟩:ByteArray),(⟨#[]⟩:ByteArray),0,0,0,none,0,0,0,0,false,none,0⟩
abbrev bW.EX(K:bW.S->Prop):Prop:= ∃(t0:Int),∃(t1:Int),∃(t2:Bool),∃(t3:Int),∃(t4:Int),∃(t5:ByteArray),∃(t6:ByteArray),∃(t7:Bool),∃(t8:Int),∃(t9:Int),∃(t10:ByteArray),∃(t11:ByteArray),∃(t12:Int),∃(t13:Int),∃(t14:Int),∃(a:cj)(T t:Nat),∃(t16:Int),∃(t17:Int),∃(t18:Bool),∃(t19:cj),∃(t20:Int),K ⟨t0,t1,t2,t3,t4,t5,t6,t7,t8,t9,t10,t11,t12,t13,t14,a,T,t,t16,t17,t18,t19,t20⟩
abbrev bW.cG(h:ai)(a:Addr)(K:bW.S->Prop):Prop:= ∃(t0:Int),aB h a=some (.int .u64 t0)/\∃(t1:Int),aB h (a.add 1)=some (.int .i64 t1)/\∃(t2:Bool),aB h (a.add 2)=some (.bool t2)/\∃(t3:Int),aB h (a.add 3)=some (.int .u64 t3)/\∃(t4:Int),aB h (a.add 4)=some (.int .u64 t4)/\∃(t5:ByteArray),aB h (a.add 5)=some (.string t5)/\∃(t6:ByteArray),aB h (a.add 6)=some (.string t6)/\∃(t7:Bool),aB h (a.add 7)=some (.bool t7)/\∃(t8:Int),aB h (a.add 8)=some (.int .u64 t8)/\∃(t9:Int),aB h (a.add 9)=some (.int .u64 t9)/\∃(t10:ByteArray),aB h (a.add 10)=some (.string t10)/\∃(t11:ByteArray),aB h (a.add 11)=some (.string t11)/\∃(t12:Int),aB h (a.add 12)=some (.int .i64 t12)/\∃(t13:Int),aB h (a.add 13)=some (.int .i64 t13)/\∃(t14:Int),aB h (a.add 14)=some (.int .i64 t14)/\∃(b:cj)(T t:Nat),aB h (a.add 15)=some (.slice b T t)/\∃(t16:Int),aB h (a.add 16)=some (.int .u64 t16)/\∃(t17:Int),aB h (a.add 17)=some (.int .u64 t17)/\∃(t18:Bool),aB h (a.add 18)=some (.bool t18)/\∃(t19:cj),aB h (a.add 19)=some (.pointer t19)/\∃(t20:Int),aB h (a.add 20)=some (.int .i64 t20)/\K ⟨t0,t1,t2,t3,t4,t5,t6,t7,t8,t9,t10,t11,t12,t13,t14,b,T,t,t16,t17,t18,t19,t20⟩
structure av.S where
 f0:Int
 f1:Int
 f2:Bool
 f3:Int
 f4:Int
 f5:ByteArray
 f6:ByteArray
 f7:Bool
 f8:Int
 f9:Int
 f10:ByteArray
 f11:ByteArray
 f12:Bool
 f13:Int
 f14:Int
 f15:ByteArray
 f16:ByteArray
 f17:Int
 f18:Int
 f19:Int
 Dg:cj
 zy:Nat
 Dh:Nat
abbrev av.S.l(x:av.S):List Value:= [.int .u64 x.f0,.int .i64 x.f1,.bool x.f2,.int .u64 x.f3,.int .u64 x.f4,.string x.f5,.string x.f6,.bool x.f7,.int .u64 x.f8,.int .u64 x.f9,.string x.f10,.string x.f11,.bool x.f12,.int .u64 x.f13,.int .u64 x.f14,.string x.f15,.string x.f16,.int .u64 x.f17,.int .u64 x.f18,.int .u64 x.f19,.slice x.Dg x.zy x.Dh]
abbrev av.S.arr(x:av.S):Array Value:= #[.int .u64 x.f0,.int .i64 x.f1,.bool x.f2,.int .u64 x.f3,.int .u64 x.f4,.string x.f5,.string x.f6,.bool x.f7,.int .u64 x.f8,.int .u64 x.f9,.string x.f10,.string x.f11,.bool x.f12,.int .u64 x.f13,.int .u64 x.f14,.string x.f15,.string x.f16,.int .u64 x.f17,.int .u64 x.f18,.int .u64 x.f19,.slice x.Dg x.zy x.Dh]
abbrev av.S.agg(x:av.S):Value:=.agg #[.int .u64 x.f0,.int .i64 x.f1,.bool x.f2,.int .u64 x.f3,.int .u64 x.f4,.string x.f5,.string x.f6,.bool x.f7,.int .u64 x.f8,.int .u64 x.f9,.string x.f10,.string x.f11,.bool x.f12,.int .u64 x.f13,.int .u64 x.f14,.string x.f15,.string x.f16,.int .u64 x.f17,.int .u64 x.f18,.int .u64 x.f19,.slice x.Dg x.zy x.Dh]
abbrev av.S.z:av.S:=⟨0,0,false,0,0,(⟨#[]⟩:ByteArray),(⟨#[]⟩:ByteArray),false,0,0,(⟨#[]⟩:ByteArray),(⟨#[]⟩:ByteArray),false,0,0,(⟨#[]⟩:ByteArray),(⟨#[]⟩:ByteArray),0,0,0,none,0,0⟩
abbrev av.EX(K:av.S->Prop):Prop:= ∃(t0:Int),∃(t1:Int),∃(t2:Bool),∃(t3:Int),∃(t4:Int),∃(t5:ByteArray),∃(t6:ByteArray),∃(t7:Bool),∃(t8:Int),∃(t9:Int),∃(t10:ByteArray),∃(t11:ByteArray),∃(t12:Bool),∃(t13:Int),∃(t14:Int),∃(t15:ByteArray),∃(t16:ByteArray),∃(t17:Int),∃(t18:Int),∃(t19:Int),∃(a:cj)(T t:Nat),K ⟨t0,t1,t2,t3,t4,t5,t6,t7,t8,t9,t10,t11,t12,t13,t14,t15,t16,t17,t18,t19,a,T,t⟩
abbrev av.cG(h:ai)(a:Addr)(K:av.S->Prop):Prop:= ∃(t0:Int),aB h a=some (.int .u64 t0)/\∃(t1:Int),aB h (a.add 1)=some (.int .i64 t1)/\∃(t2:Bool),aB h (a.add 2)=some (.bool t2)/\∃(t3:Int),aB h (a.add 3)=some (.int .u64 t3)/\∃(t4:Int),aB h (a.add 4)=some (.int .u64 t4)/\∃(t5:ByteArray),aB h (a.add 5)=some (.string t5)/\∃(t6:ByteArray),aB h (a.add 6)=some (.string t6)/\∃(t7:Bool),aB h (a.add 7)=some (.bool t7)/\∃(t8:Int),aB h (a.add 8)=some (.int .u64 t8)/\∃(t9:Int),aB h (a.add 9)=some (.int .u64 t9)/\∃(t10:ByteArray),aB h (a.add 10)=some (.string t10)/\∃(t11:ByteArray),aB h (a.add 11)=some (.string t11)/\∃(t12:Bool),aB h (a.add 12)=some (.bool t12)/\∃(t13:Int),aB h (a.add 13)=some (.int .u64 t13)/\∃(t14:Int),aB h (a.add 14)=some (.int .u64 t14)/\∃(t15:ByteArray),aB h (a.add 15)=some (.string t15)/\∃(t16:ByteArray),aB h (a.add 16)=some (.string t16)/\∃(t17:Int),aB h (a.add 17)=some (.int .u64 t17)/\∃(t18:Int),aB h (a.add 18)=some (.int .u64 t18)/\∃(t19:Int),aB h (a.add 19)=some (.int .u64 t19)/\∃(b:cj)(T t:Nat),aB h (a.add 20)=some (.slice b T t)/\K ⟨t0,t1,t2,t3,t4,t5,t6,t7,t8,t9,t10,t11,t12,t13,t14,t15,t16,t17,t18,t19,b,T,t⟩
abbrev av.cY(h:ai)(a:Addr)(x:av.S)(K:ai->Prop):Prop:=aE h a (.int .u64 x.f0) λH=>aE H (a.add 1) (.int .i64 x.f1) λm=>aE m (a.add 2) (.bool x.f2) λp=>aE p (a.add 3) (.int .u64 x.f3) λq=>aE q (a.add 4) (.int .u64 x.f4) λr=>aE r (a.add 5) (.string x.f5) λs=>aE s (a.add 6) (.string x.f6) λt=>aE t (a.add 7) (.bool x.f7) λu=>aE u (a.add 8) (.int .u64 x.f8) λv=>aE v (a.add 9) (.int .u64 x.f9) λb=>aE b (a.add 10) (.string x.f10) λc=>aE c (a.add 11) (.string x.f11) λd=>aE d (a.add 12) (.bool x.f12) λe=>aE e (a.add 13) (.int .u64 x.f13) λf=>aE f (a.add 14) (.int .u64 x.f14) λg=>aE g (a.add 15) (.string x.f15) λi=>aE i (a.add 16) (.string x.f16) λj=>aE j (a.add 17) (.int .u64 x.f17) λk=>aE k (a.add 18) (.int .u64 x.f18) λl=>aE l (a.add 19) (.int .u64 x.f19) λn=>aE n (a.add 20) (.slice x.Dg x.zy x.Dh) λo=>K o
structure aG.S where
 f0:Int
 f1:Int
 f2:Int
 f3:Int
 Nw:cj
 Nx:Nat
 Ny:Nat
abbrev aG.S.l(x:aG.S):List Value:= [.int .u64 x.f0,.int .u64 x.f1,.int .u64 x.f2,.int .i64 x.f3,.slice x.Nw x.Nx x.Ny]
abbrev aG.S.arr(x:aG.S):Array Value:= #[.int .u64 x.f0,.int .u64 x.f1,.int .u64 x.f2,.int .i64 x.f3,.slice x.Nw x.Nx x.Ny]
abbrev aG.S.agg(x:aG.S):Value:=.agg #[.int .u64 x.f0,.int .u64 x.f1,.int .u64 x.f2,.int .i64 x.f3,.slice x.Nw x.Nx x.Ny]
abbrev aG.S.z:aG.S:=⟨0,0,0,0,none,0,0⟩
abbrev aG.EX(K:aG.S->Prop):Prop:= ∃(t0:Int),∃(t1:Int),∃(t2:Int),∃(t3:Int),∃(a:cj)(T t:Nat),K ⟨t0,t1,t2,t3,a,T,t⟩
abbrev aG.cG(h:ai)(a:Addr)(K:aG.S->Prop):Prop:= ∃(t0:Int),aB h a=some (.int .u64 t0)/\∃(t1:Int),aB h (a.add 1)=some (.int .u64 t1)/\∃(t2:Int),aB h (a.add 2)=some (.int .u64 t2)/\∃(t3:Int),aB h (a.add 3)=some (.int .i64 t3)/\∃(b:cj)(T t:Nat),aB h (a.add 4)=some (.slice b T t)/\K ⟨t0,t1,t2,t3,b,T,t⟩
abbrev aG.cY(h:ai)(a:Addr)(x:aG.S)(K:ai->Prop):Prop:=aE h a (.int .u64 x.f0) λH=>aE H (a.add 1) (.int .u64 x.f1) λb=>aE b (a.add 2) (.int .u64 x.f2) λc=>aE c (a.add 3) (.int .i64 x.f3) λd=>aE d (a.add 4) (.slice x.Nw x.Nx x.Ny) λe=>K e
structure aa.S where
 f0:Int
 f1:Int
 lY:cj
 lV:Nat
 lZ:Nat
 sg:cj
 nC:Nat
 qF:Nat
abbrev aa.S.l(x:aa.S):List Value:= [.int .i64 x.f0,.int .u64 x.f1,.slice x.lY x.lV x.lZ,.slice x.sg x.nC x.qF]
abbrev aa.S.arr(x:aa.S):Array Value:= #[.int .i64 x.f0,.int .u64 x.f1,.slice x.lY x.lV x.lZ,.slice x.sg x.nC x.qF]
abbrev aa.S.agg(x:aa.S):Value:=.agg #[.int .i64 x.f0,.int .u64 x.f1,.slice x.lY x.lV x.lZ,.slice x.sg x.nC x.qF]
abbrev aa.S.z:aa.S:=⟨0,0,none,0,0,none,0,0⟩
abbrev aa.EX(K:aa.S->Prop):Prop:= ∃(t0:Int),∃(t1:Int),∃(a:cj)(T t:Nat),∃(d:cj)(c b:Nat),K ⟨t0,t1,a,T,t,d,c,b⟩
abbrev aa.cG(h:ai)(a:Addr)(K:aa.S->Prop):Prop:= ∃(t0:Int),aB h a=some (.int .i64 t0)/\∃(t1:Int),aB h (a.add 1)=some (.int .u64 t1)/\∃(b:cj)(T t:Nat),aB h (a.add 2)=some (.slice b T t)/\∃(e:cj)(d c:Nat),aB h (a.add 3)=some (.slice e d c)/\K ⟨t0,t1,b,T,t,e,d,c⟩
abbrev aa.cY(h:ai)(a:Addr)(x:aa.S)(K:ai->Prop):Prop:=aE h a (.int .i64 x.f0) λH=>aE H (a.add 1) (.int .u64 x.f1) λb=>aE b (a.add 2) (.slice x.lY x.lV x.lZ) λc=>aE c (a.add 3) (.slice x.sg x.nC x.qF) λd=>K d
structure aL.S where
 f0:Int
 f1:Bool
 f2:Int
 f3:Int
 f4:ByteArray
 f5:ByteArray
 zt:cj
 zu:Nat
 zx:Nat
 f7:Int
 f8:Int
 f9:Int
abbrev aL.S.l(x:aL.S):List Value:= [.int .i64 x.f0,.bool x.f1,.int .u64 x.f2,.int .u64 x.f3,.string x.f4,.string x.f5,.slice x.zt x.zu x.zx,.int .u64 x.f7,.int .i64 x.f8,.int .u64 x.f9]
abbrev aL.S.arr(x:aL.S):Array Value:= #[.int .i64 x.f0,.bool x.f1,.int .u64 x.f2,.int .u64 x.f3,.string x.f4,.string x.f5,.slice x.zt x.zu x.zx,.int .u64 x.f7,.int .i64 x.f8,.int .u64 x.f9]
abbrev aL.S.agg(x:aL.S):Value:=.agg #[.int .i64 x.f0,.bool x.f1,.int .u64 x.f2,.int .u64 x.f3,.string x.f4,.string x.f5,.slice x.zt x.zu x.zx,.int .u64 x.f7,.int .i64 x.f8,.int .u64 x.f9]
abbrev aL.S.z:aL.S:=⟨0,false,0,0,(⟨#[]⟩:ByteArray),(⟨#[]⟩:ByteArray),none,0,0,0,0,0⟩
abbrev aL.EX(K:aL.S->Prop):Prop:= ∃(t0:Int),∃(t1:Bool),∃(t2:Int),∃(t3:Int),∃(t4:ByteArray),∃(t5:ByteArray),∃(a:cj)(T t:Nat),∃(t7:Int),∃(t8:Int),∃(t9:Int),K ⟨t0,t1,t2,t3,t4,t5,a,T,t,t7,t8,t9⟩
abbrev aL.cG(h:ai)(a:Addr)(K:aL.S->Prop):Prop:= ∃(t0:Int),aB h a=some (.int .i64 t0)/\∃(t1:Bool),aB h (a.add 1)=some (.bool t1)/\∃(t2:Int),aB h (a.add 2)=some (.int .u64 t2)/\∃(t3:Int),aB h (a.add 3)=some (.int .u64 t3)/\∃(t4:ByteArray),aB h (a.add 4)=some (.string t4)/\∃(t5:ByteArray),aB h (a.add 5)=some (.string t5)/\∃(b:cj)(T t:Nat),aB h (a.add 6)=some (.slice b T t)/\∃(t7:Int),aB h (a.add 7)=some (.int .u64 t7)/\∃(t8:Int),aB h (a.add 8)=some (.int .i64 t8)/\∃(t9:Int),aB h (a.add 9)=some (.int .u64 t9)/\K ⟨t0,t1,t2,t3,t4,t5,b,T,t,t7,t8,t9⟩
abbrev aL.cY(h:ai)(a:Addr)(x:aL.S)(K:ai->Prop):Prop:=aE h a (.int .i64 x.f0) λH=>aE H (a.add 1) (.bool x.f1) λc=>aE c (a.add 2) (.int .u64 x.f2) λd=>aE d (a.add 3) (.int .u64 x.f3) λe=>aE e (a.add 4) (.string x.f4) λf=>aE f (a.add 5) (.string x.f5) λg=>aE g (a.add 6) (.slice x.zt x.zu x.zx) λi=>aE i (a.add 7) (.int .u64 x.f7) λj=>aE j (a.add 8) (.int .i64 x.f8) λk=>aE k (a.add 9) (.int .u64 x.f9) λb=>K b
structure ax.S where
 f0:Bool
 f1:Int
 f2:Int
 f3:ByteArray
 f4:ByteArray
abbrev ax.S.l(x:ax.S):List Value:= [.bool x.f0,.int .u64 x.f1,.int .u64 x.f2,.string x.f3,.string x.f4]
abbrev ax.S.arr(x:ax.S):Array Value:= #[.bool x.f0,.int .u64 x.f1,.int .u64 x.f2,.string x.f3,.string x.f4]
abbrev ax.S.agg(x:ax.S):Value:=.agg #[.bool x.f0,.int .u64 x.f1,.int .u64 x.f2,.string x.f3,.string x.f4]
abbrev ax.S.z:ax.S:=⟨false,0,0,(⟨#[]⟩:ByteArray),(⟨#[]⟩:ByteArray)⟩
abbrev ax.EX(K:ax.S->Prop):Prop:= ∃(t0:Bool),∃(t1:Int),∃(t2:Int),∃(t3:ByteArray),∃(t4:ByteArray),K ⟨t0,t1,t2,t3,t4⟩
abbrev ax.cG(h:ai)(a:Addr)(K:ax.S->Prop):Prop:= ∃(t0:Bool),aB h a=some (.bool t0)/\∃(t1:Int),aB h (a.add 1)=some (.int .u64 t1)/\∃(t2:Int),aB h (a.add 2)=some (.int .u64 t2)/\∃(t3:ByteArray),aB h (a.add 3)=some (.string t3)/\∃(t4:ByteArray),aB h (a.add 4)=some (.string t4)/\K ⟨t0,t1,t2,t3,t4⟩
abbrev ax.cY(h:ai)(a:Addr)(x:ax.S)(K:ai->Prop):Prop:=aE h a (.bool x.f0) λH=>aE H (a.add 1) (.int .u64 x.f1) λb=>aE b (a.add 2) (.int .u64 x.f2) λc=>aE c (a.add 3) (.string x.f3) λd=>aE d (a.add 4) (.string x.f4) λe=>K e
structure fD.S where
 f0:Int
 f1:Int
 f2:Int
 f3:Int
 f4:Int
 f5:Int
 f6:Bool
 f7:Int
 f8:Int
 f9:ByteArray
 f10:ByteArray
 f11:Bool
 f12:Int
 f13:Int
 f14:ByteArray
 f15:ByteArray
 f16:Int
 f17:Int
 f18:Int
 Qr:cj
 Qs:Nat
 Qt:Nat
 f20:Int
 f21:Int
 f22:Bool
 Qu:cj
 Qv:Nat
 Qw:Nat
abbrev fD.S.l(x:fD.S):List Value:= [.int .u64 x.f0,.int .i64 x.f1,.int .u64 x.f2,.int .i64 x.f3,.int .u64 x.f4,.int .i64 x.f5,.bool x.f6,.int .u64 x.f7,.int .u64 x.f8,.string x.f9,.string x.f10,.bool x.f11,.int .u64 x.f12,.int .u64 x.f13,.string x.f14,.string x.f15,.int .i64 x.f16,.int .i64 x.f17,.int .i64 x.f18,.slice x.Qr x.Qs x.Qt,.int .u64 x.f20,.int .u64 x.f21,.bool x.f22,.slice x.Qu x.Qv x.Qw]
abbrev fD.S.arr(x:fD.S):Array Value:= #[.int .u64 x.f0,.int .i64 x.f1,.int .u64 x.f2,.int .i64 x.f3,.int .u64 x.f4,.int .i64 x.f5,.bool x.f6,.int .u64 x.f7,.int .u64 x.f8,.string x.f9,.string x.f10,.bool x.f11,.int .u64 x.f12,.int .u64 x.f13,.string x.f14,.string x.f15,.int .i64 x.f16,.int .i64 x.f17,.int .i64 x.f18,.slice x.Qr x.Qs x.Qt,.int .u64 x.f20,.int .u64 x.f21,.bool x.f22,.slice x.Qu x.Qv x.Qw]
abbrev fD.S.agg(x:fD.S):Value:=.agg #[.int .u64 x.f0,.int .i64 x.f1,.int .u64 x.f2,.int .i64 x.f3,.int .u64 x.f4,.int .i64 x.f5,.bool x.f6,.int .u64 x.f7,.int .u64 x.f8,.string x.f9,.string x.f10,.bool x.f11,.int .u64 x.f12,.int .u64 x.f13,.string x.f14,.string x.f15,.int .i64 x.f16,.int .i64 x.f17,.int .i64 x.f18,.slice x.Qr x.Qs x.Qt,.int .u64 x.f20,.int .u64 x.f21,.bool x.f22,.slice x.Qu x.Qv x.Qw]
abbrev fD.S.z:fD.S:=⟨0,0,0,0,0,0,false,0,0,(⟨#[]⟩:ByteArray),(⟨#[]⟩:ByteArray),false,0,0,(⟨#[]⟩:ByteArray),(⟨#[]⟩:ByteArray),0,0,0,none,0,0,0,0,false,none,0,0⟩
abbrev fD.EX(K:fD.S->Prop):Prop:= ∃(t0:Int),∃(t1:Int),∃(t2:Int),∃(t3:Int),∃(t4:Int),∃(t5:Int),∃(t6:Bool),∃(t7:Int),∃(t8:Int),∃(t9:ByteArray),∃(t10:ByteArray),∃(t11:Bool),∃(t12:Int),∃(t13:Int),∃(t14:ByteArray),∃(t15:ByteArray),∃(t16:Int),∃(t17:Int),∃(t18:Int),∃(a:cj)(T t:Nat),∃(t20:Int),∃(t21:Int),∃(t22:Bool),∃(d:cj)(c b:Nat),K ⟨t0,t1,t2,t3,t4,t5,t6,t7,t8,t9,t10,t11,t12,t13,t14,t15,t16,t17,t18,a,T,t,t20,t21,t22,d,c,b⟩
structure ah.S where
 f0:Bool
 f1:Int
 f2:Int
 f3:ByteArray
 f4:ByteArray
 f5:Int
 f6:Int
abbrev ah.S.l(x:ah.S):List Value:= [.bool x.f0,.int .u64 x.f1,.int .u64 x.f2,.string x.f3,.string x.f4,.int .u64 x.f5,.int .u64 x.f6]
abbrev ah.S.arr(x:ah.S):Array Value:= #[.bool x.f0,.int .u64 x.f1,.int .u64 x.f2,.string x.f3,.string x.f4,.int .u64 x.f5,.int .u64 x.f6]
abbrev ah.S.agg(x:ah.S):Value:=.agg #[.bool x.f0,.int .u64 x.f1,.int .u64 x.f2,.string x.f3,.string x.f4,.int .u64 x.f5,.int .u64 x.f6]
abbrev ah.S.z:ah.S:=⟨false,0,0,(⟨#[]⟩:ByteArray),(⟨#[]⟩:ByteArray),0,0⟩
abbrev ah.EX(K:ah.S->Prop):Prop:= ∃(t0:Bool),∃(t1:Int),∃(t2:Int),∃(t3:ByteArray),∃(t4:ByteArray),∃(t5:Int),∃(t6:Int),K ⟨t0,t1,t2,t3,t4,t5,t6⟩
abbrev ah.cG(h:ai)(a:Addr)(K:ah.S->Prop):Prop:= ∃(t0:Bool),aB h a=some (.bool t0)/\∃(t1:Int),aB h (a.add 1)=some (.int .u64 t1)/\∃(t2:Int),aB h (a.add 2)=some (.int .u64 t2)/\∃(t3:ByteArray),aB h (a.add 3)=some (.string t3)/\∃(t4:ByteArray),aB h (a.add 4)=some (.string t4)/\∃(t5:Int),aB h (a.add 5)=some (.int .u64 t5)/\∃(t6:Int),aB h (a.add 6)=some (.int .u64 t6)/\K ⟨t0,t1,t2,t3,t4,t5,t6⟩
abbrev ah.cY(h:ai)(a:Addr)(x:ah.S)(K:ai->Prop):Prop:=aE h a (.bool x.f0) λH=>aE H (a.add 1) (.int .u64 x.f1) λb=>aE b (a.add 2) (.int .u64 x.f2) λc=>aE c (a.add 3) (.string x.f3) λd=>aE d (a.add 4) (.string x.f4) λe=>aE e (a.add 5) (.int .u64 x.f5) λf=>aE f (a.add 6) (.int .u64 x.f6) λg=>K g
structure aU.S where
 f0:Int
 f1:Int
 lY:cj
 lV:Nat
 lZ:Nat
 f3:Int
abbrev aU.S.l(x:aU.S):List Value:= [.int .i64 x.f0,.int .i64 x.f1,.slice x.lY x.lV x.lZ,.int .u64 x.f3]
abbrev aU.S.arr(x:aU.S):Array Value:= #[.int .i64 x.f0,.int .i64 x.f1,.slice x.lY x.lV x.lZ,.int .u64 x.f3]
abbrev aU.S.agg(x:aU.S):Value:=.agg #[.int .i64 x.f0,.int .i64 x.f1,.slice x.lY x.lV x.lZ,.int .u64 x.f3]
abbrev aU.S.z:aU.S:=⟨0,0,none,0,0,0⟩
abbrev aU.EX(K:aU.S->Prop):Prop:= ∃(t0:Int),∃(t1:Int),∃(a:cj)(T t:Nat),∃(t3:Int),K ⟨t0,t1,a,T,t,t3⟩
structure aD.S where
 f0:Int
 f1:Int
 f2:Bool
 f3:Int
 f4:Int
 f5:ByteArray
 f6:ByteArray
 f7:Bool
 f8:Int
 f9:Int
 f10:ByteArray
 f11:ByteArray
 f12:Bool
 f13:Int
 f14:Int
 f15:ByteArray
 f16:ByteArray
 f17:Int
 f18:Int
 f19:Int
abbrev aD.S.l(x:aD.S):List Value:= [.int .u64 x.f0,.int .i64 x.f1,.bool x.f2,.int .u64 x.f3,.int .u64 x.f4,.string x.f5,.string x.f6,.bool x.f7,.int .u64 x.f8,.int .u64 x.f9,.string x.f10,.string x.f11,.bool x.f12,.int .u64 x.f13,.int .u64 x.f14,.string x.f15,.string x.f16,.int .u64 x.f17,.int .u64 x.f18,.int .u64 x.f19]
abbrev aD.S.arr(x:aD.S):Array Value:= #[.int .u64 x.f0,.int .i64 x.f1,.bool x.f2,.int .u64 x.f3,.int .u64 x.f4,.string x.f5,.string x.f6,.bool x.f7,.int .u64 x.f8,.int .u64 x.f9,.string x.f10,.string x.f11,.bool x.f12,.int .u64 x.f13,.int .u64 x.f14,.string x.f15,.string x.f16,.int .u64 x.f17,.int .u64 x.f18,.int .u64 x.f19]
abbrev aD.S.agg(x:aD.S):Value:=.agg #[.int .u64 x.f0,.int .i64 x.f1,.bool x.f2,.int .u64 x.f3,.int .u64 x.f4,.string x.f5,.string x.f6,.bool x.f7,.int .u64 x.f8,.int .u64 x.f9,.string x.f10,.string x.f11,.bool x.f12,.int .u64 x.f13,.int .u64 x.f14,.string x.f15,.string x.f16,.int .u64 x.f17,.int .u64 x.f18,.int .u64 x.f19]
abbrev aD.S.z:aD.S:=⟨0,0,false,0,0,(⟨#[]⟩:ByteArray),(⟨#[]⟩:ByteArray),false,0,0,(⟨#[]⟩:ByteArray),(⟨#[]⟩:ByteArray),false,0,0,(⟨#[]⟩:ByteArray),(⟨#[]⟩:ByteArray),0,0,0⟩
abbrev aD.EX(K:aD.S->Prop):Prop:= ∃(t0:Int),∃(t1:Int),∃(t2:Bool),∃(t3:Int),∃(t4:Int),∃(t5:ByteArray),∃(t6:ByteArray),∃(t7:Bool),∃(t8:Int),∃(t9:Int),∃(t10:ByteArray),∃(t11:ByteArray),∃(t12:Bool),∃(t13:Int),∃(t14:Int),∃(t15:ByteArray),∃(t16:ByteArray),∃(t17:Int),∃(t18:Int),∃(t19:Int),K ⟨t0,t1,t2,t3,t4,t5,t6,t7,t8,t9,t10,t11,t12,t13,t14,t15,t16,t17,t18,t19⟩
abbrev aD.cG(h:ai)(a:Addr)(K:aD.S->Prop):Prop:= ∃(t0:Int),aB h a=some (.int .u64 t0)/\∃(t1:Int),aB h (a.add 1)=some (.int .i64 t1)/\∃(t2:Bool),aB h (a.add 2)=some (.bool t2)/\∃(t3:Int),aB h (a.add 3)=some (.int .u64 t3)/\∃(t4:Int),aB h (a.add 4)=some (.int .u64 t4)/\∃(t5:ByteArray),aB h (a.add 5)=some (.string t5)/\∃(t6:ByteArray),aB h (a.add 6)=some (.string t6)/\∃(t7:Bool),aB h (a.add 7)=some (.bool t7)/\∃(t8:Int),aB h (a.add 8)=some (.int .u64 t8)/\∃(t9:Int),aB h (a.add 9)=some (.int .u64 t9)/\∃(t10:ByteArray),aB h (a.add 10)=some (.string t10)/\∃(t11:ByteArray),aB h (a.add 11)=some (.string t11)/\∃(t12:Bool),aB h (a.add 12)=some (.bool t12)/\∃(t13:Int),aB h (a.add 13)=some (.int .u64 t13)/\∃(t14:Int),aB h (a.add 14)=some (.int .u64 t14)/\∃(t15:ByteArray),aB h (a.add 15)=some (.string t15)/\∃(t16:ByteArray),aB h (a.add 16)=some (.string t16)/\∃(t17:Int),aB h (a.add 17)=some (.int .u64 t17)/\∃(t18:Int),aB h (a.add 18)=some (.int .u64 t18)/\∃(t19:Int),aB h (a.add 19)=some (.int .u64 t19)/\K ⟨t0,t1,t2,t3,t4,t5,t6,t7,t8,t9,t10,t11,t12,t13,t14,t15,t16,t17,t18,t19⟩
abbrev aD.cY(h:ai)(a:Addr)(x:aD.S)(K:ai->Prop):Prop:=aE h a (.int .u64 x.f0) λH=>aE H (a.add 1) (.int .i64 x.f1) λm=>aE m (a.add 2) (.bool x.f2) λo=>aE o (a.add 3) (.int .u64 x.f3) λp=>aE p (a.add 4) (.int .u64 x.f4) λq=>aE q (a.add 5) (.string x.f5) λr=>aE r (a.add 6) (.string x.f6) λs=>aE s (a.add 7) (.bool x.f7) λt=>aE t (a.add 8) (.int .u64 x.f8) λu=>aE u (a.add 9) (.int .u64 x.f9) λb=>aE b (a.add 10) (.string x.f10) λc=>aE c (a.add 11) (.string x.f11) λd=>aE d (a.add 12) (.bool x.f12) λe=>aE e (a.add 13) (.int .u64 x.f13) λf=>aE f (a.add 14) (.int .u64 x.f14) λg=>aE g (a.add 15) (.string x.f15) λi=>aE i (a.add 16) (.string x.f16) λj=>aE j (a.add 17) (.int .u64 x.f17) λk=>aE k (a.add 18) (.int .u64 x.f18) λl=>aE l (a.add 19) (.int .u64 x.f19) λn=>K n
structure ak.S where
 f0:Int
 f1:Int
 f2:Int
 f3:Int
 f4:Int
 vM:cj
 f5l:Nat
 vN:Nat
abbrev ak.S.l(x:ak.S):List Value:= [.int .u64 x.f0,.int .i64 x.f1,.int .i64 x.f2,.int .i64 x.f3,.int .u64 x.f4,.slice x.vM x.f5l x.vN]
abbrev ak.S.arr(x:ak.S):Array Value:= #[.int .u64 x.f0,.int .i64 x.f1,.int .i64 x.f2,.int .i64 x.f3,.int .u64 x.f4,.slice x.vM x.f5l x.vN]
abbrev ak.S.agg(x:ak.S):Value:=.agg #[.int .u64 x.f0,.int .i64 x.f1,.int .i64 x.f2,.int .i64 x.f3,.int .u64 x.f4,.slice x.vM x.f5l x.vN]
abbrev ak.S.z:ak.S:=⟨0,0,0,0,0,none,0,0⟩
abbrev ak.EX(K:ak.S->Prop):Prop:= ∃(t0:Int),∃(t1:Int),∃(t2:Int),∃(t3:Int),∃(t4:Int),∃(a:cj)(T t:Nat),K ⟨t0,t1,t2,t3,t4,a,T,t⟩
abbrev ak.cG(h:ai)(a:Addr)(K:ak.S->Prop):Prop:= ∃(t0:Int),aB h a=some (.int .u64 t0)/\∃(t1:Int),aB h (a.add 1)=some (.int .i64 t1)/\∃(t2:Int),aB h (a.add 2)=some (.int .i64 t2)/\∃(t3:Int),aB h (a.add 3)=some (.int .i64 t3)/\∃(t4:Int),aB h (a.add 4)=some (.int .u64 t4)/\∃(b:cj)(T t:Nat),aB h (a.add 5)=some (.slice b T t)/\K ⟨t0,t1,t2,t3,t4,b,T,t⟩
abbrev ak.cY(h:ai)(a:Addr)(x:ak.S)(K:ai->Prop):Prop:=aE h a (.int .u64 x.f0) λH=>aE H (a.add 1) (.int .i64 x.f1) λb=>aE b (a.add 2) (.int .i64 x.f2) λc=>aE c (a.add 3) (.int .i64 x.f3) λd=>aE d (a.add 4) (.int .u64 x.f4) λe=>aE e (a.add 5) (.slice x.vM x.f5l x.vN) λf=>K f
structure cd.S where
 f0:Bool
 f1:Bool
 f2:Bool
 f3:Int
 f4:Int
 f5:Bool
 f6:Int
 f7:Int
 f8:ByteArray
 f9:ByteArray
 f10:Int
 f11:Int
abbrev cd.S.l(x:cd.S):List Value:= [.bool x.f0,.bool x.f1,.bool x.f2,.int .u64 x.f3,.int .u64 x.f4,.bool x.f5,.int .u64 x.f6,.int .u64 x.f7,.string x.f8,.string x.f9,.int .u64 x.f10,.int .u64 x.f11]
abbrev cd.S.arr(x:cd.S):Array Value:= #[.bool x.f0,.bool x.f1,.bool x.f2,.int .u64 x.f3,.int .u64 x.f4,.bool x.f5,.int .u64 x.f6,.int .u64 x.f7,.string x.f8,.string x.f9,.int .u64 x.f10,.int .u64 x.f11]
abbrev cd.S.agg(x:cd.S):Value:=.agg #[.bool x.f0,.bool x.f1,.bool x.f2,.int .u64 x.f3,.int .u64 x.f4,.bool x.f5,.int .u64 x.f6,.int .u64 x.f7,.string x.f8,.string x.f9,.int .u64 x.f10,.int .u64 x.f11]
abbrev cd.S.z:cd.S:=⟨false,false,false,0,0,false,0,0,(⟨#[]⟩:ByteArray),(⟨#[]⟩:ByteArray),0,0⟩
abbrev cd.EX(K:cd.S->Prop):Prop:= ∃(t0:Bool),∃(t1:Bool),∃(t2:Bool),∃(t3:Int),∃(t4:Int),∃(t5:Bool),∃(t6:Int),∃(t7:Int),∃(t8:ByteArray),∃(t9:ByteArray),∃(t10:Int),∃(t11:Int),K ⟨t0,t1,t2,t3,t4,t5,t6,t7,t8,t9,t10,t11⟩
abbrev cd.cG(h:ai)(a:Addr)(K:cd.S->Prop):Prop:= ∃(t0:Bool),aB h a=some (.bool t0)/\∃(t1:Bool),aB h (a.add 1)=some (.bool t1)/\∃(t2:Bool),aB h (a.add 2)=some (.bool t2)/\∃(t3:Int),aB h (a.add 3)=some (.int .u64 t3)/\∃(t4:Int),aB h (a.add 4)=some (.int .u64 t4)/\∃(t5:Bool),aB h (a.add 5)=some (.bool t5)/\∃(t6:Int),aB h (a.add 6)=some (.int .u64 t6)/\∃(t7:Int),aB h (a.add 7)=some (.int .u64 t7)/\∃(t8:ByteArray),aB h (a.add 8)=some (.string t8)/\∃(t9:ByteArray),aB h (a.add 9)=some (.string t9)/\∃(t10:Int),aB h (a.add 10)=some (.int .u64 t10)/\∃(t11:Int),aB h (a.add 11)=some (.int .u64 t11)/\K ⟨t0,t1,t2,t3,t4,t5,t6,t7,t8,t9,t10,t11⟩
structure aH.S where
 f0:Int
 f1:Int
 f2:Bool
 f3:Int
 f4:Int
 f5:ByteArray
 f6:ByteArray
 f7:Bool
 f8:Int
 f9:Int
 f10:ByteArray
 f11:ByteArray
 f12:Int
 f13:Int
 f14:Int
 By:cj
 zA:Nat
 Bz:Nat
 f16:Int
 f17:Int
 f18:Bool
abbrev aH.S.l(x:aH.S):List Value:= [.int .u64 x.f0,.int .i64 x.f1,.bool x.f2,.int .u64 x.f3,.int .u64 x.f4,.string x.f5,.string x.f6,.bool x.f7,.int .u64 x.f8,.int .u64 x.f9,.string x.f10,.string x.f11,.int .i64 x.f12,.int .i64 x.f13,.int .i64 x.f14,.slice x.By x.zA x.Bz,.int .u64 x.f16,.int .u64 x.f17,.bool x.f18]
abbrev aH.S.arr(x:aH.S):Array Value:= #[.int .u64 x.f0,.int .i64 x.f1,.bool x.f2,.int .u64 x.f3,.int .u64 x.f4,.string x.f5,.string x.f6,.bool x.f7,.int .u64 x.f8,.int .u64 x.f9,.string x.f10,.string x.f11,.int .i64 x.f12,.int .i64 x.f13,.int .i64 x.f14,.slice x.By x.zA x.Bz,.int .u64 x.f16,.int .u64 x.f17,.bool x.f18]
abbrev aH.S.agg(x:aH.S):Value:=.agg #[.int .u64 x.f0,.int .i64 x.f1,.bool x.f2,.int .u64 x.f3,.int .u64 x.f4,.string x.f5,.string x.f6,.bool x.f7,.int .u64 x.f8,.int .u64 x.f9,.string x.f10,.string x.f11,.int .i64 x.f12,.int .i64 x.f13,.int .i64 x.f14,.slice x.By x.zA x.Bz,.int .u64 x.f16,.int .u64 x.f17,.bool x.f18]
abbrev aH.S.z:aH.S:=⟨0,0,false,0,0,(⟨#[]⟩:ByteArray),(⟨#[]⟩:ByteArray),false,0,0,(⟨#[]⟩:ByteArray),(⟨#[]⟩:ByteArray),0,0,0,none,0,0,0,0,false⟩
abbrev aH.EX(K:aH.S->Prop):Prop:= ∃(t0:Int),∃(t1:Int),∃(t2:Bool),∃(t3:Int),∃(t4:Int),∃(t5:ByteArray),∃(t6:ByteArray),∃(t7:Bool),∃(t8:Int),∃(t9:Int),∃(t10:ByteArray),∃(t11:ByteArray),∃(t12:Int),∃(t13:Int),∃(t14:Int),∃(a:cj)(T t:Nat),∃(t16:Int),∃(t17:Int),∃(t18:Bool),K ⟨t0,t1,t2,t3,t4,t5,t6,t7,t8,t9,t10,t11,t12,t13,t14,a,T,t,t16,t17,t18⟩
abbrev aH.cG(h:ai)(a:Addr)(K:aH.S->Prop):Prop:= ∃(t0:Int),aB h a=some (.int .u64 t0)/\∃(t1:Int),aB h (a.add 1)=some (.int .i64 t1)/\∃(t2:Bool),aB h (a.add 2)=some (.bool t2)/\∃(t3:Int),aB h (a.add 3)=some (.int .u64 t3)/\∃(t4:Int),aB h (a.add 4)=some (.int .u64 t4)/\∃(t5:ByteArray),aB h (a.add 5)=some (.string t5)/\∃(t6:ByteArray),aB h (a.add 6)=some (.string t6)/\∃(t7:Bool),aB h (a.add 7)=some (.bool t7)/\∃(t8:Int),aB h (a.add 8)=some (.int .u64 t8)/\∃(t9:Int),aB h (a.add 9)=some (.int .u64 t9)/\∃(t10:ByteArray),aB h (a.add 10)=some (.string t10)/\∃(t11:ByteArray),aB h (a.add 11)=some (.string t11)/\∃(t12:Int),aB h (a.add 12)=some (.int .i64 t12)/\∃(t13:Int),aB h (a.add 13)=some (.int .i64 t13)/\∃(t14:Int),aB h (a.add 14)=some (.int .i64 t14)/\∃(b:cj)(T t:Nat),aB h (a.add 15)=some (.slice b T t)/\∃(t16:Int),aB h (a.add 16)=some (.int .u64 t16)/\∃(t17:Int),aB h (a.add 17)=some (.int .u64 t17)/\∃(t18:Bool),aB h (a.add 18)=some (.bool t18)/\K ⟨t0,t1,t2,t3,t4,t5,t6,t7,t8,t9,t10,t11,t12,t13,t14,b,T,t,t16,t17,t18⟩
abbrev aH.cY(h:ai)(a:Addr)(x:aH.S)(K:ai->Prop):Prop:=aE h a (.int .u64 x.f0) λH=>aE H (a.add 1) (.int .i64 x.f1) λm=>aE m (a.add 2) (.bool x.f2) λn=>aE n (a.add 3) (.int .u64 x.f3) λo=>aE o (a.add 4) (.int .u64 x.f4) λp=>aE p (a.add 5) (.string x.f5) λq=>aE q (a.add 6) (.string x.f6) λr=>aE r (a.add 7) (.bool x.f7) λs=>aE s (a.add 8) (.int .u64 x.f8) λt=>aE t (a.add 9) (.int .u64 x.f9) λb=>aE b (a.add 10) (.string x.f10) λc=>aE c (a.add 11) (.string x.f11) λd=>aE d (a.add 12) (.int .i64 x.f12) λe=>aE e (a.add 13) (.int .i64 x.f13) λf=>aE f (a.add 14) (.int .i64 x.f14) λg=>aE g (a.add 15) (.slice x.By x.zA x.Bz) λi=>aE i (a.add 16) (.int .u64 x.f16) λj=>aE j (a.add 17) (.int .u64 x.f17) λk=>aE k (a.add 18) (.bool x.f18) λl=>K l

section
variable {h:ai} {R:fx}
variable {b lV lZ nC qF l k F f f5l vN zu zx:Nat} {f0 f1 g0 g f2 d f3 f5 f6 G i n f7 f8 f9:Int} {lY sg m c vM zt:cj} {K:Nat->ai->Prop} {a:Addr} {f4 e s:ByteArray}
def aa.at(h:ai)(b:Nat)(f0:Int)(f1:Int)(lY:cj)(lV lZ:Nat)(sg:cj)(nC qF:Nat):Prop:=h[b]? =some (.cells #[.int .i64 f0,.int .u64 f1,.slice lY lV lZ,.slice sg nC qF] 262 (0,0))
theorem aa.ld{K:Int->Int->cj->Nat->Nat->cj->Nat->Nat->Prop}(H:aa.at h b f0 f1 lY lV lZ sg nC qF)(hk:K f0 f1 lY lV lZ sg nC qF):aa.LD h (AA b 0) K:=
 ⟨_,aw H,_,aw H,_,_,_,aw H,_,_,_,aw H,hk⟩
theorem aa.ED{K:Int->Int->cj->Nat->Nat->cj->Nat->Nat->Prop}(H:dF a [.I f0,.U f1,.slice lY lV lZ,.slice sg nC qF] 0 h)(hk:K f0 f1 lY lV lZ sg nC qF):aa.LD h a K:=by
 obtain⟨q,q1,q2,q3,_⟩:=H;rw[fP]at q;exact⟨_,q,_,q1,_,_,_,q2,_,_,_,q3,hk⟩
theorem aa.held(H:aa.at h b f0 f1 lY lV lZ sg nC qF):dF (AA b 0) [.I f0,.U f1,.slice lY lV lZ,.slice sg nC qF] 0 h:=
 gF H (λj v o=>by rw[bE];simpa using o)
theorem aa.qG{K:ai->Prop}(hk:eS a [.I f0,.U f1,.slice lY lV lZ,.slice sg nC qF] 0 h K):aa.ST h a f0 f1 lY lV lZ sg nC qF K:=hk
theorem aa.new(hk: ∀b h',b=h.size->aa.at h' b f0 f1 lY lV lZ sg nC qF->Fr No h h'->K b h'):aS h (.cells #[.I 0,.U 0,.Z,.Z] 262) λb H=>aa.ST H (AA b 0) f0 f1 lY lV lZ sg nC qF (K b):=
 gp (vs:= [.I f0,.U f1,.slice lY lV lZ,.slice sg nC qF]) rfl rfl hk
theorem aa.box(hk: ∀b h',b=h.size->aa.at h' b f0 f1 lY lV lZ sg nC qF->Fr No h h'->K b h'):aS h (.cells #[.I f0,.U f1,.slice lY lV lZ,.slice sg nC qF] 262) λb H=>K b H:=
 cC (hk _ _ rfl bT (Fr.push _ _))
theorem aa.set{p:cj}{o j:Nat}{K:ai->Prop}(a0:aa.at h b g0 g m l k p o j)(hk: ∀h',aa.at h' b f0 f1 lY lV lZ sg nC qF->h'.size=h.size->(∀x,x≠b->h'[x]? =h[x]?)->K h'):aa.ST h (AA b 0) f0 f1 lY lV lZ sg nC qF K:=
 aa.qG (eE a0 rfl rfl hk)
def bp.at(h:ai)(b:Nat)(f0:Int)(f1:Int)(f2:Bool):Prop:=h[b]? =some (.cells #[.int .i64 f0,.int .u64 f1,.bool f2] 360 (0,0))
theorem bp.ld{f2:Bool}{K:Int->Int->Bool->Prop}(H:bp.at h b f0 f1 f2)(hk:K f0 f1 f2):bp.LD h (AA b 0) K:=
 ⟨_,aw H,_,aw H,_,aw H,hk⟩
theorem bp.qG{f2:Bool}{K:ai->Prop}(hk:eS a [.I f0,.U f1,.bool f2] 0 h K):bp.ST h a f0 f1 f2 K:=hk
theorem bp.new{f2:Bool}(hk: ∀b h',b=h.size->bp.at h' b f0 f1 f2->Fr No h h'->K b h'):aS h (.cells #[.I 0,.U 0,.bool false] 360) λb H=>bp.ST H (AA b 0) f0 f1 f2 (K b):=
 gp (vs:= [.I f0,.U f1,.bool f2]) rfl rfl hk
theorem bp.box{f2:Bool}(hk: ∀b h',b=h.size->bp.at h' b f0 f1 f2->Fr No h h'->K b h'):aS h (.cells #[.I f0,.U f1,.bool f2] 360) λb H=>K b H:=
 cC (hk _ _ rfl bT (Fr.push _ _))
theorem bp.set{d:Bool}{f2:Bool}{K:ai->Prop}(a0:bp.at h b g0 g d)(hk: ∀h',bp.at h' b f0 f1 f2->h'.size=h.size->(∀x,x≠b->h'[x]? =h[x]?)->K h'):bp.ST h (AA b 0) f0 f1 f2 K:=
 bp.qG (eE a0 rfl rfl hk)
def ah.at(h:ai)(b:Nat)(f0:Bool)(f1:Int)(f2:Int)(f3:ByteArray)(f4:ByteArray)(f5:Int)(f6:Int):Prop:=h[b]? =some (.cells #[.bool f0,.int .u64 f1,.int .u64 f2,.string f3,.string f4,.int .u64 f5,.int .u64 f6] 124 (0,0))
theorem ah.ld{f0:Bool}{f3:ByteArray}{K:Bool->Int->Int->ByteArray->ByteArray->Int->Int->Prop}(H:ah.at h b f0 f1 f2 f3 f4 f5 f6)(hk:K f0 f1 f2 f3 f4 f5 f6):ah.LD h (AA b 0) K:=
 ⟨_,aw H,_,aw H,_,aw H,_,aw H,_,aw H,_,aw H,_,aw H,hk⟩
theorem ah.qG{f0:Bool}{f3:ByteArray}{K:ai->Prop}(hk:eS a [.bool f0,.U f1,.U f2,.string f3,.string f4,.U f5,.U f6] 0 h K):ah.ST h a f0 f1 f2 f3 f4 f5 f6 K:=hk
theorem ah.box{f0:Bool}{f3:ByteArray}(hk: ∀b h',b=h.size->ah.at h' b f0 f1 f2 f3 f4 f5 f6->Fr No h h'->K b h'):aS h (.cells #[.bool f0,.U f1,.U f2,.string f3,.string f4,.U f5,.U f6] 124) λb H=>K b H:=
 cC (hk _ _ rfl bT (Fr.push _ _))
theorem ah.set{g0:Bool}{G:ByteArray}{f0:Bool}{f3:ByteArray}{K:ai->Prop}(a0:ah.at h b g0 g d G e i n)(hk: ∀h',ah.at h' b f0 f1 f2 f3 f4 f5 f6->h'.size=h.size->(∀x,x≠b->h'[x]? =h[x]?)->K h'):ah.ST h (AA b 0) f0 f1 f2 f3 f4 f5 f6 K:=
 ah.qG (eE a0 rfl rfl hk)
def aU.at(h:ai)(b:Nat)(f0:Int)(f1:Int)(lY:cj)(lV lZ:Nat)(f3:Int):Prop:=h[b]? =some (.cells #[.int .i64 f0,.int .i64 f1,.slice lY lV lZ,.int .u64 f3] 119 (0,0))
theorem aU.ld{K:Int->Int->cj->Nat->Nat->Int->Prop}(H:aU.at h b f0 f1 lY lV lZ f3)(hk:K f0 f1 lY lV lZ f3):aU.LD h (AA b 0) K:=
 ⟨_,aw H,_,aw H,_,_,_,aw H,_,aw H,hk⟩
theorem aU.ED{K:Int->Int->cj->Nat->Nat->Int->Prop}(H:dF a [.I f0,.I f1,.slice lY lV lZ,.U f3] 0 h)(hk:K f0 f1 lY lV lZ f3):aU.LD h a K:=by
 obtain⟨q,q1,q2,q3,_⟩:=H;rw[fP]at q;exact⟨_,q,_,q1,_,_,_,q2,_,q3,hk⟩
theorem aU.qG{K:ai->Prop}(hk:eS a [.I f0,.I f1,.slice lY lV lZ,.U f3] 0 h K):aU.ST h a f0 f1 lY lV lZ f3 K:=hk
theorem aU.new(hk: ∀b h',b=h.size->aU.at h' b f0 f1 lY lV lZ f3->Fr No h h'->K b h'):aS h (.cells #[.I 0,.I 0,.Z,.U 0] 119) λb H=>aU.ST H (AA b 0) f0 f1 lY lV lZ f3 (K b):=
 gp (vs:= [.I f0,.I f1,.slice lY lV lZ,.U f3]) rfl rfl hk
theorem aU.box(hk: ∀b h',b=h.size->aU.at h' b f0 f1 lY lV lZ f3->Fr No h h'->K b h'):aS h (.cells #[.I f0,.I f1,.slice lY lV lZ,.U f3] 119) λb H=>K b H:=
 cC (hk _ _ rfl bT (Fr.push _ _))
theorem aU.set{K:ai->Prop}(a0:aU.at h b g0 g m l k G)(hk: ∀h',aU.at h' b f0 f1 lY lV lZ f3->h'.size=h.size->(∀x,x≠b->h'[x]? =h[x]?)->K h'):aU.ST h (AA b 0) f0 f1 lY lV lZ f3 K:=
 aU.qG (eE a0 rfl rfl hk)
def cp.at(h:ai)(b:Nat)(f0:Int)(c:cj)(F f:Nat):Prop:=h[b]? =some (.cells #[.int .u64 f0,.slice c F f] 161 (0,0))
theorem cp.ld{K:Int->cj->Nat->Nat->Prop}(H:cp.at h b f0 c F f)(hk:K f0 c F f):cp.LD h (AA b 0) K:=
 ⟨_,aw H,_,_,_,aw H,hk⟩
theorem cp.ED{K:Int->cj->Nat->Nat->Prop}(H:dF a [.U f0,.slice c F f] 0 h)(hk:K f0 c F f):cp.LD h a K:=by
 obtain⟨q,q1,_⟩:=H;rw[fP]at q;exact⟨_,q,_,_,_,q1,hk⟩
theorem cp.new(hk: ∀b h',b=h.size->cp.at h' b f0 c F f->Fr No h h'->K b h'):aS h (.cells #[.U 0,.Z] 161) λb H=>cp.ST H (AA b 0) f0 c F f (K b):=
 gp (vs:= [.U f0,.slice c F f]) rfl rfl hk
theorem cp.box(hk: ∀b h',b=h.size->cp.at h' b f0 c F f->Fr No h h'->K b h'):aS h (.cells #[.U f0,.slice c F f] 161) λb H=>K b H:=
 cC (hk _ _ rfl bT (Fr.push _ _))
def hZ.at(h:ai)(b:Nat)(f0:Int)(f1:Int)(f2:Bool)(f3:Bool)(Nw:cj)(Nx Ny:Nat)(vM:cj)(f5l vN:Nat):Prop:=h[b]? =some (.cells #[.int .i64 f0,.int .u64 f1,.bool f2,.bool f3,.slice Nw Nx Ny,.slice vM f5l vN] 76 (0,0))
theorem hZ.box{f2:Bool}{f3:Bool}{Nw:cj}{Nx Ny:Nat}(hk: ∀b h',b=h.size->hZ.at h' b f0 f1 f2 f3 Nw Nx Ny vM f5l vN->Fr No h h'->K b h'):aS h (.cells #[.I f0,.U f1,.bool f2,.bool f3,.slice Nw Nx Ny,.slice vM f5l vN] 76) λb H=>K b H:=
 cC (hk _ _ rfl bT (Fr.push _ _))
def ax.at(h:ai)(b:Nat)(f0:Bool)(f1:Int)(f2:Int)(f3:ByteArray)(f4:ByteArray):Prop:=h[b]? =some (.cells #[.bool f0,.int .u64 f1,.int .u64 f2,.string f3,.string f4] 29 (0,0))
theorem ax.ld{f0:Bool}{f3:ByteArray}{K:Bool->Int->Int->ByteArray->ByteArray->Prop}(H:ax.at h b f0 f1 f2 f3 f4)(hk:K f0 f1 f2 f3 f4):ax.LD h (AA b 0) K:=
 ⟨_,aw H,_,aw H,_,aw H,_,aw H,_,aw H,hk⟩
theorem ax.held{f0:Bool}{f3:ByteArray}(H:ax.at h b f0 f1 f2 f3 f4):dF (AA b 0) [.bool f0,.U f1,.U f2,.string f3,.string f4] 0 h:=
 gF H (λj v o=>by rw[bE];simpa using o)
theorem ax.box{f0:Bool}{f3:ByteArray}(hk: ∀b h',b=h.size->ax.at h' b f0 f1 f2 f3 f4->Fr No h h'->K b h'):aS h (.cells #[.bool f0,.U f1,.U f2,.string f3,.string f4] 29) λb H=>K b H:=
 cC (hk _ _ rfl bT (Fr.push _ _))
def bQ.at(h:ai)(b:Nat)(f0:Bool)(f1:Int)(f2:Int)(f3:ByteArray)(f4:ByteArray)(f5:Int)(f6:Int):Prop:=h[b]? =some (.cells #[.bool f0,.int .u64 f1,.int .u64 f2,.string f3,.string f4,.int .i64 f5,.int .i64 f6] 136 (0,0))
theorem bQ.ld{f0:Bool}{f3:ByteArray}{K:Bool->Int->Int->ByteArray->ByteArray->Int->Int->Prop}(H:bQ.at h b f0 f1 f2 f3 f4 f5 f6)(hk:K f0 f1 f2 f3 f4 f5 f6):bQ.LD h (AA b 0) K:=
 ⟨_,aw H,_,aw H,_,aw H,_,aw H,_,aw H,_,aw H,_,aw H,hk⟩
theorem bQ.qG{f0:Bool}{f3:ByteArray}{K:ai->Prop}(hk:eS a [.bool f0,.U f1,.U f2,.string f3,.string f4,.I f5,.I f6] 0 h K):bQ.ST h a f0 f1 f2 f3 f4 f5 f6 K:=hk
theorem bQ.new{f0:Bool}{f3:ByteArray}(hk: ∀b h',b=h.size->bQ.at h' b f0 f1 f2 f3 f4 f5 f6->Fr No h h'->K b h'):aS h (.cells #[.bool false,.U 0,.U 0,.string gi,.string gi,.I 0,.I 0] 136) λb H=>bQ.ST H (AA b 0) f0 f1 f2 f3 f4 f5 f6 (K b):=
 gp (vs:= [.bool f0,.U f1,.U f2,.string f3,.string f4,.I f5,.I f6]) rfl rfl hk
theorem bQ.box{f0:Bool}{f3:ByteArray}(hk: ∀b h',b=h.size->bQ.at h' b f0 f1 f2 f3 f4 f5 f6->Fr No h h'->K b h'):aS h (.cells #[.bool f0,.U f1,.U f2,.string f3,.string f4,.I f5,.I f6] 136) λb H=>K b H:=
 cC (hk _ _ rfl bT (Fr.push _ _))
theorem bQ.set{g0:Bool}{G:ByteArray}{f0:Bool}{f3:ByteArray}{K:ai->Prop}(a0:bQ.at h b g0 g d G e i n)(hk: ∀h',bQ.at h' b f0 f1 f2 f3 f4 f5 f6->h'.size=h.size->(∀x,x≠b->h'[x]? =h[x]?)->K h'):bQ.ST h (AA b 0) f0 f1 f2 f3 f4 f5 f6 K:=
 bQ.qG (eE a0 rfl rfl hk)
def aL.at(h:ai)(b:Nat)(f0:Int)(f1:Bool)(f2:Int)(f3:Int)(f4:ByteArray)(f5:ByteArray)(zt:cj)(zu zx:Nat)(f7:Int)(f8:Int)(f9:Int):Prop:=h[b]? =some (.cells #[.int .i64 f0,.bool f1,.int .u64 f2,.int .u64 f3,.string f4,.string f5,.slice zt zu zx,.int .u64 f7,.int .i64 f8,.int .u64 f9] 114 (0,0))
theorem aL.ld{f1:Bool}{f5:ByteArray}{K:Int->Bool->Int->Int->ByteArray->ByteArray->cj->Nat->Nat->Int->Int->Int->Prop}(H:aL.at h b f0 f1 f2 f3 f4 f5 zt zu zx f7 f8 f9)(hk:K f0 f1 f2 f3 f4 f5 zt zu zx f7 f8 f9):aL.LD h (AA b 0) K:=
 ⟨_,aw H,_,aw H,_,aw H,_,aw H,_,aw H,_,aw H,_,_,_,aw H,_,aw H,_,aw H,_,aw H,hk⟩
theorem aL.qG{f1:Bool}{f5:ByteArray}{K:ai->Prop}(hk:eS a [.I f0,.bool f1,.U f2,.U f3,.string f4,.string f5,.slice zt zu zx,.U f7,.I f8,.U f9] 0 h K):aL.ST h a f0 f1 f2 f3 f4 f5 zt zu zx f7 f8 f9 K:=hk
theorem aL.new{f1:Bool}{f5:ByteArray}(hk: ∀b h',b=h.size->aL.at h' b f0 f1 f2 f3 f4 f5 zt zu zx f7 f8 f9->Fr No h h'->K b h'):aS h (.cells #[.I 0,.bool false,.U 0,.U 0,.string gi,.string gi,.Z,.U 0,.I 0,.U 0] 114) λb H=>aL.ST H (AA b 0) f0 f1 f2 f3 f4 f5 zt zu zx f7 f8 f9 (K b):=
 gp (vs:= [.I f0,.bool f1,.U f2,.U f3,.string f4,.string f5,.slice zt zu zx,.U f7,.I f8,.U f9]) rfl rfl hk
theorem aL.box{f1:Bool}{f5:ByteArray}(hk: ∀b h',b=h.size->aL.at h' b f0 f1 f2 f3 f4 f5 zt zu zx f7 f8 f9->Fr No h h'->K b h'):aS h (.cells #[.I f0,.bool f1,.U f2,.U f3,.string f4,.string f5,.slice zt zu zx,.U f7,.I f8,.U f9] 114) λb H=>K b H:=
 cC (hk _ _ rfl bT (Fr.push _ _))
theorem aL.set{g:Bool}{i:ByteArray}{p:cj}{o j:Nat}{q:Int}{r:Int}{t:Int}{f1:Bool}{f5:ByteArray}{K:ai->Prop}(a0:aL.at h b g0 g d G e i p o j q r t)(hk: ∀h',aL.at h' b f0 f1 f2 f3 f4 f5 zt zu zx f7 f8 f9->h'.size=h.size->(∀x,x≠b->h'[x]? =h[x]?)->K h'):aL.ST h (AA b 0) f0 f1 f2 f3 f4 f5 zt zu zx f7 f8 f9 K:=
 aL.qG (eE a0 rfl rfl hk)
def fC.at(h:ai)(b:Nat)(f0:Int)(f1:Int)(f2:Int)(f3:Int)(f4:Int)(f5:Int):Prop:=h[b]? =some (.cells #[.int .i64 f0,.int .i64 f1,.int .i64 f2,.int .i64 f3,.int .i64 f4,.int .i64 f5] 50 (0,0))
theorem fC.ld{f4:Int}{K:Int->Int->Int->Int->Int->Int->Prop}(H:fC.at h b f0 f1 f2 f3 f4 f5)(hk:K f0 f1 f2 f3 f4 f5):fC.LD h (AA b 0) K:=
 ⟨_,aw H,_,aw H,_,aw H,_,aw H,_,aw H,_,aw H,hk⟩
theorem fC.qG{f4:Int}{K:ai->Prop}(hk:eS a [.I f0,.I f1,.I f2,.I f3,.I f4,.I f5] 0 h K):fC.ST h a f0 f1 f2 f3 f4 f5 K:=hk
theorem fC.new{f4:Int}(hk: ∀b h',b=h.size->fC.at h' b f0 f1 f2 f3 f4 f5->Fr No h h'->K b h'):aS h (.cells #[.I 0,.I 0,.I 0,.I 0,.I 0,.I 0] 50) λb H=>fC.ST H (AA b 0) f0 f1 f2 f3 f4 f5 (K b):=
 gp (vs:= [.I f0,.I f1,.I f2,.I f3,.I f4,.I f5]) rfl rfl hk
theorem fC.box{f4:Int}(hk: ∀b h',b=h.size->fC.at h' b f0 f1 f2 f3 f4 f5->Fr No h h'->K b h'):aS h (.cells #[.I f0,.I f1,.I f2,.I f3,.I f4,.I f5] 50) λb H=>K b H:=
 cC (hk _ _ rfl bT (Fr.push _ _))
theorem fC.set{e:Int}{f4:Int}{K:ai->Prop}(a0:fC.at h b g0 g d G e i)(hk: ∀h',fC.at h' b f0 f1 f2 f3 f4 f5->h'.size=h.size->(∀x,x≠b->h'[x]? =h[x]?)->K h'):fC.ST h (AA b 0) f0 f1 f2 f3 f4 f5 K:=
 fC.qG (eE a0 rfl rfl hk)
def ak.at(h:ai)(b:Nat)(f0:Int)(f1:Int)(f2:Int)(f3:Int)(f4:Int)(vM:cj)(f5l vN:Nat):Prop:=h[b]? =some (.cells #[.int .u64 f0,.int .i64 f1,.int .i64 f2,.int .i64 f3,.int .u64 f4,.slice vM f5l vN] 44 (0,0))
theorem ak.ld{f4:Int}{K:Int->Int->Int->Int->Int->cj->Nat->Nat->Prop}(H:ak.at h b f0 f1 f2 f3 f4 vM f5l vN)(hk:K f0 f1 f2 f3 f4 vM f5l vN):ak.LD h (AA b 0) K:=
 ⟨_,aw H,_,aw H,_,aw H,_,aw H,_,aw H,_,_,_,aw H,hk⟩
theorem ak.held{f4:Int}(H:ak.at h b f0 f1 f2 f3 f4 vM f5l vN):dF (AA b 0) [.U f0,.I f1,.I f2,.I f3,.U f4,.slice vM f5l vN] 0 h:=
 gF H (λj v o=>by rw[bE];simpa using o)
theorem ak.qG{f4:Int}{K:ai->Prop}(hk:eS a [.U f0,.I f1,.I f2,.I f3,.U f4,.slice vM f5l vN] 0 h K):ak.ST h a f0 f1 f2 f3 f4 vM f5l vN K:=hk
theorem ak.new{f4:Int}(hk: ∀b h',b=h.size->ak.at h' b f0 f1 f2 f3 f4 vM f5l vN->Fr No h h'->K b h'):aS h (.cells #[.U 0,.I 0,.I 0,.I 0,.U 0,.Z] 44) λb H=>ak.ST H (AA b 0) f0 f1 f2 f3 f4 vM f5l vN (K b):=
 gp (vs:= [.U f0,.I f1,.I f2,.I f3,.U f4,.slice vM f5l vN]) rfl rfl hk
theorem ak.box{f4:Int}(hk: ∀b h',b=h.size->ak.at h' b f0 f1 f2 f3 f4 vM f5l vN->Fr No h h'->K b h'):aS h (.cells #[.U f0,.I f1,.I f2,.I f3,.U f4,.slice vM f5l vN] 44) λb H=>K b H:=
 cC (hk _ _ rfl bT (Fr.push _ _))
theorem ak.set{e:Int}{p:cj}{o j:Nat}{f4:Int}{K:ai->Prop}(a0:ak.at h b g0 g d G e p o j)(hk: ∀h',ak.at h' b f0 f1 f2 f3 f4 vM f5l vN->h'.size=h.size->(∀x,x≠b->h'[x]? =h[x]?)->K h'):ak.ST h (AA b 0) f0 f1 f2 f3 f4 vM f5l vN K:=
 ak.qG (eE a0 rfl rfl hk)
theorem uj.host.walk(q:aV Tryz.prog (Instr.range 9 (.string s)) h λv p=> ∃(it:Nat),v=.P it 0/\∃(I:ai->Prop)(M:ai->Nat),I p/\∀(j:ai),I j->aV Tryz.prog (Instr.next (.P it 0) true 0) j λV H=>(V=.tuple #[.bool false]/\R (.bool true) H)\/(∃(T t:Value),V=.tuple #[.bool true,T,t]/\∃t11,t=.int .i32 t11/\aK (λ(t34:Bool) (o:ai)=>if t34 then R (.bool false) o else(I o/\M o<M j)) (λJ=>if(decide (t11<97))then if(decide (t11<48))then if(t11 !=45)then J (t11 !=45) H else J false H else if(decide (t11>57))then if(t11 !=45)then J (t11 !=45) H else J false H else J false H else if(decide (t11>122))then if(decide (t11<48))then if(t11 !=45)then J (t11 !=45) H else J false H else if(decide (t11>57))then if(t11 !=45)then J (t11 !=45) H else J false H else J false H else J false H))):ar Tryz.prog 142 #[.string s,.int .i32 45] h R:=aR (lq (sq (lq (bq (.loop [] (lq (sq (cq lf lf) (bq (sq (.typed [(11,.one (.int .i32))]) (sq (.join [(34,.one (.bool))] lf) (cq ll lf))))))))) ll)) Tryz.func142 q
theorem uj.RG.walk(q:aV Tryz.prog (Instr.range 9 (.string s)) h λv p=> ∃(it:Nat),v=.P it 0/\∃(I:ai->Prop)(M:ai->Nat),I p/\∀(j:ai),I j->aV Tryz.prog (Instr.next (.P it 0) true 0) j λV H=>(V=.tuple #[.bool false]/\R (.bool true) H)\/(∃(T t:Value),V=.tuple #[.bool true,T,t]/\∃t11,t=.int .i32 t11/\aK (λ(t34:Bool) (o:ai)=>if t34 then R (.bool false) o else(I o/\M o<M j)) (λJ=>if(decide (t11<97))then if(decide (t11<48))then if(t11 !=45)then J (t11 !=47) H else J false H else if(decide (t11>57))then if(t11 !=45)then J (t11 !=47) H else J false H else J false H else if(decide (t11>122))then if(decide (t11<48))then if(t11 !=45)then J (t11 !=47) H else J false H else if(decide (t11>57))then if(t11 !=45)then J (t11 !=47) H else J false H else J false H else J false H))):ar Tryz.prog 142 #[.string s,.int .i32 47] h R:=aR (lq (sq (lq (bq (.loop [] (lq (sq (cq lf lf) (bq (sq (.typed [(11,.one (.int .i32))]) (sq (.join [(34,.one (.bool))] lf) (cq ll lf))))))))) ll)) Tryz.func142 q
theorem I0.walk{x:Bool}{X:Int}{o:Int}{p:ByteArray}{q:ByteArray}(t:aS h (.cells #[.bool x,.U X,.U o,.string p,.string q] 29) λb H=>ax.LD H (AA b 0) λI J L M N=> ∃(eq:Bool),vw Tryz.prog 29 (.agg #[.bool I,.U J,.U L,.string M,.string N]) (.agg #[.bool false,.U 0,.U 0,.string gi,.string gi]) eq/\if eq then R (.bool true) H else∃t9,Cc H b 0 (.bool t9)/\if t9 then ax.LD H (AA b 0) λT u w y z=>Hu H b 1 λt12=>Hu H b 2 λt14=> ∃(eq_1:Bool),vw Tryz.prog 29 (.agg #[.bool T,.U u,.U w,.string y,.string z]) (.agg #[.bool true,.U t12,.U t14,.string gi,.string gi]) eq_1/\if eq_1 then∃t19,Cc H b 1 (.U t19)/\if(decide (t19≥1))then∃t24,Cc H b 1 (.U t24)/\if(decide (t24<=4294967295))then∃t29,Cc H b 2 (.U t29)/\R (.bool (decide (t29<=4294967295))) H else R (.bool false) H else R (.bool false) H else R (.bool false) H else ax.LD H (AA b 0) λA B C D E=>Hs H b 3 λt34=>Hs H b 4 λt36=> ∃(eq_2:Bool),vw Tryz.prog 29 (.agg #[.bool A,.U B,.U C,.string D,.string E]) (.agg #[.bool false,.U 0,.U 0,.string t34,.string t36]) eq_2/\if eq_2 then∃t41,Cc H b 3 (.string t41)/\if(decide (((t41.size:Nat):Int)≥1))then∃t47,Cc H b 3 (.string t47)/\if(decide (((t47.size:Nat):Int)<=16))then∃t53,Cc H b 4 (.string t53)/\if(decide (((t53.size:Nat):Int)<=24))then Hs H b 3 λt59=>Cl 142 #[.string t59,.int .i32 45] H λv j=> ∃t60,v=.bool t60/\if t60 then Hs j b 4 λt64=>Cl 142 #[.string t64,.int .i32 47] j λV r=> ∃t65,V=.bool t65/\R (.bool t65) r else R (.bool false) j else R (.bool false) H else R (.bool false) H else R (.bool false) H else R (.bool false) H):ar Tryz.prog 86 #[.agg #[.bool x,.U X,.U o,.string p,.string q]] h R:=aR (lq (sq (bq (lq (cq ll (lq (cq ll lf))))) ll)) Tryz.func86 t

end
section
namespace jc
theorem KV{a b:ByteArray}:(a==b)=true↔a=b:=by
 obtain⟨a⟩:=a;obtain⟨b⟩:=b;constructor
 .intro h;have h:(a==b)=true:=h;rw[eq_of_beq h]
 .intro h;cases h;show(a==a)=true;simp
structure Ev where
 kH:Bool
 node:Int
 gH:Int
 host:ByteArray
 jD:ByteArray
theorem Ev.ext'{x y:Ev}(H:x.kH=y.kH)(a:x.node=y.node)(b:x.gH=y.gH)(c:x.host=y.host)(d:x.jD=y.jD):x=y:=by
 cases x;cases y;simp at H a b c d;simp[H,a,b,c,d]
def Rk(x y:Ev):Bool:=x.kH==y.kH && (x.node==y.node && (x.gH==y.gH && (x.host==y.host && (x.jD==y.jD && true))))
theorem BA{x y:Ev}:Rk x y=true↔x=y:=by
 unfold Rk;simp only[aT,cP,KV,and_true];constructor
 .rintro⟨H,a,b,c,d⟩;exact Ev.ext' H a b c d
 .rintro rfl;simp
instance : DecidableEq Ev := λx y => decidable_of_iff (Rk x y = true) BA
theorem Nz(x y:Ev):Rk x y=decide (x=y):=by
 by_cases h:x=y
 .rw[aq h];exact BA.2 h
 .rw[az h];cases H:Rk x y
  .rfl
  .exact absurd (BA.1 H) h
def ku(x:Ev):Value:=.agg #[.bool x.kH,.int .u64 x.node,.int .u64 x.gH,.string x.host,.string x.jD]
def Ev.zero:Ev:=⟨false,0,0,⟨#[]⟩,⟨#[]⟩⟩
theorem eqv(x y:Ev):vw Tryz.prog 29 (ku x) (ku y) (decide (x=y)):=by
 rw[<-Nz];exact vw.of (by unfold Rk;kernel_rfl)
theorem wj{x y:Ev}{a b:Value}(H:a=ku x)(c:b=ku y):vw Tryz.prog 29 a b (decide (x=y)):=by subst H c;exact eqv x y
theorem RA(e:Bool)(a:Ev)(h:ai):rd Tryz.prog (Instr.checkKey e 10000 29 (ku a)) h=some ():=db
theorem under:(Tryz.prog.underlying 29).isSome=true:=db
theorem key:Am Tryz.prog 29 ku:=⟨eqv,RA,by
 obtain⟨d,h⟩:=eL.1 under;exact⟨d,h,λa b=> .inl (by unfold ku;cases d<;>rfl)⟩,λa=>by unfold ku;simp[Instr.sameBits,KV.2]⟩
def pl(more c:UInt8):Bool:=(decide (97<=c) && decide (c<=122))||(decide (48<=c) && decide (c<=57))||c==45||c==more
def lG(more:UInt8)(s:ByteArray):Bool:=s.data.toList.all (pl more)
def cK(x:Ev):Bool:=
 if x=.zero then true
 else if x.kH=true then decide (x.host=⟨#[]⟩/\x.jD=⟨#[]⟩/\1<=x.node/\x.node<=4294967295/\x.gH<=4294967295)
 else decide (x.node=0/\x.gH=0/\1<=x.host.size/\x.host.size<=16/\x.jD.size<=24) && (lG 45 x.host && lG 47 x.jD)
def jd(x:Ev):Int:=if x=.zero then 0 else if x.kH=true then 1 else 2
def bl(a b:ByteArray):Bool:=Op.bytesLess a.toList b.toList
def mT(x y:Ev):Bool:=
 if jd x≠jd y then decide (jd x<jd y)
 else if x.node≠y.node then decide (x.node<y.node)
 else if x.gH≠y.gH then decide (x.gH<y.gH)
 else if x.host≠y.host then bl x.host y.host
 else bl x.jD y.jD
theorem bytes_irrefl: ∀a:List UInt8,Op.bytesLess a a=false
 | []=>rfl
 |a::x=>by unfold Op.bytesLess;simp[bytes_irrefl x]
theorem bytes_trans: ∀{a b c:List UInt8},Op.bytesLess a b=true->Op.bytesLess b c=true->Op.bytesLess a c=true
 |_, [],_,h,_=>by unfold Op.bytesLess at h;cases h
 |_,_::_, [],_,h=>by unfold Op.bytesLess at h;cases h
 | [],b::y,c::z,_,_=>rfl
 |a::x,b::y,c::z,d,H=>by
  unfold Op.bytesLess at d H⊢;simp only[Bool.or_eq_true,aY,aT,cP]at d H⊢;rcases d with d|⟨rfl,d⟩
  .rcases H with H|⟨rfl,H⟩
   .exact .inl (UInt8.lt_trans d H)
   .exact .inl d
  .rcases H with H|⟨rfl,H⟩
   .exact .inl H
   .exact .inr ⟨rfl,bytes_trans d H⟩
theorem bytes_total: ∀{a b:List UInt8},a≠b->Op.bytesLess a b=true\/Op.bytesLess b a=true
 | [], [],h=>absurd rfl h
 | [],_::_,_=> .inl rfl
 |_::_, [],_=> .inr rfl
 |a::x,b::y,h=>by
  unfold Op.bytesLess;simp only[Bool.or_eq_true,aY,aT,cP];by_cases e:a=b
  .subst e;rcases bytes_total (a:=x) (b:=y) (λe=>h (by rw[e]))with h1|h1
   .exact .inl (.inr ⟨rfl,h1⟩)
   .exact .inr (.inr ⟨rfl,h1⟩)
  .rcases UInt8.lt_or_lt_of_ne e with h1|h1
   .exact .inl (.inl h1)
   .exact .inr (.inl h1)
theorem OZ{a b:ByteArray}(h:a≠b):bl a b=true\/bl b a=true:=by
 refine bytes_total λe=>h ?_
 rw[toList_data,toList_data]at e;cases a;cases b;simp only[ByteArray.mk.injEq];exact Array.ext' e
theorem xG{a b c:ByteArray}(H:bl a b=true)(d:bl b c=true):bl a c=true:=bytes_trans H d
theorem Av(a:ByteArray):bl a a=false:=bytes_irrefl _
theorem sH{x y:Ev}:mT x y=true↔jd x<jd y\/(jd x=jd y/\(x.node<y.node\/(x.node=y.node/\(x.gH<y.gH\/(x.gH=y.gH/\((x.host≠y.host/\bl x.host y.host=true)\/(x.host=y.host/\bl x.jD y.jD=true))))))):=by
 unfold mT;by_cases H:jd x=jd y
 .rw[ag (cD H)];by_cases a:x.node=y.node
  .rw[ag (cD a)];by_cases b:x.gH=y.gH
   .rw[ag (cD b)];by_cases c:x.host=y.host
    .rw[ag (cD c)];simp[H,a,b,c]
    .rw[af c];simp[H,a,b,c]
   .rw[af b];simp[H,a,b]
  .rw[af a];simp[H,a]
 .rw[af H];simp[H]
theorem vO(x:Ev):mT x x=false:=by
 cases h:mT x x
 .rfl
 .rw[sH]at h;rcases h with h|⟨_,h|⟨_,h|⟨_,⟨h,_⟩|⟨_,h⟩⟩⟩⟩
  .omega
  .omega
  .omega
  .exact absurd rfl h
  .rw[Av]at h;cases h
theorem E7{x y z:Ev}(a:mT x y=true)(H:mT y z=true):mT x z=true:=by
 rw[sH]at a H⊢;rcases a with a|⟨c1,a⟩
 .rcases H with H|⟨c,_⟩
  .exact .inl ae
  .exact .inl ae
 rcases H with H|⟨c,H⟩
 .exact .inl ae
 refine .inr ⟨ae,?_⟩;rcases a with a|⟨n1,a⟩
 .rcases H with H|⟨n2,_⟩<;>exact .inl ae
 rcases H with H|⟨n2,H⟩
 .exact .inl ae
 refine .inr ⟨ae,?_⟩;rcases a with a|⟨s1,a⟩
 .rcases H with H|⟨s,_⟩<;>exact .inl ae
 rcases H with H|⟨s,H⟩
 .exact .inl ae
 refine .inr ⟨ae,?_⟩;rcases a with⟨e1,a⟩|⟨e1,a⟩
 .rcases H with⟨e2,H⟩|⟨e2,H⟩
  .refine .inl ⟨λe=> ?_,xG a H⟩;have:=xG a (e▸H);rw[Av]at this;cases this
  .exact .inl (by rw[<-e2];exact⟨e1,a⟩)
 .rcases H with⟨e2,H⟩|⟨e2,H⟩
  .exact .inl (by rw[e1];exact⟨e2,H⟩)
  .exact .inr ⟨e1.trans e2,xG a H⟩
theorem xH{x y:Ev}(h:jd x=jd y)(a:x=.zero):y=.zero:=by
 unfold jd at h;rw[af a]at h;by_cases H:y=.zero
 .exact H
 .rw[ag H]at h;split at h<;>omega
theorem E9{x y:Ev}(h:x≠y):mT x y=true\/mT y x=true:=by
 rw[sH,sH];by_cases H:jd x=jd y
 .by_cases a:x.node=y.node
  .by_cases b:x.gH=y.gH
   .by_cases c:x.host=y.host
    .have f:x.jD≠y.jD:=λe=>by
      have i:x≠ .zero:=λE=>h (E.trans (xH H E).symm)
      have j:y≠ .zero:=λE=>h ((xH H.symm E).trans E.symm)
      unfold jd at H;rw[ag i,ag j]at H;have g:x.kH=y.kH:=by
       cases ex:x.kH<;>cases d:y.kH<;>simp[ex,d]at H⊢
      exact h (Ev.ext' g a b c e)
     rcases OZ f with h5|h5
     .exact .inl (.inr ⟨H,.inr ⟨a,.inr ⟨b,.inr ⟨c,h5⟩⟩⟩⟩)
     .exact .inr (.inr ⟨H.symm,.inr ⟨a.symm,.inr ⟨b.symm,.inr ⟨c.symm,h5⟩⟩⟩⟩)
    .rcases OZ c with h5|h5
     .exact .inl (.inr ⟨H,.inr ⟨a,.inr ⟨b,.inl ⟨c,h5⟩⟩⟩⟩)
     .exact .inr (.inr ⟨H.symm,.inr ⟨a.symm,.inr ⟨b.symm,.inl ⟨e6 c,h5⟩⟩⟩⟩)
   .rcases Int.lt_or_gt_of_ne b with h5|h5
    .exact .inl (.inr ⟨H,.inr ⟨a,.inl h5⟩⟩)
    .exact .inr (.inr ⟨H.symm,.inr ⟨a.symm,.inl h5⟩⟩)
  .rcases Int.lt_or_gt_of_ne a with h5|h5
   .exact .inl (.inr ⟨H,.inl h5⟩)
   .exact .inr (.inr ⟨H.symm,.inl h5⟩)
 .rcases Int.lt_or_gt_of_ne H with h5|h5
  .exact .inl (.inl h5)
  .exact .inr (.inl h5)
variable {h : ai} {R : Value → ai → Prop}
theorem get_at{s:ByteArray}{i:Nat}(H:i<s.size):s.get! i=s.data.toList.getD i 0:=by
 have:i<s.data.size:=H;show s.data[i]! =_;have e:s.data.toList[i]? =some s.data[i]:=by rw[df];exact Array.getElem?_eq_getElem this
 rw[getElem!_pos s.data i this,aX,e];rfl
theorem decode_at(s:ByteArray)(i:Nat)(a:i<s.size):(s.data.toList.getD i 0<128->Utf8.decode s i=((s.data.toList.getD i 0).toNat,1))/\(¬s.data.toList.getD i 0<128->128<=(Utf8.decode s i).1):=by
 have e:=get_at a;have E:(s.get! (i+0)).toNat=(s.data.toList.getD i 0).toNat:=by rw[Nat.add_zero,e]
 constructor
 .intro h;have h:(s.data.toList.getD i 0).toNat<128:=h;unfold Utf8.decode;simp only[E];rw[af h]
 .intro h;have h: ¬(s.data.toList.getD i 0).toNat<128:=h;unfold Utf8.decode;simp only[E];rw[ag h];split
  .split
   .omega
   .show 128<=Utf8.runeError;decide
  .split
   .split
    .rename_i H;simp only[aT,aY]at H;show 128<=_;omega
    .show 128<=Utf8.runeError;decide
   .split
    .split
     .rename_i H;simp only[aT,aY]at H;show 128<=_;omega
     .show 128<=Utf8.runeError;decide
    .show 128<=Utf8.runeError;decide
def np(more:Int)(c:Int):Bool:=(decide (c<97)||decide (c>122)) && ((decide (c<48)||decide (c>57)) && ((c !=45) && (c !=more)))
theorem KW{more c:Int}(e:more<128)(h:128<=c):np more c=true:=by
 unfold np;have H:c>122:=ae
 have a:c>57:=ae
 have b:c≠45:=ae
 have d:c≠more:=ae
 simp[H,a,b,d]
theorem KX(more:UInt8)(b:UInt8):np (more.toNat:Int) (b.toNat:Int)= !pl more b:=by
 have e1:(b=45)↔((b.toNat:Int)=45):=by
  constructor
  .rintro rfl;rfl
  .intro e;exact UInt8.toNat_inj.1 (by show b.toNat=45;omega)
 have e2:(b=more)↔((b.toNat:Int)=(more.toNat:Int)):=by
  constructor
  .rintro rfl;rfl
  .intro e;exact UInt8.toNat_inj.1 ae
 have E:(97<=b)↔ ¬((b.toNat:Int)<97):=by rw[UInt8.le_iff_toNat_le];show 97<=b.toNat↔_;omega
 have a:(b<=122)↔ ¬((b.toNat:Int)>122):=by rw[UInt8.le_iff_toNat_le];show b.toNat<=122↔_;omega
 have c:(48<=b)↔ ¬((b.toNat:Int)<48):=by rw[UInt8.le_iff_toNat_le];show 48<=b.toNat↔_;omega
 have d:(b<=57)↔ ¬((b.toNat:Int)>57):=by rw[UInt8.le_iff_toNat_le];show b.toNat<=57↔_;omega
 unfold np pl;have f:(b==45)=decide ((b.toNat:Int)=45):=by by_cases q:b=45<;>simp[q,e1.symm]
 have g:(b==more)=decide ((b.toNat:Int)=(more.toNat:Int)):=by
  by_cases q:b=more
  .simp[q]
  .have: ¬((b.toNat:Int)=(more.toNat:Int)):=λe=>q (e2.2 e)
   rw[az this];simp[q]
 rw[f,g];simp only[E,a,c,d];by_cases q1:(b.toNat:Int)<97<;>by_cases q2:(b.toNat:Int)>122<;>by_cases q3:(b.toNat:Int)<48<;>by_cases q4:(b.toNat:Int)>57<;>by_cases Q:(b.toNat:Int)=45<;>by_cases q6:(b.toNat:Int)=(more.toNat:Int)<;>simp[q1,q2,q3,q4,Q,q6]
end jc
end
end Go.Proofs.YtlenamcfacpheaaGreatDoor
namespace Go.Proofs
open Go.Den
open IntKind (wrap)
open Int (toNat)
section
open Go.Shelf
def Tryz.Di:Go.Shelf.Ren:=⟨fun|145=>313|220=>322|219=>326|217=>328|225=>329|224=>330|267=>331|266=>332|314=>333|n=>n,fun|9=>9|4=>4|59=>409|3=>3|5=>5|46=>211|146=>427|51=>315|n=>n,fun|1=>5|n=>n⟩
theorem Tryz.NA : Go.Proofs.Lays.n145 Tryz.prog Tryz.Di := {
  mixed := by kernel_rfl
  f145 := Tryz.func313.trans (congrArg some (by kernel_rfl))
  f217 := Tryz.func328.trans (congrArg some (by kernel_rfl))
  f219 := Tryz.func326.trans (congrArg some (by kernel_rfl))
  f220 := Tryz.func322.trans (congrArg some (by kernel_rfl))
  f224 := Tryz.func330.trans (congrArg some (by kernel_rfl))
  f225 := Tryz.func329.trans (congrArg some (by kernel_rfl))
  f266 := Tryz.func332.trans (congrArg some (by kernel_rfl))
  f267 := Tryz.func331.trans (congrArg some (by kernel_rfl))
  f314 := Tryz.func333.trans (congrArg some (by kernel_rfl))
  t3 := Tryz.underlying3
  a3 := Tryz.isAgg3
  z3 := Tryz.sizeOf3
  v3 := Tryz.zeroValue3
  t4 := Tryz.underlying4
  a4 := Tryz.isAgg4
  z4 := Tryz.sizeOf4
  v4 := Tryz.zeroValue4
  t5 := Tryz.underlying5
  a5 := Tryz.isAgg5
  z5 := Tryz.sizeOf5
  v5 := Tryz.zeroValue5
  t9 := Tryz.underlying9
  a9 := Tryz.isAgg9
  z9 := Tryz.sizeOf9
  v9 := Tryz.zeroValue9
  t46 := Tryz.underlying211
  a46 := Tryz.isAgg211
  z46 := Tryz.sizeOf211
  v46 := Tryz.zeroValue211
  t51 := Tryz.underlying315
  a51 := Tryz.isAgg315
  z51 := Tryz.sizeOf315
  v51 := Tryz.zeroValue315
  t59 := Tryz.underlying409
  a59 := Tryz.isAgg409
  z59 := Tryz.sizeOf409
  v59 := Tryz.zeroValue409
  t146 := Tryz.underlying427
  a146 := Tryz.isAgg427
  z146 := Tryz.sizeOf427
  v146 := Tryz.zeroValue427
  g1 := by kernel_rfl }
def Tryz.Dj:Go.Shelf.Ren:=⟨fun|103=>312|210=>321|206=>325|n=>n,fun|9=>9|4=>4|24=>407|3=>3|n=>n,fun|n=>n⟩
theorem Tryz.NB : Go.Proofs.Lays.n103 Tryz.prog Tryz.Dj := {
  mixed := by kernel_rfl
  f103 := Tryz.func312.trans (congrArg some (by kernel_rfl))
  f206 := Tryz.func325.trans (congrArg some (by kernel_rfl))
  f210 := Tryz.func321.trans (congrArg some (by kernel_rfl))
  t3 := Tryz.underlying3
  a3 := Tryz.isAgg3
  z3 := Tryz.sizeOf3
  v3 := Tryz.zeroValue3
  t4 := Tryz.underlying4
  a4 := Tryz.isAgg4
  z4 := Tryz.sizeOf4
  v4 := Tryz.zeroValue4
  t9 := Tryz.underlying9
  a9 := Tryz.isAgg9
  z9 := Tryz.sizeOf9
  v9 := Tryz.zeroValue9
  t24 := Tryz.underlying407
  a24 := Tryz.isAgg407
  z24 := Tryz.sizeOf407
  v24 := Tryz.zeroValue407 }

end
end Go.Proofs
namespace Go.Proofs.YtlenamcfacpheaaGreatDoor
open Go.Den
open IntKind (wrap)
open Int (toNat)
section
namespace tR
variable {h h':ai} {R:fx}
variable {s:ByteArray}
def Mx(h:ai):Prop:= ∃m,aB h ⟨5,0,none⟩=some (.int .i64 m)
theorem Mx.on(M:Mx h)(f:Fr No h h'):Mx h':=by
 obtain⟨m,H⟩:=M;exact⟨m,f.cell H id⟩
theorem BC{S:ByteArray}(M:Mx h)(c:s.size<4294967281)(hk:R (.tuple #[.string ⟨(Lib.cut s.data.toList S.data.toList).1.toArray⟩,.string ⟨(Lib.cut s.data.toList S.data.toList).2.1.toArray⟩,.bool (Lib.cut s.data.toList S.data.toList).2.2]) h):ar Tryz.prog 313 #[.string s,.string S] h R:=λw d=>by
 subst d;obtain⟨m,b⟩:=M;refine(Any.strings_Cut Tryz.NA s S m w c (by rw[j0];exact b)).mono λe w' ⟨a,n,H⟩=>⟨_,a,?_,?_⟩
 .rw[H];exact hk
 .rw[H];exact⟨rfl,rfl,rfl⟩
theorem I1{p:ByteArray}(hk:R (.tuple #[.string ⟨(Lib.trimPrefix s.data.toList p.data.toList).toArray⟩,.bool (Lib.hasPrefix s.data.toList p.data.toList)]) h):ar Tryz.prog 312 #[.string s,.string p] h R:=λw b=>
 (Any.strings_CutPrefix Tryz.NB s p w).mono λe w' ⟨a,H⟩=>⟨_,a,by rw[H,b];exact hk,by rw[H];exact fc.refl _⟩

end tR
end
section
namespace Bn
open Cb
open jc (Ev cK)
def nY(s q:Nat):Nat:=if s%2=1 then(s/2) ^^^ q else s/2
def ps(q:Nat):Nat->Nat->Nat
 |0,s=>s
 |k+1,s=>ps q k (nY s q)
def O0(s c q:Nat):Nat:=ps q 8 (s ^^^ c)
def runN(s:Nat)(b:List UInt8)(q:Nat):Nat:=b.foldl (λs c=>O0 s c.toNat q) s
def xI(b:List UInt8):Nat:=65535 ^^^ (runN 65535 b 33800%65536)
def vP(b:List UInt8):Nat:=4294967295 ^^^ runN 4294967295 b 2197175160
def BD(b:List UInt8):List UInt8:= [UInt8.ofNat (xI b/256),UInt8.ofNat (xI b)]
def GV(b:List UInt8):List UInt8:= [UInt8.ofNat (vP b/16777216),UInt8.ofNat (vP b/65536),UInt8.ofNat (vP b/256),UInt8.ofNat (vP b)]
def Dk(x:Ev):List UInt8:= [47,47]++x.host.data.toList++ [47]++x.jD.data.toList
def zB(x:Ev):Tr:=if x=.zero then qC [num 1,num 0]else if x.kH=true then qC [num 2,qC [num x.node.toNat,num x.gH.toNat]]else qC [num 1,.mk 3 0 (Dk x) []]
def vQ(s:List UInt8):Ev:=⟨false,0,0,⟨(Lib.cut (Lib.trimPrefix s [47,47]) [47]).1.toArray⟩,⟨(Lib.cut (Lib.trimPrefix s [47,47]) [47]).2.1.toArray⟩⟩
def sI(s:List UInt8):Bool:=Lib.hasPrefix s [47,47] && (Lib.cut (Lib.trimPrefix s [47,47]) [47]).2.2 && !(Lib.cut (Lib.trimPrefix s [47,47]) [47]).1.isEmpty && cK (vQ s)
def at_(l:List Tr)(i:Nat):Tr:=l.getD i GP
def xJ(l:List Tr):Bool:=l.all λt=>mM t (num t.n)
def KY(t:Tr):Ev:=⟨true,((at_ t.l 0).n:Int),((at_ t.l 1).n:Int),⟨#[]⟩,⟨#[]⟩⟩
def mU(V:List UInt8->Bool)(t:Tr):Option Ev:=
 if gw V t=true/\t.k=4/\t.l.length=2 then
  if mM (at_ t.l 0) (num 1)=true/\mM (at_ t.l 1) (num 0)=true then some .zero
  else if mM (at_ t.l 0) (num 1)=true/\(at_ t.l 1).k=3 then(if sI (at_ t.l 1).b=true then some (vQ (at_ t.l 1).b)else none)
  else if mM (at_ t.l 0) (num 2)=true then(if(at_ t.l 1).k=4/\(at_ t.l 1).l.length=2/\xJ (at_ t.l 1).l=true/\cK (KY (at_ t.l 1))=true then some (KY (at_ t.l 1))else none)
  else none
 else none
structure iz where
 e:Ev
 tm:Nat
 sq:Nat
deriving DecidableEq
def iz.zero:iz:=⟨.zero,0,0⟩
def gx(x:iz):Bool:=cK x.e && decide (x.tm<=1099511627776) && decide (x.sq<=1099511627776)
def KZ(x:iz):Tr:=qC [zB x.e,qC [num x.tm,num x.sq]]
def jY(V:List UInt8->Bool)(t:Tr):Option iz:=
 if t.k=4/\t.l.length=2/\(at_ t.l 1).k=4/\(at_ t.l 1).l.length=2 then
  match mU V (at_ t.l 0)with
  |none=>none
  |some e=>if gx ⟨e,(at_ (at_ t.l 1).l 0).n,(at_ (at_ t.l 1).l 1).n⟩=true/\mM (KZ ⟨e,(at_ (at_ t.l 1).l 0).n,(at_ (at_ t.l 1).l 1).n⟩) t=true then some ⟨e,(at_ (at_ t.l 1).l 0).n,(at_ (at_ t.l 1).l 1).n⟩else none
 else none
def typeAt(l:List Tr)(i:Nat):Int:=if i<l.length/\(at_ l i).n<=2/\mM (at_ l i) (num (at_ l i).n)=true then((at_ l i).n:Int)else -1
def sumOf(V:List UInt8->Bool)(l:List Tr)(sum:Nat):Except Int (List UInt8):=
 if gw V (qC (l++ [oL (List.replicate (2*sum) 0)]))=true then .ok (if sum=1 then BD (enc (qC (l++ [oL (List.replicate (2*sum) 0)])))else GV (enc (qC (l++ [oL (List.replicate (2*sum) 0)]))))else .error 3
def ml(V:List UInt8->Bool)(l:List Tr)(i:Nat):Except Int Tr:=
 if i<l.length then
  if l.all (gw V)=true/\0<=typeAt l i then
   if 0<typeAt l i then(match sumOf V l (typeAt l i).toNat with
    | .error e=> .error e
    | .ok b=>if gw V (qC (l++ [oL b]))=true then .ok (qC (l++ [oL b]))else .error 3)
   else if gw V (qC l)=true then .ok (qC l)else .error 3
  else .error 3
 else .error 1
def oB(V:List UInt8->Bool)(t:Tr)(i:Nat):Except Int (List Tr):=
 if gw V t=true/\t.k=4/\0<=typeAt t.l i then
  if typeAt t.l i=0 then .ok t.l
  else if i<t.l.length - 1/\mM (at_ t.l (t.l.length - 1)) (oL (at_ t.l (t.l.length - 1)).b)=true/\(at_ t.l (t.l.length - 1)).b.length=2*(typeAt t.l i).toNat then
   (match sumOf V (t.l.take (t.l.length - 1)) (typeAt t.l i).toNat with
   | .error e=> .error e
   | .ok b=>if b=(at_ t.l (t.l.length - 1)).b then .ok (t.l.take (t.l.length - 1))else .error 10)
  else .error 3
 else .error 3
structure Prim where
 fl:Nat
 sum:Int
 dest:Ev
 rep:Ev
 id:iz
 eH:Nat
deriving DecidableEq
def Prim.zero:Prim:=⟨0,0,.zero,.zero,.zero,0⟩
def Rl(n all:Int):Bool:=IntKind.wrap .u64 ((BitVec.ofInt (IntKind.bits .u64) n &&& ~~~ BitVec.ofInt (IntKind.bits .u64) all).toNat:Int)==0
def je(p:Prim):Bool:=Rl (p.fl:Int) 409638 && decide (0<=p.sum) && decide (p.sum<=2) && cK p.dest && cK p.rep && gx p.id && decide (p.eH<=1099511627776)
def Dm(p:Prim):List Tr:= [num 7,num p.fl,num p.sum.toNat,zB p.dest,zB p.id.e,zB p.rep,qC [num p.id.tm,num p.id.sq],num p.eH]
def mn(V:List UInt8->Bool)(p:Prim):Except Int Tr:=if je p=true then ml V (Dm p) 2 else .error 3
def uk(l:List Tr)(d r:Ev)(i:iz):Prim:=⟨(at_ l 1).n,((at_ l 2).n:Int),d,r,i,(at_ l 7).n⟩
def vR(V:List UInt8->Bool)(t:Tr):Except Int Prim:=
 match oB V t 2 with
 | .error e=> .error e
 | .ok l=>if l.length=8 then(match mU V (at_ l 3),mU V (at_ l 5),jY V (qC [at_ l 4,at_ l 6])with
  |some d,some r,some i=>(match mn V (uk l d r i)with
   | .ok a=>if mM a t=true then .ok (uk l d r i)else .error 3
   | .error _=> .error 3)
  |_,_,_=> .error 3)else .error 3
structure qH where
 ty:Nat
 nr:Nat
 fl:Nat
 sum:Int
 data:List UInt8
deriving DecidableEq
def Dn(l:List Nat):Tr:=qC (l.map num)
def jg(V:List UInt8->Bool)(bs:List UInt8):Bool:=match oy V bs with| .ok (t,n)=>decide (n=bs.length) && decide (enc t=bs)| .error _=>false
def dZ(V:List UInt8->Bool)(bs:List UInt8):Tr:=match oy V bs with| .ok (t,_)=>t| .error _=>GP
def Qx(V:List UInt8->Bool)(d:List UInt8):Bool:=jg V d && mM (dZ V d) (num (dZ V d).n) && decide ((dZ V d).n<=1099511627776)
def mB(t:Tr):Nat:=(at_ t.l 0).n
def xK(t:Tr):Nat:=(at_ t.l 1).n
def K0(V:List UInt8->Bool)(d:List UInt8):Bool:=jg V d && decide ((dZ V d).k=4/\(dZ V d).l.length=2) && mM (dZ V d) (Dn [mB (dZ V d),xK (dZ V d)]) && decide (1<=mB (dZ V d)/\mB (dZ V d)<=255/\xK (dZ V d)<=mB (dZ V d))
def xL(V:List UInt8->Bool)(ty:Nat)(d:List UInt8):Bool:=(if ty=6 then jg V d && (mU V (dZ V d)).isSome else if ty=7 then Qx V d else if ty=10 then K0 V d else true) && decide (d.length<=200)
def kI(n:Nat):Bool:=decide (1<=n/\n<=255)
def jv(V:List UInt8->Bool)(b:qH):Bool:=kI b.ty && kI b.nr && Rl (b.fl:Int) 23 && decide (0<=b.sum) && decide (b.sum<=2) && xL V b.ty b.data
def I2(b:qH):List Tr:= [num b.ty,num b.nr,num b.fl,num b.sum.toNat,oL b.data]
def qI(V:List UInt8->Bool)(b:qH):Except Int Tr:=if jv V b=true then ml V (I2 b) 3 else .error 3
def px(l:List Tr):qH:=⟨(at_ l 0).n,(at_ l 1).n,(at_ l 2).n,((at_ l 3).n:Int),(at_ l 4).b⟩
def xM(V:List UInt8->Bool)(t:Tr):Except Int qH:=
 match oB V t 3 with
 | .error e=> .error e
 | .ok l=>if l.length=5/\(at_ l 4).k=2 then(match qI V (px l)with
  | .ok a=>if mM a t=true then .ok (px l)else .error 3
  | .error _=> .error 3)else .error 3
structure qm where
 p:Prim
 bl:List qH
deriving DecidableEq
def alone(k:Nat):Bool:=decide (k=1\/k=6\/k=7\/k=10)
def apart(b c:qH):Bool:=decide (c.nr≠b.nr) && (decide (c.ty≠b.ty)|| !alone b.ty)
def Fa(V:List UInt8->Bool):List qH->List qH->Bool
 |_, []=>true
 |pre,b::l=>jv V b && pre.all (apart b) && Fa V (pre++ [b]) l
def zC(V:List UInt8->Bool)(l:List qH):Bool:=match l.getLast? with
 |none=>false
 |some z=>decide (l.length<=8) && decide (z.ty=1/\z.nr=1) && Fa V [] l
def xN(V:List UInt8->Bool)(t:Tr):List UInt8:=if gw V t=true then enc t else []
def Dp(V:List UInt8->Bool):List qH->List UInt8->Option (List UInt8)
 | [],out=>some out
 |b::l,out=>match qI V b with
  | .error _=>none
  | .ok t=>Dp V l (out++xN V t)
def py(V:List UInt8->Bool)(b:qm):Option (List UInt8):=match mn V b.p with
 | .error _=>none
 | .ok t=>Dp V b.bl (xN V t)
def kj(V:List UInt8->Bool)(b:qm):Option (List UInt8):=
 if zC V b.bl=true then(match py V b with
  |none=>none
  |some l=>if l.length<=598 then some (159::(l++ [255]))else none)
 else none
def Dq(V:List UInt8->Bool):List Tr->List qH->Except Int (List qH)
 | [],out=> .ok out
 |t::l,out=>match xM V t with
  | .error e=> .error e
  | .ok b=>Dq V l (out++ [b])
def sJ(V:List UInt8->Bool)(bs:List UInt8):Except Int qm:=
 if bs.length<=1200 then(match oy V bs with
  | .error e=> .error e
  | .ok (t,n)=>if n=bs.length/\t.k=4/\2<=t.l.length/\t.l.length<=9 then(match vR V (at_ t.l 0)with
   | .error e=> .error e
   | .ok p=>(match Dq V (t.l.drop 1) []with
    | .error e=> .error e
    | .ok l=>if(kj V ⟨p,l⟩).isSome=true then .ok ⟨p,l⟩else .error 3))else .error 3)
 else .error 2
def wk(b:qm):List UInt8:=match b.bl.getLast? with|none=> []|some z=>z.data
structure y9 where
 rc:Bool
 dl:Bool
 de:Bool
 reason:Nat
 at':Nat
 of:iz
deriving DecidableEq
def hC(r:y9):Bool:=(r.rc||r.dl||r.de) && decide (r.reason<=255) && decide (r.at'<=1099511627776) && gx r.of
def Dr(l:List Bool):Tr:=qC (l.map λb=>num (if b=true then 1 else 0))
def BE(r:y9):Tr:=qC [num 1,qC [Dr [r.rc,r.dl,r.de],num r.reason,num r.at',KZ r.of]]
def I3(V:List UInt8->Bool)(r:y9):Option (List UInt8):=if hC r=true/\gw V (BE r)=true then some (enc (BE r))else none
def kA(V:List UInt8->Bool)(r:y9)(dest:Ev)(id:iz)(eH:Nat):Option qm:=match I3 V r with
 |none=>none
 |some b=>if(kj V ⟨⟨2,0,dest,.zero,id,eH⟩, [⟨1,1,0,0,b⟩]⟩).isSome=true then some ⟨⟨2,0,dest,.zero,id,eH⟩, [⟨1,1,0,0,b⟩]⟩else none

end Bn
end
section
namespace Ask
open jc (Ev cK)
structure Rq where
 id:Nat
 kind:Int
 ep:Ev
 dest:Ev
 j1:Int
 num:Int
 gk:Int
 oD:List UInt8
 eH:Nat
 token:Nat
 on:Bool
deriving DecidableEq
def iA(x:Rq):Rq:=⟨x.id,x.kind,.zero,.zero,0,0,0, [],0,0,false⟩
def oN(x:Rq):Rq:=
 if x.kind=1\/x.kind=3 then { iA x with ep:=x.ep,j1:=x.j1 }
 else if x.kind=2\/x.kind=6 then { iA x with ep:=x.ep }
 else if x.kind=4 then { iA x with ep:=x.ep,dest:=x.dest,oD:=x.oD,eH:=x.eH,on:=x.on }
 else if x.kind=5\/x.kind=8\/x.kind=9 then { iA x with num:=x.num }
 else if x.kind=7 then { iA x with ep:=x.ep,gk:=x.gk }
 else if x.kind=10 then { iA x with on:=x.on }
 else if x.kind=12 then { iA x with token:=x.token }
 else iA x
def jT(e:Ev):Bool:=cK e && !decide (e=.zero)
def jL(x:Rq):Bool:=
 if x.kind=1\/x.kind=3 then jT x.ep && decide (x.j1≥0) && decide (x.j1<=2)
 else if x.kind=2\/x.kind=6 then jT x.ep
 else if x.kind=4 then jT x.ep && jT x.dest && decide (x.oD.length<=200) && decide (x.eH≥1) && decide (x.eH<=1099511627776)
 else if x.kind=5\/x.kind=8\/x.kind=9 then decide (x.num≥1) && decide (x.num<=1099511627776)
 else if x.kind=7 then jT x.ep && decide (x.gk≥1) && decide (x.gk<=1000)
 else if x.kind=12 then decide (x.token≥1) && decide (x.token<=2147483648)
 else decide (x.kind=10\/x.kind=11)
def iG(x:Rq):Bool:=decide (x.id≥1) && decide (x.id<=1099511627776) && jL x && decide (x=oN x)

end Ask
end
section
variable {h:ai} {R:fx}
variable {w B c r:Nat} {n:Int} {d:cj}
theorem mC.walk{s:cj}{a S:Nat}(g:if s.isNone then R (.Z) h else aS h (.cells #[] 5) λb H=>aV Tryz.prog (Builtin.append_ #[22,22] 22 #[.slice (some (AA b 0)) 0 0,.slice s a S]) H λv f=> ∃e T t,v=.slice e T t/\R (.slice e T t) f):ar Tryz.prog 50 #[.slice s a S] h R:=aR (lq (sq (lq (cq ll lf)) ll)) Tryz.func50 g
theorem Fb.walk(a:aS h (.cells #[.bool true,.Z] 209) λb H=>R (.P b 0) H):ar Tryz.prog 65 #[] h R:=aR (lq ll) Tryz.func65 a
theorem sK.walk (u:aK (λ(t13:Bool) (a:ai)=>if t13 then R (.P w 0) a else∃(I:Int->ai->Prop)(m:Int->ai->Nat),I n a/\∀(N:Int)(H:ai),I N H->if(decide (N>127))then Hl H w 1 λz y x=>aS H (.cells #[.int .u8 (wrap .u8 ((oR (wrap .u8 N)|||oR 128).toNat:Int))] 5) λb l=>aV Tryz.prog (Builtin.append_ #[22,22] 22 #[.slice z y x,.slice (some (AA b 0)) 1 1]) l λv o=> ∃f T t,v=.slice f T t/\aE o (AA w 1) (.slice f T t) λe=>(I (Int.fdiv N (2 ^ min (toNat 7) (IntKind.bits .u64))) e/\m (Int.fdiv N (2 ^ min (toNat 7) (IntKind.bits .u64))) e<m N H)else Hl H w 1 λD C A=>aS H (.cells #[.int .u8 (wrap .u8 N)] 5) λk p=>aV Tryz.prog (Builtin.append_ #[22,22] 22 #[.slice D C A,.slice (some (AA k 0)) 1 1]) p λV q=> ∃j i g,V=.slice j i g/\aE q (AA w 1) (.slice j i g) λs=>R (.P w 0) s) (λJ=> ∃t11,Cc h w 0 (.bool t11)/\J (!t11) h)):ar Tryz.prog 72 #[.P w 0,.U n] h R:=aR (lq (sq (sq (.join [(13,.one (.bool))] lf) (cq ll lf)) (sq (bq (.loop [(1,.one (.int .u64))] (sq (lq (cq lf lf)) (bq ll)))) (lq ll)))) Tryz.func72 u
theorem sL.walk(a:Cl 72 #[.P w 0,.U (wrap .u64 (if 0>n then 0 else n))] h λv H=> ∃t9,v=.pointer t9/\R (.pointer t9) H):ar Tryz.prog 66 #[.P w 0,.I n] h R:=aR (lq ll) Tryz.func66 a
theorem rN.walk(i:Cl 72 #[.P w 0,.U (wrap .u64 (B:Int))] h λv a=>Vp v λt9=>aK (λ(t17:Bool) (H:ai)=>aK (λ(e:ai)=>R (.P w 0) e) (λj=>if t17 then Hl H w 1 λm l k=>aV Tryz.prog (Builtin.append_ #[22,22] 22 #[.slice m l k,.slice d B c]) H λV f=> ∃b T t,V=.slice b T t/\aE f (AA w 1) (.slice b T t) λg=>j g else j H)) (λJ=> ∃t16,Cc a w 0 (.bool t16)/\J t16 a)):ar Tryz.prog 71 #[.P w 0,.slice d B c] h R:=aR (lq (lq (sq (sq (.join [(17,.one (.bool))] lf) (.join [] (cq lf lf))) ll))) Tryz.func71 i
theorem qJ.walk(b:Hl h w 1 λg f e=>Cl 50 #[.slice g f e] h λv H=> ∃a T t,v=.slice a T t/\R (.slice a T t) H):ar Tryz.prog 67 #[.P w 0] h R:=aR (lq (sq (lq (cq ll lf)) ll)) Tryz.func67 b
theorem sM.walk{f:Nat}{e:Int}(a: ∃t7,Cc h f 0 (.I t7)/\if(t7==0)then aE h (AA f 0) (.I e) λH=>R (.tuple #[]) H else R (.tuple #[]) h):ar Tryz.prog 144 #[.P f 0,.I e] h R:=aR (lq (cq lf lf)) Tryz.func144 a
theorem Ds.walk(e:Cl 50 #[.slice d B c] h λv H=>Vl v λf T t=>aS H (.cells #[.I 0,.bool true,.slice f T t] 221) λb a=>R (.P b 0) a):ar Tryz.prog 91 #[.slice d B c] h R:=aR (lq ll) Tryz.func91 e
theorem rO.walk(H: ∃t9,Cc h r 1 (.bool t9)/\if t9 then∃t16,Cc h r 0 (.I t16)/\R (.bool (t16==0)) h else R (.bool false) h):ar Tryz.prog 143 #[.P r 0] h R:=aR (lq ll) Tryz.func143 H
theorem sN.walk (p:aK (λ(k:ai)=>R (.U 0) k) (λJ=> ∃(I:Int->Int->ai->Prop)(m:Int->Int->ai->Nat),I 0 0 h/\∀(n:Int)(i:Int)(f:ai),I n i f->Cl 143 #[.P r 0] f λv H=> ∃t7,v=.bool t7/\if t7 then∃s t q,Cc H r 2 (.slice s t q)/\if(((t:Nat):Int)==0)then Cl 144 #[.P r 0,.I 8] H λV l=>V=.tuple #[]/\J l else Hl H r 2 λx u A=>Bd 0 u/\aO x λa=>GO H (a.add (toNat 0*1)) λt25=>Hl H r 2 λy g T=>((0:Int)<=1/\1<=(g:Int))/\aE H (AA r 2) (.slice (cE y T (toNat 1) 1) (g - (toNat 1)) (T - (toNat 1))) λb=>aK (λ(t52:Bool) (e:ai)=>if t52 then Cl 144 #[.P r 0,.I 3] e λz o=>z=.tuple #[]/\J o else if wrap .i64 (7*i)<0 then False else if((wrap .u8 ((oR t25 &&& oR 128).toNat:Int))==0)then R (.U (wrap .u64 ((mf n|||mf (wrap .u64 ((wrap .u64 (wrap .u8 ((oR t25 &&& oR 127).toNat:Int)))*2 ^ min (toNat (wrap .i64 (7*i))) (IntKind.bits .u64)))).toNat:Int))) e else(I (wrap .u64 ((mf n|||mf (wrap .u64 ((wrap .u64 (wrap .u8 ((oR t25 &&& oR 127).toNat:Int)))*2 ^ min (toNat (wrap .i64 (7*i))) (IntKind.bits .u64)))).toNat:Int)) (wrap .i64 (i+1)) e/\m (wrap .u64 ((mf n|||mf (wrap .u64 ((wrap .u64 (wrap .u8 ((oR t25 &&& oR 127).toNat:Int)))*2 ^ min (toNat (wrap .i64 (7*i))) (IntKind.bits .u64)))).toNat:Int)) (wrap .i64 (i+1)) e<m n i f)) (λj=>if(i==10)then j true b else if((wrap .i64 (i*7))==63)then if(decide (t25>1))then j true b else if(t25==0)then j (decide (i>0)) b else j false b else if(t25==0)then j (decide (i>0)) b else j false b)else J H)):ar Tryz.prog 92 #[.P r 0] h R:=aR (lq (lq (sq (lq (.join [] (bq (.loop [(3,.one (.int .u64)),(4,.one (.int .i64))] (sq (lq (cq lf lf)) (sq (bq (sq (lq (cq ll lf)) (lq (lq (sq (sq (.join [(52,.one (.bool))] lf) (cq ll lf)) (lq (lq (cq ll lf)))))))) lf)))))) ll))) Tryz.func92 p
theorem pz.walk{t:Int}(b:Cl 92 #[.P r 0] h λv H=> ∃t7,v=.U t7/\if(decide (t7>t))then Cl 144 #[.P r 0,.I 3] H λV a=>V=.tuple #[]/\R (.U 0) a else R (.U t7) H):ar Tryz.prog 145 #[.P r 0,.U t] h R:=aR (lq (lq (sq (lq (cq (lq ll) lf)) ll))) Tryz.func145 b
theorem sO.walk(a:Cl 145 #[.P r 0,.U 1099511627776] h λv H=> ∃t4,v=.U t4/\R (.I (wrap .i64 t4)) H):ar Tryz.prog 93 #[.P r 0] h R:=aR (lq ll) Tryz.func93 a
theorem rP.walk (j:Cl 92 #[.P r 0] h λv f=>Vu v λt6=>Cl 143 #[.P r 0] f λV H=> ∃t8,V=.bool t8/\if(!t8)then R (.Z) H else∃l T k,Cc H r 2 (.slice l T k)/\if(decide (t6>(wrap .u64 ((T:Nat):Int))))then Cl 144 #[.P r 0,.I 8] H λu g=>u=.tuple #[]/\R (.Z) g else Hl H r 2 λm y t=>((0:Int)<=t6/\t6<=(t:Int))/\Cl 50 #[.slice (cE m t 0 1) ((toNat t6) - 0) (t - 0)] H λx a=>Vl x λq p o=>Hl a r 2 λs e b=>((0:Int)<=t6/\t6<=(e:Int))/\aE a (AA r 2) (.slice (cE s b (toNat t6) 1) (e - (toNat t6)) (b - (toNat t6))) λi=>R (.slice q p o) i):ar Tryz.prog 94 #[.P r 0] h R:=aR (lq (lq (sq (lq (cq ll lf)) (sq (lq (cq (lq ll) lf)) (lq (lq ll)))))) Tryz.func94 j
theorem sP.walk (a:aK (λ(t3:Bool) (H:ai)=>if t3 then R (.I 6) H else∃t18,Cc H r 0 (.I t18)/\if(t18 !=0)then∃t24,Cc H r 0 (.I t24)/\R (.I t24) H else∃b t T,Cc H r 2 (.slice b t T)/\if(decide (((t:Nat):Int)>0))then R (.I 2) H else R (.I 0) H) (λJ=> ∃t10,Cc h r 1 (.bool t10)/\J (!t10) h)):ar Tryz.prog 95 #[.P r 0] h R:=aR (lq (sq (bq (sq (.join [(3,.one (.bool))] lf) (cq ll (lq (cq ll (lq (cq ll lf))))))) ll)) Tryz.func95 a

end
section
namespace kk
variable {h:ai} {bs:List UInt8} {R:fx}
variable {p:cj} {n c:Nat}
theorem tU:nP Tryz.prog 22 5 1 1 (.int .u8 0):=⟨db,db,rfl⟩
theorem uU:Tryz.prog.underlying 22=some (.slice 5):=db
theorem u8:Tryz.prog.underlying 5=some (.int .u8):=db
theorem uS:Tryz.prog.underlying 9=some .string:=db
theorem conv(a:Row h p (bc bs))(H:n=bs.length):qV Tryz.prog 22 9 (.slice p n c) h (str bs):=KG uU u8 uS a H
theorem gK(H:Row h p (bc bs))(f:n=bs.length)(l:bs.length<=70368744177664)(hk: ∀P C h',fy h' P bs.length C 1 (bc bs)->Fr No h h'->(∀x,aP P x->h.size<=x)->R (.slice P bs.length C) h'):
  ar Tryz.prog 50 #[.slice p n c] h R:=by
 subst f;refine mC.walk ?_;cases p with
 |none=>
  have:bs= []:=by
   rcases H with H|⟨a,e,_⟩
   .cases bs with
    |nil=>rfl
    |cons b bs=>cases H
   .cases e
  subst this;exact hk none 0 h (.nil rfl rfl rfl rfl) (Fr.refl _ _) (λx ⟨a,e,_⟩=>by cases e)
 |some a=>
  simp only[Option.isNone_some,au,aN];refine cC ?_;have f1:Fr No h (h.push (.cells #[] 5)):=Fr.push _ _;refine dO (cs:= []) tU uU (.row h.size 0 #[] 5 rfl bT (aZ _) bM rfl (λj v d=>by cases d)) (H.frame f1 (λ_ _=>id)) (by rw[jK,cr]) (ph bs) ae ae ?_;intro P C h' o1 _ f2 g;rw[bE,dz]at o1;refine⟨_,_,_,rfl,?_⟩;rw[bE];have G: ∀x,aP P x->h.size<=x:=λx i=>by
   rcases g x i with⟨a,e,rfl⟩|h2
   .cases e;exact aZ _
   .simp at h2;omega
  exact hk P C h' o1 (f1.step f2 (λc k ⟨a,e,e2⟩=>by cases e;simp at e2;omega)) G
theorem Qy{cs:Array Value}{K:cj->Nat->Nat->ai->Prop}(H:cs=(bc bs).toArray)(hk: ∀h',Row h' (some (AA h.size 0)) (bc bs)->Fr No h h'->K (some (AA h.size 0)) n n h'):
  aS h (.cells cs 5) λb e=>aV Tryz.prog (convert 22 22 (.slice (some (AA b 0)) n n)) e λv f=> ∃(p:cj)(l c:Nat),v=.slice p l c/\K p l c f:=by
 subst H;refine cC (Nq uU u8 (a:=(AA h.size 0)) bT λd F g s o=>⟨_,_,_,rfl,?_⟩);refine hk d (.inr ⟨_,rfl,gF g (λj v i=>by rw[bE];simpa using i)⟩) ⟨by rw[s];simp,λc H _=>by rw[o c (by simp;omega),fb,cW]⟩

end kk
end
end Go.Proofs.YtlenamcfacpheaaGreatDoor
namespace Go.fQ
section
variable {n:Nat}
def pA:Nat->Nat->List UInt8
 |0,n=> [UInt8.ofNat n]
 |f+1,n=>if n>127 then UInt8.ofNat (n%128+128)::pA f (n/128)else [UInt8.ofNat n]
def gy(n:Nat):List UInt8:=pA 9 n
theorem Aw: ∀(f n:Nat),n<128 ^ (f+1)->pA (f+1) n=pA f n
 |0,n,h=>by
  unfold pA;rw[cW]
 |f+1,n,h=>by
  rw[show pA (f+1+1) n=if n>127 then UInt8.ofNat (n%128+128)::pA (f+1) (n/128)else [UInt8.ofNat n]from rfl,
   show pA (f+1) n=if n>127 then UInt8.ofNat (n%128+128)::pA f (n/128)else [UInt8.ofNat n]from rfl]
  split
  .rw[Aw f (n/128) (by rw[Nat.pow_succ]at h;omega)]
  .rfl
theorem vS(h:n<18446744073709551616):gy n=if n>127 then UInt8.ofNat (n%128+128)::gy (n/128)else [UInt8.ofNat n]:=by
 unfold gy;rw[pA];split
 .rw[<-Aw 8 (n/128) ae]
 .rfl
theorem Dt: ∀(f n:Nat),1<=(pA f n).length/\(pA f n).length<=f+1
 |0,n=>by simp[pA]
 |f+1,n=>by
  have:=Dt f (n/128);rw[pA];split
  .simp only[ba];omega
  .simp
theorem ga(n:Nat):1<=(gy n).length/\(gy n).length<=10:=Dt 9 n
def vI:Nat->Nat->Nat
 |0,_=>1
 |f+1,n=>if n>127 then vI f (n/128)+1 else 1
def EE:Nat->Nat->List UInt8->Nat×Int×List UInt8
 |_,_, []=>(0,8, [])
 |i,n,c::bs=>
  if i=10\/(i=9/\c.toNat>1)\/(c.toNat=0/\i>0)then(0,3,bs)
  else if c.toNat<128 then(n+c.toNat%128*2 ^ (7*i),0,bs)
  else EE (i+1) (n+c.toNat%128*2 ^ (7*i)) bs
def et(e:Int)(bs:List UInt8):Nat×Int×List UInt8:=if e=0 then EE 0 0 bs else(0,e,bs)
theorem K1: ∀(bs:List UInt8)(i n:Nat),i<=10->n<2 ^ (7*i)->n<18446744073709551616->(EE i n bs).1<18446744073709551616
 | [],_,_,_,_,_=>by simp[EE]
 |c::bs,i,n,d,e,f=>by
  rw[EE];split
  .simp
  .rename_i g;have b:c.toNat%128<128:=Nat.mod_lt _ ae;have h:n+c.toNat%128*2 ^ (7*i)<18446744073709551616/\n+c.toNat%128*2 ^ (7*i)<2 ^ (7*(i+1)):=by
    have j:(2:Nat) ^ (7*(i+1))=128*2 ^ (7*i):=by rw[Nat.mul_add,Nat.pow_add,fG]
    have H:(c.toNat%128+1)*2 ^ (7*i)<=128*2 ^ (7*i):=cB _ ae;rw[dL]at H;refine⟨?_,ae⟩;by_cases a:i=9
    .subst a;have:c.toNat<=1:=ae
     have:c.toNat%128<=1:=ae
     omega
    .have:(2:Nat) ^ (7*(i+1))<=2 ^ 63:=fv ae ae;omega
   split
   .exact h.1
   .exact K1 bs (i+1) _ ae h.2 h.1
theorem Fc(e:Int)(bs:List UInt8):(et e bs).1<18446744073709551616:=by
 unfold et;split
 .exact K1 bs 0 0 ae bM ae
 .simp
theorem BF: ∀(bs:List UInt8)(i n:Nat),(EE i n bs).2.2.length<=bs.length
 | [],_,_=>by simp[EE]
 |c::bs,i,n=>by
  rw[EE];split
  .simp
  .split
   .simp
   .have:=BF bs (i+1) (n+c.toNat%128*2 ^ (7*i));simp only[ba];omega
theorem GW: ∀(f n i a:Nat)(rest:List UInt8),i+f=9->n*2 ^ (7*i)<18446744073709551616->(n=0->i=0)->EE i a (pA f n++rest)=(a+n*2 ^ (7*i),0,rest)
 |0,n,i,a,rest,g,H,b=>by
  have j:i=9:=ae
  subst j;have o:n<2:=by
   have:n*2 ^ 63<2*2 ^ 63:=H;exact Nat.lt_of_mul_lt_mul_right this
  have p:n≠0:=λe=>by have:=b e;omega
  obtain rfl:n=1:=ae
  simp[pA,EE]
 |f+1,n,i,a,rest,g,H,b=>by
  have c:(2:Nat) ^ (7*(i+1))=128*2 ^ (7*i):=by rw[Nat.mul_add,Nat.pow_add,fG]
  have m:n<18446744073709551616:=by
   have:n*1<=n*2 ^ (7*i):=Nat.mul_le_mul_left _ (Nat.two_pow_pos _);omega
  rw[pA];split
  .rename_i k;rw[dB,EE];have h:(UInt8.ofNat (n%128+128)).toNat=n%128+128:=by rw[eN];omega
   rw[h,cW,cW];have e1:(n%128+128)%128=n%128:=ae
   have d:n=128*(n/128)+n%128:=(Nat.div_add_mod n 128).symm;rw[GW f (n/128) (i+1) _ rest ae ?_ (λe=>ae),e1]
   .refine Prod.ext ?_ rfl;simp only;rw[c];have:n/128*(128*2 ^ (7*i))=(128*(n/128))*2 ^ (7*i):=by rw[fG 128 (n/128),Nat.mul_assoc]
    rw[this,Nat.add_assoc,<-dL,Nat.add_comm (n%128),<-d]
   .rw[c];have:n/128*(128*2 ^ (7*i))=(128*(n/128))*2 ^ (7*i):=by rw[fG 128 (n/128),Nat.mul_assoc]
    rw[this];refine Nat.lt_of_le_of_lt (cB _ ?_) H;omega
  .rename_i l;rw[dB,dz,EE];have h:(UInt8.ofNat n).toNat=n:=by rw[eN];omega
   rw[h,cW,fO,fL ae]
theorem mq(h:n<18446744073709551616)(rest:List UInt8):et 0 (gy n++rest)=(n,0,rest):=by
 unfold et gy;rw[af rfl,GW 9 n 0 0 rest ae (cD h) (λ_=>rfl)];simp
def iL(n:Int):Nat:=n.toNat
def nZ(t:List UInt8):List UInt8:=gy t.length++t
def K2(e E:Int):Int:=if e=0 then E else e
def gY(t:Nat)(e:Int)(bs:List UInt8):Nat×Int×List UInt8:=
 if(et e bs).1>t then(0,K2 (et e bs).2.1 3,(et e bs).2.2)else et e bs
theorem Du(t:Nat)(e:Int)(bs:List UInt8):(gY t e bs).1<=t:=by
 unfold gY;split
 .exact bP _
 .rename_i h;exact Nat.le_of_not_lt h
def j8(e:Int)(bs:List UInt8):Nat×Int×List UInt8:=gY 1099511627776 e bs
def jm(e:Int)(bs:List UInt8):List UInt8×Int×List UInt8:=
 if(et e bs).2.1=0 then
  (if(et e bs).1>(et e bs).2.2.length then([],8,(et e bs).2.2)
  else((et e bs).2.2.take (et e bs).1,0,(et e bs).2.2.drop (et e bs).1))
 else([],(et e bs).2.1,(et e bs).2.2)
def sQ(e:Int)(bs:List UInt8):Int:=if e=0 then(if bs= []then 0 else 2)else e
theorem oa{t:Nat}(h:n<=t)(H:t<18446744073709551616)(y:List UInt8):gY t 0 (gy n++y)=(n,0,y):=by
 unfold gY;rw[mq ae];rw[ag (by show¬n>t;omega)]
theorem BG{t:List UInt8}(h:t.length<18446744073709551616)(y:List UInt8):jm 0 (nZ t++y)=(t,0,y):=by
 unfold jm nZ;rw[cX,mq h];dsimp only;rw[af rfl,ag (by rw[aA];omega)];simp
theorem pB(e:Int)(bs:List UInt8):(et e bs).2.2.length<=bs.length:=by
 unfold et;split
 .exact BF bs 0 0
 .exact aZ _
theorem ob(t:Nat)(e:Int)(bs:List UInt8):(gY t e bs).2.2.length<=bs.length:=by
 unfold gY;split<;>exact pB e bs

end
end Go.fQ
namespace Go.Proofs.YtlenamcfacpheaaGreatDoor
open Go.Den
open IntKind (wrap)
open Int (toNat)
section
open Go.fQ
namespace kk
variable {h j:ai} {w r:Nat} {S:Nat→Prop} {bs:List UInt8} {e:Int} {R:fx}
variable {p:cj} {c n:Nat} {K:ai->Prop}
def Wr(h:ai)(w:Nat)(S:Nat->Prop)(bs:List UInt8):Prop:=
 ∃p c,h[w]? =some (.cells #[.bool true,.slice p bs.length c] 209 (0,0))/\fy h p bs.length c 1 (bc bs)/\¬aP p w/\∀x,S x↔x=w\/aP p x
theorem Wr.lt(H:Wr h w S bs): ∀x,S x->x<h.size:=by
 obtain⟨p,c,a,o,_,b⟩:=H;intro x hx;rcases(b x).1 hx with rfl|hx
 .exact aF a
 .exact o.eg hx
theorem iH(hk: ∀h' w S,Wr h' w S []->Fr No h h'->(∀x,S x->h.size<=x)->R (.P w 0) h'):ar Tryz.prog 65 #[] h R:=by
 refine Fb.walk (cC ?_);refine hk _ _ (λx=>x=h.size) ⟨none,0,bT,.nil rfl rfl rfl rfl,(λ⟨a,e,_⟩=>by cases e),λx=> ?_⟩ (Fr.push _ _) (λx H=>ae);constructor
 .exact .inl
 .rintro(H|⟨a,e,_⟩)
  .exact H
  .cases e
theorem Wr.store{P:cj}{C:Nat}{H:ai}{cs:List UInt8}(d:h[w]? =some (.cells #[.bool true,.slice p bs.length c] 209 (0,0)))(i: ¬aP p w)(a: ∀x,S x↔x=w\/aP p x)(o:fy H P (bs.length+n) C 1 (bc bs++bc cs))(f:Fr (aP p) h H)(g: ∀x,aP P x->aP p x\/h.size<=x)(m:n=cs.length)(hk: ∀h' s,Wr h' w s (bs++cs)->Step S h s h'->K h'):aE H (AA w 1) (.slice P (bs.length+n) C) K:=by
 subst m;have l:=f.get d i;have v:=aF d;have k: ¬aP P w:=λhx=>(g w hx).elim i (λb=>ae)
 refine bB l bM λh' q t u=> ?_
 have f2:Fr (λx=>x=w) H h':=Fr.of_eq t u;refine hk h' (λx=>x=w\/aP P x) ⟨P,C,?_,?_,k,λx=>dU⟩ ⟨?_,?_⟩
 .rw[q,aA];rfl
 .rw[aA,jA];exact o.frame f2 (λx hx e=>k (e▸hx))
 .exact f.trans f2 (λx _ hx=>(a x).2 (.inr hx)) (λx _ hx=>(a x).2 (.inl hx))
 .rintro x (hx|hx)
  .exact .inl ((a x).2 (.inl hx))
  .exact(g x hx).imp (λb=>(a x).2 (.inr b)) id
theorem Wr.push{x:Int}{b:UInt8}(H:Wr h w S bs)(A:bs.length<=1099511627786)(y:x=(b.toNat:Int))(hk: ∀h' s,Wr h' w s (bs++ [b])->Step S h s h'->K h'):
  ∃(p:cj)(l c:Nat),aB h (AA w 1)=some (.slice p l c)/\
  aS h (.cells #[.int .u8 x] 5) λb i=>
  aV Tryz.prog (Builtin.append_ #[22,22] 22 #[.slice p l c,.slice (some (AA b 0)) 1 1]) i λv k=>
  ∃(q:cj)(m d:Nat),v=.slice q m d/\aE k (AA w 1) (.slice q m d) K:=by
 obtain⟨p,c,a,o,u,t⟩:=H;refine⟨p,bs.length,c,aw a,?_⟩;refine iU tU uU o rfl (λv f=>by simp at f;subst f;rfl) ae ae ?_;intro P C z o1 f1 g;subst y;exact⟨_,_,_,rfl,Wr.store (cs:= [b]) a u t o1 f1 g rfl hk⟩
def Tx(j:ai)(w:Nat)(s:Nat->Prop)(bs:List UInt8)(N:Nat)(n:Int)(h:ai):Prop:=
 ∃(m:Nat)(S:Nat->Prop)(d:List UInt8),n=(m:Int)/\m<18446744073709551616/\Wr h w S (bs++d)/\d++gy m=gy N/\Step s j S h
theorem fM{n:Int}(k:Nat)(H:Wr h w S bs)(A:bs.length<=1099511627776)(e:n=(k:Int))(v:k<18446744073709551616)(hk: ∀h' i,Wr h' w i (bs++gy k)->Step S h i h'->R (.P w 0) h'):ar Tryz.prog 72 #[.P w 0,.U n] h R:=by
 subst e;refine sK.walk ?_;obtain⟨p,c,o,_⟩:=id H;refine aK.of λJ u=>⟨true,aw o,?_⟩
 subst u;simp only[cQ,au,aN];clear o;refine⟨Tx h w S bs k,λn _=>n.toNat,⟨k,S, [],rfl,v,cD H,rfl,Step.refl _ _⟩,?_⟩;rintro _ y ⟨m,x,d,rfl,t,f,hd,st⟩;have z:d.length<=10:=by
  have:=bY List.length hd;rw[aA]at this;have:=(ga k).2;omega
 by_cases q:(m:Int)>127
 .simp only[q,bA,bh];refine f.push (by rw[aA];omega) (Rz m) λl s g a=> ?_
  rw[Tu];refine⟨⟨m/128,s,d++ [UInt8.ofNat (m%128+128)],rfl,ae,by rwa[cX]at g,?_,st.trans a⟩,?_⟩
  .rw[<-hd,vS t,fO];simp
  .show Int.toNat ((m/128:Nat):Int)<Int.toNat (m:Int);omega
 .simp only[q,bk,au,aN];refine f.push (by rw[aA];omega) (b:=UInt8.ofNat m) (by rw[kh,eN]) λl s g a=> ?_
  refine hk l s ?_ (st.trans a);rwa[<-hd,vS t,cW,<-cX]
theorem Ty(n:Int)(H:n<=9223372036854775807):IntKind.wrap .u64 (if 0>n then 0 else n)=((iL n:Nat):Int):=by
 unfold iL;split
 .rw[wrap_u64 ae ae];omega
 .rw[wrap_u64 ae ae];omega
theorem Fe{n:Int}(H:Wr h w S bs)(b:bs.length<=1099511627776)(d:n<=9223372036854775807)(hk: ∀h' s,Wr h' w s (bs++gy (iL n))->Step S h s h'->R (.P w 0) h'):ar Tryz.prog 66 #[.P w 0,.I n] h R:=
 sL.walk (fM (iL n) H b (Ty n d) (by unfold iL;omega) λh' s a st=>⟨_,rfl,hk h' s a st⟩)
theorem K3{t:List UInt8}(H:Wr h w S bs)(y:bs.length<=1099511627776)(B:Row h p (bc t))(z:n=t.length)(N:t.length<=1099511627776)(A: ∀x,aP p x->t≠ []->¬S x)(hk: ∀h' s,Wr h' w s (bs++nZ t)->Step S h s h'->R (.P w 0) h'):ar Tryz.prog 71 #[.P w 0,.slice p n c] h R:=by
 subst z;refine rN.walk (fM t.length H y (wrap_u64 ae ae) ae λL G k st1=>⟨_,rfl,?_⟩);obtain⟨q,d,b,o,D,C⟩:=k;refine aK.of λJ f=>⟨true,aw b,?_⟩
 subst f;refine aK.of λJ f=> ?_
 simp only[bh];subst f;refine⟨q,_,d,aw b,?_⟩;have M:=(ga t.length).2;rw[aA];rw[aA]at o;refine dO tU uU o (by
  by_cases i:t= []
  .rw[i];exact .inl rfl
  .exact B.frame st1.fr (λa e E=>A _ ⟨a,e,rfl⟩ i E)) (by rw[jK,cr]) (ph t) ae ae ?_
 intro P I h' o1 _ f2 g;refine⟨_,_,_,rfl,?_⟩;rw[aA]at b;have:=Wr.store (n:=t.length) (cs:=t) (K:=λv=>R (Value.pointer (some { block:=w,off:=0 })) v) (bs:=bs++gy t.length) (by rw[aA];exact b) D C (by rw[aA];exact o1) f2 g rfl λu m l F=> ?_
 .rw[aA]at this;exact this
 .exact hk u m (by unfold nZ;rwa[cX]at l) (st1.trans F)
theorem mV(H:Wr h w S bs)(b:bs.length<=70368744177664)(hk: ∀P C h',fy h' P bs.length C 1 (bc bs)->Fr No h h'->(∀x,aP P x->h.size<=x)->R (.slice P bs.length C) h'):ar Tryz.prog 67 #[.P w 0] h R:=by
 obtain⟨p,c,a,o,f,d⟩:=H;exact qJ.walk ⟨p,_,c,aw a,gK o.iT rfl b λP C h' o1 f1 g=>⟨_,_,_,rfl,hk P C h' o1 f1 g⟩⟩
def Rd(h:ai)(r:Nat)(S:Nat->Prop)(e:Int)(bs:List UInt8):Prop:=
 ∃p c,h[r]? =some (.cells #[.int .i64 e,.bool true,.slice p bs.length c] 221 (0,0))/\fy h p bs.length c 1 (bc bs)/\¬aP p r/\S r/\(∀x,aP p x->S x)/\∀x,S x->x<h.size
theorem Rd.lt(H:Rd h r S e bs): ∀x,S x->x<h.size:=by
 obtain⟨p,c,_,_,_,_,_,a⟩:=H;exact a
theorem Rd.self(H:Rd h r S e bs):S r:=by
 obtain⟨p,c,_,_,_,a,_,_⟩:=H;exact a
theorem Rd.frame{Q:Nat->Prop}{h':ai}(H:Rd h r S e bs)(a:Fr Q h h')(g: ∀x,S x->¬Q x):Rd h' r S e bs:=by
 obtain⟨p,c,k,o,l,d,f,i⟩:=H;exact⟨p,c,a.get k (g r d),o.frame a (λx b=>g x (f x b)),l,d,f,λx b=>cy (i x b) a.1⟩
theorem sR(f:Row h p (bc bs))(d:n=bs.length)(b:bs.length<=70368744177664)(hk: ∀h' r S,Rd h' r S 0 bs->Fr No h h'->(∀x,S x->h.size<=x)->R (.P r 0) h'):ar Tryz.prog 91 #[.slice p n c] h R:=by
 refine Ds.walk (gK f d b λP C a o1 f1 g=>⟨_,_,_,rfl,cC ?_⟩);refine hk _ _ (λx=>h.size<=x/\x<=a.size) ⟨P,C,bT,o1.frame (Fr.push (S:=λ_=>False) _ _) (λ_ _=>id),?_,⟨f1.1,aZ _⟩,?_,?_⟩ (Fr.on f1 (Fr.push _ _)) (λx H=>H.1)
 .intro H;have:=o1.eg H;omega
 .intro x H;have:=o1.eg H;exact⟨g x H,ae⟩
 .intro x H;rw[dN];omega
theorem kL{E:Int}(H:Rd h r S e bs)(hk: ∀h',Rd h' r S (K2 e E) bs->Fr (λx=>x=r) h h'->R (.tuple #[]) h'):ar Tryz.prog 144 #[.P r 0,.I E] h R:=by
 obtain⟨p,c,b,o,d,g,i,l⟩:=id H;refine sM.walk ⟨e,aw b,?_⟩;unfold K2 at hk;by_cases j:e=0
 .subst j;simp only[eP,bh];refine bB b bM λh' m k q=> ?_
  have f:Fr (λx=>x=r) h h':=Fr.of_eq k q;exact hk h' ⟨p,c,m,o.frame f (λx a e=>d (e▸a)),d,g,i,λx a=>by rw[k];exact l x a⟩ f
 .simp only[cP,j,aN];simp only[j,aN]at hk;exact hk h H (Fr.refl _ _)
theorem BH(H:Rd h r S e bs)(hk:R (.bool (e==0)) h):ar Tryz.prog 143 #[.P r 0] h R:=by
 obtain⟨p,c,a,o,g,b,d,f⟩:=H;exact rO.walk ⟨true,aw a,e,aw a,hk⟩
def RH(j:ai)(r:Nat)(S:Nat->Prop)(bs:List UInt8)(n i:Int)(h:ai):Prop:=
 ∃(k a:Nat)(rest:List UInt8),i=(k:Int)/\n=(a:Int)/\k<=10/\a<2 ^ (7*k)/\a<18446744073709551616/\Rd h r S 0 rest/\Fr (λx=>x=r) j h/\EE k a rest=EE 0 0 bs
theorem wV(H:Rd h r S e bs)(hk: ∀h',Rd h' r S (et e bs).2.1 (et e bs).2.2->Fr (λx=>x=r) h h'->R (.U ((et e bs).1:Int)) h'):
  ar Tryz.prog 92 #[.P r 0] h R:=by
 refine sN.walk (aK.of λd' D=> ?_);by_cases E:e=0
 .subst E;unfold et at hk;rw[af rfl]at hk;refine⟨RH h r S bs,λ_ i _=>11 - i.toNat,⟨0,0,bs,rfl,rfl,ae,bM,ae,H,Fr.refl _ _,rfl⟩,?_⟩;rintro _ _ q ⟨k,a,rest,rfl,rfl,f',ha,e',y,f2,d⟩;refine BH y ⟨_,rfl,?_⟩;simp only[eP,bh];obtain⟨p,c,g,o,F,h1,O,L⟩:=id y;refine⟨p,_,c,aw g,?_⟩;cases rest with
  |nil=>
   simp only[bt,Int.natCast_zero,eP,bh];refine kL y λh4 T f4=>⟨rfl,?_⟩
   subst D;rw[EE]at d;rw[<-d]at hk;exact hk h4 T (f2.tt f4)
  |cons b rest=>
   have N:((((b::rest).length:Nat):Int)==0)=false:=by simp only[ba,dj,fa];omega
   simp only[N,au,aN];refine⟨p,_,c,aw g,⟨ae,by simp only[ba];omega⟩,?_⟩;obtain⟨W,X,rfl⟩:=o.some (by rw[jK];simp);refine ay.2 ⟨(b.toNat:Int),o.cell rfl,some (AA W X),_,c,aw g,⟨ae,by simp only[ba];omega⟩,?_⟩;have o2:=o.sub (l:=1) (u:=(b::rest).length) bM (aZ _);have J:((bc (b::rest)).take ((b::rest).length*1)).drop (1*1)=bc rest:=by
    simp only[cr];rw[bG (by rw[jK];exact aZ _)];rfl
   rw[J]at o2;have el:(b::rest).length - Int.toNat 1=rest.length:=bM
   rw[el];have I:(b::rest).length - 1=rest.length:=bM
   rw[I]at o2;refine bB g bM λs P G Q=> ?_
   have f5:Fr (λx=>x=r) q s:=Fr.of_eq G Q;have z:Rd s r S 0 rest:=⟨_,_,P,o2.frame f5 (λx f e=>F (e▸kU f)),λf=>F (kU f),h1,λx f=>O x (kU f),λx f=>by rw[G];exact L x f⟩;have f25:=f2.tt f5;clear o2 P G Q f5 J el I N o g O L F;have w1:IntKind.wrap .i64 ((k:Int)*7)=((7*k:Nat):Int):=by rw[bz ae ae];omega
   have w2:IntKind.wrap .i64 (7*(k:Int))=((7*k:Nat):Int):=by rw[bz ae ae];omega
   have w3:IntKind.wrap .i64 ((k:Int)+1)=((k+1:Nat):Int):=by rw[bz ae ae];omega
   have g:=b.toNat_lt;rw[EE]at d;refine aK.of λV b'=> ?_
   have fin:V (decide (k=10\/(k=9/\b.toNat>1)\/(b.toNat=0/\k>0))) s:=by
    subst b';by_cases t:k=10\/(k=9/\b.toNat>1)\/(b.toNat=0/\k>0)
    .simp only[t,bA,bh];rw[af t]at d;refine kL z λh7 U f7=>⟨rfl,?_⟩
     subst D;rw[<-d]at hk;exact hk h7 U (f25.tt f7)
    .simp only[t,bk,au,aN];rw[ag t]at d;rw[w2,w3,cW,Qi,Qj];have hd:b.toNat%128*2 ^ (7*k)<18446744073709551616:=by
      by_cases M:k=9
      .subst M;have:b.toNat%128<=1:=ae
       have:=cB (2 ^ (7*9)) this;omega
      .have h8:k<=8:=ae
       have p1:(2:Nat) ^ (7*k)<=2 ^ 56:=fv ae ae;have p2:b.toNat%128<=127:=ae
       have:=Nat.mul_le_mul p2 p1;omega
     have key:IntKind.wrap .u64 ((b.toNat%128:Nat):Int)=((b.toNat%128:Nat):Int):=nQ ae;have c':7*k<=64:=ae
     rw[key,Qk ha hd c'];by_cases v:b.toNat<128
     .simp only[v,bA,bh];rw[af v]at d;rw[<-d]at hk;exact hk s z f25
     .simp only[v,bk,au,aN];rw[ag v]at d;have M:k<=8:=ae
      have p3:(2:Nat) ^ (7*(k+1))=128*2 ^ (7*k):=by rw[Nat.mul_add,Nat.pow_add,fG]
      have p4:b.toNat%128+1<=128:=ae
      have p5:=cB (2 ^ (7*k)) p4;rw[dL]at p5;have p6:(2:Nat) ^ (7*(k+1))<=2 ^ 63:=fv ae ae;refine⟨⟨k+1,_,rest,rfl,rfl,ae,ae,ae,z,f25,d⟩,?_⟩;show 11 - Int.toNat ((k+1:Nat):Int)<11 - Int.toNat (k:Int);omega
   rw[w1];by_cases c1:k=10
   .subst c1;simpa using fin
   .have Y:((k:Int)==10)=false:=by simp only[dj,fa];omega
    simp only[Y,au,aN];by_cases A:k=9
    .subst A;by_cases B:b.toNat>1
     .have m:(b.toNat:Int)>1:=ae
      have C: ¬b.toNat=0:=ae
      simpa[B,m,C]using fin
     .have m: ¬(b.toNat:Int)>1:=ae
      by_cases C:b.toNat=0
      .simpa[B,m,C]using fin
      .simpa[B,m,C]using fin
    .have Z:(((7*k:Nat):Int)==63)=false:=by simp only[dj,fa];omega
     simp only[Z,au,aN];by_cases C:b.toNat=0
     .have c5:decide ((k:Int)>0)=decide (k>0):=bM
      simp only[C,Int.natCast_zero,eP,bh,c5];simpa[c1,A,C]using fin
     .have a':((b.toNat:Int)==0)=false:=by simp only[dj,fa];omega
      simp only[a',au,aN];simpa[c1,A,C]using fin
 .refine⟨λ_ _ q=>q=h,λ_ _ _=>0,rfl,?_⟩;rintro _ _ q rfl;refine BH H ⟨_,rfl,?_⟩;have:(e==0)=false:=by simpa using E
  simp only[this,au,aN];subst D;unfold et at hk;rw[ag E]at hk;exact hk _ H (Fr.refl _ _)
theorem NC(T:Nat){t:Int}(i:t=(T:Int))(H:Rd h r S e bs)(hk: ∀h',Rd h' r S (gY T e bs).2.1 (gY T e bs).2.2->Fr (λx=>x=r) h h'->R (.U ((gY T e bs).1:Int)) h'):
  ar Tryz.prog 145 #[.P r 0,.U t] h R:=by
 subst i;refine pz.walk (wV H λf a f1=>⟨_,rfl,?_⟩);unfold gY at hk;by_cases b:(et e bs).1>T
 .have:((et e bs).1:Int)>(T:Int):=ae
  simp only[this,bA,bh];rw[af b]at hk;exact kL a λg d f2=>⟨rfl,hk g d (f1.tt f2)⟩
 .have: ¬((et e bs).1:Int)>(T:Int):=ae
  simp only[this,bk,au,aN];rw[ag b]at hk;exact hk f a f1
theorem BI(H:Rd h r S e bs)(hk: ∀h',Rd h' r S (j8 e bs).2.1 (j8 e bs).2.2->Fr (λx=>x=r) h h'->R (.I ((j8 e bs).1:Int)) h'):
  ar Tryz.prog 93 #[.P r 0] h R:=
 sO.walk (NC 1099511627776 rfl H λb a f1=>⟨_,rfl,by
  have:=Du 1099511627776 e bs;rw[bz ae ae];exact hk b a f1⟩)
theorem K4(H:Rd h r S e bs)(T:bs.length<=70368744177664)(hk: ∀h' p c,Rd h' r S (jm e bs).2.1 (jm e bs).2.2->fy h' p (jm e bs).1.length c 1 (bc (jm e bs).1)->(∀x,aP p x->h.size<=x)->Fr (λx=>x=r) h h'->R (.slice p (jm e bs).1.length c) h'):
  ar Tryz.prog 94 #[.P r 0] h R:=by
 refine rP.walk (wV H λA d f1=>⟨_,rfl,BH d ⟨_,rfl,?_⟩⟩);unfold jm at hk;have V:=Fc e bs;have U:(et e bs).2.2.length<=bs.length:=by
  unfold et;split
  .exact BF bs 0 0
  .exact aZ _
 generalize et e bs=N at*;obtain⟨n,E,rest⟩:=N;dsimp only at*;by_cases j:E=0
 .subst j;simp only[eP,cQ,au,aN];obtain⟨p,c,f,o,W,X,Y,Z⟩:=id d;refine⟨p,_,c,aw f,?_⟩;rw[af rfl]at hk;rw[wrap_u64 (n:=(rest.length:Int)) ae ae];by_cases m:n>rest.length
  .have:(n:Int)>(rest.length:Int):=ae
   simp only[this,bA,bh];rw[af m]at hk;exact kL d λB t f2=>⟨rfl,hk B none 0 t (.nil rfl rfl rfl rfl) (λx ⟨a,e,_⟩=>by cases e) (f1.tt f2)⟩
  .have: ¬(n:Int)>(rest.length:Int):=ae
   simp only[this,bk,au,aN];rw[ag m]at hk;have Q:=o.le;refine⟨p,_,c,aw f,⟨ae,ae⟩,?_⟩;have O:=o.sub (l:=0) (u:=n) ae ae;simp only[cr,fY,Nn]at O;have z:(rest.take n).length=n:=by rw[bF];omega
   refine gK O.iT (by rw[z];omega) ae λM y D L f4 G=>⟨_,_,_,rfl,?_⟩
   have v:=d.frame f4 (λ_ _=>id);obtain⟨P,C,k,o2,q,F,I,J⟩:=v;refine⟨P,_,C,aw k,⟨ae,ae⟩,?_⟩;refine bB k bM λi q1 q2 q3=> ?_
   have f5:Fr (λx=>x=r) D i:=Fr.of_eq q2 q3;have s:=o2.sub (l:=n) (u:=rest.length) ae (aZ _);rw[cr,cr,<-jK rest,fi,jK,Np]at s;have g:(rest.drop n).length=rest.length - n:=bM
   refine hk i M y ⟨cE P C n 1,C - n,?_,?_,λb=>q (kU b),F,λx b=>I x (kU b),λx b=>by rw[q2];exact J x b⟩ (L.frame f5 (λx b e=> ?_)) (λx b=> ?_) (f1.tt ((f4.mono λ_ _=>False.elim).tt f5))
   .rw[g];simpa using q1
   .rw[g];exact s.frame f5 (λx b e=>q (e▸kU b))
   .have:=G x b;have:=aF f;omega
   .have:=G x b;have:=f1.1;omega
 .have:(E==0)=false:=by simpa using j
  simp only[this,eh,bh];rw[ag j]at hk;exact hk A none 0 d (.nil rfl rfl rfl rfl) (λx ⟨a,e,_⟩=>by cases e) f1
theorem ND(H:Rd h r S e bs)(hk:R (.I (sQ e bs)) h):ar Tryz.prog 95 #[.P r 0] h R:=by
 obtain⟨p,c,a,o,f,k,g,i⟩:=H;refine sP.walk (aK.of λJ d=>⟨true,aw a,?_⟩);subst d;simp only[cQ,au,aN];refine⟨e,aw a,?_⟩;unfold sQ at hk;by_cases j:e=0
 .subst j;simp only[bne_self_eq_false,au,aN];refine⟨p,_,c,aw a,?_⟩;rw[af rfl]at hk;cases bs with
  |nil=>exact hk
  |cons b bs=>
   have:(((b::bs).length:Nat):Int)>0:=by simp only[ba];omega
   simp only[this,bA,bh];rwa[ag bM]at hk
 .have:(e !=0)=true:=by simpa using j
  simp only[this,bh];rw[ag j]at hk;exact⟨e,aw a,hk⟩

end kk
end
end Go.Proofs.YtlenamcfacpheaaGreatDoor
namespace Go.Den
theorem NF{P:Program}{S d e:TypeId}{h:ai}{s:ByteArray}{K:fx}(r:P.underlying S=some .string)(hd:P.underlying d=some (.slice e))(m:P.underlying e=some (.int .u8))(hk: ∀p c h',Row h' p (bc s.data.toList)->s.size<=c->Fr No h h'->(∀y,aP p y->h.size<=y)->K (.slice p s.size c) h'):aV P (convert S d (.string s)) h K:=by
 unfold convert;refine bK (s:=underlying S) (bu r) ?_;refine bK (s:=underlying d) (bu hd) ?_;show aV P (underlying e>>=_) h K;refine bK (s:=underlying e) (bu m) ?_;show aV P (Conv.stringToBytes e s) h K;unfold Conv.stringToBytes;rw[dw];unfold choose;simp only[aV,Question.forced,au,aN,Question.cut];intro T;generalize x:s.size+T%(2 ^ 63 - s.size)=cap;have o:s.size<=cap:=ae
 generalize l:(s.data.map λb=>Value.int .u8 (b.toNat:Int))++Array.replicate (cap - s.size) (Value.int .u8 0)=cs;have q: ∀j v,(bc s.data.toList)[j]? =some v->cs[0+j]? =some v:=λj v g=>by
  have i:=(aC.1 g).1;rw[jK,dQ]at i;rw[<-l,bE,dv (cD i),Array.getElem?_map,<-g];unfold bc;rw[aM,df]
 show aV P (newRow e cs>>=_) h K;rw[dw];show aV P (markStringish (AA h.size 0)>>=λ_=>pure (.slice (some (AA h.size 0)) s.size cap)) (h.push (.cells cs e)) K;rw[dw];unfold markStringish shape;have u:nE (h.push (.cells cs e)) h.size=some (e,cs.size):=by simp[nE]
 show aV P (match nE (h.push (.cells cs e)) h.size with|some (_,n)=>freeze { block:=h.size,off:=n } 1|_=>pure ()) (h.push (.cells cs e)) _;rw[u];show K (.slice (some (AA h.size 0)) s.size cap) (nG (h.push (.cells cs e)) { block:=h.size,off:=cs.size } 1);unfold nG;rw[cW];refine hk _ _ _ (.inr ⟨_,rfl,gF (c:=cs) (t:=e) (f:=if(0:Nat)==0 then(cs.size,cs.size+1)else(min 0 cs.size,max 0 (cs.size+1))) ?_ q⟩) o ⟨bM,λc w _=> ?_⟩ (λy ⟨a,E,k⟩=>by cases E;exact Nat.le_of_eq k)
 .rw[dE,af rfl,bT];rfl
 .rw[dE,ag (by simp;omega),fb,cW]
end Go.Den
namespace Go.Proofs.YtlenamcfacpheaaGreatDoor
open Go.Den
namespace kk
variable {h h' H : ai} {R : Value → ai → Prop}
theorem Vy{s:ByteArray}{K:fx}(hk: ∀p c h',Row h' p (bc s.data.toList)->s.size<=c->Fr No h h'->(∀y,aP p y->h.size<=y)->K (.slice p s.size c) h'):aV Tryz.prog (convert 9 22 (.string s)) h K:=NF uS uU u8 hk
end kk
end Go.Proofs.YtlenamcfacpheaaGreatDoor
namespace Go.Proofs.YtlenamcfacpheaaGreatDoor
open Go.Den
open IntKind (wrap)
open Int (toNat)
section
open Go.fQ
namespace kk
abbrev wm(n:BV):List Value:= [n.val]
theorem tN:nP Tryz.prog 64 22 1 24 (.Z):=⟨db,db,rfl⟩
theorem uN:Tryz.prog.underlying 64=some (.slice 22):=db
theorem sS(n:BV):(wm n).length=1:=rfl
theorem K5(xs:List BV): ∀v∈xs.flatMap wm,fH v=true:=by
 intro v H;obtain⟨a,_,h⟩:=List.mem_flatMap.1 H;simp at h;subst h;rfl

end kk
end
section
variable {h:ai} {R:fx}
variable {a:Nat} {X c i key:Int}
theorem I4.walk(e:aS h (.map #[] 0) λb H=>aS H (.cells #[.Z,.map (some b)] 191) λB d=>R (.P B 0) d):ar Tryz.prog 87 #[] h R:=aR (lq ll) Tryz.func87 e
theorem um.walk(H: ∃t9,Cc h a 1 (.map t9)/\R (.bool (!t9.isNone)) h):ar Tryz.prog 114 #[.P a 0] h R:=aR (lq ll) Tryz.func114 H
theorem wo.walk(H: ∃b t T,Cc h a 0 (.slice b t T)/\R (.I ((t:Nat):Int)) h):ar Tryz.prog 56 #[.P a 0] h R:=aR (lq (sq (lq (cq ll lf)) ll)) Tryz.func56 H
theorem Dv.walk{y:Int}{Y:Int}(e:aS h (.cells #[.I X,.U c] 193) λb d=>aS d (.cells #[.I y,.U Y] 193) λB H=>Hu H b 1 λt6=> ∃t8,Cc H B 1 (.U t8)/\if(decide (t6<t8))then R (.bool true) H else Hu H b 1 λt12=> ∃t14,Cc H B 1 (.U t14)/\if(t12==t14)then Hi H b 0 λt18=> ∃t20,Cc H B 0 (.I t20)/\R (.bool (decide (t18<t20))) H else R (.bool false) H):ar Tryz.prog 170 #[.agg #[.I X,.U c],.agg #[.I y,.U Y]] h R:=aR (lq ll) Tryz.func170 e
theorem wu.walk(g:aS h (.cells #[.I X,.U c] 193) λb H=>Hl H a 0 λk j l=>Hi H b 0 λt=>Hu H b 1 λT=>Bd i j/\aO k λA=>aE H (A.add (toNat i*2)) (.I t) λe=>aE e ((A.add (toNat i*2)).add 1) (.U T) λd=> ∃t16,Cc d a 1 (.map t16)/\Hi d b 0 λt18=>aV Tryz.prog (Instr.mapUpdate 167 (.map t16) (.I t18) (.I i)) d λ_ f=>R (.tuple #[]) f):ar Tryz.prog 116 #[.P a 0,.I i,.agg #[.I X,.U c]] h R:=aR (lq (sq (pN 8) (pN 8))) Tryz.func116 g
theorem xO.walk (hv: ∃(I:Int->ai->Prop)(Q:Int->ai->Nat),(I i h)/\∀(d:Int)(H:ai),I d H->aK (λ(t28:Bool) (e:ai)=>if t28 then aK (λ(x:cj) (y:cj) (E:ai)=>aO x λL=>xq E L λk'=>sw E (L.add 1) λl'=>Cl 116 #[.P a 0,.I (wrap .i64 (Int.tdiv (wrap .i64 (d - 1)) 2)),.agg #[.I k',.U l']] E λv F=>v=.tuple #[]/\aO y λM=>xq F M λm'=>sw F (M.add 1) λn'=>Cl 116 #[.P a 0,.I d,.agg #[.I m',.U n']] F λo' P=>o'=.tuple #[]/\(I (wrap .i64 (Int.tdiv (wrap .i64 (d - 1)) 2)) P/\Q (wrap .i64 (Int.tdiv (wrap .i64 (d - 1)) 2)) P<Q d H)) (λK=>Hl e a 0 λs r u=>Bd d r/\aO s λj=>xq e (j.add (toNat d*2)) λk=>sw e ((j.add (toNat d*2)).add 1) λl=>Hl e a 0 λg f m=>Bd (wrap .i64 (Int.tdiv (wrap .i64 (d - 1)) 2)) f/\aO g λA=> ∃t,aB e (A.add (toNat (wrap .i64 (Int.tdiv (wrap .i64 (d - 1)) 2))*2))=some (.I t)/\∃T,aB e ((A.add (toNat (wrap .i64 (Int.tdiv (wrap .i64 (d - 1)) 2))*2)).add 1)=some (.U T)/\(aS e (.cells #[.I 0,.U 0] 193) λb p=>dF (A.add (toNat (wrap .i64 (Int.tdiv (wrap .i64 (d - 1)) 2))*2)) [.I t,.U T] 0 p/\Cc p a 0 (.slice g f m)/\dF (j.add (toNat d*2)) [.I k,.U l] 0 p/\Cc p a 0 (.slice s r u)/\aS p (.cells #[.I 0,.U 0] 193) λB q=>dF (A.add (toNat (wrap .i64 (Int.tdiv (wrap .i64 (d - 1)) 2))*2)) [.I t,.U T] 0 q/\Cc q a 0 (.slice g f m)/\dF (j.add (toNat d*2)) [.I k,.U l] 0 q/\Cc q a 0 (.slice s r u)/\aE q (AA b 0) (.I k) λf'=>aE f' (AA b 1) (.U l) λG=>dF (A.add (toNat (wrap .i64 (Int.tdiv (wrap .i64 (d - 1)) 2))*2)) [.I t,.U T] 0 G/\Cc G a 0 (.slice g f m)/\aE G (AA B 0) (.I t) λa'=>aE a' (AA B 1) (.U T) λb'=>K (some (AA b 0)) (some (AA B 0)) b')/\(aS e (.cells #[.I 0,.U 0] 193) λw n=>dF (A.add (toNat (wrap .i64 (Int.tdiv (wrap .i64 (d - 1)) 2))*2)) [.I t,.U T] 0 n/\Cc n a 0 (.slice g f m)/\dF (j.add (toNat d*2)) [.I k,.U l] 0 n/\Cc n a 0 (.slice s r u)/\aS n (.cells #[.I 0,.U 0] 193) λz o=>dF (A.add (toNat (wrap .i64 (Int.tdiv (wrap .i64 (d - 1)) 2))*2)) [.I t,.U T] 0 o/\Cc o a 0 (.slice g f m)/\dF (j.add (toNat d*2)) [.I k,.U l] 0 o/\Cc o a 0 (.slice s r u)/\aE o (AA z 0) (.I k) λc'=>aE c' (AA z 1) (.U l) λC=>dF (A.add (toNat (wrap .i64 (Int.tdiv (wrap .i64 (d - 1)) 2))*2)) [.I t,.U T] 0 C/\Cc C a 0 (.slice g f m)/\aE C (AA w 0) (.I t) λd'=>aE d' (AA w 1) (.U T) λe'=>K (some (AA z 0)) (some (AA w 0)) e')/\True)else R (.tuple #[]) e) (λJ=>if(decide (d>0))then Hl H a 0 λU S g'=>Bd d S/\aO U λN=>xq H (N.add (toNat d*2)) λh'=>sw H ((N.add (toNat d*2)).add 1) λi'=>Hl H a 0 λW V j'=>Bd (wrap .i64 (Int.tdiv (wrap .i64 (d - 1)) 2)) V/\aO W λO=> ∃Y,aB H (O.add (toNat (wrap .i64 (Int.tdiv (wrap .i64 (d - 1)) 2))*2))=some (.I Y)/\∃Z,aB H ((O.add (toNat (wrap .i64 (Int.tdiv (wrap .i64 (d - 1)) 2))*2)).add 1)=some (.U Z)/\Cl 170 #[.agg #[.I h',.U i'],.agg #[.I Y,.U Z]] H λp' D=>Vb p' λt27=>Cc D a 0 (.slice W V j')/\Cc D a 0 (.slice U S g')/\J t27 D else J false H)):ar Tryz.prog 117 #[.P a 0,.I i] h R:=aR (.scope 0 [(1,.one (.int .i64))] ll (lq (lq (sq (.join [(28,.one (.bool))] (pN 19)) (cq (sq (.join [(5,.one (.ptr)),(6,.one (.ptr))] (.gS (fE 14 0 (.alts (.fork 14 (fE 3 15 .done) (.fork 15 (.op 14 (.op 16 (.op 17 .done))) .gQ)))))) (lq (lq ll))) lf))))) Tryz.func117 hv
theorem uo.walk (hv: ∃(I:Int->ai->Prop)(mu:Int->ai->Nat),(I i h)/\∀(d:Int)(F:ai),I d F->∃(z:Int->Int->ai->Prop)(i':Int->Int->ai->Nat),z d 0 F/\∀(B:Int)(t17:Int)(H:ai),z B t17 H->if(decide (t17<2))then aK (λ(d':Int) (f':ai)=>(z d' (wrap .i64 (t17+1)) f'/\i' d' (wrap .i64 (t17+1)) f'<i' B t17 H)) (λJ=>Bd t17 2/\(t17=((0:Nat):Int)->aK (λ(t43:Bool) (g':ai)=>aK (λ(z':Int) (H':ai)=>J z' H') (λQ=>if t43 then Q (wrap .i64 ((wrap .i64 (2*d))+1)) g' else Q B g')) (λP=> ∃l' N j',Cc H a 0 (.slice l' N j')/\if(decide ((wrap .i64 ((wrap .i64 (2*d))+1))<((N:Nat):Int)))then Hl H a 0 λp' n' J'=>Bd (wrap .i64 ((wrap .i64 (2*d))+1)) n'/\aO p' λW=> ∃r',aB H (W.add (toNat (wrap .i64 ((wrap .i64 (2*d))+1))*2))=some (.I r')/\∃t',aB H ((W.add (toNat (wrap .i64 ((wrap .i64 (2*d))+1))*2)).add 1)=some (.U t')/\Hl H a 0 λx' v' L'=>Bd B v'/\aO x' λY=>xq H (Y.add (toNat B*2)) λN'=>sw H ((Y.add (toNat B*2)).add 1) λP'=>Cl 170 #[.agg #[.I r',.U t'],.agg #[.I N',.U P']] H λv s=>Vb v λt42=>Cc s a 0 (.slice x' v' L')/\Cc s a 0 (.slice p' n' J')/\Cc s a 0 (.slice l' N j')/\P t42 s else P false H))/\(t17=((1:Nat):Int)->aK (λ(S':Bool) (h':ai)=>aK (λ(A':Int) (I':ai)=>J A' I') (λU=>if S' then U (wrap .i64 ((wrap .i64 (2*d))+2)) h' else U B h')) (λS=> ∃m' O k',Cc H a 0 (.slice m' O k')/\if(decide ((wrap .i64 ((wrap .i64 (2*d))+2))<((O:Nat):Int)))then Hl H a 0 λq' o' K'=>Bd (wrap .i64 ((wrap .i64 (2*d))+2)) o'/\aO q' λZ=> ∃s',aB H (Z.add (toNat (wrap .i64 ((wrap .i64 (2*d))+2))*2))=some (.I s')/\∃u',aB H ((Z.add (toNat (wrap .i64 ((wrap .i64 (2*d))+2))*2)).add 1)=some (.U u')/\Hl H a 0 λy' w' M'=>Bd B w'/\aO y' λa'=>xq H (a'.add (toNat B*2)) λO'=>sw H ((a'.add (toNat B*2)).add 1) λQ'=>Cl 170 #[.agg #[.I s',.U u'],.agg #[.I O',.U Q']] H λX' u=>Vb X' λR'=>Cc u a 0 (.slice y' w' M')/\Cc u a 0 (.slice q' o' K')/\Cc u a 0 (.slice m' O k')/\S R' u else S false H))/\True)else if(B !=d)then aK (λ(x:cj) (y:cj) (G:ai)=>aO x λb'=>xq G b' λT'=>sw G (b'.add 1) λU'=>Cl 116 #[.P a 0,.I B,.agg #[.I T',.U U']] G λY' K=>Y'=.tuple #[]/\aO y λc'=>xq K c' λV'=>sw K (c'.add 1) λW'=>Cl 116 #[.P a 0,.I d,.agg #[.I V',.U W']] K λZ' e'=>Z'=.tuple #[]/\(I B e'/\mu B e'<mu d F)) (λV=>Hl H a 0 λr q w=>Bd d q/\aO r λg=>xq H (g.add (toNat d*2)) λj=>sw H ((g.add (toNat d*2)).add 1) λk=>Hl H a 0 λf e l=>Bd B e/\aO f λA=>xq H (A.add (toNat B*2)) λt=>sw H ((A.add (toNat B*2)).add 1) λT=>(aS H (.cells #[.I 0,.U 0] 193) λb m=>dF (A.add (toNat B*2)) [.I t,.U T] 0 m/\Cc m a 0 (.slice f e l)/\dF (g.add (toNat d*2)) [.I j,.U k] 0 m/\Cc m a 0 (.slice r q w)/\aS m (.cells #[.I 0,.U 0] 193) λC n=>dF (A.add (toNat B*2)) [.I t,.U T] 0 n/\Cc n a 0 (.slice f e l)/\dF (g.add (toNat d*2)) [.I j,.U k] 0 n/\Cc n a 0 (.slice r q w)/\aE n (AA b 0) (.I j) λB'=>aE B' (AA b 1) (.U k) λL=>dF (A.add (toNat B*2)) [.I t,.U T] 0 L/\Cc L a 0 (.slice f e l)/\aE L (AA C 0) (.I t) λC'=>aE C' (AA C 1) (.U T) λD'=>V (some (AA b 0)) (some (AA C 0)) D')/\(aS H (.cells #[.I 0,.U 0] 193) λD o=>dF (A.add (toNat B*2)) [.I t,.U T] 0 o/\Cc o a 0 (.slice f e l)/\dF (g.add (toNat d*2)) [.I j,.U k] 0 o/\Cc o a 0 (.slice r q w)/\aS o (.cells #[.I 0,.U 0] 193) λE p=>dF (A.add (toNat B*2)) [.I t,.U T] 0 p/\Cc p a 0 (.slice f e l)/\dF (g.add (toNat d*2)) [.I j,.U k] 0 p/\Cc p a 0 (.slice r q w)/\aE p (AA E 0) (.I j) λE'=>aE E' (AA E 1) (.U k) λM=>dF (A.add (toNat B*2)) [.I t,.U T] 0 M/\Cc M a 0 (.slice f e l)/\aE M (AA D 0) (.I t) λF'=>aE F' (AA D 1) (.U T) λG'=>V (some (AA E 0)) (some (AA D 0)) G')/\True)else R (.tuple #[]) H):ar Tryz.prog 169 #[.P a 0,.I i] h R:=aR (.scope 0 [(1,.one (.int .i64))] ll (lq (lq (sq (lq (bq (.loop [(4,.one (.int .i64)),(17,.one (.int .i64))] (lq (sq (cq lf lf) (sq (.join [(4,.one (.int .i64))] (bq (lq (sq (.join [(43,.one (.bool))] (pN 24)) (.join [(4,.one (.int .i64))] (cq lf lf)))))) lf)))))) (lq (cq (sq (.join [(7,.one (.ptr)),(8,.one (.ptr))] (.gS (fE 14 0 (.alts (.fork 14 (fE 3 15 .done) (.fork 15 (.op 14 (.op 16 (.op 17 .done))) .gQ)))))) (lq (lq ll))) lf)))))) Tryz.func169 hv
theorem wv.walk{V:Int}(o:Cl 114 #[.P a 0] h λv H=> ∃t10,v=.bool t10/\if(!t10)then R (.I 6) H else aK (λ(t12:Bool) (d:ai)=>if t12 then R (.I 1) d else Cl 115 #[.P a 0,.I key] d λs e=>Vi s λt25=>Hl e a 0 λr q p=>aS e (.cells #[.I 0,.U 0] 193) λb k=>aV Tryz.prog (Builtin.append_ #[189,189] 189 #[.slice r q p,.slice (some (AA b 0)) 1 1]) k λu l=> ∃g T t,u=.slice g T t/\aE l (AA a 0) (.slice g T t) λf=>Hl f a 0 λz j y=>Cl 116 #[.P a 0,.I (wrap .i64 ((j:Int) - 1)),.agg #[.I key,.U V]] f λw m=>w=.tuple #[]/\Cl 117 #[.P a 0,.I (wrap .i64 ((j:Int) - 1))] m λx n=>x=.tuple #[]/\R (.I 0) n) (λJ=>if(decide (key<1))then J true H else if(decide (key>1099511627776))then J true H else J (decide (V>1099511627776)) H)):ar Tryz.prog 51 #[.P a 0,.I key,.U V] h R:=aR (lq (sq (bq (lq (cq ll (sq (.join [(12,.one (.bool))] lf) (cq ll lf))))) (lq (lq (lq (lq (lq ll))))))) Tryz.func51 o
theorem uq.walk (s:Cl 114 #[.P a 0] h λv H=> ∃t10,v=.bool t10/\if(!t10)then R (.I 6) H else∃t16,Cc H a 1 (.map t16)/\∃T l,gP Tryz.prog 167 (.map t16) (.I key) true H (.tuple #[.I T,.bool l])/\if(!l)then R (.I 4) H else Hl H a 0 λF t E=>Hl H a 0 λw u G=>Bd (wrap .i64 ((t:Int) - 1)) u/\aO w λA=> ∃m,aB H (A.add (toNat (wrap .i64 ((t:Int) - 1))*2))=some (.I m)/\∃n,aB H ((A.add (toNat (wrap .i64 ((t:Int) - 1))*2)).add 1)=some (.U n)/\aS H (.cells #[.I 0,.U 0] 193) λb o=>aE o (AA b 0) (.I m) λp=>aE p (AA b 1) (.U n) λj=>Hl j a 0 λx I g=>((0:Int)<=wrap .i64 ((t:Int) - 1)/\wrap .i64 ((t:Int) - 1)<=(g:Int))/\aE j (AA a 0) (.slice (cE x g 0 2) ((toNat (wrap .i64 ((t:Int) - 1))) - 0) (g - 0)) λk=> ∃t48,Cc k a 1 (.map t48)/\aV Tryz.prog (Builtin.delete_ #[167,3] 0 #[.map t48,.I key]) k λV d=>V=.tuple #[]/\aK (λ(q:ai)=>R (.I 0) q) (λJ=>if(decide (T<(wrap .i64 ((t:Int) - 1))))then Hi d b 0 λy=>Hu d b 1 λz=>Cl 116 #[.P a 0,.I T,.agg #[.I y,.U z]] d λB r=>B=.tuple #[]/\Cl 117 #[.P a 0,.I T] r λC e=>C=.tuple #[]/\∃t64,Cc e a 1 (.map t64)/\Hi e b 0 λt66=> ∃t67,gP Tryz.prog 167 (.map t64) (.I t66) false e (.I t67)/\Cl 169 #[.P a 0,.I t67] e λD f=>D=.tuple #[]/\Cc f b 0 (.I t66)/\Cc f a 1 (.map t64)/\J f else J d)):ar Tryz.prog 115 #[.P a 0,.I key] h R:=aR (lq (sq (lq (cq ll lf)) (lq (sq (lq (cq ll lf)) (lq (lq (lq (lq (sq (lq (.join [] (cq (lq (lq (pN 9))) lf))) ll))))))))) Tryz.func115 s
theorem ur.walk(d:Cl 56 #[.P a 0] h λv H=> ∃t6,v=.I t6/\if(t6==0)then R (.tuple #[.I 0,.U 0,.bool false]) H else Hl H a 0 λT t g=>Bd 0 t/\aO T λA=>xq H (A.add (toNat 0*2)) λt14=>Hl H a 0 λf e j=>Bd 0 e/\aO f λb=> ∃t21,aB H ((b.add (toNat 0*2)).add 1)=some (.U t21)/\R (.tuple #[.I t14,.U t21,.bool true]) H):ar Tryz.prog 171 #[.P a 0] h R:=aR (lq (sq (lq (cq ll lf)) (sq (pN 17) lf))) Tryz.func171 d
theorem uu.walk{now:Int}(x:Cl 171 #[.P a 0] h λv r=> ∃j k l,v=.tuple #[.I j,.U k,.bool l]/\∃(I:cj->Nat->Nat->Int->Int->Bool->ai->Prop)(m:cj->Nat->Nat->Int->Int->Bool->ai->Nat),I none 0 0 j k l r/\∀(d:cj)(O o:Nat)(key:Int)(V:Int)(is:Bool)(H:ai),I d O o key V is H->aK (λ(t20:Bool) (f:ai)=>if t20 then aS f (.cells #[.I key] 3) λb s=>aV Tryz.prog (Builtin.append_ #[105,105] 105 #[.slice d O o,.slice (some (AA b 0)) 1 1]) s λy u=>Vl y λq p n=>Cl 115 #[.P a 0,.I key] u λz w=>Vi z λt33=>Cl 171 #[.P a 0] w λA g=> ∃t T e,A=.tuple #[.I t,.U T,.bool e]/\(I q p n t T e g/\m q p n t T e g<m d O o key V is H)else R (.slice d O o) f) (λJ=>if is then J (decide (V<=now)) H else J false H)):ar Tryz.prog 118 #[.P a 0,.U now] h R:=aR (lq (lq (sq (lq (bq (.loop [(5,.one (.slice)),(6,.one (.int .i64)),(7,.one (.int .u64)),(8,.one (.bool))] (sq (sq (.join [(20,.one (.bool))] lf) (cq lf lf)) (sq (bq ll) lf))))) ll))) Tryz.func118 x

end
end Go.Proofs.YtlenamcfacpheaaGreatDoor
namespace Go.jC
section
variable {n i j:Nat}
abbrev E:=Int×Int
variable {x y z:E} {f:Nat->E} {es l:List E}
def lt(x y:E):Prop:=x.2<y.2\/(x.2=y.2/\x.1<y.1)
def le(x y:E):Prop:= ¬lt y x
theorem lt_irrefl(x:E): ¬lt x x:=by unfold lt;omega
theorem lt_trans(h:lt x y)(h':lt y z):lt x z:=by unfold lt at*;omega
theorem le_refl(x:E):le x x:=lt_irrefl x
theorem le_trans(h:le x y)(h':le y z):le x z:=by unfold le lt at*;omega
theorem le_of_lt(h:lt x y):le x y:=by unfold le lt at*;omega
theorem lt_of_le_ne(h:le x y)(h':x.1≠y.1):lt x y:=by unfold le lt at*;omega
instance (x y : E) : Decidable (lt x y) := inferInstanceAs (Decidable (_ ∨ _))
def pC(f:Nat->E)(n:Nat):Prop:= ∀j,0<j->j<n->le (f ((j - 1)/2)) (f j)
def rQ(f:Nat->E)(n i:Nat):Prop:=
 (∀j,0<j->j<n->j≠i->(j - 1)/2≠i->le (f ((j - 1)/2)) (f j))/\(0<i->∀j,0<j->j<n->(j - 1)/2=i->le (f ((i - 1)/2)) (f j))
def rR(f:Nat->E)(n i:Nat):Prop:=
 (∀j,0<j->j<n->(j - 1)/2≠i->le (f ((j - 1)/2)) (f j))/\(0<i->∀j,0<j->j<n->(j - 1)/2=i->le (f ((i - 1)/2)) (f j))
def xP(f:Nat->E)(n i:Nat):Prop:= ∀j,0<j->j<n->(j - 1)/2=i->le (f i) (f j)
def mW(f:Nat->E)(i j:Nat):Nat->E:=λk=>if k=i then f j else if k=j then f i else f k
theorem NG(h:rQ f n i)(d:i=0\/le (f ((i - 1)/2)) (f i)):rR f n i:=by
 refine⟨λj a b c=> ?_,h.2⟩;by_cases H:j=i
 .subst H;rcases d with h0|h0
  .omega
  .exact h0
 .exact h.1 j a b H c
theorem od(h:rR f n i)(hk:xP f n i):pC f n:=by
 intro j a b;by_cases H:(j - 1)/2=i
 .have:=hk j a b H;rw[H];exact this
 .exact h.1 j a b H
theorem NH{p:Nat}(h:rQ f n i)(m:0<i)(s:i<n)(q:p=(i - 1)/2)(e:lt (f i) (f p)):rQ (mW f i p) n p/\xP (mW f i p) n p:=by
 have g:p≠i:=ae
 refine⟨⟨λj a b c o=> ?_,λr j a b c=> ?_⟩,λj a b c=> ?_⟩
 ·
  have H:j≠i:=ae
  unfold mW;rw[ag H,ag c];by_cases d:(j - 1)/2=i
  .rw[af d,q];exact h.2 m j a b d
  .rw[ag d,ag o];exact h.1 j a b H d
 .have k:=h.1 p r ae g ae;unfold mW;rw[ag (show(p - 1)/2≠i by omega),ag (show(p - 1)/2≠p by omega)];by_cases H:j=i
  .rw[af H];exact k
  .rw[ag H,cW];have:=h.1 j a b H ae;rw[c]at this;exact le_trans k this
 .unfold mW;rw[ag g,af rfl];by_cases H:j=i
  .rw[af H];exact le_of_lt e
  .rw[ag H,cW];have:=h.1 j a b H ae;rw[c]at this;exact le_trans (le_of_lt e) this
theorem I5{c:Nat}(h:rR f n i)(k:(c - 1)/2=i)(o:0<c)(r:c<n)(p:lt (f c) (f i))(q: ∀j,0<j->j<n->(j - 1)/2=i->le (f c) (f j)):rR (mW f i c) n c:=by
 have s:c≠i:=ae
 refine⟨λj H b g=> ?_,λ_ j H b g=> ?_⟩
 .unfold mW;by_cases m:j=i
  .subst m;rw[ag (show(j - 1)/2≠j by omega),ag (show(j - 1)/2≠c by omega),af rfl];exact h.2 H c o r k
  .by_cases a:(j - 1)/2=i
   .rw[af a,ag m];by_cases d:j=c
    .rw[af d];exact le_of_lt p
    .rw[ag d];exact q j H b a
   .have d:j≠c:=by intro e;subst e;exact a k
    rw[ag a,ag g,ag m,ag d];exact h.1 j H b a
 .unfold mW;rw[k,af rfl,ag (show j≠i by omega),ag (show j≠c by omega)];have:=h.1 j H b ae;rw[g]at this;exact this
theorem K6(h:pC f n): ∀j,j<n->le (f 0) (f j):=by
 intro j;induction j using Nat.strongRecOn with
 |_ j I=>
  intro a;by_cases H:j=0
  .subst H;exact le_refl _
  .exact le_trans (I ((j - 1)/2) ae ae) (h j ae a)
def at_(es:List E)(i:Nat):E:=es.getD i (0,0)
theorem mD(h:i<es.length):at_ es i=es[i]:=by simp[at_,h]
theorem GX(h:i<es.length):es[i]? =some (at_ es i):=by simp[at_,h]
theorem Ff(h:i<es.length):at_ (es.set i x) j=if j=i then x else at_ es j:=by
 unfold at_;by_cases e:j=i
 .subst e;simp[h]
 .simp[e,e6 e]
def oE(es:List E)(i j:Nat):List E:=(es.set j (at_ es i)).set i (at_ es j)
theorem uv :(oE es i j).length=es.length:=by simp[oE]
theorem Dw(h:i<es.length)(H:j<es.length)(k:Nat):at_ (oE es i j) k=mW (at_ es) i j k:=by
 unfold oE mW;rw[Ff (cD h),Ff H]
theorem Ax(h:i<es.length)(H:j<es.length):at_ (oE es i j)=mW (at_ es) i j:=funext (Dw h H)
theorem rT(h:i<es.length)(H:j<es.length):(oE es i j).Perm es:=by
 unfold oE;rw[mD h,mD H];exact List.set_set_perm H h
def gZ(es:List E)(g:Int->Option Value):Prop:=
 (es.map (·.1)).Nodup/\(∀j,j<es.length->g (at_ es j).1=some (.int .i64 j))/\∀k,k∉es.map (·.1)->g k=none
theorem key_inj(h:(es.map (·.1)).Nodup)(H:i<es.length)(b:j<es.length)(a:(at_ es i).1=(at_ es j).1):i=j:=by
 rw[mD H,mD b]at a;have c:=dR (i:=i) (j:=j) (cD H) h;exact c.1 (by simp[H,b,a])
theorem gZ.swap{g:Int->Option Value}(h:gZ es g)(H:i<es.length)(a:j<es.length)(q:i≠j):
  gZ (oE es i j) (λk=>if k=(at_ es j).1 then some (.I i)else if k=(at_ es i).1 then some (.I j)else g k):=by
 obtain⟨b,m,o⟩:=h;have d:=(rT H a).map (·.1);refine⟨d.nodup_iff.2 b,λk hk=> ?_,λk hk=> ?_⟩
 .rw[uv]at hk;rw[Dw H a];unfold mW;by_cases e1:k=i
  .subst e1;simp
  .by_cases e2:k=j
   .subst e2;rw[ag e1,af rfl];have:(at_ es i).1≠(at_ es k).1:=λe=>q (key_inj b H a e)
    simp[this]
   .rw[ag e1,ag e2];have n1:(at_ es k).1≠(at_ es j).1:=λe=>e2 (key_inj b hk a e)
    have n2:(at_ es k).1≠(at_ es i).1:=λe=>e1 (key_inj b hk H e)
    simp[n1,n2,m k hk]
 .have c:k∉es.map (·.1):=λp=>hk (d.mem_iff.2 p)
  have M:(at_ es j).1∈es.map (·.1):=by rw[mD a];exact br (dC a)
  have r:(at_ es i).1∈es.map (·.1):=by rw[mD H];exact br (dC H)
  simp only[];rw[ag (show k≠_ from λe=>c (e.symm▸M)),ag (show k≠_ from λe=>c (e.symm▸r))];exact o k c
def iI(l:List E):Prop:=l.Pairwise lt
def keys(l:List E):List Int:=l.map (·.1)
def fk(l:List E)(k:Int):List E:=l.filter (λe=> !(e.1==k))
def sU(l:List E)(x:E):List E:=l.filter (λe=>decide (lt e x))++x::l.filter (λe=> !decide (lt e x))
theorem kM(l:List E)(x:E):(sU l x).Perm (x::l):=by
 unfold sU;refine(List.perm_middle).trans (List.Perm.cons x ?_);exact List.filter_append_perm _ _
theorem iI.drop(h:iI l)(k:Int):iI (fk l k):=fp _ h
theorem iI.insert(h:iI l)(x:E)(hk:x.1∉keys l):iI (sU l x):=by
 unfold iI sU;rw[List.pairwise_append];refine⟨fp _ h,?_,?_⟩
 .rw[dx];refine⟨λy a=> ?_,fp _ h⟩;obtain⟨c,H⟩:=aW.1 a;have b: ¬lt y x:=by simpa using H
  exact lt_of_le_ne b (λe=>hk (by rw[e];exact br c))
 .intro y a z hz;obtain⟨_,H⟩:=aW.1 a;have g:lt y x:=by simpa using H
  rcases bD.1 hz with rfl|hz
  .exact g
  .obtain⟨_,d⟩:=aW.1 hz;have b: ¬lt z x:=by simpa using d
   unfold lt at*;omega
theorem Fh(l:List E)(k:Int):k∉keys (fk l k):=by
 intro h;obtain⟨e,H,rfl⟩:=bg.1 h;have:=(aW.1 H).2;simp at this
theorem jw{k:Int}(h:k∉keys l):fk l k=l:=by
 unfold fk;rw[cb];intro e H;have:e.1≠k:=λE=>h (E▸br H)
 simp[this]
theorem Fi{L:List E}(h:l.Perm L)(k:Int):(fk l k).Perm (fk L k):=h.filter _
theorem K7(H:es.Perm l)(k:iI l)(d:pC (at_ es) es.length)(a:0<es.length): ∃r,l=at_ es 0::r:=by
 cases l with
 |nil=>have:=H.length_eq;simp only[bt]at this;omega
 |cons x r=>
  refine⟨r,?_⟩;have m:x∈es:=H.mem_iff.2 cZ;obtain⟨j,h⟩:=bx m;have b:j<es.length:=(aC.1 h).1;have c:=K6 d j b;rw[GX b]at h;have e1:at_ es j=x:=bn h;rw[e1]at c;have g:at_ es 0∈x::r:=H.mem_iff.1 (by rw[mD a];exact dC a);rcases bD.1 g with e|e
  .rw[e]
  .have:=(dx.1 k).1 _ e;exact absurd this c

end
end Go.jC
namespace Go.Proofs.YtlenamcfacpheaaGreatDoor
open Go.Den
open IntKind (wrap)
open Int (toNat)
section
open Go.jC
namespace bR
theorem tm:pg Tryz.prog 167 (.I 0):=.of 3 3 .i64 db db db
def enc(es:List E):List Value:=es.flatMap λe=> [.int .i64 e.1,.int .u64 e.2]
theorem mX(e:E)(es:List E):enc (e::es)=.I e.1:: .U e.2::enc es:=rfl
theorem jr: ∀es:List E,(enc es).length=es.length*2
 | []=>rfl
 |e::es=>by rw[mX];simp only[ba,jr es];omega
theorem Fj(es fs:List E):enc (es++fs)=enc es++enc fs:=by simp[enc]
theorem O1: ∀{es:List E}{i:Nat},i<es.length->(enc es)[i*2]? =some (.I (at_ es i).1)
 | [],_,h=>by simp at h
 |e::es,0,_=>rfl
 |e::es,i+1,h=>by
  rw[mX,show(i+1)*2=i*2+1+1 by omega,dq,dq,O1 (cD h)];rfl
theorem O2: ∀{es:List E}{i:Nat},i<es.length->(enc es)[i*2+1]? =some (.U (at_ es i).2)
 | [],_,h=>by simp at h
 |e::es,0,_=>rfl
 |e::es,i+1,h=>by
  rw[mX,show(i+1)*2+1=i*2+1+1+1 by omega,dq,dq,O2 (cD h)];rfl
theorem GY: ∀(es:List E)(i:Nat)(x:E),((enc es).set (i*2) (.I x.1)).set (i*2+1) (.U x.2)=enc (es.set i x)
 | [],_,_=>by simp[enc]
 |e::es,0,x=>rfl
 |e::es,i+1,x=>by
  rw[mX,show(i+1)*2=i*2+1+1 by omega,List.set_cons_succ,List.set_cons_succ,List.set_cons_succ,List.set_cons_succ,GY es i x];rfl
theorem Dx: ∀(es:List E)(n:Nat),(enc es).take (n*2)=enc (es.take n)
 | [],n=>by simp[enc]
 |e::es,0=>by simp[enc]
 |e::es,n+1=>by
  rw[mX,show(n+1)*2=n*2+1+1 by omega,fF,fF,Dx es n];rfl
theorem GZ: ∀(es:List E),∀v∈enc es,fH v=true
 | [],_,h=>by cases h
 |e::es,v,h=>by
  rw[mX]at h;rcases bD.1 h with rfl|h
  .rfl
  .rcases bD.1 h with rfl|h
   .rfl
   .exact GZ es v h
structure Mem (h:ai) (a:Nat) (p:cj) (cap m:Nat) (es:List E) (g:Int->Option Value):Prop where
 cR:h[a]? =some (.cells #[.slice p es.length cap,.map (some m)] 191 (0,0))
 own:fy h p es.length cap 2 (enc es)
 map:lX h m g
 ne: ¬aP p a
def xQ(a:Nat)(p:cj)(m:Nat)(c:Nat):Prop:=c=a\/c=m\/aP p c
def inner(p:cj)(m:Nat)(c:Nat):Prop:=c=m\/aP p c
variable {h : ai} {a m cap : Nat} {p : Option Addr} {es : List E} {g : Int → Option Value} {R : Value → ai → Prop}
theorem Mem.am(M:Mem h a p cap m es g):a≠m:=by
 rintro rfl;obtain⟨x,c,H⟩:=M.map.map;rw[M.cR]at H;cases H
theorem Mem.pm(M:Mem h a p cap m es g): ¬aP p m:=λb=>by
 obtain⟨x,c,H⟩:=M.map.map;obtain⟨y,t,d⟩:=M.own.cells b;rw[d]at H;cases H
theorem Mem.lt(M:Mem h a p cap m es g){c:Nat}(hc:xQ a p m c):c<h.size:=by
 rcases hc with rfl|rfl|hc
 .exact aF M.cR
 .exact M.map.lt
 .exact M.own.eg hc
theorem Mem.frame{S:Nat->Prop}{h':ai}(M:Mem h a p cap m es g)(H:Fr S h h')(b: ∀c,xQ a p m c->¬S c):Mem h' a p cap m es g:=
 ⟨H.get M.cR (b a (.inl rfl)),M.own.frame H λc d=>b c (.inr (.inr d)),M.map.frame H (b m (.inr (.inl rfl))),M.ne⟩
theorem Mem.calm{h':ai}(M:Mem h a p cap m es g)(H:Fr No h h'):Mem h' a p cap m es g:=M.frame H λ_ _=>id
theorem Mem.hd(M:Mem h a p cap m es g):aB h (AA a 0)=some (.slice p es.length cap):=aw M.cR
theorem Mem.mp(M:Mem h a p cap m es g):aB h (AA a 1)=some (.map (some m)):=aw M.cR
theorem Mem.some(M:Mem h a p cap m es g)(c:0<es.length): ∃A,p=some A:=by
 obtain⟨b,off,H⟩:=M.own.some (by rw[jr];omega);exact⟨_,H⟩
theorem Mem.c0{A:Addr}(M:Mem h a (.some A) cap m es g){i:Nat}(H:i<es.length):aB h (A.add (i*2))=.some (.I (at_ es i).1):=M.own.cell (O1 H)
theorem Mem.c1{A:Addr}(M:Mem h a (.some A) cap m es g){i:Nat}(H:i<es.length):aB h ((A.add (i*2)).add 1)=.some (.U (at_ es i).2):=by
 rw[add_add];exact M.own.cell (O2 H)
theorem sV{c X y0 y:Int}(hk: gW h R (.bool (decide (lt (c,X) (y0,y))))):
  ar Tryz.prog 170 #[.agg #[.I c,.U X],.agg #[.I y0,.U y]] h R:=by
 refine Dv.walk ?_;rintro b d rfl rfl b1 i rfl rfl;have f:Fr No h ((h.push (.cells #[.I c,.U X] 193)).push (.cells #[.I y0,.U y] 193)):=Fr.tt (Fr.push _ _) (Fr.push _ _);have j:=xo (x:=.cells #[.I y0,.U y] 193) (bT (h:=h) (x:=.cells #[.I c,.U X] 193));have k:=bT (h:=h.push (.cells #[.I c,.U X] 193)) (x:=.cells #[.I y0,.U y] 193);have H:=hk _ f;refine⟨X,aw j,y,aw k,?_⟩;by_cases d:X<y
 .have e:decide (lt (c,X) (y0,y))=true:=by simp[lt,d]
  rw[e]at H;simpa only[d,bA,bh]using H
 .simp only[d,bk,au,aN];refine⟨X,aw j,y,aw k,?_⟩;by_cases i:X=y
  .subst i;simp only[eP,bh];refine⟨c,aw j,y0,aw k,?_⟩;have e:decide (lt (c,X) (y0,X))=decide (c<y0):=by simp[lt]
   rw[e]at H;exact H
  .have e:decide (lt (c,X) (y0,y))=false:=by simp[lt,d,i]
   rw[e]at H;simpa only[dj.2 i,au,aN]using H
theorem uw(M:Mem h a p cap m es g){i:Nat}(E:i<es.length){X d:Int}(hk: ∀h',Mem h' a p cap m (es.set i (X,d)) (λk=>if k=X then some (.I i)else g k)->Fr (inner p m) h h'->R (.tuple #[]) h'):
  ar Tryz.prog 116 #[.P a 0,.I i,.agg #[.I X,.U d]] h R:=by
 obtain⟨A,rfl⟩:=M.some ae;refine wu.walk ?_;rintro b l t rfl;have f1:Fr No h (h.push (.cells #[.I X,.U d] 193)):=Fr.push _ _;have f:=M.calm f1;have j:=bT (h:=h) (x:=.cells #[.I X,.U d] 193);rw[<-t]at j;generalize h.push (.cells #[.I X,.U d] 193)=l at f1 f j;have u: ∀c,xQ a (some A) m c->b≠c:=λc H e=>by have:=M.lt H;omega
 refine⟨_,_,_,f.hd,X,aw j,d,aw j,⟨ae,ae⟩,ay.2 ?_⟩;rw[aI,add_add];have F:=jr es;refine f.own.store ae λD o2 B w=>o2.store (by rw[du];omega) λq o C y=> ?_
 rw[GY es i (X,d)]at o;have f2:Fr (aP (some A)) l q:=Fr.tt (Fr.of_eq B w) (Fr.of_eq C y);have v:=f2.get j (λH=>u b (.inr (.inr H)) rfl);have n:=f2.get f.cR M.ne;refine⟨_,aw n,X,aw v,?_⟩;refine lA tm (f.map.frame f2 M.pm) λr z s K=>hk r ⟨?_,?_,z,M.ne⟩ ?_
 .rw[K a M.am,n,du]
 .rw[du];exact o.frame (Fr.of_eq (S:=λc=>c=m) s K) (λc H e=>M.pm (e▸H))
 .exact Fr.no f1 ((f2.mono λc _ H=> .inr H).trans (Fr.of_eq (S:=λc=>c=m) s K) (λ_ _=>id) (λ_ _ H=> .inl H))
theorem O3{h:ai}{t:TypeId}{z Z X I y0 Y:Value}{G i s u:ai->Prop}{J:cj->cj->ai->Prop}(r: ∀h',Fr No h h'->G h'/\i h'/\s h'/\u h')(hJ: ∀b B h',h'[b]? =some (.cells #[X,I] t (0,0))->h'[B]? =some (.cells #[y0,Y] t (0,0))->h.size<=b->h.size<=B->Fr No h h'->J (some (AA b 0)) (some (AA B 0)) h'):
  (aS h (.cells #[z,Z] t) λb H=>G H/\i H/\s H/\u H/\aS H (.cells #[z,Z] t) λj d=>G d/\i d/\s d/\u d/\
   aE d (AA b 0) X λE=>aE E (AA b 1) I λe=>G e/\i e/\aE e (AA j 0) y0 λC=>aE C (AA j 1) Y λD=>J (some (AA b 0)) (some (AA j 0)) D)/\
  (aS h (.cells #[z,Z] t) λb H=>G H/\i H/\s H/\u H/\aS H (.cells #[z,Z] t) λj d=>G d/\i d/\s d/\u d/\
   aE d (AA j 0) X λE=>aE E (AA j 1) I λe=>G e/\i e/\aE e (AA b 0) y0 λC=>aE C (AA b 1) Y λD=>J (some (AA j 0)) (some (AA b 0)) D)/\True:=by
 have key: ∀(b B:Nat)(A:ai),b≠B->h.size<=b->h.size<=B->Fr No h A->A[b]? =some (.cells #[z,Z] t (0,0))->A[B]? =some (.cells #[z,Z] t (0,0))->
   aE A (AA b 0) X λE=>aE E (AA b 1) I λe=>G e/\i e/\aE e (AA B 0) y0 λC=>aE C (AA B 1) Y λD=>J (some (AA b 0)) (some (AA B 0)) D:=by
  intro b B A F K L f7 T U;have fr: ∀{v w:ai}{x:Nat},Fr No h v->h.size<=x->w.size=v.size->(∀y,y≠x->w[y]? =v[y]?)->Fr No h w:=λf hx hs ho=>
   ⟨cf f.1,λc hc hn=>by rw[ho c ae];exact f.2 c hc hn⟩
  refine bB T bM λh8 V s8 O=>bB V bM λh9 W s9 P=> ?_
  have f9:=fr (fr f7 K s8 O) K s9 P;have a':h9[B]? =some (.cells #[z,Z] t (0,0)):=by rw[P _ F.symm,O _ F.symm];exact U
  refine⟨(r _ f9).1,(r _ f9).2.1,bB a' bM λe' Q c' M=>bB Q bM λb' S d' N=> ?_⟩;refine hJ b B b' ?_ S K L (fr (fr f9 L c' M) L d' N);rw[N _ F,M _ F];exact W
 have f1: ∀o,Fr No h (h.push o):=λo=>Fr.push _ _
 refine⟨?_,?_,trivial⟩
 .rintro b v rfl rfl;obtain⟨k,l,n,q⟩:=r _ (f1 _);refine⟨k,l,n,q,?_⟩;rintro B w rfl rfl;have f2:=Fr.tt (f1 (.cells #[z,Z] t)) (Fr.push (h.push (.cells #[z,Z] t)) (.cells #[z,Z] t));obtain⟨k,l,n,q⟩:=r _ f2;exact⟨k,l,n,q,key _ _ _ bM bM bM f2 (xo bT) bT⟩
 .rintro b v rfl rfl;obtain⟨k,l,n,q⟩:=r _ (f1 _);refine⟨k,l,n,q,?_⟩;rintro B w rfl rfl;have f2:=Fr.tt (f1 (.cells #[z,Z] t)) (Fr.push (h.push (.cells #[z,Z] t)) (.cells #[z,Z] t));obtain⟨k,l,n,q⟩:=r _ f2;exact⟨k,l,n,q,key _ _ _ bM bM bM f2 bT (xo bT)⟩
end bR
end
end Go.Proofs.YtlenamcfacpheaaGreatDoor
