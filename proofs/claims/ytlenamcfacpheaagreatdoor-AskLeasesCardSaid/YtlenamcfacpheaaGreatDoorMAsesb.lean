/-
  TU is proved here: parts of Jr proof, one behind Jr other (texts of this work, merged by a program; ZU Jr theorem ZV not use is left out). No condition.
-/
import Derived.Recover
import Derived.Test.YtlenamcfacpheaaGreatDoorProg
import Derived.Shelf.Strings.Cut
import Derived.Shelf.Strconv.Itoa4
import Derived.Ground.NamesProg
import Derived.Shelf.Small.Wraps
import Derived.Test.YtlenamcfacpheaaGreatDoorMAsesa
set_option maxRecDepth 100000
set_option maxHeartbeats 4000000
set_option linter.unusedSectionVars false
namespace Go.Den
section
variable {P : Program} {α : Type} [DecidableEq α]
structure MM (P:Program) (kt:TypeId) (enc:α->Value):Prop where
 eq: ∀(a b:α) (h:aj),rd P (Op.equal kt (enc a) (enc b)) h=some (decide (a=b))
 chk: ∀(e:Bool) (a:α) (h:aj),rd P (Instr.checkKey e 10000 kt (enc a)) h=some ()
 now: ∃d,P.underlying kt=some d/\∀a b,Instr.sameNow d (enc a) (enc b)=none\/Instr.sameNow d (enc a) (enc b)=some (decide (a=b))
 bits: ∀a,Instr.sameBits 10000 (enc a) (enc a)=true
abbrev Ba (enc:α->Value) (t:α×Value×Nat):MapEntry:=⟨enc t.1,t.2.1,t.2.2⟩
abbrev pr (t:α×Value×Nat):α×Value:=(t.1,t.2.1)
structure ami (h:aj) (m:Nat) (enc:α->Value) (T:List (α×Value×Nat)) (clock:Nat):Prop where
 dE:h[m]? =some (.map (T.map (Ba enc)).toArray clock)
 keys:(T.map (·.1)).Nodup
 I8: ∀t∈T,t.2.2<clock
 born:(T.map (·.2.2)).Nodup
def pX (h:aj) (m:Nat) (enc:α->Value) (l:List (α×Value)):Prop:= ∃T clock,ami h m enc T clock/\(T.map pr).Perm l
def GA (l:List (α×Value)) (k:α):List (α×Value):=l.filter (λe=> !decide (e.1=k))
def Ro (l:List (α×Value)) (k:α) (v:Value):List (α×Value):=(k,v)::GA l k
theorem pX.perm {h:aj} {m:Nat} {enc:α->Value} {l l':List (α×Value)} (H:pX h m enc l) (p:l.Perm l'):pX h m enc l':=by
 obtain⟨T,c,h1,h2⟩:=H;exact⟨T,c,h1,h2.trans p⟩
theorem pX.wI {h h':aj} {m:Nat} {enc:α->Value} {l:List (α×Value)} (H:pX h m enc l) (he:h'[m]? =h[m]?):pX h' m enc l:=by
 obtain⟨T,c,⟨a,b,d,e⟩,h2⟩:=H;exact⟨T,c,⟨he.trans a,b,d,e⟩,h2⟩
theorem pX.lt {h:aj} {m:Nat} {enc:α->Value} {l:List (α×Value)} (H:pX h m enc l):m<h.size:=by
 obtain⟨T,c,h1,_⟩:=H;exact aI h1.dE
theorem pX.frame {S:Nat->Prop} {h h':aj} {m:Nat} {enc:α->Value} {l:List (α×Value)} (H:pX h m enc l) (hf:Fr S h h') (hn: ¬S m):pX h' m enc l:=H.wI (hf.2 m H.lt hn)
theorem pX.push (h:aj) (enc:α->Value):pX (h.push (.map #[] 0)) h.size enc []:=⟨[],0,⟨cz,by simp,by simp,by simp⟩,.refl _⟩
theorem pX.nodup {h:aj} {m:Nat} {enc:α->Value} {l:List (α×Value)} (H:pX h m enc l):(l.map (·.1)).Nodup:=by
 obtain⟨T,c,h1,h2⟩:=H;have h3:=h2.map (·.1);rw[fG] at h3;exact h3.nodup_iff.1 h1.keys
def wO (k:α):List (α×Value×Nat)->Nat->Option (Nat×Value)
 | [],_=>none
 |t::T,i=>if k=t.1 then some (i,t.2.1) else wO k T (i+1)
theorem Aq {k:α} : ∀ {T:List (α×Value×Nat)} {i:Nat},wO k T i=none->∀t∈T,t.1≠k
 | [],_,_,_,ht=>by cases ht
 |u::T,i,h,t,ht=>by
  unfold wO at h;split at h
  ·cases h
  ·rename_i kA;rcases bP.1 ht with rfl|ht
   ·exact λe=>kA e.symm
   ·exact Aq h t ht
theorem Ar {k:α} : ∀ {T:List (α×Value×Nat)} {i j:Nat} {v:Value},wO k T i=some (j,v)->∃A B b,T=A++(k,v,b)::B/\j=i+A.length
 | [],_,_,_,h=>by cases h
 |u::T,i,j,v,h=>by
  unfold wO at h;split at h
  ·rename_i he;simp only[bE,jK] at h;obtain⟨rfl,rfl⟩:=h;subst he;exact⟨[],T,u.2.2,rfl,rfl⟩
  ·obtain⟨A,B,b,rfl,rfl⟩:=Ar h;exact⟨u::A,B,b,rfl,by rw[bj];omega⟩
theorem HG {kt:TypeId} {enc:α->Value} {d:TypeDesc} (hd: ∀a b,Instr.sameNow d (enc a) (enc b)=none\/Instr.sameNow d (enc a) (enc b)=some (decide (a=b))) (k:α):
  ∀(T:List (α×Value×Nat)) (i:Nat),Instr.findNow d (enc k) (T.map (Ba enc)) i=none\/Instr.findNow d (enc k) (T.map (Ba enc)) i=some (wO k T i)
 | [],i=> .inr rfl
 |t::T,i=>by
  rw[cA];unfold Instr.findNow wO;rcases hd k t.1 with e|e<;>rw[e]
  ·exact .inl rfl
  ·by_cases hk:k=t.1
   ·rw[ay hk,ag hk];exact .inr rfl
   ·rw[decide_eq_false hk,ai hk];exact HG (kt:=kt) hd k T (i+1)
theorem MN {kt:TypeId} {enc:α->Value} (K:MM P kt enc) (k:α) (h:aj): ∀(T:List (α×Value×Nat)) (i:Nat),rd P (Instr.findAsking kt (enc k) (T.map (Ba enc)) i) h=some (wO k T i)
 | [],i=>rfl
 |t::T,i=>by
  rw[cA];unfold Instr.findAsking wO;rw[bu _ _ _ _ (K.eq k t.1 h)];by_cases hk:k=t.1
  ·rw[ay hk,ag hk,ag rfl];rfl
  ·rw[decide_eq_false hk,ai hk,ai (by simp)];exact MN K k h T (i+1)
theorem OW {kt:TypeId} {enc:α->Value} (K:MM P kt enc) (k:α) (h:aj) (T:List (α×Value×Nat)):rd P (Instr.findKey kt (enc k) (T.map (Ba enc))) h=some (wO k T 0):=by
 obtain⟨d,h1,h2⟩:=K.now;unfold Instr.findKey;rw[bu _ _ _ _ (bD h1)];rcases HG (kt:=kt) h2 k T 0 with e|e<;>rw[e]
 ·exact MN K k h T 0
 ·rfl
structure y8 (P:Program) (t:TypeId) (enc:α->Value) (z:Value):Prop where
 ty: ∃k e,P.underlying t=some (.map k e)/\MM P k enc/\∃i,P.info? e=some i/\i.zero=some z
theorem y8.of {t:TypeId} {enc:α->Value} {z:Value} (k e:TypeId) (h1:P.underlying t=some (.map k e)) (h2:MM P k enc) (h3:(P.info? e).bind (·.zero)=some z):y8 P t enc z:=by
 cases hi:P.info? e with
 |none=>rw[hi] at h3;cases h3
 |some i=>exact⟨k,e,h1,h2,i,hi,by rw[hi] at h3;exact h3⟩
def DG (l:List (α×Value)) (k:α):Option Value:=(l.find? (λe=>decide (e.1=k))).map (·.2)
theorem MO {l:List (α×Value)} {k:α} :DG l k=none↔ ∀e∈l,e.1≠k:=by
 unfold DG;rw[Option.map_eq_none_iff,List.find?_eq_none];simp
theorem MP {l:List (α×Value)} {k:α} {v:Value} (hn:(l.map (·.1)).Nodup):DG l k=some v↔(k,v)∈l:=by
 induction l with
 |nil=>simp[DG]
 |cons e l ih=>
  rw[cA,gu] at hn;unfold DG at ih⊢;rw[List.find?_cons];by_cases h:e.1=k
  ·rw[ay h];simp only[dy,bE,bP];constructor
   ·rintro rfl;exact .inl (by rw[<-h])
   ·rintro(rfl|hm)
    ·rfl
    ·exact absurd (bB (f:=(·.1)) hm) (by rw[<-h];exact hn.1)
  ·rw[decide_eq_false h];rw[ih hn.2,bP];constructor
   ·exact .inr
   ·rintro(rfl|hm)
    ·exact absurd rfl h
    ·exact hm
theorem pX.find {h:aj} {m:Nat} {enc:α->Value} {l:List (α×Value)} (H:pX h m enc l) {T:List (α×Value×Nat)} (hp:(T.map pr).Perm l) (k:α):(wO k T 0).map (·.2)=DG l k:=by
 have hn:=H.nodup;cases e:wO k T 0 with
 |none=>
  symm
  rw[Option.map_none,MO];intro x hx;obtain⟨t,ht,rfl⟩:=bn.1 (hp.mem_iff.2 hx);exact Aq e t ht
 |some jv=>
  obtain⟨j,v⟩:=jv;obtain⟨A,B,b,rfl,_⟩:=Ar e;symm
  rw[dy,MP hn];exact hp.mem_iff.1 (by simp)
theorem ahS {t:TypeId} {enc:α->Value} {z:Value} (K:y8 P t enc z) {h:aj} {m:Nat} {l:List (α×Value)} (H:pX h m enc l) (k:α) (ok:Bool):
  rd P (Instr.lookup t (.map (some m)) (enc k) ok) h=some (if ok then .tuple #[(DG l k).getD z,.bool (DG l k).isSome] else(DG l k).getD z):=by
 obtain⟨kt,e,ht,hk,i,hi,hz⟩:=K.ty;have H0:=H;obtain⟨T,c,H,hp⟩:=H;rw[<-H0.find hp k];unfold Instr.lookup;rw[bu _ _ _ _ (bD ht)];simp only;rw[bu _ _ _ _ (ph H.dE)];simp only;rw[bu _ _ _ _ (pI _),bu _ _ _ _ (hk.chk _ k h),bu _ _ _ _ (OW hk k h T)];cases hf:wO k T 0 with
 |none=>
  simp only;rw[bu _ _ _ _ (oL hi hz)];cases ok<;>rfl
 |some jv=>cases ok<;>rfl
theorem V8 {t:TypeId} {enc:α->Value} {z:Value} (K:y8 P t enc z) {h:aj} {m:Nat} {l:List (α×Value)} (H:pX h m enc l) (k:α):mC P t (.map (some m)) (enc k) false h ((DG l k).getD z):=λh' hs=>by
 have:=ahS K (H.wI (h':=h') hs) k false;simpa using this
theorem aah {t:TypeId} {enc:α->Value} {z:Value} (K:y8 P t enc z) {h:aj} {m:Nat} {l:List (α×Value)} (H:pX h m enc l) (k:α):mC P t (.map (some m)) (enc k) true h (.tuple #[(DG l k).getD z,.bool (DG l k).isSome]):=λh' hs=>by
 have:=ahS K (H.wI (h':=h') hs) k true;simpa using this
theorem Uf {t ty:TypeId} {enc:α->Value} {z:Value} (K:y8 P t enc z) {h:aj} {m:Nat} {l:List (α×Value)} (H:pX h m enc l):afd P #[t] ty (.map (some m)) h (.I (l.length:Int)):=λh' hs=>by
 obtain⟨kt,e,ht,_⟩:=K.ty;obtain⟨T,c,H,hp⟩:=H;have hb:h'[m]? =some (.map (T.map (Ba enc)).toArray c):=Eq.trans hs H.dE;have hl:T.length=l.length:=by rw[<-hp.length_eq,aN]
 unfold Builtin.len_;show rd P (underlying t>>=_) h'=_;rw[bu _ _ _ _ (bD ht)];show rd P (getObj m>>=_) h'=_;rw[bu _ _ _ _ (ph hb)];show some (goInt _)=_;simp[hl,goInt]
theorem Ug {β:Type} (A B:List β) (t:β) (f:β->β):(A++t::B).modify A.length f=A++f t::B:=by
 induction A with
 |nil=>rfl
 |cons a A ih=>simp only[fv,bj,List.modify_succ_cons,ih]
theorem aai {β:Type} (A B:List β) (t:β):(A++t::B).eraseIdx A.length=A++B:=by
 induction A with
 |nil=>rfl
 |cons a A ih=>simp only[fv,bj,List.eraseIdx_cons_succ,ih]
theorem MQ {l l':List (α×Value)} (p:l.Perm l') (k:α):(GA l k).Perm (GA l' k):=p.filter _
theorem Rp {A B:List (α×Value×Nat)} {k:α} {v:Value} {b:Nat} (hn:((A++(k,v,b)::B).map (·.1)).Nodup):GA ((A++(k,v,b)::B).map pr) k=(A++B).map pr:=by
 rw[bm,cA,gh] at hn;obtain⟨_,h2,h3⟩:=hn;rw[gu] at h2;unfold GA;rw[bm,cA,iE,cC,ai (by simp),bm];congr 1
 ·rw[cH];intro e he;obtain⟨t,ht,rfl⟩:=bn.1 he;have:=h3 t.1 (bB ht) k (by simp);simp[this]
 ·rw[cH];intro e he;obtain⟨t,ht,rfl⟩:=bn.1 he;have:t.1≠k:=λe=>h2.1 (bn.2 ⟨t,ht,e⟩)
  simp[this]
theorem Dn {l:List (α×Value)} {k:α} (hn: ∀e∈l,e.1≠k):GA l k=l:=by
 unfold GA;rw[cH];intro e he;simp[hn e he]
theorem JS {t:TypeId} {enc:α->Value} {z:Value} (K:y8 P t enc z) {h:aj} {m:Nat} {l:List (α×Value)} (H:pX h m enc l) {k:α} {v:Value} {Q:Unit->aj->Prop}
  (hk: ∀h',pX h' m enc (Ro l k v)->h'.size=h.size->(∀c,c≠m->h'[c]? =h[c]?)->Q () h'):aX P (Instr.mapUpdate t (.map (some m)) (enc k) v) h Q:=by
 obtain⟨kt,e,ht,Ub,_⟩:=K.ty;obtain⟨T,c,H,hp⟩:=H;have jc:=aI H.dE;unfold Instr.mapUpdate;refine bX (bD ht) ?_;simp only;refine bX (ph H.dE) ?_;simp only;refine bX (Ub.chk _ k h) ?_;have fin: ∀(T':List (α×Value×Nat)) (yI:Array MapEntry) (c':Nat),yI.toList=T'.map (Ba enc)->(T'.map (·.1)).Nodup->(∀t∈T',t.2.2<c')->(T'.map (·.2.2)).Nodup->(T'.map pr).Perm (Ro l k v)->aX P (setObj m (.map yI c')) h Q:=λT' yI c' h0 h1 h2 h3 h4=>by
  refine⟨⟨_,H.dE,λc e f he=>by cases he⟩,?_⟩;refine hk _ ⟨T',c',⟨?_,h1,h2,h3⟩,h4⟩ (by simp) (λx hx=> ?_)
  ·rw[<-h0];simp[jc]
  ·rw[cK,ai (ie hx)]
 refine bX (OW Ub k h T) ?_;cases hf:wO k T 0 with
 |none=>
  simp only;have Gv:=Aq hf;refine fin (T++ [(k,v,c)]) _ _ (by simp) ?_ ?_ ?_ ?_
  ·rw[bm,gh];refine⟨H.keys,by simp,λa ha b hb=> ?_⟩;obtain⟨t,ht,rfl⟩:=bn.1 ha;simp at hb;subst hb;exact Gv t ht
  ·intro t ht;rcases bT.1 ht with ht|ht
   ·exact Nat.lt_succ_of_lt (H.I8 t ht)
   ·obtain rfl:=bV.1 ht;exact Nat.lt_succ_self _
  ·rw[bm,gh];refine⟨H.born,by simp,λa ha b hb=> ?_⟩;obtain⟨t,ht,rfl⟩:=bn.1 ha;simp at hb;subst hb;exact Nat.ne_of_lt (H.I8 t ht)
  ·unfold Ro;rw[Dn (λe he=>by obtain⟨t,ht,rfl⟩:=bn.1 (hp.mem_iff.2 he);exact Gv t ht),bm];exact(List.perm_append_comm.trans (.refl _)).trans (List.Perm.cons _ hp)
 |some jv=>
  obtain⟨j,u⟩:=jv;obtain⟨A,B,b,rfl,hj⟩:=Ar hf;rw[bZ] at hj;subst hj;simp only;have xM:rd P (Instr.keyThatStays (((((A++(k,u,b)::B).map (Ba enc)).toArray[A.length]?).map (·.key)).getD (enc k)) (enc k)) h=some (enc k):=by
   have:((A++(k,u,b)::B).map (Ba enc)).toArray[A.length]? =some (Ba enc (k,u,b)):=by simp
   rw[this];simp only[dy,Option.getD_some];unfold Instr.keyThatStays;rw[ag (Ub.bits k)];rfl
  refine bX xM ?_;refine fin (A++(k,v,b)::B) _ _ ?_ ?_ ?_ ?_ ?_
  ·rw[Array.toList_modify,bm,cA];have:=Ug (A.map (Ba enc)) (B.map (Ba enc)) (Ba enc (k,u,b)) (λe=> { e with key:=enc k,val:=v });rw[aN] at this;rw[this,bm,cA]
  ·have:=H.keys;simpa using this
  ·intro t ht;rcases bT.1 ht with ht|ht
   ·exact H.I8 t (fJ _ ht)
   ·rcases bP.1 ht with rfl|ht
    ·exact H.I8 (k,u,b) (by simp)
    ·exact H.I8 t (by simp[ht])
  ·have:=H.born;simpa using this
  ·unfold Ro;refine List.Perm.trans ?_ (List.Perm.cons _ ((Rp H.keys▸MQ hp k)));rw[bm,cA,bm];exact List.perm_middle
theorem Rr {t kt' ty:TypeId} {enc:α->Value} {z:Value} (K:y8 P t enc z) {h:aj} {m:Nat} {l:List (α×Value)} (H:pX h m enc l) {k:α} {Q:iI}
  (hk: ∀h',pX h' m enc (GA l k)->h'.size=h.size->(∀c,c≠m->h'[c]? =h[c]?)->Q (.tuple #[]) h'):aX P (Builtin.delete_ #[t,kt'] ty #[.map (some m),enc k]) h Q:=by
 obtain⟨kt,e,ht,Ub,_⟩:=K.ty;obtain⟨T,c,H,hp⟩:=H;have jc:=aI H.dE;unfold Builtin.delete_;refine bX (bD ht) ?_;show aX P (do
   let __x<-getObj m
   match __x with
    |Obj.map es clock=>do
     Instr.checkKey es.isEmpty 10000 kt (enc k)
     let __do_lift<-Instr.findKey kt (enc k) es.toList
     match __do_lift with
      |some (i,_)=>do
       setObj m (Obj.map (es.eraseIdxIfInBounds i) clock)
       pure (Value.tuple #[])
      |none=>do
       setObj m (Obj.map es clock)
       pure (Value.tuple #[])
    |_=>do
     stuck "delete: map expected"
     pure (Value.tuple #[])) h Q
 refine bX (ph H.dE) ?_;simp only;refine bX (Ub.chk _ k h) ?_;have fin: ∀(T':List (α×Value×Nat)) (yI:Array MapEntry),yI.toList=T'.map (Ba enc)->(T'.map (·.1)).Nodup->(∀t∈T',t.2.2<c)->(T'.map (·.2.2)).Nodup->(T'.map pr).Perm (GA l k)->aX P (do setObj m (.map yI c);pure (Value.tuple #[])) h Q:=λT' yI h0 h1 h2 h3 h4=>by
  rw[eZ];refine⟨⟨_,H.dE,λc e f he=>by cases he⟩,?_⟩;refine hk _ ⟨T',c,⟨?_,h1,h2,h3⟩,h4⟩ (by simp) (λx hx=> ?_)
  ·rw[<-h0];simp[jc]
  ·rw[cK,ai (ie hx)]
 refine bX (OW Ub k h T) ?_;cases hf:wO k T 0 with
 |none=>
  have Gv:=Aq hf;refine fin T _ rfl H.keys H.I8 H.born ?_;rw[Dn (λe he=>by obtain⟨t,ht,rfl⟩:=bn.1 (hp.mem_iff.2 he);exact Gv t ht)];exact hp
 |some jv=>
  obtain⟨j,u⟩:=jv;obtain⟨A,B,b,rfl,hj⟩:=Ar hf;rw[bZ] at hj;subst hj;have qY:List.Sublist (A++B) (A++(k,u,b)::B):=List.Sublist.append (List.Sublist.refl _) (List.sublist_cons_self _ _);refine fin (A++B) _ ?_ ((qY.map _).nodup H.keys) (λt ht=>H.I8 t (qY.subset ht)) ((qY.map _).nodup H.born) (Rp H.keys▸MQ hp k);rw[Array.toList_eraseIdxIfInBounds,bm,cA];have:=aai (A.map (Ba enc)) (B.map (Ba enc)) (Ba enc (k,u,b));rw[aN] at this;rw[this,bm]
def Iter (h:aj) (r m:Nat) (enc:α->Value) (l done:List (α×Value)):Prop:=
 ∃T clock D last,ami h m enc T clock/\(T.map pr).Perm l/\h[r]? =some (.mapIter (some m) clock (D.map (·.2.2)).toArray last)/\(D≠ []->last=clock)/\D.Nodup/\(∀t∈D,t∈T)/\D.map pr=done/\r≠m
theorem Iter.frame {S:Nat->Prop} {h h':aj} {r m:Nat} {enc:α->Value} {l done:List (α×Value)} (H:Iter h r m enc l done) (f:Fr S h h') (h1: ¬S r) (h2: ¬S m):Iter h' r m enc l done:=by
 obtain⟨T,c,D,last,A,B,C,E⟩:=H;exact⟨T,c,D,last,⟨f.get A.dE h2,A.keys,A.I8,A.born⟩,B,f.get C h1,E⟩
theorem Iter.le {h:aj} {r m:Nat} {enc:α->Value} {l done:List (α×Value)} (H:Iter h r m enc l done):done.length<=l.length:=by
 obtain⟨T,c,D,last,A,B,_,_,hn,hs,rfl,_⟩:=H;rw[aN,<-B.length_eq,aN];exact hn.length_le_of_subset (λt ht=>hs t ht)
theorem Uh {t:TypeId} {enc:α->Value} {z:Value} (K:y8 P t enc z) {h:aj} {m:Nat} {l:List (α×Value)} (H:pX h m enc l) {Q:iI}
  (hk: ∀r h',r=h.size->Iter h' r m enc l []->Fr (λ_=>False) h h'->Q (.P r 0) h'):aX P (Instr.range t (.map (some m))) h Q:=by
 obtain⟨kt,e,ht,Ub,_⟩:=K.ty;obtain⟨T,c,H,hp⟩:=H;unfold Instr.range;refine bX (bD ht) ?_;simp only;show aX P (getObj m>>=_) h Q;refine bX (ph H.dE) ?_
 ·have f:Fr (λ_=>False) h (h.push (.mapIter (some m) c #[] c)):=Fr.push _ _;exact hk h.size _ rfl ⟨T,c, [],c,⟨f.get H.dE id,H.keys,H.I8,H.born⟩,hp,cz,(λe=>absurd rfl e),.nil,(λt ht=>by cases ht),rfl,λe=>by have:=aI H.dE;omega⟩ f
theorem JT {β:Type} {n:Nat} {g:Nat->Sem β} {h:aj} {Q:β->aj->Prop} (hn:0<n) (hk: ∀i,i<n->aX P (g i) h Q):aX P (choose (.mapNext n)>>=g) h Q:=by
 show(if(Question.mapNext n).forced=true then aX P (g 0) h Q else∀t,aX P (g ((Question.mapNext n).cut t)) h Q);split
 ·exact hk 0 hn
 ·intro t;exact hk _ (Nat.mod_lt _ hn)
theorem aaj {ty:TypeId} {enc:α->Value} {h:aj} {r m:Nat} {l done:List (α×Value)} (I:Iter h r m enc l done) {Q:iI} (k1:done.Perm l->Q (.tuple #[.bool false]) h)
  (k2: ∀a v h',(a,v)∈l->(a,v)∉done->Iter h' r m enc l (done++ [(a,v)])->h'.size=h.size->(∀c,c≠r->h'[c]? =h[c]?)->Q (.tuple #[.bool true,enc a,v]) h'):
  aX P (Instr.next (.P r 0) false ty) h Q:=by
 classical
 obtain⟨T,c,D,last,M,hp,hr,HI,hn,qY,rfl,kA⟩:=I;have jc:=aI hr;have hTn:T.Nodup:=by
  have:=M.keys;exact List.Pairwise.of_map (S:=(· ≠ ·)) (·.1) (λa b hab e=>hab (by rw[e])) this
 unfold Instr.next;simp only;have hri:rd P (getObj r) h=some (.mapIter (some m) c (D.map (·.2.2)).toArray last):=by unfold getObj;simp only[rd,hr]
 refine bX hri ?_;simp only;refine bX (ph M.dE) ?_;simp only;have hq:(!(D.map (·.2.2)).toArray.isEmpty && !(T.map (Ba enc)).toArray.isEmpty && (T.map (Ba enc)).toArray.all (λe=>decide (e.born≥last)))=false:=by
  cases hD:D with
  |nil=>rfl
  |cons d D'=>
   have hl:=HI (by rw[hD];simp);have hd:d∈T:=qY d (by rw[hD];simp);have:(T.map (Ba enc)).toArray.all (λe=>decide (e.born≥last))=false:=by
    rw[List.all_toArray,List.all_eq_false];exact⟨Ba enc d,bB hd,by simp;have:=M.I8 d hd;omega⟩
   rw[this];simp
 rw[ai (by rw[hq];simp)];have ahT:(T.map (Ba enc)).toArray.filter (λe=> !(D.map (·.2.2)).toArray.contains e.born)=((T.filter (λt=> !decide (t∈D))).map (Ba enc)).toArray:=by
  apply Array.ext'
  rw[Array.toList_filter];simp only[];rw[eK];congr 1
  apply fF
  intro t ht;have:(D.map (·.2.2)).toArray.contains (Ba enc t).born=decide (t∈D):=by
   by_cases hm:t∈D
   ·rw[ay hm];simp;exact⟨t.1,t.2.1,hm⟩
   ·rw[decide_eq_false hm];simp only[List.contains_toArray,List.contains_eq_mem,decide_eq_false_iff_not,bn,not_exists,not_and];intro u hu e;have apS:u=t:=by
     have hb:=M.born;have hu':=qY u hu;obtain⟨i,hi⟩:=bG hu';obtain⟨j,hj⟩:=bG ht;have MK:=(aG.1 hi).1;have:=(fU (l:=T.map (·.2.2)) (i:=i) (j:=j) (by simpa using MK) hb).1 (by rw[aO,aO,hi,hj];simp[e]);subst this;rw[hi] at hj;exact bz hj
    exact hm (apS▸hu)
  simp only[Function.comp,this]
 have hold:(((T.filter (λt=> !decide (t∈D))).map (Ba enc)).toArray.filter (λe=>decide (e.born<c)))=((T.filter (λt=> !decide (t∈D))).map (Ba enc)).toArray:=by
  rw[Array.filter_eq_self];intro e he;obtain⟨t,ht,rfl⟩:=bn.1 (List.mem_toArray.1 he);exact ay (M.I8 t (aY.1 ht).1)
 have ajG:(((T.filter (λt=> !decide (t∈D))).map (Ba enc)).toArray.filter (λe=>decide (e.born≥c)))= #[]:=by
  rw[Array.filter_eq_empty_iff];intro e he;obtain⟨t,ht,rfl⟩:=bn.1 (List.mem_toArray.1 he);have:=M.I8 t (aY.1 ht).1;simp;omega
 rw[ahT,hold,ajG];simp only[Array.append_empty];cases hF:T.filter (λt=> !decide (t∈D)) with
 |nil=>
  refine JT (by simp) λi hi=> ?_
  have:i=0:=by simpa using hi
  subst this;have e0:((if((([]:List (α×Value×Nat)).map (Ba enc)).toArray.isEmpty=true) then #[none] else #[])++Array.map some (([]:List (α×Value×Nat)).map (Ba enc)).toArray)[0]? =some none:=by simp
  rw[e0];show aX P (pure (.tuple #[.bool false])) h Q;refine k1 ?_;refine List.Perm.trans (List.Perm.map _ ?_) hp;rw[List.perm_ext_iff_of_nodup hn hTn];intro t;refine⟨qY t,λht=> ?_⟩;have:=List.filter_eq_nil_iff.1 hF t ht;simpa using this
 |cons f F=>
  refine JT (by simp) λi hi=> ?_
  rw[<-hF] at hi⊢;have apT:(((T.filter (λt=> !decide (t∈D))).map (Ba enc)).toArray.isEmpty)=false:=by rw[hF];rfl
  rw[apT] at hi⊢;simp only[aA,aU,Array.empty_append] at hi⊢;have hi':i<(T.filter (λt=> !decide (t∈D))).length:=by simpa using hi
  obtain⟨t,ht⟩: ∃t,(T.filter (λt=> !decide (t∈D)))[i]? =some t:=⟨_,au hi'⟩;have ajA:(Array.map some ((T.filter (λt=> !decide (t∈D))).map (Ba enc)).toArray)[i]? =some (some (Ba enc t)):=by simp[ht]
  rw[ajA];have htm:=aY.1 (bt ht);have htD:t∉D:=by simpa using htm.2
  refine⟨⟨_,hr,λ_ _ _ e=>by cases e⟩,?_⟩;refine k2 t.1 t.2.1 _ (hp.mem_iff.1 (bB (f:=pr) htm.1)) ?_ ⟨T,c,D++ [t],c,⟨?_,M.keys,M.I8,M.born⟩,hp,?_,(λ_=>rfl),?_,?_,?_,kA⟩ (by simp) (λx hx=> ?_)
  ·intro apU;obtain⟨u,hu,e⟩:=bn.1 apU;have h1:u.1=t.1:=bp (λx:α×Value=>x.1) e;have:u=t:=by
    obtain⟨i,hi⟩:=bG (qY u hu);obtain⟨j,hj⟩:=bG htm.1;have MK:=(aG.1 hi).1;have:=(fU (l:=T.map (·.1)) (i:=i) (j:=j) (by simpa using MK) M.keys).1 (by rw[aO,aO,hi,hj];simp[h1]);subst this;rw[hi] at hj;exact bz hj
   exact htD (this▸hu)
  ·rw[cK,ai kA];exact M.dE
  ·simp[jc]
  ·rw[gh];exact⟨hn,by simp,λa ha b hb=>by simp at hb;subst hb;exact λe=>htD (e▸ha)⟩
  ·intro u hu;rcases bT.1 hu with hu|hu
   ·exact qY u hu
   ·obtain rfl:=bV.1 hu;exact htm.1
  ·rw[bm];rfl
  ·rw[cK,ai (ie hx)]
end
end Go.Den
namespace Go.Den
section
variable {P : Program} {α : Type}
theorem find_born (enc:α->Value) {t:α×Value×Nat} : ∀ {T:List (α×Value×Nat)},(T.map (·.2.2)).Nodup->t∈T->T.find? ((λe:MapEntry=>e.born==t.2.2) ∘ Ba enc)=some t
 | [],_,ht=>by cases ht
 |u::T,hn,ht=>by
  rw[cA,gu] at hn;rw[List.find?_cons];by_cases hu:u.2.2=t.2.2
  ·have:((λe:MapEntry=>e.born==t.2.2) ∘ Ba enc) u=true:=by simp[hu]
   rw[this];rcases bP.1 ht with e|e
   ·rw[e]
   ·exact absurd (bn.2 ⟨t,e,hu.symm⟩) hn.1
  ·have:((λe:MapEntry=>e.born==t.2.2) ∘ Ba enc) u=false:=by simp[hu]
   rw[this];rcases bP.1 ht with e|e
   ·exact absurd (by rw[e]) hu
   ·exact find_born enc hn.2 e
theorem JU {t:TypeId} {s:ByteArray} {h:aj} {Q:iI} (ht:P.underlying t=some .string) (hk: ∀r h',r=h.size->h'[r]? =some (.stringIter s 0)->Fr (λ_=>False) h h'->Q (.P r 0) h'):
  aX P (Instr.range t (.string s)) h Q:=by
 unfold Instr.range;refine bX (bD ht) ?_;exact hk h.size _ rfl cz (Fr.push _ _)
theorem aak {ty:TypeId} {s:ByteArray} {h:aj} {r pos:Nat} {Q:iI} (hr:h[r]? =some (.stringIter s pos)) (k1:s.size<=pos->Q (.tuple #[.bool false]) h)
  (k2:pos<s.size->∀h',h'[r]? =some (.stringIter s (pos+(Utf8.decode s pos).2))->h'.size=h.size->(∀c,c≠r->h'[c]? =h[c]?)->Q (.tuple #[.bool true,.I (pos:Int),.int .i32 ((Utf8.decode s pos).1:Int)]) h'):
  aX P (Instr.next (.P r 0) true ty) h Q:=by
 have jc:=aI hr;unfold Instr.next;simp only;have hri:rd P (getObj r) h=some (.stringIter s pos):=by unfold getObj;simp only[rd,hr]
 refine bX hri ?_;simp only;by_cases hp:pos<s.size
 ·rw[ag hp];refine⟨⟨_,hr,λ_ _ _ e=>by cases e⟩,?_⟩;exact k2 hp _ (by simp[jc]) (by simp) (λc hc=>by rw[cK,ai (ie hc)])
 ·rw[ai hp];exact k1 (by omega)
theorem Ui {enc:α->Value} {h:aj} {r m:Nat} {l done:List (α×Value)} {a:α} {v:Value} (I:Iter h r m enc l (done++ [(a,v)])) {Q:iI} (hk:Q (.tuple #[enc a,v]) h):
  aX P (Instr.entry (.P r 0)) h Q:=by
 obtain⟨T,c,D,last,M,hp,hr,HI,hn,qY,hd,kA⟩:=I;rcases List.eq_nil_or_concat D with rfl|⟨D',t,rfl⟩
 ·simp at hd
 rw[List.concat_eq_append] at*;rw[bm] at hd;obtain⟨_,e2⟩:=List.append_inj' hd rfl;have e2:pr t=(a,v):=by simpa using e2
 have e3:t.1=a:=bp (λx:α×Value=>x.1) e2;have e4:t.2.1=v:=bp (λx:α×Value=>x.2) e2;have ht:t∈T:=qY t (by simp);have hl:=HI (by simp);unfold Instr.entry;simp only;have hri:rd P (getObj r) h=some (.mapIter (some m) c ((D'++ [t]).map (·.2.2)).toArray last):=by unfold getObj;simp only[rd,hr]
 refine bX hri ?_;simp only;have hb:((D'++ [t]).map (·.2.2)).toArray.back? =some t.2.2:=by simp
 rw[hb];simp only;refine bX (ph M.dE) ?_;simp only;rw[hl,ai (by simp)];have hf:(T.map (Ba enc)).toArray.find? (λe=>e.born==t.2.2)=some (Ba enc t):=by
  rw[List.find?_toArray,List.find?_map];have:T.find? ((λe:MapEntry=>e.born==t.2.2) ∘ Ba enc)=some t:=find_born enc M.born ht;rw[this];rfl
 rw[hf];show Q (.tuple #[enc t.1,t.2.1]) h;rw[e3,e4];exact hk
end
end Go.Den
namespace Go.Den
section
variable {P : Program}
def OX (P:Program) (eq:TypeId->Value->Value->Option Bool) (xs ys:Array Value) (t:TypeId) (off:Nat) (acc:Option Bool):Option Bool:=
 match sN P (part t xs off),sN P (part t ys off) with
 |some u,some v=>(match eq t u v,acc with|some b,some c=>some (b && c)|_,_=>none)
 |_,_=>none
def eqT (P:Program):Nat->TypeId->Value->Value->Option Bool
 |0,_,_,_=>none
 |n+1,t,x,y=>
  match P.underlying t with
  |some .bool=>(match x,y with| .bool a,.bool b=>some (a==b)|_,_=>none)
  |some (.int _)=>(match x,y with| .int k a,.int k' b=>(match decide (k=k') with|true=>some (a==b)|false=>none)|_,_=>none)
  |some .string=>(match x,y with| .string a,.string b=>some (a==b)|_,_=>none)
  |some (.struct fs)=>(match x,y with
   | .agg xs,.agg ys=>(match P.stoodInHeld t with
    |true=>none
    |false=>fs.toList.foldr (λf acc=>match decide (f.name= "_") with|true=>acc|false=>OX P (eqT P n) xs ys f.type f.offset acc) (some true))
   |_,_=>none)
  |some (.array len e)=>(match x,y,P.info? e with
   | .agg xs,.agg ys,some i=>(List.range len).foldr (λk acc=>OX P (eqT P n) xs ys e (k*i.size) acc) (some true)
   |_,_,_=>none)
  |_=>none
theorem Dp {β:Type} {h:aj} {step:β->Option Bool->Option Bool} {body:β->Option Bool×Unit->Sem (ForInStep (Option Bool×Unit))} : ∀(l:List β) (b:Bool),l.foldr step (some true)=some b->
  (∀f acc b,step f acc=some b->(acc=some b/\rd P (body f (none,())) h=some (.yield (none,())))\/∃q c,acc=some c/\b=(q && c)/\rd P (body f (none,())) h=some (if q=true then .yield (none,()) else .done (some false,())))->
  rd P (forIn l (none,()) body) h=some (if b=true then(none,()) else(some false,()))
 | [],b,hb,_=>by
  cases bz hb;rfl
 |f::l,b,hb,hs=>by
  rw[List.foldr_cons] at hb;rw[List.forIn_cons];rcases hs f _ b hb with⟨h1,h2⟩|⟨q,c,h1,rfl,h2⟩
  ·rw[bu _ _ _ _ h2];exact Dp l b h1 hs
  ·rw[bu _ _ _ _ h2];cases q with
   |true=>rw[fu];exact Dp l c h1 hs
   |false=>rfl
theorem MR {eq:TypeId->Value->Value->Option Bool} {n:Nat} (heq: ∀t x y b,eq t x y=some b->∀h,rd P (Op.equalIn n t x y) h=some b) {xs ys:Array Value} {t:TypeId} {off:Nat} {acc:Option Bool} {b:Bool} {h:aj} (hh:OX P eq xs ys t off acc=some b):
  ∃q c u v,acc=some c/\b=(q && c)/\rd P (part t xs off) h=some u/\rd P (part t ys off) h=some v/\rd P (Op.equalIn n t u v) h=some q:=by
 unfold OX at hh;split at hh
 ·rename_i u v hu hv;split at hh
  ·rename_i q c hq;exact⟨q,c,u,v,rfl,(bz hh).symm,Eh _ _ hu h,Eh _ _ hv h,heq _ _ _ _ hq h⟩
  ·cases hh
 ·cases hh
theorem Uj : ∀ (n : Nat) (t : TypeId) (x y : Value) (b : Bool), eqT P n t x y = some b -> ∀ h, rd P (Op.equalIn n t x y) h = some b
  | 0, _, _, _, _, hh => by cases hh
  | n + 1, t, x, y, b, hh => by
    intro h
    unfold eqT at hh
    unfold Op.equalIn
    split at hh
    · rename_i hu
      rw [bu _ _ _ _ (bD hu)]
      split at hh
      · rw [<- hh]; rfl
      · cases hh
    · rename_i d hu
      rw [bu _ _ _ _ (bD hu)]
      split at hh
      · rename_i k a k' c
        split at hh
        · rename_i hk
          simp only [of_decide_eq_true hk, bA]
          rw [<- hh]; rfl
        · cases hh
      · cases hh
    · rename_i hu
      rw [bu _ _ _ _ (bD hu)]
      split at hh
      · rw [<- hh]; rfl
      · cases hh
    · rename_i fs hu
      rw [bu _ _ _ _ (bD hu)]
      split at hh
      · rename_i xs ys
        split at hh
        · cases hh
        · rename_i xM
          dsimp only
          rw [bu _ _ _ _ (show rd P program h = some P from rfl), xM]
          simp only [aA, aU]
          rw [<- Array.forIn_toList, bu _ _ _ _ (Dp (h := h) fs.toList b hh ?_)]
          · cases b <;> rfl
          · intro f acc b hs
            split at hs
            · rename_i he
              refine .inl ⟨hs, ?_⟩
              rw [ai (by simpa using he)]
              rfl
            · rename_i he
              obtain ⟨q, c, u, v, h1, h2, h3, h4, h5⟩ := MR (h := h) (λt x y b hb h => Uj n t x y b hb h) hs
              refine .inr ⟨q, c, h1, h2, ?_⟩
              rw [ag (by simpa using he), bu _ _ _ _ h3, bu _ _ _ _ h4, bu _ _ _ _ h5]
              cases q <;> rfl
      · cases hh
    · rename_i len e hu
      rw [bu _ _ _ _ (bD hu)]
      split at hh
      · rename_i xs ys i hi
        dsimp only
        rw [bu _ _ _ _ (lP hi), Std.Legacy.Range.forIn_eq_forIn_range']
        have hr : List.range' ([:len] : Std.Legacy.Range).start ([:len] : Std.Legacy.Range).size ([:len] : Std.Legacy.Range).step = List.range len := by
          simp [Std.Legacy.Range.size, iM]
        rw [hr, bu _ _ _ _ (Dp (h := h) (List.range len) b hh ?_)]
        · cases b <;> rfl
        · intro k acc b hs
          obtain ⟨q, c, u, v, h1, h2, h3, h4, h5⟩ := MR (h := h) (λt x y b hb h => Uj n t x y b hb h) hs
          refine .inr ⟨q, c, h1, h2, ?_⟩
          rw [bu _ _ _ _ h3, bu _ _ _ _ h4, bu _ _ _ _ h5]
          cases q <;> rfl
      · cases hh
    · cases hh
theorem Ho.of {t:TypeId} {x y:Value} {b:Bool} (hh:eqT P 10000 t x y=some b):Ho P t x y b:=λh=>Uj 10000 t x y b hh h
end
abbrev ring (v:Value):List PanicEntry:= [{ v,recovered:=false }]
def mH (P:Program) (f:FuncId) (args:Array Value) (h:aj) (R E:iI):Prop:=
 ∀w:World,w.heap=h->Calls P f args w λe w'=>iC w w'/\((∃v,e=.returned v/\R v w'.heap)\/∃v,e=.panicked (ring v)/\E v w'.heap)
section
variable {P : Program} {f : FuncId} {args : Array Value} {h : aj} {R R' E E' : Value → aj → Prop}
theorem mH.mono (hh:mH P f args h R E) (hr: ∀v h',R v h'->R' v h') (hE: ∀v h',E v h'->E' v h'):mH P f args h R' E':=
 λw hw=>(hh w hw).mono λ_ _ ⟨hs,hq⟩=>⟨hs,hq.imp (λ⟨v,e,h⟩=>⟨v,e,hr _ _ h⟩) (λ⟨v,e,h⟩=>⟨v,e,hE _ _ h⟩)⟩
end
theorem mH.toH {P:Program} {f:FuncId} {args:Array Value} {h:aj} {R:iI} (hh:mH P f args h R (λ_ _=>False)):wD P f args h R:=
 λw hw=>(hh w hw).mono λ_ _ ⟨hs,hq⟩=>hq.elim (λ⟨v,e,h⟩=>⟨v,e,h,hs⟩) (λ⟨_,_,h⟩=>h.elim)
def GC (P:Program) (xN:List Nat) (o:Oper) (σ:Env) (h:aj) (K E:iI):Prop:=
 match o.op with
 | .panic x=>(match σ.ev x with
  |some (.iface t v)=>E (.iface t v) h
  |_=>False)
 | .call { callee:=.value f,args:=args,argTypes:=_ } =>(match σ.ev f,evs σ args.toList with
  |some (.func (.func g) first captured),some vs=>(match xN.any (Nat.beq g) with
   |true=>(match Ah P g with
    |true=>mH P g (first.toList++vs++captured.toList).toArray h (λv h'=>DO P o.type λv'=>v=v'/\K v' h') E
    |false=>False)
   |false=>Hr P o σ h K)
  |_,_=>Hr P o σ h K)
 |_=>Hr P o σ h K
theorem abW {P:Program} {o:Oper} {σ:Env} {ρ:Operand->Value} {h:aj} {f:Operand} {args:Array Operand} {QW:Array TypeId} {g:FuncId} {first captured:Array Value} {vs:List Value} (hf:Fits σ ρ)
  (ho:o.op=.call { callee:=.value f,args:=args,argTypes:=QW }) (hg:σ.ev f=some (.func (.func g) first captured)) (hvs:evs σ args.toList=some vs) (hb:Ah P g=true):
  aX P (execOp ρ o) h λx h'=>x=.enter g (first.toList++vs++captured.toList).toArray/\h'=h:=by
 unfold execOp;rw[ho];simp only[resolve,ER hf hvs,hf _ _ hg,Deferred.ofValue];rw[eZ,Jx];simp only[invoke,callFunc];rw[eZ];unfold Ah at hb;split at hb
 ·rename_i fn hfn;simp only[aW,Bool.not_eq_true'] at hb;show aX P (match P.funcs[g]? with|none=>_|some fn=>_) h _;rw[hfn];have hn:fn.body.isNone=false:=by cases hq:fn.body<;>simp[hq] at hb⊢
  simp only[hb.2,hn,aA,aU];have e:(first++vs.toArray++captured)=(first.toList++vs++captured.toList).toArray:=by
   apply Array.ext'
   simp
  rw[e];exact⟨rfl,rfl⟩
 ·cases hb
theorem MS {P:Program} {xN:List Nat} {o:Oper} {σ:Env} {a:Act} {w:World} {K E:iI} {next:Act->World->Prop} {Q:Exit->Act->World->Prop} (hf:Fits σ a.eval)
  (hh:GC P xN o σ w.heap K E) (hn: ∀v w',K v w'.heap->iC w w'->next (a.put o.dst v) w') (he: ∀v w',E v w'.heap->iC w w'->Q (.panic (ring v)) a w'):o.wp P a w next Q:=by
 unfold GC at hh;split at hh
 ·rename_i x ho;split at hh
  ·rename_i t v hx;unfold Oper.wp execOp;rw[ho];simp only[hf _ _ hx];exact he _ _ hh (iC.refl w)
  ·exact hh.elim
 ·rename_i f args QW ho;split at hh
  ·rename_i g first captured vs hg hvs;split at hh
   ·split at hh
    ·rename_i hb;obtain⟨x,w',r1,⟨rfl,hw'⟩,hs⟩:=Ag _ _ _ (abW hf ho hg hvs hb) w rfl;unfold Oper.wp;rw[r1];refine(hh w' hw').mono ?_;rintro e w'' ⟨hs2,⟨v,rfl,hR⟩|⟨v,rfl,hE⟩⟩
     ·exact hn _ _ (Jv hR) (hs.trans hs2)
     ·exact he _ _ hE (hs.trans hs2)
    ·exact hh.elim
   ·exact(yY hf hh).wp hn
  ·exact(yY hf hh).wp hn
 ·exact(yY hf hh).wp hn
structure qO (n:Nat) (D:List Deferred) (σ:Env) (a:Act):Prop where
 size:a.tmps.size=n
 at_: ∀t v,σ t=some v->a.tmps.getD t undef=v
 defs:a.defers=D
theorem qO.fits {n:Nat} {D:List Deferred} {σ:Env} {a:Act} (h:qO n D σ a):Fits σ a.eval:=by
 intro x v hv;cases x with
 |tmp t=>exact h.at_ t v hv
 |const c=>simpa[Env.ev,Act.eval] using hv
 |global g=>simpa[Env.ev,Act.eval] using hv
 |func f=>simpa[Env.ev,Act.eval] using hv
theorem qO.bare {n:Nat} {D:List Deferred} {σ:Env} {a:Act} (h:qO n D σ a):Rel n σ { a with defers:= [] } :=⟨rfl,h.size,h.at_⟩
theorem qO.of {n:Nat} {D:List Deferred} {σ:Env} {a:Act} (h:Rel n σ { a with defers:= [] }) (hd:a.defers=D):qO n D σ a:=⟨h.size,h.at_,hd⟩
theorem Rs (a:Act) (d:Option Nat) (v:Value):(a.put d v).defers=a.defers:=by cases d<;>rfl
theorem As {n:Nat} {D:List Deferred} {σ:Env} {a:Act} {dst:Option Nat} {v:Value} {K:Env->Prop} (hr:qO n D σ a) (h:nL n σ dst v K): ∃cT,qO n D cT (a.put dst v)/\K cT:=by
 obtain⟨cT,h1,h2⟩:=oJ hr.bare h;refine⟨cT,.of ?_ ((Rs _ _ _).trans hr.defs),h2⟩;have e:({ a with defers:= [] } :Act).put dst v= { (a.put dst v) with defers:= [] } :=by cases dst<;>rfl
 rw[<-e];exact h1
theorem Av {n:Nat} {D:List Deferred} {ops:Array Oper} {o:Oper} {σ:Env} {a:Act} {run skip:Env->Prop} (hr:qO n D σ a) (h:pB ops o σ run skip):
  (Region.wanted o (yielded ops a.tmps)=true/\∃cT,qO n D cT a/\run cT)\/(Region.wanted o (yielded ops a.tmps)=false/\∃cT,qO n D cT a/\skip cT):=by
 rcases qC hr.bare h with⟨h1,cT,h2,h3⟩|⟨h1,cT,h2,h3⟩
 ·exact .inl ⟨h1,cT,.of h2 hr.defs,h3⟩
 ·exact .inr ⟨h1,cT,.of h2 hr.defs,h3⟩
def upE (n:Nat) (D:List Deferred) (a0:Act) (w0:World) (W:List Nat) (K:List Deferred->Env->aj->Prop) (E:iI):Exit->Act->World->Prop:=
 λe a w=>(e=.normal/\∃D' σ,qO n D' σ a/\K D' σ w.heap/\iC w0 w/\hY W a0 a)\/(a.defers=D/\a.tmps.size=n/\hY W a0 a/\iC w0 w/\∃v,e=.panic (ring v)/\E v w.heap)
def JV (o:Oper) (D:List Deferred) (σ:Env):Option (List Deferred):=
 match o.op with
 | .defer { callee:=.value f,args:=args,argTypes:=_ } =>(match σ.ev f,evs σ args.toList with
  |some (.func g first captured),some vs=>some ({ target:=.fn g captured,args:=(first.toList++vs).toArray } ::D)
  |_,_=>none)
 |_=>none
theorem Rt {P:Program} {o:Oper} {σ:Env} {a:Act} {w:World} {D D':List Deferred} {next:Act->World->Prop} {Q:Exit->Act->World->Prop} (hf:Fits σ a.eval) (hd:a.defers=D) (h:JV o D σ=some D')
  (hn:next ({ a with defers:=D' }.put o.dst undef) w):o.wp P a w next Q:=by
 unfold JV at h;split at h
 ·rename_i f args QW ho;split at h
  ·rename_i g first captured vs hg hvs;cases h;subst hd;unfold Oper.wp execOp;rw[ho];simp only[resolve,ER hf hvs,hf _ _ hg,Deferred.ofValue];have e:first++vs.toArray=(first.toList++vs).toArray:=by apply Array.ext';simp
   rw[e];exact hn
  ·cases h
 ·cases h
def x5 (P:Program) (xN:List Nat) (n:Nat) (ops:Array Oper) (ty:List (Nat×Sh)) (E:iI):List Oper->List Deferred->Env->aj->(List Deferred->Env->aj->Prop)->Prop
 | [],D,σ,h,K=>K D σ h
 |o::rest,D,σ,h,K=>(match o.op with
  | .defer _=>pB ops o σ
   (λσ=>(match JV o D σ with
    |some D'=>(match rest with| []=>nL n σ o.dst undef λcT=>K D' cT h|_=>False)
    |none=>False))
   (λσ=>nL n σ o.dst undef λcT=>x5 P xN n ops ty E rest D cT h K)
  |_=>pB ops o σ
   (λσ=>GC P xN o σ h (λv h'=>Q0 ty o.dst v λv=>nL n σ o.dst v λcT=>x5 P xN n ops ty E rest D cT h' K) E)
   (λσ=>nL n σ o.dst undef λcT=>x5 P xN n ops ty E rest D cT h K))
theorem Aw {P:Program} {xN:List Nat} {n:Nat} {ops:Array Oper} {ty:List (Nat×Sh)} {E:iI} {D:List Deferred} {K:List Deferred->Env->aj->Prop} {a0:Act} {w0:World} : ∀(rest:List Oper) (k:Nat) (σ:Env) (a:Act) (w:World),
  (∀j,rest[j]? =ops[k+j]?)->qO n D σ a->iC w0 w->hY (cR ops) a0 a->x5 P xN n ops ty E rest D σ w.heap K->wpOps P ops (upE n D a0 w0 (cR ops) K E) (List.range' k rest.length) a w
 | [],k,σ,a,w,_,hr,hs,hu,h=> .inl ⟨rfl,D,σ,hr,h,hs,hu⟩
 |o::rest,k,σ,a,w,hj,hr,hs,hu,h=>by
  have h0:ops[k]? =some o:=by have:=hj 0;simpa using this.symm
  have OI: ∀j,rest[j]? =ops[k+1+j]? :=λj=>by have:=hj (j+1);simpa[Nat.add_assoc,Nat.add_comm 1 j] using this
  simp only[bj,List.range'_succ,wpOps,h0];have skip: ∀ {cT:Env},Region.wanted o (yielded ops a.tmps)=false->qO n D cT a->(nL n cT o.dst undef λcT=>x5 P xN n ops ty E rest D cT w.heap K)->
    (if Region.wanted o (yielded ops a.tmps)=true then o.wp P a w (wpOps P ops (upE n D a0 w0 (cR ops) K E) (List.range' (k+1) rest.length)) (upE n D a0 w0 (cR ops) K E)\/(o.asks P a w/\LetsOut (upE n D a0 w0 (cR ops) K E)) else wpOps P ops (upE n D a0 w0 (cR ops) K E) (List.range' (k+1) rest.length) (a.put o.dst undef) w):=by
   intro cT hw gA h;rw[ai (by rw[hw];simp)];obtain⟨tR,pJ,h1⟩:=As gA h;exact Aw rest (k+1) tR _ w OI pJ hs (hu.trans (hY.put (fW h0))) h1
  unfold x5 at h;split at h
  ·rename_i c ho;rcases Av hr h with⟨hw,cT,gA,h⟩|⟨hw,cT,gA,h⟩
   ·rw[ag hw];split at h
    ·rename_i D' hD;split at h
     ·obtain⟨tR,pJ,h1⟩:=As (D:=D') (a:= { a with defers:=D' }) ⟨gA.size,gA.at_,rfl⟩ h;exact .inl (Rt gA.fits gA.defs hD (.inl ⟨rfl,D',tR,pJ,h1,hs,hu.trans (hY.put (a:= { a with defers:=D' }) (fW h0))⟩))
     ·exact h.elim
    ·exact h.elim
   ·exact skip hw gA h
  ·rcases Av hr h with⟨hw,cT,gA,h⟩|⟨hw,cT,gA,h⟩
   ·rw[ag hw];refine .inl (MS gA.fits h (λv w' hk DC=> ?_) (λv w' hE DC=> .inr ⟨gA.defs,gA.size,hu,hs.trans DC,v,rfl,hE⟩));obtain⟨tR,pJ,h1⟩:=As gA (BY hk);exact Aw rest (k+1) tR _ w' OI pJ (hs.trans DC) (hu.trans (hY.put (fW h0))) h1
   ·exact skip hw gA h
def kW (P:Program) (xN:List Nat) (n:Nat) (ops:Array Oper) (E:iI):BE->List (Nat×(aj->Prop))->Env->aj->(Env->aj->Prop)->Prop
 | .done,_,σ,h,K=>K σ h
 | .op i rest,G,σ,h,K=>(match ops[i]? with
  |some o=>pB ops o σ
    (λσ=>(match vw P o with
     |true=>xV P o σ h λv S=>nL n σ o.dst v λcT=>kW P xN n ops E rest (EV i S G) cT h K
     |false=>GC P xN o σ h (λv h'=>BZ h' (nL n σ o.dst v λcT=>kW P xN n ops E rest (iJ o G) cT h' K) (iJ o G)) E))
    (λσ=>nL n σ o.dst undef λcT=>kW P xN n ops E rest G cT h K)
  |none=>False)
 | .alts q,G,σ,h,K=>kW P xN n ops E q G σ h K
 | .fork i rest q,G,σ,h,K=>(match ops[i]? with
  |some o=>pB ops o σ
    (λσ=>GC P xN o σ h (λv h'=>BZ h' (nL n σ o.dst v λcT=>kW P xN n ops E rest (iJ o G) cT h' K) (iJ o G)) E)
    (λσ=>nL n σ o.dst undef λcT=>kW P xN n ops E rest G cT h K)
  |none=>False)/\kW P xN n ops E q G σ h K
 | .mD,_,_,_,_=>True
theorem hY.amj {W:List Nat} {a b:Act} {dst:Option Nat} {v:Value} (h: ∀d,dst=some d->d∈W) (hu:hY W a (b.put dst v)):hY W a b:=λt ht=>by
 rw[<-hu t ht];cases dst with
 |none=>rfl
 |some d=>
  have kA:t≠d:=λe=>ht (e▸h d rfl)
  simp[Act.put,ie kA]
section
variable {P : Program} {xN : List Nat} {n : Nat} {ops : Array Oper} {E : Value → aj → Prop} {D : List Deferred} {K : Env → aj → Prop} {a0 : Act} {w0 : World}
abbrev upP (n:Nat) (D:List Deferred) (a0:Act) (w0:World) (ops:Array Oper) (K:Env->aj->Prop) (E:iI):=upE n D a0 w0 (cR ops) (λD' σ h=>D'=D/\K σ h) E
theorem HJ {rest:BE} {i m:Nat} {o:Oper} {listed:Array Bool} {G:List (Nat×(aj->Prop))} {σ:Env} {a:Act} {w:World}
  (ih: ∀G σ a w,qO n D σ a->iC w0 w->hY (cR ops) a0 a->(∀g∈G,g.2 w.heap)->kW P xN n ops E rest G σ w.heap K->mc P ops (upP n D a0 w0 ops K E) m G (listed.setIfInBounds i true) a w)
  (ho:ops[i]? =some o) (hr:qO n D σ a) (hs:iC w0 w) (hu:hY (cR ops) a0 a) (hG: ∀g∈G,g.2 w.heap)
  (h:pB ops o σ (λσ=>GC P xN o σ w.heap (λv h'=>BZ h' (nL n σ o.dst v λcT=>kW P xN n ops E rest (iJ o G) cT h' K) (iJ o G)) E) (λσ=>nL n σ o.dst undef λcT=>kW P xN n ops E rest G cT w.heap K)):
  wpOp P ops (upP n D a0 w0 ops K E) i (λa' w'=>(∀g∈iJ o G,g.2 w'.heap)/\mc P ops (upP n D a0 w0 ops K E) m (iJ o G) (listed.setIfInBounds i true) a' w') a w:=by
 rcases Av hr h with⟨hw,cT,gA,h⟩|⟨hw,cT,gA,B1⟩
 ·unfold wpOp;simp only[ho,hw,bA];refine .inl (MS gA.fits h (λv w' hk DC=> ?_) (λv w' hE DC=> .inr ⟨gA.defs,gA.size,hu,hs.trans DC,v,rfl,hE⟩));obtain⟨h1,h2⟩:=EU hk;obtain⟨tR,pJ,h3⟩:=As gA h2;exact⟨h1,ih _ tR _ w' pJ (hs.trans DC) (hu.trans (hY.put (fW ho))) h1 h3⟩
 ·unfold wpOp;simp only[ho,hw,aA,aU];obtain⟨tR,pJ,h3⟩:=As gA B1;have ih:=ih G tR _ w pJ hs (hu.trans (hY.put (fW ho))) hG h3;exact⟨λg hg=>hG g (pg hg),uo _ _ _ _ _ _ (λg hg=>pg hg) ih⟩
theorem L4 (LQ:Region.noSelect ops=true) (mB:BE):
  (∀(m:Nat) (listed:Array Bool) (G:List (Nat×(aj->Prop))) (σ:Env) (a:Act) (w:World),DD mB m=true->
   nH P ops mB none listed=true->qO n D σ a->iC w0 w->hY (cR ops) a0 a->(∀g∈G,g.2 w.heap)->kW P xN n ops E mB G σ w.heap K->
   mc P ops (upP n D a0 w0 ops K E) m G listed a w)/\
  (∀(m:Nat) (R:List Nat) (listed:Array Bool) (G:List (Nat×(aj->Prop))) (σ:Env) (a:Act) (w:World),DD mB (m+1)=true->
   nH P ops mB (some R) listed=true->qO n D σ a->iC w0 w->hY (cR ops) a0 a->(∀g∈G,g.2 w.heap)->kW P xN n ops E mB G σ w.heap K->
   ∀j∈R,∀o,ops[j]? =some o->wpOp P ops (upP n D a0 w0 ops K E) j (λa' w'=>(∀g∈iJ o G,g.2 w'.heap)/\mc P ops (upP n D a0 w0 ops K E) m (iJ o G) (listed.setIfInBounds j true) a' w') a w):=by
 induction mB with
 |done=>
  refine⟨λm listed G σ a w hl hp hr hs hu hG h=> ?_,λm R listed G σ a w hl hp=>by cases hp⟩;obtain rfl:m=0:=cg hl;simp only[nH,List.isEmpty_iff] at hp;exact⟨hp,.inl ⟨rfl,D,σ,hr,⟨rfl,h⟩,hs,hu⟩⟩
 |mD=>
  refine⟨λm listed G σ a w hl hp=>(by cases hp),λm R listed G σ a w hl hp hr hs hu hG h j hj=> ?_⟩;simp only[nH,List.isEmpty_iff] at hp;subst hp;cases hj
 |alts q ih=>
  refine⟨λm listed G σ a w hl hp hr hs hu hG h=> ?_,λm R listed G σ a w hl hp=>by cases hp⟩;cases m with
  |zero=>cases hl
  |succ m=>
   simp only[nH] at hp;split at hp
   ·cases hp
   ·rename_i j js pY;refine⟨(λe=>by rw[pY] at e;cases e),λj' OI o ho=> ?_⟩;rw[pY] at OI;exact ih.2 m _ listed G σ a w hl hp hr hs hu hG h j' OI o ho
 |fork i rest q ih1 ih2=>
  refine⟨λm listed G σ a w hl hp=>(by cases hp),λm R listed G σ a w hl hp hr hs hu hG h j hj o ho=> ?_⟩;simp only[nH,aW] at hp;obtain⟨⟨xR,JE⟩,hp3⟩:=hp;simp only[DD,aW] at hl;simp only[kW] at h;by_cases BD:i=j
  ·subst BD;have h:=h.1;rw[ho] at h;exact HJ (λG σ a w hr hs hu hG h=>ih1.1 m _ G σ a w hl.1 JE hr hs hu hG h) ho hr hs hu hG h
  ·refine ih2.2 m _ listed G σ a w hl.2 hp3 hr hs hu hG h.2 j (aY.2 ⟨hj,?_⟩) o ho;have:Nat.beq i j=false:=by cases hb:Nat.beq i j;rfl;exact absurd (cg hb) BD
   simp[this]
 |op i rest ih=>
  refine⟨λm listed G σ a w hl hp hr hs hu hG h=> ?_,λm R listed G σ a w hl hp=>by cases hp⟩;cases m with
  |zero=>cases hl
  |succ m=>
   simp only[nH,aW] at hp;obtain⟨xR,JE⟩:=hp;simp only[kW] at h;split at h
   ·rename_i o ho;simp only[ho] at xR;have hQ: ∀v,∀c a w,upP n D a0 w0 ops K E (.panic c) (a.put o.dst v) w->upP n D a0 w0 ops K E (.panic c) a w:=λv c a w hq=>by
     rcases hq with⟨e,_⟩|⟨h1,h2,h3,h4⟩
     ·cases e
     ·refine .inr ⟨(Rs _ _ _).symm.trans h1,?_,h3.amj (fW ho),h4⟩;rw[<-h2];cases o.dst<;>simp[Act.put]
    have take: ∀(v:Value) (S:Option (aj->Prop)) (cT:Env),vw P o=true->qO n D cT (a.put o.dst v)->YieldsIf P ops (λw=>Gr S w.heap) o v a->Gr S w.heap->
      kW P xN n ops E rest (EV i S G) cT w.heap K->mc P ops (upP n D a0 w0 ops K E) (m+1) G listed a w:=λv S cT qV gA hy hS hd=>by
     rw[qV] at xR;simp only[aW] at xR;have hG': ∀g∈EV i S G,g.2 w.heap:=by
      intro g hg;cases S with
      |none=>exact hG g hg
      |some S=>
       rcases bP.1 hg with e|e
       ·rw[e];exact hS
       ·exact hG g e
     have ih:=ih.1 m _ (EV i S G) cT (a.put o.dst v) w hl JE gA hs (hu.trans (hY.put (fW ho))) hG' hd;refine An (S:=Gr S) ho (Region.noSelect_spec LQ) (hQ v) m G listed a w (Region.free_spec ho xR.2) (by simpa using xR.1) hy hS hG ?_;cases S with
     |none=>exact xX i _ _ _ _ _ ih
     |some S=>exact ih
    cases qV:vw P o with
    |true=>
     rcases Av hr h with⟨hw,cT,gA,h⟩|⟨hw,cT,gA,B1⟩
     ·rw[qV] at h;obtain⟨v,S,h1,h2,h3⟩:=Aj gA.fits h;obtain⟨tR,pJ,h4⟩:=As gA h1;exact take v S tR qV pJ (.inl ⟨hw,λw' hS=>BQ _ _ _ (h3 _ hS)⟩) h2 h4
     ·obtain⟨tR,pJ,h4⟩:=As gA B1;exact take undef none tR qV pJ (.inr ⟨hw,rfl⟩) trivial h4
    |false=>
     rw[qV] at xR h;simp only at xR h;have pY:Region.ready .any ops listed= [i]:=by
      split at xR
      ·rename_i j hj;rw[hj,cg xR]
      ·cases xR
     refine⟨(λe=>by rw[pY] at e;cases e),λj hj o' TF=> ?_⟩;rw[pY] at hj;obtain rfl:j=i:=by simpa using hj
     obtain rfl:o'=o:=by rw[ho] at TF;exact(bz TF).symm
     exact HJ (λG σ a w hr hs hu hG h=>ih.1 m _ G σ a w hl JE hr hs hu hG h) ho hr hs hu hG h
   ·exact h.elim
end
def abX (K:List Deferred->Env->aj->Prop) (Q:Exit->List Deferred->Env->aj->Prop):Exit->List Deferred->Env->aj->Prop
 | .normal=>K
 |e=>Q e
def abY (id:Nat) (Q:Exit->List Deferred->Env->aj->Prop):Exit->List Deferred->Env->aj->Prop
 | .exit i=>(match Nat.beq i id with|true=>Q .normal|false=>Q (.exit i))
 |e=>Q e
def BH (P : Program) (xN : List Nat) (n : Nat) (E : List Deferred -> Env -> iI) : EN -> Code -> (Exit -> List Deferred -> Env -> aj -> Prop) -> List Deferred -> Env -> aj -> Prop
  | .leaf, c, Q, D, σ, h => (match c with
    | .skip => Q .normal D σ h
    | .label _ => Q .normal D σ h
    | .exit id => Q (.exit id) D σ h
    | .ret => Q .ret D σ h
    | .region _ ops false => x5 P xN n ops [] (E D (σ.forget (cR ops))) ops.toList D σ h (Q .normal)
    | _ => False)
  | .typed ty, c, Q, D, σ, h => (match c with
    | .region _ ops false => x5 P xN n ops ty (E D (σ.forget (cR ops))) ops.toList D σ h (Q .normal)
    | _ => False)
  | .mB p, c, Q, D, σ, h => (match c with
    | .region _ ops true => (match (P.follows .mixedOrders && Region.noSelect ops && DD p ops.size && nH P ops p none (Array.replicate ops.size false)) with
      | true => kW P xN n ops (E D (σ.forget (cR ops))) p [] σ h (Q .normal D)
      | false => False)
    | _ => False)
  | .seq a b, c, Q, D, σ, h => (match c with
    | .seq c d => BH P xN n E a c (abX (λD' cT h' => BH P xN n E b d Q D' cT h') Q) D σ h
    | _ => False)
  | .cond a b, c, Q, D, σ, h => (match c with
    | .cond x c d => (match σ.ev x with
      | some (.bool q) => if q = true then BH P xN n E a c Q D σ h else BH P xN n E b d Q D σ h
      | _ => False)
    | _ => False)
  | .block a, c, Q, D, σ, h => (match c with
    | .block id c => BH P xN n E a c (abY id Q) D σ h
    | _ => False)
  | .loop L a, c, Q, D, σ, h => (match c with
    | .loop c => ∃ (I : Ek (aj -> Prop) L) (μ : Ek (aj -> Nat) L), yG False L I σ (λf => f h) /\
        aby L (λcT => ∀ h', yG False L I cT (λf => f h') ->
          BH P xN n E a c (abX (λD' mb OK => D' = D /\ yG False L I mb (λf => f OK) /\ yG 0 L μ mb (λf => f OK) < yG 0 L μ cT (λf => f h')) Q) D cT h') (σ.forget (writes c))
    | _ => False)
  | .join L a, c, Q, D, σ, h => aK (α := Ek (aj -> Prop) L) (afe L (λcT h' => Q .normal D cT h') (σ.forget (writes c)))
      (λJ => BH P xN n E a c (abX (λD' cT h' => D' = D /\ yG False L J cT (λf => f h')) Q) D σ h)
  | .scope _ _ _ _, _, _, _, _, _ => False
  | .qW _, _, _, _, _, _ => False
def upX (n:Nat) (a0:Act) (w0:World) (W:List Nat) (Q:Exit->List Deferred->Env->aj->Prop) (E:List Deferred->Env->iI):Exit->Act->World->Prop:=
 λe a w=>iC w0 w/\hY W a0 a/\((∃D σ,qO n D σ a/\Q e D σ w.heap/\∀ch,e≠ .panic ch)\/∃D σ v,qO n D σ a/\e=.panic (ring v)/\E D σ v w.heap)
theorem qO.Em {n:Nat} {D D':List Deferred} {σ cT mb:Env} {a a':Act} {W:List Nat} (hr:qO n D σ a) (gA:qO n D' cT a') (hu:hY W a a') (hs:Sub mb (σ.forget W) cT):qO n D' mb a':=
 .of (Rel.Em hr.bare gA.bare hu hs) gA.defs
theorem Ew {n:Nat} {D:List Deferred} {a0:Act} {w0:World} {σ:Env} {W:List Nat} {Q:Exit->List Deferred->Env->aj->Prop} {E:List Deferred->Env->iI} (hr:qO n D σ a0) {e:Exit} {a:Act} {w:World}
  (h:upE n D a0 w0 W (Q .normal) (E D (σ.forget W)) e a w):upX n a0 w0 W Q E e a w:=by
 rcases h with⟨rfl,D',cT,h1,h2,h3,h4⟩|⟨h1,h2,h3,h4,v,rfl,h5⟩
 ·exact⟨h3,h4,.inl ⟨D',cT,h1,h2,λ_ e=>by cases e⟩⟩
 ·refine⟨h4,h3,.inr ⟨D,_,v,⟨h2,λt u hu=> ?_,h1⟩,rfl,h5⟩⟩;obtain⟨q1,q2⟩:=Env.Hv hu;rw[h3 t q1];exact hr.at_ t u q2
theorem Fb {n:Nat} {a0:Act} {w0:World} {W W':List Nat} {Q:Exit->List Deferred->Env->aj->Prop} {E:List Deferred->Env->iI} (hW: ∀t,t∈W->t∈W') {e:Exit} {a:Act} {w:World} (h:upX n a0 w0 W Q E e a w):upX n a0 w0 W' Q E e a w:=
 ⟨h.1,h.2.1.mono hW,h.2.2⟩
theorem aal {n:Nat} {a0 a1:Act} {w0 w1:World} {W:List Nat} {Q:Exit->List Deferred->Env->aj->Prop} {E:List Deferred->Env->iI} (hs:iC w0 w1) (hu:hY W a0 a1) {e:Exit} {a:Act} {w:World} (h:upX n a1 w1 W Q E e a w):upX n a0 w0 W Q E e a w:=
 ⟨hs.trans h.1,hu.trans h.2.1,h.2.2⟩
theorem x6 {P:Program} {xN:List Nat} {n:Nat} {E:List Deferred->Env->iI} : ∀(Gh:EN) (c:Code) (Q:Exit->List Deferred->Env->aj->Prop) (D:List Deferred) (σ:Env) (a:Act) (w:World),qO n D σ a->
  BH P xN n E Gh c Q D σ w.heap->c.wp P (upX n a w (writes c) Q E) a w
 | .leaf,c,Q,D,σ,a,w,hr,h=>by
  unfold BH at h;have ok: ∀e,(∀ch,e≠ .panic ch)->Q e D σ w.heap->upX n a w (writes c) Q E e a w:=λe he hq=>⟨iC.refl w,hY.refl _ _,.inl ⟨D,σ,hr,hq,he⟩⟩
  split at h
  ·exact wp_skip (ok _ (λ_ e=>by cases e) h)
  ·exact wp_label (ok _ (λ_ e=>by cases e) h)
  ·exact wp_exit (ok _ (λ_ e=>by cases e) h)
  ·exact wp_ret (ok _ (λ_ e=>by cases e) h)
  ·rename_i id ops;refine wp_mono (wp_region ?_) (λe a' w' hq=>Ew hr hq);have:=Aw (a0:=a) (w0:=w) ops.toList 0 σ a w (by simp) hr (iC.refl w) (hY.refl _ _) h;rw[iM];rw[fT] at this;exact this
  ·exact h.elim
 | .typed ty,c,Q,D,σ,a,w,hr,h=>by
  unfold BH at h;split at h
  ·rename_i id ops;refine wp_mono (wp_region ?_) (λe a' w' hq=>Ew hr hq);have:=Aw (a0:=a) (w0:=w) ops.toList 0 σ a w (by simp) hr (iC.refl w) (hY.refl _ _) h;rw[iM];rw[fT] at this;exact this
  ·exact h.elim
 | .mB p,c,Q,D,σ,a,w,hr,h=>by
  unfold BH at h;split at h
  ·rename_i id ops;split at h
   ·rename_i hb;simp only[aW] at hb;obtain⟨⟨⟨h1,h2⟩,h3⟩,h4⟩:=hb;refine wp_mono (wp_region_any (Q:=upP n D a w ops (Q .normal D) (E D (σ.forget (cR ops)))) h1 ?_) (λe a' w' hq=>Ew (Q:=Q) hr ?_)
    ·exact Am _ _ _ _ _ ((L4 (a0:=a) (w0:=w) h2 p).1 ops.size (Array.replicate ops.size false) [] σ a { w with drawn:=w.drawn+1 } h3 h4 hr ⟨rfl,rfl,rfl⟩ (hY.refl _ _) (λ_ hm=>by cases hm) h)
    ·rcases hq with⟨e,D',cT,q1,⟨rfl,q2⟩,q3⟩|hq
     ·exact .inl ⟨e,_,cT,q1,q2,q3⟩
     ·exact .inr hq
   ·exact h.elim
  ·exact h.elim
 | .seq x y,c,Q,D,σ,a,w,hr,h=>by
  unfold BH at h;split at h
  ·rename_i c d;have hW: ∀t,t∈writes c->t∈writes (.seq c d):=λt ht=>fJ _ ht
   refine wp_seq (wp_mono (x6 x c _ D σ a w hr h) ?_);rintro e a' w' hq;have hq:=Fb hW hq;obtain⟨hs,hu,⟨D',cT,gA,hq,he⟩|⟨D',cT,v,gA,rfl,hE⟩⟩:=hq
   ·cases e with
    |normal=>exact wp_mono (x6 y d Q D' cT a' w' gA hq) (λe2 a2 w2 Gw=>aal hs hu (Fb (λt ht=>fZ _ ht) Gw))
    |exit id=>exact⟨hs,hu,.inl ⟨D',cT,gA,hq,he⟩⟩
    |goto l=>exact⟨hs,hu,.inl ⟨D',cT,gA,hq,he⟩⟩
    |ret=>exact⟨hs,hu,.inl ⟨D',cT,gA,hq,he⟩⟩
    |panic ch=>exact absurd rfl (he ch)
    |outgrown=>exact⟨hs,hu,.inl ⟨D',cT,gA,hq,he⟩⟩
   ·exact⟨hs,hu,.inr ⟨D',cT,v,gA,rfl,hE⟩⟩
  ·exact h.elim
 | .cond x y,c,Q,D,σ,a,w,hr,h=>by
  unfold BH at h;split at h
  ·rename_i k c d;split at h
   ·rename_i q hq;have he:=hr.fits _ _ hq;split at h
    ·rename_i ht;subst ht;exact wp_cond_true he (wp_mono (x6 x c Q D σ a w hr h) (λ_ _ _=>Fb λt ht=>fJ _ ht))
    ·rename_i ht;have ht:q=false:=by simpa using ht
     subst ht;exact wp_cond_false he (wp_mono (x6 y d Q D σ a w hr h) (λ_ _ _=>Fb λt ht=>fZ _ ht))
   ·exact h.elim
  ·exact h.elim
 | .block x,c,Q,D,σ,a,w,hr,h=>by
  unfold BH at h;split at h
  ·rename_i id c;refine wp_block (wp_mono (x6 x c _ D σ a w hr h) ?_);rintro e a' w' ⟨hs,hu,⟨D',cT,gA,hq,he⟩|⟨D',cT,v,gA,rfl,hE⟩⟩
   ·cases e with
    |exit id'=>
     simp only[Exit.inBlock];simp only[abY] at hq;by_cases hid:id'=id
     ·subst hid;simp only[Nat.beq_refl] at hq;rw[ag rfl];exact⟨hs,hu,.inl ⟨D',cT,gA,hq,λ_ e=>by cases e⟩⟩
     ·rw[ai hid];have:Nat.beq id' id=false:=by cases hb:Nat.beq id' id;rfl;exact absurd (cg hb) hid
      rw[this] at hq;exact⟨hs,hu,.inl ⟨D',cT,gA,hq,he⟩⟩
    |normal=>exact⟨hs,hu,.inl ⟨D',cT,gA,hq,he⟩⟩
    |goto l=>exact⟨hs,hu,.inl ⟨D',cT,gA,hq,he⟩⟩
    |ret=>exact⟨hs,hu,.inl ⟨D',cT,gA,hq,he⟩⟩
    |panic ch=>exact absurd rfl (he ch)
    |outgrown=>exact⟨hs,hu,.inl ⟨D',cT,gA,hq,he⟩⟩
   ·exact⟨hs,hu,.inr ⟨D',cT,v,gA,rfl,hE⟩⟩
  ·exact h.elim
 | .loop L x,c,Q,D,σ,a,w,hr,h=>by
  unfold BH at h;split at h
  ·rename_i c;obtain⟨I,μ,h0,Q5⟩:=h;refine wp_loop (λa' w'=> ∃cT,qO n D cT a'/\yG False L I cT (λf=>f w'.heap)/\iC w w'/\hY (writes c) a a')
    (λa' w'=>yG 0 L μ (Hx a') (λf=>f w'.heap)) ⟨σ,hr,h0,iC.refl w,hY.refl _ _⟩ ?_
   rintro a' w' ⟨cT,gA,hI,hs,hu⟩;obtain⟨mb,hF,qY,hL,_⟩:=I5 L _ I Q5 hI;have Q6:=qO.Em hr gA hu qY;have Q7:yG False L I mb (λf=>f w'.heap):=by rw[yX L I hL];exact hI
   have hd:=hF w'.heap Q7;refine wp_mono (x6 x c _ D mb a' w' Q6 hd) ?_;rintro e a1 w1 ⟨EY,T8,⟨D1,tR,pJ,hq,he⟩|⟨D1,tR,v,pJ,rfl,hE⟩⟩
   ·cases e with
    |normal=>
     obtain⟨rfl,hI1,jc⟩:=hq;refine⟨⟨tR,pJ,hI1,hs.trans EY,hu.trans T8⟩,?_⟩;have ev: ∀b:Act,Hx { b with defers:= [] } =Hx b:=λ_=>rfl
     rw[<-ev a1,<-ev a',wi pJ.bare (Ak L I hI1),wi Q6.bare (Ak L I Q7)];exact jc
    |exit id=>exact⟨hs.trans EY,hu.trans T8,.inl ⟨D1,tR,pJ,hq,he⟩⟩
    |goto l=>exact⟨hs.trans EY,hu.trans T8,.inl ⟨D1,tR,pJ,hq,he⟩⟩
    |ret=>exact⟨hs.trans EY,hu.trans T8,.inl ⟨D1,tR,pJ,hq,he⟩⟩
    |panic ch=>exact absurd rfl (he ch)
    |outgrown=>exact⟨hs.trans EY,hu.trans T8,.inl ⟨D1,tR,pJ,hq,he⟩⟩
   ·exact⟨hs.trans EY,hu.trans T8,.inr ⟨D1,tR,v,pJ,rfl,hE⟩⟩
  ·exact h.elim
 | .join L x,c,Q,D,σ,a,w,hr,h=>by
  unfold BH at h;unfold aK at h;refine wp_mono (x6 x c _ D σ a w hr h) ?_;rintro e a' w' ⟨hs,hu,⟨D',cT,gA,hq,he⟩|hE⟩
  ·cases e with
   |normal=>
    obtain⟨rfl,hq⟩:=hq;obtain⟨mb,hQ,qY⟩:=JB L _ hq;exact⟨hs,hu,.inl ⟨_,mb,qO.Em hr gA hu qY,hQ,he⟩⟩
   |exit id=>exact⟨hs,hu,.inl ⟨D',cT,gA,hq,he⟩⟩
   |goto l=>exact⟨hs,hu,.inl ⟨D',cT,gA,hq,he⟩⟩
   |ret=>exact⟨hs,hu,.inl ⟨D',cT,gA,hq,he⟩⟩
   |panic ch=>exact absurd rfl (he ch)
   |outgrown=>exact⟨hs,hu,.inl ⟨D',cT,gA,hq,he⟩⟩
  ·exact⟨hs,hu,.inr hE⟩
 | .scope _ _ _ _,_,_,_,_,_,_,_,h=>by unfold BH at h;exact h.elim
def HK:Option Value->FrameMode
 |none=> .returning
 |some v=> .panicking (ring v)
def Cj (P:Program) (g:FuncId) (args:Array Value) (rv:Option Value) (h:aj) (K:Option Value->aj->Prop):Prop:=
 ∀w:World,w.heap=h->CallsD P g args (HK rv) w λe u' w'=>(∃v,e=.returned v)/\iC w w'/\∃rv',settle u'=HK rv'/\K rv' w'.heap
def abZ (A:aj->Prop) (E:iI):Option Value->aj->Prop
 |none,h=>A h
 |some v,h=>E v h
def JW (P:Program) (rs:List ResultVar) (R E:iI):List Deferred->Option Value->Env->aj->Prop
 | [],none,σ,h=>Eo P rs σ h λvs=>R (HA vs) h
 | [],some v,_,h=>E v h
 | [d],rv,σ,h=>(match d.target with
  | .fn (.func g) cap=>(match Ah P g with
   |true=>Cj P g (d.args.toList++cap.toList).toArray rv h (abZ (λh'=>Eo P rs σ h' λvs=>R (HA vs) h') E)
   |false=>False)
  |_=>False)
 |_::_::_,_,_,_=>False
theorem afn {P:Program} {n:Nat} {D:List Deferred} {σ:Env} {a:Act} {h:aj} {fn:Func} {F:Value->Prop} (hr:qO n D σ a) (hh:Eo P fn.results.toList σ h λvs=>F (HA vs)): ∃v,F v/\rd P (results fn a.tmps) h=some v:=
 Ep (a:= { a with defers:= [] }) hr.bare hh
theorem JX {P:Program} {n:Nat} {fn:Func} {R E:iI} {w0:World} {D:List Deferred} {rv:Option Value} {σ:Env} {a:Act} {w:World} (hr:qO n D σ a) (hs:iC w0 w) (h:JW P fn.results.toList R E D rv σ w.heap):
  Leaves P fn a.tmps (λe w'=>iC w0 w'/\((∃v,e=.returned v/\R v w'.heap)\/∃v,e=.panicked (ring v)/\E v w'.heap)) D (HK rv) w:=by
 have fin: ∀(rv:Option Value) (w:World),iC w0 w->(match rv with|none=>Eo P fn.results.toList σ w.heap λvs=>R (HA vs) w.heap|some v=>E v w.heap)->
   Leaves P fn a.tmps (λe w'=>iC w0 w'/\((∃v,e=.returned v/\R v w'.heap)\/∃v,e=.panicked (ring v)/\E v w'.heap)) [] (HK rv) w:=by
  intro rv w hs h;cases rv with
  |none=>
   obtain⟨v,h1,h2⟩:=afn (F:=λv=>R v w.heap) hr h;exact⟨v,BQ _ _ _ h2,hs,.inl ⟨v,rfl,h1⟩⟩
  |some v=>exact⟨hs,.inr ⟨v,rfl,h⟩⟩
 match D,h with
 | [],h=>
  refine fin rv w hs ?_;cases rv<;>exact h
 | [d],h=>
  simp only[JW] at h;split at h
  ·rename_i g cap ht;split at h
   ·rename_i hb;refine⟨by cases rv<;>simp[HK],.func g,cap,g,(d.args.toList++cap.toList).toArray,ht,?_,?_⟩
    ·rw[ht];unfold Ah at hb;split at hb
     ·rename_i f2 hf2;simp only[aW,Bool.not_eq_true'] at hb;have hnb:f2.body.isNone=false:=by cases hq:f2.body<;>simp[hq] at hb⊢
      have e:d.args++cap=(d.args.toList++cap.toList).toArray:=by apply Array.ext';simp
      rw[<-e];refine BQ _ _ _ ?_;simp only[invoke,callFunc];show rd P (match P.funcs[g]? with|none=>_|some fn=>_) w.heap=_;rw[hf2];simp only[hb.2,hnb,aA,aU];rfl
     ·cases hb
    ·intro c cs hu;obtain⟨e,u',w',fr,⟨⟨v,rfl⟩,DC,rv',h1,h2⟩,hc⟩:=h w rfl c cs hu;refine⟨_,u',w',fr,?_,hc⟩;show Leaves P fn a.tmps _ [] (settle u') w';rw[h1];exact fin rv' w' (hs.trans DC) (by cases rv'<;>exact h2)
   ·exact h.elim
  ·exact h.elim
 |_::_::_,h=>exact h.elim
def apV (P:Program) (rs:Array ResultVar) (R E:iI):Exit->List Deferred->Env->aj->Prop
 | .normal,D,σ,h=>JW P rs.toList R E D none σ h
 | .ret,D,σ,h=>JW P rs.toList R E D none σ h
 |_,_,_,_=>False
theorem me {P:Program} {f:FuncId} {fn:Func} {args:List Value} {h:aj} {R E:iI} (Gh:EN) (xN:List Nat)
  (hf:P.funcs[f]? =some fn) (hb:fn.body.isSome=true) (hn:Nat.ble args.length fn.ntmps=true)
  (hd:BH P xN fn.ntmps (λD σ v h=>JW P fn.results.toList R E D (some v) σ h) Gh (Er fn) (apV P fn.results R E) [] (wH args) h):mH P f args.toArray h R E:=by
 obtain⟨c,hc⟩:=gO.1 hb;rw[Er,hc] at hd;intro w hw;subst hw;have hn:=Nat.le_of_ble_eq_true hn;refine calls_of_wp_defers hf hc ?_;have hr:qO fn.ntmps [] (wH args) { tmps:=args.toArray++Array.replicate (fn.ntmps - args.toArray.size) undef,defers:= [] } :=by
  refine⟨by simp;omega,λt v hv=> ?_,rfl⟩;unfold wH at hv;have jc:t<args.length:=(aG.1 hv).1;simp only[gC];rw[eX (by simpa using jc)];simp[hv]
 refine wp_mono (x6 Gh c _ _ _ _ w hr hd) ?_;rintro e a w' ⟨hs,_,⟨D,σ,hr,hq,he⟩|⟨D,σ,v,hr,rfl,hE⟩⟩
 ·cases e with
  |normal=>rw[<-hr.defs] at hq hr;exact JX (rv:=none) hr hs hq
  |ret=>rw[<-hr.defs] at hq hr;exact JX (rv:=none) hr hs hq
  |exit id=>exact hq.elim
  |goto l=>exact hq.elim
  |panic ch=>exact absurd rfl (he ch)
  |outgrown=>exact hq.elim
 ·rw[<-hr.defs] at hE hr;exact JX (rv:=some v) hr hs hE
inductive RS where
 |calm
 |ab0 (v:Value)
 |done (v:Value)
def RS.mode:RS->FrameMode
 | .calm=> .returning
 | .ab0 v=> .panicking (ring v)
 | .done v=> .panicking [{ v,recovered:=true }]
def RS.left:RS->Option Value
 | .ab0 v=>some v
 |_=>none
def RS.of:Option Value->RS
 |none=> .calm
 |some v=> .ab0 v
theorem RS.settle (ρ:RS):settle ρ.mode=HK ρ.left:=by cases ρ<;>rfl
theorem RS.afo (rv:Option Value):(RS.of rv).mode=HK rv:=by cases rv<;>rfl
def isRec (o:Oper):Bool:=match o.op with
 | .call { callee:=.builtin .recover,args:=_,argTypes:=_ } =>true
 |_=>false
theorem aam {P:Program} {o:Oper} {ρ:Operand->Value} {w:World} (h:isRec o=true):(execOp ρ o).run P w=.ok .recover w:=by
 unfold isRec at h;split at h
 ·rename_i ho;unfold execOp;rw[ho];rfl
 ·cases h
def Uk (P:Program) (o:Oper) (σ:Env) (h:aj) (K:iI):Prop:=
 match o.op with
 | .typeAssert x xT aT ok=>(match σ.ev x with
  |some v=>aX P (Instr.typeAssert v xT aT ok) h K
  |none=>False)
 |_=>Hr P o σ h K
theorem aan {P:Program} {o:Oper} {σ:Env} {ρ:Operand->Value} {h:aj} {K:iI} (hf:Fits σ ρ) (hh:Uk P o σ h K):BR P o ρ h K:=by
 unfold Uk at hh;split at hh
 ·rename_i x xT aT ok ho;split at hh
  ·rename_i v hv;unfold BR execOp;rw[ho];simp only[hf _ _ hv];rw[eZ];exact hh
  ·exact hh.elim
 ·exact yY hf hh
def pL (P:Program) (n:Nat) (ops:Array Oper) (ty:List (Nat×Sh)):List Oper->RS->Env->aj->(RS->Env->aj->Prop)->Prop
 | [],ρ,σ,h,K=>K ρ σ h
 |o::rest,ρ,σ,h,K=>(match isRec o with
  |true=>pB ops o σ
   (λσ=>(match ρ with
    | .ab0 v=>nL n σ o.dst v λcT=>pL P n ops ty rest (.done v) cT h K
    | .calm=>nL n σ o.dst .nilIface λcT=>pL P n ops ty rest .calm cT h K
    | .done v=>nL n σ o.dst .nilIface λcT=>pL P n ops ty rest (.done v) cT h K))
   (λσ=>nL n σ o.dst undef λcT=>pL P n ops ty rest ρ cT h K)
  |false=>pB ops o σ
   (λσ=>Uk P o σ h λv h'=>Q0 ty o.dst v λv=>nL n σ o.dst v λcT=>pL P n ops ty rest ρ cT h' K)
   (λσ=>nL n σ o.dst undef λcT=>pL P n ops ty rest ρ cT h K))
def upS (n:Nat) (a0:Act) (w0:World) (W:List Nat) (c0:Frame) (cs0:List Frame) (Q:Exit->RS->Env->aj->Prop):Exit->Act->List Frame->World->Prop:=
 λe a cs w=> ∃ρ σ,cs= { c0 with mode:=ρ.mode } ::cs0/\Rel n σ a/\Q e ρ σ w.heap/\iC w0 w/\hY W a0 a
def ab1 (K:RS->Env->aj->Prop):Exit->RS->Env->aj->Prop
 | .normal=>K
 |_=>λ_ _ _=>False
theorem JY {P:Program} {n:Nat} {ops:Array Oper} {ty:List (Nat×Sh)} {K:RS->Env->aj->Prop} {a0:Act} {w0:World} {c0:Frame} {cs0:List Frame} : ∀(rest:List Oper) (k:Nat) (ρ:RS) (σ:Env) (a:Act) (w:World),
  (∀j,rest[j]? =ops[k+j]?)->Rel n σ a->iC w0 w->hY (cR ops) a0 a->pL P n ops ty rest ρ σ w.heap K->wpOpsS P ops (upS n a0 w0 (cR ops) c0 cs0 (ab1 K)) (List.range' k rest.length) a ({ c0 with mode:=ρ.mode } ::cs0) w
 | [],k,ρ,σ,a,w,_,hr,hs,hu,h=>⟨ρ,σ,rfl,hr,h,hs,hu⟩
 |o::rest,k,ρ,σ,a,w,hj,hr,hs,hu,h=>by
  have h0:ops[k]? =some o:=by have:=hj 0;simpa using this.symm
  have OI: ∀j,rest[j]? =ops[k+1+j]? :=λj=>by have:=hj (j+1);simpa[Nat.add_assoc,Nat.add_comm 1 j] using this
  simp only[bj,List.range'_succ,wpOpsS,h0];unfold pL at h;have next: ∀ {cT:Env} {v:Value} {QM:RS} {w':World},iC w w'->Rel n cT a->(nL n cT o.dst v λcT=>pL P n ops ty rest QM cT w'.heap K)->
    wpOpsS P ops (upS n a0 w0 (cR ops) c0 cs0 (ab1 K)) (List.range' (k+1) rest.length) (a.put o.dst v) ({ c0 with mode:=QM.mode } ::cs0) w':=by
   intro cT v QM w' DC gA h;obtain⟨tR,pJ,h1⟩:=oJ gA h;exact JY rest (k+1) QM tR _ w' OI pJ (hs.trans DC) (hu.trans (hY.put (fW h0))) h1
  split at h
  ·rename_i apW;rcases qC hr h with⟨hw,cT,gA,h⟩|⟨hw,cT,gA,h⟩
   ·rw[ag hw,aam apW];cases ρ with
    |calm=>exact next (QM:=.calm) (iC.refl w) gA h
    |ab0 v=>exact next (QM:=.done v) (iC.refl w) gA h
    |done v=>exact next (QM:=.done v) (iC.refl w) gA h
   ·rw[ai (by rw[hw];simp)];exact next (iC.refl w) gA h
  ·rcases qC hr h with⟨hw,cT,gA,h⟩|⟨hw,cT,gA,h⟩
   ·rw[ag hw];obtain⟨x,w',r1,r2,r3⟩:=Ag _ _ _ (aan gA.fits h) w rfl;rw[r1];cases x with
    |value v=>exact next r3 gA (BY (F:=λv=>nL n cT o.dst v λcT=>pL P n ops ty rest ρ cT w'.heap K) r2)
    |skip=>exact next r3 gA (BY (F:=λv=>nL n cT o.dst v λcT=>pL P n ops ty rest ρ cT w'.heap K) r2)
    |enter f args=>
     refine(r2 w' rfl).mono ?_;rintro e w'' ⟨v,rfl,hR,DC⟩;exact next (r3.trans DC) gA (BY hR)
    |_=>exact r2.elim
   ·rw[ai (by rw[hw];simp)];exact next (iC.refl w) gA h
def thenS (K:RS->Env->aj->Prop) (Q:Exit->RS->Env->aj->Prop):Exit->RS->Env->aj->Prop
 | .normal=>K
 |e=>Q e
def Ul (P:Program) (n:Nat):EN->Code->(Exit->RS->Env->aj->Prop)->RS->Env->aj->Prop
 | .seq a b,c,Q,ρ,σ,h=>(match c with
  | .seq c d=>Ul P n a c (thenS (λQM cT h'=>Ul P n b d Q QM cT h') Q) ρ σ h
  |_=>False)
 | .typed ty,c,Q,ρ,σ,h=>(match c with
  | .region _ ops false=>pL P n ops ty ops.toList ρ σ h (Q .normal)
  |_=>False)
 | .leaf,c,Q,ρ,σ,h=>(match c with
  | .region _ ops false=>pL P n ops [] ops.toList ρ σ h (Q .normal)
  |c=>den P n .leaf none c (λe cT h'=>Q e ρ cT h') σ h)
 |Gh,c,Q,ρ,σ,h=>den P n Gh none c (λe cT h'=>Q e ρ cT h') σ h
theorem afp {P:Program} {n:Nat} {c0:Frame} {cs0:List Frame} : ∀(Gh:EN) (c:Code) (Q:Exit->RS->Env->aj->Prop) (ρ:RS) (σ:Env) (a:Act) (w:World),Rel n σ a->Ul P n Gh c Q ρ σ w.heap->
  c.wpS P (upS n a w (writes c) c0 cs0 Q) a ({ c0 with mode:=ρ.mode } ::cs0) w:=by
 have mono: ∀ {c:Code} {Q Q':Exit->Act->List Frame->World->Prop} {a:Act} {cs:List Frame} {w:World},c.wpS P Q a cs w->(∀e a cs w,Q e a cs w->Q' e a cs w)->c.wpS P Q' a cs w:=
  λh hq b k hb hr=>let ⟨e,a',Iv,w',q,r⟩:=h b k hb hr;⟨e,a',Iv,w',hq _ _ _ _ q,r⟩
 have plain: ∀(Gh:EN) (c:Code) (Q:Exit->RS->Env->aj->Prop) (ρ:RS) (σ:Env) (a:Act) (w:World),Rel n σ a->den P n Gh none c (λe cT h'=>Q e ρ cT h') σ w.heap->
   c.wpS P (upS n a w (writes c) c0 cs0 Q) a ({ c0 with mode:=ρ.mode } ::cs0) w:=λGh c Q ρ σ a w hr h=>
  wpS_of_wp (wp_mono (sR Gh none c _ σ a w hr h).wp λe a' w' ⟨cT,h1,h2,h3,h4⟩=>⟨ρ,cT,rfl,h1,h2,h3,h4⟩)
 have region: ∀(id:Nat) (ops:Array Oper) (ty:List (Nat×Sh)) (Q:Exit->RS->Env->aj->Prop) (ρ:RS) (σ:Env) (a:Act) (w:World),Rel n σ a->pL P n ops ty ops.toList ρ σ w.heap (Q .normal)->
   (Code.region id ops false).wpS P (upS n a w (cR ops) c0 cs0 Q) a ({ c0 with mode:=ρ.mode } ::cs0) w:=λid ops ty Q ρ σ a w hr h=>by
  refine mono (wpS_region (Q:=upS n a w (cR ops) c0 cs0 (ab1 (Q .normal))) ?_) ?_
  ·have:=JY (c0:=c0) (cs0:=cs0) (a0:=a) (w0:=w) ops.toList 0 ρ σ a w (by simp) hr (iC.refl w) (hY.refl _ _) h;rw[iM];rw[fT] at this;exact this
  ·rintro e a' Iv w' ⟨QM,cT,h1,h2,h3,h4⟩;cases e with
   |normal=>exact⟨QM,cT,h1,h2,h3,h4⟩
   |_=>exact h3.elim
 intro Gh;induction Gh with
 |seq x y ihx ihy=>
  intro c Q ρ σ a w hr h;unfold Ul at h;split at h
  ·rename_i c d;have hW: ∀t,t∈writes c->t∈writes (.seq c d):=λt ht=>fJ _ ht
   refine wpS_seq (mono (ihx c _ ρ σ a w hr h) ?_);rintro e a' Iv w' ⟨QM,cT,rfl,gA,hq,hs,hu⟩;cases e with
   |normal=>
    refine mono (ihy d Q QM cT a' w' gA hq) ?_;rintro e2 a2 cs2 w2 ⟨ρ2,σ2,h1,hr2,Gw,hs2,hu2⟩;exact⟨ρ2,σ2,h1,hr2,Gw,hs.trans hs2,(hu.mono hW).trans (hu2.mono λt ht=>fZ _ ht)⟩
   |exit id=>exact⟨QM,cT,rfl,gA,hq,hs,hu.mono hW⟩
   |goto l=>exact⟨QM,cT,rfl,gA,hq,hs,hu.mono hW⟩
   |ret=>exact⟨QM,cT,rfl,gA,hq,hs,hu.mono hW⟩
   |panic ch=>exact⟨QM,cT,rfl,gA,hq,hs,hu.mono hW⟩
   |outgrown=>exact⟨QM,cT,rfl,gA,hq,hs,hu.mono hW⟩
  ·exact h.elim
 |typed ty=>
  intro c Q ρ σ a w hr h;unfold Ul at h;split at h
  ·exact region _ _ ty Q ρ σ a w hr h
  ·exact h.elim
 |leaf=>
  intro c Q ρ σ a w hr h;unfold Ul at h;split at h
  ·exact region _ _ [] Q ρ σ a w hr h
  ·exact plain .leaf c Q ρ σ a w hr h
 |cond x y=>exact λc Q ρ σ a w hr h=>plain _ c Q ρ σ a w hr h
 |block x=>exact λc Q ρ σ a w hr h=>plain _ c Q ρ σ a w hr h
 |loop L x=>exact λc Q ρ σ a w hr h=>plain _ c Q ρ σ a w hr h
 |join L x=>exact λc Q ρ σ a w hr h=>plain _ c Q ρ σ a w hr h
 |mB p=>exact λc Q ρ σ a w hr h=>plain _ c Q ρ σ a w hr h
 |qW p=>exact λc Q ρ σ a w hr h=>plain _ c Q ρ σ a w hr h
 |scope z L x y=>exact λc Q ρ σ a w hr h=>plain _ c Q ρ σ a w hr h
def apX (P:Program) (rs:Array ResultVar) (K:Option Value->aj->Prop):Exit->RS->Env->aj->Prop
 | .normal,ρ,σ,h=>Eo P rs.toList σ h λ_=>K ρ.left h
 | .ret,ρ,σ,h=>Eo P rs.toList σ h λ_=>K ρ.left h
 |_,_,_,_=>False
theorem Ck {P:Program} {f:FuncId} {fn:Func} {args:List Value} {rv:Option Value} {h:aj} {K:Option Value->aj->Prop} (Gh:EN)
  (hf:P.funcs[f]? =some fn) (hb:fn.body.isSome=true) (hn:Nat.ble args.length fn.ntmps=true)
  (hd:Ul P fn.ntmps Gh (Er fn) (apX P fn.results K) (RS.of rv) (wH args) h):Cj P f args.toArray rv h K:=by
 obtain⟨c,hc⟩:=gO.1 hb;rw[Er,hc] at hd;intro w hw;subst hw;have hn:=Nat.le_of_ble_eq_true hn;refine callsD_of_wpS hf hc λc0 cs hm=> ?_
 have e0:c0= { c0 with mode:=(RS.of rv).mode } :=by rw[RS.afo,<-hm]
 have hr:Rel fn.ntmps (wH args) { tmps:=args.toArray++Array.replicate (fn.ntmps - args.toArray.size) undef,defers:= [] } :=by
  refine⟨rfl,by simp;omega,λt v hv=> ?_⟩;unfold wH at hv;have jc:t<args.length:=(aG.1 hv).1;simp only[gC];rw[eX (by simpa using jc)];simp[hv]
 have key:=afp (c0:=c0) (cs0:=cs) Gh c _ (RS.of rv) _ _ w hr hd;rw[<-e0] at key;intro b k hb hro;obtain⟨e,a',Iv,w',⟨ρ,σ,rfl,gA,hq,hs,_⟩,qX⟩:=key b k hb hro;refine⟨e,a',_,w',?_,qX⟩;have fin:(Eo P fn.results.toList σ w'.heap λ_=>K ρ.left w'.heap)->a'.defers= []/\∃u',({ c0 with mode:=ρ.mode } ::cs:List Frame)= { c0 with mode:=u' } ::cs/\∃v,(results fn a'.tmps).run P w'=.ok v w'/\(∃v',Ending.returned v=.returned v')/\iC w w'/\∃rv',Go.settle u'=HK rv'/\K rv' w'.heap:=λhh=>by
  obtain⟨v,h1,h2⟩:=Ep (F:=λ_=>K ρ.left w'.heap) gA hh;exact⟨gA.defers,ρ.mode,rfl,v,BQ _ _ _ h2,⟨v,rfl⟩,hs,ρ.left,RS.settle ρ,h1⟩
 cases e with
 |normal=>exact fin hq
 |ret=>exact fin hq
 |exit id=>exact hq.elim
 |goto l=>exact hq.elim
 |panic ch=>exact hq.elim
 |outgrown=>exact hq.elim
end Go.Den
namespace Go.Proofs.YtlenamcfacpheaaGreatDoor
open Go.Den
open IntKind (wrap)
open Int (toNat)
abbrev Cl:=wD Tryz.prog
namespace F
abbrev rX:Nat:=3
abbrev wu:Nat:=8
abbrev ur:Nat:=9
abbrev sy:Nat:=10
abbrev qb:Nat:=11
abbrev gH:Nat:=12
abbrev mI:Nat:=13
abbrev jA:Nat:=14
abbrev nR:Nat:=15
abbrev lS:Nat:=16
abbrev kX:Nat:=17
abbrev mQ:Nat:=28
abbrev pj:Nat:=29
abbrev wP:Nat:=30
abbrev wv:Nat:=33
abbrev y9:Nat:=34
abbrev sV:Nat:=35
abbrev Cn:Nat:=36
abbrev wQ:Nat:=37
abbrev wR:Nat:=38
abbrev mf:Nat:=39
abbrev mR:Nat:=40
abbrev kN:Nat:=41
abbrev kY:Nat:=42
abbrev wS:Nat:=43
abbrev sW:Nat:=44
abbrev uT:Nat:=45
abbrev iT:Nat:=46
abbrev gv:Nat:=47
abbrev rh:Nat:=48
abbrev jL:Nat:=49
abbrev cu:Nat:=50
abbrev kO:Nat:=51
abbrev jW:Nat:=52
abbrev mS:Nat:=53
abbrev oU:Nat:=54
abbrev jq:Nat:=55
abbrev mK:Nat:=56
abbrev qD:Nat:=58
abbrev wT:Nat:=65
abbrev jB:Nat:=66
abbrev kZ:Nat:=67
abbrev jr:Nat:=68
abbrev jM:Nat:=70
abbrev mg:Nat:=71
abbrev iV:Nat:=72
abbrev nO:Nat:=73
abbrev gP:Nat:=74
abbrev gk:Nat:=78
abbrev rj:Nat:=79
abbrev sX:Nat:=80
abbrev uV:Nat:=81
abbrev ke:Nat:=82
abbrev kC:Nat:=86
abbrev uu:Nat:=87
abbrev pk:Nat:=88
abbrev bO:Nat:=89
abbrev gG:Nat:=90
abbrev uW:Nat:=91
abbrev iW:Nat:=92
abbrev jC:Nat:=93
abbrev mh:Nat:=94
abbrev mT:Nat:=95
abbrev sC:Nat:=96
abbrev qc:Nat:=97
abbrev mU:Nat:=98
abbrev mV:Nat:=99
abbrev mW:Nat:=100
abbrev qe:Nat:=101
abbrev mi:Nat:=102
abbrev mj:Nat:=103
abbrev ml:Nat:=104
abbrev qh:Nat:=105
abbrev rk:Nat:=106
abbrev kf:Nat:=107
abbrev oV:Nat:=108
abbrev dh:Nat:=109
abbrev dJ:Nat:=110
abbrev dB:Nat:=111
abbrev ir:Nat:=112
abbrev fP:Nat:=113
abbrev lT:Nat:=114
abbrev gn:Nat:=115
abbrev gp:Nat:=116
abbrev mq:Nat:=117
abbrev iO:Nat:=118
abbrev iU:Nat:=119
abbrev kF:Nat:=120
abbrev nT:Nat:=121
abbrev mL:Nat:=122
abbrev kP:Nat:=123
abbrev wU:Nat:=124
abbrev sY:Nat:=125
abbrev jN:Nat:=130
abbrev ab2:Nat:=133
abbrev tY:Nat:=134
abbrev Co:Nat:=136
abbrev jD:Nat:=139
abbrev pn:Nat:=142
abbrev jX:Nat:=143
abbrev iX:Nat:=144
abbrev kg:Nat:=145
abbrev sZ:Nat:=146
abbrev wV:Nat:=147
abbrev nU:Nat:=148
abbrev pq:Nat:=149
abbrev kh:Nat:=150
abbrev px:Nat:=151
abbrev mX:Nat:=152
abbrev cv:Nat:=153
abbrev gw:Nat:=154
abbrev mM:Nat:=155
abbrev iG:Nat:=156
abbrev sD:Nat:=157
abbrev qi:Nat:=158
abbrev nV:Nat:=159
abbrev lU:Nat:=160
abbrev nW:Nat:=161
abbrev dM:Nat:=162
abbrev jO:Nat:=163
abbrev qj:Nat:=164
abbrev kG:Nat:=165
abbrev kj:Nat:=166
abbrev lg:Nat:=167
abbrev dN:Nat:=168
abbrev nY:Nat:=169
abbrev oD:Nat:=170
abbrev lV:Nat:=171
abbrev fa:Nat:=172
abbrev iY:Nat:=173
abbrev nZ:Nat:=174
abbrev sE:Nat:=175
abbrev tb:Nat:=176
abbrev nm:Nat:=177
abbrev mr:Nat:=178
abbrev sF:Nat:=179
abbrev iZ:Nat:=187
abbrev jE:Nat:=188
abbrev lW:Nat:=189
abbrev oa:Nat:=190
abbrev oW:Nat:=191
abbrev od:Nat:=192
abbrev uv:Nat:=193
abbrev tc:Nat:=194
abbrev wW:Nat:=195
abbrev qE:Nat:=196
abbrev nt:Nat:=197
abbrev hZ:Nat:=198
abbrev ft:Nat:=199
abbrev te:Nat:=200
abbrev tf:Nat:=201
abbrev rq:Nat:=202
abbrev uw:Nat:=203
abbrev oE:Nat:=204
abbrev fH:Nat:=205
abbrev qF:Nat:=206
abbrev oM:Nat:=207
abbrev uX:Nat:=208
abbrev py:Nat:=209
abbrev qk:Nat:=210
abbrev kk:Nat:=237
abbrev uY:Nat:=238
abbrev oh:Nat:=239
abbrev qm:Nat:=240
abbrev lX:Nat:=241
abbrev lM:Nat:=242
abbrev ig:Nat:=243
abbrev qG:Nat:=244
abbrev th:Nat:=245
abbrev oN:Nat:=246
abbrev fN:Nat:=247
abbrev iB:Nat:=248
abbrev tj:Nat:=249
abbrev gS:Nat:=250
abbrev km:Nat:=251
abbrev qo:Nat:=252
abbrev za:Nat:=253
abbrev wX:Nat:=254
abbrev zc:Nat:=255
abbrev jF:Nat:=256
abbrev om:Nat:=257
abbrev dZ:Nat:=258
abbrev pz:Nat:=259
abbrev wx:Nat:=260
abbrev wY:Nat:=261
abbrev tn:Nat:=280
abbrev jY:Nat:=281
abbrev jd:Nat:=282
abbrev lY:Nat:=283
abbrev jZ:Nat:=284
abbrev mN:Nat:=285
abbrev rB:Nat:=286
abbrev uZ:Nat:=287
abbrev mY:Nat:=288
abbrev di:Nat:=289
abbrev tp:Nat:=290
abbrev ux:Nat:=291
abbrev iu:Nat:=292
abbrev sa:Nat:=293
abbrev gx:Nat:=294
abbrev fR:Nat:=295
abbrev wZ:Nat:=296
abbrev ze:Nat:=297
abbrev Cq:Nat:=298
abbrev w4:Nat:=299
abbrev zh:Nat:=300
abbrev sH:Nat:=301
abbrev wy:Nat:=309
abbrev lZ:Nat:=310
abbrev jG:Nat:=311
abbrev strings_CutPrefix:Nat:=312
abbrev strings_Cut:Nat:=313
abbrev rC:Nat:=314
abbrev zj:Nat:=315
abbrev jm:Nat:=316
abbrev qH:Nat:=317
abbrev u0:Nat:=323
abbrev dC:Nat:=324
abbrev w5:Nat:=327
end F
namespace T
abbrev JZ:Nat:=0
abbrev int:Nat:=3
abbrev bool:Nat:=4
abbrev uint8:Nat:=5
abbrev st7:Nat:=7
abbrev string:Nat:=9
abbrev dt:Nat:=22
abbrev uy:Nat:=24
abbrev uint64:Nat:=27
abbrev az:Nat:=29
abbrev mw:Nat:=36
abbrev sI:Nat:=41
abbrev aq:Nat:=44
abbrev aD:Nat:=47
abbrev gE:Nat:=50
abbrev zp:Nat:=64
abbrev iw:Nat:=74
abbrev ij:Nat:=76
abbrev ff:Nat:=86
abbrev ko:Nat:=88
abbrev w6:Nat:=90
abbrev sc:Nat:=91
abbrev bN:Nat:=98
abbrev Fc:Nat:=105
abbrev cY:Nat:=107
abbrev lB:Nat:=110
abbrev Ma:Nat:=111
abbrev aJ:Nat:=114
abbrev aM:Nat:=119
abbrev ah:Nat:=124
abbrev aC:Nat:=126
abbrev lO:Nat:=127
abbrev aw:Nat:=129
abbrev bH:Nat:=136
abbrev w8:Nat:=145
abbrev bF:Nat:=161
abbrev HL:Nat:=166
abbrev jI:Nat:=167
abbrev HM:Nat:=169
abbrev gZ:Nat:=170
abbrev Ex:Nat:=172
abbrev ny:Nat:=189
abbrev Cr:Nat:=191
abbrev du:Nat:=193
abbrev aE:Nat:=201
abbrev yJ:Nat:=209
abbrev DS:Nat:=221
abbrev rD:Nat:=242
abbrev cE:Nat:=260
abbrev aa:Nat:=262
abbrev bW:Nat:=287
abbrev oO:Nat:=331
abbrev qp:Nat:=335
abbrev Cs:Nat:=345
abbrev bg:Nat:=360
abbrev J0:Nat:=419
abbrev gB:Nat:=421
abbrev oX:Nat:=422
end T
abbrev Ce:=mH Tryz.prog
abbrev Um:List Nat:= [F.ig,F.jY,F.jd,F.lY,F.jZ,F.jG]
abbrev gE.LD (h:aj) (a:Addr) (K:Int->Int->Int->Int->Int->Int->Prop):Prop:= ∃(t0:Int),ak h a=some (.int .i64 t0)/\∃(t1:Int),ak h (a.add 1)=some (.int .i64 t1)/\∃(t2:Int),ak h (a.add 2)=some (.int .i64 t2)/\∃(t3:Int),ak h (a.add 3)=some (.int .i64 t3)/\∃(t4:Int),ak h (a.add 4)=some (.int .i64 t4)/\∃(t5:Int),ak h (a.add 5)=some (.int .i64 t5)/\K t0 t1 t2 t3 t4 t5
abbrev gE.ST (h:aj) (a:Addr) (f0:Int) (f1:Int) (f2:Int) (f3:Int) (f4:Int) (f5:Int) (K:aj->Prop):Prop:=aH h a (.int .i64 f0) λaR=>aH aR (a.add 1) (.int .i64 f1) λaZ=>aH aZ (a.add 2) (.int .i64 f2) λbJ=>aH bJ (a.add 3) (.int .i64 f3) λcB=>aH cB (a.add 4) (.int .i64 f4) λcJ=>aH cJ (a.add 5) (.int .i64 f5) λcQ=>K cQ
abbrev aa.LD (h:aj) (a:Addr) (K:Int->Int->bU->Nat->Nat->bU->Nat->Nat->Prop):Prop:= ∃(t0:Int),ak h a=some (.int .i64 t0)/\∃(t1:Int),ak h (a.add 1)=some (.int .u64 t1)/\∃(TG:bU) (TH TI:Nat),ak h (a.add 2)=some (.slice TG TH TI)/\∃(t3p:bU) (t3l t3c:Nat),ak h (a.add 3)=some (.slice t3p t3l t3c)/\K t0 t1 TG TH TI t3p t3l t3c
abbrev aa.ST (h:aj) (a:Addr) (f0:Int) (f1:Int) (tT:bU) (tS tV:Nat) (BN:bU) (xO Ax:Nat) (K:aj->Prop):Prop:=aH h a (.int .i64 f0) λaR=>aH aR (a.add 1) (.int .u64 f1) λaZ=>aH aZ (a.add 2) (.slice tT tS tV) λbJ=>aH bJ (a.add 3) (.slice BN xO Ax) λcB=>K cB
abbrev aJ.LD (h:aj) (a:Addr) (K:Int->Bool->Int->Int->ByteArray->ByteArray->bU->Nat->Nat->Int->Int->Int->Prop):Prop:= ∃(t0:Int),ak h a=some (.int .i64 t0)/\∃(t1:Bool),ak h (a.add 1)=some (.bool t1)/\∃(t2:Int),ak h (a.add 2)=some (.int .u64 t2)/\∃(t3:Int),ak h (a.add 3)=some (.int .u64 t3)/\∃(t4:ByteArray),ak h (a.add 4)=some (.string t4)/\∃(t5:ByteArray),ak h (a.add 5)=some (.string t5)/\∃(t6p:bU) (t6l t6c:Nat),ak h (a.add 6)=some (.slice t6p t6l t6c)/\∃(t7:Int),ak h (a.add 7)=some (.int .u64 t7)/\∃(t8:Int),ak h (a.add 8)=some (.int .i64 t8)/\∃(t9:Int),ak h (a.add 9)=some (.int .u64 t9)/\K t0 t1 t2 t3 t4 t5 t6p t6l t6c t7 t8 t9
abbrev aJ.ST (h:aj) (a:Addr) (f0:Int) (f1:Bool) (f2:Int) (f3:Int) (f4:ByteArray) (f5:ByteArray) (IA:bU) (IB IC:Nat) (f7:Int) (f8:Int) (f9:Int) (K:aj->Prop):Prop:=aH h a (.int .i64 f0) λaR=>aH aR (a.add 1) (.bool f1) λaZ=>aH aZ (a.add 2) (.int .u64 f2) λbJ=>aH bJ (a.add 3) (.int .u64 f3) λcB=>aH cB (a.add 4) (.string f4) λcJ=>aH cJ (a.add 5) (.string f5) λcQ=>aH cQ (a.add 6) (.slice IA IB IC) λcW=>aH cW (a.add 7) (.int .u64 f7) λdA=>aH dA (a.add 8) (.int .i64 f8) λfc=>aH fc (a.add 9) (.int .u64 f9) λcP=>K cP
abbrev az.LD (h:aj) (a:Addr) (K:Bool->Int->Int->ByteArray->ByteArray->Prop):Prop:= ∃(t0:Bool),ak h a=some (.bool t0)/\∃(t1:Int),ak h (a.add 1)=some (.int .u64 t1)/\∃(t2:Int),ak h (a.add 2)=some (.int .u64 t2)/\∃(t3:ByteArray),ak h (a.add 3)=some (.string t3)/\∃(t4:ByteArray),ak h (a.add 4)=some (.string t4)/\K t0 t1 t2 t3 t4
abbrev bg.LD (h:aj) (a:Addr) (K:Int->Int->Bool->Prop):Prop:= ∃(t0:Int),ak h a=some (.int .i64 t0)/\∃(t1:Int),ak h (a.add 1)=some (.int .u64 t1)/\∃(t2:Bool),ak h (a.add 2)=some (.bool t2)/\K t0 t1 t2
abbrev bg.ST (h:aj) (a:Addr) (f0:Int) (f1:Int) (f2:Bool) (K:aj->Prop):Prop:=aH h a (.int .i64 f0) λaR=>aH aR (a.add 1) (.int .u64 f1) λaZ=>aH aZ (a.add 2) (.bool f2) λbJ=>K bJ
abbrev ah.LD (h:aj) (a:Addr) (K:Bool->Int->Int->ByteArray->ByteArray->Int->Int->Prop):Prop:= ∃(t0:Bool),ak h a=some (.bool t0)/\∃(t1:Int),ak h (a.add 1)=some (.int .u64 t1)/\∃(t2:Int),ak h (a.add 2)=some (.int .u64 t2)/\∃(t3:ByteArray),ak h (a.add 3)=some (.string t3)/\∃(t4:ByteArray),ak h (a.add 4)=some (.string t4)/\∃(t5:Int),ak h (a.add 5)=some (.int .u64 t5)/\∃(t6:Int),ak h (a.add 6)=some (.int .u64 t6)/\K t0 t1 t2 t3 t4 t5 t6
abbrev ah.ST (h:aj) (a:Addr) (f0:Bool) (f1:Int) (f2:Int) (f3:ByteArray) (f4:ByteArray) (f5:Int) (f6:Int) (K:aj->Prop):Prop:=aH h a (.bool f0) λaR=>aH aR (a.add 1) (.int .u64 f1) λaZ=>aH aZ (a.add 2) (.int .u64 f2) λbJ=>aH bJ (a.add 3) (.string f3) λcB=>aH cB (a.add 4) (.string f4) λcJ=>aH cJ (a.add 5) (.int .u64 f5) λcQ=>aH cQ (a.add 6) (.int .u64 f6) λcW=>K cW
abbrev aM.LD (h:aj) (a:Addr) (K:Int->Int->bU->Nat->Nat->Int->Prop):Prop:= ∃(t0:Int),ak h a=some (.int .i64 t0)/\∃(t1:Int),ak h (a.add 1)=some (.int .i64 t1)/\∃(TG:bU) (TH TI:Nat),ak h (a.add 2)=some (.slice TG TH TI)/\∃(t3:Int),ak h (a.add 3)=some (.int .u64 t3)/\K t0 t1 TG TH TI t3
abbrev aM.ST (h:aj) (a:Addr) (f0:Int) (f1:Int) (tT:bU) (tS tV:Nat) (f3:Int) (K:aj->Prop):Prop:=aH h a (.int .i64 f0) λaR=>aH aR (a.add 1) (.int .i64 f1) λaZ=>aH aZ (a.add 2) (.slice tT tS tV) λbJ=>aH bJ (a.add 3) (.int .u64 f3) λcB=>K cB
abbrev bH.LD (h:aj) (a:Addr) (K:Bool->Int->Int->ByteArray->ByteArray->Int->Int->Prop):Prop:= ∃(t0:Bool),ak h a=some (.bool t0)/\∃(t1:Int),ak h (a.add 1)=some (.int .u64 t1)/\∃(t2:Int),ak h (a.add 2)=some (.int .u64 t2)/\∃(t3:ByteArray),ak h (a.add 3)=some (.string t3)/\∃(t4:ByteArray),ak h (a.add 4)=some (.string t4)/\∃(t5:Int),ak h (a.add 5)=some (.int .i64 t5)/\∃(t6:Int),ak h (a.add 6)=some (.int .i64 t6)/\K t0 t1 t2 t3 t4 t5 t6
abbrev bH.ST (h:aj) (a:Addr) (f0:Bool) (f1:Int) (f2:Int) (f3:ByteArray) (f4:ByteArray) (f5:Int) (f6:Int) (K:aj->Prop):Prop:=aH h a (.bool f0) λaR=>aH aR (a.add 1) (.int .u64 f1) λaZ=>aH aZ (a.add 2) (.int .u64 f2) λbJ=>aH bJ (a.add 3) (.string f3) λcB=>aH cB (a.add 4) (.string f4) λcJ=>aH cJ (a.add 5) (.int .i64 f5) λcQ=>aH cQ (a.add 6) (.int .i64 f6) λcW=>K cW
abbrev aq.LD (h:aj) (a:Addr) (K:Int->Int->Int->Int->Int->bU->Nat->Nat->Prop):Prop:= ∃(t0:Int),ak h a=some (.int .u64 t0)/\∃(t1:Int),ak h (a.add 1)=some (.int .i64 t1)/\∃(t2:Int),ak h (a.add 2)=some (.int .i64 t2)/\∃(t3:Int),ak h (a.add 3)=some (.int .i64 t3)/\∃(t4:Int),ak h (a.add 4)=some (.int .u64 t4)/\∃(t5p:bU) (t5l t5c:Nat),ak h (a.add 5)=some (.slice t5p t5l t5c)/\K t0 t1 t2 t3 t4 t5p t5l t5c
abbrev aq.ST (h:aj) (a:Addr) (f0:Int) (f1:Int) (f2:Int) (f3:Int) (f4:Int) (DT:bU) (f5l DU:Nat) (K:aj->Prop):Prop:=aH h a (.int .u64 f0) λaR=>aH aR (a.add 1) (.int .i64 f1) λaZ=>aH aZ (a.add 2) (.int .i64 f2) λbJ=>aH bJ (a.add 3) (.int .i64 f3) λcB=>aH cB (a.add 4) (.int .u64 f4) λcJ=>aH cJ (a.add 5) (.slice DT f5l DU) λcQ=>K cQ
abbrev bF.LD (h:aj) (a:Addr) (K:Int->bU->Nat->Nat->Prop):Prop:= ∃(t0:Int),ak h a=some (.int .u64 t0)/\∃(t1p:bU) (t1l t1c:Nat),ak h (a.add 1)=some (.slice t1p t1l t1c)/\K t0 t1p t1l t1c
abbrev bF.ST (h:aj) (a:Addr) (f0:Int) (TJ:bU) (TK TL:Nat) (K:aj->Prop):Prop:=aH h a (.int .u64 f0) λaR=>aH aR (a.add 1) (.slice TJ TK TL) λaZ=>K aZ
structure gT.S where
 f0:Int
 f1:Int
 f2:Bool
 f3:Int
 f4:Int
 f5:ByteArray
 f6:ByteArray
 f7:Bool
 f8:Int
 f9:Int
 f10:ByteArray
 f11:ByteArray
 f12:Bool
 f13:Int
 f14:Int
 f15:ByteArray
 f16:ByteArray
 f17:Int
 f18:Int
 f19:Int
 Ru:bU
 Mb:Nat
 Rv:Nat
 f21:bU
 ajH:bU
 ajI:Nat
 ajJ:Nat
abbrev gT.S.l (x:gT.S):List Value:= [.int .u64 x.f0,.int .i64 x.f1,.bool x.f2,.int .u64 x.f3,.int .u64 x.f4,.string x.f5,.string x.f6,.bool x.f7,.int .u64 x.f8,.int .u64 x.f9,.string x.f10,.string x.f11,.bool x.f12,.int .u64 x.f13,.int .u64 x.f14,.string x.f15,.string x.f16,.int .u64 x.f17,.int .u64 x.f18,.int .u64 x.f19,.slice x.Ru x.Mb x.Rv,.pointer x.f21,.slice x.ajH x.ajI x.ajJ]
abbrev gT.S.arr (x:gT.S):Array Value:= #[.int .u64 x.f0,.int .i64 x.f1,.bool x.f2,.int .u64 x.f3,.int .u64 x.f4,.string x.f5,.string x.f6,.bool x.f7,.int .u64 x.f8,.int .u64 x.f9,.string x.f10,.string x.f11,.bool x.f12,.int .u64 x.f13,.int .u64 x.f14,.string x.f15,.string x.f16,.int .u64 x.f17,.int .u64 x.f18,.int .u64 x.f19,.slice x.Ru x.Mb x.Rv,.pointer x.f21,.slice x.ajH x.ajI x.ajJ]
abbrev gT.S.agg (x:gT.S):Value:=.agg #[.int .u64 x.f0,.int .i64 x.f1,.bool x.f2,.int .u64 x.f3,.int .u64 x.f4,.string x.f5,.string x.f6,.bool x.f7,.int .u64 x.f8,.int .u64 x.f9,.string x.f10,.string x.f11,.bool x.f12,.int .u64 x.f13,.int .u64 x.f14,.string x.f15,.string x.f16,.int .u64 x.f17,.int .u64 x.f18,.int .u64 x.f19,.slice x.Ru x.Mb x.Rv,.pointer x.f21,.slice x.ajH x.ajI x.ajJ]
abbrev gT.S.z:gT.S:=⟨0,0,false,0,0,(⟨#[]⟩:ByteArray),(⟨#[]⟩:ByteArray),false,0,0,(⟨#[]⟩:ByteArray),(⟨#[]⟩:ByteArray),false,0,0,(⟨#[]⟩:ByteArray),(⟨#[]⟩:ByteArray),0,0,0,none,0,0,none,none,0,0⟩
abbrev gT.EX (K:gT.S->Prop):Prop:= ∃(t0:Int),∃(t1:Int),∃(t2:Bool),∃(t3:Int),∃(t4:Int),∃(t5:ByteArray),∃(t6:ByteArray),∃(t7:Bool),∃(t8:Int),∃(t9:Int),∃(t10:ByteArray),∃(t11:ByteArray),∃(t12:Bool),∃(t13:Int),∃(t14:Int),∃(t15:ByteArray),∃(t16:ByteArray),∃(t17:Int),∃(t18:Int),∃(t19:Int),∃(aao:bU) (aap aaq:Nat),∃(t21:bU),∃(apY:bU) (apZ ap0:Nat),K ⟨t0,t1,t2,t3,t4,t5,t6,t7,t8,t9,t10,t11,t12,t13,t14,t15,t16,t17,t18,t19,aao,aap,aaq,t21,apY,apZ,ap0⟩
structure bN.S where
 f0:Int
 f1:Int
 f2:Bool
 f3:Int
 f4:Int
 f5:ByteArray
 f6:ByteArray
 f7:Bool
 f8:Int
 f9:Int
 f10:ByteArray
 f11:ByteArray
 f12:Int
 f13:Int
 f14:Int
 OY:bU
 Mc:Nat
 OZ:Nat
 f16:Int
 f17:Int
 f18:Bool
 f19:bU
 f20:Int
abbrev bN.S.l (x:bN.S):List Value:= [.int .u64 x.f0,.int .i64 x.f1,.bool x.f2,.int .u64 x.f3,.int .u64 x.f4,.string x.f5,.string x.f6,.bool x.f7,.int .u64 x.f8,.int .u64 x.f9,.string x.f10,.string x.f11,.int .i64 x.f12,.int .i64 x.f13,.int .i64 x.f14,.slice x.OY x.Mc x.OZ,.int .u64 x.f16,.int .u64 x.f17,.bool x.f18,.pointer x.f19,.int .i64 x.f20]
abbrev bN.S.arr (x:bN.S):Array Value:= #[.int .u64 x.f0,.int .i64 x.f1,.bool x.f2,.int .u64 x.f3,.int .u64 x.f4,.string x.f5,.string x.f6,.bool x.f7,.int .u64 x.f8,.int .u64 x.f9,.string x.f10,.string x.f11,.int .i64 x.f12,.int .i64 x.f13,.int .i64 x.f14,.slice x.OY x.Mc x.OZ,.int .u64 x.f16,.int .u64 x.f17,.bool x.f18,.pointer x.f19,.int .i64 x.f20]
abbrev bN.S.agg (x:bN.S):Value:=.agg #[.int .u64 x.f0,.int .i64 x.f1,.bool x.f2,.int .u64 x.f3,.int .u64 x.f4,.string x.f5,.string x.f6,.bool x.f7,.int .u64 x.f8,.int .u64 x.f9,.string x.f10,.string x.f11,.int .i64 x.f12,.int .i64 x.f13,.int .i64 x.f14,.slice x.OY x.Mc x.OZ,.int .u64 x.f16,.int .u64 x.f17,.bool x.f18,.pointer x.f19,.int .i64 x.f20]
abbrev bN.S.z:bN.S:=⟨0,0,false,0,0,(⟨#[]⟩:ByteArray),(⟨#[]⟩:ByteArray),false,0,0,(⟨#[]⟩:ByteArray),(⟨#[]⟩:ByteArray),0,0,0,none,0,0,0,0,false,none,0⟩
abbrev bN.EX (K:bN.S->Prop):Prop:= ∃(t0:Int),∃(t1:Int),∃(t2:Bool),∃(t3:Int),∃(t4:Int),∃(t5:ByteArray),∃(t6:ByteArray),∃(t7:Bool),∃(t8:Int),∃(t9:Int),∃(t10:ByteArray),∃(t11:ByteArray),∃(t12:Int),∃(t13:Int),∃(t14:Int),∃(O0:bU) (O2 O3:Nat),∃(t16:Int),∃(t17:Int),∃(t18:Bool),∃(t19:bU),∃(t20:Int),K ⟨t0,t1,t2,t3,t4,t5,t6,t7,t8,t9,t10,t11,t12,t13,t14,O0,O2,O3,t16,t17,t18,t19,t20⟩
abbrev bN.df (h:aj) (a:Addr) (K:bN.S->Prop):Prop:= ∃(t0:Int),ak h a=some (.int .u64 t0)/\∃(t1:Int),ak h (a.add 1)=some (.int .i64 t1)/\∃(t2:Bool),ak h (a.add 2)=some (.bool t2)/\∃(t3:Int),ak h (a.add 3)=some (.int .u64 t3)/\∃(t4:Int),ak h (a.add 4)=some (.int .u64 t4)/\∃(t5:ByteArray),ak h (a.add 5)=some (.string t5)/\∃(t6:ByteArray),ak h (a.add 6)=some (.string t6)/\∃(t7:Bool),ak h (a.add 7)=some (.bool t7)/\∃(t8:Int),ak h (a.add 8)=some (.int .u64 t8)/\∃(t9:Int),ak h (a.add 9)=some (.int .u64 t9)/\∃(t10:ByteArray),ak h (a.add 10)=some (.string t10)/\∃(t11:ByteArray),ak h (a.add 11)=some (.string t11)/\∃(t12:Int),ak h (a.add 12)=some (.int .i64 t12)/\∃(t13:Int),ak h (a.add 13)=some (.int .i64 t13)/\∃(t14:Int),ak h (a.add 14)=some (.int .i64 t14)/\∃(O0:bU) (O2 O3:Nat),ak h (a.add 15)=some (.slice O0 O2 O3)/\∃(t16:Int),ak h (a.add 16)=some (.int .u64 t16)/\∃(t17:Int),ak h (a.add 17)=some (.int .u64 t17)/\∃(t18:Bool),ak h (a.add 18)=some (.bool t18)/\∃(t19:bU),ak h (a.add 19)=some (.pointer t19)/\∃(t20:Int),ak h (a.add 20)=some (.int .i64 t20)/\K ⟨t0,t1,t2,t3,t4,t5,t6,t7,t8,t9,t10,t11,t12,t13,t14,O0,O2,O3,t16,t17,t18,t19,t20⟩
structure aw.S where
 f0:Int
 f1:Int
 f2:Bool
 f3:Int
 f4:Int
 f5:ByteArray
 f6:ByteArray
 f7:Bool
 f8:Int
 f9:Int
 f10:ByteArray
 f11:ByteArray
 f12:Bool
 f13:Int
 f14:Int
 f15:ByteArray
 f16:ByteArray
 f17:Int
 f18:Int
 f19:Int
 Ru:bU
 Mb:Nat
 Rv:Nat
abbrev aw.S.l (x:aw.S):List Value:= [.int .u64 x.f0,.int .i64 x.f1,.bool x.f2,.int .u64 x.f3,.int .u64 x.f4,.string x.f5,.string x.f6,.bool x.f7,.int .u64 x.f8,.int .u64 x.f9,.string x.f10,.string x.f11,.bool x.f12,.int .u64 x.f13,.int .u64 x.f14,.string x.f15,.string x.f16,.int .u64 x.f17,.int .u64 x.f18,.int .u64 x.f19,.slice x.Ru x.Mb x.Rv]
abbrev aw.S.arr (x:aw.S):Array Value:= #[.int .u64 x.f0,.int .i64 x.f1,.bool x.f2,.int .u64 x.f3,.int .u64 x.f4,.string x.f5,.string x.f6,.bool x.f7,.int .u64 x.f8,.int .u64 x.f9,.string x.f10,.string x.f11,.bool x.f12,.int .u64 x.f13,.int .u64 x.f14,.string x.f15,.string x.f16,.int .u64 x.f17,.int .u64 x.f18,.int .u64 x.f19,.slice x.Ru x.Mb x.Rv]
abbrev aw.S.agg (x:aw.S):Value:=.agg #[.int .u64 x.f0,.int .i64 x.f1,.bool x.f2,.int .u64 x.f3,.int .u64 x.f4,.string x.f5,.string x.f6,.bool x.f7,.int .u64 x.f8,.int .u64 x.f9,.string x.f10,.string x.f11,.bool x.f12,.int .u64 x.f13,.int .u64 x.f14,.string x.f15,.string x.f16,.int .u64 x.f17,.int .u64 x.f18,.int .u64 x.f19,.slice x.Ru x.Mb x.Rv]
abbrev aw.S.z:aw.S:=⟨0,0,false,0,0,(⟨#[]⟩:ByteArray),(⟨#[]⟩:ByteArray),false,0,0,(⟨#[]⟩:ByteArray),(⟨#[]⟩:ByteArray),false,0,0,(⟨#[]⟩:ByteArray),(⟨#[]⟩:ByteArray),0,0,0,none,0,0⟩
abbrev aw.EX (K:aw.S->Prop):Prop:= ∃(t0:Int),∃(t1:Int),∃(t2:Bool),∃(t3:Int),∃(t4:Int),∃(t5:ByteArray),∃(t6:ByteArray),∃(t7:Bool),∃(t8:Int),∃(t9:Int),∃(t10:ByteArray),∃(t11:ByteArray),∃(t12:Bool),∃(t13:Int),∃(t14:Int),∃(t15:ByteArray),∃(t16:ByteArray),∃(t17:Int),∃(t18:Int),∃(t19:Int),∃(aao:bU) (aap aaq:Nat),K ⟨t0,t1,t2,t3,t4,t5,t6,t7,t8,t9,t10,t11,t12,t13,t14,t15,t16,t17,t18,t19,aao,aap,aaq⟩
abbrev aw.df (h:aj) (a:Addr) (K:aw.S->Prop):Prop:= ∃(t0:Int),ak h a=some (.int .u64 t0)/\∃(t1:Int),ak h (a.add 1)=some (.int .i64 t1)/\∃(t2:Bool),ak h (a.add 2)=some (.bool t2)/\∃(t3:Int),ak h (a.add 3)=some (.int .u64 t3)/\∃(t4:Int),ak h (a.add 4)=some (.int .u64 t4)/\∃(t5:ByteArray),ak h (a.add 5)=some (.string t5)/\∃(t6:ByteArray),ak h (a.add 6)=some (.string t6)/\∃(t7:Bool),ak h (a.add 7)=some (.bool t7)/\∃(t8:Int),ak h (a.add 8)=some (.int .u64 t8)/\∃(t9:Int),ak h (a.add 9)=some (.int .u64 t9)/\∃(t10:ByteArray),ak h (a.add 10)=some (.string t10)/\∃(t11:ByteArray),ak h (a.add 11)=some (.string t11)/\∃(t12:Bool),ak h (a.add 12)=some (.bool t12)/\∃(t13:Int),ak h (a.add 13)=some (.int .u64 t13)/\∃(t14:Int),ak h (a.add 14)=some (.int .u64 t14)/\∃(t15:ByteArray),ak h (a.add 15)=some (.string t15)/\∃(t16:ByteArray),ak h (a.add 16)=some (.string t16)/\∃(t17:Int),ak h (a.add 17)=some (.int .u64 t17)/\∃(t18:Int),ak h (a.add 18)=some (.int .u64 t18)/\∃(t19:Int),ak h (a.add 19)=some (.int .u64 t19)/\∃(aao:bU) (aap aaq:Nat),ak h (a.add 20)=some (.slice aao aap aaq)/\K ⟨t0,t1,t2,t3,t4,t5,t6,t7,t8,t9,t10,t11,t12,t13,t14,t15,t16,t17,t18,t19,aao,aap,aaq⟩
abbrev aw.dV (h:aj) (a:Addr) (x:aw.S) (K:aj->Prop):Prop:=aH h a (.int .u64 x.f0) λaR=>aH aR (a.add 1) (.int .i64 x.f1) λaZ=>aH aZ (a.add 2) (.bool x.f2) λbJ=>aH bJ (a.add 3) (.int .u64 x.f3) λcB=>aH cB (a.add 4) (.int .u64 x.f4) λcJ=>aH cJ (a.add 5) (.string x.f5) λcQ=>aH cQ (a.add 6) (.string x.f6) λcW=>aH cW (a.add 7) (.bool x.f7) λdA=>aH dA (a.add 8) (.int .u64 x.f8) λfc=>aH fc (a.add 9) (.int .u64 x.f9) λcP=>aH cP (a.add 10) (.string x.f10) λcV=>aH cV (a.add 11) (.string x.f11) λdD=>aH dD (a.add 12) (.bool x.f12) λdF=>aH dF (a.add 13) (.int .u64 x.f13) λfC=>aH fC (a.add 14) (.int .u64 x.f14) λgD=>aH gD (a.add 15) (.string x.f15) λgX=>aH gX (a.add 16) (.string x.f16) λgQ=>aH gQ (a.add 17) (.int .u64 x.f17) λfh=>aH fh (a.add 18) (.int .u64 x.f18) λjn=>aH jn (a.add 19) (.int .u64 x.f19) λju=>aH ju (a.add 20) (.slice x.Ru x.Mb x.Rv) λsK=>K sK
structure aE.S where
 f0:Int
 f1:Int
 f2:Int
 f3:Int
 f4p:bU
 f4l:Nat
 f4c:Nat
abbrev aE.S.l (x:aE.S):List Value:= [.int .u64 x.f0,.int .u64 x.f1,.int .u64 x.f2,.int .i64 x.f3,.slice x.f4p x.f4l x.f4c]
abbrev aE.S.arr (x:aE.S):Array Value:= #[.int .u64 x.f0,.int .u64 x.f1,.int .u64 x.f2,.int .i64 x.f3,.slice x.f4p x.f4l x.f4c]
abbrev aE.S.agg (x:aE.S):Value:=.agg #[.int .u64 x.f0,.int .u64 x.f1,.int .u64 x.f2,.int .i64 x.f3,.slice x.f4p x.f4l x.f4c]
abbrev aE.S.z:aE.S:=⟨0,0,0,0,none,0,0⟩
abbrev aE.EX (K:aE.S->Prop):Prop:= ∃(t0:Int),∃(t1:Int),∃(t2:Int),∃(t3:Int),∃(t4p:bU) (t4l t4c:Nat),K ⟨t0,t1,t2,t3,t4p,t4l,t4c⟩
abbrev aE.df (h:aj) (a:Addr) (K:aE.S->Prop):Prop:= ∃(t0:Int),ak h a=some (.int .u64 t0)/\∃(t1:Int),ak h (a.add 1)=some (.int .u64 t1)/\∃(t2:Int),ak h (a.add 2)=some (.int .u64 t2)/\∃(t3:Int),ak h (a.add 3)=some (.int .i64 t3)/\∃(t4p:bU) (t4l t4c:Nat),ak h (a.add 4)=some (.slice t4p t4l t4c)/\K ⟨t0,t1,t2,t3,t4p,t4l,t4c⟩
abbrev aE.dV (h:aj) (a:Addr) (x:aE.S) (K:aj->Prop):Prop:=aH h a (.int .u64 x.f0) λaR=>aH aR (a.add 1) (.int .u64 x.f1) λaZ=>aH aZ (a.add 2) (.int .u64 x.f2) λbJ=>aH bJ (a.add 3) (.int .i64 x.f3) λcB=>aH cB (a.add 4) (.slice x.f4p x.f4l x.f4c) λcJ=>K cJ
structure aa.S where
 f0:Int
 f1:Int
 tT:bU
 tS:Nat
 tV:Nat
 BN:bU
 xO:Nat
 Ax:Nat
abbrev aa.S.l (x:aa.S):List Value:= [.int .i64 x.f0,.int .u64 x.f1,.slice x.tT x.tS x.tV,.slice x.BN x.xO x.Ax]
abbrev aa.S.arr (x:aa.S):Array Value:= #[.int .i64 x.f0,.int .u64 x.f1,.slice x.tT x.tS x.tV,.slice x.BN x.xO x.Ax]
abbrev aa.S.agg (x:aa.S):Value:=.agg #[.int .i64 x.f0,.int .u64 x.f1,.slice x.tT x.tS x.tV,.slice x.BN x.xO x.Ax]
abbrev aa.S.z:aa.S:=⟨0,0,none,0,0,none,0,0⟩
abbrev aa.EX (K:aa.S->Prop):Prop:= ∃(t0:Int),∃(t1:Int),∃(TG:bU) (TH TI:Nat),∃(t3p:bU) (t3l t3c:Nat),K ⟨t0,t1,TG,TH,TI,t3p,t3l,t3c⟩
abbrev aa.df (h:aj) (a:Addr) (K:aa.S->Prop):Prop:= ∃(t0:Int),ak h a=some (.int .i64 t0)/\∃(t1:Int),ak h (a.add 1)=some (.int .u64 t1)/\∃(TG:bU) (TH TI:Nat),ak h (a.add 2)=some (.slice TG TH TI)/\∃(t3p:bU) (t3l t3c:Nat),ak h (a.add 3)=some (.slice t3p t3l t3c)/\K ⟨t0,t1,TG,TH,TI,t3p,t3l,t3c⟩
abbrev aa.dV (h:aj) (a:Addr) (x:aa.S) (K:aj->Prop):Prop:=aH h a (.int .i64 x.f0) λaR=>aH aR (a.add 1) (.int .u64 x.f1) λaZ=>aH aZ (a.add 2) (.slice x.tT x.tS x.tV) λbJ=>aH bJ (a.add 3) (.slice x.BN x.xO x.Ax) λcB=>K cB
structure aJ.S where
 f0:Int
 f1:Bool
 f2:Int
 f3:Int
 f4:ByteArray
 f5:ByteArray
 IA:bU
 IB:Nat
 IC:Nat
 f7:Int
 f8:Int
 f9:Int
abbrev aJ.S.l (x:aJ.S):List Value:= [.int .i64 x.f0,.bool x.f1,.int .u64 x.f2,.int .u64 x.f3,.string x.f4,.string x.f5,.slice x.IA x.IB x.IC,.int .u64 x.f7,.int .i64 x.f8,.int .u64 x.f9]
abbrev aJ.S.arr (x:aJ.S):Array Value:= #[.int .i64 x.f0,.bool x.f1,.int .u64 x.f2,.int .u64 x.f3,.string x.f4,.string x.f5,.slice x.IA x.IB x.IC,.int .u64 x.f7,.int .i64 x.f8,.int .u64 x.f9]
abbrev aJ.S.agg (x:aJ.S):Value:=.agg #[.int .i64 x.f0,.bool x.f1,.int .u64 x.f2,.int .u64 x.f3,.string x.f4,.string x.f5,.slice x.IA x.IB x.IC,.int .u64 x.f7,.int .i64 x.f8,.int .u64 x.f9]
abbrev aJ.S.z:aJ.S:=⟨0,false,0,0,(⟨#[]⟩:ByteArray),(⟨#[]⟩:ByteArray),none,0,0,0,0,0⟩
abbrev aJ.EX (K:aJ.S->Prop):Prop:= ∃(t0:Int),∃(t1:Bool),∃(t2:Int),∃(t3:Int),∃(t4:ByteArray),∃(t5:ByteArray),∃(t6p:bU) (t6l t6c:Nat),∃(t7:Int),∃(t8:Int),∃(t9:Int),K ⟨t0,t1,t2,t3,t4,t5,t6p,t6l,t6c,t7,t8,t9⟩
abbrev aJ.df (h:aj) (a:Addr) (K:aJ.S->Prop):Prop:= ∃(t0:Int),ak h a=some (.int .i64 t0)/\∃(t1:Bool),ak h (a.add 1)=some (.bool t1)/\∃(t2:Int),ak h (a.add 2)=some (.int .u64 t2)/\∃(t3:Int),ak h (a.add 3)=some (.int .u64 t3)/\∃(t4:ByteArray),ak h (a.add 4)=some (.string t4)/\∃(t5:ByteArray),ak h (a.add 5)=some (.string t5)/\∃(t6p:bU) (t6l t6c:Nat),ak h (a.add 6)=some (.slice t6p t6l t6c)/\∃(t7:Int),ak h (a.add 7)=some (.int .u64 t7)/\∃(t8:Int),ak h (a.add 8)=some (.int .i64 t8)/\∃(t9:Int),ak h (a.add 9)=some (.int .u64 t9)/\K ⟨t0,t1,t2,t3,t4,t5,t6p,t6l,t6c,t7,t8,t9⟩
abbrev aJ.dV (h:aj) (a:Addr) (x:aJ.S) (K:aj->Prop):Prop:=aH h a (.int .i64 x.f0) λaR=>aH aR (a.add 1) (.bool x.f1) λaZ=>aH aZ (a.add 2) (.int .u64 x.f2) λbJ=>aH bJ (a.add 3) (.int .u64 x.f3) λcB=>aH cB (a.add 4) (.string x.f4) λcJ=>aH cJ (a.add 5) (.string x.f5) λcQ=>aH cQ (a.add 6) (.slice x.IA x.IB x.IC) λcW=>aH cW (a.add 7) (.int .u64 x.f7) λdA=>aH dA (a.add 8) (.int .i64 x.f8) λfc=>aH fc (a.add 9) (.int .u64 x.f9) λcP=>K cP
structure az.S where
 f0:Bool
 f1:Int
 f2:Int
 f3:ByteArray
 f4:ByteArray
abbrev az.S.l (x:az.S):List Value:= [.bool x.f0,.int .u64 x.f1,.int .u64 x.f2,.string x.f3,.string x.f4]
abbrev az.S.arr (x:az.S):Array Value:= #[.bool x.f0,.int .u64 x.f1,.int .u64 x.f2,.string x.f3,.string x.f4]
abbrev az.S.agg (x:az.S):Value:=.agg #[.bool x.f0,.int .u64 x.f1,.int .u64 x.f2,.string x.f3,.string x.f4]
abbrev az.S.z:az.S:=⟨false,0,0,(⟨#[]⟩:ByteArray),(⟨#[]⟩:ByteArray)⟩
abbrev az.EX (K:az.S->Prop):Prop:= ∃(t0:Bool),∃(t1:Int),∃(t2:Int),∃(t3:ByteArray),∃(t4:ByteArray),K ⟨t0,t1,t2,t3,t4⟩
abbrev az.df (h:aj) (a:Addr) (K:az.S->Prop):Prop:= ∃(t0:Bool),ak h a=some (.bool t0)/\∃(t1:Int),ak h (a.add 1)=some (.int .u64 t1)/\∃(t2:Int),ak h (a.add 2)=some (.int .u64 t2)/\∃(t3:ByteArray),ak h (a.add 3)=some (.string t3)/\∃(t4:ByteArray),ak h (a.add 4)=some (.string t4)/\K ⟨t0,t1,t2,t3,t4⟩
abbrev az.dV (h:aj) (a:Addr) (x:az.S) (K:aj->Prop):Prop:=aH h a (.bool x.f0) λaR=>aH aR (a.add 1) (.int .u64 x.f1) λaZ=>aH aZ (a.add 2) (.int .u64 x.f2) λbJ=>aH bJ (a.add 3) (.string x.f3) λcB=>aH cB (a.add 4) (.string x.f4) λcJ=>K cJ
structure ja.S where
 f0:Int
 f1:Int
 f2:Int
 f3:Int
 f4:Int
 f5:Int
 f6:Bool
 f7:Int
 f8:Int
 f9:ByteArray
 f10:ByteArray
 f11:Bool
 f12:Int
 f13:Int
 f14:ByteArray
 f15:ByteArray
 f16:Int
 f17:Int
 f18:Int
 ajK:bU
 ajL:Nat
 ajM:Nat
 f20:Int
 f21:Int
 f22:Bool
 ajN:bU
 ajO:Nat
 ajP:Nat
abbrev ja.S.l (x:ja.S):List Value:= [.int .u64 x.f0,.int .i64 x.f1,.int .u64 x.f2,.int .i64 x.f3,.int .u64 x.f4,.int .i64 x.f5,.bool x.f6,.int .u64 x.f7,.int .u64 x.f8,.string x.f9,.string x.f10,.bool x.f11,.int .u64 x.f12,.int .u64 x.f13,.string x.f14,.string x.f15,.int .i64 x.f16,.int .i64 x.f17,.int .i64 x.f18,.slice x.ajK x.ajL x.ajM,.int .u64 x.f20,.int .u64 x.f21,.bool x.f22,.slice x.ajN x.ajO x.ajP]
abbrev ja.S.arr (x:ja.S):Array Value:= #[.int .u64 x.f0,.int .i64 x.f1,.int .u64 x.f2,.int .i64 x.f3,.int .u64 x.f4,.int .i64 x.f5,.bool x.f6,.int .u64 x.f7,.int .u64 x.f8,.string x.f9,.string x.f10,.bool x.f11,.int .u64 x.f12,.int .u64 x.f13,.string x.f14,.string x.f15,.int .i64 x.f16,.int .i64 x.f17,.int .i64 x.f18,.slice x.ajK x.ajL x.ajM,.int .u64 x.f20,.int .u64 x.f21,.bool x.f22,.slice x.ajN x.ajO x.ajP]
abbrev ja.S.agg (x:ja.S):Value:=.agg #[.int .u64 x.f0,.int .i64 x.f1,.int .u64 x.f2,.int .i64 x.f3,.int .u64 x.f4,.int .i64 x.f5,.bool x.f6,.int .u64 x.f7,.int .u64 x.f8,.string x.f9,.string x.f10,.bool x.f11,.int .u64 x.f12,.int .u64 x.f13,.string x.f14,.string x.f15,.int .i64 x.f16,.int .i64 x.f17,.int .i64 x.f18,.slice x.ajK x.ajL x.ajM,.int .u64 x.f20,.int .u64 x.f21,.bool x.f22,.slice x.ajN x.ajO x.ajP]
abbrev ja.S.z:ja.S:=⟨0,0,0,0,0,0,false,0,0,(⟨#[]⟩:ByteArray),(⟨#[]⟩:ByteArray),false,0,0,(⟨#[]⟩:ByteArray),(⟨#[]⟩:ByteArray),0,0,0,none,0,0,0,0,false,none,0,0⟩
abbrev ja.EX (K:ja.S->Prop):Prop:= ∃(t0:Int),∃(t1:Int),∃(t2:Int),∃(t3:Int),∃(t4:Int),∃(t5:Int),∃(t6:Bool),∃(t7:Int),∃(t8:Int),∃(t9:ByteArray),∃(t10:ByteArray),∃(t11:Bool),∃(t12:Int),∃(t13:Int),∃(t14:ByteArray),∃(t15:ByteArray),∃(t16:Int),∃(t17:Int),∃(t18:Int),∃(ap1:bU) (ap2 ap3:Nat),∃(t20:Int),∃(t21:Int),∃(t22:Bool),∃(ap4:bU) (ap5 ap6:Nat),K ⟨t0,t1,t2,t3,t4,t5,t6,t7,t8,t9,t10,t11,t12,t13,t14,t15,t16,t17,t18,ap1,ap2,ap3,t20,t21,t22,ap4,ap5,ap6⟩
structure ah.S where
 f0:Bool
 f1:Int
 f2:Int
 f3:ByteArray
 f4:ByteArray
 f5:Int
 f6:Int
abbrev ah.S.l (x:ah.S):List Value:= [.bool x.f0,.int .u64 x.f1,.int .u64 x.f2,.string x.f3,.string x.f4,.int .u64 x.f5,.int .u64 x.f6]
abbrev ah.S.arr (x:ah.S):Array Value:= #[.bool x.f0,.int .u64 x.f1,.int .u64 x.f2,.string x.f3,.string x.f4,.int .u64 x.f5,.int .u64 x.f6]
abbrev ah.S.agg (x:ah.S):Value:=.agg #[.bool x.f0,.int .u64 x.f1,.int .u64 x.f2,.string x.f3,.string x.f4,.int .u64 x.f5,.int .u64 x.f6]
abbrev ah.S.z:ah.S:=⟨false,0,0,(⟨#[]⟩:ByteArray),(⟨#[]⟩:ByteArray),0,0⟩
abbrev ah.EX (K:ah.S->Prop):Prop:= ∃(t0:Bool),∃(t1:Int),∃(t2:Int),∃(t3:ByteArray),∃(t4:ByteArray),∃(t5:Int),∃(t6:Int),K ⟨t0,t1,t2,t3,t4,t5,t6⟩
abbrev ah.df (h:aj) (a:Addr) (K:ah.S->Prop):Prop:= ∃(t0:Bool),ak h a=some (.bool t0)/\∃(t1:Int),ak h (a.add 1)=some (.int .u64 t1)/\∃(t2:Int),ak h (a.add 2)=some (.int .u64 t2)/\∃(t3:ByteArray),ak h (a.add 3)=some (.string t3)/\∃(t4:ByteArray),ak h (a.add 4)=some (.string t4)/\∃(t5:Int),ak h (a.add 5)=some (.int .u64 t5)/\∃(t6:Int),ak h (a.add 6)=some (.int .u64 t6)/\K ⟨t0,t1,t2,t3,t4,t5,t6⟩
abbrev ah.dV (h:aj) (a:Addr) (x:ah.S) (K:aj->Prop):Prop:=aH h a (.bool x.f0) λaR=>aH aR (a.add 1) (.int .u64 x.f1) λaZ=>aH aZ (a.add 2) (.int .u64 x.f2) λbJ=>aH bJ (a.add 3) (.string x.f3) λcB=>aH cB (a.add 4) (.string x.f4) λcJ=>aH cJ (a.add 5) (.int .u64 x.f5) λcQ=>aH cQ (a.add 6) (.int .u64 x.f6) λcW=>K cW
structure aM.S where
 f0:Int
 f1:Int
 tT:bU
 tS:Nat
 tV:Nat
 f3:Int
abbrev aM.S.l (x:aM.S):List Value:= [.int .i64 x.f0,.int .i64 x.f1,.slice x.tT x.tS x.tV,.int .u64 x.f3]
abbrev aM.S.arr (x:aM.S):Array Value:= #[.int .i64 x.f0,.int .i64 x.f1,.slice x.tT x.tS x.tV,.int .u64 x.f3]
abbrev aM.S.agg (x:aM.S):Value:=.agg #[.int .i64 x.f0,.int .i64 x.f1,.slice x.tT x.tS x.tV,.int .u64 x.f3]
abbrev aM.S.z:aM.S:=⟨0,0,none,0,0,0⟩
abbrev aM.EX (K:aM.S->Prop):Prop:= ∃(t0:Int),∃(t1:Int),∃(TG:bU) (TH TI:Nat),∃(t3:Int),K ⟨t0,t1,TG,TH,TI,t3⟩
structure aC.S where
 f0:Int
 f1:Int
 f2:Bool
 f3:Int
 f4:Int
 f5:ByteArray
 f6:ByteArray
 f7:Bool
 f8:Int
 f9:Int
 f10:ByteArray
 f11:ByteArray
 f12:Bool
 f13:Int
 f14:Int
 f15:ByteArray
 f16:ByteArray
 f17:Int
 f18:Int
 f19:Int
abbrev aC.S.l (x:aC.S):List Value:= [.int .u64 x.f0,.int .i64 x.f1,.bool x.f2,.int .u64 x.f3,.int .u64 x.f4,.string x.f5,.string x.f6,.bool x.f7,.int .u64 x.f8,.int .u64 x.f9,.string x.f10,.string x.f11,.bool x.f12,.int .u64 x.f13,.int .u64 x.f14,.string x.f15,.string x.f16,.int .u64 x.f17,.int .u64 x.f18,.int .u64 x.f19]
abbrev aC.S.arr (x:aC.S):Array Value:= #[.int .u64 x.f0,.int .i64 x.f1,.bool x.f2,.int .u64 x.f3,.int .u64 x.f4,.string x.f5,.string x.f6,.bool x.f7,.int .u64 x.f8,.int .u64 x.f9,.string x.f10,.string x.f11,.bool x.f12,.int .u64 x.f13,.int .u64 x.f14,.string x.f15,.string x.f16,.int .u64 x.f17,.int .u64 x.f18,.int .u64 x.f19]
abbrev aC.S.agg (x:aC.S):Value:=.agg #[.int .u64 x.f0,.int .i64 x.f1,.bool x.f2,.int .u64 x.f3,.int .u64 x.f4,.string x.f5,.string x.f6,.bool x.f7,.int .u64 x.f8,.int .u64 x.f9,.string x.f10,.string x.f11,.bool x.f12,.int .u64 x.f13,.int .u64 x.f14,.string x.f15,.string x.f16,.int .u64 x.f17,.int .u64 x.f18,.int .u64 x.f19]
abbrev aC.S.z:aC.S:=⟨0,0,false,0,0,(⟨#[]⟩:ByteArray),(⟨#[]⟩:ByteArray),false,0,0,(⟨#[]⟩:ByteArray),(⟨#[]⟩:ByteArray),false,0,0,(⟨#[]⟩:ByteArray),(⟨#[]⟩:ByteArray),0,0,0⟩
abbrev aC.EX (K:aC.S->Prop):Prop:= ∃(t0:Int),∃(t1:Int),∃(t2:Bool),∃(t3:Int),∃(t4:Int),∃(t5:ByteArray),∃(t6:ByteArray),∃(t7:Bool),∃(t8:Int),∃(t9:Int),∃(t10:ByteArray),∃(t11:ByteArray),∃(t12:Bool),∃(t13:Int),∃(t14:Int),∃(t15:ByteArray),∃(t16:ByteArray),∃(t17:Int),∃(t18:Int),∃(t19:Int),K ⟨t0,t1,t2,t3,t4,t5,t6,t7,t8,t9,t10,t11,t12,t13,t14,t15,t16,t17,t18,t19⟩
abbrev aC.df (h:aj) (a:Addr) (K:aC.S->Prop):Prop:= ∃(t0:Int),ak h a=some (.int .u64 t0)/\∃(t1:Int),ak h (a.add 1)=some (.int .i64 t1)/\∃(t2:Bool),ak h (a.add 2)=some (.bool t2)/\∃(t3:Int),ak h (a.add 3)=some (.int .u64 t3)/\∃(t4:Int),ak h (a.add 4)=some (.int .u64 t4)/\∃(t5:ByteArray),ak h (a.add 5)=some (.string t5)/\∃(t6:ByteArray),ak h (a.add 6)=some (.string t6)/\∃(t7:Bool),ak h (a.add 7)=some (.bool t7)/\∃(t8:Int),ak h (a.add 8)=some (.int .u64 t8)/\∃(t9:Int),ak h (a.add 9)=some (.int .u64 t9)/\∃(t10:ByteArray),ak h (a.add 10)=some (.string t10)/\∃(t11:ByteArray),ak h (a.add 11)=some (.string t11)/\∃(t12:Bool),ak h (a.add 12)=some (.bool t12)/\∃(t13:Int),ak h (a.add 13)=some (.int .u64 t13)/\∃(t14:Int),ak h (a.add 14)=some (.int .u64 t14)/\∃(t15:ByteArray),ak h (a.add 15)=some (.string t15)/\∃(t16:ByteArray),ak h (a.add 16)=some (.string t16)/\∃(t17:Int),ak h (a.add 17)=some (.int .u64 t17)/\∃(t18:Int),ak h (a.add 18)=some (.int .u64 t18)/\∃(t19:Int),ak h (a.add 19)=some (.int .u64 t19)/\K ⟨t0,t1,t2,t3,t4,t5,t6,t7,t8,t9,t10,t11,t12,t13,t14,t15,t16,t17,t18,t19⟩
abbrev aC.dV (h:aj) (a:Addr) (x:aC.S) (K:aj->Prop):Prop:=aH h a (.int .u64 x.f0) λaR=>aH aR (a.add 1) (.int .i64 x.f1) λaZ=>aH aZ (a.add 2) (.bool x.f2) λbJ=>aH bJ (a.add 3) (.int .u64 x.f3) λcB=>aH cB (a.add 4) (.int .u64 x.f4) λcJ=>aH cJ (a.add 5) (.string x.f5) λcQ=>aH cQ (a.add 6) (.string x.f6) λcW=>aH cW (a.add 7) (.bool x.f7) λdA=>aH dA (a.add 8) (.int .u64 x.f8) λfc=>aH fc (a.add 9) (.int .u64 x.f9) λcP=>aH cP (a.add 10) (.string x.f10) λcV=>aH cV (a.add 11) (.string x.f11) λdD=>aH dD (a.add 12) (.bool x.f12) λdF=>aH dF (a.add 13) (.int .u64 x.f13) λfC=>aH fC (a.add 14) (.int .u64 x.f14) λgD=>aH gD (a.add 15) (.string x.f15) λgX=>aH gX (a.add 16) (.string x.f16) λgQ=>aH gQ (a.add 17) (.int .u64 x.f17) λfh=>aH fh (a.add 18) (.int .u64 x.f18) λjn=>aH jn (a.add 19) (.int .u64 x.f19) λju=>K ju
structure aq.S where
 f0:Int
 f1:Int
 f2:Int
 f3:Int
 f4:Int
 DT:bU
 f5l:Nat
 DU:Nat
abbrev aq.S.l (x:aq.S):List Value:= [.int .u64 x.f0,.int .i64 x.f1,.int .i64 x.f2,.int .i64 x.f3,.int .u64 x.f4,.slice x.DT x.f5l x.DU]
abbrev aq.S.arr (x:aq.S):Array Value:= #[.int .u64 x.f0,.int .i64 x.f1,.int .i64 x.f2,.int .i64 x.f3,.int .u64 x.f4,.slice x.DT x.f5l x.DU]
abbrev aq.S.agg (x:aq.S):Value:=.agg #[.int .u64 x.f0,.int .i64 x.f1,.int .i64 x.f2,.int .i64 x.f3,.int .u64 x.f4,.slice x.DT x.f5l x.DU]
abbrev aq.S.z:aq.S:=⟨0,0,0,0,0,none,0,0⟩
abbrev aq.EX (K:aq.S->Prop):Prop:= ∃(t0:Int),∃(t1:Int),∃(t2:Int),∃(t3:Int),∃(t4:Int),∃(t5p:bU) (t5l t5c:Nat),K ⟨t0,t1,t2,t3,t4,t5p,t5l,t5c⟩
abbrev aq.df (h:aj) (a:Addr) (K:aq.S->Prop):Prop:= ∃(t0:Int),ak h a=some (.int .u64 t0)/\∃(t1:Int),ak h (a.add 1)=some (.int .i64 t1)/\∃(t2:Int),ak h (a.add 2)=some (.int .i64 t2)/\∃(t3:Int),ak h (a.add 3)=some (.int .i64 t3)/\∃(t4:Int),ak h (a.add 4)=some (.int .u64 t4)/\∃(t5p:bU) (t5l t5c:Nat),ak h (a.add 5)=some (.slice t5p t5l t5c)/\K ⟨t0,t1,t2,t3,t4,t5p,t5l,t5c⟩
abbrev aq.dV (h:aj) (a:Addr) (x:aq.S) (K:aj->Prop):Prop:=aH h a (.int .u64 x.f0) λaR=>aH aR (a.add 1) (.int .i64 x.f1) λaZ=>aH aZ (a.add 2) (.int .i64 x.f2) λbJ=>aH bJ (a.add 3) (.int .i64 x.f3) λcB=>aH cB (a.add 4) (.int .u64 x.f4) λcJ=>aH cJ (a.add 5) (.slice x.DT x.f5l x.DU) λcQ=>K cQ
structure bW.S where
 f0:Bool
 f1:Bool
 f2:Bool
 f3:Int
 f4:Int
 f5:Bool
 f6:Int
 f7:Int
 f8:ByteArray
 f9:ByteArray
 f10:Int
 f11:Int
abbrev bW.S.l (x:bW.S):List Value:= [.bool x.f0,.bool x.f1,.bool x.f2,.int .u64 x.f3,.int .u64 x.f4,.bool x.f5,.int .u64 x.f6,.int .u64 x.f7,.string x.f8,.string x.f9,.int .u64 x.f10,.int .u64 x.f11]
abbrev bW.S.arr (x:bW.S):Array Value:= #[.bool x.f0,.bool x.f1,.bool x.f2,.int .u64 x.f3,.int .u64 x.f4,.bool x.f5,.int .u64 x.f6,.int .u64 x.f7,.string x.f8,.string x.f9,.int .u64 x.f10,.int .u64 x.f11]
abbrev bW.S.agg (x:bW.S):Value:=.agg #[.bool x.f0,.bool x.f1,.bool x.f2,.int .u64 x.f3,.int .u64 x.f4,.bool x.f5,.int .u64 x.f6,.int .u64 x.f7,.string x.f8,.string x.f9,.int .u64 x.f10,.int .u64 x.f11]
abbrev bW.S.z:bW.S:=⟨false,false,false,0,0,false,0,0,(⟨#[]⟩:ByteArray),(⟨#[]⟩:ByteArray),0,0⟩
abbrev bW.EX (K:bW.S->Prop):Prop:= ∃(t0:Bool),∃(t1:Bool),∃(t2:Bool),∃(t3:Int),∃(t4:Int),∃(t5:Bool),∃(t6:Int),∃(t7:Int),∃(t8:ByteArray),∃(t9:ByteArray),∃(t10:Int),∃(t11:Int),K ⟨t0,t1,t2,t3,t4,t5,t6,t7,t8,t9,t10,t11⟩
abbrev bW.df (h:aj) (a:Addr) (K:bW.S->Prop):Prop:= ∃(t0:Bool),ak h a=some (.bool t0)/\∃(t1:Bool),ak h (a.add 1)=some (.bool t1)/\∃(t2:Bool),ak h (a.add 2)=some (.bool t2)/\∃(t3:Int),ak h (a.add 3)=some (.int .u64 t3)/\∃(t4:Int),ak h (a.add 4)=some (.int .u64 t4)/\∃(t5:Bool),ak h (a.add 5)=some (.bool t5)/\∃(t6:Int),ak h (a.add 6)=some (.int .u64 t6)/\∃(t7:Int),ak h (a.add 7)=some (.int .u64 t7)/\∃(t8:ByteArray),ak h (a.add 8)=some (.string t8)/\∃(t9:ByteArray),ak h (a.add 9)=some (.string t9)/\∃(t10:Int),ak h (a.add 10)=some (.int .u64 t10)/\∃(t11:Int),ak h (a.add 11)=some (.int .u64 t11)/\K ⟨t0,t1,t2,t3,t4,t5,t6,t7,t8,t9,t10,t11⟩
structure aD.S where
 f0:Int
 f1:Int
 f2:Bool
 f3:Int
 f4:Int
 f5:ByteArray
 f6:ByteArray
 f7:Bool
 f8:Int
 f9:Int
 f10:ByteArray
 f11:ByteArray
 f12:Int
 f13:Int
 f14:Int
 OY:bU
 Mc:Nat
 OZ:Nat
 f16:Int
 f17:Int
 f18:Bool
abbrev aD.S.l (x:aD.S):List Value:= [.int .u64 x.f0,.int .i64 x.f1,.bool x.f2,.int .u64 x.f3,.int .u64 x.f4,.string x.f5,.string x.f6,.bool x.f7,.int .u64 x.f8,.int .u64 x.f9,.string x.f10,.string x.f11,.int .i64 x.f12,.int .i64 x.f13,.int .i64 x.f14,.slice x.OY x.Mc x.OZ,.int .u64 x.f16,.int .u64 x.f17,.bool x.f18]
abbrev aD.S.arr (x:aD.S):Array Value:= #[.int .u64 x.f0,.int .i64 x.f1,.bool x.f2,.int .u64 x.f3,.int .u64 x.f4,.string x.f5,.string x.f6,.bool x.f7,.int .u64 x.f8,.int .u64 x.f9,.string x.f10,.string x.f11,.int .i64 x.f12,.int .i64 x.f13,.int .i64 x.f14,.slice x.OY x.Mc x.OZ,.int .u64 x.f16,.int .u64 x.f17,.bool x.f18]
abbrev aD.S.agg (x:aD.S):Value:=.agg #[.int .u64 x.f0,.int .i64 x.f1,.bool x.f2,.int .u64 x.f3,.int .u64 x.f4,.string x.f5,.string x.f6,.bool x.f7,.int .u64 x.f8,.int .u64 x.f9,.string x.f10,.string x.f11,.int .i64 x.f12,.int .i64 x.f13,.int .i64 x.f14,.slice x.OY x.Mc x.OZ,.int .u64 x.f16,.int .u64 x.f17,.bool x.f18]
abbrev aD.S.z:aD.S:=⟨0,0,false,0,0,(⟨#[]⟩:ByteArray),(⟨#[]⟩:ByteArray),false,0,0,(⟨#[]⟩:ByteArray),(⟨#[]⟩:ByteArray),0,0,0,none,0,0,0,0,false⟩
abbrev aD.EX (K:aD.S->Prop):Prop:= ∃(t0:Int),∃(t1:Int),∃(t2:Bool),∃(t3:Int),∃(t4:Int),∃(t5:ByteArray),∃(t6:ByteArray),∃(t7:Bool),∃(t8:Int),∃(t9:Int),∃(t10:ByteArray),∃(t11:ByteArray),∃(t12:Int),∃(t13:Int),∃(t14:Int),∃(O0:bU) (O2 O3:Nat),∃(t16:Int),∃(t17:Int),∃(t18:Bool),K ⟨t0,t1,t2,t3,t4,t5,t6,t7,t8,t9,t10,t11,t12,t13,t14,O0,O2,O3,t16,t17,t18⟩
abbrev aD.df (h:aj) (a:Addr) (K:aD.S->Prop):Prop:= ∃(t0:Int),ak h a=some (.int .u64 t0)/\∃(t1:Int),ak h (a.add 1)=some (.int .i64 t1)/\∃(t2:Bool),ak h (a.add 2)=some (.bool t2)/\∃(t3:Int),ak h (a.add 3)=some (.int .u64 t3)/\∃(t4:Int),ak h (a.add 4)=some (.int .u64 t4)/\∃(t5:ByteArray),ak h (a.add 5)=some (.string t5)/\∃(t6:ByteArray),ak h (a.add 6)=some (.string t6)/\∃(t7:Bool),ak h (a.add 7)=some (.bool t7)/\∃(t8:Int),ak h (a.add 8)=some (.int .u64 t8)/\∃(t9:Int),ak h (a.add 9)=some (.int .u64 t9)/\∃(t10:ByteArray),ak h (a.add 10)=some (.string t10)/\∃(t11:ByteArray),ak h (a.add 11)=some (.string t11)/\∃(t12:Int),ak h (a.add 12)=some (.int .i64 t12)/\∃(t13:Int),ak h (a.add 13)=some (.int .i64 t13)/\∃(t14:Int),ak h (a.add 14)=some (.int .i64 t14)/\∃(O0:bU) (O2 O3:Nat),ak h (a.add 15)=some (.slice O0 O2 O3)/\∃(t16:Int),ak h (a.add 16)=some (.int .u64 t16)/\∃(t17:Int),ak h (a.add 17)=some (.int .u64 t17)/\∃(t18:Bool),ak h (a.add 18)=some (.bool t18)/\K ⟨t0,t1,t2,t3,t4,t5,t6,t7,t8,t9,t10,t11,t12,t13,t14,O0,O2,O3,t16,t17,t18⟩
abbrev aD.dV (h:aj) (a:Addr) (x:aD.S) (K:aj->Prop):Prop:=aH h a (.int .u64 x.f0) λaR=>aH aR (a.add 1) (.int .i64 x.f1) λaZ=>aH aZ (a.add 2) (.bool x.f2) λbJ=>aH bJ (a.add 3) (.int .u64 x.f3) λcB=>aH cB (a.add 4) (.int .u64 x.f4) λcJ=>aH cJ (a.add 5) (.string x.f5) λcQ=>aH cQ (a.add 6) (.string x.f6) λcW=>aH cW (a.add 7) (.bool x.f7) λdA=>aH dA (a.add 8) (.int .u64 x.f8) λfc=>aH fc (a.add 9) (.int .u64 x.f9) λcP=>aH cP (a.add 10) (.string x.f10) λcV=>aH cV (a.add 11) (.string x.f11) λdD=>aH dD (a.add 12) (.int .i64 x.f12) λdF=>aH dF (a.add 13) (.int .i64 x.f13) λfC=>aH fC (a.add 14) (.int .i64 x.f14) λgD=>aH gD (a.add 15) (.slice x.OY x.Mc x.OZ) λgX=>aH gX (a.add 16) (.int .u64 x.f16) λgQ=>aH gQ (a.add 17) (.int .u64 x.f17) λfh=>aH fh (a.add 18) (.bool x.f18) λjn=>K jn
section
variable {h:aj} {R:iI}
def aa.at (h:aj) (b:Nat) (f0:Int) (f1:Int) (tT:bU) (tS tV:Nat) (BN:bU) (xO Ax:Nat):Prop:=h[b]? =some (.cells #[.int .i64 f0,.int .u64 f1,.slice tT tS tV,.slice BN xO Ax] T.aa (0,0))
theorem aa.ld {h:aj} {b:Nat} {f0:Int} {f1:Int} {tT:bU} {tS tV:Nat} {BN:bU} {xO Ax:Nat} {K:Int->Int->bU->Nat->Nat->bU->Nat->Nat->Prop} (hb:aa.at h b f0 f1 tT tS tV BN xO Ax) (hk:K f0 f1 tT tS tV BN xO Ax):aa.LD h (AA b 0) K:=
 ⟨_,af hb rfl,_,af hb rfl,_,_,_,af hb rfl,_,_,_,af hb rfl,hk⟩
theorem aa.TM {h:aj} {a:Addr} {f0:Int} {f1:Int} {tT:bU} {tS tV:Nat} {BN:bU} {xO Ax:Nat} {K:Int->Int->bU->Nat->Nat->bU->Nat->Nat->Prop} (hb:fE a [.I f0,.U f1,.slice tT tS tV,.slice BN xO Ax] 0 h) (hk:K f0 f1 tT tS tV BN xO Ax):aa.LD h a K:=by
 obtain⟨q0,q1,q2,q3,_⟩:=hb;rw[jz] at q0;exact⟨_,q0,_,q1,_,_,_,q2,_,_,_,q3,hk⟩
theorem aa.held {h:aj} {b:Nat} {f0:Int} {f1:Int} {tT:bU} {tS tV:Nat} {BN:bU} {xO Ax:Nat} (hb:aa.at h b f0 f1 tT tS tV BN xO Ax):fE (AA b 0) [.I f0,.U f1,.slice tT tS tV,.slice BN xO Ax] 0 h:=
 lR hb (λj v hj=>by rw[bZ];simpa using hj)
theorem aa.DH {h:aj} {a:Addr} {f0:Int} {f1:Int} {tT:bU} {tS tV:Nat} {BN:bU} {xO Ax:Nat} {K:aj->Prop} (hk:gY a [.I f0,.U f1,.slice tT tS tV,.slice BN xO Ax] 0 h K):aa.ST h a f0 f1 tT tS tV BN xO Ax K:=hk
theorem aa.new {h:aj} {f0:Int} {f1:Int} {tT:bU} {tS tV:Nat} {BN:bU} {xO Ax:Nat} {K:Nat->aj->Prop} (hk: ∀b h',b=h.size->aa.at h' b f0 f1 tT tS tV BN xO Ax->Fr No h h'->K b h'):aV h (.cells #[.I 0,.U 0,.Z,.Z] T.aa) λb mO=>aa.ST mO (AA b 0) f0 f1 tT tS tV BN xO Ax (K b):=
 kV (vs:= [.I f0,.U f1,.slice tT tS tV,.slice BN xO Ax]) rfl rfl hk
theorem aa.box {h:aj} {f0:Int} {f1:Int} {tT:bU} {tS tV:Nat} {BN:bU} {xO Ax:Nat} {K:Nat->aj->Prop} (hk: ∀b h',b=h.size->aa.at h' b f0 f1 tT tS tV BN xO Ax->Fr No h h'->K b h'):aV h (.cells #[.I f0,.U f1,.slice tT tS tV,.slice BN xO Ax] T.aa) λb mO=>K b mO:=
 cX (hk _ _ rfl cz (Fr.push _ _))
theorem aa.set {h:aj} {b:Nat} {g0:Int} {g1:Int} {g2p:bU} {g2l g2c:Nat} {g3p:bU} {g3l g3c:Nat} {f0:Int} {f1:Int} {tT:bU} {tS tV:Nat} {BN:bU} {xO Ax:Nat} {K:aj->Prop} (a0:aa.at h b g0 g1 g2p g2l g2c g3p g3l g3c) (hk: ∀h',aa.at h' b f0 f1 tT tS tV BN xO Ax->h'.size=h.size->(∀x,x≠b->h'[x]? =h[x]?)->K h'):aa.ST h (AA b 0) f0 f1 tT tS tV BN xO Ax K:=
 aa.DH (gF a0 rfl rfl hk)
def bg.at (h:aj) (b:Nat) (f0:Int) (f1:Int) (f2:Bool):Prop:=h[b]? =some (.cells #[.int .i64 f0,.int .u64 f1,.bool f2] T.bg (0,0))
theorem bg.ld {h:aj} {b:Nat} {f0:Int} {f1:Int} {f2:Bool} {K:Int->Int->Bool->Prop} (hb:bg.at h b f0 f1 f2) (hk:K f0 f1 f2):bg.LD h (AA b 0) K:=
 ⟨_,af hb rfl,_,af hb rfl,_,af hb rfl,hk⟩
theorem bg.DH {h:aj} {a:Addr} {f0:Int} {f1:Int} {f2:Bool} {K:aj->Prop} (hk:gY a [.I f0,.U f1,.bool f2] 0 h K):bg.ST h a f0 f1 f2 K:=hk
theorem bg.new {h:aj} {f0:Int} {f1:Int} {f2:Bool} {K:Nat->aj->Prop} (hk: ∀b h',b=h.size->bg.at h' b f0 f1 f2->Fr No h h'->K b h'):aV h (.cells #[.I 0,.U 0,.bool false] T.bg) λb mO=>bg.ST mO (AA b 0) f0 f1 f2 (K b):=
 kV (vs:= [.I f0,.U f1,.bool f2]) rfl rfl hk
theorem bg.box {h:aj} {f0:Int} {f1:Int} {f2:Bool} {K:Nat->aj->Prop} (hk: ∀b h',b=h.size->bg.at h' b f0 f1 f2->Fr No h h'->K b h'):aV h (.cells #[.I f0,.U f1,.bool f2] T.bg) λb mO=>K b mO:=
 cX (hk _ _ rfl cz (Fr.push _ _))
theorem bg.set {h:aj} {b:Nat} {g0:Int} {g1:Int} {g2:Bool} {f0:Int} {f1:Int} {f2:Bool} {K:aj->Prop} (a0:bg.at h b g0 g1 g2) (hk: ∀h',bg.at h' b f0 f1 f2->h'.size=h.size->(∀x,x≠b->h'[x]? =h[x]?)->K h'):bg.ST h (AA b 0) f0 f1 f2 K:=
 bg.DH (gF a0 rfl rfl hk)
def ah.at (h:aj) (b:Nat) (f0:Bool) (f1:Int) (f2:Int) (f3:ByteArray) (f4:ByteArray) (f5:Int) (f6:Int):Prop:=h[b]? =some (.cells #[.bool f0,.int .u64 f1,.int .u64 f2,.string f3,.string f4,.int .u64 f5,.int .u64 f6] T.ah (0,0))
theorem ah.ld {h:aj} {b:Nat} {f0:Bool} {f1:Int} {f2:Int} {f3:ByteArray} {f4:ByteArray} {f5:Int} {f6:Int} {K:Bool->Int->Int->ByteArray->ByteArray->Int->Int->Prop} (hb:ah.at h b f0 f1 f2 f3 f4 f5 f6) (hk:K f0 f1 f2 f3 f4 f5 f6):ah.LD h (AA b 0) K:=
 ⟨_,af hb rfl,_,af hb rfl,_,af hb rfl,_,af hb rfl,_,af hb rfl,_,af hb rfl,_,af hb rfl,hk⟩
theorem ah.DH {h:aj} {a:Addr} {f0:Bool} {f1:Int} {f2:Int} {f3:ByteArray} {f4:ByteArray} {f5:Int} {f6:Int} {K:aj->Prop} (hk:gY a [.bool f0,.U f1,.U f2,.string f3,.string f4,.U f5,.U f6] 0 h K):ah.ST h a f0 f1 f2 f3 f4 f5 f6 K:=hk
theorem ah.box {h:aj} {f0:Bool} {f1:Int} {f2:Int} {f3:ByteArray} {f4:ByteArray} {f5:Int} {f6:Int} {K:Nat->aj->Prop} (hk: ∀b h',b=h.size->ah.at h' b f0 f1 f2 f3 f4 f5 f6->Fr No h h'->K b h'):aV h (.cells #[.bool f0,.U f1,.U f2,.string f3,.string f4,.U f5,.U f6] T.ah) λb mO=>K b mO:=
 cX (hk _ _ rfl cz (Fr.push _ _))
theorem ah.set {h:aj} {b:Nat} {g0:Bool} {g1:Int} {g2:Int} {g3:ByteArray} {g4:ByteArray} {g5:Int} {g6:Int} {f0:Bool} {f1:Int} {f2:Int} {f3:ByteArray} {f4:ByteArray} {f5:Int} {f6:Int} {K:aj->Prop} (a0:ah.at h b g0 g1 g2 g3 g4 g5 g6) (hk: ∀h',ah.at h' b f0 f1 f2 f3 f4 f5 f6->h'.size=h.size->(∀x,x≠b->h'[x]? =h[x]?)->K h'):ah.ST h (AA b 0) f0 f1 f2 f3 f4 f5 f6 K:=
 ah.DH (gF a0 rfl rfl hk)
def aM.at (h:aj) (b:Nat) (f0:Int) (f1:Int) (tT:bU) (tS tV:Nat) (f3:Int):Prop:=h[b]? =some (.cells #[.int .i64 f0,.int .i64 f1,.slice tT tS tV,.int .u64 f3] T.aM (0,0))
theorem aM.ld {h:aj} {b:Nat} {f0:Int} {f1:Int} {tT:bU} {tS tV:Nat} {f3:Int} {K:Int->Int->bU->Nat->Nat->Int->Prop} (hb:aM.at h b f0 f1 tT tS tV f3) (hk:K f0 f1 tT tS tV f3):aM.LD h (AA b 0) K:=
 ⟨_,af hb rfl,_,af hb rfl,_,_,_,af hb rfl,_,af hb rfl,hk⟩
theorem aM.TM {h:aj} {a:Addr} {f0:Int} {f1:Int} {tT:bU} {tS tV:Nat} {f3:Int} {K:Int->Int->bU->Nat->Nat->Int->Prop} (hb:fE a [.I f0,.I f1,.slice tT tS tV,.U f3] 0 h) (hk:K f0 f1 tT tS tV f3):aM.LD h a K:=by
 obtain⟨q0,q1,q2,q3,_⟩:=hb;rw[jz] at q0;exact⟨_,q0,_,q1,_,_,_,q2,_,q3,hk⟩
theorem aM.DH {h:aj} {a:Addr} {f0:Int} {f1:Int} {tT:bU} {tS tV:Nat} {f3:Int} {K:aj->Prop} (hk:gY a [.I f0,.I f1,.slice tT tS tV,.U f3] 0 h K):aM.ST h a f0 f1 tT tS tV f3 K:=hk
theorem aM.new {h:aj} {f0:Int} {f1:Int} {tT:bU} {tS tV:Nat} {f3:Int} {K:Nat->aj->Prop} (hk: ∀b h',b=h.size->aM.at h' b f0 f1 tT tS tV f3->Fr No h h'->K b h'):aV h (.cells #[.I 0,.I 0,.Z,.U 0] T.aM) λb mO=>aM.ST mO (AA b 0) f0 f1 tT tS tV f3 (K b):=
 kV (vs:= [.I f0,.I f1,.slice tT tS tV,.U f3]) rfl rfl hk
theorem aM.box {h:aj} {f0:Int} {f1:Int} {tT:bU} {tS tV:Nat} {f3:Int} {K:Nat->aj->Prop} (hk: ∀b h',b=h.size->aM.at h' b f0 f1 tT tS tV f3->Fr No h h'->K b h'):aV h (.cells #[.I f0,.I f1,.slice tT tS tV,.U f3] T.aM) λb mO=>K b mO:=
 cX (hk _ _ rfl cz (Fr.push _ _))
theorem aM.set {h:aj} {b:Nat} {g0:Int} {g1:Int} {g2p:bU} {g2l g2c:Nat} {g3:Int} {f0:Int} {f1:Int} {tT:bU} {tS tV:Nat} {f3:Int} {K:aj->Prop} (a0:aM.at h b g0 g1 g2p g2l g2c g3) (hk: ∀h',aM.at h' b f0 f1 tT tS tV f3->h'.size=h.size->(∀x,x≠b->h'[x]? =h[x]?)->K h'):aM.ST h (AA b 0) f0 f1 tT tS tV f3 K:=
 aM.DH (gF a0 rfl rfl hk)
def bF.at (h:aj) (b:Nat) (f0:Int) (TJ:bU) (TK TL:Nat):Prop:=h[b]? =some (.cells #[.int .u64 f0,.slice TJ TK TL] T.bF (0,0))
theorem bF.ld {h:aj} {b:Nat} {f0:Int} {TJ:bU} {TK TL:Nat} {K:Int->bU->Nat->Nat->Prop} (hb:bF.at h b f0 TJ TK TL) (hk:K f0 TJ TK TL):bF.LD h (AA b 0) K:=
 ⟨_,af hb rfl,_,_,_,af hb rfl,hk⟩
theorem bF.TM {h:aj} {a:Addr} {f0:Int} {TJ:bU} {TK TL:Nat} {K:Int->bU->Nat->Nat->Prop} (hb:fE a [.U f0,.slice TJ TK TL] 0 h) (hk:K f0 TJ TK TL):bF.LD h a K:=by
 obtain⟨q0,q1,_⟩:=hb;rw[jz] at q0;exact⟨_,q0,_,_,_,q1,hk⟩
theorem bF.new {h:aj} {f0:Int} {TJ:bU} {TK TL:Nat} {K:Nat->aj->Prop} (hk: ∀b h',b=h.size->bF.at h' b f0 TJ TK TL->Fr No h h'->K b h'):aV h (.cells #[.U 0,.Z] T.bF) λb mO=>bF.ST mO (AA b 0) f0 TJ TK TL (K b):=
 kV (vs:= [.U f0,.slice TJ TK TL]) rfl rfl hk
theorem bF.box {h:aj} {f0:Int} {TJ:bU} {TK TL:Nat} {K:Nat->aj->Prop} (hk: ∀b h',b=h.size->bF.at h' b f0 TJ TK TL->Fr No h h'->K b h'):aV h (.cells #[.U f0,.slice TJ TK TL] T.bF) λb mO=>K b mO:=
 cX (hk _ _ rfl cz (Fr.push _ _))
def ij.at (h:aj) (b:Nat) (f0:Int) (f1:Int) (f2:Bool) (f3:Bool) (f4p:bU) (f4l f4c:Nat) (DT:bU) (f5l DU:Nat):Prop:=h[b]? =some (.cells #[.int .i64 f0,.int .u64 f1,.bool f2,.bool f3,.slice f4p f4l f4c,.slice DT f5l DU] T.ij (0,0))
theorem ij.box {h:aj} {f0:Int} {f1:Int} {f2:Bool} {f3:Bool} {f4p:bU} {f4l f4c:Nat} {DT:bU} {f5l DU:Nat} {K:Nat->aj->Prop} (hk: ∀b h',b=h.size->ij.at h' b f0 f1 f2 f3 f4p f4l f4c DT f5l DU->Fr No h h'->K b h'):aV h (.cells #[.I f0,.U f1,.bool f2,.bool f3,.slice f4p f4l f4c,.slice DT f5l DU] T.ij) λb mO=>K b mO:=
 cX (hk _ _ rfl cz (Fr.push _ _))
def az.at (h:aj) (b:Nat) (f0:Bool) (f1:Int) (f2:Int) (f3:ByteArray) (f4:ByteArray):Prop:=h[b]? =some (.cells #[.bool f0,.int .u64 f1,.int .u64 f2,.string f3,.string f4] T.az (0,0))
theorem az.ld {h:aj} {b:Nat} {f0:Bool} {f1:Int} {f2:Int} {f3:ByteArray} {f4:ByteArray} {K:Bool->Int->Int->ByteArray->ByteArray->Prop} (hb:az.at h b f0 f1 f2 f3 f4) (hk:K f0 f1 f2 f3 f4):az.LD h (AA b 0) K:=
 ⟨_,af hb rfl,_,af hb rfl,_,af hb rfl,_,af hb rfl,_,af hb rfl,hk⟩
theorem az.held {h:aj} {b:Nat} {f0:Bool} {f1:Int} {f2:Int} {f3:ByteArray} {f4:ByteArray} (hb:az.at h b f0 f1 f2 f3 f4):fE (AA b 0) [.bool f0,.U f1,.U f2,.string f3,.string f4] 0 h:=
 lR hb (λj v hj=>by rw[bZ];simpa using hj)
theorem az.box {h:aj} {f0:Bool} {f1:Int} {f2:Int} {f3:ByteArray} {f4:ByteArray} {K:Nat->aj->Prop} (hk: ∀b h',b=h.size->az.at h' b f0 f1 f2 f3 f4->Fr No h h'->K b h'):aV h (.cells #[.bool f0,.U f1,.U f2,.string f3,.string f4] T.az) λb mO=>K b mO:=
 cX (hk _ _ rfl cz (Fr.push _ _))
def bH.at (h:aj) (b:Nat) (f0:Bool) (f1:Int) (f2:Int) (f3:ByteArray) (f4:ByteArray) (f5:Int) (f6:Int):Prop:=h[b]? =some (.cells #[.bool f0,.int .u64 f1,.int .u64 f2,.string f3,.string f4,.int .i64 f5,.int .i64 f6] T.bH (0,0))
theorem bH.ld {h:aj} {b:Nat} {f0:Bool} {f1:Int} {f2:Int} {f3:ByteArray} {f4:ByteArray} {f5:Int} {f6:Int} {K:Bool->Int->Int->ByteArray->ByteArray->Int->Int->Prop} (hb:bH.at h b f0 f1 f2 f3 f4 f5 f6) (hk:K f0 f1 f2 f3 f4 f5 f6):bH.LD h (AA b 0) K:=
 ⟨_,af hb rfl,_,af hb rfl,_,af hb rfl,_,af hb rfl,_,af hb rfl,_,af hb rfl,_,af hb rfl,hk⟩
theorem bH.DH {h:aj} {a:Addr} {f0:Bool} {f1:Int} {f2:Int} {f3:ByteArray} {f4:ByteArray} {f5:Int} {f6:Int} {K:aj->Prop} (hk:gY a [.bool f0,.U f1,.U f2,.string f3,.string f4,.I f5,.I f6] 0 h K):bH.ST h a f0 f1 f2 f3 f4 f5 f6 K:=hk
theorem bH.new {h:aj} {f0:Bool} {f1:Int} {f2:Int} {f3:ByteArray} {f4:ByteArray} {f5:Int} {f6:Int} {K:Nat->aj->Prop} (hk: ∀b h',b=h.size->bH.at h' b f0 f1 f2 f3 f4 f5 f6->Fr No h h'->K b h'):aV h (.cells #[.bool false,.U 0,.U 0,.string j9,.string j9,.I 0,.I 0] T.bH) λb mO=>bH.ST mO (AA b 0) f0 f1 f2 f3 f4 f5 f6 (K b):=
 kV (vs:= [.bool f0,.U f1,.U f2,.string f3,.string f4,.I f5,.I f6]) rfl rfl hk
theorem bH.box {h:aj} {f0:Bool} {f1:Int} {f2:Int} {f3:ByteArray} {f4:ByteArray} {f5:Int} {f6:Int} {K:Nat->aj->Prop} (hk: ∀b h',b=h.size->bH.at h' b f0 f1 f2 f3 f4 f5 f6->Fr No h h'->K b h'):aV h (.cells #[.bool f0,.U f1,.U f2,.string f3,.string f4,.I f5,.I f6] T.bH) λb mO=>K b mO:=
 cX (hk _ _ rfl cz (Fr.push _ _))
theorem bH.set {h:aj} {b:Nat} {g0:Bool} {g1:Int} {g2:Int} {g3:ByteArray} {g4:ByteArray} {g5:Int} {g6:Int} {f0:Bool} {f1:Int} {f2:Int} {f3:ByteArray} {f4:ByteArray} {f5:Int} {f6:Int} {K:aj->Prop} (a0:bH.at h b g0 g1 g2 g3 g4 g5 g6) (hk: ∀h',bH.at h' b f0 f1 f2 f3 f4 f5 f6->h'.size=h.size->(∀x,x≠b->h'[x]? =h[x]?)->K h'):bH.ST h (AA b 0) f0 f1 f2 f3 f4 f5 f6 K:=
 bH.DH (gF a0 rfl rfl hk)
def aJ.at (h:aj) (b:Nat) (f0:Int) (f1:Bool) (f2:Int) (f3:Int) (f4:ByteArray) (f5:ByteArray) (IA:bU) (IB IC:Nat) (f7:Int) (f8:Int) (f9:Int):Prop:=h[b]? =some (.cells #[.int .i64 f0,.bool f1,.int .u64 f2,.int .u64 f3,.string f4,.string f5,.slice IA IB IC,.int .u64 f7,.int .i64 f8,.int .u64 f9] T.aJ (0,0))
theorem aJ.ld {h:aj} {b:Nat} {f0:Int} {f1:Bool} {f2:Int} {f3:Int} {f4:ByteArray} {f5:ByteArray} {IA:bU} {IB IC:Nat} {f7:Int} {f8:Int} {f9:Int} {K:Int->Bool->Int->Int->ByteArray->ByteArray->bU->Nat->Nat->Int->Int->Int->Prop} (hb:aJ.at h b f0 f1 f2 f3 f4 f5 IA IB IC f7 f8 f9) (hk:K f0 f1 f2 f3 f4 f5 IA IB IC f7 f8 f9):aJ.LD h (AA b 0) K:=
 ⟨_,af hb rfl,_,af hb rfl,_,af hb rfl,_,af hb rfl,_,af hb rfl,_,af hb rfl,_,_,_,af hb rfl,_,af hb rfl,_,af hb rfl,_,af hb rfl,hk⟩
theorem aJ.DH {h:aj} {a:Addr} {f0:Int} {f1:Bool} {f2:Int} {f3:Int} {f4:ByteArray} {f5:ByteArray} {IA:bU} {IB IC:Nat} {f7:Int} {f8:Int} {f9:Int} {K:aj->Prop} (hk:gY a [.I f0,.bool f1,.U f2,.U f3,.string f4,.string f5,.slice IA IB IC,.U f7,.I f8,.U f9] 0 h K):aJ.ST h a f0 f1 f2 f3 f4 f5 IA IB IC f7 f8 f9 K:=hk
theorem aJ.new {h:aj} {f0:Int} {f1:Bool} {f2:Int} {f3:Int} {f4:ByteArray} {f5:ByteArray} {IA:bU} {IB IC:Nat} {f7:Int} {f8:Int} {f9:Int} {K:Nat->aj->Prop} (hk: ∀b h',b=h.size->aJ.at h' b f0 f1 f2 f3 f4 f5 IA IB IC f7 f8 f9->Fr No h h'->K b h'):aV h (.cells #[.I 0,.bool false,.U 0,.U 0,.string j9,.string j9,.Z,.U 0,.I 0,.U 0] T.aJ) λb mO=>aJ.ST mO (AA b 0) f0 f1 f2 f3 f4 f5 IA IB IC f7 f8 f9 (K b):=
 kV (vs:= [.I f0,.bool f1,.U f2,.U f3,.string f4,.string f5,.slice IA IB IC,.U f7,.I f8,.U f9]) rfl rfl hk
theorem aJ.box {h:aj} {f0:Int} {f1:Bool} {f2:Int} {f3:Int} {f4:ByteArray} {f5:ByteArray} {IA:bU} {IB IC:Nat} {f7:Int} {f8:Int} {f9:Int} {K:Nat->aj->Prop} (hk: ∀b h',b=h.size->aJ.at h' b f0 f1 f2 f3 f4 f5 IA IB IC f7 f8 f9->Fr No h h'->K b h'):aV h (.cells #[.I f0,.bool f1,.U f2,.U f3,.string f4,.string f5,.slice IA IB IC,.U f7,.I f8,.U f9] T.aJ) λb mO=>K b mO:=
 cX (hk _ _ rfl cz (Fr.push _ _))
theorem aJ.set {h:aj} {b:Nat} {g0:Int} {g1:Bool} {g2:Int} {g3:Int} {g4:ByteArray} {g5:ByteArray} {g6p:bU} {g6l g6c:Nat} {g7:Int} {g8:Int} {g9:Int} {f0:Int} {f1:Bool} {f2:Int} {f3:Int} {f4:ByteArray} {f5:ByteArray} {IA:bU} {IB IC:Nat} {f7:Int} {f8:Int} {f9:Int} {K:aj->Prop} (a0:aJ.at h b g0 g1 g2 g3 g4 g5 g6p g6l g6c g7 g8 g9) (hk: ∀h',aJ.at h' b f0 f1 f2 f3 f4 f5 IA IB IC f7 f8 f9->h'.size=h.size->(∀x,x≠b->h'[x]? =h[x]?)->K h'):aJ.ST h (AA b 0) f0 f1 f2 f3 f4 f5 IA IB IC f7 f8 f9 K:=
 aJ.DH (gF a0 rfl rfl hk)
def gE.at (h:aj) (b:Nat) (f0:Int) (f1:Int) (f2:Int) (f3:Int) (f4:Int) (f5:Int):Prop:=h[b]? =some (.cells #[.int .i64 f0,.int .i64 f1,.int .i64 f2,.int .i64 f3,.int .i64 f4,.int .i64 f5] T.gE (0,0))
theorem gE.ld {h:aj} {b:Nat} {f0:Int} {f1:Int} {f2:Int} {f3:Int} {f4:Int} {f5:Int} {K:Int->Int->Int->Int->Int->Int->Prop} (hb:gE.at h b f0 f1 f2 f3 f4 f5) (hk:K f0 f1 f2 f3 f4 f5):gE.LD h (AA b 0) K:=
 ⟨_,af hb rfl,_,af hb rfl,_,af hb rfl,_,af hb rfl,_,af hb rfl,_,af hb rfl,hk⟩
theorem gE.DH {h:aj} {a:Addr} {f0:Int} {f1:Int} {f2:Int} {f3:Int} {f4:Int} {f5:Int} {K:aj->Prop} (hk:gY a [.I f0,.I f1,.I f2,.I f3,.I f4,.I f5] 0 h K):gE.ST h a f0 f1 f2 f3 f4 f5 K:=hk
theorem gE.new {h:aj} {f0:Int} {f1:Int} {f2:Int} {f3:Int} {f4:Int} {f5:Int} {K:Nat->aj->Prop} (hk: ∀b h',b=h.size->gE.at h' b f0 f1 f2 f3 f4 f5->Fr No h h'->K b h'):aV h (.cells #[.I 0,.I 0,.I 0,.I 0,.I 0,.I 0] T.gE) λb mO=>gE.ST mO (AA b 0) f0 f1 f2 f3 f4 f5 (K b):=
 kV (vs:= [.I f0,.I f1,.I f2,.I f3,.I f4,.I f5]) rfl rfl hk
theorem gE.box {h:aj} {f0:Int} {f1:Int} {f2:Int} {f3:Int} {f4:Int} {f5:Int} {K:Nat->aj->Prop} (hk: ∀b h',b=h.size->gE.at h' b f0 f1 f2 f3 f4 f5->Fr No h h'->K b h'):aV h (.cells #[.I f0,.I f1,.I f2,.I f3,.I f4,.I f5] T.gE) λb mO=>K b mO:=
 cX (hk _ _ rfl cz (Fr.push _ _))
theorem gE.set {h:aj} {b:Nat} {g0:Int} {g1:Int} {g2:Int} {g3:Int} {g4:Int} {g5:Int} {f0:Int} {f1:Int} {f2:Int} {f3:Int} {f4:Int} {f5:Int} {K:aj->Prop} (a0:gE.at h b g0 g1 g2 g3 g4 g5) (hk: ∀h',gE.at h' b f0 f1 f2 f3 f4 f5->h'.size=h.size->(∀x,x≠b->h'[x]? =h[x]?)->K h'):gE.ST h (AA b 0) f0 f1 f2 f3 f4 f5 K:=
 gE.DH (gF a0 rfl rfl hk)
def aq.at (h:aj) (b:Nat) (f0:Int) (f1:Int) (f2:Int) (f3:Int) (f4:Int) (DT:bU) (f5l DU:Nat):Prop:=h[b]? =some (.cells #[.int .u64 f0,.int .i64 f1,.int .i64 f2,.int .i64 f3,.int .u64 f4,.slice DT f5l DU] T.aq (0,0))
theorem aq.ld {h:aj} {b:Nat} {f0:Int} {f1:Int} {f2:Int} {f3:Int} {f4:Int} {DT:bU} {f5l DU:Nat} {K:Int->Int->Int->Int->Int->bU->Nat->Nat->Prop} (hb:aq.at h b f0 f1 f2 f3 f4 DT f5l DU) (hk:K f0 f1 f2 f3 f4 DT f5l DU):aq.LD h (AA b 0) K:=
 ⟨_,af hb rfl,_,af hb rfl,_,af hb rfl,_,af hb rfl,_,af hb rfl,_,_,_,af hb rfl,hk⟩
theorem aq.held {h:aj} {b:Nat} {f0:Int} {f1:Int} {f2:Int} {f3:Int} {f4:Int} {DT:bU} {f5l DU:Nat} (hb:aq.at h b f0 f1 f2 f3 f4 DT f5l DU):fE (AA b 0) [.U f0,.I f1,.I f2,.I f3,.U f4,.slice DT f5l DU] 0 h:=
 lR hb (λj v hj=>by rw[bZ];simpa using hj)
theorem aq.DH {h:aj} {a:Addr} {f0:Int} {f1:Int} {f2:Int} {f3:Int} {f4:Int} {DT:bU} {f5l DU:Nat} {K:aj->Prop} (hk:gY a [.U f0,.I f1,.I f2,.I f3,.U f4,.slice DT f5l DU] 0 h K):aq.ST h a f0 f1 f2 f3 f4 DT f5l DU K:=hk
theorem aq.new {h:aj} {f0:Int} {f1:Int} {f2:Int} {f3:Int} {f4:Int} {DT:bU} {f5l DU:Nat} {K:Nat->aj->Prop} (hk: ∀b h',b=h.size->aq.at h' b f0 f1 f2 f3 f4 DT f5l DU->Fr No h h'->K b h'):aV h (.cells #[.U 0,.I 0,.I 0,.I 0,.U 0,.Z] T.aq) λb mO=>aq.ST mO (AA b 0) f0 f1 f2 f3 f4 DT f5l DU (K b):=
 kV (vs:= [.U f0,.I f1,.I f2,.I f3,.U f4,.slice DT f5l DU]) rfl rfl hk
theorem aq.box {h:aj} {f0:Int} {f1:Int} {f2:Int} {f3:Int} {f4:Int} {DT:bU} {f5l DU:Nat} {K:Nat->aj->Prop} (hk: ∀b h',b=h.size->aq.at h' b f0 f1 f2 f3 f4 DT f5l DU->Fr No h h'->K b h'):aV h (.cells #[.U f0,.I f1,.I f2,.I f3,.U f4,.slice DT f5l DU] T.aq) λb mO=>K b mO:=
 cX (hk _ _ rfl cz (Fr.push _ _))
theorem aq.set {h:aj} {b:Nat} {g0:Int} {g1:Int} {g2:Int} {g3:Int} {g4:Int} {g5p:bU} {g5l g5c:Nat} {f0:Int} {f1:Int} {f2:Int} {f3:Int} {f4:Int} {DT:bU} {f5l DU:Nat} {K:aj->Prop} (a0:aq.at h b g0 g1 g2 g3 g4 g5p g5l g5c) (hk: ∀h',aq.at h' b f0 f1 f2 f3 f4 DT f5l DU->h'.size=h.size->(∀x,x≠b->h'[x]? =h[x]?)->K h'):aq.ST h (AA b 0) f0 f1 f2 f3 f4 DT f5l DU K:=
 aq.DH (gF a0 rfl rfl hk)
theorem pn.host.walk {s:ByteArray} (hv:aX Tryz.prog (Instr.range T.string (.string s)) h λv aR=> ∃(it:Nat),v=.P it 0/\∃(I:aj->Prop) (mu:aj->Nat),I aR/\∀(aZ:aj),I aZ->aX Tryz.prog (Instr.next (.P it 0) true T.JZ) aZ λeJ bJ=>(eJ=.tuple #[.bool false]/\R (.bool true) bJ)\/(∃(ajQ ab3:Value),eJ=.tuple #[.bool true,ajQ,ab3]/\∃t11,ab3=.int .i32 t11/\aK (λ(t34:Bool) (cB:aj)=>if t34 then R (.bool false) cB else(I cB/\mu cB<mu aZ)) (λJ=>if(decide (t11<97)) then if(decide (t11<48)) then if(t11 !=45) then J (t11 !=45) bJ else J false bJ else if(decide (t11>57)) then if(t11 !=45) then J (t11 !=45) bJ else J false bJ else J false bJ else if(decide (t11>122)) then if(decide (t11<48)) then if(t11 !=45) then J (t11 !=45) bJ else J false bJ else if(decide (t11>57)) then if(t11 !=45) then J (t11 !=45) bJ else J false bJ else J false bJ else J false bJ))):Cl F.pn #[.string s,.int .i32 45] h R:=aS (lq (sq (lq (bq (.loop [] (lq (sq (cq lf lf) (bq (sq (.typed [(11,.one (.int .i32))]) (sq (.join [(34,.one (.bool))] lf) (cq ll lf))))))))) ll)) Tryz.func142 hv
theorem pn.amk.walk {s:ByteArray} (hv:aX Tryz.prog (Instr.range T.string (.string s)) h λv aR=> ∃(it:Nat),v=.P it 0/\∃(I:aj->Prop) (mu:aj->Nat),I aR/\∀(aZ:aj),I aZ->aX Tryz.prog (Instr.next (.P it 0) true T.JZ) aZ λeJ bJ=>(eJ=.tuple #[.bool false]/\R (.bool true) bJ)\/(∃(ajQ ab3:Value),eJ=.tuple #[.bool true,ajQ,ab3]/\∃t11,ab3=.int .i32 t11/\aK (λ(t34:Bool) (cB:aj)=>if t34 then R (.bool false) cB else(I cB/\mu cB<mu aZ)) (λJ=>if(decide (t11<97)) then if(decide (t11<48)) then if(t11 !=45) then J (t11 !=47) bJ else J false bJ else if(decide (t11>57)) then if(t11 !=45) then J (t11 !=47) bJ else J false bJ else J false bJ else if(decide (t11>122)) then if(decide (t11<48)) then if(t11 !=45) then J (t11 !=47) bJ else J false bJ else if(decide (t11>57)) then if(t11 !=45) then J (t11 !=47) bJ else J false bJ else J false bJ else J false bJ))):Cl F.pn #[.string s,.int .i32 47] h R:=aS (lq (sq (lq (bq (.loop [] (lq (sq (cq lf lf) (bq (sq (.typed [(11,.one (.int .i32))]) (sq (.join [(34,.one (.bool))] lf) (cq ll lf))))))))) ll)) Tryz.func142 hv
theorem kC.walk {w9:Bool} {xa:Int} {x_2:Int} {Ka:ByteArray} {x_4:ByteArray} (hv:aV h (.cells #[.bool w9,.U xa,.U x_2,.string Ka,.string x_4] T.az) λb aR=>az.LD aR (AA b 0) λO4 O5 Un Uo Uq=> ∃(eq:Bool),Ho Tryz.prog T.az (.agg #[.bool O4,.U O5,.U Un,.string Uo,.string Uq]) (.agg #[.bool false,.U 0,.U 0,.string j9,.string j9]) eq/\if eq then R (.bool true) aR else∃t9,ak aR (AA b 0)=some (.bool t9)/\if t9 then az.LD aR (AA b 0) λzq zt ab4 ab5 ab6=>Hu aR b 1 λt12=>Hu aR b 2 λt14=> ∃(eq_1:Bool),Ho Tryz.prog T.az (.agg #[.bool zq,.U zt,.U ab4,.string ab5,.string ab6]) (.agg #[.bool true,.U t12,.U t14,.string j9,.string j9]) eq_1/\if eq_1 then∃t19,ak aR (AA b 1)=some (.U t19)/\if(decide (t19≥1)) then∃t24,ak aR (AA b 1)=some (.U t24)/\if(decide (t24<=4294967295)) then∃t29,ak aR (AA b 2)=some (.U t29)/\R (.bool (decide (t29<=4294967295))) aR else R (.bool false) aR else R (.bool false) aR else R (.bool false) aR else az.LD aR (AA b 0) λab7 ab8 aml amm amn=>Hs aR b 3 λt34=>Hs aR b 4 λt36=> ∃(eq_2:Bool),Ho Tryz.prog T.az (.agg #[.bool ab7,.U ab8,.U aml,.string amm,.string amn]) (.agg #[.bool false,.U 0,.U 0,.string t34,.string t36]) eq_2/\if eq_2 then∃t41,ak aR (AA b 3)=some (.string t41)/\if(decide ((t41.size:Int)≥1)) then∃t47,ak aR (AA b 3)=some (.string t47)/\if(decide ((t47.size:Int)<=16)) then∃t53,ak aR (AA b 4)=some (.string t53)/\if(decide ((t53.size:Int)<=24)) then Hs aR b 3 λt59=>Cl F.pn #[.string t59,.int .i32 45] aR λv aZ=> ∃t60,v=.bool t60/\if t60 then Hs aZ b 4 λt64=>Cl F.pn #[.string t64,.int .i32 47] aZ λeJ bJ=> ∃t65,eJ=.bool t65/\R (.bool t65) bJ else R (.bool false) aZ else R (.bool false) aR else R (.bool false) aR else R (.bool false) aR else R (.bool false) aR):Cl F.kC #[.agg #[.bool w9,.U xa,.U x_2,.string Ka,.string x_4]] h R:=aS (lq (sq (bq (lq (cq ll (lq (cq ll lf))))) ll)) Tryz.func86 hv
end
section
namespace qI
theorem ab9 {a b:ByteArray} :(a==b)=true↔a=b:=by
 obtain⟨a⟩:=a;obtain⟨b⟩:=b;constructor
 ·intro h;have h:(a==b)=true:=h;rw[eq_of_beq h]
 ·intro h;cases h;show(a==a)=true;simp
structure Ev where
 vD:Bool
 node:Int
 l6:Int
 host:ByteArray
 sM:ByteArray
theorem Ev.ext' {x y:Ev} (h0:x.vD=y.vD) (h1:x.node=y.node) (h2:x.l6=y.l6) (h3:x.host=y.host) (h4:x.sM=y.sM):x=y:=by
 cases x;cases y;simp at h0 h1 h2 h3 h4;simp[h0,h1,h2,h3,h4]
def eqB (x y:Ev):Bool:=x.vD==y.vD && (x.node==y.node && (x.l6==y.l6 && (x.host==y.host && (x.sM==y.sM && true))))
theorem O6 {x y:Ev} :eqB x y=true↔x=y:=by
 unfold eqB;simp only[aW,dz,ab9,and_true];constructor
 ·rintro⟨h0,h1,h2,h3,h4⟩;exact Ev.ext' h0 h1 h2 h3 h4
 ·rintro rfl;simp
instance : DecidableEq Ev := λx y => decidable_of_iff (eqB x y = true) O6
theorem afq (x y:Ev):eqB x y=decide (x=y):=by
 by_cases h:x=y
 ·rw[ay h];exact O6.2 h
 ·rw[decide_eq_false h];cases hb:eqB x y
  ·rfl
  ·exact absurd (O6.1 hb) h
def uG (x:Ev):Value:=.agg #[.bool x.vD,.int .u64 x.node,.int .u64 x.l6,.string x.host,.string x.sM]
def Ev.zero:Ev:=⟨false,0,0,⟨#[]⟩,⟨#[]⟩⟩
theorem eqv (x y:Ev):Ho Tryz.prog T.az (uG x) (uG y) (decide (x=y)):=by
 rw[<-afq];exact Ho.of (by unfold eqB;kernel_rfl)
theorem ID {x y:Ev} {a b:Value} (ha:a=uG x) (hb:b=uG y):Ho Tryz.prog T.az a b (decide (x=y)):=by subst ha hb;exact eqv x y
theorem chk (e:Bool) (a:Ev) (h:aj):rd Tryz.prog (Instr.checkKey e 10000 T.az (uG a)) h=some ():=by kernel_rfl
theorem under:(Tryz.prog.underlying T.az).isSome=true:=by kernel_rfl
theorem key:MM Tryz.prog T.az uG:=⟨eqv,chk,by
 obtain⟨d,h⟩:=gO.1 under;exact⟨d,h,λa b=> .inl (by unfold uG;cases d<;>rfl)⟩,λa=>by unfold uG;simp[Instr.sameBits,ab9.2]⟩
def pl (more c:UInt8):Bool:=(decide (97<=c) && decide (c<=122))||(decide (48<=c) && decide (c<=57))||c==45||c==more
def xc (more:UInt8) (s:ByteArray):Bool:=s.data.toList.all (pl more)
def dj (x:Ev):Bool:=
 if x=.zero then true
 else if x.vD=true then decide (x.host=⟨#[]⟩/\x.sM=⟨#[]⟩/\1<=x.node/\x.node<=4294967295/\x.l6<=4294967295)
 else decide (x.node=0/\x.l6=0/\1<=x.host.size/\x.host.size<=16/\x.sM.size<=24) && (xc 45 x.host && xc 47 x.sM)
def qP (x:Ev):Int:=if x=.zero then 0 else if x.vD=true then 1 else 2
def bl (a b:ByteArray):Bool:=Op.bytesLess a.toList b.toList
def zu (x y:Ev):Bool:=
 if qP x≠qP y then decide (qP x<qP y)
 else if x.node≠y.node then decide (x.node<y.node)
 else if x.l6≠y.l6 then decide (x.l6<y.l6)
 else if x.host≠y.host then bl x.host y.host
 else bl x.sM y.sM
theorem bytes_irrefl: ∀a:List UInt8,Op.bytesLess a a=false
 | []=>rfl
 |a::x=>by unfold Op.bytesLess;simp[bytes_irrefl x]
theorem bytes_trans: ∀ {a b c:List UInt8},Op.bytesLess a b=true->Op.bytesLess b c=true->Op.bytesLess a c=true
 |_, [],_,h,_=>by unfold Op.bytesLess at h;cases h
 |_,_::_, [],_,h=>by unfold Op.bytesLess at h;cases h
 | [],b::y,c::z,_,_=>rfl
 |a::x,b::y,c::z,h1,h2=>by
  unfold Op.bytesLess at h1 h2⊢;simp only[Bool.or_eq_true,bf,aW,dz] at h1 h2⊢;rcases h1 with h1|⟨rfl,h1⟩
  ·rcases h2 with h2|⟨rfl,h2⟩
   ·exact .inl (UInt8.lt_trans h1 h2)
   ·exact .inl h1
  ·rcases h2 with h2|⟨rfl,h2⟩
   ·exact .inl h2
   ·exact .inr ⟨rfl,bytes_trans h1 h2⟩
theorem bytes_total: ∀ {a b:List UInt8},a≠b->Op.bytesLess a b=true\/Op.bytesLess b a=true
 | [], [],h=>absurd rfl h
 | [],_::_,_=> .inl rfl
 |_::_, [],_=> .inr rfl
 |a::x,b::y,h=>by
  unfold Op.bytesLess;simp only[Bool.or_eq_true,bf,aW,dz];by_cases e:a=b
  ·subst e;rcases bytes_total (a:=x) (b:=y) (λe=>h (by rw[e])) with h1|h1
   ·exact .inl (.inr ⟨rfl,h1⟩)
   ·exact .inr (.inr ⟨rfl,h1⟩)
  ·rcases UInt8.lt_or_lt_of_ne e with h1|h1
   ·exact .inl (.inl h1)
   ·exact .inr (.inl h1)
theorem ahU {a b:ByteArray} (h:a≠b):bl a b=true\/bl b a=true:=by
 refine bytes_total λe=>h ?_
 rw[toList_data,toList_data] at e;cases a;cases b;simp only[ByteArray.mk.injEq];exact Array.ext' e
theorem Kb {a b c:ByteArray} (h1:bl a b=true) (h2:bl b c=true):bl a c=true:=bytes_trans h1 h2
theorem MT (a:ByteArray):bl a a=false:=bytes_irrefl _
theorem Fe {x y:Ev} :zu x y=true↔qP x<qP y\/(qP x=qP y/\(x.node<y.node\/(x.node=y.node/\(x.l6<y.l6\/(x.l6=y.l6/\((x.host≠y.host/\bl x.host y.host=true)\/(x.host=y.host/\bl x.sM y.sM=true))))))):=by
 unfold zu;by_cases h0:qP x=qP y
 ·rw[ai (by simpa using h0)];by_cases h1:x.node=y.node
  ·rw[ai (by simpa using h1)];by_cases h2:x.l6=y.l6
   ·rw[ai (by simpa using h2)];by_cases h3:x.host=y.host
    ·rw[ai (by simpa using h3)];simp[h0,h1,h2,h3]
    ·rw[ag h3];simp[h0,h1,h2,h3]
   ·rw[ag h2];simp[h0,h1,h2]
  ·rw[ag h1];simp[h0,h1]
 ·rw[ag h0];simp[h0]
theorem HN (x:Ev):zu x x=false:=by
 cases h:zu x x
 ·rfl
 ·rw[Fe] at h;rcases h with h|⟨_,h|⟨_,h|⟨_,⟨h,_⟩|⟨_,h⟩⟩⟩⟩
  ·omega
  ·omega
  ·omega
  ·exact absurd rfl h
  ·rw[MT] at h;cases h
theorem Ur {x y z:Ev} (h1:zu x y=true) (h2:zu y z=true):zu x z=true:=by
 rw[Fe] at h1 h2⊢;rcases h1 with h1|⟨c1,h1⟩
 ·rcases h2 with h2|⟨c2,_⟩
  ·exact .inl (by omega)
  ·exact .inl (by omega)
 rcases h2 with h2|⟨c2,h2⟩
 ·exact .inl (by omega)
 refine .inr ⟨by omega,?_⟩;rcases h1 with h1|⟨n1,h1⟩
 ·rcases h2 with h2|⟨n2,_⟩<;>exact .inl (by omega)
 rcases h2 with h2|⟨n2,h2⟩
 ·exact .inl (by omega)
 refine .inr ⟨by omega,?_⟩;rcases h1 with h1|⟨s1,h1⟩
 ·rcases h2 with h2|⟨s2,_⟩<;>exact .inl (by omega)
 rcases h2 with h2|⟨s2,h2⟩
 ·exact .inl (by omega)
 refine .inr ⟨by omega,?_⟩;rcases h1 with⟨e1,h1⟩|⟨e1,h1⟩
 ·rcases h2 with⟨e2,h2⟩|⟨e2,h2⟩
  ·refine .inl ⟨λe=> ?_,Kb h1 h2⟩;have:=Kb h1 (e▸h2);rw[MT] at this;cases this
  ·exact .inl (by rw[<-e2];exact⟨e1,h1⟩)
 ·rcases h2 with⟨e2,h2⟩|⟨e2,h2⟩
  ·exact .inl (by rw[e1];exact⟨e2,h2⟩)
  ·exact .inr ⟨e1.trans e2,Kb h1 h2⟩
theorem Kc {x y:Ev} (h:qP x=qP y) (hx:x=.zero):y=.zero:=by
 unfold qP at h;rw[ag hx] at h;by_cases hy:y=.zero
 ·exact hy
 ·rw[ai hy] at h;split at h<;>omega
theorem Us {x y:Ev} (h:x≠y):zu x y=true\/zu y x=true:=by
 rw[Fe,Fe];by_cases h0:qP x=qP y
 ·by_cases h1:x.node=y.node
  ·by_cases h2:x.l6=y.l6
   ·by_cases h3:x.host=y.host
    ·have h4:x.sM≠y.sM:=λe=>by
      have hx0:x≠ .zero:=λe0=>h (e0.trans (Kc h0 e0).symm)
      have hy0:y≠ .zero:=λe0=>h ((Kc h0.symm e0).trans e0.symm)
      unfold qP at h0;rw[ai hx0,ai hy0] at h0;have hi:x.vD=y.vD:=by
       cases ex:x.vD<;>cases ey:y.vD<;>simp[ex,ey] at h0⊢
      exact h (Ev.ext' hi h1 h2 h3 e)
     rcases ahU h4 with h5|h5
     ·exact .inl (.inr ⟨h0,.inr ⟨h1,.inr ⟨h2,.inr ⟨h3,h5⟩⟩⟩⟩)
     ·exact .inr (.inr ⟨h0.symm,.inr ⟨h1.symm,.inr ⟨h2.symm,.inr ⟨h3.symm,h5⟩⟩⟩⟩)
    ·rcases ahU h3 with h5|h5
     ·exact .inl (.inr ⟨h0,.inr ⟨h1,.inr ⟨h2,.inl ⟨h3,h5⟩⟩⟩⟩)
     ·exact .inr (.inr ⟨h0.symm,.inr ⟨h1.symm,.inr ⟨h2.symm,.inl ⟨ie h3,h5⟩⟩⟩⟩)
   ·rcases Int.lt_or_gt_of_ne h2 with h5|h5
    ·exact .inl (.inr ⟨h0,.inr ⟨h1,.inl h5⟩⟩)
    ·exact .inr (.inr ⟨h0.symm,.inr ⟨h1.symm,.inl h5⟩⟩)
  ·rcases Int.lt_or_gt_of_ne h1 with h5|h5
   ·exact .inl (.inr ⟨h0,.inl h5⟩)
   ·exact .inr (.inr ⟨h0.symm,.inl h5⟩)
 ·rcases Int.lt_or_gt_of_ne h0 with h5|h5
  ·exact .inl (.inl h5)
  ·exact .inr (.inl h5)
variable {h : aj} {R : Value → aj → Prop}
theorem get_at {s:ByteArray} {i:Nat} (hi:i<s.size):s.get! i=s.data.toList.getD i 0:=by
 have:i<s.data.size:=hi;show s.data[i]! =_;have e:s.data.toList[i]? =some s.data[i]:=by rw[ee];exact Array.getElem?_eq_getElem this
 rw[getElem!_pos s.data i this,ba,e];rfl
theorem decode_at (s:ByteArray) (i:Nat) (hi:i<s.size):(s.data.toList.getD i 0<128->Utf8.decode s i=((s.data.toList.getD i 0).toNat,1))/\(¬s.data.toList.getD i 0<128->128<=(Utf8.decode s i).1):=by
 have e:=get_at hi;have e0:(s.get! (i+0)).toNat=(s.data.toList.getD i 0).toNat:=by rw[Nat.add_zero,e]
 constructor
 ·intro h;have h:(s.data.toList.getD i 0).toNat<128:=h;unfold Utf8.decode;simp only[e0];rw[ag h]
 ·intro h;have h: ¬(s.data.toList.getD i 0).toNat<128:=h;unfold Utf8.decode;simp only[e0];rw[ai h];split
  ·split
   ·omega
   ·show 128<=Utf8.runeError;decide
  ·split
   ·split
    ·rename_i hc;simp only[aW,bf] at hc;show 128<=_;omega
    ·show 128<=Utf8.runeError;decide
   ·split
    ·split
     ·rename_i hc;simp only[aW,bf] at hc;show 128<=_;omega
     ·show 128<=Utf8.runeError;decide
    ·show 128<=Utf8.runeError;decide
def np (more:Int) (c:Int):Bool:=(decide (c<97)||decide (c>122)) && ((decide (c<48)||decide (c>57)) && ((c !=45) && (c !=more)))
theorem aca {more c:Int} (hm:more<128) (h:128<=c):np more c=true:=by
 unfold np;have h1:c>122:=by omega
 have h2:c>57:=by omega
 have h3:c≠45:=by omega
 have h4:c≠more:=by omega
 simp[h1,h2,h3,h4]
theorem acb (more:UInt8) (b:UInt8):np (more.toNat:Int) (b.toNat:Int)= !pl more b:=by
 have e1:(b=45)↔((b.toNat:Int)=45):=by
  constructor
  ·rintro rfl;rfl
  ·intro e;exact UInt8.toNat_inj.1 (by show b.toNat=45;omega)
 have e2:(b=more)↔((b.toNat:Int)=(more.toNat:Int)):=by
  constructor
  ·rintro rfl;rfl
  ·intro e;exact UInt8.toNat_inj.1 (by omega)
 have e3:(97<=b)↔ ¬((b.toNat:Int)<97):=by rw[UInt8.le_iff_toNat_le];show 97<=b.toNat↔_;omega
 have e4:(b<=122)↔ ¬((b.toNat:Int)>122):=by rw[UInt8.le_iff_toNat_le];show b.toNat<=122↔_;omega
 have e5:(48<=b)↔ ¬((b.toNat:Int)<48):=by rw[UInt8.le_iff_toNat_le];show 48<=b.toNat↔_;omega
 have e6:(b<=57)↔ ¬((b.toNat:Int)>57):=by rw[UInt8.le_iff_toNat_le];show b.toNat<=57↔_;omega
 unfold np pl;have e7:(b==45)=decide ((b.toNat:Int)=45):=by by_cases q:b=45<;>simp[q,e1.symm]
 have e8:(b==more)=decide ((b.toNat:Int)=(more.toNat:Int)):=by
  by_cases q:b=more
  ·simp[q]
  ·have: ¬((b.toNat:Int)=(more.toNat:Int)):=λe=>q (e2.2 e)
   rw[decide_eq_false this];simp[q]
 rw[e7,e8];simp only[e3,e4,e5,e6];by_cases q1:(b.toNat:Int)<97<;>by_cases q2:(b.toNat:Int)>122<;>by_cases q3:(b.toNat:Int)<48<;>by_cases q4:(b.toNat:Int)>57<;>by_cases q5:(b.toNat:Int)=45<;>by_cases q6:(b.toNat:Int)=(more.toNat:Int)<;>simp[q1,q2,q3,q4,q5,q6]
end qI
end
end Go.Proofs.YtlenamcfacpheaaGreatDoor
namespace Go.Proofs
open Go.Den
open IntKind (wrap)
open Int (toNat)
section
open Go.Shelf
def Tryz.Rx:Go.Shelf.Ren:=⟨fun|145=>313|220=>322|219=>326|217=>328|225=>329|224=>330|267=>331|266=>332|314=>333|n=>n,fun|9=>9|4=>4|59=>409|3=>3|5=>5|46=>211|146=>427|51=>315|n=>n,fun|1=>5|n=>n⟩
theorem Tryz.afr:Go.Proofs.Lays.n145 Tryz.prog Tryz.Rx:= {
 mixed:=by kernel_rfl
 f145:=Tryz.func313.trans (bp some (by kernel_rfl))
 f217:=Tryz.func328.trans (bp some (by kernel_rfl))
 f219:=Tryz.func326.trans (bp some (by kernel_rfl))
 f220:=Tryz.func322.trans (bp some (by kernel_rfl))
 f224:=Tryz.func330.trans (bp some (by kernel_rfl))
 f225:=Tryz.func329.trans (bp some (by kernel_rfl))
 f266:=Tryz.func332.trans (bp some (by kernel_rfl))
 f267:=Tryz.func331.trans (bp some (by kernel_rfl))
 f314:=Tryz.func333.trans (bp some (by kernel_rfl))
 t3:=Tryz.underlying3
 a3:=Tryz.isAgg3
 z3:=Tryz.sizeOf3
 v3:=Tryz.zeroValue3
 t4:=Tryz.underlying4
 a4:=Tryz.isAgg4
 z4:=Tryz.sizeOf4
 v4:=Tryz.zeroValue4
 t5:=Tryz.underlying5
 a5:=Tryz.isAgg5
 z5:=Tryz.sizeOf5
 v5:=Tryz.zeroValue5
 t9:=Tryz.underlying9
 a9:=Tryz.isAgg9
 z9:=Tryz.sizeOf9
 v9:=Tryz.zeroValue9
 t46:=Tryz.underlying211
 a46:=Tryz.isAgg211
 z46:=Tryz.sizeOf211
 v46:=Tryz.zeroValue211
 t51:=Tryz.underlying315
 a51:=Tryz.isAgg315
 z51:=Tryz.sizeOf315
 v51:=Tryz.zeroValue315
 t59:=Tryz.underlying409
 a59:=Tryz.isAgg409
 z59:=Tryz.sizeOf409
 v59:=Tryz.zeroValue409
 t146:=Tryz.underlying427
 a146:=Tryz.isAgg427
 z146:=Tryz.sizeOf427
 v146:=Tryz.zeroValue427
 g1:=by kernel_rfl }
def Tryz.Ry:Go.Shelf.Ren:=⟨fun|103=>312|210=>321|206=>325|n=>n,fun|9=>9|4=>4|24=>407|3=>3|n=>n,fun|n=>n⟩
theorem Tryz.afs:Go.Proofs.Lays.n103 Tryz.prog Tryz.Ry:= {
 mixed:=by kernel_rfl
 f103:=Tryz.func312.trans (bp some (by kernel_rfl))
 f206:=Tryz.func325.trans (bp some (by kernel_rfl))
 f210:=Tryz.func321.trans (bp some (by kernel_rfl))
 t3:=Tryz.underlying3
 a3:=Tryz.isAgg3
 z3:=Tryz.sizeOf3
 v3:=Tryz.zeroValue3
 t4:=Tryz.underlying4
 a4:=Tryz.isAgg4
 z4:=Tryz.sizeOf4
 v4:=Tryz.zeroValue4
 t9:=Tryz.underlying9
 a9:=Tryz.isAgg9
 z9:=Tryz.sizeOf9
 v9:=Tryz.zeroValue9
 t24:=Tryz.underlying407
 a24:=Tryz.isAgg407
 z24:=Tryz.sizeOf407
 v24:=Tryz.zeroValue407 }
end
end Go.Proofs
namespace Go.Proofs.YtlenamcfacpheaaGreatDoor
open Go.Den
open IntKind (wrap)
open Int (toNat)
section
namespace Gi
variable {h h':aj} {R:iI}
def Mx (h:aj):Prop:= ∃m,ak h ⟨5,0,none⟩=some (.int .i64 m)
theorem Mx.on (M:Mx h) (f:Fr No h h'):Mx h':=by
 obtain⟨m,hm⟩:=M;exact⟨m,f.cell hm id⟩
theorem O7 {s sep:ByteArray} (M:Mx h) (hs:s.size<4294967281) (hk:R (.tuple #[.string ⟨(Lib.cut s.data.toList sep.data.toList).1.toArray⟩,.string ⟨(Lib.cut s.data.toList sep.data.toList).2.1.toArray⟩,.bool (Lib.cut s.data.toList sep.data.toList).2.2]) h):Cl F.strings_Cut #[.string s,.string sep] h R:=λw hw=>by
 subst hw;obtain⟨m,hm⟩:=M;refine(Any.strings_Cut Tryz.afr s sep m w hs (by rw[uD];exact hm)).mono λe w' ⟨he,n,hw'⟩=>⟨_,he,?_,?_⟩
 ·rw[hw'];exact hk
 ·rw[hw'];exact⟨rfl,rfl,rfl⟩
theorem aar {s p:ByteArray} (hk:R (.tuple #[.string ⟨(Lib.trimPrefix s.data.toList p.data.toList).toArray⟩,.bool (Lib.hasPrefix s.data.toList p.data.toList)]) h):Cl F.strings_CutPrefix #[.string s,.string p] h R:=λw hw=>
 (Any.strings_CutPrefix Tryz.afs s p w).mono λe w' ⟨he,hw'⟩=>⟨_,he,by rw[hw',hw];exact hk,by rw[hw'];exact iC.refl _⟩
end Gi
end
section
namespace Bn
open Cb
open qI (Ev dj)
def Ay (s q:Nat):Nat:=if s%2=1 then(s/2) ^^^ q else s/2
def Cu (q:Nat):Nat->Nat->Nat
 |0,s=>s
 |k+1,s=>Cu q k (Ay s q)
def ahV (s c q:Nat):Nat:=Cu q 8 (s ^^^ c)
def runN (s:Nat) (b:List UInt8) (q:Nat):Nat:=b.foldl (λs c=>ahV s c.toNat q) s
def Kd (b:List UInt8):Nat:=65535 ^^^ (runN 65535 b 33800%65536)
def HO (b:List UInt8):Nat:=4294967295 ^^^ runN 4294967295 b 2197175160
def O8 (b:List UInt8):List UInt8:= [UInt8.ofNat (Kd b/256),UInt8.ofNat (Kd b)]
def V9 (b:List UInt8):List UInt8:= [UInt8.ofNat (HO b/16777216),UInt8.ofNat (HO b/65536),UInt8.ofNat (HO b/256),UInt8.ofNat (HO b)]
def Rz (x:Ev):List UInt8:= [47,47]++x.host.data.toList++ [47]++x.sM.data.toList
def Md (x:Ev):Tr:=if x=.zero then DE [num 1,num 0] else if x.vD=true then DE [num 2,DE [num x.node.toNat,num x.l6.toNat]] else DE [num 1,.mk 3 0 (Rz x) []]
def HP (s:List UInt8):Ev:=⟨false,0,0,⟨(Lib.cut (Lib.trimPrefix s [47,47]) [47]).1.toArray⟩,⟨(Lib.cut (Lib.trimPrefix s [47,47]) [47]).2.1.toArray⟩⟩
def Ff (s:List UInt8):Bool:=Lib.hasPrefix s [47,47] && (Lib.cut (Lib.trimPrefix s [47,47]) [47]).2.2 && !(Lib.cut (Lib.trimPrefix s [47,47]) [47]).1.isEmpty && dj (HP s)
def at_ (l:List Tr) (i:Nat):Tr:=l.getD i V4
def Ke (l:List Tr):Bool:=l.all λt=>yV t (num t.n)
def acd (t:Tr):Ev:=⟨true,((at_ t.l 0).n:Int),((at_ t.l 1).n:Int),⟨#[]⟩,⟨#[]⟩⟩
def zx (V:List UInt8->Bool) (t:Tr):Option Ev:=
 if lu V t=true/\t.k=4/\t.l.length=2 then
  if yV (at_ t.l 0) (num 1)=true/\yV (at_ t.l 1) (num 0)=true then some .zero
  else if yV (at_ t.l 0) (num 1)=true/\(at_ t.l 1).k=3 then(if Ff (at_ t.l 1).b=true then some (HP (at_ t.l 1).b) else none)
  else if yV (at_ t.l 0) (num 2)=true then(if(at_ t.l 1).k=4/\(at_ t.l 1).l.length=2/\Ke (at_ t.l 1).l=true/\dj (acd (at_ t.l 1))=true then some (acd (at_ t.l 1)) else none)
  else none
 else none
structure oY where
 e:Ev
 tm:Nat
 sq:Nat
deriving DecidableEq
def oY.zero:oY:=⟨.zero,0,0⟩
def lC (x:oY):Bool:=dj x.e && decide (x.tm<=1099511627776) && decide (x.sq<=1099511627776)
def idT (x:oY):Tr:=DE [Md x.e,DE [num x.tm,num x.sq]]
def uz (V:List UInt8->Bool) (t:Tr):Option oY:=
 if t.k=4/\t.l.length=2/\(at_ t.l 1).k=4/\(at_ t.l 1).l.length=2 then
  match zx V (at_ t.l 0) with
  |none=>none
  |some e=>if lC ⟨e,(at_ (at_ t.l 1).l 0).n,(at_ (at_ t.l 1).l 1).n⟩=true/\yV (idT ⟨e,(at_ (at_ t.l 1).l 0).n,(at_ (at_ t.l 1).l 1).n⟩) t=true then some ⟨e,(at_ (at_ t.l 1).l 0).n,(at_ (at_ t.l 1).l 1).n⟩ else none
 else none
def typeAt (l:List Tr) (i:Nat):Int:=if i<l.length/\(at_ l i).n<=2/\yV (at_ l i) (num (at_ l i).n)=true then((at_ l i).n:Int) else -1
def sumOf (V:List UInt8->Bool) (l:List Tr) (sum:Nat):Except Int (List UInt8):=
 if lu V (DE (l++ [BG (List.replicate (2*sum) 0)]))=true then .ok (if sum=1 then O8 (enc (DE (l++ [BG (List.replicate (2*sum) 0)]))) else V9 (enc (DE (l++ [BG (List.replicate (2*sum) 0)])))) else .error 3
def x7 (V:List UInt8->Bool) (l:List Tr) (i:Nat):Except Int Tr:=
 if i<l.length then
  if l.all (lu V)=true/\0<=typeAt l i then
   if 0<typeAt l i then(match sumOf V l (typeAt l i).toNat with
    | .error e=> .error e
    | .ok b=>if lu V (DE (l++ [BG b]))=true then .ok (DE (l++ [BG b])) else .error 3)
   else if lu V (DE l)=true then .ok (DE l) else .error 3
  else .error 3
 else .error 1
def Bb (V:List UInt8->Bool) (t:Tr) (i:Nat):Except Int (List Tr):=
 if lu V t=true/\t.k=4/\0<=typeAt t.l i then
  if typeAt t.l i=0 then .ok t.l
  else if i<t.l.length - 1/\yV (at_ t.l (t.l.length - 1)) (BG (at_ t.l (t.l.length - 1)).b)=true/\(at_ t.l (t.l.length - 1)).b.length=2*(typeAt t.l i).toNat then
   (match sumOf V (t.l.take (t.l.length - 1)) (typeAt t.l i).toNat with
   | .error e=> .error e
   | .ok b=>if b=(at_ t.l (t.l.length - 1)).b then .ok (t.l.take (t.l.length - 1)) else .error 10)
  else .error 3
 else .error 3
structure Prim where
 fl:Nat
 sum:Int
 dest:Ev
 rep:Ev
 id:oY
 gI:Nat
deriving DecidableEq
def Prim.zero:Prim:=⟨0,0,.zero,.zero,.zero,0⟩
def flB (n all:Int):Bool:=IntKind.wrap .u64 ((BitVec.ofInt (IntKind.bits .u64) n &&& ~~~ BitVec.ofInt (IntKind.bits .u64) all).toNat:Int)==0
def qQ (p:Prim):Bool:=flB (p.fl:Int) 409638 && decide (0<=p.sum) && decide (p.sum<=2) && dj p.dest && dj p.rep && lC p.id && decide (p.gI<=1099511627776)
def RA (p:Prim):List Tr:= [num 7,num p.fl,num p.sum.toNat,Md p.dest,Md p.id.e,Md p.rep,DE [num p.id.tm,num p.id.sq],num p.gI]
def x8 (V:List UInt8->Bool) (p:Prim):Except Int Tr:=if qQ p=true then x7 V (RA p) 2 else .error 3
def GD (l:List Tr) (d r:Ev) (i:oY):Prim:=⟨(at_ l 1).n,((at_ l 2).n:Int),d,r,i,(at_ l 7).n⟩
def HQ (V:List UInt8->Bool) (t:Tr):Except Int Prim:=
 match Bb V t 2 with
 | .error e=> .error e
 | .ok l=>if l.length=8 then(match zx V (at_ l 3),zx V (at_ l 5),uz V (DE [at_ l 4,at_ l 6]) with
  |some d,some r,some i=>(match x8 V (GD l d r i) with
   | .ok again=>if yV again t=true then .ok (GD l d r i) else .error 3
   | .error _=> .error 3)
  |_,_,_=> .error 3) else .error 3
structure xU where
 ty:Nat
 nr:Nat
 fl:Nat
 sum:Int
 data:List UInt8
deriving DecidableEq
def RB (l:List Nat):Tr:=DE (l.map num)
def qR (V:List UInt8->Bool) (bs:List UInt8):Bool:=match A8 V bs with| .ok (t,nx)=>decide (nx=bs.length) && decide (enc t=bs)| .error _=>false
def gl (V:List UInt8->Bool) (bs:List UInt8):Tr:=match A8 V bs with| .ok (t,_)=>t| .error _=>V4
def ajR (V:List UInt8->Bool) (d:List UInt8):Bool:=qR V d && yV (gl V d) (num (gl V d).n) && decide ((gl V d).n<=1099511627776)
def yK (t:Tr):Nat:=(at_ t.l 0).n
def Kf (t:Tr):Nat:=(at_ t.l 1).n
def ace (V:List UInt8->Bool) (d:List UInt8):Bool:=qR V d && decide ((gl V d).k=4/\(gl V d).l.length=2) && yV (gl V d) (RB [yK (gl V d),Kf (gl V d)]) && decide (1<=yK (gl V d)/\yK (gl V d)<=255/\Kf (gl V d)<=yK (gl V d))
def Kg (V:List UInt8->Bool) (ty:Nat) (d:List UInt8):Bool:=(if ty=6 then qR V d && (zx V (gl V d)).isSome else if ty=7 then ajR V d else if ty=10 then ace V d else true) && decide (d.length<=200)
def vE (n:Nat):Bool:=decide (1<=n/\n<=255)
def sd (V:List UInt8->Bool) (b:xU):Bool:=vE b.ty && vE b.nr && flB (b.fl:Int) 23 && decide (0<=b.sum) && decide (b.sum<=2) && Kg V b.ty b.data
def aas (b:xU):List Tr:= [num b.ty,num b.nr,num b.fl,num b.sum.toNat,BG b.data]
def DI (V:List UInt8->Bool) (b:xU):Except Int Tr:=if sd V b=true then x7 V (aas b) 3 else .error 3
def Cv (l:List Tr):xU:=⟨(at_ l 0).n,(at_ l 1).n,(at_ l 2).n,((at_ l 3).n:Int),(at_ l 4).b⟩
def Kh (V:List UInt8->Bool) (t:Tr):Except Int xU:=
 match Bb V t 3 with
 | .error e=> .error e
 | .ok l=>if l.length=5/\(at_ l 4).k=2 then(match DI V (Cv l) with
  | .ok again=>if yV again t=true then .ok (Cv l) else .error 3
  | .error _=> .error 3) else .error 3
structure BO where
 p:Prim
 bl:List xU
deriving DecidableEq
def alone (k:Nat):Bool:=decide (k=1\/k=6\/k=7\/k=10)
def apart (b c:xU):Bool:=decide (c.nr≠b.nr) && (decide (c.ty≠b.ty)|| !alone b.ty)
def Ut (V:List UInt8->Bool):List xU->List xU->Bool
 |_, []=>true
 |pre,b::l=>sd V b && pre.all (apart b) && Ut V (pre++ [b]) l
def Me (V:List UInt8->Bool) (l:List xU):Bool:=match l.getLast? with
 |none=>false
 |some z=>decide (l.length<=8) && decide (z.ty=1/\z.nr=1) && Ut V [] l
def Ki (V:List UInt8->Bool) (t:Tr):List UInt8:=if lu V t=true then enc t else []
def RC (V:List UInt8->Bool):List xU->List UInt8->Option (List UInt8)
 | [],out=>some out
 |b::l,out=>match DI V b with
  | .error _=>none
  | .ok t=>RC V l (out++Ki V t)
def Cw (V:List UInt8->Bool) (b:BO):Option (List UInt8):=match x8 V b.p with
 | .error _=>none
 | .ok t=>RC V b.bl (Ki V t)
def vc (V:List UInt8->Bool) (b:BO):Option (List UInt8):=
 if Me V b.bl=true then(match Cw V b with
  |none=>none
  |some l=>if l.length<=598 then some (159::(l++ [255])) else none)
 else none
def RE (V:List UInt8->Bool):List Tr->List xU->Except Int (List xU)
 | [],out=> .ok out
 |t::l,out=>match Kh V t with
  | .error e=> .error e
  | .ok b=>RE V l (out++ [b])
def Fh (V:List UInt8->Bool) (bs:List UInt8):Except Int BO:=
 if bs.length<=1200 then(match A8 V bs with
  | .error e=> .error e
  | .ok (t,nx)=>if nx=bs.length/\t.k=4/\2<=t.l.length/\t.l.length<=9 then(match HQ V (at_ t.l 0) with
   | .error e=> .error e
   | .ok p=>(match RE V (t.l.drop 1) [] with
    | .error e=> .error e
    | .ok l=>if(vc V ⟨p,l⟩).isSome=true then .ok ⟨p,l⟩ else .error 3)) else .error 3)
 else .error 2
def IE (b:BO):List UInt8:=match b.bl.getLast? with|none=> []|some z=>z.data
structure LO where
 rc:Bool
 dl:Bool
 de:Bool
 reason:Nat
 at':Nat
 of:oY
deriving DecidableEq
def nA (r:LO):Bool:=(r.rc||r.dl||r.de) && decide (r.reason<=255) && decide (r.at'<=1099511627776) && lC r.of
def RG (l:List Bool):Tr:=DE (l.map λb=>num (if b=true then 1 else 0))
def O9 (r:LO):Tr:=DE [num 1,DE [RG [r.rc,r.dl,r.de],num r.reason,num r.at',idT r.of]]
def aat (V:List UInt8->Bool) (r:LO):Option (List UInt8):=if nA r=true/\lu V (O9 r)=true then some (enc (O9 r)) else none
def vz (V:List UInt8->Bool) (r:LO) (dest:Ev) (id:oY) (gI:Nat):Option BO:=match aat V r with
 |none=>none
 |some b=>if(vc V ⟨⟨2,0,dest,.zero,id,gI⟩, [⟨1,1,0,0,b⟩]⟩).isSome=true then some ⟨⟨2,0,dest,.zero,id,gI⟩, [⟨1,1,0,0,b⟩]⟩ else none
end Bn
end
section
namespace Ask
open qI (Ev dj)
structure Rq where
 id:Nat
 kind:Int
 ep:Ev
 dest:Ev
 uE:Int
 num:Int
 kq:Int
 Be:List UInt8
 gI:Nat
 token:Nat
 on:Bool
deriving DecidableEq
def oZ (x:Rq):Rq:=⟨x.id,x.kind,.zero,.zero,0,0,0, [],0,0,false⟩
def BI (x:Rq):Rq:=
 if x.kind=1\/x.kind=3 then { oZ x with ep:=x.ep,uE:=x.uE }
 else if x.kind=2\/x.kind=6 then { oZ x with ep:=x.ep }
 else if x.kind=4 then { oZ x with ep:=x.ep,dest:=x.dest,Be:=x.Be,gI:=x.gI,on:=x.on }
 else if x.kind=5\/x.kind=8\/x.kind=9 then { oZ x with num:=x.num }
 else if x.kind=7 then { oZ x with ep:=x.ep,kq:=x.kq }
 else if x.kind=10 then { oZ x with on:=x.on }
 else if x.kind=12 then { oZ x with token:=x.token }
 else oZ x
def tZ (e:Ev):Bool:=dj e && !decide (e=.zero)
def tB (x:Rq):Bool:=
 if x.kind=1\/x.kind=3 then tZ x.ep && decide (x.uE≥0) && decide (x.uE<=2)
 else if x.kind=2\/x.kind=6 then tZ x.ep
 else if x.kind=4 then tZ x.ep && tZ x.dest && decide (x.Be.length<=200) && decide (x.gI≥1) && decide (x.gI<=1099511627776)
 else if x.kind=5\/x.kind=8\/x.kind=9 then decide (x.num≥1) && decide (x.num<=1099511627776)
 else if x.kind=7 then tZ x.ep && decide (x.kq≥1) && decide (x.kq<=1000)
 else if x.kind=12 then decide (x.token≥1) && decide (x.token<=2147483648)
 else decide (x.kind=10\/x.kind=11)
def pC (x:Rq):Bool:=decide (x.id≥1) && decide (x.id<=1099511627776) && tB x && decide (x=BI x)
end Ask
end
section
variable {h:aj} {R:iI}
theorem cu.walk {oB:bU} {mF qJ:Nat} (hv:if oB.isNone then R (.Z) h else aV h (.cells #[] T.uint8) λb aR=>aX Tryz.prog (Builtin.append_ #[T.dt,T.dt] T.dt #[.slice (some (AA b 0)) 0 0,.slice oB mF qJ]) aR λv aZ=> ∃Ey Ez EA,v=.slice Ey Ez EA/\R (.slice Ey Ez EA) aZ):Cl F.cu #[.slice oB mF qJ] h R:=aS (lq (sq (lq (cq ll lf)) ll)) Tryz.func50 hv
theorem wT.walk (hv:aV h (.cells #[.bool true,.Z] T.yJ) λb aR=>R (.P b 0) aR):Cl F.wT #[] h R:=aS (lq ll) Tryz.func65 hv
theorem iV.walk {w:Nat} {n:Int} (hv:aK (λ(t13:Bool) (aR:aj)=>if t13 then R (.P w 0) aR else∃(I:Int->aj->Prop) (mu:Int->aj->Nat),I n aR/\∀(n_1:Int) (aZ:aj),I n_1 aZ->if(decide (n_1>127)) then Hl aZ w 1 λvd ua vF=>aV aZ (.cells #[.int .u8 (wrap .u8 ((BitVec.ofInt (IntKind.bits .u8) (wrap .u8 n_1)|||BitVec.ofInt (IntKind.bits .u8) 128).toNat:Int))] T.uint8) λb bJ=>aX Tryz.prog (Builtin.append_ #[T.dt,T.dt] T.dt #[.slice vd ua vF,.slice (some (AA b 0)) 1 1]) bJ λv cB=> ∃x9 rE ya,v=.slice x9 rE ya/\aH cB (AA w 1) (.slice x9 rE ya) λcJ=>(I (Int.fdiv n_1 (2 ^ min (toNat 7) (IntKind.bits .u64))) cJ/\mu (Int.fdiv n_1 (2 ^ min (toNat 7) (IntKind.bits .u64))) cJ<mu n_1 aZ) else Hl aZ w 1 λzy yc zA=>aV aZ (.cells #[.int .u8 (wrap .u8 n_1)] T.uint8) λcD cQ=>aX Tryz.prog (Builtin.append_ #[T.dt,T.dt] T.dt #[.slice zy yc zA,.slice (some (AA cD 0)) 1 1]) cQ λeJ cW=> ∃oq kH oF,eJ=.slice oq kH oF/\aH cW (AA w 1) (.slice oq kH oF) λdA=>R (.P w 0) dA) (λJ=> ∃t11,ak h (AA w 0)=some (.bool t11)/\J (!t11) h)):Cl F.iV #[.P w 0,.U n] h R:=aS (lq (sq (sq (.join [(13,.one (.bool))] lf) (cq ll lf)) (sq (bq (.loop [(1,.one (.int .u64))] (sq (lq (cq lf lf)) (bq ll)))) (lq ll)))) Tryz.func72 hv
theorem jB.walk {w:Nat} {n:Int} (hv:Cl F.iV #[.P w 0,.U (wrap .u64 (if 0>n then 0 else n))] h λv aR=> ∃t9,v=.pointer t9/\R (.pointer t9) aR):Cl F.jB #[.P w 0,.I n] h R:=aS (lq ll) Tryz.func66 hv
theorem mg.walk {w:Nat} {Bf:bU} {xd Dq:Nat} (hv:Cl F.iV #[.P w 0,.U (wrap .u64 (xd:Int))] h λv aR=>Vp v λt9=>aK (λ(t17:Bool) (aZ:aj)=>aK (λ(bJ:aj)=>R (.P w 0) bJ) (λjo=>if t17 then Hl aZ w 1 λFi Fj Cx=>aX Tryz.prog (Builtin.append_ #[T.dt,T.dt] T.dt #[.slice Fi Fj Cx,.slice Bf xd Dq]) aZ λeJ cB=> ∃iP iy iz,eJ=.slice iP iy iz/\aH cB (AA w 1) (.slice iP iy iz) λcJ=>jo cJ else jo aZ)) (λJ=> ∃t16,ak aR (AA w 0)=some (.bool t16)/\J t16 aR)):Cl F.mg #[.P w 0,.slice Bf xd Dq] h R:=aS (lq (lq (sq (sq (.join [(17,.one (.bool))] lf) (.join [] (cq lf lf))) ll))) Tryz.func71 hv
theorem kZ.walk {w:Nat} (hv:Hl h w 1 λyL vQ Az=>Cl F.cu #[.slice yL vQ Az] h λv aR=> ∃aau aav aft,v=.slice aau aav aft/\R (.slice aau aav aft) aR):Cl F.kZ #[.P w 0] h R:=aS (lq (sq (lq (cq ll lf)) ll)) Tryz.func67 hv
theorem iX.walk {f:Nat} {e:Int} (hv: ∃t7,ak h (AA f 0)=some (.I t7)/\if(t7==0) then aH h (AA f 0) (.I e) λaR=>R (.tuple #[]) aR else R (.tuple #[]) h):Cl F.iX #[.P f 0,.I e] h R:=aS (lq (cq lf lf)) Tryz.func144 hv
theorem uW.walk {Bf:bU} {xd Dq:Nat} (hv:Cl F.cu #[.slice Bf xd Dq] h λv aR=>Vl v λPa Mf Pb=>aV aR (.cells #[.I 0,.bool true,.slice Pa Mf Pb] T.DS) λb aZ=>R (.P b 0) aZ):Cl F.uW #[.slice Bf xd Dq] h R:=aS (lq ll) Tryz.func91 hv
theorem jX.walk {r:Nat} (hv: ∃t9,ak h (AA r 1)=some (.bool t9)/\if t9 then∃t16,ak h (AA r 0)=some (.I t16)/\R (.bool (t16==0)) h else R (.bool false) h):Cl F.jX #[.P r 0] h R:=aS (lq ll) Tryz.func143 hv
theorem iW.walk {r:Nat} (hv:aK (λ(aR:aj)=>R (.U 0) aR) (λJ=> ∃(I:Int->Int->aj->Prop) (mu:Int->Int->aj->Nat),I 0 0 h/\∀(n:Int) (i:Int) (aZ:aj),I n i aZ->Cl F.jX #[.P r 0] aZ λv bJ=> ∃t7,v=.bool t7/\if t7 then∃HR Cy Kj,ak bJ (AA r 2)=some (.slice HR Cy Kj)/\if((Cy:Int)==0) then Cl F.iX #[.P r 0,.I 8] bJ λeJ cB=>eJ=.tuple #[]/\J cB else Hl bJ r 2 λzB xe DV=>Bd 0 xe/\aP zB λa=>V1 bJ (a.add (toNat 0*1)) λt25=>Hl bJ r 2 λo0 nJ pM=>((0:Int)<=1/\1<=(nJ:Int))/\aH bJ (AA r 2) (.slice (cZ o0 pM (toNat 1) 1) (nJ - (toNat 1)) (pM - (toNat 1))) λcJ=>aK (λ(t52:Bool) (cQ:aj)=>if t52 then Cl F.iX #[.P r 0,.I 3] cQ λgR cW=>gR=.tuple #[]/\J cW else if wrap .i64 (7*i)<0 then False else if((wrap .u8 ((BitVec.ofInt (IntKind.bits .u8) t25 &&& BitVec.ofInt (IntKind.bits .u8) 128).toNat:Int))==0) then R (.U (wrap .u64 ((BitVec.ofInt (IntKind.bits .u64) n|||BitVec.ofInt (IntKind.bits .u64) (wrap .u64 ((wrap .u64 (wrap .u8 ((BitVec.ofInt (IntKind.bits .u8) t25 &&& BitVec.ofInt (IntKind.bits .u8) 127).toNat:Int)))*2 ^ min (toNat (wrap .i64 (7*i))) (IntKind.bits .u64)))).toNat:Int))) cQ else(I (wrap .u64 ((BitVec.ofInt (IntKind.bits .u64) n|||BitVec.ofInt (IntKind.bits .u64) (wrap .u64 ((wrap .u64 (wrap .u8 ((BitVec.ofInt (IntKind.bits .u8) t25 &&& BitVec.ofInt (IntKind.bits .u8) 127).toNat:Int)))*2 ^ min (toNat (wrap .i64 (7*i))) (IntKind.bits .u64)))).toNat:Int)) (wrap .i64 (i+1)) cQ/\mu (wrap .u64 ((BitVec.ofInt (IntKind.bits .u64) n|||BitVec.ofInt (IntKind.bits .u64) (wrap .u64 ((wrap .u64 (wrap .u8 ((BitVec.ofInt (IntKind.bits .u8) t25 &&& BitVec.ofInt (IntKind.bits .u8) 127).toNat:Int)))*2 ^ min (toNat (wrap .i64 (7*i))) (IntKind.bits .u64)))).toNat:Int)) (wrap .i64 (i+1)) cQ<mu n i aZ)) (λjo=>if(i==10) then jo true cJ else if((wrap .i64 (i*7))==63) then if(decide (t25>1)) then jo true cJ else if(t25==0) then jo (decide (i>0)) cJ else jo false cJ else if(t25==0) then jo (decide (i>0)) cJ else jo false cJ) else J bJ)):Cl F.iW #[.P r 0] h R:=aS (lq (lq (sq (lq (.join [] (bq (.loop [(3,.one (.int .u64)),(4,.one (.int .i64))] (sq (lq (cq lf lf)) (sq (bq (sq (lq (cq ll lf)) (lq (lq (sq (sq (.join [(52,.one (.bool))] lf) (cq ll lf)) (lq (lq (cq ll lf)))))))) lf)))))) ll))) Tryz.func92 hv
theorem kg.walk {r:Nat} {top:Int} (hv:Cl F.iW #[.P r 0] h λv aR=> ∃t7,v=.U t7/\if(decide (t7>top)) then Cl F.iX #[.P r 0,.I 3] aR λeJ aZ=>eJ=.tuple #[]/\R (.U 0) aZ else R (.U t7) aR):Cl F.kg #[.P r 0,.U top] h R:=aS (lq (lq (sq (lq (cq (lq ll) lf)) ll))) Tryz.func145 hv
theorem jC.walk {r:Nat} (hv:Cl F.kg #[.P r 0,.U 1099511627776] h λv aR=> ∃t4,v=.U t4/\R (.I (wrap .i64 t4)) aR):Cl F.jC #[.P r 0] h R:=aS (lq ll) Tryz.func93 hv
theorem mh.walk {r:Nat} (hv:Cl F.iW #[.P r 0] h λv aR=>Vu v λt6=>Cl F.jX #[.P r 0] aR λeJ aZ=> ∃t8,eJ=.bool t8/\if(!t8) then R (.Z) aZ else∃Bh ve Bi,ak aZ (AA r 2)=some (.slice Bh ve Bi)/\if(decide (t6>(wrap .u64 (ve:Int)))) then Cl F.iX #[.P r 0,.I 8] aZ λgR bJ=>gR=.tuple #[]/\R (.Z) bJ else Hl aZ r 2 λacf ahW Wa=>((0:Int)<=t6/\t6<=(Wa:Int))/\Cl F.cu #[.slice (cZ acf Wa 0 1) ((toNat t6) - 0) (Wa - 0)] aZ λkU cB=>Vl kU λBj zC Fk=>Hl cB r 2 λrF pO rG=>((0:Int)<=t6/\t6<=(pO:Int))/\aH cB (AA r 2) (.slice (cZ rF rG (toNat t6) 1) (pO - (toNat t6)) (rG - (toNat t6))) λcJ=>R (.slice Bj zC Fk) cJ):Cl F.mh #[.P r 0] h R:=aS (lq (lq (sq (lq (cq ll lf)) (sq (lq (cq (lq ll) lf)) (lq (lq ll)))))) Tryz.func94 hv
theorem mT.walk {r:Nat} (hv:aK (λ(t3:Bool) (aR:aj)=>if t3 then R (.I 6) aR else∃t18,ak aR (AA r 0)=some (.I t18)/\if(t18 !=0) then∃t24,ak aR (AA r 0)=some (.I t24)/\R (.I t24) aR else∃Bl yd Cz,ak aR (AA r 2)=some (.slice Bl yd Cz)/\if(decide ((yd:Int)>0)) then R (.I 2) aR else R (.I 0) aR) (λJ=> ∃t10,ak h (AA r 1)=some (.bool t10)/\J (!t10) h)):Cl F.mT #[.P r 0] h R:=aS (lq (sq (bq (sq (.join [(3,.one (.bool))] lf) (cq ll (lq (cq ll (lq (cq ll lf))))))) ll)) Tryz.func95 hv
end
section
namespace vf
variable {h:aj} {bs:List UInt8} {R:iI}
theorem tU:Ao Tryz.prog T.dt T.uint8 1 1 (.int .u8 0):=⟨by kernel_rfl,by kernel_rfl,rfl⟩
theorem uU:Tryz.prog.underlying T.dt=some (.slice T.uint8):=by kernel_rfl
theorem u8:Tryz.prog.underlying T.uint8=some (.int .u8):=by kernel_rfl
theorem uS:Tryz.prog.underlying T.string=some .string:=by kernel_rfl
theorem conv {p:bU} {n c:Nat} (hr:Row h p (bc bs)) (hn:n=bs.length):DP Tryz.prog T.dt T.string (.slice p n c) h (str bs):=abP uU u8 uS hr hn
theorem my {p:bU} {c n:Nat} (hr:Row h p (bc bs)) (hn:n=bs.length) (hl:bs.length<=70368744177664)
  (hk: ∀p' c' h',iR h' p' bs.length c' 1 (bc bs)->Fr No h h'->(∀x,aQ p' x->h.size<=x)->R (.slice p' bs.length c') h'):
  Cl F.cu #[.slice p n c] h R:=by
 subst hn;refine cu.walk ?_;cases p with
 |none=>
  have:bs= []:=by
   rcases hr with hr|⟨a,e,_⟩
   ·cases bs with
    |nil=>rfl
    |cons b bs=>cases hr
   ·cases e
  subst this;exact hk none 0 h (.nil rfl rfl rfl rfl) (Fr.refl _ _) (λx ⟨a,e,_⟩=>by cases e)
 |some a=>
  simp only[Option.isNone_some,aA,aU];refine cX ?_;have f1:Fr No h (h.push (.cells #[] T.uint8)):=Fr.push _ _;refine fQ (cs:= []) tU uU (.row h.size 0 #[] T.uint8 rfl cz (bh _) (by simp) rfl (λj v hj=>by cases hj)) (hr.frame f1 (λ_ _=>id)) (by rw[sU,cN]) (Cg bs) (by omega) (by omega) ?_;intro p' c' h' o1 _ f2 g;rw[bZ,fk] at o1;refine⟨_,_,_,rfl,?_⟩;rw[bZ];have g': ∀x,aQ p' x->h.size<=x:=λx hx=>by
   rcases g x hx with⟨a,e,rfl⟩|h2
   ·cases e;exact bh _
   ·simp at h2;omega
  exact hk p' c' h' o1 (f1.step f2 (λc hc ⟨a,e,e2⟩=>by cases e;simp at e2;omega)) g'
theorem ajS {bs:List UInt8} {n:Nat} {cs:Array Value} {K:bU->Nat->Nat->aj->Prop} (hc:cs=(bc bs).toArray) (hk: ∀h',Row h' (some (AA h.size 0)) (bc bs)->Fr No h h'->K (some (AA h.size 0)) n n h'):
  aV h (.cells cs T.uint8) λb cB=>aX Tryz.prog (convert T.dt T.dt (.slice (some (AA b 0)) n n)) cB λv cJ=> ∃(p:bU) (l c:Nat),v=.slice p l c/\K p l c cJ:=by
 subst hc;refine cX (afk uU u8 (a:=(AA h.size 0)) cz λh4 fz4 ma sz4 ot4=>⟨_,_,_,rfl,?_⟩);refine hk h4 (.inr ⟨_,rfl,lR ma (λj v hj=>by rw[bZ];simpa using hj)⟩) ⟨by rw[sz4];simp,λc hc _=>by rw[ot4 c (by simp;omega),iA,dL]⟩
end vf
end
end Go.Proofs.YtlenamcfacpheaaGreatDoor
namespace Go.jH
def CA:Nat->Nat->List UInt8
 |0,n=> [UInt8.ofNat n]
 |f+1,n=>if n>127 then UInt8.ofNat (n%128+128)::CA f (n/128) else [UInt8.ofNat n]
def lD (n:Nat):List UInt8:=CA 9 n
theorem MU: ∀(f n:Nat),n<128 ^ (f+1)->CA (f+1) n=CA f n
 |0,n,h=>by
  unfold CA;rw[dL]
 |f+1,n,h=>by
  rw[show CA (f+1+1) n=if n>127 then UInt8.ofNat (n%128+128)::CA (f+1) (n/128) else [UInt8.ofNat n] from rfl,
   show CA (f+1) n=if n>127 then UInt8.ofNat (n%128+128)::CA f (n/128) else [UInt8.ofNat n] from rfl]
  split
  ·rw[MU f (n/128) (by rw[Nat.pow_succ] at h;omega)]
  ·rfl
theorem HS {n:Nat} (h:n<18446744073709551616):lD n=if n>127 then UInt8.ofNat (n%128+128)::lD (n/128) else [UInt8.ofNat n]:=by
 unfold lD;rw[CA];split
 ·rw[<-MU 8 (n/128) (by omega)]
 ·rfl
theorem RH: ∀(f n:Nat),1<=(CA f n).length/\(CA f n).length<=f+1
 |0,n=>by simp[CA]
 |f+1,n=>by
  have:=RH f (n/128);rw[CA];split
  ·simp only[bj];omega
  ·simp
theorem j0 (n:Nat):1<=(lD n).length/\(lD n).length<=10:=RH 9 n
def HF:Nat->Nat->Nat
 |0,_=>1
 |f+1,n=>if n>127 then HF f (n/128)+1 else 1
def TN:Nat->Nat->List UInt8->Nat×Int×List UInt8
 |_,_, []=>(0,8, [])
 |i,n,c::bs=>
  if i=10\/(i=9/\c.toNat>1)\/(c.toNat=0/\i>0) then(0,3,bs)
  else if c.toNat<128 then(n+c.toNat%128*2 ^ (7*i),0,bs)
  else TN (i+1) (n+c.toNat%128*2 ^ (7*i)) bs
def gz (e:Int) (bs:List UInt8):Nat×Int×List UInt8:=if e=0 then TN 0 0 bs else(0,e,bs)
theorem acg: ∀(bs:List UInt8) (i n:Nat),i<=10->n<2 ^ (7*i)->n<18446744073709551616->(TN i n bs).1<18446744073709551616
 | [],_,_,_,_,_=>by simp[TN]
 |c::bs,i,n,hi,hn,hn2=>by
  rw[TN];split
  ·simp
  ·rename_i Gv;have hc:c.toNat%128<128:=Nat.mod_lt _ (by omega);have Uu:n+c.toNat%128*2 ^ (7*i)<18446744073709551616/\n+c.toNat%128*2 ^ (7*i)<2 ^ (7*(i+1)):=by
    have hp:(2:Nat) ^ (7*(i+1))=128*2 ^ (7*i):=by rw[Nat.mul_add,Nat.pow_add,je]
    have h1:(c.toNat%128+1)*2 ^ (7*i)<=128*2 ^ (7*i):=db _ (by omega);rw[gj] at h1;refine⟨?_,by omega⟩;by_cases h9:i=9
    ·subst h9;have:c.toNat<=1:=by omega
     have:c.toNat%128<=1:=by omega
     omega
    ·have:(2:Nat) ^ (7*(i+1))<=2 ^ 63:=iN (by omega) (by omega);omega
   split
   ·exact Uu.1
   ·exact acg bs (i+1) _ (by omega) Uu.2 Uu.1
theorem Uv (e:Int) (bs:List UInt8):(gz e bs).1<18446744073709551616:=by
 unfold gz;split
 ·exact acg bs 0 0 (by omega) (by simp) (by omega)
 ·simp
theorem Pc: ∀(bs:List UInt8) (i n:Nat),(TN i n bs).2.2.length<=bs.length
 | [],_,_=>by simp[TN]
 |c::bs,i,n=>by
  rw[TN];split
  ·simp
  ·split
   ·simp
   ·have:=Pc bs (i+1) (n+c.toNat%128*2 ^ (7*i));simp only[bj];omega
theorem Wb: ∀(f n i acc:Nat) (rest:List UInt8),i+f=9->n*2 ^ (7*i)<18446744073709551616->(n=0->i=0)->TN i acc (CA f n++rest)=(acc+n*2 ^ (7*i),0,rest)
 |0,n,i,acc,rest,hf,hn,h0=>by
  have hi:i=9:=by omega
  subst hi;have hn2:n<2:=by
   have:n*2 ^ 63<2*2 ^ 63:=hn;exact Nat.lt_of_mul_lt_mul_right this
  have kA:n≠0:=λe=>by have:=h0 e;omega
  obtain rfl:n=1:=by omega
  simp[CA,TN]
 |f+1,n,i,acc,rest,hf,hn,h0=>by
  have hp:(2:Nat) ^ (7*(i+1))=128*2 ^ (7*i):=by rw[Nat.mul_add,Nat.pow_add,je]
  have hn':n<18446744073709551616:=by
   have:n*1<=n*2 ^ (7*i):=Nat.mul_le_mul_left _ (Nat.two_pow_pos _);omega
  rw[CA];split
  ·rename_i hgt;rw[fv,TN];have hc:(UInt8.ofNat (n%128+128)).toNat=n%128+128:=by rw[gV];omega
   rw[hc,dL,dL];have e1:(n%128+128)%128=n%128:=by omega
   have hdm:n=128*(n/128)+n%128:=(Nat.div_add_mod n 128).symm;rw[Wb f (n/128) (i+1) _ rest (by omega) ?_ (λe=>by omega),e1]
   ·refine Prod.ext ?_ rfl;simp only;rw[hp];have:n/128*(128*2 ^ (7*i))=(128*(n/128))*2 ^ (7*i):=by rw[je 128 (n/128),Nat.mul_assoc]
    rw[this,Nat.add_assoc,<-gj,Nat.add_comm (n%128),<-hdm]
   ·rw[hp];have:n/128*(128*2 ^ (7*i))=(128*(n/128))*2 ^ (7*i):=by rw[je 128 (n/128),Nat.mul_assoc]
    rw[this];refine Nat.lt_of_le_of_lt (db _ ?_) hn;omega
  ·rename_i hle;rw[fv,fk,TN];have hc:(UInt8.ofNat n).toNat=n:=by rw[gV];omega
   rw[hc,dL,jy,jl (by omega)]
theorem ye {n:Nat} (hn:n<18446744073709551616) (rest:List UInt8):gz 0 (lD n++rest)=(n,0,rest):=by
 unfold gz lD;rw[ag rfl,Wb 9 n 0 0 rest (by omega) (by simpa using hn) (λ_=>rfl)];simp
def pP (n:Int):Nat:=n.toNat
def AB (t:List UInt8):List UInt8:=lD t.length++t
def ach (e e':Int):Int:=if e=0 then e' else e
def mZ (top:Nat) (e:Int) (bs:List UInt8):Nat×Int×List UInt8:=
 if(gz e bs).1>top then(0,ach (gz e bs).2.1 3,(gz e bs).2.2) else gz e bs
theorem RI (top:Nat) (e:Int) (bs:List UInt8):(mZ top e bs).1<=top:=by
 unfold mZ;split
 ·exact cj _
 ·rename_i h;exact Nat.le_of_not_lt h
def uH (e:Int) (bs:List UInt8):Nat×Int×List UInt8:=mZ 1099511627776 e bs
def rH (e:Int) (bs:List UInt8):List UInt8×Int×List UInt8:=
 if(gz e bs).2.1=0 then
  (if(gz e bs).1>(gz e bs).2.2.length then([],8,(gz e bs).2.2)
  else((gz e bs).2.2.take (gz e bs).1,0,(gz e bs).2.2.drop (gz e bs).1))
 else([],(gz e bs).2.1,(gz e bs).2.2)
def Fl (e:Int) (bs:List UInt8):Int:=if e=0 then(if bs= [] then 0 else 2) else e
theorem AD {top n:Nat} (hn:n<=top) (ht:top<18446744073709551616) (y:List UInt8):mZ top 0 (lD n++y)=(n,0,y):=by
 unfold mZ;rw[ye (by omega)];rw[ai (by show¬n>top;omega)]
theorem Pd {t:List UInt8} (ht:t.length<18446744073709551616) (y:List UInt8):rH 0 (AB t++y)=(t,0,y):=by
 unfold rH AB;rw[dU,ye ht];dsimp only;rw[ag rfl,ai (by rw[aF];omega)];simp
theorem CB (e:Int) (bs:List UInt8):(gz e bs).2.2.length<=bs.length:=by
 unfold gz;split
 ·exact Pc bs 0 0
 ·exact bh _
theorem AE (top:Nat) (e:Int) (bs:List UInt8):(mZ top e bs).2.2.length<=bs.length:=by
 unfold mZ;split<;>exact CB e bs
end Go.jH
namespace Go.Proofs.YtlenamcfacpheaaGreatDoor
open Go.Den
open IntKind (wrap)
open Int (toNat)
section
open Go.jH
namespace vf
variable {h h0:aj} {w r:Nat} {S:Nat→Prop} {bs:List UInt8} {e:Int} {R:iI}
def Wr (h:aj) (w:Nat) (S:Nat->Prop) (bs:List UInt8):Prop:=
 ∃p c,h[w]? =some (.cells #[.bool true,.slice p bs.length c] T.yJ (0,0))/\iR h p bs.length c 1 (bc bs)/\¬aQ p w/\∀x,S x↔x=w\/aQ p x
theorem Wr.lt (H:Wr h w S bs): ∀x,S x->x<h.size:=by
 obtain⟨p,c,hb,o,_,hs⟩:=H;intro x hx;rcases(hs x).1 hx with rfl|hx
 ·exact aI hb
 ·exact o.gm hx
theorem pD (hk: ∀h' w S,Wr h' w S []->Fr No h h'->(∀x,S x->h.size<=x)->R (.P w 0) h'):Cl F.wT #[] h R:=by
 refine wT.walk (cX ?_);refine hk _ _ (λx=>x=h.size) ⟨none,0,cz,.nil rfl rfl rfl rfl,(λ⟨a,e,_⟩=>by cases e),λx=> ?_⟩ (Fr.push _ _) (λx hx=>by omega);constructor
 ·exact .inl
 ·rintro(hx|⟨a,e,_⟩)
  ·exact hx
  ·cases e
theorem Wr.store {p p':bU} {c c' n:Nat} {h1:aj} {cs:List UInt8} {K:aj->Prop} (hb:h[w]? =some (.cells #[.bool true,.slice p bs.length c] T.yJ (0,0))) (hw: ¬aQ p w) (hs: ∀x,S x↔x=w\/aQ p x)
  (o:iR h1 p' (bs.length+n) c' 1 (bc bs++bc cs)) (f:Fr (aQ p) h h1) (g: ∀x,aQ p' x->aQ p x\/h.size<=x) (hn:n=cs.length)
  (hk: ∀h' S',Wr h' w S' (bs++cs)->Step S h S' h'->K h'):aH h1 (AA w 1) (.slice p' (bs.length+n) c') K:=by
 subst hn;have dw:=f.get hb hw;have jc:=aI hb;have hw': ¬aQ p' w:=λhx=>(g w hx).elim hw (λh2=>by omega)
 refine bL dw (by simp) λh' k1 k2 k3=> ?_
 have f2:Fr (λx=>x=w) h1 h':=Fr.of_eq k2 k3;refine hk h' (λx=>x=w\/aQ p' x) ⟨p',c',?_,?_,hw',λx=>fY⟩ ⟨?_,?_⟩
 ·rw[k1,aF];rfl
 ·rw[aF,su];exact o.frame f2 (λx hx e=>hw' (e▸hx))
 ·exact f.trans f2 (λx _ hx=>(hs x).2 (.inr hx)) (λx _ hx=>(hs x).2 (.inl hx))
 ·rintro x (hx|hx)
  ·exact .inl ((hs x).2 (.inl hx))
  ·exact(g x hx).imp (λh2=>(hs x).2 (.inr h2)) id
theorem Wr.push {x:Int} {b:UInt8} {K:aj->Prop} (H:Wr h w S bs) (hl:bs.length<=1099511627786) (hx:x=(b.toNat:Int)) (hk: ∀h' S',Wr h' w S' (bs++ [b])->Step S h S' h'->K h'):
  ∃(p:bU) (l c:Nat),ak h (AA w 1)=some (.slice p l c)/\
  aV h (.cells #[.int .u8 x] T.uint8) λb aR=>
  aX Tryz.prog (Builtin.append_ #[T.dt,T.dt] T.dt #[.slice p l c,.slice (some (AA b 0)) 1 1]) aR λv aZ=>
  ∃(q:bU) (m d:Nat),v=.slice q m d/\aH aZ (AA w 1) (.slice q m d) K:=by
 obtain⟨p,c,hb,o,hw,hs⟩:=H;refine⟨p,bs.length,c,af hb rfl,?_⟩;refine qa tU uU o rfl (λv hv=>by simp at hv;subst hv;rfl) (by omega) (by omega) ?_;intro p' c' h1 o1 f1 g1;subst hx;exact⟨_,_,_,rfl,Wr.store (cs:= [b]) hb hw hs o1 f1 g1 rfl hk⟩
def ap7 (h0:aj) (w:Nat) (S0:Nat->Prop) (bs:List UInt8) (n0:Nat) (n:Int) (h:aj):Prop:=
 ∃(m:Nat) (S:Nat->Prop) (d:List UInt8),n=(m:Int)/\m<18446744073709551616/\Wr h w S (bs++d)/\d++lD m=lD n0/\Step S0 h0 S h
theorem jw {n:Int} (k:Nat) (H:Wr h w S bs) (hl:bs.length<=1099511627776) (e:n=(k:Int)) (hn:k<18446744073709551616)
  (hk: ∀h' S',Wr h' w S' (bs++lD k)->Step S h S' h'->R (.P w 0) h'):Cl F.iV #[.P w 0,.U n] h R:=by
 subst e;refine iV.walk ?_;obtain⟨p,c,hb,_⟩:=id H;refine aK.of λJ hJ=>⟨true,af hb rfl,?_⟩
 subst hJ;simp only[dW,aA,aU];clear hb;refine⟨ap7 h w S bs k,λn _=>n.toNat,⟨k,S, [],rfl,hn,by simpa using H,rfl,Step.refl _ _⟩,?_⟩;rintro _ h2 ⟨m,S2,d,rfl,hm,H2,hd,st⟩;have hdl:d.length<=10:=by
  have:=bp List.length hd;rw[aF] at this;have:=(j0 k).2;omega
 by_cases hgt:(m:Int)>127
 ·simp only[hgt,decide_true,bA];refine H2.push (by rw[aF];omega) (amh m) λh5 S5 H5 Wc=> ?_
  rw[apP];refine⟨⟨m/128,S5,d++ [UInt8.ofNat (m%128+128)],rfl,by omega,by rwa[dU] at H5,?_,st.trans Wc⟩,?_⟩
  ·rw[<-hd,HS hm,jy];simp
  ·show Int.toNat ((m/128:Nat):Int)<Int.toNat (m:Int);omega
 ·simp only[hgt,decide_false,aA,aU];refine H2.push (by rw[aF];omega) (b:=UInt8.ofNat m) (by rw[uR,gV]) λh5 S5 H5 Wc=> ?_
  refine hk h5 S5 ?_ (st.trans Wc);rwa[<-hd,HS hm,dL,<-dU]
theorem ap8 (n:Int) (h2:n<=9223372036854775807):IntKind.wrap .u64 (if 0>n then 0 else n)=((pP n:Nat):Int):=by
 unfold pP;split
 ·rw[wrap_u64 (by omega) (by omega)];omega
 ·rw[wrap_u64 (by omega) (by omega)];omega
theorem Uw {n:Int} (H:Wr h w S bs) (hl:bs.length<=1099511627776) (hn:n<=9223372036854775807)
  (hk: ∀h' S',Wr h' w S' (bs++lD (pP n))->Step S h S' h'->R (.P w 0) h'):Cl F.jB #[.P w 0,.I n] h R:=
 jB.walk (jw (pP n) H hl (ap8 n hn) (by unfold pP;omega) λh' S' H' st=>⟨_,rfl,hk h' S' H' st⟩)
theorem aci {p:bU} {n c:Nat} {t:List UInt8} (H:Wr h w S bs) (hl:bs.length<=1099511627776) (hr:Row h p (bc t)) (hn:n=t.length) (ht:t.length<=1099511627776) (hp: ∀x,aQ p x->t≠ []->¬S x)
  (hk: ∀h' S',Wr h' w S' (bs++AB t)->Step S h S' h'->R (.P w 0) h'):Cl F.mg #[.P w 0,.slice p n c] h R:=by
 subst hn;refine mg.walk (jw t.length H hl (wrap_u64 (by omega) (by omega)) (by omega) λh1 S1 H1 st1=>⟨_,rfl,?_⟩);obtain⟨q,d,hb,o,hw,hs⟩:=H1;refine aK.of λJ hJ=>⟨true,af hb rfl,?_⟩
 subst hJ;refine aK.of λJ hJ=> ?_
 simp only[bA];subst hJ;refine⟨q,_,d,af hb rfl,?_⟩;have hlen:=(j0 t.length).2;rw[aF];rw[aF] at o;refine fQ tU uU o (by
  by_cases kA:t= []
  ·rw[kA];exact .inl rfl
  ·exact hr.frame st1.fr (λa e hx=>hp _ ⟨a,e,rfl⟩ kA hx)) (by rw[sU,cN]) (Cg t) (by omega) (by omega) ?_
 intro p' c' h' o1 _ f2 g;refine⟨_,_,_,rfl,?_⟩;rw[aF] at hb;have:=Wr.store (n:=t.length) (cs:=t) (K:=λcJ=>R (Value.pointer (some { block:=w,off:=0 })) cJ) (bs:=bs++lD t.length) (by rw[aF];exact hb) hw hs (by rw[aF];exact o1) f2 g rfl λh2 S2 H2 AF=> ?_
 ·rw[aF] at this;exact this
 ·exact hk h2 S2 (by unfold AB;rwa[dU] at H2) (st1.trans AF)
theorem zD (H:Wr h w S bs) (hl:bs.length<=70368744177664)
  (hk: ∀p' c' h',iR h' p' bs.length c' 1 (bc bs)->Fr No h h'->(∀x,aQ p' x->h.size<=x)->R (.slice p' bs.length c') h'):Cl F.kZ #[.P w 0] h R:=by
 obtain⟨p,c,hb,o,hw,hs⟩:=H;exact kZ.walk ⟨p,_,c,af hb rfl,my o.pZ rfl hl λp' c' h' o1 f1 g1=>⟨_,_,_,rfl,hk p' c' h' o1 f1 g1⟩⟩
def Rd (h:aj) (r:Nat) (S:Nat->Prop) (e:Int) (bs:List UInt8):Prop:=
 ∃p c,h[r]? =some (.cells #[.int .i64 e,.bool true,.slice p bs.length c] T.DS (0,0))/\iR h p bs.length c 1 (bc bs)/\¬aQ p r/\S r/\(∀x,aQ p x->S x)/\∀x,S x->x<h.size
theorem Rd.lt (H:Rd h r S e bs): ∀x,S x->x<h.size:=by
 obtain⟨p,c,_,_,_,_,_,hs⟩:=H;exact hs
theorem Rd.self (H:Rd h r S e bs):S r:=by
 obtain⟨p,c,_,_,_,hs,_,_⟩:=H;exact hs
theorem Rd.frame {Q:Nat->Prop} {h':aj} (H:Rd h r S e bs) (hf:Fr Q h h') (hn: ∀x,S x->¬Q x):Rd h' r S e bs:=by
 obtain⟨p,c,hb,o,hr,h1,h2,h3⟩:=H;exact⟨p,c,hf.get hb (hn r h1),o.frame hf (λx hx=>hn x (h2 x hx)),hr,h1,h2,λx hx=>cS (h3 x hx) hf.1⟩
theorem Fm {p:bU} {n c:Nat} (hr:Row h p (bc bs)) (hn:n=bs.length) (hl:bs.length<=70368744177664)
  (hk: ∀h' r S,Rd h' r S 0 bs->Fr No h h'->(∀x,S x->h.size<=x)->R (.P r 0) h'):Cl F.uW #[.slice p n c] h R:=by
 refine uW.walk (my hr hn hl λp' c' h1 o1 f1 g1=>⟨_,_,_,rfl,cX ?_⟩);refine hk _ _ (λx=>h.size<=x/\x<=h1.size) ⟨p',c',cz,o1.frame (Fr.push (S:=λ_=>False) _ _) (λ_ _=>id),?_,⟨f1.1,bh _⟩,?_,?_⟩ (Fr.on f1 (Fr.push _ _)) (λx hx=>hx.1)
 ·intro hx;have:=o1.gm hx;omega
 ·intro x hx;have:=o1.gm hx;exact⟨g1 x hx,by omega⟩
 ·intro x hx;rw[fO];omega
theorem vR {e':Int} (H:Rd h r S e bs) (hk: ∀h',Rd h' r S (ach e e') bs->Fr (λx=>x=r) h h'->R (.tuple #[]) h'):Cl F.iX #[.P r 0,.I e'] h R:=by
 obtain⟨p,c,hb,o,hr,h1,h2,h3⟩:=id H;refine iX.walk ⟨e,af hb rfl,?_⟩;unfold ach at hk;by_cases h0:e=0
 ·subst h0;simp only[beq_self_eq_true,bA];refine bL hb (by simp) λh' k1 k2 k3=> ?_
  have f:Fr (λx=>x=r) h h':=Fr.of_eq k2 k3;exact hk h' ⟨p,c,k1,o.frame f (λx hx e=>hr (e▸hx)),hr,h1,h2,λx hx=>by rw[k2];exact h3 x hx⟩ f
 ·simp only[dz,h0,aU];simp only[h0,aU] at hk;exact hk h H (Fr.refl _ _)
theorem Pe (H:Rd h r S e bs) (hk:R (.bool (e==0)) h):Cl F.jX #[.P r 0] h R:=by
 obtain⟨p,c,hb,o,hr,h1,h2,h3⟩:=H;exact jX.walk ⟨true,af hb rfl,e,af hb rfl,hk⟩
def amo (h0:aj) (r:Nat) (S:Nat->Prop) (bs:List UInt8) (n i:Int) (h:aj):Prop:=
 ∃(k a:Nat) (rest:List UInt8),i=(k:Int)/\n=(a:Int)/\k<=10/\a<2 ^ (7*k)/\a<18446744073709551616/\Rd h r S 0 rest/\Fr (λx=>x=r) h0 h/\TN k a rest=TN 0 0 bs
theorem I9 (H:Rd h r S e bs) (hk: ∀h',Rd h' r S (gz e bs).2.1 (gz e bs).2.2->Fr (λx=>x=r) h h'->R (.U ((gz e bs).1:Int)) h'):
  Cl F.iW #[.P r 0] h R:=by
 refine iW.walk (aK.of λJ hJ=> ?_);by_cases he:e=0
 ·subst he;unfold gz at hk;rw[ag rfl] at hk;refine⟨amo h r S bs,λ_ i _=>11 - i.toNat,⟨0,0,bs,rfl,rfl,by omega,by simp,by omega,H,Fr.refl _ _,rfl⟩,?_⟩;rintro _ _ h2 ⟨k,a,rest,rfl,rfl,arM,ha,ha2,H2,f2,hrd⟩;refine Pe H2 ⟨_,rfl,?_⟩;simp only[beq_self_eq_true,bA];obtain⟨p,c,hb,o,hr,h1,qY,h3⟩:=id H2;refine⟨p,_,c,af hb rfl,?_⟩;cases rest with
  |nil=>
   simp only[bC,Int.natCast_zero,beq_self_eq_true,bA];refine vR H2 λh4 H4 f4=>⟨rfl,?_⟩
   subst hJ;rw[TN] at hrd;rw[<-hrd] at hk;exact hk h4 H4 (f2.tt f4)
  |cons b rest=>
   have kA:((((b::rest).length:Nat):Int)==0)=false:=by simp only[bj,beq_eq_false_iff_ne,iq];omega
   simp only[kA,aA,aU];refine⟨p,_,c,af hb rfl,⟨by omega,by simp only[bj];omega⟩,?_⟩;obtain⟨ab,AG,rfl⟩:=o.some (by rw[sU];simp);refine aB.2 ⟨(b.toNat:Int),o.cell rfl,some (AA ab AG),_,c,af hb rfl,⟨by omega,by simp only[bj];omega⟩,?_⟩;have o2:=o.sub (l:=1) (u:=(b::rest).length) (by simp) (bh _);have er:((bc (b::rest)).take ((b::rest).length*1)).drop (1*1)=bc rest:=by
    simp only[cN];rw[bR (by rw[sU];exact bh _)];rfl
   rw[er] at o2;have el:(b::rest).length - Int.toNat 1=rest.length:=by simp
   rw[el];have el2:(b::rest).length - 1=rest.length:=by simp
   rw[el2] at o2;refine bL hb (by simp) λh5 k1 k2 k3=> ?_
   have f5:Fr (λx=>x=r) h2 h5:=Fr.of_eq k2 k3;have H5:Rd h5 r S 0 rest:=⟨_,_,k1,o2.frame f5 (λx hx e=>hr (e▸wk hx)),λhx=>hr (wk hx),h1,λx hx=>qY x (wk hx),λx hx=>by rw[k2];exact h3 x hx⟩;have f25:=f2.tt f5;clear o2 k1 k2 k3 f5 er el el2 kA o hb qY h3 hr;have w1:IntKind.wrap .i64 ((k:Int)*7)=((7*k:Nat):Int):=by rw[bK (by omega) (by omega)];omega
   have w2:IntKind.wrap .i64 (7*(k:Int))=((7*k:Nat):Int):=by rw[bK (by omega) (by omega)];omega
   have w3:IntKind.wrap .i64 ((k:Int)+1)=((k+1:Nat):Int):=by rw[bK (by omega) (by omega)];omega
   have hb:=b.toNat_lt;rw[TN] at hrd;refine aK.of λJ1 pA=> ?_
   have fin:J1 (decide (k=10\/(k=9/\b.toNat>1)\/(b.toNat=0/\k>0))) h5:=by
    subst pA;by_cases afu:k=10\/(k=9/\b.toNat>1)\/(b.toNat=0/\k>0)
    ·simp only[afu,decide_true,bA];rw[ag afu] at hrd;refine vR H5 λh7 H7 f7=>⟨rfl,?_⟩
     subst hJ;rw[<-hrd] at hk;exact hk h7 H7 (f25.tt f7)
    ·simp only[afu,decide_false,aA,aU];rw[ai afu] at hrd;rw[w2,w3,dL,ajC,ajD];have hd:b.toNat%128*2 ^ (7*k)<18446744073709551616:=by
      by_cases h9:k=9
      ·subst h9;have:b.toNat%128<=1:=by omega
       have:=db (2 ^ (7*9)) this;omega
      ·have h8:k<=8:=by omega
       have p1:(2:Nat) ^ (7*k)<=2 ^ 56:=iN (by omega) (by omega);have p2:b.toNat%128<=127:=by omega
       have:=Nat.mul_le_mul p2 p1;omega
     have key:IntKind.wrap .u64 ((b.toNat%128:Nat):Int)=((b.toNat%128:Nat):Int):=Ap (by omega);have k64:7*k<=64:=by omega
     rw[key,ajE ha hd k64];by_cases jc:b.toNat<128
     ·simp only[jc,decide_true,bA];rw[ag jc] at hrd;rw[<-hrd] at hk;exact hk h5 H5 f25
     ·simp only[jc,decide_false,aA,aU];rw[ai jc] at hrd;have h9:k<=8:=by omega
      have p3:(2:Nat) ^ (7*(k+1))=128*2 ^ (7*k):=by rw[Nat.mul_add,Nat.pow_add,je]
      have p4:b.toNat%128+1<=128:=by omega
      have p5:=db (2 ^ (7*k)) p4;rw[gj] at p5;have p6:(2:Nat) ^ (7*(k+1))<=2 ^ 63:=iN (by omega) (by omega);refine⟨⟨k+1,_,rest,rfl,rfl,by omega,by omega,by omega,H5,f25,hrd⟩,?_⟩;show 11 - Int.toNat ((k+1:Nat):Int)<11 - Int.toNat (k:Int);omega
   rw[w1];by_cases c1:k=10
   ·subst c1;simpa using fin
   ·have c1':((k:Int)==10)=false:=by simp only[beq_eq_false_iff_ne,iq];omega
    simp only[c1',aA,aU];by_cases c2:k=9
    ·subst c2;by_cases c3:b.toNat>1
     ·have c3':(b.toNat:Int)>1:=by omega
      have c4: ¬b.toNat=0:=by omega
      simpa[c3,c3',c4] using fin
     ·have c3': ¬(b.toNat:Int)>1:=by omega
      by_cases c4:b.toNat=0
      ·simpa[c3,c3',c4] using fin
      ·simpa[c3,c3',c4] using fin
    ·have c2':(((7*k:Nat):Int)==63)=false:=by simp only[beq_eq_false_iff_ne,iq];omega
     simp only[c2',aA,aU];by_cases c4:b.toNat=0
     ·have c5:decide ((k:Int)>0)=decide (k>0):=by simp
      simp only[c4,Int.natCast_zero,beq_self_eq_true,bA,c5];simpa[c1,c2,c4] using fin
     ·have c4':((b.toNat:Int)==0)=false:=by simp only[beq_eq_false_iff_ne,iq];omega
      simp only[c4',aA,aU];simpa[c1,c2,c4] using fin
 ·refine⟨λ_ _ h2=>h2=h,λ_ _ _=>0,rfl,?_⟩;rintro _ _ h2 rfl;refine Pe H ⟨_,rfl,?_⟩;have:(e==0)=false:=by simpa using he
  simp only[this,aA,aU];subst hJ;unfold gz at hk;rw[ai he] at hk;exact hk _ H (Fr.refl _ _)
theorem afv (top:Nat) {t:Int} (ht:t=(top:Int)) (H:Rd h r S e bs) (hk: ∀h',Rd h' r S (mZ top e bs).2.1 (mZ top e bs).2.2->Fr (λx=>x=r) h h'->R (.U ((mZ top e bs).1:Int)) h'):
  Cl F.kg #[.P r 0,.U t] h R:=by
 subst ht;refine kg.walk (I9 H λh1 H1 f1=>⟨_,rfl,?_⟩);unfold mZ at hk;by_cases hgt:(gz e bs).1>top
 ·have:((gz e bs).1:Int)>(top:Int):=by omega
  simp only[this,decide_true,bA];rw[ag hgt] at hk;exact vR H1 λh2 H2 f2=>⟨rfl,hk h2 H2 (f1.tt f2)⟩
 ·have: ¬((gz e bs).1:Int)>(top:Int):=by omega
  simp only[this,decide_false,aA,aU];rw[ai hgt] at hk;exact hk h1 H1 f1
theorem Pf (H:Rd h r S e bs) (hk: ∀h',Rd h' r S (uH e bs).2.1 (uH e bs).2.2->Fr (λx=>x=r) h h'->R (.I ((uH e bs).1:Int)) h'):
  Cl F.jC #[.P r 0] h R:=
 jC.walk (afv 1099511627776 rfl H λh1 H1 f1=>⟨_,rfl,by
  have:=RI 1099511627776 e bs;rw[bK (by omega) (by omega)];exact hk h1 H1 f1⟩)
theorem acj (H:Rd h r S e bs) (hl:bs.length<=70368744177664)
  (hk: ∀h' p c,Rd h' r S (rH e bs).2.1 (rH e bs).2.2->iR h' p (rH e bs).1.length c 1 (bc (rH e bs).1)->(∀x,aQ p x->h.size<=x)->Fr (λx=>x=r) h h'->R (.slice p (rH e bs).1.length c) h'):
  Cl F.mh #[.P r 0] h R:=by
 refine mh.walk (I9 H λh1 H1 f1=>⟨_,rfl,Pe H1 ⟨_,rfl,?_⟩⟩);unfold rH at hk;have jc:=Uv e bs;have hlen:(gz e bs).2.2.length<=bs.length:=by
  unfold gz;split
  ·exact Pc bs 0 0
  ·exact bh _
 generalize gz e bs=N at*;obtain⟨n,e',rest⟩:=N;dsimp only at*;by_cases h0:e'=0
 ·subst h0;simp only[beq_self_eq_true,dW,aA,aU];obtain⟨p,c,hb,o,hr,k1,k2,k3⟩:=id H1;refine⟨p,_,c,af hb rfl,?_⟩;rw[ag rfl] at hk;rw[wrap_u64 (n:=(rest.length:Int)) (by omega) (by omega)];by_cases hgt:n>rest.length
  ·have:(n:Int)>(rest.length:Int):=by omega
   simp only[this,decide_true,bA];rw[ag hgt] at hk;exact vR H1 λh2 H2 f2=>⟨rfl,hk h2 none 0 H2 (.nil rfl rfl rfl rfl) (λx ⟨a,e,_⟩=>by cases e) (f1.tt f2)⟩
  ·have: ¬(n:Int)>(rest.length:Int):=by omega
   simp only[this,decide_false,aA,aU];rw[ai hgt] at hk;have hc:=o.le;refine⟨p,_,c,af hb rfl,⟨by omega,by omega⟩,?_⟩;have oc:=o.sub (l:=0) (u:=n) (by omega) (by omega);simp only[cN,jT,afi] at oc;have etl:(rest.take n).length=n:=by rw[bQ];omega
   refine my oc.pZ (by rw[etl];omega) (by omega) λp' c' h4 o4 f4 g4=>⟨_,_,_,rfl,?_⟩
   have H4:=H1.frame f4 (λ_ _=>id);obtain⟨p2,c2,fI,o2,hr2,k1',k2',k3'⟩:=H4;refine⟨p2,_,c2,af fI rfl,⟨by omega,by omega⟩,?_⟩;refine bL fI (by simp) λh5 q1 q2 q3=> ?_
   have f5:Fr (λx=>x=r) h4 h5:=Fr.of_eq q2 q3;have os:=o2.sub (l:=n) (u:=rest.length) (by omega) (bh _);rw[cN,cN,<-sU rest,iF,sU,afj] at os;have edl:(rest.drop n).length=rest.length - n:=by simp
   refine hk h5 p' c' ⟨cZ p2 c2 n 1,c2 - n,?_,?_,λhx=>hr2 (wk hx),k1',λx hx=>k2' x (wk hx),λx hx=>by rw[q2];exact k3' x hx⟩ (o4.frame f5 (λx hx e=> ?_)) (λx hx=> ?_) (f1.tt ((f4.mono λ_ _=>False.elim).tt f5))
   ·rw[edl];simpa using q1
   ·rw[edl];exact os.frame f5 (λx hx e=>hr2 (e▸wk hx))
   ·have:=g4 x hx;have:=aI hb;omega
   ·have:=g4 x hx;have:=f1.1;omega
 ·have:(e'==0)=false:=by simpa using h0
  simp only[this,gL,bA];rw[ai h0] at hk;exact hk h1 none 0 H1 (.nil rfl rfl rfl rfl) (λx ⟨a,e,_⟩=>by cases e) f1
theorem afw (H:Rd h r S e bs) (hk:R (.I (Fl e bs)) h):Cl F.mT #[.P r 0] h R:=by
 obtain⟨p,c,hb,o,hr,k1,k2,k3⟩:=H;refine mT.walk (aK.of λJ hJ=>⟨true,af hb rfl,?_⟩);subst hJ;simp only[dW,aA,aU];refine⟨e,af hb rfl,?_⟩;unfold Fl at hk;by_cases h0:e=0
 ·subst h0;simp only[bne_self_eq_false,aA,aU];refine⟨p,_,c,af hb rfl,?_⟩;rw[ag rfl] at hk;cases bs with
  |nil=>exact hk
  |cons b bs=>
   have:(((b::bs).length:Nat):Int)>0:=by simp only[bj];omega
   simp only[this,decide_true,bA];rwa[ai (by simp)] at hk
 ·have:(e !=0)=true:=by simpa using h0
  simp only[this,bA];rw[ai h0] at hk;exact⟨e,af hb rfl,hk⟩
end vf
end
end Go.Proofs.YtlenamcfacpheaaGreatDoor
namespace Go.Den
theorem afx {P:Program} {sT dT e:TypeId} {h:aj} {s:ByteArray} {K:iI} (hs:P.underlying sT=some .string) (hd:P.underlying dT=some (.slice e)) (he:P.underlying e=some (.int .u8))
  (hk: ∀p c h',Row h' p (bc s.data.toList)->s.size<=c->Fr No h h'->(∀y,aQ p y->h.size<=y)->K (.slice p s.size c) h'):aX P (convert sT dT (.string s)) h K:=by
 unfold convert;refine bX (s:=underlying sT) (bD hs) ?_;refine bX (s:=underlying dT) (bD hd) ?_;show aX P (underlying e>>=_) h K;refine bX (s:=underlying e) (bD he) ?_;show aX P (Conv.stringToBytes e s) h K;unfold Conv.stringToBytes;rw[eZ];unfold choose;simp only[aX,Question.forced,aA,aU,Question.cut];intro tq;generalize OQ:s.size+tq%(2 ^ 63 - s.size)=cap;have hle:s.size<=cap:=by omega
 generalize BF:(s.data.map λb=>Value.int .u8 (b.toNat:Int))++Array.replicate (cap - s.size) (Value.int .u8 0)=cs;have GF: ∀j v,(bc s.data.toList)[j]? =some v->cs[0+j]? =some v:=λj v hj=>by
  have Cf:=(aG.1 hj).1;rw[sU,fT] at Cf;rw[<-BF,bZ,eX (by simpa using Cf),Array.getElem?_map,<-hj];unfold bc;rw[aO,ee]
 show aX P (newRow e cs>>=_) h K;rw[eZ];show aX P (markStringish (AA h.size 0)>>=λ_=>pure (.slice (some (AA h.size 0)) s.size cap)) (h.push (.cells cs e)) K;rw[eZ];unfold markStringish shape;have hsh:Ad (h.push (.cells cs e)) h.size=some (e,cs.size):=by simp[Ad]
 show aX P (match Ad (h.push (.cells cs e)) h.size with|some (_,n)=>freeze { block:=h.size,off:=n } 1|_=>pure ()) (h.push (.cells cs e)) _;rw[hsh];show K (.slice (some (AA h.size 0)) s.size cap) (Af (h.push (.cells cs e)) { block:=h.size,off:=cs.size } 1);unfold Af;rw[dL];refine hk _ _ _ (.inr ⟨_,rfl,lR (c:=cs) (t:=e) (f:=if(0:Nat)==0 then(cs.size,cs.size+1) else(min 0 cs.size,max 0 (cs.size+1))) ?_ GF⟩) hle ⟨by simp,λc hc _=> ?_⟩ (λy ⟨a,ea,ey⟩=>by cases ea;exact Nat.le_of_eq ey)
 ·rw[fD,ag rfl,cz];rfl
 ·rw[fD,ai (by simp;omega),iA,dL]
end Go.Den
namespace Go.Proofs.YtlenamcfacpheaaGreatDoor
open Go.Den
namespace vf
variable {h h' h0 : aj} {R : Value → aj → Prop}
theorem s2b {s:ByteArray} {K:iI} (hk: ∀p c h',Row h' p (bc s.data.toList)->s.size<=c->Fr No h h'->(∀y,aQ p y->h.size<=y)->K (.slice p s.size c) h'):aX Tryz.prog (convert T.string T.dt (.string s)) h K:=afx uS uU u8 hk
end vf
end Go.Proofs.YtlenamcfacpheaaGreatDoor
namespace Go.Proofs.YtlenamcfacpheaaGreatDoor
open Go.Den
open IntKind (wrap)
open Int (toNat)
section
open Go.jH
namespace vf
abbrev IF (n:BV):List Value:= [n.val]
theorem tN:Ao Tryz.prog T.zp T.dt 1 24 (.Z):=⟨by kernel_rfl,by kernel_rfl,rfl⟩
theorem uN:Tryz.prog.underlying T.zp=some (.slice T.dt):=by kernel_rfl
theorem Fo (n:BV):(IF n).length=1:=rfl
theorem acm (xs:List BV): ∀v∈xs.flatMap IF,jg v=true:=by
 intro v hv;obtain⟨a,_,ha⟩:=List.mem_flatMap.1 hv;simp at ha;subst ha;rfl
end vf
end
section
variable {h:aj} {R:iI}
theorem uu.walk (hv:aV h (.map #[] 0) λb aR=>aV aR (.cells #[.Z,.map (some b)] T.Cr) λcD aZ=>R (.P cD 0) aZ):Cl F.uu #[] h R:=aS (lq ll) Tryz.func87 hv
theorem lT.walk {a:Nat} (hv: ∃t9,ak h (AA a 1)=some (.map t9)/\R (.bool (!t9.isNone)) h):Cl F.lT #[.P a 0] h R:=aS (lq ll) Tryz.func114 hv
theorem mK.walk {a:Nat} (hv: ∃yL vQ Az,ak h (AA a 0)=some (.slice yL vQ Az)/\R (.I (vQ:Int)) h):Cl F.mK #[.P a 0] h R:=aS (lq (sq (lq (cq ll lf)) ll)) Tryz.func56 hv
theorem oD.walk {w9:Int} {xa:Int} {y_0:Int} {y_1:Int} (hv:aV h (.cells #[.I w9,.U xa] T.du) λb aR=>aV aR (.cells #[.I y_0,.U y_1] T.du) λcD aZ=>Hu aZ b 1 λt6=> ∃t8,ak aZ (AA cD 1)=some (.U t8)/\if(decide (t6<t8)) then R (.bool true) aZ else Hu aZ b 1 λt12=> ∃t14,ak aZ (AA cD 1)=some (.U t14)/\if(t12==t14) then Hi aZ b 0 λt18=> ∃t20,ak aZ (AA cD 0)=some (.I t20)/\R (.bool (decide (t18<t20))) aZ else R (.bool false) aZ):Cl F.oD #[.agg #[.I w9,.U xa],.agg #[.I y_0,.U y_1]] h R:=aS (lq ll) Tryz.func170 hv
theorem gp.walk {a:Nat} {i:Int} {w9:Int} {xa:Int} (hv:aV h (.cells #[.I w9,.U xa] T.du) λb aR=>Hl aR a 0 λaau aav aft=>Hi aR b 0 λpQ=>Hu aR b 1 λtC=>Bd i aav/\aP aau λku=>aH aR (ku.add (toNat i*2)) (.I pQ) λaZ=>aH aZ ((ku.add (toNat i*2)).add 1) (.U tC) λbJ=> ∃t16,ak bJ (AA a 1)=some (.map t16)/\Hi bJ b 0 λt18=>aX Tryz.prog (Instr.mapUpdate T.jI (.map t16) (.I t18) (.I i)) bJ λ_ cB=>R (.tuple #[]) cB):Cl F.gp #[.P a 0,.I i,.agg #[.I w9,.U xa]] h R:=aS (lq (sq (pN 8) (pN 8))) Tryz.func116 hv
theorem mq.walk {a:Nat} {i:Int} (hv: ∃(I:Int->aj->Prop) (mu:Int->aj->Nat),(I i h)/\∀(sL:Int) (aR:aj),I sL aR->aK (λ(t28:Bool) (aZ:aj)=>if t28 then aK (λ(x:bU) (y:bU) (bJ:aj)=>aP x λku=>Re bJ ku λDW=>JL bJ (ku.add 1) λFq=>Cl F.gp #[.P a 0,.I (wrap .i64 (Int.tdiv (wrap .i64 (sL - 1)) 2)),.agg #[.I DW,.U Fq]] bJ λv cB=>v=.tuple #[]/\aP y λpE=>Re cB pE λMV=>JL cB (pE.add 1) λMW=>Cl F.gp #[.P a 0,.I sL,.agg #[.I MV,.U MW]] cB λeJ cJ=>eJ=.tuple #[]/\(I (wrap .i64 (Int.tdiv (wrap .i64 (sL - 1)) 2)) cJ/\mu (wrap .i64 (Int.tdiv (wrap .i64 (sL - 1)) 2)) cJ<mu sL aR)) (λjo=>Hl aZ a 0 λFs Fu Kk=>Bd sL Fu/\aP Fs λrY=>Re aZ (rY.add (toNat sL*2)) λBm=>JL aZ ((rY.add (toNat sL*2)).add 1) λvG=>Hl aZ a 0 λoq kH oF=>Bd (wrap .i64 (Int.tdiv (wrap .i64 (sL - 1)) 2)) kH/\aP oq λvS=> ∃zE,ak aZ (vS.add (toNat (wrap .i64 (Int.tdiv (wrap .i64 (sL - 1)) 2))*2))=some (.I zE)/\∃vH,ak aZ ((vS.add (toNat (wrap .i64 (Int.tdiv (wrap .i64 (sL - 1)) 2))*2)).add 1)=some (.U vH)/\(aV aZ (.cells #[.I 0,.U 0] T.du) λb cQ=>fE (vS.add (toNat (wrap .i64 (Int.tdiv (wrap .i64 (sL - 1)) 2))*2)) [.I zE,.U vH] 0 cQ/\ak cQ (AA a 0)=some (.slice oq kH oF)/\fE (rY.add (toNat sL*2)) [.I Bm,.U vG] 0 cQ/\ak cQ (AA a 0)=some (.slice Fs Fu Kk)/\aV cQ (.cells #[.I 0,.U 0] T.du) λcD cW=>fE (vS.add (toNat (wrap .i64 (Int.tdiv (wrap .i64 (sL - 1)) 2))*2)) [.I zE,.U vH] 0 cW/\ak cW (AA a 0)=some (.slice oq kH oF)/\fE (rY.add (toNat sL*2)) [.I Bm,.U vG] 0 cW/\ak cW (AA a 0)=some (.slice Fs Fu Kk)/\aH cW (AA b 0) (.I Bm) λdA=>aH dA (AA b 1) (.U vG) λfc=>fE (vS.add (toNat (wrap .i64 (Int.tdiv (wrap .i64 (sL - 1)) 2))*2)) [.I zE,.U vH] 0 fc/\ak fc (AA a 0)=some (.slice oq kH oF)/\aH fc (AA cD 0) (.I zE) λcP=>aH cP (AA cD 1) (.U vH) λcV=>jo (some (AA b 0)) (some (AA cD 0)) cV)/\(aV aZ (.cells #[.I 0,.U 0] T.du) λeY dD=>fE (vS.add (toNat (wrap .i64 (Int.tdiv (wrap .i64 (sL - 1)) 2))*2)) [.I zE,.U vH] 0 dD/\ak dD (AA a 0)=some (.slice oq kH oF)/\fE (rY.add (toNat sL*2)) [.I Bm,.U vG] 0 dD/\ak dD (AA a 0)=some (.slice Fs Fu Kk)/\aV dD (.cells #[.I 0,.U 0] T.du) λjQ dF=>fE (vS.add (toNat (wrap .i64 (Int.tdiv (wrap .i64 (sL - 1)) 2))*2)) [.I zE,.U vH] 0 dF/\ak dF (AA a 0)=some (.slice oq kH oF)/\fE (rY.add (toNat sL*2)) [.I Bm,.U vG] 0 dF/\ak dF (AA a 0)=some (.slice Fs Fu Kk)/\aH dF (AA jQ 0) (.I Bm) λfC=>aH fC (AA jQ 1) (.U vG) λgD=>fE (vS.add (toNat (wrap .i64 (Int.tdiv (wrap .i64 (sL - 1)) 2))*2)) [.I zE,.U vH] 0 gD/\ak gD (AA a 0)=some (.slice oq kH oF)/\aH gD (AA eY 0) (.I zE) λgX=>aH gX (AA eY 1) (.U vH) λgQ=>jo (some (AA jQ 0)) (some (AA eY 0)) gQ)/\True) else R (.tuple #[]) aZ) (λJ=>if(decide (sL>0)) then Hl aR a 0 λKl Km MX=>Bd sL Km/\aP Kl λBJ=>Re aR (BJ.add (toNat sL*2)) λzF=>JL aR ((BJ.add (toNat sL*2)).add 1) λvI=>Hl aR a 0 λzB xe DV=>Bd (wrap .i64 (Int.tdiv (wrap .i64 (sL - 1)) 2)) xe/\aP zB λKn=> ∃RJ,ak aR (Kn.add (toNat (wrap .i64 (Int.tdiv (wrap .i64 (sL - 1)) 2))*2))=some (.I RJ)/\∃HT,ak aR ((Kn.add (toNat (wrap .i64 (Int.tdiv (wrap .i64 (sL - 1)) 2))*2)).add 1)=some (.U HT)/\Cl F.oD #[.agg #[.I zF,.U vI],.agg #[.I RJ,.U HT]] aR λgR fh=>Vb gR λt27=>ak fh (AA a 0)=some (.slice zB xe DV)/\ak fh (AA a 0)=some (.slice Kl Km MX)/\J t27 fh else J false aR)):Cl F.mq #[.P a 0,.I i] h R:=aS (.scope 0 [(1,.one (.int .i64))] ll (lq (lq (sq (.join [(28,.one (.bool))] (pN 19)) (cq (sq (.join [(5,.one (.ptr)),(6,.one (.ptr))] (.mB (jh 14 0 (.alts (.fork 14 (jh 3 15 .done) (.fork 15 (.op 14 (.op 16 (.op 17 .done))) .mD)))))) (lq (lq ll))) lf))))) Tryz.func117 hv
theorem nY.walk {a : Nat} {i : Int} (hv :
 ∃ (I : Int → aj → Prop) (mu : Int → aj → Nat), (
 I i h) ∧ ∀ (sL : Int) (aR : aj), I sL aR →
 ∃ (Ko : Int → Int → aj → Prop) (CC : Int → Int → aj → Nat), Ko sL 0 aR ∧ ∀ (tD : Int) (t17 : Int) (aZ : aj), Ko tD t17 aZ →
 if (decide (t17 < 2)) = true then
 aK (fun (acn : Int) (bJ : aj) =>
 (Ko acn (IntKind.wrap .i64 (t17 + 1)) bJ ∧ CC acn (IntKind.wrap .i64 (t17 + 1)) bJ < CC tD t17 aZ))
 (λJ =>
 ((0 : Int) ≤ t17 ∧ t17 < ((2 : Nat) : Int)) ∧
 (t17 = ((0 : Nat) : Int) →
 aK (fun (t43 : Bool) (cB : aj) =>
 aK (fun (Ux : Int) (cJ : aj) =>
 J Ux cJ)
 (λBo =>
 if t43 = true then
 Bo (IntKind.wrap .i64 ((IntKind.wrap .i64 (2 * sL)) + 1)) cB
 else
 Bo tD cB))
 (λjo =>
 ∃ iP iy iz, ak aZ ⟨a, 0, none⟩ = some (.slice iP iy iz) ∧
 if (decide ((IntKind.wrap .i64 ((IntKind.wrap .i64 (2 * sL)) + 1)) < ((iy : Nat) : Int))) = true then
 ∃ yf vJ CD, ak aZ ⟨a, 0, none⟩ = some (.slice yf vJ CD) ∧
 ((0 : Int) ≤ IntKind.wrap .i64 ((IntKind.wrap .i64 (2 * sL)) + 1) ∧ IntKind.wrap .i64 ((IntKind.wrap .i64 (2 * sL)) + 1) < ((vJ : Nat) : Int)) ∧
 aP yf λku =>
 ∃ Kq, ak aZ (ku.add (Int.toNat (IntKind.wrap .i64 ((IntKind.wrap .i64 (2 * sL)) + 1)) * 2)) = some (.int .i64 Kq) ∧ ∃ Kr, ak aZ ((ku.add (Int.toNat (IntKind.wrap .i64 ((IntKind.wrap .i64 (2 * sL)) + 1)) * 2)).add 1) = some (.int .u64 Kr) ∧
 ∃ rJ rK vg, ak aZ ⟨a, 0, none⟩ = some (.slice rJ rK vg) ∧
 ((0 : Int) ≤ tD ∧ tD < ((rK : Nat) : Int)) ∧
 aP rJ λpE =>
 ∃ xg, ak aZ (pE.add (Int.toNat tD * 2)) = some (.int .i64 xg) ∧ ∃ xh, ak aZ ((pE.add (Int.toNat tD * 2)).add 1) = some (.int .u64 xh) ∧
 Cl F.oD #[.agg #[.int .i64 Kq, .int .u64 Kr], .agg #[.int .i64 xg, .int .u64 xh]] aZ λv cQ =>
 ∃ t42, v = .bool t42 ∧
 ak cQ ⟨a, 0, none⟩ = some (.slice rJ rK vg) ∧
 ak cQ ⟨a, 0, none⟩ = some (.slice yf vJ CD) ∧
 ak cQ ⟨a, 0, none⟩ = some (.slice iP iy iz) ∧
 jo t42 cQ
 else
 jo false aZ)) ∧
 (t17 = ((1 : Nat) : Int) →
 aK (fun (CE : Bool) (cW : aj) =>
 aK (fun (ajT : Int) (dA : aj) =>
 J ajT dA)
 (λJ_4 =>
 if CE = true then
 J_4 (IntKind.wrap .i64 ((IntKind.wrap .i64 (2 * sL)) + 2)) cW
 else
 J_4 tD cW))
 (λGG =>
 ∃ Wd Pg We, ak aZ ⟨a, 0, none⟩ = some (.slice Wd Pg We) ∧
 if (decide ((IntKind.wrap .i64 ((IntKind.wrap .i64 (2 * sL)) + 2)) < ((Pg : Nat) : Int))) = true then
 ∃ Ph Pj Wf, ak aZ ⟨a, 0, none⟩ = some (.slice Ph Pj Wf) ∧
 ((0 : Int) ≤ IntKind.wrap .i64 ((IntKind.wrap .i64 (2 * sL)) + 2) ∧ IntKind.wrap .i64 ((IntKind.wrap .i64 (2 * sL)) + 2) < ((Pj : Nat) : Int)) ∧
 aP Ph λrY =>
 ∃ Wg, ak aZ (rY.add (Int.toNat (IntKind.wrap .i64 ((IntKind.wrap .i64 (2 * sL)) + 2)) * 2)) = some (.int .i64 Wg) ∧ ∃ Wh, ak aZ ((rY.add (Int.toNat (IntKind.wrap .i64 ((IntKind.wrap .i64 (2 * sL)) + 2)) * 2)).add 1) = some (.int .u64 Wh) ∧
 ∃ Pk Pl Wi, ak aZ ⟨a, 0, none⟩ = some (.slice Pk Pl Wi) ∧
 ((0 : Int) ≤ tD ∧ tD < ((Pl : Nat) : Int)) ∧
 aP Pk λvS =>
 ∃ Wj, ak aZ (vS.add (Int.toNat tD * 2)) = some (.int .i64 Wj) ∧ ∃ Wk, ak aZ ((vS.add (Int.toNat tD * 2)).add 1) = some (.int .u64 Wk) ∧
 Cl F.oD #[.agg #[.int .i64 Wg, .int .u64 Wh], .agg #[.int .i64 Wj, .int .u64 Wk]] aZ λeJ fc =>
 ∃ vH, eJ = .bool vH ∧
 ak fc ⟨a, 0, none⟩ = some (.slice Pk Pl Wi) ∧
 ak fc ⟨a, 0, none⟩ = some (.slice Ph Pj Wf) ∧
 ak fc ⟨a, 0, none⟩ = some (.slice Wd Pg We) ∧
 GG vH fc
 else
 GG false aZ)) ∧
 True)
 else
 if (tD != sL) = true then
 aK (fun (x : Option Addr) (y : Option Addr) (cP : aj) =>
 aP x λBJ =>
 ∃ ahX, ak cP BJ = some (.int .i64 ahX) ∧ ∃ ahY, ak cP (BJ.add 1) = some (.int .u64 ahY) ∧
 Cl F.gp #[.pointer (some ⟨a, 0, none⟩), .int .i64 tD, .agg #[.int .i64 ahX, .int .u64 ahY]] cP λgR cV =>
 gR = .tuple #[] ∧
 aP y λKn =>
 ∃ Wl, ak cV Kn = some (.int .i64 Wl) ∧ ∃ Wm, ak cV (Kn.add 1) = some (.int .u64 Wm) ∧
 Cl F.gp #[.pointer (some ⟨a, 0, none⟩), .int .i64 sL, .agg #[.int .i64 Wl, .int .u64 Wm]] cV λkU dD =>
 kU = .tuple #[] ∧
 (I tD dD ∧ mu tD dD < mu sL aR))
 (λJ_5 =>
 ∃ yg yh Bp, ak aZ ⟨a, 0, none⟩ = some (.slice yg yh Bp) ∧
 ((0 : Int) ≤ sL ∧ sL < ((yh : Nat) : Int)) ∧
 aP yg λRL =>
 ∃ uc, ak aZ (RL.add (Int.toNat sL * 2)) = some (.int .i64 uc) ∧ ∃ tF, ak aZ ((RL.add (Int.toNat sL * 2)).add 1) = some (.int .u64 tF) ∧
 ∃ HU HV Ks, ak aZ ⟨a, 0, none⟩ = some (.slice HU HV Ks) ∧
 ((0 : Int) ≤ tD ∧ tD < ((HV : Nat) : Int)) ∧
 aP HU λa_8 =>
 ∃ Bq, ak aZ (a_8.add (Int.toNat tD * 2)) = some (.int .i64 Bq) ∧ ∃ Br, ak aZ ((a_8.add (Int.toNat tD * 2)).add 1) = some (.int .u64 Br) ∧
 (aV aZ (.cells #[.int .i64 0, .int .u64 0] T.du) λb dF =>
 fE (a_8.add (Int.toNat tD * 2)) [.int .i64 Bq, .int .u64 Br] 0 dF ∧
 ak dF ⟨a, 0, none⟩ = some (.slice HU HV Ks) ∧
 fE (RL.add (Int.toNat sL * 2)) [.int .i64 uc, .int .u64 tF] 0 dF ∧
 ak dF ⟨a, 0, none⟩ = some (.slice yg yh Bp) ∧
 aV dF (.cells #[.int .i64 0, .int .u64 0] T.du) λcD fC =>
 fE (a_8.add (Int.toNat tD * 2)) [.int .i64 Bq, .int .u64 Br] 0 fC ∧
 ak fC ⟨a, 0, none⟩ = some (.slice HU HV Ks) ∧
 fE (RL.add (Int.toNat sL * 2)) [.int .i64 uc, .int .u64 tF] 0 fC ∧
 ak fC ⟨a, 0, none⟩ = some (.slice yg yh Bp) ∧
 aH fC ⟨b, 0, none⟩ (.int .i64 uc) λgD =>
 aH gD ⟨b, 1, none⟩ (.int .u64 tF) λgX =>
 fE (a_8.add (Int.toNat tD * 2)) [.int .i64 Bq, .int .u64 Br] 0 gX ∧
 ak gX ⟨a, 0, none⟩ = some (.slice HU HV Ks) ∧
 aH gX ⟨cD, 0, none⟩ (.int .i64 Bq) λgQ =>
 aH gQ ⟨cD, 1, none⟩ (.int .u64 Br) λfh =>
 J_5 (some ⟨b, 0, none⟩) (some ⟨cD, 0, none⟩) fh) ∧
 (aV aZ (.cells #[.int .i64 0, .int .u64 0] T.du) λeY jn =>
 fE (a_8.add (Int.toNat tD * 2)) [.int .i64 Bq, .int .u64 Br] 0 jn ∧
 ak jn ⟨a, 0, none⟩ = some (.slice HU HV Ks) ∧
 fE (RL.add (Int.toNat sL * 2)) [.int .i64 uc, .int .u64 tF] 0 jn ∧
 ak jn ⟨a, 0, none⟩ = some (.slice yg yh Bp) ∧
 aV jn (.cells #[.int .i64 0, .int .u64 0] T.du) λjQ ju =>
 fE (a_8.add (Int.toNat tD * 2)) [.int .i64 Bq, .int .u64 Br] 0 ju ∧
 ak ju ⟨a, 0, none⟩ = some (.slice HU HV Ks) ∧
 fE (RL.add (Int.toNat sL * 2)) [.int .i64 uc, .int .u64 tF] 0 ju ∧
 ak ju ⟨a, 0, none⟩ = some (.slice yg yh Bp) ∧
 aH ju ⟨jQ, 0, none⟩ (.int .i64 uc) λsK =>
 aH sK ⟨jQ, 1, none⟩ (.int .u64 tF) λrL =>
 fE (a_8.add (Int.toNat tD * 2)) [.int .i64 Bq, .int .u64 Br] 0 rL ∧
 ak rL ⟨a, 0, none⟩ = some (.slice HU HV Ks) ∧
 aH rL ⟨eY, 0, none⟩ (.int .i64 Bq) λqK =>
 aH qK ⟨eY, 1, none⟩ (.int .u64 Br) λvh =>
 J_5 (some ⟨jQ, 0, none⟩) (some ⟨eY, 0, none⟩) vh) ∧
 True)
 else
 R (.tuple #[]) aZ) : Cl F.nY #[.pointer (some ⟨a, 0, none⟩), .int .i64 i] h R :=
 aS (.scope 0 [(1, .one (.int .i64))] (.seq .leaf .leaf) (.seq .leaf (.seq .leaf (.seq (.seq .leaf (.block (.loop [(4, .one (.int .i64)), (17, .one (.int .i64))] (.seq .leaf (.seq (.cond .leaf .leaf) (.seq (.join [(4, .one (.int .i64))] (.block (.seq .leaf (.seq (.join [(43, .one (.bool))] (.mB (.op 0 (.op 1 (.op 2 (.op 3 (.op 4 (.op 5 (.op 6 (.op 7 (.op 8 (.op 9 (.op 10 (.op 11 (.op 12 (.op 13 (.op 14 (.op 15 (.op 16 (.op 17 (.op 18 (.op 19 (.op 20 (.op 21 (.op 22 (.op 23 .done)))))))))))))))))))))))))) (.join [(4, .one (.int .i64))] (.cond .leaf .leaf)))))) .leaf)))))) (.seq .leaf (.cond (.seq (.join [(7, .one (.ptr)), (8, .one (.ptr))] (.mB (.op 0 (.op 1 (.op 2 (.op 3 (.op 4 (.op 5 (.op 6 (.op 7 (.op 8 (.op 9 (.op 10 (.op 11 (.op 12 (.op 13 (.alts (.fork 14 (.op 15 (.op 16 (.op 17 .done))) (.fork 15 (.op 14 (.op 16 (.op 17 .done))) .mD))))))))))))))))))) (.seq .leaf (.seq .leaf (.seq .leaf .leaf)))) .leaf)))))) Tryz.func169 hv
theorem kO.walk {a:Nat} {key:Int} {kQ:Int} (hv:Cl F.lT #[.P a 0] h λv aR=> ∃t10,v=.bool t10/\if(!t10) then R (.I 6) aR else aK (λ(t12:Bool) (aZ:aj)=>if t12 then R (.I 1) aZ else Cl F.gn #[.P a 0,.I key] aZ λeJ bJ=>Vi eJ λt25=>Hl bJ a 0 λo0 nJ pM=>aV bJ (.cells #[.I 0,.U 0] T.du) λb cB=>aX Tryz.prog (Builtin.append_ #[T.ny,T.ny] T.ny #[.slice o0 nJ pM,.slice (some (AA b 0)) 1 1]) cB λgR cJ=> ∃rF pO rG,gR=.slice rF pO rG/\aH cJ (AA a 0) (.slice rF pO rG) λcQ=>Hl cQ a 0 λoq kH oF=>Cl F.gp #[.P a 0,.I (wrap .i64 ((kH:Int) - 1)),.agg #[.I key,.U kQ]] cQ λkU cW=>kU=.tuple #[]/\Cl F.mq #[.P a 0,.I (wrap .i64 ((kH:Int) - 1))] cW λot dA=>ot=.tuple #[]/\R (.I 0) dA) (λJ=>if(decide (key<1)) then J true aR else if(decide (key>1099511627776)) then J true aR else J (decide (kQ>1099511627776)) aR)):Cl F.kO #[.P a 0,.I key,.U kQ] h R:=aS (lq (sq (bq (lq (cq ll (sq (.join [(12,.one (.bool))] lf) (cq ll lf))))) (lq (lq (lq (lq (lq ll))))))) Tryz.func51 hv
theorem gn.walk {a:Nat} {key:Int} (hv:Cl F.lT #[.P a 0] h λv aR=> ∃t10,v=.bool t10/\if(!t10) then R (.I 6) aR else∃t16,ak aR (AA a 1)=some (.map t16)/\∃vK vi,mC Tryz.prog T.jI (.map t16) (.I key) true aR (.tuple #[.I vK,.bool vi])/\if(!vi) then R (.I 4) aR else Hl aR a 0 λx9 rE ya=>Hl aR a 0 λFs Fu Kk=>Bd (wrap .i64 ((rE:Int) - 1)) Fu/\aP Fs λku=> ∃Bm,ak aR (ku.add (toNat (wrap .i64 ((rE:Int) - 1))*2))=some (.I Bm)/\∃vG,ak aR ((ku.add (toNat (wrap .i64 ((rE:Int) - 1))*2)).add 1)=some (.U vG)/\aV aR (.cells #[.I 0,.U 0] T.du) λb aZ=>aH aZ (AA b 0) (.I Bm) λbJ=>aH bJ (AA b 1) (.U vG) λcB=>Hl cB a 0 λKt MY Fv=>((0:Int)<=wrap .i64 ((rE:Int) - 1)/\wrap .i64 ((rE:Int) - 1)<=(Fv:Int))/\aH cB (AA a 0) (.slice (cZ Kt Fv 0 2) ((toNat (wrap .i64 ((rE:Int) - 1))) - 0) (Fv - 0)) λcJ=> ∃t48,ak cJ (AA a 1)=some (.map t48)/\aX Tryz.prog (Builtin.delete_ #[T.jI,T.int] T.JZ #[.map t48,.I key]) cJ λeJ cQ=>eJ=.tuple #[]/\aK (λ(cW:aj)=>R (.I 0) cW) (λJ=>if(decide (vK<(wrap .i64 ((rE:Int) - 1)))) then Hi cQ b 0 λuc=>Hu cQ b 1 λtF=>Cl F.gp #[.P a 0,.I vK,.agg #[.I uc,.U tF]] cQ λgR dA=>gR=.tuple #[]/\Cl F.mq #[.P a 0,.I vK] dA λkU fc=>kU=.tuple #[]/\∃t64,ak fc (AA a 1)=some (.map t64)/\Hi fc b 0 λt66=> ∃t67,mC Tryz.prog T.jI (.map t64) (.I t66) false fc (.I t67)/\Cl F.nY #[.P a 0,.I t67] fc λot cP=>ot=.tuple #[]/\ak cP (AA b 0)=some (.I t66)/\ak cP (AA a 1)=some (.map t64)/\J cP else J cQ)):Cl F.gn #[.P a 0,.I key] h R:=aS (lq (sq (lq (cq ll lf)) (lq (sq (lq (cq ll lf)) (lq (lq (lq (lq (sq (lq (.join [] (cq (lq (lq (pN 9))) lf))) ll))))))))) Tryz.func115 hv
theorem lV.walk {a:Nat} (hv:Cl F.mK #[.P a 0] h λv aR=> ∃t6,v=.I t6/\if(t6==0) then R (.tuple #[.I 0,.U 0,.bool false]) aR else Hl aR a 0 λFw Bs MZ=>Bd 0 Bs/\aP Fw λku=>Re aR (ku.add (toNat 0*2)) λt14=>Hl aR a 0 λqq pd rM=>Bd 0 pd/\aP qq λpE=> ∃t21,ak aR ((pE.add (toNat 0*2)).add 1)=some (.U t21)/\R (.tuple #[.I t14,.U t21,.bool true]) aR):Cl F.lV #[.P a 0] h R:=aS (lq (sq (lq (cq ll lf)) (sq (pN 17) lf))) Tryz.func171 hv
theorem iO.walk {a:Nat} {now:Int} (hv:Cl F.lV #[.P a 0] h λv aR=> ∃pQ tC Wn,v=.tuple #[.I pQ,.U tC,.bool Wn]/\∃(I:bU->Nat->Nat->Int->Int->Bool->aj->Prop) (mu:bU->Nat->Nat->Int->Int->Bool->aj->Nat),I none 0 0 pQ tC Wn aR/\∀(kI:bU) (kJ kK:Nat) (key:Int) (kQ:Int) (is:Bool) (aZ:aj),I kI kJ kK key kQ is aZ->aK (λ(t20:Bool) (bJ:aj)=>if t20 then aV bJ (.cells #[.I key] T.int) λb cB=>aX Tryz.prog (Builtin.append_ #[T.Fc,T.Fc] T.Fc #[.slice kI kJ kK,.slice (some (AA b 0)) 1 1]) cB λeJ cJ=>Vl eJ λo0 nJ pM=>Cl F.gn #[.P a 0,.I key] cJ λgR cQ=>Vi gR λt33=>Cl F.lV #[.P a 0] cQ λkU cW=> ∃DX DY RM,kU=.tuple #[.I DX,.U DY,.bool RM]/\(I o0 nJ pM DX DY RM cW/\mu o0 nJ pM DX DY RM cW<mu kI kJ kK key kQ is aZ) else R (.slice kI kJ kK) bJ) (λJ=>if is then J (decide (kQ<=now)) aZ else J false aZ)):Cl F.iO #[.P a 0,.U now] h R:=aS (lq (lq (sq (lq (bq (.loop [(5,.one (.slice)),(6,.one (.int .i64)),(7,.one (.int .u64)),(8,.one (.bool))] (sq (sq (.join [(20,.one (.bool))] lf) (cq lf lf)) (sq (bq ll) lf))))) ll))) Tryz.func118 hv
end
end Go.Proofs.YtlenamcfacpheaaGreatDoor
namespace Go.rN
abbrev E:=Int×Int
def lt (x y:E):Prop:=x.2<y.2\/(x.2=y.2/\x.1<y.1)
def le (x y:E):Prop:= ¬lt y x
theorem lt_irrefl (x:E): ¬lt x x:=by unfold lt;omega
theorem lt_trans {x y z:E} (h:lt x y) (h':lt y z):lt x z:=by unfold lt at*;omega
theorem le_refl (x:E):le x x:=lt_irrefl x
theorem le_trans {x y z:E} (h:le x y) (h':le y z):le x z:=by unfold le lt at*;omega
theorem le_of_lt {x y:E} (h:lt x y):le x y:=by unfold le lt at*;omega
theorem lt_of_le_ne {x y:E} (h:le x y) (h':x.1≠y.1):lt x y:=by unfold le lt at*;omega
instance (x y : E) : Decidable (lt x y) := inferInstanceAs (Decidable (_ ∨ _))
def CG (f:Nat->E) (n:Nat):Prop:= ∀j,0<j->j<n->le (f ((j - 1)/2)) (f j)
def EB (f:Nat->E) (n i:Nat):Prop:=
 (∀j,0<j->j<n->j≠i->(j - 1)/2≠i->le (f ((j - 1)/2)) (f j))/\(0<i->∀j,0<j->j<n->(j - 1)/2=i->le (f ((i - 1)/2)) (f j))
def EC (f:Nat->E) (n i:Nat):Prop:=
 (∀j,0<j->j<n->(j - 1)/2≠i->le (f ((j - 1)/2)) (f j))/\(0<i->∀j,0<j->j<n->(j - 1)/2=i->le (f ((i - 1)/2)) (f j))
def Ku (f:Nat->E) (n i:Nat):Prop:= ∀j,0<j->j<n->(j - 1)/2=i->le (f i) (f j)
def zH (f:Nat->E) (i j:Nat):Nat->E:=λk=>if k=i then f j else if k=j then f i else f k
theorem afy {f:Nat->E} {n i:Nat} (h:EB f n i) (hi:i=0\/le (f ((i - 1)/2)) (f i)):EC f n i:=by
 refine⟨λj h1 h2 h3=> ?_,h.2⟩;by_cases hj:j=i
 ·subst hj;rcases hi with h0|h0
  ·omega
  ·exact h0
 ·exact h.1 j h1 h2 hj h3
theorem AH {f:Nat->E} {n i:Nat} (h:EC f n i) (hk:Ku f n i):CG f n:=by
 intro j h1 h2;by_cases hj:(j - 1)/2=i
 ·have:=hk j h1 h2 hj;rw[hj];exact this
 ·exact h.1 j h1 h2 hj
theorem afz {f:Nat->E} {n i p:Nat} (h:EB f n i) (h0:0<i) (hn:i<n) (hp:p=(i - 1)/2) (hl:lt (f i) (f p)):EB (zH f i p) n p/\Ku (zH f i p) n p:=by
 have hpi:p≠i:=by omega
 refine⟨⟨λj h1 h2 h3 h4=> ?_,λhp0 j h1 h2 h3=> ?_⟩,λj h1 h2 h3=> ?_⟩
 ·
  have BD:j≠i:=by omega
  unfold zH;rw[ai BD,ai h3];by_cases hpj:(j - 1)/2=i
  ·rw[ag hpj,hp];exact h.2 h0 j h1 h2 hpj
  ·rw[ai hpj,ai h4];exact h.1 j h1 h2 BD hpj
 ·have hpp:=h.1 p hp0 (by omega) hpi (by omega);unfold zH;rw[ai (show(p - 1)/2≠i by omega),ai (show(p - 1)/2≠p by omega)];by_cases BD:j=i
  ·rw[ag BD];exact hpp
  ·rw[ai BD,dL];have:=h.1 j h1 h2 BD (by omega);rw[h3] at this;exact le_trans hpp this
 ·unfold zH;rw[ai hpi,ag rfl];by_cases BD:j=i
  ·rw[ag BD];exact le_of_lt hl
  ·rw[ai BD,dL];have:=h.1 j h1 h2 BD (by omega);rw[h3] at this;exact le_trans (le_of_lt hl) this
theorem aaw {f:Nat->E} {n i c:Nat} (h:EC f n i) (hc:(c - 1)/2=i) (h0:0<c) (hn:c<n) (hl:lt (f c) (f i)) (hm: ∀j,0<j->j<n->(j - 1)/2=i->le (f c) (f j)):EC (zH f i c) n c:=by
 have hci:c≠i:=by omega
 refine⟨λj h1 h2 h3=> ?_,λ_ j h1 h2 h3=> ?_⟩
 ·unfold zH;by_cases BD:j=i
  ·subst BD;rw[ai (show(j - 1)/2≠j by omega),ai (show(j - 1)/2≠c by omega),ag rfl];exact h.2 h1 c h0 hn hc
  ·by_cases hpj:(j - 1)/2=i
   ·rw[ag hpj,ai BD];by_cases hjc:j=c
    ·rw[ag hjc];exact le_of_lt hl
    ·rw[ai hjc];exact hm j h1 h2 hpj
   ·have hjc:j≠c:=by intro e;subst e;exact hpj hc
    rw[ai hpj,ai h3,ai BD,ai hjc];exact h.1 j h1 h2 hpj
 ·unfold zH;rw[hc,ag rfl,ai (show j≠i by omega),ai (show j≠c by omega)];have:=h.1 j h1 h2 (by omega);rw[h3] at this;exact this
theorem aco {f:Nat->E} {n:Nat} (h:CG f n): ∀j,j<n->le (f 0) (f j):=by
 intro j;induction j using Nat.strongRecOn with
 |_ j ih=>
  intro hj;by_cases h0:j=0
  ·subst h0;exact le_refl _
  ·exact le_trans (ih ((j - 1)/2) (by omega) (by omega)) (h j (by omega) hj)
def at_ (es:List E) (i:Nat):E:=es.getD i (0,0)
theorem yM {es:List E} {i:Nat} (h:i<es.length):at_ es i=es[i]:=by simp[at_,h]
theorem Wo {es:List E} {i:Nat} (h:i<es.length):es[i]? =some (at_ es i):=by simp[at_,h]
theorem Uy {es:List E} {i j:Nat} {x:E} (h:i<es.length):at_ (es.set i x) j=if j=i then x else at_ es j:=by
 unfold at_;by_cases e:j=i
 ·subst e;simp[h]
 ·simp[e,ie e]
def Bt (es:List E) (i j:Nat):List E:=(es.set j (at_ es i)).set i (at_ es j)
theorem GH {es:List E} {i j:Nat} :(Bt es i j).length=es.length:=by simp[Bt]
theorem RN {es:List E} {i j:Nat} (hi:i<es.length) (hj:j<es.length) (k:Nat):at_ (Bt es i j) k=zH (at_ es) i j k:=by
 unfold Bt zH;rw[Uy (by simpa using hi),Uy hj]
theorem M0 {es:List E} {i j:Nat} (hi:i<es.length) (hj:j<es.length):at_ (Bt es i j)=zH (at_ es) i j:=funext (RN hi hj)
theorem ED {es:List E} {i j:Nat} (hi:i<es.length) (hj:j<es.length):(Bt es i j).Perm es:=by
 unfold Bt;rw[yM hi,yM hj];exact List.set_set_perm hj hi
def na (es:List E) (g:Int->Option Value):Prop:=
 (es.map (·.1)).Nodup/\(∀j,j<es.length->g (at_ es j).1=some (.int .i64 j))/\∀k,k∉es.map (·.1)->g k=none
theorem key_inj {es:List E} (h:(es.map (·.1)).Nodup) {i j:Nat} (hi:i<es.length) (hj:j<es.length) (he:(at_ es i).1=(at_ es j).1):i=j:=by
 rw[yM hi,yM hj] at he;have h1:=fU (i:=i) (j:=j) (by simpa using hi) h;exact h1.1 (by simp[hi,hj,he])
theorem na.swap {es:List E} {g:Int->Option Value} (h:na es g) {i j:Nat} (hi:i<es.length) (hj:j<es.length) (kA:i≠j):
  na (Bt es i j) (λk=>if k=(at_ es j).1 then some (.I i) else if k=(at_ es i).1 then some (.I j) else g k):=by
 obtain⟨h1,h2,h3⟩:=h;have hp:=(ED hi hj).map (·.1);refine⟨hp.nodup_iff.2 h1,λk hk=> ?_,λk hk=> ?_⟩
 ·rw[GH] at hk;rw[RN hi hj];unfold zH;by_cases e1:k=i
  ·subst e1;simp
  ·by_cases e2:k=j
   ·subst e2;rw[ai e1,ag rfl];have:(at_ es i).1≠(at_ es k).1:=λe=>kA (key_inj h1 hi hj e)
    simp[this]
   ·rw[ai e1,ai e2];have n1:(at_ es k).1≠(at_ es j).1:=λe=>e2 (key_inj h1 hk hj e)
    have n2:(at_ es k).1≠(at_ es i).1:=λe=>e1 (key_inj h1 hk hi e)
    simp[n1,n2,h2 k hk]
 ·have V2:k∉es.map (·.1):=λhm=>hk (hp.mem_iff.2 hm)
  have m1:(at_ es j).1∈es.map (·.1):=by rw[yM hj];exact bB (fw hj)
  have m2:(at_ es i).1∈es.map (·.1):=by rw[yM hi];exact bB (fw hi)
  simp only[];rw[ai (show k≠_ from λe=>V2 (e.symm▸m1)),ai (show k≠_ from λe=>V2 (e.symm▸m2))];exact h3 k V2
def pF (l:List E):Prop:=l.Pairwise lt
def keys (l:List E):List Int:=l.map (·.1)
def iH (l:List E) (k:Int):List E:=l.filter (λe=> !(e.1==k))
def Fx (l:List E) (x:E):List E:=l.filter (λe=>decide (lt e x))++x::l.filter (λe=> !decide (lt e x))
theorem vT (l:List E) (x:E):(Fx l x).Perm (x::l):=by
 unfold Fx;refine(List.perm_middle).trans (List.Perm.cons x ?_);exact List.filter_append_perm _ _
theorem pF.drop {l:List E} (h:pF l) (k:Int):pF (iH l k):=iK _ h
theorem pF.insert {l:List E} (h:pF l) (x:E) (hk:x.1∉keys l):pF (Fx l x):=by
 unfold pF Fx;rw[List.pairwise_append];refine⟨iK _ h,?_,?_⟩
 ·rw[fi];refine⟨λy hy=> ?_,iK _ h⟩;obtain⟨hm,hq⟩:=aY.1 hy;have hn: ¬lt y x:=by simpa using hq
  exact lt_of_le_ne hn (λe=>hk (by rw[e];exact bB hm))
 ·intro y hy z hz;obtain⟨_,hq⟩:=aY.1 hy;have hyx:lt y x:=by simpa using hq
  rcases bP.1 hz with rfl|hz
  ·exact hyx
  ·obtain⟨_,Gw⟩:=aY.1 hz;have hn: ¬lt z x:=by simpa using Gw
   unfold lt at*;omega
theorem Uz (l:List E) (k:Int):k∉keys (iH l k):=by
 intro h;obtain⟨e,he,rfl⟩:=bn.1 h;have:=(aY.1 he).2;simp at this
theorem sf {l:List E} {k:Int} (h:k∉keys l):iH l k=l:=by
 unfold iH;rw[cH];intro e he;have:e.1≠k:=λe'=>h (e'▸bB he)
 simp[this]
theorem UA {l l':List E} (h:l.Perm l') (k:Int):(iH l k).Perm (iH l' k):=h.filter _
theorem acp {es l:List E} (hp:es.Perm l) (hs:pF l) (hh:CG (at_ es) es.length) (h0:0<es.length): ∃r,l=at_ es 0::r:=by
 cases l with
 |nil=>have:=hp.length_eq;simp only[bC] at this;omega
 |cons x r=>
  refine⟨r,?_⟩;have hx:x∈es:=hp.mem_iff.2 dX;obtain⟨j,hj⟩:=bG hx;have Cf:j<es.length:=(aG.1 hj).1;have amp:=aco hh j Cf;rw[Wo Cf] at hj;have e1:at_ es j=x:=bz hj;rw[e1] at amp;have hm:at_ es 0∈x::r:=hp.mem_iff.1 (by rw[yM h0];exact fw h0);rcases bP.1 hm with e|e
  ·rw[e]
  ·have:=(fi.1 hs).1 _ e;exact absurd this amp
end Go.rN
