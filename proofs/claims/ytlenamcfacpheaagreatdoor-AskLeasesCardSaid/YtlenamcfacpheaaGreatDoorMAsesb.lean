/-
  TT is proved here: parts of Js proof, one behind Js other (texts of this work, merged by a program; ZV Js theorem ZW not use is left out). No condition.
-/
import Derived.Recover
import Derived.Test.YtlenamcfacpheaaGreatDoorProg
import Derived.Shelf.Strings.Cut
import Derived.Shelf.Strconv.Itoa4
import Derived.Ground.NamesProg
import Derived.Shelf.Small.Wraps
import Derived.Test.YtlenamcfacpheaaGreatDoorMAsesa
set_option maxRecDepth 100000
set_option maxHeartbeats 4000000
set_option linter.unusedSectionVars false
namespace Go.Den
section
variable {P : Program} {α : Type} [DecidableEq α]
structure MM (P:Program) (kt:TypeId) (enc:α->Value):Prop where
 eq: ∀(a b:α) (h:aj),rd P (Op.equal kt (enc a) (enc b)) h=some (decide (a=b))
 chk: ∀(e:Bool) (a:α) (h:aj),rd P (Instr.checkKey e 10000 kt (enc a)) h=some ()
 now: ∃d,P.underlying kt=some d/\∀a b,Instr.sameNow d (enc a) (enc b)=none\/Instr.sameNow d (enc a) (enc b)=some (decide (a=b))
 bits: ∀a,Instr.sameBits 10000 (enc a) (enc a)=true
abbrev Bb (enc:α->Value) (t:α×Value×Nat):MapEntry:=⟨enc t.1,t.2.1,t.2.2⟩
abbrev pr (t:α×Value×Nat):α×Value:=(t.1,t.2.1)
structure ama (h:aj) (m:Nat) (enc:α->Value) (T:List (α×Value×Nat)) (clock:Nat):Prop where
 dF:h[m]? =some (.map (T.map (Bb enc)).toArray clock)
 keys:(T.map (·.1)).Nodup
 I9: ∀t∈T,t.2.2<clock
 born:(T.map (·.2.2)).Nodup
def pY (h:aj) (m:Nat) (enc:α->Value) (l:List (α×Value)):Prop:= ∃T clock,ama h m enc T clock/\(T.map pr).Perm l
def GC (l:List (α×Value)) (k:α):List (α×Value):=l.filter (λe=> !decide (e.1=k))
def Rp (l:List (α×Value)) (k:α) (v:Value):List (α×Value):=(k,v)::GC l k
theorem pY.perm {h:aj} {m:Nat} {enc:α->Value} {l l':List (α×Value)} (H:pY h m enc l) (p:l.Perm l'):pY h m enc l':=by
 obtain⟨T,c,h1,h2⟩:=H;exact⟨T,c,h1,h2.trans p⟩
theorem pY.wJ {h h':aj} {m:Nat} {enc:α->Value} {l:List (α×Value)} (H:pY h m enc l) (he:h'[m]? =h[m]?):pY h' m enc l:=by
 obtain⟨T,c,⟨a,b,d,e⟩,h2⟩:=H;exact⟨T,c,⟨he.trans a,b,d,e⟩,h2⟩
theorem pY.lt {h:aj} {m:Nat} {enc:α->Value} {l:List (α×Value)} (H:pY h m enc l):m<h.size:=by
 obtain⟨T,c,h1,_⟩:=H;exact aI h1.dF
theorem pY.frame {S:Nat->Prop} {h h':aj} {m:Nat} {enc:α->Value} {l:List (α×Value)} (H:pY h m enc l) (hf:Fr S h h') (hn: ¬S m):pY h' m enc l:=H.wJ (hf.2 m H.lt hn)
theorem pY.push (h:aj) (enc:α->Value):pY (h.push (.map #[] 0)) h.size enc []:=⟨[],0,⟨cA,by simp,by simp,by simp⟩,.refl _⟩
theorem pY.nodup {h:aj} {m:Nat} {enc:α->Value} {l:List (α×Value)} (H:pY h m enc l):(l.map (·.1)).Nodup:=by
 obtain⟨T,c,h1,h2⟩:=H;have h3:=h2.map (·.1);rw[fH] at h3;exact h3.nodup_iff.1 h1.keys
def wP (k:α):List (α×Value×Nat)->Nat->Option (Nat×Value)
 | [],_=>none
 |t::T,i=>if k=t.1 then some (i,t.2.1) else wP k T (i+1)
theorem Ar {k:α} : ∀ {T:List (α×Value×Nat)} {i:Nat},wP k T i=none->∀t∈T,t.1≠k
 | [],_,_,_,ht=>by cases ht
 |u::T,i,h,t,ht=>by
  unfold wP at h;split at h
  ·cases h
  ·rename_i kB;rcases bQ.1 ht with rfl|ht
   ·exact λe=>kB e.symm
   ·exact Ar h t ht
theorem As {k:α} : ∀ {T:List (α×Value×Nat)} {i j:Nat} {v:Value},wP k T i=some (j,v)->∃A B b,T=A++(k,v,b)::B/\j=i+A.length
 | [],_,_,_,h=>by cases h
 |u::T,i,j,v,h=>by
  unfold wP at h;split at h
  ·rename_i he;simp only[bF,jK] at h;obtain⟨rfl,rfl⟩:=h;subst he;exact⟨[],T,u.2.2,rfl,rfl⟩
  ·obtain⟨A,B,b,rfl,rfl⟩:=As h;exact⟨u::A,B,b,rfl,by rw[bj];omega⟩
theorem HI {kt:TypeId} {enc:α->Value} {d:TypeDesc} (hd: ∀a b,Instr.sameNow d (enc a) (enc b)=none\/Instr.sameNow d (enc a) (enc b)=some (decide (a=b))) (k:α):
  ∀(T:List (α×Value×Nat)) (i:Nat),Instr.findNow d (enc k) (T.map (Bb enc)) i=none\/Instr.findNow d (enc k) (T.map (Bb enc)) i=some (wP k T i)
 | [],i=> .inr rfl
 |t::T,i=>by
  rw[cB];unfold Instr.findNow wP;rcases hd k t.1 with e|e<;>rw[e]
  ·exact .inl rfl
  ·by_cases hk:k=t.1
   ·rw[ay hk,ag hk];exact .inr rfl
   ·rw[decide_eq_false hk,ai hk];exact HI (kt:=kt) hd k T (i+1)
theorem MN {kt:TypeId} {enc:α->Value} (K:MM P kt enc) (k:α) (h:aj): ∀(T:List (α×Value×Nat)) (i:Nat),rd P (Instr.findAsking kt (enc k) (T.map (Bb enc)) i) h=some (wP k T i)
 | [],i=>rfl
 |t::T,i=>by
  rw[cB];unfold Instr.findAsking wP;rw[bu _ _ _ _ (K.eq k t.1 h)];by_cases hk:k=t.1
  ·rw[ay hk,ag hk,ag rfl];rfl
  ·rw[decide_eq_false hk,ai hk,ai (by simp)];exact MN K k h T (i+1)
theorem OW {kt:TypeId} {enc:α->Value} (K:MM P kt enc) (k:α) (h:aj) (T:List (α×Value×Nat)):rd P (Instr.findKey kt (enc k) (T.map (Bb enc))) h=some (wP k T 0):=by
 obtain⟨d,h1,h2⟩:=K.now;unfold Instr.findKey;rw[bu _ _ _ _ (bE h1)];rcases HI (kt:=kt) h2 k T 0 with e|e<;>rw[e]
 ·exact MN K k h T 0
 ·rfl
structure y9 (P:Program) (t:TypeId) (enc:α->Value) (z:Value):Prop where
 ty: ∃k e,P.underlying t=some (.map k e)/\MM P k enc/\∃i,P.info? e=some i/\i.zero=some z
theorem y9.of {t:TypeId} {enc:α->Value} {z:Value} (k e:TypeId) (h1:P.underlying t=some (.map k e)) (h2:MM P k enc) (h3:(P.info? e).bind (·.zero)=some z):y9 P t enc z:=by
 cases hi:P.info? e with
 |none=>rw[hi] at h3;cases h3
 |some i=>exact⟨k,e,h1,h2,i,hi,by rw[hi] at h3;exact h3⟩
def DH (l:List (α×Value)) (k:α):Option Value:=(l.find? (λe=>decide (e.1=k))).map (·.2)
theorem MO {l:List (α×Value)} {k:α} :DH l k=none↔ ∀e∈l,e.1≠k:=by
 unfold DH;rw[Option.map_eq_none_iff,List.find?_eq_none];simp
theorem MP {l:List (α×Value)} {k:α} {v:Value} (hn:(l.map (·.1)).Nodup):DH l k=some v↔(k,v)∈l:=by
 induction l with
 |nil=>simp[DH]
 |cons e l ih=>
  rw[cB,gv] at hn;unfold DH at ih⊢;rw[List.find?_cons];by_cases h:e.1=k
  ·rw[ay h];simp only[dz,bF,bQ];constructor
   ·rintro rfl;exact .inl (by rw[<-h])
   ·rintro(rfl|hm)
    ·rfl
    ·exact absurd (bB (f:=(·.1)) hm) (by rw[<-h];exact hn.1)
  ·rw[decide_eq_false h];rw[ih hn.2,bQ];constructor
   ·exact .inr
   ·rintro(rfl|hm)
    ·exact absurd rfl h
    ·exact hm
theorem pY.find {h:aj} {m:Nat} {enc:α->Value} {l:List (α×Value)} (H:pY h m enc l) {T:List (α×Value×Nat)} (hp:(T.map pr).Perm l) (k:α):(wP k T 0).map (·.2)=DH l k:=by
 have hn:=H.nodup;cases e:wP k T 0 with
 |none=>
  symm
  rw[Option.map_none,MO];intro x hx;obtain⟨t,ht,rfl⟩:=bn.1 (hp.mem_iff.2 hx);exact Ar e t ht
 |some jv=>
  obtain⟨j,v⟩:=jv;obtain⟨A,B,b,rfl,_⟩:=As e;symm
  rw[dz,MP hn];exact hp.mem_iff.1 (by simp)
theorem ahT {t:TypeId} {enc:α->Value} {z:Value} (K:y9 P t enc z) {h:aj} {m:Nat} {l:List (α×Value)} (H:pY h m enc l) (k:α) (ok:Bool):
  rd P (Instr.lookup t (.map (some m)) (enc k) ok) h=some (if ok then .tuple #[(DH l k).getD z,.bool (DH l k).isSome] else(DH l k).getD z):=by
 obtain⟨kt,e,ht,hk,i,hi,hz⟩:=K.ty;have H0:=H;obtain⟨T,c,H,hp⟩:=H;rw[<-H0.find hp k];unfold Instr.lookup;rw[bu _ _ _ _ (bE ht)];simp only;rw[bu _ _ _ _ (pj H.dF)];simp only;rw[bu _ _ _ _ (pJ _),bu _ _ _ _ (hk.chk _ k h),bu _ _ _ _ (OW hk k h T)];cases hf:wP k T 0 with
 |none=>
  simp only;rw[bu _ _ _ _ (oM hi hz)];cases ok<;>rfl
 |some jv=>cases ok<;>rfl
theorem V9 {t:TypeId} {enc:α->Value} {z:Value} (K:y9 P t enc z) {h:aj} {m:Nat} {l:List (α×Value)} (H:pY h m enc l) (k:α):mD P t (.map (some m)) (enc k) false h ((DH l k).getD z):=λh' hs=>by
 have:=ahT K (H.wJ (h':=h') hs) k false;simpa using this
theorem aai {t:TypeId} {enc:α->Value} {z:Value} (K:y9 P t enc z) {h:aj} {m:Nat} {l:List (α×Value)} (H:pY h m enc l) (k:α):mD P t (.map (some m)) (enc k) true h (.tuple #[(DH l k).getD z,.bool (DH l k).isSome]):=λh' hs=>by
 have:=ahT K (H.wJ (h':=h') hs) k true;simpa using this
theorem Ue {t ty:TypeId} {enc:α->Value} {z:Value} (K:y9 P t enc z) {h:aj} {m:Nat} {l:List (α×Value)} (H:pY h m enc l):afe P #[t] ty (.map (some m)) h (.I (l.length:Int)):=λh' hs=>by
 obtain⟨kt,e,ht,_⟩:=K.ty;obtain⟨T,c,H,hp⟩:=H;have hb:h'[m]? =some (.map (T.map (Bb enc)).toArray c):=Eq.trans hs H.dF;have hl:T.length=l.length:=by rw[<-hp.length_eq,aN]
 unfold Builtin.len_;show rd P (underlying t>>=_) h'=_;rw[bu _ _ _ _ (bE ht)];show rd P (getObj m>>=_) h'=_;rw[bu _ _ _ _ (pj hb)];show some (goInt _)=_;simp[hl,goInt]
theorem Uf {β:Type} (A B:List β) (t:β) (f:β->β):(A++t::B).modify A.length f=A++f t::B:=by
 induction A with
 |nil=>rfl
 |cons a A ih=>simp only[fw,bj,List.modify_succ_cons,ih]
theorem aaj {β:Type} (A B:List β) (t:β):(A++t::B).eraseIdx A.length=A++B:=by
 induction A with
 |nil=>rfl
 |cons a A ih=>simp only[fw,bj,List.eraseIdx_cons_succ,ih]
theorem MQ {l l':List (α×Value)} (p:l.Perm l') (k:α):(GC l k).Perm (GC l' k):=p.filter _
theorem Rr {A B:List (α×Value×Nat)} {k:α} {v:Value} {b:Nat} (hn:((A++(k,v,b)::B).map (·.1)).Nodup):GC ((A++(k,v,b)::B).map pr) k=(A++B).map pr:=by
 rw[bm,cB,gi] at hn;obtain⟨_,h2,h3⟩:=hn;rw[gv] at h2;unfold GC;rw[bm,cB,iE,cD,ai (by simp),bm];congr 1
 ·rw[cI];intro e he;obtain⟨t,ht,rfl⟩:=bn.1 he;have:=h3 t.1 (bB ht) k (by simp);simp[this]
 ·rw[cI];intro e he;obtain⟨t,ht,rfl⟩:=bn.1 he;have:t.1≠k:=λe=>h2.1 (bn.2 ⟨t,ht,e⟩)
  simp[this]
theorem Dp {l:List (α×Value)} {k:α} (hn: ∀e∈l,e.1≠k):GC l k=l:=by
 unfold GC;rw[cI];intro e he;simp[hn e he]
theorem JT {t:TypeId} {enc:α->Value} {z:Value} (K:y9 P t enc z) {h:aj} {m:Nat} {l:List (α×Value)} (H:pY h m enc l) {k:α} {v:Value} {Q:Unit->aj->Prop}
  (hk: ∀h',pY h' m enc (Rp l k v)->h'.size=h.size->(∀c,c≠m->h'[c]? =h[c]?)->Q () h'):aX P (Instr.mapUpdate t (.map (some m)) (enc k) v) h Q:=by
 obtain⟨kt,e,ht,Ua,_⟩:=K.ty;obtain⟨T,c,H,hp⟩:=H;have jc:=aI H.dF;unfold Instr.mapUpdate;refine bY (bE ht) ?_;simp only;refine bY (pj H.dF) ?_;simp only;refine bY (Ua.chk _ k h) ?_;have fin: ∀(T':List (α×Value×Nat)) (yJ:Array MapEntry) (c':Nat),yJ.toList=T'.map (Bb enc)->(T'.map (·.1)).Nodup->(∀t∈T',t.2.2<c')->(T'.map (·.2.2)).Nodup->(T'.map pr).Perm (Rp l k v)->aX P (setObj m (.map yJ c')) h Q:=λT' yJ c' h0 h1 h2 h3 h4=>by
  refine⟨⟨_,H.dF,λc e f he=>by cases he⟩,?_⟩;refine hk _ ⟨T',c',⟨?_,h1,h2,h3⟩,h4⟩ (by simp) (λx hx=> ?_)
  ·rw[<-h0];simp[jc]
  ·rw[cM,ai (ie hx)]
 refine bY (OW Ua k h T) ?_;cases hf:wP k T 0 with
 |none=>
  simp only;have Gw:=Ar hf;refine fin (T++ [(k,v,c)]) _ _ (by simp) ?_ ?_ ?_ ?_
  ·rw[bm,gi];refine⟨H.keys,by simp,λa ha b hb=> ?_⟩;obtain⟨t,ht,rfl⟩:=bn.1 ha;simp at hb;subst hb;exact Gw t ht
  ·intro t ht;rcases bU.1 ht with ht|ht
   ·exact Nat.lt_succ_of_lt (H.I9 t ht)
   ·obtain rfl:=bW.1 ht;exact Nat.lt_succ_self _
  ·rw[bm,gi];refine⟨H.born,by simp,λa ha b hb=> ?_⟩;obtain⟨t,ht,rfl⟩:=bn.1 ha;simp at hb;subst hb;exact Nat.ne_of_lt (H.I9 t ht)
  ·unfold Rp;rw[Dp (λe he=>by obtain⟨t,ht,rfl⟩:=bn.1 (hp.mem_iff.2 he);exact Gw t ht),bm];exact(List.perm_append_comm.trans (.refl _)).trans (List.Perm.cons _ hp)
 |some jv=>
  obtain⟨j,u⟩:=jv;obtain⟨A,B,b,rfl,hj⟩:=As hf;rw[cf] at hj;subst hj;simp only;have xN:rd P (Instr.keyThatStays (((((A++(k,u,b)::B).map (Bb enc)).toArray[A.length]?).map (·.key)).getD (enc k)) (enc k)) h=some (enc k):=by
   have:((A++(k,u,b)::B).map (Bb enc)).toArray[A.length]? =some (Bb enc (k,u,b)):=by simp
   rw[this];simp only[dz,Option.getD_some];unfold Instr.keyThatStays;rw[ag (Ua.bits k)];rfl
  refine bY xN ?_;refine fin (A++(k,v,b)::B) _ _ ?_ ?_ ?_ ?_ ?_
  ·rw[Array.toList_modify,bm,cB];have:=Uf (A.map (Bb enc)) (B.map (Bb enc)) (Bb enc (k,u,b)) (λe=> { e with key:=enc k,val:=v });rw[aN] at this;rw[this,bm,cB]
  ·have:=H.keys;simpa using this
  ·intro t ht;rcases bU.1 ht with ht|ht
   ·exact H.I9 t (fK _ ht)
   ·rcases bQ.1 ht with rfl|ht
    ·exact H.I9 (k,u,b) (by simp)
    ·exact H.I9 t (by simp[ht])
  ·have:=H.born;simpa using this
  ·unfold Rp;refine List.Perm.trans ?_ (List.Perm.cons _ ((Rr H.keys▸MQ hp k)));rw[bm,cB,bm];exact List.perm_middle
theorem Rs {t kt' ty:TypeId} {enc:α->Value} {z:Value} (K:y9 P t enc z) {h:aj} {m:Nat} {l:List (α×Value)} (H:pY h m enc l) {k:α} {Q:iI}
  (hk: ∀h',pY h' m enc (GC l k)->h'.size=h.size->(∀c,c≠m->h'[c]? =h[c]?)->Q (.tuple #[]) h'):aX P (Builtin.delete_ #[t,kt'] ty #[.map (some m),enc k]) h Q:=by
 obtain⟨kt,e,ht,Ua,_⟩:=K.ty;obtain⟨T,c,H,hp⟩:=H;have jc:=aI H.dF;unfold Builtin.delete_;refine bY (bE ht) ?_;show aX P (do
   let __x<-getObj m
   match __x with
    |Obj.map es clock=>do
     Instr.checkKey es.isEmpty 10000 kt (enc k)
     let __do_lift<-Instr.findKey kt (enc k) es.toList
     match __do_lift with
      |some (i,_)=>do
       setObj m (Obj.map (es.eraseIdxIfInBounds i) clock)
       pure (Value.tuple #[])
      |none=>do
       setObj m (Obj.map es clock)
       pure (Value.tuple #[])
    |_=>do
     stuck "delete: map expected"
     pure (Value.tuple #[])) h Q
 refine bY (pj H.dF) ?_;simp only;refine bY (Ua.chk _ k h) ?_;have fin: ∀(T':List (α×Value×Nat)) (yJ:Array MapEntry),yJ.toList=T'.map (Bb enc)->(T'.map (·.1)).Nodup->(∀t∈T',t.2.2<c)->(T'.map (·.2.2)).Nodup->(T'.map pr).Perm (GC l k)->aX P (do setObj m (.map yJ c);pure (Value.tuple #[])) h Q:=λT' yJ h0 h1 h2 h3 h4=>by
  rw[fa];refine⟨⟨_,H.dF,λc e f he=>by cases he⟩,?_⟩;refine hk _ ⟨T',c,⟨?_,h1,h2,h3⟩,h4⟩ (by simp) (λx hx=> ?_)
  ·rw[<-h0];simp[jc]
  ·rw[cM,ai (ie hx)]
 refine bY (OW Ua k h T) ?_;cases hf:wP k T 0 with
 |none=>
  have Gw:=Ar hf;refine fin T _ rfl H.keys H.I9 H.born ?_;rw[Dp (λe he=>by obtain⟨t,ht,rfl⟩:=bn.1 (hp.mem_iff.2 he);exact Gw t ht)];exact hp
 |some jv=>
  obtain⟨j,u⟩:=jv;obtain⟨A,B,b,rfl,hj⟩:=As hf;rw[cf] at hj;subst hj;have qZ:List.Sublist (A++B) (A++(k,u,b)::B):=List.Sublist.append (List.Sublist.refl _) (List.sublist_cons_self _ _);refine fin (A++B) _ ?_ ((qZ.map _).nodup H.keys) (λt ht=>H.I9 t (qZ.subset ht)) ((qZ.map _).nodup H.born) (Rr H.keys▸MQ hp k);rw[Array.toList_eraseIdxIfInBounds,bm,cB];have:=aaj (A.map (Bb enc)) (B.map (Bb enc)) (Bb enc (k,u,b));rw[aN] at this;rw[this,bm]
def Iter (h:aj) (r m:Nat) (enc:α->Value) (l done:List (α×Value)):Prop:=
 ∃T clock D last,ama h m enc T clock/\(T.map pr).Perm l/\h[r]? =some (.mapIter (some m) clock (D.map (·.2.2)).toArray last)/\(D≠ []->last=clock)/\D.Nodup/\(∀t∈D,t∈T)/\D.map pr=done/\r≠m
theorem Iter.frame {S:Nat->Prop} {h h':aj} {r m:Nat} {enc:α->Value} {l done:List (α×Value)} (H:Iter h r m enc l done) (f:Fr S h h') (h1: ¬S r) (h2: ¬S m):Iter h' r m enc l done:=by
 obtain⟨T,c,D,last,A,B,C,E⟩:=H;exact⟨T,c,D,last,⟨f.get A.dF h2,A.keys,A.I9,A.born⟩,B,f.get C h1,E⟩
theorem Iter.le {h:aj} {r m:Nat} {enc:α->Value} {l done:List (α×Value)} (H:Iter h r m enc l done):done.length<=l.length:=by
 obtain⟨T,c,D,last,A,B,_,_,hn,hs,rfl,_⟩:=H;rw[aN,<-B.length_eq,aN];exact hn.length_le_of_subset (λt ht=>hs t ht)
theorem Ug {t:TypeId} {enc:α->Value} {z:Value} (K:y9 P t enc z) {h:aj} {m:Nat} {l:List (α×Value)} (H:pY h m enc l) {Q:iI}
  (hk: ∀r h',r=h.size->Iter h' r m enc l []->Fr (λ_=>False) h h'->Q (.P r 0) h'):aX P (Instr.range t (.map (some m))) h Q:=by
 obtain⟨kt,e,ht,Ua,_⟩:=K.ty;obtain⟨T,c,H,hp⟩:=H;unfold Instr.range;refine bY (bE ht) ?_;simp only;show aX P (getObj m>>=_) h Q;refine bY (pj H.dF) ?_
 ·have f:Fr (λ_=>False) h (h.push (.mapIter (some m) c #[] c)):=Fr.push _ _;exact hk h.size _ rfl ⟨T,c, [],c,⟨f.get H.dF id,H.keys,H.I9,H.born⟩,hp,cA,(λe=>absurd rfl e),.nil,(λt ht=>by cases ht),rfl,λe=>by have:=aI H.dF;omega⟩ f
theorem JU {β:Type} {n:Nat} {g:Nat->Sem β} {h:aj} {Q:β->aj->Prop} (hn:0<n) (hk: ∀i,i<n->aX P (g i) h Q):aX P (choose (.mapNext n)>>=g) h Q:=by
 show(if(Question.mapNext n).forced=true then aX P (g 0) h Q else∀t,aX P (g ((Question.mapNext n).cut t)) h Q);split
 ·exact hk 0 hn
 ·intro t;exact hk _ (Nat.mod_lt _ hn)
theorem aak {ty:TypeId} {enc:α->Value} {h:aj} {r m:Nat} {l done:List (α×Value)} (I:Iter h r m enc l done) {Q:iI} (k1:done.Perm l->Q (.tuple #[.bool false]) h)
  (k2: ∀a v h',(a,v)∈l->(a,v)∉done->Iter h' r m enc l (done++ [(a,v)])->h'.size=h.size->(∀c,c≠r->h'[c]? =h[c]?)->Q (.tuple #[.bool true,enc a,v]) h'):
  aX P (Instr.next (.P r 0) false ty) h Q:=by
 classical
 obtain⟨T,c,D,last,M,hp,hr,HJ,hn,qZ,rfl,kB⟩:=I;have jc:=aI hr;have hTn:T.Nodup:=by
  have:=M.keys;exact List.Pairwise.of_map (S:=(· ≠ ·)) (·.1) (λa b hab e=>hab (by rw[e])) this
 unfold Instr.next;simp only;have hri:rd P (getObj r) h=some (.mapIter (some m) c (D.map (·.2.2)).toArray last):=by unfold getObj;simp only[rd,hr]
 refine bY hri ?_;simp only;refine bY (pj M.dF) ?_;simp only;have hq:(!(D.map (·.2.2)).toArray.isEmpty && !(T.map (Bb enc)).toArray.isEmpty && (T.map (Bb enc)).toArray.all (λe=>decide (e.born≥last)))=false:=by
  cases hD:D with
  |nil=>rfl
  |cons d D'=>
   have hl:=HJ (by rw[hD];simp);have hd:d∈T:=qZ d (by rw[hD];simp);have:(T.map (Bb enc)).toArray.all (λe=>decide (e.born≥last))=false:=by
    rw[List.all_toArray,List.all_eq_false];exact⟨Bb enc d,bB hd,by simp;have:=M.I9 d hd;omega⟩
   rw[this];simp
 rw[ai (by rw[hq];simp)];have ahU:(T.map (Bb enc)).toArray.filter (λe=> !(D.map (·.2.2)).toArray.contains e.born)=((T.filter (λt=> !decide (t∈D))).map (Bb enc)).toArray:=by
  apply Array.ext'
  rw[Array.toList_filter];simp only[];rw[eM];congr 1
  apply fG
  intro t ht;have:(D.map (·.2.2)).toArray.contains (Bb enc t).born=decide (t∈D):=by
   by_cases hm:t∈D
   ·rw[ay hm];simp;exact⟨t.1,t.2.1,hm⟩
   ·rw[decide_eq_false hm];simp only[List.contains_toArray,List.contains_eq_mem,decide_eq_false_iff_not,bn,not_exists,not_and];intro u hu e;have apT:u=t:=by
     have hb:=M.born;have hu':=qZ u hu;obtain⟨i,hi⟩:=bH hu';obtain⟨j,hj⟩:=bH ht;have MK:=(aG.1 hi).1;have:=(fV (l:=T.map (·.2.2)) (i:=i) (j:=j) (by simpa using MK) hb).1 (by rw[aO,aO,hi,hj];simp[e]);subst this;rw[hi] at hj;exact bz hj
    exact hm (apT▸hu)
  simp only[Function.comp,this]
 have hold:(((T.filter (λt=> !decide (t∈D))).map (Bb enc)).toArray.filter (λe=>decide (e.born<c)))=((T.filter (λt=> !decide (t∈D))).map (Bb enc)).toArray:=by
  rw[Array.filter_eq_self];intro e he;obtain⟨t,ht,rfl⟩:=bn.1 (List.mem_toArray.1 he);exact ay (M.I9 t (aY.1 ht).1)
 have ajH:(((T.filter (λt=> !decide (t∈D))).map (Bb enc)).toArray.filter (λe=>decide (e.born≥c)))= #[]:=by
  rw[Array.filter_eq_empty_iff];intro e he;obtain⟨t,ht,rfl⟩:=bn.1 (List.mem_toArray.1 he);have:=M.I9 t (aY.1 ht).1;simp;omega
 rw[ahU,hold,ajH];simp only[Array.append_empty];cases hF:T.filter (λt=> !decide (t∈D)) with
 |nil=>
  refine JU (by simp) λi hi=> ?_
  have:i=0:=by simpa using hi
  subst this;have e0:((if((([]:List (α×Value×Nat)).map (Bb enc)).toArray.isEmpty=true) then #[none] else #[])++Array.map some (([]:List (α×Value×Nat)).map (Bb enc)).toArray)[0]? =some none:=by simp
  rw[e0];show aX P (pure (.tuple #[.bool false])) h Q;refine k1 ?_;refine List.Perm.trans (List.Perm.map _ ?_) hp;rw[List.perm_ext_iff_of_nodup hn hTn];intro t;refine⟨qZ t,λht=> ?_⟩;have:=List.filter_eq_nil_iff.1 hF t ht;simpa using this
 |cons f F=>
  refine JU (by simp) λi hi=> ?_
  rw[<-hF] at hi⊢;have apU:(((T.filter (λt=> !decide (t∈D))).map (Bb enc)).toArray.isEmpty)=false:=by rw[hF];rfl
  rw[apU] at hi⊢;simp only[aA,aU,Array.empty_append] at hi⊢;have hi':i<(T.filter (λt=> !decide (t∈D))).length:=by simpa using hi
  obtain⟨t,ht⟩: ∃t,(T.filter (λt=> !decide (t∈D)))[i]? =some t:=⟨_,au hi'⟩;have ajB:(Array.map some ((T.filter (λt=> !decide (t∈D))).map (Bb enc)).toArray)[i]? =some (some (Bb enc t)):=by simp[ht]
  rw[ajB];have htm:=aY.1 (bt ht);have htD:t∉D:=by simpa using htm.2
  refine⟨⟨_,hr,λ_ _ _ e=>by cases e⟩,?_⟩;refine k2 t.1 t.2.1 _ (hp.mem_iff.1 (bB (f:=pr) htm.1)) ?_ ⟨T,c,D++ [t],c,⟨?_,M.keys,M.I9,M.born⟩,hp,?_,(λ_=>rfl),?_,?_,?_,kB⟩ (by simp) (λx hx=> ?_)
  ·intro apV;obtain⟨u,hu,e⟩:=bn.1 apV;have h1:u.1=t.1:=bp (λx:α×Value=>x.1) e;have:u=t:=by
    obtain⟨i,hi⟩:=bH (qZ u hu);obtain⟨j,hj⟩:=bH htm.1;have MK:=(aG.1 hi).1;have:=(fV (l:=T.map (·.1)) (i:=i) (j:=j) (by simpa using MK) M.keys).1 (by rw[aO,aO,hi,hj];simp[h1]);subst this;rw[hi] at hj;exact bz hj
   exact htD (this▸hu)
  ·rw[cM,ai kB];exact M.dF
  ·simp[jc]
  ·rw[gi];exact⟨hn,by simp,λa ha b hb=>by simp at hb;subst hb;exact λe=>htD (e▸ha)⟩
  ·intro u hu;rcases bU.1 hu with hu|hu
   ·exact qZ u hu
   ·obtain rfl:=bW.1 hu;exact htm.1
  ·rw[bm];rfl
  ·rw[cM,ai (ie hx)]
end
end Go.Den
namespace Go.Den
section
variable {P : Program} {α : Type}
theorem find_born (enc:α->Value) {t:α×Value×Nat} : ∀ {T:List (α×Value×Nat)},(T.map (·.2.2)).Nodup->t∈T->T.find? ((λe:MapEntry=>e.born==t.2.2) ∘ Bb enc)=some t
 | [],_,ht=>by cases ht
 |u::T,hn,ht=>by
  rw[cB,gv] at hn;rw[List.find?_cons];by_cases hu:u.2.2=t.2.2
  ·have:((λe:MapEntry=>e.born==t.2.2) ∘ Bb enc) u=true:=by simp[hu]
   rw[this];rcases bQ.1 ht with e|e
   ·rw[e]
   ·exact absurd (bn.2 ⟨t,e,hu.symm⟩) hn.1
  ·have:((λe:MapEntry=>e.born==t.2.2) ∘ Bb enc) u=false:=by simp[hu]
   rw[this];rcases bQ.1 ht with e|e
   ·exact absurd (by rw[e]) hu
   ·exact find_born enc hn.2 e
theorem JV {t:TypeId} {s:ByteArray} {h:aj} {Q:iI} (ht:P.underlying t=some .string) (hk: ∀r h',r=h.size->h'[r]? =some (.stringIter s 0)->Fr (λ_=>False) h h'->Q (.P r 0) h'):
  aX P (Instr.range t (.string s)) h Q:=by
 unfold Instr.range;refine bY (bE ht) ?_;exact hk h.size _ rfl cA (Fr.push _ _)
theorem aal {ty:TypeId} {s:ByteArray} {h:aj} {r pos:Nat} {Q:iI} (hr:h[r]? =some (.stringIter s pos)) (k1:s.size<=pos->Q (.tuple #[.bool false]) h)
  (k2:pos<s.size->∀h',h'[r]? =some (.stringIter s (pos+(Utf8.decode s pos).2))->h'.size=h.size->(∀c,c≠r->h'[c]? =h[c]?)->Q (.tuple #[.bool true,.I (pos:Int),.int .i32 ((Utf8.decode s pos).1:Int)]) h'):
  aX P (Instr.next (.P r 0) true ty) h Q:=by
 have jc:=aI hr;unfold Instr.next;simp only;have hri:rd P (getObj r) h=some (.stringIter s pos):=by unfold getObj;simp only[rd,hr]
 refine bY hri ?_;simp only;by_cases hp:pos<s.size
 ·rw[ag hp];refine⟨⟨_,hr,λ_ _ _ e=>by cases e⟩,?_⟩;exact k2 hp _ (by simp[jc]) (by simp) (λc hc=>by rw[cM,ai (ie hc)])
 ·rw[ai hp];exact k1 (by omega)
theorem Uh {enc:α->Value} {h:aj} {r m:Nat} {l done:List (α×Value)} {a:α} {v:Value} (I:Iter h r m enc l (done++ [(a,v)])) {Q:iI} (hk:Q (.tuple #[enc a,v]) h):
  aX P (Instr.entry (.P r 0)) h Q:=by
 obtain⟨T,c,D,last,M,hp,hr,HJ,hn,qZ,hd,kB⟩:=I;rcases List.eq_nil_or_concat D with rfl|⟨D',t,rfl⟩
 ·simp at hd
 rw[List.concat_eq_append] at*;rw[bm] at hd;obtain⟨_,e2⟩:=List.append_inj' hd rfl;have e2:pr t=(a,v):=by simpa using e2
 have e3:t.1=a:=bp (λx:α×Value=>x.1) e2;have e4:t.2.1=v:=bp (λx:α×Value=>x.2) e2;have ht:t∈T:=qZ t (by simp);have hl:=HJ (by simp);unfold Instr.entry;simp only;have hri:rd P (getObj r) h=some (.mapIter (some m) c ((D'++ [t]).map (·.2.2)).toArray last):=by unfold getObj;simp only[rd,hr]
 refine bY hri ?_;simp only;have hb:((D'++ [t]).map (·.2.2)).toArray.back? =some t.2.2:=by simp
 rw[hb];simp only;refine bY (pj M.dF) ?_;simp only;rw[hl,ai (by simp)];have hf:(T.map (Bb enc)).toArray.find? (λe=>e.born==t.2.2)=some (Bb enc t):=by
  rw[List.find?_toArray,List.find?_map];have:T.find? ((λe:MapEntry=>e.born==t.2.2) ∘ Bb enc)=some t:=find_born enc M.born ht;rw[this];rfl
 rw[hf];show Q (.tuple #[enc t.1,t.2.1]) h;rw[e3,e4];exact hk
end
end Go.Den
namespace Go.Den
section
variable {P : Program}
def OX (P:Program) (eq:TypeId->Value->Value->Option Bool) (xs ys:Array Value) (t:TypeId) (off:Nat) (acc:Option Bool):Option Bool:=
 match sO P (part t xs off),sO P (part t ys off) with
 |some u,some v=>(match eq t u v,acc with|some b,some c=>some (b && c)|_,_=>none)
 |_,_=>none
def eqT (P:Program):Nat->TypeId->Value->Value->Option Bool
 |0,_,_,_=>none
 |n+1,t,x,y=>
  match P.underlying t with
  |some .bool=>(match x,y with| .bool a,.bool b=>some (a==b)|_,_=>none)
  |some (.int _)=>(match x,y with| .int k a,.int k' b=>(match decide (k=k') with|true=>some (a==b)|false=>none)|_,_=>none)
  |some .string=>(match x,y with| .string a,.string b=>some (a==b)|_,_=>none)
  |some (.struct fs)=>(match x,y with
   | .agg xs,.agg ys=>(match P.stoodInHeld t with
    |true=>none
    |false=>fs.toList.foldr (λf acc=>match decide (f.name= "_") with|true=>acc|false=>OX P (eqT P n) xs ys f.type f.offset acc) (some true))
   |_,_=>none)
  |some (.array len e)=>(match x,y,P.info? e with
   | .agg xs,.agg ys,some i=>(List.range len).foldr (λk acc=>OX P (eqT P n) xs ys e (k*i.size) acc) (some true)
   |_,_,_=>none)
  |_=>none
theorem Dq {β:Type} {h:aj} {step:β->Option Bool->Option Bool} {body:β->Option Bool×Unit->Sem (ForInStep (Option Bool×Unit))} : ∀(l:List β) (b:Bool),l.foldr step (some true)=some b->
  (∀f acc b,step f acc=some b->(acc=some b/\rd P (body f (none,())) h=some (.yield (none,())))\/∃q c,acc=some c/\b=(q && c)/\rd P (body f (none,())) h=some (if q=true then .yield (none,()) else .done (some false,())))->
  rd P (forIn l (none,()) body) h=some (if b=true then(none,()) else(some false,()))
 | [],b,hb,_=>by
  cases bz hb;rfl
 |f::l,b,hb,hs=>by
  rw[List.foldr_cons] at hb;rw[List.forIn_cons];rcases hs f _ b hb with⟨h1,h2⟩|⟨q,c,h1,rfl,h2⟩
  ·rw[bu _ _ _ _ h2];exact Dq l b h1 hs
  ·rw[bu _ _ _ _ h2];cases q with
   |true=>rw[fv];exact Dq l c h1 hs
   |false=>rfl
theorem MR {eq:TypeId->Value->Value->Option Bool} {n:Nat} (heq: ∀t x y b,eq t x y=some b->∀h,rd P (Op.equalIn n t x y) h=some b) {xs ys:Array Value} {t:TypeId} {off:Nat} {acc:Option Bool} {b:Bool} {h:aj} (hh:OX P eq xs ys t off acc=some b):
  ∃q c u v,acc=some c/\b=(q && c)/\rd P (part t xs off) h=some u/\rd P (part t ys off) h=some v/\rd P (Op.equalIn n t u v) h=some q:=by
 unfold OX at hh;split at hh
 ·rename_i u v hu hv;split at hh
  ·rename_i q c hq;exact⟨q,c,u,v,rfl,(bz hh).symm,Ei _ _ hu h,Ei _ _ hv h,heq _ _ _ _ hq h⟩
  ·cases hh
 ·cases hh
theorem Ui : ∀ (n : Nat) (t : TypeId) (x y : Value) (b : Bool), eqT P n t x y = some b -> ∀ h, rd P (Op.equalIn n t x y) h = some b
  | 0, _, _, _, _, hh => by cases hh
  | n + 1, t, x, y, b, hh => by
    intro h
    unfold eqT at hh
    unfold Op.equalIn
    split at hh
    · rename_i hu
      rw [bu _ _ _ _ (bE hu)]
      split at hh
      · rw [<- hh]; rfl
      · cases hh
    · rename_i d hu
      rw [bu _ _ _ _ (bE hu)]
      split at hh
      · rename_i k a k' c
        split at hh
        · rename_i hk
          simp only [of_decide_eq_true hk, bA]
          rw [<- hh]; rfl
        · cases hh
      · cases hh
    · rename_i hu
      rw [bu _ _ _ _ (bE hu)]
      split at hh
      · rw [<- hh]; rfl
      · cases hh
    · rename_i fs hu
      rw [bu _ _ _ _ (bE hu)]
      split at hh
      · rename_i xs ys
        split at hh
        · cases hh
        · rename_i xN
          dsimp only
          rw [bu _ _ _ _ (show rd P program h = some P from rfl), xN]
          simp only [aA, aU]
          rw [<- Array.forIn_toList, bu _ _ _ _ (Dq (h := h) fs.toList b hh ?_)]
          · cases b <;> rfl
          · intro f acc b hs
            split at hs
            · rename_i he
              refine .inl ⟨hs, ?_⟩
              rw [ai (by simpa using he)]
              rfl
            · rename_i he
              obtain ⟨q, c, u, v, h1, h2, h3, h4, h5⟩ := MR (h := h) (λt x y b hb h => Ui n t x y b hb h) hs
              refine .inr ⟨q, c, h1, h2, ?_⟩
              rw [ag (by simpa using he), bu _ _ _ _ h3, bu _ _ _ _ h4, bu _ _ _ _ h5]
              cases q <;> rfl
      · cases hh
    · rename_i len e hu
      rw [bu _ _ _ _ (bE hu)]
      split at hh
      · rename_i xs ys i hi
        dsimp only
        rw [bu _ _ _ _ (lQ hi), Std.Legacy.Range.forIn_eq_forIn_range']
        have hr : List.range' ([:len] : Std.Legacy.Range).start ([:len] : Std.Legacy.Range).size ([:len] : Std.Legacy.Range).step = List.range len := by
          simp [Std.Legacy.Range.size, iN]
        rw [hr, bu _ _ _ _ (Dq (h := h) (List.range len) b hh ?_)]
        · cases b <;> rfl
        · intro k acc b hs
          obtain ⟨q, c, u, v, h1, h2, h3, h4, h5⟩ := MR (h := h) (λt x y b hb h => Ui n t x y b hb h) hs
          refine .inr ⟨q, c, h1, h2, ?_⟩
          rw [bu _ _ _ _ h3, bu _ _ _ _ h4, bu _ _ _ _ h5]
          cases q <;> rfl
      · cases hh
    · cases hh
theorem Hq.of {t:TypeId} {x y:Value} {b:Bool} (hh:eqT P 10000 t x y=some b):Hq P t x y b:=λh=>Ui 10000 t x y b hh h
end
abbrev ring (v:Value):List PanicEntry:= [{ v,recovered:=false }]
def mI (P:Program) (f:FuncId) (args:Array Value) (h:aj) (R E:iI):Prop:=
 ∀w:World,w.heap=h->Calls P f args w λe w'=>iC w w'/\((∃v,e=.returned v/\R v w'.heap)\/∃v,e=.panicked (ring v)/\E v w'.heap)
section
variable {P : Program} {f : FuncId} {args : Array Value} {h : aj} {R R' E E' : Value → aj → Prop}
theorem mI.mono (hh:mI P f args h R E) (hr: ∀v h',R v h'->R' v h') (hE: ∀v h',E v h'->E' v h'):mI P f args h R' E':=
 λw hw=>(hh w hw).mono λ_ _ ⟨hs,hq⟩=>⟨hs,hq.imp (λ⟨v,e,h⟩=>⟨v,e,hr _ _ h⟩) (λ⟨v,e,h⟩=>⟨v,e,hE _ _ h⟩)⟩
end
theorem mI.toH {P:Program} {f:FuncId} {args:Array Value} {h:aj} {R:iI} (hh:mI P f args h R (λ_ _=>False)):wE P f args h R:=
 λw hw=>(hh w hw).mono λ_ _ ⟨hs,hq⟩=>hq.elim (λ⟨v,e,h⟩=>⟨v,e,h,hs⟩) (λ⟨_,_,h⟩=>h.elim)
def GD (P:Program) (xO:List Nat) (o:Oper) (σ:Env) (h:aj) (K E:iI):Prop:=
 match o.op with
 | .panic x=>(match σ.ev x with
  |some (.iface t v)=>E (.iface t v) h
  |_=>False)
 | .call { callee:=.value f,args:=args,argTypes:=_ } =>(match σ.ev f,evs σ args.toList with
  |some (.func (.func g) first captured),some vs=>(match xO.any (Nat.beq g) with
   |true=>(match Ai P g with
    |true=>mI P g (first.toList++vs++captured.toList).toArray h (λv h'=>DP P o.type λv'=>v=v'/\K v' h') E
    |false=>False)
   |false=>Ht P o σ h K)
  |_,_=>Ht P o σ h K)
 |_=>Ht P o σ h K
theorem abX {P:Program} {o:Oper} {σ:Env} {ρ:Operand->Value} {h:aj} {f:Operand} {args:Array Operand} {QX:Array TypeId} {g:FuncId} {first captured:Array Value} {vs:List Value} (hf:Fits σ ρ)
  (ho:o.op=.call { callee:=.value f,args:=args,argTypes:=QX }) (hg:σ.ev f=some (.func (.func g) first captured)) (hvs:evs σ args.toList=some vs) (hb:Ai P g=true):
  aX P (execOp ρ o) h λx h'=>x=.enter g (first.toList++vs++captured.toList).toArray/\h'=h:=by
 unfold execOp;rw[ho];simp only[resolve,ES hf hvs,hf _ _ hg,Deferred.ofValue];rw[fa,Jy];simp only[invoke,callFunc];rw[fa];unfold Ai at hb;split at hb
 ·rename_i fn hfn;simp only[aW,Bool.not_eq_true'] at hb;show aX P (match P.funcs[g]? with|none=>_|some fn=>_) h _;rw[hfn];have hn:fn.body.isNone=false:=by cases hq:fn.body<;>simp[hq] at hb⊢
  simp only[hb.2,hn,aA,aU];have e:(first++vs.toArray++captured)=(first.toList++vs++captured.toList).toArray:=by
   apply Array.ext'
   simp
  rw[e];exact⟨rfl,rfl⟩
 ·cases hb
theorem MS {P:Program} {xO:List Nat} {o:Oper} {σ:Env} {a:Act} {w:World} {K E:iI} {next:Act->World->Prop} {Q:Exit->Act->World->Prop} (hf:Fits σ a.eval)
  (hh:GD P xO o σ w.heap K E) (hn: ∀v w',K v w'.heap->iC w w'->next (a.put o.dst v) w') (he: ∀v w',E v w'.heap->iC w w'->Q (.panic (ring v)) a w'):o.wp P a w next Q:=by
 unfold GD at hh;split at hh
 ·rename_i x ho;split at hh
  ·rename_i t v hx;unfold Oper.wp execOp;rw[ho];simp only[hf _ _ hx];exact he _ _ hh (iC.refl w)
  ·exact hh.elim
 ·rename_i f args QX ho;split at hh
  ·rename_i g first captured vs hg hvs;split at hh
   ·split at hh
    ·rename_i hb;obtain⟨x,w',r1,⟨rfl,hw'⟩,hs⟩:=Ah _ _ _ (abX hf ho hg hvs hb) w rfl;unfold Oper.wp;rw[r1];refine(hh w' hw').mono ?_;rintro e w'' ⟨hs2,⟨v,rfl,hR⟩|⟨v,rfl,hE⟩⟩
     ·exact hn _ _ (Jw hR) (hs.trans hs2)
     ·exact he _ _ hE (hs.trans hs2)
    ·exact hh.elim
   ·exact(yZ hf hh).wp hn
  ·exact(yZ hf hh).wp hn
 ·exact(yZ hf hh).wp hn
structure qP (n:Nat) (D:List Deferred) (σ:Env) (a:Act):Prop where
 size:a.tmps.size=n
 at_: ∀t v,σ t=some v->a.tmps.getD t undef=v
 defs:a.defers=D
theorem qP.fits {n:Nat} {D:List Deferred} {σ:Env} {a:Act} (h:qP n D σ a):Fits σ a.eval:=by
 intro x v hv;cases x with
 |tmp t=>exact h.at_ t v hv
 |const c=>simpa[Env.ev,Act.eval] using hv
 |global g=>simpa[Env.ev,Act.eval] using hv
 |func f=>simpa[Env.ev,Act.eval] using hv
theorem qP.bare {n:Nat} {D:List Deferred} {σ:Env} {a:Act} (h:qP n D σ a):Rel n σ { a with defers:= [] } :=⟨rfl,h.size,h.at_⟩
theorem qP.of {n:Nat} {D:List Deferred} {σ:Env} {a:Act} (h:Rel n σ { a with defers:= [] }) (hd:a.defers=D):qP n D σ a:=⟨h.size,h.at_,hd⟩
theorem Rt (a:Act) (d:Option Nat) (v:Value):(a.put d v).defers=a.defers:=by cases d<;>rfl
theorem Av {n:Nat} {D:List Deferred} {σ:Env} {a:Act} {dst:Option Nat} {v:Value} {K:Env->Prop} (hr:qP n D σ a) (h:nN n σ dst v K): ∃cU,qP n D cU (a.put dst v)/\K cU:=by
 obtain⟨cU,h1,h2⟩:=oK hr.bare h;refine⟨cU,.of ?_ ((Rt _ _ _).trans hr.defs),h2⟩;have e:({ a with defers:= [] } :Act).put dst v= { (a.put dst v) with defers:= [] } :=by cases dst<;>rfl
 rw[<-e];exact h1
theorem Aw {n:Nat} {D:List Deferred} {ops:Array Oper} {o:Oper} {σ:Env} {a:Act} {run skip:Env->Prop} (hr:qP n D σ a) (h:pC ops o σ run skip):
  (Region.wanted o (yielded ops a.tmps)=true/\∃cU,qP n D cU a/\run cU)\/(Region.wanted o (yielded ops a.tmps)=false/\∃cU,qP n D cU a/\skip cU):=by
 rcases qD hr.bare h with⟨h1,cU,h2,h3⟩|⟨h1,cU,h2,h3⟩
 ·exact .inl ⟨h1,cU,.of h2 hr.defs,h3⟩
 ·exact .inr ⟨h1,cU,.of h2 hr.defs,h3⟩
def upE (n:Nat) (D:List Deferred) (a0:Act) (w0:World) (W:List Nat) (K:List Deferred->Env->aj->Prop) (E:iI):Exit->Act->World->Prop:=
 λe a w=>(e=.normal/\∃D' σ,qP n D' σ a/\K D' σ w.heap/\iC w0 w/\hY W a0 a)\/(a.defers=D/\a.tmps.size=n/\hY W a0 a/\iC w0 w/\∃v,e=.panic (ring v)/\E v w.heap)
def JW (o:Oper) (D:List Deferred) (σ:Env):Option (List Deferred):=
 match o.op with
 | .defer { callee:=.value f,args:=args,argTypes:=_ } =>(match σ.ev f,evs σ args.toList with
  |some (.func g first captured),some vs=>some ({ target:=.fn g captured,args:=(first.toList++vs).toArray } ::D)
  |_,_=>none)
 |_=>none
theorem Ru {P:Program} {o:Oper} {σ:Env} {a:Act} {w:World} {D D':List Deferred} {next:Act->World->Prop} {Q:Exit->Act->World->Prop} (hf:Fits σ a.eval) (hd:a.defers=D) (h:JW o D σ=some D')
  (hn:next ({ a with defers:=D' }.put o.dst undef) w):o.wp P a w next Q:=by
 unfold JW at h;split at h
 ·rename_i f args QX ho;split at h
  ·rename_i g first captured vs hg hvs;cases h;subst hd;unfold Oper.wp execOp;rw[ho];simp only[resolve,ES hf hvs,hf _ _ hg,Deferred.ofValue];have e:first++vs.toArray=(first.toList++vs).toArray:=by apply Array.ext';simp
   rw[e];exact hn
  ·cases h
 ·cases h
def x6 (P:Program) (xO:List Nat) (n:Nat) (ops:Array Oper) (ty:List (Nat×Sh)) (E:iI):List Oper->List Deferred->Env->aj->(List Deferred->Env->aj->Prop)->Prop
 | [],D,σ,h,K=>K D σ h
 |o::rest,D,σ,h,K=>(match o.op with
  | .defer _=>pC ops o σ
   (λσ=>(match JW o D σ with
    |some D'=>(match rest with| []=>nN n σ o.dst undef λcU=>K D' cU h|_=>False)
    |none=>False))
   (λσ=>nN n σ o.dst undef λcU=>x6 P xO n ops ty E rest D cU h K)
  |_=>pC ops o σ
   (λσ=>GD P xO o σ h (λv h'=>Q3 ty o.dst v λv=>nN n σ o.dst v λcU=>x6 P xO n ops ty E rest D cU h' K) E)
   (λσ=>nN n σ o.dst undef λcU=>x6 P xO n ops ty E rest D cU h K))
theorem Ax {P:Program} {xO:List Nat} {n:Nat} {ops:Array Oper} {ty:List (Nat×Sh)} {E:iI} {D:List Deferred} {K:List Deferred->Env->aj->Prop} {a0:Act} {w0:World} : ∀(rest:List Oper) (k:Nat) (σ:Env) (a:Act) (w:World),
  (∀j,rest[j]? =ops[k+j]?)->qP n D σ a->iC w0 w->hY (cS ops) a0 a->x6 P xO n ops ty E rest D σ w.heap K->wpOps P ops (upE n D a0 w0 (cS ops) K E) (List.range' k rest.length) a w
 | [],k,σ,a,w,_,hr,hs,hu,h=> .inl ⟨rfl,D,σ,hr,h,hs,hu⟩
 |o::rest,k,σ,a,w,hj,hr,hs,hu,h=>by
  have h0:ops[k]? =some o:=by have:=hj 0;simpa using this.symm
  have OI: ∀j,rest[j]? =ops[k+1+j]? :=λj=>by have:=hj (j+1);simpa[Nat.add_assoc,Nat.add_comm 1 j] using this
  simp only[bj,List.range'_succ,wpOps,h0];have skip: ∀ {cU:Env},Region.wanted o (yielded ops a.tmps)=false->qP n D cU a->(nN n cU o.dst undef λcU=>x6 P xO n ops ty E rest D cU w.heap K)->
    (if Region.wanted o (yielded ops a.tmps)=true then o.wp P a w (wpOps P ops (upE n D a0 w0 (cS ops) K E) (List.range' (k+1) rest.length)) (upE n D a0 w0 (cS ops) K E)\/(o.asks P a w/\LetsOut (upE n D a0 w0 (cS ops) K E)) else wpOps P ops (upE n D a0 w0 (cS ops) K E) (List.range' (k+1) rest.length) (a.put o.dst undef) w):=by
   intro cU hw gB h;rw[ai (by rw[hw];simp)];obtain⟨tS,pL,h1⟩:=Av gB h;exact Ax rest (k+1) tS _ w OI pL hs (hu.trans (hY.put (fX h0))) h1
  unfold x6 at h;split at h
  ·rename_i c ho;rcases Aw hr h with⟨hw,cU,gB,h⟩|⟨hw,cU,gB,h⟩
   ·rw[ag hw];split at h
    ·rename_i D' hD;split at h
     ·obtain⟨tS,pL,h1⟩:=Av (D:=D') (a:= { a with defers:=D' }) ⟨gB.size,gB.at_,rfl⟩ h;exact .inl (Ru gB.fits gB.defs hD (.inl ⟨rfl,D',tS,pL,h1,hs,hu.trans (hY.put (a:= { a with defers:=D' }) (fX h0))⟩))
     ·exact h.elim
    ·exact h.elim
   ·exact skip hw gB h
  ·rcases Aw hr h with⟨hw,cU,gB,h⟩|⟨hw,cU,gB,h⟩
   ·rw[ag hw];refine .inl (MS gB.fits h (λv w' hk DD=> ?_) (λv w' hE DD=> .inr ⟨gB.defs,gB.size,hu,hs.trans DD,v,rfl,hE⟩));obtain⟨tS,pL,h1⟩:=Av gB (BZ hk);exact Ax rest (k+1) tS _ w' OI pL (hs.trans DD) (hu.trans (hY.put (fX h0))) h1
   ·exact skip hw gB h
def kX (P:Program) (xO:List Nat) (n:Nat) (ops:Array Oper) (E:iI):BF->List (Nat×(aj->Prop))->Env->aj->(Env->aj->Prop)->Prop
 | .done,_,σ,h,K=>K σ h
 | .op i rest,G,σ,h,K=>(match ops[i]? with
  |some o=>pC ops o σ
    (λσ=>(match vx P o with
     |true=>xW P o σ h λv S=>nN n σ o.dst v λcU=>kX P xO n ops E rest (EW i S G) cU h K
     |false=>GD P xO o σ h (λv h'=>B1 h' (nN n σ o.dst v λcU=>kX P xO n ops E rest (iK o G) cU h' K) (iK o G)) E))
    (λσ=>nN n σ o.dst undef λcU=>kX P xO n ops E rest G cU h K)
  |none=>False)
 | .alts q,G,σ,h,K=>kX P xO n ops E q G σ h K
 | .fork i rest q,G,σ,h,K=>(match ops[i]? with
  |some o=>pC ops o σ
    (λσ=>GD P xO o σ h (λv h'=>B1 h' (nN n σ o.dst v λcU=>kX P xO n ops E rest (iK o G) cU h' K) (iK o G)) E)
    (λσ=>nN n σ o.dst undef λcU=>kX P xO n ops E rest G cU h K)
  |none=>False)/\kX P xO n ops E q G σ h K
 | .mE,_,_,_,_=>True
theorem hY.amb {W:List Nat} {a b:Act} {dst:Option Nat} {v:Value} (h: ∀d,dst=some d->d∈W) (hu:hY W a (b.put dst v)):hY W a b:=λt ht=>by
 rw[<-hu t ht];cases dst with
 |none=>rfl
 |some d=>
  have kB:t≠d:=λe=>ht (e▸h d rfl)
  simp[Act.put,ie kB]
section
variable {P : Program} {xO : List Nat} {n : Nat} {ops : Array Oper} {E : Value → aj → Prop} {D : List Deferred} {K : Env → aj → Prop} {a0 : Act} {w0 : World}
abbrev upP (n:Nat) (D:List Deferred) (a0:Act) (w0:World) (ops:Array Oper) (K:Env->aj->Prop) (E:iI):=upE n D a0 w0 (cS ops) (λD' σ h=>D'=D/\K σ h) E
theorem HK {rest:BF} {i m:Nat} {o:Oper} {listed:Array Bool} {G:List (Nat×(aj->Prop))} {σ:Env} {a:Act} {w:World}
  (ih: ∀G σ a w,qP n D σ a->iC w0 w->hY (cS ops) a0 a->(∀g∈G,g.2 w.heap)->kX P xO n ops E rest G σ w.heap K->me P ops (upP n D a0 w0 ops K E) m G (listed.setIfInBounds i true) a w)
  (ho:ops[i]? =some o) (hr:qP n D σ a) (hs:iC w0 w) (hu:hY (cS ops) a0 a) (hG: ∀g∈G,g.2 w.heap)
  (h:pC ops o σ (λσ=>GD P xO o σ w.heap (λv h'=>B1 h' (nN n σ o.dst v λcU=>kX P xO n ops E rest (iK o G) cU h' K) (iK o G)) E) (λσ=>nN n σ o.dst undef λcU=>kX P xO n ops E rest G cU w.heap K)):
  wpOp P ops (upP n D a0 w0 ops K E) i (λa' w'=>(∀g∈iK o G,g.2 w'.heap)/\me P ops (upP n D a0 w0 ops K E) m (iK o G) (listed.setIfInBounds i true) a' w') a w:=by
 rcases Aw hr h with⟨hw,cU,gB,h⟩|⟨hw,cU,gB,B5⟩
 ·unfold wpOp;simp only[ho,hw,bA];refine .inl (MS gB.fits h (λv w' hk DD=> ?_) (λv w' hE DD=> .inr ⟨gB.defs,gB.size,hu,hs.trans DD,v,rfl,hE⟩));obtain⟨h1,h2⟩:=EV hk;obtain⟨tS,pL,h3⟩:=Av gB h2;exact⟨h1,ih _ tS _ w' pL (hs.trans DD) (hu.trans (hY.put (fX ho))) h1 h3⟩
 ·unfold wpOp;simp only[ho,hw,aA,aU];obtain⟨tS,pL,h3⟩:=Av gB B5;have ih:=ih G tS _ w pL hs (hu.trans (hY.put (fX ho))) hG h3;exact⟨λg hg=>hG g (ph hg),uq _ _ _ _ _ _ (λg hg=>ph hg) ih⟩
theorem Ma (LS:Region.noSelect ops=true) (mC:BF):
  (∀(m:Nat) (listed:Array Bool) (G:List (Nat×(aj->Prop))) (σ:Env) (a:Act) (w:World),DE mC m=true->
   nI P ops mC none listed=true->qP n D σ a->iC w0 w->hY (cS ops) a0 a->(∀g∈G,g.2 w.heap)->kX P xO n ops E mC G σ w.heap K->
   me P ops (upP n D a0 w0 ops K E) m G listed a w)/\
  (∀(m:Nat) (R:List Nat) (listed:Array Bool) (G:List (Nat×(aj->Prop))) (σ:Env) (a:Act) (w:World),DE mC (m+1)=true->
   nI P ops mC (some R) listed=true->qP n D σ a->iC w0 w->hY (cS ops) a0 a->(∀g∈G,g.2 w.heap)->kX P xO n ops E mC G σ w.heap K->
   ∀j∈R,∀o,ops[j]? =some o->wpOp P ops (upP n D a0 w0 ops K E) j (λa' w'=>(∀g∈iK o G,g.2 w'.heap)/\me P ops (upP n D a0 w0 ops K E) m (iK o G) (listed.setIfInBounds j true) a' w') a w):=by
 induction mC with
 |done=>
  refine⟨λm listed G σ a w hl hp hr hs hu hG h=> ?_,λm R listed G σ a w hl hp=>by cases hp⟩;obtain rfl:m=0:=cj hl;simp only[nI,List.isEmpty_iff] at hp;exact⟨hp,.inl ⟨rfl,D,σ,hr,⟨rfl,h⟩,hs,hu⟩⟩
 |mE=>
  refine⟨λm listed G σ a w hl hp=>(by cases hp),λm R listed G σ a w hl hp hr hs hu hG h j hj=> ?_⟩;simp only[nI,List.isEmpty_iff] at hp;subst hp;cases hj
 |alts q ih=>
  refine⟨λm listed G σ a w hl hp hr hs hu hG h=> ?_,λm R listed G σ a w hl hp=>by cases hp⟩;cases m with
  |zero=>cases hl
  |succ m=>
   simp only[nI] at hp;split at hp
   ·cases hp
   ·rename_i j js pZ;refine⟨(λe=>by rw[pZ] at e;cases e),λj' OI o ho=> ?_⟩;rw[pZ] at OI;exact ih.2 m _ listed G σ a w hl hp hr hs hu hG h j' OI o ho
 |fork i rest q ih1 ih2=>
  refine⟨λm listed G σ a w hl hp=>(by cases hp),λm R listed G σ a w hl hp hr hs hu hG h j hj o ho=> ?_⟩;simp only[nI,aW] at hp;obtain⟨⟨xS,JF⟩,hp3⟩:=hp;simp only[DE,aW] at hl;simp only[kX] at h;by_cases BE:i=j
  ·subst BE;have h:=h.1;rw[ho] at h;exact HK (λG σ a w hr hs hu hG h=>ih1.1 m _ G σ a w hl.1 JF hr hs hu hG h) ho hr hs hu hG h
  ·refine ih2.2 m _ listed G σ a w hl.2 hp3 hr hs hu hG h.2 j (aY.2 ⟨hj,?_⟩) o ho;have:Nat.beq i j=false:=by cases hb:Nat.beq i j;rfl;exact absurd (cj hb) BE
   simp[this]
 |op i rest ih=>
  refine⟨λm listed G σ a w hl hp hr hs hu hG h=> ?_,λm R listed G σ a w hl hp=>by cases hp⟩;cases m with
  |zero=>cases hl
  |succ m=>
   simp only[nI,aW] at hp;obtain⟨xS,JF⟩:=hp;simp only[kX] at h;split at h
   ·rename_i o ho;simp only[ho] at xS;have hQ: ∀v,∀c a w,upP n D a0 w0 ops K E (.panic c) (a.put o.dst v) w->upP n D a0 w0 ops K E (.panic c) a w:=λv c a w hq=>by
     rcases hq with⟨e,_⟩|⟨h1,h2,h3,h4⟩
     ·cases e
     ·refine .inr ⟨(Rt _ _ _).symm.trans h1,?_,h3.amb (fX ho),h4⟩;rw[<-h2];cases o.dst<;>simp[Act.put]
    have take: ∀(v:Value) (S:Option (aj->Prop)) (cU:Env),vx P o=true->qP n D cU (a.put o.dst v)->YieldsIf P ops (λw=>Gs S w.heap) o v a->Gs S w.heap->
      kX P xO n ops E rest (EW i S G) cU w.heap K->me P ops (upP n D a0 w0 ops K E) (m+1) G listed a w:=λv S cU qW gB hy hS hd=>by
     rw[qW] at xS;simp only[aW] at xS;have hG': ∀g∈EW i S G,g.2 w.heap:=by
      intro g hg;cases S with
      |none=>exact hG g hg
      |some S=>
       rcases bQ.1 hg with e|e
       ·rw[e];exact hS
       ·exact hG g e
     have ih:=ih.1 m _ (EW i S G) cU (a.put o.dst v) w hl JF gB hs (hu.trans (hY.put (fX ho))) hG' hd;refine Ao (S:=Gs S) ho (Region.noSelect_spec LS) (hQ v) m G listed a w (Region.free_spec ho xS.2) (by simpa using xS.1) hy hS hG ?_;cases S with
     |none=>exact xY i _ _ _ _ _ ih
     |some S=>exact ih
    cases qW:vx P o with
    |true=>
     rcases Aw hr h with⟨hw,cU,gB,h⟩|⟨hw,cU,gB,B5⟩
     ·rw[qW] at h;obtain⟨v,S,h1,h2,h3⟩:=Ak gB.fits h;obtain⟨tS,pL,h4⟩:=Av gB h1;exact take v S tS qW pL (.inl ⟨hw,λw' hS=>BR _ _ _ (h3 _ hS)⟩) h2 h4
     ·obtain⟨tS,pL,h4⟩:=Av gB B5;exact take undef none tS qW pL (.inr ⟨hw,rfl⟩) trivial h4
    |false=>
     rw[qW] at xS h;simp only at xS h;have pZ:Region.ready .any ops listed= [i]:=by
      split at xS
      ·rename_i j hj;rw[hj,cj xS]
      ·cases xS
     refine⟨(λe=>by rw[pZ] at e;cases e),λj hj o' TE=> ?_⟩;rw[pZ] at hj;obtain rfl:j=i:=by simpa using hj
     obtain rfl:o'=o:=by rw[ho] at TE;exact(bz TE).symm
     exact HK (λG σ a w hr hs hu hG h=>ih.1 m _ G σ a w hl JF hr hs hu hG h) ho hr hs hu hG h
   ·exact h.elim
end
def abY (K:List Deferred->Env->aj->Prop) (Q:Exit->List Deferred->Env->aj->Prop):Exit->List Deferred->Env->aj->Prop
 | .normal=>K
 |e=>Q e
def abZ (id:Nat) (Q:Exit->List Deferred->Env->aj->Prop):Exit->List Deferred->Env->aj->Prop
 | .exit i=>(match Nat.beq i id with|true=>Q .normal|false=>Q (.exit i))
 |e=>Q e
def BI (P : Program) (xO : List Nat) (n : Nat) (E : List Deferred -> Env -> iI) : EO -> Code -> (Exit -> List Deferred -> Env -> aj -> Prop) -> List Deferred -> Env -> aj -> Prop
  | .leaf, c, Q, D, σ, h => (match c with
    | .skip => Q .normal D σ h
    | .label _ => Q .normal D σ h
    | .exit id => Q (.exit id) D σ h
    | .ret => Q .ret D σ h
    | .region _ ops false => x6 P xO n ops [] (E D (σ.forget (cS ops))) ops.toList D σ h (Q .normal)
    | _ => False)
  | .typed ty, c, Q, D, σ, h => (match c with
    | .region _ ops false => x6 P xO n ops ty (E D (σ.forget (cS ops))) ops.toList D σ h (Q .normal)
    | _ => False)
  | .mC p, c, Q, D, σ, h => (match c with
    | .region _ ops true => (match (P.follows .mixedOrders && Region.noSelect ops && DE p ops.size && nI P ops p none (Array.replicate ops.size false)) with
      | true => kX P xO n ops (E D (σ.forget (cS ops))) p [] σ h (Q .normal D)
      | false => False)
    | _ => False)
  | .seq a b, c, Q, D, σ, h => (match c with
    | .seq c d => BI P xO n E a c (abY (λD' cU h' => BI P xO n E b d Q D' cU h') Q) D σ h
    | _ => False)
  | .cond a b, c, Q, D, σ, h => (match c with
    | .cond x c d => (match σ.ev x with
      | some (.bool q) => if q = true then BI P xO n E a c Q D σ h else BI P xO n E b d Q D σ h
      | _ => False)
    | _ => False)
  | .block a, c, Q, D, σ, h => (match c with
    | .block id c => BI P xO n E a c (abZ id Q) D σ h
    | _ => False)
  | .loop L a, c, Q, D, σ, h => (match c with
    | .loop c => ∃ (I : El (aj -> Prop) L) (μ : El (aj -> Nat) L), yH False L I σ (λf => f h) /\
        abz L (λcU => ∀ h', yH False L I cU (λf => f h') ->
          BI P xO n E a c (abY (λD' mc OK => D' = D /\ yH False L I mc (λf => f OK) /\ yH 0 L μ mc (λf => f OK) < yH 0 L μ cU (λf => f h')) Q) D cU h') (σ.forget (writes c))
    | _ => False)
  | .join L a, c, Q, D, σ, h => aK (α := El (aj -> Prop) L) (aff L (λcU h' => Q .normal D cU h') (σ.forget (writes c)))
      (λJ => BI P xO n E a c (abY (λD' cU h' => D' = D /\ yH False L J cU (λf => f h')) Q) D σ h)
  | .scope _ _ _ _, _, _, _, _, _ => False
  | .qX _, _, _, _, _, _ => False
def upX (n:Nat) (a0:Act) (w0:World) (W:List Nat) (Q:Exit->List Deferred->Env->aj->Prop) (E:List Deferred->Env->iI):Exit->Act->World->Prop:=
 λe a w=>iC w0 w/\hY W a0 a/\((∃D σ,qP n D σ a/\Q e D σ w.heap/\∀ch,e≠ .panic ch)\/∃D σ v,qP n D σ a/\e=.panic (ring v)/\E D σ v w.heap)
theorem qP.Eo {n:Nat} {D D':List Deferred} {σ cU mc:Env} {a a':Act} {W:List Nat} (hr:qP n D σ a) (gB:qP n D' cU a') (hu:hY W a a') (hs:Sub mc (σ.forget W) cU):qP n D' mc a':=
 .of (Rel.Eo hr.bare gB.bare hu hs) gB.defs
theorem Ex {n:Nat} {D:List Deferred} {a0:Act} {w0:World} {σ:Env} {W:List Nat} {Q:Exit->List Deferred->Env->aj->Prop} {E:List Deferred->Env->iI} (hr:qP n D σ a0) {e:Exit} {a:Act} {w:World}
  (h:upE n D a0 w0 W (Q .normal) (E D (σ.forget W)) e a w):upX n a0 w0 W Q E e a w:=by
 rcases h with⟨rfl,D',cU,h1,h2,h3,h4⟩|⟨h1,h2,h3,h4,v,rfl,h5⟩
 ·exact⟨h3,h4,.inl ⟨D',cU,h1,h2,λ_ e=>by cases e⟩⟩
 ·refine⟨h4,h3,.inr ⟨D,_,v,⟨h2,λt u hu=> ?_,h1⟩,rfl,h5⟩⟩;obtain⟨q1,q2⟩:=Env.Hw hu;rw[h3 t q1];exact hr.at_ t u q2
theorem Fc {n:Nat} {a0:Act} {w0:World} {W W':List Nat} {Q:Exit->List Deferred->Env->aj->Prop} {E:List Deferred->Env->iI} (hW: ∀t,t∈W->t∈W') {e:Exit} {a:Act} {w:World} (h:upX n a0 w0 W Q E e a w):upX n a0 w0 W' Q E e a w:=
 ⟨h.1,h.2.1.mono hW,h.2.2⟩
theorem aam {n:Nat} {a0 a1:Act} {w0 w1:World} {W:List Nat} {Q:Exit->List Deferred->Env->aj->Prop} {E:List Deferred->Env->iI} (hs:iC w0 w1) (hu:hY W a0 a1) {e:Exit} {a:Act} {w:World} (h:upX n a1 w1 W Q E e a w):upX n a0 w0 W Q E e a w:=
 ⟨hs.trans h.1,hu.trans h.2.1,h.2.2⟩
theorem x7 {P:Program} {xO:List Nat} {n:Nat} {E:List Deferred->Env->iI} : ∀(Gi:EO) (c:Code) (Q:Exit->List Deferred->Env->aj->Prop) (D:List Deferred) (σ:Env) (a:Act) (w:World),qP n D σ a->
  BI P xO n E Gi c Q D σ w.heap->c.wp P (upX n a w (writes c) Q E) a w
 | .leaf,c,Q,D,σ,a,w,hr,h=>by
  unfold BI at h;have ok: ∀e,(∀ch,e≠ .panic ch)->Q e D σ w.heap->upX n a w (writes c) Q E e a w:=λe he hq=>⟨iC.refl w,hY.refl _ _,.inl ⟨D,σ,hr,hq,he⟩⟩
  split at h
  ·exact wp_skip (ok _ (λ_ e=>by cases e) h)
  ·exact wp_label (ok _ (λ_ e=>by cases e) h)
  ·exact wp_exit (ok _ (λ_ e=>by cases e) h)
  ·exact wp_ret (ok _ (λ_ e=>by cases e) h)
  ·rename_i id ops;refine wp_mono (wp_region ?_) (λe a' w' hq=>Ex hr hq);have:=Ax (a0:=a) (w0:=w) ops.toList 0 σ a w (by simp) hr (iC.refl w) (hY.refl _ _) h;rw[iN];rw[fU] at this;exact this
  ·exact h.elim
 | .typed ty,c,Q,D,σ,a,w,hr,h=>by
  unfold BI at h;split at h
  ·rename_i id ops;refine wp_mono (wp_region ?_) (λe a' w' hq=>Ex hr hq);have:=Ax (a0:=a) (w0:=w) ops.toList 0 σ a w (by simp) hr (iC.refl w) (hY.refl _ _) h;rw[iN];rw[fU] at this;exact this
  ·exact h.elim
 | .mC p,c,Q,D,σ,a,w,hr,h=>by
  unfold BI at h;split at h
  ·rename_i id ops;split at h
   ·rename_i hb;simp only[aW] at hb;obtain⟨⟨⟨h1,h2⟩,h3⟩,h4⟩:=hb;refine wp_mono (wp_region_any (Q:=upP n D a w ops (Q .normal D) (E D (σ.forget (cS ops)))) h1 ?_) (λe a' w' hq=>Ex (Q:=Q) hr ?_)
    ·exact An _ _ _ _ _ ((Ma (a0:=a) (w0:=w) h2 p).1 ops.size (Array.replicate ops.size false) [] σ a { w with drawn:=w.drawn+1 } h3 h4 hr ⟨rfl,rfl,rfl⟩ (hY.refl _ _) (λ_ hm=>by cases hm) h)
    ·rcases hq with⟨e,D',cU,q1,⟨rfl,q2⟩,q3⟩|hq
     ·exact .inl ⟨e,_,cU,q1,q2,q3⟩
     ·exact .inr hq
   ·exact h.elim
  ·exact h.elim
 | .seq x y,c,Q,D,σ,a,w,hr,h=>by
  unfold BI at h;split at h
  ·rename_i c d;have hW: ∀t,t∈writes c->t∈writes (.seq c d):=λt ht=>fK _ ht
   refine wp_seq (wp_mono (x7 x c _ D σ a w hr h) ?_);rintro e a' w' hq;have hq:=Fc hW hq;obtain⟨hs,hu,⟨D',cU,gB,hq,he⟩|⟨D',cU,v,gB,rfl,hE⟩⟩:=hq
   ·cases e with
    |normal=>exact wp_mono (x7 y d Q D' cU a' w' gB hq) (λe2 a2 w2 Gx=>aam hs hu (Fc (λt ht=>ga _ ht) Gx))
    |exit id=>exact⟨hs,hu,.inl ⟨D',cU,gB,hq,he⟩⟩
    |goto l=>exact⟨hs,hu,.inl ⟨D',cU,gB,hq,he⟩⟩
    |ret=>exact⟨hs,hu,.inl ⟨D',cU,gB,hq,he⟩⟩
    |panic ch=>exact absurd rfl (he ch)
    |outgrown=>exact⟨hs,hu,.inl ⟨D',cU,gB,hq,he⟩⟩
   ·exact⟨hs,hu,.inr ⟨D',cU,v,gB,rfl,hE⟩⟩
  ·exact h.elim
 | .cond x y,c,Q,D,σ,a,w,hr,h=>by
  unfold BI at h;split at h
  ·rename_i k c d;split at h
   ·rename_i q hq;have he:=hr.fits _ _ hq;split at h
    ·rename_i ht;subst ht;exact wp_cond_true he (wp_mono (x7 x c Q D σ a w hr h) (λ_ _ _=>Fc λt ht=>fK _ ht))
    ·rename_i ht;have ht:q=false:=by simpa using ht
     subst ht;exact wp_cond_false he (wp_mono (x7 y d Q D σ a w hr h) (λ_ _ _=>Fc λt ht=>ga _ ht))
   ·exact h.elim
  ·exact h.elim
 | .block x,c,Q,D,σ,a,w,hr,h=>by
  unfold BI at h;split at h
  ·rename_i id c;refine wp_block (wp_mono (x7 x c _ D σ a w hr h) ?_);rintro e a' w' ⟨hs,hu,⟨D',cU,gB,hq,he⟩|⟨D',cU,v,gB,rfl,hE⟩⟩
   ·cases e with
    |exit id'=>
     simp only[Exit.inBlock];simp only[abZ] at hq;by_cases hid:id'=id
     ·subst hid;simp only[Nat.beq_refl] at hq;rw[ag rfl];exact⟨hs,hu,.inl ⟨D',cU,gB,hq,λ_ e=>by cases e⟩⟩
     ·rw[ai hid];have:Nat.beq id' id=false:=by cases hb:Nat.beq id' id;rfl;exact absurd (cj hb) hid
      rw[this] at hq;exact⟨hs,hu,.inl ⟨D',cU,gB,hq,he⟩⟩
    |normal=>exact⟨hs,hu,.inl ⟨D',cU,gB,hq,he⟩⟩
    |goto l=>exact⟨hs,hu,.inl ⟨D',cU,gB,hq,he⟩⟩
    |ret=>exact⟨hs,hu,.inl ⟨D',cU,gB,hq,he⟩⟩
    |panic ch=>exact absurd rfl (he ch)
    |outgrown=>exact⟨hs,hu,.inl ⟨D',cU,gB,hq,he⟩⟩
   ·exact⟨hs,hu,.inr ⟨D',cU,v,gB,rfl,hE⟩⟩
  ·exact h.elim
 | .loop L x,c,Q,D,σ,a,w,hr,h=>by
  unfold BI at h;split at h
  ·rename_i c;obtain⟨I,μ,h0,Q6⟩:=h;refine wp_loop (λa' w'=> ∃cU,qP n D cU a'/\yH False L I cU (λf=>f w'.heap)/\iC w w'/\hY (writes c) a a')
    (λa' w'=>yH 0 L μ (Hz a') (λf=>f w'.heap)) ⟨σ,hr,h0,iC.refl w,hY.refl _ _⟩ ?_
   rintro a' w' ⟨cU,gB,hI,hs,hu⟩;obtain⟨mc,hF,qZ,hL,_⟩:=I6 L _ I Q6 hI;have Q7:=qP.Eo hr gB hu qZ;have Q8:yH False L I mc (λf=>f w'.heap):=by rw[yY L I hL];exact hI
   have hd:=hF w'.heap Q8;refine wp_mono (x7 x c _ D mc a' w' Q7 hd) ?_;rintro e a1 w1 ⟨EZ,T1,⟨D1,tS,pL,hq,he⟩|⟨D1,tS,v,pL,rfl,hE⟩⟩
   ·cases e with
    |normal=>
     obtain⟨rfl,hI1,jc⟩:=hq;refine⟨⟨tS,pL,hI1,hs.trans EZ,hu.trans T1⟩,?_⟩;have ev: ∀b:Act,Hz { b with defers:= [] } =Hz b:=λ_=>rfl
     rw[<-ev a1,<-ev a',wj pL.bare (Am L I hI1),wj Q7.bare (Am L I Q8)];exact jc
    |exit id=>exact⟨hs.trans EZ,hu.trans T1,.inl ⟨D1,tS,pL,hq,he⟩⟩
    |goto l=>exact⟨hs.trans EZ,hu.trans T1,.inl ⟨D1,tS,pL,hq,he⟩⟩
    |ret=>exact⟨hs.trans EZ,hu.trans T1,.inl ⟨D1,tS,pL,hq,he⟩⟩
    |panic ch=>exact absurd rfl (he ch)
    |outgrown=>exact⟨hs.trans EZ,hu.trans T1,.inl ⟨D1,tS,pL,hq,he⟩⟩
   ·exact⟨hs.trans EZ,hu.trans T1,.inr ⟨D1,tS,v,pL,rfl,hE⟩⟩
  ·exact h.elim
 | .join L x,c,Q,D,σ,a,w,hr,h=>by
  unfold BI at h;unfold aK at h;refine wp_mono (x7 x c _ D σ a w hr h) ?_;rintro e a' w' ⟨hs,hu,⟨D',cU,gB,hq,he⟩|hE⟩
  ·cases e with
   |normal=>
    obtain⟨rfl,hq⟩:=hq;obtain⟨mc,hQ,qZ⟩:=JC L _ hq;exact⟨hs,hu,.inl ⟨_,mc,qP.Eo hr gB hu qZ,hQ,he⟩⟩
   |exit id=>exact⟨hs,hu,.inl ⟨D',cU,gB,hq,he⟩⟩
   |goto l=>exact⟨hs,hu,.inl ⟨D',cU,gB,hq,he⟩⟩
   |ret=>exact⟨hs,hu,.inl ⟨D',cU,gB,hq,he⟩⟩
   |panic ch=>exact absurd rfl (he ch)
   |outgrown=>exact⟨hs,hu,.inl ⟨D',cU,gB,hq,he⟩⟩
  ·exact⟨hs,hu,.inr hE⟩
 | .scope _ _ _ _,_,_,_,_,_,_,_,h=>by unfold BI at h;exact h.elim
def HL:Option Value->FrameMode
 |none=> .returning
 |some v=> .panicking (ring v)
def Ck (P:Program) (g:FuncId) (args:Array Value) (rv:Option Value) (h:aj) (K:Option Value->aj->Prop):Prop:=
 ∀w:World,w.heap=h->CallsD P g args (HL rv) w λe u' w'=>(∃v,e=.returned v)/\iC w w'/\∃rv',settle u'=HL rv'/\K rv' w'.heap
def ab0 (A:aj->Prop) (E:iI):Option Value->aj->Prop
 |none,h=>A h
 |some v,h=>E v h
def JX (P:Program) (rs:List ResultVar) (R E:iI):List Deferred->Option Value->Env->aj->Prop
 | [],none,σ,h=>Ep P rs σ h λvs=>R (HB vs) h
 | [],some v,_,h=>E v h
 | [d],rv,σ,h=>(match d.target with
  | .fn (.func g) cap=>(match Ai P g with
   |true=>Ck P g (d.args.toList++cap.toList).toArray rv h (ab0 (λh'=>Ep P rs σ h' λvs=>R (HB vs) h') E)
   |false=>False)
  |_=>False)
 |_::_::_,_,_,_=>False
theorem afo {P:Program} {n:Nat} {D:List Deferred} {σ:Env} {a:Act} {h:aj} {fn:Func} {F:Value->Prop} (hr:qP n D σ a) (hh:Ep P fn.results.toList σ h λvs=>F (HB vs)): ∃v,F v/\rd P (results fn a.tmps) h=some v:=
 Er (a:= { a with defers:= [] }) hr.bare hh
theorem JY {P:Program} {n:Nat} {fn:Func} {R E:iI} {w0:World} {D:List Deferred} {rv:Option Value} {σ:Env} {a:Act} {w:World} (hr:qP n D σ a) (hs:iC w0 w) (h:JX P fn.results.toList R E D rv σ w.heap):
  Leaves P fn a.tmps (λe w'=>iC w0 w'/\((∃v,e=.returned v/\R v w'.heap)\/∃v,e=.panicked (ring v)/\E v w'.heap)) D (HL rv) w:=by
 have fin: ∀(rv:Option Value) (w:World),iC w0 w->(match rv with|none=>Ep P fn.results.toList σ w.heap λvs=>R (HB vs) w.heap|some v=>E v w.heap)->
   Leaves P fn a.tmps (λe w'=>iC w0 w'/\((∃v,e=.returned v/\R v w'.heap)\/∃v,e=.panicked (ring v)/\E v w'.heap)) [] (HL rv) w:=by
  intro rv w hs h;cases rv with
  |none=>
   obtain⟨v,h1,h2⟩:=afo (F:=λv=>R v w.heap) hr h;exact⟨v,BR _ _ _ h2,hs,.inl ⟨v,rfl,h1⟩⟩
  |some v=>exact⟨hs,.inr ⟨v,rfl,h⟩⟩
 match D,h with
 | [],h=>
  refine fin rv w hs ?_;cases rv<;>exact h
 | [d],h=>
  simp only[JX] at h;split at h
  ·rename_i g cap ht;split at h
   ·rename_i hb;refine⟨by cases rv<;>simp[HL],.func g,cap,g,(d.args.toList++cap.toList).toArray,ht,?_,?_⟩
    ·rw[ht];unfold Ai at hb;split at hb
     ·rename_i f2 hf2;simp only[aW,Bool.not_eq_true'] at hb;have hnb:f2.body.isNone=false:=by cases hq:f2.body<;>simp[hq] at hb⊢
      have e:d.args++cap=(d.args.toList++cap.toList).toArray:=by apply Array.ext';simp
      rw[<-e];refine BR _ _ _ ?_;simp only[invoke,callFunc];show rd P (match P.funcs[g]? with|none=>_|some fn=>_) w.heap=_;rw[hf2];simp only[hb.2,hnb,aA,aU];rfl
     ·cases hb
    ·intro c cs hu;obtain⟨e,u',w',fr,⟨⟨v,rfl⟩,DD,rv',h1,h2⟩,hc⟩:=h w rfl c cs hu;refine⟨_,u',w',fr,?_,hc⟩;show Leaves P fn a.tmps _ [] (settle u') w';rw[h1];exact fin rv' w' (hs.trans DD) (by cases rv'<;>exact h2)
   ·exact h.elim
  ·exact h.elim
 |_::_::_,h=>exact h.elim
def apW (P:Program) (rs:Array ResultVar) (R E:iI):Exit->List Deferred->Env->aj->Prop
 | .normal,D,σ,h=>JX P rs.toList R E D none σ h
 | .ret,D,σ,h=>JX P rs.toList R E D none σ h
 |_,_,_,_=>False
theorem mf {P:Program} {f:FuncId} {fn:Func} {args:List Value} {h:aj} {R E:iI} (Gi:EO) (xO:List Nat)
  (hf:P.funcs[f]? =some fn) (hb:fn.body.isSome=true) (hn:Nat.ble args.length fn.ntmps=true)
  (hd:BI P xO fn.ntmps (λD σ v h=>JX P fn.results.toList R E D (some v) σ h) Gi (Es fn) (apW P fn.results R E) [] (wI args) h):mI P f args.toArray h R E:=by
 obtain⟨c,hc⟩:=gP.1 hb;rw[Es,hc] at hd;intro w hw;subst hw;have hn:=Nat.le_of_ble_eq_true hn;refine calls_of_wp_defers hf hc ?_;have hr:qP fn.ntmps [] (wI args) { tmps:=args.toArray++Array.replicate (fn.ntmps - args.toArray.size) undef,defers:= [] } :=by
  refine⟨by simp;omega,λt v hv=> ?_,rfl⟩;unfold wI at hv;have jc:t<args.length:=(aG.1 hv).1;simp only[gD];rw[eY (by simpa using jc)];simp[hv]
 refine wp_mono (x7 Gi c _ _ _ _ w hr hd) ?_;rintro e a w' ⟨hs,_,⟨D,σ,hr,hq,he⟩|⟨D,σ,v,hr,rfl,hE⟩⟩
 ·cases e with
  |normal=>rw[<-hr.defs] at hq hr;exact JY (rv:=none) hr hs hq
  |ret=>rw[<-hr.defs] at hq hr;exact JY (rv:=none) hr hs hq
  |exit id=>exact hq.elim
  |goto l=>exact hq.elim
  |panic ch=>exact absurd rfl (he ch)
  |outgrown=>exact hq.elim
 ·rw[<-hr.defs] at hE hr;exact JY (rv:=some v) hr hs hE
inductive RS where
 |calm
 |ab1 (v:Value)
 |done (v:Value)
def RS.mode:RS->FrameMode
 | .calm=> .returning
 | .ab1 v=> .panicking (ring v)
 | .done v=> .panicking [{ v,recovered:=true }]
def RS.left:RS->Option Value
 | .ab1 v=>some v
 |_=>none
def RS.of:Option Value->RS
 |none=> .calm
 |some v=> .ab1 v
theorem RS.settle (ρ:RS):settle ρ.mode=HL ρ.left:=by cases ρ<;>rfl
theorem RS.afp (rv:Option Value):(RS.of rv).mode=HL rv:=by cases rv<;>rfl
def isRec (o:Oper):Bool:=match o.op with
 | .call { callee:=.builtin .recover,args:=_,argTypes:=_ } =>true
 |_=>false
theorem aan {P:Program} {o:Oper} {ρ:Operand->Value} {w:World} (h:isRec o=true):(execOp ρ o).run P w=.ok .recover w:=by
 unfold isRec at h;split at h
 ·rename_i ho;unfold execOp;rw[ho];rfl
 ·cases h
def Uj (P:Program) (o:Oper) (σ:Env) (h:aj) (K:iI):Prop:=
 match o.op with
 | .typeAssert x xT aT ok=>(match σ.ev x with
  |some v=>aX P (Instr.typeAssert v xT aT ok) h K
  |none=>False)
 |_=>Ht P o σ h K
theorem aao {P:Program} {o:Oper} {σ:Env} {ρ:Operand->Value} {h:aj} {K:iI} (hf:Fits σ ρ) (hh:Uj P o σ h K):BT P o ρ h K:=by
 unfold Uj at hh;split at hh
 ·rename_i x xT aT ok ho;split at hh
  ·rename_i v hv;unfold BT execOp;rw[ho];simp only[hf _ _ hv];rw[fa];exact hh
  ·exact hh.elim
 ·exact yZ hf hh
def pM (P:Program) (n:Nat) (ops:Array Oper) (ty:List (Nat×Sh)):List Oper->RS->Env->aj->(RS->Env->aj->Prop)->Prop
 | [],ρ,σ,h,K=>K ρ σ h
 |o::rest,ρ,σ,h,K=>(match isRec o with
  |true=>pC ops o σ
   (λσ=>(match ρ with
    | .ab1 v=>nN n σ o.dst v λcU=>pM P n ops ty rest (.done v) cU h K
    | .calm=>nN n σ o.dst .nilIface λcU=>pM P n ops ty rest .calm cU h K
    | .done v=>nN n σ o.dst .nilIface λcU=>pM P n ops ty rest (.done v) cU h K))
   (λσ=>nN n σ o.dst undef λcU=>pM P n ops ty rest ρ cU h K)
  |false=>pC ops o σ
   (λσ=>Uj P o σ h λv h'=>Q3 ty o.dst v λv=>nN n σ o.dst v λcU=>pM P n ops ty rest ρ cU h' K)
   (λσ=>nN n σ o.dst undef λcU=>pM P n ops ty rest ρ cU h K))
def upS (n:Nat) (a0:Act) (w0:World) (W:List Nat) (c0:Frame) (cs0:List Frame) (Q:Exit->RS->Env->aj->Prop):Exit->Act->List Frame->World->Prop:=
 λe a cs w=> ∃ρ σ,cs= { c0 with mode:=ρ.mode } ::cs0/\Rel n σ a/\Q e ρ σ w.heap/\iC w0 w/\hY W a0 a
def ab2 (K:RS->Env->aj->Prop):Exit->RS->Env->aj->Prop
 | .normal=>K
 |_=>λ_ _ _=>False
theorem JZ {P:Program} {n:Nat} {ops:Array Oper} {ty:List (Nat×Sh)} {K:RS->Env->aj->Prop} {a0:Act} {w0:World} {c0:Frame} {cs0:List Frame} : ∀(rest:List Oper) (k:Nat) (ρ:RS) (σ:Env) (a:Act) (w:World),
  (∀j,rest[j]? =ops[k+j]?)->Rel n σ a->iC w0 w->hY (cS ops) a0 a->pM P n ops ty rest ρ σ w.heap K->wpOpsS P ops (upS n a0 w0 (cS ops) c0 cs0 (ab2 K)) (List.range' k rest.length) a ({ c0 with mode:=ρ.mode } ::cs0) w
 | [],k,ρ,σ,a,w,_,hr,hs,hu,h=>⟨ρ,σ,rfl,hr,h,hs,hu⟩
 |o::rest,k,ρ,σ,a,w,hj,hr,hs,hu,h=>by
  have h0:ops[k]? =some o:=by have:=hj 0;simpa using this.symm
  have OI: ∀j,rest[j]? =ops[k+1+j]? :=λj=>by have:=hj (j+1);simpa[Nat.add_assoc,Nat.add_comm 1 j] using this
  simp only[bj,List.range'_succ,wpOpsS,h0];unfold pM at h;have next: ∀ {cU:Env} {v:Value} {QN:RS} {w':World},iC w w'->Rel n cU a->(nN n cU o.dst v λcU=>pM P n ops ty rest QN cU w'.heap K)->
    wpOpsS P ops (upS n a0 w0 (cS ops) c0 cs0 (ab2 K)) (List.range' (k+1) rest.length) (a.put o.dst v) ({ c0 with mode:=QN.mode } ::cs0) w':=by
   intro cU v QN w' DD gB h;obtain⟨tS,pL,h1⟩:=oK gB h;exact JZ rest (k+1) QN tS _ w' OI pL (hs.trans DD) (hu.trans (hY.put (fX h0))) h1
  split at h
  ·rename_i apX;rcases qD hr h with⟨hw,cU,gB,h⟩|⟨hw,cU,gB,h⟩
   ·rw[ag hw,aan apX];cases ρ with
    |calm=>exact next (QN:=.calm) (iC.refl w) gB h
    |ab1 v=>exact next (QN:=.done v) (iC.refl w) gB h
    |done v=>exact next (QN:=.done v) (iC.refl w) gB h
   ·rw[ai (by rw[hw];simp)];exact next (iC.refl w) gB h
  ·rcases qD hr h with⟨hw,cU,gB,h⟩|⟨hw,cU,gB,h⟩
   ·rw[ag hw];obtain⟨x,w',r1,r2,r3⟩:=Ah _ _ _ (aao gB.fits h) w rfl;rw[r1];cases x with
    |value v=>exact next r3 gB (BZ (F:=λv=>nN n cU o.dst v λcU=>pM P n ops ty rest ρ cU w'.heap K) r2)
    |skip=>exact next r3 gB (BZ (F:=λv=>nN n cU o.dst v λcU=>pM P n ops ty rest ρ cU w'.heap K) r2)
    |enter f args=>
     refine(r2 w' rfl).mono ?_;rintro e w'' ⟨v,rfl,hR,DD⟩;exact next (r3.trans DD) gB (BZ hR)
    |_=>exact r2.elim
   ·rw[ai (by rw[hw];simp)];exact next (iC.refl w) gB h
def thenS (K:RS->Env->aj->Prop) (Q:Exit->RS->Env->aj->Prop):Exit->RS->Env->aj->Prop
 | .normal=>K
 |e=>Q e
def Uk (P:Program) (n:Nat):EO->Code->(Exit->RS->Env->aj->Prop)->RS->Env->aj->Prop
 | .seq a b,c,Q,ρ,σ,h=>(match c with
  | .seq c d=>Uk P n a c (thenS (λQN cU h'=>Uk P n b d Q QN cU h') Q) ρ σ h
  |_=>False)
 | .typed ty,c,Q,ρ,σ,h=>(match c with
  | .region _ ops false=>pM P n ops ty ops.toList ρ σ h (Q .normal)
  |_=>False)
 | .leaf,c,Q,ρ,σ,h=>(match c with
  | .region _ ops false=>pM P n ops [] ops.toList ρ σ h (Q .normal)
  |c=>den P n .leaf none c (λe cU h'=>Q e ρ cU h') σ h)
 |Gi,c,Q,ρ,σ,h=>den P n Gi none c (λe cU h'=>Q e ρ cU h') σ h
theorem afq {P:Program} {n:Nat} {c0:Frame} {cs0:List Frame} : ∀(Gi:EO) (c:Code) (Q:Exit->RS->Env->aj->Prop) (ρ:RS) (σ:Env) (a:Act) (w:World),Rel n σ a->Uk P n Gi c Q ρ σ w.heap->
  c.wpS P (upS n a w (writes c) c0 cs0 Q) a ({ c0 with mode:=ρ.mode } ::cs0) w:=by
 have mono: ∀ {c:Code} {Q Q':Exit->Act->List Frame->World->Prop} {a:Act} {cs:List Frame} {w:World},c.wpS P Q a cs w->(∀e a cs w,Q e a cs w->Q' e a cs w)->c.wpS P Q' a cs w:=
  λh hq b k hb hr=>let ⟨e,a',Iw,w',q,r⟩:=h b k hb hr;⟨e,a',Iw,w',hq _ _ _ _ q,r⟩
 have plain: ∀(Gi:EO) (c:Code) (Q:Exit->RS->Env->aj->Prop) (ρ:RS) (σ:Env) (a:Act) (w:World),Rel n σ a->den P n Gi none c (λe cU h'=>Q e ρ cU h') σ w.heap->
   c.wpS P (upS n a w (writes c) c0 cs0 Q) a ({ c0 with mode:=ρ.mode } ::cs0) w:=λGi c Q ρ σ a w hr h=>
  wpS_of_wp (wp_mono (sS Gi none c _ σ a w hr h).wp λe a' w' ⟨cU,h1,h2,h3,h4⟩=>⟨ρ,cU,rfl,h1,h2,h3,h4⟩)
 have region: ∀(id:Nat) (ops:Array Oper) (ty:List (Nat×Sh)) (Q:Exit->RS->Env->aj->Prop) (ρ:RS) (σ:Env) (a:Act) (w:World),Rel n σ a->pM P n ops ty ops.toList ρ σ w.heap (Q .normal)->
   (Code.region id ops false).wpS P (upS n a w (cS ops) c0 cs0 Q) a ({ c0 with mode:=ρ.mode } ::cs0) w:=λid ops ty Q ρ σ a w hr h=>by
  refine mono (wpS_region (Q:=upS n a w (cS ops) c0 cs0 (ab2 (Q .normal))) ?_) ?_
  ·have:=JZ (c0:=c0) (cs0:=cs0) (a0:=a) (w0:=w) ops.toList 0 ρ σ a w (by simp) hr (iC.refl w) (hY.refl _ _) h;rw[iN];rw[fU] at this;exact this
  ·rintro e a' Iw w' ⟨QN,cU,h1,h2,h3,h4⟩;cases e with
   |normal=>exact⟨QN,cU,h1,h2,h3,h4⟩
   |_=>exact h3.elim
 intro Gi;induction Gi with
 |seq x y ihx ihy=>
  intro c Q ρ σ a w hr h;unfold Uk at h;split at h
  ·rename_i c d;have hW: ∀t,t∈writes c->t∈writes (.seq c d):=λt ht=>fK _ ht
   refine wpS_seq (mono (ihx c _ ρ σ a w hr h) ?_);rintro e a' Iw w' ⟨QN,cU,rfl,gB,hq,hs,hu⟩;cases e with
   |normal=>
    refine mono (ihy d Q QN cU a' w' gB hq) ?_;rintro e2 a2 cs2 w2 ⟨ρ2,σ2,h1,hr2,Gx,hs2,hu2⟩;exact⟨ρ2,σ2,h1,hr2,Gx,hs.trans hs2,(hu.mono hW).trans (hu2.mono λt ht=>ga _ ht)⟩
   |exit id=>exact⟨QN,cU,rfl,gB,hq,hs,hu.mono hW⟩
   |goto l=>exact⟨QN,cU,rfl,gB,hq,hs,hu.mono hW⟩
   |ret=>exact⟨QN,cU,rfl,gB,hq,hs,hu.mono hW⟩
   |panic ch=>exact⟨QN,cU,rfl,gB,hq,hs,hu.mono hW⟩
   |outgrown=>exact⟨QN,cU,rfl,gB,hq,hs,hu.mono hW⟩
  ·exact h.elim
 |typed ty=>
  intro c Q ρ σ a w hr h;unfold Uk at h;split at h
  ·exact region _ _ ty Q ρ σ a w hr h
  ·exact h.elim
 |leaf=>
  intro c Q ρ σ a w hr h;unfold Uk at h;split at h
  ·exact region _ _ [] Q ρ σ a w hr h
  ·exact plain .leaf c Q ρ σ a w hr h
 |cond x y=>exact λc Q ρ σ a w hr h=>plain _ c Q ρ σ a w hr h
 |block x=>exact λc Q ρ σ a w hr h=>plain _ c Q ρ σ a w hr h
 |loop L x=>exact λc Q ρ σ a w hr h=>plain _ c Q ρ σ a w hr h
 |join L x=>exact λc Q ρ σ a w hr h=>plain _ c Q ρ σ a w hr h
 |mC p=>exact λc Q ρ σ a w hr h=>plain _ c Q ρ σ a w hr h
 |qX p=>exact λc Q ρ σ a w hr h=>plain _ c Q ρ σ a w hr h
 |scope z L x y=>exact λc Q ρ σ a w hr h=>plain _ c Q ρ σ a w hr h
def apY (P:Program) (rs:Array ResultVar) (K:Option Value->aj->Prop):Exit->RS->Env->aj->Prop
 | .normal,ρ,σ,h=>Ep P rs.toList σ h λ_=>K ρ.left h
 | .ret,ρ,σ,h=>Ep P rs.toList σ h λ_=>K ρ.left h
 |_,_,_,_=>False
theorem Cn {P:Program} {f:FuncId} {fn:Func} {args:List Value} {rv:Option Value} {h:aj} {K:Option Value->aj->Prop} (Gi:EO)
  (hf:P.funcs[f]? =some fn) (hb:fn.body.isSome=true) (hn:Nat.ble args.length fn.ntmps=true)
  (hd:Uk P fn.ntmps Gi (Es fn) (apY P fn.results K) (RS.of rv) (wI args) h):Ck P f args.toArray rv h K:=by
 obtain⟨c,hc⟩:=gP.1 hb;rw[Es,hc] at hd;intro w hw;subst hw;have hn:=Nat.le_of_ble_eq_true hn;refine callsD_of_wpS hf hc λc0 cs hm=> ?_
 have e0:c0= { c0 with mode:=(RS.of rv).mode } :=by rw[RS.afp,<-hm]
 have hr:Rel fn.ntmps (wI args) { tmps:=args.toArray++Array.replicate (fn.ntmps - args.toArray.size) undef,defers:= [] } :=by
  refine⟨rfl,by simp;omega,λt v hv=> ?_⟩;unfold wI at hv;have jc:t<args.length:=(aG.1 hv).1;simp only[gD];rw[eY (by simpa using jc)];simp[hv]
 have key:=afq (c0:=c0) (cs0:=cs) Gi c _ (RS.of rv) _ _ w hr hd;rw[<-e0] at key;intro b k hb hro;obtain⟨e,a',Iw,w',⟨ρ,σ,rfl,gB,hq,hs,_⟩,qY⟩:=key b k hb hro;refine⟨e,a',_,w',?_,qY⟩;have fin:(Ep P fn.results.toList σ w'.heap λ_=>K ρ.left w'.heap)->a'.defers= []/\∃u',({ c0 with mode:=ρ.mode } ::cs:List Frame)= { c0 with mode:=u' } ::cs/\∃v,(results fn a'.tmps).run P w'=.ok v w'/\(∃v',Ending.returned v=.returned v')/\iC w w'/\∃rv',Go.settle u'=HL rv'/\K rv' w'.heap:=λhh=>by
  obtain⟨v,h1,h2⟩:=Er (F:=λ_=>K ρ.left w'.heap) gB hh;exact⟨gB.defers,ρ.mode,rfl,v,BR _ _ _ h2,⟨v,rfl⟩,hs,ρ.left,RS.settle ρ,h1⟩
 cases e with
 |normal=>exact fin hq
 |ret=>exact fin hq
 |exit id=>exact hq.elim
 |goto l=>exact hq.elim
 |panic ch=>exact hq.elim
 |outgrown=>exact hq.elim
end Go.Den
namespace Go.Proofs.YtlenamcfacpheaaGreatDoor
open Go.Den
open IntKind (wrap)
open Int (toNat)
abbrev Cl:=wE Tryz.prog
namespace F
abbrev rY:Nat:=3
abbrev wv:Nat:=8
abbrev uu:Nat:=9
abbrev sC:Nat:=10
abbrev qc:Nat:=11
abbrev gI:Nat:=12
abbrev mJ:Nat:=13
abbrev jA:Nat:=14
abbrev nT:Nat:=15
abbrev lT:Nat:=16
abbrev kY:Nat:=17
abbrev mR:Nat:=28
abbrev pk:Nat:=29
abbrev wQ:Nat:=30
abbrev wx:Nat:=33
abbrev za:Nat:=34
abbrev sW:Nat:=35
abbrev Co:Nat:=36
abbrev wR:Nat:=37
abbrev wS:Nat:=38
abbrev mg:Nat:=39
abbrev mS:Nat:=40
abbrev kO:Nat:=41
abbrev kZ:Nat:=42
abbrev wT:Nat:=43
abbrev sX:Nat:=44
abbrev uV:Nat:=45
abbrev iU:Nat:=46
abbrev gw:Nat:=47
abbrev rj:Nat:=48
abbrev jL:Nat:=49
abbrev cv:Nat:=50
abbrev kP:Nat:=51
abbrev jX:Nat:=52
abbrev mT:Nat:=53
abbrev oV:Nat:=54
abbrev jq:Nat:=55
abbrev mL:Nat:=56
abbrev qE:Nat:=58
abbrev wU:Nat:=65
abbrev jB:Nat:=66
abbrev lg:Nat:=67
abbrev jr:Nat:=68
abbrev jM:Nat:=70
abbrev mh:Nat:=71
abbrev iW:Nat:=72
abbrev nP:Nat:=73
abbrev gQ:Nat:=74
abbrev gl:Nat:=78
abbrev rk:Nat:=79
abbrev sY:Nat:=80
abbrev uW:Nat:=81
abbrev kf:Nat:=82
abbrev kF:Nat:=86
abbrev uv:Nat:=87
abbrev pn:Nat:=88
abbrev bP:Nat:=89
abbrev gH:Nat:=90
abbrev uX:Nat:=91
abbrev iX:Nat:=92
abbrev jC:Nat:=93
abbrev mi:Nat:=94
abbrev mU:Nat:=95
abbrev sD:Nat:=96
abbrev qe:Nat:=97
abbrev mV:Nat:=98
abbrev mW:Nat:=99
abbrev mX:Nat:=100
abbrev qh:Nat:=101
abbrev mj:Nat:=102
abbrev ml:Nat:=103
abbrev mq:Nat:=104
abbrev qi:Nat:=105
abbrev rq:Nat:=106
abbrev kg:Nat:=107
abbrev oW:Nat:=108
abbrev di:Nat:=109
abbrev dK:Nat:=110
abbrev dC:Nat:=111
abbrev ir:Nat:=112
abbrev fQ:Nat:=113
abbrev lU:Nat:=114
abbrev gp:Nat:=115
abbrev gu:Nat:=116
abbrev mr:Nat:=117
abbrev iP:Nat:=118
abbrev iV:Nat:=119
abbrev kG:Nat:=120
abbrev nU:Nat:=121
abbrev mM:Nat:=122
abbrev kQ:Nat:=123
abbrev wV:Nat:=124
abbrev sZ:Nat:=125
abbrev jN:Nat:=130
abbrev ab3:Nat:=133
abbrev tX:Nat:=134
abbrev Cq:Nat:=136
abbrev jD:Nat:=139
abbrev pq:Nat:=142
abbrev jY:Nat:=143
abbrev iY:Nat:=144
abbrev kh:Nat:=145
abbrev tb:Nat:=146
abbrev wW:Nat:=147
abbrev nV:Nat:=148
abbrev px:Nat:=149
abbrev kj:Nat:=150
abbrev py:Nat:=151
abbrev mY:Nat:=152
abbrev cz:Nat:=153
abbrev gx:Nat:=154
abbrev mN:Nat:=155
abbrev iG:Nat:=156
abbrev sE:Nat:=157
abbrev qj:Nat:=158
abbrev nW:Nat:=159
abbrev lV:Nat:=160
abbrev nY:Nat:=161
abbrev dN:Nat:=162
abbrev jO:Nat:=163
abbrev qk:Nat:=164
abbrev kH:Nat:=165
abbrev kk:Nat:=166
abbrev lh:Nat:=167
abbrev dO:Nat:=168
abbrev nZ:Nat:=169
abbrev oE:Nat:=170
abbrev lW:Nat:=171
abbrev fc:Nat:=172
abbrev iZ:Nat:=173
abbrev oa:Nat:=174
abbrev sF:Nat:=175
abbrev tc:Nat:=176
abbrev nt:Nat:=177
abbrev mw:Nat:=178
abbrev sH:Nat:=179
abbrev ja:Nat:=187
abbrev jE:Nat:=188
abbrev lX:Nat:=189
abbrev od:Nat:=190
abbrev oX:Nat:=191
abbrev oh:Nat:=192
abbrev uw:Nat:=193
abbrev te:Nat:=194
abbrev wX:Nat:=195
abbrev qF:Nat:=196
abbrev ny:Nat:=197
abbrev hZ:Nat:=198
abbrev fu:Nat:=199
abbrev tf:Nat:=200
abbrev th:Nat:=201
abbrev rB:Nat:=202
abbrev ux:Nat:=203
abbrev oF:Nat:=204
abbrev fI:Nat:=205
abbrev qG:Nat:=206
abbrev oN:Nat:=207
abbrev uY:Nat:=208
abbrev pz:Nat:=209
abbrev qm:Nat:=210
abbrev km:Nat:=237
abbrev uZ:Nat:=238
abbrev om:Nat:=239
abbrev qo:Nat:=240
abbrev lY:Nat:=241
abbrev lO:Nat:=242
abbrev ig:Nat:=243
abbrev qH:Nat:=244
abbrev tj:Nat:=245
abbrev oO:Nat:=246
abbrev fO:Nat:=247
abbrev iB:Nat:=248
abbrev tn:Nat:=249
abbrev gT:Nat:=250
abbrev ko:Nat:=251
abbrev qp:Nat:=252
abbrev zc:Nat:=253
abbrev wY:Nat:=254
abbrev ze:Nat:=255
abbrev jF:Nat:=256
abbrev oq:Nat:=257
abbrev ee:Nat:=258
abbrev pA:Nat:=259
abbrev wy:Nat:=260
abbrev wZ:Nat:=261
abbrev tp:Nat:=280
abbrev jZ:Nat:=281
abbrev jd:Nat:=282
abbrev lZ:Nat:=283
abbrev j0:Nat:=284
abbrev mO:Nat:=285
abbrev rC:Nat:=286
abbrev u0:Nat:=287
abbrev mZ:Nat:=288
abbrev dj:Nat:=289
abbrev tB:Nat:=290
abbrev uy:Nat:=291
abbrev iu:Nat:=292
abbrev sc:Nat:=293
abbrev gz:Nat:=294
abbrev fS:Nat:=295
abbrev w4:Nat:=296
abbrev zh:Nat:=297
abbrev Cr:Nat:=298
abbrev w5:Nat:=299
abbrev zj:Nat:=300
abbrev sI:Nat:=301
abbrev wz:Nat:=309
abbrev l6:Nat:=310
abbrev jG:Nat:=311
abbrev strings_CutPrefix:Nat:=312
abbrev strings_Cut:Nat:=313
abbrev rD:Nat:=314
abbrev zp:Nat:=315
abbrev jm:Nat:=316
abbrev qI:Nat:=317
abbrev vc:Nat:=323
abbrev dD:Nat:=324
abbrev w6:Nat:=327
end F
namespace T
abbrev J0:Nat:=0
abbrev int:Nat:=3
abbrev bool:Nat:=4
abbrev uint8:Nat:=5
abbrev st7:Nat:=7
abbrev string:Nat:=9
abbrev du:Nat:=22
abbrev uz:Nat:=24
abbrev uint64:Nat:=27
abbrev az:Nat:=29
abbrev my:Nat:=36
abbrev sJ:Nat:=41
abbrev aq:Nat:=44
abbrev aD:Nat:=47
abbrev gF:Nat:=50
abbrev zq:Nat:=64
abbrev iw:Nat:=74
abbrev ij:Nat:=76
abbrev fh:Nat:=86
abbrev kq:Nat:=88
abbrev w8:Nat:=90
abbrev sd:Nat:=91
abbrev bO:Nat:=98
abbrev Fe:Nat:=105
abbrev cZ:Nat:=107
abbrev lC:Nat:=110
abbrev Mb:Nat:=111
abbrev aJ:Nat:=114
abbrev aM:Nat:=119
abbrev ah:Nat:=124
abbrev aC:Nat:=126
abbrev lP:Nat:=127
abbrev aw:Nat:=129
abbrev bJ:Nat:=136
abbrev w9:Nat:=145
abbrev bG:Nat:=161
abbrev HM:Nat:=166
abbrev jI:Nat:=167
abbrev HN:Nat:=169
abbrev gZ:Nat:=170
abbrev Ey:Nat:=172
abbrev nA:Nat:=189
abbrev Cs:Nat:=191
abbrev dv:Nat:=193
abbrev aE:Nat:=201
abbrev yK:Nat:=209
abbrev DT:Nat:=221
abbrev rE:Nat:=242
abbrev cF:Nat:=260
abbrev aa:Nat:=262
abbrev bX:Nat:=287
abbrev oP:Nat:=331
abbrev qq:Nat:=335
abbrev Cu:Nat:=345
abbrev bg:Nat:=360
abbrev Ka:Nat:=419
abbrev gC:Nat:=421
abbrev oY:Nat:=422
end T
abbrev Ce:=mI Tryz.prog
abbrev Ul:List Nat:= [F.ig,F.jZ,F.jd,F.lZ,F.j0,F.jG]
abbrev gF.LD (h:aj) (a:Addr) (K:Int->Int->Int->Int->Int->Int->Prop):Prop:= ∃(t0:Int),ak h a=some (.int .i64 t0)/\∃(t1:Int),ak h (a.add 1)=some (.int .i64 t1)/\∃(t2:Int),ak h (a.add 2)=some (.int .i64 t2)/\∃(t3:Int),ak h (a.add 3)=some (.int .i64 t3)/\∃(t4:Int),ak h (a.add 4)=some (.int .i64 t4)/\∃(t5:Int),ak h (a.add 5)=some (.int .i64 t5)/\K t0 t1 t2 t3 t4 t5
abbrev gF.ST (h:aj) (a:Addr) (f0:Int) (f1:Int) (f2:Int) (f3:Int) (f4:Int) (f5:Int) (K:aj->Prop):Prop:=aH h a (.int .i64 f0) λaR=>aH aR (a.add 1) (.int .i64 f1) λaZ=>aH aZ (a.add 2) (.int .i64 f2) λbK=>aH bK (a.add 3) (.int .i64 f3) λcC=>aH cC (a.add 4) (.int .i64 f4) λcK=>aH cK (a.add 5) (.int .i64 f5) λcR=>K cR
abbrev aa.LD (h:aj) (a:Addr) (K:Int->Int->bV->Nat->Nat->bV->Nat->Nat->Prop):Prop:= ∃(t0:Int),ak h a=some (.int .i64 t0)/\∃(t1:Int),ak h (a.add 1)=some (.int .u64 t1)/\∃(TF:bV) (TG TH:Nat),ak h (a.add 2)=some (.slice TF TG TH)/\∃(t3p:bV) (t3l t3c:Nat),ak h (a.add 3)=some (.slice t3p t3l t3c)/\K t0 t1 TF TG TH t3p t3l t3c
abbrev aa.ST (h:aj) (a:Addr) (f0:Int) (f1:Int) (tY:bV) (tT tZ:Nat) (BO:bV) (xP Ay:Nat) (K:aj->Prop):Prop:=aH h a (.int .i64 f0) λaR=>aH aR (a.add 1) (.int .u64 f1) λaZ=>aH aZ (a.add 2) (.slice tY tT tZ) λbK=>aH bK (a.add 3) (.slice BO xP Ay) λcC=>K cC
abbrev aJ.LD (h:aj) (a:Addr) (K:Int->Bool->Int->Int->ByteArray->ByteArray->bV->Nat->Nat->Int->Int->Int->Prop):Prop:= ∃(t0:Int),ak h a=some (.int .i64 t0)/\∃(t1:Bool),ak h (a.add 1)=some (.bool t1)/\∃(t2:Int),ak h (a.add 2)=some (.int .u64 t2)/\∃(t3:Int),ak h (a.add 3)=some (.int .u64 t3)/\∃(t4:ByteArray),ak h (a.add 4)=some (.string t4)/\∃(t5:ByteArray),ak h (a.add 5)=some (.string t5)/\∃(t6p:bV) (t6l t6c:Nat),ak h (a.add 6)=some (.slice t6p t6l t6c)/\∃(t7:Int),ak h (a.add 7)=some (.int .u64 t7)/\∃(t8:Int),ak h (a.add 8)=some (.int .i64 t8)/\∃(t9:Int),ak h (a.add 9)=some (.int .u64 t9)/\K t0 t1 t2 t3 t4 t5 t6p t6l t6c t7 t8 t9
abbrev aJ.ST (h:aj) (a:Addr) (f0:Int) (f1:Bool) (f2:Int) (f3:Int) (f4:ByteArray) (f5:ByteArray) (IB:bV) (IC ID:Nat) (f7:Int) (f8:Int) (f9:Int) (K:aj->Prop):Prop:=aH h a (.int .i64 f0) λaR=>aH aR (a.add 1) (.bool f1) λaZ=>aH aZ (a.add 2) (.int .u64 f2) λbK=>aH bK (a.add 3) (.int .u64 f3) λcC=>aH cC (a.add 4) (.string f4) λcK=>aH cK (a.add 5) (.string f5) λcR=>aH cR (a.add 6) (.slice IB IC ID) λcX=>aH cX (a.add 7) (.int .u64 f7) λdB=>aH dB (a.add 8) (.int .i64 f8) λff=>aH ff (a.add 9) (.int .u64 f9) λcQ=>K cQ
abbrev az.LD (h:aj) (a:Addr) (K:Bool->Int->Int->ByteArray->ByteArray->Prop):Prop:= ∃(t0:Bool),ak h a=some (.bool t0)/\∃(t1:Int),ak h (a.add 1)=some (.int .u64 t1)/\∃(t2:Int),ak h (a.add 2)=some (.int .u64 t2)/\∃(t3:ByteArray),ak h (a.add 3)=some (.string t3)/\∃(t4:ByteArray),ak h (a.add 4)=some (.string t4)/\K t0 t1 t2 t3 t4
abbrev bg.LD (h:aj) (a:Addr) (K:Int->Int->Bool->Prop):Prop:= ∃(t0:Int),ak h a=some (.int .i64 t0)/\∃(t1:Int),ak h (a.add 1)=some (.int .u64 t1)/\∃(t2:Bool),ak h (a.add 2)=some (.bool t2)/\K t0 t1 t2
abbrev bg.ST (h:aj) (a:Addr) (f0:Int) (f1:Int) (f2:Bool) (K:aj->Prop):Prop:=aH h a (.int .i64 f0) λaR=>aH aR (a.add 1) (.int .u64 f1) λaZ=>aH aZ (a.add 2) (.bool f2) λbK=>K bK
abbrev ah.LD (h:aj) (a:Addr) (K:Bool->Int->Int->ByteArray->ByteArray->Int->Int->Prop):Prop:= ∃(t0:Bool),ak h a=some (.bool t0)/\∃(t1:Int),ak h (a.add 1)=some (.int .u64 t1)/\∃(t2:Int),ak h (a.add 2)=some (.int .u64 t2)/\∃(t3:ByteArray),ak h (a.add 3)=some (.string t3)/\∃(t4:ByteArray),ak h (a.add 4)=some (.string t4)/\∃(t5:Int),ak h (a.add 5)=some (.int .u64 t5)/\∃(t6:Int),ak h (a.add 6)=some (.int .u64 t6)/\K t0 t1 t2 t3 t4 t5 t6
abbrev ah.ST (h:aj) (a:Addr) (f0:Bool) (f1:Int) (f2:Int) (f3:ByteArray) (f4:ByteArray) (f5:Int) (f6:Int) (K:aj->Prop):Prop:=aH h a (.bool f0) λaR=>aH aR (a.add 1) (.int .u64 f1) λaZ=>aH aZ (a.add 2) (.int .u64 f2) λbK=>aH bK (a.add 3) (.string f3) λcC=>aH cC (a.add 4) (.string f4) λcK=>aH cK (a.add 5) (.int .u64 f5) λcR=>aH cR (a.add 6) (.int .u64 f6) λcX=>K cX
abbrev aM.LD (h:aj) (a:Addr) (K:Int->Int->bV->Nat->Nat->Int->Prop):Prop:= ∃(t0:Int),ak h a=some (.int .i64 t0)/\∃(t1:Int),ak h (a.add 1)=some (.int .i64 t1)/\∃(TF:bV) (TG TH:Nat),ak h (a.add 2)=some (.slice TF TG TH)/\∃(t3:Int),ak h (a.add 3)=some (.int .u64 t3)/\K t0 t1 TF TG TH t3
abbrev aM.ST (h:aj) (a:Addr) (f0:Int) (f1:Int) (tY:bV) (tT tZ:Nat) (f3:Int) (K:aj->Prop):Prop:=aH h a (.int .i64 f0) λaR=>aH aR (a.add 1) (.int .i64 f1) λaZ=>aH aZ (a.add 2) (.slice tY tT tZ) λbK=>aH bK (a.add 3) (.int .u64 f3) λcC=>K cC
abbrev bJ.LD (h:aj) (a:Addr) (K:Bool->Int->Int->ByteArray->ByteArray->Int->Int->Prop):Prop:= ∃(t0:Bool),ak h a=some (.bool t0)/\∃(t1:Int),ak h (a.add 1)=some (.int .u64 t1)/\∃(t2:Int),ak h (a.add 2)=some (.int .u64 t2)/\∃(t3:ByteArray),ak h (a.add 3)=some (.string t3)/\∃(t4:ByteArray),ak h (a.add 4)=some (.string t4)/\∃(t5:Int),ak h (a.add 5)=some (.int .i64 t5)/\∃(t6:Int),ak h (a.add 6)=some (.int .i64 t6)/\K t0 t1 t2 t3 t4 t5 t6
abbrev bJ.ST (h:aj) (a:Addr) (f0:Bool) (f1:Int) (f2:Int) (f3:ByteArray) (f4:ByteArray) (f5:Int) (f6:Int) (K:aj->Prop):Prop:=aH h a (.bool f0) λaR=>aH aR (a.add 1) (.int .u64 f1) λaZ=>aH aZ (a.add 2) (.int .u64 f2) λbK=>aH bK (a.add 3) (.string f3) λcC=>aH cC (a.add 4) (.string f4) λcK=>aH cK (a.add 5) (.int .i64 f5) λcR=>aH cR (a.add 6) (.int .i64 f6) λcX=>K cX
abbrev aq.LD (h:aj) (a:Addr) (K:Int->Int->Int->Int->Int->bV->Nat->Nat->Prop):Prop:= ∃(t0:Int),ak h a=some (.int .u64 t0)/\∃(t1:Int),ak h (a.add 1)=some (.int .i64 t1)/\∃(t2:Int),ak h (a.add 2)=some (.int .i64 t2)/\∃(t3:Int),ak h (a.add 3)=some (.int .i64 t3)/\∃(t4:Int),ak h (a.add 4)=some (.int .u64 t4)/\∃(t5p:bV) (t5l t5c:Nat),ak h (a.add 5)=some (.slice t5p t5l t5c)/\K t0 t1 t2 t3 t4 t5p t5l t5c
abbrev aq.ST (h:aj) (a:Addr) (f0:Int) (f1:Int) (f2:Int) (f3:Int) (f4:Int) (DU:bV) (f5l DV:Nat) (K:aj->Prop):Prop:=aH h a (.int .u64 f0) λaR=>aH aR (a.add 1) (.int .i64 f1) λaZ=>aH aZ (a.add 2) (.int .i64 f2) λbK=>aH bK (a.add 3) (.int .i64 f3) λcC=>aH cC (a.add 4) (.int .u64 f4) λcK=>aH cK (a.add 5) (.slice DU f5l DV) λcR=>K cR
abbrev bG.LD (h:aj) (a:Addr) (K:Int->bV->Nat->Nat->Prop):Prop:= ∃(t0:Int),ak h a=some (.int .u64 t0)/\∃(t1p:bV) (t1l t1c:Nat),ak h (a.add 1)=some (.slice t1p t1l t1c)/\K t0 t1p t1l t1c
abbrev bG.ST (h:aj) (a:Addr) (f0:Int) (TI:bV) (TJ TK:Nat) (K:aj->Prop):Prop:=aH h a (.int .u64 f0) λaR=>aH aR (a.add 1) (.slice TI TJ TK) λaZ=>K aZ
structure iJ.S where
 f0:Int
 f1:Int
 f2:Bool
 f3:Int
 f4:Int
 f5:ByteArray
 f6:ByteArray
 f7:Bool
 f8:Int
 f9:Int
 f10:ByteArray
 f11:ByteArray
 f12:Bool
 f13:Int
 f14:Int
 f15:ByteArray
 f16:ByteArray
 f17:Int
 f18:Int
 f19:Int
 Um:bV
 OY:Nat
 Un:Nat
 f21:bV
 amc:bV
 amd:Nat
 ame:Nat
abbrev iJ.S.l (x:iJ.S):List Value:= [.int .u64 x.f0,.int .i64 x.f1,.bool x.f2,.int .u64 x.f3,.int .u64 x.f4,.string x.f5,.string x.f6,.bool x.f7,.int .u64 x.f8,.int .u64 x.f9,.string x.f10,.string x.f11,.bool x.f12,.int .u64 x.f13,.int .u64 x.f14,.string x.f15,.string x.f16,.int .u64 x.f17,.int .u64 x.f18,.int .u64 x.f19,.slice x.Um x.OY x.Un,.pointer x.f21,.slice x.amc x.amd x.ame]
abbrev iJ.S.agg (x:iJ.S):Value:=.agg #[.int .u64 x.f0,.int .i64 x.f1,.bool x.f2,.int .u64 x.f3,.int .u64 x.f4,.string x.f5,.string x.f6,.bool x.f7,.int .u64 x.f8,.int .u64 x.f9,.string x.f10,.string x.f11,.bool x.f12,.int .u64 x.f13,.int .u64 x.f14,.string x.f15,.string x.f16,.int .u64 x.f17,.int .u64 x.f18,.int .u64 x.f19,.slice x.Um x.OY x.Un,.pointer x.f21,.slice x.amc x.amd x.ame]
abbrev iJ.S.z:iJ.S:=⟨0,0,false,0,0,(⟨#[]⟩:ByteArray),(⟨#[]⟩:ByteArray),false,0,0,(⟨#[]⟩:ByteArray),(⟨#[]⟩:ByteArray),false,0,0,(⟨#[]⟩:ByteArray),(⟨#[]⟩:ByteArray),0,0,0,none,0,0,none,none,0,0⟩
abbrev iJ.EX (K:iJ.S->Prop):Prop:= ∃(t0:Int),∃(t1:Int),∃(t2:Bool),∃(t3:Int),∃(t4:Int),∃(t5:ByteArray),∃(t6:ByteArray),∃(t7:Bool),∃(t8:Int),∃(t9:Int),∃(t10:ByteArray),∃(t11:ByteArray),∃(t12:Bool),∃(t13:Int),∃(t14:Int),∃(t15:ByteArray),∃(t16:ByteArray),∃(t17:Int),∃(t18:Int),∃(t19:Int),∃(aap:bV) (aaq aar:Nat),∃(t21:bV),∃(apZ:bV) (ap0 ap1:Nat),K ⟨t0,t1,t2,t3,t4,t5,t6,t7,t8,t9,t10,t11,t12,t13,t14,t15,t16,t17,t18,t19,aap,aaq,aar,t21,apZ,ap0,ap1⟩
structure bO.S where
 f0:Int
 f1:Int
 f2:Bool
 f3:Int
 f4:Int
 f5:ByteArray
 f6:ByteArray
 f7:Bool
 f8:Int
 f9:Int
 f10:ByteArray
 f11:ByteArray
 f12:Int
 f13:Int
 f14:Int
 OZ:bV
 Mc:Nat
 O0:Nat
 f16:Int
 f17:Int
 f18:Bool
 f19:bV
 f20:Int
abbrev bO.S.l (x:bO.S):List Value:= [.int .u64 x.f0,.int .i64 x.f1,.bool x.f2,.int .u64 x.f3,.int .u64 x.f4,.string x.f5,.string x.f6,.bool x.f7,.int .u64 x.f8,.int .u64 x.f9,.string x.f10,.string x.f11,.int .i64 x.f12,.int .i64 x.f13,.int .i64 x.f14,.slice x.OZ x.Mc x.O0,.int .u64 x.f16,.int .u64 x.f17,.bool x.f18,.pointer x.f19,.int .i64 x.f20]
abbrev bO.S.arr (x:bO.S):Array Value:= #[.int .u64 x.f0,.int .i64 x.f1,.bool x.f2,.int .u64 x.f3,.int .u64 x.f4,.string x.f5,.string x.f6,.bool x.f7,.int .u64 x.f8,.int .u64 x.f9,.string x.f10,.string x.f11,.int .i64 x.f12,.int .i64 x.f13,.int .i64 x.f14,.slice x.OZ x.Mc x.O0,.int .u64 x.f16,.int .u64 x.f17,.bool x.f18,.pointer x.f19,.int .i64 x.f20]
abbrev bO.S.agg (x:bO.S):Value:=.agg #[.int .u64 x.f0,.int .i64 x.f1,.bool x.f2,.int .u64 x.f3,.int .u64 x.f4,.string x.f5,.string x.f6,.bool x.f7,.int .u64 x.f8,.int .u64 x.f9,.string x.f10,.string x.f11,.int .i64 x.f12,.int .i64 x.f13,.int .i64 x.f14,.slice x.OZ x.Mc x.O0,.int .u64 x.f16,.int .u64 x.f17,.bool x.f18,.pointer x.f19,.int .i64 x.f20]
abbrev bO.S.z:bO.S:=⟨0,0,false,0,0,(⟨#[]⟩:ByteArray),(⟨#[]⟩:ByteArray),false,0,0,(⟨#[]⟩:ByteArray),(⟨#[]⟩:ByteArray),0,0,0,none,0,0,0,0,false,none,0⟩
abbrev bO.EX (K:bO.S->Prop):Prop:= ∃(t0:Int),∃(t1:Int),∃(t2:Bool),∃(t3:Int),∃(t4:Int),∃(t5:ByteArray),∃(t6:ByteArray),∃(t7:Bool),∃(t8:Int),∃(t9:Int),∃(t10:ByteArray),∃(t11:ByteArray),∃(t12:Int),∃(t13:Int),∃(t14:Int),∃(O2:bV) (O3 O4:Nat),∃(t16:Int),∃(t17:Int),∃(t18:Bool),∃(t19:bV),∃(t20:Int),K ⟨t0,t1,t2,t3,t4,t5,t6,t7,t8,t9,t10,t11,t12,t13,t14,O2,O3,O4,t16,t17,t18,t19,t20⟩
abbrev bO.dh (h:aj) (a:Addr) (K:bO.S->Prop):Prop:= ∃(t0:Int),ak h a=some (.int .u64 t0)/\∃(t1:Int),ak h (a.add 1)=some (.int .i64 t1)/\∃(t2:Bool),ak h (a.add 2)=some (.bool t2)/\∃(t3:Int),ak h (a.add 3)=some (.int .u64 t3)/\∃(t4:Int),ak h (a.add 4)=some (.int .u64 t4)/\∃(t5:ByteArray),ak h (a.add 5)=some (.string t5)/\∃(t6:ByteArray),ak h (a.add 6)=some (.string t6)/\∃(t7:Bool),ak h (a.add 7)=some (.bool t7)/\∃(t8:Int),ak h (a.add 8)=some (.int .u64 t8)/\∃(t9:Int),ak h (a.add 9)=some (.int .u64 t9)/\∃(t10:ByteArray),ak h (a.add 10)=some (.string t10)/\∃(t11:ByteArray),ak h (a.add 11)=some (.string t11)/\∃(t12:Int),ak h (a.add 12)=some (.int .i64 t12)/\∃(t13:Int),ak h (a.add 13)=some (.int .i64 t13)/\∃(t14:Int),ak h (a.add 14)=some (.int .i64 t14)/\∃(O2:bV) (O3 O4:Nat),ak h (a.add 15)=some (.slice O2 O3 O4)/\∃(t16:Int),ak h (a.add 16)=some (.int .u64 t16)/\∃(t17:Int),ak h (a.add 17)=some (.int .u64 t17)/\∃(t18:Bool),ak h (a.add 18)=some (.bool t18)/\∃(t19:bV),ak h (a.add 19)=some (.pointer t19)/\∃(t20:Int),ak h (a.add 20)=some (.int .i64 t20)/\K ⟨t0,t1,t2,t3,t4,t5,t6,t7,t8,t9,t10,t11,t12,t13,t14,O2,O3,O4,t16,t17,t18,t19,t20⟩
structure aw.S where
 f0:Int
 f1:Int
 f2:Bool
 f3:Int
 f4:Int
 f5:ByteArray
 f6:ByteArray
 f7:Bool
 f8:Int
 f9:Int
 f10:ByteArray
 f11:ByteArray
 f12:Bool
 f13:Int
 f14:Int
 f15:ByteArray
 f16:ByteArray
 f17:Int
 f18:Int
 f19:Int
 Um:bV
 OY:Nat
 Un:Nat
abbrev aw.S.l (x:aw.S):List Value:= [.int .u64 x.f0,.int .i64 x.f1,.bool x.f2,.int .u64 x.f3,.int .u64 x.f4,.string x.f5,.string x.f6,.bool x.f7,.int .u64 x.f8,.int .u64 x.f9,.string x.f10,.string x.f11,.bool x.f12,.int .u64 x.f13,.int .u64 x.f14,.string x.f15,.string x.f16,.int .u64 x.f17,.int .u64 x.f18,.int .u64 x.f19,.slice x.Um x.OY x.Un]
abbrev aw.S.arr (x:aw.S):Array Value:= #[.int .u64 x.f0,.int .i64 x.f1,.bool x.f2,.int .u64 x.f3,.int .u64 x.f4,.string x.f5,.string x.f6,.bool x.f7,.int .u64 x.f8,.int .u64 x.f9,.string x.f10,.string x.f11,.bool x.f12,.int .u64 x.f13,.int .u64 x.f14,.string x.f15,.string x.f16,.int .u64 x.f17,.int .u64 x.f18,.int .u64 x.f19,.slice x.Um x.OY x.Un]
abbrev aw.S.agg (x:aw.S):Value:=.agg #[.int .u64 x.f0,.int .i64 x.f1,.bool x.f2,.int .u64 x.f3,.int .u64 x.f4,.string x.f5,.string x.f6,.bool x.f7,.int .u64 x.f8,.int .u64 x.f9,.string x.f10,.string x.f11,.bool x.f12,.int .u64 x.f13,.int .u64 x.f14,.string x.f15,.string x.f16,.int .u64 x.f17,.int .u64 x.f18,.int .u64 x.f19,.slice x.Um x.OY x.Un]
abbrev aw.S.z:aw.S:=⟨0,0,false,0,0,(⟨#[]⟩:ByteArray),(⟨#[]⟩:ByteArray),false,0,0,(⟨#[]⟩:ByteArray),(⟨#[]⟩:ByteArray),false,0,0,(⟨#[]⟩:ByteArray),(⟨#[]⟩:ByteArray),0,0,0,none,0,0⟩
abbrev aw.EX (K:aw.S->Prop):Prop:= ∃(t0:Int),∃(t1:Int),∃(t2:Bool),∃(t3:Int),∃(t4:Int),∃(t5:ByteArray),∃(t6:ByteArray),∃(t7:Bool),∃(t8:Int),∃(t9:Int),∃(t10:ByteArray),∃(t11:ByteArray),∃(t12:Bool),∃(t13:Int),∃(t14:Int),∃(t15:ByteArray),∃(t16:ByteArray),∃(t17:Int),∃(t18:Int),∃(t19:Int),∃(aap:bV) (aaq aar:Nat),K ⟨t0,t1,t2,t3,t4,t5,t6,t7,t8,t9,t10,t11,t12,t13,t14,t15,t16,t17,t18,t19,aap,aaq,aar⟩
abbrev aw.dh (h:aj) (a:Addr) (K:aw.S->Prop):Prop:= ∃(t0:Int),ak h a=some (.int .u64 t0)/\∃(t1:Int),ak h (a.add 1)=some (.int .i64 t1)/\∃(t2:Bool),ak h (a.add 2)=some (.bool t2)/\∃(t3:Int),ak h (a.add 3)=some (.int .u64 t3)/\∃(t4:Int),ak h (a.add 4)=some (.int .u64 t4)/\∃(t5:ByteArray),ak h (a.add 5)=some (.string t5)/\∃(t6:ByteArray),ak h (a.add 6)=some (.string t6)/\∃(t7:Bool),ak h (a.add 7)=some (.bool t7)/\∃(t8:Int),ak h (a.add 8)=some (.int .u64 t8)/\∃(t9:Int),ak h (a.add 9)=some (.int .u64 t9)/\∃(t10:ByteArray),ak h (a.add 10)=some (.string t10)/\∃(t11:ByteArray),ak h (a.add 11)=some (.string t11)/\∃(t12:Bool),ak h (a.add 12)=some (.bool t12)/\∃(t13:Int),ak h (a.add 13)=some (.int .u64 t13)/\∃(t14:Int),ak h (a.add 14)=some (.int .u64 t14)/\∃(t15:ByteArray),ak h (a.add 15)=some (.string t15)/\∃(t16:ByteArray),ak h (a.add 16)=some (.string t16)/\∃(t17:Int),ak h (a.add 17)=some (.int .u64 t17)/\∃(t18:Int),ak h (a.add 18)=some (.int .u64 t18)/\∃(t19:Int),ak h (a.add 19)=some (.int .u64 t19)/\∃(aap:bV) (aaq aar:Nat),ak h (a.add 20)=some (.slice aap aaq aar)/\K ⟨t0,t1,t2,t3,t4,t5,t6,t7,t8,t9,t10,t11,t12,t13,t14,t15,t16,t17,t18,t19,aap,aaq,aar⟩
abbrev aw.dW (h:aj) (a:Addr) (x:aw.S) (K:aj->Prop):Prop:=aH h a (.int .u64 x.f0) λaR=>aH aR (a.add 1) (.int .i64 x.f1) λaZ=>aH aZ (a.add 2) (.bool x.f2) λbK=>aH bK (a.add 3) (.int .u64 x.f3) λcC=>aH cC (a.add 4) (.int .u64 x.f4) λcK=>aH cK (a.add 5) (.string x.f5) λcR=>aH cR (a.add 6) (.string x.f6) λcX=>aH cX (a.add 7) (.bool x.f7) λdB=>aH dB (a.add 8) (.int .u64 x.f8) λff=>aH ff (a.add 9) (.int .u64 x.f9) λcQ=>aH cQ (a.add 10) (.string x.f10) λcW=>aH cW (a.add 11) (.string x.f11) λdE=>aH dE (a.add 12) (.bool x.f12) λdG=>aH dG (a.add 13) (.int .u64 x.f13) λfD=>aH fD (a.add 14) (.int .u64 x.f14) λgE=>aH gE (a.add 15) (.string x.f15) λgX=>aH gX (a.add 16) (.string x.f16) λgR=>aH gR (a.add 17) (.int .u64 x.f17) λfi=>aH fi (a.add 18) (.int .u64 x.f18) λjn=>aH jn (a.add 19) (.int .u64 x.f19) λju=>aH ju (a.add 20) (.slice x.Um x.OY x.Un) λsL=>K sL
structure aE.S where
 f0:Int
 f1:Int
 f2:Int
 f3:Int
 f4p:bV
 f4l:Nat
 f4c:Nat
abbrev aE.S.l (x:aE.S):List Value:= [.int .u64 x.f0,.int .u64 x.f1,.int .u64 x.f2,.int .i64 x.f3,.slice x.f4p x.f4l x.f4c]
abbrev aE.S.arr (x:aE.S):Array Value:= #[.int .u64 x.f0,.int .u64 x.f1,.int .u64 x.f2,.int .i64 x.f3,.slice x.f4p x.f4l x.f4c]
abbrev aE.S.agg (x:aE.S):Value:=.agg #[.int .u64 x.f0,.int .u64 x.f1,.int .u64 x.f2,.int .i64 x.f3,.slice x.f4p x.f4l x.f4c]
abbrev aE.S.z:aE.S:=⟨0,0,0,0,none,0,0⟩
abbrev aE.EX (K:aE.S->Prop):Prop:= ∃(t0:Int),∃(t1:Int),∃(t2:Int),∃(t3:Int),∃(t4p:bV) (t4l t4c:Nat),K ⟨t0,t1,t2,t3,t4p,t4l,t4c⟩
abbrev aE.dh (h:aj) (a:Addr) (K:aE.S->Prop):Prop:= ∃(t0:Int),ak h a=some (.int .u64 t0)/\∃(t1:Int),ak h (a.add 1)=some (.int .u64 t1)/\∃(t2:Int),ak h (a.add 2)=some (.int .u64 t2)/\∃(t3:Int),ak h (a.add 3)=some (.int .i64 t3)/\∃(t4p:bV) (t4l t4c:Nat),ak h (a.add 4)=some (.slice t4p t4l t4c)/\K ⟨t0,t1,t2,t3,t4p,t4l,t4c⟩
abbrev aE.dW (h:aj) (a:Addr) (x:aE.S) (K:aj->Prop):Prop:=aH h a (.int .u64 x.f0) λaR=>aH aR (a.add 1) (.int .u64 x.f1) λaZ=>aH aZ (a.add 2) (.int .u64 x.f2) λbK=>aH bK (a.add 3) (.int .i64 x.f3) λcC=>aH cC (a.add 4) (.slice x.f4p x.f4l x.f4c) λcK=>K cK
structure aa.S where
 f0:Int
 f1:Int
 tY:bV
 tT:Nat
 tZ:Nat
 BO:bV
 xP:Nat
 Ay:Nat
abbrev aa.S.l (x:aa.S):List Value:= [.int .i64 x.f0,.int .u64 x.f1,.slice x.tY x.tT x.tZ,.slice x.BO x.xP x.Ay]
abbrev aa.S.arr (x:aa.S):Array Value:= #[.int .i64 x.f0,.int .u64 x.f1,.slice x.tY x.tT x.tZ,.slice x.BO x.xP x.Ay]
abbrev aa.S.agg (x:aa.S):Value:=.agg #[.int .i64 x.f0,.int .u64 x.f1,.slice x.tY x.tT x.tZ,.slice x.BO x.xP x.Ay]
abbrev aa.S.z:aa.S:=⟨0,0,none,0,0,none,0,0⟩
abbrev aa.EX (K:aa.S->Prop):Prop:= ∃(t0:Int),∃(t1:Int),∃(TF:bV) (TG TH:Nat),∃(t3p:bV) (t3l t3c:Nat),K ⟨t0,t1,TF,TG,TH,t3p,t3l,t3c⟩
abbrev aa.dh (h:aj) (a:Addr) (K:aa.S->Prop):Prop:= ∃(t0:Int),ak h a=some (.int .i64 t0)/\∃(t1:Int),ak h (a.add 1)=some (.int .u64 t1)/\∃(TF:bV) (TG TH:Nat),ak h (a.add 2)=some (.slice TF TG TH)/\∃(t3p:bV) (t3l t3c:Nat),ak h (a.add 3)=some (.slice t3p t3l t3c)/\K ⟨t0,t1,TF,TG,TH,t3p,t3l,t3c⟩
abbrev aa.dW (h:aj) (a:Addr) (x:aa.S) (K:aj->Prop):Prop:=aH h a (.int .i64 x.f0) λaR=>aH aR (a.add 1) (.int .u64 x.f1) λaZ=>aH aZ (a.add 2) (.slice x.tY x.tT x.tZ) λbK=>aH bK (a.add 3) (.slice x.BO x.xP x.Ay) λcC=>K cC
structure aJ.S where
 f0:Int
 f1:Bool
 f2:Int
 f3:Int
 f4:ByteArray
 f5:ByteArray
 IB:bV
 IC:Nat
 ID:Nat
 f7:Int
 f8:Int
 f9:Int
abbrev aJ.S.l (x:aJ.S):List Value:= [.int .i64 x.f0,.bool x.f1,.int .u64 x.f2,.int .u64 x.f3,.string x.f4,.string x.f5,.slice x.IB x.IC x.ID,.int .u64 x.f7,.int .i64 x.f8,.int .u64 x.f9]
abbrev aJ.S.arr (x:aJ.S):Array Value:= #[.int .i64 x.f0,.bool x.f1,.int .u64 x.f2,.int .u64 x.f3,.string x.f4,.string x.f5,.slice x.IB x.IC x.ID,.int .u64 x.f7,.int .i64 x.f8,.int .u64 x.f9]
abbrev aJ.S.agg (x:aJ.S):Value:=.agg #[.int .i64 x.f0,.bool x.f1,.int .u64 x.f2,.int .u64 x.f3,.string x.f4,.string x.f5,.slice x.IB x.IC x.ID,.int .u64 x.f7,.int .i64 x.f8,.int .u64 x.f9]
abbrev aJ.S.z:aJ.S:=⟨0,false,0,0,(⟨#[]⟩:ByteArray),(⟨#[]⟩:ByteArray),none,0,0,0,0,0⟩
abbrev aJ.EX (K:aJ.S->Prop):Prop:= ∃(t0:Int),∃(t1:Bool),∃(t2:Int),∃(t3:Int),∃(t4:ByteArray),∃(t5:ByteArray),∃(t6p:bV) (t6l t6c:Nat),∃(t7:Int),∃(t8:Int),∃(t9:Int),K ⟨t0,t1,t2,t3,t4,t5,t6p,t6l,t6c,t7,t8,t9⟩
abbrev aJ.dh (h:aj) (a:Addr) (K:aJ.S->Prop):Prop:= ∃(t0:Int),ak h a=some (.int .i64 t0)/\∃(t1:Bool),ak h (a.add 1)=some (.bool t1)/\∃(t2:Int),ak h (a.add 2)=some (.int .u64 t2)/\∃(t3:Int),ak h (a.add 3)=some (.int .u64 t3)/\∃(t4:ByteArray),ak h (a.add 4)=some (.string t4)/\∃(t5:ByteArray),ak h (a.add 5)=some (.string t5)/\∃(t6p:bV) (t6l t6c:Nat),ak h (a.add 6)=some (.slice t6p t6l t6c)/\∃(t7:Int),ak h (a.add 7)=some (.int .u64 t7)/\∃(t8:Int),ak h (a.add 8)=some (.int .i64 t8)/\∃(t9:Int),ak h (a.add 9)=some (.int .u64 t9)/\K ⟨t0,t1,t2,t3,t4,t5,t6p,t6l,t6c,t7,t8,t9⟩
abbrev aJ.dW (h:aj) (a:Addr) (x:aJ.S) (K:aj->Prop):Prop:=aH h a (.int .i64 x.f0) λaR=>aH aR (a.add 1) (.bool x.f1) λaZ=>aH aZ (a.add 2) (.int .u64 x.f2) λbK=>aH bK (a.add 3) (.int .u64 x.f3) λcC=>aH cC (a.add 4) (.string x.f4) λcK=>aH cK (a.add 5) (.string x.f5) λcR=>aH cR (a.add 6) (.slice x.IB x.IC x.ID) λcX=>aH cX (a.add 7) (.int .u64 x.f7) λdB=>aH dB (a.add 8) (.int .i64 x.f8) λff=>aH ff (a.add 9) (.int .u64 x.f9) λcQ=>K cQ
structure az.S where
 f0:Bool
 f1:Int
 f2:Int
 f3:ByteArray
 f4:ByteArray
abbrev az.S.l (x:az.S):List Value:= [.bool x.f0,.int .u64 x.f1,.int .u64 x.f2,.string x.f3,.string x.f4]
abbrev az.S.arr (x:az.S):Array Value:= #[.bool x.f0,.int .u64 x.f1,.int .u64 x.f2,.string x.f3,.string x.f4]
abbrev az.S.agg (x:az.S):Value:=.agg #[.bool x.f0,.int .u64 x.f1,.int .u64 x.f2,.string x.f3,.string x.f4]
abbrev az.S.z:az.S:=⟨false,0,0,(⟨#[]⟩:ByteArray),(⟨#[]⟩:ByteArray)⟩
abbrev az.EX (K:az.S->Prop):Prop:= ∃(t0:Bool),∃(t1:Int),∃(t2:Int),∃(t3:ByteArray),∃(t4:ByteArray),K ⟨t0,t1,t2,t3,t4⟩
abbrev az.dh (h:aj) (a:Addr) (K:az.S->Prop):Prop:= ∃(t0:Bool),ak h a=some (.bool t0)/\∃(t1:Int),ak h (a.add 1)=some (.int .u64 t1)/\∃(t2:Int),ak h (a.add 2)=some (.int .u64 t2)/\∃(t3:ByteArray),ak h (a.add 3)=some (.string t3)/\∃(t4:ByteArray),ak h (a.add 4)=some (.string t4)/\K ⟨t0,t1,t2,t3,t4⟩
abbrev az.dW (h:aj) (a:Addr) (x:az.S) (K:aj->Prop):Prop:=aH h a (.bool x.f0) λaR=>aH aR (a.add 1) (.int .u64 x.f1) λaZ=>aH aZ (a.add 2) (.int .u64 x.f2) λbK=>aH bK (a.add 3) (.string x.f3) λcC=>aH cC (a.add 4) (.string x.f4) λcK=>K cK
structure jP.S where
 f0:Int
 f1:Int
 f2:Int
 f3:Int
 f4:Int
 f5:Int
 f6:Bool
 f7:Int
 f8:Int
 f9:ByteArray
 f10:ByteArray
 f11:Bool
 f12:Int
 f13:Int
 f14:ByteArray
 f15:ByteArray
 f16:Int
 f17:Int
 f18:Int
 amf:bV
 amg:Nat
 amh:Nat
 f20:Int
 f21:Int
 f22:Bool
 ami:bV
 amj:Nat
 amk:Nat
abbrev jP.S.l (x:jP.S):List Value:= [.int .u64 x.f0,.int .i64 x.f1,.int .u64 x.f2,.int .i64 x.f3,.int .u64 x.f4,.int .i64 x.f5,.bool x.f6,.int .u64 x.f7,.int .u64 x.f8,.string x.f9,.string x.f10,.bool x.f11,.int .u64 x.f12,.int .u64 x.f13,.string x.f14,.string x.f15,.int .i64 x.f16,.int .i64 x.f17,.int .i64 x.f18,.slice x.amf x.amg x.amh,.int .u64 x.f20,.int .u64 x.f21,.bool x.f22,.slice x.ami x.amj x.amk]
abbrev jP.S.agg (x:jP.S):Value:=.agg #[.int .u64 x.f0,.int .i64 x.f1,.int .u64 x.f2,.int .i64 x.f3,.int .u64 x.f4,.int .i64 x.f5,.bool x.f6,.int .u64 x.f7,.int .u64 x.f8,.string x.f9,.string x.f10,.bool x.f11,.int .u64 x.f12,.int .u64 x.f13,.string x.f14,.string x.f15,.int .i64 x.f16,.int .i64 x.f17,.int .i64 x.f18,.slice x.amf x.amg x.amh,.int .u64 x.f20,.int .u64 x.f21,.bool x.f22,.slice x.ami x.amj x.amk]
abbrev jP.S.z:jP.S:=⟨0,0,0,0,0,0,false,0,0,(⟨#[]⟩:ByteArray),(⟨#[]⟩:ByteArray),false,0,0,(⟨#[]⟩:ByteArray),(⟨#[]⟩:ByteArray),0,0,0,none,0,0,0,0,false,none,0,0⟩
abbrev jP.EX (K:jP.S->Prop):Prop:= ∃(t0:Int),∃(t1:Int),∃(t2:Int),∃(t3:Int),∃(t4:Int),∃(t5:Int),∃(t6:Bool),∃(t7:Int),∃(t8:Int),∃(t9:ByteArray),∃(t10:ByteArray),∃(t11:Bool),∃(t12:Int),∃(t13:Int),∃(t14:ByteArray),∃(t15:ByteArray),∃(t16:Int),∃(t17:Int),∃(t18:Int),∃(ap2:bV) (ap3 ap4:Nat),∃(t20:Int),∃(t21:Int),∃(t22:Bool),∃(ap5:bV) (ap6 ap7:Nat),K ⟨t0,t1,t2,t3,t4,t5,t6,t7,t8,t9,t10,t11,t12,t13,t14,t15,t16,t17,t18,ap2,ap3,ap4,t20,t21,t22,ap5,ap6,ap7⟩
structure ah.S where
 f0:Bool
 f1:Int
 f2:Int
 f3:ByteArray
 f4:ByteArray
 f5:Int
 f6:Int
abbrev ah.S.l (x:ah.S):List Value:= [.bool x.f0,.int .u64 x.f1,.int .u64 x.f2,.string x.f3,.string x.f4,.int .u64 x.f5,.int .u64 x.f6]
abbrev ah.S.arr (x:ah.S):Array Value:= #[.bool x.f0,.int .u64 x.f1,.int .u64 x.f2,.string x.f3,.string x.f4,.int .u64 x.f5,.int .u64 x.f6]
abbrev ah.S.agg (x:ah.S):Value:=.agg #[.bool x.f0,.int .u64 x.f1,.int .u64 x.f2,.string x.f3,.string x.f4,.int .u64 x.f5,.int .u64 x.f6]
abbrev ah.S.z:ah.S:=⟨false,0,0,(⟨#[]⟩:ByteArray),(⟨#[]⟩:ByteArray),0,0⟩
abbrev ah.EX (K:ah.S->Prop):Prop:= ∃(t0:Bool),∃(t1:Int),∃(t2:Int),∃(t3:ByteArray),∃(t4:ByteArray),∃(t5:Int),∃(t6:Int),K ⟨t0,t1,t2,t3,t4,t5,t6⟩
abbrev ah.dh (h:aj) (a:Addr) (K:ah.S->Prop):Prop:= ∃(t0:Bool),ak h a=some (.bool t0)/\∃(t1:Int),ak h (a.add 1)=some (.int .u64 t1)/\∃(t2:Int),ak h (a.add 2)=some (.int .u64 t2)/\∃(t3:ByteArray),ak h (a.add 3)=some (.string t3)/\∃(t4:ByteArray),ak h (a.add 4)=some (.string t4)/\∃(t5:Int),ak h (a.add 5)=some (.int .u64 t5)/\∃(t6:Int),ak h (a.add 6)=some (.int .u64 t6)/\K ⟨t0,t1,t2,t3,t4,t5,t6⟩
abbrev ah.dW (h:aj) (a:Addr) (x:ah.S) (K:aj->Prop):Prop:=aH h a (.bool x.f0) λaR=>aH aR (a.add 1) (.int .u64 x.f1) λaZ=>aH aZ (a.add 2) (.int .u64 x.f2) λbK=>aH bK (a.add 3) (.string x.f3) λcC=>aH cC (a.add 4) (.string x.f4) λcK=>aH cK (a.add 5) (.int .u64 x.f5) λcR=>aH cR (a.add 6) (.int .u64 x.f6) λcX=>K cX
structure aM.S where
 f0:Int
 f1:Int
 tY:bV
 tT:Nat
 tZ:Nat
 f3:Int
abbrev aM.S.l (x:aM.S):List Value:= [.int .i64 x.f0,.int .i64 x.f1,.slice x.tY x.tT x.tZ,.int .u64 x.f3]
abbrev aM.S.agg (x:aM.S):Value:=.agg #[.int .i64 x.f0,.int .i64 x.f1,.slice x.tY x.tT x.tZ,.int .u64 x.f3]
abbrev aM.S.z:aM.S:=⟨0,0,none,0,0,0⟩
abbrev aM.EX (K:aM.S->Prop):Prop:= ∃(t0:Int),∃(t1:Int),∃(TF:bV) (TG TH:Nat),∃(t3:Int),K ⟨t0,t1,TF,TG,TH,t3⟩
structure aC.S where
 f0:Int
 f1:Int
 f2:Bool
 f3:Int
 f4:Int
 f5:ByteArray
 f6:ByteArray
 f7:Bool
 f8:Int
 f9:Int
 f10:ByteArray
 f11:ByteArray
 f12:Bool
 f13:Int
 f14:Int
 f15:ByteArray
 f16:ByteArray
 f17:Int
 f18:Int
 f19:Int
abbrev aC.S.l (x:aC.S):List Value:= [.int .u64 x.f0,.int .i64 x.f1,.bool x.f2,.int .u64 x.f3,.int .u64 x.f4,.string x.f5,.string x.f6,.bool x.f7,.int .u64 x.f8,.int .u64 x.f9,.string x.f10,.string x.f11,.bool x.f12,.int .u64 x.f13,.int .u64 x.f14,.string x.f15,.string x.f16,.int .u64 x.f17,.int .u64 x.f18,.int .u64 x.f19]
abbrev aC.S.arr (x:aC.S):Array Value:= #[.int .u64 x.f0,.int .i64 x.f1,.bool x.f2,.int .u64 x.f3,.int .u64 x.f4,.string x.f5,.string x.f6,.bool x.f7,.int .u64 x.f8,.int .u64 x.f9,.string x.f10,.string x.f11,.bool x.f12,.int .u64 x.f13,.int .u64 x.f14,.string x.f15,.string x.f16,.int .u64 x.f17,.int .u64 x.f18,.int .u64 x.f19]
abbrev aC.S.agg (x:aC.S):Value:=.agg #[.int .u64 x.f0,.int .i64 x.f1,.bool x.f2,.int .u64 x.f3,.int .u64 x.f4,.string x.f5,.string x.f6,.bool x.f7,.int .u64 x.f8,.int .u64 x.f9,.string x.f10,.string x.f11,.bool x.f12,.int .u64 x.f13,.int .u64 x.f14,.string x.f15,.string x.f16,.int .u64 x.f17,.int .u64 x.f18,.int .u64 x.f19]
abbrev aC.S.z:aC.S:=⟨0,0,false,0,0,(⟨#[]⟩:ByteArray),(⟨#[]⟩:ByteArray),false,0,0,(⟨#[]⟩:ByteArray),(⟨#[]⟩:ByteArray),false,0,0,(⟨#[]⟩:ByteArray),(⟨#[]⟩:ByteArray),0,0,0⟩
abbrev aC.EX (K:aC.S->Prop):Prop:= ∃(t0:Int),∃(t1:Int),∃(t2:Bool),∃(t3:Int),∃(t4:Int),∃(t5:ByteArray),∃(t6:ByteArray),∃(t7:Bool),∃(t8:Int),∃(t9:Int),∃(t10:ByteArray),∃(t11:ByteArray),∃(t12:Bool),∃(t13:Int),∃(t14:Int),∃(t15:ByteArray),∃(t16:ByteArray),∃(t17:Int),∃(t18:Int),∃(t19:Int),K ⟨t0,t1,t2,t3,t4,t5,t6,t7,t8,t9,t10,t11,t12,t13,t14,t15,t16,t17,t18,t19⟩
abbrev aC.dh (h:aj) (a:Addr) (K:aC.S->Prop):Prop:= ∃(t0:Int),ak h a=some (.int .u64 t0)/\∃(t1:Int),ak h (a.add 1)=some (.int .i64 t1)/\∃(t2:Bool),ak h (a.add 2)=some (.bool t2)/\∃(t3:Int),ak h (a.add 3)=some (.int .u64 t3)/\∃(t4:Int),ak h (a.add 4)=some (.int .u64 t4)/\∃(t5:ByteArray),ak h (a.add 5)=some (.string t5)/\∃(t6:ByteArray),ak h (a.add 6)=some (.string t6)/\∃(t7:Bool),ak h (a.add 7)=some (.bool t7)/\∃(t8:Int),ak h (a.add 8)=some (.int .u64 t8)/\∃(t9:Int),ak h (a.add 9)=some (.int .u64 t9)/\∃(t10:ByteArray),ak h (a.add 10)=some (.string t10)/\∃(t11:ByteArray),ak h (a.add 11)=some (.string t11)/\∃(t12:Bool),ak h (a.add 12)=some (.bool t12)/\∃(t13:Int),ak h (a.add 13)=some (.int .u64 t13)/\∃(t14:Int),ak h (a.add 14)=some (.int .u64 t14)/\∃(t15:ByteArray),ak h (a.add 15)=some (.string t15)/\∃(t16:ByteArray),ak h (a.add 16)=some (.string t16)/\∃(t17:Int),ak h (a.add 17)=some (.int .u64 t17)/\∃(t18:Int),ak h (a.add 18)=some (.int .u64 t18)/\∃(t19:Int),ak h (a.add 19)=some (.int .u64 t19)/\K ⟨t0,t1,t2,t3,t4,t5,t6,t7,t8,t9,t10,t11,t12,t13,t14,t15,t16,t17,t18,t19⟩
abbrev aC.dW (h:aj) (a:Addr) (x:aC.S) (K:aj->Prop):Prop:=aH h a (.int .u64 x.f0) λaR=>aH aR (a.add 1) (.int .i64 x.f1) λaZ=>aH aZ (a.add 2) (.bool x.f2) λbK=>aH bK (a.add 3) (.int .u64 x.f3) λcC=>aH cC (a.add 4) (.int .u64 x.f4) λcK=>aH cK (a.add 5) (.string x.f5) λcR=>aH cR (a.add 6) (.string x.f6) λcX=>aH cX (a.add 7) (.bool x.f7) λdB=>aH dB (a.add 8) (.int .u64 x.f8) λff=>aH ff (a.add 9) (.int .u64 x.f9) λcQ=>aH cQ (a.add 10) (.string x.f10) λcW=>aH cW (a.add 11) (.string x.f11) λdE=>aH dE (a.add 12) (.bool x.f12) λdG=>aH dG (a.add 13) (.int .u64 x.f13) λfD=>aH fD (a.add 14) (.int .u64 x.f14) λgE=>aH gE (a.add 15) (.string x.f15) λgX=>aH gX (a.add 16) (.string x.f16) λgR=>aH gR (a.add 17) (.int .u64 x.f17) λfi=>aH fi (a.add 18) (.int .u64 x.f18) λjn=>aH jn (a.add 19) (.int .u64 x.f19) λju=>K ju
structure aq.S where
 f0:Int
 f1:Int
 f2:Int
 f3:Int
 f4:Int
 DU:bV
 f5l:Nat
 DV:Nat
abbrev aq.S.l (x:aq.S):List Value:= [.int .u64 x.f0,.int .i64 x.f1,.int .i64 x.f2,.int .i64 x.f3,.int .u64 x.f4,.slice x.DU x.f5l x.DV]
abbrev aq.S.arr (x:aq.S):Array Value:= #[.int .u64 x.f0,.int .i64 x.f1,.int .i64 x.f2,.int .i64 x.f3,.int .u64 x.f4,.slice x.DU x.f5l x.DV]
abbrev aq.S.agg (x:aq.S):Value:=.agg #[.int .u64 x.f0,.int .i64 x.f1,.int .i64 x.f2,.int .i64 x.f3,.int .u64 x.f4,.slice x.DU x.f5l x.DV]
abbrev aq.S.z:aq.S:=⟨0,0,0,0,0,none,0,0⟩
abbrev aq.EX (K:aq.S->Prop):Prop:= ∃(t0:Int),∃(t1:Int),∃(t2:Int),∃(t3:Int),∃(t4:Int),∃(t5p:bV) (t5l t5c:Nat),K ⟨t0,t1,t2,t3,t4,t5p,t5l,t5c⟩
abbrev aq.dh (h:aj) (a:Addr) (K:aq.S->Prop):Prop:= ∃(t0:Int),ak h a=some (.int .u64 t0)/\∃(t1:Int),ak h (a.add 1)=some (.int .i64 t1)/\∃(t2:Int),ak h (a.add 2)=some (.int .i64 t2)/\∃(t3:Int),ak h (a.add 3)=some (.int .i64 t3)/\∃(t4:Int),ak h (a.add 4)=some (.int .u64 t4)/\∃(t5p:bV) (t5l t5c:Nat),ak h (a.add 5)=some (.slice t5p t5l t5c)/\K ⟨t0,t1,t2,t3,t4,t5p,t5l,t5c⟩
abbrev aq.dW (h:aj) (a:Addr) (x:aq.S) (K:aj->Prop):Prop:=aH h a (.int .u64 x.f0) λaR=>aH aR (a.add 1) (.int .i64 x.f1) λaZ=>aH aZ (a.add 2) (.int .i64 x.f2) λbK=>aH bK (a.add 3) (.int .i64 x.f3) λcC=>aH cC (a.add 4) (.int .u64 x.f4) λcK=>aH cK (a.add 5) (.slice x.DU x.f5l x.DV) λcR=>K cR
structure bX.S where
 f0:Bool
 f1:Bool
 f2:Bool
 f3:Int
 f4:Int
 f5:Bool
 f6:Int
 f7:Int
 f8:ByteArray
 f9:ByteArray
 f10:Int
 f11:Int
abbrev bX.S.l (x:bX.S):List Value:= [.bool x.f0,.bool x.f1,.bool x.f2,.int .u64 x.f3,.int .u64 x.f4,.bool x.f5,.int .u64 x.f6,.int .u64 x.f7,.string x.f8,.string x.f9,.int .u64 x.f10,.int .u64 x.f11]
abbrev bX.S.arr (x:bX.S):Array Value:= #[.bool x.f0,.bool x.f1,.bool x.f2,.int .u64 x.f3,.int .u64 x.f4,.bool x.f5,.int .u64 x.f6,.int .u64 x.f7,.string x.f8,.string x.f9,.int .u64 x.f10,.int .u64 x.f11]
abbrev bX.S.agg (x:bX.S):Value:=.agg #[.bool x.f0,.bool x.f1,.bool x.f2,.int .u64 x.f3,.int .u64 x.f4,.bool x.f5,.int .u64 x.f6,.int .u64 x.f7,.string x.f8,.string x.f9,.int .u64 x.f10,.int .u64 x.f11]
abbrev bX.S.z:bX.S:=⟨false,false,false,0,0,false,0,0,(⟨#[]⟩:ByteArray),(⟨#[]⟩:ByteArray),0,0⟩
abbrev bX.EX (K:bX.S->Prop):Prop:= ∃(t0:Bool),∃(t1:Bool),∃(t2:Bool),∃(t3:Int),∃(t4:Int),∃(t5:Bool),∃(t6:Int),∃(t7:Int),∃(t8:ByteArray),∃(t9:ByteArray),∃(t10:Int),∃(t11:Int),K ⟨t0,t1,t2,t3,t4,t5,t6,t7,t8,t9,t10,t11⟩
abbrev bX.dh (h:aj) (a:Addr) (K:bX.S->Prop):Prop:= ∃(t0:Bool),ak h a=some (.bool t0)/\∃(t1:Bool),ak h (a.add 1)=some (.bool t1)/\∃(t2:Bool),ak h (a.add 2)=some (.bool t2)/\∃(t3:Int),ak h (a.add 3)=some (.int .u64 t3)/\∃(t4:Int),ak h (a.add 4)=some (.int .u64 t4)/\∃(t5:Bool),ak h (a.add 5)=some (.bool t5)/\∃(t6:Int),ak h (a.add 6)=some (.int .u64 t6)/\∃(t7:Int),ak h (a.add 7)=some (.int .u64 t7)/\∃(t8:ByteArray),ak h (a.add 8)=some (.string t8)/\∃(t9:ByteArray),ak h (a.add 9)=some (.string t9)/\∃(t10:Int),ak h (a.add 10)=some (.int .u64 t10)/\∃(t11:Int),ak h (a.add 11)=some (.int .u64 t11)/\K ⟨t0,t1,t2,t3,t4,t5,t6,t7,t8,t9,t10,t11⟩
structure aD.S where
 f0:Int
 f1:Int
 f2:Bool
 f3:Int
 f4:Int
 f5:ByteArray
 f6:ByteArray
 f7:Bool
 f8:Int
 f9:Int
 f10:ByteArray
 f11:ByteArray
 f12:Int
 f13:Int
 f14:Int
 OZ:bV
 Mc:Nat
 O0:Nat
 f16:Int
 f17:Int
 f18:Bool
abbrev aD.S.l (x:aD.S):List Value:= [.int .u64 x.f0,.int .i64 x.f1,.bool x.f2,.int .u64 x.f3,.int .u64 x.f4,.string x.f5,.string x.f6,.bool x.f7,.int .u64 x.f8,.int .u64 x.f9,.string x.f10,.string x.f11,.int .i64 x.f12,.int .i64 x.f13,.int .i64 x.f14,.slice x.OZ x.Mc x.O0,.int .u64 x.f16,.int .u64 x.f17,.bool x.f18]
abbrev aD.S.arr (x:aD.S):Array Value:= #[.int .u64 x.f0,.int .i64 x.f1,.bool x.f2,.int .u64 x.f3,.int .u64 x.f4,.string x.f5,.string x.f6,.bool x.f7,.int .u64 x.f8,.int .u64 x.f9,.string x.f10,.string x.f11,.int .i64 x.f12,.int .i64 x.f13,.int .i64 x.f14,.slice x.OZ x.Mc x.O0,.int .u64 x.f16,.int .u64 x.f17,.bool x.f18]
abbrev aD.S.agg (x:aD.S):Value:=.agg #[.int .u64 x.f0,.int .i64 x.f1,.bool x.f2,.int .u64 x.f3,.int .u64 x.f4,.string x.f5,.string x.f6,.bool x.f7,.int .u64 x.f8,.int .u64 x.f9,.string x.f10,.string x.f11,.int .i64 x.f12,.int .i64 x.f13,.int .i64 x.f14,.slice x.OZ x.Mc x.O0,.int .u64 x.f16,.int .u64 x.f17,.bool x.f18]
abbrev aD.S.z:aD.S:=⟨0,0,false,0,0,(⟨#[]⟩:ByteArray),(⟨#[]⟩:ByteArray),false,0,0,(⟨#[]⟩:ByteArray),(⟨#[]⟩:ByteArray),0,0,0,none,0,0,0,0,false⟩
abbrev aD.EX (K:aD.S->Prop):Prop:= ∃(t0:Int),∃(t1:Int),∃(t2:Bool),∃(t3:Int),∃(t4:Int),∃(t5:ByteArray),∃(t6:ByteArray),∃(t7:Bool),∃(t8:Int),∃(t9:Int),∃(t10:ByteArray),∃(t11:ByteArray),∃(t12:Int),∃(t13:Int),∃(t14:Int),∃(O2:bV) (O3 O4:Nat),∃(t16:Int),∃(t17:Int),∃(t18:Bool),K ⟨t0,t1,t2,t3,t4,t5,t6,t7,t8,t9,t10,t11,t12,t13,t14,O2,O3,O4,t16,t17,t18⟩
abbrev aD.dh (h:aj) (a:Addr) (K:aD.S->Prop):Prop:= ∃(t0:Int),ak h a=some (.int .u64 t0)/\∃(t1:Int),ak h (a.add 1)=some (.int .i64 t1)/\∃(t2:Bool),ak h (a.add 2)=some (.bool t2)/\∃(t3:Int),ak h (a.add 3)=some (.int .u64 t3)/\∃(t4:Int),ak h (a.add 4)=some (.int .u64 t4)/\∃(t5:ByteArray),ak h (a.add 5)=some (.string t5)/\∃(t6:ByteArray),ak h (a.add 6)=some (.string t6)/\∃(t7:Bool),ak h (a.add 7)=some (.bool t7)/\∃(t8:Int),ak h (a.add 8)=some (.int .u64 t8)/\∃(t9:Int),ak h (a.add 9)=some (.int .u64 t9)/\∃(t10:ByteArray),ak h (a.add 10)=some (.string t10)/\∃(t11:ByteArray),ak h (a.add 11)=some (.string t11)/\∃(t12:Int),ak h (a.add 12)=some (.int .i64 t12)/\∃(t13:Int),ak h (a.add 13)=some (.int .i64 t13)/\∃(t14:Int),ak h (a.add 14)=some (.int .i64 t14)/\∃(O2:bV) (O3 O4:Nat),ak h (a.add 15)=some (.slice O2 O3 O4)/\∃(t16:Int),ak h (a.add 16)=some (.int .u64 t16)/\∃(t17:Int),ak h (a.add 17)=some (.int .u64 t17)/\∃(t18:Bool),ak h (a.add 18)=some (.bool t18)/\K ⟨t0,t1,t2,t3,t4,t5,t6,t7,t8,t9,t10,t11,t12,t13,t14,O2,O3,O4,t16,t17,t18⟩
abbrev aD.dW (h:aj) (a:Addr) (x:aD.S) (K:aj->Prop):Prop:=aH h a (.int .u64 x.f0) λaR=>aH aR (a.add 1) (.int .i64 x.f1) λaZ=>aH aZ (a.add 2) (.bool x.f2) λbK=>aH bK (a.add 3) (.int .u64 x.f3) λcC=>aH cC (a.add 4) (.int .u64 x.f4) λcK=>aH cK (a.add 5) (.string x.f5) λcR=>aH cR (a.add 6) (.string x.f6) λcX=>aH cX (a.add 7) (.bool x.f7) λdB=>aH dB (a.add 8) (.int .u64 x.f8) λff=>aH ff (a.add 9) (.int .u64 x.f9) λcQ=>aH cQ (a.add 10) (.string x.f10) λcW=>aH cW (a.add 11) (.string x.f11) λdE=>aH dE (a.add 12) (.int .i64 x.f12) λdG=>aH dG (a.add 13) (.int .i64 x.f13) λfD=>aH fD (a.add 14) (.int .i64 x.f14) λgE=>aH gE (a.add 15) (.slice x.OZ x.Mc x.O0) λgX=>aH gX (a.add 16) (.int .u64 x.f16) λgR=>aH gR (a.add 17) (.int .u64 x.f17) λfi=>aH fi (a.add 18) (.bool x.f18) λjn=>K jn
section
variable {h:aj} {R:iI}
def aa.at (h:aj) (b:Nat) (f0:Int) (f1:Int) (tY:bV) (tT tZ:Nat) (BO:bV) (xP Ay:Nat):Prop:=h[b]? =some (.cells #[.int .i64 f0,.int .u64 f1,.slice tY tT tZ,.slice BO xP Ay] T.aa (0,0))
theorem aa.ld {h:aj} {b:Nat} {f0:Int} {f1:Int} {tY:bV} {tT tZ:Nat} {BO:bV} {xP Ay:Nat} {K:Int->Int->bV->Nat->Nat->bV->Nat->Nat->Prop} (hb:aa.at h b f0 f1 tY tT tZ BO xP Ay) (hk:K f0 f1 tY tT tZ BO xP Ay):aa.LD h (AA b 0) K:=
 ⟨_,af hb rfl,_,af hb rfl,_,_,_,af hb rfl,_,_,_,af hb rfl,hk⟩
theorem aa.TL {h:aj} {a:Addr} {f0:Int} {f1:Int} {tY:bV} {tT tZ:Nat} {BO:bV} {xP Ay:Nat} {K:Int->Int->bV->Nat->Nat->bV->Nat->Nat->Prop} (hb:fF a [.I f0,.U f1,.slice tY tT tZ,.slice BO xP Ay] 0 h) (hk:K f0 f1 tY tT tZ BO xP Ay):aa.LD h a K:=by
 obtain⟨q0,q1,q2,q3,_⟩:=hb;rw[jz] at q0;exact⟨_,q0,_,q1,_,_,_,q2,_,_,_,q3,hk⟩
theorem aa.held {h:aj} {b:Nat} {f0:Int} {f1:Int} {tY:bV} {tT tZ:Nat} {BO:bV} {xP Ay:Nat} (hb:aa.at h b f0 f1 tY tT tZ BO xP Ay):fF (AA b 0) [.I f0,.U f1,.slice tY tT tZ,.slice BO xP Ay] 0 h:=
 lS hb (λj v hj=>by rw[cf];simpa using hj)
theorem aa.DI {h:aj} {a:Addr} {f0:Int} {f1:Int} {tY:bV} {tT tZ:Nat} {BO:bV} {xP Ay:Nat} {K:aj->Prop} (hk:gY a [.I f0,.U f1,.slice tY tT tZ,.slice BO xP Ay] 0 h K):aa.ST h a f0 f1 tY tT tZ BO xP Ay K:=hk
theorem aa.new {h:aj} {f0:Int} {f1:Int} {tY:bV} {tT tZ:Nat} {BO:bV} {xP Ay:Nat} {K:Nat->aj->Prop} (hk: ∀b h',b=h.size->aa.at h' b f0 f1 tY tT tZ BO xP Ay->Fr No h h'->K b h'):aV h (.cells #[.I 0,.U 0,.Z,.Z] T.aa) λb mP=>aa.ST mP (AA b 0) f0 f1 tY tT tZ BO xP Ay (K b):=
 kW (vs:= [.I f0,.U f1,.slice tY tT tZ,.slice BO xP Ay]) rfl rfl hk
theorem aa.box {h:aj} {f0:Int} {f1:Int} {tY:bV} {tT tZ:Nat} {BO:bV} {xP Ay:Nat} {K:Nat->aj->Prop} (hk: ∀b h',b=h.size->aa.at h' b f0 f1 tY tT tZ BO xP Ay->Fr No h h'->K b h'):aV h (.cells #[.I f0,.U f1,.slice tY tT tZ,.slice BO xP Ay] T.aa) λb mP=>K b mP:=
 cY (hk _ _ rfl cA (Fr.push _ _))
theorem aa.set {h:aj} {b:Nat} {g0:Int} {g1:Int} {g2p:bV} {g2l g2c:Nat} {g3p:bV} {g3l g3c:Nat} {f0:Int} {f1:Int} {tY:bV} {tT tZ:Nat} {BO:bV} {xP Ay:Nat} {K:aj->Prop} (a0:aa.at h b g0 g1 g2p g2l g2c g3p g3l g3c) (hk: ∀h',aa.at h' b f0 f1 tY tT tZ BO xP Ay->h'.size=h.size->(∀x,x≠b->h'[x]? =h[x]?)->K h'):aa.ST h (AA b 0) f0 f1 tY tT tZ BO xP Ay K:=
 aa.DI (gG a0 rfl rfl hk)
def bg.at (h:aj) (b:Nat) (f0:Int) (f1:Int) (f2:Bool):Prop:=h[b]? =some (.cells #[.int .i64 f0,.int .u64 f1,.bool f2] T.bg (0,0))
theorem bg.ld {h:aj} {b:Nat} {f0:Int} {f1:Int} {f2:Bool} {K:Int->Int->Bool->Prop} (hb:bg.at h b f0 f1 f2) (hk:K f0 f1 f2):bg.LD h (AA b 0) K:=
 ⟨_,af hb rfl,_,af hb rfl,_,af hb rfl,hk⟩
theorem bg.DI {h:aj} {a:Addr} {f0:Int} {f1:Int} {f2:Bool} {K:aj->Prop} (hk:gY a [.I f0,.U f1,.bool f2] 0 h K):bg.ST h a f0 f1 f2 K:=hk
theorem bg.new {h:aj} {f0:Int} {f1:Int} {f2:Bool} {K:Nat->aj->Prop} (hk: ∀b h',b=h.size->bg.at h' b f0 f1 f2->Fr No h h'->K b h'):aV h (.cells #[.I 0,.U 0,.bool false] T.bg) λb mP=>bg.ST mP (AA b 0) f0 f1 f2 (K b):=
 kW (vs:= [.I f0,.U f1,.bool f2]) rfl rfl hk
theorem bg.box {h:aj} {f0:Int} {f1:Int} {f2:Bool} {K:Nat->aj->Prop} (hk: ∀b h',b=h.size->bg.at h' b f0 f1 f2->Fr No h h'->K b h'):aV h (.cells #[.I f0,.U f1,.bool f2] T.bg) λb mP=>K b mP:=
 cY (hk _ _ rfl cA (Fr.push _ _))
theorem bg.set {h:aj} {b:Nat} {g0:Int} {g1:Int} {g2:Bool} {f0:Int} {f1:Int} {f2:Bool} {K:aj->Prop} (a0:bg.at h b g0 g1 g2) (hk: ∀h',bg.at h' b f0 f1 f2->h'.size=h.size->(∀x,x≠b->h'[x]? =h[x]?)->K h'):bg.ST h (AA b 0) f0 f1 f2 K:=
 bg.DI (gG a0 rfl rfl hk)
def ah.at (h:aj) (b:Nat) (f0:Bool) (f1:Int) (f2:Int) (f3:ByteArray) (f4:ByteArray) (f5:Int) (f6:Int):Prop:=h[b]? =some (.cells #[.bool f0,.int .u64 f1,.int .u64 f2,.string f3,.string f4,.int .u64 f5,.int .u64 f6] T.ah (0,0))
theorem ah.ld {h:aj} {b:Nat} {f0:Bool} {f1:Int} {f2:Int} {f3:ByteArray} {f4:ByteArray} {f5:Int} {f6:Int} {K:Bool->Int->Int->ByteArray->ByteArray->Int->Int->Prop} (hb:ah.at h b f0 f1 f2 f3 f4 f5 f6) (hk:K f0 f1 f2 f3 f4 f5 f6):ah.LD h (AA b 0) K:=
 ⟨_,af hb rfl,_,af hb rfl,_,af hb rfl,_,af hb rfl,_,af hb rfl,_,af hb rfl,_,af hb rfl,hk⟩
theorem ah.DI {h:aj} {a:Addr} {f0:Bool} {f1:Int} {f2:Int} {f3:ByteArray} {f4:ByteArray} {f5:Int} {f6:Int} {K:aj->Prop} (hk:gY a [.bool f0,.U f1,.U f2,.string f3,.string f4,.U f5,.U f6] 0 h K):ah.ST h a f0 f1 f2 f3 f4 f5 f6 K:=hk
theorem ah.box {h:aj} {f0:Bool} {f1:Int} {f2:Int} {f3:ByteArray} {f4:ByteArray} {f5:Int} {f6:Int} {K:Nat->aj->Prop} (hk: ∀b h',b=h.size->ah.at h' b f0 f1 f2 f3 f4 f5 f6->Fr No h h'->K b h'):aV h (.cells #[.bool f0,.U f1,.U f2,.string f3,.string f4,.U f5,.U f6] T.ah) λb mP=>K b mP:=
 cY (hk _ _ rfl cA (Fr.push _ _))
theorem ah.set {h:aj} {b:Nat} {g0:Bool} {g1:Int} {g2:Int} {g3:ByteArray} {g4:ByteArray} {g5:Int} {g6:Int} {f0:Bool} {f1:Int} {f2:Int} {f3:ByteArray} {f4:ByteArray} {f5:Int} {f6:Int} {K:aj->Prop} (a0:ah.at h b g0 g1 g2 g3 g4 g5 g6) (hk: ∀h',ah.at h' b f0 f1 f2 f3 f4 f5 f6->h'.size=h.size->(∀x,x≠b->h'[x]? =h[x]?)->K h'):ah.ST h (AA b 0) f0 f1 f2 f3 f4 f5 f6 K:=
 ah.DI (gG a0 rfl rfl hk)
def aM.at (h:aj) (b:Nat) (f0:Int) (f1:Int) (tY:bV) (tT tZ:Nat) (f3:Int):Prop:=h[b]? =some (.cells #[.int .i64 f0,.int .i64 f1,.slice tY tT tZ,.int .u64 f3] T.aM (0,0))
theorem aM.ld {h:aj} {b:Nat} {f0:Int} {f1:Int} {tY:bV} {tT tZ:Nat} {f3:Int} {K:Int->Int->bV->Nat->Nat->Int->Prop} (hb:aM.at h b f0 f1 tY tT tZ f3) (hk:K f0 f1 tY tT tZ f3):aM.LD h (AA b 0) K:=
 ⟨_,af hb rfl,_,af hb rfl,_,_,_,af hb rfl,_,af hb rfl,hk⟩
theorem aM.TL {h:aj} {a:Addr} {f0:Int} {f1:Int} {tY:bV} {tT tZ:Nat} {f3:Int} {K:Int->Int->bV->Nat->Nat->Int->Prop} (hb:fF a [.I f0,.I f1,.slice tY tT tZ,.U f3] 0 h) (hk:K f0 f1 tY tT tZ f3):aM.LD h a K:=by
 obtain⟨q0,q1,q2,q3,_⟩:=hb;rw[jz] at q0;exact⟨_,q0,_,q1,_,_,_,q2,_,q3,hk⟩
theorem aM.DI {h:aj} {a:Addr} {f0:Int} {f1:Int} {tY:bV} {tT tZ:Nat} {f3:Int} {K:aj->Prop} (hk:gY a [.I f0,.I f1,.slice tY tT tZ,.U f3] 0 h K):aM.ST h a f0 f1 tY tT tZ f3 K:=hk
theorem aM.new {h:aj} {f0:Int} {f1:Int} {tY:bV} {tT tZ:Nat} {f3:Int} {K:Nat->aj->Prop} (hk: ∀b h',b=h.size->aM.at h' b f0 f1 tY tT tZ f3->Fr No h h'->K b h'):aV h (.cells #[.I 0,.I 0,.Z,.U 0] T.aM) λb mP=>aM.ST mP (AA b 0) f0 f1 tY tT tZ f3 (K b):=
 kW (vs:= [.I f0,.I f1,.slice tY tT tZ,.U f3]) rfl rfl hk
theorem aM.box {h:aj} {f0:Int} {f1:Int} {tY:bV} {tT tZ:Nat} {f3:Int} {K:Nat->aj->Prop} (hk: ∀b h',b=h.size->aM.at h' b f0 f1 tY tT tZ f3->Fr No h h'->K b h'):aV h (.cells #[.I f0,.I f1,.slice tY tT tZ,.U f3] T.aM) λb mP=>K b mP:=
 cY (hk _ _ rfl cA (Fr.push _ _))
theorem aM.set {h:aj} {b:Nat} {g0:Int} {g1:Int} {g2p:bV} {g2l g2c:Nat} {g3:Int} {f0:Int} {f1:Int} {tY:bV} {tT tZ:Nat} {f3:Int} {K:aj->Prop} (a0:aM.at h b g0 g1 g2p g2l g2c g3) (hk: ∀h',aM.at h' b f0 f1 tY tT tZ f3->h'.size=h.size->(∀x,x≠b->h'[x]? =h[x]?)->K h'):aM.ST h (AA b 0) f0 f1 tY tT tZ f3 K:=
 aM.DI (gG a0 rfl rfl hk)
def bG.at (h:aj) (b:Nat) (f0:Int) (TI:bV) (TJ TK:Nat):Prop:=h[b]? =some (.cells #[.int .u64 f0,.slice TI TJ TK] T.bG (0,0))
theorem bG.ld {h:aj} {b:Nat} {f0:Int} {TI:bV} {TJ TK:Nat} {K:Int->bV->Nat->Nat->Prop} (hb:bG.at h b f0 TI TJ TK) (hk:K f0 TI TJ TK):bG.LD h (AA b 0) K:=
 ⟨_,af hb rfl,_,_,_,af hb rfl,hk⟩
theorem bG.TL {h:aj} {a:Addr} {f0:Int} {TI:bV} {TJ TK:Nat} {K:Int->bV->Nat->Nat->Prop} (hb:fF a [.U f0,.slice TI TJ TK] 0 h) (hk:K f0 TI TJ TK):bG.LD h a K:=by
 obtain⟨q0,q1,_⟩:=hb;rw[jz] at q0;exact⟨_,q0,_,_,_,q1,hk⟩
theorem bG.new {h:aj} {f0:Int} {TI:bV} {TJ TK:Nat} {K:Nat->aj->Prop} (hk: ∀b h',b=h.size->bG.at h' b f0 TI TJ TK->Fr No h h'->K b h'):aV h (.cells #[.U 0,.Z] T.bG) λb mP=>bG.ST mP (AA b 0) f0 TI TJ TK (K b):=
 kW (vs:= [.U f0,.slice TI TJ TK]) rfl rfl hk
theorem bG.box {h:aj} {f0:Int} {TI:bV} {TJ TK:Nat} {K:Nat->aj->Prop} (hk: ∀b h',b=h.size->bG.at h' b f0 TI TJ TK->Fr No h h'->K b h'):aV h (.cells #[.U f0,.slice TI TJ TK] T.bG) λb mP=>K b mP:=
 cY (hk _ _ rfl cA (Fr.push _ _))
def ij.at (h:aj) (b:Nat) (f0:Int) (f1:Int) (f2:Bool) (f3:Bool) (f4p:bV) (f4l f4c:Nat) (DU:bV) (f5l DV:Nat):Prop:=h[b]? =some (.cells #[.int .i64 f0,.int .u64 f1,.bool f2,.bool f3,.slice f4p f4l f4c,.slice DU f5l DV] T.ij (0,0))
theorem ij.box {h:aj} {f0:Int} {f1:Int} {f2:Bool} {f3:Bool} {f4p:bV} {f4l f4c:Nat} {DU:bV} {f5l DV:Nat} {K:Nat->aj->Prop} (hk: ∀b h',b=h.size->ij.at h' b f0 f1 f2 f3 f4p f4l f4c DU f5l DV->Fr No h h'->K b h'):aV h (.cells #[.I f0,.U f1,.bool f2,.bool f3,.slice f4p f4l f4c,.slice DU f5l DV] T.ij) λb mP=>K b mP:=
 cY (hk _ _ rfl cA (Fr.push _ _))
def az.at (h:aj) (b:Nat) (f0:Bool) (f1:Int) (f2:Int) (f3:ByteArray) (f4:ByteArray):Prop:=h[b]? =some (.cells #[.bool f0,.int .u64 f1,.int .u64 f2,.string f3,.string f4] T.az (0,0))
theorem az.ld {h:aj} {b:Nat} {f0:Bool} {f1:Int} {f2:Int} {f3:ByteArray} {f4:ByteArray} {K:Bool->Int->Int->ByteArray->ByteArray->Prop} (hb:az.at h b f0 f1 f2 f3 f4) (hk:K f0 f1 f2 f3 f4):az.LD h (AA b 0) K:=
 ⟨_,af hb rfl,_,af hb rfl,_,af hb rfl,_,af hb rfl,_,af hb rfl,hk⟩
theorem az.held {h:aj} {b:Nat} {f0:Bool} {f1:Int} {f2:Int} {f3:ByteArray} {f4:ByteArray} (hb:az.at h b f0 f1 f2 f3 f4):fF (AA b 0) [.bool f0,.U f1,.U f2,.string f3,.string f4] 0 h:=
 lS hb (λj v hj=>by rw[cf];simpa using hj)
theorem az.box {h:aj} {f0:Bool} {f1:Int} {f2:Int} {f3:ByteArray} {f4:ByteArray} {K:Nat->aj->Prop} (hk: ∀b h',b=h.size->az.at h' b f0 f1 f2 f3 f4->Fr No h h'->K b h'):aV h (.cells #[.bool f0,.U f1,.U f2,.string f3,.string f4] T.az) λb mP=>K b mP:=
 cY (hk _ _ rfl cA (Fr.push _ _))
def bJ.at (h:aj) (b:Nat) (f0:Bool) (f1:Int) (f2:Int) (f3:ByteArray) (f4:ByteArray) (f5:Int) (f6:Int):Prop:=h[b]? =some (.cells #[.bool f0,.int .u64 f1,.int .u64 f2,.string f3,.string f4,.int .i64 f5,.int .i64 f6] T.bJ (0,0))
theorem bJ.ld {h:aj} {b:Nat} {f0:Bool} {f1:Int} {f2:Int} {f3:ByteArray} {f4:ByteArray} {f5:Int} {f6:Int} {K:Bool->Int->Int->ByteArray->ByteArray->Int->Int->Prop} (hb:bJ.at h b f0 f1 f2 f3 f4 f5 f6) (hk:K f0 f1 f2 f3 f4 f5 f6):bJ.LD h (AA b 0) K:=
 ⟨_,af hb rfl,_,af hb rfl,_,af hb rfl,_,af hb rfl,_,af hb rfl,_,af hb rfl,_,af hb rfl,hk⟩
theorem bJ.DI {h:aj} {a:Addr} {f0:Bool} {f1:Int} {f2:Int} {f3:ByteArray} {f4:ByteArray} {f5:Int} {f6:Int} {K:aj->Prop} (hk:gY a [.bool f0,.U f1,.U f2,.string f3,.string f4,.I f5,.I f6] 0 h K):bJ.ST h a f0 f1 f2 f3 f4 f5 f6 K:=hk
theorem bJ.new {h:aj} {f0:Bool} {f1:Int} {f2:Int} {f3:ByteArray} {f4:ByteArray} {f5:Int} {f6:Int} {K:Nat->aj->Prop} (hk: ∀b h',b=h.size->bJ.at h' b f0 f1 f2 f3 f4 f5 f6->Fr No h h'->K b h'):aV h (.cells #[.bool false,.U 0,.U 0,.string ka,.string ka,.I 0,.I 0] T.bJ) λb mP=>bJ.ST mP (AA b 0) f0 f1 f2 f3 f4 f5 f6 (K b):=
 kW (vs:= [.bool f0,.U f1,.U f2,.string f3,.string f4,.I f5,.I f6]) rfl rfl hk
theorem bJ.box {h:aj} {f0:Bool} {f1:Int} {f2:Int} {f3:ByteArray} {f4:ByteArray} {f5:Int} {f6:Int} {K:Nat->aj->Prop} (hk: ∀b h',b=h.size->bJ.at h' b f0 f1 f2 f3 f4 f5 f6->Fr No h h'->K b h'):aV h (.cells #[.bool f0,.U f1,.U f2,.string f3,.string f4,.I f5,.I f6] T.bJ) λb mP=>K b mP:=
 cY (hk _ _ rfl cA (Fr.push _ _))
theorem bJ.set {h:aj} {b:Nat} {g0:Bool} {g1:Int} {g2:Int} {g3:ByteArray} {g4:ByteArray} {g5:Int} {g6:Int} {f0:Bool} {f1:Int} {f2:Int} {f3:ByteArray} {f4:ByteArray} {f5:Int} {f6:Int} {K:aj->Prop} (a0:bJ.at h b g0 g1 g2 g3 g4 g5 g6) (hk: ∀h',bJ.at h' b f0 f1 f2 f3 f4 f5 f6->h'.size=h.size->(∀x,x≠b->h'[x]? =h[x]?)->K h'):bJ.ST h (AA b 0) f0 f1 f2 f3 f4 f5 f6 K:=
 bJ.DI (gG a0 rfl rfl hk)
def aJ.at (h:aj) (b:Nat) (f0:Int) (f1:Bool) (f2:Int) (f3:Int) (f4:ByteArray) (f5:ByteArray) (IB:bV) (IC ID:Nat) (f7:Int) (f8:Int) (f9:Int):Prop:=h[b]? =some (.cells #[.int .i64 f0,.bool f1,.int .u64 f2,.int .u64 f3,.string f4,.string f5,.slice IB IC ID,.int .u64 f7,.int .i64 f8,.int .u64 f9] T.aJ (0,0))
theorem aJ.ld {h:aj} {b:Nat} {f0:Int} {f1:Bool} {f2:Int} {f3:Int} {f4:ByteArray} {f5:ByteArray} {IB:bV} {IC ID:Nat} {f7:Int} {f8:Int} {f9:Int} {K:Int->Bool->Int->Int->ByteArray->ByteArray->bV->Nat->Nat->Int->Int->Int->Prop} (hb:aJ.at h b f0 f1 f2 f3 f4 f5 IB IC ID f7 f8 f9) (hk:K f0 f1 f2 f3 f4 f5 IB IC ID f7 f8 f9):aJ.LD h (AA b 0) K:=
 ⟨_,af hb rfl,_,af hb rfl,_,af hb rfl,_,af hb rfl,_,af hb rfl,_,af hb rfl,_,_,_,af hb rfl,_,af hb rfl,_,af hb rfl,_,af hb rfl,hk⟩
theorem aJ.DI {h:aj} {a:Addr} {f0:Int} {f1:Bool} {f2:Int} {f3:Int} {f4:ByteArray} {f5:ByteArray} {IB:bV} {IC ID:Nat} {f7:Int} {f8:Int} {f9:Int} {K:aj->Prop} (hk:gY a [.I f0,.bool f1,.U f2,.U f3,.string f4,.string f5,.slice IB IC ID,.U f7,.I f8,.U f9] 0 h K):aJ.ST h a f0 f1 f2 f3 f4 f5 IB IC ID f7 f8 f9 K:=hk
theorem aJ.new {h:aj} {f0:Int} {f1:Bool} {f2:Int} {f3:Int} {f4:ByteArray} {f5:ByteArray} {IB:bV} {IC ID:Nat} {f7:Int} {f8:Int} {f9:Int} {K:Nat->aj->Prop} (hk: ∀b h',b=h.size->aJ.at h' b f0 f1 f2 f3 f4 f5 IB IC ID f7 f8 f9->Fr No h h'->K b h'):aV h (.cells #[.I 0,.bool false,.U 0,.U 0,.string ka,.string ka,.Z,.U 0,.I 0,.U 0] T.aJ) λb mP=>aJ.ST mP (AA b 0) f0 f1 f2 f3 f4 f5 IB IC ID f7 f8 f9 (K b):=
 kW (vs:= [.I f0,.bool f1,.U f2,.U f3,.string f4,.string f5,.slice IB IC ID,.U f7,.I f8,.U f9]) rfl rfl hk
theorem aJ.box {h:aj} {f0:Int} {f1:Bool} {f2:Int} {f3:Int} {f4:ByteArray} {f5:ByteArray} {IB:bV} {IC ID:Nat} {f7:Int} {f8:Int} {f9:Int} {K:Nat->aj->Prop} (hk: ∀b h',b=h.size->aJ.at h' b f0 f1 f2 f3 f4 f5 IB IC ID f7 f8 f9->Fr No h h'->K b h'):aV h (.cells #[.I f0,.bool f1,.U f2,.U f3,.string f4,.string f5,.slice IB IC ID,.U f7,.I f8,.U f9] T.aJ) λb mP=>K b mP:=
 cY (hk _ _ rfl cA (Fr.push _ _))
theorem aJ.set {h:aj} {b:Nat} {g0:Int} {g1:Bool} {g2:Int} {g3:Int} {g4:ByteArray} {g5:ByteArray} {g6p:bV} {g6l g6c:Nat} {g7:Int} {g8:Int} {g9:Int} {f0:Int} {f1:Bool} {f2:Int} {f3:Int} {f4:ByteArray} {f5:ByteArray} {IB:bV} {IC ID:Nat} {f7:Int} {f8:Int} {f9:Int} {K:aj->Prop} (a0:aJ.at h b g0 g1 g2 g3 g4 g5 g6p g6l g6c g7 g8 g9) (hk: ∀h',aJ.at h' b f0 f1 f2 f3 f4 f5 IB IC ID f7 f8 f9->h'.size=h.size->(∀x,x≠b->h'[x]? =h[x]?)->K h'):aJ.ST h (AA b 0) f0 f1 f2 f3 f4 f5 IB IC ID f7 f8 f9 K:=
 aJ.DI (gG a0 rfl rfl hk)
def gF.at (h:aj) (b:Nat) (f0:Int) (f1:Int) (f2:Int) (f3:Int) (f4:Int) (f5:Int):Prop:=h[b]? =some (.cells #[.int .i64 f0,.int .i64 f1,.int .i64 f2,.int .i64 f3,.int .i64 f4,.int .i64 f5] T.gF (0,0))
theorem gF.ld {h:aj} {b:Nat} {f0:Int} {f1:Int} {f2:Int} {f3:Int} {f4:Int} {f5:Int} {K:Int->Int->Int->Int->Int->Int->Prop} (hb:gF.at h b f0 f1 f2 f3 f4 f5) (hk:K f0 f1 f2 f3 f4 f5):gF.LD h (AA b 0) K:=
 ⟨_,af hb rfl,_,af hb rfl,_,af hb rfl,_,af hb rfl,_,af hb rfl,_,af hb rfl,hk⟩
theorem gF.DI {h:aj} {a:Addr} {f0:Int} {f1:Int} {f2:Int} {f3:Int} {f4:Int} {f5:Int} {K:aj->Prop} (hk:gY a [.I f0,.I f1,.I f2,.I f3,.I f4,.I f5] 0 h K):gF.ST h a f0 f1 f2 f3 f4 f5 K:=hk
theorem gF.new {h:aj} {f0:Int} {f1:Int} {f2:Int} {f3:Int} {f4:Int} {f5:Int} {K:Nat->aj->Prop} (hk: ∀b h',b=h.size->gF.at h' b f0 f1 f2 f3 f4 f5->Fr No h h'->K b h'):aV h (.cells #[.I 0,.I 0,.I 0,.I 0,.I 0,.I 0] T.gF) λb mP=>gF.ST mP (AA b 0) f0 f1 f2 f3 f4 f5 (K b):=
 kW (vs:= [.I f0,.I f1,.I f2,.I f3,.I f4,.I f5]) rfl rfl hk
theorem gF.box {h:aj} {f0:Int} {f1:Int} {f2:Int} {f3:Int} {f4:Int} {f5:Int} {K:Nat->aj->Prop} (hk: ∀b h',b=h.size->gF.at h' b f0 f1 f2 f3 f4 f5->Fr No h h'->K b h'):aV h (.cells #[.I f0,.I f1,.I f2,.I f3,.I f4,.I f5] T.gF) λb mP=>K b mP:=
 cY (hk _ _ rfl cA (Fr.push _ _))
theorem gF.set {h:aj} {b:Nat} {g0:Int} {g1:Int} {g2:Int} {g3:Int} {g4:Int} {g5:Int} {f0:Int} {f1:Int} {f2:Int} {f3:Int} {f4:Int} {f5:Int} {K:aj->Prop} (a0:gF.at h b g0 g1 g2 g3 g4 g5) (hk: ∀h',gF.at h' b f0 f1 f2 f3 f4 f5->h'.size=h.size->(∀x,x≠b->h'[x]? =h[x]?)->K h'):gF.ST h (AA b 0) f0 f1 f2 f3 f4 f5 K:=
 gF.DI (gG a0 rfl rfl hk)
def aq.at (h:aj) (b:Nat) (f0:Int) (f1:Int) (f2:Int) (f3:Int) (f4:Int) (DU:bV) (f5l DV:Nat):Prop:=h[b]? =some (.cells #[.int .u64 f0,.int .i64 f1,.int .i64 f2,.int .i64 f3,.int .u64 f4,.slice DU f5l DV] T.aq (0,0))
theorem aq.ld {h:aj} {b:Nat} {f0:Int} {f1:Int} {f2:Int} {f3:Int} {f4:Int} {DU:bV} {f5l DV:Nat} {K:Int->Int->Int->Int->Int->bV->Nat->Nat->Prop} (hb:aq.at h b f0 f1 f2 f3 f4 DU f5l DV) (hk:K f0 f1 f2 f3 f4 DU f5l DV):aq.LD h (AA b 0) K:=
 ⟨_,af hb rfl,_,af hb rfl,_,af hb rfl,_,af hb rfl,_,af hb rfl,_,_,_,af hb rfl,hk⟩
theorem aq.held {h:aj} {b:Nat} {f0:Int} {f1:Int} {f2:Int} {f3:Int} {f4:Int} {DU:bV} {f5l DV:Nat} (hb:aq.at h b f0 f1 f2 f3 f4 DU f5l DV):fF (AA b 0) [.U f0,.I f1,.I f2,.I f3,.U f4,.slice DU f5l DV] 0 h:=
 lS hb (λj v hj=>by rw[cf];simpa using hj)
theorem aq.DI {h:aj} {a:Addr} {f0:Int} {f1:Int} {f2:Int} {f3:Int} {f4:Int} {DU:bV} {f5l DV:Nat} {K:aj->Prop} (hk:gY a [.U f0,.I f1,.I f2,.I f3,.U f4,.slice DU f5l DV] 0 h K):aq.ST h a f0 f1 f2 f3 f4 DU f5l DV K:=hk
theorem aq.new {h:aj} {f0:Int} {f1:Int} {f2:Int} {f3:Int} {f4:Int} {DU:bV} {f5l DV:Nat} {K:Nat->aj->Prop} (hk: ∀b h',b=h.size->aq.at h' b f0 f1 f2 f3 f4 DU f5l DV->Fr No h h'->K b h'):aV h (.cells #[.U 0,.I 0,.I 0,.I 0,.U 0,.Z] T.aq) λb mP=>aq.ST mP (AA b 0) f0 f1 f2 f3 f4 DU f5l DV (K b):=
 kW (vs:= [.U f0,.I f1,.I f2,.I f3,.U f4,.slice DU f5l DV]) rfl rfl hk
theorem aq.box {h:aj} {f0:Int} {f1:Int} {f2:Int} {f3:Int} {f4:Int} {DU:bV} {f5l DV:Nat} {K:Nat->aj->Prop} (hk: ∀b h',b=h.size->aq.at h' b f0 f1 f2 f3 f4 DU f5l DV->Fr No h h'->K b h'):aV h (.cells #[.U f0,.I f1,.I f2,.I f3,.U f4,.slice DU f5l DV] T.aq) λb mP=>K b mP:=
 cY (hk _ _ rfl cA (Fr.push _ _))
theorem aq.set {h:aj} {b:Nat} {g0:Int} {g1:Int} {g2:Int} {g3:Int} {g4:Int} {g5p:bV} {g5l g5c:Nat} {f0:Int} {f1:Int} {f2:Int} {f3:Int} {f4:Int} {DU:bV} {f5l DV:Nat} {K:aj->Prop} (a0:aq.at h b g0 g1 g2 g3 g4 g5p g5l g5c) (hk: ∀h',aq.at h' b f0 f1 f2 f3 f4 DU f5l DV->h'.size=h.size->(∀x,x≠b->h'[x]? =h[x]?)->K h'):aq.ST h (AA b 0) f0 f1 f2 f3 f4 DU f5l DV K:=
 aq.DI (gG a0 rfl rfl hk)
theorem pq.host.walk {s:ByteArray} (hv:aX Tryz.prog (Instr.range T.string (.string s)) h λv aR=> ∃(it:Nat),v=.P it 0/\∃(I:aj->Prop) (mu:aj->Nat),I aR/\∀(aZ:aj),I aZ->aX Tryz.prog (Instr.next (.P it 0) true T.J0) aZ λeK bK=>(eK=.tuple #[.bool false]/\R (.bool true) bK)\/(∃(ajI ab4:Value),eK=.tuple #[.bool true,ajI,ab4]/\∃t11,ab4=.int .i32 t11/\aK (λ(t34:Bool) (cC:aj)=>if t34 then R (.bool false) cC else(I cC/\mu cC<mu aZ)) (λJ=>if(decide (t11<97)) then if(decide (t11<48)) then if(t11 !=45) then J (t11 !=45) bK else J false bK else if(decide (t11>57)) then if(t11 !=45) then J (t11 !=45) bK else J false bK else J false bK else if(decide (t11>122)) then if(decide (t11<48)) then if(t11 !=45) then J (t11 !=45) bK else J false bK else if(decide (t11>57)) then if(t11 !=45) then J (t11 !=45) bK else J false bK else J false bK else J false bK))):Cl F.pq #[.string s,.int .i32 45] h R:=aS (lq (sq (lq (bq (.loop [] (lq (sq (cq lf lf) (bq (sq (.typed [(11,.one (.int .i32))]) (sq (.join [(34,.one (.bool))] lf) (cq ll lf))))))))) ll)) Tryz.func142 hv
theorem pq.aml.walk {s:ByteArray} (hv:aX Tryz.prog (Instr.range T.string (.string s)) h λv aR=> ∃(it:Nat),v=.P it 0/\∃(I:aj->Prop) (mu:aj->Nat),I aR/\∀(aZ:aj),I aZ->aX Tryz.prog (Instr.next (.P it 0) true T.J0) aZ λeK bK=>(eK=.tuple #[.bool false]/\R (.bool true) bK)\/(∃(ajI ab4:Value),eK=.tuple #[.bool true,ajI,ab4]/\∃t11,ab4=.int .i32 t11/\aK (λ(t34:Bool) (cC:aj)=>if t34 then R (.bool false) cC else(I cC/\mu cC<mu aZ)) (λJ=>if(decide (t11<97)) then if(decide (t11<48)) then if(t11 !=45) then J (t11 !=47) bK else J false bK else if(decide (t11>57)) then if(t11 !=45) then J (t11 !=47) bK else J false bK else J false bK else if(decide (t11>122)) then if(decide (t11<48)) then if(t11 !=45) then J (t11 !=47) bK else J false bK else if(decide (t11>57)) then if(t11 !=45) then J (t11 !=47) bK else J false bK else J false bK else J false bK))):Cl F.pq #[.string s,.int .i32 47] h R:=aS (lq (sq (lq (bq (.loop [] (lq (sq (cq lf lf) (bq (sq (.typed [(11,.one (.int .i32))]) (sq (.join [(34,.one (.bool))] lf) (cq ll lf))))))))) ll)) Tryz.func142 hv
theorem kF.walk {xa:Bool} {xc:Int} {x_2:Int} {Kb:ByteArray} {x_4:ByteArray} (hv:aV h (.cells #[.bool xa,.U xc,.U x_2,.string Kb,.string x_4] T.az) λb aR=>az.LD aR (AA b 0) λO5 O6 Uo Uq Ur=> ∃(eq:Bool),Hq Tryz.prog T.az (.agg #[.bool O5,.U O6,.U Uo,.string Uq,.string Ur]) (.agg #[.bool false,.U 0,.U 0,.string ka,.string ka]) eq/\if eq then R (.bool true) aR else∃t9,ak aR (AA b 0)=some (.bool t9)/\if t9 then az.LD aR (AA b 0) λzt zu ab5 ab6 ab7=>Hu aR b 1 λt12=>Hu aR b 2 λt14=> ∃(eq_1:Bool),Hq Tryz.prog T.az (.agg #[.bool zt,.U zu,.U ab5,.string ab6,.string ab7]) (.agg #[.bool true,.U t12,.U t14,.string ka,.string ka]) eq_1/\if eq_1 then∃t19,ak aR (AA b 1)=some (.U t19)/\if(decide (t19≥1)) then∃t24,ak aR (AA b 1)=some (.U t24)/\if(decide (t24<=4294967295)) then∃t29,ak aR (AA b 2)=some (.U t29)/\R (.bool (decide (t29<=4294967295))) aR else R (.bool false) aR else R (.bool false) aR else R (.bool false) aR else az.LD aR (AA b 0) λab8 ab9 amm amn amo=>Hs aR b 3 λt34=>Hs aR b 4 λt36=> ∃(eq_2:Bool),Hq Tryz.prog T.az (.agg #[.bool ab8,.U ab9,.U amm,.string amn,.string amo]) (.agg #[.bool false,.U 0,.U 0,.string t34,.string t36]) eq_2/\if eq_2 then∃t41,ak aR (AA b 3)=some (.string t41)/\if(decide ((t41.size:Int)≥1)) then∃t47,ak aR (AA b 3)=some (.string t47)/\if(decide ((t47.size:Int)<=16)) then∃t53,ak aR (AA b 4)=some (.string t53)/\if(decide ((t53.size:Int)<=24)) then Hs aR b 3 λt59=>Cl F.pq #[.string t59,.int .i32 45] aR λv aZ=> ∃t60,v=.bool t60/\if t60 then Hs aZ b 4 λt64=>Cl F.pq #[.string t64,.int .i32 47] aZ λeK bK=> ∃t65,eK=.bool t65/\R (.bool t65) bK else R (.bool false) aZ else R (.bool false) aR else R (.bool false) aR else R (.bool false) aR else R (.bool false) aR):Cl F.kF #[.agg #[.bool xa,.U xc,.U x_2,.string Kb,.string x_4]] h R:=aS (lq (sq (bq (lq (cq ll (lq (cq ll lf))))) ll)) Tryz.func86 hv
end
section
namespace qJ
theorem aca {a b:ByteArray} :(a==b)=true↔a=b:=by
 obtain⟨a⟩:=a;obtain⟨b⟩:=b;constructor
 ·intro h;have h:(a==b)=true:=h;rw[eq_of_beq h]
 ·intro h;cases h;show(a==a)=true;simp
structure Ev where
 vE:Bool
 node:Int
 ma:Int
 host:ByteArray
 sN:ByteArray
theorem Ev.ext' {x y:Ev} (h0:x.vE=y.vE) (h1:x.node=y.node) (h2:x.ma=y.ma) (h3:x.host=y.host) (h4:x.sN=y.sN):x=y:=by
 cases x;cases y;simp at h0 h1 h2 h3 h4;simp[h0,h1,h2,h3,h4]
def eqB (x y:Ev):Bool:=x.vE==y.vE && (x.node==y.node && (x.ma==y.ma && (x.host==y.host && (x.sN==y.sN && true))))
theorem O7 {x y:Ev} :eqB x y=true↔x=y:=by
 unfold eqB;simp only[aW,dA,aca,and_true];constructor
 ·rintro⟨h0,h1,h2,h3,h4⟩;exact Ev.ext' h0 h1 h2 h3 h4
 ·rintro rfl;simp
instance : DecidableEq Ev := λx y => decidable_of_iff (eqB x y = true) O7
theorem afr (x y:Ev):eqB x y=decide (x=y):=by
 by_cases h:x=y
 ·rw[ay h];exact O7.2 h
 ·rw[decide_eq_false h];cases hb:eqB x y
  ·rfl
  ·exact absurd (O7.1 hb) h
def uH (x:Ev):Value:=.agg #[.bool x.vE,.int .u64 x.node,.int .u64 x.ma,.string x.host,.string x.sN]
def Ev.zero:Ev:=⟨false,0,0,⟨#[]⟩,⟨#[]⟩⟩
theorem eqv (x y:Ev):Hq Tryz.prog T.az (uH x) (uH y) (decide (x=y)):=by
 rw[<-afr];exact Hq.of (by unfold eqB;kernel_rfl)
theorem IE {x y:Ev} {a b:Value} (ha:a=uH x) (hb:b=uH y):Hq Tryz.prog T.az a b (decide (x=y)):=by subst ha hb;exact eqv x y
theorem chk (e:Bool) (a:Ev) (h:aj):rd Tryz.prog (Instr.checkKey e 10000 T.az (uH a)) h=some ():=by kernel_rfl
theorem under:(Tryz.prog.underlying T.az).isSome=true:=by kernel_rfl
theorem key:MM Tryz.prog T.az uH:=⟨eqv,chk,by
 obtain⟨d,h⟩:=gP.1 under;exact⟨d,h,λa b=> .inl (by unfold uH;cases d<;>rfl)⟩,λa=>by unfold uH;simp[Instr.sameBits,aca.2]⟩
def pl (more c:UInt8):Bool:=(decide (97<=c) && decide (c<=122))||(decide (48<=c) && decide (c<=57))||c==45||c==more
def xd (more:UInt8) (s:ByteArray):Bool:=s.data.toList.all (pl more)
def dk (x:Ev):Bool:=
 if x=.zero then true
 else if x.vE=true then decide (x.host=⟨#[]⟩/\x.sN=⟨#[]⟩/\1<=x.node/\x.node<=4294967295/\x.ma<=4294967295)
 else decide (x.node=0/\x.ma=0/\1<=x.host.size/\x.host.size<=16/\x.sN.size<=24) && (xd 45 x.host && xd 47 x.sN)
def qQ (x:Ev):Int:=if x=.zero then 0 else if x.vE=true then 1 else 2
def bl (a b:ByteArray):Bool:=Op.bytesLess a.toList b.toList
def zx (x y:Ev):Bool:=
 if qQ x≠qQ y then decide (qQ x<qQ y)
 else if x.node≠y.node then decide (x.node<y.node)
 else if x.ma≠y.ma then decide (x.ma<y.ma)
 else if x.host≠y.host then bl x.host y.host
 else bl x.sN y.sN
theorem bytes_irrefl: ∀a:List UInt8,Op.bytesLess a a=false
 | []=>rfl
 |a::x=>by unfold Op.bytesLess;simp[bytes_irrefl x]
theorem bytes_trans: ∀ {a b c:List UInt8},Op.bytesLess a b=true->Op.bytesLess b c=true->Op.bytesLess a c=true
 |_, [],_,h,_=>by unfold Op.bytesLess at h;cases h
 |_,_::_, [],_,h=>by unfold Op.bytesLess at h;cases h
 | [],b::y,c::z,_,_=>rfl
 |a::x,b::y,c::z,h1,h2=>by
  unfold Op.bytesLess at h1 h2⊢;simp only[Bool.or_eq_true,bf,aW,dA] at h1 h2⊢;rcases h1 with h1|⟨rfl,h1⟩
  ·rcases h2 with h2|⟨rfl,h2⟩
   ·exact .inl (UInt8.lt_trans h1 h2)
   ·exact .inl h1
  ·rcases h2 with h2|⟨rfl,h2⟩
   ·exact .inl h2
   ·exact .inr ⟨rfl,bytes_trans h1 h2⟩
theorem bytes_total: ∀ {a b:List UInt8},a≠b->Op.bytesLess a b=true\/Op.bytesLess b a=true
 | [], [],h=>absurd rfl h
 | [],_::_,_=> .inl rfl
 |_::_, [],_=> .inr rfl
 |a::x,b::y,h=>by
  unfold Op.bytesLess;simp only[Bool.or_eq_true,bf,aW,dA];by_cases e:a=b
  ·subst e;rcases bytes_total (a:=x) (b:=y) (λe=>h (by rw[e])) with h1|h1
   ·exact .inl (.inr ⟨rfl,h1⟩)
   ·exact .inr (.inr ⟨rfl,h1⟩)
  ·rcases UInt8.lt_or_lt_of_ne e with h1|h1
   ·exact .inl (.inl h1)
   ·exact .inr (.inl h1)
theorem ahV {a b:ByteArray} (h:a≠b):bl a b=true\/bl b a=true:=by
 refine bytes_total λe=>h ?_
 rw[toList_data,toList_data] at e;cases a;cases b;simp only[ByteArray.mk.injEq];exact Array.ext' e
theorem Kc {a b c:ByteArray} (h1:bl a b=true) (h2:bl b c=true):bl a c=true:=bytes_trans h1 h2
theorem MT (a:ByteArray):bl a a=false:=bytes_irrefl _
theorem Ff {x y:Ev} :zx x y=true↔qQ x<qQ y\/(qQ x=qQ y/\(x.node<y.node\/(x.node=y.node/\(x.ma<y.ma\/(x.ma=y.ma/\((x.host≠y.host/\bl x.host y.host=true)\/(x.host=y.host/\bl x.sN y.sN=true))))))):=by
 unfold zx;by_cases h0:qQ x=qQ y
 ·rw[ai (by simpa using h0)];by_cases h1:x.node=y.node
  ·rw[ai (by simpa using h1)];by_cases h2:x.ma=y.ma
   ·rw[ai (by simpa using h2)];by_cases h3:x.host=y.host
    ·rw[ai (by simpa using h3)];simp[h0,h1,h2,h3]
    ·rw[ag h3];simp[h0,h1,h2,h3]
   ·rw[ag h2];simp[h0,h1,h2]
  ·rw[ag h1];simp[h0,h1]
 ·rw[ag h0];simp[h0]
theorem HO (x:Ev):zx x x=false:=by
 cases h:zx x x
 ·rfl
 ·rw[Ff] at h;rcases h with h|⟨_,h|⟨_,h|⟨_,⟨h,_⟩|⟨_,h⟩⟩⟩⟩
  ·omega
  ·omega
  ·omega
  ·exact absurd rfl h
  ·rw[MT] at h;cases h
theorem Us {x y z:Ev} (h1:zx x y=true) (h2:zx y z=true):zx x z=true:=by
 rw[Ff] at h1 h2⊢;rcases h1 with h1|⟨c1,h1⟩
 ·rcases h2 with h2|⟨c2,_⟩
  ·exact .inl (by omega)
  ·exact .inl (by omega)
 rcases h2 with h2|⟨c2,h2⟩
 ·exact .inl (by omega)
 refine .inr ⟨by omega,?_⟩;rcases h1 with h1|⟨n1,h1⟩
 ·rcases h2 with h2|⟨n2,_⟩<;>exact .inl (by omega)
 rcases h2 with h2|⟨n2,h2⟩
 ·exact .inl (by omega)
 refine .inr ⟨by omega,?_⟩;rcases h1 with h1|⟨s1,h1⟩
 ·rcases h2 with h2|⟨s2,_⟩<;>exact .inl (by omega)
 rcases h2 with h2|⟨s2,h2⟩
 ·exact .inl (by omega)
 refine .inr ⟨by omega,?_⟩;rcases h1 with⟨e1,h1⟩|⟨e1,h1⟩
 ·rcases h2 with⟨e2,h2⟩|⟨e2,h2⟩
  ·refine .inl ⟨λe=> ?_,Kc h1 h2⟩;have:=Kc h1 (e▸h2);rw[MT] at this;cases this
  ·exact .inl (by rw[<-e2];exact⟨e1,h1⟩)
 ·rcases h2 with⟨e2,h2⟩|⟨e2,h2⟩
  ·exact .inl (by rw[e1];exact⟨e2,h2⟩)
  ·exact .inr ⟨e1.trans e2,Kc h1 h2⟩
theorem Kd {x y:Ev} (h:qQ x=qQ y) (hx:x=.zero):y=.zero:=by
 unfold qQ at h;rw[ag hx] at h;by_cases hy:y=.zero
 ·exact hy
 ·rw[ai hy] at h;split at h<;>omega
theorem Ut {x y:Ev} (h:x≠y):zx x y=true\/zx y x=true:=by
 rw[Ff,Ff];by_cases h0:qQ x=qQ y
 ·by_cases h1:x.node=y.node
  ·by_cases h2:x.ma=y.ma
   ·by_cases h3:x.host=y.host
    ·have h4:x.sN≠y.sN:=λe=>by
      have hx0:x≠ .zero:=λe0=>h (e0.trans (Kd h0 e0).symm)
      have hy0:y≠ .zero:=λe0=>h ((Kd h0.symm e0).trans e0.symm)
      unfold qQ at h0;rw[ai hx0,ai hy0] at h0;have hi:x.vE=y.vE:=by
       cases ex:x.vE<;>cases ey:y.vE<;>simp[ex,ey] at h0⊢
      exact h (Ev.ext' hi h1 h2 h3 e)
     rcases ahV h4 with h5|h5
     ·exact .inl (.inr ⟨h0,.inr ⟨h1,.inr ⟨h2,.inr ⟨h3,h5⟩⟩⟩⟩)
     ·exact .inr (.inr ⟨h0.symm,.inr ⟨h1.symm,.inr ⟨h2.symm,.inr ⟨h3.symm,h5⟩⟩⟩⟩)
    ·rcases ahV h3 with h5|h5
     ·exact .inl (.inr ⟨h0,.inr ⟨h1,.inr ⟨h2,.inl ⟨h3,h5⟩⟩⟩⟩)
     ·exact .inr (.inr ⟨h0.symm,.inr ⟨h1.symm,.inr ⟨h2.symm,.inl ⟨ie h3,h5⟩⟩⟩⟩)
   ·rcases Int.lt_or_gt_of_ne h2 with h5|h5
    ·exact .inl (.inr ⟨h0,.inr ⟨h1,.inl h5⟩⟩)
    ·exact .inr (.inr ⟨h0.symm,.inr ⟨h1.symm,.inl h5⟩⟩)
  ·rcases Int.lt_or_gt_of_ne h1 with h5|h5
   ·exact .inl (.inr ⟨h0,.inl h5⟩)
   ·exact .inr (.inr ⟨h0.symm,.inl h5⟩)
 ·rcases Int.lt_or_gt_of_ne h0 with h5|h5
  ·exact .inl (.inl h5)
  ·exact .inr (.inl h5)
variable {h : aj} {R : Value → aj → Prop}
theorem get_at {s:ByteArray} {i:Nat} (hi:i<s.size):s.get! i=s.data.toList.getD i 0:=by
 have:i<s.data.size:=hi;show s.data[i]! =_;have e:s.data.toList[i]? =some s.data[i]:=by rw[eg];exact Array.getElem?_eq_getElem this
 rw[getElem!_pos s.data i this,ba,e];rfl
theorem decode_at (s:ByteArray) (i:Nat) (hi:i<s.size):(s.data.toList.getD i 0<128->Utf8.decode s i=((s.data.toList.getD i 0).toNat,1))/\(¬s.data.toList.getD i 0<128->128<=(Utf8.decode s i).1):=by
 have e:=get_at hi;have e0:(s.get! (i+0)).toNat=(s.data.toList.getD i 0).toNat:=by rw[Nat.add_zero,e]
 constructor
 ·intro h;have h:(s.data.toList.getD i 0).toNat<128:=h;unfold Utf8.decode;simp only[e0];rw[ag h]
 ·intro h;have h: ¬(s.data.toList.getD i 0).toNat<128:=h;unfold Utf8.decode;simp only[e0];rw[ai h];split
  ·split
   ·omega
   ·show 128<=Utf8.runeError;decide
  ·split
   ·split
    ·rename_i hc;simp only[aW,bf] at hc;show 128<=_;omega
    ·show 128<=Utf8.runeError;decide
   ·split
    ·split
     ·rename_i hc;simp only[aW,bf] at hc;show 128<=_;omega
     ·show 128<=Utf8.runeError;decide
    ·show 128<=Utf8.runeError;decide
def np (more:Int) (c:Int):Bool:=(decide (c<97)||decide (c>122)) && ((decide (c<48)||decide (c>57)) && ((c !=45) && (c !=more)))
theorem acb {more c:Int} (hm:more<128) (h:128<=c):np more c=true:=by
 unfold np;have h1:c>122:=by omega
 have h2:c>57:=by omega
 have h3:c≠45:=by omega
 have h4:c≠more:=by omega
 simp[h1,h2,h3,h4]
theorem acd (more:UInt8) (b:UInt8):np (more.toNat:Int) (b.toNat:Int)= !pl more b:=by
 have e1:(b=45)↔((b.toNat:Int)=45):=by
  constructor
  ·rintro rfl;rfl
  ·intro e;exact UInt8.toNat_inj.1 (by show b.toNat=45;omega)
 have e2:(b=more)↔((b.toNat:Int)=(more.toNat:Int)):=by
  constructor
  ·rintro rfl;rfl
  ·intro e;exact UInt8.toNat_inj.1 (by omega)
 have e3:(97<=b)↔ ¬((b.toNat:Int)<97):=by rw[UInt8.le_iff_toNat_le];show 97<=b.toNat↔_;omega
 have e4:(b<=122)↔ ¬((b.toNat:Int)>122):=by rw[UInt8.le_iff_toNat_le];show b.toNat<=122↔_;omega
 have e5:(48<=b)↔ ¬((b.toNat:Int)<48):=by rw[UInt8.le_iff_toNat_le];show 48<=b.toNat↔_;omega
 have e6:(b<=57)↔ ¬((b.toNat:Int)>57):=by rw[UInt8.le_iff_toNat_le];show b.toNat<=57↔_;omega
 unfold np pl;have e7:(b==45)=decide ((b.toNat:Int)=45):=by by_cases q:b=45<;>simp[q,e1.symm]
 have e8:(b==more)=decide ((b.toNat:Int)=(more.toNat:Int)):=by
  by_cases q:b=more
  ·simp[q]
  ·have: ¬((b.toNat:Int)=(more.toNat:Int)):=λe=>q (e2.2 e)
   rw[decide_eq_false this];simp[q]
 rw[e7,e8];simp only[e3,e4,e5,e6];by_cases q1:(b.toNat:Int)<97<;>by_cases q2:(b.toNat:Int)>122<;>by_cases q3:(b.toNat:Int)<48<;>by_cases q4:(b.toNat:Int)>57<;>by_cases q5:(b.toNat:Int)=45<;>by_cases q6:(b.toNat:Int)=(more.toNat:Int)<;>simp[q1,q2,q3,q4,q5,q6]
end qJ
end
end Go.Proofs.YtlenamcfacpheaaGreatDoor
namespace Go.Proofs
open Go.Den
open IntKind (wrap)
open Int (toNat)
section
open Go.Shelf
def Tryz.Rv:Go.Shelf.Ren:=⟨fun|145=>313|220=>322|219=>326|217=>328|225=>329|224=>330|267=>331|266=>332|314=>333|n=>n,fun|9=>9|4=>4|59=>409|3=>3|5=>5|46=>211|146=>427|51=>315|n=>n,fun|1=>5|n=>n⟩
theorem Tryz.afs:Go.Proofs.Lays.n145 Tryz.prog Tryz.Rv:= {
 mixed:=by kernel_rfl
 f145:=Tryz.func313.trans (bp some (by kernel_rfl))
 f217:=Tryz.func328.trans (bp some (by kernel_rfl))
 f219:=Tryz.func326.trans (bp some (by kernel_rfl))
 f220:=Tryz.func322.trans (bp some (by kernel_rfl))
 f224:=Tryz.func330.trans (bp some (by kernel_rfl))
 f225:=Tryz.func329.trans (bp some (by kernel_rfl))
 f266:=Tryz.func332.trans (bp some (by kernel_rfl))
 f267:=Tryz.func331.trans (bp some (by kernel_rfl))
 f314:=Tryz.func333.trans (bp some (by kernel_rfl))
 t3:=Tryz.underlying3
 a3:=Tryz.isAgg3
 z3:=Tryz.sizeOf3
 v3:=Tryz.zeroValue3
 t4:=Tryz.underlying4
 a4:=Tryz.isAgg4
 z4:=Tryz.sizeOf4
 v4:=Tryz.zeroValue4
 t5:=Tryz.underlying5
 a5:=Tryz.isAgg5
 z5:=Tryz.sizeOf5
 v5:=Tryz.zeroValue5
 t9:=Tryz.underlying9
 a9:=Tryz.isAgg9
 z9:=Tryz.sizeOf9
 v9:=Tryz.zeroValue9
 t46:=Tryz.underlying211
 a46:=Tryz.isAgg211
 z46:=Tryz.sizeOf211
 v46:=Tryz.zeroValue211
 t51:=Tryz.underlying315
 a51:=Tryz.isAgg315
 z51:=Tryz.sizeOf315
 v51:=Tryz.zeroValue315
 t59:=Tryz.underlying409
 a59:=Tryz.isAgg409
 z59:=Tryz.sizeOf409
 v59:=Tryz.zeroValue409
 t146:=Tryz.underlying427
 a146:=Tryz.isAgg427
 z146:=Tryz.sizeOf427
 v146:=Tryz.zeroValue427
 g1:=by kernel_rfl }
def Tryz.Rx:Go.Shelf.Ren:=⟨fun|103=>312|210=>321|206=>325|n=>n,fun|9=>9|4=>4|24=>407|3=>3|n=>n,fun|n=>n⟩
theorem Tryz.aft:Go.Proofs.Lays.n103 Tryz.prog Tryz.Rx:= {
 mixed:=by kernel_rfl
 f103:=Tryz.func312.trans (bp some (by kernel_rfl))
 f206:=Tryz.func325.trans (bp some (by kernel_rfl))
 f210:=Tryz.func321.trans (bp some (by kernel_rfl))
 t3:=Tryz.underlying3
 a3:=Tryz.isAgg3
 z3:=Tryz.sizeOf3
 v3:=Tryz.zeroValue3
 t4:=Tryz.underlying4
 a4:=Tryz.isAgg4
 z4:=Tryz.sizeOf4
 v4:=Tryz.zeroValue4
 t9:=Tryz.underlying9
 a9:=Tryz.isAgg9
 z9:=Tryz.sizeOf9
 v9:=Tryz.zeroValue9
 t24:=Tryz.underlying407
 a24:=Tryz.isAgg407
 z24:=Tryz.sizeOf407
 v24:=Tryz.zeroValue407 }
end
end Go.Proofs
namespace Go.Proofs.YtlenamcfacpheaaGreatDoor
open Go.Den
open IntKind (wrap)
open Int (toNat)
section
namespace Gj
variable {h h':aj} {R:iI}
def Mx (h:aj):Prop:= ∃m,ak h ⟨5,0,none⟩=some (.int .i64 m)
theorem Mx.on (M:Mx h) (f:Fr No h h'):Mx h':=by
 obtain⟨m,hm⟩:=M;exact⟨m,f.cell hm id⟩
theorem O8 {s sep:ByteArray} (M:Mx h) (hs:s.size<4294967281) (hk:R (.tuple #[.string ⟨(Lib.cut s.data.toList sep.data.toList).1.toArray⟩,.string ⟨(Lib.cut s.data.toList sep.data.toList).2.1.toArray⟩,.bool (Lib.cut s.data.toList sep.data.toList).2.2]) h):Cl F.strings_Cut #[.string s,.string sep] h R:=λw hw=>by
 subst hw;obtain⟨m,hm⟩:=M;refine(Any.strings_Cut Tryz.afs s sep m w hs (by rw[uE];exact hm)).mono λe w' ⟨he,n,hw'⟩=>⟨_,he,?_,?_⟩
 ·rw[hw'];exact hk
 ·rw[hw'];exact⟨rfl,rfl,rfl⟩
theorem aas {s p:ByteArray} (hk:R (.tuple #[.string ⟨(Lib.trimPrefix s.data.toList p.data.toList).toArray⟩,.bool (Lib.hasPrefix s.data.toList p.data.toList)]) h):Cl F.strings_CutPrefix #[.string s,.string p] h R:=λw hw=>
 (Any.strings_CutPrefix Tryz.aft s p w).mono λe w' ⟨he,hw'⟩=>⟨_,he,by rw[hw',hw];exact hk,by rw[hw'];exact iC.refl _⟩
end Gj
end
section
namespace Bn
open Cb
open qJ (Ev dk)
def Az (s q:Nat):Nat:=if s%2=1 then(s/2) ^^^ q else s/2
def Cv (q:Nat):Nat->Nat->Nat
 |0,s=>s
 |k+1,s=>Cv q k (Az s q)
def ahW (s c q:Nat):Nat:=Cv q 8 (s ^^^ c)
def runN (s:Nat) (b:List UInt8) (q:Nat):Nat:=b.foldl (λs c=>ahW s c.toNat q) s
def Ke (b:List UInt8):Nat:=65535 ^^^ (runN 65535 b 33800%65536)
def HP (b:List UInt8):Nat:=4294967295 ^^^ runN 4294967295 b 2197175160
def O9 (b:List UInt8):List UInt8:= [UInt8.ofNat (Ke b/256),UInt8.ofNat (Ke b)]
def Wa (b:List UInt8):List UInt8:= [UInt8.ofNat (HP b/16777216),UInt8.ofNat (HP b/65536),UInt8.ofNat (HP b/256),UInt8.ofNat (HP b)]
def Ry (x:Ev):List UInt8:= [47,47]++x.host.data.toList++ [47]++x.sN.data.toList
def Md (x:Ev):Tr:=if x=.zero then DF [num 1,num 0] else if x.vE=true then DF [num 2,DF [num x.node.toNat,num x.ma.toNat]] else DF [num 1,.mk 3 0 (Ry x) []]
def HQ (s:List UInt8):Ev:=⟨false,0,0,⟨(Lib.cut (Lib.trimPrefix s [47,47]) [47]).1.toArray⟩,⟨(Lib.cut (Lib.trimPrefix s [47,47]) [47]).2.1.toArray⟩⟩
def Fh (s:List UInt8):Bool:=Lib.hasPrefix s [47,47] && (Lib.cut (Lib.trimPrefix s [47,47]) [47]).2.2 && !(Lib.cut (Lib.trimPrefix s [47,47]) [47]).1.isEmpty && dk (HQ s)
def at_ (l:List Tr) (i:Nat):Tr:=l.getD i V5
def Kf (l:List Tr):Bool:=l.all λt=>yW t (num t.n)
def ace (t:Tr):Ev:=⟨true,((at_ t.l 0).n:Int),((at_ t.l 1).n:Int),⟨#[]⟩,⟨#[]⟩⟩
def zy (V:List UInt8->Bool) (t:Tr):Option Ev:=
 if lB V t=true/\t.k=4/\t.l.length=2 then
  if yW (at_ t.l 0) (num 1)=true/\yW (at_ t.l 1) (num 0)=true then some .zero
  else if yW (at_ t.l 0) (num 1)=true/\(at_ t.l 1).k=3 then(if Fh (at_ t.l 1).b=true then some (HQ (at_ t.l 1).b) else none)
  else if yW (at_ t.l 0) (num 2)=true then(if(at_ t.l 1).k=4/\(at_ t.l 1).l.length=2/\Kf (at_ t.l 1).l=true/\dk (ace (at_ t.l 1))=true then some (ace (at_ t.l 1)) else none)
  else none
 else none
structure oZ where
 e:Ev
 tm:Nat
 sq:Nat
deriving DecidableEq
def oZ.zero:oZ:=⟨.zero,0,0⟩
def lD (x:oZ):Bool:=dk x.e && decide (x.tm<=1099511627776) && decide (x.sq<=1099511627776)
def idT (x:oZ):Tr:=DF [Md x.e,DF [num x.tm,num x.sq]]
def uB (V:List UInt8->Bool) (t:Tr):Option oZ:=
 if t.k=4/\t.l.length=2/\(at_ t.l 1).k=4/\(at_ t.l 1).l.length=2 then
  match zy V (at_ t.l 0) with
  |none=>none
  |some e=>if lD ⟨e,(at_ (at_ t.l 1).l 0).n,(at_ (at_ t.l 1).l 1).n⟩=true/\yW (idT ⟨e,(at_ (at_ t.l 1).l 0).n,(at_ (at_ t.l 1).l 1).n⟩) t=true then some ⟨e,(at_ (at_ t.l 1).l 0).n,(at_ (at_ t.l 1).l 1).n⟩ else none
 else none
def typeAt (l:List Tr) (i:Nat):Int:=if i<l.length/\(at_ l i).n<=2/\yW (at_ l i) (num (at_ l i).n)=true then((at_ l i).n:Int) else -1
def sumOf (V:List UInt8->Bool) (l:List Tr) (sum:Nat):Except Int (List UInt8):=
 if lB V (DF (l++ [BH (List.replicate (2*sum) 0)]))=true then .ok (if sum=1 then O9 (enc (DF (l++ [BH (List.replicate (2*sum) 0)]))) else Wa (enc (DF (l++ [BH (List.replicate (2*sum) 0)])))) else .error 3
def x8 (V:List UInt8->Bool) (l:List Tr) (i:Nat):Except Int Tr:=
 if i<l.length then
  if l.all (lB V)=true/\0<=typeAt l i then
   if 0<typeAt l i then(match sumOf V l (typeAt l i).toNat with
    | .error e=> .error e
    | .ok b=>if lB V (DF (l++ [BH b]))=true then .ok (DF (l++ [BH b])) else .error 3)
   else if lB V (DF l)=true then .ok (DF l) else .error 3
  else .error 3
 else .error 1
def Be (V:List UInt8->Bool) (t:Tr) (i:Nat):Except Int (List Tr):=
 if lB V t=true/\t.k=4/\0<=typeAt t.l i then
  if typeAt t.l i=0 then .ok t.l
  else if i<t.l.length - 1/\yW (at_ t.l (t.l.length - 1)) (BH (at_ t.l (t.l.length - 1)).b)=true/\(at_ t.l (t.l.length - 1)).b.length=2*(typeAt t.l i).toNat then
   (match sumOf V (t.l.take (t.l.length - 1)) (typeAt t.l i).toNat with
   | .error e=> .error e
   | .ok b=>if b=(at_ t.l (t.l.length - 1)).b then .ok (t.l.take (t.l.length - 1)) else .error 10)
  else .error 3
 else .error 3
structure Prim where
 fl:Nat
 sum:Int
 dest:Ev
 rep:Ev
 id:oZ
 gJ:Nat
deriving DecidableEq
def Prim.zero:Prim:=⟨0,0,.zero,.zero,.zero,0⟩
def flB (n all:Int):Bool:=IntKind.wrap .u64 ((BitVec.ofInt (IntKind.bits .u64) n &&& ~~~ BitVec.ofInt (IntKind.bits .u64) all).toNat:Int)==0
def qR (p:Prim):Bool:=flB (p.fl:Int) 409638 && decide (0<=p.sum) && decide (p.sum<=2) && dk p.dest && dk p.rep && lD p.id && decide (p.gJ<=1099511627776)
def Rz (p:Prim):List Tr:= [num 7,num p.fl,num p.sum.toNat,Md p.dest,Md p.id.e,Md p.rep,DF [num p.id.tm,num p.id.sq],num p.gJ]
def x9 (V:List UInt8->Bool) (p:Prim):Except Int Tr:=if qR p=true then x8 V (Rz p) 2 else .error 3
def GF (l:List Tr) (d r:Ev) (i:oZ):Prim:=⟨(at_ l 1).n,((at_ l 2).n:Int),d,r,i,(at_ l 7).n⟩
def HR (V:List UInt8->Bool) (t:Tr):Except Int Prim:=
 match Be V t 2 with
 | .error e=> .error e
 | .ok l=>if l.length=8 then(match zy V (at_ l 3),zy V (at_ l 5),uB V (DF [at_ l 4,at_ l 6]) with
  |some d,some r,some i=>(match x9 V (GF l d r i) with
   | .ok again=>if yW again t=true then .ok (GF l d r i) else .error 3
   | .error _=> .error 3)
  |_,_,_=> .error 3) else .error 3
structure xV where
 ty:Nat
 nr:Nat
 fl:Nat
 sum:Int
 data:List UInt8
deriving DecidableEq
def RA (l:List Nat):Tr:=DF (l.map num)
def qS (V:List UInt8->Bool) (bs:List UInt8):Bool:=match Ba V bs with| .ok (t,nx)=>decide (nx=bs.length) && decide (enc t=bs)| .error _=>false
def gm (V:List UInt8->Bool) (bs:List UInt8):Tr:=match Ba V bs with| .ok (t,_)=>t| .error _=>V5
def ajJ (V:List UInt8->Bool) (d:List UInt8):Bool:=qS V d && yW (gm V d) (num (gm V d).n) && decide ((gm V d).n<=1099511627776)
def yL (t:Tr):Nat:=(at_ t.l 0).n
def Kg (t:Tr):Nat:=(at_ t.l 1).n
def acf (V:List UInt8->Bool) (d:List UInt8):Bool:=qS V d && decide ((gm V d).k=4/\(gm V d).l.length=2) && yW (gm V d) (RA [yL (gm V d),Kg (gm V d)]) && decide (1<=yL (gm V d)/\yL (gm V d)<=255/\Kg (gm V d)<=yL (gm V d))
def Kh (V:List UInt8->Bool) (ty:Nat) (d:List UInt8):Bool:=(if ty=6 then qS V d && (zy V (gm V d)).isSome else if ty=7 then ajJ V d else if ty=10 then acf V d else true) && decide (d.length<=200)
def vF (n:Nat):Bool:=decide (1<=n/\n<=255)
def sf (V:List UInt8->Bool) (b:xV):Bool:=vF b.ty && vF b.nr && flB (b.fl:Int) 23 && decide (0<=b.sum) && decide (b.sum<=2) && Kh V b.ty b.data
def aat (b:xV):List Tr:= [num b.ty,num b.nr,num b.fl,num b.sum.toNat,BH b.data]
def DJ (V:List UInt8->Bool) (b:xV):Except Int Tr:=if sf V b=true then x8 V (aat b) 3 else .error 3
def Cw (l:List Tr):xV:=⟨(at_ l 0).n,(at_ l 1).n,(at_ l 2).n,((at_ l 3).n:Int),(at_ l 4).b⟩
def Ki (V:List UInt8->Bool) (t:Tr):Except Int xV:=
 match Be V t 3 with
 | .error e=> .error e
 | .ok l=>if l.length=5/\(at_ l 4).k=2 then(match DJ V (Cw l) with
  | .ok again=>if yW again t=true then .ok (Cw l) else .error 3
  | .error _=> .error 3) else .error 3
structure BP where
 p:Prim
 bl:List xV
deriving DecidableEq
def alone (k:Nat):Bool:=decide (k=1\/k=6\/k=7\/k=10)
def apart (b c:xV):Bool:=decide (c.nr≠b.nr) && (decide (c.ty≠b.ty)|| !alone b.ty)
def Uu (V:List UInt8->Bool):List xV->List xV->Bool
 |_, []=>true
 |pre,b::l=>sf V b && pre.all (apart b) && Uu V (pre++ [b]) l
def Me (V:List UInt8->Bool) (l:List xV):Bool:=match l.getLast? with
 |none=>false
 |some z=>decide (l.length<=8) && decide (z.ty=1/\z.nr=1) && Uu V [] l
def Kj (V:List UInt8->Bool) (t:Tr):List UInt8:=if lB V t=true then enc t else []
def RB (V:List UInt8->Bool):List xV->List UInt8->Option (List UInt8)
 | [],out=>some out
 |b::l,out=>match DJ V b with
  | .error _=>none
  | .ok t=>RB V l (out++Kj V t)
def Cx (V:List UInt8->Bool) (b:BP):Option (List UInt8):=match x9 V b.p with
 | .error _=>none
 | .ok t=>RB V b.bl (Kj V t)
def vd (V:List UInt8->Bool) (b:BP):Option (List UInt8):=
 if Me V b.bl=true then(match Cx V b with
  |none=>none
  |some l=>if l.length<=598 then some (159::(l++ [255])) else none)
 else none
def RC (V:List UInt8->Bool):List Tr->List xV->Except Int (List xV)
 | [],out=> .ok out
 |t::l,out=>match Ki V t with
  | .error e=> .error e
  | .ok b=>RC V l (out++ [b])
def Fi (V:List UInt8->Bool) (bs:List UInt8):Except Int BP:=
 if bs.length<=1200 then(match Ba V bs with
  | .error e=> .error e
  | .ok (t,nx)=>if nx=bs.length/\t.k=4/\2<=t.l.length/\t.l.length<=9 then(match HR V (at_ t.l 0) with
   | .error e=> .error e
   | .ok p=>(match RC V (t.l.drop 1) [] with
    | .error e=> .error e
    | .ok l=>if(vd V ⟨p,l⟩).isSome=true then .ok ⟨p,l⟩ else .error 3)) else .error 3)
 else .error 2
def IF (b:BP):List UInt8:=match b.bl.getLast? with|none=> []|some z=>z.data
structure LP where
 rc:Bool
 dl:Bool
 de:Bool
 reason:Nat
 at':Nat
 of:oZ
deriving DecidableEq
def nB (r:LP):Bool:=(r.rc||r.dl||r.de) && decide (r.reason<=255) && decide (r.at'<=1099511627776) && lD r.of
def RE (l:List Bool):Tr:=DF (l.map λb=>num (if b=true then 1 else 0))
def Pa (r:LP):Tr:=DF [num 1,DF [RE [r.rc,r.dl,r.de],num r.reason,num r.at',idT r.of]]
def aau (V:List UInt8->Bool) (r:LP):Option (List UInt8):=if nB r=true/\lB V (Pa r)=true then some (enc (Pa r)) else none
def vA (V:List UInt8->Bool) (r:LP) (dest:Ev) (id:oZ) (gJ:Nat):Option BP:=match aau V r with
 |none=>none
 |some b=>if(vd V ⟨⟨2,0,dest,.zero,id,gJ⟩, [⟨1,1,0,0,b⟩]⟩).isSome=true then some ⟨⟨2,0,dest,.zero,id,gJ⟩, [⟨1,1,0,0,b⟩]⟩ else none
end Bn
end
section
namespace Ask
open qJ (Ev dk)
structure Rq where
 id:Nat
 kind:Int
 ep:Ev
 dest:Ev
 uF:Int
 num:Int
 kr:Int
 Bf:List UInt8
 gJ:Nat
 token:Nat
 on:Bool
deriving DecidableEq
def o0 (x:Rq):Rq:=⟨x.id,x.kind,.zero,.zero,0,0,0, [],0,0,false⟩
def BJ (x:Rq):Rq:=
 if x.kind=1\/x.kind=3 then { o0 x with ep:=x.ep,uF:=x.uF }
 else if x.kind=2\/x.kind=6 then { o0 x with ep:=x.ep }
 else if x.kind=4 then { o0 x with ep:=x.ep,dest:=x.dest,Bf:=x.Bf,gJ:=x.gJ,on:=x.on }
 else if x.kind=5\/x.kind=8\/x.kind=9 then { o0 x with num:=x.num }
 else if x.kind=7 then { o0 x with ep:=x.ep,kr:=x.kr }
 else if x.kind=10 then { o0 x with on:=x.on }
 else if x.kind=12 then { o0 x with token:=x.token }
 else o0 x
def ua (e:Ev):Bool:=dk e && !decide (e=.zero)
def tC (x:Rq):Bool:=
 if x.kind=1\/x.kind=3 then ua x.ep && decide (x.uF≥0) && decide (x.uF<=2)
 else if x.kind=2\/x.kind=6 then ua x.ep
 else if x.kind=4 then ua x.ep && ua x.dest && decide (x.Bf.length<=200) && decide (x.gJ≥1) && decide (x.gJ<=1099511627776)
 else if x.kind=5\/x.kind=8\/x.kind=9 then decide (x.num≥1) && decide (x.num<=1099511627776)
 else if x.kind=7 then ua x.ep && decide (x.kr≥1) && decide (x.kr<=1000)
 else if x.kind=12 then decide (x.token≥1) && decide (x.token<=2147483648)
 else decide (x.kind=10\/x.kind=11)
def pD (x:Rq):Bool:=decide (x.id≥1) && decide (x.id<=1099511627776) && tC x && decide (x=BJ x)
end Ask
end
section
variable {h:aj} {R:iI}
theorem cv.walk {oD:bV} {mG qK:Nat} (hv:if oD.isNone then R (.Z) h else aV h (.cells #[] T.uint8) λb aR=>aX Tryz.prog (Builtin.append_ #[T.du,T.du] T.du #[.slice (some (AA b 0)) 0 0,.slice oD mG qK]) aR λv aZ=> ∃Ez EA EB,v=.slice Ez EA EB/\R (.slice Ez EA EB) aZ):Cl F.cv #[.slice oD mG qK] h R:=aS (lq (sq (lq (cq ll lf)) ll)) Tryz.func50 hv
theorem wU.walk (hv:aV h (.cells #[.bool true,.Z] T.yK) λb aR=>R (.P b 0) aR):Cl F.wU #[] h R:=aS (lq ll) Tryz.func65 hv
theorem iW.walk {w:Nat} {n:Int} (hv:aK (λ(t13:Bool) (aR:aj)=>if t13 then R (.P w 0) aR else∃(I:Int->aj->Prop) (mu:Int->aj->Nat),I n aR/\∀(n_1:Int) (aZ:aj),I n_1 aZ->if(decide (n_1>127)) then Hl aZ w 1 λve uc vG=>aV aZ (.cells #[.int .u8 (wrap .u8 ((BitVec.ofInt (IntKind.bits .u8) (wrap .u8 n_1)|||BitVec.ofInt (IntKind.bits .u8) 128).toNat:Int))] T.uint8) λb bK=>aX Tryz.prog (Builtin.append_ #[T.du,T.du] T.du #[.slice ve uc vG,.slice (some (AA b 0)) 1 1]) bK λv cC=> ∃ya rF yc,v=.slice ya rF yc/\aH cC (AA w 1) (.slice ya rF yc) λcK=>(I (Int.fdiv n_1 (2 ^ min (toNat 7) (IntKind.bits .u64))) cK/\mu (Int.fdiv n_1 (2 ^ min (toNat 7) (IntKind.bits .u64))) cK<mu n_1 aZ) else Hl aZ w 1 λzA yd zB=>aV aZ (.cells #[.int .u8 (wrap .u8 n_1)] T.uint8) λcE cR=>aX Tryz.prog (Builtin.append_ #[T.du,T.du] T.du #[.slice zA yd zB,.slice (some (AA cE 0)) 1 1]) cR λeK cX=> ∃ot kI oH,eK=.slice ot kI oH/\aH cX (AA w 1) (.slice ot kI oH) λdB=>R (.P w 0) dB) (λJ=> ∃t11,ak h (AA w 0)=some (.bool t11)/\J (!t11) h)):Cl F.iW #[.P w 0,.U n] h R:=aS (lq (sq (sq (.join [(13,.one (.bool))] lf) (cq ll lf)) (sq (bq (.loop [(1,.one (.int .u64))] (sq (lq (cq lf lf)) (bq ll)))) (lq ll)))) Tryz.func72 hv
theorem jB.walk {w:Nat} {n:Int} (hv:Cl F.iW #[.P w 0,.U (wrap .u64 (if 0>n then 0 else n))] h λv aR=> ∃t9,v=.pointer t9/\R (.pointer t9) aR):Cl F.jB #[.P w 0,.I n] h R:=aS (lq ll) Tryz.func66 hv
theorem mh.walk {w:Nat} {Bh:bV} {xe Dr:Nat} (hv:Cl F.iW #[.P w 0,.U (wrap .u64 (xe:Int))] h λv aR=>Vp v λt9=>aK (λ(t17:Bool) (aZ:aj)=>aK (λ(bK:aj)=>R (.P w 0) bK) (λjo=>if t17 then Hl aZ w 1 λFj Fk Cy=>aX Tryz.prog (Builtin.append_ #[T.du,T.du] T.du #[.slice Fj Fk Cy,.slice Bh xe Dr]) aZ λeK cC=> ∃iQ iy iz,eK=.slice iQ iy iz/\aH cC (AA w 1) (.slice iQ iy iz) λcK=>jo cK else jo aZ)) (λJ=> ∃t16,ak aR (AA w 0)=some (.bool t16)/\J t16 aR)):Cl F.mh #[.P w 0,.slice Bh xe Dr] h R:=aS (lq (lq (sq (sq (.join [(17,.one (.bool))] lf) (.join [] (cq lf lf))) ll))) Tryz.func71 hv
theorem lg.walk {w:Nat} (hv:Hl h w 1 λyM vR AB=>Cl F.cv #[.slice yM vR AB] h λv aR=> ∃aav aaw afu,v=.slice aav aaw afu/\R (.slice aav aaw afu) aR):Cl F.lg #[.P w 0] h R:=aS (lq (sq (lq (cq ll lf)) ll)) Tryz.func67 hv
theorem iY.walk {f:Nat} {e:Int} (hv: ∃t7,ak h (AA f 0)=some (.I t7)/\if(t7==0) then aH h (AA f 0) (.I e) λaR=>R (.tuple #[]) aR else R (.tuple #[]) h):Cl F.iY #[.P f 0,.I e] h R:=aS (lq (cq lf lf)) Tryz.func144 hv
theorem uX.walk {Bh:bV} {xe Dr:Nat} (hv:Cl F.cv #[.slice Bh xe Dr] h λv aR=>Vl v λPb Mf Pc=>aV aR (.cells #[.I 0,.bool true,.slice Pb Mf Pc] T.DT) λb aZ=>R (.P b 0) aZ):Cl F.uX #[.slice Bh xe Dr] h R:=aS (lq ll) Tryz.func91 hv
theorem jY.walk {r:Nat} (hv: ∃t9,ak h (AA r 1)=some (.bool t9)/\if t9 then∃t16,ak h (AA r 0)=some (.I t16)/\R (.bool (t16==0)) h else R (.bool false) h):Cl F.jY #[.P r 0] h R:=aS (lq ll) Tryz.func143 hv
theorem iX.walk {r:Nat} (hv:aK (λ(aR:aj)=>R (.U 0) aR) (λJ=> ∃(I:Int->Int->aj->Prop) (mu:Int->Int->aj->Nat),I 0 0 h/\∀(n:Int) (i:Int) (aZ:aj),I n i aZ->Cl F.jY #[.P r 0] aZ λv bK=> ∃t7,v=.bool t7/\if t7 then∃HS Cz Kk,ak bK (AA r 2)=some (.slice HS Cz Kk)/\if((Cz:Int)==0) then Cl F.iY #[.P r 0,.I 8] bK λeK cC=>eK=.tuple #[]/\J cC else Hl bK r 2 λzC xg DW=>Bd 0 xg/\aP zC λa=>V2 bK (a.add (toNat 0*1)) λt25=>Hl bK r 2 λpd nK pO=>((0:Int)<=1/\1<=(nK:Int))/\aH bK (AA r 2) (.slice (da pd pO (toNat 1) 1) (nK - (toNat 1)) (pO - (toNat 1))) λcK=>aK (λ(t52:Bool) (cR:aj)=>if t52 then Cl F.iY #[.P r 0,.I 3] cR λgS cX=>gS=.tuple #[]/\J cX else if wrap .i64 (7*i)<0 then False else if((wrap .u8 ((BitVec.ofInt (IntKind.bits .u8) t25 &&& BitVec.ofInt (IntKind.bits .u8) 128).toNat:Int))==0) then R (.U (wrap .u64 ((BitVec.ofInt (IntKind.bits .u64) n|||BitVec.ofInt (IntKind.bits .u64) (wrap .u64 ((wrap .u64 (wrap .u8 ((BitVec.ofInt (IntKind.bits .u8) t25 &&& BitVec.ofInt (IntKind.bits .u8) 127).toNat:Int)))*2 ^ min (toNat (wrap .i64 (7*i))) (IntKind.bits .u64)))).toNat:Int))) cR else(I (wrap .u64 ((BitVec.ofInt (IntKind.bits .u64) n|||BitVec.ofInt (IntKind.bits .u64) (wrap .u64 ((wrap .u64 (wrap .u8 ((BitVec.ofInt (IntKind.bits .u8) t25 &&& BitVec.ofInt (IntKind.bits .u8) 127).toNat:Int)))*2 ^ min (toNat (wrap .i64 (7*i))) (IntKind.bits .u64)))).toNat:Int)) (wrap .i64 (i+1)) cR/\mu (wrap .u64 ((BitVec.ofInt (IntKind.bits .u64) n|||BitVec.ofInt (IntKind.bits .u64) (wrap .u64 ((wrap .u64 (wrap .u8 ((BitVec.ofInt (IntKind.bits .u8) t25 &&& BitVec.ofInt (IntKind.bits .u8) 127).toNat:Int)))*2 ^ min (toNat (wrap .i64 (7*i))) (IntKind.bits .u64)))).toNat:Int)) (wrap .i64 (i+1)) cR<mu n i aZ)) (λjo=>if(i==10) then jo true cK else if((wrap .i64 (i*7))==63) then if(decide (t25>1)) then jo true cK else if(t25==0) then jo (decide (i>0)) cK else jo false cK else if(t25==0) then jo (decide (i>0)) cK else jo false cK) else J bK)):Cl F.iX #[.P r 0] h R:=aS (lq (lq (sq (lq (.join [] (bq (.loop [(3,.one (.int .u64)),(4,.one (.int .i64))] (sq (lq (cq lf lf)) (sq (bq (sq (lq (cq ll lf)) (lq (lq (sq (sq (.join [(52,.one (.bool))] lf) (cq ll lf)) (lq (lq (cq ll lf)))))))) lf)))))) ll))) Tryz.func92 hv
theorem kh.walk {r:Nat} {top:Int} (hv:Cl F.iX #[.P r 0] h λv aR=> ∃t7,v=.U t7/\if(decide (t7>top)) then Cl F.iY #[.P r 0,.I 3] aR λeK aZ=>eK=.tuple #[]/\R (.U 0) aZ else R (.U t7) aR):Cl F.kh #[.P r 0,.U top] h R:=aS (lq (lq (sq (lq (cq (lq ll) lf)) ll))) Tryz.func145 hv
theorem jC.walk {r:Nat} (hv:Cl F.kh #[.P r 0,.U 1099511627776] h λv aR=> ∃t4,v=.U t4/\R (.I (wrap .i64 t4)) aR):Cl F.jC #[.P r 0] h R:=aS (lq ll) Tryz.func93 hv
theorem mi.walk {r:Nat} (hv:Cl F.iX #[.P r 0] h λv aR=>Vu v λt6=>Cl F.jY #[.P r 0] aR λeK aZ=> ∃t8,eK=.bool t8/\if(!t8) then R (.Z) aZ else∃Bi vf Bj,ak aZ (AA r 2)=some (.slice Bi vf Bj)/\if(decide (t6>(wrap .u64 (vf:Int)))) then Cl F.iY #[.P r 0,.I 8] aZ λgS bK=>gS=.tuple #[]/\R (.Z) bK else Hl aZ r 2 λacg ahX Wb=>((0:Int)<=t6/\t6<=(Wb:Int))/\Cl F.cv #[.slice (da acg Wb 0 1) ((toNat t6) - 0) (Wb - 0)] aZ λkV cC=>Vl kV λBl zD Fl=>Hl cC r 2 λrG pP rH=>((0:Int)<=t6/\t6<=(pP:Int))/\aH cC (AA r 2) (.slice (da rG rH (toNat t6) 1) (pP - (toNat t6)) (rH - (toNat t6))) λcK=>R (.slice Bl zD Fl) cK):Cl F.mi #[.P r 0] h R:=aS (lq (lq (sq (lq (cq ll lf)) (sq (lq (cq (lq ll) lf)) (lq (lq ll)))))) Tryz.func94 hv
theorem mU.walk {r:Nat} (hv:aK (λ(t3:Bool) (aR:aj)=>if t3 then R (.I 6) aR else∃t18,ak aR (AA r 0)=some (.I t18)/\if(t18 !=0) then∃t24,ak aR (AA r 0)=some (.I t24)/\R (.I t24) aR else∃Bm ye CA,ak aR (AA r 2)=some (.slice Bm ye CA)/\if(decide ((ye:Int)>0)) then R (.I 2) aR else R (.I 0) aR) (λJ=> ∃t10,ak h (AA r 1)=some (.bool t10)/\J (!t10) h)):Cl F.mU #[.P r 0] h R:=aS (lq (sq (bq (sq (.join [(3,.one (.bool))] lf) (cq ll (lq (cq ll (lq (cq ll lf))))))) ll)) Tryz.func95 hv
end
section
namespace vg
variable {h:aj} {bs:List UInt8} {R:iI}
theorem tU:Ap Tryz.prog T.du T.uint8 1 1 (.int .u8 0):=⟨by kernel_rfl,by kernel_rfl,rfl⟩
theorem uU:Tryz.prog.underlying T.du=some (.slice T.uint8):=by kernel_rfl
theorem u8:Tryz.prog.underlying T.uint8=some (.int .u8):=by kernel_rfl
theorem uS:Tryz.prog.underlying T.string=some .string:=by kernel_rfl
theorem conv {p:bV} {n c:Nat} (hr:Row h p (bc bs)) (hn:n=bs.length):DQ Tryz.prog T.du T.string (.slice p n c) h (str bs):=abQ uU u8 uS hr hn
theorem mz {p:bV} {c n:Nat} (hr:Row h p (bc bs)) (hn:n=bs.length) (hl:bs.length<=70368744177664)
  (hk: ∀p' c' h',iS h' p' bs.length c' 1 (bc bs)->Fr No h h'->(∀x,aQ p' x->h.size<=x)->R (.slice p' bs.length c') h'):
  Cl F.cv #[.slice p n c] h R:=by
 subst hn;refine cv.walk ?_;cases p with
 |none=>
  have:bs= []:=by
   rcases hr with hr|⟨a,e,_⟩
   ·cases bs with
    |nil=>rfl
    |cons b bs=>cases hr
   ·cases e
  subst this;exact hk none 0 h (.nil rfl rfl rfl rfl) (Fr.refl _ _) (λx ⟨a,e,_⟩=>by cases e)
 |some a=>
  simp only[Option.isNone_some,aA,aU];refine cY ?_;have f1:Fr No h (h.push (.cells #[] T.uint8)):=Fr.push _ _;refine fR (cs:= []) tU uU (.row h.size 0 #[] T.uint8 rfl cA (bh _) (by simp) rfl (λj v hj=>by cases hj)) (hr.frame f1 (λ_ _=>id)) (by rw[sV,cO]) (Ch bs) (by omega) (by omega) ?_;intro p' c' h' o1 _ f2 g;rw[cf,ft] at o1;refine⟨_,_,_,rfl,?_⟩;rw[cf];have g': ∀x,aQ p' x->h.size<=x:=λx hx=>by
   rcases g x hx with⟨a,e,rfl⟩|h2
   ·cases e;exact bh _
   ·simp at h2;omega
  exact hk p' c' h' o1 (f1.step f2 (λc hc ⟨a,e,e2⟩=>by cases e;simp at e2;omega)) g'
theorem ajK {bs:List UInt8} {n:Nat} {cs:Array Value} {K:bV->Nat->Nat->aj->Prop} (hc:cs=(bc bs).toArray) (hk: ∀h',Row h' (some (AA h.size 0)) (bc bs)->Fr No h h'->K (some (AA h.size 0)) n n h'):
  aV h (.cells cs T.uint8) λb cC=>aX Tryz.prog (convert T.du T.du (.slice (some (AA b 0)) n n)) cC λv cK=> ∃(p:bV) (l c:Nat),v=.slice p l c/\K p l c cK:=by
 subst hc;refine cY (afl uU u8 (a:=(AA h.size 0)) cA λh4 fz4 mb sz4 ot4=>⟨_,_,_,rfl,?_⟩);refine hk h4 (.inr ⟨_,rfl,lS mb (λj v hj=>by rw[cf];simpa using hj)⟩) ⟨by rw[sz4];simp,λc hc _=>by rw[ot4 c (by simp;omega),iA,dM]⟩
end vg
end
end Go.Proofs.YtlenamcfacpheaaGreatDoor
namespace Go.jH
def CB:Nat->Nat->List UInt8
 |0,n=> [UInt8.ofNat n]
 |f+1,n=>if n>127 then UInt8.ofNat (n%128+128)::CB f (n/128) else [UInt8.ofNat n]
def lE (n:Nat):List UInt8:=CB 9 n
theorem MU: ∀(f n:Nat),n<128 ^ (f+1)->CB (f+1) n=CB f n
 |0,n,h=>by
  unfold CB;rw[dM]
 |f+1,n,h=>by
  rw[show CB (f+1+1) n=if n>127 then UInt8.ofNat (n%128+128)::CB (f+1) (n/128) else [UInt8.ofNat n] from rfl,
   show CB (f+1) n=if n>127 then UInt8.ofNat (n%128+128)::CB f (n/128) else [UInt8.ofNat n] from rfl]
  split
  ·rw[MU f (n/128) (by rw[Nat.pow_succ] at h;omega)]
  ·rfl
theorem HT {n:Nat} (h:n<18446744073709551616):lE n=if n>127 then UInt8.ofNat (n%128+128)::lE (n/128) else [UInt8.ofNat n]:=by
 unfold lE;rw[CB];split
 ·rw[<-MU 8 (n/128) (by omega)]
 ·rfl
theorem RG: ∀(f n:Nat),1<=(CB f n).length/\(CB f n).length<=f+1
 |0,n=>by simp[CB]
 |f+1,n=>by
  have:=RG f (n/128);rw[CB];split
  ·simp only[bj];omega
  ·simp
theorem j4 (n:Nat):1<=(lE n).length/\(lE n).length<=10:=RG 9 n
def HG:Nat->Nat->Nat
 |0,_=>1
 |f+1,n=>if n>127 then HG f (n/128)+1 else 1
def TM:Nat->Nat->List UInt8->Nat×Int×List UInt8
 |_,_, []=>(0,8, [])
 |i,n,c::bs=>
  if i=10\/(i=9/\c.toNat>1)\/(c.toNat=0/\i>0) then(0,3,bs)
  else if c.toNat<128 then(n+c.toNat%128*2 ^ (7*i),0,bs)
  else TM (i+1) (n+c.toNat%128*2 ^ (7*i)) bs
def gA (e:Int) (bs:List UInt8):Nat×Int×List UInt8:=if e=0 then TM 0 0 bs else(0,e,bs)
theorem ach: ∀(bs:List UInt8) (i n:Nat),i<=10->n<2 ^ (7*i)->n<18446744073709551616->(TM i n bs).1<18446744073709551616
 | [],_,_,_,_,_=>by simp[TM]
 |c::bs,i,n,hi,hn,hn2=>by
  rw[TM];split
  ·simp
  ·rename_i Gw;have hc:c.toNat%128<128:=Nat.mod_lt _ (by omega);have Uv:n+c.toNat%128*2 ^ (7*i)<18446744073709551616/\n+c.toNat%128*2 ^ (7*i)<2 ^ (7*(i+1)):=by
    have hp:(2:Nat) ^ (7*(i+1))=128*2 ^ (7*i):=by rw[Nat.mul_add,Nat.pow_add,je]
    have h1:(c.toNat%128+1)*2 ^ (7*i)<=128*2 ^ (7*i):=df _ (by omega);rw[gk] at h1;refine⟨?_,by omega⟩;by_cases h9:i=9
    ·subst h9;have:c.toNat<=1:=by omega
     have:c.toNat%128<=1:=by omega
     omega
    ·have:(2:Nat) ^ (7*(i+1))<=2 ^ 63:=iO (by omega) (by omega);omega
   split
   ·exact Uv.1
   ·exact ach bs (i+1) _ (by omega) Uv.2 Uv.1
theorem Uw (e:Int) (bs:List UInt8):(gA e bs).1<18446744073709551616:=by
 unfold gA;split
 ·exact ach bs 0 0 (by omega) (by simp) (by omega)
 ·simp
theorem Pd: ∀(bs:List UInt8) (i n:Nat),(TM i n bs).2.2.length<=bs.length
 | [],_,_=>by simp[TM]
 |c::bs,i,n=>by
  rw[TM];split
  ·simp
  ·split
   ·simp
   ·have:=Pd bs (i+1) (n+c.toNat%128*2 ^ (7*i));simp only[bj];omega
theorem Wc: ∀(f n i acc:Nat) (rest:List UInt8),i+f=9->n*2 ^ (7*i)<18446744073709551616->(n=0->i=0)->TM i acc (CB f n++rest)=(acc+n*2 ^ (7*i),0,rest)
 |0,n,i,acc,rest,hf,hn,h0=>by
  have hi:i=9:=by omega
  subst hi;have hn2:n<2:=by
   have:n*2 ^ 63<2*2 ^ 63:=hn;exact Nat.lt_of_mul_lt_mul_right this
  have kB:n≠0:=λe=>by have:=h0 e;omega
  obtain rfl:n=1:=by omega
  simp[CB,TM]
 |f+1,n,i,acc,rest,hf,hn,h0=>by
  have hp:(2:Nat) ^ (7*(i+1))=128*2 ^ (7*i):=by rw[Nat.mul_add,Nat.pow_add,je]
  have hn':n<18446744073709551616:=by
   have:n*1<=n*2 ^ (7*i):=Nat.mul_le_mul_left _ (Nat.two_pow_pos _);omega
  rw[CB];split
  ·rename_i hgt;rw[fw,TM];have hc:(UInt8.ofNat (n%128+128)).toNat=n%128+128:=by rw[gV];omega
   rw[hc,dM,dM];have e1:(n%128+128)%128=n%128:=by omega
   have hdm:n=128*(n/128)+n%128:=(Nat.div_add_mod n 128).symm;rw[Wc f (n/128) (i+1) _ rest (by omega) ?_ (λe=>by omega),e1]
   ·refine Prod.ext ?_ rfl;simp only;rw[hp];have:n/128*(128*2 ^ (7*i))=(128*(n/128))*2 ^ (7*i):=by rw[je 128 (n/128),Nat.mul_assoc]
    rw[this,Nat.add_assoc,<-gk,Nat.add_comm (n%128),<-hdm]
   ·rw[hp];have:n/128*(128*2 ^ (7*i))=(128*(n/128))*2 ^ (7*i):=by rw[je 128 (n/128),Nat.mul_assoc]
    rw[this];refine Nat.lt_of_le_of_lt (df _ ?_) hn;omega
  ·rename_i hle;rw[fw,ft,TM];have hc:(UInt8.ofNat n).toNat=n:=by rw[gV];omega
   rw[hc,dM,jy,jl (by omega)]
theorem yf {n:Nat} (hn:n<18446744073709551616) (rest:List UInt8):gA 0 (lE n++rest)=(n,0,rest):=by
 unfold gA lE;rw[ag rfl,Wc 9 n 0 0 rest (by omega) (by simpa using hn) (λ_=>rfl)];simp
def pQ (n:Int):Nat:=n.toNat
def AD (t:List UInt8):List UInt8:=lE t.length++t
def aci (e e':Int):Int:=if e=0 then e' else e
def na (top:Nat) (e:Int) (bs:List UInt8):Nat×Int×List UInt8:=
 if(gA e bs).1>top then(0,aci (gA e bs).2.1 3,(gA e bs).2.2) else gA e bs
theorem RH (top:Nat) (e:Int) (bs:List UInt8):(na top e bs).1<=top:=by
 unfold na;split
 ·exact cp _
 ·rename_i h;exact Nat.le_of_not_lt h
def uJ (e:Int) (bs:List UInt8):Nat×Int×List UInt8:=na 1099511627776 e bs
def rJ (e:Int) (bs:List UInt8):List UInt8×Int×List UInt8:=
 if(gA e bs).2.1=0 then
  (if(gA e bs).1>(gA e bs).2.2.length then([],8,(gA e bs).2.2)
  else((gA e bs).2.2.take (gA e bs).1,0,(gA e bs).2.2.drop (gA e bs).1))
 else([],(gA e bs).2.1,(gA e bs).2.2)
def Fm (e:Int) (bs:List UInt8):Int:=if e=0 then(if bs= [] then 0 else 2) else e
theorem AE {top n:Nat} (hn:n<=top) (ht:top<18446744073709551616) (y:List UInt8):na top 0 (lE n++y)=(n,0,y):=by
 unfold na;rw[yf (by omega)];rw[ai (by show¬n>top;omega)]
theorem Pe {t:List UInt8} (ht:t.length<18446744073709551616) (y:List UInt8):rJ 0 (AD t++y)=(t,0,y):=by
 unfold rJ AD;rw[dV,yf ht];dsimp only;rw[ag rfl,ai (by rw[aF];omega)];simp
theorem CC (e:Int) (bs:List UInt8):(gA e bs).2.2.length<=bs.length:=by
 unfold gA;split
 ·exact Pd bs 0 0
 ·exact bh _
theorem AF (top:Nat) (e:Int) (bs:List UInt8):(na top e bs).2.2.length<=bs.length:=by
 unfold na;split<;>exact CC e bs
end Go.jH
namespace Go.Proofs.YtlenamcfacpheaaGreatDoor
open Go.Den
open IntKind (wrap)
open Int (toNat)
section
open Go.jH
namespace vg
variable {h h0:aj} {w r:Nat} {S:Nat→Prop} {bs:List UInt8} {e:Int} {R:iI}
def Wr (h:aj) (w:Nat) (S:Nat->Prop) (bs:List UInt8):Prop:=
 ∃p c,h[w]? =some (.cells #[.bool true,.slice p bs.length c] T.yK (0,0))/\iS h p bs.length c 1 (bc bs)/\¬aQ p w/\∀x,S x↔x=w\/aQ p x
theorem Wr.lt (H:Wr h w S bs): ∀x,S x->x<h.size:=by
 obtain⟨p,c,hb,o,_,hs⟩:=H;intro x hx;rcases(hs x).1 hx with rfl|hx
 ·exact aI hb
 ·exact o.gn hx
theorem pE (hk: ∀h' w S,Wr h' w S []->Fr No h h'->(∀x,S x->h.size<=x)->R (.P w 0) h'):Cl F.wU #[] h R:=by
 refine wU.walk (cY ?_);refine hk _ _ (λx=>x=h.size) ⟨none,0,cA,.nil rfl rfl rfl rfl,(λ⟨a,e,_⟩=>by cases e),λx=> ?_⟩ (Fr.push _ _) (λx hx=>by omega);constructor
 ·exact .inl
 ·rintro(hx|⟨a,e,_⟩)
  ·exact hx
  ·cases e
theorem Wr.store {p p':bV} {c c' n:Nat} {h1:aj} {cs:List UInt8} {K:aj->Prop} (hb:h[w]? =some (.cells #[.bool true,.slice p bs.length c] T.yK (0,0))) (hw: ¬aQ p w) (hs: ∀x,S x↔x=w\/aQ p x)
  (o:iS h1 p' (bs.length+n) c' 1 (bc bs++bc cs)) (f:Fr (aQ p) h h1) (g: ∀x,aQ p' x->aQ p x\/h.size<=x) (hn:n=cs.length)
  (hk: ∀h' S',Wr h' w S' (bs++cs)->Step S h S' h'->K h'):aH h1 (AA w 1) (.slice p' (bs.length+n) c') K:=by
 subst hn;have dx:=f.get hb hw;have jc:=aI hb;have hw': ¬aQ p' w:=λhx=>(g w hx).elim hw (λh2=>by omega)
 refine bM dx (by simp) λh' k1 k2 k3=> ?_
 have f2:Fr (λx=>x=w) h1 h':=Fr.of_eq k2 k3;refine hk h' (λx=>x=w\/aQ p' x) ⟨p',c',?_,?_,hw',λx=>fZ⟩ ⟨?_,?_⟩
 ·rw[k1,aF];rfl
 ·rw[aF,sw];exact o.frame f2 (λx hx e=>hw' (e▸hx))
 ·exact f.trans f2 (λx _ hx=>(hs x).2 (.inr hx)) (λx _ hx=>(hs x).2 (.inl hx))
 ·rintro x (hx|hx)
  ·exact .inl ((hs x).2 (.inl hx))
  ·exact(g x hx).imp (λh2=>(hs x).2 (.inr h2)) id
theorem Wr.push {x:Int} {b:UInt8} {K:aj->Prop} (H:Wr h w S bs) (hl:bs.length<=1099511627786) (hx:x=(b.toNat:Int)) (hk: ∀h' S',Wr h' w S' (bs++ [b])->Step S h S' h'->K h'):
  ∃(p:bV) (l c:Nat),ak h (AA w 1)=some (.slice p l c)/\
  aV h (.cells #[.int .u8 x] T.uint8) λb aR=>
  aX Tryz.prog (Builtin.append_ #[T.du,T.du] T.du #[.slice p l c,.slice (some (AA b 0)) 1 1]) aR λv aZ=>
  ∃(q:bV) (m d:Nat),v=.slice q m d/\aH aZ (AA w 1) (.slice q m d) K:=by
 obtain⟨p,c,hb,o,hw,hs⟩:=H;refine⟨p,bs.length,c,af hb rfl,?_⟩;refine qb tU uU o rfl (λv hv=>by simp at hv;subst hv;rfl) (by omega) (by omega) ?_;intro p' c' h1 o1 f1 g1;subst hx;exact⟨_,_,_,rfl,Wr.store (cs:= [b]) hb hw hs o1 f1 g1 rfl hk⟩
def ap8 (h0:aj) (w:Nat) (S0:Nat->Prop) (bs:List UInt8) (n0:Nat) (n:Int) (h:aj):Prop:=
 ∃(m:Nat) (S:Nat->Prop) (d:List UInt8),n=(m:Int)/\m<18446744073709551616/\Wr h w S (bs++d)/\d++lE m=lE n0/\Step S0 h0 S h
theorem jw {n:Int} (k:Nat) (H:Wr h w S bs) (hl:bs.length<=1099511627776) (e:n=(k:Int)) (hn:k<18446744073709551616)
  (hk: ∀h' S',Wr h' w S' (bs++lE k)->Step S h S' h'->R (.P w 0) h'):Cl F.iW #[.P w 0,.U n] h R:=by
 subst e;refine iW.walk ?_;obtain⟨p,c,hb,_⟩:=id H;refine aK.of λJ hJ=>⟨true,af hb rfl,?_⟩
 subst hJ;simp only[dX,aA,aU];clear hb;refine⟨ap8 h w S bs k,λn _=>n.toNat,⟨k,S, [],rfl,hn,by simpa using H,rfl,Step.refl _ _⟩,?_⟩;rintro _ h2 ⟨m,S2,d,rfl,hm,H2,hd,st⟩;have hdl:d.length<=10:=by
  have:=bp List.length hd;rw[aF] at this;have:=(j4 k).2;omega
 by_cases hgt:(m:Int)>127
 ·simp only[hgt,decide_true,bA];refine H2.push (by rw[aF];omega) (al9 m) λh5 S5 H5 Wd=> ?_
  rw[apQ];refine⟨⟨m/128,S5,d++ [UInt8.ofNat (m%128+128)],rfl,by omega,by rwa[dV] at H5,?_,st.trans Wd⟩,?_⟩
  ·rw[<-hd,HT hm,jy];simp
  ·show Int.toNat ((m/128:Nat):Int)<Int.toNat (m:Int);omega
 ·simp only[hgt,decide_false,aA,aU];refine H2.push (by rw[aF];omega) (b:=UInt8.ofNat m) (by rw[uT,gV]) λh5 S5 H5 Wd=> ?_
  refine hk h5 S5 ?_ (st.trans Wd);rwa[<-hd,HT hm,dM,<-dV]
theorem ap9 (n:Int) (h2:n<=9223372036854775807):IntKind.wrap .u64 (if 0>n then 0 else n)=((pQ n:Nat):Int):=by
 unfold pQ;split
 ·rw[wrap_u64 (by omega) (by omega)];omega
 ·rw[wrap_u64 (by omega) (by omega)];omega
theorem Ux {n:Int} (H:Wr h w S bs) (hl:bs.length<=1099511627776) (hn:n<=9223372036854775807)
  (hk: ∀h' S',Wr h' w S' (bs++lE (pQ n))->Step S h S' h'->R (.P w 0) h'):Cl F.jB #[.P w 0,.I n] h R:=
 jB.walk (jw (pQ n) H hl (ap9 n hn) (by unfold pQ;omega) λh' S' H' st=>⟨_,rfl,hk h' S' H' st⟩)
theorem acj {p:bV} {n c:Nat} {t:List UInt8} (H:Wr h w S bs) (hl:bs.length<=1099511627776) (hr:Row h p (bc t)) (hn:n=t.length) (ht:t.length<=1099511627776) (hp: ∀x,aQ p x->t≠ []->¬S x)
  (hk: ∀h' S',Wr h' w S' (bs++AD t)->Step S h S' h'->R (.P w 0) h'):Cl F.mh #[.P w 0,.slice p n c] h R:=by
 subst hn;refine mh.walk (jw t.length H hl (wrap_u64 (by omega) (by omega)) (by omega) λh1 S1 H1 st1=>⟨_,rfl,?_⟩);obtain⟨q,d,hb,o,hw,hs⟩:=H1;refine aK.of λJ hJ=>⟨true,af hb rfl,?_⟩
 subst hJ;refine aK.of λJ hJ=> ?_
 simp only[bA];subst hJ;refine⟨q,_,d,af hb rfl,?_⟩;have hlen:=(j4 t.length).2;rw[aF];rw[aF] at o;refine fR tU uU o (by
  by_cases kB:t= []
  ·rw[kB];exact .inl rfl
  ·exact hr.frame st1.fr (λa e hx=>hp _ ⟨a,e,rfl⟩ kB hx)) (by rw[sV,cO]) (Ch t) (by omega) (by omega) ?_
 intro p' c' h' o1 _ f2 g;refine⟨_,_,_,rfl,?_⟩;rw[aF] at hb;have:=Wr.store (n:=t.length) (cs:=t) (K:=λcK=>R (Value.pointer (some { block:=w,off:=0 })) cK) (bs:=bs++lE t.length) (by rw[aF];exact hb) hw hs (by rw[aF];exact o1) f2 g rfl λh2 S2 H2 AG=> ?_
 ·rw[aF] at this;exact this
 ·exact hk h2 S2 (by unfold AD;rwa[dV] at H2) (st1.trans AG)
theorem zE (H:Wr h w S bs) (hl:bs.length<=70368744177664)
  (hk: ∀p' c' h',iS h' p' bs.length c' 1 (bc bs)->Fr No h h'->(∀x,aQ p' x->h.size<=x)->R (.slice p' bs.length c') h'):Cl F.lg #[.P w 0] h R:=by
 obtain⟨p,c,hb,o,hw,hs⟩:=H;exact lg.walk ⟨p,_,c,af hb rfl,mz o.qa rfl hl λp' c' h' o1 f1 g1=>⟨_,_,_,rfl,hk p' c' h' o1 f1 g1⟩⟩
def Rd (h:aj) (r:Nat) (S:Nat->Prop) (e:Int) (bs:List UInt8):Prop:=
 ∃p c,h[r]? =some (.cells #[.int .i64 e,.bool true,.slice p bs.length c] T.DT (0,0))/\iS h p bs.length c 1 (bc bs)/\¬aQ p r/\S r/\(∀x,aQ p x->S x)/\∀x,S x->x<h.size
theorem Rd.lt (H:Rd h r S e bs): ∀x,S x->x<h.size:=by
 obtain⟨p,c,_,_,_,_,_,hs⟩:=H;exact hs
theorem Rd.self (H:Rd h r S e bs):S r:=by
 obtain⟨p,c,_,_,_,hs,_,_⟩:=H;exact hs
theorem Rd.frame {Q:Nat->Prop} {h':aj} (H:Rd h r S e bs) (hf:Fr Q h h') (hn: ∀x,S x->¬Q x):Rd h' r S e bs:=by
 obtain⟨p,c,hb,o,hr,h1,h2,h3⟩:=H;exact⟨p,c,hf.get hb (hn r h1),o.frame hf (λx hx=>hn x (h2 x hx)),hr,h1,h2,λx hx=>cT (h3 x hx) hf.1⟩
theorem Fo {p:bV} {n c:Nat} (hr:Row h p (bc bs)) (hn:n=bs.length) (hl:bs.length<=70368744177664)
  (hk: ∀h' r S,Rd h' r S 0 bs->Fr No h h'->(∀x,S x->h.size<=x)->R (.P r 0) h'):Cl F.uX #[.slice p n c] h R:=by
 refine uX.walk (mz hr hn hl λp' c' h1 o1 f1 g1=>⟨_,_,_,rfl,cY ?_⟩);refine hk _ _ (λx=>h.size<=x/\x<=h1.size) ⟨p',c',cA,o1.frame (Fr.push (S:=λ_=>False) _ _) (λ_ _=>id),?_,⟨f1.1,bh _⟩,?_,?_⟩ (Fr.on f1 (Fr.push _ _)) (λx hx=>hx.1)
 ·intro hx;have:=o1.gn hx;omega
 ·intro x hx;have:=o1.gn hx;exact⟨g1 x hx,by omega⟩
 ·intro x hx;rw[fP];omega
theorem vS {e':Int} (H:Rd h r S e bs) (hk: ∀h',Rd h' r S (aci e e') bs->Fr (λx=>x=r) h h'->R (.tuple #[]) h'):Cl F.iY #[.P r 0,.I e'] h R:=by
 obtain⟨p,c,hb,o,hr,h1,h2,h3⟩:=id H;refine iY.walk ⟨e,af hb rfl,?_⟩;unfold aci at hk;by_cases h0:e=0
 ·subst h0;simp only[beq_self_eq_true,bA];refine bM hb (by simp) λh' k1 k2 k3=> ?_
  have f:Fr (λx=>x=r) h h':=Fr.of_eq k2 k3;exact hk h' ⟨p,c,k1,o.frame f (λx hx e=>hr (e▸hx)),hr,h1,h2,λx hx=>by rw[k2];exact h3 x hx⟩ f
 ·simp only[dA,h0,aU];simp only[h0,aU] at hk;exact hk h H (Fr.refl _ _)
theorem Pf (H:Rd h r S e bs) (hk:R (.bool (e==0)) h):Cl F.jY #[.P r 0] h R:=by
 obtain⟨p,c,hb,o,hr,h1,h2,h3⟩:=H;exact jY.walk ⟨true,af hb rfl,e,af hb rfl,hk⟩
def amp (h0:aj) (r:Nat) (S:Nat->Prop) (bs:List UInt8) (n i:Int) (h:aj):Prop:=
 ∃(k a:Nat) (rest:List UInt8),i=(k:Int)/\n=(a:Int)/\k<=10/\a<2 ^ (7*k)/\a<18446744073709551616/\Rd h r S 0 rest/\Fr (λx=>x=r) h0 h/\TM k a rest=TM 0 0 bs
theorem Ja (H:Rd h r S e bs) (hk: ∀h',Rd h' r S (gA e bs).2.1 (gA e bs).2.2->Fr (λx=>x=r) h h'->R (.U ((gA e bs).1:Int)) h'):
  Cl F.iX #[.P r 0] h R:=by
 refine iX.walk (aK.of λJ hJ=> ?_);by_cases he:e=0
 ·subst he;unfold gA at hk;rw[ag rfl] at hk;refine⟨amp h r S bs,λ_ i _=>11 - i.toNat,⟨0,0,bs,rfl,rfl,by omega,by simp,by omega,H,Fr.refl _ _,rfl⟩,?_⟩;rintro _ _ h2 ⟨k,a,rest,rfl,rfl,arN,ha,ha2,H2,f2,hrd⟩;refine Pf H2 ⟨_,rfl,?_⟩;simp only[beq_self_eq_true,bA];obtain⟨p,c,hb,o,hr,h1,qZ,h3⟩:=id H2;refine⟨p,_,c,af hb rfl,?_⟩;cases rest with
  |nil=>
   simp only[bD,Int.natCast_zero,beq_self_eq_true,bA];refine vS H2 λh4 H4 f4=>⟨rfl,?_⟩
   subst hJ;rw[TM] at hrd;rw[<-hrd] at hk;exact hk h4 H4 (f2.tt f4)
  |cons b rest=>
   have kB:((((b::rest).length:Nat):Int)==0)=false:=by simp only[bj,beq_eq_false_iff_ne,iq];omega
   simp only[kB,aA,aU];refine⟨p,_,c,af hb rfl,⟨by omega,by simp only[bj];omega⟩,?_⟩;obtain⟨ab,AH,rfl⟩:=o.some (by rw[sV];simp);refine aB.2 ⟨(b.toNat:Int),o.cell rfl,some (AA ab AH),_,c,af hb rfl,⟨by omega,by simp only[bj];omega⟩,?_⟩;have o2:=o.sub (l:=1) (u:=(b::rest).length) (by simp) (bh _);have er:((bc (b::rest)).take ((b::rest).length*1)).drop (1*1)=bc rest:=by
    simp only[cO];rw[bT (by rw[sV];exact bh _)];rfl
   rw[er] at o2;have el:(b::rest).length - Int.toNat 1=rest.length:=by simp
   rw[el];have el2:(b::rest).length - 1=rest.length:=by simp
   rw[el2] at o2;refine bM hb (by simp) λh5 k1 k2 k3=> ?_
   have f5:Fr (λx=>x=r) h2 h5:=Fr.of_eq k2 k3;have H5:Rd h5 r S 0 rest:=⟨_,_,k1,o2.frame f5 (λx hx e=>hr (e▸wm hx)),λhx=>hr (wm hx),h1,λx hx=>qZ x (wm hx),λx hx=>by rw[k2];exact h3 x hx⟩;have f25:=f2.tt f5;clear o2 k1 k2 k3 f5 er el el2 kB o hb qZ h3 hr;have w1:IntKind.wrap .i64 ((k:Int)*7)=((7*k:Nat):Int):=by rw[bL (by omega) (by omega)];omega
   have w2:IntKind.wrap .i64 (7*(k:Int))=((7*k:Nat):Int):=by rw[bL (by omega) (by omega)];omega
   have w3:IntKind.wrap .i64 ((k:Int)+1)=((k+1:Nat):Int):=by rw[bL (by omega) (by omega)];omega
   have hb:=b.toNat_lt;rw[TM] at hrd;refine aK.of λJ1 pB=> ?_
   have fin:J1 (decide (k=10\/(k=9/\b.toNat>1)\/(b.toNat=0/\k>0))) h5:=by
    subst pB;by_cases afv:k=10\/(k=9/\b.toNat>1)\/(b.toNat=0/\k>0)
    ·simp only[afv,decide_true,bA];rw[ag afv] at hrd;refine vS H5 λh7 H7 f7=>⟨rfl,?_⟩
     subst hJ;rw[<-hrd] at hk;exact hk h7 H7 (f25.tt f7)
    ·simp only[afv,decide_false,aA,aU];rw[ai afv] at hrd;rw[w2,w3,dM,ajD,ajE];have hd:b.toNat%128*2 ^ (7*k)<18446744073709551616:=by
      by_cases h9:k=9
      ·subst h9;have:b.toNat%128<=1:=by omega
       have:=df (2 ^ (7*9)) this;omega
      ·have h8:k<=8:=by omega
       have p1:(2:Nat) ^ (7*k)<=2 ^ 56:=iO (by omega) (by omega);have p2:b.toNat%128<=127:=by omega
       have:=Nat.mul_le_mul p2 p1;omega
     have key:IntKind.wrap .u64 ((b.toNat%128:Nat):Int)=((b.toNat%128:Nat):Int):=Aq (by omega);have k64:7*k<=64:=by omega
     rw[key,ajF ha hd k64];by_cases jc:b.toNat<128
     ·simp only[jc,decide_true,bA];rw[ag jc] at hrd;rw[<-hrd] at hk;exact hk h5 H5 f25
     ·simp only[jc,decide_false,aA,aU];rw[ai jc] at hrd;have h9:k<=8:=by omega
      have p3:(2:Nat) ^ (7*(k+1))=128*2 ^ (7*k):=by rw[Nat.mul_add,Nat.pow_add,je]
      have p4:b.toNat%128+1<=128:=by omega
      have p5:=df (2 ^ (7*k)) p4;rw[gk] at p5;have p6:(2:Nat) ^ (7*(k+1))<=2 ^ 63:=iO (by omega) (by omega);refine⟨⟨k+1,_,rest,rfl,rfl,by omega,by omega,by omega,H5,f25,hrd⟩,?_⟩;show 11 - Int.toNat ((k+1:Nat):Int)<11 - Int.toNat (k:Int);omega
   rw[w1];by_cases c1:k=10
   ·subst c1;simpa using fin
   ·have c1':((k:Int)==10)=false:=by simp only[beq_eq_false_iff_ne,iq];omega
    simp only[c1',aA,aU];by_cases c2:k=9
    ·subst c2;by_cases c3:b.toNat>1
     ·have c3':(b.toNat:Int)>1:=by omega
      have c4: ¬b.toNat=0:=by omega
      simpa[c3,c3',c4] using fin
     ·have c3': ¬(b.toNat:Int)>1:=by omega
      by_cases c4:b.toNat=0
      ·simpa[c3,c3',c4] using fin
      ·simpa[c3,c3',c4] using fin
    ·have c2':(((7*k:Nat):Int)==63)=false:=by simp only[beq_eq_false_iff_ne,iq];omega
     simp only[c2',aA,aU];by_cases c4:b.toNat=0
     ·have c5:decide ((k:Int)>0)=decide (k>0):=by simp
      simp only[c4,Int.natCast_zero,beq_self_eq_true,bA,c5];simpa[c1,c2,c4] using fin
     ·have c4':((b.toNat:Int)==0)=false:=by simp only[beq_eq_false_iff_ne,iq];omega
      simp only[c4',aA,aU];simpa[c1,c2,c4] using fin
 ·refine⟨λ_ _ h2=>h2=h,λ_ _ _=>0,rfl,?_⟩;rintro _ _ h2 rfl;refine Pf H ⟨_,rfl,?_⟩;have:(e==0)=false:=by simpa using he
  simp only[this,aA,aU];subst hJ;unfold gA at hk;rw[ai he] at hk;exact hk _ H (Fr.refl _ _)
theorem afw (top:Nat) {t:Int} (ht:t=(top:Int)) (H:Rd h r S e bs) (hk: ∀h',Rd h' r S (na top e bs).2.1 (na top e bs).2.2->Fr (λx=>x=r) h h'->R (.U ((na top e bs).1:Int)) h'):
  Cl F.kh #[.P r 0,.U t] h R:=by
 subst ht;refine kh.walk (Ja H λh1 H1 f1=>⟨_,rfl,?_⟩);unfold na at hk;by_cases hgt:(gA e bs).1>top
 ·have:((gA e bs).1:Int)>(top:Int):=by omega
  simp only[this,decide_true,bA];rw[ag hgt] at hk;exact vS H1 λh2 H2 f2=>⟨rfl,hk h2 H2 (f1.tt f2)⟩
 ·have: ¬((gA e bs).1:Int)>(top:Int):=by omega
  simp only[this,decide_false,aA,aU];rw[ai hgt] at hk;exact hk h1 H1 f1
theorem Pg (H:Rd h r S e bs) (hk: ∀h',Rd h' r S (uJ e bs).2.1 (uJ e bs).2.2->Fr (λx=>x=r) h h'->R (.I ((uJ e bs).1:Int)) h'):
  Cl F.jC #[.P r 0] h R:=
 jC.walk (afw 1099511627776 rfl H λh1 H1 f1=>⟨_,rfl,by
  have:=RH 1099511627776 e bs;rw[bL (by omega) (by omega)];exact hk h1 H1 f1⟩)
theorem acm (H:Rd h r S e bs) (hl:bs.length<=70368744177664)
  (hk: ∀h' p c,Rd h' r S (rJ e bs).2.1 (rJ e bs).2.2->iS h' p (rJ e bs).1.length c 1 (bc (rJ e bs).1)->(∀x,aQ p x->h.size<=x)->Fr (λx=>x=r) h h'->R (.slice p (rJ e bs).1.length c) h'):
  Cl F.mi #[.P r 0] h R:=by
 refine mi.walk (Ja H λh1 H1 f1=>⟨_,rfl,Pf H1 ⟨_,rfl,?_⟩⟩);unfold rJ at hk;have jc:=Uw e bs;have hlen:(gA e bs).2.2.length<=bs.length:=by
  unfold gA;split
  ·exact Pd bs 0 0
  ·exact bh _
 generalize gA e bs=N at*;obtain⟨n,e',rest⟩:=N;dsimp only at*;by_cases h0:e'=0
 ·subst h0;simp only[beq_self_eq_true,dX,aA,aU];obtain⟨p,c,hb,o,hr,k1,k2,k3⟩:=id H1;refine⟨p,_,c,af hb rfl,?_⟩;rw[ag rfl] at hk;rw[wrap_u64 (n:=(rest.length:Int)) (by omega) (by omega)];by_cases hgt:n>rest.length
  ·have:(n:Int)>(rest.length:Int):=by omega
   simp only[this,decide_true,bA];rw[ag hgt] at hk;exact vS H1 λh2 H2 f2=>⟨rfl,hk h2 none 0 H2 (.nil rfl rfl rfl rfl) (λx ⟨a,e,_⟩=>by cases e) (f1.tt f2)⟩
  ·have: ¬(n:Int)>(rest.length:Int):=by omega
   simp only[this,decide_false,aA,aU];rw[ai hgt] at hk;have hc:=o.le;refine⟨p,_,c,af hb rfl,⟨by omega,by omega⟩,?_⟩;have oc:=o.sub (l:=0) (u:=n) (by omega) (by omega);simp only[cO,jU,afj] at oc;have etl:(rest.take n).length=n:=by rw[bR];omega
   refine mz oc.qa (by rw[etl];omega) (by omega) λp' c' h4 o4 f4 g4=>⟨_,_,_,rfl,?_⟩
   have H4:=H1.frame f4 (λ_ _=>id);obtain⟨p2,c2,fJ,o2,hr2,k1',k2',k3'⟩:=H4;refine⟨p2,_,c2,af fJ rfl,⟨by omega,by omega⟩,?_⟩;refine bM fJ (by simp) λh5 q1 q2 q3=> ?_
   have f5:Fr (λx=>x=r) h4 h5:=Fr.of_eq q2 q3;have os:=o2.sub (l:=n) (u:=rest.length) (by omega) (bh _);rw[cO,cO,<-sV rest,iF,sV,afk] at os;have edl:(rest.drop n).length=rest.length - n:=by simp
   refine hk h5 p' c' ⟨da p2 c2 n 1,c2 - n,?_,?_,λhx=>hr2 (wm hx),k1',λx hx=>k2' x (wm hx),λx hx=>by rw[q2];exact k3' x hx⟩ (o4.frame f5 (λx hx e=> ?_)) (λx hx=> ?_) (f1.tt ((f4.mono λ_ _=>False.elim).tt f5))
   ·rw[edl];simpa using q1
   ·rw[edl];exact os.frame f5 (λx hx e=>hr2 (e▸wm hx))
   ·have:=g4 x hx;have:=aI hb;omega
   ·have:=g4 x hx;have:=f1.1;omega
 ·have:(e'==0)=false:=by simpa using h0
  simp only[this,gM,bA];rw[ai h0] at hk;exact hk h1 none 0 H1 (.nil rfl rfl rfl rfl) (λx ⟨a,e,_⟩=>by cases e) f1
theorem afx (H:Rd h r S e bs) (hk:R (.I (Fm e bs)) h):Cl F.mU #[.P r 0] h R:=by
 obtain⟨p,c,hb,o,hr,k1,k2,k3⟩:=H;refine mU.walk (aK.of λJ hJ=>⟨true,af hb rfl,?_⟩);subst hJ;simp only[dX,aA,aU];refine⟨e,af hb rfl,?_⟩;unfold Fm at hk;by_cases h0:e=0
 ·subst h0;simp only[bne_self_eq_false,aA,aU];refine⟨p,_,c,af hb rfl,?_⟩;rw[ag rfl] at hk;cases bs with
  |nil=>exact hk
  |cons b bs=>
   have:(((b::bs).length:Nat):Int)>0:=by simp only[bj];omega
   simp only[this,decide_true,bA];rwa[ai (by simp)] at hk
 ·have:(e !=0)=true:=by simpa using h0
  simp only[this,bA];rw[ai h0] at hk;exact⟨e,af hb rfl,hk⟩
end vg
end
end Go.Proofs.YtlenamcfacpheaaGreatDoor
namespace Go.Den
theorem afy {P:Program} {sT dT e:TypeId} {h:aj} {s:ByteArray} {K:iI} (hs:P.underlying sT=some .string) (hd:P.underlying dT=some (.slice e)) (he:P.underlying e=some (.int .u8))
  (hk: ∀p c h',Row h' p (bc s.data.toList)->s.size<=c->Fr No h h'->(∀y,aQ p y->h.size<=y)->K (.slice p s.size c) h'):aX P (convert sT dT (.string s)) h K:=by
 unfold convert;refine bY (s:=underlying sT) (bE hs) ?_;refine bY (s:=underlying dT) (bE hd) ?_;show aX P (underlying e>>=_) h K;refine bY (s:=underlying e) (bE he) ?_;show aX P (Conv.stringToBytes e s) h K;unfold Conv.stringToBytes;rw[fa];unfold choose;simp only[aX,Question.forced,aA,aU,Question.cut];intro tq;generalize OQ:s.size+tq%(2 ^ 63 - s.size)=cap;have hle:s.size<=cap:=by omega
 generalize BG:(s.data.map λb=>Value.int .u8 (b.toNat:Int))++Array.replicate (cap - s.size) (Value.int .u8 0)=cs;have GG: ∀j v,(bc s.data.toList)[j]? =some v->cs[0+j]? =some v:=λj v hj=>by
  have Cg:=(aG.1 hj).1;rw[sV,fU] at Cg;rw[<-BG,cf,eY (by simpa using Cg),Array.getElem?_map,<-hj];unfold bc;rw[aO,eg]
 show aX P (newRow e cs>>=_) h K;rw[fa];show aX P (markStringish (AA h.size 0)>>=λ_=>pure (.slice (some (AA h.size 0)) s.size cap)) (h.push (.cells cs e)) K;rw[fa];unfold markStringish shape;have hsh:Ae (h.push (.cells cs e)) h.size=some (e,cs.size):=by simp[Ae]
 show aX P (match Ae (h.push (.cells cs e)) h.size with|some (_,n)=>freeze { block:=h.size,off:=n } 1|_=>pure ()) (h.push (.cells cs e)) _;rw[hsh];show K (.slice (some (AA h.size 0)) s.size cap) (Ag (h.push (.cells cs e)) { block:=h.size,off:=cs.size } 1);unfold Ag;rw[dM];refine hk _ _ _ (.inr ⟨_,rfl,lS (c:=cs) (t:=e) (f:=if(0:Nat)==0 then(cs.size,cs.size+1) else(min 0 cs.size,max 0 (cs.size+1))) ?_ GG⟩) hle ⟨by simp,λc hc _=> ?_⟩ (λy ⟨a,ea,ey⟩=>by cases ea;exact Nat.le_of_eq ey)
 ·rw[fE,ag rfl,cA];rfl
 ·rw[fE,ai (by simp;omega),iA,dM]
end Go.Den
namespace Go.Proofs.YtlenamcfacpheaaGreatDoor
open Go.Den
namespace vg
variable {h h' h0 : aj} {R : Value → aj → Prop}
theorem s2b {s:ByteArray} {K:iI} (hk: ∀p c h',Row h' p (bc s.data.toList)->s.size<=c->Fr No h h'->(∀y,aQ p y->h.size<=y)->K (.slice p s.size c) h'):aX Tryz.prog (convert T.string T.du (.string s)) h K:=afy uS uU u8 hk
end vg
end Go.Proofs.YtlenamcfacpheaaGreatDoor
namespace Go.Proofs.YtlenamcfacpheaaGreatDoor
open Go.Den
open IntKind (wrap)
open Int (toNat)
section
open Go.jH
namespace vg
abbrev IG (n:BV):List Value:= [n.val]
theorem tN:Ap Tryz.prog T.zq T.du 1 24 (.Z):=⟨by kernel_rfl,by kernel_rfl,rfl⟩
theorem uN:Tryz.prog.underlying T.zq=some (.slice T.du):=by kernel_rfl
theorem Fq (n:BV):(IG n).length=1:=rfl
theorem acn (xs:List BV): ∀v∈xs.flatMap IG,jg v=true:=by
 intro v hv;obtain⟨a,_,ha⟩:=List.mem_flatMap.1 hv;simp at ha;subst ha;rfl
end vg
end
section
variable {h:aj} {R:iI}
theorem uv.walk (hv:aV h (.map #[] 0) λb aR=>aV aR (.cells #[.Z,.map (some b)] T.Cs) λcE aZ=>R (.P cE 0) aZ):Cl F.uv #[] h R:=aS (lq ll) Tryz.func87 hv
theorem lU.walk {a:Nat} (hv: ∃t9,ak h (AA a 1)=some (.map t9)/\R (.bool (!t9.isNone)) h):Cl F.lU #[.P a 0] h R:=aS (lq ll) Tryz.func114 hv
theorem mL.walk {a:Nat} (hv: ∃yM vR AB,ak h (AA a 0)=some (.slice yM vR AB)/\R (.I (vR:Int)) h):Cl F.mL #[.P a 0] h R:=aS (lq (sq (lq (cq ll lf)) ll)) Tryz.func56 hv
theorem oE.walk {xa:Int} {xc:Int} {y_0:Int} {y_1:Int} (hv:aV h (.cells #[.I xa,.U xc] T.dv) λb aR=>aV aR (.cells #[.I y_0,.U y_1] T.dv) λcE aZ=>Hu aZ b 1 λt6=> ∃t8,ak aZ (AA cE 1)=some (.U t8)/\if(decide (t6<t8)) then R (.bool true) aZ else Hu aZ b 1 λt12=> ∃t14,ak aZ (AA cE 1)=some (.U t14)/\if(t12==t14) then Hi aZ b 0 λt18=> ∃t20,ak aZ (AA cE 0)=some (.I t20)/\R (.bool (decide (t18<t20))) aZ else R (.bool false) aZ):Cl F.oE #[.agg #[.I xa,.U xc],.agg #[.I y_0,.U y_1]] h R:=aS (lq ll) Tryz.func170 hv
theorem gu.walk {a:Nat} {i:Int} {xa:Int} {xc:Int} (hv:aV h (.cells #[.I xa,.U xc] T.dv) λb aR=>Hl aR a 0 λaav aaw afu=>Hi aR b 0 λpR=>Hu aR b 1 λtD=>Bd i aaw/\aP aav λkz=>aH aR (kz.add (toNat i*2)) (.I pR) λaZ=>aH aZ ((kz.add (toNat i*2)).add 1) (.U tD) λbK=> ∃t16,ak bK (AA a 1)=some (.map t16)/\Hi bK b 0 λt18=>aX Tryz.prog (Instr.mapUpdate T.jI (.map t16) (.I t18) (.I i)) bK λ_ cC=>R (.tuple #[]) cC):Cl F.gu #[.P a 0,.I i,.agg #[.I xa,.U xc]] h R:=aS (lq (sq (pN 8) (pN 8))) Tryz.func116 hv
theorem mr.walk {a:Nat} {i:Int} (hv: ∃(I:Int->aj->Prop) (mu:Int->aj->Nat),(I i h)/\∀(sM:Int) (aR:aj),I sM aR->aK (λ(t28:Bool) (aZ:aj)=>if t28 then aK (λ(x:bV) (y:bV) (bK:aj)=>aP x λkz=>Rf bK kz λDX=>JM bK (kz.add 1) λFs=>Cl F.gu #[.P a 0,.I (wrap .i64 (Int.tdiv (wrap .i64 (sM - 1)) 2)),.agg #[.I DX,.U Fs]] bK λv cC=>v=.tuple #[]/\aP y λpF=>Rf cC pF λMV=>JM cC (pF.add 1) λMW=>Cl F.gu #[.P a 0,.I sM,.agg #[.I MV,.U MW]] cC λeK cK=>eK=.tuple #[]/\(I (wrap .i64 (Int.tdiv (wrap .i64 (sM - 1)) 2)) cK/\mu (wrap .i64 (Int.tdiv (wrap .i64 (sM - 1)) 2)) cK<mu sM aR)) (λjo=>Hl aZ a 0 λFu Fv Kl=>Bd sM Fv/\aP Fu λrZ=>Rf aZ (rZ.add (toNat sM*2)) λBo=>JM aZ ((rZ.add (toNat sM*2)).add 1) λvH=>Hl aZ a 0 λot kI oH=>Bd (wrap .i64 (Int.tdiv (wrap .i64 (sM - 1)) 2)) kI/\aP ot λvT=> ∃zF,ak aZ (vT.add (toNat (wrap .i64 (Int.tdiv (wrap .i64 (sM - 1)) 2))*2))=some (.I zF)/\∃vI,ak aZ ((vT.add (toNat (wrap .i64 (Int.tdiv (wrap .i64 (sM - 1)) 2))*2)).add 1)=some (.U vI)/\(aV aZ (.cells #[.I 0,.U 0] T.dv) λb cR=>fF (vT.add (toNat (wrap .i64 (Int.tdiv (wrap .i64 (sM - 1)) 2))*2)) [.I zF,.U vI] 0 cR/\ak cR (AA a 0)=some (.slice ot kI oH)/\fF (rZ.add (toNat sM*2)) [.I Bo,.U vH] 0 cR/\ak cR (AA a 0)=some (.slice Fu Fv Kl)/\aV cR (.cells #[.I 0,.U 0] T.dv) λcE cX=>fF (vT.add (toNat (wrap .i64 (Int.tdiv (wrap .i64 (sM - 1)) 2))*2)) [.I zF,.U vI] 0 cX/\ak cX (AA a 0)=some (.slice ot kI oH)/\fF (rZ.add (toNat sM*2)) [.I Bo,.U vH] 0 cX/\ak cX (AA a 0)=some (.slice Fu Fv Kl)/\aH cX (AA b 0) (.I Bo) λdB=>aH dB (AA b 1) (.U vH) λff=>fF (vT.add (toNat (wrap .i64 (Int.tdiv (wrap .i64 (sM - 1)) 2))*2)) [.I zF,.U vI] 0 ff/\ak ff (AA a 0)=some (.slice ot kI oH)/\aH ff (AA cE 0) (.I zF) λcQ=>aH cQ (AA cE 1) (.U vI) λcW=>jo (some (AA b 0)) (some (AA cE 0)) cW)/\(aV aZ (.cells #[.I 0,.U 0] T.dv) λeZ dE=>fF (vT.add (toNat (wrap .i64 (Int.tdiv (wrap .i64 (sM - 1)) 2))*2)) [.I zF,.U vI] 0 dE/\ak dE (AA a 0)=some (.slice ot kI oH)/\fF (rZ.add (toNat sM*2)) [.I Bo,.U vH] 0 dE/\ak dE (AA a 0)=some (.slice Fu Fv Kl)/\aV dE (.cells #[.I 0,.U 0] T.dv) λjR dG=>fF (vT.add (toNat (wrap .i64 (Int.tdiv (wrap .i64 (sM - 1)) 2))*2)) [.I zF,.U vI] 0 dG/\ak dG (AA a 0)=some (.slice ot kI oH)/\fF (rZ.add (toNat sM*2)) [.I Bo,.U vH] 0 dG/\ak dG (AA a 0)=some (.slice Fu Fv Kl)/\aH dG (AA jR 0) (.I Bo) λfD=>aH fD (AA jR 1) (.U vH) λgE=>fF (vT.add (toNat (wrap .i64 (Int.tdiv (wrap .i64 (sM - 1)) 2))*2)) [.I zF,.U vI] 0 gE/\ak gE (AA a 0)=some (.slice ot kI oH)/\aH gE (AA eZ 0) (.I zF) λgX=>aH gX (AA eZ 1) (.U vI) λgR=>jo (some (AA jR 0)) (some (AA eZ 0)) gR)/\True) else R (.tuple #[]) aZ) (λJ=>if(decide (sM>0)) then Hl aR a 0 λKm Kn MX=>Bd sM Kn/\aP Km λBK=>Rf aR (BK.add (toNat sM*2)) λzH=>JM aR ((BK.add (toNat sM*2)).add 1) λvJ=>Hl aR a 0 λzC xg DW=>Bd (wrap .i64 (Int.tdiv (wrap .i64 (sM - 1)) 2)) xg/\aP zC λKo=> ∃RI,ak aR (Ko.add (toNat (wrap .i64 (Int.tdiv (wrap .i64 (sM - 1)) 2))*2))=some (.I RI)/\∃HU,ak aR ((Ko.add (toNat (wrap .i64 (Int.tdiv (wrap .i64 (sM - 1)) 2))*2)).add 1)=some (.U HU)/\Cl F.oE #[.agg #[.I zH,.U vJ],.agg #[.I RI,.U HU]] aR λgS fi=>Vb gS λt27=>ak fi (AA a 0)=some (.slice zC xg DW)/\ak fi (AA a 0)=some (.slice Km Kn MX)/\J t27 fi else J false aR)):Cl F.mr #[.P a 0,.I i] h R:=aS (.scope 0 [(1,.one (.int .i64))] ll (lq (lq (sq (.join [(28,.one (.bool))] (pN 19)) (cq (sq (.join [(5,.one (.ptr)),(6,.one (.ptr))] (.mC (jh 14 0 (.alts (.fork 14 (jh 3 15 .done) (.fork 15 (.op 14 (.op 16 (.op 17 .done))) .mE)))))) (lq (lq ll))) lf))))) Tryz.func117 hv
theorem nZ.walk {a : Nat} {i : Int} (hv :
 ∃ (I : Int → aj → Prop) (mu : Int → aj → Nat), (
 I i h) ∧ ∀ (sM : Int) (aR : aj), I sM aR →
 ∃ (Kq : Int → Int → aj → Prop) (CD : Int → Int → aj → Nat), Kq sM 0 aR ∧ ∀ (tF : Int) (t17 : Int) (aZ : aj), Kq tF t17 aZ →
 if (decide (t17 < 2)) = true then
 aK (fun (aco : Int) (bK : aj) =>
 (Kq aco (IntKind.wrap .i64 (t17 + 1)) bK ∧ CD aco (IntKind.wrap .i64 (t17 + 1)) bK < CD tF t17 aZ))
 (λJ =>
 ((0 : Int) ≤ t17 ∧ t17 < ((2 : Nat) : Int)) ∧
 (t17 = ((0 : Nat) : Int) →
 aK (fun (t43 : Bool) (cC : aj) =>
 aK (fun (Uy : Int) (cK : aj) =>
 J Uy cK)
 (λBp =>
 if t43 = true then
 Bp (IntKind.wrap .i64 ((IntKind.wrap .i64 (2 * sM)) + 1)) cC
 else
 Bp tF cC))
 (λjo =>
 ∃ iQ iy iz, ak aZ ⟨a, 0, none⟩ = some (.slice iQ iy iz) ∧
 if (decide ((IntKind.wrap .i64 ((IntKind.wrap .i64 (2 * sM)) + 1)) < ((iy : Nat) : Int))) = true then
 ∃ yg vK CE, ak aZ ⟨a, 0, none⟩ = some (.slice yg vK CE) ∧
 ((0 : Int) ≤ IntKind.wrap .i64 ((IntKind.wrap .i64 (2 * sM)) + 1) ∧ IntKind.wrap .i64 ((IntKind.wrap .i64 (2 * sM)) + 1) < ((vK : Nat) : Int)) ∧
 aP yg λkz =>
 ∃ Kr, ak aZ (kz.add (Int.toNat (IntKind.wrap .i64 ((IntKind.wrap .i64 (2 * sM)) + 1)) * 2)) = some (.int .i64 Kr) ∧ ∃ Ks, ak aZ ((kz.add (Int.toNat (IntKind.wrap .i64 ((IntKind.wrap .i64 (2 * sM)) + 1)) * 2)).add 1) = some (.int .u64 Ks) ∧
 ∃ rK rL vh, ak aZ ⟨a, 0, none⟩ = some (.slice rK rL vh) ∧
 ((0 : Int) ≤ tF ∧ tF < ((rL : Nat) : Int)) ∧
 aP rK λpF =>
 ∃ xh, ak aZ (pF.add (Int.toNat tF * 2)) = some (.int .i64 xh) ∧ ∃ xi, ak aZ ((pF.add (Int.toNat tF * 2)).add 1) = some (.int .u64 xi) ∧
 Cl F.oE #[.agg #[.int .i64 Kr, .int .u64 Ks], .agg #[.int .i64 xh, .int .u64 xi]] aZ λv cR =>
 ∃ t42, v = .bool t42 ∧
 ak cR ⟨a, 0, none⟩ = some (.slice rK rL vh) ∧
 ak cR ⟨a, 0, none⟩ = some (.slice yg vK CE) ∧
 ak cR ⟨a, 0, none⟩ = some (.slice iQ iy iz) ∧
 jo t42 cR
 else
 jo false aZ)) ∧
 (t17 = ((1 : Nat) : Int) →
 aK (fun (CG : Bool) (cX : aj) =>
 aK (fun (ajL : Int) (dB : aj) =>
 J ajL dB)
 (λJ_4 =>
 if CG = true then
 J_4 (IntKind.wrap .i64 ((IntKind.wrap .i64 (2 * sM)) + 2)) cX
 else
 J_4 tF cX))
 (λGH =>
 ∃ We Ph Wf, ak aZ ⟨a, 0, none⟩ = some (.slice We Ph Wf) ∧
 if (decide ((IntKind.wrap .i64 ((IntKind.wrap .i64 (2 * sM)) + 2)) < ((Ph : Nat) : Int))) = true then
 ∃ Pj Pk Wg, ak aZ ⟨a, 0, none⟩ = some (.slice Pj Pk Wg) ∧
 ((0 : Int) ≤ IntKind.wrap .i64 ((IntKind.wrap .i64 (2 * sM)) + 2) ∧ IntKind.wrap .i64 ((IntKind.wrap .i64 (2 * sM)) + 2) < ((Pk : Nat) : Int)) ∧
 aP Pj λrZ =>
 ∃ Wh, ak aZ (rZ.add (Int.toNat (IntKind.wrap .i64 ((IntKind.wrap .i64 (2 * sM)) + 2)) * 2)) = some (.int .i64 Wh) ∧ ∃ Wi, ak aZ ((rZ.add (Int.toNat (IntKind.wrap .i64 ((IntKind.wrap .i64 (2 * sM)) + 2)) * 2)).add 1) = some (.int .u64 Wi) ∧
 ∃ Pl Pm Wj, ak aZ ⟨a, 0, none⟩ = some (.slice Pl Pm Wj) ∧
 ((0 : Int) ≤ tF ∧ tF < ((Pm : Nat) : Int)) ∧
 aP Pl λvT =>
 ∃ Wk, ak aZ (vT.add (Int.toNat tF * 2)) = some (.int .i64 Wk) ∧ ∃ Wl, ak aZ ((vT.add (Int.toNat tF * 2)).add 1) = some (.int .u64 Wl) ∧
 Cl F.oE #[.agg #[.int .i64 Wh, .int .u64 Wi], .agg #[.int .i64 Wk, .int .u64 Wl]] aZ λeK ff =>
 ∃ vI, eK = .bool vI ∧
 ak ff ⟨a, 0, none⟩ = some (.slice Pl Pm Wj) ∧
 ak ff ⟨a, 0, none⟩ = some (.slice Pj Pk Wg) ∧
 ak ff ⟨a, 0, none⟩ = some (.slice We Ph Wf) ∧
 GH vI ff
 else
 GH false aZ)) ∧
 True)
 else
 if (tF != sM) = true then
 aK (fun (x : Option Addr) (y : Option Addr) (cQ : aj) =>
 aP x λBK =>
 ∃ ahY, ak cQ BK = some (.int .i64 ahY) ∧ ∃ ahZ, ak cQ (BK.add 1) = some (.int .u64 ahZ) ∧
 Cl F.gu #[.pointer (some ⟨a, 0, none⟩), .int .i64 tF, .agg #[.int .i64 ahY, .int .u64 ahZ]] cQ λgS cW =>
 gS = .tuple #[] ∧
 aP y λKo =>
 ∃ Wm, ak cW Ko = some (.int .i64 Wm) ∧ ∃ Wn, ak cW (Ko.add 1) = some (.int .u64 Wn) ∧
 Cl F.gu #[.pointer (some ⟨a, 0, none⟩), .int .i64 sM, .agg #[.int .i64 Wm, .int .u64 Wn]] cW λkV dE =>
 kV = .tuple #[] ∧
 (I tF dE ∧ mu tF dE < mu sM aR))
 (λJ_5 =>
 ∃ yh yi Bq, ak aZ ⟨a, 0, none⟩ = some (.slice yh yi Bq) ∧
 ((0 : Int) ≤ sM ∧ sM < ((yi : Nat) : Int)) ∧
 aP yh λRJ =>
 ∃ ud, ak aZ (RJ.add (Int.toNat sM * 2)) = some (.int .i64 ud) ∧ ∃ tG, ak aZ ((RJ.add (Int.toNat sM * 2)).add 1) = some (.int .u64 tG) ∧
 ∃ HV HW Kt, ak aZ ⟨a, 0, none⟩ = some (.slice HV HW Kt) ∧
 ((0 : Int) ≤ tF ∧ tF < ((HW : Nat) : Int)) ∧
 aP HV λa_8 =>
 ∃ Br, ak aZ (a_8.add (Int.toNat tF * 2)) = some (.int .i64 Br) ∧ ∃ Bs, ak aZ ((a_8.add (Int.toNat tF * 2)).add 1) = some (.int .u64 Bs) ∧
 (aV aZ (.cells #[.int .i64 0, .int .u64 0] T.dv) λb dG =>
 fF (a_8.add (Int.toNat tF * 2)) [.int .i64 Br, .int .u64 Bs] 0 dG ∧
 ak dG ⟨a, 0, none⟩ = some (.slice HV HW Kt) ∧
 fF (RJ.add (Int.toNat sM * 2)) [.int .i64 ud, .int .u64 tG] 0 dG ∧
 ak dG ⟨a, 0, none⟩ = some (.slice yh yi Bq) ∧
 aV dG (.cells #[.int .i64 0, .int .u64 0] T.dv) λcE fD =>
 fF (a_8.add (Int.toNat tF * 2)) [.int .i64 Br, .int .u64 Bs] 0 fD ∧
 ak fD ⟨a, 0, none⟩ = some (.slice HV HW Kt) ∧
 fF (RJ.add (Int.toNat sM * 2)) [.int .i64 ud, .int .u64 tG] 0 fD ∧
 ak fD ⟨a, 0, none⟩ = some (.slice yh yi Bq) ∧
 aH fD ⟨b, 0, none⟩ (.int .i64 ud) λgE =>
 aH gE ⟨b, 1, none⟩ (.int .u64 tG) λgX =>
 fF (a_8.add (Int.toNat tF * 2)) [.int .i64 Br, .int .u64 Bs] 0 gX ∧
 ak gX ⟨a, 0, none⟩ = some (.slice HV HW Kt) ∧
 aH gX ⟨cE, 0, none⟩ (.int .i64 Br) λgR =>
 aH gR ⟨cE, 1, none⟩ (.int .u64 Bs) λfi =>
 J_5 (some ⟨b, 0, none⟩) (some ⟨cE, 0, none⟩) fi) ∧
 (aV aZ (.cells #[.int .i64 0, .int .u64 0] T.dv) λeZ jn =>
 fF (a_8.add (Int.toNat tF * 2)) [.int .i64 Br, .int .u64 Bs] 0 jn ∧
 ak jn ⟨a, 0, none⟩ = some (.slice HV HW Kt) ∧
 fF (RJ.add (Int.toNat sM * 2)) [.int .i64 ud, .int .u64 tG] 0 jn ∧
 ak jn ⟨a, 0, none⟩ = some (.slice yh yi Bq) ∧
 aV jn (.cells #[.int .i64 0, .int .u64 0] T.dv) λjR ju =>
 fF (a_8.add (Int.toNat tF * 2)) [.int .i64 Br, .int .u64 Bs] 0 ju ∧
 ak ju ⟨a, 0, none⟩ = some (.slice HV HW Kt) ∧
 fF (RJ.add (Int.toNat sM * 2)) [.int .i64 ud, .int .u64 tG] 0 ju ∧
 ak ju ⟨a, 0, none⟩ = some (.slice yh yi Bq) ∧
 aH ju ⟨jR, 0, none⟩ (.int .i64 ud) λsL =>
 aH sL ⟨jR, 1, none⟩ (.int .u64 tG) λrM =>
 fF (a_8.add (Int.toNat tF * 2)) [.int .i64 Br, .int .u64 Bs] 0 rM ∧
 ak rM ⟨a, 0, none⟩ = some (.slice HV HW Kt) ∧
 aH rM ⟨eZ, 0, none⟩ (.int .i64 Br) λqL =>
 aH qL ⟨eZ, 1, none⟩ (.int .u64 Bs) λvi =>
 J_5 (some ⟨jR, 0, none⟩) (some ⟨eZ, 0, none⟩) vi) ∧
 True)
 else
 R (.tuple #[]) aZ) : Cl F.nZ #[.pointer (some ⟨a, 0, none⟩), .int .i64 i] h R :=
 aS (.scope 0 [(1, .one (.int .i64))] (.seq .leaf .leaf) (.seq .leaf (.seq .leaf (.seq (.seq .leaf (.block (.loop [(4, .one (.int .i64)), (17, .one (.int .i64))] (.seq .leaf (.seq (.cond .leaf .leaf) (.seq (.join [(4, .one (.int .i64))] (.block (.seq .leaf (.seq (.join [(43, .one (.bool))] (.mC (.op 0 (.op 1 (.op 2 (.op 3 (.op 4 (.op 5 (.op 6 (.op 7 (.op 8 (.op 9 (.op 10 (.op 11 (.op 12 (.op 13 (.op 14 (.op 15 (.op 16 (.op 17 (.op 18 (.op 19 (.op 20 (.op 21 (.op 22 (.op 23 .done)))))))))))))))))))))))))) (.join [(4, .one (.int .i64))] (.cond .leaf .leaf)))))) .leaf)))))) (.seq .leaf (.cond (.seq (.join [(7, .one (.ptr)), (8, .one (.ptr))] (.mC (.op 0 (.op 1 (.op 2 (.op 3 (.op 4 (.op 5 (.op 6 (.op 7 (.op 8 (.op 9 (.op 10 (.op 11 (.op 12 (.op 13 (.alts (.fork 14 (.op 15 (.op 16 (.op 17 .done))) (.fork 15 (.op 14 (.op 16 (.op 17 .done))) .mE))))))))))))))))))) (.seq .leaf (.seq .leaf (.seq .leaf .leaf)))) .leaf)))))) Tryz.func169 hv
theorem kP.walk {a:Nat} {key:Int} {kR:Int} (hv:Cl F.lU #[.P a 0] h λv aR=> ∃t10,v=.bool t10/\if(!t10) then R (.I 6) aR else aK (λ(t12:Bool) (aZ:aj)=>if t12 then R (.I 1) aZ else Cl F.gp #[.P a 0,.I key] aZ λeK bK=>Vi eK λt25=>Hl bK a 0 λpd nK pO=>aV bK (.cells #[.I 0,.U 0] T.dv) λb cC=>aX Tryz.prog (Builtin.append_ #[T.nA,T.nA] T.nA #[.slice pd nK pO,.slice (some (AA b 0)) 1 1]) cC λgS cK=> ∃rG pP rH,gS=.slice rG pP rH/\aH cK (AA a 0) (.slice rG pP rH) λcR=>Hl cR a 0 λot kI oH=>Cl F.gu #[.P a 0,.I (wrap .i64 ((kI:Int) - 1)),.agg #[.I key,.U kR]] cR λkV cX=>kV=.tuple #[]/\Cl F.mr #[.P a 0,.I (wrap .i64 ((kI:Int) - 1))] cX λou dB=>ou=.tuple #[]/\R (.I 0) dB) (λJ=>if(decide (key<1)) then J true aR else if(decide (key>1099511627776)) then J true aR else J (decide (kR>1099511627776)) aR)):Cl F.kP #[.P a 0,.I key,.U kR] h R:=aS (lq (sq (bq (lq (cq ll (sq (.join [(12,.one (.bool))] lf) (cq ll lf))))) (lq (lq (lq (lq (lq ll))))))) Tryz.func51 hv
theorem gp.walk {a:Nat} {key:Int} (hv:Cl F.lU #[.P a 0] h λv aR=> ∃t10,v=.bool t10/\if(!t10) then R (.I 6) aR else∃t16,ak aR (AA a 1)=some (.map t16)/\∃vL vj,mD Tryz.prog T.jI (.map t16) (.I key) true aR (.tuple #[.I vL,.bool vj])/\if(!vj) then R (.I 4) aR else Hl aR a 0 λya rF yc=>Hl aR a 0 λFu Fv Kl=>Bd (wrap .i64 ((rF:Int) - 1)) Fv/\aP Fu λkz=> ∃Bo,ak aR (kz.add (toNat (wrap .i64 ((rF:Int) - 1))*2))=some (.I Bo)/\∃vH,ak aR ((kz.add (toNat (wrap .i64 ((rF:Int) - 1))*2)).add 1)=some (.U vH)/\aV aR (.cells #[.I 0,.U 0] T.dv) λb aZ=>aH aZ (AA b 0) (.I Bo) λbK=>aH bK (AA b 1) (.U vH) λcC=>Hl cC a 0 λKu MY Fw=>((0:Int)<=wrap .i64 ((rF:Int) - 1)/\wrap .i64 ((rF:Int) - 1)<=(Fw:Int))/\aH cC (AA a 0) (.slice (da Ku Fw 0 2) ((toNat (wrap .i64 ((rF:Int) - 1))) - 0) (Fw - 0)) λcK=> ∃t48,ak cK (AA a 1)=some (.map t48)/\aX Tryz.prog (Builtin.delete_ #[T.jI,T.int] T.J0 #[.map t48,.I key]) cK λeK cR=>eK=.tuple #[]/\aK (λ(cX:aj)=>R (.I 0) cX) (λJ=>if(decide (vL<(wrap .i64 ((rF:Int) - 1)))) then Hi cR b 0 λud=>Hu cR b 1 λtG=>Cl F.gu #[.P a 0,.I vL,.agg #[.I ud,.U tG]] cR λgS dB=>gS=.tuple #[]/\Cl F.mr #[.P a 0,.I vL] dB λkV ff=>kV=.tuple #[]/\∃t64,ak ff (AA a 1)=some (.map t64)/\Hi ff b 0 λt66=> ∃t67,mD Tryz.prog T.jI (.map t64) (.I t66) false ff (.I t67)/\Cl F.nZ #[.P a 0,.I t67] ff λou cQ=>ou=.tuple #[]/\ak cQ (AA b 0)=some (.I t66)/\ak cQ (AA a 1)=some (.map t64)/\J cQ else J cR)):Cl F.gp #[.P a 0,.I key] h R:=aS (lq (sq (lq (cq ll lf)) (lq (sq (lq (cq ll lf)) (lq (lq (lq (lq (sq (lq (.join [] (cq (lq (lq (pN 9))) lf))) ll))))))))) Tryz.func115 hv
theorem lW.walk {a:Nat} (hv:Cl F.mL #[.P a 0] h λv aR=> ∃t6,v=.I t6/\if(t6==0) then R (.tuple #[.I 0,.U 0,.bool false]) aR else Hl aR a 0 λFx Bt MZ=>Bd 0 Bt/\aP Fx λkz=>Rf aR (kz.add (toNat 0*2)) λt14=>Hl aR a 0 λqt pf rN=>Bd 0 pf/\aP qt λpF=> ∃t21,ak aR ((pF.add (toNat 0*2)).add 1)=some (.U t21)/\R (.tuple #[.I t14,.U t21,.bool true]) aR):Cl F.lW #[.P a 0] h R:=aS (lq (sq (lq (cq ll lf)) (sq (pN 17) lf))) Tryz.func171 hv
theorem iP.walk {a:Nat} {now:Int} (hv:Cl F.lW #[.P a 0] h λv aR=> ∃pR tD Wo,v=.tuple #[.I pR,.U tD,.bool Wo]/\∃(I:bV->Nat->Nat->Int->Int->Bool->aj->Prop) (mu:bV->Nat->Nat->Int->Int->Bool->aj->Nat),I none 0 0 pR tD Wo aR/\∀(kJ:bV) (kK kL:Nat) (key:Int) (kR:Int) (is:Bool) (aZ:aj),I kJ kK kL key kR is aZ->aK (λ(t20:Bool) (bK:aj)=>if t20 then aV bK (.cells #[.I key] T.int) λb cC=>aX Tryz.prog (Builtin.append_ #[T.Fe,T.Fe] T.Fe #[.slice kJ kK kL,.slice (some (AA b 0)) 1 1]) cC λeK cK=>Vl eK λpd nK pO=>Cl F.gp #[.P a 0,.I key] cK λgS cR=>Vi gS λt33=>Cl F.lW #[.P a 0] cR λkV cX=> ∃DY DZ RL,kV=.tuple #[.I DY,.U DZ,.bool RL]/\(I pd nK pO DY DZ RL cX/\mu pd nK pO DY DZ RL cX<mu kJ kK kL key kR is aZ) else R (.slice kJ kK kL) bK) (λJ=>if is then J (decide (kR<=now)) aZ else J false aZ)):Cl F.iP #[.P a 0,.U now] h R:=aS (lq (lq (sq (lq (bq (.loop [(5,.one (.slice)),(6,.one (.int .i64)),(7,.one (.int .u64)),(8,.one (.bool))] (sq (sq (.join [(20,.one (.bool))] lf) (cq lf lf)) (sq (bq ll) lf))))) ll))) Tryz.func118 hv
end
end Go.Proofs.YtlenamcfacpheaaGreatDoor
namespace Go.rO
abbrev E:=Int×Int
def lt (x y:E):Prop:=x.2<y.2\/(x.2=y.2/\x.1<y.1)
def le (x y:E):Prop:= ¬lt y x
theorem lt_irrefl (x:E): ¬lt x x:=by unfold lt;omega
theorem lt_trans {x y z:E} (h:lt x y) (h':lt y z):lt x z:=by unfold lt at*;omega
theorem le_refl (x:E):le x x:=lt_irrefl x
theorem le_trans {x y z:E} (h:le x y) (h':le y z):le x z:=by unfold le lt at*;omega
theorem le_of_lt {x y:E} (h:lt x y):le x y:=by unfold le lt at*;omega
theorem lt_of_le_ne {x y:E} (h:le x y) (h':x.1≠y.1):lt x y:=by unfold le lt at*;omega
instance (x y : E) : Decidable (lt x y) := inferInstanceAs (Decidable (_ ∨ _))
def CH (f:Nat->E) (n:Nat):Prop:= ∀j,0<j->j<n->le (f ((j - 1)/2)) (f j)
def EC (f:Nat->E) (n i:Nat):Prop:=
 (∀j,0<j->j<n->j≠i->(j - 1)/2≠i->le (f ((j - 1)/2)) (f j))/\(0<i->∀j,0<j->j<n->(j - 1)/2=i->le (f ((i - 1)/2)) (f j))
def ED (f:Nat->E) (n i:Nat):Prop:=
 (∀j,0<j->j<n->(j - 1)/2≠i->le (f ((j - 1)/2)) (f j))/\(0<i->∀j,0<j->j<n->(j - 1)/2=i->le (f ((i - 1)/2)) (f j))
def Kv (f:Nat->E) (n i:Nat):Prop:= ∀j,0<j->j<n->(j - 1)/2=i->le (f i) (f j)
def zI (f:Nat->E) (i j:Nat):Nat->E:=λk=>if k=i then f j else if k=j then f i else f k
theorem afz {f:Nat->E} {n i:Nat} (h:EC f n i) (hi:i=0\/le (f ((i - 1)/2)) (f i)):ED f n i:=by
 refine⟨λj h1 h2 h3=> ?_,h.2⟩;by_cases hj:j=i
 ·subst hj;rcases hi with h0|h0
  ·omega
  ·exact h0
 ·exact h.1 j h1 h2 hj h3
theorem AI {f:Nat->E} {n i:Nat} (h:ED f n i) (hk:Kv f n i):CH f n:=by
 intro j h1 h2;by_cases hj:(j - 1)/2=i
 ·have:=hk j h1 h2 hj;rw[hj];exact this
 ·exact h.1 j h1 h2 hj
theorem afA {f:Nat->E} {n i p:Nat} (h:EC f n i) (h0:0<i) (hn:i<n) (hp:p=(i - 1)/2) (hl:lt (f i) (f p)):EC (zI f i p) n p/\Kv (zI f i p) n p:=by
 have hpi:p≠i:=by omega
 refine⟨⟨λj h1 h2 h3 h4=> ?_,λhp0 j h1 h2 h3=> ?_⟩,λj h1 h2 h3=> ?_⟩
 ·
  have BE:j≠i:=by omega
  unfold zI;rw[ai BE,ai h3];by_cases hpj:(j - 1)/2=i
  ·rw[ag hpj,hp];exact h.2 h0 j h1 h2 hpj
  ·rw[ai hpj,ai h4];exact h.1 j h1 h2 BE hpj
 ·have hpp:=h.1 p hp0 (by omega) hpi (by omega);unfold zI;rw[ai (show(p - 1)/2≠i by omega),ai (show(p - 1)/2≠p by omega)];by_cases BE:j=i
  ·rw[ag BE];exact hpp
  ·rw[ai BE,dM];have:=h.1 j h1 h2 BE (by omega);rw[h3] at this;exact le_trans hpp this
 ·unfold zI;rw[ai hpi,ag rfl];by_cases BE:j=i
  ·rw[ag BE];exact le_of_lt hl
  ·rw[ai BE,dM];have:=h.1 j h1 h2 BE (by omega);rw[h3] at this;exact le_trans (le_of_lt hl) this
theorem aax {f:Nat->E} {n i c:Nat} (h:ED f n i) (hc:(c - 1)/2=i) (h0:0<c) (hn:c<n) (hl:lt (f c) (f i)) (hm: ∀j,0<j->j<n->(j - 1)/2=i->le (f c) (f j)):ED (zI f i c) n c:=by
 have hci:c≠i:=by omega
 refine⟨λj h1 h2 h3=> ?_,λ_ j h1 h2 h3=> ?_⟩
 ·unfold zI;by_cases BE:j=i
  ·subst BE;rw[ai (show(j - 1)/2≠j by omega),ai (show(j - 1)/2≠c by omega),ag rfl];exact h.2 h1 c h0 hn hc
  ·by_cases hpj:(j - 1)/2=i
   ·rw[ag hpj,ai BE];by_cases hjc:j=c
    ·rw[ag hjc];exact le_of_lt hl
    ·rw[ai hjc];exact hm j h1 h2 hpj
   ·have hjc:j≠c:=by intro e;subst e;exact hpj hc
    rw[ai hpj,ai h3,ai BE,ai hjc];exact h.1 j h1 h2 hpj
 ·unfold zI;rw[hc,ag rfl,ai (show j≠i by omega),ai (show j≠c by omega)];have:=h.1 j h1 h2 (by omega);rw[h3] at this;exact this
theorem acp {f:Nat->E} {n:Nat} (h:CH f n): ∀j,j<n->le (f 0) (f j):=by
 intro j;induction j using Nat.strongRecOn with
 |_ j ih=>
  intro hj;by_cases h0:j=0
  ·subst h0;exact le_refl _
  ·exact le_trans (ih ((j - 1)/2) (by omega) (by omega)) (h j (by omega) hj)
def at_ (es:List E) (i:Nat):E:=es.getD i (0,0)
theorem yN {es:List E} {i:Nat} (h:i<es.length):at_ es i=es[i]:=by simp[at_,h]
theorem Wp {es:List E} {i:Nat} (h:i<es.length):es[i]? =some (at_ es i):=by simp[at_,h]
theorem Uz {es:List E} {i j:Nat} {x:E} (h:i<es.length):at_ (es.set i x) j=if j=i then x else at_ es j:=by
 unfold at_;by_cases e:j=i
 ·subst e;simp[h]
 ·simp[e,ie e]
def Bu (es:List E) (i j:Nat):List E:=(es.set j (at_ es i)).set i (at_ es j)
theorem GI {es:List E} {i j:Nat} :(Bu es i j).length=es.length:=by simp[Bu]
theorem RM {es:List E} {i j:Nat} (hi:i<es.length) (hj:j<es.length) (k:Nat):at_ (Bu es i j) k=zI (at_ es) i j k:=by
 unfold Bu zI;rw[Uz (by simpa using hi),Uz hj]
theorem M0 {es:List E} {i j:Nat} (hi:i<es.length) (hj:j<es.length):at_ (Bu es i j)=zI (at_ es) i j:=funext (RM hi hj)
theorem EE {es:List E} {i j:Nat} (hi:i<es.length) (hj:j<es.length):(Bu es i j).Perm es:=by
 unfold Bu;rw[yN hi,yN hj];exact List.set_set_perm hj hi
def nf (es:List E) (g:Int->Option Value):Prop:=
 (es.map (·.1)).Nodup/\(∀j,j<es.length->g (at_ es j).1=some (.int .i64 j))/\∀k,k∉es.map (·.1)->g k=none
theorem key_inj {es:List E} (h:(es.map (·.1)).Nodup) {i j:Nat} (hi:i<es.length) (hj:j<es.length) (he:(at_ es i).1=(at_ es j).1):i=j:=by
 rw[yN hi,yN hj] at he;have h1:=fV (i:=i) (j:=j) (by simpa using hi) h;exact h1.1 (by simp[hi,hj,he])
theorem nf.swap {es:List E} {g:Int->Option Value} (h:nf es g) {i j:Nat} (hi:i<es.length) (hj:j<es.length) (kB:i≠j):
  nf (Bu es i j) (λk=>if k=(at_ es j).1 then some (.I i) else if k=(at_ es i).1 then some (.I j) else g k):=by
 obtain⟨h1,h2,h3⟩:=h;have hp:=(EE hi hj).map (·.1);refine⟨hp.nodup_iff.2 h1,λk hk=> ?_,λk hk=> ?_⟩
 ·rw[GI] at hk;rw[RM hi hj];unfold zI;by_cases e1:k=i
  ·subst e1;simp
  ·by_cases e2:k=j
   ·subst e2;rw[ai e1,ag rfl];have:(at_ es i).1≠(at_ es k).1:=λe=>kB (key_inj h1 hi hj e)
    simp[this]
   ·rw[ai e1,ai e2];have n1:(at_ es k).1≠(at_ es j).1:=λe=>e2 (key_inj h1 hk hj e)
    have n2:(at_ es k).1≠(at_ es i).1:=λe=>e1 (key_inj h1 hk hi e)
    simp[n1,n2,h2 k hk]
 ·have V4:k∉es.map (·.1):=λhm=>hk (hp.mem_iff.2 hm)
  have m1:(at_ es j).1∈es.map (·.1):=by rw[yN hj];exact bB (fx hj)
  have m2:(at_ es i).1∈es.map (·.1):=by rw[yN hi];exact bB (fx hi)
  simp only[];rw[ai (show k≠_ from λe=>V4 (e.symm▸m1)),ai (show k≠_ from λe=>V4 (e.symm▸m2))];exact h3 k V4
def pG (l:List E):Prop:=l.Pairwise lt
def keys (l:List E):List Int:=l.map (·.1)
def iH (l:List E) (k:Int):List E:=l.filter (λe=> !(e.1==k))
def Fy (l:List E) (x:E):List E:=l.filter (λe=>decide (lt e x))++x::l.filter (λe=> !decide (lt e x))
theorem vU (l:List E) (x:E):(Fy l x).Perm (x::l):=by
 unfold Fy;refine(List.perm_middle).trans (List.Perm.cons x ?_);exact List.filter_append_perm _ _
theorem pG.drop {l:List E} (h:pG l) (k:Int):pG (iH l k):=iL _ h
theorem pG.insert {l:List E} (h:pG l) (x:E) (hk:x.1∉keys l):pG (Fy l x):=by
 unfold pG Fy;rw[List.pairwise_append];refine⟨iL _ h,?_,?_⟩
 ·rw[fj];refine⟨λy hy=> ?_,iL _ h⟩;obtain⟨hm,hq⟩:=aY.1 hy;have hn: ¬lt y x:=by simpa using hq
  exact lt_of_le_ne hn (λe=>hk (by rw[e];exact bB hm))
 ·intro y hy z hz;obtain⟨_,hq⟩:=aY.1 hy;have hyx:lt y x:=by simpa using hq
  rcases bQ.1 hz with rfl|hz
  ·exact hyx
  ·obtain⟨_,Gx⟩:=aY.1 hz;have hn: ¬lt z x:=by simpa using Gx
   unfold lt at*;omega
theorem UA (l:List E) (k:Int):k∉keys (iH l k):=by
 intro h;obtain⟨e,he,rfl⟩:=bn.1 h;have:=(aY.1 he).2;simp at this
theorem si {l:List E} {k:Int} (h:k∉keys l):iH l k=l:=by
 unfold iH;rw[cI];intro e he;have:e.1≠k:=λe'=>h (e'▸bB he)
 simp[this]
theorem UB {l l':List E} (h:l.Perm l') (k:Int):(iH l k).Perm (iH l' k):=h.filter _
theorem acq {es l:List E} (hp:es.Perm l) (hs:pG l) (hh:CH (at_ es) es.length) (h0:0<es.length): ∃r,l=at_ es 0::r:=by
 cases l with
 |nil=>have:=hp.length_eq;simp only[bD] at this;omega
 |cons x r=>
  refine⟨r,?_⟩;have hx:x∈es:=hp.mem_iff.2 dY;obtain⟨j,hj⟩:=bH hx;have Cg:j<es.length:=(aG.1 hj).1;have amq:=acp hh j Cg;rw[Wp Cg] at hj;have e1:at_ es j=x:=bz hj;rw[e1] at amq;have hm:at_ es 0∈x::r:=hp.mem_iff.1 (by rw[yN h0];exact fx h0);rcases bQ.1 hm with e|e
  ·rw[e]
  ·have:=(fj.1 hs).1 _ e;exact absurd this amq
end Go.rO
