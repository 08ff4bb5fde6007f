/-
  TT is proved here: parts of Js proof, one behind Js other (texts of this work, merged by a program; ZV Js theorem ZW not use is left out). No condition.
-/
import Derived.Test.YtlenamcfacpheaaGreatDoorMAsesb
set_option maxRecDepth 100000
set_option maxHeartbeats 4000000
namespace Go.Proofs.YtlenamcfacpheaaGreatDoor
open Go.Den
open IntKind (wrap)
open Int (toNat)
section
open Go.rO
namespace cu
theorem tm : Cf Tryz.prog T.jI (.int .i64 0) := .of T.int T.int .i64 (by kernel_rfl) (by kernel_rfl) (by kernel_rfl)
def enc (es:List E):List Value:=es.flatMap λe=> [.int .i64 e.1,.int .u64 e.2]
theorem zJ (e:E) (es:List E):enc (e::es)=.I e.1:: .U e.2::enc es:=rfl
theorem rX: ∀es:List E,(enc es).length=es.length*2
 | []=>rfl
 |e::es=>by rw[zJ];simp only[bj,rX es];omega
theorem UC (es fs:List E):enc (es++fs)=enc es++enc fs:=by simp[enc]
theorem ah0: ∀ {es:List E} {i:Nat},i<es.length->(enc es)[i*2]? =some (.I (at_ es i).1)
 | [],_,h=>by simp at h
 |e::es,0,_=>rfl
 |e::es,i+1,h=>by
  rw[zJ,show(i+1)*2=i*2+1+1 by omega,eO,eO,ah0 (by simpa using h)];rfl
theorem ah1: ∀ {es:List E} {i:Nat},i<es.length->(enc es)[i*2+1]? =some (.U (at_ es i).2)
 | [],_,h=>by simp at h
 |e::es,0,_=>rfl
 |e::es,i+1,h=>by
  rw[zJ,show(i+1)*2+1=i*2+1+1+1 by omega,eO,eO,ah1 (by simpa using h)];rfl
theorem Wq: ∀(es:List E) (i:Nat) (x:E),((enc es).set (i*2) (.I x.1)).set (i*2+1) (.U x.2)=enc (es.set i x)
 | [],_,_=>by simp[enc]
 |e::es,0,x=>rfl
 |e::es,i+1,x=>by
  rw[zJ,show(i+1)*2=i*2+1+1 by omega,List.set_cons_succ,List.set_cons_succ,List.set_cons_succ,List.set_cons_succ,Wq es i x];rfl
theorem RN: ∀(es:List E) (n:Nat),(enc es).take (n*2)=enc (es.take n)
 | [],n=>by simp[enc]
 |e::es,0=>by simp[enc]
 |e::es,n+1=>by
  rw[zJ,show(n+1)*2=n*2+1+1 by omega,jb,jb,RN es n];rfl
theorem Ws: ∀(es:List E),∀v∈enc es,jg v=true
 | [],_,h=>by cases h
 |e::es,v,h=>by
  rw[zJ] at h;rcases bQ.1 h with rfl|h
  ·rfl
  ·rcases bQ.1 h with rfl|h
   ·rfl
   ·exact Ws es v h
structure Mem (h:aj) (a:Nat) (p:bV) (cap m:Nat) (es:List E) (g:Int->Option Value):Prop where
 dF:h[a]? =some (.cells #[.slice p es.length cap,.map (some m)] T.Cs (0,0))
 own:iS h p es.length cap 2 (enc es)
 map:xU h m g
 ne: ¬aQ p a
def Kw (a:Nat) (p:bV) (m:Nat) (c:Nat):Prop:=c=a\/c=m\/aQ p c
def inner (p:bV) (m:Nat) (c:Nat):Prop:=c=m\/aQ p c
variable {h : aj} {a m cap : Nat} {p : Option Addr} {es : List E} {g : Int → Option Value} {R : Value → aj → Prop}
theorem Mem.am (M:Mem h a p cap m es g):a≠m:=by
 rintro rfl;obtain⟨x,c,hm⟩:=M.map.map;rw[M.dF] at hm;cases hm
theorem Mem.pm (M:Mem h a p cap m es g): ¬aQ p m:=λhb=>by
 obtain⟨x,c,hm⟩:=M.map.map;obtain⟨y,t,hc⟩:=M.own.cells hb;rw[hc] at hm;cases hm
theorem Mem.lt (M:Mem h a p cap m es g) {c:Nat} (hc:Kw a p m c):c<h.size:=by
 rcases hc with rfl|rfl|hc
 ·exact aI M.dF
 ·exact M.map.lt
 ·exact M.own.gn hc
theorem Mem.frame {S:Nat->Prop} {h':aj} (M:Mem h a p cap m es g) (hf:Fr S h h') (hn: ∀c,Kw a p m c->¬S c):Mem h' a p cap m es g:=
 ⟨hf.get M.dF (hn a (.inl rfl)),M.own.frame hf λc hc=>hn c (.inr (.inr hc)),M.map.frame hf (hn m (.inr (.inl rfl))),M.ne⟩
theorem Mem.calm {h':aj} (M:Mem h a p cap m es g) (hf:Fr No h h'):Mem h' a p cap m es g:=M.frame hf λ_ _=>id
theorem Mem.hd (M:Mem h a p cap m es g):ak h (AA a 0)=some (.slice p es.length cap):=af M.dF rfl
theorem Mem.mp (M:Mem h a p cap m es g):ak h (AA a 1)=some (.map (some m)):=af M.dF rfl
theorem Mem.some (M:Mem h a p cap m es g) (hn:0<es.length): ∃ad,p=some ad:=by
 obtain⟨b,off,hp⟩:=M.own.some (by rw[rX];omega);exact⟨_,hp⟩
theorem Mem.c0 {ad:Addr} (M:Mem h a (.some ad) cap m es g) {i:Nat} (hi:i<es.length):ak h (ad.add (i*2))=.some (.I (at_ es i).1):=M.own.cell (ah0 hi)
theorem Mem.c1 {ad:Addr} (M:Mem h a (.some ad) cap m es g) {i:Nat} (hi:i<es.length):ak h ((ad.add (i*2)).add 1)=.some (.U (at_ es i).2):=by
 rw[add_add];exact M.own.cell (ah1 hi)
theorem Fz {x0 x1 y0 y1:Int} (hk: ∀h',Fr No h h'->R (.bool (decide (lt (x0,x1) (y0,y1)))) h'):
  Cl F.oE #[.agg #[.I x0,.U x1],.agg #[.I y0,.U y1]] h R:=by
 refine oE.walk ?_;rintro b h1 rfl rfl b1 h2 rfl rfl;have f:Fr No h ((h.push (.cells #[.I x0,.U x1] T.dv)).push (.cells #[.I y0,.U y1] T.dv)):=Fr.tt (Fr.push _ _) (Fr.push _ _);have hx:=JK (x:=.cells #[.I y0,.U y1] T.dv) (cA (h:=h) (x:=.cells #[.I x0,.U x1] T.dv));have hy:=cA (h:=h.push (.cells #[.I x0,.U x1] T.dv)) (x:=.cells #[.I y0,.U y1] T.dv);have hr:=hk _ f;refine⟨x1,af hx rfl,y1,af hy rfl,?_⟩;by_cases h1:x1<y1
 ·have e:decide (lt (x0,x1) (y0,y1))=true:=by simp[lt,h1]
  rw[e] at hr;simpa only[h1,decide_true,bA] using hr
 ·simp only[h1,decide_false,aA,aU];refine⟨x1,af hx rfl,y1,af hy rfl,?_⟩;by_cases h2:x1=y1
  ·subst h2;simp only[beq_self_eq_true,bA];refine⟨x0,af hx rfl,y0,af hy rfl,?_⟩;have e:decide (lt (x0,x1) (y0,x1))=decide (x0<y0):=by simp[lt]
   rw[e] at hr;exact hr
  ·have e:decide (lt (x0,x1) (y0,y1))=false:=by simp[lt,h1,h2]
   rw[e] at hr;simpa only[beq_eq_false_iff_ne.2 h2,aA,aU] using hr
theorem GJ (M:Mem h a p cap m es g) {i:Nat} (hi:i<es.length) {x0 x1:Int}
  (hk: ∀h',Mem h' a p cap m (es.set i (x0,x1)) (λk=>if k=x0 then some (.I i) else g k)->Fr (inner p m) h h'->R (.tuple #[]) h'):
  Cl F.gu #[.P a 0,.I i,.agg #[.I x0,.U x1]] h R:=by
 obtain⟨ad,rfl⟩:=M.some (by omega);refine gu.walk ?_;rintro b h1 hb rfl;have f1:Fr No h (h.push (.cells #[.I x0,.U x1] T.dv)):=Fr.push _ _;have M1:=M.calm f1;have hx:=cA (h:=h) (x:=.cells #[.I x0,.U x1] T.dv);rw[<-hb] at hx;generalize h.push (.cells #[.I x0,.U x1] T.dv)=h1 at f1 M1 hx;have hbn: ∀c,Kw a (some ad) m c->b≠c:=λc hc e=>by have:=M.lt hc;omega
 refine⟨_,_,_,M1.hd,x0,af hx rfl,x1,af hx rfl,⟨by omega,by omega⟩,aB.2 ?_⟩;rw[aL,add_add];have hl:=rX es;refine M1.own.store (by omega) λh2 o2 s2 k2=>o2.store (by rw[eX];omega) λh3 o3 s3 k3=> ?_
 rw[Wq es i (x0,x1)] at o3;have f2:Fr (aQ (some ad)) h1 h3:=Fr.tt (Fr.of_eq s2 k2) (Fr.of_eq s3 k3);have hx3:=f2.get hx (λhc=>hbn b (.inr (.inr hc)) rfl);have kT:=f2.get M1.dF M.ne;refine⟨_,af kT rfl,x0,af hx3 rfl,?_⟩;refine wK tm (M1.map.frame f2 M.pm) λh4 m4 s4 k4=>hk h4 ⟨?_,?_,m4,M.ne⟩ ?_
 ·rw[k4 a M.am,kT,eX]
 ·rw[eX];exact o3.frame (Fr.of_eq (S:=λc=>c=m) s4 k4) (λc hc e=>M.pm (e▸hc))
 ·exact Fr.no f1 ((f2.mono λc _ hc=> .inr hc).trans (Fr.of_eq (S:=λc=>c=m) s4 k4) (λ_ _=>id) (λ_ _ hc=> .inl hc))
theorem ah2 {h:aj} {t:TypeId} {z0 z1 x0 x1 y0 y1:Value} {G1 G2 G3 G4:aj->Prop} {J:bV->bV->aj->Prop}
  (hG: ∀h',Fr No h h'->G1 h'/\G2 h'/\G3 h'/\G4 h')
  (hJ: ∀b b' h',h'[b]? =some (.cells #[x0,x1] t (0,0))->h'[b']? =some (.cells #[y0,y1] t (0,0))->h.size<=b->h.size<=b'->Fr No h h'->J (some (AA b 0)) (some (AA b' 0)) h'):
  (aV h (.cells #[z0,z1] t) λb cR=>G1 cR/\G2 cR/\G3 cR/\G4 cR/\aV cR (.cells #[z0,z1] t) λcE cX=>G1 cX/\G2 cX/\G3 cX/\G4 cX/\
   aH cX (AA b 0) x0 λdB=>aH dB (AA b 1) x1 λff=>G1 ff/\G2 ff/\aH ff (AA cE 0) y0 λcQ=>aH cQ (AA cE 1) y1 λcW=>J (some (AA b 0)) (some (AA cE 0)) cW)/\
  (aV h (.cells #[z0,z1] t) λb cR=>G1 cR/\G2 cR/\G3 cR/\G4 cR/\aV cR (.cells #[z0,z1] t) λcE cX=>G1 cX/\G2 cX/\G3 cX/\G4 cX/\
   aH cX (AA cE 0) x0 λdB=>aH dB (AA cE 1) x1 λff=>G1 ff/\G2 ff/\aH ff (AA b 0) y0 λcQ=>aH cQ (AA b 1) y1 λcW=>J (some (AA cE 0)) (some (AA b 0)) cW)/\True:=by
 have key: ∀(b b':Nat) (h7:aj),b≠b'->h.size<=b->h.size<=b'->Fr No h h7->h7[b]? =some (.cells #[z0,z1] t (0,0))->h7[b']? =some (.cells #[z0,z1] t (0,0))->
   aH h7 (AA b 0) x0 λdB=>aH dB (AA b 1) x1 λff=>G1 ff/\G2 ff/\aH ff (AA b' 0) y0 λcQ=>aH cQ (AA b' 1) y1 λcW=>J (some (AA b 0)) (some (AA b' 0)) cW:=by
  intro b b' h7 kB hb wG f7 c7 c7';have fr: ∀ {h1 h2:aj} {x:Nat},Fr No h h1->h.size<=x->h2.size=h1.size->(∀y,y≠x->h2[y]? =h1[y]?)->Fr No h h2:=λf hx hs ho=>
   ⟨by have:=f.1;omega,λc hc hn=>by rw[ho c (by omega)];exact f.2 c hc hn⟩
  refine bM c7 (by simp) λh8 c8 s8 k8=>bM c8 (by simp) λh9 c9 s9 k9=> ?_
  have f9:=fr (fr f7 hb s8 k8) hb s9 k9;have c9':h9[b']? =some (.cells #[z0,z1] t (0,0)):=by rw[k9 _ kB.symm,k8 _ kB.symm];exact c7'
  refine⟨(hG _ f9).1,(hG _ f9).2.1,bM c9' (by simp) λvk Wt s10 Na=>bM Wt (by simp) λyj c11 s11 k11=> ?_⟩;refine hJ b b' yj ?_ c11 hb wG (fr (fr f9 wG s10 Na) wG s11 k11);rw[k11 _ kB,Na _ kB];exact c9
 have f1: ∀o,Fr No h (h.push o):=λo=>Fr.push _ _
 refine⟨?_,?_,trivial⟩
 ·rintro b h1 rfl rfl;obtain⟨g1,g2,g3,g4⟩:=hG _ (f1 _);refine⟨g1,g2,g3,g4,?_⟩;rintro b' h2 rfl rfl;have f2:=Fr.tt (f1 (.cells #[z0,z1] t)) (Fr.push (h.push (.cells #[z0,z1] t)) (.cells #[z0,z1] t));obtain⟨g1,g2,g3,g4⟩:=hG _ f2;exact⟨g1,g2,g3,g4,key _ _ _ (by simp) (by simp) (by simp) f2 (JK cA) cA⟩
 ·rintro b h1 rfl rfl;obtain⟨g1,g2,g3,g4⟩:=hG _ (f1 _);refine⟨g1,g2,g3,g4,?_⟩;rintro b' h2 rfl rfl;have f2:=Fr.tt (f1 (.cells #[z0,z1] t)) (Fr.push (h.push (.cells #[z0,z1] t)) (.cells #[z0,z1] t));obtain⟨g1,g2,g3,g4⟩:=hG _ f2;exact⟨g1,g2,g3,g4,key _ _ _ (by simp) (by simp) (by simp) f2 cA (JK cA)⟩
end cu
end
section
open Go.rO
namespace cu
variable {h:aj} {a m cap:Nat} {p:bV} {es:List E} {g:Int→Option Value} {R:iI}
theorem ajM {q:Nat} (hq:q<1000000):IntKind.wrap .i64 (Int.tdiv (IntKind.wrap .i64 ((q:Int) - 1)) 2)=(((q - 1)/2:Nat):Int):=by
 rw[bL (n:=(q:Int) - 1) (by omega) (by omega)];cases q with
 |zero=>decide
 |succ n=>
  rw[show((n+1:Nat):Int) - 1=(n:Int) by omega,show n+1 - 1=n from rfl];have:Int.tdiv (n:Int) 2=((n/2:Nat):Int):=by
   rw[Int.tdiv_eq_ediv_of_nonneg (by omega)];omega
  rw[this];exact bL (by omega) (by omega)
theorem afB {q:Nat} (hq:q<1000000):IntKind.wrap .i64 (IntKind.wrap .i64 (2*(q:Int))+1)=((2*q+1:Nat):Int):=by
 rw[bL (n:=2*(q:Int)) (by omega) (by omega),bL (by omega) (by omega)];omega
theorem afC {q:Nat} (hq:q<1000000):IntKind.wrap .i64 (IntKind.wrap .i64 (2*(q:Int))+2)=((2*q+2:Nat):Int):=by
 rw[bL (n:=2*(q:Int)) (by omega) (by omega),bL (by omega) (by omega)];omega
theorem Wu {K:aj->Prop} (M:Mem h a p cap m es g) (hP:nf es g) {i j b b':Nat} (hi:i<es.length) (hj:j<es.length) (kB:i≠j)
  (hb:h[b]? =some (.cells #[.I (at_ es i).1,.U (at_ es i).2] T.dv (0,0))) (wG:h[b']? =some (.cells #[.I (at_ es j).1,.U (at_ es j).2] T.dv (0,0)))
  (nb': ¬inner p m b')
  (hk: ∀h' g',Mem h' a p cap m (Bu es i j) g'->nf (Bu es i j) g'->Fr (inner p m) h h'->K h'):
  aP (some ((AA b 0):Addr)) λkz=>
   ∃(DX:Int),ak h kz=some (.I DX)/\∃(Fs:Int),ak h (kz.add 1)=some (.U Fs)/\
   Cl F.gu #[.P a 0,.I (j:Int),.agg #[.I DX,.U Fs]] h λv cC=>
   v=.tuple #[]/\
   aP (some ((AA b' 0):Addr)) λpF=>
   ∃(MV:Int),ak cC pF=some (.I MV)/\∃(MW:Int),ak cC (pF.add 1)=some (.U MW)/\
   Cl F.gu #[.P a 0,.I (i:Int),.agg #[.I MV,.U MW]] cC λeK cK=>
   eK=.tuple #[]/\K cK:=by
 refine aB.2 ⟨_,af hb rfl,_,by rw[kC];exact af hb rfl,?_⟩;refine GJ M hj λh4 M4 f4=>⟨rfl,aB.2 ?_⟩
 have mb:=f4.get wG nb';refine⟨_,af mb rfl,_,by rw[kC];exact af mb rfl,?_⟩;refine GJ M4 (by rw[eX];exact hi) λh5 M5 f5=>⟨rfl,hk h5 _ M5 (hP.swap hi hj kB) (Fr.tt f4 f5)⟩
def upI (h0 : aj) (a : Nat) (p : Option Addr) (cap m : Nat) (es0 : List E) (i0 : Nat) (i : Int) (h : aj) : Prop :=
  ∃ es g q, i = ((q : Nat) : Int) ∧ q < es0.length ∧ es.length = es0.length ∧ Mem h a p cap m es g ∧ nf es g ∧ es.Perm es0 ∧ EC (at_ es) es0.length q ∧
    ((q = i0 ∧ es = es0) ∨ Kv (at_ es) es0.length q) ∧ at_ es q = at_ es0 i0 ∧ Fr (inner p m) h0 h
theorem Wv (M:Mem h a p cap m es g) (hP:nf es g) {i:Nat} (hi:i<es.length) (hn:es.length<1000000) (ex:EC (at_ es) es.length i)
  (hk: ∀h' yJ g' q,Mem h' a p cap m yJ g'->nf yJ g'->yJ.Perm es->yJ.length=es.length->q<es.length->at_ yJ q=at_ es i->ED (at_ yJ) es.length q->(Kv (at_ es) es.length i->CH (at_ yJ) es.length)->Fr (inner p m) h h'->R (.tuple #[]) h'):
  Cl F.mr #[.P a 0,.I (i:Int)] h R:=by
 refine mr.walk ⟨upI h a p cap m es i,λi _=>i.toNat,⟨es,g,i,rfl,hi,rfl,M,hP,.refl _,ex,.inl ⟨rfl,rfl⟩,rfl,Fr.refl _ _⟩,?_⟩;rintro i1 h1 ⟨Mh,g1,q,rfl,hq,hl,M1,P1,pm1,ex1,kd,ET,fr⟩;rw[ajM (by omega)];refine aK.of λJ hJ=> ?_
 have HA:q<Mh.length:=by omega
 have xS:(q - 1)/2<Mh.length:=by omega
 have stay: ∀h2,Fr No h1 h2->(q=0\/le (at_ Mh ((q - 1)/2)) (at_ Mh q))->J false h2:=by
  intro h2 f hle;subst hJ;simp only[aA,aU];have hd:=afz ex1 hle;refine hk h2 Mh g1 q (M1.calm f) P1 pm1 hl hq ET hd (λk0=> ?_) (Fr.on fr f);rcases kd with⟨e1,e2⟩|kd
  ·subst e1 e2;exact AI hd k0
  ·exact AI hd kd
 by_cases h0:q=0
 ·subst h0;exact stay h1 (Fr.refl _ _) (.inl rfl)
 ·have hgt:(q:Int)>0:=by omega
  simp only[hgt,decide_true,bA,aL];obtain⟨ad,rfl⟩:=M1.some (by omega);refine⟨_,_,_,M1.hd,⟨by omega,by omega⟩,aB.2 ⟨_,M1.c0 HA,_,M1.c1 HA,_,_,_,M1.hd,⟨by omega,by omega⟩,aB.2 ⟨_,M1.c0 xS,_,M1.c1 xS,Fz λh2 f=>⟨_,rfl,(M1.calm f).hd,(M1.calm f).hd,?_⟩⟩⟩⟩;by_cases jc:lt (at_ Mh q) (at_ Mh ((q - 1)/2))
  ·rw[show decide (lt ((at_ Mh q).1,(at_ Mh q).2) ((at_ Mh ((q - 1)/2)).1,(at_ Mh ((q - 1)/2)).2))=true from ay jc];subst hJ;simp only[bA,aL];have M2:=M1.calm f;refine aK.of λJ1 pB=> ?_
   refine⟨_,_,_,M2.hd,⟨by omega,by omega⟩,aB.2 ⟨_,M2.c0 HA,_,M2.c1 HA,_,_,_,M2.hd,⟨by omega,by omega⟩,aB.2 ⟨_,M2.c0 xS,_,M2.c1 xS,?_⟩⟩⟩;refine ah2 (λh' f'=> ?_) (λb b' h' hb wG sb sb' f'=> ?_)
   ·have M':=M2.calm f';exact⟨⟨M'.c0 xS,M'.c1 xS,trivial⟩,M'.hd,⟨M'.c0 HA,M'.c1 HA,trivial⟩,M'.hd⟩
   ·subst pB;have M3:=M2.calm f';refine Wu M3 P1 HA xS (by omega) hb wG (λhc=> ?_) λh5 g5 M5 P5 f5=>⟨⟨Bu Mh q ((q - 1)/2),g5,(q - 1)/2,rfl,by omega,by rw[GI];exact hl,M5,P5,(EE HA xS).trans pm1,?_⟩,?_⟩
    ·have:=M2.lt (.inr hc);omega
    ·have mv:=afA ex1 (by omega) hq rfl jc;rw[M0 HA xS];refine⟨mv.1,.inr mv.2,?_,Fr.tt fr (Fr.no f (Fr.no f' f5))⟩;rw[<-ET];unfold zI;rw[dM,ag rfl]
    ·show Int.toNat (((q - 1)/2:Nat):Int)<Int.toNat (q:Int);rw[aL,aL];omega
  ·rw[show decide (lt ((at_ Mh q).1,(at_ Mh q).2) ((at_ Mh ((q - 1)/2)).1,(at_ Mh ((q - 1)/2)).2))=false from decide_eq_false jc];exact stay h2 f (.inr jc)
theorem acr {J:Int->aj->Prop} (M:Mem h a p cap m es g) {b c:Nat} (hb:b<es.length)
  (k1:es.length<=c->J b h) (k2:c<es.length->lt (at_ es c) (at_ es b)->∀h',Fr No h h'->J c h') (k3:c<es.length->¬lt (at_ es c) (at_ es b)->∀h',Fr No h h'->J b h'):
  aK (λ(t43:Bool) (cC:aj)=>
   aK (λ(Uy:Int) (cK:aj)=>
    J Uy cK)
   (λBp=>
    if t43=true then
     Bp (c:Int) cC
    else
     Bp (b:Int) cC))
  (λjo=>
   ∃(iQ:bV) (iy iz:Nat),ak h (AA a 0)=some (.slice iQ iy iz)/\
   if(decide ((c:Int)<(iy:Int)))=true then
    ∃(yg:bV) (vK CE:Nat),ak h (AA a 0)=some (.slice yg vK CE)/\
    ((0:Int)<=(c:Int)/\(c:Int)<(vK:Int))/\
    aP yg λkz=>
    ∃(Kr:Int),ak h (kz.add (Int.toNat (c:Int)*2))=some (.I Kr)/\∃(Ks:Int),ak h ((kz.add (Int.toNat (c:Int)*2)).add 1)=some (.U Ks)/\
    ∃(rK:bV) (rL vh:Nat),ak h (AA a 0)=some (.slice rK rL vh)/\
    ((0:Int)<=(b:Int)/\(b:Int)<(rL:Int))/\
    aP rK λpF=>
    ∃(xh:Int),ak h (pF.add (Int.toNat (b:Int)*2))=some (.I xh)/\∃(xi:Int),ak h ((pF.add (Int.toNat (b:Int)*2)).add 1)=some (.U xi)/\
    Cl F.oE #[.agg #[.I Kr,.U Ks],.agg #[.I xh,.U xi]] h λv cR=>
    ∃(t42:Bool),v=.bool t42/\
    ak cR (AA a 0)=some (.slice rK rL vh)/\
    ak cR (AA a 0)=some (.slice yg vK CE)/\
    ak cR (AA a 0)=some (.slice iQ iy iz)/\
    jo t42 cR
   else
    jo false h):=by
 refine aK.of λJ1 pB=>⟨_,_,_,M.hd,?_⟩
 by_cases hc:c<es.length
 ·have hc':(c:Int)<(es.length:Int):=by omega
  simp only[hc',decide_true,bA,aL];obtain⟨ad,rfl⟩:=M.some (by omega);refine⟨_,_,_,M.hd,⟨by omega,by omega⟩,aB.2 ⟨_,M.c0 hc,_,M.c1 hc,_,_,_,M.hd,⟨by omega,by omega⟩,aB.2 ⟨_,M.c0 hb,_,M.c1 hb,Fz λh2 f=>⟨_,rfl,(M.calm f).hd,(M.calm f).hd,(M.calm f).hd,?_⟩⟩⟩⟩;subst pB;by_cases jc:lt (at_ es c) (at_ es b)
  ·rw[show decide (lt ((at_ es c).1,(at_ es c).2) ((at_ es b).1,(at_ es b).2))=true from ay jc];simp only[bA,aK];exact k2 hc jc h2 f
  ·rw[show decide (lt ((at_ es c).1,(at_ es c).2) ((at_ es b).1,(at_ es b).2))=false from decide_eq_false jc];simp only[aA,aU,aK];exact k3 hc jc h2 f
 ·have hc': ¬(c:Int)<(es.length:Int):=by omega
  subst pB;simp only[hc',decide_false,aA,aU,aK];exact k1 (by omega)
def dnI (h0 : aj) (a : Nat) (p : Option Addr) (cap m : Nat) (es0 : List E) (i : Int) (h : aj) : Prop :=
  ∃ es g q, i = ((q : Nat) : Int) ∧ q < es0.length ∧ es.length = es0.length ∧ Mem h a p cap m es g ∧ nf es g ∧ es.Perm es0 ∧ ED (at_ es) es0.length q ∧ Fr (inner p m) h0 h
def aqa (h1:aj) (es:List E) (q:Nat) (tF t:Int) (h:aj):Prop:=
 ∃b k:Nat,tF=b/\t=k/\k<=2/\b<es.length/\Fr No h1 h/\(b≠q->(b - 1)/2=q/\0<b/\lt (at_ es b) (at_ es q))/\∀c,0<c->c<es.length->c<=2*q+k->(c - 1)/2=q->le (at_ es b) (at_ es c)
theorem Ww (M : Mem h a p cap m es g) (hP : nf es g) {i : Nat} (hi : i < es.length) (hn : es.length < 1000000) (ex : ED (at_ es) es.length i)
    (hk : ∀ h' yJ g', Mem h' a p cap m yJ g' → nf yJ g' → yJ.Perm es → yJ.length = es.length → CH (at_ yJ) es.length → Fr (inner p m) h h' → R (.tuple #[]) h') :
    Cl F.nZ #[.pointer (some ⟨a, 0, none⟩), .int .i64 (i : Int)] h R := by
  refine nZ.walk ⟨dnI h a p cap m es, λi _ => es.length - i.toNat, ⟨es, g, i, rfl, hi, rfl, M, hP, .refl _, ex, Fr.refl _ _⟩, ?_⟩
  rintro i1 h1 ⟨Mh, g1, q, rfl, hq, hl, M1, P1, pm1, ex1, fr⟩
  have HA : q < Mh.length := by omega
  rw [afB (by omega), afC (by omega)]
  refine ⟨aqa h1 Mh q, λ_ t _ => 2 - t.toNat, ⟨q, 0, rfl, rfl, by omega, HA, Fr.refl _ _, λkB => absurd rfl kB, λc h1 h2 h3 h4 => by omega⟩, ?_⟩
  rintro tF t h2 ⟨b, k, rfl, rfl, hk2, hb, f2, hbq, kA⟩
  have M2 := M1.calm f2
  by_cases hkk : k < 2
  · have aqb : (k : Int) < 2 := by omega
    simp only [aqb, decide_true, if_true]
    rw [bL (n := (k : Int) + 1) (by omega) (by omega)]
    refine aK.of λJ hJ => ⟨⟨by omega, by omega⟩, λMi => ?_, λQL => ?_, trivial⟩
    · obtain rfl : k = 0 := by omega
      refine acr M2 hb (λhc => ?_) (λhc jc h3 f3 => ?_) (λhc jc h3 f3 => ?_) <;> subst hJ <;> refine ⟨?_, by simp⟩
      · exact ⟨b, 1, rfl, rfl, by omega, hb, f2, hbq, λc c1 c2 c3 c4 => by omega⟩
      · refine ⟨2 * q + 1, 1, rfl, rfl, by omega, hc, Fr.tt f2 f3, λ_ => ⟨by omega, by omega, ?_⟩, λc c1 c2 c3 c4 => ?_⟩
        · by_cases e : b = q
          · rw [← e]; exact e ▸ jc
          · exact lt_trans jc (hbq e).2.2
        · have : c = 2 * q + 1 := by omega
          subst this; exact le_refl _
      · refine ⟨b, 1, rfl, rfl, by omega, hb, Fr.tt f2 f3, hbq, λc c1 c2 c3 c4 => ?_⟩
        have : c = 2 * q + 1 := by omega
        subst this; exact jc
    · obtain rfl : k = 1 := by omega
      refine acr M2 hb (λhc => ?_) (λhc jc h3 f3 => ?_) (λhc jc h3 f3 => ?_) <;> subst hJ <;> refine ⟨?_, by simp⟩
      · exact ⟨b, 2, rfl, rfl, by omega, hb, f2, hbq, λc c1 c2 c3 c4 => kA c c1 c2 (by omega) c4⟩
      · refine ⟨2 * q + 2, 2, rfl, rfl, by omega, hc, Fr.tt f2 f3, λ_ => ⟨by omega, by omega, ?_⟩, λc c1 c2 c3 c4 => ?_⟩
        · by_cases e : b = q
          · rw [← e]; exact e ▸ jc
          · exact lt_trans jc (hbq e).2.2
        · by_cases e : c = 2 * q + 2
          · subst e; exact le_refl _
          · exact le_trans (le_of_lt jc) (kA c c1 c2 (by omega) c4)
      · refine ⟨b, 2, rfl, rfl, by omega, hb, Fr.tt f2 f3, hbq, λc c1 c2 c3 c4 => ?_⟩
        by_cases e : c = 2 * q + 2
        · subst e; exact jc
        · exact kA c c1 c2 (by omega) c4
  · obtain rfl : k = 2 := by omega
    simp only [show ¬ ((2 : Nat) : Int) < 2 by omega, decide_false, Bool.false_eq_true, if_false]
    by_cases e : b = q
    · subst e
      simp only [bne_self_eq_false, Bool.false_eq_true, if_false]
      refine hk h2 Mh g1 M2 P1 pm1 hl (AI ex1 λj j1 j2 j3 => kA j j1 (by omega) (by omega) j3) (Fr.on fr f2)
    · obtain ⟨b1, b2, b3⟩ := hbq e
      have kB : ((b : Int) != (q : Int)) = true := by simp; omega
      simp only [kB, if_true, Int.toNat_natCast]
      obtain ⟨ad, rfl⟩ := M2.some (by omega)
      refine aK.of λJ1 pB => ?_
      refine ⟨_, _, _, M2.hd, ⟨by omega, by omega⟩, aB.2 ⟨_, M2.c0 HA, _, M2.c1 HA, _, _, _, M2.hd, ⟨by omega, by omega⟩, aB.2 ⟨_, M2.c0 hb, _, M2.c1 hb, ?_⟩⟩⟩
      refine ah2 (λh' f' => ?_) (λx x' h' hx hx' sx sx' f' => ?_)
      · have M' := M2.calm f'
        exact ⟨⟨M'.c0 hb, M'.c1 hb, trivial⟩, M'.hd, ⟨M'.c0 HA, M'.c1 HA, trivial⟩, M'.hd⟩
      · subst pB
        have M3 := M2.calm f'
        refine Wu M3 P1 HA hb (λx => e x.symm) hx hx' (λhc => ?_) λh5 g5 M5 P5 f5 => ⟨⟨Bu Mh q b, g5, b, rfl, by omega, by rw [GI]; exact hl, M5, P5, (EE HA hb).trans pm1, ?_, Fr.tt fr (Fr.no f2 (Fr.no f' f5))⟩, ?_⟩
        · have := M2.lt (.inr hc); omega
        · rw [M0 HA hb]
          exact aax ex1 b1 b2 (by omega) b3 λj j1 j2 j3 => kA j j1 (by omega) (by omega) j3
        · show es.length - Int.toNat (b : Int) < es.length - Int.toNat (q : Int)
          rw [Int.toNat_natCast, Int.toNat_natCast]; omega
end cu
end
end Go.Proofs.YtlenamcfacpheaaGreatDoor
namespace Go.rO
theorem Nb {es:List E} {n:Nat} (hn:es.length=n+1):es=es.take n++ [at_ es n]:=by
 have h:n<es.length:=by omega
 rw[yN h];have:=List.take_append_getElem h;rw[this,bT (by omega)]
theorem Pn {es:List E} {n i:Nat} (hi:i<n):at_ (es.take n) i=at_ es i:=by
 unfold at_;rw[ba,ba,dt,ag hi]
theorem GK {es:List E} {x:E} {i:Nat} :at_ (es++ [x]) i=if i<es.length then at_ es i else if i=es.length then x else(0,0):=by
 unfold at_;rw[ba,ba];by_cases h:i<es.length
 ·rw[dy h,ag h]
 ·rw[dq (by omega),ai h];by_cases e:i=es.length
  ·subst e;simp
  ·rw[ai e,eH (by simp;omega)];rfl
theorem mem_keys {es:List E} {k:Int} (h:k∈keys es): ∃j,j<es.length/\(at_ es j).1=k:=by
 obtain⟨e,he,rfl⟩:=bn.1 h;obtain⟨j,hj⟩:=bH he;have hl:=(aG.1 hj).1;rw[Wp hl] at hj;exact⟨j,hl,bp Prod.fst (bz hj)⟩
theorem at_mem {es:List E} {j:Nat} (h:j<es.length):at_ es j∈es:=by rw[yN h];exact fx h
theorem keys_perm {l l':List E} (h:l.Perm l'):(keys l).Perm (keys l'):=h.map _
def cut (es:List E) (n j:Nat):List E:=if j<n then(es.take n).set j (at_ es n) else es.take n
theorem RO {es:List E} {n j:Nat} (hn:es.length=n+1) (hj:j<es.length):es.Perm (at_ es j::cut es n j):=by
 unfold cut;have hlen:(es.take n).length=n:=by rw[bR];omega
 split
 ·rename_i h;have hT:j<(es.take n).length:=by omega
  have e1:at_ es j=(es.take n)[j]:=by rw[<-Pn h,yN hT]
  have p1:es.Perm (at_ es n::es.take n):=by
   have:es.Perm (es.take n++ [at_ es n]):=by rw[<-Nb hn]
   exact this.trans (fC _ _)
  have p2:(es.take n).Perm (at_ es j::((es.take n).take j++(es.take n).drop (j+1))):=by
   rw[e1];have e2:es.take n=(es.take n).take j++(es.take n)[j]::(es.take n).drop (j+1):=by rw[<-db hT,List.take_append_drop]
   have e3:(es.take n).Perm ((es.take n).take j++(es.take n)[j]::(es.take n).drop (j+1)):=List.Perm.of_eq e2;exact e3.trans List.perm_middle
  have p3:((es.take n).set j (at_ es n)).Perm (at_ es n::((es.take n).take j++(es.take n).drop (j+1))):=by
   rw[List.set_eq_take_append_cons_drop,ag hT];exact List.perm_middle
  exact p1.trans ((p2.cons _).trans ((List.Perm.swap _ _ _).trans (p3.symm.cons _)))
 ·have:j=n:=by omega
  subst this;have:es.Perm (es.take j++ [at_ es j]):=by rw[<-Nb hn]
  exact this.trans (fC _ _)
theorem acs {es l:List E} {n j:Nat} (hn:es.length=n+1) (hj:j<es.length) (hd:(keys es).Nodup) (hp:es.Perm l):(cut es n j).Perm (iH l (at_ es j).1):=by
 have h1:=RO hn hj;have hk:(at_ es j).1∉keys (cut es n j):=by
  have:=(keys_perm h1).nodup_iff.1 hd;exact(gv.1 this).1
 have h2:=UB (h1.symm.trans hp) (at_ es j).1;have h3:iH (at_ es j::cut es n j) (at_ es j).1=cut es n j:=by
  have:iH (at_ es j::cut es n j) (at_ es j).1=iH (cut es n j) (at_ es j).1:=by
   unfold iH;rw[cD];simp
  rw[this,si hk]
 rw[h3] at h2;exact h2
theorem Po {es:List E} {n j:Nat} (hn:es.length=n+1):(cut es n j).length=n:=by
 unfold cut;split
 ·rw[eX,bR];omega
 ·rw[bR];omega
theorem AJ {es:List E} {n j i:Nat} (hn:es.length=n+1) (hi:i<n):at_ (cut es n j) i=if i=j then at_ es n else at_ es i:=by
 have hlen:(es.take n).length=n:=by rw[bR];omega
 unfold cut;split
 ·rw[Uz (by omega),Pn hi]
 ·rw[Pn hi,dM]
theorem aay {es:List E} {g:Int->Option Value} {n j:Nat} (h:nf es g) (hn:es.length=n+1) (hj:j<es.length):
  nf (cut es n j) (λk=>if j<n then(if k=(at_ es n).1 then some (.I j) else if k=(at_ es j).1 then none else g k) else if k=(at_ es j).1 then none else g k):=by
 obtain⟨h1,h2,h3⟩:=h;have hp:=keys_perm (RO hn hj);have Re:=hp.nodup_iff.1 h1;refine⟨(gv.1 Re).2,λi hi=> ?_,λk hk=> ?_⟩
 ·rw[Po hn] at hi;rw[AJ hn hi];by_cases e:i=j
  ·subst e;simp[hi]
  ·rw[ai e];have n1:(at_ es i).1≠(at_ es n).1:=λx=>by have:=key_inj h1 (by omega) (by omega) x;omega
   have n2:(at_ es i).1≠(at_ es j).1:=λx=>e (key_inj h1 (by omega) hj x)
   simp[n1,n2,h2 i (by omega)]
 ·have hgo: ∀k,k∉(cut es n j).map (·.1)->k≠(at_ es j).1->g k=none:=λk hk kB=>by
   refine h3 k λhm=> ?_
   rcases bQ.1 (hp.mem_iff.1 hm) with e|e
   ·exact kB e
   ·exact hk e
  by_cases QO:j<n
  ·have hl:(at_ es n).1∈(cut es n j).map (·.1):=by
    have:=at_mem (es:=cut es n j) (j:=j) (by rw[Po hn];exact QO);rw[AJ hn QO,ag rfl] at this;exact bB this
   have n1:k≠(at_ es n).1:=λe=>hk (e▸hl)
   by_cases e:k=(at_ es j).1
   ·subst e;simp[QO,n1]
   ·simp[QO,n1,e,hgo k hk e]
  ·by_cases e:k=(at_ es j).1
   ·subst e;simp[QO]
   ·simp[QO,e,hgo k hk e]
theorem acu {es:List E} {n j:Nat} (hn:es.length=n+1) (hj:j<n) (hh:CH (at_ es) es.length):EC (at_ (cut es n j)) n j:=by
 refine⟨λc h1 h2 h3 h4=> ?_,λh0 c h1 h2 h3=> ?_⟩
 ·rw[AJ hn h2,AJ hn (by omega),ai h3,ai h4];exact hh c h1 (by omega)
 ·rw[AJ hn h2,AJ hn (by omega),dM,dM];have:=hh c h1 (by omega);rw[h3] at this;exact le_trans (hh j h0 (by omega)) this
theorem acv {es:List E} {n j:Nat} (hn:es.length=n+1) (hj: ¬j<n) (hh:CH (at_ es) es.length):CH (at_ (cut es n j)) n:=λc h1 h2=>by
 rw[AJ hn h2,AJ hn (by omega),dM,dM];exact hh c h1 (by omega)
theorem acw {es:List E} {x:E} (hh:CH (at_ es) es.length):EC (at_ (es++ [x])) (es.length+1) es.length/\Kv (at_ (es++ [x])) (es.length+1) es.length:=by
 refine⟨⟨λc h1 h2 h3 h4=> ?_,λh0 c h1 h2 h3=>by omega⟩,λc h1 h2 h3=>by omega⟩;rw[GK,GK,jy,jy];exact hh c h1 (by omega)
theorem aaz {es:List E} {g:Int->Option Value} {x:E} (h:nf es g) (hx:x.1∉keys es):nf (es++ [x]) (λk=>if k=x.1 then some (.I es.length) else g k):=by
 obtain⟨h1,h2,h3⟩:=h;refine⟨?_,λi hi=> ?_,λk hk=> ?_⟩
 ·have:((es++ [x]).map (·.1)).Perm (x.1::es.map (·.1)):=by
   rw[bm];exact fC _ _
  exact this.nodup_iff.2 (gv.2 ⟨hx,h1⟩)
 ·rw[aF,fk] at hi;rw[GK];by_cases e:i<es.length
  ·rw[ag e];have:(at_ es i).1≠x.1:=λq=>hx (q▸bB (at_mem e))
   simp[this,h2 i e]
  ·have:i=es.length:=by omega
   subst this;simp
 ·rw[bm,bU] at hk;have n1:k≠x.1:=λe=>hk (.inr (by simp[e]))
  simp[n1,h3 k (λhm=>hk (.inl hm))]
theorem UD {e:E} {l:List E} (hd:(keys (e::l)).Nodup):iH (e::l) e.1=l:=by
 have h1:iH (e::l) e.1=iH l e.1:=by unfold iH;rw[cD];simp
 rw[h1,si (gv.1 hd).1]
end Go.rO
namespace Go.Proofs.YtlenamcfacpheaaGreatDoor
open Go.Den
open IntKind (wrap)
open Int (toNat)
section
open Go.rO
namespace cu
variable {h:aj} {a m cap:Nat} {p:bV} {es:List E} {g:Int→Option Value} {R:iI} {S:Nat→Prop} {L:List E}
theorem tE:Ap Tryz.prog T.nA T.dv 2 16 (.agg #[.I 0,.U 0]):=⟨by kernel_rfl,by kernel_rfl,rfl⟩
theorem tI:Ap Tryz.prog T.Fe T.int 1 8 (.I 0):=⟨by kernel_rfl,by kernel_rfl,rfl⟩
def Good (L:List E):Prop:= ∀e∈L,1<=e.1/\e.1<=1099511627776/\0<=e.2/\e.2<=1099511627776
def Al (h:aj) (a:Nat) (S:Nat->Prop) (L:List E):Prop:=
 ∃p cap m es g,Mem h a p cap m es g/\nf es g/\CH (at_ es) es.length/\es.Perm L/\pG L/\Good L/\∀c,S c↔Kw a p m c
theorem Al.lt (A:Al h a S L) {c:Nat} (hc:S c):c<h.size:=by
 obtain⟨p,cap,m,es,g,M,_,_,_,_,_,hS⟩:=A;exact M.lt ((hS c).1 hc)
theorem Al.frame {Q:Nat->Prop} {h':aj} (A:Al h a S L) (hf:Fr Q h h') (hn: ∀c,S c->¬Q c):Al h' a S L:=by
 obtain⟨p,cap,m,es,g,M,P,H,pm,so,gd,hS⟩:=A;exact⟨p,cap,m,es,g,M.frame hf λc hc=>hn c ((hS c).2 hc),P,H,pm,so,gd,hS⟩
theorem Al.sorted (A:Al h a S L):pG L:=by
 obtain⟨p,cap,m,es,g,M,P,H,pm,so,gd,hS⟩:=A;exact so
theorem Al.nodup (A:Al h a S L):(keys L).Nodup:=by
 obtain⟨p,cap,m,es,g,M,P,H,pm,so,gd,hS⟩:=A;exact(keys_perm pm).nodup_iff.1 P.1
theorem ji (M:Mem h a p cap m es g) (hk:R (.bool true) h):Cl F.lU #[.P a 0] h R:=
 lU.walk ⟨some m,M.mp,hk⟩
theorem pE (hk: ∀a S h',Al h' a S []->(∀c,S c->h.size<=c)->Fr No h h'->R (.P a 0) h'):Cl F.uv #[] h R:=by
 refine uv.walk ?_;rintro b h1 rfl rfl b1 h2 rfl rfl;have f:Fr No (h.push (.map #[] 0)) ((h.push (.map #[] 0)).push (.cells #[.Z,.map (some h.size)] T.Cs)):=Fr.push _ _;refine hk _ (Kw (h.push (.map #[] 0)).size none h.size) _ ⟨none,0,h.size, [],λ_=>none,⟨cA,.nil rfl rfl rfl rfl,(xU.push h).frame f id,?_⟩,⟨.nil,?_,λ_ _=>rfl⟩,?_,.refl _,.nil,?_,λ_=>fZ⟩ ?_ (Fr.tt (Fr.push _ _) f)
 ·rintro⟨_,e,_⟩;cases e
 ·intro j hj;simp at hj
 ·intro j _ hj;simp at hj
 ·intro e he;cases he
 ·rintro c (rfl|rfl|⟨_,e,_⟩)
  ·simp
  ·exact bh _
  ·cases e
theorem acx (A:Al h a S L) (hk:R (.I (L.length:Int)) h):Cl F.mL #[.P a 0] h R:=by
 obtain⟨p,cap,m,es,g,M,P,H,pm,so,gd,hS⟩:=A;refine mL.walk ⟨_,_,_,M.hd,?_⟩;rw[pm.length_eq];exact hk
def hd (L:List E):E:=L.headD (0,0)
theorem FA (A:Al h a S L) (hk:R (.tuple #[.I (hd L).1,.U (hd L).2,.bool (!L.isEmpty)]) h):Cl F.lW #[.P a 0] h R:=by
 refine lW.walk (acx A ⟨_,rfl,?_⟩);obtain⟨p,cap,m,es,g,M,P,H,pm,so,gd,hS⟩:=A;cases L with
 |nil=>exact hk
 |cons e r=>
  have hl:=pm.length_eq;simp only[bj] at hl;have kB:(((e::r).length:Int)==0)=false:=by simp only[bj,beq_eq_false_iff_ne];omega
  simp only[kB,aA,aU];obtain⟨ad,rfl⟩:=M.some (by omega);obtain⟨r',hr⟩:=acq pm so H (by omega);have he:at_ es 0=e:=(List.cons.inj hr).1.symm;have c0:=M.c0 (i:=0) (by omega);have c1:=M.c1 (i:=0) (by omega);rw[he] at c0 c1;refine⟨_,_,_,M.hd,⟨by omega,by omega⟩,aB.2 ⟨_,c0,_,_,_,M.hd,⟨by omega,by omega⟩,aB.2 ⟨_,c1,hk⟩⟩⟩
theorem ajN {t:TypeId} {z0 z1 x0 x1:Value} {K:Nat->aj->Prop} (hk: ∀b h',h'[b]? =some (.cells #[x0,x1] t (0,0))->h.size<=b->Fr No h h'->K b h'):
  aV h (.cells #[z0,z1] t) λb h2=>aH h2 (AA b 0) x0 λh3=>aH h3 (AA b 1) x1 λh4=>K b h4:=by
 rintro b h2 rfl rfl;refine bM cA (by simp) λh3 c3 s3 k3=>bM c3 (by simp) λh4 c4 s4 k4=>hk _ h4 c4 (bh _) ⟨?_,λc hc _=> ?_⟩
 ·rw[s4,s3];simp
 ·rw[k4 c (by omega),k3 c (by omega)];exact(Fr.push (S:=λ_=>False) h _).2 c hc id
theorem AK (A:Al h a S L) (hn:L.length<1000000) (key:Int)
  (k1:key∈keys L->∀h',Al h' a S (iH L key)->Fr S h h'->R (.I 0) h')
  (k2:key∉keys L->R (.I 4) h):Cl F.gp #[.P a 0,.I key] h R:=by
 obtain⟨p,cap,m,es,g,M,P,H,pm,so,gd,hS⟩:=A;have hlen:=pm.length_eq;refine gp.walk (ji M ⟨true,rfl,?_⟩);simp only[dX,aA,aU];have lk:=ON tm M.map key;by_cases hm:key∈keys es
 ·have k1:=k1 ((keys_perm pm).mem_iff.1 hm);clear k2;obtain⟨j,hj,rfl⟩:=mem_keys hm;obtain⟨n,hn1⟩: ∃n,es.length=n+1:=⟨es.length - 1,by omega⟩;rw[P.2.1 j hj] at lk;refine⟨some m,M.mp,(j:Int),true,lk,?_⟩;simp only[dX,aA,aU];obtain⟨b0,off,rfl⟩:=M.own.some (by rw[rX];omega);refine⟨_,_,_,M.hd,_,_,_,M.hd,?_⟩;rw[show IntKind.wrap .i64 ((es.length:Int) - 1)=(n:Int) by rw[bL (by omega) (by omega)];omega];simp only[aL];refine⟨⟨by omega,by omega⟩,aB.2 ⟨_,M.c0 (i:=n) (by omega),_,M.c1 (i:=n) (by omega),ajN λb h4 hb sb f4=> ?_⟩⟩;have M4:=M.calm f4;have hle:=M.own.le;have hsl:da (some ((AA b0 off):Addr)) cap 0 2=some (AA b0 off):=by
   unfold da;split
   ·rfl
   ·simp[kC]
  refine⟨_,_,_,M4.hd,⟨by omega,by omega⟩,bM M4.dF (by simp) λh5 c5 s5 k5=> ?_⟩;have f5:Fr (λc=>c=a) h4 h5:=Fr.of_eq s5 k5;have tl:(es.take n).length=n:=by rw[bR];omega
  have M5:Mem h5 a (some (AA b0 off)) cap m (es.take n) g:=by
   refine⟨?_,?_,M4.map.frame f5 (λe=>M.am e.symm),M.ne⟩
   ·rw[c5,hsl,tl];rfl
   ·have o:=(M4.own.frame f5 (λc hc e=>M.ne (e▸hc))).sub (l:=0) (u:=n) (by omega) (by omega);rw[hsl,RN,Nat.zero_mul,jU] at o;rw[tl];exact o
  refine⟨some m,M5.mp,HC tm M5.map λh6 m6 s6 k6=>⟨rfl,?_⟩⟩;have f6:Fr (λc=>c=m) h5 h6:=Fr.of_eq s6 k6;have M6:Mem h6 a (some (AA b0 off)) cap m (es.take n) (λx=>if x=(at_ es j).1 then none else g x):=
   ⟨f6.get M5.dF M.am,M5.own.frame f6 (λc hc e=>M.pm (e▸hc)),m6,M.ne⟩
  have fh6:Fr (Kw a (some (AA b0 off)) m) h h6:=Fr.no f4 (f5.trans f6 (λ_ _ e=> .inl e) (λ_ _ e=> .inr (.inl e)));have hbn: ∀c,Kw a (some (AA b0 off)) m c->b≠c:=λc hc e=>by have:=M.lt hc;omega
  have RP:=f6.get (f5.get hb (hbn a (.inl rfl))) (hbn m (.inr (.inl rfl)));refine aK.of λJ hJ=> ?_
  have done: ∀h' yJ g',Mem h' a (some (AA b0 off)) cap m yJ g'->nf yJ g'->CH (at_ yJ) yJ.length->yJ.Perm (cut es n j)->Fr (Kw a (some (AA b0 off)) m) h h'->J h':=by
   intro h' yJ g' M' P' H' pm' f';subst hJ;exact k1 h' ⟨_,_,_,yJ,g',M',P',H',pm'.trans (acs hn1 hj P.1 pm),so.drop _,λe he=>gd e (aY.1 he).1,hS⟩ (f'.mono λc _ hc=>(hS c).2 hc)
  have pc:=aay P hn1 hj;have cl:=Po (j:=j) hn1;by_cases QO:j<n
  ·have ajO:(j:Int)<(n:Int):=by omega
   simp only[QO,bA] at pc;simp only[ajO,decide_true,bA];have ajP:(es.take n).set j ((at_ es n).1,(at_ es n).2)=cut es n j:=by unfold cut;rw[ag QO]
   refine⟨_,af RP rfl,_,af RP rfl,GJ M6 (by omega) λh8 M8 f8=>⟨rfl,?_⟩⟩;rw[ajP] at M8;have ex:=acu hn1 QO H;refine Wv M8 pc (by omega) (by omega) (by rw[cl];exact ex) λh9 es9 g9 q M9 P9 pm9 l9 q9 at9 ex9 _ f9=>⟨rfl,some m,M9.mp,?_⟩
   have UE: ¬inner (some (AA b0 off)) m b:=λhc=>hbn b (.inr hc) rfl
   have hb9:=f9.get (f8.get RP UE) UE;have lk9:=MG tm M9.map (at_ es n).1;have e9:at_ es9 q=at_ es n:=by rw[at9,AJ hn1 QO,ag rfl]
   have g9':=P9.2.1 q (by omega);rw[e9] at g9';rw[g9'] at lk9;refine⟨_,af hb9 rfl,(q:Int),lk9,?_⟩;rw[<-l9] at ex9;refine Ww M9 P9 (by omega) (by omega) ex9 λvk aqc g10 M10 P10 aqd l10 H10 f10=>⟨rfl,af (f10.get hb9 UE) rfl,M10.mp,?_⟩
   rw[<-l10] at H10;exact done vk aqc g10 M10 P10 H10 (aqd.trans pm9) (fh6.trans (Fr.tt f8 (Fr.tt f9 f10)) (λ_ _=>id) (λ_ _ hc=> .inr hc))
  ·have ajO: ¬(j:Int)<(n:Int):=by omega
   simp only[QO,aU] at pc;simp only[ajO,decide_false,aA,aU];have ajP:es.take n=cut es n j:=by unfold cut;rw[ai QO]
   rw[ajP] at M6;have H':=acv hn1 QO H;exact done h6 _ _ M6 pc (by rw[cl];exact H') (.refl _) fh6
 ·rw[P.2.2 key hm] at lk;exact⟨some m,M.mp,0,false,lk,k2 λhx=>hm ((keys_perm pm).mem_iff.2 hx)⟩
def may (key t:Int):Bool:=decide (1<=key) && decide (key<=1099511627776) && decide (t<=1099511627776)
theorem vV {key t:Int} :may key t=true↔1<=key/\key<=1099511627776/\t<=1099511627776:=by simp[may,and_assoc]
def Kx (L:List E) (key t:Int):List E:=Fy (iH L key) (key,t)
theorem zK (L:List E) (key:Int):(iH L key).length<=L.length:=cJ _ _
theorem UF (A:Al h a S L) (hn:L.length<999999) (key t:Int) (ht:0<=t)
  (k1:may key t=true->∀h' S',Al h' a S' (Kx L key t)->(∀c,S' c->S c\/h.size<=c)->Fr S h h'->R (.I 0) h')
  (k2:may key t=false->R (.I 1) h):Cl F.kP #[.P a 0,.I key,.U t] h R:=by
 have A0:=A;obtain⟨p,cap,m,es,g,M, -, -, -, -, -, -⟩:=A;refine kP.walk (ji M ⟨true,rfl,?_⟩);clear M;simp only[dX,aA,aU];refine aK.of λJ hJ=> ?_
 have no:may key t=false->J true h:=λhm=>by subst hJ;exact k2 hm
 by_cases h1:key<1
 ·simp only[h1,decide_true,bA];exact no (by simp[may,show¬1<=key by omega])
 simp only[h1,decide_false,aA,aU];by_cases h2:key>1099511627776
 ·simp only[h2,decide_true,bA];exact no (by simp[may,show¬key<=1099511627776 by omega])
 simp only[h2,decide_false,aA,aU];by_cases h3:t>1099511627776
 ·simp only[h3,decide_true];exact no (by simp[may,show¬t<=1099511627776 by omega])
 simp only[h3,decide_false];clear no k2;have k1:=k1 (vV.2 ⟨by omega,by omega,by omega⟩);subst hJ;simp only[aA,aU];have rest: ∀h1 e,Al h1 a S (iH L key)->Fr S h h1->(∃(t25:Int),Value.I e=.I t25/\
    ∃(pd:bV) (nK pO:Nat),ak h1 (AA a 0)=some (.slice pd nK pO)/\
    aV h1 (.cells #[.I 0,.U 0] T.dv) λb cC=>
    aX Tryz.prog (Builtin.append_ #[T.nA,T.nA] T.nA #[.slice pd nK pO,.slice (some (AA b 0)) 1 1]) cC λgS cK=>
    ∃(rG:bV) (pP rH:Nat),gS=.slice rG pP rH/\
    aH cK (AA a 0) (.slice rG pP rH) λcR=>
    ∃(ot:bV) (kI oH:Nat),ak cR (AA a 0)=some (.slice ot kI oH)/\
    Cl F.gu #[.P a 0,.I (IntKind.wrap .i64 ((kI:Int) - 1)),.agg #[.I key,.U t]] cR λkV cX=>
    kV=.tuple #[]/\
    Cl F.mr #[.P a 0,.I (IntKind.wrap .i64 ((kI:Int) - 1))] cX λou dB=>
    ou=.tuple #[]/\
    R (.I 0) dB):=by
  intro h1 e A1 f1;refine⟨e,rfl,?_⟩;have kn:=UA L key;have dl:=zK L key;obtain⟨p,cap,m,es,g,M,P,H,pm,so,gd,hS⟩:=A1;have hlen:=pm.length_eq;refine⟨_,_,_,M.hd,?_⟩;rintro b h4 rfl rfl;have fp:Fr No h1 (h1.push (.cells #[.I 0,.U 0] T.dv)):=Fr.push _ _;have row:Row (h1.push (.cells #[.I 0,.U 0] T.dv)) (some (AA h1.size 0)) (enc [(0,0)]):=.inr ⟨_,rfl,lS cA λj v hj=>by rw[cf];simpa[enc] using hj⟩;have sz4:h1.size<=(h1.push (.cells #[.I 0,.U 0] T.dv)).size:=fp.1;have M4:=M.calm fp;refine fR tE (eT:=T.dv) (by kernel_rfl) M4.own row rfl (Ws _) (by omega) (by omega) λp' nm h5 o5 _ f5 gr=>⟨_,_,_,rfl,?_⟩
  rw[<-UC] at o5;have b5:=f5.get M4.dF M.ne;have ne': ¬aQ p' a:=λhc=>by
   rcases gr a hc with hx|hx
   ·exact M.ne hx
   ·have:=aI M4.dF;omega
  have pm': ¬aQ p' m:=λhc=>by
   rcases gr m hc with hx|hx
   ·exact M.pm hx
   ·have:=M4.map.lt;omega
  refine bM b5 (by simp) λh6 c6 s6 k6=> ?_
  have f6:Fr (λc=>c=a) h5 h6:=Fr.of_eq s6 k6;have M6:Mem h6 a p' nm m (es++ [(0,0)]) g:=by
   refine⟨?_,?_,(M4.map.frame f5 M.pm).frame f6 (λe=>M.am e.symm),ne'⟩
   ·rw[c6,aF];rfl
   ·rw[aF];exact o5.frame f6 (λc hc e=>ne' (e▸hc))
  refine⟨_,_,_,M6.hd,?_⟩;have ew:IntKind.wrap .i64 ((((es++ [((0,0):E)]).length:Nat):Int) - 1)=(es.length:Int):=by
   rw[aF,fk,bL (by omega) (by omega)];omega
  rw[ew];refine GJ M6 (by rw[aF,fk];omega) λh7 M7 f7=>⟨rfl,?_⟩
  have es7:(es++ [((0,0):E)]).set es.length (key,t)=es++ [(key,t)]:=by
   rw[List.set_append_right _ _ (bh _)];simp
  rw[es7] at M7;have kn':key∉keys es:=λhx=>kn ((keys_perm pm).mem_iff.1 hx)
  have P7:=aaz (x:=(key,t)) P kn';obtain⟨ex,kd⟩:=acw (x:=(key,t)) H;have l7:(es++ [(key,t)]).length=es.length+1:=by simp
  rw[<-l7] at ex kd;refine Wv M7 P7 (by omega) (by omega) ex λh8 es8 g8 q M8 P8 pm8 l8 _ _ _ H8 f8=>⟨rfl,?_⟩
  have H8:=H8 kd;rw[<-l8] at H8;have gf: ∀c,Kw a p' m c->S c\/h.size<=c:=by
   rintro c (rfl|rfl|hc)
   ·exact .inl ((hS _).2 (.inl rfl))
   ·exact .inl ((hS _).2 (.inr (.inl rfl)))
   ·rcases gr c hc with hx|hx
    ·exact .inl ((hS _).2 (.inr (.inr hx)))
    ·have:=f1.1;exact .inr (by omega)
  refine k1 h8 (Kw a p' m) ⟨p',nm,m,es8,g8,M8,P8,H8,?_,so.insert _ kn,?_,λ_=>fZ⟩ gf ?_
  ·exact pm8.trans ((fC _ _).trans ((pm.cons _).trans (vU _ _).symm))
  ·intro e he;rcases bQ.1 ((vU _ _).mem_iff.1 he) with rfl|hx
   ·exact⟨by simp only;omega,by simp only;omega,ht,by simp only;omega⟩
   ·exact gd e hx
  ·have aqe: ∀c,c<h1.size->Kw a p' m c->S c:=λc hc hx=>by
    rcases hx with rfl|rfl|hx
    ·exact(hS _).2 (.inl rfl)
    ·exact(hS _).2 (.inr (.inl rfl))
    ·rcases gr c hx with hy|hy
     ·exact(hS _).2 (.inr (.inr hy))
     ·omega
   have g1:Fr S h1 h5:=Fr.no fp (f5.mono λc _ hc=>(hS c).2 (.inr (.inr hc)));have g2:Fr S h1 h6:=g1.trans f6 (λ_ _=>id) (λc _ e=>(hS c).2 (.inl e));have g3:Fr S h1 h8:=g2.trans (Fr.tt f7 f8) (λ_ _=>id) (λc hc hx=>aqe c hc (.inr hx));exact Fr.tt f1 g3
 refine AK A0 (by omega) key (λhm h1 A1 f1=>rest h1 0 A1 f1) (λhm=> ?_);refine rest h 4 ?_ (Fr.refl _ _);rw[si hm];exact A0
def pS (now:Int) (e:E):Bool:=decide (e.2<=now)
def due (L:List E) (now:Int):List E:=L.takeWhile (pS now)
def rest (L:List E) (now:Int):List E:=L.dropWhile (pS now)
def kc (L:List E):List Value:=(keys L).map (.int .i64 ·)
theorem aaA {D T:List E} {now:Int} (hd: ∀e∈D,pS now e=true) (ht: ∀e r,T=e::r->pS now e=false):due (D++T) now=D/\rest (D++T) now=T:=by
 unfold due rest;induction D with
 |nil=>
  cases T with
  |nil=>exact⟨rfl,rfl⟩
  |cons e r=>simp[List.takeWhile,List.dropWhile,ht e r rfl]
 |cons d D ih=>
  have h1:=hd d dY;obtain⟨i1,i2⟩:=ih λe he=>hd e (cN _ he)
  simp only[fw,List.takeWhile_cons,List.dropWhile_cons,h1,bA];exact⟨by rw[i1],i2⟩
def amr (h0:aj) (a:Nat) (S:Nat->Prop) (L:List E) (now:Int) (out:bV) (l c:Nat) (key t:Int) (is:Bool) (h:aj):Prop:=
 ∃D T,L=D++T/\(∀e∈D,pS now e=true)/\Al h a S T/\key=(hd T).1/\t=(hd T).2/\is= !T.isEmpty/\l=D.length/\iS h out l c 1 (kc D)/\(∀x,aQ out x->h0.size<=x)/\Fr S h0 h
theorem Pp (A:Al h a S L) (hn:L.length<999999) (now:Int)
  (hk: ∀h' p' nm,Al h' a S (rest L now)->iS h' p' (due L now).length nm 1 (kc (due L now))->(∀c,aQ p' c->h.size<=c)->Fr S h h'->R (.slice p' (due L now).length nm) h'):
  Cl F.iP #[.P a 0,.U now] h R:=by
 refine iP.walk (FA A ⟨_,_,_,rfl,?_⟩);refine⟨amr h a S L now,λ_ l _ _ _ _ _=>L.length - l,⟨[],L,rfl,(λ_ he=>by cases he),A,rfl,rfl,rfl,rfl,.nil rfl rfl rfl rfl,(λc ⟨_,e,_⟩=>by cases e),Fr.refl _ _⟩,?_⟩;rintro out l c key t is h2 ⟨D,U,eL,hD,A2,rfl,rfl,rfl,rfl,o2,ob,f2⟩;refine aK.of λJ hJ=> ?_
 have stop:(∀e r,U=e::r->pS now e=false)->J false h2:=λht=>by
  subst hJ;simp only[aA,aU];obtain⟨e1,e2⟩:=aaA hD ht;rw[<-eL] at e1 e2;rw[<-e1];rw[<-e1] at o2;exact hk h2 out c (by rw[e2];exact A2) o2 ob f2
 cases U with
 |nil=>exact stop (λe r x=>by cases x)
 |cons e U=>
  simp only[List.isEmpty_cons,gM,bA];by_cases afD:e.2<=now
  ·rw[show decide ((hd (e::U)).2<=now)=true from ay afD];subst hJ;simp only[bA];rintro b h4 rfl rfl;have hlen:L.length=D.length+(U.length+1):=by rw[eL];simp
   have fp:Fr No h2 (h2.push (.cells #[.I (hd (e::U)).1] T.int)):=Fr.push _ _;have row:Row (h2.push (.cells #[.I (hd (e::U)).1] T.int)) (some (AA h2.size 0)) (kc [e]):=.inr ⟨_,rfl,lS cA λj v hj=>by rw[cf];simpa[kc,keys,hd] using hj⟩;have sz:h2.size<=(h2.push (.cells #[.I (hd (e::U)).1] T.int)).size:=fp.1;refine fR tI (eT:=T.int) (by kernel_rfl) (o2.frame fp λ_ _=>id) row rfl (λv hv=>by simp[kc,keys] at hv;subst hv;rfl) (by omega) (by omega) λp' nm h5 o5 _ f5 gr=>⟨_,_,_,rfl,?_⟩
   have ekc:kc D++kc [e]=kc (D++ [e]):=by simp[kc,keys]
   rw[ekc] at o5;have ams: ∀ {c},S c->c<h.size:=λhc=>A.lt hc
   have A5:=(A2.frame fp λ_ _=>id).frame f5 (λc hc hx=>by have:=ob c hx;have:=ams hc;omega);have ob5: ∀c,aQ p' c->h.size<=c:=λc hc=>by
    rcases gr c hc with hx|hx
    ·exact ob c hx
    ·have:=f2.1;omega
   have f25:Fr S h h5:=f2.trans (Fr.no fp f5) (λ_ _=>id) (λc hc hx=>by have:=ob c hx;omega);refine AK A5 (by simp;omega) _ (λ_ h6 A6 f6=>⟨_,rfl,?_⟩) (λGw=>absurd (by exact dY) Gw);rw[show iH (e::U) (hd (e::U)).1=U from UD A5.nodup] at A6;refine FA A6 ⟨_,_,_,rfl,⟨D++ [e],U,by rw[eL];simp,?_,A6,rfl,rfl,rfl,by simp,?_,ob5,Fr.tt f25 f6⟩,?_⟩
   ·intro x hx;rcases bU.1 hx with hx|hx
    ·exact hD x hx
    ·simp at hx;subst hx;exact ay afD
   ·exact o5.frame f6 λc hc hx=>by have:=ob5 c hc;have:=ams hx;omega
   ·show L.length - (D.length+1)<L.length - D.length;omega
  ·rw[show decide ((hd (e::U)).2<=now)=false from decide_eq_false afD];exact stop λe' r x=>by cases x;exact decide_eq_false afD
end cu
end
end Go.Proofs.YtlenamcfacpheaaGreatDoor
namespace Go.Den
section
variable {P : Program}
theorem acy {sT xT ty elem : TypeId} {sz bytes : Nat} {z : Value} {h : aj} {n : Nat} {K : Value → aj → Prop}
    (T : Ap P sT elem sz bytes z) (hx : P.underlying xT = some (.int .i64)) (hn : 0 < n) (hb : n * bytes ≤ 70368744177664) (fJ : n ≤ 4611686018427387904)
    (hk : ∀ nm h', iS h' (some ⟨h.size, 0, none⟩) 0 nm sz [] → n ≤ nm → Fr No h h' → K (.slice (some ⟨h.size, 0, none⟩) n nm) h') :
    aX P (Builtin.append_ #[sT, xT] ty #[.slice none 0 0, .int .i64 (n : Int)]) h K := by
  obtain ⟨i, hi, rfl, rfl, hz⟩ := T.i
  have JB := T.zs
  unfold Builtin.append_
  refine bY (s := underlying sT) (bE T.u) ?_
  refine bY (s := sizeOf elem) (lQ hi) ?_
  refine bY (s := underlying xT) (bE hx) ?_
  refine bY (s := (pure true : Sem Bool)) (a := true) rfl ?_
  have hw : IntKind.wrap .i64 (n : Int) = (n : Int) := bL (by omega) (by omega)
  refine bY (s := asInt (.int .i64 (n : Int))) (a := (n : Int)) rfl ?_
  show aX P (if IntKind.wrap .i64 (n : Int) < 0 then _ else _) h K
  rw [if_neg (by rw [hw]; omega)]
  refine bY (s := typeInfo elem) (lL hi) ?_
  show aX P (if IntKind.wrap .i64 (n : Int) * (i.bytes : Int) > 2 ^ 48 then _ else _) h K
  have hbi : (n : Int) * (i.bytes : Int) = ((n * i.bytes : Nat) : Int) := by simp
  rw [if_neg (by rw [hw, hbi]; omega)]
  refine bY (s := (pure (IntKind.wrap .i64 (n : Int)).toNat : Sem Nat)) (a := n) (by rw [hw]; rfl) ?_
  show aX P (if 0 + n ≤ 0 then _ else _) h K
  rw [if_neg (by omega)]
  refine bY (s := typeInfo elem) (lL hi) ?_
  show aX P (if (((0 + n : Nat) : Int) > IntKind.max .i64 ∧ (true = true ∨ i.bytes = 0)) then _ else _) h K
  have ajC : IntKind.max .i64 = 9223372036854775807 := rfl
  rw [if_neg (by rw [ajC]; omega)]
  refine bY (s := typeInfo elem) (lL hi) ?_
  have hle := nextslicecap_le (need := 0 + n) (cap := 0) (by omega)
  have abL : ¬ (Builtin.nextslicecap (0 + n) 0 * i.bytes > 2 ^ 48) := by
    have h1 : Builtin.nextslicecap (0 + n) 0 * i.bytes ≤ 2 * (0 + n) * i.bytes := Nat.mul_le_mul_right _ hle
    rw [Nat.mul_assoc, Nat.zero_add] at h1
    rw [Nat.zero_add]
    omega
  show aX P (if Builtin.nextslicecap (0 + n) 0 * i.bytes > 2 ^ 48 then _ else _) h K
  rw [if_neg abL]
  show aX P (choose (.appendCap (0 + n) 0 elem) >>= _) h K
  rw [fa]
  unfold choose
  simp only [aX, Question.forced, Bool.false_eq_true, if_false, Question.cut]
  intro tq
  refine bY (s := typeInfo elem) (lL hi) ?_
  rw [fa]
  have Rh : ∀ (m : Nat) (K' : Unit → aj → Prop), K' () h → aX P (askRoom m) h K' := λm K' V4 => by
    unfold askRoom
    split
    · exact V4
    · exact V4
  refine Rh _ _ ?_
  refine bY (s := Builtin.firstCells i.size 0 (.slice none 0 0)) (a := #[]) (uG (ds := []) (.inl rfl) (by simp)) ?_
  have rz := oM (h := h) hi hz
  refine bY (a := if n * i.size = 0 then #[] else Builtin.zeroCells z.cells n) ?_ ?_
  · show rd P (if n * i.size = 0 then pure #[] else _) h = _
    by_cases Wx : n * i.size = 0
    · rw [if_pos Wx, if_pos Wx]; rfl
    · rw [if_neg Wx, if_neg Wx, bu _ _ _ _ rz]; rfl
  refine bY (s := zeroValue elem) (oM hi hz) ?_
  generalize al7 : 0 + n + tq % (2 ^ 63 - (0 + n)) = nm
  have hge : n ≤ nm := by omega
  have h1 : ∀ m, (Builtin.zeroCells z.cells m).size = m * i.size := λm => by simp [Builtin.zeroCells, JB]
  show K (.slice (some ⟨h.size, 0, none⟩) (0 + n) nm) (h.push (.cells (#[] ++ (if n * i.size = 0 then #[] else Builtin.zeroCells z.cells n) ++ Builtin.zeroCells z.cells (nm - (0 + n))) elem))
  rw [Nat.zero_add]
  refine hk nm _ (.row h.size 0 _ elem rfl cA (Nat.zero_le _) ?_ (by simp) (λj v hj => by cases hj)) hge (Fr.push _ _)
  rw [Array.size_append, h1]
  have : (#[] ++ (if n * i.size = 0 then #[] else Builtin.zeroCells z.cells n) : Array Value).size = n * i.size := by
    by_cases Wx : n * i.size = 0
    · rw [if_pos Wx, Wx]; rfl
    · rw [if_neg Wx, Array.size_append, h1]; simp
  rw [this, ← Nat.add_mul, Nat.zero_add, show n + (nm - n) = nm by omega]
  omega
end
end Go.Den
namespace Go.Proofs.YtlenamcfacpheaaGreatDoor
open Go.Den
open IntKind (wrap)
open Int (toNat)
section
variable {h:aj} {R:iI}
theorem wS.walk (hv:Cl F.uv #[] h λv aR=>Vp v λt1=>aV aR (.cells #[.Z,.I 1,.I 0,.I 0,.I 0,.pointer t1] T.w9) λb aZ=>R (.P b 0) aZ):Cl F.wS #[] h R:=aS (lq ll) Tryz.func38 hv
theorem jM.walk {b:Nat} (hv: ∃t9,ak h (AA b 5)=some (.pointer t9)/\R (.bool (!t9.isNone)) h):Cl F.jM #[.P b 0] h R:=aS (lq ll) Tryz.func70 hv
theorem pn.walk {xa:Int} {xc:Int} {nh:bV} {ni nj:Nat} {Kb:Int} (hv:aV h (.cells #[.I xa,.I xc,.slice nh ni nj,.U Kb] T.aM) λb aR=>aV aR (.cells #[.I 0,.I 0,.Z,.U 0] T.aM) λcE aZ=>Hl aZ b 2 λPb Mf Pc=>Cl F.cv #[.slice Pb Mf Pc] aZ λv bK=> ∃amt amu amv,v=.slice amt amu amv/\aH bK (AA b 2) (.slice amt amu amv) λcC=>aM.LD cC (AA b 0) λRQ Ky UG UH UI ajQ=>aM.ST cC (AA cE 0) RQ Ky UG UH UI ajQ λcK=>aM.LD cK (AA cE 0) λoQ ia nC nE nF pH=>R (.agg #[.I oQ,.I ia,.slice nC nE nF,.U pH]) cK):Cl F.pn #[.agg #[.I xa,.I xc,.slice nh ni nj,.U Kb]] h R:=aS (lq (lq ll)) Tryz.func88 hv
theorem tp.walk {xa:Int} {xc:Int} {nh:bV} {ni nj:Nat} {Kb:Int} (hv:aV h (.cells #[.I xa,.I xc,.slice nh ni nj,.U Kb] T.aM) λb aR=> ∃t4,ak aR (AA b 1)=some (.I t4)/\if(decide (t4≥1)) then∃t8,ak aR (AA b 1)=some (.I t8)/\if(decide (t8<=1099511627776)) then∃HS Cz Kk,ak aR (AA b 2)=some (.slice HS Cz Kk)/\if(decide ((Cz:Int)≥1)) then∃CI zL CJ,ak aR (AA b 2)=some (.slice CI zL CJ)/\if(decide ((zL:Int)<=600)) then∃t25,ak aR (AA b 3)=some (.U t25)/\R (.bool (decide (t25<=1099511627776))) aR else R (.bool false) aR else R (.bool false) aR else R (.bool false) aR else R (.bool false) aR):Cl F.tp #[.agg #[.I xa,.I xc,.slice nh ni nj,.U Kb]] h R:=aS (lq ll) Tryz.func280 hv
theorem mM.walk {b:Nat} {num:Int} (hv:aV h (.cells #[.I num] T.int) λcE aR=>Hl aR b 0 λyM vR AB=>Cl F.cz #[.slice yM vR AB,.func (.func F.iZ) #[] #[.P cE 0]] aR λv aZ=> ∃t10,v=.I t10/\R (.I t10) aZ):Cl F.mM #[.P b 0,.I num] h R:=aS (lq ll) Tryz.func122 hv
theorem iZ.walk {xa:Int} {xc:Int} {nh:bV} {ni nj:Nat} {Kb:Int} {c0:Nat} (hv:aV h (.cells #[.I xa,.I xc,.slice nh ni nj,.U Kb] T.aM) λb aR=>Hi aR b 0 λt5=> ∃t6,ak aR (AA c0 0)=some (.I t6)/\R (.bool (t5==t6)) aR):Cl F.iZ #[.agg #[.I xa,.I xc,.slice nh ni nj,.U Kb],.P c0 0] h R:=aS (lq ll) Tryz.func173 hv
theorem nU.walk {b:Nat} {i:Int} (hv:aV h (.cells #[.I 0,.I 0,.Z,.U 0] T.aM) λcE aR=>Hl aR b 0 λaav aaw afu=>Bd i aaw/\aP aav λa=>aM.LD aR (a.add (toNat i*4)) λCK xj Pq Pr Ps acz=>aV aR (.cells #[.I 0,.I 0,.Z,.U 0] T.aM) λeZ aZ=>aM.ST aZ (AA eZ 0) CK xj Pq Pr Ps acz λbK=>Hp bK b 5 λt16=>Hi bK eZ 0 λt18=>Cl F.gp #[.pointer t16,.I t18] bK λv cC=>Vi v λt19=>Hl cC b 0 λiQ iy iz=>((0:Int)<=i/\i<=(iz:Int))/\Hl cC b 0 λpd nK pO=>((0:Int)<=wrap .i64 (i+1)/\wrap .i64 (i+1)<=(nK:Int))/\aV cC (.cells #[.slice (da iQ iz 0 4) ((toNat i) - 0) (iz - 0),.slice (da pd pO (toNat (wrap .i64 (i+1))) 4) (nK - (toNat (wrap .i64 (i+1)))) (pO - (toNat (wrap .i64 (i+1))))] T.fh) λjR cK=>ak cK (AA b 0)=some (.slice pd nK pO)/\ak cK (AA b 0)=some (.slice iQ iy iz)/\Cl F.fc #[.slice (some (AA jR 0)) 2 2] cK λeK cR=>Vl eK λzA yd zB=>ak cR (AA b 0)=some (.slice pd nK pO)/\ak cR (AA b 0)=some (.slice iQ iy iz)/\aH cR (AA b 0) (.slice zA yd zB) λcX=>aM.LD cX (AA eZ 0) λHX xm Jb Jc Jd Nc=>aM.ST cX (AA cE 0) HX xm Jb Jc Jd Nc λdB=>aM.LD dB (AA cE 0) λoQ ia nC nE nF pH=>R (.agg #[.I oQ,.I ia,.slice nC nE nF,.U pH]) dB):Cl F.nU #[.P b 0,.I i] h R:=aS (lq (lq (sq (pN 7) (sq (pN 19) ll)))) Tryz.func121 hv
theorem mg.walk {b:Nat} (hv:Cl F.jM #[.P b 0] h λv aR=>Vb v λt7=>aK (λ(kJ:bV) (kK kL:Nat) (aZ:aj)=>R (.slice kJ kK kL) aZ) (λJ=>if t7 then Hl aR b 0 λFx Bt MZ=> ∃(I:bV->Nat->Nat->Int->aj->Prop) (mu:bV->Nat->Nat->Int->aj->Nat),I none 0 0 0 aR/\∀(lF:bV) (lG lH:Nat) (t13:Int) (bK:aj),I lF lG lH t13 bK->if(decide (t13<(Bt:Int))) then Bd t13 Bt/\aP Fx λa=>aM.LD bK (a.add (toNat t13*4)) λvM rP Ds Dt Du HY=>aV bK (.cells #[.I 0,.I 0,.Z,.U 0] T.aM) λcE cC=>aM.ST cC (AA cE 0) vM rP Ds Dt Du HY λcK=>aM.LD cK (AA cE 0) λvL vj Pv Pw Px amw=>Cl F.pn #[.agg #[.I vL,.I vj,.slice Pv Pw Px,.U amw]] cK λeK cR=> ∃zH vJ ym yo yq RR,eK=.agg #[.I zH,.I vJ,.slice ym yo yq,.U RR]/\aV cR (.cells #[.I zH,.I vJ,.slice ym yo yq,.U RR] T.aM) λeZ cX=>aX Tryz.prog (Builtin.append_ #[T.fh,T.fh] T.fh #[.slice lF lG lH,.slice (some (AA eZ 0)) 1 1]) cX λgS dB=> ∃ve uc vG,gS=.slice ve uc vG/\(I ve uc vG (wrap .i64 (t13+1)) dB/\mu ve uc vG (wrap .i64 (t13+1)) dB<mu lF lG lH t13 bK) else J lF lG lH bK else J none 0 0 aR)):Cl F.mg #[.P b 0] h R:=aS (lq (lq (sq (lq (.join [(3,.one (.slice))] (cq (lq (bq (.loop [(3,.one (.slice)),(13,.one (.int .i64))] (lq (sq (cq lf lf) (sq (bq ll) lf)))))) lf))) ll))) Tryz.func39 hv
theorem qo.walk {b:Nat} {owner:Int} {hH:bV} {fT hN:Nat} {pT:Int} (hv:Cl F.jM #[.P b 0] h λv aR=> ∃t12,v=.bool t12/\if(!t12) then R (.tuple #[.I 0,.I 6]) aR else Hi aR b 1 λt17=>Cl F.pn #[.agg #[.I t17,.I owner,.slice hH fT hN,.U pT]] aR λeK aZ=> ∃zM vm yr yt yu Wy,eK=.agg #[.I zM,.I vm,.slice yr yt yu,.U Wy]/\aV aZ (.cells #[.I 0,.I 0,.Z,.U 0] T.aM) λcE bK=>aM.ST bK (AA cE 0) zM vm yr yt yu Wy λcC=>aM.LD cC (AA cE 0) λNd Kz Py Pz PA amx=>Cl F.tp #[.agg #[.I Nd,.I Kz,.slice Py Pz PA,.U amx]] cC λgS cK=> ∃t25,gS=.bool t25/\if(!t25) then R (.tuple #[.I 0,.I 1]) cK else∃yg vK CE,ak cK (AA b 0)=some (.slice yg vK CE)/\if(decide ((vK:Int)≥16)) then R (.tuple #[.I 0,.I 15]) cK else Hl cK b 0 λrK rL vh=>aM.LD cK (AA cE 0) λacA FB afE afF afG acB=>aV cK (.cells #[.I acA,.I FB,.slice afE afF afG,.U acB] T.aM) λeZ cR=>ak cR (AA b 0)=some (.slice rK rL vh)/\aX Tryz.prog (Builtin.append_ #[T.fh,T.fh] T.fh #[.slice rK rL vh,.slice (some (AA eZ 0)) 1 1]) cR λkV cX=> ∃Nf KA RT,kV=.slice Nf KA RT/\aH cX (AA b 0) (.slice Nf KA RT) λdB=> ∃t47,ak dB (AA b 1)=some (.I t47)/\aH dB (AA b 1) (.I (wrap .i64 (t47+1))) λff=>Hp ff b 5 λt54=>Hi ff cE 0 λt56=>Cl F.kP #[.pointer t54,.I t56,.U pT] ff λou cQ=>Vi ou λt58=> ∃t60,ak cQ (AA cE 0)=some (.I t60)/\R (.tuple #[.I t60,.I 0]) cQ):Cl F.qo #[.P b 0,.I owner,.slice hH fT hN,.U pT] h R:=aS (lq (sq (lq (cq ll lf)) (lq (sq (bq (lq (cq ll (lq (cq ll lf))))) (sq (pN 11) (lq (sq (pN 8) ll))))))) Tryz.func240 hv
theorem mY.walk {b:Nat} {num:Int} {owner:Int} (hv:Cl F.jM #[.P b 0] h λv aR=> ∃t9,v=.bool t9/\if(!t9) then R (.I 6) aR else Cl F.mM #[.P b 0,.I num] aR λeK aZ=> ∃t13,eK=.I t13/\if(decide (t13<0)) then R (.I 4) aZ else Hl aZ b 0 λve uc vG=>Bd t13 uc/\aP ve λa=> ∃t25,ak aZ ((a.add (toNat t13*4)).add 1)=some (.I t25)/\if(t25 !=owner) then R (.I 13) aZ else Cl F.nU #[.P b 0,.I t13] aZ λgS bK=> ∃Nh HZ afH afI afJ acC,gS=.agg #[.I Nh,.I HZ,.slice afH afI afJ,.U acC]/\∃t34,ak bK (AA b 3)=some (.I t34)/\aH bK (AA b 3) (.I (wrap .i64 (t34+1))) λcC=>R (.I 0) cC):Cl F.mY #[.P b 0,.I num,.I owner] h R:=aS (lq (sq (lq (cq ll lf)) (lq (sq (bq (lq (cq ll (lq (cq ll lf))))) (lq (lq ll)))))) Tryz.func152 hv
theorem oV.walk {b:Nat} {now:Int} (hv:Cl F.jM #[.P b 0] h λv aR=>Vb v λt9=>aK (λ(kJ:bV) (kK kL:Nat) (aZ:aj)=>R (.slice kJ kK kL) aZ) (λJ=>if t9 then Hp aR b 5 λt13=>Cl F.iP #[.pointer t13,.U now] aR λeK bK=>Vl eK λtH sK ue=> ∃(I:bV->Nat->Nat->Int->aj->Prop) (mu:bV->Nat->Nat->Int->aj->Nat),I none 0 0 0 bK/\∀(lF:bV) (lG lH:Nat) (t17:Int) (cC:aj),I lF lG lH t17 cC->if(decide (t17<(sK:Int))) then Bd t17 sK/\aP tH λa=>Rf cC (a.add (toNat t17*1)) λt20=>Cl F.mM #[.P b 0,.I t20] cC λgS cK=>Vi gS λt25=>Cl F.nU #[.P b 0,.I t25] cK λkV cR=> ∃RI HU Wz WA WB ah3,kV=.agg #[.I RI,.I HU,.slice Wz WA WB,.U ah3]/\aV cR (.cells #[.I RI,.I HU,.slice Wz WA WB,.U ah3] T.aM) λcE cX=>aX Tryz.prog (Builtin.append_ #[T.fh,T.fh] T.fh #[.slice lF lG lH,.slice (some (AA cE 0)) 1 1]) cX λou dB=>Vl ou λBl zD Fl=> ∃t32,ak dB (AA b 4)=some (.I t32)/\aH dB (AA b 4) (.I (wrap .i64 (t32+1))) λff=>(I Bl zD Fl (wrap .i64 (t17+1)) ff/\mu Bl zD Fl (wrap .i64 (t17+1)) ff<mu lF lG lH t17 cC) else J lF lG lH cC else J none 0 0 aR)):Cl F.oV #[.P b 0,.U now] h R:=aS (lq (lq (sq (lq (.join [(5,.one (.slice))] (cq (lq (bq (.loop [(5,.one (.slice)),(17,.one (.int .i64))] (lq (sq (cq lf lf) (sq (bq (lq ll)) lf)))))) lf))) ll))) Tryz.func54 hv
theorem cz.find.walk {oD:bV} {mG qK:Nat} {RU:Nat} (hv: ∃(I:Int->aj->Prop) (mu:Int->aj->Nat),I 0 h/\∀(t8:Int) (aR:aj),I t8 aR->if(decide (t8<(mG:Int))) then Bd t8 mG/\aP oD λa=>aM.LD aR (a.add (toNat t8*4)) λBv uf FC FD FE acD=>Cl F.iZ #[.agg #[.I Bv,.I uf,.slice FC FD FE,.U acD],.P RU 0] aR λv aZ=> ∃t16,v=.bool t16/\if t16 then R (.I t8) aZ else(I (wrap .i64 (t8+1)) aZ/\mu (wrap .i64 (t8+1)) aZ<mu t8 aR) else R (.I (-1)) aR):Cl F.cz #[.slice oD mG qK,.func (.func F.iZ) #[] #[.P RU 0]] h R:=aS (lq (sq (lq (bq (.loop [(8,.one (.int .i64))] (lq (sq (cq lf lf) (sq (bq (lq (lq (cq ll lf)))) lf)))))) ll)) Tryz.func153 hv
theorem fc.walk {KB:bV} {CL acE:Nat} (hv: ∃(I:Int->Int->aj->Prop) (mu:Int->Int->aj->Nat),I 0 0 h/\∀(size:Int) (t11:Int) (aR:aj),I size t11 aR->if(decide (t11<(CL:Int))) then aK (λ(acF:Int) (aZ:aj)=>(I acF (wrap .i64 (t11+1)) aZ/\mu acF (wrap .i64 (t11+1)) aZ<mu size t11 aR)) (λJ=>Bd t11 CL/\aP KB λa=>L4 aR (a.add (toNat t11*1)) λBi vf Bj=>aK (λ(bK:aj)=>J (wrap .i64 (size+(vf:Int))) bK) (λjo=>if(decide ((wrap .i64 (size+(vf:Int)))<0)) then False else jo aR)) else Cl F.fu #[.Z,.I size] aR λv cC=>Vl v λiQ iy iz=> ∃(Kq:bV->Nat->Nat->Int->aj->Prop) (CD:bV->Nat->Nat->Int->aj->Nat),Kq iQ iy iz 0 cC/\∀(AL:bV) (AM AN:Nat) (t27:Int) (cK:aj),Kq AL AM AN t27 cK->if(decide (t27<(CL:Int))) then Bd t27 CL/\aP KB λkz=>L4 cK (kz.add (toNat t27*1)) λpd nK pO=>aX Tryz.prog (Builtin.append_ #[T.fh,T.fh] T.fh #[.slice AL AM AN,.slice pd nK pO]) cK λeK cR=> ∃rG pP rH,eK=.slice rG pP rH/\(Kq rG pP rH (wrap .i64 (t27+1)) cR/\CD rG pP rH (wrap .i64 (t27+1)) cR<CD AL AM AN t27 cK) else R (.slice AL AM AN) cK):Cl F.fc #[.slice KB CL acE] h R:=aS (lq (lq (sq (lq (bq (.loop [(3,.one (.int .i64)),(11,.one (.int .i64))] (lq (sq (cq lf lf) (sq (.join [(3,.one (.int .i64))] (bq (lq (lq (lq (.join [] (cq lf lf))))))) lf)))))) (lq (sq (lq (bq (.loop [(6,.one (.slice)),(27,.one (.int .i64))] (lq (sq (cq lf lf) (sq (bq ll) lf)))))) ll))))) Tryz.func172 hv
theorem fu.walk {oD:bV} {mG qK:Nat} {n:Int} (hv:aK (λ(aR:aj)=>aK (λ(amy:bV) (amz amA:Nat) (aZ:aj)=>R (.slice amy amz amA) aZ) (λjo=>if(decide ((wrap .i64 (n - (wrap .i64 ((qK:Int) - (mG:Int)))))>0)) then((0:Int)<=(qK:Int)/\(qK:Int)<=(qK:Int))/\aX Tryz.prog (Builtin.append_ #[T.fh,T.int] T.fh #[.slice (da oD qK 0 4) ((toNat (qK:Int)) - 0) (qK - 0),.I (wrap .i64 (n - (wrap .i64 ((qK:Int) - (mG:Int)))))]) aR λv bK=>Vl v λFj Fk Cy=>((0:Int)<=(mG:Int)/\(mG:Int)<=(Cy:Int))/\jo (da Fj Cy 0 4) ((toNat (mG:Int)) - 0) (Cy - 0) bK else jo oD mG qK aR)) (λJ=>if(decide (n<0)) then False else J h)):Cl F.fu #[.slice oD mG qK,.I n] h R:=aS (lq (sq (lq (.join [] (cq lf lf))) (sq (lq (lq (.join [(0,.one (.slice))] (cq lf lf)))) ll))) Tryz.func199 hv
end
section
open Go.jH Go.rO
namespace lJ
open vg
variable {h h':aj} {b:Nat} {X:Ft} {R:iI} {p q:bV} {c d i:Nat} {L:List E}
structure It where
 num:Nat
 owner:Int
 d:List UInt8
 cG:Nat
structure IV where
 num:Nat
 owner:Int
 v:BV
 cG:Nat
def IV.abs (x:IV):It:=⟨x.num,x.owner,x.v.b,x.cG⟩
abbrev jJ (x:IV):List Value:= [.int .i64 (x.num:Int),.int .i64 x.owner,x.v.val,.int .u64 (x.cG:Int)]
theorem mA (x:IV):(jJ x).length=4:=rfl
theorem RV (xs:List IV): ∀v∈xs.flatMap jJ,jg v=true:=by
 intro v hv;obtain⟨a,_,ha⟩:=List.mem_flatMap.1 hv;simp at ha;rcases ha with rfl|rfl|rfl|rfl<;>rfl
abbrev IV.agg (x:IV):Value:=.agg #[.int .i64 (x.num:Int),.int .i64 x.owner,x.v.val,.int .u64 (x.cG:Int)]
theorem tI:Ap Tryz.prog T.fh T.aM 4 48 (.agg #[.I 0,.I 0,.Z,.U 0]):=⟨by kernel_rfl,by kernel_rfl,rfl⟩
theorem uI:Tryz.prog.underlying T.fh=some (.slice T.aM):=by kernel_rfl
theorem aqf:Tryz.prog.underlying T.int=some (.int .i64):=by kernel_rfl
structure BS where
 items:List It
 next:Nat
 taken:Nat
 EF:Nat
 over:Nat
structure Mm (h:aj) (b:Nat) (X:Ft) (s:BS) (L:List E) (lp:bV) (lc:Nat) (xs:List IV) (a:Nat) (S:Nat->Prop):Prop where
 dF:h[b]? =some (.cells #[.slice lp xs.length lc,.int .i64 (s.next:Int),.int .i64 (s.taken:Int),.int .i64 (s.EF:Int),.int .i64 (s.over:Int),.pointer (some ⟨a,0,none⟩)] T.w9 (0,0))
 own:iS h lp xs.length lc 4 (xs.flatMap jJ)
 al:cu.Al h a S L
 abs:xs.map IV.abs=s.items
 PB: ∀x∈xs,x.v.ok h X.D
 m: ∀c,X.M c↔c=b\/aQ lp c\/S c
 bl: ¬aQ lp b
 bs: ¬S b
 ls: ∀c,aQ lp c->¬S c
 GL: ∀c,X.M c->¬X.D c
 RW: ∀c,X.D c->c<h.size
def Bx (h:aj) (b:Nat) (X:Ft) (s:BS) (L:List E):Prop:= ∃lp lc xs a S,Mm h b X s L lp lc xs a S
variable {s : BS} {lp : Option Addr} {lc a : Nat} {xs : List IV} {S : Nat → Prop}
theorem Mm.lt (H:Mm h b X s L lp lc xs a S) (y:Nat) (hy:X.M y\/X.D y):y<h.size:=by
 rcases hy with hy|hy
 ·rcases(H.m y).1 hy with rfl|h1|h1
  ·exact aI H.dF
  ·exact H.own.gn h1
  ·exact H.al.lt h1
 ·exact H.RW y hy
theorem Bx.lt (H:Bx h b X s L) (y:Nat) (hy:X.M y\/X.D y):y<h.size:=by
 obtain⟨lp,lc,xs,a,S,H⟩:=H;exact H.lt y hy
theorem Mm.frame {Q:Nat->Prop} (H:Mm h b X s L lp lc xs a S) (f:Fr Q h h') (hq: ∀y,X.M y\/X.D y->¬Q y):Mm h' b X s L lp lc xs a S:=
 have hm: ∀y,X.M y->¬Q y:=λy hy=>hq y (.inl hy)
 ⟨f.get H.dF (hm b ((H.m b).2 (.inl rfl))),H.own.frame f (λy hy=>hm y ((H.m y).2 (.inr (.inl hy)))),H.al.frame f (λy hy=>hm y ((H.m y).2 (.inr (.inr hy)))),H.abs,λx hx=>(H.PB x hx).frame f (λy hy=>hq y (.inr hy)),H.m,H.bl,H.bs,H.ls,H.GL,λy hy=>cT (H.RW y hy) f.1⟩
theorem Bx.frame {Q:Nat->Prop} (H:Bx h b X s L) (f:Fr Q h h') (hq: ∀y,X.M y\/X.D y->¬Q y):Bx h' b X s L:=by
 obtain⟨lp,lc,xs,a,S,H⟩:=H;exact⟨lp,lc,xs,a,S,H.frame f hq⟩
theorem Mm.on (H:Mm h b X s L lp lc xs a S) (f:Fr No h h'):Mm h' b X s L lp lc xs a S:=H.frame f (λ_ _=>id)
theorem Mm.len (H:Mm h b X s L lp lc xs a S):xs.length=s.items.length:=by rw[<-H.abs,aN]
theorem ji (H:Mm h b X s L lp lc xs a S) (hk:R (.bool true) h):Cl F.jM #[.P b 0] h R:=
 jM.walk ⟨_,af H.dF rfl,hk⟩
theorem pE (hk: ∀h' b X,Bx h' b X ⟨[],1,0,0,0⟩ []->Fr No h h'->(∀y,X.M y\/X.D y->h.size<=y)->R (.P b 0) h'):Cl F.wS #[] h R:=by
 refine wS.walk (cu.pE λa S h1 A1 g1 f1=>⟨_,rfl,cY ?_⟩);have f2:Fr No h1 (h1.push (.cells #[.Z,.I 1,.I 0,.I 0,.I 0,.P a 0] T.w9)):=Fr.push _ _;have z:=f1.1;refine hk _ h1.size ⟨λy=>y=h1.size\/aQ none y\/S y,λ_=>False⟩ ⟨none,0, [],a,S,⟨cA,.nil rfl rfl rfl rfl,A1.frame f2 (λ_ _=>id),rfl,(λx hx=>by cases hx),λ_=>fZ,(λ⟨a,e,_⟩=>by cases e),λhs=> ?_,(λy ⟨a,e,_⟩=>by cases e),λ_ _=>id,λ_ hy=>hy.elim⟩⟩ (f1.tt f2) ?_
 ·have:=A1.lt hs;omega
 ·rintro y ((rfl|⟨a,e,_⟩|hs)|hy)
  ·exact z
  ·cases e
  ·exact g1 y hs
  ·exact hy.elim
theorem Dv {x0 x1 x3:Int} {bs:List UInt8} {n m:Nat} (hr:Row h p (bc bs)) (hn:n=bs.length) (hl:bs.length<=70368744177664)
  (hk: ∀h' p' c',iS h' p' bs.length c' 1 (bc bs)->Fr No h h'->(∀y,aQ p' y->h.size<=y)->R (.agg #[.I x0,.I x1,.slice p' bs.length c',.U x3]) h'):
  Cl F.pn #[.agg #[.I x0,.I x1,.slice p n m,.U x3]] h R:=by
 subst hn;refine pn.walk (aM.box λb1 h1 uh dx f1=>aM.box λb2 h2 FH fJ f2=> ?_);have afK:=f2.get dx id;refine⟨_,_,_,af afK rfl,mz (hr.frame (f1.tt f2) (λ_ _=>id)) rfl hl λp3 c3 h3 o3 f3 g3=>⟨_,_,_,rfl,?_⟩⟩;have l1:=aI dx;have l2:=aI fJ;have k1:=f3.get afK id;have k2:aM.at h3 b2 0 0 none 0 0 0:=f3.get fJ id;have z1:=f1.1;have z2:=f2.1;have ne:b2≠b1:=by omega
 refine bM k1 (by simp) λh4 a1 a2 a3=> ?_
 have k4:aM.at h4 b1 x0 x1 p3 bs.length c3 x3:=a1;refine aM.ld k4 ?_;have k5:aM.at h4 b2 0 0 none 0 0 0:=(a3 b2 ne).trans k2;refine aM.set k5 λh8 d1 d2 d3=>aM.ld d1 ?_
 have f4:Fr (λy=>y=b1\/y=b2) h3 h8:=⟨by omega,λy hy hn=>by rw[d3 y (λe=>hn (.inr e)),a3 y (λe=>hn (.inl e))]⟩;have F3:Fr No h h3:=f1.tt (f2.tt f3);refine hk h8 p3 c3 (o3.frame f4 (λy hy e=>by have:=g3 y hy;omega)) (F3.fresh f4 (λy hy=>by omega)) (λy hy=>by have:=g3 y hy;omega)
def GM (owner:Int) (n:Nat) (cG:Int):Bool:=decide (1<=owner) && decide (owner<=1099511627776) && decide (1<=n) && decide (n<=600) && decide (cG<=1099511627776)
theorem KC {owner cG:Int} {n:Nat} :GM owner n cG=true↔1<=owner/\owner<=1099511627776/\1<=n/\n<=600/\cG<=1099511627776:=by simp[GM,and_assoc]
theorem ic {x0 x1 x3:Int} {n m:Nat} (hk: ∀h',Fr No h h'->R (.bool (GM x1 n x3)) h'):
  Cl F.tp #[.agg #[.I x0,.I x1,.slice p n m,.U x3]] h R:=by
 refine tp.walk (aM.box λb1 h1 uh dx f1=>⟨_,af dx rfl,?_⟩);have hk:=hk h1 f1;unfold GM at hk;by_cases h1:1<=x1
 ·rw[ag (by simpa using h1)];refine⟨_,af dx rfl,?_⟩;by_cases h2:x1<=1099511627776
  ·rw[ag (by simpa using h2)];refine⟨_,_,_,af dx rfl,?_⟩;by_cases h3:1<=n
   ·rw[ag (by simp;omega)];refine⟨_,_,_,af dx rfl,?_⟩;by_cases h4:n<=600
    ·rw[ag (by simp;omega)];refine⟨_,af dx rfl,?_⟩;simpa[h1,h2,h3,h4] using hk
    ·rw[ai (by simp;omega)];simpa[h4] using hk
   ·rw[ai (by simp;omega)];simpa[h3] using hk
  ·rw[ai (by simpa using h2)];simpa[h2] using hk
 ·rw[ai (by simpa using h1)];simpa[h1] using hk
def II (xs:List It) (num:Int):Option Nat:=xs.findIdx? (λa=>decide ((a.num:Int)=num))
def CM (xs:List It) (num:Int):Int:=match II xs num with|some k=>(k:Int)|none=> -1
abbrev KD (h:aj) (b:Nat) (num:Int):Prop:=h[b]? =some (.cells #[.int .i64 num] T.int (0,0))
theorem acG {b:Nat} {num:Int} (x:IV) (hid:KD h b num) (hk: ∀h',Fr No h h'->R (.bool (decide ((x.num:Int)=num))) h'):Cl F.iZ #[x.agg,.P b 0] h R:=by
 refine iZ.walk (aM.box λb1 h1 eb hb f1=>⟨_,af hb rfl,_,af (f1.get hid (λx=>x)) rfl,?_⟩);have e:((x.num:Int)==num)=decide ((x.num:Int)=num):=by
  by_cases q:(x.num:Int)=num<;>simp[q]
 rw[e];exact hk h1 f1
theorem CN {xs:List IV} {n m b:Nat} {num:Int} (hr:Row h p (xs.flatMap jJ)) (hn:n=xs.length) (hl:xs.length<=1000000000) (hid:KD h b num) (hk: ∀h',Fr No h h'->R (.I (CM (xs.map IV.abs) num)) h'):
  Cl F.cz #[.slice p n m,.func (.func F.iZ) #[] #[.P b 0]] h R:=by
 subst hn;refine cz.find.walk ?_;refine⟨λi h'=>Fr No h h'/\∃k:Nat,i=(k:Int)/\k<=xs.length/\∀j (hj:j<xs.length),j<k->(xs[j].num:Int)≠num,λi _=>xs.length - i.toNat,⟨Fr.refl _ _,0,rfl,by omega,λj _ hj=>by omega⟩,?_⟩;rintro _ h1 ⟨f1,k,rfl,hkn,kA⟩;have pL:=hr.frame f1 (λ_ _ x=>x);have PC:KD h1 b num:=f1.get hid (λx=>x);by_cases jc:k<xs.length
 ·have q1:(k:Int)<(xs.length:Int):=by omega
  simp only[q1,decide_true,bA,aL];have hx:xs[k]? =some xs[k]:=au jc;obtain⟨a,rfl⟩:=pL.some (λe=>by have:=bp List.length e;rw[gW jJ 4 mA,bD] at this;omega);refine⟨⟨by omega,by first|trivial|omega⟩,aB.2 (aM.TL (pL.lu mA hx) ?_)⟩;refine acG xs[k] PC λh2 f2=>⟨_,rfl,?_⟩
  by_cases e:(xs[k].num:Int)=num
  ·simp only[e,decide_true,bA];have:CM (xs.map IV.abs) num=(k:Int):=by
    unfold CM II;have:(xs.map IV.abs).findIdx? (λa=>decide ((a.num:Int)=num))=some k:=by
     rw[cP];refine⟨by rw[aN];exact jc,?_,λj hj=> ?_⟩
     ·rw[List.getElem_map];exact ay e
     ·rw[List.getElem_map,Bool.not_eq_true];exact decide_eq_false (kA j (by omega) hj)
    rw[this]
   rw[this] at hk;exact hk h2 (f1.tt f2)
  ·simp only[e,decide_false,aA,aU];rw[bL (by omega) (by omega)];refine⟨⟨f1.tt f2,k+1,by omega,by omega,λj hj hjk=> ?_⟩,?_⟩
   ·by_cases q:j=k
    ·subst q;exact e
    ·exact kA j hj (by omega)
   ·show xs.length - Int.toNat ((k:Int)+1)<xs.length - Int.toNat (k:Int);omega
 ·have q1: ¬(k:Int)<(xs.length:Int):=by omega
  simp only[q1,decide_false,aA,aU];have:CM (xs.map IV.abs) num= -1:=by
   unfold CM II;have:(xs.map IV.abs).findIdx? (λa=>decide ((a.num:Int)=num))=none:=by
    rw[dL];intro a ha;obtain⟨x,hx,rfl⟩:=bn.1 ha;obtain⟨j,hj,rfl⟩:=List.mem_iff_getElem.1 hx;exact decide_eq_false (kA j hj (by omega))
   rw[this]
  rw[this] at hk;exact hk h1 f1
theorem oR {num:Int} (H:Mm h b X s L lp lc xs a S) (hl:s.items.length<=1000000000) (hk: ∀h',Fr No h h'->R (.I (CM s.items num)) h'):Cl F.mM #[.P b 0,.I num] h R:=by
 refine mM.walk (cY ?_);have f1:Fr No h (h.push (.cells #[.I num] T.int)):=Fr.push _ _;have H1:=H.on f1;have hl':=H.len;refine⟨_,_,_,af H1.dF rfl,CN H1.own.qa rfl (by omega) cA λh2 f2=>⟨_,rfl,?_⟩⟩;rw[H.abs];exact hk h2 (f1.tt f2)
theorem afL {n : Nat} (hn : n ≤ 1000000) (hk : ∀ p' c' h', iS h' p' 0 c' 4 [] → Fr No h h' → (∀ y, aQ p' y → h.size ≤ y) → R (.slice p' 0 c') h') :
    Cl F.fu #[.slice none 0 0, .int .i64 (n : Int)] h R := by
  refine fu.walk ?_
  simp only [aK]
  have q0 : ¬ (n : Int) < 0 := by omega
  have e1 : IntKind.wrap .i64 (((0 : Nat) : Int) - ((0 : Nat) : Int)) = 0 := rfl
  have e2 : IntKind.wrap .i64 ((n : Int) - 0) = (n : Int) := by rw [bL (by omega) (by omega)]; omega
  rw [e1, e2]
  simp only [q0, decide_false, Bool.false_eq_true, if_false]
  by_cases hz : n = 0
  · subst hz
    rw [if_neg (by simp)]
    exact hk none 0 h (.nil rfl rfl rfl rfl) (Fr.refl _ _) (λy ⟨a, e, _⟩ => by cases e)
  · have q1 : (n : Int) > 0 := by omega
    simp only [q1, decide_true, if_true]
    refine ⟨⟨by omega, by omega⟩, ?_⟩
    have e3 : da none 0 0 4 = none := sy _ _ _
    rw [e3]
    refine acy tI aqf (by omega) (by omega) (by omega) λnm h' o hc f => ⟨_, _, _, rfl, ⟨by omega, by omega⟩, ?_⟩
    rw [sy]
    exact hk _ nm h' o f (λy ⟨a, e, e2⟩ => by cases e; exact Nat.le_of_eq e2)
theorem Ni {p1 p2:bV} {n1 c1 n2 c2:Nat} {us ws:List IV} (hh:Row h (some (AA c 0)) [.slice p1 n1 c1,.slice p2 n2 c2]) (r1:Row h p1 (us.flatMap jJ)) (e1:n1=us.length) (r2:Row h p2 (ws.flatMap jJ)) (e2:n2=ws.length) (hl:us.length+ws.length<=1000)
  (hk: ∀p' c' h',iS h' p' (us++ws).length c' 4 ((us++ws).flatMap jJ)->Fr No h h'->(∀y,aQ p' y->h.size<=y)->R (.slice p' (us++ws).length c') h'):
  Cl F.fc #[.slice (some (AA c 0)) 2 2] h R:=by
 subst e1 e2;have c0: ∀ {g:aj},Fr No h g->ak g (((AA c 0):Addr).add (0*1))=some (.slice p1 us.length c1):=λf=>(hh.frame f (λ_ _=>id)).cell (j:=0) rfl
 have c1': ∀ {g:aj},Fr No h g->ak g (((AA c 0):Addr).add (1*1))=some (.slice p2 ws.length c2):=λf=>(hh.frame f (λ_ _=>id)).cell (j:=1) rfl
 refine fc.walk ?_;refine⟨λsize i g=>g=h/\((i=0/\size=0)\/(i=1/\size=(us.length:Int))\/(i=2/\size=((us.length+ws.length:Nat):Int))),λ_ i _=>2 - i.toNat,⟨rfl,.inl ⟨rfl,rfl⟩⟩,?_⟩;rintro size i g ⟨rfl,hi⟩;rcases hi with⟨rfl,rfl⟩|⟨rfl,rfl⟩|⟨rfl,rfl⟩
 ·rw[ag (by rfl)];refine aK.of λJ hJ=>⟨⟨by omega,by omega⟩,aB.2 ⟨_,_,_,c0 (Fr.refl _ _),aK.of λJ1 pB=> ?_⟩⟩
  have e:IntKind.wrap .i64 (0+(us.length:Int))=(us.length:Int):=by rw[bL (by omega) (by omega)];omega
  rw[e] at pB;rw[e,ai (by simp<;>omega)];subst pB;subst hJ;exact⟨⟨rfl,.inr (.inl ⟨rfl,rfl⟩)⟩,by show 2 - Int.toNat 1<2 - Int.toNat 0;decide⟩
 ·rw[ag (by rfl)];refine aK.of λJ hJ=>⟨⟨by omega,by omega⟩,aB.2 ⟨_,_,_,c1' (Fr.refl _ _),aK.of λJ1 pB=> ?_⟩⟩
  have e:IntKind.wrap .i64 ((us.length:Int)+(ws.length:Int))=((us.length+ws.length:Nat):Int):=by rw[bL (by omega) (by omega)];omega
  rw[e] at pB;rw[e,ai (by simp<;>omega)];subst pB;subst hJ;exact⟨⟨rfl,.inr (.inr ⟨rfl,rfl⟩)⟩,by show 2 - Int.toNat 2<2 - Int.toNat 1;decide⟩
 ·rw[dM];refine afL (by omega) λp4 c4 h4 o4 f4 g4=>⟨_,_,_,rfl,?_⟩
  refine⟨λnp nl nc i g'=>Fr No g g'/\(∀y,aQ np y->g.size<=y)/\((i=0/\nl=0/\iS g' np nl nc 4 [])\/(i=1/\nl=us.length/\iS g' np nl nc 4 (us.flatMap jJ))\/(i=2/\nl=(us++ws).length/\iS g' np nl nc 4 ((us++ws).flatMap jJ))),λ_ _ _ i _=>2 - i.toNat,⟨f4,g4,.inl ⟨rfl,rfl,o4⟩⟩,?_⟩;rintro np nl nc i g' ⟨fg,gg,hi⟩;rcases hi with⟨rfl,rfl,o⟩|⟨rfl,rfl,o⟩|⟨rfl,rfl,o⟩
  ·rw[ag (by rfl)];refine⟨⟨by omega,by omega⟩,aB.2 ⟨_,_,_,c0 fg,?_⟩⟩;refine fR tI uI o (r1.frame fg (λ_ _=>id)) (gW jJ 4 mA us) (RV us) (by omega) (by omega) λp6 c6 h6 o6 _ f6 g6=>⟨_,_,_,rfl,?_⟩
   rw[ft,cf] at o6;rw[cf];have z:=fg.1;exact⟨⟨fg.fresh f6 gg,(λy hy=>(g6 y hy).elim (gg y) (λh2=>by omega)),.inr (.inl ⟨rfl,rfl,o6⟩)⟩,by show 2 - Int.toNat 1<2 - Int.toNat 0;decide⟩
  ·rw[ag (by rfl)];refine⟨⟨by omega,by omega⟩,aB.2 ⟨_,_,_,c1' fg,?_⟩⟩;refine fR tI uI o (r2.frame fg (λ_ _=>id)) (gW jJ 4 mA ws) (RV ws) (by omega) (by omega) λp6 c6 h6 o6 _ f6 g6=>⟨_,_,_,rfl,?_⟩
   rw[<-dJ,<-aF] at o6;rw[<-aF];have z:=fg.1;exact⟨⟨fg.fresh f6 gg,(λy hy=>(g6 y hy).elim (gg y) (λh2=>by omega)),.inr (.inr ⟨rfl,rfl,o6⟩)⟩,by show 2 - Int.toNat 2<2 - Int.toNat 1;decide⟩
  ·rw[dM];exact hk np nc g' o fg gg
theorem aaB {L:List E} {k:Int} (hk:k∉keys L):iH L k=L:=by
 unfold iH;rw[cI];intro e he;have:e.1≠k:=λe2=>hk (e2▸bB he)
 simpa using this
theorem iS.Je {h:aj} {p:bV} {xs:List IV} {cap l u:Nat} (hr:Row h p (xs.flatMap jJ)) (h1:l<=u) (h2:u<=cap):Row h (da p cap l 4) (((xs.take u).drop l).flatMap jJ):=by
 have:=hr.sub (cap:=cap) (l:=l) (u:=u) (sz:=4) h1 h2;rwa[wu jJ 4 mA,y8 jJ 4 mA] at this
def Mj (xs:List It) (i:Nat):List It:=xs.take i++xs.drop (i+1)
theorem O8 {x:IV} (H:Mm h b X s L lp lc xs a S) (hl:s.items.length<=100) (hL:L.length<1000) (hx:xs[i]? =some x)
  (hk: ∀h' X',Bx h' b X' { s with items:=Mj s.items i } (iH L (x.num:Int))->bN X h X' h'->x.v.ok h' X'.D->R x.agg h'):
  Cl F.nU #[.P b 0,.I (i:Int)] h R:=by
 have hlen:=H.len;have hi:=(aG.1 hx).1;refine nU.walk (aM.box λb1 h1 uh dx f1=> ?_);have H1:=H.on f1;obtain⟨ab,AH,rfl⟩:=H.own.addr (by omega);refine⟨_,_,_,af H1.dF rfl,⟨by omega,by omega⟩,aB.2 (aM.TL (by rw[aL];exact H1.own.lu mA hx) (aM.new λb2 h2 FH fJ f2=> ?_))⟩;have H2:=H1.on f2;have afK:aM.at h2 b1 0 0 none 0 0 0:=f2.get dx id;have z1:=f1.1;have z2:=f2.1;have l1:=aI dx;have l2:=aI fJ;have ne:b2≠b1:=by omega
 have nX: ∀y,h.size<=y->¬(X.M y\/X.D y):=λy hy hx=>by have:=H.lt y hx;omega
 refine⟨_,af H2.dF rfl,_,af fJ rfl,?_⟩;have rest: ∀h7,cu.Al h7 a S (iH L (x.num:Int))->Fr S h2 h7->
   h7[b]? =some (.cells #[.slice (some (AA ab AH)) xs.length lc,.I (s.next:Int),.I (s.taken:Int),.I (s.EF:Int),.I (s.over:Int),.P a 0] T.w9 (0,0))/\
   Row h7 (some (AA ab AH)) (xs.flatMap jJ)/\aM.at h7 b1 0 0 none 0 0 0/\aM.at h7 b2 (x.num:Int) x.owner x.v.p x.v.b.length x.v.c (x.cG:Int):=by
  intro h7 A7 f7;have nS: ∀y,h.size<=y->¬S y:=λy hy hs=>by have:=H.al.lt hs;omega
  exact⟨f7.get H2.dF H.bs,H2.own.qa.frame f7 (λa' ea hs=>H.ls _ ⟨a',ea,rfl⟩ hs),f7.get afK (nS b1 (by omega)),f7.get fJ (nS b2 (by omega))⟩
 have fin: ∀h7,cu.Al h7 a S (iH L (x.num:Int))->Fr S h2 h7->∀p9 c9 h9,Fr No h7 h9->iS h9 p9 (xs.take i++xs.drop (i+1)).length c9 4 ((xs.take i++xs.drop (i+1)).flatMap jJ)->(∀y,aQ p9 y->h7.size<=y)->
   aH h9 (AA b 0) (.slice p9 (xs.take i++xs.drop (i+1)).length c9) λcQ=>
    ∃(HX:Int),ak cQ (AA b2 0)=some (.I HX)/\∃(xm:Int),ak cQ (AA b2 1)=some (.I xm)/\∃(Jb:bV) (Jc Jd:Nat),ak cQ (AA b2 2)=some (.slice Jb Jc Jd)/\∃(Nc:Int),ak cQ (AA b2 3)=some (.U Nc)/\
    aH cQ (AA b1 0) (.I HX) λcW=>
    aH cW (AA b1 1) (.I xm) λdE=>
    aH dE (AA b1 2) (.slice Jb Jc Jd) λdG=>
    aH dG (AA b1 3) (.U Nc) λfD=>
    ∃(r_0:Int),ak fD (AA b1 0)=some (.I r_0)/\∃(r_1:Int),ak fD (AA b1 1)=some (.I r_1)/\∃(ah4:bV) (ah5 ah6:Nat),ak fD (AA b1 2)=some (.slice ah4 ah5 ah6)/\∃(r_3:Int),ak fD (AA b1 3)=some (.U r_3)/\
    R (.agg #[.I r_0,.I r_1,.slice ah4 ah5 ah6,.U r_3]) fD:=by
  intro h7 A7 f7 p9 c9 h9 f9 o9 g9;obtain⟨k1,_,k3,k4⟩:=rest h7 A7 f7;have lb:=aI H.dF;have z7:=f7.1;have z9:=f9.1;refine bM (f9.get k1 id) (by simp) λvk a1 a2 a3=> ?_
  have i2:aM.at vk b2 (x.num:Int) x.owner x.v.p x.v.b.length x.v.c (x.cG:Int):=(a3 b2 (by omega)).trans (f9.get k4 id);refine aM.ld i2 ?_;have i1:aM.at vk b1 0 0 none 0 0 0:=(a3 b1 (by omega)).trans (f9.get k3 id);refine aM.set i1 λDw d1 d2 d3=>aM.ld d1 ?_
  have f10:Fr (λy=>y=b) h9 vk:=Fr.of_eq a2 a3;have f14:Fr (λy=>y=b1) vk Dw:=Fr.of_eq d2 d3;have F2:Fr No h h2:=f1.tt f2;have F7:Fr S h h7:=Fr.no F2 f7;have F9:Fr S h h9:=F7.tt (f9.mono (λ_ _ hx=>hx.elim));have Nj:Fr (λy=>S y\/y=b) h vk:=(F9.mono (λ_ _ hx=> .inl hx)).tt (f10.mono (λ_ _ hx=> .inr hx));have F14:Fr X.M h Dw:=by
   refine⟨dw Nj.1 f14.1,λy hy hn=> ?_⟩;rw[f14.2 y (cT hy Nj.1) (λe=>by omega),Nj.2 y hy (λhx=>hn ((H.m y).2 (hx.elim (λh=> .inr (.inr h)) .inl)))]
  have lpS: ∀y,aQ p9 y->¬S y:=λy hy hs=>by have:=g9 y hy;have:=H.al.lt hs;omega
  have lpb: ∀y,aQ p9 y->y≠b:=λy hy e=>by have:=g9 y hy;omega
  have aqg: ∀y,aQ p9 y->y≠b1:=λy hy e=>by have:=g9 y hy;omega
  have D14: ∀v:IV,v∈xs->v.v.ok Dw X.D:=λv hv=>(H.PB v hv).frame F14 (λy hd hm=>H.GL y hm hd)
  refine hk Dw ⟨λy=>y=b\/aQ p9 y\/S y,X.D⟩ ⟨p9,c9,xs.take i++xs.drop (i+1),a,S,⟨?_,(o9.frame f10 lpb).frame f14 aqg,?_,?_,?_,λ_=>fZ,λhx=>lpb b hx rfl,H.bs,lpS,?_,λy hy=>cT (H.RW y hy) F14.1⟩⟩ ⟨F14,?_,λ_=> .inl,λ_=>id⟩ (D14 x (bt hx))
  ·rw[d3 b (by omega),a1];simp
  ·have A9:=A7.frame f9 (λ_ _=>id);exact(A9.frame f10 (λy hy e=>H.bs (e▸hy))).frame f14 (λy hy e=>by have:=H.al.lt hy;omega)
  ·show _=Mj s.items i;unfold Mj;rw[<-H.abs,bm,List.map_take,List.map_drop]
  ·intro v hv;refine D14 v ?_;rcases bU.1 hv with hv|hv
   ·exact List.mem_of_mem_take hv
   ·exact List.mem_of_mem_drop hv
  ·rintro y (rfl|hy|hy) hd
   ·exact H.GL _ ((H.m _).2 (.inl rfl)) hd
   ·have:=g9 y hy;have:=H.RW y hd;omega
   ·exact H.GL _ ((H.m _).2 (.inr (.inr hy))) hd
  ·rintro y (rfl|hy|hy)
   ·exact .inl ((H.m _).2 (.inl rfl))
   ·right;have:=g9 y hy;omega
   ·exact .inl ((H.m _).2 (.inr (.inr hy)))
 have ew:IntKind.wrap .i64 ((i:Int)+1)=((i+1:Nat):Int):=by rw[bL (by omega) (by omega)];omega
 have cap:=H.own.le;rw[ew];simp only[aL,Nat.sub_zero];refine cu.AK H2.al (by omega) _ (λhm h7 A7 f7=>⟨_,rfl,?_⟩) (λhm=>⟨_,rfl,?_⟩)
 ·obtain⟨k1,k2,k3,k4⟩:=rest h7 A7 f7;refine⟨_,_,_,af k1 rfl,⟨by omega,by omega⟩,_,_,_,af k1 rfl,⟨by omega,by omega⟩,cY ?_⟩;have f8:Fr No h7 (h7.push (.cells #[.slice (da (some (AA ab AH)) lc 0 4) i lc,.slice (da (some (AA ab AH)) lc (i+1) 4) (xs.length - (i+1)) (lc - (i+1))] T.fh)):=Fr.push _ _;have k8:=f8.get k1 id;refine⟨af k8 rfl,af k8 rfl,?_⟩;have r8:=k2.frame f8 (λ_ _=>id);have ra:=iS.Je (l:=0) (u:=i) (cap:=lc) r8 (by omega) (by omega);have rb:=iS.Je (l:=i+1) (u:=xs.length) (cap:=lc) r8 (by omega) (by omega);rw[jU] at ra;rw[iF] at rb;refine Ni rW ra (by rw[bR];omega) rb (by rw[cg]) (by rw[bR,cg];omega) λp9 c9 h9 o9 f9 g9=>⟨_,_,_,rfl,?_⟩
  have k9:=f9.get k8 id;exact⟨af k9 rfl,af k9 rfl,fin h7 A7 f7 p9 c9 h9 (f8.tt f9) o9 (λy hy=>by have:=g9 y hy;rw[fP] at this;omega)⟩
 ·have A7:cu.Al h2 a S (iH L (x.num:Int)):=by
   rw[aaB hm];exact H2.al
  have f7:Fr S h2 h2:=Fr.refl _ _;obtain⟨k1,k2,k3,k4⟩:=rest h2 A7 f7;refine⟨_,_,_,af k1 rfl,⟨by omega,by omega⟩,_,_,_,af k1 rfl,⟨by omega,by omega⟩,cY ?_⟩;have f8:Fr No h2 (h2.push (.cells #[.slice (da (some (AA ab AH)) lc 0 4) i lc,.slice (da (some (AA ab AH)) lc (i+1) 4) (xs.length - (i+1)) (lc - (i+1))] T.fh)):=Fr.push _ _;have k8:=f8.get k1 id;refine⟨af k8 rfl,af k8 rfl,?_⟩;have r8:=k2.frame f8 (λ_ _=>id);have ra:=iS.Je (l:=0) (u:=i) (cap:=lc) r8 (by omega) (by omega);have rb:=iS.Je (l:=i+1) (u:=xs.length) (cap:=lc) r8 (by omega) (by omega);rw[jU] at ra;rw[iF] at rb;refine Ni rW ra (by rw[bR];omega) rb (by rw[cg]) (by rw[bR,cg];omega) λp9 c9 h9 o9 f9 g9=>⟨_,_,_,rfl,?_⟩
  have k9:=f9.get k8 id;exact⟨af k9 rfl,af k9 rfl,fin h2 A7 f7 p9 c9 h9 (f8.tt f9) o9 (λy hy=>by have:=g9 y hy;rw[fP] at this;omega)⟩
end lJ
end
section
open Go.jH Go.rO
namespace lJ
open cu (pS)
variable {L:List E} {s:BS} {items:List It} {now:Int}
def It.kv (x:It):E:=((x.num:Int),(x.cG:Int))
structure okB (s:BS) (L:List E):Prop where
 le:s.items.length<=16
 pm:L.Perm (s.items.map It.kv)
 it: ∀x∈s.items,1<=x.num/\x.num<s.next/\1<=x.d.length/\x.d.length<=600/\1<=x.owner/\x.owner<=1099511627776/\x.cG<=1099511627776
 inc:(s.items.map It.num).Pairwise (· < ·)
 KE:s.next=1+s.items.length+s.taken+s.EF+s.over
theorem okB.nil:okB ⟨[],1,0,0,0⟩ []:=⟨by simp,.refl _,by simp,.nil,rfl⟩
def CO (items:List It) (num:Int):List It:=items.filter (λy=> !decide ((y.num:Int)=num))
theorem CP: ∀ {items:List It} {i:Nat} {x:It},(items.map It.num).Pairwise (· < ·)->items[i]? =some x->Mj items i=CO items (x.num:Int)
 | [],i,x,_,h=>by simp at h
 |y::r,0,x,hp,h=>by
  simp at h;subst h;rw[cB,fj] at hp;unfold Mj CO;rw[cD];simp only[decide_true,dX,aA,aU,fN,ft,List.drop_succ_cons,jU];symm
  rw[cI];intro z hz;have:=hp.1 z.num (bB hz);have: ¬(z.num:Int)=(y.num:Int):=by omega
  simp[this]
 |y::r,i+1,x,hp,h=>by
  rw[cB,fj] at hp;rw[eO] at h;have ih:=CP hp.2 h;have hx:=hp.1 x.num (bB (bt h));have kB: ¬(y.num:Int)=(x.num:Int):=by omega
  unfold Mj CO at ih⊢;rw[cD];simp only[kB,decide_false,gM,bA,jb,List.drop_succ_cons,fw];rw[ih]
theorem KF {num:Int} (h:L.Perm (items.map It.kv)):(iH L num).Perm ((CO items num).map It.kv):=by
 have:=h.filter (λe=> !(e.1==num));unfold iH;refine this.trans ?_;rw[eM];refine List.Perm.of_eq ?_;unfold CO;refine bp _ (fG ?_);intro x _;show(!((x.num:Int)==num))=_;by_cases q:(x.num:Int)=num<;>simp[q]
theorem okB.sub {CQ:List It} {L':List E} {t c o:Nat} (ok:okB s L) (hs:CQ.Sublist s.items) (hp:L'.Perm (CQ.map It.kv)) (hc:s.next=1+CQ.length+t+c+o):okB ⟨CQ,s.next,t,c,o⟩ L':=
 ⟨dw hs.length_le ok.le,hp,λx hx=>ok.it x (hs.subset hx),ok.inc.sublist (hs.map _),hc⟩
theorem KG {num:Int} {i:Nat} (h:II items num=some i): ∃x,items[i]? =some x/\(x.num:Int)=num:=by
 unfold II at h;rw[cP] at h;obtain⟨h1,h2,_⟩:=h;exact⟨_,au h1,by simpa using h2⟩
theorem acH {num:Int} (h:II items num=none): ∀x∈items,(x.num:Int)≠num:=by
 unfold II at h;rw[dL] at h;intro x hx;simpa using h x hx
theorem uniq (h:(items.map It.num).Pairwise (· < ·)) {x y:It} (hx:x∈items) (hy:y∈items) (e:x.num=y.num):x=y:=by
 induction items with
 |nil=>cases hx
 |cons z r ih=>
  rw[cB,fj] at h;rcases bQ.1 hx with e1|hx1
  ·rcases bQ.1 hy with e2|hy1
   ·rw[e1,e2]
   ·have:=h.1 y.num (bB hy1);rw[e1] at e;omega
  ·rcases bQ.1 hy with e2|hy1
   ·have:=h.1 x.num (bB hx1);rw[e2] at e;omega
   ·exact ih h.2 hx1 hy1
theorem jj: ∀ {L:List E},pG L->cu.due L now=L.filter (pS now)/\cu.rest L now=L.filter (λe=> !pS now e)
 | [],_=>⟨rfl,rfl⟩
 |e::r,hs=>by
  have DD:=fj.1 hs;obtain⟨i1,i2⟩:=jj (L:=r) DD.2;unfold cu.due at i1⊢;unfold cu.rest at i2⊢;by_cases he:pS now e=true
  ·rw[List.takeWhile_cons,List.dropWhile_cons,cD,cD,he];simp only[bA,dX,aA,aU];rw[i1,i2];exact⟨rfl,rfl⟩
  ·have I7:pS now e=false:=by simpa using he
   have all: ∀x∈r,pS now x=false:=by
    intro x hx;have h1:=DD.1 x hx;unfold pS at I7⊢;have h2:=of_decide_eq_false I7;apply decide_eq_false
    rcases h1 with h1|h1<;>omega
   rw[List.takeWhile_cons,List.dropWhile_cons,cD,cD,I7];simp only[aA,aU,gM,bA];refine⟨?_,?_⟩
   ·symm;rw[List.filter_eq_nil_iff];intro x hx;rw[all x hx];simp
   ·congr 1;symm;rw[cI];intro x hx;rw[all x hx];rfl
def yO (items:List It) (K:List Int):List It:=items.filter (λx=>decide ((x.num:Int)∉K))
theorem acI:yO items []=items:=by unfold yO;simp
theorem acJ {K:List Int} {k:Int} :CO (yO items K) k=yO items (K++ [k]):=by
 unfold CO yO;rw[List.filter_filter];apply fG
 intro x _;by_cases h1:(x.num:Int)=k
 ·simp[h1]
 ·by_cases h2:(x.num:Int)∈K<;>simp[h1,h2]
theorem acK (ok:okB s L) (so:pG L) (nd:(keys L).Nodup):yO s.items (keys (cu.due L now))=s.items.filter (λx=>decide (now<(x.cG:Int))):=by
 obtain⟨e1,_⟩:=jj (now:=now) so;unfold yO;apply fG
 intro x hx;have hm:x.kv∈L:=ok.pm.mem_iff.2 (bB hx);by_cases ht:now<(x.cG:Int)
 ·simp only[ht,decide_true,bf];intro hk;rw[e1] at hk;obtain⟨e,he,ek⟩:=bn.1 hk;have h2:=aY.1 he;obtain⟨y,hy,rfl⟩:=bn.1 (ok.pm.mem_iff.1 h2.1);have:y=x:=uniq ok.inc hy hx (by have:(y.num:Int)=(x.num:Int):=ek;omega);subst this;have:=of_decide_eq_true h2.2;unfold It.kv at this;dsimp only at this;omega
 ·simp only[ht,decide_false,decide_eq_false_iff_not,Classical.not_not];rw[e1];refine bn.2 ⟨x.kv,aY.2 ⟨hm,ay ?_⟩,rfl⟩;unfold It.kv;dsimp only;omega
theorem Nk (ok:okB s L) (so:pG L):(cu.rest L now).Perm ((s.items.filter (λx=>decide (now<(x.cG:Int)))).map It.kv):=by
 rw[(jj (now:=now) so).2];refine(ok.pm.filter _).trans (List.Perm.of_eq ?_);rw[eM];congr 1
 apply fG
 intro x _;show(!decide ((x.cG:Int)<=now))=_;by_cases q:now<(x.cG:Int)
 ·simp[q]
 ·simp[q];omega
theorem acL (ok:okB s L) (so:pG L):(cu.due L now).Perm ((s.items.filter (λx=>decide ((x.cG:Int)<=now))).map It.kv):=by
 rw[(jj (now:=now) so).1];refine(ok.pm.filter _).trans (List.Perm.of_eq ?_);rw[eM];rfl
end lJ
end
section
variable {h:aj} {R:iI}
theorem oa.walk {p:Nat} (hv: ∃t9,ak h (AA p 2)=some (.map t9)/\R (.bool (!t9.isNone)) h):Cl F.oa #[.P p 0] h R:=aS (lq ll) Tryz.func174 hv
theorem za.walk {whole:Int} {share:Int} (hv:aK (λ(t20:Bool) (aR:aj)=>if t20 then R (.tuple #[.pointer none,.I 1]) aR else aV aR (.map #[] 0) λb aZ=>aV aZ (.cells #[.I whole,.I share,.map (some b),.I 0] T.HN) λcE bK=>R (.tuple #[.P cE 0,.I 0]) bK) (λJ=>if(decide (whole<1)) then J true h else if(decide (whole>1048576)) then J true h else if(decide (share<1)) then J true h else J (decide (share>whole)) h)):Cl F.za #[.I whole,.I share] h R:=aS (lq (sq (sq (.join [(20,.one (.bool))] lf) (cq ll lf)) ll)) Tryz.func34 hv
theorem kQ.walk {p:Nat} {owner:Int} {n:Int} (hv:Cl F.oa #[.P p 0] h λv aR=> ∃t9,v=.bool t9/\if(!t9) then R (.I 6) aR else aK (λ(t11:Bool) (aZ:aj)=>if t11 then R (.I 1) aZ else R (.I 0) aZ) (λJ=>if(decide (owner<1)) then J true aR else if(decide (owner>1099511627776)) then J true aR else J (decide (n<0)) aR)):Cl F.kQ #[.P p 0,.I owner,.I n] h R:=aS (lq (sq (bq (lq (cq ll (sq (.join [(11,.one (.bool))] lf) (cq ll lf))))) ll)) Tryz.func123 hv
theorem lY.walk {p:Nat} {owner:Int} {n:Int} (hv:Cl F.kQ #[.P p 0,.I owner,.I n] h λv aR=> ∃t11,v=.I t11/\if(t11 !=0) then R (.I t11) aR else aK (λ(t40:Bool) (aZ:aj)=>if t40 then R (.I 15) aZ else aK (λ(bK:aj)=>R (.I 0) bK) (λjo=>if(decide (n>0)) then∃t46,ak aZ (AA p 2)=some (.map t46)/\∃t48,mD Tryz.prog T.jI (.map t46) (.I owner) false aZ (.I t48)/\aX Tryz.prog (Instr.mapUpdate T.jI (.map t46) (.I owner) (.I (wrap .i64 (t48+n)))) aZ λ_ cC=> ∃t54,ak cC (AA p 3)=some (.I t54)/\aH cC (AA p 3) (.I (wrap .i64 (t54+n))) λcK=>jo cK else jo aZ)) (λJ=>Hi aR p 1 λt19=> ∃t23,ak aR (AA p 2)=some (.map t23)/\∃t25,mD Tryz.prog T.jI (.map t23) (.I owner) false aR (.I t25)/\if(decide (n>(wrap .i64 (t19 - t25)))) then J true aR else Hi aR p 0 λt33=> ∃t37,ak aR (AA p 3)=some (.I t37)/\J (decide (n>(wrap .i64 (t33 - t37)))) aR)):Cl F.lY #[.P p 0,.I owner,.I n] h R:=aS (lq (sq (lq (lq (cq ll lf))) (sq (sq (.join [(40,.one (.bool))] (pN 26)) (cq ll lf)) (sq (lq (.join [] (cq ll lf))) ll)))) Tryz.func241 hv
theorem om.walk {p:Nat} {owner:Int} {n:Int} (hv:Cl F.kQ #[.P p 0,.I owner,.I n] h λv aR=> ∃t10,v=.I t10/\if(t10==0) then Hi aR p 1 λt17=> ∃t21,ak aR (AA p 2)=some (.map t21)/\∃t23,mD Tryz.prog T.jI (.map t21) (.I owner) false aR (.I t23)/\if(decide (n<=(wrap .i64 (t17 - t23)))) then Hi aR p 0 λt32=> ∃t36,ak aR (AA p 3)=some (.I t36)/\R (.bool (decide (n<=(wrap .i64 (t32 - t36))))) aR else R (.bool false) aR else R (.bool false) aR):Cl F.om #[.P p 0,.I owner,.I n] h R:=aS (lq (sq (pN 34) lf)) Tryz.func239 hv
theorem jq.walk {p:Nat} {owner:Int} {n:Int} (hv:Cl F.kQ #[.P p 0,.I owner,.I n] h λv aR=> ∃t11,v=.I t11/\if(t11 !=0) then R (.I t11) aR else∃t19,ak aR (AA p 2)=some (.map t19)/\∃t21,mD Tryz.prog T.jI (.map t19) (.I owner) false aR (.I t21)/\if(decide (n>t21)) then R (.I 7) aR else∃t26,ak aR (AA p 3)=some (.I t26)/\aH aR (AA p 3) (.I (wrap .i64 (t26 - n))) λaZ=> ∃t34,ak aZ (AA p 2)=some (.map t34)/\∃t36,mD Tryz.prog T.jI (.map t34) (.I owner) false aZ (.I t36)/\aX Tryz.prog (Instr.mapUpdate T.jI (.map t34) (.I owner) (.I (wrap .i64 (t36 - n)))) aZ λ_ bK=> ∃t42,ak bK (AA p 2)=some (.map t42)/\∃t44,mD Tryz.prog T.jI (.map t42) (.I owner) false bK (.I t44)/\aK (λ(cC:aj)=>R (.I 0) cC) (λJ=>if(t44==0) then∃t49,ak bK (AA p 2)=some (.map t49)/\aX Tryz.prog (Builtin.delete_ #[T.jI,T.int] T.J0 #[.map t49,.I owner]) bK λeK cK=>eK=.tuple #[]/\J cK else J bK)):Cl F.jq #[.P p 0,.I owner,.I n] h R:=aS (lq (sq (lq (lq (cq ll lf))) (sq (lq (cq ll lf)) (lq (lq (sq (lq (.join [] (cq lf lf))) ll)))))) Tryz.func55 hv
end
section
namespace vN
theorem tm : Cf Tryz.prog T.jI (.int .i64 0) := .of T.int T.int .i64 (by kernel_rfl) (by kernel_rfl) (by kernel_rfl)
def jQ (h:aj) (p m:Nat) (W S A:Int) (f:Int->Int):Prop:=
 h[p]? =some (.cells #[.int .i64 W,.int .i64 S,.map (some m),.int .i64 A] T.HN (0,0))/\
 ∃g:Int->Option Value,xU h m g/\∀k,(g k).getD (.int .i64 0)=.int .i64 (f k)
def Ok (W S A:Int) (f:Int->Int):Prop:=1<=S/\S<=W/\W<=1048576/\ -2000000000000<=A/\A<=W/\∀k,0<=f k/\f k<=S
variable {h : aj} {p m : Nat} {W S A : Int} {f : Int → Int} {R : Value → aj → Prop}
theorem jQ.frame {Q:Nat->Prop} {h':aj} (hp:jQ h p m W S A f) (hf:Fr Q h h') (h1: ¬Q p) (h2: ¬Q m):jQ h' p m W S A f:=by
 obtain⟨hb,g,hg,hgf⟩:=hp;exact⟨hf.get hb h1,g,hg.frame hf h2,hgf⟩
theorem jQ.ne (hp:jQ h p m W S A f):p≠m:=by
 obtain⟨hb,g,hg,_⟩:=hp;obtain⟨es,c,hm⟩:=hg.map;rintro rfl;rw[hb] at hm;cases hm
theorem jQ.lt (hp:jQ h p m W S A f):p<h.size/\m<h.size:=⟨aI hp.1,by obtain⟨_,g,hg,_⟩:=hp;exact hg.lt⟩
theorem jQ.ext {f':Int->Int} (hp:jQ h p m W S A f) (he: ∀k,f' k=f k):jQ h p m W S A f':=by
 obtain⟨hb,g,hg,hgf⟩:=hp;exact⟨hb,g,hg,λk=>by rw[he];exact hgf k⟩
theorem ji (hp:jQ h p m W S A f) (hk:R (.bool true) h):Cl F.oa #[.P p 0] h R:=
 oa.walk ⟨some m,af hp.1 rfl,hk⟩
theorem look (hp:jQ h p m W S A f) (o:Int):mD Tryz.prog T.jI (.map (some m)) (.I o) false h (.I (f o)):=by
 obtain⟨_,g,hg,hgf⟩:=hp;have:=MG tm hg o;rw[hgf] at this;exact this
def may (o n:Int):Bool:=decide (1<=o) && decide (o<=1099511627776) && decide (0<=n)
def oS (o n:Int):Int:=if may o n=true then 0 else 1
theorem vV {o n:Int} :may o n=true↔1<=o/\o<=1099511627776/\0<=n:=by simp[may,and_assoc]
theorem GN (hp:jQ h p m W S A f) (o n:Int) (hk:R (.I (oS o n)) h):Cl F.kQ #[.P p 0,.I o,.I n] h R:=by
 refine kQ.walk (ji hp ⟨true,rfl,?_⟩);simp only[aK];unfold oS may at hk;by_cases h1:o<1
 ·simpa[h1,show¬1<=o by omega] using hk
 ·by_cases h2:o>1099511627776
  ·simpa[h1,h2,show¬o<=1099511627776 by omega] using hk
  ·by_cases h3:n<0
   ·simpa[h1,h2,h3,show¬0<=n by omega] using hk
   ·simpa[h1,h2,h3,show 1<=o by omega,show o<=1099511627776 by omega,show 0<=n by omega] using hk
def fits (W S A:Int) (f:Int->Int) (o n:Int):Bool:=may o n && decide (n<=S - f o) && decide (n<=W - A)
def ah7 (W S A:Int) (f:Int->Int) (o n:Int):Int:=if may o n=true then(if fits W S A f o n=true then 0 else 15) else 1
def sk (f:Int->Int) (o n:Int):Int->Int:=λk=>if k=o then f k+n else f k
theorem RX {o n:Int} :fits W S A f o n=true↔(1<=o/\o<=1099511627776/\0<=n)/\n<=S - f o/\n<=W - A:=by
 simp[fits,vV,and_assoc]
theorem Ok.take {o n:Int} (ok:Ok W S A f) (hf:fits W S A f o n=true):Ok W S (A+n) (sk f o n):=by
 obtain⟨o1,o2,o3,o4,o5,o6⟩:=ok;obtain⟨⟨h1,h2,h3⟩,h4,h5⟩:=RX.1 hf;refine⟨o1,o2,o3,by omega,by omega,λk=> ?_⟩;have:=o6 k;unfold sk;split
 ·rename_i e;subst e;omega
 ·exact this
theorem afM (hp:jQ h p m W S A f) (ok:Ok W S A f) (o n:Int)
  (k1:fits W S A f o n=true->∀h',jQ h' p m W S (A+n) (sk f o n)->Fr (λc=>c=p\/c=m) h h'->R (.I 0) h')
  (k2:fits W S A f o n=false->R (.I (ah7 W S A f o n)) h):
  Cl F.lY #[.P p 0,.I o,.I n] h R:=by
 obtain⟨o1,o2,o3,o4,o5,o6⟩:=ok;have of:=o6 o;refine lY.walk (GN hp o n ⟨_,rfl,?_⟩);unfold ah7 at k2;unfold oS;cases hm:may o n with
 |false=>
  have:=k2 (by simp[fits,hm]);simpa[hm] using this
 |true=>
  have hm':=vV.1 hm;simp only[bA,bne_self_eq_false,aA,aU,aK];refine⟨S,af hp.1 rfl,some m,af hp.1 rfl,f o,look hp o,?_⟩;rw[bL (by omega) (by omega)];by_cases h1:n>S - f o
  ·have hf:fits W S A f o n=false:=by simp[fits,show¬n<=S - f o by omega]
   have:=k2 hf;simpa[h1,hm,hf] using this
  ·simp only[h1,decide_false,aA,aU];refine⟨W,af hp.1 rfl,A,af hp.1 rfl,?_⟩;rw[bL (by omega) (by omega)];by_cases h2:n>W - A
   ·have hf:fits W S A f o n=false:=by simp[fits,show¬n<=W - A by omega]
    have:=k2 hf;simpa[h2,hm,hf] using this
   ·have hf:fits W S A f o n=true:=by simp[fits,hm,show n<=S - f o by omega,show n<=W - A by omega]
    simp only[h2,decide_false,aA,aU];by_cases h3:n>0
    ·simp only[h3,decide_true,bA];refine⟨some m,af hp.1 rfl,f o,look hp o,?_⟩;rw[bL (by omega) (by omega)];have kB:=hp.ne;obtain⟨hb,g,hg,hgf⟩:=hp;refine wK tm hg ?_;intro h4 hg4 hs4 ho4;have mb:=(ho4 p kB).trans hb;refine⟨A,af mb rfl,?_⟩;rw[bL (by omega) (by omega)];refine bM mb (by simp) ?_;intro h5 DK hs5 ho5;refine k1 hf h5 ⟨DK,_,hg4.wJ (ho5 m (ie kB)),λk=> ?_⟩ (Fr.of_eq (by omega) λc hc=> ?_)
     ·unfold sk;by_cases hk:k=o
      ·simp[hk]
      ·simp[hk,hgf]
     ·rw[ho5 c (λe=>hc (.inl e)),ho4 c (λe=>hc (.inr e))]
    ·have hn0:n=0:=by omega
     simp only[h3,decide_false,aA,aU];refine k1 hf h ?_ (Fr.refl _ _);subst hn0;rw[Int.add_zero];exact hp.ext λk=>by unfold sk;split<;>omega
theorem afN (hp:jQ h p m W S A f) (ok:Ok W S A f) (o n:Int) (hk:R (.bool (fits W S A f o n)) h):Cl F.om #[.P p 0,.I o,.I n] h R:=by
 obtain⟨o1,o2,o3,o4,o5,o6⟩:=ok;have of:=o6 o;refine om.walk (GN hp o n ⟨_,rfl,?_⟩);unfold oS;unfold fits at hk;cases hm:may o n with
 |false=>simpa[hm] using hk
 |true=>
  simp only[bA,beq_self_eq_true];refine⟨S,af hp.1 rfl,some m,af hp.1 rfl,f o,look hp o,?_⟩;rw[bL (by omega) (by omega)];by_cases h1:n<=S - f o
  ·simp only[h1,decide_true,bA];refine⟨W,af hp.1 rfl,A,af hp.1 rfl,?_⟩;rw[bL (by omega) (by omega)];simpa[hm,h1] using hk
  ·simpa[hm,h1] using hk
def CR (f:Int->Int) (o n:Int):Bool:=may o n && decide (n<=f o)
def ah8 (f:Int->Int) (o n:Int):Int:=if may o n=true then(if CR f o n=true then 0 else 7) else 1
theorem aaC {o n:Int} :CR f o n=true↔(1<=o/\o<=1099511627776/\0<=n)/\n<=f o:=by simp[CR,vV,and_assoc]
theorem afO (hp:jQ h p m W S A f) (ok:Ok W S A f) (o n:Int)
  (k1:CR f o n=true->∀h',jQ h' p m W S (A - n) (sk f o (-n))->Fr (λc=>c=p\/c=m) h h'->R (.I 0) h')
  (k2:CR f o n=false->R (.I (ah8 f o n)) h):
  Cl F.jq #[.P p 0,.I o,.I n] h R:=by
 obtain⟨o1,o2,o3,o4,o5,o6⟩:=ok;have of:=o6 o;refine jq.walk (GN hp o n ⟨_,rfl,?_⟩);unfold ah8 at k2;unfold oS;cases hm:may o n with
 |false=>
  have:=k2 (by simp[CR,hm]);simpa[hm] using this
 |true=>
  have hm':=vV.1 hm;simp only[bA,bne_self_eq_false,aA,aU];refine⟨some m,af hp.1 rfl,f o,look hp o,?_⟩;by_cases h1:n>f o
  ·have hf:CR f o n=false:=by simp[CR,show¬n<=f o by omega]
   have:=k2 hf;simpa[h1,hm,hf] using this
  ·have hf:CR f o n=true:=by simp[CR,hm,show n<=f o by omega]
   simp only[h1,decide_false,aA,aU];have kB:=hp.ne;obtain⟨hb,g,hg,hgf⟩:=hp;refine⟨A,af hb rfl,?_⟩;rw[bL (by omega) (by omega)];refine bM hb (by simp) ?_;intro h2 fJ hs2 ho2;have hg2:=hg.wJ (ho2 m (ie kB));have JF:jQ h2 p m W S (A - n) f:=⟨fJ,g,hg2,hgf⟩;refine⟨some m,af fJ rfl,f o,look JF o,?_⟩;rw[bL (by omega) (by omega)];refine wK tm hg2 ?_;intro h3 hg3 hs3 ho3;have kT:=(ho3 p kB).trans fJ;have hp3:jQ h3 p m W S (A - n) (sk f o (-n)):=⟨kT,_,hg3,λk=>by
    unfold sk;by_cases hk:k=o
    ·simp[hk,Int.sub_eq_add_neg]
    ·simp[hk,hgf]⟩
   have aqh:Fr (λc=>c=p\/c=m) h h3:=Fr.of_eq (by omega) λc hc=>by rw[ho3 c (λe=>hc (.inr e)),ho2 c (λe=>hc (.inl e))]
   have hl:=look hp3 o;refine⟨some m,af kT rfl,sk f o (-n) o,hl,?_⟩;simp only[aK];by_cases hz:sk f o (-n) o=0
   ·simp only[hz,beq_self_eq_true,bA];refine⟨some m,af kT rfl,?_⟩;refine HC tm hg3 ?_;intro h5 hg5 hs5 ho5;refine⟨rfl,k1 hf h5 ⟨(ho5 p kB).trans kT,_,hg5,λk=> ?_⟩ (Fr.of_eq (by omega) λc hc=> ?_)⟩
    ·by_cases hk:k=o
     ·subst hk;simp[hz]
     ·simp[hk,hgf,sk]
    ·rw[ho5 c (λe=>hc (.inr e)),ho3 c (λe=>hc (.inr e)),ho2 c (λe=>hc (.inl e))]
   ·have hz':(sk f o (-n) o==0)=false:=by simpa using hz
    simp only[hz',aA,aU];exact k1 hf h3 hp3 aqh
def Ia (W S:Int):Bool:=decide (1<=W) && decide (W<=1048576) && decide (1<=S) && decide (S<=W)
theorem aaD:Ia W S=true↔1<=W/\W<=1048576/\1<=S/\S<=W:=by simp[Ia,and_assoc]
theorem pE (W S:Int) {h:aj}
  (k1:Ia W S=true->∀h' p m,jQ h' p m W S 0 (λ_=>0)->h.size<=p->h.size<=m->Fr No h h'->R (.tuple #[.P p 0,.I 0]) h')
  (k2:Ia W S=false->R (.tuple #[.pointer none,.I 1]) h):Cl F.za #[.I W,.I S] h R:=by
 refine za.walk ?_;simp only[aK];by_cases h1:W<1
 ·simpa only[h1,decide_true,bA] using k2 (by simp[Ia,show¬1<=W by omega])
 ·simp only[h1,decide_false,aA,aU];by_cases h2:W>1048576
  ·simpa only[h2,decide_true,bA] using k2 (by simp[Ia,show¬W<=1048576 by omega])
  ·simp only[h2,decide_false,aA,aU];by_cases h3:S<1
   ·simpa only[h3,decide_true,bA] using k2 (by simp[Ia,show¬1<=S by omega])
   ·simp only[h3,decide_false,aA,aU];by_cases h4:S>W
    ·simpa only[h4,decide_true,bA] using k2 (by simp[Ia,show¬S<=W by omega])
    ·simp only[h4,decide_false,aA,aU];rintro b h2' rfl rfl b1 h3' rfl rfl;refine k1 (aaD.2 (by omega)) _ _ h.size ⟨cA,λ_=>none,?_,λ_=>rfl⟩ (by simp) (by simp) ?_
     ·exact(xU.push h).frame (Fr.push (S:=λ_=>False) _ _) (by simp)
     ·exact(Fr.push (S:=λ_=>False) h _).trans (Fr.push (S:=λ_=>False) _ _) (λ_ _ hx=>hx) (λ_ _ hx=>hx)
end vN
end
section
namespace gK
open lJ (It)
variable {l l':List It} {x:It} {o:Int}
def Ho (l:List It):Int:=(l.map (λx=>(x.d.length:Int))).sum
def own (l:List It) (o:Int):Int:=Ho (l.filter (λx=>decide (x.owner=o)))
theorem KH (p:l.Perm l'):Ho l=Ho l':=by
 induction p with
 |nil=>rfl
 |cons x _ ih=>unfold Ho at ih⊢;simp only[cB,List.sum_cons];omega
 |swap x y l=>unfold Ho;simp only[cB,List.sum_cons];omega
 |trans _ _ h1 h2=>exact h1.trans h2
theorem KI (p:l.Perm l'):own l=own l':=funext λo=>KH (p.filter _)
theorem qu:Ho (x::l)=x.d.length+Ho l:=by unfold Ho;rw[cB,List.sum_cons]
theorem xo:own (x::l) o=(if x.owner=o then(x.d.length:Int) else 0)+own l o:=by
 unfold own;rw[cD];split<;>rename_i h
 ·rw[qu,ag (of_decide_eq_true h)]
 ·rw[ai (λe=>h (ay e))];omega
theorem UJ:0<=Ho l:=by
 induction l with
 |nil=>exact gh _
 |cons x l ih=>rw[qu];omega
theorem UK:0<=own l o:=UJ
theorem ajR (hx:x∈l):(x.d.length:Int)<=own l x.owner:=by
 obtain⟨a,b,rfl⟩:=List.append_of_mem hx;rw[KI List.perm_middle,xo,ag rfl];have:=UK (l:=a++b) (o:=x.owner);omega
abbrev D0 (l:List It):Prop:=vN.Ok 4800 1600 (Ho l) (own l)
theorem D0.perm (ok:D0 l) (p:l.Perm l'):D0 l':=by
 unfold D0;rw[<-KH p,<-KI p];exact ok
theorem D0.sub (ok:D0 (x::l)):D0 l:=by
 obtain⟨a,b,c,d,e,f⟩:=ok;rw[qu] at d e;have:=UJ (l:=l);refine⟨a,b,c,by omega,by omega,λk=>⟨UK,?_⟩⟩;have:=(f k).2;rw[xo] at this;split at this<;>omega
theorem D0.nil:D0 []:=⟨by decide,by decide,by decide,by decide,by decide,λ_=>⟨gh 0,show(0:Int)<=1600 by decide⟩⟩
theorem WC:vN.sk (own l) x.owner (x.d.length:Int)=own (x::l):=by
 funext k
 unfold vN.sk;rw[xo];by_cases e:k=x.owner
 ·rw[ag e,ag e.symm];omega
 ·rw[ai e,ai (λq=>e q.symm)];omega
theorem acM:vN.sk (own (x::l)) x.owner (-(x.d.length:Int))=own l:=by
 funext k
 unfold vN.sk;rw[xo];by_cases e:k=x.owner
 ·rw[ag e,ag e.symm];omega
 ·rw[ai e,ai (λq=>e q.symm)];omega
def okI (x:It):Prop:=1<=x.d.length/\x.d.length<=600/\1<=x.owner/\x.owner<=1099511627776
section
variable {h h' : aj} {R : Value → aj → Prop} {p m : Nat}
abbrev Pu (h:aj) (p m:Nat) (l:List It):Prop:=vN.jQ h p m 4800 1600 (Ho l) (own l)
theorem Pu.perm (H:Pu h p m l) (q:l.Perm l'):Pu h p m l':=by
 unfold Pu;rw[<-KH q,<-KI q];exact H
theorem amB {n:Int} (H:Pu h p m (x::l)) (ok:D0 (x::l)) (k:okI x) (hn:n=(x.d.length:Int)) (hk: ∀h',Pu h' p m l->Fr (λc=>c=p\/c=m) h h'->R (.I 0) h'):
  Cl F.jq #[.P p 0,.I x.owner,.I n] h R:=by
 subst hn;have g:vN.CR (own (x::l)) x.owner (x.d.length:Int)=true:=vN.aaC.2 ⟨⟨k.2.2.1,k.2.2.2,by omega⟩,ajR (by simp)⟩;refine vN.afO H ok _ _ (λ_ h' H' f'=>hk h' ?_ f') (λe=>by rw[g] at e;cases e);rw[acM,qu,show(x.d.length:Int)+Ho l - x.d.length=Ho l by omega] at H';exact H'
end
end gK
end
end Go.Proofs.YtlenamcfacpheaaGreatDoor
namespace Go.Den
section
variable {h h':aj} {X:Ft} {j:Nat}
def In (X:Ft) (y:Nat):Prop:=X.M y\/X.D y
abbrev only (X:Ft) (P:Nat->Prop):Prop:= ∀y,(X.M y↔P y)/\¬X.D y
abbrev pt (b:Nat):Value:=.pointer (some ⟨b,0,none⟩)
structure KJ (P:Nat->aj->Ft->Prop):Prop where
 lt: ∀ {i h X},P i h X->∀y,In X y->y<h.size
 frame: ∀ {i h h' X} {Q:Nat->Prop},P i h X->Fr Q h h'->(∀y,In X y->¬Q y)->P i h' X
 GL: ∀ {i h X},P i h X->∀y,X.M y->X.D y->False
def UL (P:Nat->aj->Ft->Prop) (h:aj) (X:Ft):Prop:= ∃Y:Nat->Ft,(∀i,P i h (Y i))/\(∀i j y,i≠j->In (Y i) y->¬In (Y j) y)/\(∀y,X.M y↔ ∃i,(Y i).M y)/\∀y,X.D y↔ ∃i,(Y i).D y
variable {P P' : Nat → aj → Ft → Prop}
theorem UL.lt (S:KJ P) (H:UL P h X) (y:Nat) (hy:X.M y\/X.D y):y<h.size:=by
 obtain⟨Y,hp,_,hm,hd⟩:=H;rcases hy with hy|hy
 ·obtain⟨i,hi⟩:=(hm y).1 hy;exact S.lt (hp i) y (.inl hi)
 ·obtain⟨i,hi⟩:=(hd y).1 hy;exact S.lt (hp i) y (.inr hi)
theorem UL.GL (S:KJ P) (H:UL P h X) (y:Nat) (a:X.M y) (b:X.D y):False:=by
 obtain⟨Y,hp,ap,hm,hd⟩:=H;obtain⟨i,hi⟩:=(hm y).1 a;obtain⟨j,hj⟩:=(hd y).1 b;by_cases e:i=j
 ·subst e;exact S.GL (hp i) y hi hj
 ·exact ap i j y e (.inl hi) (.inr hj)
theorem UL.frame {Q:Nat->Prop} (S:KJ P) (H:UL P h X) (f:Fr Q h h') (hq: ∀y,X.M y\/X.D y->¬Q y):UL P h' X:=by
 obtain⟨Y,hp,ap,hm,hd⟩:=H;exact⟨Y,λi=>S.frame (hp i) f (λy hy=>hq y (hy.imp (λa=>(hm y).2 ⟨i,a⟩) (λa=>(hd y).2 ⟨i,a⟩))),ap,hm,hd⟩
theorem UL.use (S:KJ P) (H:UL P h X) (j:Nat): ∃Z,P j h Z/\(∀y,Z.M y->X.M y)/\(∀y,Z.D y->X.D y)/\∀h' Z' P',P' j h' Z'->bN Z h Z' h'->(∀i,i≠j->P' i=P i)->
  ∃X',UL P' h' X'/\bN X h X' h'/\(∀y,Z'.D y->X'.D y)/\∀y,h.size<=y->X'.M y\/X'.D y->Z'.M y\/Z'.D y:=by
 obtain⟨Y,hp,ap,hm,hd⟩:=H;refine⟨Y j,hp j,λy a=>(hm y).2 ⟨j,a⟩,λy a=>(hd y).2 ⟨j,a⟩,λh' Z' P' hj st hs=> ?_⟩;have I9: ∀i y,i≠j->In (Y i) y->¬In Z' y:=λi y hi hy hz=>by
  have l:=S.lt (hp i) y hy;rcases hz with hz|hz
  ·rcases st.rh y hz with a|a
   ·exact ap i j y hi hy (.inl a)
   ·omega
  ·rcases st.wL y hz with a|a
   ·exact ap i j y hi hy (.inr a)
   ·omega
 refine⟨⟨λy=> ∃i,(if i=j then Z' else Y i).M y,λy=> ∃i,(if i=j then Z' else Y i).D y⟩,⟨λi=>if i=j then Z' else Y i,λi=> ?_,λi k y hik hy hz=> ?_,λ_=>fZ,λ_=>fZ⟩,⟨st.fr.mono (λy _ a=>(hm y).2 ⟨j,a⟩),?_,?_,?_⟩,λy a=>⟨j,by rw[ag rfl];exact a⟩,?_⟩
 ·show P' i h' (if i=j then Z' else Y i);by_cases e:i=j
  ·rw[ag e,e];exact hj
  ·rw[ai e,hs i e];exact S.frame (hp i) st.fr (λy hy a=>ap i j y e hy (.inl a))
 ·dsimp only at hy hz;by_cases e:i=j
  ·rw[ag e] at hy;rw[ai (λq=>hik (e.trans q.symm))] at hz;exact I9 k y (λq=>hik (e.trans q.symm)) hz hy
  ·rw[ai e] at hy;by_cases e2:k=j
   ·rw[ag e2] at hz;exact I9 i y e hy hz
   ·rw[ai e2] at hz;exact ap i k y hik hy hz
 ·rintro y ⟨i,a⟩;by_cases e:i=j
  ·rw[ag e] at a;exact(st.rh y a).imp (λb=>(hm y).2 ⟨j,b⟩) id
  ·rw[ai e] at a;exact .inl ((hm y).2 ⟨i,a⟩)
 ·rintro y ⟨i,a⟩;by_cases e:i=j
  ·rw[ag e] at a;exact(st.wL y a).imp (λb=>(hd y).2 ⟨j,b⟩) id
  ·rw[ai e] at a;exact .inl ((hd y).2 ⟨i,a⟩)
 ·intro y a;obtain⟨i,a⟩:=(hd y).1 a;by_cases e:i=j
  ·exact⟨j,by rw[ag rfl];exact st.Ix y (e▸a)⟩
  ·exact⟨i,by rw[ai e];exact a⟩
 ·intro y hy a;have key: ∀i,In (if i=j then Z' else Y i) y->Z'.M y\/Z'.D y:=λi a=>by
   by_cases e:i=j
   ·rw[ag e] at a;exact a
   ·rw[ai e] at a;have:=S.lt (hp i) y a;omega
  rcases a with⟨i,a⟩|⟨i,a⟩
  ·exact key i (.inl a)
  ·exact key i (.inr a)
end
end Go.Den
namespace Go.Proofs.YtlenamcfacpheaaGreatDoor
open Go.Den
open IntKind (wrap)
open Int (toNat)
section
variable {h:aj} {R:iI}
theorem sW.walk (hv:aV h (.cells #[.bool true,.Z] T.w8) λb aR=>R (.P b 0) aR):Cl F.sW #[] h R:=aS (lq ll) Tryz.func35 hv
theorem gl.walk {t : Nat} {num : Int} (hv :
 aK (fun (t6 : Bool) (aR : aj) =>
 if t6 = true then
 R (.tuple #[.pointer none, .int .i64 6]) aR
 else
 aK (fun (t16 : Bool) (aZ : aj) =>
 if t16 = true then
 R (.tuple #[.pointer none, .int .i64 4]) aZ
 else
 ∃ yg vK CE, ak aZ ⟨t, 1, none⟩ = some (.slice yg vK CE) ∧
 ((0 : Int) ≤ IntKind.wrap .i64 (num - 1) ∧ IntKind.wrap .i64 (num - 1) < ((vK : Nat) : Int)) ∧
 aP yg λa =>
 ∃ t35, ak aZ (a.add (Int.toNat (IntKind.wrap .i64 (num - 1)) * 1)) = some (.pointer t35) ∧
 R (.tuple #[.pointer t35, .int .i64 0]) aZ)
 (λjo =>
 if (decide (num < 1)) = true then
 jo true aR
 else
 ∃ iQ iy iz, ak aR ⟨t, 1, none⟩ = some (.slice iQ iy iz) ∧
 jo (decide (num > ((iy : Nat) : Int))) aR))
 (λJ =>
 ∃ t13, ak h ⟨t, 0, none⟩ = some (.bool t13) ∧
 J (!t13) h)) : Cl F.gl #[.pointer (some ⟨t, 0, none⟩), .int .i64 num] h R :=
 aS (.seq .leaf (.seq (.block (.seq (.join [(6, .one (.bool))] .leaf) (.cond (.seq .leaf .leaf) (.seq (.join [(16, .one (.bool))] .leaf) (.cond (.seq .leaf .leaf) .leaf))))) (.seq .leaf .leaf))) Tryz.func78 hv
theorem mR.walk {t : Nat} {num : Int} (hv :
 Cl F.gl #[.pointer (some ⟨t, 0, none⟩), .int .i64 num] h λv aR =>
 ∃ zt zu, v = .tuple #[.pointer zt, .int .i64 zu] ∧
 if (zu == 0) = true then
 aP zt λa =>
 ∃ t19, ak aR (a.add 2) = some (.bool t19) ∧
 R (.bool t19) aR
 else
 R (.bool false) aR) : Cl F.mR #[.pointer (some ⟨t, 0, none⟩), .int .i64 num] h R :=
 aS (.seq .leaf (.seq .leaf (.seq .leaf .leaf))) Tryz.func28 hv
theorem mS.walk {t:Nat} {token:Int} (hv:Hl h t 1 λyw rQ CS=> ∃(I:Int->aj->Prop) (mu:Int->aj->Nat),I 0 h/\∀(t12:Int) (aR:aj),I t12 aR->if(decide (t12<(rQ:Int))) then Bd t12 rQ/\aP yw λa=>LO aR (a.add (toNat t12*1)) λt15=>aP t15 λkz=> ∃t19,ak aR (kz.add 1)=some (.U t19)/\if(t19==token) then R (.pointer t15) aR else(I (wrap .i64 (t12+1)) aR/\mu (wrap .i64 (t12+1)) aR<mu t12 aR) else R (.pointer none) aR):Cl F.mS #[.P t 0,.U token] h R:=aS (lq (sq (lq (bq (.loop [(12,.one (.int .i64))] (lq (sq (cq lf lf) (sq (bq (lq (lq (cq ll lf)))) lf)))))) ll)) Tryz.func40 hv
theorem gI.walk {t : Nat} {token : Int} (hv :
 aK (fun (t7 : Bool) (aR : aj) =>
 if t7 = true then
 R (.tuple #[.int .i64 0, .int .i64 6]) aR
 else
 aK (fun (t17 : Bool) (aZ : aj) =>
 if t17 = true then
 R (.tuple #[.int .i64 0, .int .i64 1]) aZ
 else
 Cl F.mS #[.pointer (some ⟨t, 0, none⟩), .int .u64 token] aZ λv bK =>
 ∃ t27, v = .pointer t27 ∧
 if (!t27.isNone) = true then
 R (.tuple #[.int .i64 0, .int .i64 12]) bK
 else
 ∃ rG pP rH, ak bK ⟨t, 1, none⟩ = some (.slice rG pP rH) ∧
 if (decide (((pP : Nat) : Int) ≥ 8)) = true then
 R (.tuple #[.int .i64 0, .int .i64 5]) bK
 else
 ∃ ot kI oH, ak bK ⟨t, 1, none⟩ = some (.slice ot kI oH) ∧
 aV bK (.cells #[.int .i64 (IntKind.wrap .i64 (((kI : Nat) : Int) + 1)), .int .u64 token, .bool true, .bool false, .slice none 0 0, .slice none 0 0] T.ij) λb cC =>
 ∃ Nl KK RY, ak cC ⟨t, 1, none⟩ = some (.slice Nl KK RY) ∧
 aV cC (.cells #[.pointer (some ⟨b, 0, none⟩)] T.sd) λcE cK =>
 aX Tryz.prog (Builtin.append_ #[T.kq, T.kq] T.kq #[.slice Nl KK RY, .slice (some ⟨cE, 0, none⟩) 1 1]) cK λeK cR =>
 ∃ yh yi Bq, eK = .slice yh yi Bq ∧
 aH cR ⟨t, 1, none⟩ (.slice yh yi Bq) λcX =>
 ∃ t58, ak cX ⟨b, 0, none⟩ = some (.int .i64 t58) ∧
 R (.tuple #[.int .i64 t58, .int .i64 0]) cX)
 (λjo =>
 if (decide (token < 1)) = true then
 jo true aR
 else
 jo (decide (token > 2147483648)) aR))
 (λJ =>
 ∃ t14, ak h ⟨t, 0, none⟩ = some (.bool t14) ∧
 J (!t14) h)) : Cl F.gI #[.pointer (some ⟨t, 0, none⟩), .int .u64 token] h R :=
 aS (.seq .leaf (.seq (.block (.seq (.join [(7, .one (.bool))] .leaf) (.cond (.seq .leaf .leaf) (.seq (.join [(17, .one (.bool))] .leaf) (.cond (.seq .leaf .leaf) (.seq .leaf (.cond (.seq .leaf .leaf) (.seq .leaf (.cond (.seq .leaf .leaf) .leaf))))))))) (.seq .leaf (.seq .leaf (.seq .leaf .leaf))))) Tryz.func12 hv
theorem nP.walk {t : Nat} {num : Int} (hv :
 Cl F.gl #[.pointer (some ⟨t, 0, none⟩), .int .i64 num] h λv aR =>
 ∃ zt zu, v = .tuple #[.pointer zt, .int .i64 zu] ∧
 if (zu != 0) = true then
 R (.int .i64 zu) aR
 else
 aP zt λa =>
 ∃ t21, ak aR (a.add 2) = some (.bool t21) ∧
 if (!t21) = true then
 R (.int .i64 7) aR
 else
 aP zt λkz =>
 aH aR (kz.add 2) (.bool false) λaZ =>
 R (.int .i64 0) aZ) : Cl F.nP #[.pointer (some ⟨t, 0, none⟩), .int .i64 num] h R :=
 aS (.seq .leaf (.seq .leaf (.seq (.block (.seq .leaf (.cond (.seq .leaf .leaf) (.seq .leaf (.cond (.seq .leaf .leaf) .leaf))))) (.seq .leaf (.seq .leaf .leaf))))) Tryz.func73 hv
theorem iU.walk {t:Nat} {num:Int} {id:Int} {hH:bV} {fT hN:Nat} (hv:aV h (.cells #[.U id] T.uint64) λb aR=>Cl F.gl #[.P t 0,.I num] aR λv aZ=> ∃qM rR,v=.tuple #[.pointer qM,.I rR]/\if(rR !=0) then R (.I rR) aZ else aK (λ(t21:Bool) (bK:aj)=>if t21 then R (.I 1) bK else aP qM λa=>L4 bK (a.add 4) λrG pP rH=>Cl F.di #[.slice rG pP rH,.func (.func F.dK) #[] #[.P b 0]] bK λeK cC=>Vl eK λzA yd zB=>aP qM λkz=>aH cC (kz.add 4) (.slice zA yd zB) λcK=>aP qM λpF=>L4 cK (pF.add 4) λKL Ib Nn=>Hu cK b 0 λt43=>Cl F.cv #[.slice hH fT hN] cK λgS cR=>Vl gS λacN WD acO=>ak cR (AA b 0)=some (.U t43)/\ak cR (pF.add 4)=some (.slice KL Ib Nn)/\aV cR (.cells #[.U t43,.slice acN WD acO] T.bG) λcE cX=>ak cX (AA b 0)=some (.U t43)/\ak cX (pF.add 4)=some (.slice KL Ib Nn)/\aX Tryz.prog (Builtin.append_ #[T.iw,T.iw] T.iw #[.slice KL Ib Nn,.slice (some (AA cE 0)) 1 1]) cX λkV dB=>Vl kV λD9 Ea FI=>ak dB (AA b 0)=some (.U t43)/\aP qM λrZ=>aH dB (rZ.add 4) (.slice D9 Ea FI) λff=>aP qM λvT=>L4 ff (vT.add 4) λIc CT KM=>aK (λ(cQ:aj)=>R (.I 0) cQ) (λjo=>if(decide ((CT:Int)>6)) then aP qM λBK=>L4 ff (BK.add 4) λamC ah9 aia=>((0:Int)<=1/\1<=(ah9:Int))/\Cl F.dC #[.slice (da amC aia (toNat 1) 2) (ah9 - (toNat 1)) (aia - (toNat 1))] ff λou cW=>Vl ou λWE acP Np=>aP qM λKo=>aH cW (Ko.add 4) (.slice WE acP Np) λdE=>jo dE else jo ff)) (λJ=> ∃t22,ak aZ (AA b 0)=some (.U t22)/\if(decide (t22>1099511627776)) then J true aZ else J (decide ((fT:Int)>1000)) aZ)):Cl F.iU #[.P t 0,.I num,.U id,.slice hH fT hN] h R:=aS (lq (lq (sq (bq (lq (cq ll (sq (.join [(21,.one (.bool))] lf) (cq ll lf))))) (lq (sq (pN 14) (sq (lq (.join [] (cq lf lf))) ll)))))) Tryz.func46 hv
theorem dK.walk {a_0:Int} {RZ:bV} {R0 R2:Nat} {c0:Nat} (hv:aV h (.cells #[.U a_0,.slice RZ R0 R2] T.bG) λb aR=>Hu aR b 0 λt5=> ∃t6,ak aR (AA c0 0)=some (.U t6)/\R (.bool (t5==t6)) aR):Cl F.dK #[.agg #[.U a_0,.slice RZ R0 R2],.P c0 0] h R:=aS (lq ll) Tryz.func110 hv
theorem kZ.walk {t:Nat} {num:Int} {id:Int} (hv:aV h (.cells #[.U id] T.uint64) λb aR=>Cl F.gl #[.P t 0,.I num] aR λv aZ=> ∃qM rR,v=.tuple #[.pointer qM,.I rR]/\if(rR !=0) then R (.tuple #[.Z,.bool false]) aZ else aP qM λa=>L4 aZ (a.add 4) λFj Fk Cy=>Cl F.bP #[.slice Fj Fk Cy,.func (.func F.gH) #[] #[.P b 0]] aZ λeK bK=> ∃t24,eK=.I t24/\if(decide (t24<0)) then R (.tuple #[.Z,.bool false]) bK else aP qM λkz=>L4 bK (kz.add 4) λpd nK pO=>Bd t24 nK/\aP pd λpF=>L4 bK ((pF.add (toNat t24*2)).add 1) λacQ zN acR=>Cl F.cv #[.slice acQ zN acR] bK λgS cC=> ∃zA yd zB,gS=.slice zA yd zB/\R (.tuple #[.slice zA yd zB,.bool true]) cC):Cl F.kZ #[.P t 0,.I num,.U id] h R:=aS (lq (lq (sq (lq (cq ll lf)) (lq (sq (lq (cq ll lf)) ll))))) Tryz.func42 hv
theorem gH.walk {a_0:Int} {RZ:bV} {R0 R2:Nat} {c0:Nat} (hv:aV h (.cells #[.U a_0,.slice RZ R0 R2] T.bG) λb aR=>Hu aR b 0 λt5=> ∃t6,ak aR (AA c0 0)=some (.U t6)/\R (.bool (t5==t6)) aR):Cl F.gH #[.agg #[.U a_0,.slice RZ R0 R2],.P c0 0] h R:=aS (lq ll) Tryz.func90 hv
theorem kk.walk {t : Nat} {num : Int} {on : Bool} (hv :
 Cl F.gl #[.pointer (some ⟨t, 0, none⟩), .int .i64 num] h λv aR =>
 ∃ CK xj, v = .tuple #[.pointer CK, .int .i64 xj] ∧
 aK (fun (aZ : aj) =>
 R (.int .i64 xj) aZ)
 (λJ =>
 if (xj == 0) = true then
 aP CK λa =>
 aH aR (a.add 3) (.bool on) λbK =>
 J bK
 else
 J aR)) : Cl F.kk #[.pointer (some ⟨t, 0, none⟩), .int .i64 num, .bool on] h R :=
 aS (.seq .leaf (.seq .leaf (.seq (.seq .leaf (.join [] (.cond .leaf .leaf))) (.seq .leaf .leaf)))) Tryz.func166 hv
theorem lh.walk {t:Nat} {num:Int} (hv:Cl F.gl #[.P t 0,.I num] h λv aR=> ∃qM rR,v=.tuple #[.pointer qM,.I rR]/\aK (λ(n:Int) (aZ:aj)=>if(n==0) then R (.tuple #[.Z,.I 0,.I rR]) aZ else aP qM λa=>L4 aZ (a.add 5) λpd nK pO=>Bd 0 nK/\aP pd λkz=>L4 aZ (kz.add (toNat 0*1)) λFu Fv Kl=>aP qM λpF=>L4 aZ (pF.add 5) λacS WG WH=>((0:Int)<=1/\1<=(WG:Int))/\Cl F.hZ #[.slice (da acS WH (toNat 1) 1) (WG - (toNat 1)) (WH - (toNat 1))] aZ λeK bK=>Vl eK λot kI oH=>aP qM λrZ=>aH bK (rZ.add 5) (.slice ot kI oH) λcC=>R (.tuple #[.slice Fu Fv Kl,.I n,.I 0]) cC) (λJ=>if(rR==0) then aP qM λvT=> ∃Fj Fk Cy,ak aR (vT.add 5)=some (.slice Fj Fk Cy)/\J (Fk:Int) aR else J 0 aR)):Cl F.lh #[.P t 0,.I num] h R:=aS (lq (lq (lq (sq (lq (.join [(9,.one (.int .i64))] (cq lf lf))) (sq (lq (cq ll lf)) (lq (lq ll))))))) Tryz.func167 hv
theorem di.vW.walk {oD:bV} {mG qK:Nat} {KN:Nat} (hv:Cl F.bP #[.slice oD mG qK,.func (.func F.dK) #[] #[.P KN 0]] h λv aR=> ∃t10,v=.I t10/\if(t10==(-1)) then R (.slice oD mG qK) aR else∃(I:Int->Int->aj->Prop) (mu:Int->Int->aj->Nat),I t10 (wrap .i64 (t10+1)) aR/\∀(i:Int) (j:Int) (aZ:aj),I i j aZ->if(decide (j<(mG:Int))) then aK (λ(sM:Int) (bK:aj)=>(I sM (wrap .i64 (j+1)) bK/\mu sM (wrap .i64 (j+1)) bK<mu i j aZ)) (λJ=>Bd j mG/\aP oD λa=>bG.LD aZ (a.add (toNat j*2)) λKO afP afQ afR=>aV aZ (.cells #[.U 0,.Z] T.bG) λb cC=>bG.ST cC (AA b 0) KO afP afQ afR λcK=>bG.LD cK (AA b 0) λBw afS afT afU=>Cl F.dK #[.agg #[.U Bw,.slice afS afT afU],.P KN 0] cK λeK cR=>Vb eK λt28=>aK (λ(i_2:Int) (cX:aj)=>J i_2 cX) (λjo=>if(!t28) then bG.LD cR (AA b 0) λab8 afV afW afX=>Bd i mG/\aP oD λkz=>bG.ST cR (kz.add (toNat i*2)) ab8 afV afW afX λdB=>jo (wrap .i64 (i+1)) dB else jo i cR)) else((0:Int)<=i/\i<=(mG:Int))/\aX Tryz.prog (Builtin.clear_ #[T.iw] T.J0 #[.slice (da oD qK (toNat i) 2) (mG - (toNat i)) (qK - (toNat i))]) aZ λgS ff=>gS=.tuple #[]/\((0:Int)<=i/\i<=(qK:Int))/\R (.slice (da oD qK 0 2) ((toNat i) - 0) (qK - 0)) ff):Cl F.di #[.slice oD mG qK,.func (.func F.dK) #[] #[.P KN 0]] h R:=aS (lq (lq (sq (lq (cq ll lf)) (sq (lq (bq (.loop [(5,.one (.int .i64)),(6,.one (.int .i64))] (sq (lq (cq lf lf)) (sq (.join [(5,.one (.int .i64))] (bq (lq (lq (.join [(5,.one (.int .i64))] (cq ll lf)))))) lf))))) (lq ll))))) Tryz.func109 hv
theorem bP.vW.walk {oD:bV} {mG qK:Nat} {RU:Nat} (hv: ∃(I:Int->aj->Prop) (mu:Int->aj->Nat),I 0 h/\∀(t8:Int) (aR:aj),I t8 aR->if(decide (t8<(mG:Int))) then Bd t8 mG/\aP oD λa=>bG.LD aR (a.add (toNat t8*2)) λBv PD PE PF=>Cl F.dK #[.agg #[.U Bv,.slice PD PE PF],.P RU 0] aR λv aZ=> ∃t16,v=.bool t16/\if t16 then R (.I t8) aZ else(I (wrap .i64 (t8+1)) aZ/\mu (wrap .i64 (t8+1)) aZ<mu t8 aR) else R (.I (-1)) aR):Cl F.bP #[.slice oD mG qK,.func (.func F.dK) #[] #[.P RU 0]] h R:=aS (lq (sq (lq (bq (.loop [(8,.one (.int .i64))] (lq (sq (cq lf lf) (sq (bq (lq (lq (cq ll lf)))) lf)))))) ll)) Tryz.func89 hv
theorem bP.kept.walk {oD:bV} {mG qK:Nat} {RU:Nat} (hv: ∃(I:Int->aj->Prop) (mu:Int->aj->Nat),I 0 h/\∀(t8:Int) (aR:aj),I t8 aR->if(decide (t8<(mG:Int))) then Bd t8 mG/\aP oD λa=>bG.LD aR (a.add (toNat t8*2)) λBv PD PE PF=>Cl F.gH #[.agg #[.U Bv,.slice PD PE PF],.P RU 0] aR λv aZ=> ∃t16,v=.bool t16/\if t16 then R (.I t8) aZ else(I (wrap .i64 (t8+1)) aZ/\mu (wrap .i64 (t8+1)) aZ<mu t8 aR) else R (.I (-1)) aR):Cl F.bP #[.slice oD mG qK,.func (.func F.gH) #[] #[.P RU 0]] h R:=aS (lq (sq (lq (bq (.loop [(8,.one (.int .i64))] (lq (sq (cq lf lf) (sq (bq (lq (lq (cq ll lf)))) lf)))))) ll)) Tryz.func89 hv
theorem dC.walk {oD:bV} {mG qK:Nat} (hv:if oD.isNone then R (.Z) h else aV h (.cells #[] T.bG) λb aR=>aX Tryz.prog (Builtin.append_ #[T.iw,T.iw] T.iw #[.slice (some (AA b 0)) 0 0,.slice oD mG qK]) aR λv aZ=> ∃Ez EA EB,v=.slice Ez EA EB/\R (.slice Ez EA EB) aZ):Cl F.dC #[.slice oD mG qK] h R:=aS (lq (sq (lq (cq ll lf)) ll)) Tryz.func111 hv
theorem hZ.walk {oD:bV} {mG qK:Nat} (hv:if oD.isNone then R (.Z) h else aV h (.cells #[] T.du) λb aR=>aX Tryz.prog (Builtin.append_ #[T.zq,T.zq] T.zq #[.slice (some (AA b 0)) 0 0,.slice oD mG qK]) aR λv aZ=> ∃Ez EA EB,v=.slice Ez EA EB/\R (.slice Ez EA EB) aZ):Cl F.hZ #[.slice oD mG qK] h R:=aS (lq (sq (lq (cq ll lf)) ll)) Tryz.func198 hv
end
section
open Go.jH
namespace gU
open vg
variable {h h' h0:aj} {t:Nat} {X:Ft} {R:iI} {p q:bV} {c i:Nat}
structure AV where
 id:Nat
 v:BV
abbrev AV.enc (a:AV):List Value:= [.int .u64 (a.id:Int),a.v.val]
structure SC where
 b:Nat
 num:Nat
 token:Nat
 up:Bool
 watch:Bool
 kept:List AV
 kp:bV
 kc:Nat
 notes:List BV
 np:bV
 nc:Nat
structure gU where
 num:Nat
 token:Nat
 up:Bool
 watch:Bool
 kept:List (Nat×List UInt8)
 notes:List (List UInt8)
def AV.abs (a:AV):Nat×List UInt8:=(a.id,a.v.b)
def SC.abs (s:SC):gU:=⟨s.num,s.token,s.up,s.watch,s.kept.map AV.abs,s.notes.map BV.b⟩
theorem FJ {α:Type} {l:List α} {i:Nat} {v:α} (h:l[i]? =some v):l.set i v=l:=by
 apply im
 intro j;rw[eJ];split
 ·rename_i e;subst e;rw[ag (aG.1 h).1,h]
 ·rfl
abbrev Lab:=Nat->Option Nat
abbrev At (h:aj) (s:SC):Prop:=ij.at h s.b (s.num:Int) (s.token:Int) s.up s.watch s.kp s.kept.length s.kc s.np s.notes.length s.nc
structure KP (h:aj) (fY:Lab) (D:Nat->Prop) (i:Nat) (s:SC):Prop where
 dF:At h s
 lb:fY s.b=some (2+3*i)
 CU:iS h s.kp s.kept.length s.kc 2 (s.kept.flatMap AV.enc)
 kl: ∀c,aQ s.kp c->fY c=some (3+3*i)
 IJ:iS h s.np s.notes.length s.nc 1 (s.notes.flatMap IG)
 nl: ∀c,aQ s.np c->fY c=some (4+3*i)
 kd: ∀a∈s.kept,a.v.ok h D
 nd: ∀n∈s.notes,n.ok h D
structure QP (h:aj) (t:Nat) (fY:Lab) (D:Nat->Prop) (L:List SC):Prop where
 dF: ∃p c,h[t]? =some (.cells #[.bool true,.slice p L.length c] T.w8 (0,0))/\iS h p L.length c 1 (L.map λs=> .pointer (some ⟨s.b,0,none⟩))/\∀x,aQ p x->fY x=some 1
 lt0:fY t=some 0
 ses: ∀i s,L[i]? =some s->KP h fY D i s
 llt: ∀c r,fY c=some r->c<h.size
 RW: ∀c,D c->c<h.size
 ap: ∀c r,fY c=some r->¬D c
def DL (h:aj) (t:Nat) (X:Ft) (A:List gU) (B:List Nat):Prop:=
 ∃fY L,QP h t fY X.D L/\L.map SC.abs=A/\L.map SC.b=B/\∀c,X.M c↔ ∃r,fY c=some r
def Has (h:aj) (t:Nat) (X:Ft) (A:List gU):Prop:= ∃B,DL h t X A B
variable {fY : Lab} {D : Nat → Prop} {L : List SC} {A : List gU}
theorem KP.frame {Q:Nat->Prop} {s:SC} (H:KP h fY D i s) (f:Fr Q h h') (hq: ∀c r,fY c=some r->2+3*i<=r->r<=4+3*i->¬Q c) (hd: ∀c,D c->¬Q c):KP h' fY D i s:=
 ⟨f.get H.dF (hq _ _ H.lb (by omega) (by omega)),H.lb,H.CU.frame f (λc hc=>hq c _ (H.kl c hc) (by omega) (by omega)),H.kl,H.IJ.frame f (λc hc=>hq c _ (H.nl c hc) (by omega) (by omega)),H.nl,λa ha=>(H.kd a ha).frame f hd,λn hn=>(H.nd n hn).frame f hd⟩
theorem KP.mono {ku:Lab} {D':Nat->Prop} {s:SC} (H:KP h fY D i s) (hl: ∀c r,fY c=some r->ku c=some r) (hd: ∀c,D c->D' c):KP h ku D' i s:=
 ⟨H.dF,hl _ _ H.lb,H.CU,λc hc=>hl c _ (H.kl c hc),H.IJ,λc hc=>hl c _ (H.nl c hc),λa ha=>(H.kd a ha).mono hd,λn hn=>(H.nd n hn).mono hd⟩
theorem DL.lt {B:List Nat} (H:DL h t X A B): ∀x,X.M x\/X.D x->x<h.size:=by
 obtain⟨fY,L,T,_,_,hS⟩:=H;rintro x (hx|hd)
 ·obtain⟨r,hr⟩:=(hS x).1 hx;exact T.llt x r hr
 ·exact T.RW x hd
theorem DL.GL {B:List Nat} (H:DL h t X A B): ∀x,X.M x->¬X.D x:=by
 obtain⟨fY,L,T,_,_,hS⟩:=H;intro x hx;obtain⟨r,hr⟩:=(hS x).1 hx;exact T.ap x r hr
theorem DL.frame {B:List Nat} {Q:Nat->Prop} (H:DL h t X A B) (f:Fr Q h h') (hq: ∀x,X.M x\/X.D x->¬Q x):DL h' t X A B:=by
 obtain⟨fY,L,T,e,eB,hS⟩:=H;obtain⟨p,c,hb,own,hp⟩:=T.dF;have hl: ∀c r,fY c=some r->¬Q c:=λc r hr=>hq c (.inl ((hS c).2 ⟨r,hr⟩))
 refine⟨fY,L,⟨⟨p,c,f.get hb (hl t _ T.lt0),own.frame f (λx hx=>hl x _ (hp x hx)),hp⟩,T.lt0,λi s hs=>(T.ses i s hs).frame f (λc r hr _ _=>hl c r hr) (λc hd=>hq c (.inr hd)),?_,?_,T.ap⟩,e,eB,hS⟩
 ·intro c r hr;exact cT (T.llt c r hr) f.1
 ·intro c hd;exact cT (T.RW c hd) f.1
theorem Has.lt (H:Has h t X A): ∀x,X.M x\/X.D x->x<h.size:=by obtain⟨B,H⟩:=H;exact H.lt
theorem Has.GL (H:Has h t X A): ∀x,X.M x->¬X.D x:=by obtain⟨B,H⟩:=H;exact H.GL
theorem Has.frame {Q:Nat->Prop} (H:Has h t X A) (f:Fr Q h h') (hq: ∀x,X.M x\/X.D x->¬Q x):Has h' t X A:=by obtain⟨B,H⟩:=H;exact⟨B,H.frame f hq⟩
open Classical in
theorem QP.amD {s s':SC} {Q E:Nat->Prop} (T:QP h t fY X.D L) (hS: ∀c,X.M c↔ ∃r,fY c=some r) (hs:L[i]? =some s) (hb:s'.b=s.b) (f:Fr Q h h') (hq: ∀c,Q c->∃r,fY c=some r/\2+3*i<=r/\r<=4+3*i)
  (dF:At h' s') (CU:iS h' s'.kp s'.kept.length s'.kc 2 (s'.kept.flatMap AV.enc)) (kn: ∀c,aQ s'.kp c->fY c=some (3+3*i)\/h.size<=c)
  (IJ:iS h' s'.np s'.notes.length s'.nc 1 (s'.notes.flatMap IG)) (nn: ∀c,aQ s'.np c->fY c=some (4+3*i)\/h.size<=c) (kn': ∀c,aQ s'.kp c->aQ s'.np c->False)
  (hE: ∀c,E c->fY c=none/\c<h'.size/\¬aQ s'.kp c/\¬aQ s'.np c) (kd: ∀a∈s'.kept,a.v.ok h' (λc=>X.D c\/E c)) (nd: ∀n∈s'.notes,n.ok h' (λc=>X.D c\/E c)):
  ∃X',DL h' t X' ((L.map SC.abs).set i s'.abs) (L.map SC.b)/\Fr X.M h h'/\(∀c,X'.M c->X.M c\/h.size<=c)/\(∀c,X'.D c->X.D c\/E c)/\∀c,X.D c->X'.D c:=by
 let ku:Lab:=λc=>if h.size<=c/\aQ s'.kp c then some (3+3*i) else if h.size<=c/\aQ s'.np c then some (4+3*i) else fY c
 have I9: ∀c r,fY c=some r->ku c=some r:=λc r hr=>by
  have:=T.llt c r hr;show(if h.size<=c/\aQ s'.kp c then some (3+3*i) else if h.size<=c/\aQ s'.np c then some (4+3*i) else fY c)=some r;rw[ai (λhh=>by omega),ai (λhh=>by omega)];exact hr
 have new: ∀c r,ku c=some r->fY c=some r\/(h.size<=c/\(aQ s'.kp c\/aQ s'.np c)):=λc r hr=>by
  have hr:(if h.size<=c/\aQ s'.kp c then some (3+3*i) else if h.size<=c/\aQ s'.np c then some (4+3*i) else fY c)=some r:=hr;split at hr
  ·rename_i hh;exact .inr ⟨hh.1,.inl hh.2⟩
  ·split at hr
   ·rename_i hh;exact .inr ⟨hh.1,.inr hh.2⟩
   ·exact .inl hr
 have nb: ∀c,aQ s'.kp c\/aQ s'.np c->c<h'.size:=λc hc=>hc.elim (λhc=>CU.gn hc) (λhc=>IJ.gn hc)
 have hd: ∀c,X.D c->¬Q c:=λc hc hx=>by obtain⟨r,hr,_⟩:=hq c hx;exact T.ap c r hr hc
 obtain⟨p,c0,hbt,own,hp⟩:=T.dF;have MK:i<L.length:=(aG.1 hs).1;have nQ0: ¬Q t:=λhx=>by obtain⟨r,hr,h1,h2⟩:=hq t hx;rw[T.lt0] at hr;cases hr;omega
 have nQ1: ∀x,aQ p x->¬Q x:=λx hx hq'=>by obtain⟨r,hr,h1,h2⟩:=hq x hq';rw[hp x hx] at hr;cases hr;omega
 have aqi:(L.set i s').map (λs=>Value.P s.b 0)=L.map (λs=>Value.P s.b 0):=by
  rw[List.map_set,hb];exact FJ (by rw[aO,hs];rfl)
 have aqj:(L.set i s').map SC.b=L.map SC.b:=by
  rw[List.map_set,hb];exact FJ (by rw[aO,hs];rfl)
 refine⟨⟨λc=> ∃r,ku c=some r,λc=>X.D c\/E c⟩,⟨ku,L.set i s',⟨⟨p,c0,?_,?_,λx hx=>I9 x _ (hp x hx)⟩,I9 t 0 T.lt0,?_,?_,?_,?_⟩,?_,aqj,λc=>fZ⟩,?_,?_,λc h=>h,λc=> .inl⟩
 ·rw[eX];exact f.get hbt nQ0
 ·rw[aqi,eX];exact own.frame f nQ1
 ·intro j sj hj;rw[eJ] at hj;by_cases e:i=j
  ·subst e;rw[ag rfl,ag MK] at hj;obtain rfl:=bz hj;refine⟨dF,?_,CU,λc hc=> ?_,IJ,λc hc=> ?_,kd,nd⟩
   ·rw[hb];exact I9 _ _ (T.ses i s hs).lb
   ·show(if h.size<=c/\aQ s'.kp c then some (3+3*i) else if h.size<=c/\aQ s'.np c then some (4+3*i) else fY c)=_;rcases kn c hc with h1|h1
    ·have:=T.llt c _ h1;rw[ai (λhh=>by omega),ai (λhh=>by omega)];exact h1
    ·rw[ag ⟨h1,hc⟩]
   ·show(if h.size<=c/\aQ s'.kp c then some (3+3*i) else if h.size<=c/\aQ s'.np c then some (4+3*i) else fY c)=_;rw[ai (λhh=>kn' c hh.2 hc)];rcases nn c hc with h1|h1
    ·have:=T.llt c _ h1;rw[ai (λhh=>by omega)];exact h1
    ·rw[ag ⟨h1,hc⟩]
  ·rw[ai e] at hj;refine((T.ses j sj hj).frame f (λc r hr h1 h2 hx=> ?_) hd).mono I9 (λc=> .inl);obtain⟨r',gB,h3,h4⟩:=hq c hx;rw[hr] at gB;cases gB;omega
 ·intro c r hr;rcases new c r hr with h1|⟨_,h1⟩
  ·exact cT (T.llt c r h1) f.1
  ·exact nb c h1
 ·rintro c (h1|h1)
  ·exact cT (T.RW c h1) f.1
  ·exact(hE c h1).2.1
 ·rintro c r hr (h1|h1)
  ·rcases new c r hr with h2|⟨h2,_⟩
   ·exact T.ap c r h2 h1
   ·have:=T.RW c h1;omega
  ·rcases new c r hr with h2|⟨_,h2⟩
   ·rw[(hE c h1).1] at h2;cases h2
   ·exact h2.elim (hE c h1).2.2.1 (hE c h1).2.2.2
 ·rw[List.map_set]
 ·exact f.mono (λc _ hx=>by obtain⟨r,hr,_⟩:=hq c hx;exact(hS c).2 ⟨r,hr⟩)
 ·rintro c ⟨r,hr⟩;rcases new c r hr with h2|⟨h2,_⟩
  ·exact .inl ((hS c).2 ⟨r,h2⟩)
  ·exact .inr h2
theorem QP.upd {s s':SC} {Q E:Nat->Prop} (T:QP h t fY X.D L) (hS: ∀c,X.M c↔ ∃r,fY c=some r) (hs:L[i]? =some s) (hb:s'.b=s.b) (f:Fr Q h h') (hq: ∀c,Q c->∃r,fY c=some r/\2+3*i<=r/\r<=4+3*i)
  (dF:At h' s') (CU:iS h' s'.kp s'.kept.length s'.kc 2 (s'.kept.flatMap AV.enc)) (kn: ∀c,aQ s'.kp c->fY c=some (3+3*i)\/h.size<=c)
  (IJ:iS h' s'.np s'.notes.length s'.nc 1 (s'.notes.flatMap IG)) (nn: ∀c,aQ s'.np c->fY c=some (4+3*i)\/h.size<=c) (kn': ∀c,aQ s'.kp c->aQ s'.np c->False)
  (hE: ∀c,E c->h.size<=c/\c<h'.size/\¬aQ s'.kp c/\¬aQ s'.np c) (kd: ∀a∈s'.kept,a.v.ok h' (λc=>X.D c\/E c)) (nd: ∀n∈s'.notes,n.ok h' (λc=>X.D c\/E c)):
  ∃X',DL h' t X' ((L.map SC.abs).set i s'.abs) (L.map SC.b)/\bN X h X' h':=by
 obtain⟨X',H',f',m',d',o'⟩:=T.amD (Q:=Q) (E:=E) hS hs hb f hq dF CU kn IJ nn kn' (λc hc=>⟨by
  cases hl:fY c with
  |none=>rfl
  |some r=>have:=T.llt c r hl;have:=(hE c hc).1;omega,(hE c hc).2⟩) kd nd
 exact⟨X',H',f',m',λc hc=>(d' c hc).imp (λh=>h) (λh=>(hE c h).1),o'⟩
theorem QP.flag {s s':SC} (T:QP h t fY X.D L) (hS: ∀c,X.M c↔ ∃r,fY c=some r) (hs:L[i]? =some s) (hb:s'.b=s.b) (hk:s'.kept=s.kept/\s'.kp=s.kp/\s'.kc=s.kc) (hn:s'.notes=s.notes/\s'.np=s.np/\s'.nc=s.nc)
  (dF:At h' s') (JB:h'.size=h.size) (ho: ∀x,x≠s.b->h'[x]? =h[x]?): ∃X',DL h' t X' ((L.map SC.abs).set i s'.abs) (L.map SC.b)/\bN X h X' h':=by
 have H:=T.ses i s hs;have f:Fr (λx=>x=s.b) h h':=Fr.of_eq JB ho;have nk: ∀c,aQ s.kp c->¬c=s.b:=λc hc e=>by have h1:=H.kl c hc;rw[e,H.lb] at h1;simp at h1
 have nn: ∀c,aQ s.np c->¬c=s.b:=λc hc e=>by have h1:=H.nl c hc;rw[e,H.lb] at h1;simp at h1
 have nD: ∀c,X.D c->¬c=s.b:=λc hc e=>T.ap c _ (e▸H.lb) hc
 refine T.upd (Q:=λx=>x=s.b) (E:=λ_=>False) hS hs hb f (λc e=>⟨_,e▸H.lb,by omega,by omega⟩) dF ?_ ?_ ?_ ?_ ?_ (λc hc=>hc.elim) ?_ ?_
 ·rw[hk.1,hk.2.1,hk.2.2];exact H.CU.frame f nk
 ·rw[hk.2.1];exact λc hc=> .inl (H.kl c hc)
 ·rw[hn.1,hn.2.1,hn.2.2];exact H.IJ.frame f nn
 ·rw[hn.2.1];exact λc hc=> .inl (H.nl c hc)
 ·rw[hk.2.1,hn.2.1];exact λc h1 h2=>by have a:=H.kl c h1;have b:=H.nl c h2;rw[a] at b;simp at b
 ·rw[hk.1];exact λa ha=>((H.kd a ha).frame f nD).mono (λc=> .inl)
 ·rw[hn.1];exact λn hn=>((H.nd n hn).frame f nD).mono (λc=> .inl)
open Classical in
theorem QP.add {s:SC} {p:bV} {c0:Nat} {Q:Nat->Prop} (TB:QP h t fY X.D L) (hS: ∀c,X.M c↔ ∃r,fY c=some r) (f:Fr Q h h') (hq: ∀c,Q c->fY c=some 0\/fY c=some 1)
  (hbt:h'[t]? =some (.cells #[.bool true,.slice p (L.length+1) c0] T.w8 (0,0))) (own:iS h' p (L.length+1) c0 1 (L.map (λs=> .P s.b 0)++ [.P s.b 0]))
  (hp: ∀x,aQ p x->fY x=some 1\/h.size<=x) (hpb: ¬aQ p s.b) (dF:At h' s) (hsb:h.size<=s.b) (hk:s.kept= []/\s.kp=none/\s.kc=0) (hn:s.notes= []/\s.np=none/\s.nc=0):
  ∃X',DL h' t X' (L.map SC.abs++ [s.abs]) (L.map SC.b++ [s.b])/\bN X h X' h':=by
 have hsl:=aI dF
 let ku:Lab:=λc=>if c=s.b then some (2+3*L.length) else if h.size<=c/\aQ p c then some 1 else fY c
 have I9: ∀c r,fY c=some r->ku c=some r:=λc r hr=>by
  have:=TB.llt c r hr;show(if c=s.b then some (2+3*L.length) else if h.size<=c/\aQ p c then some 1 else fY c)=some r;rw[ai (λhh=>by omega),ai (λhh=>by omega)];exact hr
 have new: ∀c r,ku c=some r->fY c=some r\/(h.size<=c/\(c=s.b\/aQ p c)):=λc r hr=>by
  have hr:(if c=s.b then some (2+3*L.length) else if h.size<=c/\aQ p c then some 1 else fY c)=some r:=hr;split at hr
  ·rename_i hh;exact .inr ⟨by omega,.inl hh⟩
  ·split at hr
   ·rename_i hh;exact .inr ⟨hh.1,.inr hh.2⟩
   ·exact .inl hr
 have hd: ∀c,X.D c->¬Q c:=λc hc hx=>(hq c hx).elim (λh1=>TB.ap c _ h1 hc) (λh1=>TB.ap c _ h1 hc)
 refine⟨⟨λc=> ∃r,ku c=some r,X.D⟩,⟨ku,L++ [s],⟨⟨p,c0,?_,?_,?_⟩,I9 t 0 TB.lt0,?_,?_,?_,?_⟩,?_,by rw[bm];rfl,λc=>fZ⟩,?_,?_,λc=> .inl,λc=>id⟩
 ·rw[aF];exact hbt
 ·rw[aF,bm];exact own
 ·intro x hx;show(if x=s.b then some (2+3*L.length) else if h.size<=x/\aQ p x then some 1 else fY x)=some 1;rw[ai (λe:x=s.b=>hpb (e▸hx))];rcases hp x hx with h1|h1
  ·have:=TB.llt x _ h1;rw[ai (λhh=>by omega)];exact h1
  ·rw[ag ⟨h1,hx⟩]
 ·intro j sj hj;by_cases e:j<L.length
  ·rw[dy e] at hj;refine((TB.ses j sj hj).frame f (λc r hr h1 h2 hx=> ?_) hd).mono I9 (λc h=>h);rcases hq c hx with h3|h3
   ·rw[hr] at h3;cases h3;omega
   ·rw[hr] at h3;cases h3;omega
  ·rw[dq (by omega)] at hj;have e2:j=L.length:=by
    have:=(aG.1 hj).1;simp at this;omega
   subst e2;simp at hj;subst hj;refine⟨dF,?_,?_,?_,?_,?_,?_,?_⟩
   ·show(if s.b=s.b then some (2+3*L.length) else _)=_;rw[ag rfl]
   ·rw[hk.1,hk.2.1,hk.2.2];exact .nil rfl rfl rfl rfl
   ·rw[hk.2.1];rintro c ⟨a,e,_⟩;cases e
   ·rw[hn.1,hn.2.1,hn.2.2];exact .nil rfl rfl rfl rfl
   ·rw[hn.2.1];rintro c ⟨a,e,_⟩;cases e
   ·rw[hk.1];intro a ha;cases ha
   ·rw[hn.1];intro a ha;cases ha
 ·intro c r hr;rcases new c r hr with h1|⟨_,h1|h1⟩
  ·exact cT (TB.llt c r h1) f.1
  ·omega
  ·exact own.gn h1
 ·intro c h1;exact cT (TB.RW c h1) f.1
 ·intro c r hr h1;rcases new c r hr with h2|⟨h2,_⟩
  ·exact TB.ap c r h2 h1
  ·have:=TB.RW c h1;omega
 ·rw[bm];rfl
 ·exact f.mono (λc _ hx=>(hS c).2 ((hq c hx).elim (λh1=>⟨_,h1⟩) (λh1=>⟨_,h1⟩)))
 ·rintro c ⟨r,hr⟩;rcases new c r hr with h2|⟨h2,_⟩
  ·exact .inl ((hS c).2 ⟨r,h2⟩)
  ·exact .inr h2
theorem tA:Ap Tryz.prog T.iw T.bG 2 32 (.agg #[.U 0,.Z]):=⟨by kernel_rfl,by kernel_rfl,rfl⟩
theorem uA:Tryz.prog.underlying T.iw=some (.slice T.bG):=by kernel_rfl
theorem lj (a:AV):a.enc.length=2:=rfl
theorem acT (xs:List AV): ∀v∈xs.flatMap AV.enc,jg v=true:=by
 intro v hv;obtain⟨a,_,ha⟩:=List.mem_flatMap.1 hv;simp at ha;rcases ha with rfl|rfl<;>rfl
theorem aaE {xs:List AV} {n m:Nat} (hr:Row h p (xs.flatMap AV.enc)) (hn:n=xs.length) (hl:xs.length<=1000000000)
  (hk: ∀p' c' h',iS h' p' xs.length c' 2 (xs.flatMap AV.enc)->Fr No h h'->(∀x,aQ p' x->h.size<=x)->R (.slice p' xs.length c') h'):
  Cl F.dC #[.slice p n m] h R:=by
 subst hn;refine dC.walk ?_;cases p with
 |none=>
  have:xs= []:=by
   rcases hr with hr|⟨a,e,_⟩
   ·cases xs with
    |nil=>rfl
    |cons b bs=>cases hr
   ·cases e
  subst this;exact hk none 0 h (.nil rfl rfl rfl rfl) (Fr.refl _ _) (λx ⟨a,e,_⟩=>by cases e)
 |some a=>
  simp only[Option.isNone_some,aA,aU];exact GA tA uA hr (gW AV.enc 2 lj xs) (acT xs) (by omega) (by omega) λp' c' h' o f g=>⟨_,_,_,rfl,hk p' c' h' o f g⟩
theorem aaF {xs:List BV} {n m:Nat} (hr:Row h p (xs.flatMap IG)) (hn:n=xs.length) (hl:xs.length<=1000000000)
  (hk: ∀p' c' h',iS h' p' xs.length c' 1 (xs.flatMap IG)->Fr No h h'->(∀x,aQ p' x->h.size<=x)->R (.slice p' xs.length c') h'):
  Cl F.hZ #[.slice p n m] h R:=by
 subst hn;refine hZ.walk ?_;cases p with
 |none=>
  have:xs= []:=by
   rcases hr with hr|⟨a,e,_⟩
   ·cases xs with
    |nil=>rfl
    |cons b bs=>cases hr
   ·cases e
  subst this;exact hk none 0 h (.nil rfl rfl rfl rfl) (Fr.refl _ _) (λx ⟨a,e,_⟩=>by cases e)
 |some a=>
  simp only[Option.isNone_some,aA,aU];exact GA tN uN hr (gW IG 1 Fq xs) (acn xs) (by omega) (by omega) λp' c' h' o f g=>⟨_,_,_,rfl,hk p' c' h' o f g⟩
abbrev CW (h:aj) (b:Nat) (id:Nat):Prop:=h[b]? =some (.cells #[.int .u64 (id:Int)] T.uint64 (0,0))
def IK (xs:List AV) (id:Nat):Int:=match xs.findIdx? (λa=>decide (a.id=id)) with|some k=>(k:Int)|none=> -1
theorem R3 {b id:Nat} (a:AV) (hid:CW h b id) (hk: ∀h',Fr No h h'->R (.bool (decide (a.id=id))) h'):Cl F.dK #[.agg #[.U (a.id:Int),a.v.val],.P b 0] h R:=by
 refine dK.walk (bG.box λb1 h1 eb hb f1=>⟨_,af hb rfl,_,af (f1.get hid (λx=>x)) rfl,?_⟩);have e:((a.id:Int)==(id:Int))=decide (a.id=id):=by
  by_cases q:a.id=id
  ·simp[q]
  ·have: ¬(a.id:Int)=(id:Int):=by omega
   simp[q,this]
 rw[e];exact hk h1 f1
theorem UM {xs:List AV} {n m b id:Nat} (hr:Row h p (xs.flatMap AV.enc)) (hn:n=xs.length) (hl:xs.length<=1000000000) (hid:CW h b id) (hk: ∀h',Fr No h h'->R (.I (IK xs id)) h'):
  Cl F.bP #[.slice p n m,.func (.func F.dK) #[] #[.P b 0]] h R:=by
 subst hn;refine bP.vW.walk ?_;refine⟨λi h'=>Fr No h h'/\∃k:Nat,i=(k:Int)/\k<=xs.length/\∀j (hj:j<xs.length),j<k->xs[j].id≠id,λi _=>xs.length - i.toNat,⟨Fr.refl _ _,0,rfl,by omega,λj _ hj=>by omega⟩,?_⟩;rintro _ h1 ⟨f1,k,rfl,hkn,kA⟩;have pL:=hr.frame f1 (λ_ _ x=>x);have PC:CW h1 b id:=f1.get hid (λx=>x);by_cases jc:k<xs.length
 ·have q1:(k:Int)<(xs.length:Int):=by omega
  simp only[q1,decide_true,bA,aL];have hx:xs[k]? =some xs[k]:=au jc;obtain⟨a,rfl⟩:=pL.some (λe=>by have:=bp List.length e;rw[gW AV.enc 2 lj,bD] at this;omega);refine⟨⟨by omega,by first|trivial|omega⟩,aB.2 (bG.TL (pL.lu lj hx) ?_)⟩;refine R3 xs[k] PC λh2 f2=>⟨_,rfl,?_⟩
  by_cases e:xs[k].id=id
  ·simp only[e,decide_true,bA];have:IK xs id=(k:Int):=by
    unfold IK;have:xs.findIdx? (λa=>decide (a.id=id))=some k:=by
     rw[cP];exact⟨jc,by simpa using e,λj hj=>by simpa using kA j (by omega) hj⟩
    rw[this]
   rw[this] at hk;exact hk h2 (f1.tt f2)
  ·simp only[e,decide_false,aA,aU];rw[bL (by omega) (by omega)];refine⟨⟨f1.tt f2,k+1,by omega,by omega,λj hj hjk=> ?_⟩,?_⟩
   ·by_cases q:j=k
    ·subst q;exact e
    ·exact kA j hj (by omega)
   ·show xs.length - Int.toNat ((k:Int)+1)<xs.length - Int.toNat (k:Int);omega
 ·have q1: ¬(k:Int)<(xs.length:Int):=by omega
  simp only[q1,decide_false,aA,aU];have:IK xs id= -1:=by
   unfold IK;have:xs.findIdx? (λa=>decide (a.id=id))=none:=by
    rw[dL];intro a ha;obtain⟨j,hj⟩:=bH ha;have Cg:=(aG.1 hj).1;rw[au Cg] at hj;obtain rfl:=bz hj;simpa using kA j Cg (by omega)
   rw[this]
  rw[this] at hk;exact hk h1 f1
theorem acU {b id:Nat} (a:AV) (hid:CW h b id) (hk: ∀h',Fr No h h'->R (.bool (decide (a.id=id))) h'):Cl F.gH #[.agg #[.U (a.id:Int),a.v.val],.P b 0] h R:=by
 refine gH.walk (bG.box λb1 h1 eb hb f1=>⟨_,af hb rfl,_,af (f1.get hid (λx=>x)) rfl,?_⟩);have e:((a.id:Int)==(id:Int))=decide (a.id=id):=by
  by_cases q:a.id=id
  ·simp[q]
  ·have: ¬(a.id:Int)=(id:Int):=by omega
   simp[q,this]
 rw[e];exact hk h1 f1
theorem UN {xs:List AV} {n m b id:Nat} (hr:Row h p (xs.flatMap AV.enc)) (hn:n=xs.length) (hl:xs.length<=1000000000) (hid:CW h b id) (hk: ∀h',Fr No h h'->R (.I (IK xs id)) h'):
  Cl F.bP #[.slice p n m,.func (.func F.gH) #[] #[.P b 0]] h R:=by
 subst hn;refine bP.kept.walk ?_;refine⟨λi h'=>Fr No h h'/\∃k:Nat,i=(k:Int)/\k<=xs.length/\∀j (hj:j<xs.length),j<k->xs[j].id≠id,λi _=>xs.length - i.toNat,⟨Fr.refl _ _,0,rfl,by omega,λj _ hj=>by omega⟩,?_⟩;rintro _ h1 ⟨f1,k,rfl,hkn,kA⟩;have pL:=hr.frame f1 (λ_ _ x=>x);have PC:CW h1 b id:=f1.get hid (λx=>x);by_cases jc:k<xs.length
 ·have q1:(k:Int)<(xs.length:Int):=by omega
  simp only[q1,decide_true,bA,aL];have hx:xs[k]? =some xs[k]:=au jc;obtain⟨a,rfl⟩:=pL.some (λe=>by have:=bp List.length e;rw[gW AV.enc 2 lj,bD] at this;omega);refine⟨⟨by omega,by first|trivial|omega⟩,aB.2 (bG.TL (pL.lu lj hx) ?_)⟩;refine acU xs[k] PC λh2 f2=>⟨_,rfl,?_⟩
  by_cases e:xs[k].id=id
  ·simp only[e,decide_true,bA];have:IK xs id=(k:Int):=by
    unfold IK;have:xs.findIdx? (λa=>decide (a.id=id))=some k:=by
     rw[cP];exact⟨jc,by simpa using e,λj hj=>by simpa using kA j (by omega) hj⟩
    rw[this]
   rw[this] at hk;exact hk h2 (f1.tt f2)
  ·simp only[e,decide_false,aA,aU];rw[bL (by omega) (by omega)];refine⟨⟨f1.tt f2,k+1,by omega,by omega,λj hj hjk=> ?_⟩,?_⟩
   ·by_cases q:j=k
    ·subst q;exact e
    ·exact kA j hj (by omega)
   ·show xs.length - Int.toNat ((k:Int)+1)<xs.length - Int.toNat (k:Int);omega
 ·have q1: ¬(k:Int)<(xs.length:Int):=by omega
  simp only[q1,decide_false,aA,aU];have:IK xs id= -1:=by
   unfold IK;have:xs.findIdx? (λa=>decide (a.id=id))=none:=by
    rw[dL];intro a ha;obtain⟨j,hj⟩:=bH ha;have Cg:=(aG.1 hj).1;rw[au Cg] at hj;obtain rfl:=bz hj;simpa using kA j Cg (by omega)
   rw[this]
  rw[this] at hk;exact hk h1 f1
def CO (h0:aj) (p:bV) (cap b id:Nat) (xs:List AV) (i j:Int) (h:aj):Prop:=
 ∃(a k:Nat) (zs:List AV),i=(a:Int)/\j=(k:Int)/\a<k/\k<=xs.length/\zs.length=xs.length/\zs.take a=(xs.take k).filter (λx=>decide (x.id≠id))/\zs.drop k=xs.drop k/\iS h p xs.length cap 2 (zs.flatMap AV.enc)/\Fr (aQ p) h0 h/\CW h b id
theorem UO {xs:List AV} {cap b id n:Nat} (own:iS h p xs.length cap 2 (xs.flatMap AV.enc)) (hn:n=xs.length) (hl:xs.length<=1000000000) (hid:CW h b id) (hb: ¬aQ p b)
  (hk: ∀h',iS h' p (xs.filter (λx=>decide (x.id≠id))).length cap 2 ((xs.filter (λx=>decide (x.id≠id))).flatMap AV.enc)->Fr (aQ p) h h'->CW h' b id->R (.slice p (xs.filter (λx=>decide (x.id≠id))).length cap) h'):
  Cl F.di #[.slice p n cap,.func (.func F.dK) #[] #[.P b 0]] h R:=by
 subst hn;refine di.vW.walk (UM own.qa rfl hl hid λh1 f1=>⟨_,rfl,?_⟩);have aaG:=own.frame f1 (λ_ _ x=>x);have PC:CW h1 b id:=f1.get hid (λx=>x);have F1:Fr (aQ p) h h1:=f1.mono (λ_ _=>False.elim);unfold IK;cases hf:xs.findIdx? (λa=>decide (a.id=id)) with
 |none=>
  rw[ag (by rfl)];have kA:xs.filter (λx=>decide (x.id≠id))=xs:=by
   rw[cI];intro a ha;have:=dL.1 hf a ha;simpa using this
  rw[kA] at hk;exact hk h1 aaG F1 PC
 |some k=>
  dsimp only;rw[ai (by simp only[dA];omega)];obtain⟨hkl,hke,hkb⟩:=cP.1 hf;rw[bL (by omega) (by omega)];have amE:(xs.take (k+1)).filter (λx=>decide (x.id≠id))=xs.take k:=by
   rw[bZ,au hkl,iE];have e1:(xs.take k).filter (λx=>decide (x.id≠id))=xs.take k:=by
    rw[cI];intro a ha;obtain⟨j,hj⟩:=bH ha;rw[dt] at hj;split at hj
    ·rename_i hjk;have Cg:j<xs.length:=by omega
     rw[au Cg] at hj;obtain rfl:=bz hj;simpa using hkb j hjk
    ·cases hj
   have e2: [xs[k]].filter (λx=>decide (x.id≠id))= []:=by
    simp at hke;simp[hke]
   rw[e1];show xs.take k++ [xs[k]].filter (λx=>decide (x.id≠id))=_;rw[e2,List.append_nil]
  refine⟨CO h p cap b id xs,λ_ j _=>xs.length - j.toNat,⟨k,k+1,xs,rfl,by omega,by omega,by omega,rfl,amE.symm,rfl,aaG,F1,PC⟩,?_⟩;clear aaG PC F1 f1 amE hkb hke hkl hf;rintro _ _ h2 ⟨a,j,zs,rfl,rfl,haj,QO,hzl,hz1,hz2,afY,F2,amF⟩;by_cases Cg:j<xs.length
  ·have q1:(j:Int)<(xs.length:Int):=by omega
   simp only[q1,decide_true,bA,aL];have hxj:xs[j]? =some xs[j]:=au Cg;have hzj:zs[j]? =some xs[j]:=by
    have:=bp (·[0]?) hz2;simpa[hxj] using this
   have e3:(xs.take (j+1)).filter (λx=>decide (x.id≠id))=(xs.take j).filter (λx=>decide (x.id≠id))++if xs[j].id=id then [] else [xs[j]]:=by
    rw[bZ,hxj,iE];congr 1
    by_cases e:xs[j].id=id<;>simp[e]
   generalize xs[j]=x at*;obtain⟨ab,AH,rfl⟩:=afY.addr (by omega);refine aK.of λJ hJ=>⟨⟨by omega,by first|trivial|omega⟩,aB.2 (bG.TL (afY.lu lj hzj) (bG.new λb6 h6 eb6 RP f6=>bG.ld RP ?_))⟩
   have amG:CW h6 b id:=f6.get amF (λx=>x);refine R3 x amG λh7 f7=>⟨_,rfl,?_⟩
   have f27:=f6.tt f7;have amH:=afY.frame f27 (λ_ _ x=>x);have amI:CW h7 b id:=f7.get amG (λx=>x);have F7:=F2.on f27;refine aK.of λJ1 pB=> ?_
   subst pB;by_cases e:x.id=id
   ·simp only[e,decide_true,dX,aA,aU];subst hJ;rw[bL (by omega) (by omega)];rw[ag e,List.append_nil] at e3;refine⟨⟨a,j+1,zs,rfl,by omega,by omega,by omega,hzl,by rw[e3];exact hz1,?_,amH,F7,amI⟩,?_⟩
    ·have:=bp (List.drop 1) hz2;rw[List.drop_drop,List.drop_drop] at this;exact this
    ·show xs.length - Int.toNat ((j:Int)+1)<xs.length - Int.toNat (j:Int);omega
   ·simp only[e,decide_false,gM,bA];have hb7:=f7.get RP (λx=>x);rw[ai e] at e3;refine bG.ld hb7 ⟨⟨by omega,by first|trivial|omega⟩,aB.2 ?_⟩;have hal:a<zs.length:=by omega
    have hfl:=gW AV.enc 2 lj zs;refine amH.store (by rw[hfl];omega) λh9 aqk s9 o9=> ?_
    rw[add_add];refine aqk.store (by rw[eX,hfl];omega) λvk aib s10 WI=> ?_
    rw[aae lj hal rfl] at aib;subst hJ;rw[bL (by omega) (by omega),bL (by omega) (by omega)];have f10:Fr (aQ (some (AA ab AH))) h7 vk:=(Fr.of_eq s9 o9).tt (Fr.of_eq s10 WI);refine⟨⟨a+1,j+1,zs.set a x,by omega,by omega,by omega,by omega,by rw[eX];exact hzl,?_,?_,aib,F7.tt f10,f10.get amI hb⟩,?_⟩
    ·rw[e3,<-hz1,bZ,eJ,ag rfl,ag hal,List.take_set_of_le (bh a)];rfl
    ·rw[List.drop_set_of_lt (by omega)];have:=bp (List.drop 1) hz2;rw[List.drop_drop,List.drop_drop] at this;exact this
    ·show xs.length - Int.toNat ((j:Int)+1)<xs.length - Int.toNat (j:Int);omega
  ·have q1: ¬(j:Int)<(xs.length:Int):=by omega
   simp only[q1,decide_false,aA,aU];obtain rfl:j=xs.length:=by omega
   rw[iF] at hz1;have hlen:(xs.filter (λx=>decide (x.id≠id))).length=a:=by rw[<-hz1,bR];omega
   refine⟨⟨by omega,by omega⟩,?_⟩;simp only[aL];refine MJ tA (by intro v hv;simp[Value.cells] at hv;rcases hv with rfl|rfl<;>rfl) afY (by omega) λh3 acV f3=>⟨rfl,⟨by omega,by have:=own.le;omega⟩,?_⟩
   rw[wu AV.enc 2 lj,hz1] at acV;rw[sy,Nat.sub_zero,Nat.sub_zero];rw[hlen] at hk;exact hk h3 acV (F2.tt f3) (f3.get amF hb)
end gU
end
section
namespace gU
structure Gs (i:Nat) (s:gU):Prop where
 num:s.num=i+1
 tk:1<=s.token/\s.token<=2147483648
 kl:s.kept.length<=6
 nl:s.notes.length<=6
 kd: ∀a∈s.kept,a.1<=1099511627776/\a.2.length<=1000
 nd: ∀n∈s.notes,1<=n.length/\n.length<=600
 ki:(s.kept.map (·.1)).Nodup
structure Dx (A:List gU):Prop where
 le:A.length<=8
 at_: ∀i s,A[i]? =some s->Gs i s
 tk:(A.map (·.token)).Nodup
def vo (A:List gU) (num:Int):Option gU:=if 1<=num then A[(num - 1).toNat]? else none
theorem GO {A:List gU} {num:Int} {s:gU} (h:vo A num=some s): ∃i:Nat,num=(i:Int)+1/\A[i]? =some s:=by
 unfold vo at h;split at h
 ·exact⟨(num - 1).toNat,by omega,h⟩
 ·cases h
theorem Dy {A:List gU} {i:Nat} :vo A ((i:Int)+1)=A[i]? :=by
 unfold vo;rw[jy,show((i:Int)+1 - 1).toNat=i by omega]
theorem wA {A:List gU} {num:Int} (h:num<1\/num>(A.length:Int)):vo A num=none:=by
 unfold vo;split
 ·rw[eH (by omega)]
 ·rfl
def yP (A:List gU) (num:Int) (s:gU):List gU:=A.set (num - 1).toNat s
def UP (A:List gU) (num:Int):Bool:=match vo A num with|some s=>s.up|none=>false
def R4 (A:List gU) (token:Nat):Bool:=A.any λs=>decide (s.token=token)
def By (A:List gU) (token:Nat):Int:=if token<1\/token>2147483648 then 1 else if R4 A token=true then 12 else if A.length≥8 then 5 else 0
def aic (A:List gU) (token:Nat):Int:=if By A token=0 then(A.length:Int)+1 else 0
def vp (A:List gU) (token:Nat):List gU:=if By A token=0 then A++ [⟨A.length+1,token,true,false, [], []⟩] else A
def aid (A:List gU) (num:Int):Int:=match vo A num with|none=>4|some s=>if s.up=true then 0 else 7
def aie (A:List gU) (num:Int):List gU:=match vo A num with|none=>A|some s=>if s.up=true then yP A num { s with up:=false } else A
def nL (k:List (Nat×List UInt8)) (id:Nat) (d:List UInt8):List (Nat×List UInt8):=
 if(k.filter (λa=>decide (a.1≠id))++ [(id,d)]).length>6 then(k.filter (λa=>decide (a.1≠id))++ [(id,d)]).drop 1 else k.filter (λa=>decide (a.1≠id))++ [(id,d)]
def acW (A:List gU) (num:Int) (id:Nat) (d:List UInt8):Int:=match vo A num with|none=>4|some _=>if id>1099511627776\/d.length>1000 then 1 else 0
def tJ (A:List gU) (num:Int) (id:Nat) (d:List UInt8):List gU:=match vo A num with|none=>A|some s=>if id>1099511627776\/d.length>1000 then A else yP A num { s with kept:=nL s.kept id d }
def Ie (k:List (Nat×List UInt8)) (id:Nat):Option (List UInt8):=(k.find? (λa=>decide (a.1=id))).map (·.2)
def xp (A:List gU) (num:Int) (id:Nat):Option (List UInt8):=match vo A num with|none=>none|some s=>Ie s.kept id
def GP (A:List gU) (num:Int):Int:=match vo A num with|none=>4|some _=>0
def qT (A:List gU) (num:Int) (on:Bool):List gU:=match vo A num with|none=>A|some s=>yP A num { s with watch:=on }
def acX (A:List gU) (num:Int):Int:=match vo A num with|none=>4|some _=>0
def WJ (A:List gU) (num:Int):Int:=match vo A num with|none=>0|some s=>(s.notes.length:Int)
def Nq (A:List gU) (num:Int):List UInt8:=match vo A num with|none=> []|some s=>s.notes.headD []
def Nr (A:List gU) (num:Int):List gU:=match vo A num with|none=>A|some s=>yP A num { s with notes:=s.notes.drop 1 }
theorem Dx.set {A:List gU} {i:Nat} {s s':gU} (ok:Dx A) (hs:A[i]? =some s) (ht:s'.token=s.token) (h':Gs i s'):Dx (A.set i s'):=by
 have hi:=(aG.1 hs).1;refine⟨by rw[eX];exact ok.le,λj u hj=> ?_,?_⟩
 ·rw[eJ] at hj;by_cases e:i=j
  ·subst e;rw[ag rfl,ag hi] at hj;obtain rfl:=bz hj;exact h'
  ·rw[ai e] at hj;exact ok.at_ j u hj
 ·rw[List.map_set,ht,FJ (by rw[aO,hs];rfl)];exact ok.tk
theorem Dx.yP {A:List gU} {num:Int} {s s':gU} (ok:Dx A) (hs:vo A num=some s) (ht:s'.token=s.token) (h': ∀i,Gs i s->Gs i s'):Dx (yP A num s'):=by
 obtain⟨i,rfl,hi⟩:=GO hs;unfold gU.yP;rw[show((i:Int)+1 - 1).toNat=i by omega];exact ok.set hi ht (h' i (ok.at_ i s hi))
theorem Dx.open {A:List gU} (ok:Dx A) (token:Nat):Dx (vp A token):=by
 unfold vp;split
 ·rename_i he;unfold By at he;split at he
  ·cases he
  rename_i h1;split at he
  ·cases he
  rename_i h2;split at he
  ·cases he
  rename_i h3;refine⟨by rw[aF,fk];omega,λj u hj=> ?_,?_⟩
  ·by_cases e:j<A.length
   ·rw[dy e] at hj;exact ok.at_ j u hj
   ·rw[dq (by omega)] at hj;have e2:j=A.length:=by
     have:=(aG.1 hj).1;simp at this;omega
    subst e2;simp at hj;subst hj;exact⟨rfl,by show 1<=token/\token<=2147483648;omega,by simp,by simp,by simp,by simp,by simp⟩
  ·rw[bm,gi];refine⟨ok.tk,by simp,λa ha b hb e=> ?_⟩;simp at hb;subst hb;subst e;apply h2
   unfold R4;rw[List.any_eq_true];obtain⟨s,hs,e⟩:=bn.1 ha;exact⟨s,hs,by simpa using e⟩
 ·exact ok
theorem acY {k:List (Nat×List UInt8)} {id:Nat} {d:List UInt8} (hk:k.length<=6) (hkd: ∀a∈k,a.1<=1099511627776/\a.2.length<=1000) (Q5:(k.map (·.1)).Nodup) (h1:id<=1099511627776) (h2:d.length<=1000):
  (nL k id d).length<=6/\(∀a∈nL k id d,a.1<=1099511627776/\a.2.length<=1000)/\((nL k id d).map (·.1)).Nodup:=by
 have hlen:(k.filter (λa=>decide (a.1≠id))++ [(id,d)]).length<=7:=by
  have:=cJ (λa=>decide (a.1≠id)) k;rw[aF,fk];omega
 have kA: ∀a∈k.filter (λa=>decide (a.1≠id))++ [(id,d)],a.1<=1099511627776/\a.2.length<=1000:=by
  intro a ha;rcases bU.1 ha with ha|ha
  ·exact hkd a (aY.1 ha).1
  ·simp at ha;subst ha;exact⟨h1,h2⟩
 have Re:((k.filter (λa=>decide (a.1≠id))++ [(id,d)]).map (·.1)).Nodup:=by
  rw[bm,gi];refine⟨(cV.map _).nodup Q5,by simp,λa ha b hb e=> ?_⟩;simp at hb;subst hb;subst e;obtain⟨x,hx,e⟩:=bn.1 ha;have:=(aY.1 hx).2;simp at this;exact this e
 unfold nL;split
 ·refine⟨by rw[cg];omega,λa ha=>kA a (List.mem_of_mem_drop ha),?_⟩;rw[List.map_drop];exact(List.drop_sublist _ _).nodup Re
 ·exact⟨by omega,kA,Re⟩
theorem Dx.vW {A:List gU} (ok:Dx A) (num:Int) (id:Nat) (d:List UInt8):Dx (tJ A num id d):=by
 unfold tJ;split
 ·exact ok
 ·rename_i s hs;split
  ·exact ok
  ·rename_i hh;refine ok.yP hs rfl λi o=> ?_
   obtain⟨k1,k2,k3⟩:=acY (id:=id) (d:=d) o.kl o.kd o.ki (by omega) (by omega);exact⟨o.num,o.tk,k1,o.nl,k2,o.nd,k3⟩
theorem Dx.watch {A:List gU} (ok:Dx A) (num:Int) (on:Bool):Dx (qT A num on):=by
 unfold qT;split
 ·exact ok
 ·rename_i s hs;exact ok.yP hs rfl λi o=>⟨o.num,o.tk,o.kl,o.nl,o.kd,o.nd,o.ki⟩
theorem Dx.read {A:List gU} (ok:Dx A) (num:Int):Dx (Nr A num):=by
 unfold Nr;split
 ·exact ok
 ·rename_i s hs;refine ok.yP hs rfl λi o=>⟨o.num,o.tk,o.kl,?_,o.kd,λn hn=>o.nd n (List.mem_of_mem_drop hn),o.ki⟩
  have:=o.nl;rw[cg];omega
theorem Dx.nil:Dx []:=⟨by simp,by simp,by simp⟩
end gU
end
section
open Go.jH
namespace gU
open vg
variable {h h':aj} {t:Nat} {X:Ft} {R:iI} {p q:bV} {c i:Nat} {fY:Lab} {D:Nat→Prop} {L:List SC} {A:List gU}
theorem tP:Ap Tryz.prog T.kq T.sd 1 8 (.pointer none):=⟨by kernel_rfl,by kernel_rfl,rfl⟩
theorem uP:Tryz.prog.underlying T.kq=some (.slice T.sd):=by kernel_rfl
theorem pE (hk: ∀h' t X,Has h' t X []->Fr No h h'->(∀x,X.M x\/X.D x->h.size<=x)->R (.P t 0) h'):Cl F.sW #[] h R:=by
 refine sW.walk (cY ?_);refine hk _ _ ⟨λx=>x=h.size,λ_=>False⟩ ⟨[],λx=>if x=h.size then some 0 else none, [],⟨⟨none,0,cA,.nil rfl rfl rfl rfl,λx ⟨a,e,_⟩=>by cases e⟩,by simp,λi s hs=>by simp at hs,?_,λ_ h=>h.elim,λ_ _ _ h=>h⟩,rfl,rfl,?_⟩ (Fr.push _ _) (λx hx=>hx.elim (λe=>by have e:x=h.size:=e;omega) False.elim)
 ·intro x r hr;split at hr
  ·rename_i e;rw[fP];omega
  ·cases hr
 ·intro x;constructor
  ·intro e;have e:x=h.size:=e;exact⟨0,by simp[e]⟩
  ·rintro⟨r,hr⟩;dsimp only at hr;split at hr
   ·assumption
   ·cases hr
theorem oR {num : Int} (TB : QP h t fY D L) (k1 : ∀ i s, num = ((i : Nat) : Int) + 1 → L[i]? = some s → R (.tuple #[.pointer (some ⟨s.b, 0, none⟩), .int .i64 0]) h) (k2 : (num < 1 ∨ num > (L.length : Int)) → R (.tuple #[.pointer none, .int .i64 4]) h) (hl : L.length ≤ 1000000) :
    Cl F.gl #[.pointer (some ⟨t, 0, none⟩), .int .i64 num] h R := by
  obtain ⟨p, c, hb, own, hp⟩ := TB.dF
  refine gl.walk (aK.of λJ hJ => ⟨true, af hb rfl, ?_⟩)
  subst hJ
  simp only [Bool.not_true, Bool.false_eq_true, if_false]
  refine aK.of λJ hJ => ?_
  by_cases h1 : num < 1
  · simp only [h1, decide_true, if_true]
    subst hJ
    simp only [if_true]
    exact k2 (.inl h1)
  · simp only [h1, decide_false, Bool.false_eq_true, if_false]
    refine ⟨_, _, _, af hb rfl, ?_⟩
    by_cases h2 : num > (L.length : Int)
    · simp only [h2, decide_true]
      subst hJ
      simp only [if_true]
      exact k2 (.inr h2)
    · simp only [h2, decide_false]
      subst hJ
      simp only [Bool.false_eq_true, if_false]
      obtain ⟨i, rfl⟩ : ∃ i : Nat, num = (i : Int) + 1 := ⟨(num - 1).toNat, by omega⟩
      have MK : i < L.length := by omega
      have hs : L[i]? = some L[i] := List.getElem?_eq_getElem MK
      obtain ⟨ab, AH, rfl⟩ := own.addr (by omega)
      have e : IntKind.wrap .i64 ((i : Int) + 1 - 1) = (i : Int) := by rw [bL (by omega) (by omega)]; omega
      rw [e]
      refine ⟨_, _, _, af hb rfl, ⟨by omega, by omega⟩, aB.2 ⟨_, ?_, k1 i _ rfl hs⟩⟩
      rw [Int.toNat_natCast, Nat.mul_one]
      exact own.cell (by rw [List.getElem?_map, hs]; rfl)
theorem Ns {k:Int} (token:Nat) (Mi:k=(token:Int)) (TB:QP h t fY D L) (hl:L.length<=1000000) (k1: ∀i s,L[i]? =some s->s.token=token->L.findIdx? (λs=>decide (s.token=token))=some i->R (.P s.b 0) h)
  (k2:L.findIdx? (λs=>decide (s.token=token))=none->R (.pointer none) h):Cl F.mS #[.P t 0,.U k] h R:=by
 subst Mi;obtain⟨p,c,hb,own,hp⟩:=TB.dF;refine mS.walk ⟨_,_,_,af hb rfl,?_⟩;refine⟨λi h'=>h'=h/\∃k:Nat,i=(k:Int)/\k<=L.length/\∀j (hj:j<L.length),j<k->L[j].token≠token,λi _=>L.length - i.toNat,⟨rfl,0,rfl,by omega,λj _ hj=>by omega⟩,?_⟩;rintro _ h1 ⟨rfl,k,rfl,hkn,kA⟩;by_cases jc:k<L.length
 ·have q1:(k:Int)<(L.length:Int):=by omega
  simp only[q1,decide_true,bA,aL];have hs:L[k]? =some L[k]:=au jc;obtain⟨ab,AH,rfl⟩:=own.addr (by omega);have ET:=(TB.ses k _ hs).dF;refine⟨⟨by omega,by first|trivial|omega⟩,aB.2 ⟨some ⟨L[k].b,0,none⟩,?_,aB.2 ⟨_,af ET rfl,?_⟩⟩⟩
  ·rw[cO];exact own.cell (by rw[aO,hs];rfl)
  by_cases e:L[k].token=token
  ·rw[ag (by rw[e];simp)];refine k1 k _ hs e ?_;rw[cP];exact⟨jc,by simpa using e,λj hj=>by simpa using kA j (by omega) hj⟩
  ·rw[ai (by simp only[dA];omega)];rw[bL (by omega) (by omega)];refine⟨⟨trivial,k+1,by omega,by omega,λj hj hjk=> ?_⟩,?_⟩
   ·by_cases q:j=k
    ·subst q;exact e
    ·exact kA j hj (by omega)
   ·show L.length - Int.toNat ((k:Int)+1)<L.length - Int.toNat (k:Int);omega
 ·have q1: ¬(k:Int)<(L.length:Int):=by omega
  simp only[q1,decide_false,aA,aU];refine k2 ?_;rw[dL];intro a ha;obtain⟨j,hj⟩:=bH ha;have Cg:=(aG.1 hj).1;rw[au Cg] at hj;obtain rfl:=bz hj;simpa using kA j Cg (by omega)
theorem yQ {s:SC} (hs:L[i]? =some s):(L.map SC.abs)[i]? =some s.abs:=by rw[aO,hs];rfl
theorem Wv {num : Int} (H : Has h t X A) (ok : Dx A) (hk : R (.bool (UP A num)) h) : Cl F.mR #[.pointer (some ⟨t, 0, none⟩), .int .i64 num] h R := by
  obtain ⟨_, fY, L, TB, rfl, _, hS⟩ := H
  have hl := ok.le
  rw [List.length_map] at hl
  unfold UP at hk
  refine mR.walk (oR TB (λi s e hs => ⟨_, _, rfl, ?_⟩) (λhn => ⟨_, _, rfl, ?_⟩) (by omega))
  · rw [if_pos (by rfl)]
    subst e
    rw [Dy, yQ hs] at hk
    exact aB.2 ⟨_, af (TB.ses i s hs).dF rfl, hk⟩
  · rw [if_neg (by simp)]
    rw [wA (by rw [List.length_map]; exact hn)] at hk
    exact hk
theorem vX {k : Int} (token : Nat) (Mi : k = (token : Int)) (H : Has h t X A) (ok : Dx A) (hk : ∀ h' X', Has h' t X' (vp A token) → bN X h X' h' → R (.tuple #[.int .i64 (aic A token), .int .i64 (By A token)]) h') :
    Cl F.gI #[.pointer (some ⟨t, 0, none⟩), .int .u64 k] h R := by
  subst Mi
  have H0 := H
  obtain ⟨_, fY, L, TB, rfl, _, hS⟩ := H
  have hl := ok.le
  rw [List.length_map] at hl
  obtain ⟨p, c, hb, own, hp⟩ := TB.dF
  refine gI.walk (aK.of λJ hJ => ⟨true, af hb rfl, ?_⟩)
  subst hJ
  simp only [Bool.not_true, Bool.false_eq_true, if_false]
  refine aK.of λJ hJ => ?_
  unfold aic vp at hk
  have jt : (token < 1 ∨ token > 2147483648) → J true h := by
    intro hh
    subst hJ
    simp only [if_true]
    have e : By (L.map SC.abs) token = 1 := by unfold By; rw [if_pos hh]
    rw [e] at hk
    exact hk h X H0 (bN.refl _ _)
  have jf : ¬ (token < 1 ∨ token > 2147483648) → J false h := by
    intro hh
    subst hJ
    simp only [Bool.false_eq_true, if_false]
    refine Ns token rfl TB (by omega) (λi s hs ht hf => ⟨_, rfl, ?_⟩) (λhf => ⟨_, rfl, ?_⟩)
    · simp only [Option.isNone_some, Bool.not_false, if_true]
      have e : By (L.map SC.abs) token = 12 := by
        unfold By
        rw [if_neg hh, if_pos]
        unfold R4
        rw [List.any_eq_true]
        exact ⟨s.abs, List.mem_map_of_mem (List.mem_of_getElem? hs), by simp [SC.abs, ht]⟩
      rw [e] at hk
      exact hk h X H0 (bN.refl _ _)
    · simp only [Option.isNone_none, Bool.not_true, Bool.false_eq_true, if_false]
      have Gw : ¬ R4 (L.map SC.abs) token = true := by
        unfold R4
        rw [List.any_eq_true]
        rintro ⟨x, hx, e⟩
        obtain ⟨s, hs, rfl⟩ := List.mem_map.1 hx
        have := List.findIdx?_eq_none_iff.1 hf s hs
        rw [show s.abs.token = s.token from rfl] at e
        rw [e] at this; cases this
      refine ⟨_, _, _, af hb rfl, ?_⟩
      by_cases h8 : (L.length : Int) ≥ 8
      · simp only [h8, decide_true, if_true]
        have e : By (L.map SC.abs) token = 5 := by
          unfold By
          rw [if_neg hh, if_neg Gw, if_pos (by rw [List.length_map]; omega)]
        rw [e] at hk
        exact hk h X H0 (bN.refl _ _)
      · simp only [h8, decide_false, Bool.false_eq_true, if_false]
        have e : By (L.map SC.abs) token = 0 := by
          unfold By
          rw [if_neg hh, if_neg Gw, if_neg (by rw [List.length_map]; omega)]
        rw [e] at hk
        simp only [if_true] at hk
        refine ⟨_, _, _, af hb rfl, ?_⟩
        rw [bL (n := (L.length : Int) + 1) (by omega) (by omega)]
        refine ij.box λb h4 eb mb f4 => ?_
        have aql := own.frame f4 (λ_ _ => id)
        refine ⟨_, _, _, af (f4.get hb id) rfl, ?_⟩
        refine qb tP uP aql rfl (λv hv => by simp at hv; subst hv; rfl) (by omega) (by omega) ?_
        intro p' c' h6 o6 f6 g6
        refine ⟨_, _, _, rfl, ?_⟩
        have hbl := aI hb
        have npt : ¬ aQ p t := λhx => by have := hp t hx; rw [TB.lt0] at this; cases this
        have RP := f6.get (f4.get hb id) npt
        have npb : ¬ aQ p b := λhx => by have := own.gn hx; omega
        have hs6 := f6.get mb npb
        refine bM RP (by simp) λh7 k1 k2 k3 => ?_
        have f7 : Fr (λx => x = t) h6 h7 := Fr.of_eq k2 k3
        have ntb : ¬ b = t := λe => by omega
        have hs7 := f7.get hs6 ntb
        refine ⟨_, af hs7 rfl, ?_⟩
        have F : Fr (λx => x = t ∨ aQ p x) h h7 := (f4.mono (λ_ _ => False.elim)).tt ((f6.mono (λ_ _ hx => .inr hx)).tt (f7.mono (λ_ _ hx => .inl hx)))
        have aqm : ¬ aQ p' t := λhx => (g6 t hx).elim npt (λh2 => by have := aI (f4.get hb id); omega)
        have a1 : ∀ x, x = t ∨ aQ p x → fY x = some 0 ∨ fY x = some 1 := by
          rintro x (rfl | hx)
          · exact .inl TB.lt0
          · exact .inr (hp x hx)
        have a2 : ∀ x, aQ p' x → fY x = some 1 ∨ h.size ≤ x := by
          intro x hx
          rcases g6 x hx with h2 | h2
          · exact .inl (hp x h2)
          · have := f4.1; exact .inr (by omega)
        have a3 : ¬ aQ p' b := by
          intro hx
          rcases g6 b hx with h2 | h2
          · exact npb h2
          · have := aI mb; omega
        obtain ⟨X', HH, st⟩ := TB.add (s := ⟨b, L.length + 1, token, true, false, [], none, 0, [], none, 0⟩) (p := p') (c0 := c') hS F a1 k1 (o6.frame f7 (λx hx e => aqm (e ▸ hx))) a2 a3 hs7 (by show h.size ≤ b; omega) ⟨rfl, rfl, rfl⟩ ⟨rfl, rfl, rfl⟩
        have := hk h7 X' (by rw [List.length_map]; exact ⟨_, HH⟩) st
        rw [List.length_map] at this
        exact this
  clear hJ
  by_cases h1 : token < 1
  · have : (token : Int) < 1 := by omega
    simp only [this, decide_true, if_true]
    exact jt (.inl h1)
  · have : ¬ (token : Int) < 1 := by omega
    simp only [this, decide_false, Bool.false_eq_true, if_false]
    by_cases h2 : token > 2147483648
    · have : (token : Int) > 2147483648 := by omega
      simp only [this, decide_true]
      exact jt (.inr h2)
    · have : ¬ (token : Int) > 2147483648 := by omega
      simp only [this, decide_false]
      exact jf (by omega)
theorem Ww {num : Int} (H : Has h t X A) (ok : Dx A) (hk : ∀ h' X', Has h' t X' (aie A num) → bN X h X' h' → R (.int .i64 (aid A num)) h') : Cl F.nP #[.pointer (some ⟨t, 0, none⟩), .int .i64 num] h R := by
  have H0 := H
  obtain ⟨_, fY, L, TB, rfl, _, hS⟩ := H
  have hl := ok.le
  rw [List.length_map] at hl
  unfold aie aid at hk
  refine nP.walk (oR TB (λi s e hs => ⟨_, _, rfl, ?_⟩) (λhn => ⟨_, _, rfl, ?_⟩) (by omega))
  · rw [if_neg (by simp)]
    subst e
    rw [Dy, yQ hs] at hk
    dsimp only at hk
    have ET := (TB.ses i s hs).dF
    refine aB.2 ⟨_, af ET rfl, ?_⟩
    cases hu : s.up with
    | true =>
      have : s.abs.up = true := hu
      simp only [this, if_true] at hk
      simp only [Bool.not_true, Bool.false_eq_true, if_false]
      refine aB.2 (bM ET (by simp) λh3 k1 k2 k3 => ?_)
      obtain ⟨X', HH, st⟩ := TB.flag (s' := { s with up := false }) hS hs rfl ⟨rfl, rfl, rfl⟩ ⟨rfl, rfl, rfl⟩ k1 k2 k3
      refine hk h3 X' ?_ st
      unfold yP
      rw [show ((i : Int) + 1 - 1).toNat = i by omega]
      exact ⟨_, HH⟩
    | false =>
      have : s.abs.up = false := hu
      simp only [this, Bool.false_eq_true, if_false] at hk
      simp only [Bool.not_false, if_true]
      exact hk h X H0 (bN.refl _ _)
  · rw [if_pos (by rfl)]
    rw [wA (by rw [List.length_map]; exact hn)] at hk
    exact hk h X H0 (bN.refl _ _)
theorem KQ {num : Int} {on : Bool} (H : Has h t X A) (ok : Dx A) (hk : ∀ h' X', Has h' t X' (qT A num on) → bN X h X' h' → R (.int .i64 (GP A num)) h') : Cl F.kk #[.pointer (some ⟨t, 0, none⟩), .int .i64 num, .bool on] h R := by
  have H0 := H
  obtain ⟨_, fY, L, TB, rfl, _, hS⟩ := H
  have hl := ok.le
  rw [List.length_map] at hl
  unfold qT GP at hk
  refine kk.walk (oR TB (λi s e hs => ⟨_, _, rfl, ?_⟩) (λhn => ⟨_, _, rfl, ?_⟩) (by omega))
  · refine aK.of λJ hJ => ?_
    subst hJ
    rw [if_pos (by rfl)]
    subst e
    rw [Dy, yQ hs] at hk
    dsimp only at hk
    have ET := (TB.ses i s hs).dF
    refine aB.2 (bM ET (by simp) λh3 k1 k2 k3 => ?_)
    obtain ⟨X', HH, st⟩ := TB.flag (s' := { s with watch := on }) hS hs rfl ⟨rfl, rfl, rfl⟩ ⟨rfl, rfl, rfl⟩ k1 k2 k3
    refine hk h3 X' ?_ st
    unfold yP
    rw [show ((i : Int) + 1 - 1).toNat = i by omega]
    exact ⟨_, HH⟩
  · refine aK.of λJ hJ => ?_
    subst hJ
    rw [if_neg (by simp)]
    rw [wA (by rw [List.length_map]; exact hn)] at hk
    exact hk h X H0 (bN.refl _ _)
end gU
end
section
open Go.jH Go.rO
namespace lJ
open vg
variable {h h':aj} {b:Nat} {X:Ft} {R:iI} {p q:bV} {c d i:Nat} {L:List E} {s:BS}
def Nt (h:aj) (b:Nat) (X:Ft) (s:BS):Prop:= ∃L,Bx h b X s L/\okB s L
theorem Nt.frame {Q:Nat->Prop} (H:Nt h b X s) (f:Fr Q h h') (hq: ∀y,X.M y\/X.D y->¬Q y):Nt h' b X s:=by
 obtain⟨L,H,ok⟩:=H;exact⟨L,H.frame f hq,ok⟩
theorem Nt.on (H:Nt h b X s) (f:Fr No h h'):Nt h' b X s:=H.frame f (λ_ _=>id)
theorem Nt.lt (H:Nt h b X s) (y:Nat) (hy:X.M y\/X.D y):y<h.size:=by
 obtain⟨L,H,ok⟩:=H;exact H.lt y hy
theorem Mm.TN {lp:bV} {lc a:Nat} {xs:List IV} {S:Nat->Prop} (H:Mm h b X s L lp lc xs a S) (ok:okB s L):L.length<1000/\xs.length<=16:=by
 have h1:=ok.pm.length_eq;rw[aN] at h1;have:=ok.le;have:=H.len;omega
def oz (s:BS) (owner:Int) (d:List UInt8) (cG:Nat):Int:=if GM owner d.length (cG:Int)=true then(if s.items.length≥16 then 15 else 0) else 1
def Ml (s:BS) (owner:Int) (d:List UInt8) (cG:Nat):Int:=if oz s owner d cG=0 then(s.next:Int) else 0
def R5 (s:BS) (owner:Int) (d:List UInt8) (cG:Nat):BS:=if oz s owner d cG=0 then { s with items:=s.items++ [⟨s.next,owner,d,cG⟩],next:=s.next+1 } else s
theorem KR {owner k:Int} {bs:List UInt8} {n m:Nat} (cG:Nat) (Mi:k=(cG:Int)) (H:Nt h b X s) (hr:Row h p (bc bs)) (hn:n=bs.length) (hl:bs.length<=1000000) (hnx:s.next<=1000000000)
  (hk: ∀h' X',Nt h' b X' (R5 s owner bs cG)->bN X h X' h'->R (.tuple #[.I (Ml s owner bs cG),.I (oz s owner bs cG)]) h'):
  Cl F.qo #[.P b 0,.I owner,.slice p n m,.U k] h R:=by
 subst Mi;subst hn;obtain⟨L,⟨lp,lc,xs,a,S,H⟩,ok⟩:=H;obtain⟨hL,hxl⟩:=H.TN ok;have hlen:=H.len;refine qo.walk (ji H ⟨_,rfl,?_⟩);simp only[dX,aA,aU];refine⟨_,af H.dF rfl,Dv hr rfl (by omega) λh2 p2 c2 o2 f2 g2=>⟨_,_,_,_,_,_,rfl,?_⟩⟩;refine aM.new λb1 h7 uh dx f7=>aM.ld dx (ic λh8 f8=>⟨_,rfl,?_⟩)
 have F8:Fr No h h8:=f2.tt (f7.tt f8);have H8:=H.on F8;have z2:=f2.1;have z7:=f7.1;have z8:=f8.1;have l1:=aI dx;unfold R5 Ml at hk;cases hrt:GM owner bs.length (cG:Int) with
 |false=>
  have e:oz s owner bs cG=1:=by unfold oz;rw[hrt];rfl
  rw[e] at hk;simp only[gM,bA];exact hk h8 X ⟨L,⟨lp,lc,xs,a,S,H8⟩,ok⟩ (bN.nJ F8)
 |true=>
  simp only[dX,aA,aU];refine⟨_,_,_,af H8.dF rfl,?_⟩;by_cases aif:s.items.length≥16
  ·have q:(xs.length:Int)≥16:=by omega
   have e:oz s owner bs cG=15:=by unfold oz;rw[hrt,ag rfl,ag aif]
   rw[e] at hk;simp only[q,decide_true,bA];exact hk h8 X ⟨L,⟨lp,lc,xs,a,S,H8⟩,ok⟩ (bN.nJ F8)
  ·have q: ¬(xs.length:Int)≥16:=by omega
   have e:oz s owner bs cG=0:=by unfold oz;rw[hrt,ag rfl,ai aif]
   rw[e] at hk;simp only[bA] at hk;simp only[q,decide_false,aA,aU];have hb8:aM.at h8 b1 (s.next:Int) owner p2 bs.length c2 (cG:Int):=f8.get dx id;refine⟨_,_,_,af H8.dF rfl,aM.ld hb8 ?_⟩;refine cY ⟨af (H8.on (Fr.push (S:=λ_=>False) h8 _)).dF rfl,?_⟩;have f9:Fr No h8 (h8.push (.cells #[.I (s.next:Int),.I owner,.slice p2 bs.length c2,.U (cG:Int)] T.aM)):=Fr.push _ _;have r9:Row (h8.push (.cells #[.I (s.next:Int),.I owner,.slice p2 bs.length c2,.U (cG:Int)] T.aM)) (some (AA h8.size 0)) [.I (s.next:Int),.I owner,.slice p2 bs.length c2,.U (cG:Int)]:=rW;generalize h8.push (.cells #[.I (s.next:Int),.I owner,.slice p2 bs.length c2,.U (cG:Int)] T.aM)=h9 at f9 r9⊢;have H9:=H8.on f9;have hb9:aM.at h9 b1 (s.next:Int) owner p2 bs.length c2 (cG:Int):=f9.get hb8 id;refine fR tI uI H9.own r9 rfl (λv hv=>by simp at hv;rcases hv with rfl|rfl|rfl|rfl<;>rfl) (by omega) (by omega) λp10 Wt vk WI _ f10 g10=>⟨_,_,_,rfl,?_⟩
   have z9:=f9.1;have z10:=f10.1;have lb:=aI H.dF;have Na:=f10.get H9.dF H.bl;refine bM Na (by simp) λyj a1 a2 a3=> ?_
   have f11:Fr (λy=>y=b) vk yj:=Fr.of_eq a2 a3;refine⟨_,af a1 rfl,bM a1 (by simp) λmF d1 d2 d3=> ?_⟩;have f12:Fr (λy=>y=b) yj mF:=Fr.of_eq d2 d3;have nlp: ∀y,h.size<=y->¬aQ lp y:=λy hy hx=>by have:=H.own.gn hx;omega
   have ajS:aM.at vk b1 (s.next:Int) owner p2 bs.length c2 (cG:Int):=f10.get hb9 (nlp b1 (by omega));have rT:aM.at mF b1 (s.next:Int) owner p2 bs.length c2 (cG:Int):=(d3 b1 (by omega)).trans ((a3 b1 (by omega)).trans ajS);have A12:cu.Al mF a S L:=((H9.al.frame f10 (λy hy hx=>H.ls y hx hy)).frame f11 (λy hy e=>H.bs (e▸hy))).frame f12 (λy hy e=>H.bs (e▸hy));refine⟨_,af d1 rfl,_,af rT rfl,?_⟩;rw[KC] at hrt;have acZ:cu.may (s.next:Int) (cG:Int)=true:=cu.vV.2 ⟨by have:=ok.KE;omega,by omega,hrt.2.2.2.2⟩;refine cu.UF A12 (by omega) _ _ (by omega) (λ_ GQ S13 A13 g13 f13=>⟨_,rfl,?_⟩) (λhf=>by rw[acZ] at hf;cases hf);have nS: ∀y,h.size<=y->¬S y:=λy hy hs=>by have:=H.al.lt hs;omega
   refine⟨_,af (f13.get rT (nS b1 (by omega))) rfl,?_⟩;have F9:Fr No h h9:=F8.tt f9;have z12:vk.size<=mF.size:=by omega
   have Nj:Fr (aQ lp) h vk:=Fr.no F9 f10;have PG:Fr (λy=>aQ lp y\/y=b) h mF:=((Nj.mono (λ_ _ hx=> .inl hx)).tt (f11.mono (λ_ _ hx=> .inr hx))).tt (f12.mono (λ_ _ hx=> .inr hx));have F13:Fr X.M h GQ:=((PG.mono (λy _ hx=>(H.m y).2 (hx.elim (λh=> .inr (.inl h)) .inl))).tt (f13.mono (λy _ hx=>(H.m y).2 (.inr (.inr hx)))));have p2y: ∀y,aQ p2 y->h.size<=y/\y<h2.size:=λy hy=>⟨g2 y hy,o2.gn hy⟩
   have aaH: ∀y,aQ p10 y->aQ lp y\/h2.size<=y:=λy hy=>(g10 y hy).imp id (λh1=>by omega)
   have amJ: ∀y,aQ p10 y->y<mF.size:=λy hy=>by have:=WI.gn hy;omega
   have o13:iS GQ p2 bs.length c2 1 (bc bs):=by
    have amK:Fr X.M h2 GQ:=by
     refine⟨by have:=F13.1;have:=f13.1;omega,λy hy hn=> ?_⟩;have e1:GQ[y]? =mF[y]? :=f13.2 y (by omega) (λhx=>hn ((H.m y).2 (.inr (.inr hx))));have e2:mF[y]? =yj[y]? :=f12.2 y (by omega) (λe=>hn ((H.m y).2 (.inl e)));have e3:yj[y]? =vk[y]? :=f11.2 y (by omega) (λe=>hn ((H.m y).2 (.inl e)));have e4:vk[y]? =h9[y]? :=f10.2 y (by omega) (λe=>hn ((H.m y).2 (.inr (.inl e))));have e5:h9[y]? =h2[y]? :=(f7.tt (f8.tt f9)).2 y (by omega) id;rw[e1,e2,e3,e4,e5]
    exact o2.frame amK (λy hy hm=>by have:=H.lt y (.inl hm);have:=p2y y hy;omega)
   have amL: ∀y,X.D y\/aQ p2 y->y<GQ.size:=λy hy=>hy.elim (λh1=>cT (H.RW y h1) F13.1) (λh1=>by have:=p2y y h1;have:=f13.1;omega)
   have cat:xs.flatMap jJ++ [.I (s.next:Int),.I owner,.slice p2 bs.length c2,.U (cG:Int)]=(xs++ [(⟨s.next,owner,⟨p2,c2,bs⟩,cG⟩:IV)]).flatMap jJ:=by rw[dJ];simp
   have ln:(xs++ [(⟨s.next,owner,⟨p2,c2,bs⟩,cG⟩:IV)]).length=xs.length+1:=by rw[aF];rfl
   have ajT: ∀y,aQ p10 y->y≠b:=λy hy e=>(aaH y hy).elim (λh1=>H.bl (e▸h1)) (λh1=>by omega)
   have ajU: ∀y,S13 y->X.M y\/mF.size<=y:=λy hy=>(g13 y hy).imp (λh1=>(H.m y).2 (.inr (.inr h1))) id
   refine hk GQ ⟨λy=>y=b\/aQ p10 y\/S13 y,λy=>X.D y\/aQ p2 y⟩ ⟨_,⟨p10,Wt,xs++ [⟨s.next,owner,⟨p2,c2,bs⟩,cG⟩],a,S13,⟨?_,?_,A13,?_,?_,λ_=>fZ,λhx=>ajT b hx rfl,?_,?_,?_,amL⟩⟩,?_⟩ ⟨F13,?_,?_,λ_=> .inl⟩
   ·have k13:=f13.get d1 H.bs;rw[k13];dsimp only;rw[ln,bL (by omega) (by omega)];rfl
   ·rw[ln,<-cat];exact((WI.frame f11 ajT).frame f12 ajT).frame f13 (λy hy hs=>(aaH y hy).elim (λh1=>H.ls y h1 hs) (λh1=>nS y (by omega) hs))
   ·rw[bm,H.abs];rfl
   ·intro v hv;rcases bU.1 hv with hv|hv
    ·exact((H.PB v hv).frame F13 (λy hd hm=>H.GL y hm hd)).mono (λy=> .inl)
    ·obtain rfl:=bW.1 hv;exact BV.wM o13 (λy=> .inr)
   ·intro hs;exact(g13 b hs).elim H.bs (λh1=>by omega)
   ·intro y hy hs;rcases g13 y hs with h1|h1
    ·exact(aaH y hy).elim (λh2=>H.ls y h2 h1) (λh2=>nS y (by omega) h1)
    ·have:=amJ y hy;omega
   ·rintro y hy (hd|hd)
    ·rcases hy with rfl|hy|hy
     ·exact H.GL _ ((H.m _).2 (.inl rfl)) hd
     ·exact(aaH y hy).elim (λh1=>H.GL _ ((H.m _).2 (.inr (.inl h1))) hd) (λh1=>by have:=H.RW y hd;omega)
     ·exact(ajU y hy).elim (λh1=>H.GL _ h1 hd) (λh1=>by have:=H.RW y hd;omega)
    ·have JF:=p2y y hd;rcases hy with rfl|hy|hy
     ·omega
     ·exact(aaH y hy).elim (λh1=>nlp y JF.1 h1) (λh1=>by omega)
     ·exact(ajU y hy).elim (λh1=>by have:=H.lt y (.inl h1);omega) (λh1=>by omega)
   ·have hnk:(s.next:Int)∉keys L:=by
     intro hm;obtain⟨e,he,ek⟩:=bn.1 hm;obtain⟨x,hx,rfl⟩:=bn.1 (ok.pm.mem_iff.1 he);have:=(ok.it x hx).2.1;have ek:(x.num:Int)=(s.next:Int):=ek;omega
    refine⟨?_,?_,?_,?_,?_⟩
    ·show(s.items++ [_]).length<=16;rw[aF,fk];omega
    ·unfold cu.Kx;rw[si hnk];refine(vU _ _).trans ?_;show List.Perm (((s.next:Int),(cG:Int))::L) ((s.items++ [(⟨s.next,owner,bs,cG⟩:It)]).map It.kv);rw[bm];exact(List.Perm.cons _ ok.pm).trans (fC _ _).symm
    ·intro x hx;rcases bU.1 hx with hx|hx
     ·have:=ok.it x hx;exact⟨this.1,by show x.num<s.next+1;omega,this.2.2⟩
     ·obtain rfl:=bW.1 hx;exact⟨by show 1<=s.next;have:=ok.KE;omega,by show s.next<s.next+1;omega,hrt.2.2.1,hrt.2.2.2.1,hrt.1,hrt.2.1,by have:=hrt.2.2.2.2;show cG<=_;omega⟩
    ·show((s.items++ [_]).map It.num).Pairwise (· < ·);rw[bm,List.pairwise_append];refine⟨ok.inc,by simp,λy hy z hz=> ?_⟩;simp at hz;subst hz;obtain⟨x,hx,rfl⟩:=bn.1 hy;exact(ok.it x hx).2.1
    ·show s.next+1=1+(s.items++ [_]).length+s.taken+s.EF+s.over;rw[aF,fk];have:=ok.KE;omega
   ·rintro y (rfl|hy|hy)
    ·exact .inl ((H.m _).2 (.inl rfl))
    ·exact(aaH y hy).imp (λh1=>(H.m _).2 (.inr (.inl h1))) (λh1=>by omega)
    ·exact(ajU y hy).imp id (λh1=>by omega)
   ·rintro y (hy|hy)
    ·exact .inl hy
    ·exact .inr (p2y y hy).1
def yx (s:BS) (num owner:Int):Int:=match II s.items num with|none=>4|some i=>(match s.items[i]? with|some x=>if x.owner=owner then 0 else 13|none=>4)
def xq (s:BS) (num owner:Int):BS:=if yx s num owner=0 then { s with items:=CO s.items num,EF:=s.EF+1 } else s
theorem Mm.field {s':BS} {lp:bV} {lc a:Nat} {xs:List IV} {S:Nat->Prop} (H:Mm h b X s L lp lc xs a S) (hi:s'.items=s.items)
  (hb:h'[b]? =some (.cells #[.slice lp xs.length lc,.I (s'.next:Int),.I (s'.taken:Int),.I (s'.EF:Int),.I (s'.over:Int),.P a 0] T.w9 (0,0)))
  (f:Fr (λy=>y=b) h h'):Mm h' b X s' L lp lc xs a S/\bN X h X h':=by
 have hX: ∀y,X.D y->y≠b:=λy hd e=>H.GL b ((H.m b).2 (.inl rfl)) (e▸hd)
 refine⟨⟨hb,H.own.frame f (λy hy e=>H.bl (e▸hy)),H.al.frame f (λy hy e=>H.bs (e▸hy)),H.abs.trans hi.symm,λx hx=>(H.PB x hx).frame f (λy hd e=>hX y hd e),H.m,H.bl,H.bs,H.ls,H.GL,λy hy=>cT (H.RW y hy) f.1⟩,bN.E9 (f.mono (λy _ e=>(H.m y).2 (.inl e)))⟩
theorem WK {lp:bV} {lc a:Nat} {xs:List IV} {S:Nat->Prop} (H:Mm h b X s L lp lc xs a S) {x:It} (hx:s.items[i]? =some x): ∃v,xs[i]? =some v/\v.abs=x:=by
 rw[<-H.abs,aO] at hx;cases hv:xs[i]? with
 |none=>rw[hv] at hx;cases hx
 |some v=>rw[hv] at hx;exact⟨v,rfl,bz hx⟩
theorem FK {items:List It} {x:It} (hp:(items.map It.num).Pairwise (· < ·)) (hx:items[i]? =some x):(CO items (x.num:Int)).length+1=items.length:=by
 have hi:=(aG.1 hx).1;rw[<-CP hp hx];unfold Mj;rw[aF,bR,cg];omega
theorem okB.del {x:It} {t c o:Nat} (ok:okB s L) (hx:s.items[i]? =some x) (hc:t+c+o=s.taken+s.EF+s.over+1):okB ⟨CO s.items (x.num:Int),s.next,t,c,o⟩ (iH L (x.num:Int)):=by
 refine ok.sub cV (KF ok.pm) ?_;have:=FK ok.inc hx;have:=ok.KE;omega
theorem GR {num owner:Int} (H:Nt h b X s) (hnx:s.next<=1000000000) (hk: ∀h' X',Nt h' b X' (xq s num owner)->bN X h X' h'->R (.I (yx s num owner)) h'):
  Cl F.mY #[.P b 0,.I num,.I owner] h R:=by
 obtain⟨L,⟨lp,lc,xs,a,S,H⟩,ok⟩:=H;obtain⟨hL,hxl⟩:=H.TN ok;have hlen:=H.len;have hle:=ok.le;refine mY.walk (ji H ⟨_,rfl,?_⟩);simp only[dX,aA,aU];refine oR H (by omega) λh2 f2=>⟨_,rfl,?_⟩
 have H2:=H.on f2;unfold xq at hk;cases EG:II s.items num with
 |none=>
  have e:yx s num owner=4:=by unfold yx;rw[EG]
  rw[e] at hk;have ev:CM s.items num= -1:=by unfold CM;rw[EG]
  rw[ev,jy];exact hk h2 X ⟨L,⟨lp,lc,xs,a,S,H2⟩,ok⟩ (bN.nJ f2)
 |some i=>
  obtain⟨x,hx,IM⟩:=KG EG;have ev:CM s.items num=(i:Int):=by unfold CM;rw[EG]
  have hi:=(aG.1 hx).1;obtain⟨v,hv,hva⟩:=WK H hx;have q: ¬(i:Int)<0:=by omega
  rw[ev];simp only[q,decide_false,aA,aU,aL];obtain⟨ab,AH,rfl⟩:=H2.own.addr (by omega);have hc:=(H2.own.lu mA hv).2.1;refine⟨_,_,_,af H2.dF rfl,⟨by omega,by omega⟩,aB.2 ⟨v.owner,hc,?_⟩⟩;have hvo:v.owner=x.owner:=by rw[<-hva];rfl
  by_cases ho:x.owner=owner
  ·have e:yx s num owner=0:=by unfold yx;rw[EG];dsimp only;rw[hx];dsimp only;rw[ag ho]
   rw[e] at hk;simp only[bA] at hk;rw[ai (by rw[hvo,ho];simp)];refine O8 H2 (by omega) hL hv λh3 X3 B3 s3 _=>⟨_,_,_,_,_,_,rfl,?_⟩
   obtain⟨lp3,lc3,xs3,a3,S3,H3⟩:=B3;refine⟨_,af H3.dF rfl,bM H3.dF (by simp) λh4 a1 a2 a3'=> ?_⟩;have f4:Fr (λy=>y=b) h3 h4:=Fr.of_eq a2 a3';have aqn:=ok.KE;have vn:(v.num:Int)=num:=by rw[<-IM,<-hva];rfl
   have ec:Mj s.items i=CO s.items num:=by rw[<-IM];exact CP ok.inc hx
   obtain⟨H4,s4⟩:=H3.field (s':=⟨CO s.items num,s.next,s.taken,s.EF+1,s.over⟩) (h':=h4) ec.symm (by
    rw[a1];dsimp only;rw[bL (by omega) (by omega)];rfl) f4
   rw[vn] at H4;refine hk h4 X3 ⟨iH L num,⟨lp3,lc3,xs3,a3,S3,H4⟩,?_⟩ ((bN.nJ f2).trans (s3.trans s4));have:=ok.del (t:=s.taken) (c:=s.EF+1) (o:=s.over) hx (by omega);rwa[IM] at this
  ·have e:yx s num owner=13:=by unfold yx;rw[EG];dsimp only;rw[hx];dsimp only;rw[ai ho]
   rw[e] at hk;rw[ag (by rw[hvo];simpa using ho)];exact hk h2 X ⟨L,⟨_,lc,xs,a,S,H2⟩,ok⟩ (bN.nJ f2)
theorem AO {k:Int} (now:Nat) (Mi:k=(now:Int)) (H:Nt h b X s) (hnx:s.next<=1000000000)
  (hk: ∀h' X' p' c' (ys:List IV) D,Nt h' b X' { s with items:=s.items.filter (λx=>decide ((now:Int)<(x.cG:Int))),over:=s.over+ys.length } ->bN X h X' h'->iS h' p' ys.length c' 4 (ys.flatMap jJ)->(∀y∈ys,y.v.ok h' X'.D)->(∀y,aQ p' y->h.size<=y/\¬(X'.M y\/X'.D y))->
   (ys.map IV.abs).map It.kv=D->pG D->D.Perm ((s.items.filter (λx=>decide ((x.cG:Int)<=(now:Int)))).map It.kv)->(∀y∈ys,y.abs∈s.items)->R (.slice p' ys.length c') h'):
  Cl F.oV #[.P b 0,.U k] h R:=by
 subst Mi;obtain⟨L,⟨lp,lc,xs,a,S,H⟩,ok⟩:=H;obtain⟨hL,hxl⟩:=H.TN ok;have hle:=ok.le;have aqn:=ok.KE;have so:=H.al.sorted;have nd:=H.al.nodup;refine oV.walk (ji H ⟨_,rfl,aK.of λJ hJ=> ?_⟩);simp only[bA];refine⟨_,af H.dF rfl,cu.Pp H.al (by omega) _ λh3 p3 c3 A3 o3 g3 f3=>⟨_,_,_,rfl,?_⟩⟩;generalize hD:cu.due L (now:Int)=D at o3⊢;have hLD:L=D++cu.rest L (now:Int):=by rw[<-hD];exact(List.takeWhile_append_dropWhile).symm
 have M3:Mm h3 b X s (cu.rest L (now:Int)) lp lc xs a S:=by
  refine⟨f3.get H.dF H.bs,H.own.frame f3 (λy hy hs=>H.ls y hy hs),A3,H.abs,λx hx=>(H.PB x hx).frame f3 (λy hd hs=>H.GL y ((H.m y).2 (.inr (.inr hs))) hd),H.m,H.bl,H.bs,H.ls,H.GL,λy hy=>cT (H.RW y hy) f3.1⟩
 have s3:bN X h X h3:=bN.E9 (f3.mono (λy _ hs=>(H.m y).2 (.inr (.inr hs))));have Dl:D.length<=16:=by
  have h1:=bp List.length hLD;rw[aF] at h1;have:=ok.pm.length_eq;rw[aN] at this;omega
 have ndD:(keys D).Nodup:=by
  rw[hLD] at nd;unfold keys at nd⊢;rw[bm,gi] at nd;exact nd.1
 have dr: ∀e∈D,e.1∉keys (cu.rest L (now:Int)):=by
  intro e he hm;rw[hLD] at nd;unfold keys at nd hm;rw[bm,gi] at nd;exact nd.2.2 e.1 (bB he) e.1 hm rfl
 have amM:(cu.rest L (now:Int)).length<1000:=by
  have h1:=bp List.length hLD;rw[aF] at h1;omega
 refine⟨λop ol oc t g=> ∃(k:Nat) (X':Ft) (ys:List IV),t=(k:Int)/\k<=D.length/\ol=ys.length/\ys.length=k/\Bx g b X' { s with items:=yO s.items (keys (D.take k)),over:=s.over+k } (cu.rest L (now:Int))/\bN X h X' g/\Fr (λy=>h.size<=y\/X.M y) h3 g/\iS g op ol oc 4 (ys.flatMap jJ)/\(∀y∈ys,y.v.ok g X'.D)/\
   (∀y,aQ op y->h.size<=y/\¬(X'.M y\/X'.D y)/\¬aQ p3 y)/\(∀y,aQ p3 y->¬(X'.M y\/X'.D y))/\Row g p3 (cu.kc D)/\(ys.map IV.abs).map It.kv=D.take k/\(∀y∈ys,y.abs∈s.items),λ_ _ _ t _=>D.length - t.toNat,
   ⟨0,X, [],rfl,by omega,rfl,rfl,?_,s3,Fr.refl _ _,.nil rfl rfl rfl rfl,(λy hy=>by cases hy),(λy ⟨a,e,_⟩=>by cases e),(λy hy hx=>by have:=g3 y hy;have:=H.lt y hx;omega),o3.qa,rfl,λy hy=>by cases hy⟩,?_⟩
 ·have:({ s with items:=yO s.items (keys (D.take 0)),over:=s.over+0 } :BS)=s:=by
   show(⟨yO s.items [],_,_,_,_⟩:BS)=s;rw[acI];rfl
  rw[this];exact⟨lp,lc,xs,a,S,M3⟩
 clear M3 A3;rintro op ol oc _ g ⟨k,X',ys,rfl,hkD,rfl,hys,B,st,fg,o,hd,QK,h3p,r3,hkv,qZ⟩;by_cases jc:k<D.length
 ·have q:(k:Int)<(D.length:Int):=by omega
  simp only[q,decide_true,bA];have hDk:D[k]? =some D[k]:=au jc;generalize D[k]=e at hDk;have heD:=bt hDk;have ak:(cu.kc D)[k]? =some (.I e.1):=by
   unfold cu.kc keys;rw[aO,aO,hDk];rfl
  obtain⟨pa,rfl⟩:=r3.some (λe0=>by rw[e0] at ak;cases ak);have cell:=r3.cell ak;refine⟨⟨by first|trivial|omega,by first|trivial|omega⟩,aB.2 ⟨e.1,by rw[aL,cO];exact cell,?_⟩⟩;obtain⟨lp',lc',xs',a',S',M⟩:=B;have CQ:({ s with items:=yO s.items (keys (D.take k)),over:=s.over+k } :BS).items=yO s.items (keys (D.take k)):=rfl;have rl:(yO s.items (keys (D.take k))).length<=16:=dw (cJ _ _) hle;refine oR M (by rw[CQ];omega) λh5 f5=>⟨_,rfl,?_⟩
  rw[CQ];have M5:=M.on f5;have heL:e∈L:=by rw[hLD];exact fK _ heD
  obtain⟨x,hx,hxe⟩:=bn.1 (ok.pm.mem_iff.1 heL);have hxn:(x.num:Int)=e.1:=by rw[<-hxe];rfl
  have hnk:e.1∉keys (D.take k):=by
   intro hm;obtain⟨e',I7,ek⟩:=bn.1 hm;obtain⟨j,hj⟩:=bH I7;rw[dt] at hj;split at hj
   ·rename_i hjk;have h1:(keys D)[j]? =some e.1:=by unfold keys;rw[aO,hj,<-ek];rfl
    have h2:(keys D)[k]? =some e.1:=by unfold keys;rw[aO,hDk];rfl
    have:=(fV (by unfold keys;rw[aN];omega) ndD).1 (h1.trans h2.symm);omega
   ·cases hj
  have hxr:x∈yO s.items (keys (D.take k)):=aY.2 ⟨hx,ay (by rw[hxn];exact hnk)⟩;cases EG:II (yO s.items (keys (D.take k))) e.1 with
  |none=>exact absurd hxn (acH EG x hxr)
  |some i=>
   obtain⟨x',hx',hn'⟩:=KG EG;have aqo:x'∈s.items:=(aY.1 (bt hx')).1;obtain rfl:x'=x:=uniq ok.inc aqo hx (by omega);have ev:CM (yO s.items (keys (D.take k))) e.1=(i:Int):=by unfold CM;rw[EG]
   rw[ev];obtain⟨v,hv,hva⟩:=WK M5 hx';refine O8 M5 (by rw[CQ];omega) amM hv λh6 X6 B6 s6 v6=>⟨_,_,_,_,_,_,rfl,?_⟩
   have vn:(v.num:Int)=e.1:=by rw[<-hxn,<-hva];rfl
   rw[vn,si (dr e heD)] at B6;have aqp:((yO s.items (keys (D.take k))).map It.num).Pairwise (· < ·):=ok.inc.sublist (cV.map _);have htk:keys (D.take (k+1))=keys (D.take k)++ [e.1]:=by unfold keys;rw[bZ,hDk,bm];rfl
   have eit:Mj (yO s.items (keys (D.take k))) i=yO s.items (keys (D.take (k+1))):=by
    rw[CP aqp hx',hxn,acJ,htk]
   have o5:=o.frame f5 (λ_ _=>id);have op6: ∀y,aQ op y->¬(X6.M y\/X6.D y):=λy hy=>λhx=>s6.apart (Q:=aQ op) (λz hz hq=>(QK z hq).2.1 hz) (λz hq=>o5.gn hq) y hx hy
   have o6:=o5.frame s6.fr (λy hy hm=>(QK y hy).2.1 (.inl hm));refine qb tI uI o6 rfl (λw hw=>by simp at hw;rcases hw with rfl|rfl|rfl|rfl<;>rfl) (by omega) (by omega) λp8 c8 h8 o8 f8 g8=>⟨_,_,_,rfl,?_⟩
   have B8:Bx h8 b X6 _ _:=B6.frame f8 (λy hy hq=>op6 y hq hy);obtain⟨lp8,lc8,xs8,a8,S8,M8⟩:=B8;refine⟨_,af M8.dF rfl,bM M8.dF (by simp) λh9 a1 a2 a3=> ?_⟩;have f9:Fr (λy=>y=b) h8 h9:=Fr.of_eq a2 a3;obtain⟨M9,s9⟩:=M8.field (s':=⟨yO s.items (keys (D.take (k+1))),s.next,s.taken,s.EF,s.over+(k+1)⟩) (h':=h9) eit.symm (by
    rw[a1];dsimp only;rw[bL (by omega) (by omega)];rfl) f9
   have b6:X6.M b:=(M8.m b).2 (.inl rfl);have op8: ∀y,aQ p8 y->h.size<=y/\¬(X6.M y\/X6.D y)/\¬aQ (some pa) y:=by
    intro y hy;rcases g8 y hy with h1|h1
    ·exact⟨(QK y h1).1,op6 y h1,(QK y h1).2.2⟩
    ·have z6:=s6.fr.1;have z5:=f5.1;have zg:=st.fr.1;refine⟨by omega,λhx=>by have:=B6.lt y hx;omega,λhx=> ?_⟩;have:=qO r3 (by intro e0;rw[e0] at ak;cases ak) hx;omega
   have sg6:bN X' g X6 h6:=(bN.nJ f5).trans s6;have amN: ∀y,aQ (some pa) y->¬(X6.M y\/X6.D y):=λy hy hx=>sg6.apart (Q:=aQ (some pa)) (λz hz hq=>h3p z hq hz) (λz hq=>qO r3 (by intro e0;rw[e0] at ak;cases ak) hq) y hx hy
   have TO:bN X h X6 h6:=st.trans sg6;have amO: ∀y,y<h.size->¬X.M y->h9[y]? =h6[y]? :=by
    intro y hy hm;have zz:=TO.fr.1;have zz8:=f8.1;rw[f9.2 y (by omega) (λe0=>(TO.rh b b6).elim (λh1=>hm (e0▸h1)) (λh1=>by omega)),f8.2 y (by omega) (λhq=>by have:=(QK y hq).1;omega)]
   have st9:bN X h X6 h9:=by
    refine⟨⟨by have:=TO.fr.1;have:=f8.1;omega,λy hy hn=> ?_⟩,TO.rh,TO.wL,TO.Ix⟩;rw[amO y hy hn];exact TO.fr.2 y hy hn
   have zb8: ∀y,aQ p8 y->y≠b:=λy hy e0=>(op8 y hy).2.1 (.inl (e0▸b6))
   have cat:ys.flatMap jJ++([.I (v.num:Int),.I v.owner,.slice v.v.p v.v.b.length v.v.c,.U (v.cG:Int)]:List Value)=(ys++ [v]).flatMap jJ:=by rw[dJ];simp
   have ln:(ys++ [v]).length=ys.length+1:=by rw[aF];rfl
   rw[bL (by omega) (by omega)];refine⟨⟨k+1,X6,ys++ [v],by omega,by omega,ln.symm,by rw[ln,hys],⟨lp8,lc8,xs8,a8,S8,M9⟩,st9,?_,?_,?_,op8,amN,?_,?_,?_⟩,?_⟩
   ·refine⟨by have:=fg.1;have:=sg6.fr.1;have:=f8.1;omega,λy hy hn=> ?_⟩;have ajV:y<h.size:=Nat.lt_of_not_le (λhx=>hn (.inl hx));have hnm: ¬X.M y:=λhx=>hn (.inr hx)
    rw[amO y ajV hnm,TO.fr.2 y ajV hnm,s3.fr.2 y ajV hnm]
   ·rw[<-cat];exact o8.frame f9 zb8
   ·intro w hw;have key: ∀u:IV,u.v.ok h6 X6.D->u.v.ok h9 X6.D:=λu hu=>(hu.frame f8 (λy hy hq=>op6 y hq (.inr hy))).frame f9 (λy hy e0=>M8.GL b b6 (e0▸hy))
    rcases bU.1 hw with hw|hw
    ·exact key w (((hd w hw).frame sg6.fr (λy hy hm=>M.GL y hm hy)).mono (λy hy=>sg6.Ix y hy))
    ·obtain rfl:=bW.1 hw;exact key w v6
   ·refine((r3.frame sg6.fr (λa' ea hm=>h3p _ ⟨a',ea,rfl⟩ (.inl hm))).frame f8 (λa' ea hq=>(QK _ hq).2.2 ⟨a',ea,rfl⟩)).frame f9 (λa' ea e0=>amN _ ⟨a',ea,rfl⟩ (.inl (by have e0:a'.block=b:=e0;rw[e0];exact b6)))
   ·rw[bm,bm,hkv,bZ,hDk];simp[hva,hxe]
   ·intro w hw;rcases bU.1 hw with hw|hw
    ·exact qZ w hw
    ·obtain rfl:=bW.1 hw;rw[hva];exact hx
   ·show D.length - Int.toNat ((k:Int)+1)<D.length - Int.toNat (k:Int);omega
 ·have q: ¬(k:Int)<(D.length:Int):=by omega
  simp only[q,decide_false,aA,aU];obtain rfl:k=D.length:=by omega
  subst hJ;rw[iF] at B hkv;have e1:yO s.items (keys D)=s.items.filter (λx=>decide ((now:Int)<(x.cG:Int))):=by rw[<-hD];exact acK ok so nd
  rw[e1] at B;have arJ:D.length+(s.items.filter (λx=>decide ((now:Int)<(x.cG:Int)))).length=s.items.length:=by
   have h1:=bp List.length hLD;rw[aF,(Nk (now:=(now:Int)) ok so).length_eq,aN,ok.pm.length_eq,aN] at h1;omega
  refine hk g X' op oc ys D ⟨_,by rw[hys];exact B,?_⟩ st o hd (λy hy=>⟨(QK y hy).1,(QK y hy).2.1⟩) hkv ?_ ?_ qZ
  ·exact ok.sub cV (Nk ok so) (by omega)
  ·rw[<-hD,(jj so).1];exact iL _ so
  ·rw[<-hD];exact acL ok so
end lJ
end
section
namespace qJ
variable {h h':aj} {R:iI}
theorem byte_at {s:ByteArray} {pos:Nat} (hp:pos<s.size):s.data.toList[pos]? =some (s.data.toList.getD pos 0):=by
 have:pos<s.data.toList.length:=hp;rw[ba,au this];rfl
theorem amP {more b:UInt8} (hm:more.toNat<128) (h:pl more b=true):b<128:=by
 show b.toNat<128;by_cases hb:b.toNat<128
 ·exact hb
 ·have h1:=acb (more:=(more.toNat:Int)) (c:=(b.toNat:Int)) (by omega) (by omega);rw[acd,h] at h1;cases h1
theorem ac0 {more:UInt8} {s:ByteArray} {pos:Nat} (hm:more.toNat<128) (hp:pos<s.size) (h:np (more.toNat:Int) ((Utf8.decode s pos).1:Int)=false):
  pl more (s.data.toList.getD pos 0)=true/\(Utf8.decode s pos).2=1:=by
 obtain⟨h1,h2⟩:=decode_at s pos hp;by_cases hb:s.data.toList.getD pos 0<128
 ·rw[h1 hb] at h⊢;rw[acd] at h;exact⟨by simpa using h,rfl⟩
 ·have:=acb (more:=(more.toNat:Int)) (c:=((Utf8.decode s pos).1:Int)) (by omega) (by have:=h2 hb;omega);rw[this] at h;cases h
theorem afZ {more:UInt8} {s:ByteArray} {pos:Nat} (hm:more.toNat<128) (hp:pos<s.size) (h:np (more.toNat:Int) ((Utf8.decode s pos).1:Int)=true):xd more s=false:=by
 cases hb:xd more s with
 |false=>rfl
 |true=>
  have JF:=List.all_eq_true.1 hb _ (bt (byte_at hp));obtain⟨h1,_⟩:=decode_at s pos hp;rw[h1 (amP hm JF),acd,JF] at h;cases h
theorem KS {more:UInt8} {s:ByteArray} {it:Nat} {ty:TypeId} {h0 h1:aj} (hm:more.toNat<128) (hit:h1[it]? =some (.stringIter s 0)) (hge:h0.size<=it) (f1:Fr No h0 h1) (hk: ∀h',Fr No h0 h'->R (.bool (xd more s)) h'):
  ∃(I:aj->Prop) (mu:aj->Nat),I h1/\∀g,I g->aX Tryz.prog (Instr.next (.P it 0) true ty) g λv g1=>
   (v=.tuple #[.bool false]/\R (.bool true) g1)\/∃(a b:Value),v=.tuple #[.bool true,a,b]/\∃(c:Int),b=.int .i32 c/\if np (more.toNat:Int) c=true then R (.bool false) g1 else(I g1/\mu g1<mu g):=by
 refine⟨λg=> ∃pos,g[it]? =some (.stringIter s pos)/\Fr No h0 g/\pos<=s.size/\(s.data.toList.take pos).all (pl more)=true,λg=>(match g[it]? with|some (.stringIter _ p)=>s.size - p|_=>0),⟨0,hit,f1,cp _,by simp⟩,?_⟩;rintro g ⟨pos,hg,fg,hle,kA⟩;refine aal hg (λaqq=> .inl ⟨rfl,?_⟩) (λjc g1 hg1 EZ ho1=> .inr ⟨_,_,rfl,_,rfl,?_⟩)
 ·have:xd more s=true:=by
   unfold xd;rw[bT (by show s.data.toList.length<=pos;exact aqq)] at kA;exact kA
  rw[<-this];exact hk g fg
 ·have fg1:Fr No h0 g1:=fg.fresh (S:=λc=>c=it) ⟨by omega,λc _ hn=>ho1 c hn⟩ (λc e=>by omega);cases hn:np (more.toNat:Int) ((Utf8.decode s pos).1:Int) with
  |true=>
   rw[ag rfl,<-afZ hm jc hn];exact hk g1 fg1
  |false=>
   rw[ai (by simp)];obtain⟨h1,h2⟩:=ac0 hm jc hn;rw[h2] at hg1;refine⟨⟨pos+1,hg1,fg1,jc,?_⟩,?_⟩
   ·rw[bZ,byte_at jc,List.all_append,kA];show(true && (pl more (s.data.toList.getD pos 0) && true))=true;rw[h1];rfl
   ·simp only[hg,hg1];omega
theorem UQ {s:ByteArray} (hk: ∀h',Fr No h h'->R (.bool (xd 45 s)) h'):Cl F.pq #[.string s,.int .i32 45] h R:=by
 refine pq.host.walk (JV (by kernel_rfl) λr h1 hr hit f1=>⟨_,rfl,?_⟩);obtain⟨I,mu,h2,h3⟩:=KS (more:=45) (ty:=T.J0) (by decide) hit (by omega) f1 hk;refine⟨I,mu,h2,λg hg=>su _ _ (λv g1 hv=> ?_) (h3 g hg)⟩;rcases hv with hv|⟨a,b,e,c,e2,hv⟩
 ·exact .inl hv
 ·refine .inr ⟨a,b,e,c,e2,aK.of λJ hJ=> ?_⟩;have key:J (np 45 c) g1:=by subst hJ;exact hv
  clear hJ hv;unfold np at key;revert key;generalize decide (c<97)=b1;generalize decide (c>122)=b2;generalize decide (c<48)=b3;generalize decide (c>57)=b4;generalize (c !=45)=b5;intro key;cases b1<;>cases b2<;>cases b3<;>cases b4<;>cases b5<;>exact key
theorem R6 {s:ByteArray} (hk: ∀h',Fr No h h'->R (.bool (xd 47 s)) h'):Cl F.pq #[.string s,.int .i32 47] h R:=by
 refine pq.aml.walk (JV (by kernel_rfl) λr h1 hr hit f1=>⟨_,rfl,?_⟩);obtain⟨I,mu,h2,h3⟩:=KS (more:=47) (ty:=T.J0) (by decide) hit (by omega) f1 hk;refine⟨I,mu,h2,λg hg=>su _ _ (λv g1 hv=> ?_) (h3 g hg)⟩;rcases hv with hv|⟨a,b,e,c,e2,hv⟩
 ·exact .inl hv
 ·refine .inr ⟨a,b,e,c,e2,aK.of λJ hJ=> ?_⟩;have key:J (np 47 c) g1:=by subst hJ;exact hv
  clear hJ hv;unfold np at key;revert key;generalize decide (c<97)=b1;generalize decide (c>122)=b2;generalize decide (c<48)=b3;generalize decide (c>57)=b4;generalize (c !=45)=b5;generalize (c !=47)=b6;intro key;cases b1<;>cases b2<;>cases b3<;>cases b4<;>cases b5<;>cases b6<;>exact key
abbrev Ev.at (h:aj) (b:Nat) (x:Ev):Prop:=az.at h b x.vE x.node x.ma x.host x.sN
theorem ic (x:Ev) (hk: ∀h',Fr No h h'->R (.bool (dk x)) h'):Cl F.kF #[.agg #[.bool x.vE,.U x.node,.U x.ma,.string x.host,.string x.sN]] h R:=by
 refine kF.walk (az.box λb h1 eb hb f1=>az.ld hb ⟨_,IE (y:=.zero) (x:=x) rfl rfl,?_⟩);have K:=hk h1 f1;unfold dk at K;by_cases h0:x=.zero
 ·rw[ag (ay h0)];rw[ag h0] at K;exact K
 ·rw[ai (by simpa using h0)];rw[ai h0] at K;refine⟨_,af hb rfl,?_⟩;by_cases hi:x.vE=true
  ·rw[ag hi];rw[ag hi] at K;refine az.ld hb ⟨_,af hb rfl,_,af hb rfl,_,IE (y:=⟨true,x.node,x.ma,⟨#[]⟩,⟨#[]⟩⟩) (x:=x) rfl rfl,?_⟩;by_cases he:x=⟨true,x.node,x.ma,⟨#[]⟩,⟨#[]⟩⟩
   ·have e1:x.host=⟨#[]⟩:=bp Ev.host he;have e2:x.sN=⟨#[]⟩:=bp Ev.sN he;rw[ag (ay he)];refine⟨_,af hb rfl,?_⟩;by_cases q1:x.node≥1
    ·rw[ag (ay q1)];refine⟨_,af hb rfl,?_⟩;by_cases q2:x.node<=4294967295
     ·rw[ag (ay q2)];refine⟨_,af hb rfl,?_⟩;have q1':1<=x.node:=q1;simp only[e1,e2,q1',q2,true_and] at K;exact K
     ·rw[ai (by simpa using q2)];simp only[q2,false_and,and_false,decide_false] at K;exact K
    ·rw[ai (by simpa using q1)];have q1': ¬1<=x.node:=q1;simp only[q1',false_and,and_false,decide_false] at K;exact K
   ·rw[ai (by simpa using he)];have: ¬(x.host=⟨#[]⟩/\x.sN=⟨#[]⟩/\1<=x.node/\x.node<=4294967295/\x.ma<=4294967295):=λ⟨a,b,_⟩=>he (Ev.ext' hi rfl rfl a b)
    rw[decide_eq_false this] at K;exact K
  ·have hi':x.vE=false:=by simpa using hi
   rw[ai hi];rw[ai hi] at K;refine az.ld hb ⟨_,af hb rfl,_,af hb rfl,_,IE (y:=⟨false,0,0,x.host,x.sN⟩) (x:=x) rfl rfl,?_⟩;by_cases he:x=⟨false,0,0,x.host,x.sN⟩
   ·have e1:x.node=0:=bp Ev.node he;have e2:x.ma=0:=bp Ev.ma he;rw[ag (ay he)];refine⟨_,af hb rfl,?_⟩;simp only[e1,e2,true_and] at K;by_cases q1:1<=x.host.size
    ·rw[jy];refine⟨_,af hb rfl,?_⟩;by_cases q2:x.host.size<=16
     ·rw[jy];refine⟨_,af hb rfl,?_⟩;by_cases q3:x.sN.size<=24
      ·rw[jy];simp only[q1,q2,q3,and_self,decide_true,fv] at K;refine⟨_,af hb rfl,UQ λh2 f2=>⟨_,rfl,?_⟩⟩;have fJ:=f2.get hb id;by_cases q4:xd 45 x.host=true
       ·rw[ag q4];refine⟨_,af fJ rfl,R6 λh3 f3=>⟨_,rfl,?_⟩⟩;have:=hk h3 (f1.tt (f2.tt f3));unfold dk at this;rw[ai h0,ai hi,q4] at this;simp only[e1,e2,q1,q2,q3,and_self,decide_true,fv] at this;exact this
       ·rw[ai q4];have:=hk h2 (f1.tt f2);unfold dk at this;have q4:xd 45 x.host=false:=by simpa using q4
        rw[ai h0,ai hi,q4] at this;simp only[gL,Bool.and_false] at this;exact this
      ·rw[ai (by simp;omega)];simp only[q3,and_false,decide_false,gL] at K;exact K
     ·rw[ai (by simp;omega)];simp only[q2,false_and,and_false,decide_false,gL] at K;exact K
    ·rw[ai (by simp;omega)];simp only[q1,false_and,and_false,decide_false,gL] at K;exact K
   ·rw[ai (by simpa using he)];have: ¬(x.node=0/\x.ma=0/\1<=x.host.size/\x.host.size<=16/\x.sN.size<=24):=λ⟨a,b,_⟩=>he (Ev.ext' hi' a b rfl rfl)
    rw[decide_eq_false this,gL] at K;exact K
end qJ
end
section
variable {h:aj} {R:iI}
theorem Co.walk (hv:aV h (.map #[] 0) λb aR=>aV aR (.cells #[.map (some b)] T.Ey) λcE aZ=>R (.P cE 0) aZ):Cl F.Co #[] h R:=aS (lq ll) Tryz.func36 hv
theorem jN.walk {t:Nat} (hv: ∃t9,ak h (AA t 0)=some (.map t9)/\R (.bool (!t9.isNone)) h):Cl F.jN #[.P t 0] h R:=aS (lq ll) Tryz.func130 hv
theorem px.walk {n:Int} (hv:if(decide (n≥0)) then R (.bool (decide (n<=2))) h else R (.bool false) h):Cl F.px #[.I n] h R:=aS (lq ll) Tryz.func149 hv
theorem wW.walk {r_0:Bool} {r_1:Int} {r_2:Int} {r_3:ByteArray} {r_4:ByteArray} {r_5:Int} {r_6:Int} (hv:aV h (.cells #[.bool r_0,.U r_1,.U r_2,.string r_3,.string r_4,.I r_5,.I r_6] T.bJ) λb aR=>az.LD aR (AA b 0) λO5 O6 Uo Uq Ur=>Cl F.kF #[.agg #[.bool O5,.U O6,.U Uo,.string Uq,.string Ur]] aR λv aZ=> ∃t5,v=.bool t5/\if t5 then az.LD aZ (AA b 0) λMn GS Mo ac1 ac2=> ∃(eq:Bool),Hq Tryz.prog T.az (.agg #[.bool Mn,.U GS,.U Mo,.string ac1,.string ac2]) (.agg #[.bool false,.U 0,.U 0,.string ka,.string ka]) eq/\if(!eq) then Hi aZ b 5 λt14=>Cl F.px #[.I t14] aZ λeK bK=> ∃t15,eK=.bool t15/\if t15 then∃t19,ak bK (AA b 6)=some (.I t19)/\if(decide (t19≥1)) then∃t24,ak bK (AA b 6)=some (.I t24)/\R (.bool (decide (t24<=1099511627776))) bK else R (.bool false) bK else R (.bool false) bK else R (.bool false) aZ else R (.bool false) aZ):Cl F.wW #[.agg #[.bool r_0,.U r_1,.U r_2,.string r_3,.string r_4,.I r_5,.I r_6]] h R:=aS (lq ll) Tryz.func147 hv
theorem qe.walk {t:Nat} {r_0:Bool} {r_1:Int} {r_2:Int} {r_3:ByteArray} {r_4:ByteArray} {r_5:Int} {r_6:Int} (hv:aV h (.cells #[.bool r_0,.U r_1,.U r_2,.string r_3,.string r_4,.I r_5,.I r_6] T.bJ) λb aR=>Cl F.jN #[.P t 0] aR λv aZ=> ∃t8,v=.bool t8/\if(!t8) then R (.I 6) aZ else∃t14,ak aZ (AA t 0)=some (.map t14)/\az.LD aZ (AA b 0) λvM rP Nu HY Nv=> ∃WL WM WN WO WQ WR WS xr,mD Tryz.prog T.gZ (.map t14) (.agg #[.bool vM,.U rP,.U Nu,.string HY,.string Nv]) true aZ (.tuple #[.agg #[.bool WL,.U WM,.U WN,.string WO,.string WQ,.I WR,.I WS],.bool xr])/\aV aZ (.cells #[.bool false,.U 0,.U 0,.string ka,.string ka,.I 0,.I 0] T.bJ) λcE bK=>sP (.map t14) aZ bK/\fF (AA b 0) [.bool vM,.U rP,.U Nu,.string HY,.string Nv] 0 bK/\ak bK (AA t 0)=some (.map t14)/\bJ.ST bK (AA cE 0) WL WM WN WO WQ WR WS λcC=>bJ.LD cC (AA b 0) λui uj FL R7 R8 R9 ac3=>Cl F.wW #[.agg #[.bool ui,.U uj,.U FL,.string R7,.string R8,.I R9,.I ac3]] cC λeK cK=> ∃t22,eK=.bool t22/\if(!t22) then R (.I 1) cK else if xr then R (.I 11) cK else∃t30,ak cK (AA t 0)=some (.map t30)/\∃t31:Int,afe Tryz.prog #[T.gZ] T.int (.map t30) cK (.I t31)/\if(decide (t31≥8)) then R (.I 15) cK else∃t36,ak cK (AA t 0)=some (.map t36)/\az.LD cK (AA b 0) λHX xm amQ Nc amR=>bJ.LD cK (AA b 0) λacA FB amS acB amT amU amV=>aX Tryz.prog (Instr.mapUpdate T.gZ (.map t36) (.agg #[.bool HX,.U xm,.U amQ,.string Nc,.string amR]) (.agg #[.bool acA,.U FB,.U amS,.string acB,.string amT,.I amU,.I amV])) cK λ_ cR=>R (.I 0) cR):Cl F.qe #[.P t 0,.agg #[.bool r_0,.U r_1,.U r_2,.string r_3,.string r_4,.I r_5,.I r_6]] h R:=aS (lq (sq (lq (cq ll lf)) (sq (pN 13) (sq (bq (lq (cq ll (lq (cq ll (lq (cq ll lf))))))) (sq (pN 8) ll))))) Tryz.func97 hv
theorem nV.walk {t:Nat} {dP:Bool} {dQ:Int} {dR:Int} {dS:ByteArray} {dU:ByteArray} {owner:Int} (hv:aV h (.cells #[.bool dP,.U dQ,.U dR,.string dS,.string dU] T.az) λb aR=>aV aR (.cells #[.bool false,.U 0,.U 0,.string ka,.string ka,.I 0,.I 0] T.bJ) λcE aZ=>Cl F.jN #[.P t 0] aZ λv bK=> ∃t11,v=.bool t11/\if(!t11) then bJ.ST bK (AA cE 0) false 0 0 ka ka 0 0 λcC=>bJ.LD cC (AA cE 0) λoQ ia oT pH yR KT UR=>R (.tuple #[.agg #[.bool oQ,.U ia,.U oT,.string pH,.string yR,.I KT,.I UR],.I 6]) cC else∃t18,ak bK (AA t 0)=some (.map t18)/\az.LD bK (AA b 0) λzH vJ aih RR aii=> ∃WT WU WV WW WX WY WZ uk,mD Tryz.prog T.gZ (.map t18) (.agg #[.bool zH,.U vJ,.U aih,.string RR,.string aii]) true bK (.tuple #[.agg #[.bool WT,.U WU,.U WV,.string WW,.string WX,.I WY,.I WZ],.bool uk])/\aV bK (.cells #[.bool false,.U 0,.U 0,.string ka,.string ka,.I 0,.I 0] T.bJ) λeZ cK=>sP (.map t18) bK cK/\fF (AA b 0) [.bool zH,.U vJ,.U aih,.string RR,.string aii] 0 cK/\ak cK (AA t 0)=some (.map t18)/\bJ.ST cK (AA eZ 0) WT WU WV WW WX WY WZ λcR=>if(!uk) then bJ.ST cR (AA cE 0) false 0 0 ka ka 0 0 λcX=>bJ.LD cX (AA cE 0) λnG nH uC xt xu AP KU=>R (.tuple #[.agg #[.bool nG,.U nH,.U uC,.string xt,.string xu,.I AP,.I KU],.I 4]) cX else∃t29,ak cR (AA eZ 6)=some (.I t29)/\if(t29 !=owner) then bJ.ST cR (AA cE 0) false 0 0 ka ka 0 0 λdB=>bJ.LD dB (AA cE 0) λAQ AR KV US UU UW ajW=>R (.tuple #[.agg #[.bool AQ,.U AR,.U KV,.string US,.string UU,.I UW,.I ajW],.I 13]) dB else bJ.LD cR (AA eZ 0) λNw FM ac4 ac5 ac6 amW amX=>bJ.ST cR (AA cE 0) Nw FM ac4 ac5 ac6 amW amX λff=>bJ.LD ff (AA cE 0) λKW KX KY UX UY UZ ajX=>R (.tuple #[.agg #[.bool KW,.U KX,.U KY,.string UX,.string UY,.I UZ,.I ajX],.I 0]) ff):Cl F.nV #[.P t 0,.agg #[.bool dP,.U dQ,.U dR,.string dS,.string dU],.I owner] h R:=aS (lq (sq (lq (cq ll lf)) (sq (pN 12) (sq (bq (lq (cq ll (lq (cq ll lf))))) ll)))) Tryz.func148 hv
theorem mV.walk {t:Nat} {dP:Bool} {dQ:Int} {dR:Int} {dS:ByteArray} {dU:ByteArray} {owner:Int} (hv:aV h (.cells #[.bool dP,.U dQ,.U dR,.string dS,.string dU] T.az) λb aR=>az.LD aR (AA b 0) λpR tD Wo amY amZ=>Cl F.nV #[.P t 0,.agg #[.bool pR,.U tD,.U Wo,.string amY,.string amZ],.I owner] aR λv aZ=> ∃W0 W1 W2 W3 W4 W5 W6 vO,v=.tuple #[.agg #[.bool W0,.U W1,.U W2,.string W3,.string W4,.I W5,.I W6],.I vO]/\aV aZ (.cells #[.bool false,.U 0,.U 0,.string ka,.string ka,.I 0,.I 0] T.bJ) λcE bK=>bJ.ST bK (AA cE 0) W0 W1 W2 W3 W4 W5 W6 λcC=>aK (λ(cK:aj)=>R (.I vO) cK) (λJ=>if(vO==0) then∃t21,ak cC (AA t 0)=some (.map t21)/\az.LD cC (AA b 0) λzM vm W7 Wy am0=>aX Tryz.prog (Builtin.delete_ #[T.gZ,T.az] T.J0 #[.map t21,.agg #[.bool zM,.U vm,.U W7,.string Wy,.string am0]]) cC λeK cR=>eK=.tuple #[]/\J cR else J cC)):Cl F.mV #[.P t 0,.agg #[.bool dP,.U dQ,.U dR,.string dS,.string dU],.I owner] h R:=aS (lq (lq (sq (lq (.join [] (cq (pN 6) lf))) ll))) Tryz.func98 hv
theorem mX.walk {t:Nat} {dP:Bool} {dQ:Int} {dR:Int} {dS:ByteArray} {dU:ByteArray} {owner:Int} {U0:Int} (hv:aV h (.cells #[.bool dP,.U dQ,.U dR,.string dS,.string dU] T.az) λb aR=>aK (λ(t17:Bool) (aZ:aj)=>if t17 then R (.I 1) aZ else az.LD aZ (AA b 0) λrU uk W8 am1 am2=>Cl F.nV #[.P t 0,.agg #[.bool rU,.U uk,.U W8,.string am1,.string am2],.I owner] aZ λv bK=> ∃W9 Xa Xb Xc Xd Xe Xf vm,v=.tuple #[.agg #[.bool W9,.U Xa,.U Xb,.string Xc,.string Xd,.I Xe,.I Xf],.I vm]/\aV bK (.cells #[.bool false,.U 0,.U 0,.string ka,.string ka,.I 0,.I 0] T.bJ) λcE cC=>bJ.ST cC (AA cE 0) W9 Xa Xb Xc Xd Xe Xf λcK=>aK (λ(cR:aj)=>R (.I vm) cR) (λjo=>if(vm==0) then aH cK (AA cE 5) (.I U0) λcX=> ∃t32,ak cX (AA t 0)=some (.map t32)/\az.LD cX (AA b 0) λNw FM ac4 ac5 ac6=>bJ.LD cX (AA cE 0) λKr Ks am3 am4 am5 am6 am7=>aX Tryz.prog (Instr.mapUpdate T.gZ (.map t32) (.agg #[.bool Nw,.U FM,.U ac4,.string ac5,.string ac6]) (.agg #[.bool Kr,.U Ks,.U am3,.string am4,.string am5,.I am6,.I am7])) cX λ_ dB=>jo dB else jo cK)) (λJ=>Cl F.jN #[.P t 0] aR λeK ff=> ∃t12,eK=.bool t12/\if t12 then Cl F.px #[.I U0] ff λgS cQ=> ∃t15,gS=.bool t15/\J (!t15) cQ else J false ff)):Cl F.mX #[.P t 0,.agg #[.bool dP,.U dQ,.U dR,.string dS,.string dU],.I owner,.I U0] h R:=aS (lq (sq (sq (.join [(17,.one (.bool))] lf) (cq ll lf)) (lq (sq (lq (.join [] (cq (lq (pN 7)) lf))) ll)))) Tryz.func100 hv
theorem mN.walk {t:Nat} {dP:Bool} {dQ:Int} {dR:Int} {dS:ByteArray} {dU:ByteArray} (hv:aV h (.cells #[.bool dP,.U dQ,.U dR,.string dS,.string dU] T.az) λb aR=>aV aR (.cells #[.bool false,.U 0,.U 0,.string ka,.string ka,.I 0,.I 0] T.bJ) λcE aZ=>Cl F.jN #[.P t 0] aZ λv bK=> ∃t9,v=.bool t9/\if(!t9) then bJ.ST bK (AA cE 0) false 0 0 ka ka 0 0 λcC=>bJ.LD cC (AA cE 0) λoQ ia oT pH yR KT UR=>R (.tuple #[.agg #[.bool oQ,.U ia,.U oT,.string pH,.string yR,.I KT,.I UR],.bool false]) cC else∃t16,ak bK (AA t 0)=some (.map t16)/\az.LD bK (AA b 0) λyy xr Sa aij aik=> ∃Xh Xi Xj Xk Xl Xm Xn vj,mD Tryz.prog T.gZ (.map t16) (.agg #[.bool yy,.U xr,.U Sa,.string aij,.string aik]) true bK (.tuple #[.agg #[.bool Xh,.U Xi,.U Xj,.string Xk,.string Xl,.I Xm,.I Xn],.bool vj])/\aV bK (.cells #[.bool false,.U 0,.U 0,.string ka,.string ka,.I 0,.I 0] T.bJ) λeZ cK=>sP (.map t16) bK cK/\fF (AA b 0) [.bool yy,.U xr,.U Sa,.string aij,.string aik] 0 cK/\ak cK (AA t 0)=some (.map t16)/\bJ.ST cK (AA eZ 0) Xh Xi Xj Xk Xl Xm Xn λcR=>bJ.LD cR (AA eZ 0) λui uj FL R7 R8 R9 ac3=>bJ.ST cR (AA cE 0) ui uj FL R7 R8 R9 ac3 λcX=>bJ.LD cX (AA cE 0) λnG nH uC xt xu AP KU=>R (.tuple #[.agg #[.bool nG,.U nH,.U uC,.string xt,.string xu,.I AP,.I KU],.bool vj]) cX):Cl F.mN #[.P t 0,.agg #[.bool dP,.U dQ,.U dR,.string dS,.string dU]] h R:=aS (lq (sq (lq (cq ll lf)) (sq (pN 12) ll))) Tryz.func155 hv
end
end Go.Proofs.YtlenamcfacpheaaGreatDoor
