/-
  TU is proved here: parts of Jr proof, one behind Jr other (texts of this work, merged by a program; ZU Jr theorem ZV not use is left out). No condition.
-/
import Derived.Test.YtlenamcfacpheaaGreatDoorMAsesb
set_option maxRecDepth 100000
set_option maxHeartbeats 4000000
namespace Go.Proofs.YtlenamcfacpheaaGreatDoor
open Go.Den
open IntKind (wrap)
open Int (toNat)
section
open Go.rN
namespace cp
theorem tm : Cd Tryz.prog T.jI (.int .i64 0) := .of T.int T.int .i64 (by kernel_rfl) (by kernel_rfl) (by kernel_rfl)
def enc (es:List E):List Value:=es.flatMap λe=> [.int .i64 e.1,.int .u64 e.2]
theorem zI (e:E) (es:List E):enc (e::es)=.I e.1:: .U e.2::enc es:=rfl
theorem rW: ∀es:List E,(enc es).length=es.length*2
 | []=>rfl
 |e::es=>by rw[zI];simp only[bj,rW es];omega
theorem UB (es fs:List E):enc (es++fs)=enc es++enc fs:=by simp[enc]
theorem ahZ: ∀ {es:List E} {i:Nat},i<es.length->(enc es)[i*2]? =some (.I (at_ es i).1)
 | [],_,h=>by simp at h
 |e::es,0,_=>rfl
 |e::es,i+1,h=>by
  rw[zI,show(i+1)*2=i*2+1+1 by omega,eM,eM,ahZ (by simpa using h)];rfl
theorem ah0: ∀ {es:List E} {i:Nat},i<es.length->(enc es)[i*2+1]? =some (.U (at_ es i).2)
 | [],_,h=>by simp at h
 |e::es,0,_=>rfl
 |e::es,i+1,h=>by
  rw[zI,show(i+1)*2+1=i*2+1+1+1 by omega,eM,eM,ah0 (by simpa using h)];rfl
theorem Wp: ∀(es:List E) (i:Nat) (x:E),((enc es).set (i*2) (.I x.1)).set (i*2+1) (.U x.2)=enc (es.set i x)
 | [],_,_=>by simp[enc]
 |e::es,0,x=>rfl
 |e::es,i+1,x=>by
  rw[zI,show(i+1)*2=i*2+1+1 by omega,List.set_cons_succ,List.set_cons_succ,List.set_cons_succ,List.set_cons_succ,Wp es i x];rfl
theorem RO: ∀(es:List E) (n:Nat),(enc es).take (n*2)=enc (es.take n)
 | [],n=>by simp[enc]
 |e::es,0=>by simp[enc]
 |e::es,n+1=>by
  rw[zI,show(n+1)*2=n*2+1+1 by omega,jb,jb,RO es n];rfl
theorem Wq: ∀(es:List E),∀v∈enc es,jg v=true
 | [],_,h=>by cases h
 |e::es,v,h=>by
  rw[zI] at h;rcases bP.1 h with rfl|h
  ·rfl
  ·rcases bP.1 h with rfl|h
   ·rfl
   ·exact Wq es v h
structure Mem (h:aj) (a:Nat) (p:bU) (cap m:Nat) (es:List E) (g:Int->Option Value):Prop where
 dE:h[a]? =some (.cells #[.slice p es.length cap,.map (some m)] T.Cr (0,0))
 own:iR h p es.length cap 2 (enc es)
 map:xS h m g
 ne: ¬aQ p a
def Kv (a:Nat) (p:bU) (m:Nat) (c:Nat):Prop:=c=a\/c=m\/aQ p c
def inner (p:bU) (m:Nat) (c:Nat):Prop:=c=m\/aQ p c
variable {h : aj} {a m cap : Nat} {p : Option Addr} {es : List E} {g : Int → Option Value} {R : Value → aj → Prop}
theorem Mem.am (M:Mem h a p cap m es g):a≠m:=by
 rintro rfl;obtain⟨x,c,hm⟩:=M.map.map;rw[M.dE] at hm;cases hm
theorem Mem.pm (M:Mem h a p cap m es g): ¬aQ p m:=λhb=>by
 obtain⟨x,c,hm⟩:=M.map.map;obtain⟨y,t,hc⟩:=M.own.cells hb;rw[hc] at hm;cases hm
theorem Mem.lt (M:Mem h a p cap m es g) {c:Nat} (hc:Kv a p m c):c<h.size:=by
 rcases hc with rfl|rfl|hc
 ·exact aI M.dE
 ·exact M.map.lt
 ·exact M.own.gm hc
theorem Mem.frame {S:Nat->Prop} {h':aj} (M:Mem h a p cap m es g) (hf:Fr S h h') (hn: ∀c,Kv a p m c->¬S c):Mem h' a p cap m es g:=
 ⟨hf.get M.dE (hn a (.inl rfl)),M.own.frame hf λc hc=>hn c (.inr (.inr hc)),M.map.frame hf (hn m (.inr (.inl rfl))),M.ne⟩
theorem Mem.calm {h':aj} (M:Mem h a p cap m es g) (hf:Fr No h h'):Mem h' a p cap m es g:=M.frame hf λ_ _=>id
theorem Mem.hd (M:Mem h a p cap m es g):ak h (AA a 0)=some (.slice p es.length cap):=af M.dE rfl
theorem Mem.mp (M:Mem h a p cap m es g):ak h (AA a 1)=some (.map (some m)):=af M.dE rfl
theorem Mem.some (M:Mem h a p cap m es g) (hn:0<es.length): ∃ad,p=some ad:=by
 obtain⟨b,off,hp⟩:=M.own.some (by rw[rW];omega);exact⟨_,hp⟩
theorem Mem.c0 {ad:Addr} (M:Mem h a (.some ad) cap m es g) {i:Nat} (hi:i<es.length):ak h (ad.add (i*2))=.some (.I (at_ es i).1):=M.own.cell (ahZ hi)
theorem Mem.c1 {ad:Addr} (M:Mem h a (.some ad) cap m es g) {i:Nat} (hi:i<es.length):ak h ((ad.add (i*2)).add 1)=.some (.U (at_ es i).2):=by
 rw[add_add];exact M.own.cell (ah0 hi)
theorem Fy {x0 x1 y0 y1:Int} (hk: ∀h',Fr No h h'->R (.bool (decide (lt (x0,x1) (y0,y1)))) h'):
  Cl F.oD #[.agg #[.I x0,.U x1],.agg #[.I y0,.U y1]] h R:=by
 refine oD.walk ?_;rintro b h1 rfl rfl b1 h2 rfl rfl;have f:Fr No h ((h.push (.cells #[.I x0,.U x1] T.du)).push (.cells #[.I y0,.U y1] T.du)):=Fr.tt (Fr.push _ _) (Fr.push _ _);have hx:=JJ (x:=.cells #[.I y0,.U y1] T.du) (cz (h:=h) (x:=.cells #[.I x0,.U x1] T.du));have hy:=cz (h:=h.push (.cells #[.I x0,.U x1] T.du)) (x:=.cells #[.I y0,.U y1] T.du);have hr:=hk _ f;refine⟨x1,af hx rfl,y1,af hy rfl,?_⟩;by_cases h1:x1<y1
 ·have e:decide (lt (x0,x1) (y0,y1))=true:=by simp[lt,h1]
  rw[e] at hr;simpa only[h1,decide_true,bA] using hr
 ·simp only[h1,decide_false,aA,aU];refine⟨x1,af hx rfl,y1,af hy rfl,?_⟩;by_cases h2:x1=y1
  ·subst h2;simp only[beq_self_eq_true,bA];refine⟨x0,af hx rfl,y0,af hy rfl,?_⟩;have e:decide (lt (x0,x1) (y0,x1))=decide (x0<y0):=by simp[lt]
   rw[e] at hr;exact hr
  ·have e:decide (lt (x0,x1) (y0,y1))=false:=by simp[lt,h1,h2]
   rw[e] at hr;simpa only[beq_eq_false_iff_ne.2 h2,aA,aU] using hr
theorem GI (M:Mem h a p cap m es g) {i:Nat} (hi:i<es.length) {x0 x1:Int}
  (hk: ∀h',Mem h' a p cap m (es.set i (x0,x1)) (λk=>if k=x0 then some (.I i) else g k)->Fr (inner p m) h h'->R (.tuple #[]) h'):
  Cl F.gp #[.P a 0,.I i,.agg #[.I x0,.U x1]] h R:=by
 obtain⟨ad,rfl⟩:=M.some (by omega);refine gp.walk ?_;rintro b h1 hb rfl;have f1:Fr No h (h.push (.cells #[.I x0,.U x1] T.du)):=Fr.push _ _;have M1:=M.calm f1;have hx:=cz (h:=h) (x:=.cells #[.I x0,.U x1] T.du);rw[<-hb] at hx;generalize h.push (.cells #[.I x0,.U x1] T.du)=h1 at f1 M1 hx;have hbn: ∀c,Kv a (some ad) m c->b≠c:=λc hc e=>by have:=M.lt hc;omega
 refine⟨_,_,_,M1.hd,x0,af hx rfl,x1,af hx rfl,⟨by omega,by omega⟩,aB.2 ?_⟩;rw[aL,add_add];have hl:=rW es;refine M1.own.store (by omega) λh2 o2 s2 k2=>o2.store (by rw[eU];omega) λh3 o3 s3 k3=> ?_
 rw[Wp es i (x0,x1)] at o3;have f2:Fr (aQ (some ad)) h1 h3:=Fr.tt (Fr.of_eq s2 k2) (Fr.of_eq s3 k3);have hx3:=f2.get hx (λhc=>hbn b (.inr (.inr hc)) rfl);have kR:=f2.get M1.dE M.ne;refine⟨_,af kR rfl,x0,af hx3 rfl,?_⟩;refine wJ tm (M1.map.frame f2 M.pm) λh4 m4 s4 k4=>hk h4 ⟨?_,?_,m4,M.ne⟩ ?_
 ·rw[k4 a M.am,kR,eU]
 ·rw[eU];exact o3.frame (Fr.of_eq (S:=λc=>c=m) s4 k4) (λc hc e=>M.pm (e▸hc))
 ·exact Fr.no f1 ((f2.mono λc _ hc=> .inr hc).trans (Fr.of_eq (S:=λc=>c=m) s4 k4) (λ_ _=>id) (λ_ _ hc=> .inl hc))
theorem ah1 {h:aj} {t:TypeId} {z0 z1 x0 x1 y0 y1:Value} {G1 G2 G3 G4:aj->Prop} {J:bU->bU->aj->Prop}
  (hG: ∀h',Fr No h h'->G1 h'/\G2 h'/\G3 h'/\G4 h')
  (hJ: ∀b b' h',h'[b]? =some (.cells #[x0,x1] t (0,0))->h'[b']? =some (.cells #[y0,y1] t (0,0))->h.size<=b->h.size<=b'->Fr No h h'->J (some (AA b 0)) (some (AA b' 0)) h'):
  (aV h (.cells #[z0,z1] t) λb cQ=>G1 cQ/\G2 cQ/\G3 cQ/\G4 cQ/\aV cQ (.cells #[z0,z1] t) λcD cW=>G1 cW/\G2 cW/\G3 cW/\G4 cW/\
   aH cW (AA b 0) x0 λdA=>aH dA (AA b 1) x1 λfc=>G1 fc/\G2 fc/\aH fc (AA cD 0) y0 λcP=>aH cP (AA cD 1) y1 λcV=>J (some (AA b 0)) (some (AA cD 0)) cV)/\
  (aV h (.cells #[z0,z1] t) λb cQ=>G1 cQ/\G2 cQ/\G3 cQ/\G4 cQ/\aV cQ (.cells #[z0,z1] t) λcD cW=>G1 cW/\G2 cW/\G3 cW/\G4 cW/\
   aH cW (AA cD 0) x0 λdA=>aH dA (AA cD 1) x1 λfc=>G1 fc/\G2 fc/\aH fc (AA b 0) y0 λcP=>aH cP (AA b 1) y1 λcV=>J (some (AA cD 0)) (some (AA b 0)) cV)/\True:=by
 have key: ∀(b b':Nat) (h7:aj),b≠b'->h.size<=b->h.size<=b'->Fr No h h7->h7[b]? =some (.cells #[z0,z1] t (0,0))->h7[b']? =some (.cells #[z0,z1] t (0,0))->
   aH h7 (AA b 0) x0 λdA=>aH dA (AA b 1) x1 λfc=>G1 fc/\G2 fc/\aH fc (AA b' 0) y0 λcP=>aH cP (AA b' 1) y1 λcV=>J (some (AA b 0)) (some (AA b' 0)) cV:=by
  intro b b' h7 kA hb wF f7 c7 c7';have fr: ∀ {h1 h2:aj} {x:Nat},Fr No h h1->h.size<=x->h2.size=h1.size->(∀y,y≠x->h2[y]? =h1[y]?)->Fr No h h2:=λf hx hs ho=>
   ⟨by have:=f.1;omega,λc hc hn=>by rw[ho c (by omega)];exact f.2 c hc hn⟩
  refine bL c7 (by simp) λh8 c8 s8 k8=>bL c8 (by simp) λh9 c9 s9 k9=> ?_
  have f9:=fr (fr f7 hb s8 k8) hb s9 k9;have c9':h9[b']? =some (.cells #[z0,z1] t (0,0)):=by rw[k9 _ kA.symm,k8 _ kA.symm];exact c7'
  refine⟨(hG _ f9).1,(hG _ f9).2.1,bL c9' (by simp) λvj Ws s10 Na=>bL Ws (by simp) λyi c11 s11 k11=> ?_⟩;refine hJ b b' yi ?_ c11 hb wF (fr (fr f9 wF s10 Na) wF s11 k11);rw[k11 _ kA,Na _ kA];exact c9
 have f1: ∀o,Fr No h (h.push o):=λo=>Fr.push _ _
 refine⟨?_,?_,trivial⟩
 ·rintro b h1 rfl rfl;obtain⟨g1,g2,g3,g4⟩:=hG _ (f1 _);refine⟨g1,g2,g3,g4,?_⟩;rintro b' h2 rfl rfl;have f2:=Fr.tt (f1 (.cells #[z0,z1] t)) (Fr.push (h.push (.cells #[z0,z1] t)) (.cells #[z0,z1] t));obtain⟨g1,g2,g3,g4⟩:=hG _ f2;exact⟨g1,g2,g3,g4,key _ _ _ (by simp) (by simp) (by simp) f2 (JJ cz) cz⟩
 ·rintro b h1 rfl rfl;obtain⟨g1,g2,g3,g4⟩:=hG _ (f1 _);refine⟨g1,g2,g3,g4,?_⟩;rintro b' h2 rfl rfl;have f2:=Fr.tt (f1 (.cells #[z0,z1] t)) (Fr.push (h.push (.cells #[z0,z1] t)) (.cells #[z0,z1] t));obtain⟨g1,g2,g3,g4⟩:=hG _ f2;exact⟨g1,g2,g3,g4,key _ _ _ (by simp) (by simp) (by simp) f2 cz (JJ cz)⟩
end cp
end
section
open Go.rN
namespace cp
variable {h:aj} {a m cap:Nat} {p:bU} {es:List E} {g:Int→Option Value} {R:iI}
theorem ajU {q:Nat} (hq:q<1000000):IntKind.wrap .i64 (Int.tdiv (IntKind.wrap .i64 ((q:Int) - 1)) 2)=(((q - 1)/2:Nat):Int):=by
 rw[bK (n:=(q:Int) - 1) (by omega) (by omega)];cases q with
 |zero=>decide
 |succ n=>
  rw[show((n+1:Nat):Int) - 1=(n:Int) by omega,show n+1 - 1=n from rfl];have:Int.tdiv (n:Int) 2=((n/2:Nat):Int):=by
   rw[Int.tdiv_eq_ediv_of_nonneg (by omega)];omega
  rw[this];exact bK (by omega) (by omega)
theorem afA {q:Nat} (hq:q<1000000):IntKind.wrap .i64 (IntKind.wrap .i64 (2*(q:Int))+1)=((2*q+1:Nat):Int):=by
 rw[bK (n:=2*(q:Int)) (by omega) (by omega),bK (by omega) (by omega)];omega
theorem afB {q:Nat} (hq:q<1000000):IntKind.wrap .i64 (IntKind.wrap .i64 (2*(q:Int))+2)=((2*q+2:Nat):Int):=by
 rw[bK (n:=2*(q:Int)) (by omega) (by omega),bK (by omega) (by omega)];omega
theorem Wt {K:aj->Prop} (M:Mem h a p cap m es g) (hP:na es g) {i j b b':Nat} (hi:i<es.length) (hj:j<es.length) (kA:i≠j)
  (hb:h[b]? =some (.cells #[.I (at_ es i).1,.U (at_ es i).2] T.du (0,0))) (wF:h[b']? =some (.cells #[.I (at_ es j).1,.U (at_ es j).2] T.du (0,0)))
  (nb': ¬inner p m b')
  (hk: ∀h' g',Mem h' a p cap m (Bt es i j) g'->na (Bt es i j) g'->Fr (inner p m) h h'->K h'):
  aP (some ((AA b 0):Addr)) λku=>
   ∃(DW:Int),ak h ku=some (.I DW)/\∃(Fq:Int),ak h (ku.add 1)=some (.U Fq)/\
   Cl F.gp #[.P a 0,.I (j:Int),.agg #[.I DW,.U Fq]] h λv cB=>
   v=.tuple #[]/\
   aP (some ((AA b' 0):Addr)) λpE=>
   ∃(MV:Int),ak cB pE=some (.I MV)/\∃(MW:Int),ak cB (pE.add 1)=some (.U MW)/\
   Cl F.gp #[.P a 0,.I (i:Int),.agg #[.I MV,.U MW]] cB λeJ cJ=>
   eJ=.tuple #[]/\K cJ:=by
 refine aB.2 ⟨_,af hb rfl,_,by rw[kB];exact af hb rfl,?_⟩;refine GI M hj λh4 M4 f4=>⟨rfl,aB.2 ?_⟩
 have ma:=f4.get wF nb';refine⟨_,af ma rfl,_,by rw[kB];exact af ma rfl,?_⟩;refine GI M4 (by rw[eU];exact hi) λh5 M5 f5=>⟨rfl,hk h5 _ M5 (hP.swap hi hj kA) (Fr.tt f4 f5)⟩
def upI (h0 : aj) (a : Nat) (p : Option Addr) (cap m : Nat) (es0 : List E) (i0 : Nat) (i : Int) (h : aj) : Prop :=
  ∃ es g q, i = ((q : Nat) : Int) ∧ q < es0.length ∧ es.length = es0.length ∧ Mem h a p cap m es g ∧ na es g ∧ es.Perm es0 ∧ EB (at_ es) es0.length q ∧
    ((q = i0 ∧ es = es0) ∨ Ku (at_ es) es0.length q) ∧ at_ es q = at_ es0 i0 ∧ Fr (inner p m) h0 h
theorem Wu (M:Mem h a p cap m es g) (hP:na es g) {i:Nat} (hi:i<es.length) (hn:es.length<1000000) (ex:EB (at_ es) es.length i)
  (hk: ∀h' yI g' q,Mem h' a p cap m yI g'->na yI g'->yI.Perm es->yI.length=es.length->q<es.length->at_ yI q=at_ es i->EC (at_ yI) es.length q->(Ku (at_ es) es.length i->CG (at_ yI) es.length)->Fr (inner p m) h h'->R (.tuple #[]) h'):
  Cl F.mq #[.P a 0,.I (i:Int)] h R:=by
 refine mq.walk ⟨upI h a p cap m es i,λi _=>i.toNat,⟨es,g,i,rfl,hi,rfl,M,hP,.refl _,ex,.inl ⟨rfl,rfl⟩,rfl,Fr.refl _ _⟩,?_⟩;rintro i1 h1 ⟨Mh,g1,q,rfl,hq,hl,M1,P1,pm1,ex1,kd,ES,fr⟩;rw[ajU (by omega)];refine aK.of λJ hJ=> ?_
 have Hz:q<Mh.length:=by omega
 have xR:(q - 1)/2<Mh.length:=by omega
 have stay: ∀h2,Fr No h1 h2->(q=0\/le (at_ Mh ((q - 1)/2)) (at_ Mh q))->J false h2:=by
  intro h2 f hle;subst hJ;simp only[aA,aU];have hd:=afy ex1 hle;refine hk h2 Mh g1 q (M1.calm f) P1 pm1 hl hq ES hd (λk0=> ?_) (Fr.on fr f);rcases kd with⟨e1,e2⟩|kd
  ·subst e1 e2;exact AH hd k0
  ·exact AH hd kd
 by_cases h0:q=0
 ·subst h0;exact stay h1 (Fr.refl _ _) (.inl rfl)
 ·have hgt:(q:Int)>0:=by omega
  simp only[hgt,decide_true,bA,aL];obtain⟨ad,rfl⟩:=M1.some (by omega);refine⟨_,_,_,M1.hd,⟨by omega,by omega⟩,aB.2 ⟨_,M1.c0 Hz,_,M1.c1 Hz,_,_,_,M1.hd,⟨by omega,by omega⟩,aB.2 ⟨_,M1.c0 xR,_,M1.c1 xR,Fy λh2 f=>⟨_,rfl,(M1.calm f).hd,(M1.calm f).hd,?_⟩⟩⟩⟩;by_cases jc:lt (at_ Mh q) (at_ Mh ((q - 1)/2))
  ·rw[show decide (lt ((at_ Mh q).1,(at_ Mh q).2) ((at_ Mh ((q - 1)/2)).1,(at_ Mh ((q - 1)/2)).2))=true from ay jc];subst hJ;simp only[bA,aL];have M2:=M1.calm f;refine aK.of λJ1 pA=> ?_
   refine⟨_,_,_,M2.hd,⟨by omega,by omega⟩,aB.2 ⟨_,M2.c0 Hz,_,M2.c1 Hz,_,_,_,M2.hd,⟨by omega,by omega⟩,aB.2 ⟨_,M2.c0 xR,_,M2.c1 xR,?_⟩⟩⟩;refine ah1 (λh' f'=> ?_) (λb b' h' hb wF sb sb' f'=> ?_)
   ·have M':=M2.calm f';exact⟨⟨M'.c0 xR,M'.c1 xR,trivial⟩,M'.hd,⟨M'.c0 Hz,M'.c1 Hz,trivial⟩,M'.hd⟩
   ·subst pA;have M3:=M2.calm f';refine Wt M3 P1 Hz xR (by omega) hb wF (λhc=> ?_) λh5 g5 M5 P5 f5=>⟨⟨Bt Mh q ((q - 1)/2),g5,(q - 1)/2,rfl,by omega,by rw[GH];exact hl,M5,P5,(ED Hz xR).trans pm1,?_⟩,?_⟩
    ·have:=M2.lt (.inr hc);omega
    ·have mv:=afz ex1 (by omega) hq rfl jc;rw[M0 Hz xR];refine⟨mv.1,.inr mv.2,?_,Fr.tt fr (Fr.no f (Fr.no f' f5))⟩;rw[<-ES];unfold zH;rw[dL,ag rfl]
    ·show Int.toNat (((q - 1)/2:Nat):Int)<Int.toNat (q:Int);rw[aL,aL];omega
  ·rw[show decide (lt ((at_ Mh q).1,(at_ Mh q).2) ((at_ Mh ((q - 1)/2)).1,(at_ Mh ((q - 1)/2)).2))=false from decide_eq_false jc];exact stay h2 f (.inr jc)
theorem acq {J:Int->aj->Prop} (M:Mem h a p cap m es g) {b c:Nat} (hb:b<es.length)
  (k1:es.length<=c->J b h) (k2:c<es.length->lt (at_ es c) (at_ es b)->∀h',Fr No h h'->J c h') (k3:c<es.length->¬lt (at_ es c) (at_ es b)->∀h',Fr No h h'->J b h'):
  aK (λ(t43:Bool) (cB:aj)=>
   aK (λ(Ux:Int) (cJ:aj)=>
    J Ux cJ)
   (λBo=>
    if t43=true then
     Bo (c:Int) cB
    else
     Bo (b:Int) cB))
  (λjo=>
   ∃(iP:bU) (iy iz:Nat),ak h (AA a 0)=some (.slice iP iy iz)/\
   if(decide ((c:Int)<(iy:Int)))=true then
    ∃(yf:bU) (vJ CD:Nat),ak h (AA a 0)=some (.slice yf vJ CD)/\
    ((0:Int)<=(c:Int)/\(c:Int)<(vJ:Int))/\
    aP yf λku=>
    ∃(Kq:Int),ak h (ku.add (Int.toNat (c:Int)*2))=some (.I Kq)/\∃(Kr:Int),ak h ((ku.add (Int.toNat (c:Int)*2)).add 1)=some (.U Kr)/\
    ∃(rJ:bU) (rK vg:Nat),ak h (AA a 0)=some (.slice rJ rK vg)/\
    ((0:Int)<=(b:Int)/\(b:Int)<(rK:Int))/\
    aP rJ λpE=>
    ∃(xg:Int),ak h (pE.add (Int.toNat (b:Int)*2))=some (.I xg)/\∃(xh:Int),ak h ((pE.add (Int.toNat (b:Int)*2)).add 1)=some (.U xh)/\
    Cl F.oD #[.agg #[.I Kq,.U Kr],.agg #[.I xg,.U xh]] h λv cQ=>
    ∃(t42:Bool),v=.bool t42/\
    ak cQ (AA a 0)=some (.slice rJ rK vg)/\
    ak cQ (AA a 0)=some (.slice yf vJ CD)/\
    ak cQ (AA a 0)=some (.slice iP iy iz)/\
    jo t42 cQ
   else
    jo false h):=by
 refine aK.of λJ1 pA=>⟨_,_,_,M.hd,?_⟩
 by_cases hc:c<es.length
 ·have hc':(c:Int)<(es.length:Int):=by omega
  simp only[hc',decide_true,bA,aL];obtain⟨ad,rfl⟩:=M.some (by omega);refine⟨_,_,_,M.hd,⟨by omega,by omega⟩,aB.2 ⟨_,M.c0 hc,_,M.c1 hc,_,_,_,M.hd,⟨by omega,by omega⟩,aB.2 ⟨_,M.c0 hb,_,M.c1 hb,Fy λh2 f=>⟨_,rfl,(M.calm f).hd,(M.calm f).hd,(M.calm f).hd,?_⟩⟩⟩⟩;subst pA;by_cases jc:lt (at_ es c) (at_ es b)
  ·rw[show decide (lt ((at_ es c).1,(at_ es c).2) ((at_ es b).1,(at_ es b).2))=true from ay jc];simp only[bA,aK];exact k2 hc jc h2 f
  ·rw[show decide (lt ((at_ es c).1,(at_ es c).2) ((at_ es b).1,(at_ es b).2))=false from decide_eq_false jc];simp only[aA,aU,aK];exact k3 hc jc h2 f
 ·have hc': ¬(c:Int)<(es.length:Int):=by omega
  subst pA;simp only[hc',decide_false,aA,aU,aK];exact k1 (by omega)
def dnI (h0 : aj) (a : Nat) (p : Option Addr) (cap m : Nat) (es0 : List E) (i : Int) (h : aj) : Prop :=
  ∃ es g q, i = ((q : Nat) : Int) ∧ q < es0.length ∧ es.length = es0.length ∧ Mem h a p cap m es g ∧ na es g ∧ es.Perm es0 ∧ EC (at_ es) es0.length q ∧ Fr (inner p m) h0 h
def ap9 (h1:aj) (es:List E) (q:Nat) (tD t:Int) (h:aj):Prop:=
 ∃b k:Nat,tD=b/\t=k/\k<=2/\b<es.length/\Fr No h1 h/\(b≠q->(b - 1)/2=q/\0<b/\lt (at_ es b) (at_ es q))/\∀c,0<c->c<es.length->c<=2*q+k->(c - 1)/2=q->le (at_ es b) (at_ es c)
theorem Wv (M : Mem h a p cap m es g) (hP : na es g) {i : Nat} (hi : i < es.length) (hn : es.length < 1000000) (ex : EC (at_ es) es.length i)
    (hk : ∀ h' yI g', Mem h' a p cap m yI g' → na yI g' → yI.Perm es → yI.length = es.length → CG (at_ yI) es.length → Fr (inner p m) h h' → R (.tuple #[]) h') :
    Cl F.nY #[.pointer (some ⟨a, 0, none⟩), .int .i64 (i : Int)] h R := by
  refine nY.walk ⟨dnI h a p cap m es, λi _ => es.length - i.toNat, ⟨es, g, i, rfl, hi, rfl, M, hP, .refl _, ex, Fr.refl _ _⟩, ?_⟩
  rintro i1 h1 ⟨Mh, g1, q, rfl, hq, hl, M1, P1, pm1, ex1, fr⟩
  have Hz : q < Mh.length := by omega
  rw [afA (by omega), afB (by omega)]
  refine ⟨ap9 h1 Mh q, λ_ t _ => 2 - t.toNat, ⟨q, 0, rfl, rfl, by omega, Hz, Fr.refl _ _, λkA => absurd rfl kA, λc h1 h2 h3 h4 => by omega⟩, ?_⟩
  rintro tD t h2 ⟨b, k, rfl, rfl, hk2, hb, f2, hbq, kz⟩
  have M2 := M1.calm f2
  by_cases hkk : k < 2
  · have aqa : (k : Int) < 2 := by omega
    simp only [aqa, decide_true, if_true]
    rw [bK (n := (k : Int) + 1) (by omega) (by omega)]
    refine aK.of λJ hJ => ⟨⟨by omega, by omega⟩, λMi => ?_, λQK => ?_, trivial⟩
    · obtain rfl : k = 0 := by omega
      refine acq M2 hb (λhc => ?_) (λhc jc h3 f3 => ?_) (λhc jc h3 f3 => ?_) <;> subst hJ <;> refine ⟨?_, by simp⟩
      · exact ⟨b, 1, rfl, rfl, by omega, hb, f2, hbq, λc c1 c2 c3 c4 => by omega⟩
      · refine ⟨2 * q + 1, 1, rfl, rfl, by omega, hc, Fr.tt f2 f3, λ_ => ⟨by omega, by omega, ?_⟩, λc c1 c2 c3 c4 => ?_⟩
        · by_cases e : b = q
          · rw [← e]; exact e ▸ jc
          · exact lt_trans jc (hbq e).2.2
        · have : c = 2 * q + 1 := by omega
          subst this; exact le_refl _
      · refine ⟨b, 1, rfl, rfl, by omega, hb, Fr.tt f2 f3, hbq, λc c1 c2 c3 c4 => ?_⟩
        have : c = 2 * q + 1 := by omega
        subst this; exact jc
    · obtain rfl : k = 1 := by omega
      refine acq M2 hb (λhc => ?_) (λhc jc h3 f3 => ?_) (λhc jc h3 f3 => ?_) <;> subst hJ <;> refine ⟨?_, by simp⟩
      · exact ⟨b, 2, rfl, rfl, by omega, hb, f2, hbq, λc c1 c2 c3 c4 => kz c c1 c2 (by omega) c4⟩
      · refine ⟨2 * q + 2, 2, rfl, rfl, by omega, hc, Fr.tt f2 f3, λ_ => ⟨by omega, by omega, ?_⟩, λc c1 c2 c3 c4 => ?_⟩
        · by_cases e : b = q
          · rw [← e]; exact e ▸ jc
          · exact lt_trans jc (hbq e).2.2
        · by_cases e : c = 2 * q + 2
          · subst e; exact le_refl _
          · exact le_trans (le_of_lt jc) (kz c c1 c2 (by omega) c4)
      · refine ⟨b, 2, rfl, rfl, by omega, hb, Fr.tt f2 f3, hbq, λc c1 c2 c3 c4 => ?_⟩
        by_cases e : c = 2 * q + 2
        · subst e; exact jc
        · exact kz c c1 c2 (by omega) c4
  · obtain rfl : k = 2 := by omega
    simp only [show ¬ ((2 : Nat) : Int) < 2 by omega, decide_false, Bool.false_eq_true, if_false]
    by_cases e : b = q
    · subst e
      simp only [bne_self_eq_false, Bool.false_eq_true, if_false]
      refine hk h2 Mh g1 M2 P1 pm1 hl (AH ex1 λj j1 j2 j3 => kz j j1 (by omega) (by omega) j3) (Fr.on fr f2)
    · obtain ⟨b1, b2, b3⟩ := hbq e
      have kA : ((b : Int) != (q : Int)) = true := by simp; omega
      simp only [kA, if_true, Int.toNat_natCast]
      obtain ⟨ad, rfl⟩ := M2.some (by omega)
      refine aK.of λJ1 pA => ?_
      refine ⟨_, _, _, M2.hd, ⟨by omega, by omega⟩, aB.2 ⟨_, M2.c0 Hz, _, M2.c1 Hz, _, _, _, M2.hd, ⟨by omega, by omega⟩, aB.2 ⟨_, M2.c0 hb, _, M2.c1 hb, ?_⟩⟩⟩
      refine ah1 (λh' f' => ?_) (λx x' h' hx hx' sx sx' f' => ?_)
      · have M' := M2.calm f'
        exact ⟨⟨M'.c0 hb, M'.c1 hb, trivial⟩, M'.hd, ⟨M'.c0 Hz, M'.c1 Hz, trivial⟩, M'.hd⟩
      · subst pA
        have M3 := M2.calm f'
        refine Wt M3 P1 Hz hb (λx => e x.symm) hx hx' (λhc => ?_) λh5 g5 M5 P5 f5 => ⟨⟨Bt Mh q b, g5, b, rfl, by omega, by rw [GH]; exact hl, M5, P5, (ED Hz hb).trans pm1, ?_, Fr.tt fr (Fr.no f2 (Fr.no f' f5))⟩, ?_⟩
        · have := M2.lt (.inr hc); omega
        · rw [M0 Hz hb]
          exact aaw ex1 b1 b2 (by omega) b3 λj j1 j2 j3 => kz j j1 (by omega) (by omega) j3
        · show es.length - Int.toNat (b : Int) < es.length - Int.toNat (q : Int)
          rw [Int.toNat_natCast, Int.toNat_natCast]; omega
end cp
end
end Go.Proofs.YtlenamcfacpheaaGreatDoor
namespace Go.rN
theorem Nb {es:List E} {n:Nat} (hn:es.length=n+1):es=es.take n++ [at_ es n]:=by
 have h:n<es.length:=by omega
 rw[yM h];have:=List.take_append_getElem h;rw[this,bR (by omega)]
theorem Pm {es:List E} {n i:Nat} (hi:i<n):at_ (es.take n) i=at_ es i:=by
 unfold at_;rw[ba,ba,dq,ag hi]
theorem GJ {es:List E} {x:E} {i:Nat} :at_ (es++ [x]) i=if i<es.length then at_ es i else if i=es.length then x else(0,0):=by
 unfold at_;rw[ba,ba];by_cases h:i<es.length
 ·rw[dx h,ag h]
 ·rw[dk (by omega),ai h];by_cases e:i=es.length
  ·subst e;simp
  ·rw[ai e,eg (by simp;omega)];rfl
theorem mem_keys {es:List E} {k:Int} (h:k∈keys es): ∃j,j<es.length/\(at_ es j).1=k:=by
 obtain⟨e,he,rfl⟩:=bn.1 h;obtain⟨j,hj⟩:=bG he;have hl:=(aG.1 hj).1;rw[Wo hl] at hj;exact⟨j,hl,bp Prod.fst (bz hj)⟩
theorem at_mem {es:List E} {j:Nat} (h:j<es.length):at_ es j∈es:=by rw[yM h];exact fw h
theorem keys_perm {l l':List E} (h:l.Perm l'):(keys l).Perm (keys l'):=h.map _
def cut (es:List E) (n j:Nat):List E:=if j<n then(es.take n).set j (at_ es n) else es.take n
theorem RP {es:List E} {n j:Nat} (hn:es.length=n+1) (hj:j<es.length):es.Perm (at_ es j::cut es n j):=by
 unfold cut;have hlen:(es.take n).length=n:=by rw[bQ];omega
 split
 ·rename_i h;have hT:j<(es.take n).length:=by omega
  have e1:at_ es j=(es.take n)[j]:=by rw[<-Pm h,yM hT]
  have p1:es.Perm (at_ es n::es.take n):=by
   have:es.Perm (es.take n++ [at_ es n]):=by rw[<-Nb hn]
   exact this.trans (fx _ _)
  have p2:(es.take n).Perm (at_ es j::((es.take n).take j++(es.take n).drop (j+1))):=by
   rw[e1];have e2:es.take n=(es.take n).take j++(es.take n)[j]::(es.take n).drop (j+1):=by rw[<-da hT,List.take_append_drop]
   have e3:(es.take n).Perm ((es.take n).take j++(es.take n)[j]::(es.take n).drop (j+1)):=List.Perm.of_eq e2;exact e3.trans List.perm_middle
  have p3:((es.take n).set j (at_ es n)).Perm (at_ es n::((es.take n).take j++(es.take n).drop (j+1))):=by
   rw[List.set_eq_take_append_cons_drop,ag hT];exact List.perm_middle
  exact p1.trans ((p2.cons _).trans ((List.Perm.swap _ _ _).trans (p3.symm.cons _)))
 ·have:j=n:=by omega
  subst this;have:es.Perm (es.take j++ [at_ es j]):=by rw[<-Nb hn]
  exact this.trans (fx _ _)
theorem acr {es l:List E} {n j:Nat} (hn:es.length=n+1) (hj:j<es.length) (hd:(keys es).Nodup) (hp:es.Perm l):(cut es n j).Perm (iH l (at_ es j).1):=by
 have h1:=RP hn hj;have hk:(at_ es j).1∉keys (cut es n j):=by
  have:=(keys_perm h1).nodup_iff.1 hd;exact(gu.1 this).1
 have h2:=UA (h1.symm.trans hp) (at_ es j).1;have h3:iH (at_ es j::cut es n j) (at_ es j).1=cut es n j:=by
  have:iH (at_ es j::cut es n j) (at_ es j).1=iH (cut es n j) (at_ es j).1:=by
   unfold iH;rw[cC];simp
  rw[this,sf hk]
 rw[h3] at h2;exact h2
theorem Pn {es:List E} {n j:Nat} (hn:es.length=n+1):(cut es n j).length=n:=by
 unfold cut;split
 ·rw[eU,bQ];omega
 ·rw[bQ];omega
theorem AI {es:List E} {n j i:Nat} (hn:es.length=n+1) (hi:i<n):at_ (cut es n j) i=if i=j then at_ es n else at_ es i:=by
 have hlen:(es.take n).length=n:=by rw[bQ];omega
 unfold cut;split
 ·rw[Uy (by omega),Pm hi]
 ·rw[Pm hi,dL]
theorem aax {es:List E} {g:Int->Option Value} {n j:Nat} (h:na es g) (hn:es.length=n+1) (hj:j<es.length):
  na (cut es n j) (λk=>if j<n then(if k=(at_ es n).1 then some (.I j) else if k=(at_ es j).1 then none else g k) else if k=(at_ es j).1 then none else g k):=by
 obtain⟨h1,h2,h3⟩:=h;have hp:=keys_perm (RP hn hj);have Rc:=hp.nodup_iff.1 h1;refine⟨(gu.1 Rc).2,λi hi=> ?_,λk hk=> ?_⟩
 ·rw[Pn hn] at hi;rw[AI hn hi];by_cases e:i=j
  ·subst e;simp[hi]
  ·rw[ai e];have n1:(at_ es i).1≠(at_ es n).1:=λx=>by have:=key_inj h1 (by omega) (by omega) x;omega
   have n2:(at_ es i).1≠(at_ es j).1:=λx=>e (key_inj h1 (by omega) hj x)
   simp[n1,n2,h2 i (by omega)]
 ·have hgo: ∀k,k∉(cut es n j).map (·.1)->k≠(at_ es j).1->g k=none:=λk hk kA=>by
   refine h3 k λhm=> ?_
   rcases bP.1 (hp.mem_iff.1 hm) with e|e
   ·exact kA e
   ·exact hk e
  by_cases QN:j<n
  ·have hl:(at_ es n).1∈(cut es n j).map (·.1):=by
    have:=at_mem (es:=cut es n j) (j:=j) (by rw[Pn hn];exact QN);rw[AI hn QN,ag rfl] at this;exact bB this
   have n1:k≠(at_ es n).1:=λe=>hk (e▸hl)
   by_cases e:k=(at_ es j).1
   ·subst e;simp[QN,n1]
   ·simp[QN,n1,e,hgo k hk e]
  ·by_cases e:k=(at_ es j).1
   ·subst e;simp[QN]
   ·simp[QN,e,hgo k hk e]
theorem acs {es:List E} {n j:Nat} (hn:es.length=n+1) (hj:j<n) (hh:CG (at_ es) es.length):EB (at_ (cut es n j)) n j:=by
 refine⟨λc h1 h2 h3 h4=> ?_,λh0 c h1 h2 h3=> ?_⟩
 ·rw[AI hn h2,AI hn (by omega),ai h3,ai h4];exact hh c h1 (by omega)
 ·rw[AI hn h2,AI hn (by omega),dL,dL];have:=hh c h1 (by omega);rw[h3] at this;exact le_trans (hh j h0 (by omega)) this
theorem acu {es:List E} {n j:Nat} (hn:es.length=n+1) (hj: ¬j<n) (hh:CG (at_ es) es.length):CG (at_ (cut es n j)) n:=λc h1 h2=>by
 rw[AI hn h2,AI hn (by omega),dL,dL];exact hh c h1 (by omega)
theorem acv {es:List E} {x:E} (hh:CG (at_ es) es.length):EB (at_ (es++ [x])) (es.length+1) es.length/\Ku (at_ (es++ [x])) (es.length+1) es.length:=by
 refine⟨⟨λc h1 h2 h3 h4=> ?_,λh0 c h1 h2 h3=>by omega⟩,λc h1 h2 h3=>by omega⟩;rw[GJ,GJ,jy,jy];exact hh c h1 (by omega)
theorem aay {es:List E} {g:Int->Option Value} {x:E} (h:na es g) (hx:x.1∉keys es):na (es++ [x]) (λk=>if k=x.1 then some (.I es.length) else g k):=by
 obtain⟨h1,h2,h3⟩:=h;refine⟨?_,λi hi=> ?_,λk hk=> ?_⟩
 ·have:((es++ [x]).map (·.1)).Perm (x.1::es.map (·.1)):=by
   rw[bm];exact fx _ _
  exact this.nodup_iff.2 (gu.2 ⟨hx,h1⟩)
 ·rw[aF,fj] at hi;rw[GJ];by_cases e:i<es.length
  ·rw[ag e];have:(at_ es i).1≠x.1:=λq=>hx (q▸bB (at_mem e))
   simp[this,h2 i e]
  ·have:i=es.length:=by omega
   subst this;simp
 ·rw[bm,bT] at hk;have n1:k≠x.1:=λe=>hk (.inr (by simp[e]))
  simp[n1,h3 k (λhm=>hk (.inl hm))]
theorem UC {e:E} {l:List E} (hd:(keys (e::l)).Nodup):iH (e::l) e.1=l:=by
 have h1:iH (e::l) e.1=iH l e.1:=by unfold iH;rw[cC];simp
 rw[h1,sf (gu.1 hd).1]
end Go.rN
namespace Go.Proofs.YtlenamcfacpheaaGreatDoor
open Go.Den
open IntKind (wrap)
open Int (toNat)
section
open Go.rN
namespace cp
variable {h:aj} {a m cap:Nat} {p:bU} {es:List E} {g:Int→Option Value} {R:iI} {S:Nat→Prop} {L:List E}
theorem tE:Ao Tryz.prog T.ny T.du 2 16 (.agg #[.I 0,.U 0]):=⟨by kernel_rfl,by kernel_rfl,rfl⟩
theorem tI:Ao Tryz.prog T.Fc T.int 1 8 (.I 0):=⟨by kernel_rfl,by kernel_rfl,rfl⟩
def Good (L:List E):Prop:= ∀e∈L,1<=e.1/\e.1<=1099511627776/\0<=e.2/\e.2<=1099511627776
def Al (h:aj) (a:Nat) (S:Nat->Prop) (L:List E):Prop:=
 ∃p cap m es g,Mem h a p cap m es g/\na es g/\CG (at_ es) es.length/\es.Perm L/\pF L/\Good L/\∀c,S c↔Kv a p m c
theorem Al.lt (A:Al h a S L) {c:Nat} (hc:S c):c<h.size:=by
 obtain⟨p,cap,m,es,g,M,_,_,_,_,_,hS⟩:=A;exact M.lt ((hS c).1 hc)
theorem Al.frame {Q:Nat->Prop} {h':aj} (A:Al h a S L) (hf:Fr Q h h') (hn: ∀c,S c->¬Q c):Al h' a S L:=by
 obtain⟨p,cap,m,es,g,M,P,H,pm,so,gd,hS⟩:=A;exact⟨p,cap,m,es,g,M.frame hf λc hc=>hn c ((hS c).2 hc),P,H,pm,so,gd,hS⟩
theorem Al.sorted (A:Al h a S L):pF L:=by
 obtain⟨p,cap,m,es,g,M,P,H,pm,so,gd,hS⟩:=A;exact so
theorem Al.nodup (A:Al h a S L):(keys L).Nodup:=by
 obtain⟨p,cap,m,es,g,M,P,H,pm,so,gd,hS⟩:=A;exact(keys_perm pm).nodup_iff.1 P.1
theorem ji (M:Mem h a p cap m es g) (hk:R (.bool true) h):Cl F.lT #[.P a 0] h R:=
 lT.walk ⟨some m,M.mp,hk⟩
theorem pD (hk: ∀a S h',Al h' a S []->(∀c,S c->h.size<=c)->Fr No h h'->R (.P a 0) h'):Cl F.uu #[] h R:=by
 refine uu.walk ?_;rintro b h1 rfl rfl b1 h2 rfl rfl;have f:Fr No (h.push (.map #[] 0)) ((h.push (.map #[] 0)).push (.cells #[.Z,.map (some h.size)] T.Cr)):=Fr.push _ _;refine hk _ (Kv (h.push (.map #[] 0)).size none h.size) _ ⟨none,0,h.size, [],λ_=>none,⟨cz,.nil rfl rfl rfl rfl,(xS.push h).frame f id,?_⟩,⟨.nil,?_,λ_ _=>rfl⟩,?_,.refl _,.nil,?_,λ_=>fY⟩ ?_ (Fr.tt (Fr.push _ _) f)
 ·rintro⟨_,e,_⟩;cases e
 ·intro j hj;simp at hj
 ·intro j _ hj;simp at hj
 ·intro e he;cases he
 ·rintro c (rfl|rfl|⟨_,e,_⟩)
  ·simp
  ·exact bh _
  ·cases e
theorem acw (A:Al h a S L) (hk:R (.I (L.length:Int)) h):Cl F.mK #[.P a 0] h R:=by
 obtain⟨p,cap,m,es,g,M,P,H,pm,so,gd,hS⟩:=A;refine mK.walk ⟨_,_,_,M.hd,?_⟩;rw[pm.length_eq];exact hk
def hd (L:List E):E:=L.headD (0,0)
theorem Fz (A:Al h a S L) (hk:R (.tuple #[.I (hd L).1,.U (hd L).2,.bool (!L.isEmpty)]) h):Cl F.lV #[.P a 0] h R:=by
 refine lV.walk (acw A ⟨_,rfl,?_⟩);obtain⟨p,cap,m,es,g,M,P,H,pm,so,gd,hS⟩:=A;cases L with
 |nil=>exact hk
 |cons e r=>
  have hl:=pm.length_eq;simp only[bj] at hl;have kA:(((e::r).length:Int)==0)=false:=by simp only[bj,beq_eq_false_iff_ne];omega
  simp only[kA,aA,aU];obtain⟨ad,rfl⟩:=M.some (by omega);obtain⟨r',hr⟩:=acp pm so H (by omega);have he:at_ es 0=e:=(List.cons.inj hr).1.symm;have c0:=M.c0 (i:=0) (by omega);have c1:=M.c1 (i:=0) (by omega);rw[he] at c0 c1;refine⟨_,_,_,M.hd,⟨by omega,by omega⟩,aB.2 ⟨_,c0,_,_,_,M.hd,⟨by omega,by omega⟩,aB.2 ⟨_,c1,hk⟩⟩⟩
theorem ajV {t:TypeId} {z0 z1 x0 x1:Value} {K:Nat->aj->Prop} (hk: ∀b h',h'[b]? =some (.cells #[x0,x1] t (0,0))->h.size<=b->Fr No h h'->K b h'):
  aV h (.cells #[z0,z1] t) λb h2=>aH h2 (AA b 0) x0 λh3=>aH h3 (AA b 1) x1 λh4=>K b h4:=by
 rintro b h2 rfl rfl;refine bL cz (by simp) λh3 c3 s3 k3=>bL c3 (by simp) λh4 c4 s4 k4=>hk _ h4 c4 (bh _) ⟨?_,λc hc _=> ?_⟩
 ·rw[s4,s3];simp
 ·rw[k4 c (by omega),k3 c (by omega)];exact(Fr.push (S:=λ_=>False) h _).2 c hc id
theorem AJ (A:Al h a S L) (hn:L.length<1000000) (key:Int)
  (k1:key∈keys L->∀h',Al h' a S (iH L key)->Fr S h h'->R (.I 0) h')
  (k2:key∉keys L->R (.I 4) h):Cl F.gn #[.P a 0,.I key] h R:=by
 obtain⟨p,cap,m,es,g,M,P,H,pm,so,gd,hS⟩:=A;have hlen:=pm.length_eq;refine gn.walk (ji M ⟨true,rfl,?_⟩);simp only[dW,aA,aU];have lk:=ON tm M.map key;by_cases hm:key∈keys es
 ·have k1:=k1 ((keys_perm pm).mem_iff.1 hm);clear k2;obtain⟨j,hj,rfl⟩:=mem_keys hm;obtain⟨n,hn1⟩: ∃n,es.length=n+1:=⟨es.length - 1,by omega⟩;rw[P.2.1 j hj] at lk;refine⟨some m,M.mp,(j:Int),true,lk,?_⟩;simp only[dW,aA,aU];obtain⟨b0,off,rfl⟩:=M.own.some (by rw[rW];omega);refine⟨_,_,_,M.hd,_,_,_,M.hd,?_⟩;rw[show IntKind.wrap .i64 ((es.length:Int) - 1)=(n:Int) by rw[bK (by omega) (by omega)];omega];simp only[aL];refine⟨⟨by omega,by omega⟩,aB.2 ⟨_,M.c0 (i:=n) (by omega),_,M.c1 (i:=n) (by omega),ajV λb h4 hb sb f4=> ?_⟩⟩;have M4:=M.calm f4;have hle:=M.own.le;have hsl:cZ (some ((AA b0 off):Addr)) cap 0 2=some (AA b0 off):=by
   unfold cZ;split
   ·rfl
   ·simp[kB]
  refine⟨_,_,_,M4.hd,⟨by omega,by omega⟩,bL M4.dE (by simp) λh5 c5 s5 k5=> ?_⟩;have f5:Fr (λc=>c=a) h4 h5:=Fr.of_eq s5 k5;have tl:(es.take n).length=n:=by rw[bQ];omega
  have M5:Mem h5 a (some (AA b0 off)) cap m (es.take n) g:=by
   refine⟨?_,?_,M4.map.frame f5 (λe=>M.am e.symm),M.ne⟩
   ·rw[c5,hsl,tl];rfl
   ·have o:=(M4.own.frame f5 (λc hc e=>M.ne (e▸hc))).sub (l:=0) (u:=n) (by omega) (by omega);rw[hsl,RO,Nat.zero_mul,jT] at o;rw[tl];exact o
  refine⟨some m,M5.mp,HB tm M5.map λh6 m6 s6 k6=>⟨rfl,?_⟩⟩;have f6:Fr (λc=>c=m) h5 h6:=Fr.of_eq s6 k6;have M6:Mem h6 a (some (AA b0 off)) cap m (es.take n) (λx=>if x=(at_ es j).1 then none else g x):=
   ⟨f6.get M5.dE M.am,M5.own.frame f6 (λc hc e=>M.pm (e▸hc)),m6,M.ne⟩
  have fh6:Fr (Kv a (some (AA b0 off)) m) h h6:=Fr.no f4 (f5.trans f6 (λ_ _ e=> .inl e) (λ_ _ e=> .inr (.inl e)));have hbn: ∀c,Kv a (some (AA b0 off)) m c->b≠c:=λc hc e=>by have:=M.lt hc;omega
  have RQ:=f6.get (f5.get hb (hbn a (.inl rfl))) (hbn m (.inr (.inl rfl)));refine aK.of λJ hJ=> ?_
  have done: ∀h' yI g',Mem h' a (some (AA b0 off)) cap m yI g'->na yI g'->CG (at_ yI) yI.length->yI.Perm (cut es n j)->Fr (Kv a (some (AA b0 off)) m) h h'->J h':=by
   intro h' yI g' M' P' H' pm' f';subst hJ;exact k1 h' ⟨_,_,_,yI,g',M',P',H',pm'.trans (acr hn1 hj P.1 pm),so.drop _,λe he=>gd e (aY.1 he).1,hS⟩ (f'.mono λc _ hc=>(hS c).2 hc)
  have pc:=aax P hn1 hj;have cl:=Pn (j:=j) hn1;by_cases QN:j<n
  ·have ajW:(j:Int)<(n:Int):=by omega
   simp only[QN,bA] at pc;simp only[ajW,decide_true,bA];have ajX:(es.take n).set j ((at_ es n).1,(at_ es n).2)=cut es n j:=by unfold cut;rw[ag QN]
   refine⟨_,af RQ rfl,_,af RQ rfl,GI M6 (by omega) λh8 M8 f8=>⟨rfl,?_⟩⟩;rw[ajX] at M8;have ex:=acs hn1 QN H;refine Wu M8 pc (by omega) (by omega) (by rw[cl];exact ex) λh9 es9 g9 q M9 P9 pm9 l9 q9 at9 ex9 _ f9=>⟨rfl,some m,M9.mp,?_⟩
   have UD: ¬inner (some (AA b0 off)) m b:=λhc=>hbn b (.inr hc) rfl
   have hb9:=f9.get (f8.get RQ UD) UD;have lk9:=MG tm M9.map (at_ es n).1;have e9:at_ es9 q=at_ es n:=by rw[at9,AI hn1 QN,ag rfl]
   have g9':=P9.2.1 q (by omega);rw[e9] at g9';rw[g9'] at lk9;refine⟨_,af hb9 rfl,(q:Int),lk9,?_⟩;rw[<-l9] at ex9;refine Wv M9 P9 (by omega) (by omega) ex9 λvj aqb g10 M10 P10 aqc l10 H10 f10=>⟨rfl,af (f10.get hb9 UD) rfl,M10.mp,?_⟩
   rw[<-l10] at H10;exact done vj aqb g10 M10 P10 H10 (aqc.trans pm9) (fh6.trans (Fr.tt f8 (Fr.tt f9 f10)) (λ_ _=>id) (λ_ _ hc=> .inr hc))
  ·have ajW: ¬(j:Int)<(n:Int):=by omega
   simp only[QN,aU] at pc;simp only[ajW,decide_false,aA,aU];have ajX:es.take n=cut es n j:=by unfold cut;rw[ai QN]
   rw[ajX] at M6;have H':=acu hn1 QN H;exact done h6 _ _ M6 pc (by rw[cl];exact H') (.refl _) fh6
 ·rw[P.2.2 key hm] at lk;exact⟨some m,M.mp,0,false,lk,k2 λhx=>hm ((keys_perm pm).mem_iff.2 hx)⟩
def may (key t:Int):Bool:=decide (1<=key) && decide (key<=1099511627776) && decide (t<=1099511627776)
theorem vU {key t:Int} :may key t=true↔1<=key/\key<=1099511627776/\t<=1099511627776:=by simp[may,and_assoc]
def Kw (L:List E) (key t:Int):List E:=Fx (iH L key) (key,t)
theorem zJ (L:List E) (key:Int):(iH L key).length<=L.length:=cI _ _
theorem UE (A:Al h a S L) (hn:L.length<999999) (key t:Int) (ht:0<=t)
  (k1:may key t=true->∀h' S',Al h' a S' (Kw L key t)->(∀c,S' c->S c\/h.size<=c)->Fr S h h'->R (.I 0) h')
  (k2:may key t=false->R (.I 1) h):Cl F.kO #[.P a 0,.I key,.U t] h R:=by
 have A0:=A;obtain⟨p,cap,m,es,g,M, -, -, -, -, -, -⟩:=A;refine kO.walk (ji M ⟨true,rfl,?_⟩);clear M;simp only[dW,aA,aU];refine aK.of λJ hJ=> ?_
 have no:may key t=false->J true h:=λhm=>by subst hJ;exact k2 hm
 by_cases h1:key<1
 ·simp only[h1,decide_true,bA];exact no (by simp[may,show¬1<=key by omega])
 simp only[h1,decide_false,aA,aU];by_cases h2:key>1099511627776
 ·simp only[h2,decide_true,bA];exact no (by simp[may,show¬key<=1099511627776 by omega])
 simp only[h2,decide_false,aA,aU];by_cases h3:t>1099511627776
 ·simp only[h3,decide_true];exact no (by simp[may,show¬t<=1099511627776 by omega])
 simp only[h3,decide_false];clear no k2;have k1:=k1 (vU.2 ⟨by omega,by omega,by omega⟩);subst hJ;simp only[aA,aU];have rest: ∀h1 e,Al h1 a S (iH L key)->Fr S h h1->(∃(t25:Int),Value.I e=.I t25/\
    ∃(o0:bU) (nJ pM:Nat),ak h1 (AA a 0)=some (.slice o0 nJ pM)/\
    aV h1 (.cells #[.I 0,.U 0] T.du) λb cB=>
    aX Tryz.prog (Builtin.append_ #[T.ny,T.ny] T.ny #[.slice o0 nJ pM,.slice (some (AA b 0)) 1 1]) cB λgR cJ=>
    ∃(rF:bU) (pO rG:Nat),gR=.slice rF pO rG/\
    aH cJ (AA a 0) (.slice rF pO rG) λcQ=>
    ∃(oq:bU) (kH oF:Nat),ak cQ (AA a 0)=some (.slice oq kH oF)/\
    Cl F.gp #[.P a 0,.I (IntKind.wrap .i64 ((kH:Int) - 1)),.agg #[.I key,.U t]] cQ λkU cW=>
    kU=.tuple #[]/\
    Cl F.mq #[.P a 0,.I (IntKind.wrap .i64 ((kH:Int) - 1))] cW λot dA=>
    ot=.tuple #[]/\
    R (.I 0) dA):=by
  intro h1 e A1 f1;refine⟨e,rfl,?_⟩;have kn:=Uz L key;have dl:=zJ L key;obtain⟨p,cap,m,es,g,M,P,H,pm,so,gd,hS⟩:=A1;have hlen:=pm.length_eq;refine⟨_,_,_,M.hd,?_⟩;rintro b h4 rfl rfl;have fp:Fr No h1 (h1.push (.cells #[.I 0,.U 0] T.du)):=Fr.push _ _;have row:Row (h1.push (.cells #[.I 0,.U 0] T.du)) (some (AA h1.size 0)) (enc [(0,0)]):=.inr ⟨_,rfl,lR cz λj v hj=>by rw[bZ];simpa[enc] using hj⟩;have sz4:h1.size<=(h1.push (.cells #[.I 0,.U 0] T.du)).size:=fp.1;have M4:=M.calm fp;refine fQ tE (eT:=T.du) (by kernel_rfl) M4.own row rfl (Wq _) (by omega) (by omega) λp' nj h5 o5 _ f5 gr=>⟨_,_,_,rfl,?_⟩
  rw[<-UB] at o5;have b5:=f5.get M4.dE M.ne;have ne': ¬aQ p' a:=λhc=>by
   rcases gr a hc with hx|hx
   ·exact M.ne hx
   ·have:=aI M4.dE;omega
  have pm': ¬aQ p' m:=λhc=>by
   rcases gr m hc with hx|hx
   ·exact M.pm hx
   ·have:=M4.map.lt;omega
  refine bL b5 (by simp) λh6 c6 s6 k6=> ?_
  have f6:Fr (λc=>c=a) h5 h6:=Fr.of_eq s6 k6;have M6:Mem h6 a p' nj m (es++ [(0,0)]) g:=by
   refine⟨?_,?_,(M4.map.frame f5 M.pm).frame f6 (λe=>M.am e.symm),ne'⟩
   ·rw[c6,aF];rfl
   ·rw[aF];exact o5.frame f6 (λc hc e=>ne' (e▸hc))
  refine⟨_,_,_,M6.hd,?_⟩;have ew:IntKind.wrap .i64 ((((es++ [((0,0):E)]).length:Nat):Int) - 1)=(es.length:Int):=by
   rw[aF,fj,bK (by omega) (by omega)];omega
  rw[ew];refine GI M6 (by rw[aF,fj];omega) λh7 M7 f7=>⟨rfl,?_⟩
  have es7:(es++ [((0,0):E)]).set es.length (key,t)=es++ [(key,t)]:=by
   rw[List.set_append_right _ _ (bh _)];simp
  rw[es7] at M7;have kn':key∉keys es:=λhx=>kn ((keys_perm pm).mem_iff.1 hx)
  have P7:=aay (x:=(key,t)) P kn';obtain⟨ex,kd⟩:=acv (x:=(key,t)) H;have l7:(es++ [(key,t)]).length=es.length+1:=by simp
  rw[<-l7] at ex kd;refine Wu M7 P7 (by omega) (by omega) ex λh8 es8 g8 q M8 P8 pm8 l8 _ _ _ H8 f8=>⟨rfl,?_⟩
  have H8:=H8 kd;rw[<-l8] at H8;have gf: ∀c,Kv a p' m c->S c\/h.size<=c:=by
   rintro c (rfl|rfl|hc)
   ·exact .inl ((hS _).2 (.inl rfl))
   ·exact .inl ((hS _).2 (.inr (.inl rfl)))
   ·rcases gr c hc with hx|hx
    ·exact .inl ((hS _).2 (.inr (.inr hx)))
    ·have:=f1.1;exact .inr (by omega)
  refine k1 h8 (Kv a p' m) ⟨p',nj,m,es8,g8,M8,P8,H8,?_,so.insert _ kn,?_,λ_=>fY⟩ gf ?_
  ·exact pm8.trans ((fx _ _).trans ((pm.cons _).trans (vT _ _).symm))
  ·intro e he;rcases bP.1 ((vT _ _).mem_iff.1 he) with rfl|hx
   ·exact⟨by simp only;omega,by simp only;omega,ht,by simp only;omega⟩
   ·exact gd e hx
  ·have aqd: ∀c,c<h1.size->Kv a p' m c->S c:=λc hc hx=>by
    rcases hx with rfl|rfl|hx
    ·exact(hS _).2 (.inl rfl)
    ·exact(hS _).2 (.inr (.inl rfl))
    ·rcases gr c hx with hy|hy
     ·exact(hS _).2 (.inr (.inr hy))
     ·omega
   have g1:Fr S h1 h5:=Fr.no fp (f5.mono λc _ hc=>(hS c).2 (.inr (.inr hc)));have g2:Fr S h1 h6:=g1.trans f6 (λ_ _=>id) (λc _ e=>(hS c).2 (.inl e));have g3:Fr S h1 h8:=g2.trans (Fr.tt f7 f8) (λ_ _=>id) (λc hc hx=>aqd c hc (.inr hx));exact Fr.tt f1 g3
 refine AJ A0 (by omega) key (λhm h1 A1 f1=>rest h1 0 A1 f1) (λhm=> ?_);refine rest h 4 ?_ (Fr.refl _ _);rw[sf hm];exact A0
def pR (now:Int) (e:E):Bool:=decide (e.2<=now)
def due (L:List E) (now:Int):List E:=L.takeWhile (pR now)
def rest (L:List E) (now:Int):List E:=L.dropWhile (pR now)
def kc (L:List E):List Value:=(keys L).map (.int .i64 ·)
theorem aaz {D T:List E} {now:Int} (hd: ∀e∈D,pR now e=true) (ht: ∀e r,T=e::r->pR now e=false):due (D++T) now=D/\rest (D++T) now=T:=by
 unfold due rest;induction D with
 |nil=>
  cases T with
  |nil=>exact⟨rfl,rfl⟩
  |cons e r=>simp[List.takeWhile,List.dropWhile,ht e r rfl]
 |cons d D ih=>
  have h1:=hd d dX;obtain⟨i1,i2⟩:=ih λe he=>hd e (cM _ he)
  simp only[fv,List.takeWhile_cons,List.dropWhile_cons,h1,bA];exact⟨by rw[i1],i2⟩
def amq (h0:aj) (a:Nat) (S:Nat->Prop) (L:List E) (now:Int) (out:bU) (l c:Nat) (key t:Int) (is:Bool) (h:aj):Prop:=
 ∃D T,L=D++T/\(∀e∈D,pR now e=true)/\Al h a S T/\key=(hd T).1/\t=(hd T).2/\is= !T.isEmpty/\l=D.length/\iR h out l c 1 (kc D)/\(∀x,aQ out x->h0.size<=x)/\Fr S h0 h
theorem Po (A:Al h a S L) (hn:L.length<999999) (now:Int)
  (hk: ∀h' p' nj,Al h' a S (rest L now)->iR h' p' (due L now).length nj 1 (kc (due L now))->(∀c,aQ p' c->h.size<=c)->Fr S h h'->R (.slice p' (due L now).length nj) h'):
  Cl F.iO #[.P a 0,.U now] h R:=by
 refine iO.walk (Fz A ⟨_,_,_,rfl,?_⟩);refine⟨amq h a S L now,λ_ l _ _ _ _ _=>L.length - l,⟨[],L,rfl,(λ_ he=>by cases he),A,rfl,rfl,rfl,rfl,.nil rfl rfl rfl rfl,(λc ⟨_,e,_⟩=>by cases e),Fr.refl _ _⟩,?_⟩;rintro out l c key t is h2 ⟨D,U,eL,hD,A2,rfl,rfl,rfl,rfl,o2,ob,f2⟩;refine aK.of λJ hJ=> ?_
 have stop:(∀e r,U=e::r->pR now e=false)->J false h2:=λht=>by
  subst hJ;simp only[aA,aU];obtain⟨e1,e2⟩:=aaz hD ht;rw[<-eL] at e1 e2;rw[<-e1];rw[<-e1] at o2;exact hk h2 out c (by rw[e2];exact A2) o2 ob f2
 cases U with
 |nil=>exact stop (λe r x=>by cases x)
 |cons e U=>
  simp only[List.isEmpty_cons,gL,bA];by_cases afC:e.2<=now
  ·rw[show decide ((hd (e::U)).2<=now)=true from ay afC];subst hJ;simp only[bA];rintro b h4 rfl rfl;have hlen:L.length=D.length+(U.length+1):=by rw[eL];simp
   have fp:Fr No h2 (h2.push (.cells #[.I (hd (e::U)).1] T.int)):=Fr.push _ _;have row:Row (h2.push (.cells #[.I (hd (e::U)).1] T.int)) (some (AA h2.size 0)) (kc [e]):=.inr ⟨_,rfl,lR cz λj v hj=>by rw[bZ];simpa[kc,keys,hd] using hj⟩;have sz:h2.size<=(h2.push (.cells #[.I (hd (e::U)).1] T.int)).size:=fp.1;refine fQ tI (eT:=T.int) (by kernel_rfl) (o2.frame fp λ_ _=>id) row rfl (λv hv=>by simp[kc,keys] at hv;subst hv;rfl) (by omega) (by omega) λp' nj h5 o5 _ f5 gr=>⟨_,_,_,rfl,?_⟩
   have ekc:kc D++kc [e]=kc (D++ [e]):=by simp[kc,keys]
   rw[ekc] at o5;have amr: ∀ {c},S c->c<h.size:=λhc=>A.lt hc
   have A5:=(A2.frame fp λ_ _=>id).frame f5 (λc hc hx=>by have:=ob c hx;have:=amr hc;omega);have ob5: ∀c,aQ p' c->h.size<=c:=λc hc=>by
    rcases gr c hc with hx|hx
    ·exact ob c hx
    ·have:=f2.1;omega
   have f25:Fr S h h5:=f2.trans (Fr.no fp f5) (λ_ _=>id) (λc hc hx=>by have:=ob c hx;omega);refine AJ A5 (by simp;omega) _ (λ_ h6 A6 f6=>⟨_,rfl,?_⟩) (λGv=>absurd (by exact dX) Gv);rw[show iH (e::U) (hd (e::U)).1=U from UC A5.nodup] at A6;refine Fz A6 ⟨_,_,_,rfl,⟨D++ [e],U,by rw[eL];simp,?_,A6,rfl,rfl,rfl,by simp,?_,ob5,Fr.tt f25 f6⟩,?_⟩
   ·intro x hx;rcases bT.1 hx with hx|hx
    ·exact hD x hx
    ·simp at hx;subst hx;exact ay afC
   ·exact o5.frame f6 λc hc hx=>by have:=ob5 c hc;have:=amr hx;omega
   ·show L.length - (D.length+1)<L.length - D.length;omega
  ·rw[show decide ((hd (e::U)).2<=now)=false from decide_eq_false afC];exact stop λe' r x=>by cases x;exact decide_eq_false afC
end cp
end
end Go.Proofs.YtlenamcfacpheaaGreatDoor
namespace Go.Den
section
variable {P : Program}
theorem acx {sT xT ty elem : TypeId} {sz bytes : Nat} {z : Value} {h : aj} {n : Nat} {K : Value → aj → Prop}
    (T : Ao P sT elem sz bytes z) (hx : P.underlying xT = some (.int .i64)) (hn : 0 < n) (hb : n * bytes ≤ 70368744177664) (fI : n ≤ 4611686018427387904)
    (hk : ∀ nj h', iR h' (some ⟨h.size, 0, none⟩) 0 nj sz [] → n ≤ nj → Fr No h h' → K (.slice (some ⟨h.size, 0, none⟩) n nj) h') :
    aX P (Builtin.append_ #[sT, xT] ty #[.slice none 0 0, .int .i64 (n : Int)]) h K := by
  obtain ⟨i, hi, rfl, rfl, hz⟩ := T.i
  have JA := T.zs
  unfold Builtin.append_
  refine bX (s := underlying sT) (bD T.u) ?_
  refine bX (s := sizeOf elem) (lP hi) ?_
  refine bX (s := underlying xT) (bD hx) ?_
  refine bX (s := (pure true : Sem Bool)) (a := true) rfl ?_
  have hw : IntKind.wrap .i64 (n : Int) = (n : Int) := bK (by omega) (by omega)
  refine bX (s := asInt (.int .i64 (n : Int))) (a := (n : Int)) rfl ?_
  show aX P (if IntKind.wrap .i64 (n : Int) < 0 then _ else _) h K
  rw [if_neg (by rw [hw]; omega)]
  refine bX (s := typeInfo elem) (lK hi) ?_
  show aX P (if IntKind.wrap .i64 (n : Int) * (i.bytes : Int) > 2 ^ 48 then _ else _) h K
  have hbi : (n : Int) * (i.bytes : Int) = ((n * i.bytes : Nat) : Int) := by simp
  rw [if_neg (by rw [hw, hbi]; omega)]
  refine bX (s := (pure (IntKind.wrap .i64 (n : Int)).toNat : Sem Nat)) (a := n) (by rw [hw]; rfl) ?_
  show aX P (if 0 + n ≤ 0 then _ else _) h K
  rw [if_neg (by omega)]
  refine bX (s := typeInfo elem) (lK hi) ?_
  show aX P (if (((0 + n : Nat) : Int) > IntKind.max .i64 ∧ (true = true ∨ i.bytes = 0)) then _ else _) h K
  have ajB : IntKind.max .i64 = 9223372036854775807 := rfl
  rw [if_neg (by rw [ajB]; omega)]
  refine bX (s := typeInfo elem) (lK hi) ?_
  have hle := nextslicecap_le (need := 0 + n) (cap := 0) (by omega)
  have abK : ¬ (Builtin.nextslicecap (0 + n) 0 * i.bytes > 2 ^ 48) := by
    have h1 : Builtin.nextslicecap (0 + n) 0 * i.bytes ≤ 2 * (0 + n) * i.bytes := Nat.mul_le_mul_right _ hle
    rw [Nat.mul_assoc, Nat.zero_add] at h1
    rw [Nat.zero_add]
    omega
  show aX P (if Builtin.nextslicecap (0 + n) 0 * i.bytes > 2 ^ 48 then _ else _) h K
  rw [if_neg abK]
  show aX P (choose (.appendCap (0 + n) 0 elem) >>= _) h K
  rw [eZ]
  unfold choose
  simp only [aX, Question.forced, Bool.false_eq_true, if_false, Question.cut]
  intro tq
  refine bX (s := typeInfo elem) (lK hi) ?_
  rw [eZ]
  have Rf : ∀ (m : Nat) (K' : Unit → aj → Prop), K' () h → aX P (askRoom m) h K' := λm K' V2 => by
    unfold askRoom
    split
    · exact V2
    · exact V2
  refine Rf _ _ ?_
  refine bX (s := Builtin.firstCells i.size 0 (.slice none 0 0)) (a := #[]) (uF (ds := []) (.inl rfl) (by simp)) ?_
  have rz := oL (h := h) hi hz
  refine bX (a := if n * i.size = 0 then #[] else Builtin.zeroCells z.cells n) ?_ ?_
  · show rd P (if n * i.size = 0 then pure #[] else _) h = _
    by_cases Ww : n * i.size = 0
    · rw [if_pos Ww, if_pos Ww]; rfl
    · rw [if_neg Ww, if_neg Ww, bu _ _ _ _ rz]; rfl
  refine bX (s := zeroValue elem) (oL hi hz) ?_
  generalize amf : 0 + n + tq % (2 ^ 63 - (0 + n)) = nj
  have hge : n ≤ nj := by omega
  have h1 : ∀ m, (Builtin.zeroCells z.cells m).size = m * i.size := λm => by simp [Builtin.zeroCells, JA]
  show K (.slice (some ⟨h.size, 0, none⟩) (0 + n) nj) (h.push (.cells (#[] ++ (if n * i.size = 0 then #[] else Builtin.zeroCells z.cells n) ++ Builtin.zeroCells z.cells (nj - (0 + n))) elem))
  rw [Nat.zero_add]
  refine hk nj _ (.row h.size 0 _ elem rfl cz (Nat.zero_le _) ?_ (by simp) (λj v hj => by cases hj)) hge (Fr.push _ _)
  rw [Array.size_append, h1]
  have : (#[] ++ (if n * i.size = 0 then #[] else Builtin.zeroCells z.cells n) : Array Value).size = n * i.size := by
    by_cases Ww : n * i.size = 0
    · rw [if_pos Ww, Ww]; rfl
    · rw [if_neg Ww, Array.size_append, h1]; simp
  rw [this, ← Nat.add_mul, Nat.zero_add, show n + (nj - n) = nj by omega]
  omega
end
end Go.Den
namespace Go.Proofs.YtlenamcfacpheaaGreatDoor
open Go.Den
open IntKind (wrap)
open Int (toNat)
section
variable {h:aj} {R:iI}
theorem wR.walk (hv:Cl F.uu #[] h λv aR=>Vp v λt1=>aV aR (.cells #[.Z,.I 1,.I 0,.I 0,.I 0,.pointer t1] T.w8) λb aZ=>R (.P b 0) aZ):Cl F.wR #[] h R:=aS (lq ll) Tryz.func38 hv
theorem jM.walk {b:Nat} (hv: ∃t9,ak h (AA b 5)=some (.pointer t9)/\R (.bool (!t9.isNone)) h):Cl F.jM #[.P b 0] h R:=aS (lq ll) Tryz.func70 hv
theorem pk.walk {w9:Int} {xa:Int} {nf:bU} {nh ni:Nat} {Ka:Int} (hv:aV h (.cells #[.I w9,.I xa,.slice nf nh ni,.U Ka] T.aM) λb aR=>aV aR (.cells #[.I 0,.I 0,.Z,.U 0] T.aM) λcD aZ=>Hl aZ b 2 λPa Mf Pb=>Cl F.cu #[.slice Pa Mf Pb] aZ λv bJ=> ∃ams amt amu,v=.slice ams amt amu/\aH bJ (AA b 2) (.slice ams amt amu) λcB=>aM.LD cB (AA b 0) λRR Kx UF UG UH ajY=>aM.ST cB (AA cD 0) RR Kx UF UG UH ajY λcJ=>aM.LD cJ (AA cD 0) λoP ia nB nC nE pG=>R (.agg #[.I oP,.I ia,.slice nB nC nE,.U pG]) cJ):Cl F.pk #[.agg #[.I w9,.I xa,.slice nf nh ni,.U Ka]] h R:=aS (lq (lq ll)) Tryz.func88 hv
theorem tn.walk {w9:Int} {xa:Int} {nf:bU} {nh ni:Nat} {Ka:Int} (hv:aV h (.cells #[.I w9,.I xa,.slice nf nh ni,.U Ka] T.aM) λb aR=> ∃t4,ak aR (AA b 1)=some (.I t4)/\if(decide (t4≥1)) then∃t8,ak aR (AA b 1)=some (.I t8)/\if(decide (t8<=1099511627776)) then∃HR Cy Kj,ak aR (AA b 2)=some (.slice HR Cy Kj)/\if(decide ((Cy:Int)≥1)) then∃CH zK CI,ak aR (AA b 2)=some (.slice CH zK CI)/\if(decide ((zK:Int)<=600)) then∃t25,ak aR (AA b 3)=some (.U t25)/\R (.bool (decide (t25<=1099511627776))) aR else R (.bool false) aR else R (.bool false) aR else R (.bool false) aR else R (.bool false) aR):Cl F.tn #[.agg #[.I w9,.I xa,.slice nf nh ni,.U Ka]] h R:=aS (lq ll) Tryz.func280 hv
theorem mL.walk {b:Nat} {num:Int} (hv:aV h (.cells #[.I num] T.int) λcD aR=>Hl aR b 0 λyL vQ Az=>Cl F.cv #[.slice yL vQ Az,.func (.func F.iY) #[] #[.P cD 0]] aR λv aZ=> ∃t10,v=.I t10/\R (.I t10) aZ):Cl F.mL #[.P b 0,.I num] h R:=aS (lq ll) Tryz.func122 hv
theorem iY.walk {w9:Int} {xa:Int} {nf:bU} {nh ni:Nat} {Ka:Int} {c0:Nat} (hv:aV h (.cells #[.I w9,.I xa,.slice nf nh ni,.U Ka] T.aM) λb aR=>Hi aR b 0 λt5=> ∃t6,ak aR (AA c0 0)=some (.I t6)/\R (.bool (t5==t6)) aR):Cl F.iY #[.agg #[.I w9,.I xa,.slice nf nh ni,.U Ka],.P c0 0] h R:=aS (lq ll) Tryz.func173 hv
theorem nT.walk {b:Nat} {i:Int} (hv:aV h (.cells #[.I 0,.I 0,.Z,.U 0] T.aM) λcD aR=>Hl aR b 0 λaau aav aft=>Bd i aav/\aP aau λa=>aM.LD aR (a.add (toNat i*4)) λCJ xi Pp Pq Pr acy=>aV aR (.cells #[.I 0,.I 0,.Z,.U 0] T.aM) λeY aZ=>aM.ST aZ (AA eY 0) CJ xi Pp Pq Pr acy λbJ=>Hp bJ b 5 λt16=>Hi bJ eY 0 λt18=>Cl F.gn #[.pointer t16,.I t18] bJ λv cB=>Vi v λt19=>Hl cB b 0 λiP iy iz=>((0:Int)<=i/\i<=(iz:Int))/\Hl cB b 0 λo0 nJ pM=>((0:Int)<=wrap .i64 (i+1)/\wrap .i64 (i+1)<=(nJ:Int))/\aV cB (.cells #[.slice (cZ iP iz 0 4) ((toNat i) - 0) (iz - 0),.slice (cZ o0 pM (toNat (wrap .i64 (i+1))) 4) (nJ - (toNat (wrap .i64 (i+1)))) (pM - (toNat (wrap .i64 (i+1))))] T.ff) λjQ cJ=>ak cJ (AA b 0)=some (.slice o0 nJ pM)/\ak cJ (AA b 0)=some (.slice iP iy iz)/\Cl F.fa #[.slice (some (AA jQ 0)) 2 2] cJ λeJ cQ=>Vl eJ λzy yc zA=>ak cQ (AA b 0)=some (.slice o0 nJ pM)/\ak cQ (AA b 0)=some (.slice iP iy iz)/\aH cQ (AA b 0) (.slice zy yc zA) λcW=>aM.LD cW (AA eY 0) λHW xj Ja Jb Jc Nc=>aM.ST cW (AA cD 0) HW xj Ja Jb Jc Nc λdA=>aM.LD dA (AA cD 0) λoP ia nB nC nE pG=>R (.agg #[.I oP,.I ia,.slice nB nC nE,.U pG]) dA):Cl F.nT #[.P b 0,.I i] h R:=aS (lq (lq (sq (pN 7) (sq (pN 19) ll)))) Tryz.func121 hv
theorem mf.walk {b:Nat} (hv:Cl F.jM #[.P b 0] h λv aR=>Vb v λt7=>aK (λ(kI:bU) (kJ kK:Nat) (aZ:aj)=>R (.slice kI kJ kK) aZ) (λJ=>if t7 then Hl aR b 0 λFw Bs MZ=> ∃(I:bU->Nat->Nat->Int->aj->Prop) (mu:bU->Nat->Nat->Int->aj->Nat),I none 0 0 0 aR/\∀(lE:bU) (lF lG:Nat) (t13:Int) (bJ:aj),I lE lF lG t13 bJ->if(decide (t13<(Bs:Int))) then Bd t13 Bs/\aP Fw λa=>aM.LD bJ (a.add (toNat t13*4)) λvL rO Dr Ds Dt HX=>aV bJ (.cells #[.I 0,.I 0,.Z,.U 0] T.aM) λcD cB=>aM.ST cB (AA cD 0) vL rO Dr Ds Dt HX λcJ=>aM.LD cJ (AA cD 0) λvK vi Ps Pv Pw amv=>Cl F.pk #[.agg #[.I vK,.I vi,.slice Ps Pv Pw,.U amv]] cJ λeJ cQ=> ∃zF vI yj ym yo RT,eJ=.agg #[.I zF,.I vI,.slice yj ym yo,.U RT]/\aV cQ (.cells #[.I zF,.I vI,.slice yj ym yo,.U RT] T.aM) λeY cW=>aX Tryz.prog (Builtin.append_ #[T.ff,T.ff] T.ff #[.slice lE lF lG,.slice (some (AA eY 0)) 1 1]) cW λgR dA=> ∃vd ua vF,gR=.slice vd ua vF/\(I vd ua vF (wrap .i64 (t13+1)) dA/\mu vd ua vF (wrap .i64 (t13+1)) dA<mu lE lF lG t13 bJ) else J lE lF lG bJ else J none 0 0 aR)):Cl F.mf #[.P b 0] h R:=aS (lq (lq (sq (lq (.join [(3,.one (.slice))] (cq (lq (bq (.loop [(3,.one (.slice)),(13,.one (.int .i64))] (lq (sq (cq lf lf) (sq (bq ll) lf)))))) lf))) ll))) Tryz.func39 hv
theorem qm.walk {b:Nat} {owner:Int} {hH:bU} {fS hN:Nat} {pS:Int} (hv:Cl F.jM #[.P b 0] h λv aR=> ∃t12,v=.bool t12/\if(!t12) then R (.tuple #[.I 0,.I 6]) aR else Hi aR b 1 λt17=>Cl F.pk #[.agg #[.I t17,.I owner,.slice hH fS hN,.U pS]] aR λeJ aZ=> ∃zL vk yq yr yt Wx,eJ=.agg #[.I zL,.I vk,.slice yq yr yt,.U Wx]/\aV aZ (.cells #[.I 0,.I 0,.Z,.U 0] T.aM) λcD bJ=>aM.ST bJ (AA cD 0) zL vk yq yr yt Wx λcB=>aM.LD cB (AA cD 0) λNd Ky Px Py Pz amw=>Cl F.tn #[.agg #[.I Nd,.I Ky,.slice Px Py Pz,.U amw]] cB λgR cJ=> ∃t25,gR=.bool t25/\if(!t25) then R (.tuple #[.I 0,.I 1]) cJ else∃yf vJ CD,ak cJ (AA b 0)=some (.slice yf vJ CD)/\if(decide ((vJ:Int)≥16)) then R (.tuple #[.I 0,.I 15]) cJ else Hl cJ b 0 λrJ rK vg=>aM.LD cJ (AA cD 0) λacz FA afD afE afF acA=>aV cJ (.cells #[.I acz,.I FA,.slice afD afE afF,.U acA] T.aM) λeY cQ=>ak cQ (AA b 0)=some (.slice rJ rK vg)/\aX Tryz.prog (Builtin.append_ #[T.ff,T.ff] T.ff #[.slice rJ rK vg,.slice (some (AA eY 0)) 1 1]) cQ λkU cW=> ∃Nf Kz RU,kU=.slice Nf Kz RU/\aH cW (AA b 0) (.slice Nf Kz RU) λdA=> ∃t47,ak dA (AA b 1)=some (.I t47)/\aH dA (AA b 1) (.I (wrap .i64 (t47+1))) λfc=>Hp fc b 5 λt54=>Hi fc cD 0 λt56=>Cl F.kO #[.pointer t54,.I t56,.U pS] fc λot cP=>Vi ot λt58=> ∃t60,ak cP (AA cD 0)=some (.I t60)/\R (.tuple #[.I t60,.I 0]) cP):Cl F.qm #[.P b 0,.I owner,.slice hH fS hN,.U pS] h R:=aS (lq (sq (lq (cq ll lf)) (lq (sq (bq (lq (cq ll (lq (cq ll lf))))) (sq (pN 11) (lq (sq (pN 8) ll))))))) Tryz.func240 hv
theorem mX.walk {b:Nat} {num:Int} {owner:Int} (hv:Cl F.jM #[.P b 0] h λv aR=> ∃t9,v=.bool t9/\if(!t9) then R (.I 6) aR else Cl F.mL #[.P b 0,.I num] aR λeJ aZ=> ∃t13,eJ=.I t13/\if(decide (t13<0)) then R (.I 4) aZ else Hl aZ b 0 λvd ua vF=>Bd t13 ua/\aP vd λa=> ∃t25,ak aZ ((a.add (toNat t13*4)).add 1)=some (.I t25)/\if(t25 !=owner) then R (.I 13) aZ else Cl F.nT #[.P b 0,.I t13] aZ λgR bJ=> ∃Nh HY afG afH afI acB,gR=.agg #[.I Nh,.I HY,.slice afG afH afI,.U acB]/\∃t34,ak bJ (AA b 3)=some (.I t34)/\aH bJ (AA b 3) (.I (wrap .i64 (t34+1))) λcB=>R (.I 0) cB):Cl F.mX #[.P b 0,.I num,.I owner] h R:=aS (lq (sq (lq (cq ll lf)) (lq (sq (bq (lq (cq ll (lq (cq ll lf))))) (lq (lq ll)))))) Tryz.func152 hv
theorem oU.walk {b:Nat} {now:Int} (hv:Cl F.jM #[.P b 0] h λv aR=>Vb v λt9=>aK (λ(kI:bU) (kJ kK:Nat) (aZ:aj)=>R (.slice kI kJ kK) aZ) (λJ=>if t9 then Hp aR b 5 λt13=>Cl F.iO #[.pointer t13,.U now] aR λeJ bJ=>Vl eJ λtG sJ ud=> ∃(I:bU->Nat->Nat->Int->aj->Prop) (mu:bU->Nat->Nat->Int->aj->Nat),I none 0 0 0 bJ/\∀(lE:bU) (lF lG:Nat) (t17:Int) (cB:aj),I lE lF lG t17 cB->if(decide (t17<(sJ:Int))) then Bd t17 sJ/\aP tG λa=>Re cB (a.add (toNat t17*1)) λt20=>Cl F.mL #[.P b 0,.I t20] cB λgR cJ=>Vi gR λt25=>Cl F.nT #[.P b 0,.I t25] cJ λkU cQ=> ∃RJ HT Wy Wz WA ah2,kU=.agg #[.I RJ,.I HT,.slice Wy Wz WA,.U ah2]/\aV cQ (.cells #[.I RJ,.I HT,.slice Wy Wz WA,.U ah2] T.aM) λcD cW=>aX Tryz.prog (Builtin.append_ #[T.ff,T.ff] T.ff #[.slice lE lF lG,.slice (some (AA cD 0)) 1 1]) cW λot dA=>Vl ot λBj zC Fk=> ∃t32,ak dA (AA b 4)=some (.I t32)/\aH dA (AA b 4) (.I (wrap .i64 (t32+1))) λfc=>(I Bj zC Fk (wrap .i64 (t17+1)) fc/\mu Bj zC Fk (wrap .i64 (t17+1)) fc<mu lE lF lG t17 cB) else J lE lF lG cB else J none 0 0 aR)):Cl F.oU #[.P b 0,.U now] h R:=aS (lq (lq (sq (lq (.join [(5,.one (.slice))] (cq (lq (bq (.loop [(5,.one (.slice)),(17,.one (.int .i64))] (lq (sq (cq lf lf) (sq (bq (lq ll)) lf)))))) lf))) ll))) Tryz.func54 hv
theorem cv.find.walk {oB:bU} {mF qJ:Nat} {RV:Nat} (hv: ∃(I:Int->aj->Prop) (mu:Int->aj->Nat),I 0 h/\∀(t8:Int) (aR:aj),I t8 aR->if(decide (t8<(mF:Int))) then Bd t8 mF/\aP oB λa=>aM.LD aR (a.add (toNat t8*4)) λBu ue FB FC FD acC=>Cl F.iY #[.agg #[.I Bu,.I ue,.slice FB FC FD,.U acC],.P RV 0] aR λv aZ=> ∃t16,v=.bool t16/\if t16 then R (.I t8) aZ else(I (wrap .i64 (t8+1)) aZ/\mu (wrap .i64 (t8+1)) aZ<mu t8 aR) else R (.I (-1)) aR):Cl F.cv #[.slice oB mF qJ,.func (.func F.iY) #[] #[.P RV 0]] h R:=aS (lq (sq (lq (bq (.loop [(8,.one (.int .i64))] (lq (sq (cq lf lf) (sq (bq (lq (lq (cq ll lf)))) lf)))))) ll)) Tryz.func153 hv
theorem fa.walk {KA:bU} {CK acD:Nat} (hv: ∃(I:Int->Int->aj->Prop) (mu:Int->Int->aj->Nat),I 0 0 h/\∀(size:Int) (t11:Int) (aR:aj),I size t11 aR->if(decide (t11<(CK:Int))) then aK (λ(acE:Int) (aZ:aj)=>(I acE (wrap .i64 (t11+1)) aZ/\mu acE (wrap .i64 (t11+1)) aZ<mu size t11 aR)) (λJ=>Bd t11 CK/\aP KA λa=>L3 aR (a.add (toNat t11*1)) λBh ve Bi=>aK (λ(bJ:aj)=>J (wrap .i64 (size+(ve:Int))) bJ) (λjo=>if(decide ((wrap .i64 (size+(ve:Int)))<0)) then False else jo aR)) else Cl F.ft #[.Z,.I size] aR λv cB=>Vl v λiP iy iz=> ∃(Ko:bU->Nat->Nat->Int->aj->Prop) (CC:bU->Nat->Nat->Int->aj->Nat),Ko iP iy iz 0 cB/\∀(AK:bU) (AL AM:Nat) (t27:Int) (cJ:aj),Ko AK AL AM t27 cJ->if(decide (t27<(CK:Int))) then Bd t27 CK/\aP KA λku=>L3 cJ (ku.add (toNat t27*1)) λo0 nJ pM=>aX Tryz.prog (Builtin.append_ #[T.ff,T.ff] T.ff #[.slice AK AL AM,.slice o0 nJ pM]) cJ λeJ cQ=> ∃rF pO rG,eJ=.slice rF pO rG/\(Ko rF pO rG (wrap .i64 (t27+1)) cQ/\CC rF pO rG (wrap .i64 (t27+1)) cQ<CC AK AL AM t27 cJ) else R (.slice AK AL AM) cJ):Cl F.fa #[.slice KA CK acD] h R:=aS (lq (lq (sq (lq (bq (.loop [(3,.one (.int .i64)),(11,.one (.int .i64))] (lq (sq (cq lf lf) (sq (.join [(3,.one (.int .i64))] (bq (lq (lq (lq (.join [] (cq lf lf))))))) lf)))))) (lq (sq (lq (bq (.loop [(6,.one (.slice)),(27,.one (.int .i64))] (lq (sq (cq lf lf) (sq (bq ll) lf)))))) ll))))) Tryz.func172 hv
theorem ft.walk {oB:bU} {mF qJ:Nat} {n:Int} (hv:aK (λ(aR:aj)=>aK (λ(amx:bU) (amy amz:Nat) (aZ:aj)=>R (.slice amx amy amz) aZ) (λjo=>if(decide ((wrap .i64 (n - (wrap .i64 ((qJ:Int) - (mF:Int)))))>0)) then((0:Int)<=(qJ:Int)/\(qJ:Int)<=(qJ:Int))/\aX Tryz.prog (Builtin.append_ #[T.ff,T.int] T.ff #[.slice (cZ oB qJ 0 4) ((toNat (qJ:Int)) - 0) (qJ - 0),.I (wrap .i64 (n - (wrap .i64 ((qJ:Int) - (mF:Int)))))]) aR λv bJ=>Vl v λFi Fj Cx=>((0:Int)<=(mF:Int)/\(mF:Int)<=(Cx:Int))/\jo (cZ Fi Cx 0 4) ((toNat (mF:Int)) - 0) (Cx - 0) bJ else jo oB mF qJ aR)) (λJ=>if(decide (n<0)) then False else J h)):Cl F.ft #[.slice oB mF qJ,.I n] h R:=aS (lq (sq (lq (.join [] (cq lf lf))) (sq (lq (lq (.join [(0,.one (.slice))] (cq lf lf)))) ll))) Tryz.func199 hv
end
section
open Go.jH Go.rN
namespace lH
open vf
variable {h h':aj} {b:Nat} {X:Ft} {R:iI} {p q:bU} {c d i:Nat} {L:List E}
structure It where
 num:Nat
 owner:Int
 d:List UInt8
 cF:Nat
structure IV where
 num:Nat
 owner:Int
 v:BV
 cF:Nat
def IV.abs (x:IV):It:=⟨x.num,x.owner,x.v.b,x.cF⟩
abbrev jJ (x:IV):List Value:= [.int .i64 (x.num:Int),.int .i64 x.owner,x.v.val,.int .u64 (x.cF:Int)]
theorem mz (x:IV):(jJ x).length=4:=rfl
theorem RW (xs:List IV): ∀v∈xs.flatMap jJ,jg v=true:=by
 intro v hv;obtain⟨a,_,ha⟩:=List.mem_flatMap.1 hv;simp at ha;rcases ha with rfl|rfl|rfl|rfl<;>rfl
abbrev IV.agg (x:IV):Value:=.agg #[.int .i64 (x.num:Int),.int .i64 x.owner,x.v.val,.int .u64 (x.cF:Int)]
theorem tI:Ao Tryz.prog T.ff T.aM 4 48 (.agg #[.I 0,.I 0,.Z,.U 0]):=⟨by kernel_rfl,by kernel_rfl,rfl⟩
theorem uI:Tryz.prog.underlying T.ff=some (.slice T.aM):=by kernel_rfl
theorem aqe:Tryz.prog.underlying T.int=some (.int .i64):=by kernel_rfl
structure BS where
 items:List It
 next:Nat
 taken:Nat
 EE:Nat
 over:Nat
structure Mm (h:aj) (b:Nat) (X:Ft) (s:BS) (L:List E) (lp:bU) (lc:Nat) (xs:List IV) (a:Nat) (S:Nat->Prop):Prop where
 dE:h[b]? =some (.cells #[.slice lp xs.length lc,.int .i64 (s.next:Int),.int .i64 (s.taken:Int),.int .i64 (s.EE:Int),.int .i64 (s.over:Int),.pointer (some ⟨a,0,none⟩)] T.w8 (0,0))
 own:iR h lp xs.length lc 4 (xs.flatMap jJ)
 al:cp.Al h a S L
 abs:xs.map IV.abs=s.items
 PA: ∀x∈xs,x.v.ok h X.D
 m: ∀c,X.M c↔c=b\/aQ lp c\/S c
 bl: ¬aQ lp b
 bs: ¬S b
 ls: ∀c,aQ lp c->¬S c
 GK: ∀c,X.M c->¬X.D c
 RX: ∀c,X.D c->c<h.size
def Bx (h:aj) (b:Nat) (X:Ft) (s:BS) (L:List E):Prop:= ∃lp lc xs a S,Mm h b X s L lp lc xs a S
variable {s : BS} {lp : Option Addr} {lc a : Nat} {xs : List IV} {S : Nat → Prop}
theorem Mm.lt (H:Mm h b X s L lp lc xs a S) (y:Nat) (hy:X.M y\/X.D y):y<h.size:=by
 rcases hy with hy|hy
 ·rcases(H.m y).1 hy with rfl|h1|h1
  ·exact aI H.dE
  ·exact H.own.gm h1
  ·exact H.al.lt h1
 ·exact H.RX y hy
theorem Bx.lt (H:Bx h b X s L) (y:Nat) (hy:X.M y\/X.D y):y<h.size:=by
 obtain⟨lp,lc,xs,a,S,H⟩:=H;exact H.lt y hy
theorem Mm.frame {Q:Nat->Prop} (H:Mm h b X s L lp lc xs a S) (f:Fr Q h h') (hq: ∀y,X.M y\/X.D y->¬Q y):Mm h' b X s L lp lc xs a S:=
 have hm: ∀y,X.M y->¬Q y:=λy hy=>hq y (.inl hy)
 ⟨f.get H.dE (hm b ((H.m b).2 (.inl rfl))),H.own.frame f (λy hy=>hm y ((H.m y).2 (.inr (.inl hy)))),H.al.frame f (λy hy=>hm y ((H.m y).2 (.inr (.inr hy)))),H.abs,λx hx=>(H.PA x hx).frame f (λy hy=>hq y (.inr hy)),H.m,H.bl,H.bs,H.ls,H.GK,λy hy=>cS (H.RX y hy) f.1⟩
theorem Bx.frame {Q:Nat->Prop} (H:Bx h b X s L) (f:Fr Q h h') (hq: ∀y,X.M y\/X.D y->¬Q y):Bx h' b X s L:=by
 obtain⟨lp,lc,xs,a,S,H⟩:=H;exact⟨lp,lc,xs,a,S,H.frame f hq⟩
theorem Mm.on (H:Mm h b X s L lp lc xs a S) (f:Fr No h h'):Mm h' b X s L lp lc xs a S:=H.frame f (λ_ _=>id)
theorem Mm.len (H:Mm h b X s L lp lc xs a S):xs.length=s.items.length:=by rw[<-H.abs,aN]
theorem ji (H:Mm h b X s L lp lc xs a S) (hk:R (.bool true) h):Cl F.jM #[.P b 0] h R:=
 jM.walk ⟨_,af H.dE rfl,hk⟩
theorem pD (hk: ∀h' b X,Bx h' b X ⟨[],1,0,0,0⟩ []->Fr No h h'->(∀y,X.M y\/X.D y->h.size<=y)->R (.P b 0) h'):Cl F.wR #[] h R:=by
 refine wR.walk (cp.pD λa S h1 A1 g1 f1=>⟨_,rfl,cX ?_⟩);have f2:Fr No h1 (h1.push (.cells #[.Z,.I 1,.I 0,.I 0,.I 0,.P a 0] T.w8)):=Fr.push _ _;have z:=f1.1;refine hk _ h1.size ⟨λy=>y=h1.size\/aQ none y\/S y,λ_=>False⟩ ⟨none,0, [],a,S,⟨cz,.nil rfl rfl rfl rfl,A1.frame f2 (λ_ _=>id),rfl,(λx hx=>by cases hx),λ_=>fY,(λ⟨a,e,_⟩=>by cases e),λhs=> ?_,(λy ⟨a,e,_⟩=>by cases e),λ_ _=>id,λ_ hy=>hy.elim⟩⟩ (f1.tt f2) ?_
 ·have:=A1.lt hs;omega
 ·rintro y ((rfl|⟨a,e,_⟩|hs)|hy)
  ·exact z
  ·cases e
  ·exact g1 y hs
  ·exact hy.elim
theorem Du {x0 x1 x3:Int} {bs:List UInt8} {n m:Nat} (hr:Row h p (bc bs)) (hn:n=bs.length) (hl:bs.length<=70368744177664)
  (hk: ∀h' p' c',iR h' p' bs.length c' 1 (bc bs)->Fr No h h'->(∀y,aQ p' y->h.size<=y)->R (.agg #[.I x0,.I x1,.slice p' bs.length c',.U x3]) h'):
  Cl F.pk #[.agg #[.I x0,.I x1,.slice p n m,.U x3]] h R:=by
 subst hn;refine pk.walk (aM.box λb1 h1 uf dw f1=>aM.box λb2 h2 FE fI f2=> ?_);have afJ:=f2.get dw id;refine⟨_,_,_,af afJ rfl,my (hr.frame (f1.tt f2) (λ_ _=>id)) rfl hl λp3 c3 h3 o3 f3 g3=>⟨_,_,_,rfl,?_⟩⟩;have l1:=aI dw;have l2:=aI fI;have k1:=f3.get afJ id;have k2:aM.at h3 b2 0 0 none 0 0 0:=f3.get fI id;have z1:=f1.1;have z2:=f2.1;have ne:b2≠b1:=by omega
 refine bL k1 (by simp) λh4 a1 a2 a3=> ?_
 have k4:aM.at h4 b1 x0 x1 p3 bs.length c3 x3:=a1;refine aM.ld k4 ?_;have k5:aM.at h4 b2 0 0 none 0 0 0:=(a3 b2 ne).trans k2;refine aM.set k5 λh8 d1 d2 d3=>aM.ld d1 ?_
 have f4:Fr (λy=>y=b1\/y=b2) h3 h8:=⟨by omega,λy hy hn=>by rw[d3 y (λe=>hn (.inr e)),a3 y (λe=>hn (.inl e))]⟩;have F3:Fr No h h3:=f1.tt (f2.tt f3);refine hk h8 p3 c3 (o3.frame f4 (λy hy e=>by have:=g3 y hy;omega)) (F3.fresh f4 (λy hy=>by omega)) (λy hy=>by have:=g3 y hy;omega)
def GL (owner:Int) (n:Nat) (cF:Int):Bool:=decide (1<=owner) && decide (owner<=1099511627776) && decide (1<=n) && decide (n<=600) && decide (cF<=1099511627776)
theorem KB {owner cF:Int} {n:Nat} :GL owner n cF=true↔1<=owner/\owner<=1099511627776/\1<=n/\n<=600/\cF<=1099511627776:=by simp[GL,and_assoc]
theorem ic {x0 x1 x3:Int} {n m:Nat} (hk: ∀h',Fr No h h'->R (.bool (GL x1 n x3)) h'):
  Cl F.tn #[.agg #[.I x0,.I x1,.slice p n m,.U x3]] h R:=by
 refine tn.walk (aM.box λb1 h1 uf dw f1=>⟨_,af dw rfl,?_⟩);have hk:=hk h1 f1;unfold GL at hk;by_cases h1:1<=x1
 ·rw[ag (by simpa using h1)];refine⟨_,af dw rfl,?_⟩;by_cases h2:x1<=1099511627776
  ·rw[ag (by simpa using h2)];refine⟨_,_,_,af dw rfl,?_⟩;by_cases h3:1<=n
   ·rw[ag (by simp;omega)];refine⟨_,_,_,af dw rfl,?_⟩;by_cases h4:n<=600
    ·rw[ag (by simp;omega)];refine⟨_,af dw rfl,?_⟩;simpa[h1,h2,h3,h4] using hk
    ·rw[ai (by simp;omega)];simpa[h4] using hk
   ·rw[ai (by simp;omega)];simpa[h3] using hk
  ·rw[ai (by simpa using h2)];simpa[h2] using hk
 ·rw[ai (by simpa using h1)];simpa[h1] using hk
def IG (xs:List It) (num:Int):Option Nat:=xs.findIdx? (λa=>decide ((a.num:Int)=num))
def CL (xs:List It) (num:Int):Int:=match IG xs num with|some k=>(k:Int)|none=> -1
abbrev KC (h:aj) (b:Nat) (num:Int):Prop:=h[b]? =some (.cells #[.int .i64 num] T.int (0,0))
theorem acF {b:Nat} {num:Int} (x:IV) (hid:KC h b num) (hk: ∀h',Fr No h h'->R (.bool (decide ((x.num:Int)=num))) h'):Cl F.iY #[x.agg,.P b 0] h R:=by
 refine iY.walk (aM.box λb1 h1 eb hb f1=>⟨_,af hb rfl,_,af (f1.get hid (λx=>x)) rfl,?_⟩);have e:((x.num:Int)==num)=decide ((x.num:Int)=num):=by
  by_cases q:(x.num:Int)=num<;>simp[q]
 rw[e];exact hk h1 f1
theorem CM {xs:List IV} {n m b:Nat} {num:Int} (hr:Row h p (xs.flatMap jJ)) (hn:n=xs.length) (hl:xs.length<=1000000000) (hid:KC h b num) (hk: ∀h',Fr No h h'->R (.I (CL (xs.map IV.abs) num)) h'):
  Cl F.cv #[.slice p n m,.func (.func F.iY) #[] #[.P b 0]] h R:=by
 subst hn;refine cv.find.walk ?_;refine⟨λi h'=>Fr No h h'/\∃k:Nat,i=(k:Int)/\k<=xs.length/\∀j (hj:j<xs.length),j<k->(xs[j].num:Int)≠num,λi _=>xs.length - i.toNat,⟨Fr.refl _ _,0,rfl,by omega,λj _ hj=>by omega⟩,?_⟩;rintro _ h1 ⟨f1,k,rfl,hkn,kz⟩;have pJ:=hr.frame f1 (λ_ _ x=>x);have PB:KC h1 b num:=f1.get hid (λx=>x);by_cases jc:k<xs.length
 ·have q1:(k:Int)<(xs.length:Int):=by omega
  simp only[q1,decide_true,bA,aL];have hx:xs[k]? =some xs[k]:=au jc;obtain⟨a,rfl⟩:=pJ.some (λe=>by have:=bp List.length e;rw[gW jJ 4 mz,bC] at this;omega);refine⟨⟨by omega,by first|trivial|omega⟩,aB.2 (aM.TM (pJ.lj mz hx) ?_)⟩;refine acF xs[k] PB λh2 f2=>⟨_,rfl,?_⟩
  by_cases e:(xs[k].num:Int)=num
  ·simp only[e,decide_true,bA];have:CL (xs.map IV.abs) num=(k:Int):=by
    unfold CL IG;have:(xs.map IV.abs).findIdx? (λa=>decide ((a.num:Int)=num))=some k:=by
     rw[cO];refine⟨by rw[aN];exact jc,?_,λj hj=> ?_⟩
     ·rw[List.getElem_map];exact ay e
     ·rw[List.getElem_map,Bool.not_eq_true];exact decide_eq_false (kz j (by omega) hj)
    rw[this]
   rw[this] at hk;exact hk h2 (f1.tt f2)
  ·simp only[e,decide_false,aA,aU];rw[bK (by omega) (by omega)];refine⟨⟨f1.tt f2,k+1,by omega,by omega,λj hj hjk=> ?_⟩,?_⟩
   ·by_cases q:j=k
    ·subst q;exact e
    ·exact kz j hj (by omega)
   ·show xs.length - Int.toNat ((k:Int)+1)<xs.length - Int.toNat (k:Int);omega
 ·have q1: ¬(k:Int)<(xs.length:Int):=by omega
  simp only[q1,decide_false,aA,aU];have:CL (xs.map IV.abs) num= -1:=by
   unfold CL IG;have:(xs.map IV.abs).findIdx? (λa=>decide ((a.num:Int)=num))=none:=by
    rw[dK];intro a ha;obtain⟨x,hx,rfl⟩:=bn.1 ha;obtain⟨j,hj,rfl⟩:=List.mem_iff_getElem.1 hx;exact decide_eq_false (kz j hj (by omega))
   rw[this]
  rw[this] at hk;exact hk h1 f1
theorem oQ {num:Int} (H:Mm h b X s L lp lc xs a S) (hl:s.items.length<=1000000000) (hk: ∀h',Fr No h h'->R (.I (CL s.items num)) h'):Cl F.mL #[.P b 0,.I num] h R:=by
 refine mL.walk (cX ?_);have f1:Fr No h (h.push (.cells #[.I num] T.int)):=Fr.push _ _;have H1:=H.on f1;have hl':=H.len;refine⟨_,_,_,af H1.dE rfl,CM H1.own.pZ rfl (by omega) cz λh2 f2=>⟨_,rfl,?_⟩⟩;rw[H.abs];exact hk h2 (f1.tt f2)
theorem afK {n : Nat} (hn : n ≤ 1000000) (hk : ∀ p' c' h', iR h' p' 0 c' 4 [] → Fr No h h' → (∀ y, aQ p' y → h.size ≤ y) → R (.slice p' 0 c') h') :
    Cl F.ft #[.slice none 0 0, .int .i64 (n : Int)] h R := by
  refine ft.walk ?_
  simp only [aK]
  have q0 : ¬ (n : Int) < 0 := by omega
  have e1 : IntKind.wrap .i64 (((0 : Nat) : Int) - ((0 : Nat) : Int)) = 0 := rfl
  have e2 : IntKind.wrap .i64 ((n : Int) - 0) = (n : Int) := by rw [bK (by omega) (by omega)]; omega
  rw [e1, e2]
  simp only [q0, decide_false, Bool.false_eq_true, if_false]
  by_cases hz : n = 0
  · subst hz
    rw [if_neg (by simp)]
    exact hk none 0 h (.nil rfl rfl rfl rfl) (Fr.refl _ _) (λy ⟨a, e, _⟩ => by cases e)
  · have q1 : (n : Int) > 0 := by omega
    simp only [q1, decide_true, if_true]
    refine ⟨⟨by omega, by omega⟩, ?_⟩
    have e3 : cZ none 0 0 4 = none := sw _ _ _
    rw [e3]
    refine acx tI aqe (by omega) (by omega) (by omega) λnj h' o hc f => ⟨_, _, _, rfl, ⟨by omega, by omega⟩, ?_⟩
    rw [sw]
    exact hk _ nj h' o f (λy ⟨a, e, e2⟩ => by cases e; exact Nat.le_of_eq e2)
theorem Ni {p1 p2:bU} {n1 c1 n2 c2:Nat} {us ws:List IV} (hh:Row h (some (AA c 0)) [.slice p1 n1 c1,.slice p2 n2 c2]) (r1:Row h p1 (us.flatMap jJ)) (e1:n1=us.length) (r2:Row h p2 (ws.flatMap jJ)) (e2:n2=ws.length) (hl:us.length+ws.length<=1000)
  (hk: ∀p' c' h',iR h' p' (us++ws).length c' 4 ((us++ws).flatMap jJ)->Fr No h h'->(∀y,aQ p' y->h.size<=y)->R (.slice p' (us++ws).length c') h'):
  Cl F.fa #[.slice (some (AA c 0)) 2 2] h R:=by
 subst e1 e2;have c0: ∀ {g:aj},Fr No h g->ak g (((AA c 0):Addr).add (0*1))=some (.slice p1 us.length c1):=λf=>(hh.frame f (λ_ _=>id)).cell (j:=0) rfl
 have c1': ∀ {g:aj},Fr No h g->ak g (((AA c 0):Addr).add (1*1))=some (.slice p2 ws.length c2):=λf=>(hh.frame f (λ_ _=>id)).cell (j:=1) rfl
 refine fa.walk ?_;refine⟨λsize i g=>g=h/\((i=0/\size=0)\/(i=1/\size=(us.length:Int))\/(i=2/\size=((us.length+ws.length:Nat):Int))),λ_ i _=>2 - i.toNat,⟨rfl,.inl ⟨rfl,rfl⟩⟩,?_⟩;rintro size i g ⟨rfl,hi⟩;rcases hi with⟨rfl,rfl⟩|⟨rfl,rfl⟩|⟨rfl,rfl⟩
 ·rw[ag (by rfl)];refine aK.of λJ hJ=>⟨⟨by omega,by omega⟩,aB.2 ⟨_,_,_,c0 (Fr.refl _ _),aK.of λJ1 pA=> ?_⟩⟩
  have e:IntKind.wrap .i64 (0+(us.length:Int))=(us.length:Int):=by rw[bK (by omega) (by omega)];omega
  rw[e] at pA;rw[e,ai (by simp<;>omega)];subst pA;subst hJ;exact⟨⟨rfl,.inr (.inl ⟨rfl,rfl⟩)⟩,by show 2 - Int.toNat 1<2 - Int.toNat 0;decide⟩
 ·rw[ag (by rfl)];refine aK.of λJ hJ=>⟨⟨by omega,by omega⟩,aB.2 ⟨_,_,_,c1' (Fr.refl _ _),aK.of λJ1 pA=> ?_⟩⟩
  have e:IntKind.wrap .i64 ((us.length:Int)+(ws.length:Int))=((us.length+ws.length:Nat):Int):=by rw[bK (by omega) (by omega)];omega
  rw[e] at pA;rw[e,ai (by simp<;>omega)];subst pA;subst hJ;exact⟨⟨rfl,.inr (.inr ⟨rfl,rfl⟩)⟩,by show 2 - Int.toNat 2<2 - Int.toNat 1;decide⟩
 ·rw[dL];refine afK (by omega) λp4 c4 h4 o4 f4 g4=>⟨_,_,_,rfl,?_⟩
  refine⟨λnp nl nc i g'=>Fr No g g'/\(∀y,aQ np y->g.size<=y)/\((i=0/\nl=0/\iR g' np nl nc 4 [])\/(i=1/\nl=us.length/\iR g' np nl nc 4 (us.flatMap jJ))\/(i=2/\nl=(us++ws).length/\iR g' np nl nc 4 ((us++ws).flatMap jJ))),λ_ _ _ i _=>2 - i.toNat,⟨f4,g4,.inl ⟨rfl,rfl,o4⟩⟩,?_⟩;rintro np nl nc i g' ⟨fg,gg,hi⟩;rcases hi with⟨rfl,rfl,o⟩|⟨rfl,rfl,o⟩|⟨rfl,rfl,o⟩
  ·rw[ag (by rfl)];refine⟨⟨by omega,by omega⟩,aB.2 ⟨_,_,_,c0 fg,?_⟩⟩;refine fQ tI uI o (r1.frame fg (λ_ _=>id)) (gW jJ 4 mz us) (RW us) (by omega) (by omega) λp6 c6 h6 o6 _ f6 g6=>⟨_,_,_,rfl,?_⟩
   rw[fk,bZ] at o6;rw[bZ];have z:=fg.1;exact⟨⟨fg.fresh f6 gg,(λy hy=>(g6 y hy).elim (gg y) (λh2=>by omega)),.inr (.inl ⟨rfl,rfl,o6⟩)⟩,by show 2 - Int.toNat 1<2 - Int.toNat 0;decide⟩
  ·rw[ag (by rfl)];refine⟨⟨by omega,by omega⟩,aB.2 ⟨_,_,_,c1' fg,?_⟩⟩;refine fQ tI uI o (r2.frame fg (λ_ _=>id)) (gW jJ 4 mz ws) (RW ws) (by omega) (by omega) λp6 c6 h6 o6 _ f6 g6=>⟨_,_,_,rfl,?_⟩
   rw[<-dI,<-aF] at o6;rw[<-aF];have z:=fg.1;exact⟨⟨fg.fresh f6 gg,(λy hy=>(g6 y hy).elim (gg y) (λh2=>by omega)),.inr (.inr ⟨rfl,rfl,o6⟩)⟩,by show 2 - Int.toNat 2<2 - Int.toNat 1;decide⟩
  ·rw[dL];exact hk np nc g' o fg gg
theorem aaA {L:List E} {k:Int} (hk:k∉keys L):iH L k=L:=by
 unfold iH;rw[cH];intro e he;have:e.1≠k:=λe2=>hk (e2▸bB he)
 simpa using this
theorem iR.Jd {h:aj} {p:bU} {xs:List IV} {cap l u:Nat} (hr:Row h p (xs.flatMap jJ)) (h1:l<=u) (h2:u<=cap):Row h (cZ p cap l 4) (((xs.take u).drop l).flatMap jJ):=by
 have:=hr.sub (cap:=cap) (l:=l) (u:=u) (sz:=4) h1 h2;rwa[wo jJ 4 mz,y7 jJ 4 mz] at this
def Mj (xs:List It) (i:Nat):List It:=xs.take i++xs.drop (i+1)
theorem O7 {x:IV} (H:Mm h b X s L lp lc xs a S) (hl:s.items.length<=100) (hL:L.length<1000) (hx:xs[i]? =some x)
  (hk: ∀h' X',Bx h' b X' { s with items:=Mj s.items i } (iH L (x.num:Int))->bM X h X' h'->x.v.ok h' X'.D->R x.agg h'):
  Cl F.nT #[.P b 0,.I (i:Int)] h R:=by
 have hlen:=H.len;have hi:=(aG.1 hx).1;refine nT.walk (aM.box λb1 h1 uf dw f1=> ?_);have H1:=H.on f1;obtain⟨ab,AG,rfl⟩:=H.own.addr (by omega);refine⟨_,_,_,af H1.dE rfl,⟨by omega,by omega⟩,aB.2 (aM.TM (by rw[aL];exact H1.own.lj mz hx) (aM.new λb2 h2 FE fI f2=> ?_))⟩;have H2:=H1.on f2;have afJ:aM.at h2 b1 0 0 none 0 0 0:=f2.get dw id;have z1:=f1.1;have z2:=f2.1;have l1:=aI dw;have l2:=aI fI;have ne:b2≠b1:=by omega
 have nX: ∀y,h.size<=y->¬(X.M y\/X.D y):=λy hy hx=>by have:=H.lt y hx;omega
 refine⟨_,af H2.dE rfl,_,af fI rfl,?_⟩;have rest: ∀h7,cp.Al h7 a S (iH L (x.num:Int))->Fr S h2 h7->
   h7[b]? =some (.cells #[.slice (some (AA ab AG)) xs.length lc,.I (s.next:Int),.I (s.taken:Int),.I (s.EE:Int),.I (s.over:Int),.P a 0] T.w8 (0,0))/\
   Row h7 (some (AA ab AG)) (xs.flatMap jJ)/\aM.at h7 b1 0 0 none 0 0 0/\aM.at h7 b2 (x.num:Int) x.owner x.v.p x.v.b.length x.v.c (x.cF:Int):=by
  intro h7 A7 f7;have nS: ∀y,h.size<=y->¬S y:=λy hy hs=>by have:=H.al.lt hs;omega
  exact⟨f7.get H2.dE H.bs,H2.own.pZ.frame f7 (λa' ea hs=>H.ls _ ⟨a',ea,rfl⟩ hs),f7.get afJ (nS b1 (by omega)),f7.get fI (nS b2 (by omega))⟩
 have fin: ∀h7,cp.Al h7 a S (iH L (x.num:Int))->Fr S h2 h7->∀p9 c9 h9,Fr No h7 h9->iR h9 p9 (xs.take i++xs.drop (i+1)).length c9 4 ((xs.take i++xs.drop (i+1)).flatMap jJ)->(∀y,aQ p9 y->h7.size<=y)->
   aH h9 (AA b 0) (.slice p9 (xs.take i++xs.drop (i+1)).length c9) λcP=>
    ∃(HW:Int),ak cP (AA b2 0)=some (.I HW)/\∃(xj:Int),ak cP (AA b2 1)=some (.I xj)/\∃(Ja:bU) (Jb Jc:Nat),ak cP (AA b2 2)=some (.slice Ja Jb Jc)/\∃(Nc:Int),ak cP (AA b2 3)=some (.U Nc)/\
    aH cP (AA b1 0) (.I HW) λcV=>
    aH cV (AA b1 1) (.I xj) λdD=>
    aH dD (AA b1 2) (.slice Ja Jb Jc) λdF=>
    aH dF (AA b1 3) (.U Nc) λfC=>
    ∃(r_0:Int),ak fC (AA b1 0)=some (.I r_0)/\∃(r_1:Int),ak fC (AA b1 1)=some (.I r_1)/\∃(ah3:bU) (ah4 ah5:Nat),ak fC (AA b1 2)=some (.slice ah3 ah4 ah5)/\∃(r_3:Int),ak fC (AA b1 3)=some (.U r_3)/\
    R (.agg #[.I r_0,.I r_1,.slice ah3 ah4 ah5,.U r_3]) fC:=by
  intro h7 A7 f7 p9 c9 h9 f9 o9 g9;obtain⟨k1,_,k3,k4⟩:=rest h7 A7 f7;have lb:=aI H.dE;have z7:=f7.1;have z9:=f9.1;refine bL (f9.get k1 id) (by simp) λvj a1 a2 a3=> ?_
  have i2:aM.at vj b2 (x.num:Int) x.owner x.v.p x.v.b.length x.v.c (x.cF:Int):=(a3 b2 (by omega)).trans (f9.get k4 id);refine aM.ld i2 ?_;have i1:aM.at vj b1 0 0 none 0 0 0:=(a3 b1 (by omega)).trans (f9.get k3 id);refine aM.set i1 λDv d1 d2 d3=>aM.ld d1 ?_
  have f10:Fr (λy=>y=b) h9 vj:=Fr.of_eq a2 a3;have f14:Fr (λy=>y=b1) vj Dv:=Fr.of_eq d2 d3;have F2:Fr No h h2:=f1.tt f2;have F7:Fr S h h7:=Fr.no F2 f7;have F9:Fr S h h9:=F7.tt (f9.mono (λ_ _ hx=>hx.elim));have Nj:Fr (λy=>S y\/y=b) h vj:=(F9.mono (λ_ _ hx=> .inl hx)).tt (f10.mono (λ_ _ hx=> .inr hx));have F14:Fr X.M h Dv:=by
   refine⟨dv Nj.1 f14.1,λy hy hn=> ?_⟩;rw[f14.2 y (cS hy Nj.1) (λe=>by omega),Nj.2 y hy (λhx=>hn ((H.m y).2 (hx.elim (λh=> .inr (.inr h)) .inl)))]
  have lpS: ∀y,aQ p9 y->¬S y:=λy hy hs=>by have:=g9 y hy;have:=H.al.lt hs;omega
  have lpb: ∀y,aQ p9 y->y≠b:=λy hy e=>by have:=g9 y hy;omega
  have aqf: ∀y,aQ p9 y->y≠b1:=λy hy e=>by have:=g9 y hy;omega
  have D14: ∀v:IV,v∈xs->v.v.ok Dv X.D:=λv hv=>(H.PA v hv).frame F14 (λy hd hm=>H.GK y hm hd)
  refine hk Dv ⟨λy=>y=b\/aQ p9 y\/S y,X.D⟩ ⟨p9,c9,xs.take i++xs.drop (i+1),a,S,⟨?_,(o9.frame f10 lpb).frame f14 aqf,?_,?_,?_,λ_=>fY,λhx=>lpb b hx rfl,H.bs,lpS,?_,λy hy=>cS (H.RX y hy) F14.1⟩⟩ ⟨F14,?_,λ_=> .inl,λ_=>id⟩ (D14 x (bt hx))
  ·rw[d3 b (by omega),a1];simp
  ·have A9:=A7.frame f9 (λ_ _=>id);exact(A9.frame f10 (λy hy e=>H.bs (e▸hy))).frame f14 (λy hy e=>by have:=H.al.lt hy;omega)
  ·show _=Mj s.items i;unfold Mj;rw[<-H.abs,bm,List.map_take,List.map_drop]
  ·intro v hv;refine D14 v ?_;rcases bT.1 hv with hv|hv
   ·exact List.mem_of_mem_take hv
   ·exact List.mem_of_mem_drop hv
  ·rintro y (rfl|hy|hy) hd
   ·exact H.GK _ ((H.m _).2 (.inl rfl)) hd
   ·have:=g9 y hy;have:=H.RX y hd;omega
   ·exact H.GK _ ((H.m _).2 (.inr (.inr hy))) hd
  ·rintro y (rfl|hy|hy)
   ·exact .inl ((H.m _).2 (.inl rfl))
   ·right;have:=g9 y hy;omega
   ·exact .inl ((H.m _).2 (.inr (.inr hy)))
 have ew:IntKind.wrap .i64 ((i:Int)+1)=((i+1:Nat):Int):=by rw[bK (by omega) (by omega)];omega
 have cap:=H.own.le;rw[ew];simp only[aL,Nat.sub_zero];refine cp.AJ H2.al (by omega) _ (λhm h7 A7 f7=>⟨_,rfl,?_⟩) (λhm=>⟨_,rfl,?_⟩)
 ·obtain⟨k1,k2,k3,k4⟩:=rest h7 A7 f7;refine⟨_,_,_,af k1 rfl,⟨by omega,by omega⟩,_,_,_,af k1 rfl,⟨by omega,by omega⟩,cX ?_⟩;have f8:Fr No h7 (h7.push (.cells #[.slice (cZ (some (AA ab AG)) lc 0 4) i lc,.slice (cZ (some (AA ab AG)) lc (i+1) 4) (xs.length - (i+1)) (lc - (i+1))] T.ff)):=Fr.push _ _;have k8:=f8.get k1 id;refine⟨af k8 rfl,af k8 rfl,?_⟩;have r8:=k2.frame f8 (λ_ _=>id);have ra:=iR.Jd (l:=0) (u:=i) (cap:=lc) r8 (by omega) (by omega);have rb:=iR.Jd (l:=i+1) (u:=xs.length) (cap:=lc) r8 (by omega) (by omega);rw[jT] at ra;rw[iF] at rb;refine Ni rV ra (by rw[bQ];omega) rb (by rw[cf]) (by rw[bQ,cf];omega) λp9 c9 h9 o9 f9 g9=>⟨_,_,_,rfl,?_⟩
  have k9:=f9.get k8 id;exact⟨af k9 rfl,af k9 rfl,fin h7 A7 f7 p9 c9 h9 (f8.tt f9) o9 (λy hy=>by have:=g9 y hy;rw[fO] at this;omega)⟩
 ·have A7:cp.Al h2 a S (iH L (x.num:Int)):=by
   rw[aaA hm];exact H2.al
  have f7:Fr S h2 h2:=Fr.refl _ _;obtain⟨k1,k2,k3,k4⟩:=rest h2 A7 f7;refine⟨_,_,_,af k1 rfl,⟨by omega,by omega⟩,_,_,_,af k1 rfl,⟨by omega,by omega⟩,cX ?_⟩;have f8:Fr No h2 (h2.push (.cells #[.slice (cZ (some (AA ab AG)) lc 0 4) i lc,.slice (cZ (some (AA ab AG)) lc (i+1) 4) (xs.length - (i+1)) (lc - (i+1))] T.ff)):=Fr.push _ _;have k8:=f8.get k1 id;refine⟨af k8 rfl,af k8 rfl,?_⟩;have r8:=k2.frame f8 (λ_ _=>id);have ra:=iR.Jd (l:=0) (u:=i) (cap:=lc) r8 (by omega) (by omega);have rb:=iR.Jd (l:=i+1) (u:=xs.length) (cap:=lc) r8 (by omega) (by omega);rw[jT] at ra;rw[iF] at rb;refine Ni rV ra (by rw[bQ];omega) rb (by rw[cf]) (by rw[bQ,cf];omega) λp9 c9 h9 o9 f9 g9=>⟨_,_,_,rfl,?_⟩
  have k9:=f9.get k8 id;exact⟨af k9 rfl,af k9 rfl,fin h2 A7 f7 p9 c9 h9 (f8.tt f9) o9 (λy hy=>by have:=g9 y hy;rw[fO] at this;omega)⟩
end lH
end
section
open Go.jH Go.rN
namespace lH
open cp (pR)
variable {L:List E} {s:BS} {items:List It} {now:Int}
def It.kv (x:It):E:=((x.num:Int),(x.cF:Int))
structure okB (s:BS) (L:List E):Prop where
 le:s.items.length<=16
 pm:L.Perm (s.items.map It.kv)
 it: ∀x∈s.items,1<=x.num/\x.num<s.next/\1<=x.d.length/\x.d.length<=600/\1<=x.owner/\x.owner<=1099511627776/\x.cF<=1099511627776
 inc:(s.items.map It.num).Pairwise (· < ·)
 KD:s.next=1+s.items.length+s.taken+s.EE+s.over
theorem okB.nil:okB ⟨[],1,0,0,0⟩ []:=⟨by simp,.refl _,by simp,.nil,rfl⟩
def CN (items:List It) (num:Int):List It:=items.filter (λy=> !decide ((y.num:Int)=num))
theorem CO: ∀ {items:List It} {i:Nat} {x:It},(items.map It.num).Pairwise (· < ·)->items[i]? =some x->Mj items i=CN items (x.num:Int)
 | [],i,x,_,h=>by simp at h
 |y::r,0,x,hp,h=>by
  simp at h;subst h;rw[cA,fi] at hp;unfold Mj CN;rw[cC];simp only[decide_true,dW,aA,aU,fM,fk,List.drop_succ_cons,jT];symm
  rw[cH];intro z hz;have:=hp.1 z.num (bB hz);have: ¬(z.num:Int)=(y.num:Int):=by omega
  simp[this]
 |y::r,i+1,x,hp,h=>by
  rw[cA,fi] at hp;rw[eM] at h;have ih:=CO hp.2 h;have hx:=hp.1 x.num (bB (bt h));have kA: ¬(y.num:Int)=(x.num:Int):=by omega
  unfold Mj CN at ih⊢;rw[cC];simp only[kA,decide_false,gL,bA,jb,List.drop_succ_cons,fv];rw[ih]
theorem KE {num:Int} (h:L.Perm (items.map It.kv)):(iH L num).Perm ((CN items num).map It.kv):=by
 have:=h.filter (λe=> !(e.1==num));unfold iH;refine this.trans ?_;rw[eK];refine List.Perm.of_eq ?_;unfold CN;refine bp _ (fF ?_);intro x _;show(!((x.num:Int)==num))=_;by_cases q:(x.num:Int)=num<;>simp[q]
theorem okB.sub {CP:List It} {L':List E} {t c o:Nat} (ok:okB s L) (hs:CP.Sublist s.items) (hp:L'.Perm (CP.map It.kv)) (hc:s.next=1+CP.length+t+c+o):okB ⟨CP,s.next,t,c,o⟩ L':=
 ⟨dv hs.length_le ok.le,hp,λx hx=>ok.it x (hs.subset hx),ok.inc.sublist (hs.map _),hc⟩
theorem KF {num:Int} {i:Nat} (h:IG items num=some i): ∃x,items[i]? =some x/\(x.num:Int)=num:=by
 unfold IG at h;rw[cO] at h;obtain⟨h1,h2,_⟩:=h;exact⟨_,au h1,by simpa using h2⟩
theorem acG {num:Int} (h:IG items num=none): ∀x∈items,(x.num:Int)≠num:=by
 unfold IG at h;rw[dK] at h;intro x hx;simpa using h x hx
theorem uniq (h:(items.map It.num).Pairwise (· < ·)) {x y:It} (hx:x∈items) (hy:y∈items) (e:x.num=y.num):x=y:=by
 induction items with
 |nil=>cases hx
 |cons z r ih=>
  rw[cA,fi] at h;rcases bP.1 hx with e1|hx1
  ·rcases bP.1 hy with e2|hy1
   ·rw[e1,e2]
   ·have:=h.1 y.num (bB hy1);rw[e1] at e;omega
  ·rcases bP.1 hy with e2|hy1
   ·have:=h.1 x.num (bB hx1);rw[e2] at e;omega
   ·exact ih h.2 hx1 hy1
theorem jj: ∀ {L:List E},pF L->cp.due L now=L.filter (pR now)/\cp.rest L now=L.filter (λe=> !pR now e)
 | [],_=>⟨rfl,rfl⟩
 |e::r,hs=>by
  have DC:=fi.1 hs;obtain⟨i1,i2⟩:=jj (L:=r) DC.2;unfold cp.due at i1⊢;unfold cp.rest at i2⊢;by_cases he:pR now e=true
  ·rw[List.takeWhile_cons,List.dropWhile_cons,cC,cC,he];simp only[bA,dW,aA,aU];rw[i1,i2];exact⟨rfl,rfl⟩
  ·have I6:pR now e=false:=by simpa using he
   have all: ∀x∈r,pR now x=false:=by
    intro x hx;have h1:=DC.1 x hx;unfold pR at I6⊢;have h2:=of_decide_eq_false I6;apply decide_eq_false
    rcases h1 with h1|h1<;>omega
   rw[List.takeWhile_cons,List.dropWhile_cons,cC,cC,I6];simp only[aA,aU,gL,bA];refine⟨?_,?_⟩
   ·symm;rw[List.filter_eq_nil_iff];intro x hx;rw[all x hx];simp
   ·congr 1;symm;rw[cH];intro x hx;rw[all x hx];rfl
def yN (items:List It) (K:List Int):List It:=items.filter (λx=>decide ((x.num:Int)∉K))
theorem acH:yN items []=items:=by unfold yN;simp
theorem acI {K:List Int} {k:Int} :CN (yN items K) k=yN items (K++ [k]):=by
 unfold CN yN;rw[List.filter_filter];apply fF
 intro x _;by_cases h1:(x.num:Int)=k
 ·simp[h1]
 ·by_cases h2:(x.num:Int)∈K<;>simp[h1,h2]
theorem acJ (ok:okB s L) (so:pF L) (nd:(keys L).Nodup):yN s.items (keys (cp.due L now))=s.items.filter (λx=>decide (now<(x.cF:Int))):=by
 obtain⟨e1,_⟩:=jj (now:=now) so;unfold yN;apply fF
 intro x hx;have hm:x.kv∈L:=ok.pm.mem_iff.2 (bB hx);by_cases ht:now<(x.cF:Int)
 ·simp only[ht,decide_true,bf];intro hk;rw[e1] at hk;obtain⟨e,he,ek⟩:=bn.1 hk;have h2:=aY.1 he;obtain⟨y,hy,rfl⟩:=bn.1 (ok.pm.mem_iff.1 h2.1);have:y=x:=uniq ok.inc hy hx (by have:(y.num:Int)=(x.num:Int):=ek;omega);subst this;have:=of_decide_eq_true h2.2;unfold It.kv at this;dsimp only at this;omega
 ·simp only[ht,decide_false,decide_eq_false_iff_not,Classical.not_not];rw[e1];refine bn.2 ⟨x.kv,aY.2 ⟨hm,ay ?_⟩,rfl⟩;unfold It.kv;dsimp only;omega
theorem Nk (ok:okB s L) (so:pF L):(cp.rest L now).Perm ((s.items.filter (λx=>decide (now<(x.cF:Int)))).map It.kv):=by
 rw[(jj (now:=now) so).2];refine(ok.pm.filter _).trans (List.Perm.of_eq ?_);rw[eK];congr 1
 apply fF
 intro x _;show(!decide ((x.cF:Int)<=now))=_;by_cases q:now<(x.cF:Int)
 ·simp[q]
 ·simp[q];omega
theorem acK (ok:okB s L) (so:pF L):(cp.due L now).Perm ((s.items.filter (λx=>decide ((x.cF:Int)<=now))).map It.kv):=by
 rw[(jj (now:=now) so).1];refine(ok.pm.filter _).trans (List.Perm.of_eq ?_);rw[eK];rfl
end lH
end
section
variable {h:aj} {R:iI}
theorem nZ.walk {p:Nat} (hv: ∃t9,ak h (AA p 2)=some (.map t9)/\R (.bool (!t9.isNone)) h):Cl F.nZ #[.P p 0] h R:=aS (lq ll) Tryz.func174 hv
theorem y9.walk {whole:Int} {share:Int} (hv:aK (λ(t20:Bool) (aR:aj)=>if t20 then R (.tuple #[.pointer none,.I 1]) aR else aV aR (.map #[] 0) λb aZ=>aV aZ (.cells #[.I whole,.I share,.map (some b),.I 0] T.HM) λcD bJ=>R (.tuple #[.P cD 0,.I 0]) bJ) (λJ=>if(decide (whole<1)) then J true h else if(decide (whole>1048576)) then J true h else if(decide (share<1)) then J true h else J (decide (share>whole)) h)):Cl F.y9 #[.I whole,.I share] h R:=aS (lq (sq (sq (.join [(20,.one (.bool))] lf) (cq ll lf)) ll)) Tryz.func34 hv
theorem kP.walk {p:Nat} {owner:Int} {n:Int} (hv:Cl F.nZ #[.P p 0] h λv aR=> ∃t9,v=.bool t9/\if(!t9) then R (.I 6) aR else aK (λ(t11:Bool) (aZ:aj)=>if t11 then R (.I 1) aZ else R (.I 0) aZ) (λJ=>if(decide (owner<1)) then J true aR else if(decide (owner>1099511627776)) then J true aR else J (decide (n<0)) aR)):Cl F.kP #[.P p 0,.I owner,.I n] h R:=aS (lq (sq (bq (lq (cq ll (sq (.join [(11,.one (.bool))] lf) (cq ll lf))))) ll)) Tryz.func123 hv
theorem lX.walk {p:Nat} {owner:Int} {n:Int} (hv:Cl F.kP #[.P p 0,.I owner,.I n] h λv aR=> ∃t11,v=.I t11/\if(t11 !=0) then R (.I t11) aR else aK (λ(t40:Bool) (aZ:aj)=>if t40 then R (.I 15) aZ else aK (λ(bJ:aj)=>R (.I 0) bJ) (λjo=>if(decide (n>0)) then∃t46,ak aZ (AA p 2)=some (.map t46)/\∃t48,mC Tryz.prog T.jI (.map t46) (.I owner) false aZ (.I t48)/\aX Tryz.prog (Instr.mapUpdate T.jI (.map t46) (.I owner) (.I (wrap .i64 (t48+n)))) aZ λ_ cB=> ∃t54,ak cB (AA p 3)=some (.I t54)/\aH cB (AA p 3) (.I (wrap .i64 (t54+n))) λcJ=>jo cJ else jo aZ)) (λJ=>Hi aR p 1 λt19=> ∃t23,ak aR (AA p 2)=some (.map t23)/\∃t25,mC Tryz.prog T.jI (.map t23) (.I owner) false aR (.I t25)/\if(decide (n>(wrap .i64 (t19 - t25)))) then J true aR else Hi aR p 0 λt33=> ∃t37,ak aR (AA p 3)=some (.I t37)/\J (decide (n>(wrap .i64 (t33 - t37)))) aR)):Cl F.lX #[.P p 0,.I owner,.I n] h R:=aS (lq (sq (lq (lq (cq ll lf))) (sq (sq (.join [(40,.one (.bool))] (pN 26)) (cq ll lf)) (sq (lq (.join [] (cq ll lf))) ll)))) Tryz.func241 hv
theorem oh.walk {p:Nat} {owner:Int} {n:Int} (hv:Cl F.kP #[.P p 0,.I owner,.I n] h λv aR=> ∃t10,v=.I t10/\if(t10==0) then Hi aR p 1 λt17=> ∃t21,ak aR (AA p 2)=some (.map t21)/\∃t23,mC Tryz.prog T.jI (.map t21) (.I owner) false aR (.I t23)/\if(decide (n<=(wrap .i64 (t17 - t23)))) then Hi aR p 0 λt32=> ∃t36,ak aR (AA p 3)=some (.I t36)/\R (.bool (decide (n<=(wrap .i64 (t32 - t36))))) aR else R (.bool false) aR else R (.bool false) aR):Cl F.oh #[.P p 0,.I owner,.I n] h R:=aS (lq (sq (pN 34) lf)) Tryz.func239 hv
theorem jq.walk {p:Nat} {owner:Int} {n:Int} (hv:Cl F.kP #[.P p 0,.I owner,.I n] h λv aR=> ∃t11,v=.I t11/\if(t11 !=0) then R (.I t11) aR else∃t19,ak aR (AA p 2)=some (.map t19)/\∃t21,mC Tryz.prog T.jI (.map t19) (.I owner) false aR (.I t21)/\if(decide (n>t21)) then R (.I 7) aR else∃t26,ak aR (AA p 3)=some (.I t26)/\aH aR (AA p 3) (.I (wrap .i64 (t26 - n))) λaZ=> ∃t34,ak aZ (AA p 2)=some (.map t34)/\∃t36,mC Tryz.prog T.jI (.map t34) (.I owner) false aZ (.I t36)/\aX Tryz.prog (Instr.mapUpdate T.jI (.map t34) (.I owner) (.I (wrap .i64 (t36 - n)))) aZ λ_ bJ=> ∃t42,ak bJ (AA p 2)=some (.map t42)/\∃t44,mC Tryz.prog T.jI (.map t42) (.I owner) false bJ (.I t44)/\aK (λ(cB:aj)=>R (.I 0) cB) (λJ=>if(t44==0) then∃t49,ak bJ (AA p 2)=some (.map t49)/\aX Tryz.prog (Builtin.delete_ #[T.jI,T.int] T.JZ #[.map t49,.I owner]) bJ λeJ cJ=>eJ=.tuple #[]/\J cJ else J bJ)):Cl F.jq #[.P p 0,.I owner,.I n] h R:=aS (lq (sq (lq (lq (cq ll lf))) (sq (lq (cq ll lf)) (lq (lq (sq (lq (.join [] (cq lf lf))) ll)))))) Tryz.func55 hv
end
section
namespace vM
theorem tm : Cd Tryz.prog T.jI (.int .i64 0) := .of T.int T.int .i64 (by kernel_rfl) (by kernel_rfl) (by kernel_rfl)
def jP (h:aj) (p m:Nat) (W S A:Int) (f:Int->Int):Prop:=
 h[p]? =some (.cells #[.int .i64 W,.int .i64 S,.map (some m),.int .i64 A] T.HM (0,0))/\
 ∃g:Int->Option Value,xS h m g/\∀k,(g k).getD (.int .i64 0)=.int .i64 (f k)
def Ok (W S A:Int) (f:Int->Int):Prop:=1<=S/\S<=W/\W<=1048576/\ -2000000000000<=A/\A<=W/\∀k,0<=f k/\f k<=S
variable {h : aj} {p m : Nat} {W S A : Int} {f : Int → Int} {R : Value → aj → Prop}
theorem jP.frame {Q:Nat->Prop} {h':aj} (hp:jP h p m W S A f) (hf:Fr Q h h') (h1: ¬Q p) (h2: ¬Q m):jP h' p m W S A f:=by
 obtain⟨hb,g,hg,hgf⟩:=hp;exact⟨hf.get hb h1,g,hg.frame hf h2,hgf⟩
theorem jP.ne (hp:jP h p m W S A f):p≠m:=by
 obtain⟨hb,g,hg,_⟩:=hp;obtain⟨es,c,hm⟩:=hg.map;rintro rfl;rw[hb] at hm;cases hm
theorem jP.lt (hp:jP h p m W S A f):p<h.size/\m<h.size:=⟨aI hp.1,by obtain⟨_,g,hg,_⟩:=hp;exact hg.lt⟩
theorem jP.ext {f':Int->Int} (hp:jP h p m W S A f) (he: ∀k,f' k=f k):jP h p m W S A f':=by
 obtain⟨hb,g,hg,hgf⟩:=hp;exact⟨hb,g,hg,λk=>by rw[he];exact hgf k⟩
theorem ji (hp:jP h p m W S A f) (hk:R (.bool true) h):Cl F.nZ #[.P p 0] h R:=
 nZ.walk ⟨some m,af hp.1 rfl,hk⟩
theorem look (hp:jP h p m W S A f) (o:Int):mC Tryz.prog T.jI (.map (some m)) (.I o) false h (.I (f o)):=by
 obtain⟨_,g,hg,hgf⟩:=hp;have:=MG tm hg o;rw[hgf] at this;exact this
def may (o n:Int):Bool:=decide (1<=o) && decide (o<=1099511627776) && decide (0<=n)
def oR (o n:Int):Int:=if may o n=true then 0 else 1
theorem vU {o n:Int} :may o n=true↔1<=o/\o<=1099511627776/\0<=n:=by simp[may,and_assoc]
theorem GM (hp:jP h p m W S A f) (o n:Int) (hk:R (.I (oR o n)) h):Cl F.kP #[.P p 0,.I o,.I n] h R:=by
 refine kP.walk (ji hp ⟨true,rfl,?_⟩);simp only[aK];unfold oR may at hk;by_cases h1:o<1
 ·simpa[h1,show¬1<=o by omega] using hk
 ·by_cases h2:o>1099511627776
  ·simpa[h1,h2,show¬o<=1099511627776 by omega] using hk
  ·by_cases h3:n<0
   ·simpa[h1,h2,h3,show¬0<=n by omega] using hk
   ·simpa[h1,h2,h3,show 1<=o by omega,show o<=1099511627776 by omega,show 0<=n by omega] using hk
def fits (W S A:Int) (f:Int->Int) (o n:Int):Bool:=may o n && decide (n<=S - f o) && decide (n<=W - A)
def ah6 (W S A:Int) (f:Int->Int) (o n:Int):Int:=if may o n=true then(if fits W S A f o n=true then 0 else 15) else 1
def si (f:Int->Int) (o n:Int):Int->Int:=λk=>if k=o then f k+n else f k
theorem RY {o n:Int} :fits W S A f o n=true↔(1<=o/\o<=1099511627776/\0<=n)/\n<=S - f o/\n<=W - A:=by
 simp[fits,vU,and_assoc]
theorem Ok.take {o n:Int} (ok:Ok W S A f) (hf:fits W S A f o n=true):Ok W S (A+n) (si f o n):=by
 obtain⟨o1,o2,o3,o4,o5,o6⟩:=ok;obtain⟨⟨h1,h2,h3⟩,h4,h5⟩:=RY.1 hf;refine⟨o1,o2,o3,by omega,by omega,λk=> ?_⟩;have:=o6 k;unfold si;split
 ·rename_i e;subst e;omega
 ·exact this
theorem afL (hp:jP h p m W S A f) (ok:Ok W S A f) (o n:Int)
  (k1:fits W S A f o n=true->∀h',jP h' p m W S (A+n) (si f o n)->Fr (λc=>c=p\/c=m) h h'->R (.I 0) h')
  (k2:fits W S A f o n=false->R (.I (ah6 W S A f o n)) h):
  Cl F.lX #[.P p 0,.I o,.I n] h R:=by
 obtain⟨o1,o2,o3,o4,o5,o6⟩:=ok;have of:=o6 o;refine lX.walk (GM hp o n ⟨_,rfl,?_⟩);unfold ah6 at k2;unfold oR;cases hm:may o n with
 |false=>
  have:=k2 (by simp[fits,hm]);simpa[hm] using this
 |true=>
  have hm':=vU.1 hm;simp only[bA,bne_self_eq_false,aA,aU,aK];refine⟨S,af hp.1 rfl,some m,af hp.1 rfl,f o,look hp o,?_⟩;rw[bK (by omega) (by omega)];by_cases h1:n>S - f o
  ·have hf:fits W S A f o n=false:=by simp[fits,show¬n<=S - f o by omega]
   have:=k2 hf;simpa[h1,hm,hf] using this
  ·simp only[h1,decide_false,aA,aU];refine⟨W,af hp.1 rfl,A,af hp.1 rfl,?_⟩;rw[bK (by omega) (by omega)];by_cases h2:n>W - A
   ·have hf:fits W S A f o n=false:=by simp[fits,show¬n<=W - A by omega]
    have:=k2 hf;simpa[h2,hm,hf] using this
   ·have hf:fits W S A f o n=true:=by simp[fits,hm,show n<=S - f o by omega,show n<=W - A by omega]
    simp only[h2,decide_false,aA,aU];by_cases h3:n>0
    ·simp only[h3,decide_true,bA];refine⟨some m,af hp.1 rfl,f o,look hp o,?_⟩;rw[bK (by omega) (by omega)];have kA:=hp.ne;obtain⟨hb,g,hg,hgf⟩:=hp;refine wJ tm hg ?_;intro h4 hg4 hs4 ho4;have ma:=(ho4 p kA).trans hb;refine⟨A,af ma rfl,?_⟩;rw[bK (by omega) (by omega)];refine bL ma (by simp) ?_;intro h5 DJ hs5 ho5;refine k1 hf h5 ⟨DJ,_,hg4.wI (ho5 m (ie kA)),λk=> ?_⟩ (Fr.of_eq (by omega) λc hc=> ?_)
     ·unfold si;by_cases hk:k=o
      ·simp[hk]
      ·simp[hk,hgf]
     ·rw[ho5 c (λe=>hc (.inl e)),ho4 c (λe=>hc (.inr e))]
    ·have hn0:n=0:=by omega
     simp only[h3,decide_false,aA,aU];refine k1 hf h ?_ (Fr.refl _ _);subst hn0;rw[Int.add_zero];exact hp.ext λk=>by unfold si;split<;>omega
theorem afM (hp:jP h p m W S A f) (ok:Ok W S A f) (o n:Int) (hk:R (.bool (fits W S A f o n)) h):Cl F.oh #[.P p 0,.I o,.I n] h R:=by
 obtain⟨o1,o2,o3,o4,o5,o6⟩:=ok;have of:=o6 o;refine oh.walk (GM hp o n ⟨_,rfl,?_⟩);unfold oR;unfold fits at hk;cases hm:may o n with
 |false=>simpa[hm] using hk
 |true=>
  simp only[bA,beq_self_eq_true];refine⟨S,af hp.1 rfl,some m,af hp.1 rfl,f o,look hp o,?_⟩;rw[bK (by omega) (by omega)];by_cases h1:n<=S - f o
  ·simp only[h1,decide_true,bA];refine⟨W,af hp.1 rfl,A,af hp.1 rfl,?_⟩;rw[bK (by omega) (by omega)];simpa[hm,h1] using hk
  ·simpa[hm,h1] using hk
def CQ (f:Int->Int) (o n:Int):Bool:=may o n && decide (n<=f o)
def ah7 (f:Int->Int) (o n:Int):Int:=if may o n=true then(if CQ f o n=true then 0 else 7) else 1
theorem aaB {o n:Int} :CQ f o n=true↔(1<=o/\o<=1099511627776/\0<=n)/\n<=f o:=by simp[CQ,vU,and_assoc]
theorem afN (hp:jP h p m W S A f) (ok:Ok W S A f) (o n:Int)
  (k1:CQ f o n=true->∀h',jP h' p m W S (A - n) (si f o (-n))->Fr (λc=>c=p\/c=m) h h'->R (.I 0) h')
  (k2:CQ f o n=false->R (.I (ah7 f o n)) h):
  Cl F.jq #[.P p 0,.I o,.I n] h R:=by
 obtain⟨o1,o2,o3,o4,o5,o6⟩:=ok;have of:=o6 o;refine jq.walk (GM hp o n ⟨_,rfl,?_⟩);unfold ah7 at k2;unfold oR;cases hm:may o n with
 |false=>
  have:=k2 (by simp[CQ,hm]);simpa[hm] using this
 |true=>
  have hm':=vU.1 hm;simp only[bA,bne_self_eq_false,aA,aU];refine⟨some m,af hp.1 rfl,f o,look hp o,?_⟩;by_cases h1:n>f o
  ·have hf:CQ f o n=false:=by simp[CQ,show¬n<=f o by omega]
   have:=k2 hf;simpa[h1,hm,hf] using this
  ·have hf:CQ f o n=true:=by simp[CQ,hm,show n<=f o by omega]
   simp only[h1,decide_false,aA,aU];have kA:=hp.ne;obtain⟨hb,g,hg,hgf⟩:=hp;refine⟨A,af hb rfl,?_⟩;rw[bK (by omega) (by omega)];refine bL hb (by simp) ?_;intro h2 fI hs2 ho2;have hg2:=hg.wI (ho2 m (ie kA));have JE:jP h2 p m W S (A - n) f:=⟨fI,g,hg2,hgf⟩;refine⟨some m,af fI rfl,f o,look JE o,?_⟩;rw[bK (by omega) (by omega)];refine wJ tm hg2 ?_;intro h3 hg3 hs3 ho3;have kR:=(ho3 p kA).trans fI;have hp3:jP h3 p m W S (A - n) (si f o (-n)):=⟨kR,_,hg3,λk=>by
    unfold si;by_cases hk:k=o
    ·simp[hk,Int.sub_eq_add_neg]
    ·simp[hk,hgf]⟩
   have aqg:Fr (λc=>c=p\/c=m) h h3:=Fr.of_eq (by omega) λc hc=>by rw[ho3 c (λe=>hc (.inr e)),ho2 c (λe=>hc (.inl e))]
   have hl:=look hp3 o;refine⟨some m,af kR rfl,si f o (-n) o,hl,?_⟩;simp only[aK];by_cases hz:si f o (-n) o=0
   ·simp only[hz,beq_self_eq_true,bA];refine⟨some m,af kR rfl,?_⟩;refine HB tm hg3 ?_;intro h5 hg5 hs5 ho5;refine⟨rfl,k1 hf h5 ⟨(ho5 p kA).trans kR,_,hg5,λk=> ?_⟩ (Fr.of_eq (by omega) λc hc=> ?_)⟩
    ·by_cases hk:k=o
     ·subst hk;simp[hz]
     ·simp[hk,hgf,si]
    ·rw[ho5 c (λe=>hc (.inr e)),ho3 c (λe=>hc (.inr e)),ho2 c (λe=>hc (.inl e))]
   ·have hz':(si f o (-n) o==0)=false:=by simpa using hz
    simp only[hz',aA,aU];exact k1 hf h3 hp3 aqg
def HZ (W S:Int):Bool:=decide (1<=W) && decide (W<=1048576) && decide (1<=S) && decide (S<=W)
theorem aaC:HZ W S=true↔1<=W/\W<=1048576/\1<=S/\S<=W:=by simp[HZ,and_assoc]
theorem pD (W S:Int) {h:aj}
  (k1:HZ W S=true->∀h' p m,jP h' p m W S 0 (λ_=>0)->h.size<=p->h.size<=m->Fr No h h'->R (.tuple #[.P p 0,.I 0]) h')
  (k2:HZ W S=false->R (.tuple #[.pointer none,.I 1]) h):Cl F.y9 #[.I W,.I S] h R:=by
 refine y9.walk ?_;simp only[aK];by_cases h1:W<1
 ·simpa only[h1,decide_true,bA] using k2 (by simp[HZ,show¬1<=W by omega])
 ·simp only[h1,decide_false,aA,aU];by_cases h2:W>1048576
  ·simpa only[h2,decide_true,bA] using k2 (by simp[HZ,show¬W<=1048576 by omega])
  ·simp only[h2,decide_false,aA,aU];by_cases h3:S<1
   ·simpa only[h3,decide_true,bA] using k2 (by simp[HZ,show¬1<=S by omega])
   ·simp only[h3,decide_false,aA,aU];by_cases h4:S>W
    ·simpa only[h4,decide_true,bA] using k2 (by simp[HZ,show¬S<=W by omega])
    ·simp only[h4,decide_false,aA,aU];rintro b h2' rfl rfl b1 h3' rfl rfl;refine k1 (aaC.2 (by omega)) _ _ h.size ⟨cz,λ_=>none,?_,λ_=>rfl⟩ (by simp) (by simp) ?_
     ·exact(xS.push h).frame (Fr.push (S:=λ_=>False) _ _) (by simp)
     ·exact(Fr.push (S:=λ_=>False) h _).trans (Fr.push (S:=λ_=>False) _ _) (λ_ _ hx=>hx) (λ_ _ hx=>hx)
end vM
end
section
namespace gJ
open lH (It)
variable {l l':List It} {x:It} {o:Int}
def Hn (l:List It):Int:=(l.map (λx=>(x.d.length:Int))).sum
def own (l:List It) (o:Int):Int:=Hn (l.filter (λx=>decide (x.owner=o)))
theorem KG (p:l.Perm l'):Hn l=Hn l':=by
 induction p with
 |nil=>rfl
 |cons x _ ih=>unfold Hn at ih⊢;simp only[cA,List.sum_cons];omega
 |swap x y l=>unfold Hn;simp only[cA,List.sum_cons];omega
 |trans _ _ h1 h2=>exact h1.trans h2
theorem KH (p:l.Perm l'):own l=own l':=funext λo=>KG (p.filter _)
theorem qt:Hn (x::l)=x.d.length+Hn l:=by unfold Hn;rw[cA,List.sum_cons]
theorem xm:own (x::l) o=(if x.owner=o then(x.d.length:Int) else 0)+own l o:=by
 unfold own;rw[cC];split<;>rename_i h
 ·rw[qt,ag (of_decide_eq_true h)]
 ·rw[ai (λe=>h (ay e))];omega
theorem UI:0<=Hn l:=by
 induction l with
 |nil=>exact ga _
 |cons x l ih=>rw[qt];omega
theorem UJ:0<=own l o:=UI
theorem ajZ (hx:x∈l):(x.d.length:Int)<=own l x.owner:=by
 obtain⟨a,b,rfl⟩:=List.append_of_mem hx;rw[KH List.perm_middle,xm,ag rfl];have:=UJ (l:=a++b) (o:=x.owner);omega
abbrev DZ (l:List It):Prop:=vM.Ok 4800 1600 (Hn l) (own l)
theorem DZ.perm (ok:DZ l) (p:l.Perm l'):DZ l':=by
 unfold DZ;rw[<-KG p,<-KH p];exact ok
theorem DZ.sub (ok:DZ (x::l)):DZ l:=by
 obtain⟨a,b,c,d,e,f⟩:=ok;rw[qt] at d e;have:=UI (l:=l);refine⟨a,b,c,by omega,by omega,λk=>⟨UJ,?_⟩⟩;have:=(f k).2;rw[xm] at this;split at this<;>omega
theorem DZ.nil:DZ []:=⟨by decide,by decide,by decide,by decide,by decide,λ_=>⟨ga 0,show(0:Int)<=1600 by decide⟩⟩
theorem WB:vM.si (own l) x.owner (x.d.length:Int)=own (x::l):=by
 funext k
 unfold vM.si;rw[xm];by_cases e:k=x.owner
 ·rw[ag e,ag e.symm];omega
 ·rw[ai e,ai (λq=>e q.symm)];omega
theorem acL:vM.si (own (x::l)) x.owner (-(x.d.length:Int))=own l:=by
 funext k
 unfold vM.si;rw[xm];by_cases e:k=x.owner
 ·rw[ag e,ag e.symm];omega
 ·rw[ai e,ai (λq=>e q.symm)];omega
def okI (x:It):Prop:=1<=x.d.length/\x.d.length<=600/\1<=x.owner/\x.owner<=1099511627776
section
variable {h h' : aj} {R : Value → aj → Prop} {p m : Nat}
abbrev Pu (h:aj) (p m:Nat) (l:List It):Prop:=vM.jP h p m 4800 1600 (Hn l) (own l)
theorem Pu.perm (H:Pu h p m l) (q:l.Perm l'):Pu h p m l':=by
 unfold Pu;rw[<-KG q,<-KH q];exact H
theorem amA {n:Int} (H:Pu h p m (x::l)) (ok:DZ (x::l)) (k:okI x) (hn:n=(x.d.length:Int)) (hk: ∀h',Pu h' p m l->Fr (λc=>c=p\/c=m) h h'->R (.I 0) h'):
  Cl F.jq #[.P p 0,.I x.owner,.I n] h R:=by
 subst hn;have g:vM.CQ (own (x::l)) x.owner (x.d.length:Int)=true:=vM.aaB.2 ⟨⟨k.2.2.1,k.2.2.2,by omega⟩,ajZ (by simp)⟩;refine vM.afN H ok _ _ (λ_ h' H' f'=>hk h' ?_ f') (λe=>by rw[g] at e;cases e);rw[acL,qt,show(x.d.length:Int)+Hn l - x.d.length=Hn l by omega] at H';exact H'
end
end gJ
end
end Go.Proofs.YtlenamcfacpheaaGreatDoor
namespace Go.Den
section
variable {h h':aj} {X:Ft} {j:Nat}
def In (X:Ft) (y:Nat):Prop:=X.M y\/X.D y
abbrev only (X:Ft) (P:Nat->Prop):Prop:= ∀y,(X.M y↔P y)/\¬X.D y
abbrev pt (b:Nat):Value:=.pointer (some ⟨b,0,none⟩)
structure KI (P:Nat->aj->Ft->Prop):Prop where
 lt: ∀ {i h X},P i h X->∀y,In X y->y<h.size
 frame: ∀ {i h h' X} {Q:Nat->Prop},P i h X->Fr Q h h'->(∀y,In X y->¬Q y)->P i h' X
 GK: ∀ {i h X},P i h X->∀y,X.M y->X.D y->False
def UK (P:Nat->aj->Ft->Prop) (h:aj) (X:Ft):Prop:= ∃Y:Nat->Ft,(∀i,P i h (Y i))/\(∀i j y,i≠j->In (Y i) y->¬In (Y j) y)/\(∀y,X.M y↔ ∃i,(Y i).M y)/\∀y,X.D y↔ ∃i,(Y i).D y
variable {P P' : Nat → aj → Ft → Prop}
theorem UK.lt (S:KI P) (H:UK P h X) (y:Nat) (hy:X.M y\/X.D y):y<h.size:=by
 obtain⟨Y,hp,_,hm,hd⟩:=H;rcases hy with hy|hy
 ·obtain⟨i,hi⟩:=(hm y).1 hy;exact S.lt (hp i) y (.inl hi)
 ·obtain⟨i,hi⟩:=(hd y).1 hy;exact S.lt (hp i) y (.inr hi)
theorem UK.GK (S:KI P) (H:UK P h X) (y:Nat) (a:X.M y) (b:X.D y):False:=by
 obtain⟨Y,hp,ap,hm,hd⟩:=H;obtain⟨i,hi⟩:=(hm y).1 a;obtain⟨j,hj⟩:=(hd y).1 b;by_cases e:i=j
 ·subst e;exact S.GK (hp i) y hi hj
 ·exact ap i j y e (.inl hi) (.inr hj)
theorem UK.frame {Q:Nat->Prop} (S:KI P) (H:UK P h X) (f:Fr Q h h') (hq: ∀y,X.M y\/X.D y->¬Q y):UK P h' X:=by
 obtain⟨Y,hp,ap,hm,hd⟩:=H;exact⟨Y,λi=>S.frame (hp i) f (λy hy=>hq y (hy.imp (λa=>(hm y).2 ⟨i,a⟩) (λa=>(hd y).2 ⟨i,a⟩))),ap,hm,hd⟩
theorem UK.use (S:KI P) (H:UK P h X) (j:Nat): ∃Z,P j h Z/\(∀y,Z.M y->X.M y)/\(∀y,Z.D y->X.D y)/\∀h' Z' P',P' j h' Z'->bM Z h Z' h'->(∀i,i≠j->P' i=P i)->
  ∃X',UK P' h' X'/\bM X h X' h'/\(∀y,Z'.D y->X'.D y)/\∀y,h.size<=y->X'.M y\/X'.D y->Z'.M y\/Z'.D y:=by
 obtain⟨Y,hp,ap,hm,hd⟩:=H;refine⟨Y j,hp j,λy a=>(hm y).2 ⟨j,a⟩,λy a=>(hd y).2 ⟨j,a⟩,λh' Z' P' hj st hs=> ?_⟩;have I8: ∀i y,i≠j->In (Y i) y->¬In Z' y:=λi y hi hy hz=>by
  have l:=S.lt (hp i) y hy;rcases hz with hz|hz
  ·rcases st.re y hz with a|a
   ·exact ap i j y hi hy (.inl a)
   ·omega
  ·rcases st.wK y hz with a|a
   ·exact ap i j y hi hy (.inr a)
   ·omega
 refine⟨⟨λy=> ∃i,(if i=j then Z' else Y i).M y,λy=> ∃i,(if i=j then Z' else Y i).D y⟩,⟨λi=>if i=j then Z' else Y i,λi=> ?_,λi k y hik hy hz=> ?_,λ_=>fY,λ_=>fY⟩,⟨st.fr.mono (λy _ a=>(hm y).2 ⟨j,a⟩),?_,?_,?_⟩,λy a=>⟨j,by rw[ag rfl];exact a⟩,?_⟩
 ·show P' i h' (if i=j then Z' else Y i);by_cases e:i=j
  ·rw[ag e,e];exact hj
  ·rw[ai e,hs i e];exact S.frame (hp i) st.fr (λy hy a=>ap i j y e hy (.inl a))
 ·dsimp only at hy hz;by_cases e:i=j
  ·rw[ag e] at hy;rw[ai (λq=>hik (e.trans q.symm))] at hz;exact I8 k y (λq=>hik (e.trans q.symm)) hz hy
  ·rw[ai e] at hy;by_cases e2:k=j
   ·rw[ag e2] at hz;exact I8 i y e hy hz
   ·rw[ai e2] at hz;exact ap i k y hik hy hz
 ·rintro y ⟨i,a⟩;by_cases e:i=j
  ·rw[ag e] at a;exact(st.re y a).imp (λb=>(hm y).2 ⟨j,b⟩) id
  ·rw[ai e] at a;exact .inl ((hm y).2 ⟨i,a⟩)
 ·rintro y ⟨i,a⟩;by_cases e:i=j
  ·rw[ag e] at a;exact(st.wK y a).imp (λb=>(hd y).2 ⟨j,b⟩) id
  ·rw[ai e] at a;exact .inl ((hd y).2 ⟨i,a⟩)
 ·intro y a;obtain⟨i,a⟩:=(hd y).1 a;by_cases e:i=j
  ·exact⟨j,by rw[ag rfl];exact st.Iw y (e▸a)⟩
  ·exact⟨i,by rw[ai e];exact a⟩
 ·intro y hy a;have key: ∀i,In (if i=j then Z' else Y i) y->Z'.M y\/Z'.D y:=λi a=>by
   by_cases e:i=j
   ·rw[ag e] at a;exact a
   ·rw[ai e] at a;have:=S.lt (hp i) y a;omega
  rcases a with⟨i,a⟩|⟨i,a⟩
  ·exact key i (.inl a)
  ·exact key i (.inr a)
end
end Go.Den
namespace Go.Proofs.YtlenamcfacpheaaGreatDoor
open Go.Den
open IntKind (wrap)
open Int (toNat)
section
variable {h:aj} {R:iI}
theorem sV.walk (hv:aV h (.cells #[.bool true,.Z] T.w6) λb aR=>R (.P b 0) aR):Cl F.sV #[] h R:=aS (lq ll) Tryz.func35 hv
theorem gk.walk {t : Nat} {num : Int} (hv :
 aK (fun (t6 : Bool) (aR : aj) =>
 if t6 = true then
 R (.tuple #[.pointer none, .int .i64 6]) aR
 else
 aK (fun (t16 : Bool) (aZ : aj) =>
 if t16 = true then
 R (.tuple #[.pointer none, .int .i64 4]) aZ
 else
 ∃ yf vJ CD, ak aZ ⟨t, 1, none⟩ = some (.slice yf vJ CD) ∧
 ((0 : Int) ≤ IntKind.wrap .i64 (num - 1) ∧ IntKind.wrap .i64 (num - 1) < ((vJ : Nat) : Int)) ∧
 aP yf λa =>
 ∃ t35, ak aZ (a.add (Int.toNat (IntKind.wrap .i64 (num - 1)) * 1)) = some (.pointer t35) ∧
 R (.tuple #[.pointer t35, .int .i64 0]) aZ)
 (λjo =>
 if (decide (num < 1)) = true then
 jo true aR
 else
 ∃ iP iy iz, ak aR ⟨t, 1, none⟩ = some (.slice iP iy iz) ∧
 jo (decide (num > ((iy : Nat) : Int))) aR))
 (λJ =>
 ∃ t13, ak h ⟨t, 0, none⟩ = some (.bool t13) ∧
 J (!t13) h)) : Cl F.gk #[.pointer (some ⟨t, 0, none⟩), .int .i64 num] h R :=
 aS (.seq .leaf (.seq (.block (.seq (.join [(6, .one (.bool))] .leaf) (.cond (.seq .leaf .leaf) (.seq (.join [(16, .one (.bool))] .leaf) (.cond (.seq .leaf .leaf) .leaf))))) (.seq .leaf .leaf))) Tryz.func78 hv
theorem mQ.walk {t : Nat} {num : Int} (hv :
 Cl F.gk #[.pointer (some ⟨t, 0, none⟩), .int .i64 num] h λv aR =>
 ∃ zq zt, v = .tuple #[.pointer zq, .int .i64 zt] ∧
 if (zt == 0) = true then
 aP zq λa =>
 ∃ t19, ak aR (a.add 2) = some (.bool t19) ∧
 R (.bool t19) aR
 else
 R (.bool false) aR) : Cl F.mQ #[.pointer (some ⟨t, 0, none⟩), .int .i64 num] h R :=
 aS (.seq .leaf (.seq .leaf (.seq .leaf .leaf))) Tryz.func28 hv
theorem mR.walk {t:Nat} {token:Int} (hv:Hl h t 1 λyu rP CR=> ∃(I:Int->aj->Prop) (mu:Int->aj->Nat),I 0 h/\∀(t12:Int) (aR:aj),I t12 aR->if(decide (t12<(rP:Int))) then Bd t12 rP/\aP yu λa=>LN aR (a.add (toNat t12*1)) λt15=>aP t15 λku=> ∃t19,ak aR (ku.add 1)=some (.U t19)/\if(t19==token) then R (.pointer t15) aR else(I (wrap .i64 (t12+1)) aR/\mu (wrap .i64 (t12+1)) aR<mu t12 aR) else R (.pointer none) aR):Cl F.mR #[.P t 0,.U token] h R:=aS (lq (sq (lq (bq (.loop [(12,.one (.int .i64))] (lq (sq (cq lf lf) (sq (bq (lq (lq (cq ll lf)))) lf)))))) ll)) Tryz.func40 hv
theorem gH.walk {t : Nat} {token : Int} (hv :
 aK (fun (t7 : Bool) (aR : aj) =>
 if t7 = true then
 R (.tuple #[.int .i64 0, .int .i64 6]) aR
 else
 aK (fun (t17 : Bool) (aZ : aj) =>
 if t17 = true then
 R (.tuple #[.int .i64 0, .int .i64 1]) aZ
 else
 Cl F.mR #[.pointer (some ⟨t, 0, none⟩), .int .u64 token] aZ λv bJ =>
 ∃ t27, v = .pointer t27 ∧
 if (!t27.isNone) = true then
 R (.tuple #[.int .i64 0, .int .i64 12]) bJ
 else
 ∃ rF pO rG, ak bJ ⟨t, 1, none⟩ = some (.slice rF pO rG) ∧
 if (decide (((pO : Nat) : Int) ≥ 8)) = true then
 R (.tuple #[.int .i64 0, .int .i64 5]) bJ
 else
 ∃ oq kH oF, ak bJ ⟨t, 1, none⟩ = some (.slice oq kH oF) ∧
 aV bJ (.cells #[.int .i64 (IntKind.wrap .i64 (((kH : Nat) : Int) + 1)), .int .u64 token, .bool true, .bool false, .slice none 0 0, .slice none 0 0] T.ij) λb cB =>
 ∃ Nl KJ RZ, ak cB ⟨t, 1, none⟩ = some (.slice Nl KJ RZ) ∧
 aV cB (.cells #[.pointer (some ⟨b, 0, none⟩)] T.sc) λcD cJ =>
 aX Tryz.prog (Builtin.append_ #[T.ko, T.ko] T.ko #[.slice Nl KJ RZ, .slice (some ⟨cD, 0, none⟩) 1 1]) cJ λeJ cQ =>
 ∃ yg yh Bp, eJ = .slice yg yh Bp ∧
 aH cQ ⟨t, 1, none⟩ (.slice yg yh Bp) λcW =>
 ∃ t58, ak cW ⟨b, 0, none⟩ = some (.int .i64 t58) ∧
 R (.tuple #[.int .i64 t58, .int .i64 0]) cW)
 (λjo =>
 if (decide (token < 1)) = true then
 jo true aR
 else
 jo (decide (token > 2147483648)) aR))
 (λJ =>
 ∃ t14, ak h ⟨t, 0, none⟩ = some (.bool t14) ∧
 J (!t14) h)) : Cl F.gH #[.pointer (some ⟨t, 0, none⟩), .int .u64 token] h R :=
 aS (.seq .leaf (.seq (.block (.seq (.join [(7, .one (.bool))] .leaf) (.cond (.seq .leaf .leaf) (.seq (.join [(17, .one (.bool))] .leaf) (.cond (.seq .leaf .leaf) (.seq .leaf (.cond (.seq .leaf .leaf) (.seq .leaf (.cond (.seq .leaf .leaf) .leaf))))))))) (.seq .leaf (.seq .leaf (.seq .leaf .leaf))))) Tryz.func12 hv
theorem nO.walk {t : Nat} {num : Int} (hv :
 Cl F.gk #[.pointer (some ⟨t, 0, none⟩), .int .i64 num] h λv aR =>
 ∃ zq zt, v = .tuple #[.pointer zq, .int .i64 zt] ∧
 if (zt != 0) = true then
 R (.int .i64 zt) aR
 else
 aP zq λa =>
 ∃ t21, ak aR (a.add 2) = some (.bool t21) ∧
 if (!t21) = true then
 R (.int .i64 7) aR
 else
 aP zq λku =>
 aH aR (ku.add 2) (.bool false) λaZ =>
 R (.int .i64 0) aZ) : Cl F.nO #[.pointer (some ⟨t, 0, none⟩), .int .i64 num] h R :=
 aS (.seq .leaf (.seq .leaf (.seq (.block (.seq .leaf (.cond (.seq .leaf .leaf) (.seq .leaf (.cond (.seq .leaf .leaf) .leaf))))) (.seq .leaf (.seq .leaf .leaf))))) Tryz.func73 hv
theorem iT.walk {t:Nat} {num:Int} {id:Int} {hH:bU} {fS hN:Nat} (hv:aV h (.cells #[.U id] T.uint64) λb aR=>Cl F.gk #[.P t 0,.I num] aR λv aZ=> ∃qL rQ,v=.tuple #[.pointer qL,.I rQ]/\if(rQ !=0) then R (.I rQ) aZ else aK (λ(t21:Bool) (bJ:aj)=>if t21 then R (.I 1) bJ else aP qL λa=>L3 bJ (a.add 4) λrF pO rG=>Cl F.dh #[.slice rF pO rG,.func (.func F.dJ) #[] #[.P b 0]] bJ λeJ cB=>Vl eJ λzy yc zA=>aP qL λku=>aH cB (ku.add 4) (.slice zy yc zA) λcJ=>aP qL λpE=>L3 cJ (pE.add 4) λKK Ia Nn=>Hu cJ b 0 λt43=>Cl F.cu #[.slice hH fS hN] cJ λgR cQ=>Vl gR λacM WC acN=>ak cQ (AA b 0)=some (.U t43)/\ak cQ (pE.add 4)=some (.slice KK Ia Nn)/\aV cQ (.cells #[.U t43,.slice acM WC acN] T.bF) λcD cW=>ak cW (AA b 0)=some (.U t43)/\ak cW (pE.add 4)=some (.slice KK Ia Nn)/\aX Tryz.prog (Builtin.append_ #[T.iw,T.iw] T.iw #[.slice KK Ia Nn,.slice (some (AA cD 0)) 1 1]) cW λkU dA=>Vl kU λD0 D9 FH=>ak dA (AA b 0)=some (.U t43)/\aP qL λrY=>aH dA (rY.add 4) (.slice D0 D9 FH) λfc=>aP qL λvS=>L3 fc (vS.add 4) λIb CS KL=>aK (λ(cP:aj)=>R (.I 0) cP) (λjo=>if(decide ((CS:Int)>6)) then aP qL λBJ=>L3 fc (BJ.add 4) λamB ah8 ah9=>((0:Int)<=1/\1<=(ah8:Int))/\Cl F.dB #[.slice (cZ amB ah9 (toNat 1) 2) (ah8 - (toNat 1)) (ah9 - (toNat 1))] fc λot cV=>Vl ot λWD acO Np=>aP qL λKn=>aH cV (Kn.add 4) (.slice WD acO Np) λdD=>jo dD else jo fc)) (λJ=> ∃t22,ak aZ (AA b 0)=some (.U t22)/\if(decide (t22>1099511627776)) then J true aZ else J (decide ((fS:Int)>1000)) aZ)):Cl F.iT #[.P t 0,.I num,.U id,.slice hH fS hN] h R:=aS (lq (lq (sq (bq (lq (cq ll (sq (.join [(21,.one (.bool))] lf) (cq ll lf))))) (lq (sq (pN 14) (sq (lq (.join [] (cq lf lf))) ll)))))) Tryz.func46 hv
theorem dJ.walk {a_0:Int} {R0:bU} {R2 R3:Nat} {c0:Nat} (hv:aV h (.cells #[.U a_0,.slice R0 R2 R3] T.bF) λb aR=>Hu aR b 0 λt5=> ∃t6,ak aR (AA c0 0)=some (.U t6)/\R (.bool (t5==t6)) aR):Cl F.dJ #[.agg #[.U a_0,.slice R0 R2 R3],.P c0 0] h R:=aS (lq ll) Tryz.func110 hv
theorem kY.walk {t:Nat} {num:Int} {id:Int} (hv:aV h (.cells #[.U id] T.uint64) λb aR=>Cl F.gk #[.P t 0,.I num] aR λv aZ=> ∃qL rQ,v=.tuple #[.pointer qL,.I rQ]/\if(rQ !=0) then R (.tuple #[.Z,.bool false]) aZ else aP qL λa=>L3 aZ (a.add 4) λFi Fj Cx=>Cl F.bO #[.slice Fi Fj Cx,.func (.func F.gG) #[] #[.P b 0]] aZ λeJ bJ=> ∃t24,eJ=.I t24/\if(decide (t24<0)) then R (.tuple #[.Z,.bool false]) bJ else aP qL λku=>L3 bJ (ku.add 4) λo0 nJ pM=>Bd t24 nJ/\aP o0 λpE=>L3 bJ ((pE.add (toNat t24*2)).add 1) λacP zM acQ=>Cl F.cu #[.slice acP zM acQ] bJ λgR cB=> ∃zy yc zA,gR=.slice zy yc zA/\R (.tuple #[.slice zy yc zA,.bool true]) cB):Cl F.kY #[.P t 0,.I num,.U id] h R:=aS (lq (lq (sq (lq (cq ll lf)) (lq (sq (lq (cq ll lf)) ll))))) Tryz.func42 hv
theorem gG.walk {a_0:Int} {R0:bU} {R2 R3:Nat} {c0:Nat} (hv:aV h (.cells #[.U a_0,.slice R0 R2 R3] T.bF) λb aR=>Hu aR b 0 λt5=> ∃t6,ak aR (AA c0 0)=some (.U t6)/\R (.bool (t5==t6)) aR):Cl F.gG #[.agg #[.U a_0,.slice R0 R2 R3],.P c0 0] h R:=aS (lq ll) Tryz.func90 hv
theorem kj.walk {t : Nat} {num : Int} {on : Bool} (hv :
 Cl F.gk #[.pointer (some ⟨t, 0, none⟩), .int .i64 num] h λv aR =>
 ∃ CJ xi, v = .tuple #[.pointer CJ, .int .i64 xi] ∧
 aK (fun (aZ : aj) =>
 R (.int .i64 xi) aZ)
 (λJ =>
 if (xi == 0) = true then
 aP CJ λa =>
 aH aR (a.add 3) (.bool on) λbJ =>
 J bJ
 else
 J aR)) : Cl F.kj #[.pointer (some ⟨t, 0, none⟩), .int .i64 num, .bool on] h R :=
 aS (.seq .leaf (.seq .leaf (.seq (.seq .leaf (.join [] (.cond .leaf .leaf))) (.seq .leaf .leaf)))) Tryz.func166 hv
theorem lg.walk {t:Nat} {num:Int} (hv:Cl F.gk #[.P t 0,.I num] h λv aR=> ∃qL rQ,v=.tuple #[.pointer qL,.I rQ]/\aK (λ(n:Int) (aZ:aj)=>if(n==0) then R (.tuple #[.Z,.I 0,.I rQ]) aZ else aP qL λa=>L3 aZ (a.add 5) λo0 nJ pM=>Bd 0 nJ/\aP o0 λku=>L3 aZ (ku.add (toNat 0*1)) λFs Fu Kk=>aP qL λpE=>L3 aZ (pE.add 5) λacR WE WG=>((0:Int)<=1/\1<=(WE:Int))/\Cl F.hZ #[.slice (cZ acR WG (toNat 1) 1) (WE - (toNat 1)) (WG - (toNat 1))] aZ λeJ bJ=>Vl eJ λoq kH oF=>aP qL λrY=>aH bJ (rY.add 5) (.slice oq kH oF) λcB=>R (.tuple #[.slice Fs Fu Kk,.I n,.I 0]) cB) (λJ=>if(rQ==0) then aP qL λvS=> ∃Fi Fj Cx,ak aR (vS.add 5)=some (.slice Fi Fj Cx)/\J (Fj:Int) aR else J 0 aR)):Cl F.lg #[.P t 0,.I num] h R:=aS (lq (lq (lq (sq (lq (.join [(9,.one (.int .i64))] (cq lf lf))) (sq (lq (cq ll lf)) (lq (lq ll))))))) Tryz.func167 hv
theorem dh.vV.walk {oB:bU} {mF qJ:Nat} {KM:Nat} (hv:Cl F.bO #[.slice oB mF qJ,.func (.func F.dJ) #[] #[.P KM 0]] h λv aR=> ∃t10,v=.I t10/\if(t10==(-1)) then R (.slice oB mF qJ) aR else∃(I:Int->Int->aj->Prop) (mu:Int->Int->aj->Nat),I t10 (wrap .i64 (t10+1)) aR/\∀(i:Int) (j:Int) (aZ:aj),I i j aZ->if(decide (j<(mF:Int))) then aK (λ(sL:Int) (bJ:aj)=>(I sL (wrap .i64 (j+1)) bJ/\mu sL (wrap .i64 (j+1)) bJ<mu i j aZ)) (λJ=>Bd j mF/\aP oB λa=>bF.LD aZ (a.add (toNat j*2)) λKN afO afP afQ=>aV aZ (.cells #[.U 0,.Z] T.bF) λb cB=>bF.ST cB (AA b 0) KN afO afP afQ λcJ=>bF.LD cJ (AA b 0) λBv afR afS afT=>Cl F.dJ #[.agg #[.U Bv,.slice afR afS afT],.P KM 0] cJ λeJ cQ=>Vb eJ λt28=>aK (λ(i_2:Int) (cW:aj)=>J i_2 cW) (λjo=>if(!t28) then bF.LD cQ (AA b 0) λab7 afU afV afW=>Bd i mF/\aP oB λku=>bF.ST cQ (ku.add (toNat i*2)) ab7 afU afV afW λdA=>jo (wrap .i64 (i+1)) dA else jo i cQ)) else((0:Int)<=i/\i<=(mF:Int))/\aX Tryz.prog (Builtin.clear_ #[T.iw] T.JZ #[.slice (cZ oB qJ (toNat i) 2) (mF - (toNat i)) (qJ - (toNat i))]) aZ λgR fc=>gR=.tuple #[]/\((0:Int)<=i/\i<=(qJ:Int))/\R (.slice (cZ oB qJ 0 2) ((toNat i) - 0) (qJ - 0)) fc):Cl F.dh #[.slice oB mF qJ,.func (.func F.dJ) #[] #[.P KM 0]] h R:=aS (lq (lq (sq (lq (cq ll lf)) (sq (lq (bq (.loop [(5,.one (.int .i64)),(6,.one (.int .i64))] (sq (lq (cq lf lf)) (sq (.join [(5,.one (.int .i64))] (bq (lq (lq (.join [(5,.one (.int .i64))] (cq ll lf)))))) lf))))) (lq ll))))) Tryz.func109 hv
theorem bO.vV.walk {oB:bU} {mF qJ:Nat} {RV:Nat} (hv: ∃(I:Int->aj->Prop) (mu:Int->aj->Nat),I 0 h/\∀(t8:Int) (aR:aj),I t8 aR->if(decide (t8<(mF:Int))) then Bd t8 mF/\aP oB λa=>bF.LD aR (a.add (toNat t8*2)) λBu PC PD PE=>Cl F.dJ #[.agg #[.U Bu,.slice PC PD PE],.P RV 0] aR λv aZ=> ∃t16,v=.bool t16/\if t16 then R (.I t8) aZ else(I (wrap .i64 (t8+1)) aZ/\mu (wrap .i64 (t8+1)) aZ<mu t8 aR) else R (.I (-1)) aR):Cl F.bO #[.slice oB mF qJ,.func (.func F.dJ) #[] #[.P RV 0]] h R:=aS (lq (sq (lq (bq (.loop [(8,.one (.int .i64))] (lq (sq (cq lf lf) (sq (bq (lq (lq (cq ll lf)))) lf)))))) ll)) Tryz.func89 hv
theorem bO.kept.walk {oB:bU} {mF qJ:Nat} {RV:Nat} (hv: ∃(I:Int->aj->Prop) (mu:Int->aj->Nat),I 0 h/\∀(t8:Int) (aR:aj),I t8 aR->if(decide (t8<(mF:Int))) then Bd t8 mF/\aP oB λa=>bF.LD aR (a.add (toNat t8*2)) λBu PC PD PE=>Cl F.gG #[.agg #[.U Bu,.slice PC PD PE],.P RV 0] aR λv aZ=> ∃t16,v=.bool t16/\if t16 then R (.I t8) aZ else(I (wrap .i64 (t8+1)) aZ/\mu (wrap .i64 (t8+1)) aZ<mu t8 aR) else R (.I (-1)) aR):Cl F.bO #[.slice oB mF qJ,.func (.func F.gG) #[] #[.P RV 0]] h R:=aS (lq (sq (lq (bq (.loop [(8,.one (.int .i64))] (lq (sq (cq lf lf) (sq (bq (lq (lq (cq ll lf)))) lf)))))) ll)) Tryz.func89 hv
theorem dB.walk {oB:bU} {mF qJ:Nat} (hv:if oB.isNone then R (.Z) h else aV h (.cells #[] T.bF) λb aR=>aX Tryz.prog (Builtin.append_ #[T.iw,T.iw] T.iw #[.slice (some (AA b 0)) 0 0,.slice oB mF qJ]) aR λv aZ=> ∃Ey Ez EA,v=.slice Ey Ez EA/\R (.slice Ey Ez EA) aZ):Cl F.dB #[.slice oB mF qJ] h R:=aS (lq (sq (lq (cq ll lf)) ll)) Tryz.func111 hv
theorem hZ.walk {oB:bU} {mF qJ:Nat} (hv:if oB.isNone then R (.Z) h else aV h (.cells #[] T.dt) λb aR=>aX Tryz.prog (Builtin.append_ #[T.zp,T.zp] T.zp #[.slice (some (AA b 0)) 0 0,.slice oB mF qJ]) aR λv aZ=> ∃Ey Ez EA,v=.slice Ey Ez EA/\R (.slice Ey Ez EA) aZ):Cl F.hZ #[.slice oB mF qJ] h R:=aS (lq (sq (lq (cq ll lf)) ll)) Tryz.func198 hv
end
section
open Go.jH
namespace gU
open vf
variable {h h' h0:aj} {t:Nat} {X:Ft} {R:iI} {p q:bU} {c i:Nat}
structure AV where
 id:Nat
 v:BV
abbrev AV.enc (a:AV):List Value:= [.int .u64 (a.id:Int),a.v.val]
structure SC where
 b:Nat
 num:Nat
 token:Nat
 up:Bool
 watch:Bool
 kept:List AV
 kp:bU
 kc:Nat
 notes:List BV
 np:bU
 nc:Nat
structure gU where
 num:Nat
 token:Nat
 up:Bool
 watch:Bool
 kept:List (Nat×List UInt8)
 notes:List (List UInt8)
def AV.abs (a:AV):Nat×List UInt8:=(a.id,a.v.b)
def SC.abs (s:SC):gU:=⟨s.num,s.token,s.up,s.watch,s.kept.map AV.abs,s.notes.map BV.b⟩
theorem FI {α:Type} {l:List α} {i:Nat} {v:α} (h:l[i]? =some v):l.set i v=l:=by
 apply im
 intro j;rw[eH];split
 ·rename_i e;subst e;rw[ag (aG.1 h).1,h]
 ·rfl
abbrev Lab:=Nat->Option Nat
abbrev At (h:aj) (s:SC):Prop:=ij.at h s.b (s.num:Int) (s.token:Int) s.up s.watch s.kp s.kept.length s.kc s.np s.notes.length s.nc
structure KO (h:aj) (fX:Lab) (D:Nat->Prop) (i:Nat) (s:SC):Prop where
 dE:At h s
 lb:fX s.b=some (2+3*i)
 CT:iR h s.kp s.kept.length s.kc 2 (s.kept.flatMap AV.enc)
 kl: ∀c,aQ s.kp c->fX c=some (3+3*i)
 II:iR h s.np s.notes.length s.nc 1 (s.notes.flatMap IF)
 nl: ∀c,aQ s.np c->fX c=some (4+3*i)
 kd: ∀a∈s.kept,a.v.ok h D
 nd: ∀n∈s.notes,n.ok h D
structure QO (h:aj) (t:Nat) (fX:Lab) (D:Nat->Prop) (L:List SC):Prop where
 dE: ∃p c,h[t]? =some (.cells #[.bool true,.slice p L.length c] T.w6 (0,0))/\iR h p L.length c 1 (L.map λs=> .pointer (some ⟨s.b,0,none⟩))/\∀x,aQ p x->fX x=some 1
 lt0:fX t=some 0
 ses: ∀i s,L[i]? =some s->KO h fX D i s
 llt: ∀c r,fX c=some r->c<h.size
 RX: ∀c,D c->c<h.size
 ap: ∀c r,fX c=some r->¬D c
def DK (h:aj) (t:Nat) (X:Ft) (A:List gU) (B:List Nat):Prop:=
 ∃fX L,QO h t fX X.D L/\L.map SC.abs=A/\L.map SC.b=B/\∀c,X.M c↔ ∃r,fX c=some r
def Has (h:aj) (t:Nat) (X:Ft) (A:List gU):Prop:= ∃B,DK h t X A B
variable {fX : Lab} {D : Nat → Prop} {L : List SC} {A : List gU}
theorem KO.frame {Q:Nat->Prop} {s:SC} (H:KO h fX D i s) (f:Fr Q h h') (hq: ∀c r,fX c=some r->2+3*i<=r->r<=4+3*i->¬Q c) (hd: ∀c,D c->¬Q c):KO h' fX D i s:=
 ⟨f.get H.dE (hq _ _ H.lb (by omega) (by omega)),H.lb,H.CT.frame f (λc hc=>hq c _ (H.kl c hc) (by omega) (by omega)),H.kl,H.II.frame f (λc hc=>hq c _ (H.nl c hc) (by omega) (by omega)),H.nl,λa ha=>(H.kd a ha).frame f hd,λn hn=>(H.nd n hn).frame f hd⟩
theorem KO.mono {kr:Lab} {D':Nat->Prop} {s:SC} (H:KO h fX D i s) (hl: ∀c r,fX c=some r->kr c=some r) (hd: ∀c,D c->D' c):KO h kr D' i s:=
 ⟨H.dE,hl _ _ H.lb,H.CT,λc hc=>hl c _ (H.kl c hc),H.II,λc hc=>hl c _ (H.nl c hc),λa ha=>(H.kd a ha).mono hd,λn hn=>(H.nd n hn).mono hd⟩
theorem DK.lt {B:List Nat} (H:DK h t X A B): ∀x,X.M x\/X.D x->x<h.size:=by
 obtain⟨fX,L,T,_,_,hS⟩:=H;rintro x (hx|hd)
 ·obtain⟨r,hr⟩:=(hS x).1 hx;exact T.llt x r hr
 ·exact T.RX x hd
theorem DK.GK {B:List Nat} (H:DK h t X A B): ∀x,X.M x->¬X.D x:=by
 obtain⟨fX,L,T,_,_,hS⟩:=H;intro x hx;obtain⟨r,hr⟩:=(hS x).1 hx;exact T.ap x r hr
theorem DK.frame {B:List Nat} {Q:Nat->Prop} (H:DK h t X A B) (f:Fr Q h h') (hq: ∀x,X.M x\/X.D x->¬Q x):DK h' t X A B:=by
 obtain⟨fX,L,T,e,eB,hS⟩:=H;obtain⟨p,c,hb,own,hp⟩:=T.dE;have hl: ∀c r,fX c=some r->¬Q c:=λc r hr=>hq c (.inl ((hS c).2 ⟨r,hr⟩))
 refine⟨fX,L,⟨⟨p,c,f.get hb (hl t _ T.lt0),own.frame f (λx hx=>hl x _ (hp x hx)),hp⟩,T.lt0,λi s hs=>(T.ses i s hs).frame f (λc r hr _ _=>hl c r hr) (λc hd=>hq c (.inr hd)),?_,?_,T.ap⟩,e,eB,hS⟩
 ·intro c r hr;exact cS (T.llt c r hr) f.1
 ·intro c hd;exact cS (T.RX c hd) f.1
theorem Has.lt (H:Has h t X A): ∀x,X.M x\/X.D x->x<h.size:=by obtain⟨B,H⟩:=H;exact H.lt
theorem Has.GK (H:Has h t X A): ∀x,X.M x->¬X.D x:=by obtain⟨B,H⟩:=H;exact H.GK
theorem Has.frame {Q:Nat->Prop} (H:Has h t X A) (f:Fr Q h h') (hq: ∀x,X.M x\/X.D x->¬Q x):Has h' t X A:=by obtain⟨B,H⟩:=H;exact⟨B,H.frame f hq⟩
open Classical in
theorem QO.amC {s s':SC} {Q E:Nat->Prop} (T:QO h t fX X.D L) (hS: ∀c,X.M c↔ ∃r,fX c=some r) (hs:L[i]? =some s) (hb:s'.b=s.b) (f:Fr Q h h') (hq: ∀c,Q c->∃r,fX c=some r/\2+3*i<=r/\r<=4+3*i)
  (dE:At h' s') (CT:iR h' s'.kp s'.kept.length s'.kc 2 (s'.kept.flatMap AV.enc)) (kn: ∀c,aQ s'.kp c->fX c=some (3+3*i)\/h.size<=c)
  (II:iR h' s'.np s'.notes.length s'.nc 1 (s'.notes.flatMap IF)) (nn: ∀c,aQ s'.np c->fX c=some (4+3*i)\/h.size<=c) (kn': ∀c,aQ s'.kp c->aQ s'.np c->False)
  (hE: ∀c,E c->fX c=none/\c<h'.size/\¬aQ s'.kp c/\¬aQ s'.np c) (kd: ∀a∈s'.kept,a.v.ok h' (λc=>X.D c\/E c)) (nd: ∀n∈s'.notes,n.ok h' (λc=>X.D c\/E c)):
  ∃X',DK h' t X' ((L.map SC.abs).set i s'.abs) (L.map SC.b)/\Fr X.M h h'/\(∀c,X'.M c->X.M c\/h.size<=c)/\(∀c,X'.D c->X.D c\/E c)/\∀c,X.D c->X'.D c:=by
 let kr:Lab:=λc=>if h.size<=c/\aQ s'.kp c then some (3+3*i) else if h.size<=c/\aQ s'.np c then some (4+3*i) else fX c
 have I8: ∀c r,fX c=some r->kr c=some r:=λc r hr=>by
  have:=T.llt c r hr;show(if h.size<=c/\aQ s'.kp c then some (3+3*i) else if h.size<=c/\aQ s'.np c then some (4+3*i) else fX c)=some r;rw[ai (λhh=>by omega),ai (λhh=>by omega)];exact hr
 have new: ∀c r,kr c=some r->fX c=some r\/(h.size<=c/\(aQ s'.kp c\/aQ s'.np c)):=λc r hr=>by
  have hr:(if h.size<=c/\aQ s'.kp c then some (3+3*i) else if h.size<=c/\aQ s'.np c then some (4+3*i) else fX c)=some r:=hr;split at hr
  ·rename_i hh;exact .inr ⟨hh.1,.inl hh.2⟩
  ·split at hr
   ·rename_i hh;exact .inr ⟨hh.1,.inr hh.2⟩
   ·exact .inl hr
 have nb: ∀c,aQ s'.kp c\/aQ s'.np c->c<h'.size:=λc hc=>hc.elim (λhc=>CT.gm hc) (λhc=>II.gm hc)
 have hd: ∀c,X.D c->¬Q c:=λc hc hx=>by obtain⟨r,hr,_⟩:=hq c hx;exact T.ap c r hr hc
 obtain⟨p,c0,hbt,own,hp⟩:=T.dE;have MK:i<L.length:=(aG.1 hs).1;have nQ0: ¬Q t:=λhx=>by obtain⟨r,hr,h1,h2⟩:=hq t hx;rw[T.lt0] at hr;cases hr;omega
 have nQ1: ∀x,aQ p x->¬Q x:=λx hx hq'=>by obtain⟨r,hr,h1,h2⟩:=hq x hq';rw[hp x hx] at hr;cases hr;omega
 have aqh:(L.set i s').map (λs=>Value.P s.b 0)=L.map (λs=>Value.P s.b 0):=by
  rw[List.map_set,hb];exact FI (by rw[aO,hs];rfl)
 have aqi:(L.set i s').map SC.b=L.map SC.b:=by
  rw[List.map_set,hb];exact FI (by rw[aO,hs];rfl)
 refine⟨⟨λc=> ∃r,kr c=some r,λc=>X.D c\/E c⟩,⟨kr,L.set i s',⟨⟨p,c0,?_,?_,λx hx=>I8 x _ (hp x hx)⟩,I8 t 0 T.lt0,?_,?_,?_,?_⟩,?_,aqi,λc=>fY⟩,?_,?_,λc h=>h,λc=> .inl⟩
 ·rw[eU];exact f.get hbt nQ0
 ·rw[aqh,eU];exact own.frame f nQ1
 ·intro j sj hj;rw[eH] at hj;by_cases e:i=j
  ·subst e;rw[ag rfl,ag MK] at hj;obtain rfl:=bz hj;refine⟨dE,?_,CT,λc hc=> ?_,II,λc hc=> ?_,kd,nd⟩
   ·rw[hb];exact I8 _ _ (T.ses i s hs).lb
   ·show(if h.size<=c/\aQ s'.kp c then some (3+3*i) else if h.size<=c/\aQ s'.np c then some (4+3*i) else fX c)=_;rcases kn c hc with h1|h1
    ·have:=T.llt c _ h1;rw[ai (λhh=>by omega),ai (λhh=>by omega)];exact h1
    ·rw[ag ⟨h1,hc⟩]
   ·show(if h.size<=c/\aQ s'.kp c then some (3+3*i) else if h.size<=c/\aQ s'.np c then some (4+3*i) else fX c)=_;rw[ai (λhh=>kn' c hh.2 hc)];rcases nn c hc with h1|h1
    ·have:=T.llt c _ h1;rw[ai (λhh=>by omega)];exact h1
    ·rw[ag ⟨h1,hc⟩]
  ·rw[ai e] at hj;refine((T.ses j sj hj).frame f (λc r hr h1 h2 hx=> ?_) hd).mono I8 (λc=> .inl);obtain⟨r',gA,h3,h4⟩:=hq c hx;rw[hr] at gA;cases gA;omega
 ·intro c r hr;rcases new c r hr with h1|⟨_,h1⟩
  ·exact cS (T.llt c r h1) f.1
  ·exact nb c h1
 ·rintro c (h1|h1)
  ·exact cS (T.RX c h1) f.1
  ·exact(hE c h1).2.1
 ·rintro c r hr (h1|h1)
  ·rcases new c r hr with h2|⟨h2,_⟩
   ·exact T.ap c r h2 h1
   ·have:=T.RX c h1;omega
  ·rcases new c r hr with h2|⟨_,h2⟩
   ·rw[(hE c h1).1] at h2;cases h2
   ·exact h2.elim (hE c h1).2.2.1 (hE c h1).2.2.2
 ·rw[List.map_set]
 ·exact f.mono (λc _ hx=>by obtain⟨r,hr,_⟩:=hq c hx;exact(hS c).2 ⟨r,hr⟩)
 ·rintro c ⟨r,hr⟩;rcases new c r hr with h2|⟨h2,_⟩
  ·exact .inl ((hS c).2 ⟨r,h2⟩)
  ·exact .inr h2
theorem QO.upd {s s':SC} {Q E:Nat->Prop} (T:QO h t fX X.D L) (hS: ∀c,X.M c↔ ∃r,fX c=some r) (hs:L[i]? =some s) (hb:s'.b=s.b) (f:Fr Q h h') (hq: ∀c,Q c->∃r,fX c=some r/\2+3*i<=r/\r<=4+3*i)
  (dE:At h' s') (CT:iR h' s'.kp s'.kept.length s'.kc 2 (s'.kept.flatMap AV.enc)) (kn: ∀c,aQ s'.kp c->fX c=some (3+3*i)\/h.size<=c)
  (II:iR h' s'.np s'.notes.length s'.nc 1 (s'.notes.flatMap IF)) (nn: ∀c,aQ s'.np c->fX c=some (4+3*i)\/h.size<=c) (kn': ∀c,aQ s'.kp c->aQ s'.np c->False)
  (hE: ∀c,E c->h.size<=c/\c<h'.size/\¬aQ s'.kp c/\¬aQ s'.np c) (kd: ∀a∈s'.kept,a.v.ok h' (λc=>X.D c\/E c)) (nd: ∀n∈s'.notes,n.ok h' (λc=>X.D c\/E c)):
  ∃X',DK h' t X' ((L.map SC.abs).set i s'.abs) (L.map SC.b)/\bM X h X' h':=by
 obtain⟨X',H',f',m',d',o'⟩:=T.amC (Q:=Q) (E:=E) hS hs hb f hq dE CT kn II nn kn' (λc hc=>⟨by
  cases hl:fX c with
  |none=>rfl
  |some r=>have:=T.llt c r hl;have:=(hE c hc).1;omega,(hE c hc).2⟩) kd nd
 exact⟨X',H',f',m',λc hc=>(d' c hc).imp (λh=>h) (λh=>(hE c h).1),o'⟩
theorem QO.flag {s s':SC} (T:QO h t fX X.D L) (hS: ∀c,X.M c↔ ∃r,fX c=some r) (hs:L[i]? =some s) (hb:s'.b=s.b) (hk:s'.kept=s.kept/\s'.kp=s.kp/\s'.kc=s.kc) (hn:s'.notes=s.notes/\s'.np=s.np/\s'.nc=s.nc)
  (dE:At h' s') (JA:h'.size=h.size) (ho: ∀x,x≠s.b->h'[x]? =h[x]?): ∃X',DK h' t X' ((L.map SC.abs).set i s'.abs) (L.map SC.b)/\bM X h X' h':=by
 have H:=T.ses i s hs;have f:Fr (λx=>x=s.b) h h':=Fr.of_eq JA ho;have nk: ∀c,aQ s.kp c->¬c=s.b:=λc hc e=>by have h1:=H.kl c hc;rw[e,H.lb] at h1;simp at h1
 have nn: ∀c,aQ s.np c->¬c=s.b:=λc hc e=>by have h1:=H.nl c hc;rw[e,H.lb] at h1;simp at h1
 have nD: ∀c,X.D c->¬c=s.b:=λc hc e=>T.ap c _ (e▸H.lb) hc
 refine T.upd (Q:=λx=>x=s.b) (E:=λ_=>False) hS hs hb f (λc e=>⟨_,e▸H.lb,by omega,by omega⟩) dE ?_ ?_ ?_ ?_ ?_ (λc hc=>hc.elim) ?_ ?_
 ·rw[hk.1,hk.2.1,hk.2.2];exact H.CT.frame f nk
 ·rw[hk.2.1];exact λc hc=> .inl (H.kl c hc)
 ·rw[hn.1,hn.2.1,hn.2.2];exact H.II.frame f nn
 ·rw[hn.2.1];exact λc hc=> .inl (H.nl c hc)
 ·rw[hk.2.1,hn.2.1];exact λc h1 h2=>by have a:=H.kl c h1;have b:=H.nl c h2;rw[a] at b;simp at b
 ·rw[hk.1];exact λa ha=>((H.kd a ha).frame f nD).mono (λc=> .inl)
 ·rw[hn.1];exact λn hn=>((H.nd n hn).frame f nD).mono (λc=> .inl)
open Classical in
theorem QO.add {s:SC} {p:bU} {c0:Nat} {Q:Nat->Prop} (TB:QO h t fX X.D L) (hS: ∀c,X.M c↔ ∃r,fX c=some r) (f:Fr Q h h') (hq: ∀c,Q c->fX c=some 0\/fX c=some 1)
  (hbt:h'[t]? =some (.cells #[.bool true,.slice p (L.length+1) c0] T.w6 (0,0))) (own:iR h' p (L.length+1) c0 1 (L.map (λs=> .P s.b 0)++ [.P s.b 0]))
  (hp: ∀x,aQ p x->fX x=some 1\/h.size<=x) (hpb: ¬aQ p s.b) (dE:At h' s) (hsb:h.size<=s.b) (hk:s.kept= []/\s.kp=none/\s.kc=0) (hn:s.notes= []/\s.np=none/\s.nc=0):
  ∃X',DK h' t X' (L.map SC.abs++ [s.abs]) (L.map SC.b++ [s.b])/\bM X h X' h':=by
 have hsl:=aI dE
 let kr:Lab:=λc=>if c=s.b then some (2+3*L.length) else if h.size<=c/\aQ p c then some 1 else fX c
 have I8: ∀c r,fX c=some r->kr c=some r:=λc r hr=>by
  have:=TB.llt c r hr;show(if c=s.b then some (2+3*L.length) else if h.size<=c/\aQ p c then some 1 else fX c)=some r;rw[ai (λhh=>by omega),ai (λhh=>by omega)];exact hr
 have new: ∀c r,kr c=some r->fX c=some r\/(h.size<=c/\(c=s.b\/aQ p c)):=λc r hr=>by
  have hr:(if c=s.b then some (2+3*L.length) else if h.size<=c/\aQ p c then some 1 else fX c)=some r:=hr;split at hr
  ·rename_i hh;exact .inr ⟨by omega,.inl hh⟩
  ·split at hr
   ·rename_i hh;exact .inr ⟨hh.1,.inr hh.2⟩
   ·exact .inl hr
 have hd: ∀c,X.D c->¬Q c:=λc hc hx=>(hq c hx).elim (λh1=>TB.ap c _ h1 hc) (λh1=>TB.ap c _ h1 hc)
 refine⟨⟨λc=> ∃r,kr c=some r,X.D⟩,⟨kr,L++ [s],⟨⟨p,c0,?_,?_,?_⟩,I8 t 0 TB.lt0,?_,?_,?_,?_⟩,?_,by rw[bm];rfl,λc=>fY⟩,?_,?_,λc=> .inl,λc=>id⟩
 ·rw[aF];exact hbt
 ·rw[aF,bm];exact own
 ·intro x hx;show(if x=s.b then some (2+3*L.length) else if h.size<=x/\aQ p x then some 1 else fX x)=some 1;rw[ai (λe:x=s.b=>hpb (e▸hx))];rcases hp x hx with h1|h1
  ·have:=TB.llt x _ h1;rw[ai (λhh=>by omega)];exact h1
  ·rw[ag ⟨h1,hx⟩]
 ·intro j sj hj;by_cases e:j<L.length
  ·rw[dx e] at hj;refine((TB.ses j sj hj).frame f (λc r hr h1 h2 hx=> ?_) hd).mono I8 (λc h=>h);rcases hq c hx with h3|h3
   ·rw[hr] at h3;cases h3;omega
   ·rw[hr] at h3;cases h3;omega
  ·rw[dk (by omega)] at hj;have e2:j=L.length:=by
    have:=(aG.1 hj).1;simp at this;omega
   subst e2;simp at hj;subst hj;refine⟨dE,?_,?_,?_,?_,?_,?_,?_⟩
   ·show(if s.b=s.b then some (2+3*L.length) else _)=_;rw[ag rfl]
   ·rw[hk.1,hk.2.1,hk.2.2];exact .nil rfl rfl rfl rfl
   ·rw[hk.2.1];rintro c ⟨a,e,_⟩;cases e
   ·rw[hn.1,hn.2.1,hn.2.2];exact .nil rfl rfl rfl rfl
   ·rw[hn.2.1];rintro c ⟨a,e,_⟩;cases e
   ·rw[hk.1];intro a ha;cases ha
   ·rw[hn.1];intro a ha;cases ha
 ·intro c r hr;rcases new c r hr with h1|⟨_,h1|h1⟩
  ·exact cS (TB.llt c r h1) f.1
  ·omega
  ·exact own.gm h1
 ·intro c h1;exact cS (TB.RX c h1) f.1
 ·intro c r hr h1;rcases new c r hr with h2|⟨h2,_⟩
  ·exact TB.ap c r h2 h1
  ·have:=TB.RX c h1;omega
 ·rw[bm];rfl
 ·exact f.mono (λc _ hx=>(hS c).2 ((hq c hx).elim (λh1=>⟨_,h1⟩) (λh1=>⟨_,h1⟩)))
 ·rintro c ⟨r,hr⟩;rcases new c r hr with h2|⟨h2,_⟩
  ·exact .inl ((hS c).2 ⟨r,h2⟩)
  ·exact .inr h2
theorem tA:Ao Tryz.prog T.iw T.bF 2 32 (.agg #[.U 0,.Z]):=⟨by kernel_rfl,by kernel_rfl,rfl⟩
theorem uA:Tryz.prog.underlying T.iw=some (.slice T.bF):=by kernel_rfl
theorem lh (a:AV):a.enc.length=2:=rfl
theorem acS (xs:List AV): ∀v∈xs.flatMap AV.enc,jg v=true:=by
 intro v hv;obtain⟨a,_,ha⟩:=List.mem_flatMap.1 hv;simp at ha;rcases ha with rfl|rfl<;>rfl
theorem aaD {xs:List AV} {n m:Nat} (hr:Row h p (xs.flatMap AV.enc)) (hn:n=xs.length) (hl:xs.length<=1000000000)
  (hk: ∀p' c' h',iR h' p' xs.length c' 2 (xs.flatMap AV.enc)->Fr No h h'->(∀x,aQ p' x->h.size<=x)->R (.slice p' xs.length c') h'):
  Cl F.dB #[.slice p n m] h R:=by
 subst hn;refine dB.walk ?_;cases p with
 |none=>
  have:xs= []:=by
   rcases hr with hr|⟨a,e,_⟩
   ·cases xs with
    |nil=>rfl
    |cons b bs=>cases hr
   ·cases e
  subst this;exact hk none 0 h (.nil rfl rfl rfl rfl) (Fr.refl _ _) (λx ⟨a,e,_⟩=>by cases e)
 |some a=>
  simp only[Option.isNone_some,aA,aU];exact Gz tA uA hr (gW AV.enc 2 lh xs) (acS xs) (by omega) (by omega) λp' c' h' o f g=>⟨_,_,_,rfl,hk p' c' h' o f g⟩
theorem aaE {xs:List BV} {n m:Nat} (hr:Row h p (xs.flatMap IF)) (hn:n=xs.length) (hl:xs.length<=1000000000)
  (hk: ∀p' c' h',iR h' p' xs.length c' 1 (xs.flatMap IF)->Fr No h h'->(∀x,aQ p' x->h.size<=x)->R (.slice p' xs.length c') h'):
  Cl F.hZ #[.slice p n m] h R:=by
 subst hn;refine hZ.walk ?_;cases p with
 |none=>
  have:xs= []:=by
   rcases hr with hr|⟨a,e,_⟩
   ·cases xs with
    |nil=>rfl
    |cons b bs=>cases hr
   ·cases e
  subst this;exact hk none 0 h (.nil rfl rfl rfl rfl) (Fr.refl _ _) (λx ⟨a,e,_⟩=>by cases e)
 |some a=>
  simp only[Option.isNone_some,aA,aU];exact Gz tN uN hr (gW IF 1 Fo xs) (acm xs) (by omega) (by omega) λp' c' h' o f g=>⟨_,_,_,rfl,hk p' c' h' o f g⟩
abbrev CU (h:aj) (b:Nat) (id:Nat):Prop:=h[b]? =some (.cells #[.int .u64 (id:Int)] T.uint64 (0,0))
def IJ (xs:List AV) (id:Nat):Int:=match xs.findIdx? (λa=>decide (a.id=id)) with|some k=>(k:Int)|none=> -1
theorem R4 {b id:Nat} (a:AV) (hid:CU h b id) (hk: ∀h',Fr No h h'->R (.bool (decide (a.id=id))) h'):Cl F.dJ #[.agg #[.U (a.id:Int),a.v.val],.P b 0] h R:=by
 refine dJ.walk (bF.box λb1 h1 eb hb f1=>⟨_,af hb rfl,_,af (f1.get hid (λx=>x)) rfl,?_⟩);have e:((a.id:Int)==(id:Int))=decide (a.id=id):=by
  by_cases q:a.id=id
  ·simp[q]
  ·have: ¬(a.id:Int)=(id:Int):=by omega
   simp[q,this]
 rw[e];exact hk h1 f1
theorem UL {xs:List AV} {n m b id:Nat} (hr:Row h p (xs.flatMap AV.enc)) (hn:n=xs.length) (hl:xs.length<=1000000000) (hid:CU h b id) (hk: ∀h',Fr No h h'->R (.I (IJ xs id)) h'):
  Cl F.bO #[.slice p n m,.func (.func F.dJ) #[] #[.P b 0]] h R:=by
 subst hn;refine bO.vV.walk ?_;refine⟨λi h'=>Fr No h h'/\∃k:Nat,i=(k:Int)/\k<=xs.length/\∀j (hj:j<xs.length),j<k->xs[j].id≠id,λi _=>xs.length - i.toNat,⟨Fr.refl _ _,0,rfl,by omega,λj _ hj=>by omega⟩,?_⟩;rintro _ h1 ⟨f1,k,rfl,hkn,kz⟩;have pJ:=hr.frame f1 (λ_ _ x=>x);have PB:CU h1 b id:=f1.get hid (λx=>x);by_cases jc:k<xs.length
 ·have q1:(k:Int)<(xs.length:Int):=by omega
  simp only[q1,decide_true,bA,aL];have hx:xs[k]? =some xs[k]:=au jc;obtain⟨a,rfl⟩:=pJ.some (λe=>by have:=bp List.length e;rw[gW AV.enc 2 lh,bC] at this;omega);refine⟨⟨by omega,by first|trivial|omega⟩,aB.2 (bF.TM (pJ.lj lh hx) ?_)⟩;refine R4 xs[k] PB λh2 f2=>⟨_,rfl,?_⟩
  by_cases e:xs[k].id=id
  ·simp only[e,decide_true,bA];have:IJ xs id=(k:Int):=by
    unfold IJ;have:xs.findIdx? (λa=>decide (a.id=id))=some k:=by
     rw[cO];exact⟨jc,by simpa using e,λj hj=>by simpa using kz j (by omega) hj⟩
    rw[this]
   rw[this] at hk;exact hk h2 (f1.tt f2)
  ·simp only[e,decide_false,aA,aU];rw[bK (by omega) (by omega)];refine⟨⟨f1.tt f2,k+1,by omega,by omega,λj hj hjk=> ?_⟩,?_⟩
   ·by_cases q:j=k
    ·subst q;exact e
    ·exact kz j hj (by omega)
   ·show xs.length - Int.toNat ((k:Int)+1)<xs.length - Int.toNat (k:Int);omega
 ·have q1: ¬(k:Int)<(xs.length:Int):=by omega
  simp only[q1,decide_false,aA,aU];have:IJ xs id= -1:=by
   unfold IJ;have:xs.findIdx? (λa=>decide (a.id=id))=none:=by
    rw[dK];intro a ha;obtain⟨j,hj⟩:=bG ha;have Cf:=(aG.1 hj).1;rw[au Cf] at hj;obtain rfl:=bz hj;simpa using kz j Cf (by omega)
   rw[this]
  rw[this] at hk;exact hk h1 f1
theorem acT {b id:Nat} (a:AV) (hid:CU h b id) (hk: ∀h',Fr No h h'->R (.bool (decide (a.id=id))) h'):Cl F.gG #[.agg #[.U (a.id:Int),a.v.val],.P b 0] h R:=by
 refine gG.walk (bF.box λb1 h1 eb hb f1=>⟨_,af hb rfl,_,af (f1.get hid (λx=>x)) rfl,?_⟩);have e:((a.id:Int)==(id:Int))=decide (a.id=id):=by
  by_cases q:a.id=id
  ·simp[q]
  ·have: ¬(a.id:Int)=(id:Int):=by omega
   simp[q,this]
 rw[e];exact hk h1 f1
theorem UM {xs:List AV} {n m b id:Nat} (hr:Row h p (xs.flatMap AV.enc)) (hn:n=xs.length) (hl:xs.length<=1000000000) (hid:CU h b id) (hk: ∀h',Fr No h h'->R (.I (IJ xs id)) h'):
  Cl F.bO #[.slice p n m,.func (.func F.gG) #[] #[.P b 0]] h R:=by
 subst hn;refine bO.kept.walk ?_;refine⟨λi h'=>Fr No h h'/\∃k:Nat,i=(k:Int)/\k<=xs.length/\∀j (hj:j<xs.length),j<k->xs[j].id≠id,λi _=>xs.length - i.toNat,⟨Fr.refl _ _,0,rfl,by omega,λj _ hj=>by omega⟩,?_⟩;rintro _ h1 ⟨f1,k,rfl,hkn,kz⟩;have pJ:=hr.frame f1 (λ_ _ x=>x);have PB:CU h1 b id:=f1.get hid (λx=>x);by_cases jc:k<xs.length
 ·have q1:(k:Int)<(xs.length:Int):=by omega
  simp only[q1,decide_true,bA,aL];have hx:xs[k]? =some xs[k]:=au jc;obtain⟨a,rfl⟩:=pJ.some (λe=>by have:=bp List.length e;rw[gW AV.enc 2 lh,bC] at this;omega);refine⟨⟨by omega,by first|trivial|omega⟩,aB.2 (bF.TM (pJ.lj lh hx) ?_)⟩;refine acT xs[k] PB λh2 f2=>⟨_,rfl,?_⟩
  by_cases e:xs[k].id=id
  ·simp only[e,decide_true,bA];have:IJ xs id=(k:Int):=by
    unfold IJ;have:xs.findIdx? (λa=>decide (a.id=id))=some k:=by
     rw[cO];exact⟨jc,by simpa using e,λj hj=>by simpa using kz j (by omega) hj⟩
    rw[this]
   rw[this] at hk;exact hk h2 (f1.tt f2)
  ·simp only[e,decide_false,aA,aU];rw[bK (by omega) (by omega)];refine⟨⟨f1.tt f2,k+1,by omega,by omega,λj hj hjk=> ?_⟩,?_⟩
   ·by_cases q:j=k
    ·subst q;exact e
    ·exact kz j hj (by omega)
   ·show xs.length - Int.toNat ((k:Int)+1)<xs.length - Int.toNat (k:Int);omega
 ·have q1: ¬(k:Int)<(xs.length:Int):=by omega
  simp only[q1,decide_false,aA,aU];have:IJ xs id= -1:=by
   unfold IJ;have:xs.findIdx? (λa=>decide (a.id=id))=none:=by
    rw[dK];intro a ha;obtain⟨j,hj⟩:=bG ha;have Cf:=(aG.1 hj).1;rw[au Cf] at hj;obtain rfl:=bz hj;simpa using kz j Cf (by omega)
   rw[this]
  rw[this] at hk;exact hk h1 f1
def CN (h0:aj) (p:bU) (cap b id:Nat) (xs:List AV) (i j:Int) (h:aj):Prop:=
 ∃(a k:Nat) (zs:List AV),i=(a:Int)/\j=(k:Int)/\a<k/\k<=xs.length/\zs.length=xs.length/\zs.take a=(xs.take k).filter (λx=>decide (x.id≠id))/\zs.drop k=xs.drop k/\iR h p xs.length cap 2 (zs.flatMap AV.enc)/\Fr (aQ p) h0 h/\CU h b id
theorem UN {xs:List AV} {cap b id n:Nat} (own:iR h p xs.length cap 2 (xs.flatMap AV.enc)) (hn:n=xs.length) (hl:xs.length<=1000000000) (hid:CU h b id) (hb: ¬aQ p b)
  (hk: ∀h',iR h' p (xs.filter (λx=>decide (x.id≠id))).length cap 2 ((xs.filter (λx=>decide (x.id≠id))).flatMap AV.enc)->Fr (aQ p) h h'->CU h' b id->R (.slice p (xs.filter (λx=>decide (x.id≠id))).length cap) h'):
  Cl F.dh #[.slice p n cap,.func (.func F.dJ) #[] #[.P b 0]] h R:=by
 subst hn;refine dh.vV.walk (UL own.pZ rfl hl hid λh1 f1=>⟨_,rfl,?_⟩);have aaF:=own.frame f1 (λ_ _ x=>x);have PB:CU h1 b id:=f1.get hid (λx=>x);have F1:Fr (aQ p) h h1:=f1.mono (λ_ _=>False.elim);unfold IJ;cases hf:xs.findIdx? (λa=>decide (a.id=id)) with
 |none=>
  rw[ag (by rfl)];have kz:xs.filter (λx=>decide (x.id≠id))=xs:=by
   rw[cH];intro a ha;have:=dK.1 hf a ha;simpa using this
  rw[kz] at hk;exact hk h1 aaF F1 PB
 |some k=>
  dsimp only;rw[ai (by simp only[dz];omega)];obtain⟨hkl,hke,hkb⟩:=cO.1 hf;rw[bK (by omega) (by omega)];have amD:(xs.take (k+1)).filter (λx=>decide (x.id≠id))=xs.take k:=by
   rw[bY,au hkl,iE];have e1:(xs.take k).filter (λx=>decide (x.id≠id))=xs.take k:=by
    rw[cH];intro a ha;obtain⟨j,hj⟩:=bG ha;rw[dq] at hj;split at hj
    ·rename_i hjk;have Cf:j<xs.length:=by omega
     rw[au Cf] at hj;obtain rfl:=bz hj;simpa using hkb j hjk
    ·cases hj
   have e2: [xs[k]].filter (λx=>decide (x.id≠id))= []:=by
    simp at hke;simp[hke]
   rw[e1];show xs.take k++ [xs[k]].filter (λx=>decide (x.id≠id))=_;rw[e2,List.append_nil]
  refine⟨CN h p cap b id xs,λ_ j _=>xs.length - j.toNat,⟨k,k+1,xs,rfl,by omega,by omega,by omega,rfl,amD.symm,rfl,aaF,F1,PB⟩,?_⟩;clear aaF PB F1 f1 amD hkb hke hkl hf;rintro _ _ h2 ⟨a,j,zs,rfl,rfl,haj,QN,hzl,hz1,hz2,afX,F2,amE⟩;by_cases Cf:j<xs.length
  ·have q1:(j:Int)<(xs.length:Int):=by omega
   simp only[q1,decide_true,bA,aL];have hxj:xs[j]? =some xs[j]:=au Cf;have hzj:zs[j]? =some xs[j]:=by
    have:=bp (·[0]?) hz2;simpa[hxj] using this
   have e3:(xs.take (j+1)).filter (λx=>decide (x.id≠id))=(xs.take j).filter (λx=>decide (x.id≠id))++if xs[j].id=id then [] else [xs[j]]:=by
    rw[bY,hxj,iE];congr 1
    by_cases e:xs[j].id=id<;>simp[e]
   generalize xs[j]=x at*;obtain⟨ab,AG,rfl⟩:=afX.addr (by omega);refine aK.of λJ hJ=>⟨⟨by omega,by first|trivial|omega⟩,aB.2 (bF.TM (afX.lj lh hzj) (bF.new λb6 h6 eb6 RQ f6=>bF.ld RQ ?_))⟩
   have amF:CU h6 b id:=f6.get amE (λx=>x);refine R4 x amF λh7 f7=>⟨_,rfl,?_⟩
   have f27:=f6.tt f7;have amG:=afX.frame f27 (λ_ _ x=>x);have amH:CU h7 b id:=f7.get amF (λx=>x);have F7:=F2.on f27;refine aK.of λJ1 pA=> ?_
   subst pA;by_cases e:x.id=id
   ·simp only[e,decide_true,dW,aA,aU];subst hJ;rw[bK (by omega) (by omega)];rw[ag e,List.append_nil] at e3;refine⟨⟨a,j+1,zs,rfl,by omega,by omega,by omega,hzl,by rw[e3];exact hz1,?_,amG,F7,amH⟩,?_⟩
    ·have:=bp (List.drop 1) hz2;rw[List.drop_drop,List.drop_drop] at this;exact this
    ·show xs.length - Int.toNat ((j:Int)+1)<xs.length - Int.toNat (j:Int);omega
   ·simp only[e,decide_false,gL,bA];have hb7:=f7.get RQ (λx=>x);rw[ai e] at e3;refine bF.ld hb7 ⟨⟨by omega,by first|trivial|omega⟩,aB.2 ?_⟩;have hal:a<zs.length:=by omega
    have hfl:=gW AV.enc 2 lh zs;refine amG.store (by rw[hfl];omega) λh9 aqj s9 o9=> ?_
    rw[add_add];refine aqj.store (by rw[eU,hfl];omega) λvj aia s10 WH=> ?_
    rw[aad lh hal rfl] at aia;subst hJ;rw[bK (by omega) (by omega),bK (by omega) (by omega)];have f10:Fr (aQ (some (AA ab AG))) h7 vj:=(Fr.of_eq s9 o9).tt (Fr.of_eq s10 WH);refine⟨⟨a+1,j+1,zs.set a x,by omega,by omega,by omega,by omega,by rw[eU];exact hzl,?_,?_,aia,F7.tt f10,f10.get amH hb⟩,?_⟩
    ·rw[e3,<-hz1,bY,eH,ag rfl,ag hal,List.take_set_of_le (bh a)];rfl
    ·rw[List.drop_set_of_lt (by omega)];have:=bp (List.drop 1) hz2;rw[List.drop_drop,List.drop_drop] at this;exact this
    ·show xs.length - Int.toNat ((j:Int)+1)<xs.length - Int.toNat (j:Int);omega
  ·have q1: ¬(j:Int)<(xs.length:Int):=by omega
   simp only[q1,decide_false,aA,aU];obtain rfl:j=xs.length:=by omega
   rw[iF] at hz1;have hlen:(xs.filter (λx=>decide (x.id≠id))).length=a:=by rw[<-hz1,bQ];omega
   refine⟨⟨by omega,by omega⟩,?_⟩;simp only[aL];refine MJ tA (by intro v hv;simp[Value.cells] at hv;rcases hv with rfl|rfl<;>rfl) afX (by omega) λh3 acU f3=>⟨rfl,⟨by omega,by have:=own.le;omega⟩,?_⟩
   rw[wo AV.enc 2 lh,hz1] at acU;rw[sw,Nat.sub_zero,Nat.sub_zero];rw[hlen] at hk;exact hk h3 acU (F2.tt f3) (f3.get amE hb)
end gU
end
section
namespace gU
structure Gr (i:Nat) (s:gU):Prop where
 num:s.num=i+1
 tk:1<=s.token/\s.token<=2147483648
 kl:s.kept.length<=6
 nl:s.notes.length<=6
 kd: ∀a∈s.kept,a.1<=1099511627776/\a.2.length<=1000
 nd: ∀n∈s.notes,1<=n.length/\n.length<=600
 ki:(s.kept.map (·.1)).Nodup
structure Dw (A:List gU):Prop where
 le:A.length<=8
 at_: ∀i s,A[i]? =some s->Gr i s
 tk:(A.map (·.token)).Nodup
def vm (A:List gU) (num:Int):Option gU:=if 1<=num then A[(num - 1).toNat]? else none
theorem GN {A:List gU} {num:Int} {s:gU} (h:vm A num=some s): ∃i:Nat,num=(i:Int)+1/\A[i]? =some s:=by
 unfold vm at h;split at h
 ·exact⟨(num - 1).toNat,by omega,h⟩
 ·cases h
theorem Dx {A:List gU} {i:Nat} :vm A ((i:Int)+1)=A[i]? :=by
 unfold vm;rw[jy,show((i:Int)+1 - 1).toNat=i by omega]
theorem wz {A:List gU} {num:Int} (h:num<1\/num>(A.length:Int)):vm A num=none:=by
 unfold vm;split
 ·rw[eg (by omega)]
 ·rfl
def yO (A:List gU) (num:Int) (s:gU):List gU:=A.set (num - 1).toNat s
def UO (A:List gU) (num:Int):Bool:=match vm A num with|some s=>s.up|none=>false
def R5 (A:List gU) (token:Nat):Bool:=A.any λs=>decide (s.token=token)
def Bw (A:List gU) (token:Nat):Int:=if token<1\/token>2147483648 then 1 else if R5 A token=true then 12 else if A.length≥8 then 5 else 0
def aib (A:List gU) (token:Nat):Int:=if Bw A token=0 then(A.length:Int)+1 else 0
def vo (A:List gU) (token:Nat):List gU:=if Bw A token=0 then A++ [⟨A.length+1,token,true,false, [], []⟩] else A
def aic (A:List gU) (num:Int):Int:=match vm A num with|none=>4|some s=>if s.up=true then 0 else 7
def aid (A:List gU) (num:Int):List gU:=match vm A num with|none=>A|some s=>if s.up=true then yO A num { s with up:=false } else A
def nK (k:List (Nat×List UInt8)) (id:Nat) (d:List UInt8):List (Nat×List UInt8):=
 if(k.filter (λa=>decide (a.1≠id))++ [(id,d)]).length>6 then(k.filter (λa=>decide (a.1≠id))++ [(id,d)]).drop 1 else k.filter (λa=>decide (a.1≠id))++ [(id,d)]
def acV (A:List gU) (num:Int) (id:Nat) (d:List UInt8):Int:=match vm A num with|none=>4|some _=>if id>1099511627776\/d.length>1000 then 1 else 0
def tH (A:List gU) (num:Int) (id:Nat) (d:List UInt8):List gU:=match vm A num with|none=>A|some s=>if id>1099511627776\/d.length>1000 then A else yO A num { s with kept:=nK s.kept id d }
def Ic (k:List (Nat×List UInt8)) (id:Nat):Option (List UInt8):=(k.find? (λa=>decide (a.1=id))).map (·.2)
def xo (A:List gU) (num:Int) (id:Nat):Option (List UInt8):=match vm A num with|none=>none|some s=>Ic s.kept id
def GO (A:List gU) (num:Int):Int:=match vm A num with|none=>4|some _=>0
def qS (A:List gU) (num:Int) (on:Bool):List gU:=match vm A num with|none=>A|some s=>yO A num { s with watch:=on }
def acW (A:List gU) (num:Int):Int:=match vm A num with|none=>4|some _=>0
def WI (A:List gU) (num:Int):Int:=match vm A num with|none=>0|some s=>(s.notes.length:Int)
def Nq (A:List gU) (num:Int):List UInt8:=match vm A num with|none=> []|some s=>s.notes.headD []
def Nr (A:List gU) (num:Int):List gU:=match vm A num with|none=>A|some s=>yO A num { s with notes:=s.notes.drop 1 }
theorem Dw.set {A:List gU} {i:Nat} {s s':gU} (ok:Dw A) (hs:A[i]? =some s) (ht:s'.token=s.token) (h':Gr i s'):Dw (A.set i s'):=by
 have hi:=(aG.1 hs).1;refine⟨by rw[eU];exact ok.le,λj u hj=> ?_,?_⟩
 ·rw[eH] at hj;by_cases e:i=j
  ·subst e;rw[ag rfl,ag hi] at hj;obtain rfl:=bz hj;exact h'
  ·rw[ai e] at hj;exact ok.at_ j u hj
 ·rw[List.map_set,ht,FI (by rw[aO,hs];rfl)];exact ok.tk
theorem Dw.yO {A:List gU} {num:Int} {s s':gU} (ok:Dw A) (hs:vm A num=some s) (ht:s'.token=s.token) (h': ∀i,Gr i s->Gr i s'):Dw (yO A num s'):=by
 obtain⟨i,rfl,hi⟩:=GN hs;unfold gU.yO;rw[show((i:Int)+1 - 1).toNat=i by omega];exact ok.set hi ht (h' i (ok.at_ i s hi))
theorem Dw.open {A:List gU} (ok:Dw A) (token:Nat):Dw (vo A token):=by
 unfold vo;split
 ·rename_i he;unfold Bw at he;split at he
  ·cases he
  rename_i h1;split at he
  ·cases he
  rename_i h2;split at he
  ·cases he
  rename_i h3;refine⟨by rw[aF,fj];omega,λj u hj=> ?_,?_⟩
  ·by_cases e:j<A.length
   ·rw[dx e] at hj;exact ok.at_ j u hj
   ·rw[dk (by omega)] at hj;have e2:j=A.length:=by
     have:=(aG.1 hj).1;simp at this;omega
    subst e2;simp at hj;subst hj;exact⟨rfl,by show 1<=token/\token<=2147483648;omega,by simp,by simp,by simp,by simp,by simp⟩
  ·rw[bm,gh];refine⟨ok.tk,by simp,λa ha b hb e=> ?_⟩;simp at hb;subst hb;subst e;apply h2
   unfold R5;rw[List.any_eq_true];obtain⟨s,hs,e⟩:=bn.1 ha;exact⟨s,hs,by simpa using e⟩
 ·exact ok
theorem acX {k:List (Nat×List UInt8)} {id:Nat} {d:List UInt8} (hk:k.length<=6) (hkd: ∀a∈k,a.1<=1099511627776/\a.2.length<=1000) (Q4:(k.map (·.1)).Nodup) (h1:id<=1099511627776) (h2:d.length<=1000):
  (nK k id d).length<=6/\(∀a∈nK k id d,a.1<=1099511627776/\a.2.length<=1000)/\((nK k id d).map (·.1)).Nodup:=by
 have hlen:(k.filter (λa=>decide (a.1≠id))++ [(id,d)]).length<=7:=by
  have:=cI (λa=>decide (a.1≠id)) k;rw[aF,fj];omega
 have kz: ∀a∈k.filter (λa=>decide (a.1≠id))++ [(id,d)],a.1<=1099511627776/\a.2.length<=1000:=by
  intro a ha;rcases bT.1 ha with ha|ha
  ·exact hkd a (aY.1 ha).1
  ·simp at ha;subst ha;exact⟨h1,h2⟩
 have Rc:((k.filter (λa=>decide (a.1≠id))++ [(id,d)]).map (·.1)).Nodup:=by
  rw[bm,gh];refine⟨(cU.map _).nodup Q4,by simp,λa ha b hb e=> ?_⟩;simp at hb;subst hb;subst e;obtain⟨x,hx,e⟩:=bn.1 ha;have:=(aY.1 hx).2;simp at this;exact this e
 unfold nK;split
 ·refine⟨by rw[cf];omega,λa ha=>kz a (List.mem_of_mem_drop ha),?_⟩;rw[List.map_drop];exact(List.drop_sublist _ _).nodup Rc
 ·exact⟨by omega,kz,Rc⟩
theorem Dw.vV {A:List gU} (ok:Dw A) (num:Int) (id:Nat) (d:List UInt8):Dw (tH A num id d):=by
 unfold tH;split
 ·exact ok
 ·rename_i s hs;split
  ·exact ok
  ·rename_i hh;refine ok.yO hs rfl λi o=> ?_
   obtain⟨k1,k2,k3⟩:=acX (id:=id) (d:=d) o.kl o.kd o.ki (by omega) (by omega);exact⟨o.num,o.tk,k1,o.nl,k2,o.nd,k3⟩
theorem Dw.watch {A:List gU} (ok:Dw A) (num:Int) (on:Bool):Dw (qS A num on):=by
 unfold qS;split
 ·exact ok
 ·rename_i s hs;exact ok.yO hs rfl λi o=>⟨o.num,o.tk,o.kl,o.nl,o.kd,o.nd,o.ki⟩
theorem Dw.read {A:List gU} (ok:Dw A) (num:Int):Dw (Nr A num):=by
 unfold Nr;split
 ·exact ok
 ·rename_i s hs;refine ok.yO hs rfl λi o=>⟨o.num,o.tk,o.kl,?_,o.kd,λn hn=>o.nd n (List.mem_of_mem_drop hn),o.ki⟩
  have:=o.nl;rw[cf];omega
theorem Dw.nil:Dw []:=⟨by simp,by simp,by simp⟩
end gU
end
section
open Go.jH
namespace gU
open vf
variable {h h':aj} {t:Nat} {X:Ft} {R:iI} {p q:bU} {c i:Nat} {fX:Lab} {D:Nat→Prop} {L:List SC} {A:List gU}
theorem tP:Ao Tryz.prog T.ko T.sc 1 8 (.pointer none):=⟨by kernel_rfl,by kernel_rfl,rfl⟩
theorem uP:Tryz.prog.underlying T.ko=some (.slice T.sc):=by kernel_rfl
theorem pD (hk: ∀h' t X,Has h' t X []->Fr No h h'->(∀x,X.M x\/X.D x->h.size<=x)->R (.P t 0) h'):Cl F.sV #[] h R:=by
 refine sV.walk (cX ?_);refine hk _ _ ⟨λx=>x=h.size,λ_=>False⟩ ⟨[],λx=>if x=h.size then some 0 else none, [],⟨⟨none,0,cz,.nil rfl rfl rfl rfl,λx ⟨a,e,_⟩=>by cases e⟩,by simp,λi s hs=>by simp at hs,?_,λ_ h=>h.elim,λ_ _ _ h=>h⟩,rfl,rfl,?_⟩ (Fr.push _ _) (λx hx=>hx.elim (λe=>by have e:x=h.size:=e;omega) False.elim)
 ·intro x r hr;split at hr
  ·rename_i e;rw[fO];omega
  ·cases hr
 ·intro x;constructor
  ·intro e;have e:x=h.size:=e;exact⟨0,by simp[e]⟩
  ·rintro⟨r,hr⟩;dsimp only at hr;split at hr
   ·assumption
   ·cases hr
theorem oQ {num : Int} (TB : QO h t fX D L) (k1 : ∀ i s, num = ((i : Nat) : Int) + 1 → L[i]? = some s → R (.tuple #[.pointer (some ⟨s.b, 0, none⟩), .int .i64 0]) h) (k2 : (num < 1 ∨ num > (L.length : Int)) → R (.tuple #[.pointer none, .int .i64 4]) h) (hl : L.length ≤ 1000000) :
    Cl F.gk #[.pointer (some ⟨t, 0, none⟩), .int .i64 num] h R := by
  obtain ⟨p, c, hb, own, hp⟩ := TB.dE
  refine gk.walk (aK.of λJ hJ => ⟨true, af hb rfl, ?_⟩)
  subst hJ
  simp only [Bool.not_true, Bool.false_eq_true, if_false]
  refine aK.of λJ hJ => ?_
  by_cases h1 : num < 1
  · simp only [h1, decide_true, if_true]
    subst hJ
    simp only [if_true]
    exact k2 (.inl h1)
  · simp only [h1, decide_false, Bool.false_eq_true, if_false]
    refine ⟨_, _, _, af hb rfl, ?_⟩
    by_cases h2 : num > (L.length : Int)
    · simp only [h2, decide_true]
      subst hJ
      simp only [if_true]
      exact k2 (.inr h2)
    · simp only [h2, decide_false]
      subst hJ
      simp only [Bool.false_eq_true, if_false]
      obtain ⟨i, rfl⟩ : ∃ i : Nat, num = (i : Int) + 1 := ⟨(num - 1).toNat, by omega⟩
      have MK : i < L.length := by omega
      have hs : L[i]? = some L[i] := List.getElem?_eq_getElem MK
      obtain ⟨ab, AG, rfl⟩ := own.addr (by omega)
      have e : IntKind.wrap .i64 ((i : Int) + 1 - 1) = (i : Int) := by rw [bK (by omega) (by omega)]; omega
      rw [e]
      refine ⟨_, _, _, af hb rfl, ⟨by omega, by omega⟩, aB.2 ⟨_, ?_, k1 i _ rfl hs⟩⟩
      rw [Int.toNat_natCast, Nat.mul_one]
      exact own.cell (by rw [List.getElem?_map, hs]; rfl)
theorem Ns {k:Int} (token:Nat) (Mi:k=(token:Int)) (TB:QO h t fX D L) (hl:L.length<=1000000) (k1: ∀i s,L[i]? =some s->s.token=token->L.findIdx? (λs=>decide (s.token=token))=some i->R (.P s.b 0) h)
  (k2:L.findIdx? (λs=>decide (s.token=token))=none->R (.pointer none) h):Cl F.mR #[.P t 0,.U k] h R:=by
 subst Mi;obtain⟨p,c,hb,own,hp⟩:=TB.dE;refine mR.walk ⟨_,_,_,af hb rfl,?_⟩;refine⟨λi h'=>h'=h/\∃k:Nat,i=(k:Int)/\k<=L.length/\∀j (hj:j<L.length),j<k->L[j].token≠token,λi _=>L.length - i.toNat,⟨rfl,0,rfl,by omega,λj _ hj=>by omega⟩,?_⟩;rintro _ h1 ⟨rfl,k,rfl,hkn,kz⟩;by_cases jc:k<L.length
 ·have q1:(k:Int)<(L.length:Int):=by omega
  simp only[q1,decide_true,bA,aL];have hs:L[k]? =some L[k]:=au jc;obtain⟨ab,AG,rfl⟩:=own.addr (by omega);have ES:=(TB.ses k _ hs).dE;refine⟨⟨by omega,by first|trivial|omega⟩,aB.2 ⟨some ⟨L[k].b,0,none⟩,?_,aB.2 ⟨_,af ES rfl,?_⟩⟩⟩
  ·rw[cN];exact own.cell (by rw[aO,hs];rfl)
  by_cases e:L[k].token=token
  ·rw[ag (by rw[e];simp)];refine k1 k _ hs e ?_;rw[cO];exact⟨jc,by simpa using e,λj hj=>by simpa using kz j (by omega) hj⟩
  ·rw[ai (by simp only[dz];omega)];rw[bK (by omega) (by omega)];refine⟨⟨trivial,k+1,by omega,by omega,λj hj hjk=> ?_⟩,?_⟩
   ·by_cases q:j=k
    ·subst q;exact e
    ·exact kz j hj (by omega)
   ·show L.length - Int.toNat ((k:Int)+1)<L.length - Int.toNat (k:Int);omega
 ·have q1: ¬(k:Int)<(L.length:Int):=by omega
  simp only[q1,decide_false,aA,aU];refine k2 ?_;rw[dK];intro a ha;obtain⟨j,hj⟩:=bG ha;have Cf:=(aG.1 hj).1;rw[au Cf] at hj;obtain rfl:=bz hj;simpa using kz j Cf (by omega)
theorem yP {s:SC} (hs:L[i]? =some s):(L.map SC.abs)[i]? =some s.abs:=by rw[aO,hs];rfl
theorem Wu {num : Int} (H : Has h t X A) (ok : Dw A) (hk : R (.bool (UO A num)) h) : Cl F.mQ #[.pointer (some ⟨t, 0, none⟩), .int .i64 num] h R := by
  obtain ⟨_, fX, L, TB, rfl, _, hS⟩ := H
  have hl := ok.le
  rw [List.length_map] at hl
  unfold UO at hk
  refine mQ.walk (oQ TB (λi s e hs => ⟨_, _, rfl, ?_⟩) (λhn => ⟨_, _, rfl, ?_⟩) (by omega))
  · rw [if_pos (by rfl)]
    subst e
    rw [Dx, yP hs] at hk
    exact aB.2 ⟨_, af (TB.ses i s hs).dE rfl, hk⟩
  · rw [if_neg (by simp)]
    rw [wz (by rw [List.length_map]; exact hn)] at hk
    exact hk
theorem vW {k : Int} (token : Nat) (Mi : k = (token : Int)) (H : Has h t X A) (ok : Dw A) (hk : ∀ h' X', Has h' t X' (vo A token) → bM X h X' h' → R (.tuple #[.int .i64 (aib A token), .int .i64 (Bw A token)]) h') :
    Cl F.gH #[.pointer (some ⟨t, 0, none⟩), .int .u64 k] h R := by
  subst Mi
  have H0 := H
  obtain ⟨_, fX, L, TB, rfl, _, hS⟩ := H
  have hl := ok.le
  rw [List.length_map] at hl
  obtain ⟨p, c, hb, own, hp⟩ := TB.dE
  refine gH.walk (aK.of λJ hJ => ⟨true, af hb rfl, ?_⟩)
  subst hJ
  simp only [Bool.not_true, Bool.false_eq_true, if_false]
  refine aK.of λJ hJ => ?_
  unfold aib vo at hk
  have jt : (token < 1 ∨ token > 2147483648) → J true h := by
    intro hh
    subst hJ
    simp only [if_true]
    have e : Bw (L.map SC.abs) token = 1 := by unfold Bw; rw [if_pos hh]
    rw [e] at hk
    exact hk h X H0 (bM.refl _ _)
  have jf : ¬ (token < 1 ∨ token > 2147483648) → J false h := by
    intro hh
    subst hJ
    simp only [Bool.false_eq_true, if_false]
    refine Ns token rfl TB (by omega) (λi s hs ht hf => ⟨_, rfl, ?_⟩) (λhf => ⟨_, rfl, ?_⟩)
    · simp only [Option.isNone_some, Bool.not_false, if_true]
      have e : Bw (L.map SC.abs) token = 12 := by
        unfold Bw
        rw [if_neg hh, if_pos]
        unfold R5
        rw [List.any_eq_true]
        exact ⟨s.abs, List.mem_map_of_mem (List.mem_of_getElem? hs), by simp [SC.abs, ht]⟩
      rw [e] at hk
      exact hk h X H0 (bM.refl _ _)
    · simp only [Option.isNone_none, Bool.not_true, Bool.false_eq_true, if_false]
      have Gv : ¬ R5 (L.map SC.abs) token = true := by
        unfold R5
        rw [List.any_eq_true]
        rintro ⟨x, hx, e⟩
        obtain ⟨s, hs, rfl⟩ := List.mem_map.1 hx
        have := List.findIdx?_eq_none_iff.1 hf s hs
        rw [show s.abs.token = s.token from rfl] at e
        rw [e] at this; cases this
      refine ⟨_, _, _, af hb rfl, ?_⟩
      by_cases h8 : (L.length : Int) ≥ 8
      · simp only [h8, decide_true, if_true]
        have e : Bw (L.map SC.abs) token = 5 := by
          unfold Bw
          rw [if_neg hh, if_neg Gv, if_pos (by rw [List.length_map]; omega)]
        rw [e] at hk
        exact hk h X H0 (bM.refl _ _)
      · simp only [h8, decide_false, Bool.false_eq_true, if_false]
        have e : Bw (L.map SC.abs) token = 0 := by
          unfold Bw
          rw [if_neg hh, if_neg Gv, if_neg (by rw [List.length_map]; omega)]
        rw [e] at hk
        simp only [if_true] at hk
        refine ⟨_, _, _, af hb rfl, ?_⟩
        rw [bK (n := (L.length : Int) + 1) (by omega) (by omega)]
        refine ij.box λb h4 eb ma f4 => ?_
        have aqk := own.frame f4 (λ_ _ => id)
        refine ⟨_, _, _, af (f4.get hb id) rfl, ?_⟩
        refine qa tP uP aqk rfl (λv hv => by simp at hv; subst hv; rfl) (by omega) (by omega) ?_
        intro p' c' h6 o6 f6 g6
        refine ⟨_, _, _, rfl, ?_⟩
        have hbl := aI hb
        have npt : ¬ aQ p t := λhx => by have := hp t hx; rw [TB.lt0] at this; cases this
        have RQ := f6.get (f4.get hb id) npt
        have npb : ¬ aQ p b := λhx => by have := own.gm hx; omega
        have hs6 := f6.get ma npb
        refine bL RQ (by simp) λh7 k1 k2 k3 => ?_
        have f7 : Fr (λx => x = t) h6 h7 := Fr.of_eq k2 k3
        have ntb : ¬ b = t := λe => by omega
        have hs7 := f7.get hs6 ntb
        refine ⟨_, af hs7 rfl, ?_⟩
        have F : Fr (λx => x = t ∨ aQ p x) h h7 := (f4.mono (λ_ _ => False.elim)).tt ((f6.mono (λ_ _ hx => .inr hx)).tt (f7.mono (λ_ _ hx => .inl hx)))
        have aql : ¬ aQ p' t := λhx => (g6 t hx).elim npt (λh2 => by have := aI (f4.get hb id); omega)
        have a1 : ∀ x, x = t ∨ aQ p x → fX x = some 0 ∨ fX x = some 1 := by
          rintro x (rfl | hx)
          · exact .inl TB.lt0
          · exact .inr (hp x hx)
        have a2 : ∀ x, aQ p' x → fX x = some 1 ∨ h.size ≤ x := by
          intro x hx
          rcases g6 x hx with h2 | h2
          · exact .inl (hp x h2)
          · have := f4.1; exact .inr (by omega)
        have a3 : ¬ aQ p' b := by
          intro hx
          rcases g6 b hx with h2 | h2
          · exact npb h2
          · have := aI ma; omega
        obtain ⟨X', HH, st⟩ := TB.add (s := ⟨b, L.length + 1, token, true, false, [], none, 0, [], none, 0⟩) (p := p') (c0 := c') hS F a1 k1 (o6.frame f7 (λx hx e => aql (e ▸ hx))) a2 a3 hs7 (by show h.size ≤ b; omega) ⟨rfl, rfl, rfl⟩ ⟨rfl, rfl, rfl⟩
        have := hk h7 X' (by rw [List.length_map]; exact ⟨_, HH⟩) st
        rw [List.length_map] at this
        exact this
  clear hJ
  by_cases h1 : token < 1
  · have : (token : Int) < 1 := by omega
    simp only [this, decide_true, if_true]
    exact jt (.inl h1)
  · have : ¬ (token : Int) < 1 := by omega
    simp only [this, decide_false, Bool.false_eq_true, if_false]
    by_cases h2 : token > 2147483648
    · have : (token : Int) > 2147483648 := by omega
      simp only [this, decide_true]
      exact jt (.inr h2)
    · have : ¬ (token : Int) > 2147483648 := by omega
      simp only [this, decide_false]
      exact jf (by omega)
theorem Wv {num : Int} (H : Has h t X A) (ok : Dw A) (hk : ∀ h' X', Has h' t X' (aid A num) → bM X h X' h' → R (.int .i64 (aic A num)) h') : Cl F.nO #[.pointer (some ⟨t, 0, none⟩), .int .i64 num] h R := by
  have H0 := H
  obtain ⟨_, fX, L, TB, rfl, _, hS⟩ := H
  have hl := ok.le
  rw [List.length_map] at hl
  unfold aid aic at hk
  refine nO.walk (oQ TB (λi s e hs => ⟨_, _, rfl, ?_⟩) (λhn => ⟨_, _, rfl, ?_⟩) (by omega))
  · rw [if_neg (by simp)]
    subst e
    rw [Dx, yP hs] at hk
    dsimp only at hk
    have ES := (TB.ses i s hs).dE
    refine aB.2 ⟨_, af ES rfl, ?_⟩
    cases hu : s.up with
    | true =>
      have : s.abs.up = true := hu
      simp only [this, if_true] at hk
      simp only [Bool.not_true, Bool.false_eq_true, if_false]
      refine aB.2 (bL ES (by simp) λh3 k1 k2 k3 => ?_)
      obtain ⟨X', HH, st⟩ := TB.flag (s' := { s with up := false }) hS hs rfl ⟨rfl, rfl, rfl⟩ ⟨rfl, rfl, rfl⟩ k1 k2 k3
      refine hk h3 X' ?_ st
      unfold yO
      rw [show ((i : Int) + 1 - 1).toNat = i by omega]
      exact ⟨_, HH⟩
    | false =>
      have : s.abs.up = false := hu
      simp only [this, Bool.false_eq_true, if_false] at hk
      simp only [Bool.not_false, if_true]
      exact hk h X H0 (bM.refl _ _)
  · rw [if_pos (by rfl)]
    rw [wz (by rw [List.length_map]; exact hn)] at hk
    exact hk h X H0 (bM.refl _ _)
theorem KP {num : Int} {on : Bool} (H : Has h t X A) (ok : Dw A) (hk : ∀ h' X', Has h' t X' (qS A num on) → bM X h X' h' → R (.int .i64 (GO A num)) h') : Cl F.kj #[.pointer (some ⟨t, 0, none⟩), .int .i64 num, .bool on] h R := by
  have H0 := H
  obtain ⟨_, fX, L, TB, rfl, _, hS⟩ := H
  have hl := ok.le
  rw [List.length_map] at hl
  unfold qS GO at hk
  refine kj.walk (oQ TB (λi s e hs => ⟨_, _, rfl, ?_⟩) (λhn => ⟨_, _, rfl, ?_⟩) (by omega))
  · refine aK.of λJ hJ => ?_
    subst hJ
    rw [if_pos (by rfl)]
    subst e
    rw [Dx, yP hs] at hk
    dsimp only at hk
    have ES := (TB.ses i s hs).dE
    refine aB.2 (bL ES (by simp) λh3 k1 k2 k3 => ?_)
    obtain ⟨X', HH, st⟩ := TB.flag (s' := { s with watch := on }) hS hs rfl ⟨rfl, rfl, rfl⟩ ⟨rfl, rfl, rfl⟩ k1 k2 k3
    refine hk h3 X' ?_ st
    unfold yO
    rw [show ((i : Int) + 1 - 1).toNat = i by omega]
    exact ⟨_, HH⟩
  · refine aK.of λJ hJ => ?_
    subst hJ
    rw [if_neg (by simp)]
    rw [wz (by rw [List.length_map]; exact hn)] at hk
    exact hk h X H0 (bM.refl _ _)
end gU
end
section
open Go.jH Go.rN
namespace lH
open vf
variable {h h':aj} {b:Nat} {X:Ft} {R:iI} {p q:bU} {c d i:Nat} {L:List E} {s:BS}
def Nt (h:aj) (b:Nat) (X:Ft) (s:BS):Prop:= ∃L,Bx h b X s L/\okB s L
theorem Nt.frame {Q:Nat->Prop} (H:Nt h b X s) (f:Fr Q h h') (hq: ∀y,X.M y\/X.D y->¬Q y):Nt h' b X s:=by
 obtain⟨L,H,ok⟩:=H;exact⟨L,H.frame f hq,ok⟩
theorem Nt.on (H:Nt h b X s) (f:Fr No h h'):Nt h' b X s:=H.frame f (λ_ _=>id)
theorem Nt.lt (H:Nt h b X s) (y:Nat) (hy:X.M y\/X.D y):y<h.size:=by
 obtain⟨L,H,ok⟩:=H;exact H.lt y hy
theorem Mm.TO {lp:bU} {lc a:Nat} {xs:List IV} {S:Nat->Prop} (H:Mm h b X s L lp lc xs a S) (ok:okB s L):L.length<1000/\xs.length<=16:=by
 have h1:=ok.pm.length_eq;rw[aN] at h1;have:=ok.le;have:=H.len;omega
def ou (s:BS) (owner:Int) (d:List UInt8) (cF:Nat):Int:=if GL owner d.length (cF:Int)=true then(if s.items.length≥16 then 15 else 0) else 1
def Ml (s:BS) (owner:Int) (d:List UInt8) (cF:Nat):Int:=if ou s owner d cF=0 then(s.next:Int) else 0
def R6 (s:BS) (owner:Int) (d:List UInt8) (cF:Nat):BS:=if ou s owner d cF=0 then { s with items:=s.items++ [⟨s.next,owner,d,cF⟩],next:=s.next+1 } else s
theorem KQ {owner k:Int} {bs:List UInt8} {n m:Nat} (cF:Nat) (Mi:k=(cF:Int)) (H:Nt h b X s) (hr:Row h p (bc bs)) (hn:n=bs.length) (hl:bs.length<=1000000) (hnx:s.next<=1000000000)
  (hk: ∀h' X',Nt h' b X' (R6 s owner bs cF)->bM X h X' h'->R (.tuple #[.I (Ml s owner bs cF),.I (ou s owner bs cF)]) h'):
  Cl F.qm #[.P b 0,.I owner,.slice p n m,.U k] h R:=by
 subst Mi;subst hn;obtain⟨L,⟨lp,lc,xs,a,S,H⟩,ok⟩:=H;obtain⟨hL,hxl⟩:=H.TO ok;have hlen:=H.len;refine qm.walk (ji H ⟨_,rfl,?_⟩);simp only[dW,aA,aU];refine⟨_,af H.dE rfl,Du hr rfl (by omega) λh2 p2 c2 o2 f2 g2=>⟨_,_,_,_,_,_,rfl,?_⟩⟩;refine aM.new λb1 h7 uf dw f7=>aM.ld dw (ic λh8 f8=>⟨_,rfl,?_⟩)
 have F8:Fr No h h8:=f2.tt (f7.tt f8);have H8:=H.on F8;have z2:=f2.1;have z7:=f7.1;have z8:=f8.1;have l1:=aI dw;unfold R6 Ml at hk;cases hrt:GL owner bs.length (cF:Int) with
 |false=>
  have e:ou s owner bs cF=1:=by unfold ou;rw[hrt];rfl
  rw[e] at hk;simp only[gL,bA];exact hk h8 X ⟨L,⟨lp,lc,xs,a,S,H8⟩,ok⟩ (bM.nI F8)
 |true=>
  simp only[dW,aA,aU];refine⟨_,_,_,af H8.dE rfl,?_⟩;by_cases aie:s.items.length≥16
  ·have q:(xs.length:Int)≥16:=by omega
   have e:ou s owner bs cF=15:=by unfold ou;rw[hrt,ag rfl,ag aie]
   rw[e] at hk;simp only[q,decide_true,bA];exact hk h8 X ⟨L,⟨lp,lc,xs,a,S,H8⟩,ok⟩ (bM.nI F8)
  ·have q: ¬(xs.length:Int)≥16:=by omega
   have e:ou s owner bs cF=0:=by unfold ou;rw[hrt,ag rfl,ai aie]
   rw[e] at hk;simp only[bA] at hk;simp only[q,decide_false,aA,aU];have hb8:aM.at h8 b1 (s.next:Int) owner p2 bs.length c2 (cF:Int):=f8.get dw id;refine⟨_,_,_,af H8.dE rfl,aM.ld hb8 ?_⟩;refine cX ⟨af (H8.on (Fr.push (S:=λ_=>False) h8 _)).dE rfl,?_⟩;have f9:Fr No h8 (h8.push (.cells #[.I (s.next:Int),.I owner,.slice p2 bs.length c2,.U (cF:Int)] T.aM)):=Fr.push _ _;have r9:Row (h8.push (.cells #[.I (s.next:Int),.I owner,.slice p2 bs.length c2,.U (cF:Int)] T.aM)) (some (AA h8.size 0)) [.I (s.next:Int),.I owner,.slice p2 bs.length c2,.U (cF:Int)]:=rV;generalize h8.push (.cells #[.I (s.next:Int),.I owner,.slice p2 bs.length c2,.U (cF:Int)] T.aM)=h9 at f9 r9⊢;have H9:=H8.on f9;have hb9:aM.at h9 b1 (s.next:Int) owner p2 bs.length c2 (cF:Int):=f9.get hb8 id;refine fQ tI uI H9.own r9 rfl (λv hv=>by simp at hv;rcases hv with rfl|rfl|rfl|rfl<;>rfl) (by omega) (by omega) λp10 Ws vj WH _ f10 g10=>⟨_,_,_,rfl,?_⟩
   have z9:=f9.1;have z10:=f10.1;have lb:=aI H.dE;have Na:=f10.get H9.dE H.bl;refine bL Na (by simp) λyi a1 a2 a3=> ?_
   have f11:Fr (λy=>y=b) vj yi:=Fr.of_eq a2 a3;refine⟨_,af a1 rfl,bL a1 (by simp) λmE d1 d2 d3=> ?_⟩;have f12:Fr (λy=>y=b) yi mE:=Fr.of_eq d2 d3;have nlp: ∀y,h.size<=y->¬aQ lp y:=λy hy hx=>by have:=H.own.gm hx;omega
   have aj0:aM.at vj b1 (s.next:Int) owner p2 bs.length c2 (cF:Int):=f10.get hb9 (nlp b1 (by omega));have rR:aM.at mE b1 (s.next:Int) owner p2 bs.length c2 (cF:Int):=(d3 b1 (by omega)).trans ((a3 b1 (by omega)).trans aj0);have A12:cp.Al mE a S L:=((H9.al.frame f10 (λy hy hx=>H.ls y hx hy)).frame f11 (λy hy e=>H.bs (e▸hy))).frame f12 (λy hy e=>H.bs (e▸hy));refine⟨_,af d1 rfl,_,af rR rfl,?_⟩;rw[KB] at hrt;have acY:cp.may (s.next:Int) (cF:Int)=true:=cp.vU.2 ⟨by have:=ok.KD;omega,by omega,hrt.2.2.2.2⟩;refine cp.UE A12 (by omega) _ _ (by omega) (λ_ GP S13 A13 g13 f13=>⟨_,rfl,?_⟩) (λhf=>by rw[acY] at hf;cases hf);have nS: ∀y,h.size<=y->¬S y:=λy hy hs=>by have:=H.al.lt hs;omega
   refine⟨_,af (f13.get rR (nS b1 (by omega))) rfl,?_⟩;have F9:Fr No h h9:=F8.tt f9;have z12:vj.size<=mE.size:=by omega
   have Nj:Fr (aQ lp) h vj:=Fr.no F9 f10;have PF:Fr (λy=>aQ lp y\/y=b) h mE:=((Nj.mono (λ_ _ hx=> .inl hx)).tt (f11.mono (λ_ _ hx=> .inr hx))).tt (f12.mono (λ_ _ hx=> .inr hx));have F13:Fr X.M h GP:=((PF.mono (λy _ hx=>(H.m y).2 (hx.elim (λh=> .inr (.inl h)) .inl))).tt (f13.mono (λy _ hx=>(H.m y).2 (.inr (.inr hx)))));have p2y: ∀y,aQ p2 y->h.size<=y/\y<h2.size:=λy hy=>⟨g2 y hy,o2.gm hy⟩
   have aaG: ∀y,aQ p10 y->aQ lp y\/h2.size<=y:=λy hy=>(g10 y hy).imp id (λh1=>by omega)
   have amI: ∀y,aQ p10 y->y<mE.size:=λy hy=>by have:=WH.gm hy;omega
   have o13:iR GP p2 bs.length c2 1 (bc bs):=by
    have amJ:Fr X.M h2 GP:=by
     refine⟨by have:=F13.1;have:=f13.1;omega,λy hy hn=> ?_⟩;have e1:GP[y]? =mE[y]? :=f13.2 y (by omega) (λhx=>hn ((H.m y).2 (.inr (.inr hx))));have e2:mE[y]? =yi[y]? :=f12.2 y (by omega) (λe=>hn ((H.m y).2 (.inl e)));have e3:yi[y]? =vj[y]? :=f11.2 y (by omega) (λe=>hn ((H.m y).2 (.inl e)));have e4:vj[y]? =h9[y]? :=f10.2 y (by omega) (λe=>hn ((H.m y).2 (.inr (.inl e))));have e5:h9[y]? =h2[y]? :=(f7.tt (f8.tt f9)).2 y (by omega) id;rw[e1,e2,e3,e4,e5]
    exact o2.frame amJ (λy hy hm=>by have:=H.lt y (.inl hm);have:=p2y y hy;omega)
   have amK: ∀y,X.D y\/aQ p2 y->y<GP.size:=λy hy=>hy.elim (λh1=>cS (H.RX y h1) F13.1) (λh1=>by have:=p2y y h1;have:=f13.1;omega)
   have cat:xs.flatMap jJ++ [.I (s.next:Int),.I owner,.slice p2 bs.length c2,.U (cF:Int)]=(xs++ [(⟨s.next,owner,⟨p2,c2,bs⟩,cF⟩:IV)]).flatMap jJ:=by rw[dI];simp
   have ln:(xs++ [(⟨s.next,owner,⟨p2,c2,bs⟩,cF⟩:IV)]).length=xs.length+1:=by rw[aF];rfl
   have aj1: ∀y,aQ p10 y->y≠b:=λy hy e=>(aaG y hy).elim (λh1=>H.bl (e▸h1)) (λh1=>by omega)
   have aj2: ∀y,S13 y->X.M y\/mE.size<=y:=λy hy=>(g13 y hy).imp (λh1=>(H.m y).2 (.inr (.inr h1))) id
   refine hk GP ⟨λy=>y=b\/aQ p10 y\/S13 y,λy=>X.D y\/aQ p2 y⟩ ⟨_,⟨p10,Ws,xs++ [⟨s.next,owner,⟨p2,c2,bs⟩,cF⟩],a,S13,⟨?_,?_,A13,?_,?_,λ_=>fY,λhx=>aj1 b hx rfl,?_,?_,?_,amK⟩⟩,?_⟩ ⟨F13,?_,?_,λ_=> .inl⟩
   ·have k13:=f13.get d1 H.bs;rw[k13];dsimp only;rw[ln,bK (by omega) (by omega)];rfl
   ·rw[ln,<-cat];exact((WH.frame f11 aj1).frame f12 aj1).frame f13 (λy hy hs=>(aaG y hy).elim (λh1=>H.ls y h1 hs) (λh1=>nS y (by omega) hs))
   ·rw[bm,H.abs];rfl
   ·intro v hv;rcases bT.1 hv with hv|hv
    ·exact((H.PA v hv).frame F13 (λy hd hm=>H.GK y hm hd)).mono (λy=> .inl)
    ·obtain rfl:=bV.1 hv;exact BV.wL o13 (λy=> .inr)
   ·intro hs;exact(g13 b hs).elim H.bs (λh1=>by omega)
   ·intro y hy hs;rcases g13 y hs with h1|h1
    ·exact(aaG y hy).elim (λh2=>H.ls y h2 h1) (λh2=>nS y (by omega) h1)
    ·have:=amI y hy;omega
   ·rintro y hy (hd|hd)
    ·rcases hy with rfl|hy|hy
     ·exact H.GK _ ((H.m _).2 (.inl rfl)) hd
     ·exact(aaG y hy).elim (λh1=>H.GK _ ((H.m _).2 (.inr (.inl h1))) hd) (λh1=>by have:=H.RX y hd;omega)
     ·exact(aj2 y hy).elim (λh1=>H.GK _ h1 hd) (λh1=>by have:=H.RX y hd;omega)
    ·have JE:=p2y y hd;rcases hy with rfl|hy|hy
     ·omega
     ·exact(aaG y hy).elim (λh1=>nlp y JE.1 h1) (λh1=>by omega)
     ·exact(aj2 y hy).elim (λh1=>by have:=H.lt y (.inl h1);omega) (λh1=>by omega)
   ·have hnk:(s.next:Int)∉keys L:=by
     intro hm;obtain⟨e,he,ek⟩:=bn.1 hm;obtain⟨x,hx,rfl⟩:=bn.1 (ok.pm.mem_iff.1 he);have:=(ok.it x hx).2.1;have ek:(x.num:Int)=(s.next:Int):=ek;omega
    refine⟨?_,?_,?_,?_,?_⟩
    ·show(s.items++ [_]).length<=16;rw[aF,fj];omega
    ·unfold cp.Kw;rw[sf hnk];refine(vT _ _).trans ?_;show List.Perm (((s.next:Int),(cF:Int))::L) ((s.items++ [(⟨s.next,owner,bs,cF⟩:It)]).map It.kv);rw[bm];exact(List.Perm.cons _ ok.pm).trans (fx _ _).symm
    ·intro x hx;rcases bT.1 hx with hx|hx
     ·have:=ok.it x hx;exact⟨this.1,by show x.num<s.next+1;omega,this.2.2⟩
     ·obtain rfl:=bV.1 hx;exact⟨by show 1<=s.next;have:=ok.KD;omega,by show s.next<s.next+1;omega,hrt.2.2.1,hrt.2.2.2.1,hrt.1,hrt.2.1,by have:=hrt.2.2.2.2;show cF<=_;omega⟩
    ·show((s.items++ [_]).map It.num).Pairwise (· < ·);rw[bm,List.pairwise_append];refine⟨ok.inc,by simp,λy hy z hz=> ?_⟩;simp at hz;subst hz;obtain⟨x,hx,rfl⟩:=bn.1 hy;exact(ok.it x hx).2.1
    ·show s.next+1=1+(s.items++ [_]).length+s.taken+s.EE+s.over;rw[aF,fj];have:=ok.KD;omega
   ·rintro y (rfl|hy|hy)
    ·exact .inl ((H.m _).2 (.inl rfl))
    ·exact(aaG y hy).imp (λh1=>(H.m _).2 (.inr (.inl h1))) (λh1=>by omega)
    ·exact(aj2 y hy).imp id (λh1=>by omega)
   ·rintro y (hy|hy)
    ·exact .inl hy
    ·exact .inr (p2y y hy).1
def yw (s:BS) (num owner:Int):Int:=match IG s.items num with|none=>4|some i=>(match s.items[i]? with|some x=>if x.owner=owner then 0 else 13|none=>4)
def xp (s:BS) (num owner:Int):BS:=if yw s num owner=0 then { s with items:=CN s.items num,EE:=s.EE+1 } else s
theorem Mm.field {s':BS} {lp:bU} {lc a:Nat} {xs:List IV} {S:Nat->Prop} (H:Mm h b X s L lp lc xs a S) (hi:s'.items=s.items)
  (hb:h'[b]? =some (.cells #[.slice lp xs.length lc,.I (s'.next:Int),.I (s'.taken:Int),.I (s'.EE:Int),.I (s'.over:Int),.P a 0] T.w8 (0,0)))
  (f:Fr (λy=>y=b) h h'):Mm h' b X s' L lp lc xs a S/\bM X h X h':=by
 have hX: ∀y,X.D y->y≠b:=λy hd e=>H.GK b ((H.m b).2 (.inl rfl)) (e▸hd)
 refine⟨⟨hb,H.own.frame f (λy hy e=>H.bl (e▸hy)),H.al.frame f (λy hy e=>H.bs (e▸hy)),H.abs.trans hi.symm,λx hx=>(H.PA x hx).frame f (λy hd e=>hX y hd e),H.m,H.bl,H.bs,H.ls,H.GK,λy hy=>cS (H.RX y hy) f.1⟩,bM.E0 (f.mono (λy _ e=>(H.m y).2 (.inl e)))⟩
theorem WJ {lp:bU} {lc a:Nat} {xs:List IV} {S:Nat->Prop} (H:Mm h b X s L lp lc xs a S) {x:It} (hx:s.items[i]? =some x): ∃v,xs[i]? =some v/\v.abs=x:=by
 rw[<-H.abs,aO] at hx;cases hv:xs[i]? with
 |none=>rw[hv] at hx;cases hx
 |some v=>rw[hv] at hx;exact⟨v,rfl,bz hx⟩
theorem FJ {items:List It} {x:It} (hp:(items.map It.num).Pairwise (· < ·)) (hx:items[i]? =some x):(CN items (x.num:Int)).length+1=items.length:=by
 have hi:=(aG.1 hx).1;rw[<-CO hp hx];unfold Mj;rw[aF,bQ,cf];omega
theorem okB.del {x:It} {t c o:Nat} (ok:okB s L) (hx:s.items[i]? =some x) (hc:t+c+o=s.taken+s.EE+s.over+1):okB ⟨CN s.items (x.num:Int),s.next,t,c,o⟩ (iH L (x.num:Int)):=by
 refine ok.sub cU (KE ok.pm) ?_;have:=FJ ok.inc hx;have:=ok.KD;omega
theorem GQ {num owner:Int} (H:Nt h b X s) (hnx:s.next<=1000000000) (hk: ∀h' X',Nt h' b X' (xp s num owner)->bM X h X' h'->R (.I (yw s num owner)) h'):
  Cl F.mX #[.P b 0,.I num,.I owner] h R:=by
 obtain⟨L,⟨lp,lc,xs,a,S,H⟩,ok⟩:=H;obtain⟨hL,hxl⟩:=H.TO ok;have hlen:=H.len;have hle:=ok.le;refine mX.walk (ji H ⟨_,rfl,?_⟩);simp only[dW,aA,aU];refine oQ H (by omega) λh2 f2=>⟨_,rfl,?_⟩
 have H2:=H.on f2;unfold xp at hk;cases EF:IG s.items num with
 |none=>
  have e:yw s num owner=4:=by unfold yw;rw[EF]
  rw[e] at hk;have ev:CL s.items num= -1:=by unfold CL;rw[EF]
  rw[ev,jy];exact hk h2 X ⟨L,⟨lp,lc,xs,a,S,H2⟩,ok⟩ (bM.nI f2)
 |some i=>
  obtain⟨x,hx,IK⟩:=KF EF;have ev:CL s.items num=(i:Int):=by unfold CL;rw[EF]
  have hi:=(aG.1 hx).1;obtain⟨v,hv,hva⟩:=WJ H hx;have q: ¬(i:Int)<0:=by omega
  rw[ev];simp only[q,decide_false,aA,aU,aL];obtain⟨ab,AG,rfl⟩:=H2.own.addr (by omega);have hc:=(H2.own.lj mz hv).2.1;refine⟨_,_,_,af H2.dE rfl,⟨by omega,by omega⟩,aB.2 ⟨v.owner,hc,?_⟩⟩;have hvo:v.owner=x.owner:=by rw[<-hva];rfl
  by_cases ho:x.owner=owner
  ·have e:yw s num owner=0:=by unfold yw;rw[EF];dsimp only;rw[hx];dsimp only;rw[ag ho]
   rw[e] at hk;simp only[bA] at hk;rw[ai (by rw[hvo,ho];simp)];refine O7 H2 (by omega) hL hv λh3 X3 B3 s3 _=>⟨_,_,_,_,_,_,rfl,?_⟩
   obtain⟨lp3,lc3,xs3,a3,S3,H3⟩:=B3;refine⟨_,af H3.dE rfl,bL H3.dE (by simp) λh4 a1 a2 a3'=> ?_⟩;have f4:Fr (λy=>y=b) h3 h4:=Fr.of_eq a2 a3';have aqm:=ok.KD;have vn:(v.num:Int)=num:=by rw[<-IK,<-hva];rfl
   have ec:Mj s.items i=CN s.items num:=by rw[<-IK];exact CO ok.inc hx
   obtain⟨H4,s4⟩:=H3.field (s':=⟨CN s.items num,s.next,s.taken,s.EE+1,s.over⟩) (h':=h4) ec.symm (by
    rw[a1];dsimp only;rw[bK (by omega) (by omega)];rfl) f4
   rw[vn] at H4;refine hk h4 X3 ⟨iH L num,⟨lp3,lc3,xs3,a3,S3,H4⟩,?_⟩ ((bM.nI f2).trans (s3.trans s4));have:=ok.del (t:=s.taken) (c:=s.EE+1) (o:=s.over) hx (by omega);rwa[IK] at this
  ·have e:yw s num owner=13:=by unfold yw;rw[EF];dsimp only;rw[hx];dsimp only;rw[ai ho]
   rw[e] at hk;rw[ag (by rw[hvo];simpa using ho)];exact hk h2 X ⟨L,⟨_,lc,xs,a,S,H2⟩,ok⟩ (bM.nI f2)
theorem AN {k:Int} (now:Nat) (Mi:k=(now:Int)) (H:Nt h b X s) (hnx:s.next<=1000000000)
  (hk: ∀h' X' p' c' (ys:List IV) D,Nt h' b X' { s with items:=s.items.filter (λx=>decide ((now:Int)<(x.cF:Int))),over:=s.over+ys.length } ->bM X h X' h'->iR h' p' ys.length c' 4 (ys.flatMap jJ)->(∀y∈ys,y.v.ok h' X'.D)->(∀y,aQ p' y->h.size<=y/\¬(X'.M y\/X'.D y))->
   (ys.map IV.abs).map It.kv=D->pF D->D.Perm ((s.items.filter (λx=>decide ((x.cF:Int)<=(now:Int)))).map It.kv)->(∀y∈ys,y.abs∈s.items)->R (.slice p' ys.length c') h'):
  Cl F.oU #[.P b 0,.U k] h R:=by
 subst Mi;obtain⟨L,⟨lp,lc,xs,a,S,H⟩,ok⟩:=H;obtain⟨hL,hxl⟩:=H.TO ok;have hle:=ok.le;have aqm:=ok.KD;have so:=H.al.sorted;have nd:=H.al.nodup;refine oU.walk (ji H ⟨_,rfl,aK.of λJ hJ=> ?_⟩);simp only[bA];refine⟨_,af H.dE rfl,cp.Po H.al (by omega) _ λh3 p3 c3 A3 o3 g3 f3=>⟨_,_,_,rfl,?_⟩⟩;generalize hD:cp.due L (now:Int)=D at o3⊢;have hLD:L=D++cp.rest L (now:Int):=by rw[<-hD];exact(List.takeWhile_append_dropWhile).symm
 have M3:Mm h3 b X s (cp.rest L (now:Int)) lp lc xs a S:=by
  refine⟨f3.get H.dE H.bs,H.own.frame f3 (λy hy hs=>H.ls y hy hs),A3,H.abs,λx hx=>(H.PA x hx).frame f3 (λy hd hs=>H.GK y ((H.m y).2 (.inr (.inr hs))) hd),H.m,H.bl,H.bs,H.ls,H.GK,λy hy=>cS (H.RX y hy) f3.1⟩
 have s3:bM X h X h3:=bM.E0 (f3.mono (λy _ hs=>(H.m y).2 (.inr (.inr hs))));have Dl:D.length<=16:=by
  have h1:=bp List.length hLD;rw[aF] at h1;have:=ok.pm.length_eq;rw[aN] at this;omega
 have ndD:(keys D).Nodup:=by
  rw[hLD] at nd;unfold keys at nd⊢;rw[bm,gh] at nd;exact nd.1
 have dr: ∀e∈D,e.1∉keys (cp.rest L (now:Int)):=by
  intro e he hm;rw[hLD] at nd;unfold keys at nd hm;rw[bm,gh] at nd;exact nd.2.2 e.1 (bB he) e.1 hm rfl
 have amL:(cp.rest L (now:Int)).length<1000:=by
  have h1:=bp List.length hLD;rw[aF] at h1;omega
 refine⟨λop ol oc t g=> ∃(k:Nat) (X':Ft) (ys:List IV),t=(k:Int)/\k<=D.length/\ol=ys.length/\ys.length=k/\Bx g b X' { s with items:=yN s.items (keys (D.take k)),over:=s.over+k } (cp.rest L (now:Int))/\bM X h X' g/\Fr (λy=>h.size<=y\/X.M y) h3 g/\iR g op ol oc 4 (ys.flatMap jJ)/\(∀y∈ys,y.v.ok g X'.D)/\
   (∀y,aQ op y->h.size<=y/\¬(X'.M y\/X'.D y)/\¬aQ p3 y)/\(∀y,aQ p3 y->¬(X'.M y\/X'.D y))/\Row g p3 (cp.kc D)/\(ys.map IV.abs).map It.kv=D.take k/\(∀y∈ys,y.abs∈s.items),λ_ _ _ t _=>D.length - t.toNat,
   ⟨0,X, [],rfl,by omega,rfl,rfl,?_,s3,Fr.refl _ _,.nil rfl rfl rfl rfl,(λy hy=>by cases hy),(λy ⟨a,e,_⟩=>by cases e),(λy hy hx=>by have:=g3 y hy;have:=H.lt y hx;omega),o3.pZ,rfl,λy hy=>by cases hy⟩,?_⟩
 ·have:({ s with items:=yN s.items (keys (D.take 0)),over:=s.over+0 } :BS)=s:=by
   show(⟨yN s.items [],_,_,_,_⟩:BS)=s;rw[acH];rfl
  rw[this];exact⟨lp,lc,xs,a,S,M3⟩
 clear M3 A3;rintro op ol oc _ g ⟨k,X',ys,rfl,hkD,rfl,hys,B,st,fg,o,hd,QJ,h3p,r3,hkv,qY⟩;by_cases jc:k<D.length
 ·have q:(k:Int)<(D.length:Int):=by omega
  simp only[q,decide_true,bA];have hDk:D[k]? =some D[k]:=au jc;generalize D[k]=e at hDk;have heD:=bt hDk;have ak:(cp.kc D)[k]? =some (.I e.1):=by
   unfold cp.kc keys;rw[aO,aO,hDk];rfl
  obtain⟨pa,rfl⟩:=r3.some (λe0=>by rw[e0] at ak;cases ak);have cell:=r3.cell ak;refine⟨⟨by first|trivial|omega,by first|trivial|omega⟩,aB.2 ⟨e.1,by rw[aL,cN];exact cell,?_⟩⟩;obtain⟨lp',lc',xs',a',S',M⟩:=B;have CP:({ s with items:=yN s.items (keys (D.take k)),over:=s.over+k } :BS).items=yN s.items (keys (D.take k)):=rfl;have rl:(yN s.items (keys (D.take k))).length<=16:=dv (cI _ _) hle;refine oQ M (by rw[CP];omega) λh5 f5=>⟨_,rfl,?_⟩
  rw[CP];have M5:=M.on f5;have heL:e∈L:=by rw[hLD];exact fJ _ heD
  obtain⟨x,hx,hxe⟩:=bn.1 (ok.pm.mem_iff.1 heL);have hxn:(x.num:Int)=e.1:=by rw[<-hxe];rfl
  have hnk:e.1∉keys (D.take k):=by
   intro hm;obtain⟨e',I6,ek⟩:=bn.1 hm;obtain⟨j,hj⟩:=bG I6;rw[dq] at hj;split at hj
   ·rename_i hjk;have h1:(keys D)[j]? =some e.1:=by unfold keys;rw[aO,hj,<-ek];rfl
    have h2:(keys D)[k]? =some e.1:=by unfold keys;rw[aO,hDk];rfl
    have:=(fU (by unfold keys;rw[aN];omega) ndD).1 (h1.trans h2.symm);omega
   ·cases hj
  have hxr:x∈yN s.items (keys (D.take k)):=aY.2 ⟨hx,ay (by rw[hxn];exact hnk)⟩;cases EF:IG (yN s.items (keys (D.take k))) e.1 with
  |none=>exact absurd hxn (acG EF x hxr)
  |some i=>
   obtain⟨x',hx',hn'⟩:=KF EF;have aqn:x'∈s.items:=(aY.1 (bt hx')).1;obtain rfl:x'=x:=uniq ok.inc aqn hx (by omega);have ev:CL (yN s.items (keys (D.take k))) e.1=(i:Int):=by unfold CL;rw[EF]
   rw[ev];obtain⟨v,hv,hva⟩:=WJ M5 hx';refine O7 M5 (by rw[CP];omega) amL hv λh6 X6 B6 s6 v6=>⟨_,_,_,_,_,_,rfl,?_⟩
   have vn:(v.num:Int)=e.1:=by rw[<-hxn,<-hva];rfl
   rw[vn,sf (dr e heD)] at B6;have aqo:((yN s.items (keys (D.take k))).map It.num).Pairwise (· < ·):=ok.inc.sublist (cU.map _);have htk:keys (D.take (k+1))=keys (D.take k)++ [e.1]:=by unfold keys;rw[bY,hDk,bm];rfl
   have eit:Mj (yN s.items (keys (D.take k))) i=yN s.items (keys (D.take (k+1))):=by
    rw[CO aqo hx',hxn,acI,htk]
   have o5:=o.frame f5 (λ_ _=>id);have op6: ∀y,aQ op y->¬(X6.M y\/X6.D y):=λy hy=>λhx=>s6.apart (Q:=aQ op) (λz hz hq=>(QJ z hq).2.1 hz) (λz hq=>o5.gm hq) y hx hy
   have o6:=o5.frame s6.fr (λy hy hm=>(QJ y hy).2.1 (.inl hm));refine qa tI uI o6 rfl (λw hw=>by simp at hw;rcases hw with rfl|rfl|rfl|rfl<;>rfl) (by omega) (by omega) λp8 c8 h8 o8 f8 g8=>⟨_,_,_,rfl,?_⟩
   have B8:Bx h8 b X6 _ _:=B6.frame f8 (λy hy hq=>op6 y hq hy);obtain⟨lp8,lc8,xs8,a8,S8,M8⟩:=B8;refine⟨_,af M8.dE rfl,bL M8.dE (by simp) λh9 a1 a2 a3=> ?_⟩;have f9:Fr (λy=>y=b) h8 h9:=Fr.of_eq a2 a3;obtain⟨M9,s9⟩:=M8.field (s':=⟨yN s.items (keys (D.take (k+1))),s.next,s.taken,s.EE,s.over+(k+1)⟩) (h':=h9) eit.symm (by
    rw[a1];dsimp only;rw[bK (by omega) (by omega)];rfl) f9
   have b6:X6.M b:=(M8.m b).2 (.inl rfl);have op8: ∀y,aQ p8 y->h.size<=y/\¬(X6.M y\/X6.D y)/\¬aQ (some pa) y:=by
    intro y hy;rcases g8 y hy with h1|h1
    ·exact⟨(QJ y h1).1,op6 y h1,(QJ y h1).2.2⟩
    ·have z6:=s6.fr.1;have z5:=f5.1;have zg:=st.fr.1;refine⟨by omega,λhx=>by have:=B6.lt y hx;omega,λhx=> ?_⟩;have:=qN r3 (by intro e0;rw[e0] at ak;cases ak) hx;omega
   have sg6:bM X' g X6 h6:=(bM.nI f5).trans s6;have amM: ∀y,aQ (some pa) y->¬(X6.M y\/X6.D y):=λy hy hx=>sg6.apart (Q:=aQ (some pa)) (λz hz hq=>h3p z hq hz) (λz hq=>qN r3 (by intro e0;rw[e0] at ak;cases ak) hq) y hx hy
   have TP:bM X h X6 h6:=st.trans sg6;have amN: ∀y,y<h.size->¬X.M y->h9[y]? =h6[y]? :=by
    intro y hy hm;have zz:=TP.fr.1;have zz8:=f8.1;rw[f9.2 y (by omega) (λe0=>(TP.re b b6).elim (λh1=>hm (e0▸h1)) (λh1=>by omega)),f8.2 y (by omega) (λhq=>by have:=(QJ y hq).1;omega)]
   have st9:bM X h X6 h9:=by
    refine⟨⟨by have:=TP.fr.1;have:=f8.1;omega,λy hy hn=> ?_⟩,TP.re,TP.wK,TP.Iw⟩;rw[amN y hy hn];exact TP.fr.2 y hy hn
   have zb8: ∀y,aQ p8 y->y≠b:=λy hy e0=>(op8 y hy).2.1 (.inl (e0▸b6))
   have cat:ys.flatMap jJ++([.I (v.num:Int),.I v.owner,.slice v.v.p v.v.b.length v.v.c,.U (v.cF:Int)]:List Value)=(ys++ [v]).flatMap jJ:=by rw[dI];simp
   have ln:(ys++ [v]).length=ys.length+1:=by rw[aF];rfl
   rw[bK (by omega) (by omega)];refine⟨⟨k+1,X6,ys++ [v],by omega,by omega,ln.symm,by rw[ln,hys],⟨lp8,lc8,xs8,a8,S8,M9⟩,st9,?_,?_,?_,op8,amM,?_,?_,?_⟩,?_⟩
   ·refine⟨by have:=fg.1;have:=sg6.fr.1;have:=f8.1;omega,λy hy hn=> ?_⟩;have aj3:y<h.size:=Nat.lt_of_not_le (λhx=>hn (.inl hx));have hnm: ¬X.M y:=λhx=>hn (.inr hx)
    rw[amN y aj3 hnm,TP.fr.2 y aj3 hnm,s3.fr.2 y aj3 hnm]
   ·rw[<-cat];exact o8.frame f9 zb8
   ·intro w hw;have key: ∀u:IV,u.v.ok h6 X6.D->u.v.ok h9 X6.D:=λu hu=>(hu.frame f8 (λy hy hq=>op6 y hq (.inr hy))).frame f9 (λy hy e0=>M8.GK b b6 (e0▸hy))
    rcases bT.1 hw with hw|hw
    ·exact key w (((hd w hw).frame sg6.fr (λy hy hm=>M.GK y hm hy)).mono (λy hy=>sg6.Iw y hy))
    ·obtain rfl:=bV.1 hw;exact key w v6
   ·refine((r3.frame sg6.fr (λa' ea hm=>h3p _ ⟨a',ea,rfl⟩ (.inl hm))).frame f8 (λa' ea hq=>(QJ _ hq).2.2 ⟨a',ea,rfl⟩)).frame f9 (λa' ea e0=>amM _ ⟨a',ea,rfl⟩ (.inl (by have e0:a'.block=b:=e0;rw[e0];exact b6)))
   ·rw[bm,bm,hkv,bY,hDk];simp[hva,hxe]
   ·intro w hw;rcases bT.1 hw with hw|hw
    ·exact qY w hw
    ·obtain rfl:=bV.1 hw;rw[hva];exact hx
   ·show D.length - Int.toNat ((k:Int)+1)<D.length - Int.toNat (k:Int);omega
 ·have q: ¬(k:Int)<(D.length:Int):=by omega
  simp only[q,decide_false,aA,aU];obtain rfl:k=D.length:=by omega
  subst hJ;rw[iF] at B hkv;have e1:yN s.items (keys D)=s.items.filter (λx=>decide ((now:Int)<(x.cF:Int))):=by rw[<-hD];exact acJ ok so nd
  rw[e1] at B;have arI:D.length+(s.items.filter (λx=>decide ((now:Int)<(x.cF:Int)))).length=s.items.length:=by
   have h1:=bp List.length hLD;rw[aF,(Nk (now:=(now:Int)) ok so).length_eq,aN,ok.pm.length_eq,aN] at h1;omega
  refine hk g X' op oc ys D ⟨_,by rw[hys];exact B,?_⟩ st o hd (λy hy=>⟨(QJ y hy).1,(QJ y hy).2.1⟩) hkv ?_ ?_ qY
  ·exact ok.sub cU (Nk ok so) (by omega)
  ·rw[<-hD,(jj so).1];exact iK _ so
  ·rw[<-hD];exact acK ok so
end lH
end
section
namespace qI
variable {h h':aj} {R:iI}
theorem byte_at {s:ByteArray} {pos:Nat} (hp:pos<s.size):s.data.toList[pos]? =some (s.data.toList.getD pos 0):=by
 have:pos<s.data.toList.length:=hp;rw[ba,au this];rfl
theorem amO {more b:UInt8} (hm:more.toNat<128) (h:pl more b=true):b<128:=by
 show b.toNat<128;by_cases hb:b.toNat<128
 ·exact hb
 ·have h1:=aca (more:=(more.toNat:Int)) (c:=(b.toNat:Int)) (by omega) (by omega);rw[acb,h] at h1;cases h1
theorem acZ {more:UInt8} {s:ByteArray} {pos:Nat} (hm:more.toNat<128) (hp:pos<s.size) (h:np (more.toNat:Int) ((Utf8.decode s pos).1:Int)=false):
  pl more (s.data.toList.getD pos 0)=true/\(Utf8.decode s pos).2=1:=by
 obtain⟨h1,h2⟩:=decode_at s pos hp;by_cases hb:s.data.toList.getD pos 0<128
 ·rw[h1 hb] at h⊢;rw[acb] at h;exact⟨by simpa using h,rfl⟩
 ·have:=aca (more:=(more.toNat:Int)) (c:=((Utf8.decode s pos).1:Int)) (by omega) (by have:=h2 hb;omega);rw[this] at h;cases h
theorem afY {more:UInt8} {s:ByteArray} {pos:Nat} (hm:more.toNat<128) (hp:pos<s.size) (h:np (more.toNat:Int) ((Utf8.decode s pos).1:Int)=true):xc more s=false:=by
 cases hb:xc more s with
 |false=>rfl
 |true=>
  have JE:=List.all_eq_true.1 hb _ (bt (byte_at hp));obtain⟨h1,_⟩:=decode_at s pos hp;rw[h1 (amO hm JE),acb,JE] at h;cases h
theorem KR {more:UInt8} {s:ByteArray} {it:Nat} {ty:TypeId} {h0 h1:aj} (hm:more.toNat<128) (hit:h1[it]? =some (.stringIter s 0)) (hge:h0.size<=it) (f1:Fr No h0 h1) (hk: ∀h',Fr No h0 h'->R (.bool (xc more s)) h'):
  ∃(I:aj->Prop) (mu:aj->Nat),I h1/\∀g,I g->aX Tryz.prog (Instr.next (.P it 0) true ty) g λv g1=>
   (v=.tuple #[.bool false]/\R (.bool true) g1)\/∃(a b:Value),v=.tuple #[.bool true,a,b]/\∃(c:Int),b=.int .i32 c/\if np (more.toNat:Int) c=true then R (.bool false) g1 else(I g1/\mu g1<mu g):=by
 refine⟨λg=> ∃pos,g[it]? =some (.stringIter s pos)/\Fr No h0 g/\pos<=s.size/\(s.data.toList.take pos).all (pl more)=true,λg=>(match g[it]? with|some (.stringIter _ p)=>s.size - p|_=>0),⟨0,hit,f1,cj _,by simp⟩,?_⟩;rintro g ⟨pos,hg,fg,hle,kz⟩;refine aak hg (λaqp=> .inl ⟨rfl,?_⟩) (λjc g1 hg1 EY ho1=> .inr ⟨_,_,rfl,_,rfl,?_⟩)
 ·have:xc more s=true:=by
   unfold xc;rw[bR (by show s.data.toList.length<=pos;exact aqp)] at kz;exact kz
  rw[<-this];exact hk g fg
 ·have fg1:Fr No h0 g1:=fg.fresh (S:=λc=>c=it) ⟨by omega,λc _ hn=>ho1 c hn⟩ (λc e=>by omega);cases hn:np (more.toNat:Int) ((Utf8.decode s pos).1:Int) with
  |true=>
   rw[ag rfl,<-afY hm jc hn];exact hk g1 fg1
  |false=>
   rw[ai (by simp)];obtain⟨h1,h2⟩:=acZ hm jc hn;rw[h2] at hg1;refine⟨⟨pos+1,hg1,fg1,jc,?_⟩,?_⟩
   ·rw[bY,byte_at jc,List.all_append,kz];show(true && (pl more (s.data.toList.getD pos 0) && true))=true;rw[h1];rfl
   ·simp only[hg,hg1];omega
theorem UP {s:ByteArray} (hk: ∀h',Fr No h h'->R (.bool (xc 45 s)) h'):Cl F.pn #[.string s,.int .i32 45] h R:=by
 refine pn.host.walk (JU (by kernel_rfl) λr h1 hr hit f1=>⟨_,rfl,?_⟩);obtain⟨I,mu,h2,h3⟩:=KR (more:=45) (ty:=T.JZ) (by decide) hit (by omega) f1 hk;refine⟨I,mu,h2,λg hg=>sr _ _ (λv g1 hv=> ?_) (h3 g hg)⟩;rcases hv with hv|⟨a,b,e,c,e2,hv⟩
 ·exact .inl hv
 ·refine .inr ⟨a,b,e,c,e2,aK.of λJ hJ=> ?_⟩;have key:J (np 45 c) g1:=by subst hJ;exact hv
  clear hJ hv;unfold np at key;revert key;generalize decide (c<97)=b1;generalize decide (c>122)=b2;generalize decide (c<48)=b3;generalize decide (c>57)=b4;generalize (c !=45)=b5;intro key;cases b1<;>cases b2<;>cases b3<;>cases b4<;>cases b5<;>exact key
theorem R7 {s:ByteArray} (hk: ∀h',Fr No h h'->R (.bool (xc 47 s)) h'):Cl F.pn #[.string s,.int .i32 47] h R:=by
 refine pn.amk.walk (JU (by kernel_rfl) λr h1 hr hit f1=>⟨_,rfl,?_⟩);obtain⟨I,mu,h2,h3⟩:=KR (more:=47) (ty:=T.JZ) (by decide) hit (by omega) f1 hk;refine⟨I,mu,h2,λg hg=>sr _ _ (λv g1 hv=> ?_) (h3 g hg)⟩;rcases hv with hv|⟨a,b,e,c,e2,hv⟩
 ·exact .inl hv
 ·refine .inr ⟨a,b,e,c,e2,aK.of λJ hJ=> ?_⟩;have key:J (np 47 c) g1:=by subst hJ;exact hv
  clear hJ hv;unfold np at key;revert key;generalize decide (c<97)=b1;generalize decide (c>122)=b2;generalize decide (c<48)=b3;generalize decide (c>57)=b4;generalize (c !=45)=b5;generalize (c !=47)=b6;intro key;cases b1<;>cases b2<;>cases b3<;>cases b4<;>cases b5<;>cases b6<;>exact key
abbrev Ev.at (h:aj) (b:Nat) (x:Ev):Prop:=az.at h b x.vD x.node x.l6 x.host x.sM
theorem ic (x:Ev) (hk: ∀h',Fr No h h'->R (.bool (dj x)) h'):Cl F.kC #[.agg #[.bool x.vD,.U x.node,.U x.l6,.string x.host,.string x.sM]] h R:=by
 refine kC.walk (az.box λb h1 eb hb f1=>az.ld hb ⟨_,ID (y:=.zero) (x:=x) rfl rfl,?_⟩);have K:=hk h1 f1;unfold dj at K;by_cases h0:x=.zero
 ·rw[ag (ay h0)];rw[ag h0] at K;exact K
 ·rw[ai (by simpa using h0)];rw[ai h0] at K;refine⟨_,af hb rfl,?_⟩;by_cases hi:x.vD=true
  ·rw[ag hi];rw[ag hi] at K;refine az.ld hb ⟨_,af hb rfl,_,af hb rfl,_,ID (y:=⟨true,x.node,x.l6,⟨#[]⟩,⟨#[]⟩⟩) (x:=x) rfl rfl,?_⟩;by_cases he:x=⟨true,x.node,x.l6,⟨#[]⟩,⟨#[]⟩⟩
   ·have e1:x.host=⟨#[]⟩:=bp Ev.host he;have e2:x.sM=⟨#[]⟩:=bp Ev.sM he;rw[ag (ay he)];refine⟨_,af hb rfl,?_⟩;by_cases q1:x.node≥1
    ·rw[ag (ay q1)];refine⟨_,af hb rfl,?_⟩;by_cases q2:x.node<=4294967295
     ·rw[ag (ay q2)];refine⟨_,af hb rfl,?_⟩;have q1':1<=x.node:=q1;simp only[e1,e2,q1',q2,true_and] at K;exact K
     ·rw[ai (by simpa using q2)];simp only[q2,false_and,and_false,decide_false] at K;exact K
    ·rw[ai (by simpa using q1)];have q1': ¬1<=x.node:=q1;simp only[q1',false_and,and_false,decide_false] at K;exact K
   ·rw[ai (by simpa using he)];have: ¬(x.host=⟨#[]⟩/\x.sM=⟨#[]⟩/\1<=x.node/\x.node<=4294967295/\x.l6<=4294967295):=λ⟨a,b,_⟩=>he (Ev.ext' hi rfl rfl a b)
    rw[decide_eq_false this] at K;exact K
  ·have hi':x.vD=false:=by simpa using hi
   rw[ai hi];rw[ai hi] at K;refine az.ld hb ⟨_,af hb rfl,_,af hb rfl,_,ID (y:=⟨false,0,0,x.host,x.sM⟩) (x:=x) rfl rfl,?_⟩;by_cases he:x=⟨false,0,0,x.host,x.sM⟩
   ·have e1:x.node=0:=bp Ev.node he;have e2:x.l6=0:=bp Ev.l6 he;rw[ag (ay he)];refine⟨_,af hb rfl,?_⟩;simp only[e1,e2,true_and] at K;by_cases q1:1<=x.host.size
    ·rw[jy];refine⟨_,af hb rfl,?_⟩;by_cases q2:x.host.size<=16
     ·rw[jy];refine⟨_,af hb rfl,?_⟩;by_cases q3:x.sM.size<=24
      ·rw[jy];simp only[q1,q2,q3,and_self,decide_true,fu] at K;refine⟨_,af hb rfl,UP λh2 f2=>⟨_,rfl,?_⟩⟩;have fI:=f2.get hb id;by_cases q4:xc 45 x.host=true
       ·rw[ag q4];refine⟨_,af fI rfl,R7 λh3 f3=>⟨_,rfl,?_⟩⟩;have:=hk h3 (f1.tt (f2.tt f3));unfold dj at this;rw[ai h0,ai hi,q4] at this;simp only[e1,e2,q1,q2,q3,and_self,decide_true,fu] at this;exact this
       ·rw[ai q4];have:=hk h2 (f1.tt f2);unfold dj at this;have q4:xc 45 x.host=false:=by simpa using q4
        rw[ai h0,ai hi,q4] at this;simp only[gK,Bool.and_false] at this;exact this
      ·rw[ai (by simp;omega)];simp only[q3,and_false,decide_false,gK] at K;exact K
     ·rw[ai (by simp;omega)];simp only[q2,false_and,and_false,decide_false,gK] at K;exact K
    ·rw[ai (by simp;omega)];simp only[q1,false_and,and_false,decide_false,gK] at K;exact K
   ·rw[ai (by simpa using he)];have: ¬(x.node=0/\x.l6=0/\1<=x.host.size/\x.host.size<=16/\x.sM.size<=24):=λ⟨a,b,_⟩=>he (Ev.ext' hi' a b rfl rfl)
    rw[decide_eq_false this,gK] at K;exact K
end qI
end
section
variable {h:aj} {R:iI}
theorem Cn.walk (hv:aV h (.map #[] 0) λb aR=>aV aR (.cells #[.map (some b)] T.Ex) λcD aZ=>R (.P cD 0) aZ):Cl F.Cn #[] h R:=aS (lq ll) Tryz.func36 hv
theorem jN.walk {t:Nat} (hv: ∃t9,ak h (AA t 0)=some (.map t9)/\R (.bool (!t9.isNone)) h):Cl F.jN #[.P t 0] h R:=aS (lq ll) Tryz.func130 hv
theorem pq.walk {n:Int} (hv:if(decide (n≥0)) then R (.bool (decide (n<=2))) h else R (.bool false) h):Cl F.pq #[.I n] h R:=aS (lq ll) Tryz.func149 hv
theorem wV.walk {r_0:Bool} {r_1:Int} {r_2:Int} {r_3:ByteArray} {r_4:ByteArray} {r_5:Int} {r_6:Int} (hv:aV h (.cells #[.bool r_0,.U r_1,.U r_2,.string r_3,.string r_4,.I r_5,.I r_6] T.bH) λb aR=>az.LD aR (AA b 0) λO4 O5 Un Uo Uq=>Cl F.kC #[.agg #[.bool O4,.U O5,.U Un,.string Uo,.string Uq]] aR λv aZ=> ∃t5,v=.bool t5/\if t5 then az.LD aZ (AA b 0) λMn GR Mo ac0 ac1=> ∃(eq:Bool),Ho Tryz.prog T.az (.agg #[.bool Mn,.U GR,.U Mo,.string ac0,.string ac1]) (.agg #[.bool false,.U 0,.U 0,.string j9,.string j9]) eq/\if(!eq) then Hi aZ b 5 λt14=>Cl F.pq #[.I t14] aZ λeJ bJ=> ∃t15,eJ=.bool t15/\if t15 then∃t19,ak bJ (AA b 6)=some (.I t19)/\if(decide (t19≥1)) then∃t24,ak bJ (AA b 6)=some (.I t24)/\R (.bool (decide (t24<=1099511627776))) bJ else R (.bool false) bJ else R (.bool false) bJ else R (.bool false) aZ else R (.bool false) aZ):Cl F.wV #[.agg #[.bool r_0,.U r_1,.U r_2,.string r_3,.string r_4,.I r_5,.I r_6]] h R:=aS (lq ll) Tryz.func147 hv
theorem qc.walk {t:Nat} {r_0:Bool} {r_1:Int} {r_2:Int} {r_3:ByteArray} {r_4:ByteArray} {r_5:Int} {r_6:Int} (hv:aV h (.cells #[.bool r_0,.U r_1,.U r_2,.string r_3,.string r_4,.I r_5,.I r_6] T.bH) λb aR=>Cl F.jN #[.P t 0] aR λv aZ=> ∃t8,v=.bool t8/\if(!t8) then R (.I 6) aZ else∃t14,ak aZ (AA t 0)=some (.map t14)/\az.LD aZ (AA b 0) λvL rO Nu HX Nv=> ∃WK WL WM WN WO WQ WR xq,mC Tryz.prog T.gZ (.map t14) (.agg #[.bool vL,.U rO,.U Nu,.string HX,.string Nv]) true aZ (.tuple #[.agg #[.bool WK,.U WL,.U WM,.string WN,.string WO,.I WQ,.I WR],.bool xq])/\aV aZ (.cells #[.bool false,.U 0,.U 0,.string j9,.string j9,.I 0,.I 0] T.bH) λcD bJ=>sO (.map t14) aZ bJ/\fE (AA b 0) [.bool vL,.U rO,.U Nu,.string HX,.string Nv] 0 bJ/\ak bJ (AA t 0)=some (.map t14)/\bH.ST bJ (AA cD 0) WK WL WM WN WO WQ WR λcB=>bH.LD cB (AA b 0) λuh ui FK R8 R9 Sa ac2=>Cl F.wV #[.agg #[.bool uh,.U ui,.U FK,.string R8,.string R9,.I Sa,.I ac2]] cB λeJ cJ=> ∃t22,eJ=.bool t22/\if(!t22) then R (.I 1) cJ else if xq then R (.I 11) cJ else∃t30,ak cJ (AA t 0)=some (.map t30)/\∃t31:Int,afd Tryz.prog #[T.gZ] T.int (.map t30) cJ (.I t31)/\if(decide (t31≥8)) then R (.I 15) cJ else∃t36,ak cJ (AA t 0)=some (.map t36)/\az.LD cJ (AA b 0) λHW xj amP Nc amQ=>bH.LD cJ (AA b 0) λacz FA amR acA amS amT amU=>aX Tryz.prog (Instr.mapUpdate T.gZ (.map t36) (.agg #[.bool HW,.U xj,.U amP,.string Nc,.string amQ]) (.agg #[.bool acz,.U FA,.U amR,.string acA,.string amS,.I amT,.I amU])) cJ λ_ cQ=>R (.I 0) cQ):Cl F.qc #[.P t 0,.agg #[.bool r_0,.U r_1,.U r_2,.string r_3,.string r_4,.I r_5,.I r_6]] h R:=aS (lq (sq (lq (cq ll lf)) (sq (pN 13) (sq (bq (lq (cq ll (lq (cq ll (lq (cq ll lf))))))) (sq (pN 8) ll))))) Tryz.func97 hv
theorem nU.walk {t:Nat} {dO:Bool} {dP:Int} {dQ:Int} {dR:ByteArray} {dS:ByteArray} {owner:Int} (hv:aV h (.cells #[.bool dO,.U dP,.U dQ,.string dR,.string dS] T.az) λb aR=>aV aR (.cells #[.bool false,.U 0,.U 0,.string j9,.string j9,.I 0,.I 0] T.bH) λcD aZ=>Cl F.jN #[.P t 0] aZ λv bJ=> ∃t11,v=.bool t11/\if(!t11) then bH.ST bJ (AA cD 0) false 0 0 j9 j9 0 0 λcB=>bH.LD cB (AA cD 0) λoP ia oS pG yQ KS UQ=>R (.tuple #[.agg #[.bool oP,.U ia,.U oS,.string pG,.string yQ,.I KS,.I UQ],.I 6]) cB else∃t18,ak bJ (AA t 0)=some (.map t18)/\az.LD bJ (AA b 0) λzF vI aif RT aih=> ∃WS WT WU WV WW WX WY uj,mC Tryz.prog T.gZ (.map t18) (.agg #[.bool zF,.U vI,.U aif,.string RT,.string aih]) true bJ (.tuple #[.agg #[.bool WS,.U WT,.U WU,.string WV,.string WW,.I WX,.I WY],.bool uj])/\aV bJ (.cells #[.bool false,.U 0,.U 0,.string j9,.string j9,.I 0,.I 0] T.bH) λeY cJ=>sO (.map t18) bJ cJ/\fE (AA b 0) [.bool zF,.U vI,.U aif,.string RT,.string aih] 0 cJ/\ak cJ (AA t 0)=some (.map t18)/\bH.ST cJ (AA eY 0) WS WT WU WV WW WX WY λcQ=>if(!uj) then bH.ST cQ (AA cD 0) false 0 0 j9 j9 0 0 λcW=>bH.LD cW (AA cD 0) λnF nG uB xr xt AO KT=>R (.tuple #[.agg #[.bool nF,.U nG,.U uB,.string xr,.string xt,.I AO,.I KT],.I 4]) cW else∃t29,ak cQ (AA eY 6)=some (.I t29)/\if(t29 !=owner) then bH.ST cQ (AA cD 0) false 0 0 j9 j9 0 0 λdA=>bH.LD dA (AA cD 0) λAP AQ KU UR US UU aj4=>R (.tuple #[.agg #[.bool AP,.U AQ,.U KU,.string UR,.string US,.I UU,.I aj4],.I 13]) dA else bH.LD cQ (AA eY 0) λNw FL ac3 ac4 ac5 amV amW=>bH.ST cQ (AA cD 0) Nw FL ac3 ac4 ac5 amV amW λfc=>bH.LD fc (AA cD 0) λKV KW KX UW UX UY aj5=>R (.tuple #[.agg #[.bool KV,.U KW,.U KX,.string UW,.string UX,.I UY,.I aj5],.I 0]) fc):Cl F.nU #[.P t 0,.agg #[.bool dO,.U dP,.U dQ,.string dR,.string dS],.I owner] h R:=aS (lq (sq (lq (cq ll lf)) (sq (pN 12) (sq (bq (lq (cq ll (lq (cq ll lf))))) ll)))) Tryz.func148 hv
theorem mU.walk {t:Nat} {dO:Bool} {dP:Int} {dQ:Int} {dR:ByteArray} {dS:ByteArray} {owner:Int} (hv:aV h (.cells #[.bool dO,.U dP,.U dQ,.string dR,.string dS] T.az) λb aR=>az.LD aR (AA b 0) λpQ tC Wn amX amY=>Cl F.nU #[.P t 0,.agg #[.bool pQ,.U tC,.U Wn,.string amX,.string amY],.I owner] aR λv aZ=> ∃WZ W0 W1 W2 W3 W4 W5 vN,v=.tuple #[.agg #[.bool WZ,.U W0,.U W1,.string W2,.string W3,.I W4,.I W5],.I vN]/\aV aZ (.cells #[.bool false,.U 0,.U 0,.string j9,.string j9,.I 0,.I 0] T.bH) λcD bJ=>bH.ST bJ (AA cD 0) WZ W0 W1 W2 W3 W4 W5 λcB=>aK (λ(cJ:aj)=>R (.I vN) cJ) (λJ=>if(vN==0) then∃t21,ak cB (AA t 0)=some (.map t21)/\az.LD cB (AA b 0) λzL vk W6 Wx amZ=>aX Tryz.prog (Builtin.delete_ #[T.gZ,T.az] T.JZ #[.map t21,.agg #[.bool zL,.U vk,.U W6,.string Wx,.string amZ]]) cB λeJ cQ=>eJ=.tuple #[]/\J cQ else J cB)):Cl F.mU #[.P t 0,.agg #[.bool dO,.U dP,.U dQ,.string dR,.string dS],.I owner] h R:=aS (lq (lq (sq (lq (.join [] (cq (pN 6) lf))) ll))) Tryz.func98 hv
theorem mW.walk {t:Nat} {dO:Bool} {dP:Int} {dQ:Int} {dR:ByteArray} {dS:ByteArray} {owner:Int} {UZ:Int} (hv:aV h (.cells #[.bool dO,.U dP,.U dQ,.string dR,.string dS] T.az) λb aR=>aK (λ(t17:Bool) (aZ:aj)=>if t17 then R (.I 1) aZ else az.LD aZ (AA b 0) λrT uj W7 am0 am1=>Cl F.nU #[.P t 0,.agg #[.bool rT,.U uj,.U W7,.string am0,.string am1],.I owner] aZ λv bJ=> ∃W8 W9 Xa Xb Xc Xd Xe vk,v=.tuple #[.agg #[.bool W8,.U W9,.U Xa,.string Xb,.string Xc,.I Xd,.I Xe],.I vk]/\aV bJ (.cells #[.bool false,.U 0,.U 0,.string j9,.string j9,.I 0,.I 0] T.bH) λcD cB=>bH.ST cB (AA cD 0) W8 W9 Xa Xb Xc Xd Xe λcJ=>aK (λ(cQ:aj)=>R (.I vk) cQ) (λjo=>if(vk==0) then aH cJ (AA cD 5) (.I UZ) λcW=> ∃t32,ak cW (AA t 0)=some (.map t32)/\az.LD cW (AA b 0) λNw FL ac3 ac4 ac5=>bH.LD cW (AA cD 0) λKq Kr am2 am3 am4 am5 am6=>aX Tryz.prog (Instr.mapUpdate T.gZ (.map t32) (.agg #[.bool Nw,.U FL,.U ac3,.string ac4,.string ac5]) (.agg #[.bool Kq,.U Kr,.U am2,.string am3,.string am4,.I am5,.I am6])) cW λ_ dA=>jo dA else jo cJ)) (λJ=>Cl F.jN #[.P t 0] aR λeJ fc=> ∃t12,eJ=.bool t12/\if t12 then Cl F.pq #[.I UZ] fc λgR cP=> ∃t15,gR=.bool t15/\J (!t15) cP else J false fc)):Cl F.mW #[.P t 0,.agg #[.bool dO,.U dP,.U dQ,.string dR,.string dS],.I owner,.I UZ] h R:=aS (lq (sq (sq (.join [(17,.one (.bool))] lf) (cq ll lf)) (lq (sq (lq (.join [] (cq (lq (pN 7)) lf))) ll)))) Tryz.func100 hv
theorem mM.walk {t:Nat} {dO:Bool} {dP:Int} {dQ:Int} {dR:ByteArray} {dS:ByteArray} (hv:aV h (.cells #[.bool dO,.U dP,.U dQ,.string dR,.string dS] T.az) λb aR=>aV aR (.cells #[.bool false,.U 0,.U 0,.string j9,.string j9,.I 0,.I 0] T.bH) λcD aZ=>Cl F.jN #[.P t 0] aZ λv bJ=> ∃t9,v=.bool t9/\if(!t9) then bH.ST bJ (AA cD 0) false 0 0 j9 j9 0 0 λcB=>bH.LD cB (AA cD 0) λoP ia oS pG yQ KS UQ=>R (.tuple #[.agg #[.bool oP,.U ia,.U oS,.string pG,.string yQ,.I KS,.I UQ],.bool false]) cB else∃t16,ak bJ (AA t 0)=some (.map t16)/\az.LD bJ (AA b 0) λyx xq Sb aii aij=> ∃Xf Xh Xi Xj Xk Xl Xm vi,mC Tryz.prog T.gZ (.map t16) (.agg #[.bool yx,.U xq,.U Sb,.string aii,.string aij]) true bJ (.tuple #[.agg #[.bool Xf,.U Xh,.U Xi,.string Xj,.string Xk,.I Xl,.I Xm],.bool vi])/\aV bJ (.cells #[.bool false,.U 0,.U 0,.string j9,.string j9,.I 0,.I 0] T.bH) λeY cJ=>sO (.map t16) bJ cJ/\fE (AA b 0) [.bool yx,.U xq,.U Sb,.string aii,.string aij] 0 cJ/\ak cJ (AA t 0)=some (.map t16)/\bH.ST cJ (AA eY 0) Xf Xh Xi Xj Xk Xl Xm λcQ=>bH.LD cQ (AA eY 0) λuh ui FK R8 R9 Sa ac2=>bH.ST cQ (AA cD 0) uh ui FK R8 R9 Sa ac2 λcW=>bH.LD cW (AA cD 0) λnF nG uB xr xt AO KT=>R (.tuple #[.agg #[.bool nF,.U nG,.U uB,.string xr,.string xt,.I AO,.I KT],.bool vi]) cW):Cl F.mM #[.P t 0,.agg #[.bool dO,.U dP,.U dQ,.string dR,.string dS]] h R:=aS (lq (sq (lq (cq ll lf)) (sq (pN 12) ll))) Tryz.func155 hv
end
end Go.Proofs.YtlenamcfacpheaaGreatDoor
