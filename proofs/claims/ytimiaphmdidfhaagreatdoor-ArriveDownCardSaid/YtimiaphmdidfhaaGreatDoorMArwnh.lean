/-
  FU is proved here: parts of x7 proof, one behind x7 other (texts of this work, merged by a program; IA x7 theorem IB not use is left out). No condition.
-/
import Derived.Handed
import Derived.Shelf.Vars
import Derived.Lib.LaidU8
import Derived.Lib.LaidTab
import Derived.Test.YtimiaphmdidfhaaGreatDoorMArwng
set_option maxRecDepth 100000
set_option maxHeartbeats 4000000
namespace Go.Proofs.YtimiaphmdidfhaaGreatDoor
open Go.Den
open IntKind (wrap)
open Int (toNat)
section
namespace Ask
open jA (Ev dc)
open dM (SS Good Pt pG Mk)
open Bn (iX)
variable {V:cM→Bool} {h H f d g:aj} {R:fD} {s k bo r c:Nat} {X b:Ft} {I:pG} {a:SS} {p:ck} {ses:Int} {x:Rq} {D:Nat→Prop} {o:Ot}
theorem gR.no(F:Fr No h d)(O:gR X d bo r o b H):gR X h bo r o b H:=by
 have z:=F.1;refine⟨Fr.no F O.fr,λc i=>(O.iz c i).imp _root_.id (λA=>ae),λc i=>(O.jx c i).imp _root_.id (λA=>ae),O.mQ,?_⟩;obtain⟨y,t,q⟩:=O.at';refine⟨y,t,λm=> ?_⟩;obtain⟨p,c,e,u,n⟩:=q m;exact⟨p,c,e,u,λj z l=>⟨(n j z l).1.imp (λA=>ae) _root_.id,(n j z l).2⟩⟩
theorem gR.num{st1:bA X h b d}(n c:Int)(F:Fr (λy=>y=bo) d H)(i:ar.fR H bo ⟨r,0,n,c,0,none,0,0⟩){a:SS}{e:Int}:gR X h bo r ⟨a,e,n,c, []⟩ b H:=
 gR.of st1 F ⟨_,i,λ_=>⟨none,0,rfl,Row.nil,λe=>absurd rfl e⟩⟩
theorem qA(S:bA X h b d)(n: ¬(X.M bo\/X.D bo))(z:bo<h.size): ∀y,b.M y\/b.D y->y≠bo:=λy i e=>by
 subst e;rcases i with A|A
 .rcases S.iz _ A with A|A
  .exact n (.inl A)
  .omega
 .rcases S.jx _ A with A|A
  .exact n (.inr A)
  .omega
theorem Ij(e:jS x=true):lW x=true:=by unfold jS at e;simp only[aU]at e;exact e.1.2
theorem UA(E:En V f h s X I a k)(h':k+1<=30000)(hr:jS x=true)(w1:0<=x.ep.gy)(w2:0<=x.dest.gy)(rx:Row h p (bc x.mz))(cap:x.mz.length<=c)(u:ar.fR h bo (y0 r))(A: ¬(X.M bo\/X.D bo))(j: ∀H b,Pt H s b I (K2 V a ses x).σ->gR X h bo r (K2 V a ses x) b H->R (.I (K2 V a ses x).e) H):
  Cl 90 #[(x.as p c s ses).agg,.P bo 0] h R:=by
 refine FE.walk (cz.da (x:=x.as p c s ses) λc' d eb l F=>⟨_,ak l,?_⟩);have n:=E.on F;have z: ¬X.M bo:=λe=>A (.inl e)
 have zo:=aC u;have z1:=F.1;have C: ¬X.M c':=E.nM ae;have P:=F.get u id;have sm:=E.G.small E.H.ord (bR E.hk);have cL:=E.G.c.L;have ek:=E.hk;have pr:=Ij hr;unfold K2 at j;unfold lW at pr;by_cases U:x.kind=1
 .rw[ag U]at j;rw[ag (bq.2 U)];obtain⟨Z,v,M,L,go⟩:=n.H.use 1;refine⟨_,ak l,ax.2 ⟨_,ak n.H.cW,iX x.ep l rfl rfl rfl rfl rfl ⟨_,ak l,_,ak l,gD.BH v ⟨x.ep,x.kH,ses⟩ E.G.g.len λm T J=> ?_⟩⟩⟩;obtain⟨t,q,S,_,_⟩:=go m Z { a with G:=gD.CN a.G ⟨x.ep,x.kH,ses⟩ } T J (λi w=>dM.JR _ w);exact⟨_,rfl,FG S.fr C bV,j m t q (gR.bad u z (bA.no F S))⟩
 rw[af U]at j;rw[af (λe=>U (bq.1 e))];by_cases k2:x.kind=2
 .rw[ag k2]at j;rw[ag (bq.2 k2)];obtain⟨Z,v,M,L,go⟩:=n.H.use 1;refine⟨_,ak l,ax.2 ⟨_,ak n.H.cW,iX x.ep l rfl rfl rfl rfl rfl ⟨_,ak l,gD.pE v x.ep ses λh3 T3 s3=> ?_⟩⟩⟩;obtain⟨X3,y,b',_,_⟩:=go h3 Z { a with G:=gD.BM a.G x.ep ses } T3 s3 (λi w=>dM.JR _ w);have f':=bA.no F b';refine⟨_,rfl,FG b'.fr C bV,aH.of λj' hJ=> ?_⟩;by_cases B:gD.jZ a.G x.ep ses=0
  case neg=>
   rw[af B]at j;rw[af (cI B)];subst hJ;have eG:gD.BM a.G x.ep ses=a.G:=by unfold gD.BM;rw[af B]
   rw[eG]at y;exact j h3 X3 y (gR.bad u z f')
  rw[ag B]at j;rw[ag (by rw[B];rfl)];have Q:=b'.fr.get l C;obtain⟨Z,v,M,L,go⟩:=y.use 2;have i': ¬X3.M c':=λhm=>by
   rcases b'.iz c' hm with d'|d'
   .exact C d'
   .have:=aC l;omega
  refine⟨_,ak Q,ax.2 ⟨_,ak y.cW,iX x.ep Q rfl rfl rfl rfl rfl (gm.qp v sm (by show a.C.gone<=_;omega) x.ep λh5 Z5 p5 c5 C5 s5 N5 n5=> ?_)⟩⟩;obtain⟨X5,H5,e',_,_⟩:=go h5 Z5 { a with G:=gD.BM a.G x.ep ses,C:=gm.yE a.C x.ep } C5 s5 (λi w=>dM.xO (σ:= { a with G:=gD.BM a.G x.ep ses }) _ w);have st:=f'.trans e';refine⟨_,_,_,rfl,FG e'.fr i' bV,iP (z:=⟨r,0,0,((gm.mA a.C.L x.ep).length:Int),0,none,0,0⟩) (st.fr.get u z) dN rfl λh6 d6 f6=> ?_⟩;subst hJ;rw[B];exact j h6 X5 (H5.frame f6 (λg' hy e=>qA st A zo g' hy e)) (gR.num (st1:=st) 0 _ f6 d6)
 rw[af k2]at j;rw[af (λe=>k2 (bq.1 e))];by_cases k3:x.kind=3
 .rw[ag k3]at j;rw[ag (bq.2 k3)];obtain⟨Z,v,M,L,go⟩:=n.H.use 1;refine⟨_,ak l,ax.2 ⟨_,ak n.H.cW,iX x.ep l rfl rfl rfl rfl rfl ⟨_,ak l,_,ak l,gD.MG v x.ep ses x.kH λm T J=> ?_⟩⟩⟩;obtain⟨t,q,S,_,_⟩:=go m Z { a with G:=gD.HL a.G x.ep ses x.kH } T J (λi w=>dM.JR _ w);exact⟨_,rfl,FG S.fr C bV,j m t q (gR.bad u z (bA.no F S))⟩
 rw[af k3]at j;rw[af (λe=>k3 (bq.1 e))];by_cases K:x.kind=4
 .rw[ag K]at j;rw[ag (bq.2 K)];rw[dB,dB,ag K]at pr;simp only[aU,aX]at pr;exact cz.fN (x:=x.as p c s ses) l (Ry n (rx.frame F bX) cap ae w1 w2 P A λm t q O=>⟨_,rfl,j m t q (gR.no F O)⟩)
 rw[af K]at j;rw[af (λe=>K (bq.1 e))];by_cases k5:x.kind=5
 .rw[ag k5]at j;rw[ag (bq.2 k5)];exact⟨_,ak l,_,ak l,_,ak l,dM.xG n.H E.G E.hk λm t q S=>⟨_,rfl,j m t q (gR.bad u z (bA.no F S))⟩⟩
 rw[af k5]at j;rw[af (λe=>k5 (bq.1 e))];by_cases k6:x.kind=6
 .rw[ag k6]at j;rw[ag (bq.2 k6)];obtain⟨Z,v,M,L,go⟩:=n.H.use 2;refine⟨_,ak l,ax.2 ⟨_,ak n.H.cW,iX x.ep l rfl rfl rfl rfl rfl (gm.PN v sm x.ep λm f2=>⟨_,rfl,f2.kp,?_⟩)⟩⟩;have F2:=F.tt f2;refine iP (z:=⟨r,0,(gm.JX a.C.L x.ep:Int),0,0,none,0,0⟩) (F2.get u id) dN rfl λh3 d3 f3=> ?_
  have Q:=f3.get (f2.get l id) (λe=>bR (aC u));have y:=(E.H.on F2).frame f3 (λg' hy e=>A (e▸hy));refine cz.fN (x:=x.as p c s ses) Q (FH y λh4 f4=>⟨_,rfl,?_⟩);exact j h4 X (y.on f4) (gR.num (st1:=bA.hH F2) _ 0 (f3.on f4) (f4.get d3 id))
 rw[af k6]at j;rw[af (λe=>k6 (bq.1 e))];by_cases G:x.kind=7
 .rw[ag G]at j;rw[ag (bq.2 G)];rw[dB,dB,af K,dB,ag G]at pr;simp only[aU,aX]at pr;exact cz.fN (x:=x.as p c s ses) l (RO n ae P A λm t q O=>⟨_,rfl,j m t q (gR.no F O)⟩)
 rw[af G]at j;rw[af (λe=>G (bq.1 e))];by_cases k8:x.kind=8
 .rw[ag k8]at j;rw[ag (bq.2 k8)];exact cz.fN (x:=x.as p c s ses) l (JP n h' P A λm t q O=>⟨_,rfl,j m t q (gR.no F O)⟩)
 rw[af k8]at j;rw[af (λe=>k8 (bq.1 e))];by_cases k9:x.kind=9
 .rw[ag k9]at j;rw[ag (bq.2 k9)];obtain⟨Z,v,M,L,go⟩:=n.H.use 2;refine⟨_,ak l,ax.2 ⟨_,ak n.H.cW,_,ak l,_,ak l,gm.JQ v sm x.num ses λm Z2 T J=> ?_⟩⟩;obtain⟨t,q,S,_,_⟩:=go m Z2 { a with C:=gm.Fs a.C x.num ses } T J (λi w=>dM.xO _ w);exact⟨_,rfl,FG S.fr C bV,j m t q (gR.bad u z (bA.no F S))⟩
 rw[af k9]at j;rw[af (λe=>k9 (bq.1 e))];by_cases a':x.kind=10
 .rw[ag a']at j;rw[ag (bq.2 a')];exact cz.fN (x:=x.as p c s ses) l (BF n P A λm t q O=>⟨_,rfl,j m t q (gR.no F O)⟩)
 rw[af a']at j;rw[af (λe=>a' (bq.1 e))];exact j d X n.H (gR.bad u z (bA.hH F))
theorem RQ{A:List fw.fw}(O:fw.mH A){m:Int}{j:Nat}{B:cM}(h:fw.DT A m j=some B):B.length<=1000:=by
 unfold fw.DT at h;split at h
 .cases h
 .rename_i z q;obtain⟨i,_,n⟩:=fw.DR q;unfold fw.KU at h;obtain⟨e,l,rfl⟩:=Option.map_eq_some_iff.1 h;exact((O.at_ i z n).kd e (List.mem_of_find?_eq_some l)).2
abbrev rS(y:Go.fV.RD)(p:ck)(c:Nat):ar.S:=⟨(y.id:Int),y.err,y.num,y.count,(y.token:Int),p,y.b.length,c⟩
theorem yI{B:Nat}{y z:ar.S}{K:ar.S->aj->Prop}(i:ar.fR h B y)(j: ∀H,Fr (λy=>y=B) h H->K z H):
  ar.dw h (AA B 0) z λg=>ar.cN g (AA B 0) λl=>K l g:=
 ar.hU (x:=z) i λg e F _=>ar.fN e (j g F)
theorem UB(E:En V f h s X I a k)(G':k+1<=30000)(w1:0<=x.ep.gy)(w2:0<=x.dest.gy)(rx:Row h p (bc x.mz))(cap:x.mz.length<=c)(t: ∀H b q j,Pt H s b I (CS V a ses x).1->bA X h b H->Row H q (bc (CS V a ses x).2.b)->((CS V a ses x).2.b≠ []->∀y,aN q y->¬b.M y)->R (zP.val (CS V a ses x).2 q j) H):
  Cl 54 #[pt s,.I ses,(x.s p c).agg] h R:=by
 refine To.walk (aI.da (x:=x.s p c) λc' d eb hb f1=>ar.da (x:=.z) λl h2 Z' T f2=>aH.of λv' hJ=> ?_);have F2:=f1.tt f2;have E2:=E.on F2;have d':=f2.get hb _root_.id;have z1:=f1.1;have z2:=f2.1;have B:=E2.H.cW;have fl: ∀(g:aj)(e:Int),Fr No h2 g->CS V a ses x=(a,lR x.id e)->Cl 26 #[.U (x.id:Int),.I e] g λV' B'=>ar.EX λu'=>V'=u'.agg/\ar.dw B' (AA l 0) u' λp'=>ar.cN p' (AA l 0) λr0=>R (r0.agg) p':=by
  intro g e v hq;rw[hq]at t;refine zP.mV x.id rfl e λH F=>ar.ex (rS (lR x.id e) none 0) ⟨rfl,yI ((v.tt F).get T _root_.id) λy' x'=> ?_⟩
  have FF:=(F2.tt (v.tt F)).fresh x' (λy e=>ae);exact t y' X none 0 (E.H.on FF) (bA.hH FF) Row.nil (λe=>absurd rfl e)
 have w': ∀(e:Int),¬(jS x=true/\x.kind<11)->CS V a ses x=(a,lR x.id 3):=λe hn=>by unfold CS;rw[af hn]
 have key:v' false h2:=by
  subst hJ;dsimp only;rw[dB];refine aH.of λJ1 k'=>aI.fN (x:=x.s p c) d' (fK x (rx.frame F2 (λ_ _=>_root_.id)) λh3 w=>⟨_,rfl,?_⟩)
  have a':=w.get d' _root_.id;have a4:J1 true h3->True:=λ_=>trivial
  have bad: ¬(jS x=true/\x.kind<11)->J1 true h3:=by
   intro hn;subst k';try dsimp only
   rw[ag rfl];exact⟨_,ak a',fl h3 3 w (w' 0 hn)⟩
  cases hr:jS x with
  |false=>rw[gk];exact bad (λe=>by rw[hr]at e;cases e.1)
  |true=>
  rw[dB];refine⟨_,ak a',?_⟩;by_cases g':x.kind<11
  case neg=>
   have:decide ((x.s p c).f1≥11)=true:=aw (by show x.kind≥11;omega);rw[this];exact bad (λe=>g' e.2)
  have:decide ((x.s p c).f1≥11)=false:=aB (by show¬x.kind≥11;omega);rw[this];subst k';dsimp only;rw[dB];have E3:=E2.on w;obtain⟨Z,u,_⟩:=E3.H.use 0;unfold CS at t fl;rw[ag ⟨hr,g'⟩]at t;simp only[ag (show jS x=true/\x.kind<11 from⟨hr,g'⟩)]at fl;refine⟨_,ak E3.H.cW,fw.HC u E.G.a ⟨_,rfl,?_⟩⟩;cases hu:fw.Pr a.A ses with
  |false=>
   rw[gk];exact⟨_,ak a',fl h3 16 w (by rw[hu];rfl)⟩
  |true=>
  rw[hu,ag rfl]at t;rw[dB];refine⟨_,ak E3.H.cW,_,ak a',fw.Rt x.id rfl u E.G.a (λkb e' h4 p4 c4 o4 J n4=>⟨_,_,_,_,rfl,?_⟩) (λe' h4 J=>⟨_,_,_,_,rfl,?_⟩)⟩
  .rw[e']at t;rw[ag rfl];dsimp only at t;have F4:=F2.tt (w.tt J);have z3:=w.1;have z4:=J.1;have fin: ∀(g:aj)(y:Go.fV.RD)(q:ck)(j:Nat),(Go.fV.LB kb).getD Go.fV.RD.zero=y->Row g q (bc y.b)->(∀z,aN q z->h4.size<=z)->Fr No h4 g->
     bh g (.C ar.S.z.arr 47) λi' A'=>
     ar.dw A' (AA i' 0) (rS y q j) λl'=>
     ar.cN l' (AA i' 0) λS'=>
     ar.dw l' (AA l 0) S' λm'=>
     ar.cN m' (AA l 0) λL'=>
     R (L'.agg) m':=by
    intro g y q j i P L v;refine ar.fY (x:=rS y q j) λb2 g2 a0 d' n=>ar.fN (x:=rS y q j) d' (yI ((w.tt (J.tt (v.tt n))).get T _root_.id) λg3 f6=> ?_)
    have FF:=(F4.tt (v.tt n)).fresh f6 (λy e=>ae);have rr:=((P.frame n (λ_ _=>_root_.id)).frame f6 (λA ea K=>by have:=L A.block ⟨A,ea,rfl⟩;have K:A.block=l:=K;have:=aC T;omega));rw[i]at t;exact t g3 X q j (E.H.on FF) (bA.hH FF) rr (λ_ z u m=>gG (L z u) (E.H.lt z (.inl m)))
   refine zP.vT o4.iy rfl (bR (RQ E.G.a e')) (λy i Q q j o5 n n5=>ar.ex (rS y q j) ⟨_,rfl,?_⟩) (λi Q n=>ar.ex (rS .zero none 0) ⟨_,rfl,?_⟩)
   .exact fin Q y q j (by rw[i];rfl) o5.iy n5 n
   .exact fin Q .zero none 0 (by rw[i];rfl) Row.nil (λz u=>by obtain⟨A,e,_⟩:=u;cases e) n
  .rw[e']at t;rw[dB];dsimp only at t;have F4:=F2.tt (w.tt J);have z3:=w.1;have z4:=J.1;have b':=J.get a' _root_.id;refine⟨_,ak b',ar.fY (x:=y0 x.id) λC Q a2 q' n=>aI.fN (x:=x.s p c) (n.get b' _root_.id) ?_⟩;have F5:=F4.tt n;have E5:=E.on F5;have z5:=n.1;have nX: ∀y,h.size<=y->¬(X.M y\/X.D y):=λy i m=>by have:=E.H.lt y m;omega
   refine UA (p:=p) (c:=c) (ses:=ses) E5 G' hr w1 w2 (rx.frame F5 (λ_ _=>_root_.id)) cap q' (nX C ae) λh6 M H6 O=>⟨_,rfl,aH.of λJ2 z'=> ?_⟩
   have sG:=Good.K2 (V:=V) (ses:=ses) (q:=x) E.G E.H.ord E.hk w1;generalize K2 V a ses x=o at t H6 O sG;have r':aI.fR h6 c' (x.s p c):=O.fr.get (n.get b' _root_.id) (λm=>by
    rcases m with A|A
    .exact nX c' ae (.inl A)
    .have:=aC b';omega)
   have D':ar.fR h6 l .z:=O.fr.get ((w.tt (J.tt n)).get T _root_.id) (λm=>by
    rcases m with A|A
    .exact nX l ae (.inl A)
    .have:=aC T;omega)
   have zo:=aC q';have st:bA X h M h6:=⟨(Fr.no F5 O.fr).trans (Fr.refl (λ_=>False) _) (λc hc m=>by
    rcases m with A|A
    .exact A
    .omega) (λ_ _=>False.elim),λc hc=>(O.iz c hc).imp _root_.id (λA=>ae),λc hc=>(O.jx c hc).imp _root_.id (λA=>ae),O.mQ⟩
   have a6:=aC b';have a5:=aC T;have f': ∀y,h.size<=y->y<Q.size->¬(M.M y\/M.D y):=λy i hl m=>by
    rcases m with A|A
    .rcases O.iz y A with A|A
     .exact nX y i (.inl A)
     .omega
    .rcases O.jx y A with A|A
     .exact nX y i (.inr A)
     .omega
   have fin: ∀(g:aj)(q:ck)(j:Nat),ar.fR g C (rS (pM x.id o) q j)->Fr (λy=>y=C) h6 g->Row g q (bc (pM x.id o).b)->((pM x.id o).b≠ []->∀z,aN q z->(Q.size<=z\/X.D z)/\¬M.M z)->J2 g:=by
    intro g q j hg v P L;subst z';have Hg:=H6.frame v (λy i e=>f' C ae zo (e▸i));have zg:=v.1;have z6:=O.fr.1;have J':c'≠C:=ae
    have K':l≠C:=ae
    obtain⟨Z,u,zm,zd,go⟩:=Hg.use 0;have wr: ∀(G:aj)(pw:ck)(cw:Nat),Row G pw (bc (Si (pM x.id o)))->(∀y,aN pw y->g.size<=y)->Fr No g G->∀(e:Int),
      ∃s',aY G (AA s 0)=some (.pointer s')/\
      ∃t',aY G (AA c' 0)=some (.U t')/\
      Cl 92 #[.pointer s',.I ses,.U t',.slice pw (Si (pM x.id o)).length cw] G λX' n'=>
      ∃T',X'=.I T'/\
      ar.cN n' (AA C 0) λU'=>
      ar.dw n' (AA l 0) U' λo'=>
      ar.cN o' (AA l 0) λM'=>
      R (M'.agg) o':=by
     intro G pw cw O' nw F _;have h':=Hg.on F;obtain⟨Z,u,zm,zd,go⟩:=h'.use 0;have C':=F.get (v.get r' J') _root_.id;refine⟨_,ak h'.cW,_,ak C',fw.Rs x.id rfl u sG.a O' rfl (λ_ y i m=>gG (nw y i) (Hg.lt y (.inl (zm y m)))) λh7 Z7 T7 s7=>⟨_,rfl,?_⟩⟩;obtain⟨X7,H7,S,_,_⟩:=go h7 Z7 { o.σ with A:=fw.BD o.σ.A ses x.id (Si (pM x.id o)) } T7 s7 (λa3 hi=>dM.ss _ hi);have n3: ¬M.M C:=λA=>f' C ae zo (.inl A)
     have n1: ¬M.M l:=λA=>f' l ae ae (.inl A)
     have F':=S.fr.get (F.get hg _root_.id) n3;have E':=S.fr.get (F.get (v.get D' K') _root_.id) n1;refine ar.fN (x:=rS (pM x.id o) q j) F' (yI E' λh8 f8=> ?_);have z7:=S.fr.1;have zf:=F.1;have P':bA X h M G:=(bA.box st v ae).on F;have Q':=P'.trans S;have R':=bA.box Q' f8 ae;have I': ∀y,X7.M y\/X7.D y->y≠l:=λy i e=>by
      rcases i with A|A
      .rcases S.iz y A with A|A
       .exact n1 (e▸A)
       .omega
      .rcases S.jx y A with A|A
       .exact f' l ae ae (.inr (e▸A))
       .omega
     refine t h8 X7 q j (H7.frame f8 (λy i e=>I' y i e)) R' ?_ (λU z u m=> ?_)
     .by_cases U:(pM x.id o).b= []
      .rw[U];exact Row.nil
      .refine(((P.frame F (λ_ _=>_root_.id)).frame S.fr (λA ea K=>(L U A.block ⟨A,ea,rfl⟩).2 K)).frame f8 (λA ea K=> ?_));have K:A.block=l:=K;rcases(L U A.block ⟨A,ea,rfl⟩).1 with a1|a1
       .omega
       .exact nX l ae (.inr (K▸a1))
     .rcases S.iz z m with A|A
      .exact(L U z u).2 A
      .have:=iZ P (by simpa[bc]using U) u;omega
    refine ar.fN (x:=rS (pM x.id o) q j) hg (zP.Qg (pM x.id o) P (λhR G pw cw ow F nw=>⟨_,_,_,_,rfl,?_⟩) (λhR G F=>⟨_,_,_,_,rfl,?_⟩))
    .have:=wr G pw cw (by rw[show Si (pM x.id o)=(pM x.id o).enc from ag hR];exact ow.iy) nw F 0;rw[show Si (pM x.id o)=(pM x.id o).enc from ag hR]at this;exact this
    .have:=wr G none 0 (by rw[show Si (pM x.id o)= []from af hR];exact Row.nil) (λy i=>by obtain⟨A,e,_⟩:=i;cases e) F 0;rw[show Si (pM x.id o)= []from af hR]at this;exact this
   obtain⟨y,i,H'⟩:=O.at';by_cases he:o.e=0
   .rw[af (cI he)];obtain⟨q,j,rfl,P,L⟩:=H' he;have eo:pM x.id o=⟨x.id,0,o.num,o.yA,0,o.d⟩:=ag he;rw[eo]at fin;exact fin h6 q j i (Fr.refl _ _) P L
   .rw[ag (cI he)];have eo:pM x.id o=⟨x.id,o.e,0,0,0, []⟩:=af he;rw[eo]at fin;refine⟨_,ak r',zP.mV x.id rfl o.e λg j'=>ar.ex (rS ⟨x.id,o.e,0,0,0, []⟩ none 0) ⟨rfl,ar.hU (x:=rS ⟨x.id,o.e,0,0,0, []⟩ none 0) (j'.get i _root_.id) λg2 d2 f2 _=>fin g2 none 0 d2 (Fr.no j' f2) Row.nil (λe=>absurd rfl e)⟩⟩
 refine⟨_,ak B,?_⟩;rw[af bV];refine⟨_,ak B,?_⟩;rw[af bV];refine⟨_,ak B,?_⟩;rw[af bV];refine⟨_,ak B,?_⟩;rw[af bV];refine⟨_,ak B,?_⟩;rw[af bV];exact⟨_,ak B,key⟩

end Ask
end
section
variable {h:aj} {R:fD}
variable {s o:Nat} {c:cF.S} {x:aR.S}
theorem sC.walk(H: ∃e,Cc h s 0 (.pointer e)/\if(!e.isNone)then∃t,Cc h s 1 (.pointer t)/\if(!t.isNone)then∃T,Cc h s 2 (.pointer T)/\if(!T.isNone)then∃a,Cc h s 3 (.pointer a)/\if(!a.isNone)then∃b,Cc h s 4 (.pointer b)/\if(!b.isNone)then∃d,Cc h s 5 (.pointer d)/\R (.B (!d.isNone)) h else R (.B false) h else R (.B false) h else R (.B false) h else R (.B false) h else R (.B false) h):Cl 23 #[.P s 0] h R:=aP (lq ll) Tryz.func23 H
theorem sC.nil.walk(H:R (.B false) h):Cl 23 #[.pointer none] h R:=aP (lq ll) Tryz.func23 H
theorem vd.walk{O:Int}(e:bh h (.C c.arr 188) λb H=>Hp H b 21 λi=>aM i λa=>zM H a λj=>Hl H b 22 λg f T=>Cl 214 #[.pointer j,.I O,.L g f T] H λv d=> ∃t,v=.I t/\Kp H d [(Sa b 21)]/\if(t !=0)then R (.I 0) d else R (.I 1) d):Cl 150 #[c.agg,.I O] h R:=aP (lq (sq (sq (pK 10) (cq ll lf)) ll)) Tryz.func150 e
theorem ve.walk(hv:bh h (.C c.arr 188) λb e=>aH (λ(r:ck) (is:Bool) (i:aj)=>if(!is)then R (.I 4) i else av.cN i (AA b 0) λu'=>Cl 149 #[u'.agg] i λO' p'=>aO.EX λZ=> ∃a',O'=.T #[Z.agg,.I a']/\aO.NW p' λl' q'=>aO.dw q' (AA l' 0) Z λa=>if(a'==0)then cF.cN a (AA b 0) λv'=>aM r λf'=>kR a (f'.add 6) λw'=>Cl 150 #[v'.agg,.I w'] a λP' r'=> ∃b',P'=.I b'/\aT r' (AA o 3) (.I b') λs'=>R (.I 0) s' else av.cN a (AA b 0) λx'=>Hp a b 21 λy'=>aM y' λg'=>gK a (g'.add 6) λz'=>Hp a b 21 λA'=>aM A' λh'=>gK a (h'.add 6) λB'=>Cl 151 #[x'.agg,.U z',.U B'] a λQ' d=> ∃t T,Q'=.T #[.U t,.I T]/\Kp a d [(Sa b 21),(Sa b 21)]/\aH (λ(C':Bool) (H:aj)=>if C' then R (.I 19) H else if(T !=0)then R (.I T) H else if(t==0)then R (.I 18) H else Hp H b 21 λG'=>aM G' λi'=>zM H (i'.add 2) λH'=>az.cN H (AA b 2) λI'=>Hl H b 22 λL' K' J'=>Hp H b 21 λM'=>aM M' λA=>gK H (A.add 6) λe'=>Cl 152 #[.pointer H',I'.agg,.L L' K' J',.U (if 1099511627776<wrap .u64 (e'+t)then 1099511627776 else wrap .u64 (e'+t))] H λR' n=> ∃v w,R'=.T #[.I v,.I w]/\Kp H n [(some (A.add 6)),(Sa b 21),(Sa b 21)]/\aT n (AA o 2) (.I v) λm'=>R (.I w) m') (λj=>aM r λk=> ∃c',aY d (k.add 5)=some (.I c')/\if(c'==2)then Hp d b 21 λD'=>aM D' λj'=>zM d j' λE'=>aM r λk'=>kR d (k'.add 6) λF'=>Cl 87 #[.pointer E',.I F'] d λS' p=> ∃d',S'=.B d'/\Kp d p [(Sa b 21),(some (k.add 5))]/\j (!d') p else j false d)) (λJ=>Hp e b 21 λt'=>aM t' λl=>zM e (l.add 1) λy=>az.cN e (AA b 2) λz=>(Cl 148 #[.pointer y,z.agg] e λT' f=> ∃C E G K M P S V,T'=.T #[.agg #[.B C,.U E,.U G,.S K,.S M,.I P,.I S],.B V]/\Kp e f [(Sa b 21)]/\bh f (.C #[.B false,.U 0,.U 0,.S gg,.S gg,.I 0,.I 0] 146) λB q=>Kp f q [(Sa b 21)]/\bB.ST q (AA B 0) C E G K M P S λn'=>J (Sa B 0) V n')/\(bh e (.C #[.B false,.U 0,.U 0,.S gg,.S gg,.I 0,.I 0] 146) λm g=>Kp e g [(Sa b 2),(some (l.add 1)),(Sa b 21)]/\Cl 148 #[.pointer y,z.agg] g λU' u=> ∃D F I L O Q U X,U'=.T #[.agg #[.B D,.U F,.U I,.S L,.S O,.I Q,.I U],.B X]/\Kp g u [(Sa b 21)]/\bB.ST u (AA m 0) D F I L O Q U λo'=>J (Sa m 0) X o')/\True)):Cl 94 #[c.agg,.P o 0] h R:=aP (lq (sq (.join [(5,.one (.ptr)),(6,.one (.bool))] (.kz (ga 9 0 (.alts (.fork 9 (ga 6 10 .done) (.fork 13 (ga 4 9 (.op 14 (.op 15 .done))) .gM)))))) (sq (lq (cq ll lf)) (sq (lq (lq (cq (lq ll) lf))) (sq (pK 18) (sq (bq (sq (.join [(57,.one (.bool))] (pK 15)) (cq ll (lq (cq ll (lq (cq ll lf))))))) (sq (pK 28) ll))))))) Tryz.func94 hv
theorem CZ.walk{a:ck}{D d:Nat} (r:Cl 93 #[.L a D d] h λv l=>av.EX λg=> ∃T,v=.T #[g.agg,.I T]/\av.NW l λb m=>av.dw m (AA b 0) g λH=>aH (λ(e:Int) (f:aj)=>aH (λ(n:aj)=>R (.I e) n) (λj=>if(e !=0)then∃k,Cc f s 7 (.I k)/\aT f (AA s 7) (.I (wrap .i64 (k+1))) λp=>j p else j f)) (λJ=>if(T==0)then av.cN H (AA b 0) λt=>Cl 94 #[.agg #[.U t.f0,.I t.f1,.B t.f2,.U t.f3,.U t.f4,.S t.f5,.S t.f6,.B t.f7,.U t.f8,.U t.f9,.S t.f10,.S t.f11,.B t.f12,.U t.f13,.U t.f14,.S t.f15,.S t.f16,.U t.f17,.U t.f18,.U t.f19,.L t.QN t.I2 t.QO,.P s 0,.L a D d],.P o 0] H λV q=> ∃i,V=.I i/\J i q else J T H)):Cl 55 #[.P s 0,.L a D d,.P o 0] h R:=aP (lq (lq (sq (lq (.join [(8,.one (.int .i64))] (cq lf lf))) (sq (lq (.join [] (cq lf lf))) ll)))) Tryz.func55 r
theorem C1.walk (hv:bh h (.C x.arr 30) λb H=>Hi H b 1 λt=>aH (λ(e:Int) (e':aj)=>R (.I e) e') (λJ=>aH (λ(I:Int) (j':aj)=>J I j') (λj=>if(t==1)then Hp H s 0 λp'=>Hu H b 2 λq'=>Cl 51 #[.pointer p',.U q'] H λB' k'=> ∃T q,B'=.T #[.I T,.I q]/\aT k' (AA o 2) (.I T) λn=> ∃r,Cc n b 2 (.U r)/\aT n (AA o 4) (.U r) λl'=>j q l' else aH (λ(K:Int) (m':aj)=>j K m') (λd=>if(t==2)then Hp H s 0 λr'=>Hu H b 2 λs'=>Cl 52 #[.pointer r',.U s'] H λC' n'=> ∃u v,C'=.T #[.I u,.I v]/\aT n' (AA o 2) (.I u) λp=> ∃w,Cc p b 2 (.U w)/\aT p (AA o 4) (.U w) λQ=>d v Q else aH (λ(L:Int) (S:aj)=>d L S) (λf=>if(t==3)then Hp H s 0 λt'=>Hi H b 3 λu'=>Cl 53 #[.pointer t',.I u'] H λD' U=> ∃y,D'=.I y/\f y U else aH (λ(M:Int) (V:aj)=>f M V) (λg=>if(t==4)then Hi H b 3 λv'=>aI.cN H (AA b 4) λw'=>Cl 54 #[.P s 0,.I v',w'.agg] H λE' X=>ar.EX λz=>E'=z.agg/\ar.dw X (AA o 0) z λZ=>g 0 Z else aH (λ(O:Int) (a':aj)=>g O a') (λi=>if(t==5)then Hl H b 23 λz' y' x'=>Cl 55 #[.P s 0,.L z' y' x',.P o 0] H λF' b'=> ∃A,F'=.I A/\i A b' else aH (λ(P:Int) (c':aj)=>i P c') (λk=>if(t==6)then Cl 56 #[.P s 0] H λG' d'=>aJ.EX λC=> ∃D,G'=.T #[C.agg,.I D]/\aJ.NW d' λB f'=>aJ.dw f' (AA B 0) C λa=>Hi a B 0 λA'=> ∃G F E,Cc a B 2 (.L G F E)/\aT a (AA o 2) (.I A') λm=>Kp a m [(Sa B 2)]/\aT m (AA o 5) (.L G F E) λg'=>k D g' else aH (λ(h':aj)=>k 0 h') (λl=>if(t==8)then Hp H s 0 λo'=>Cl 57 #[.pointer o'] H λH' i'=>H'=.T #[]/\l i' else l H))))))))):Cl 25 #[.P s 0,x.agg,.P o 0] h R:=aP (lq (lq (sq (lq (.join [(7,.one (.int .i64))] (bq (lq (.join [(7,.one (.int .i64))] (cq (sq (pK 15) lf) (lq (.join [(7,.one (.int .i64))] (cq (sq (pK 15) lf) (lq (.join [(7,.one (.int .i64))] (cq (pK 8) (lq (.join [(7,.one (.int .i64))] (cq lf (lq (.join [(7,.one (.int .i64))] (cq lf (lq (.join [(7,.one (.int .i64))] (cq (lq (pK 14)) (lq (.join [] (cq lf lf)))))))))))))))))))))))) ll))) Tryz.func25 hv
theorem qB.walk(y:bh h (.C x.arr 30) λb r=>ar.NW r λB w=>Cl 23 #[.P s 0] w λv a=> ∃n,v=.B n/\if(!n)then ar.dw a (AA B 0) ar.S.z λi=>ar.cN i (AA B 0) λz=>R (.T #[z.agg,.I 6]) i else aR.cN a (AA b 0) λF=>Cl 11 #[F.agg] a λV d=> ∃p,V=.B p/\if(!p)then ar.dw d (AA B 0) ar.S.z λj=>ar.cN j (AA B 0) λA=>R (.T #[A.agg,.I 3]) j else Hu d b 0 λG=>Cl 24 #[.P s 0,.U G] d λK k=> ∃t,K=.I t/\if(t !=0)then ar.dw k (AA B 0) ar.S.z λl=>ar.cN l (AA B 0) λC=>R (.T #[C.agg,.I t]) l else ar.NW k λe m=>aR.cN m (AA b 0) λI=>Cl 25 #[.P s 0,I.agg,.P e 0] m λL H=> ∃T,L=.I T/\if(T !=0)then Cl 26 #[.U 0,.I T] H λM u=>ar.EX λq=>M=q.agg/\ar.dw u (AA B 0) q λf=>ar.cN f (AA B 0) λD=>R (.T #[D.agg,.I 0]) f else ar.cN H (AA e 0) λJ=>ar.dw H (AA B 0) J λg=>ar.cN g (AA B 0) λE=>R (.T #[E.agg,.I 0]) g):Cl 8 #[.P s 0,x.agg] h R:=aP (lq (sq (bq (lq (cq ll (lq (cq ll lf))))) (sq (lq (lq (cq ll lf))) (lq (sq (lq (lq (cq ll lf))) ll))))) Tryz.func8 y
theorem qB.nil.walk(y:bh h (.C x.arr 30) λb r=>ar.NW r λB w=>Cl 23 #[.pointer none] w λv a=> ∃n,v=.B n/\if(!n)then ar.dw a (AA B 0) ar.S.z λi=>ar.cN i (AA B 0) λz=>R (.T #[z.agg,.I 6]) i else aR.cN a (AA b 0) λF=>Cl 11 #[F.agg] a λV d=> ∃p,V=.B p/\if(!p)then ar.dw d (AA B 0) ar.S.z λj=>ar.cN j (AA B 0) λA=>R (.T #[A.agg,.I 3]) j else Hu d b 0 λG=>Cl 24 #[.pointer none,.U G] d λK k=> ∃t,K=.I t/\if(t !=0)then ar.dw k (AA B 0) ar.S.z λl=>ar.cN l (AA B 0) λC=>R (.T #[C.agg,.I t]) l else ar.NW k λe m=>aR.cN m (AA b 0) λI=>Cl 25 #[.pointer none,I.agg,.P e 0] m λL H=> ∃T,L=.I T/\if(T !=0)then Cl 26 #[.U 0,.I T] H λM u=>ar.EX λq=>M=q.agg/\ar.dw u (AA B 0) q λf=>ar.cN f (AA B 0) λD=>R (.T #[D.agg,.I 0]) f else ar.cN H (AA e 0) λJ=>ar.dw H (AA B 0) J λg=>ar.cN g (AA B 0) λE=>R (.T #[E.agg,.I 0]) g):Cl 8 #[.pointer none,x.agg] h R:=aP (lq (sq (bq (lq (cq ll (lq (cq ll lf))))) (sq (lq (lq (cq ll lf))) (lq (sq (lq (lq (cq ll lf))) ll))))) Tryz.func8 y
theorem C2.walk{L:ck}{l n:Nat}(k: ∃(I:Int->aj->Prop)(m:Int->aj->Nat),I 0 h/\∀(t:Int)(H:aj),I t H->if(decide (t<(l:Int)))then Bd t l/\aM L λa=>aR.cN H (a.add (toNat t*24)) λp=>aR.NW H λb g=>aR.dw g (AA b 0) p λe=>aR.cN e (AA b 0) λq=>Cl 8 #[.P s 0,q.agg] e λv i=>ar.EX λf=> ∃T,v=.T #[f.agg,.I T]/\ar.NW i λB j=>ar.dw j (AA B 0) f λd=>if(T !=0)then R (.T #[.I t,.I T]) d else(I (wrap .i64 (t+1)) d/\m (wrap .i64 (t+1)) d<m t H)else R (.T #[.I (l:Int),.I 0]) H):Cl 22 #[.P s 0,.L L l n] h R:=aP (lq (sq (lq (bq (.loop [(12,.one (.int .i64))] (lq (sq (cq lf lf) (sq (bq (lq (lq (lq (cq ll lf))))) lf)))))) ll)) Tryz.func22 k
theorem Ik.walk{d:ck}{a B:Nat}(i:av.NW h λb f=>bh f (.C #[.U 1,.U 1,.U 0,.I 0,.L d a B] 127) λe g=>av.dw g (AA b 0) ⟨0,0,false,0,0,gg,gg,false,0,0,gg,gg,false,0,0,gg,gg,0,0,0,(Sa e 0),1,1⟩ λH=>av.cN H (AA b 0) λr=>R (r.agg) H):Cl 21 #[.L d a B] h R:=aP (lq ll) Tryz.func21 i
theorem Il.walk{x:aI.S} (a:bh h (.C x.arr 28) λb H=> ∃i T g,Cc H b 15 (.L i T g)/\if(decide (((T:Nat):Int)>400))then R (.B true) H else Hs H b 5 λd=>Hs H b 6 λe=>Hs H b 10 λf=> ∃t,Cc H b 11 (.S t)/\R (.B (decide ((wrap .i64 ((wrap .i64 ((wrap .i64 ((d.size:Int)+(e.size:Int)))+(f.size:Int)))+((t.size:Nat):Int)))>300))) H):Cl 19 #[x.agg] h R:=aP (lq ll) Tryz.func19 a
theorem Im.walk (d:bh h (.C x.arr 30) λb a=>aI.cN a (AA b 4) λe=>Cl 19 #[e.agg] a λv H=> ∃t,v=.B t/\if t then R (.B true) H else∃g T f,Cc H b 23 (.L g T f)/\R (.B (decide (((T:Nat):Int)>1300))) H):Cl 6 #[x.agg] h R:=aP (lq ll) Tryz.func6 d
theorem Io.walk(hv:Cl 5 #[] h λo' M=>az.EX λf=>o'=f.agg/\Cl 4 #[f.agg] M λp' d=> ∃t g,p'=.T #[.pointer t,.I g]/\aH (λ(j':Bool) (e:aj)=>if j' then R (.B false) e else Cl 8 #[.pointer t,.agg #[.U 3,.I 1,.U 5,.I 0,.U 0,.I 0,.B false,.U 0,.U 0,.S gg,.S gg,.B false,.U 0,.U 0,.S gg,.S gg,.I 0,.I 0,.I 0,.Z,.U 0,.U 0,.B false,.Z]] e λq' d'=>ar.EX λi=> ∃j,q'=.T #[i.agg,.I j]/\ar.NW d' λb e'=>ar.dw e' (AA b 0) i λf'=>bh f' (.C #[.int .u8 120] 5) λG g'=>aW Tryz.prog (convert 26 26 (.L (Sa G 0) 1 1)) g' λr' h'=>Vl r' λm' l' k'=>Cl 21 #[.L m' l' k'] h' λs' i'=>av.EX λk=>s'=k.agg/\Cl 20 #[k.agg] i' λt' O=> ∃n m l n',t'=.T #[.L n m l,.I n']/\Cl 8 #[.pointer t,.agg #[.U 4,.I 5,.U 0,.I 0,.U 0,.I 0,.B false,.U 0,.U 0,.S gg,.S gg,.B false,.U 0,.U 0,.S gg,.S gg,.I 0,.I 0,.I 0,.Z,.U 0,.U 0,.B false,.L n m l]] O λu' P=>ar.EX λp=> ∃q,u'=.T #[p.agg,.I q]/\ar.NW P λB Q=>ar.dw Q (AA B 0) p λS=>Cl 8 #[.pointer t,.agg #[.U 3,.I 7,.U 0,.I 0,.U 0,.I 0,.B false,.U 0,.U 0,.S gg,.S gg,.B false,.U 0,.U 0,.S gg,.S gg,.I 0,.I 0,.I 0,.Z,.U 0,.U 0,.B false,.Z]] S λv' U=>ar.EX λr=> ∃u,v'=.T #[r.agg,.I u]/\ar.NW U λI V=>ar.dw V (AA I 0) r λX=>Cl 8 #[.pointer none,.agg #[.U 0,.I 7,.U 0,.I 0,.U 0,.I 0,.B false,.U 0,.U 0,.S gg,.S gg,.B false,.U 0,.U 0,.S gg,.S gg,.I 0,.I 0,.I 0,.Z,.U 0,.U 0,.B false,.Z]] X λw' Z=>ar.EX λv=> ∃w,w'=.T #[v.agg,.I w]/\ar.NW Z λK a'=>ar.dw a' (AA K 0) v λb'=>bh b' (.C #[.U 9,.I 8,.U 0,.I 0,.U 0,.I 0,.B false,.U 0,.U 0,.S gg,.S gg,.B false,.U 0,.U 0,.S gg,.S gg,.I 0,.I 0,.I 0,.Z,.U 0,.U 0,.B false,.Z,.U 8,.I 7,.U 0,.I 0,.U 0,.I 0,.B false,.U 0,.U 0,.S gg,.S gg,.B false,.U 0,.U 0,.S gg,.S gg,.I 0,.I 0,.I 0,.Z,.U 0,.U 0,.B false,.Z] 30) λL c'=>Cl 22 #[.pointer t,.L (Sa L 0) 2 2] c' λx' H=> ∃y z,x'=.T #[.I y,.I z]/\∃A,Cc H b 2 (.I A)/\if(A==1)then∃C,Cc H b 4 (.U C)/\if(C==5)then if(j==0)then∃D,Cc H B 1 (.I D)/\if(D==4)then if(q==0)then aM t λa=> ∃E,aY H (a.add 7)=some (.I E)/\if(E==1)then if(u==18)then if(w==6)then if(y==1)then if(z==18)then aM t λF=> ∃T,aY H (F.add 6)=some (.U T)/\R (.B (T==9)) H else R (.B false) H else R (.B false) H else R (.B false) H else R (.B false) H else R (.B false) H else R (.B false) H else R (.B false) H else R (.B false) H else R (.B false) H else R (.B false) H) (λJ=>if(g !=0)then J true d else J t.isNone d)):Cl 7 #[] h R:=aP (lq (lq (sq (sq (.join [(25,.one (.bool))] lf) (cq ll lf)) (lq (lq (lq (lq (lq (lq ll))))))))) Tryz.func7 hv

end
section
namespace CI
open jA (Ev dc)
open dM (SS Good Pt pG Mk Bk)
open Go.Proofs.YtimiaphmdidfhaaGreatDoor.Ask (En gR y0 iP FG)
open Bn (mr lD jR jb BB iX UR)
variable {V:cM→Bool} {h H d g:aj} {R:fD} {s k bo c C:Nat} {X x:Ft} {I:pG} {a:SS} {p q:ck} {D:Nat→Prop} {b:mr} {data:cM} {f:List BB}
abbrev TL(b:mr)(q:ck)(C s:Nat)(p:ck)(n c:Nat):cF.S:=⟨b.p.fl,b.p.sum,b.p.dest.km,b.p.dest.node,b.p.dest.gy,b.p.dest.host,b.p.dest.jN,b.p.rep.km,b.p.rep.node,b.p.rep.gy,b.p.rep.host,b.p.rep.jN,b.p.id.e.km,b.p.id.e.node,b.p.id.e.gy,b.p.id.e.host,b.p.id.e.jN,b.p.id.tm,b.p.id.sq,b.p.fW,q,b.bl.length,C,some ⟨s,0,none⟩,p,n,c⟩
theorem Nj(h:lD V data=.ok b):(jR V b).isSome=true/\data.length<=1200:=by
 unfold lD at h;split at h
 case isFalse=>cases h
 rename_i e;refine⟨?_,e⟩;repeat (first|(split at h<;>first|(cases h;done)|skip)|(cases h;assumption))
theorem FB(E:En V d h s X I a k)(o:Int)(y:Row h p (bc data))(J:data.length<=1200)(t: ∀H x,Pt H s x I { a with A:=fw.BE a.A o data } ->bA X h x H->R (.I (if fw.DU a.A o data=0 then 1 else 0)) H):
  Cl 150 #[(TL b q C s p data.length c).agg,.I o] h R:=by
 refine vd.walk (cF.da (x:=TL b q C s p data.length c) λB G A r F=> ?_);have l:=E.on F;obtain⟨Z,w,L,K,go⟩:=l.H.use 0;refine⟨_,ak r,ax.2 ⟨_,ak l.H.cW,_,_,_,ak r,fw.FB w E.G.a (y.frame F bX) rfl ae λj z T s2=> ?_⟩⟩;obtain⟨n,m,u,_,_⟩:=go j z { a with A:=fw.BE a.A o data } T s2 (λi v=>dM.ss _ v);have S:=bA.no F u;refine⟨_,rfl,FG u.fr (b:=B) (E.nM ae) bV,?_⟩;by_cases e:fw.DU a.A o data=0
 .rw[af (by rw[e];decide)];have:=t j n m S;rw[ag e]at this;exact this
 .rw[ag (cI e)];have:=t j n m S;rw[af e]at this;exact this
theorem UC{B n:Nat}{K:av.S->Prop}(e:cF.fR h B (TL b q C s p n c))(i:K (b.s q C)):av.cN h (AA B 0) K:=
 ⟨_,ak e,_,ak e,_,ak e,_,ak e,_,ak e,_,ak e,_,ak e,_,ak e,_,ak e,_,ak e,_,ak e,_,ak e,_,ak e,_,ak e,_,ak e,_,ak e,_,ak e,_,ak e,_,ak e,_,ak e,_,_,_,ak e,i⟩
theorem Qh(b:mr)(n:Nat):(lS V b n).1<=2199023255552:=by
 unfold lS;split
 .rename_i i;unfold Kh at i;split at i
  .rename_i l;obtain⟨m,j⟩:=dZ.1 l;have e:=Ask.vc j;have pr:b.p.fW<=1099511627776/\b.p.id.tm<=1099511627776:=by
    unfold Bn.jB Bn.ij at e;simp only[aU,aX]at e;exact⟨e.2,e.1.2.1.2⟩
   show Ie b.p (Kg V b.bl) n<=_;unfold Ie;split<;>omega
  .cases i
 .exact bL _
theorem RR(E:En V d h s X I a k)(n':b.p.wf)(B:jb h D b.bl q b.bl.length C f)(hl:b.bl.length<=8)(hd: ∀z∈b.bl,z.data.length<=200)(l':Row h p (bc data))(ld:data.length<=1200)(u':data≠ []->∀P,p=some P->¬X.M P.block)(l:ar.fR h bo (y0 0))(nb: ¬(X.M bo\/X.D bo))(i: ∀H x,Pt H s x I (ua V a b data).σ->gR X h bo 0 (ua V a b data) x H->R (.I (ua V a b data).e) H):
  Cl 94 #[(TL b q C s p data.length c).agg,.P bo 0] h R:=by
 refine ve.walk (cF.da (x:=TL b q C s p data.length c) λG h1 eb a' f1=>aH.of λo' hJ=> ?_);have E1:=E.on f1;have w: ¬X.M bo:=λe=>nb (.inl e)
 have zo:=aC l;have y':=E.hk;have sm:=E.G.small E.H.ord ae;have k': ¬X.M G:=E.nM ae;have A': ¬X.D G:=λhm=>by have:=E.H.lt G (.inr hm);omega
 have key: ∀(g:aj)(K:Nat),h1.size<=K->gD.Rg.at g K ((gD.je a.G b.p.dest).getD .zero)->Fr No h1 g->o' (Sa K 0) (gD.je a.G b.p.dest).isSome g:=by
  intro g K zr hr U;subst hJ;dsimp only;unfold ua at i;cases hf:gD.je a.G b.p.dest with
  |none=>
   rw[hf]at i;rw[ag (by rfl)];have F:=f1.tt U;exact i g X (E.H.on F) (gR.bad l w (bA.hH F))
  |some r=>
   rw[hf]at i hr;rw[af bV];dsimp only at i;have F:=f1.tt U;have Eg:=E.on F;have hr:gD.Rg.at g K r:=hr;have ug:=Eg.u.fr;refine UC (U.get a' id) (wi n' E.U ug Eg.Rx (B.on F) ae (λz j=>bR (hd z j)) λh2 rr e he f2=>aO.ex rr ⟨_,rfl,aO.fY (x:=rr) λb4 h4 w' x' t=> ?_⟩);have c':=f2.tt t;have u:=F.tt c';have A:=E.on u;have M:=c'.get (U.get a' id) id;have g':=c'.get hr id;have i':=u.get l id;by_cases Q:B5 V b=true
   .rw[ag Q]at i;have e0:=he.2 Q;subst e0;rw[ag (by rfl)];refine cF.fN (x:=TL b q C s p data.length c) M (ax.2 ⟨_,ak g',FB A r.own (l'.frame u bX) ld λh5 X5 H5 m'=>⟨_,rfl,?_⟩⟩);have S:=bA.no u m';refine iP (z:=⟨0,0,0,if fw.DU a.A r.own data=0 then 1 else 0,0,none,0,0⟩) (m'.fr.get i' w) dN rfl λh6 d6 f6=> ?_
    exact i h6 X5 (H5.frame f6 (λy l e=>Ask.qA S nb zo y l e)) (gR.num (st1:=S) 0 _ f6 d6)
   rw[af Q]at i;have e0: ¬e=0:=λe=>Q (he.1 e)
   rw[af (cI e0)];refine UC M ⟨_,ak M,ax.2 ⟨_,ak A.H.cW,_,ak M,ax.2 ⟨_,ak A.H.cW,RN a.now E.G.n n' E.U A.u.fr A.Rx (B.on u) ae (λz j=>bR (hd z j)) λh8 L=>⟨_,_,rfl,L.kp,aH.of λJ1 t'=> ?_⟩⟩⟩⟩;have v:=u.tt L;have m:=E.on v;have O:=L.get M id;have h':=L.get g' id;have v':=L.get i' id;have ll:=Qh (V:=V) b a.now;have j': ∀e',(e'=true↔(r.kH=2/\fw.Pr a.A r.own=false))->J1 e' h8:=by
    intro e' hv;subst t';dsimp only;by_cases n:r.kH=2/\fw.Pr a.A r.own=false
    .rw[ag n]at i;rw[ag (hv.2 n)];exact i h8 X m.H (gR.bad l w (bA.hH v))
    rw[af n]at i;rw[af (λe=>n (hv.1 e))];by_cases T:(lS V b a.now).2=0
    case neg=>
     rw[ag T]at i;rw[ag (cI T)];exact i h8 X m.H (gR.bad l w (bA.hH v))
    rw[af (λe=>e T)]at i;rw[af (cI T)];by_cases c4:(lS V b a.now).1=0
    .rw[ag c4]at i;rw[ag (by rw[c4];rfl)];exact i h8 X m.H (gR.bad l w (bA.hH v))
    rw[af c4]at i;rw[af (by simp only[db];omega)];have wl:IntKind.wrap .u64 ((a.now:Int)+((lS V b a.now).1:Int))=(a.now:Int)+((lS V b a.now).1:Int):=wrap_u64 ae (bR E.G.n);obtain⟨Z,j,zm,zd,go⟩:=m.H.use 2;refine⟨_,ak O,ax.2 ⟨_,ak m.H.cW,iX b.p.dest O rfl rfl rfl rfl rfl ⟨_,_,_,ak O,_,ak O,ax.2 ⟨_,ak m.H.cW,gm.BH j sm (λz j=>(E.G.c.ok.bd z j).2.1) (bR E.G.c.ok.yA) b.p.dest (d:=data) (min (a.now+(lS V b a.now).1) 1099511627776) (by rw[wl];split<;>omega) (l'.frame v bX) rfl (λhd P ea hm=>u' hd P ea (zm _ hm)) λh9 Z9 C9 s9=>⟨_,_,rfl,?_⟩⟩⟩⟩⟩;obtain⟨X9,H9,b',_,_⟩:=go h9 Z9 { a with C:=gm.kT a.C b.p.dest data (min (a.now+(lS V b a.now).1) 1099511627776) } C9 s9 (λz' hi=>dM.xO _ hi);have S:=bA.no v b';refine⟨λq' hq B' e hx=> ?_,iP (z:=⟨0,0,gm.BG a.C b.p.dest data (min (a.now+(lS V b a.now).1) 1099511627776),0,0,none,0,0⟩) (b'.fr.get v' w) dN rfl λs' p' f'=> ?_⟩
    .simp only[bK,gH,or_false]at hq;rcases hq with rfl|rfl|rfl
     .cases e;exact H9.cW.trans m.H.cW.symm
     .cases e;exact b'.fr.2 G hx k'
     .cases e;exact b'.fr.2 G hx k'
    .exact i s' X9 (H9.frame f' (λy l e=>Ask.qA S nb zo y l e)) (gR.num (st1:=S) _ 0 f' p')
   refine ax.2 ⟨_,ak h',?_⟩;by_cases n:r.kH=2
   .rw[ag (by rw[n];rfl)];obtain⟨Z,j,_⟩:=m.H.use 0;exact⟨_,ak O,ax.2 ⟨_,ak m.H.cW,ax.2 ⟨_,ak h',fw.HC j E.G.a ⟨_,rfl,(Fr.refl _ _).kp,j' _ (by simp[n])⟩⟩⟩⟩
   .rw[af (cI n)];exact j' _ (by simp[n])
 obtain⟨Z,j,_⟩:=E1.H.use 1;refine⟨_,ak a',ax.2 ⟨_,ak E1.H.cW,iX b.p.dest a' rfl rfl rfl rfl rfl ⟨?_,?_,trivial⟩⟩⟩
 .exact gD.iu j b.p.dest λh3 o=>⟨_,_,_,_,_,_,_,_,rfl,o.kp,bB.box λJ h4 r' d' t=>⟨t.kp,bB.set d' λh5 a1 a2 a3=>key h5 J (bR o.1) a1 ((o.tt t).fresh (Fr.of_eq (S:=λy=>y=J) a2 a3) (λy e=>bR o.1))⟩⟩
 .refine bB.box λJ h4 r' d' t=>⟨t.kp,gD.iu (gD.Tb.on j t) b.p.dest λh3 o=>⟨_,_,_,_,_,_,_,_,rfl,o.kp,bB.set (o.get d' _root_.id) λh5 a1 a2 a3=>key h5 J ae a1 ((t.tt o).fresh (Fr.of_eq (S:=λy=>y=J) a2 a3) (λy e=>ae))⟩⟩
theorem gR.UD{o o':Ask.Ot}{j l:Ft}{G:aj}(O:gR X h bo 0 o j g)(S:bA j g l G)(m: ¬o'.e=0)(u: ¬X.M bo)(Z:bo<h.size):gR X h bo 0 o' l G:=by
 have z:=O.fr.1;have v: ¬j.M bo:=λn=>(O.iz bo n).elim u (λA=>ae)
 refine⟨O.fr.trans S.fr bX (λc i r=> .inl ((O.iz c r).resolve_right ae)),λc i=> ?_,λc i=> ?_,λc i=>S.mQ c (O.mQ c i),?_⟩
 .rcases S.iz c i with A|A
  .exact O.iz c A
  .right;omega
 .rcases S.jx c i with A|A
  .exact O.jx c A
  .right;omega
 .obtain⟨y,t,_⟩:=O.at';exact⟨y,S.fr.get t v,λe=>absurd e m⟩
theorem Nk(E:En V d h s X I a k)(f':k+2<=30000)(S:Row h p (bc data))(cap:data.length<=c)(d':data≠ []->∀A,p=some A->¬X.M A.block)(z:ar.fR h bo (y0 0))(Q: ¬(X.M bo\/X.D bo))(i: ∀H x,Pt H s x I (tQ V a data).σ->gR X h bo 0 (tQ V a data) x H->R (.I (tQ V a data).e) H):
  Cl 55 #[pt s,.L p data.length c,.P bo 0] h R:=by
 have P: ¬X.M bo:=λe=>Q (.inl e)
 have zo:=aC z;have fin: ∀(o:Ask.Ot) g m,tQ V a data=FJ o->o.σ.rf<=40000->Pt g s m I o.σ->gR X h bo 0 o m g->(aH (λ(g5:aj)=>R (.I o.e) g5) λJ=>if(o.e !=0)=true then∃T,aY g (AA s 7)=some (.I T)/\aT g (AA s 7) (.I (IntKind.wrap .i64 (T+1))) λg6=>J g6 else J g):=by
  intro o g m y hr l O;refine aH.of λJ K=> ?_
  rw[y]at i;unfold FJ at i;by_cases j:o.e=0
  .rw[af (λe=>e j)]at i;rw[af (by rw[j];decide)];subst K;exact i g m l O
  .rw[ag j]at i;rw[ag (cI j)];refine⟨_,ak l.cW,?_⟩;rw[show(o.σ.rf:Int)+1=((o.σ.rf+1:Nat):Int) by omega,bC ae ae];refine bD l.cW bV λg2 a1 a2 a3=> ?_
   obtain⟨X2,U,e'⟩:=l.put (n:=o.σ.now) (r:=o.σ.rf+1) a1 a2 a3;subst K;exact i g2 X2 U (gR.UD (o':= { o with σ:= { o.σ with rf:=o.σ.rf+1 } }) O e' j P zo)
 refine CZ.walk (Bn.zT E.U E.u.fr E.Rx S rfl cap (λb L w hd hl h1 q C f B u=>av.ex (b.s q C) ⟨_,rfl,av.fY (x:=b.s q C) λb2 G b' M n=>aH.of λa' v=> ?_⟩) (λe y hn h1 u=>av.ex .z ⟨_,rfl,av.fY (x:=.z) λb2 G b' M n=>aH.of λa' v=> ?_⟩))
 .have F:=u.tt n;have r:=E.on F;have c':=Nj L;have t:tQ V a data=FJ (ua V a b data):=by unfold tQ;rw[L]
  rw[ag (by rfl)];refine av.fN (x:=b.s q C) M (RR r w (B.frame n bX) hl hd (S.frame F bX) c'.2 d' (F.get z id) Q λh3 X3 Z O3=>⟨_,rfl,?_⟩);subst v;refine fin _ h3 X3 t ?_ Z (Ask.gR.no F O3);have:=(Good.Ut (V:=V) (b:=b) (data:=data) E.G E.H.ord E.hk w.1).r;omega
 .have F:=u.tt n;have r:=E.on F;have t:tQ V a data=FJ (Ask.bad a e):=by unfold tQ;rw[y]
  rw[af (cI hn)];subst v;refine fin (Ask.bad a e) G X t (by have:=E.G.r;have:=E.hk;show a.rf<=_;omega) r.H (gR.bad z P (bA.hH F))

end CI
end
section
namespace Ask
open jA (Ev dc)
open dM (SS Good)
open Go.fV (RD)
abbrev Km:Ev:=⟨true,7,0,⟨#[]⟩,⟨#[]⟩⟩
abbrev UE:Ev:=⟨true,7,1,⟨#[]⟩,⟨#[]⟩⟩
def q1:Rq:=⟨1,1,UE,.zero,0,0,0, [],0,0,false⟩
def q2(n:Nat)(id:Nat):Rq:=⟨id,7,UE,.zero,0,0,(n:Int), [],0,0,false⟩
def q3(id:Nat)(k:Int):Rq:=⟨id,k,.zero,.zero,0,1,0, [],0,0,false⟩
def q4:Rq:=⟨2,4,UE,UE,0,0,0, [120],9,0,false⟩
def q6:Rq:=⟨2,6,UE,.zero,0,0,0, [],0,0,false⟩

end Ask
end
section
namespace Ask
open jA (Ev dc lL)
open dM (SS Good Pt pG Mk Bk)
open Go.fV (RD)
variable {V:cM→Bool} {h a f g:aj} {R:fD} {s c:Nat} {X b:Ft} {I:pG} {p:ck} {x:Rq} {L:List (Nat × ar.S)}
variable {d:cM}
theorem wH(e: iq h R (lL Km)):Cl 5 #[] h R:=Ke.walk (az.fY (x:=Km.s) λ_ g _ H F=>az.fN (x:=Km.s) H (e g F))
theorem Cd:dM.Kd Km:=⟨dz,λe=>by cases bQ Ev.km e⟩
def Bx(h:aj)(X:Ft)(L:List (Nat×ar.S)):Prop:= ∀e∈L,ar.fR h e.1 e.2/\¬X.M e.1
theorem Bx.step(B:Bx h X L)(S:bA X h b a):Bx a b L:=λe H=>⟨S.fr.get (B e H).1 (B e H).2,λi=>by
 rcases S.iz _ i with A|A
 .exact(B e H).2 A
 .have:=aC (B e H).1;omega⟩
theorem Bx.on(B:Bx h X L)(F:Fr No h a):Bx a X L:=λe H=>⟨F.get (B e H).1 id,(B e H).2⟩
def Rw(h:aj)(X:Ft)(p:ck)(d:cM):Prop:=Row h p (bc d)/\(d≠ []->∀z,aN p z->¬X.M z)
theorem Rw.step(B:Rw h X p d)(S:bA X h b a):Rw a b p d:=by
 by_cases H:d= []
 .subst H;exact⟨Row.nil,λe=>absurd rfl e⟩
 .refine⟨B.1.frame S.fr (λA E k=>B.2 H A.block ⟨A,E,rfl⟩ k),λ_ z i j=> ?_⟩;rcases S.iz z j with A|A
  .exact B.2 H z i A
  .have:=iZ B.1 (by simpa[bc]using H) i;omega
theorem Rw.on(B:Rw h X p d)(F:Fr No h a):Rw a X p d:=⟨B.1.frame F bX,B.2⟩
theorem Bx.nth{e:Nat}{y:ar.S}(B:Bx h X L)(i:Nat)(H:L[i]? =some (e,y)):ar.fR h e y:=(B _ (aK H)).1
theorem En.Qi(U:Cb.lO V f)(mx:lM.Mx f)(F:Fr No f g)(H:Pt h s X I (dM.MV Km))(u:KA g X h):En V f h s X I (dM.MV Km) 0:=
 ⟨H,dM.Good.new Cd.1 Cd.2 dN,ae,⟨F.tt u.fr,λc e=>cE F.1 (u.ge c e)⟩,U,mx⟩

end Ask
end
section
namespace CI
open dM (SS Good Pt pG Mk Bk)
open Go.Proofs.YtimiaphmdidfhaaGreatDoor.Ask (En gR y0 iP FG rS Rw qA)
open Go.fV (RD)
variable {V:cM→Bool} {h H j i g:aj} {R:fD} {s k b c d:Nat} {X f:Ft} {I:pG} {a:SS} {p q:ck} {x:oS} {o:Hq}
variable {D:cM}
structure Kn (X:Ft) (h:aj) (b:Nat) (o:Hq) (f:Ft) (H:aj):Prop where
 fr:Fr (λy=>X.M y\/y=b) h H
 iz: ∀c,f.M c->X.M c\/h.size<=c
 jx: ∀c,f.D c->X.D c\/h.size<=c
 mQ: ∀c,X.D c->f.D c
 at': ∃y,ar.fR H b y/\(o.e=0->∃p c,y=rS o.y p c/\Row H p (bc o.y.b)/\(o.y.b≠ []->∀z,aN p z->¬f.M z))
theorem Kn.of(S:bA X h f i)(F:Fr (λy=>y=b) i H)(at': ∃y,ar.fR H b y/\(o.e=0->∃p c,y=rS o.y p c/\Row H p (bc o.y.b)/\(o.y.b≠ []->∀z,aN p z->¬f.M z))):Kn X h b o f H:=
 ⟨S.fr.trans F (λ_ _ A=> .inl A) (λ_ _ e=> .inr e),S.iz,S.jx,S.mQ,at'⟩
theorem Kn.nil{y:RD}{e:Int}(S:bA X h f i)(F:Fr (λy=>y=b) i H)(m:ar.fR H b (rS y none 0))(l:y.b= []):Kn X h b ⟨a,e,y⟩ f H:=
 Kn.of S F ⟨_,m,λ_=>⟨none,0,rfl,by rw[show(⟨a,e,y⟩:Hq).y.b= []from l];exact Row.nil,λe=>absurd l e⟩⟩
theorem RT{B:Bn.mr}:(ua V a B D).d= []:=by
 unfold ua;split
 .rfl
 .split
  .rfl
  .split
   .rfl
   .split
    .rfl
    .split<;>rfl
theorem Tu :(tQ V a D).d= []:=by
 unfold tQ FJ;split
 .split<;>rfl
 .split<;>exact RT
theorem Qj{d:cM}{y:ar.S}(r:Row h q (bc d))(v:ar.fR h b y)(u:d≠ [])(A:Addr)(E:q=some A):A.block≠b:=by
 intro n;subst E;obtain⟨x,t,rfl⟩:=List.exists_cons_of_ne_nil u;have l:=r.cell (j:=0) (v:=.int .u8 (x.toNat:Int)) rfl;unfold aY at l;rw[show(A.add 0).block=b from n,v]at l;dsimp only at l;split at l
 .cases l
 generalize (A.add 0).off=m at l;rcases m with _|_|_|_|_|_|m
 .have e:=aZ (show some (Value.U y.f0)=some _ from l);cases e
 .have e:=aZ (show some (Value.I y.f1)=some _ from l);cases e
 .have e:=aZ (show some (Value.I y.f2)=some _ from l);cases e
 .have e:=aZ (show some (Value.I y.f3)=some _ from l);cases e
 .have e:=aZ (show some (Value.U y.f4)=some _ from l);cases e
 .have e:=aZ (show some (Value.slice y.V6 y.f5l y.V7)=some _ from l);cases e
 .have e:(none:Option Value)=some _:=l;cases e
theorem Nl(E:En V j h s X I a k)(v':k+2<=30000)(x:oS)(rx:Row h p (bc x.jr.mz))(cx:x.jr.mz.length<=c)(dx:Rw h X q x.data)(cd:x.data.length<=d)(w1:0<=x.jr.ep.gy)(w2:0<=x.jr.dest.gy)(r:ar.fR h b (y0 0))(Q: ¬(X.M b\/X.D b))(hk: ∀H f,Pt H s f I (iw V a x).σ->Kn X h b (iw V a x) f H->R (.I (iw V a x).e) H):
  Cl 25 #[pt s,(x.s p c q d).agg,.P b 0] h R:=by
 refine C1.walk (aR.da (x:=x.s p c q d) λq' i eb B m=>⟨_,ak B,aH.of λu' hJ=>aH.of λJ1 g'=> ?_⟩);have A:=E.on m;have P: ¬X.M b:=λe=>Q (.inl e)
 have zo:=aC r;have G:=m.get r id;have n': ¬X.M q':=E.nM ae;have F: ∀g f,Pt g s f I (iw V a x).σ->Kn X h b (iw V a x) f g->J1 (iw V a x).e g:=by
  intro g f p' O;subst g';subst hJ;exact hk g f p' O
 clear hJ g' hk;unfold iw at F;by_cases k1:x.kind=1
 .rw[ag k1]at F;rw[ag (Ask.bq.2 k1)];obtain⟨Z,J,zm,zd,go⟩:=A.H.use 0;refine⟨_,ak A.H.cW,_,ak B,fw.zR x.token rfl J E.G.a λn K T s2=> ?_⟩;obtain⟨z,u,S,_,_⟩:=go n K { a with A:=fw.wh a.A x.token } T s2 (λe' C=>dM.ss _ C);have t:=bA.no m S;refine⟨_,_,rfl,iP (z:=⟨0,0,fw.HG a.A x.token,0,0,none,0,0⟩) (S.fr.get G P) dN rfl λM d3 l=>⟨_,ak (l.get (S.fr.get B n') ae),iP (z:=⟨0,0,fw.HG a.A x.token,0,x.token,none,0,0⟩) d3 dN rfl λh4 L w=> ?_⟩⟩;exact F h4 z (u.frame (l.tt w) (λy r e=>qA t Q zo y r e)) (Kn.nil t (l.tt w) L rfl)
 rw[af k1]at F;rw[af (λe=>k1 (Ask.bq.1 e))];refine aH.of λJ2 h'=> ?_
 have e2:J2=J1:=h';clear h';subst e2;by_cases k2:x.kind=2
 .rw[ag k2]at F;rw[ag (Ask.bq.2 k2)];obtain⟨Z,J,zm,zd,go⟩:=A.H.use 0;refine⟨_,ak A.H.cW,_,ak B,fw.MB x.token rfl J E.G.a λn K T s2=> ?_⟩;obtain⟨z,u,S,_,_⟩:=go n K { a with A:=fw.MA a.A x.token } T s2 (λe' C=>dM.ss _ C);have t:=bA.no m S;refine⟨_,_,rfl,iP (z:=⟨0,0,fw.Ps a.A x.token,0,0,none,0,0⟩) (S.fr.get G P) dN rfl λM d3 l=>⟨_,ak (l.get (S.fr.get B n') ae),iP (z:=⟨0,0,fw.Ps a.A x.token,0,x.token,none,0,0⟩) d3 dN rfl λh4 L w=> ?_⟩⟩;exact F h4 z (u.frame (l.tt w) (λy r e=>qA t Q zo y r e)) (Kn.nil t (l.tt w) L rfl)
 rw[af k2]at F;rw[af (λe=>k2 (Ask.bq.1 e))];refine aH.of λJ3 i'=> ?_
 have e3:J3=J2:=i';clear i';subst e3;by_cases k3:x.kind=3
 .rw[ag k3]at F;rw[ag (Ask.bq.2 k3)];obtain⟨Z,J,zm,zd,go⟩:=A.H.use 0;refine⟨_,ak A.H.cW,_,ak B,fw.Fi J E.G.a λn K T s2=> ?_⟩;obtain⟨z,u,S,_,_⟩:=go n K { a with A:=fw.DS a.A x.ses } T s2 (λe' C=>dM.ss _ C);have t:=bA.no m S;exact⟨_,rfl,F n z u (Kn.nil (y:=RD.zero) t (Fr.refl _ _) (S.fr.get G P) rfl)⟩
 rw[af k3]at F;rw[af (λe=>k3 (Ask.bq.1 e))];refine aH.of λJ4 j'=> ?_
 have e4:J4=J3:=j';clear j';subst e4;by_cases k4:x.kind=4
 .rw[ag k4]at F;rw[ag (Ask.bq.2 k4)];refine⟨_,ak B,Mr B (Ask.UB A ae w1 w2 (rx.frame m bX) cx λn z q2 d2 u S o' s'=>ar.ex (rS (Ask.CS V a x.ses x.jr).2 q2 d2) ⟨rfl,ar.hU (x:=rS (Ask.CS V a x.ses x.jr).2 q2 d2) (S.fr.get G P) λM d3 l _=> ?_⟩)⟩;have t:=bA.no m S;have c':Fr (λy=>y=b) n M:=l;refine F M z (u.frame c' (λy r e=>qA t Q zo y r e)) (Kn.of t c' ⟨_,d3,λ_=>⟨q2,d2,rfl,?_,s'⟩⟩);by_cases hd:(Ask.CS V a x.ses x.jr).2.b= []
  .show Row M q2 (bc (Ask.CS V a x.ses x.jr).2.b);rw[hd];exact Row.nil
  .exact o'.frame c' (λb' ea e=>Qj o' (S.fr.get G P) hd b' ea e)
 rw[af k4]at F;rw[af (λe=>k4 (Ask.bq.1 e))];refine aH.of λJ5 k'=> ?_
 have e5:J5=J4:=k';clear k';subst e5;by_cases k5:x.kind=5
 .rw[ag k5]at F;rw[ag (Ask.bq.2 k5)];refine⟨_,_,_,ak B,Nk (data:=x.data) A ae (dx.1.frame m bX) cd (λd' b' ea=>dx.2 d' b'.block ⟨b',ea,rfl⟩) G Q λn z u O2=>⟨_,rfl,?_⟩⟩;have O:=Ask.gR.no m O2;refine F n z u ⟨O.fr,O.iz,O.jx,O.mQ,?_⟩;obtain⟨y,r,hx⟩:=O.at';refine⟨y,r,λhe=> ?_⟩;obtain⟨p2,c2,ey,r2,_⟩:=hx he;rw[Tu]at ey r2;exact⟨p2,c2,ey,r2,λe=>absurd rfl e⟩
 rw[af k5]at F;rw[af (λe=>k5 (Ask.bq.1 e))];refine aH.of λJ6 l'=> ?_
 have e6:J6=J5:=l';clear l';subst e6;by_cases k6:x.kind=6
 .rw[ag k6]at F;rw[ag (Ask.bq.2 k6)];refine dM.vZ A.H E.G ae (λhn n f2=>aJ.ex .z ⟨_,rfl,aJ.fY (x:=.z) λb2 M r' a' l=> ?_⟩) (λf' w' C n z v ev u S vk=>aJ.ex ⟨v.num,v.owner,v.v.p,v.v.b.length,v.v.c,v.fa⟩ ⟨_,rfl,aJ.fY (x:=⟨v.num,v.owner,v.v.p,v.v.b.length,v.v.c,v.fa⟩) λb2 M r' a' l=> ?_⟩)
  .rw[hn]at F;have F3:=m.tt (f2.tt l);have z1:=(m.tt f2).1;refine⟨_,ak a',_,_,_,ak a',iP (z:=⟨0,0,0,0,0,none,0,0⟩) (F3.get r id) dN rfl λh4 L w=>⟨FG w (b:=b2) ae bV,iP (z:=⟨0,0,0,0,0,none,0,0⟩) L dN rfl λh5 d5 U=> ?_⟩⟩;exact F h5 X ((E.H.on F3).frame (w.tt U) (λy r e=>Q (e▸r))) (Kn.nil (y:=RD.zero) (bA.hH F3) (w.tt U) d5 rfl)
  .rw[C]at F;have t:=bA.no m S;have z1:=m.1;have z2:=S.fr.1;have nx:=qA t Q zo;refine⟨_,ak a',_,_,_,ak a',iP (z:=⟨0,0,v.num,0,0,none,0,0⟩) (l.get (S.fr.get G P) id) dN rfl λh4 L w=>⟨FG w (b:=b2) ae bV,iP (z:=⟨0,0,v.num,0,0,v.v.p,v.v.b.length,v.v.c⟩) L dN rfl λh5 d5 U=> ?_⟩⟩;have t':=vk.frame (l.no (w.tt U)) (λy r e=>nx y (.inr r) e);subst ev;refine F h5 z ((u.on l).frame (w.tt U) nx) (Kn.of (t.on l) (w.tt U) ⟨_,d5,λ_=>⟨v.v.p,v.v.c,rfl,t'.row,λd' f' J hm=>u.vA f' hm (vk.own d' f' J)⟩⟩)
 rw[af k6]at F;rw[af (λe=>k6 (Ask.bq.1 e))];refine aH.of λJ7 m'=> ?_
 by_cases k8:x.kind=8
 .rw[ag k8]at F;rw[ag (Ask.bq.2 k8)];obtain⟨Z,J,zm,zd,go⟩:=A.H.use 0;refine⟨_,ak A.H.cW,fw.JD J E.G.a λn K T s2=> ?_⟩;obtain⟨z,u,S,_,_⟩:=go n K { a with A:=fw.iY a.A } T s2 (λe' C=>dM.ss _ C);have t:=bA.no m S;subst m';exact⟨rfl,F n z u (Kn.nil (y:=RD.zero) t (Fr.refl _ _) (S.fr.get G P) rfl)⟩
 rw[af k8]at F;rw[af (λe=>k8 (Ask.bq.1 e))];subst m';exact F i X A.H (Kn.nil (y:=RD.zero) (bA.hH m) (Fr.refl _ _) G rfl)

end CI
end
section
namespace CI
open dM (SS Good Pt pG Mk Bk)
open Go.Proofs.YtimiaphmdidfhaaGreatDoor.Ask (En gR y0 iP FG rS Rw qA yI lR)
open Go.fV (RD)
variable {V:cM→Bool} {h H f i g:aj} {R:fD} {s k c d:Nat} {X b:Ft} {I:pG} {a:SS} {p q:ck} {x:oS}
theorem _root_.Go.Proofs.YtimiaphmdidfhaaGreatDoor.Ask.Rw.nil :Rw h X none []:=⟨Row.nil,λe=>absurd rfl e⟩
theorem Qk{n r:Nat}(B:Bk h s I n r)(e:R (.B true) h):Cl 23 #[pt s] h R:=by
 refine sC.walk ?_;repeat (first|exact e|refine⟨_,ak B,?_⟩|rw[ag rfl])
theorem Good.apply(G:dM.Good a k)(O:gm.Ord a.C)(Op:gm.Ord (dM.yF a x.now).C)(L:List Go.kA.E)(t:hZ.okB a.B L)(n:k+1<=30000)(r: ∀B,Bn.lD V x.data=.ok B->0<=B.p.dest.gy)(o:0<=x.jr.ep.gy):dM.Good (gF V a x).σ (k+3):=by
 have j:=dM.Good.pass G O L t ae x.now;have m:=dM.Good.more (dM.Good.more (dM.Good.more G));unfold gF;split
 .split
  .rename_i l;have e:dM.yF a x.now=dM.oJ a x.now:=ag l;rw[e]at j Op;have:=Good.Ts (V:=V) (x:=x) j Op n r o;split<;>exact this
  .exact m
 .exact m
theorem Ql{t:Cb.Tr}{p:Bn.Prim}(h:Bn.tX V t=.ok p):p.wf:=by
 unfold Bn.tX at h;split at h
 .cases h
 .split at h
  .split at h
   .rename_i d r m e l j;split at h
    .split at h
     .cases h;exact⟨(Bn.vR e).1,(Bn.vR l).1,Bn.uL j⟩
     .cases h
    .cases h
   .cases h
  .cases h
theorem RU{D:cM}{B:Bn.mr}(h:Bn.lD V D=.ok B):B.p.wf:=by
 unfold Bn.lD at h;split at h
 case isFalse=>cases h
 split at h
 .cases h
 split at h
 case isFalse=>cases h
 split at h
 .cases h
 rename_i p e;split at h
 .cases h
 split at h
 .cases h;exact Ql e
 .cases h
theorem Ip(E:En V f h s X I a k)(d':k+3<=30000)(x:oS)(rx:Rw h X p x.jr.mz)(cx:x.jr.mz.length<=c)(dx:Rw h X q x.data)(cd:x.data.length<=d)(w1:0<=x.jr.ep.gy)(w2:0<=x.jr.dest.gy)(w: ∀H b Q D,En V f H s b I (gF V a x).σ (k+3)->bA X h b H->Rw H b Q (gF V a x).y.b->R (.T #[(rS (gF V a x).y Q D).agg,.I (gF V a x).e]) H):
  Cl 8 #[pt s,(x.s p c q d).agg] h R:=by
 refine qB.walk (aR.da (x:=x.s p c q d) λf' i eb hb f1=>ar.da (x:=.z) λB h2 r' a' f2=>Qk ((f1.tt f2).get E.H.cW id) ⟨_,rfl,?_⟩);rw[dB];have K:=f1.tt f2;have z1:=f1.1;have z2:=f2.1;have E2:=E.on K;have c':=f2.get hb id;have t':=E.hk;obtain⟨L,ok⟩:=E.H.okB;have bad: ∀g (e:Int),Fr No h2 g->gF V a x=⟨a,e,RD.zero⟩->ar.dw g (AA B 0) ar.S.z λh4=>ar.cN h4 (AA B 0) λr0=>R (.T #[r0.agg,.I e]) h4:=by
  intro g e n he;rw[he]at w;refine yI (n.get a' id) λG F=> ?_
  have FF:=(K.tt n).fresh F (λy e=>ae);have Z:=E.on FF;exact w G X none 0 ⟨Z.H,dM.Good.more (dM.Good.more (dM.Good.more E.G)),d',Z.u,Z.U,Z.mx⟩ (bA.hH FF) Ask.Rw.nil
 refine aR.fN (x:=x.s p c q d) c' (DM x E.U E2.u.fr E2.Rx (rx.on K).1 (dx.on K).1 cd λh3 j=>⟨_,rfl,?_⟩);have M:=K.tt j;have E3:=E.on M;cases cr:mU V x with
 |false=>rw[gk];exact bad h3 3 j (by unfold gF;rw[cr];rfl)
 |true=>
 rw[dB];refine⟨_,ak (j.get c' id),dM.wk x.now rfl E3.H E3.G ae λh4 t r S=>⟨_,rfl,?_⟩⟩;have nb: ¬X.M f':=E.nM ae;have e': ¬X.M B:=E.nM ae;have o':=S.fr.get (j.get c' id) nb;have h':=S.fr.get (j.get a' id) e';by_cases C:dM.mO a x.now=0
 case neg=>
  rw[ag (cI C)];have T:dM.yF a x.now=a:=af C;have eA:gF V a x=⟨a,dM.mO a x.now,RD.zero⟩:=by unfold gF;rw[ag cr,af C]
  rw[eA]at w;rw[T]at r;refine yI h' λG F=> ?_
  have l:=bA.no M S;have z3:=l.fr.1;have nx: ∀y,t.M y\/t.D y->¬y=B:=λy o e=>by
   subst e;have lt:=aC (j.get a' id);rcases o with A|A
   .rcases S.iz _ A with A|A
    .exact e' A
    .omega
   .rcases S.jx _ A with A|A
    .have:=E.H.lt y (.inr A);omega
    .omega
  have l':bA X h t G:=⟨l.fr.trans F bX (λy o e=>ae),l.iz,l.jx,l.mQ⟩;exact w G t none 0 (E.step (r.frame F nx) l' (dM.Good.more (dM.Good.more (dM.Good.more E.G))) d') l' Ask.Rw.nil
 rw[af (cI C)];have T:dM.yF a x.now=dM.oJ a x.now:=ag C;rw[T]at r;have G4:=dM.Good.pass E.G E.H.ord L ok ae x.now;rw[T]at G4;have l:=bA.no M S;have E4:=E.step r l G4 ae;have Gf:dM.Good (gF V a x).σ (k+3):=Good.apply E.G E.H.ord (by rw[T];exact r.ord) L ok ae (λf' hb=>(RU hb).1) w1;have u':=aC (j.get a' id);have z4:=S.fr.1;have z3:=j.1;have k': ¬t.M B:=λhm=>(S.iz _ hm).elim e' (λA=>ae)
 have n': ¬t.D B:=λhm=>(S.jx _ hm).elim (λA=>bR (E.H.lt B (.inr A))) (λA=>ae)
 refine ar.da (x:=.z) λb2 h5 s' p' m=>aR.fN (x:=x.s p c q d) (m.get o' id) (Nl (E4.on m) ae x (((rx.on M).step S).on m).1 cx (((dx.on M).step S).on m) cd w1 w2 p' (λe=>bR (r.lt b2 e)) λh6 u H6 O=>⟨_,rfl,?_⟩)
 have z5:=m.1;have z6:=O.fr.1;have b':bA X h u h6:=by
  have z:=l.on m;have zz:=z.fr.1;refine⟨z.fr.trans O.fr bX (λc v hx=>hx.elim (λA=>(z.iz c A).resolve_right ae) (λe=>ae)),λc v=> ?_,λc v=> ?_,λc v=>O.mQ c (z.mQ c v)⟩
  .rcases O.iz c v with A|A
   .exact z.iz c A
   .right;omega
  .rcases O.jx c v with A|A
   .exact z.jx c A
   .right;omega
 have i':=O.fr.get (m.get h' id) (λe=>e.elim k' (λe=>ae));have q': ∀y,u.M y\/u.D y->¬y=B:=λy o e=>by
  subst e;rcases o with A|A
  .exact(O.iz _ A).elim k' (λA=>ae)
  .exact(O.jx _ A).elim n' (λA=>ae)
 have j': ∀g J Q D,Fr No h6 g->gF V a x=⟨(iw V (dM.oJ a x.now) x).σ,0,J⟩->Rw g u Q J.b->ar.dw g (AA B 0) (rS J Q D) λg'=>ar.cN g' (AA B 0) λr0=>R (.T #[r0.agg,.I 0]) g':=by
  intro g J Q D n he U;rw[he]at w Gf;refine yI (n.get i' id) λG F=> ?_
  have m':bA X h u G:=⟨(b'.fr.on n).trans F bX (λy o e=>ae),b'.iz,b'.jx,b'.mQ⟩;refine w G u Q D (E.step ((H6.on n).frame F q') m' Gf d') m' ?_;refine⟨?_,U.2⟩;by_cases hd:J.b= []
  .show Row G Q (bc J.b);rw[hd];exact Row.nil
  .exact U.1.frame F (λA ea e=>Qj U.1 (n.get i' id) hd A ea e)
 by_cases P:(iw V (dM.oJ a x.now) x).e=0
 .rw[af (by rw[P];decide)];obtain⟨y,o,hx⟩:=O.at';obtain⟨Q,D,rfl,U,hn⟩:=hx P;exact ar.fN o (j' h6 _ Q D (Fr.refl _ _) (by unfold gF;rw[ag cr,ag C,ag P]) ⟨U,hn⟩)
 .rw[ag (cI P)];refine zP.mV 0 rfl _ λh7 f7=>ar.ex (rS (lR 0 (iw V (dM.oJ a x.now) x).e) none 0) ⟨rfl,?_⟩
  exact j' h7 (lR 0 (iw V (dM.oJ a x.now) x).e) none 0 f7 (by unfold gF;rw[ag cr,ag C,af P]) Ask.Rw.nil
theorem Nn(x:oS)(n: iq h R (.T #[ar.S.z.agg,.I 6])):Cl 8 #[.pointer none,(x.s p c q d).agg] h R:=by
 refine qB.nil.walk (aR.da (x:=x.s p c q d) λB i E u j=>ar.da (x:=.z) λo t r m l=>sC.nil.walk ⟨_,rfl,?_⟩);rw[gk];exact yI m λG F=>n G (j.tt (l.fresh F (λy e=>ae)))

end CI
end
section
namespace CI
open jA (Ev lL)
open dM (SS Good Pt pG Mk Bk)
open Go.Proofs.YtimiaphmdidfhaaGreatDoor.Ask (En rS Rw Bx wH Cd lR Km)
open Bn (mr lD jR mT)
open Go.fV (RD)
variable {V:cM→Bool} {h H b i g:aj} {R:fD} {s k c d:Nat} {X a:Ft} {I:pG} {f:SS} {p q:ck} {x:oS} {L:List (Nat × ar.S)}
theorem Cf{K:Int->Nat->aj->Prop}(E:En V b h s X I f k)(z:k+3<=30000)(x:oS)(J:Rw h X p x.jr.mz)(n:x.jr.mz.length<=c)(o:Rw h X q x.data)(C:x.data.length<=d)(M:0<=x.jr.ep.gy)(O:0<=x.jr.dest.gy)(B:Bx h X L)(w: ∀H a j Q D,En V b H s a I (gF V f x).σ (k+3)->Bx H a ((j,rS (gF V f x).y Q D)::L)->bA X h a H->K (gF V f x).e j H):
  Cl 8 #[pt s,(x.s p c q d).agg] h λv g=>ar.EX λt=> ∃e,v=.T #[t.agg,.I e]/\bh g (.C ar.S.z.arr 47) λj G=>ar.dw G (AA j 0) t λr=>K e j r:=by
 refine Ip E z x J n o C M O λT m Q D l S U=>ar.ex (rS (gF V f x).y Q D) ⟨_,rfl,ar.fY (x:=rS (gF V f x).y Q D) λj u P y F=> ?_⟩
 refine w u m j Q D (l.on F) (λe he=> ?_) (S.on F);rcases bK.1 he with rfl|he
 .exact⟨y,λA=>bR (l.H.lt j (.inl A))⟩
 .exact((B.step S).on F) e he
abbrev ev(n:Nat)(K:Int)(t:Nat)(D:cM):oS:=⟨n,K,t,0,Rq.none,D⟩
theorem Qm:Rw h X none []:=Ask.Rw.nil
def dX:cM:= [159,136,7,0,0,130,1,0,130,1,0,130,1,0,130,0,0,0,133,1,1,0,0,65,120,255]
def UF:mr:=⟨⟨0,0,.zero,.zero,⟨.zero,0,0⟩,0⟩, [⟨1,1,0,0, [120]⟩]⟩
theorem Wk:jR V UF=some dX:=dz
def V0:cM->Bool:=λ_=>true
def s1:SS:=(gF V0 (dM.MV Ask.Km) (ev 3 1 5 [])).σ
def s2:SS:=(gF V0 s1 (ev 4 5 0 dX)).σ
def s4:SS:=(gF V0 s2 (ev 9 8 0 [])).σ
theorem a1:gF V (dM.MV Ask.Km) (ev 3 1 5 [])=⟨s1,0,⟨0,0,1,0,5, []⟩⟩:=dz
theorem a2:gF V s1 (ev 4 5 0 dX)=⟨s2,0,lR 0 4⟩:=dz
theorem a3:gF V s2 (ev 3 7 0 [])=⟨s2,18,RD.zero⟩:=dz
theorem a4:gF V s2 (ev 9 8 0 [])=⟨s4,0,RD.zero⟩:=dz
theorem a5:gF V s4 (ev 8 7 0 [])=⟨s4,18,RD.zero⟩:=dz
theorem a6:s4.rf=1/\s4.now=9:=⟨dz,dz⟩
theorem Qn(t: ∀H j,aA.fR H j (mT.s ⟨1,1,0,0, [120]⟩ p c)->Fr No h H->R (UF.s (Sa j 0) 1).agg H):Cl 21 #[.L p 1 c] h R:=by
 refine Ik.walk (av.da (x:=.z) λu i E n F=>aA.da (x:=mT.s ⟨1,1,0,0, [120]⟩ p c) λB w v r l=>av.hU (x:=UF.s (Sa B 0) 1) (l.get n id) λo D m _=>av.fN D ?_);have Z:=aC n;have z:=F.1;exact t o B (m.get r ae) ((F.tt l).fresh m (λy e=>ae))
theorem Tv{u:Nat}(E:En V b h s X I s2 k)(Q:k+6<=30000)(y:h[u]? =some (.C #[.U 9,.I 8,.U 0,.I 0,.U 0,.I 0,.B false,.U 0,.U 0,.S gg,.S gg,.B false,.U 0,.U 0,.S gg,.S gg,.I 0,.I 0,.I 0,.Z,.U 0,.U 0,.B false,.Z,.U 8,.I 7,.U 0,.I 0,.U 0,.I 0,.B false,.U 0,.U 0,.S gg,.S gg,.B false,.U 0,.U 0,.S gg,.S gg,.I 0,.I 0,.I 0,.Z,.U 0,.U 0,.B false,.Z] 30 (0,0)))(z: ¬X.M u)(B:Bx h X L)(P: ∀H a,En V b H s a I s4 (k+6)->Bx H a L->R (.T #[.I 1,.I 18]) H):Cl 22 #[pt s,.L (Sa u 0) 2 2] h R:=by
 refine C2.walk ⟨λt g=>(t=0/\∃a,En V b g s a I s2 k/\Bx g a L/\bA X h a g)\/(t=1/\∃a,En V b g s a I s4 (k+3)/\Bx g a L/\bA X h a g),λt _=>2 - t.toNat,.inl ⟨rfl,X,E,B,bA.refl _ _⟩,?_⟩;rintro t g (⟨rfl,C,o,m,S⟩|⟨rfl,C,o,m,S⟩)
 .have j:=S.fr.get y z;rw[gk];refine⟨dN,ax.2 ⟨_,ak j,_,ak j,_,ak j,_,ak j,_,ak j,_,ak j,_,ak j,_,ak j,_,ak j,_,ak j,_,ak j,_,ak j,_,ak j,_,ak j,_,ak j,_,ak j,_,ak j,_,ak j,_,ak j,_,_,_,ak j,_,ak j,_,ak j,_,ak j,_,_,_,ak j,?_⟩⟩;refine aR.fY (x:=(ev 9 8 0 []).s none 0 none 0) λD O M v F=>aR.fN (x:=(ev 9 8 0 []).s none 0 none 0) v ?_
  refine Cf (x:=ev 9 8 0 []) (o.on F) ae Qm (bm _) Qm (bm _) dN dN (m.on F) λG r J q3 K l n A=> ?_
  rw[a4]at l;rw[a4,dB];exact⟨.inr ⟨rfl,r,l,λe w=>n e (cv _ w),(S.on F).trans A⟩,by show 2 - (IntKind.wrap .i64 (0+1)).toNat<2 - (0:Int).toNat;decide⟩
 .have j:=S.fr.get y z;rw[gk];refine⟨dN,ax.2 ⟨_,ak j,_,ak j,_,ak j,_,ak j,_,ak j,_,ak j,_,ak j,_,ak j,_,ak j,_,ak j,_,ak j,_,ak j,_,ak j,_,ak j,_,ak j,_,ak j,_,ak j,_,ak j,_,ak j,_,_,_,ak j,_,ak j,_,ak j,_,ak j,_,_,_,ak j,?_⟩⟩;refine aR.fY (x:=(ev 8 7 0 []).s none 0 none 0) λD O M v F=>aR.fN (x:=(ev 8 7 0 []).s none 0 none 0) v ?_
  refine Cf (x:=ev 8 7 0 []) (o.on F) ae Qm (bm _) Qm (bm _) dN dN (m.on F) λG r J q3 K l n A=> ?_
  rw[a5]at l;rw[a5,gk];exact P G r l λe w=>n e (cv _ w)
theorem Qo(U:Cb.lO V b)(mx:lM.Mx b)(u:Fr No b h)(hk: iq h R (.B true)):Cl 7 #[] h R:=by
 refine Io.walk (wH λi f1=>az.ex Km.s ⟨rfl,dM.gL Km (λ_ h2 s X I H2 u2=>⟨_,_,rfl,aH.of λf' hJ=> ?_⟩) (λd'=>absurd Cd d')⟩);have T:=Ask.En.Qi (U.mono u) (mx.on u) f1 H2 u2;rw[dB];subst hJ;dsimp only;rw[af bV];refine Cf (x:=ev 3 1 5 []) (p:=none) (c:=0) (q:=none) (d:=0) T ae Qm (bm _) Qm (bm _) dN dN (L:= []) (λe he=>by cases he) λh3 X3 b3 q3 d3 r l m'=> ?_
 rw[a1]at r l;rw[a1];dsimp only at r l⊢;refine iE.SN (bs:= [120]) rfl λh4 e' A=>Qn λh5 b5 c' v=>av.ex (UF.s (Sa b5 0) 1) ⟨rfl,?_⟩
 have E:=r.on (A.tt v);have P:=l.on (A.tt v);refine Bn.zS (b:=UF) ⟨dN,dN,dN⟩ E.U E.u.fr E.Rx (Ask.Uq c' (e'.frame v bX) dN) dN (λh' hb=>by rw[bP.1 hb];decide) (λl' K hl h6 p6 c6 O n6 C=>⟨_,_,_,_,rfl,?_⟩) (λJ=>by rw[Wk]at J;cases J);rw[Wk]at K;cases K;have Z:=E.on C;have Q:=P.on C;refine Cf (x:=ev 4 5 0 dX) (p:=none) (c:=0) (q:=p6) (d:=c6) Z ae Qm (bm _) ⟨O.iy,λ_ z hz w=>gG (n6 z hz) (E.H.lt z (.inl w))⟩ O.le dN dN Q λh7 X7 b7 q7 d7 t m n'=> ?_
 rw[a2]at t m;rw[a2];dsimp only at t m⊢;refine Cf (x:=ev 3 7 0 []) (p:=none) (c:=0) (q:=none) (d:=0) t ae Qm (bm _) Qm (bm _) dN dN m λh8 X8 b8 q8 d8 j n o'=> ?_
 rw[a3]at j n;rw[a3];dsimp only at j n⊢;refine Nn (p:=none) (c:=0) (q:=none) (d:=0) (ev 0 7 0 []) λh9 D=>ar.ex .z ⟨_,rfl,ar.fY (x:=.z) λi' G j' k' y=>cK ?_⟩
 have a':Fr No G (G.push (.C #[.U 9,.I 8,.U 0,.I 0,.U 0,.I 0,.B false,.U 0,.U 0,.S gg,.S gg,.B false,.U 0,.U 0,.S gg,.S gg,.I 0,.I 0,.I 0,.Z,.U 0,.U 0,.B false,.Z,.U 8,.I 7,.U 0,.I 0,.U 0,.I 0,.B false,.U 0,.U 0,.S gg,.S gg,.B false,.U 0,.U 0,.S gg,.S gg,.I 0,.I 0,.I 0,.Z,.U 0,.U 0,.B false,.Z] 30)):=Fr.push _ _;have F:=(D.tt y).tt a';have S:=j.on F;have M:=n.on F;refine Tv S ae bZ (λw=>gG (j.H.lt _ (.inl w)) ((D.tt y).1)) M λb' g' o B=>⟨_,_,rfl,?_⟩
 refine⟨_,ak (B.nth 2 rfl),?_⟩;rw[ag (by rfl)];refine⟨_,ak (B.nth 2 rfl),?_⟩;rw[ag (by rfl),ag (by rfl)];refine⟨_,ak (B.nth 1 rfl),?_⟩;rw[ag (by rfl),ag (by rfl)];refine ax.2 ⟨_,ak o.H.cW,?_⟩;rw[ag (by rw[a6.1];rfl),ag (by rfl),ag (by rfl),ag (by rfl),ag (by rfl)];refine ax.2 ⟨_,ak o.H.cW,?_⟩;rw[a6.2];exact hk b' o.u.fr

end CI
end
section
namespace CI
open jA (Ev lL)
open dM (SS Good Pt pG Mk Bk)
open Go.Proofs.YtimiaphmdidfhaaGreatDoor.Ask (En rS Rw Bx wH Cd lR Km)
open Go.fV (RD)
variable {h a H:aj} {R:fD} {s k c d:Nat} {p q:ck} {x:oS} {L:List (Nat × ar.S)}
structure EV where
 x:oS
 p:ck
 c:Nat
 q:ck
 d:Nat
abbrev EV.cs(f:EV):aR.S:=f.x.s f.p f.c f.q f.d
abbrev Np(f:EV):List Value:=f.cs.l
theorem Qp(f:EV):(Np f).length=24:=rfl
structure EV.ok (h:aj) (f:EV):Prop where
 r1:Row h f.p (bc f.x.jr.mz)
 c1:f.x.jr.mz.length<=f.c
 r2:Row h f.q (bc f.x.data)
 c2:f.x.data.length<=f.d
 w1:0<=f.x.jr.ep.gy
 w2:0<=f.x.jr.dest.gy
theorem UG:vu Tryz.prog 8 30=some [23,3,23,3,23,3,4,23,23,9,9,4,23,23,9,9,3,3,3,26,23,23,4,26]:=dz
theorem qO.Qq{n:Nat}{v:Value}(f:qO Tryz.prog h n 26 [v]): ∃p c b,v=.slice p (b:cM).length c/\Row h p (bc b)/\b.length<=c:=by
 obtain⟨p,c,b,rfl,m⟩:=qO.bytes dz iE.u8 iE.uU f;refine⟨p,c,b,rfl,m,?_⟩;cases n with
 |zero=>exact f.elim
 |succ n=>
  unfold qO at f;rw[iE.uU]at f;rcases f with g|⟨A,l,C,g,H,_⟩
  .injection g with e _
   injection e with E i j
   omega
  .injection g with e _
   injection e with E i j
   omega
theorem RV{m : Nat}{v : Value}(b : qO Tryz.prog h m 9 [v]): ∃ s, v = .string s := by
  cases m with
  | zero => exact b.elim
  | succ m =>
    unfold qO at b
    rw [show Tryz.prog.underlying 9 = some .string by kernel_rfl] at b
    obtain ⟨s, e, _⟩ := b
    exact ⟨s, by simpa using e⟩
theorem Qr(n:Nat)(C:List Value)(b:C.length=24)(r:qO Tryz.prog h n 30 C): ∃f:EV,C=Np f/\f.ok h:=by
 have L:=Au 8 n _ _ C UG (by rw[b];rfl) r
 match C,b with
 | [v0,v1,v2,v3,v4,v5,v6,v7,v8,v9,d',e',f',g',h',i',j',k',l',m',n',o',p',q'],_=>
  obtain⟨K,rfl,w0⟩:=L.int 0 rfl rfl (k:=.u64) dz;obtain⟨t,rfl,_⟩:=L.int 1 rfl rfl (k:=.i64) dz;obtain⟨e,rfl,w2⟩:=L.int 2 rfl rfl (k:=.u64) dz;obtain⟨I,rfl,_⟩:=L.int 3 rfl rfl (k:=.i64) dz;obtain⟨j,rfl,w4⟩:=L.int 4 rfl rfl (k:=.u64) dz;obtain⟨J,rfl,_⟩:=L.int 5 rfl rfl (k:=.i64) dz;obtain⟨M,rfl⟩:=L.bool 6 rfl rfl dz;obtain⟨O,rfl,_⟩:=L.int 7 rfl rfl (k:=.u64) dz;obtain⟨P,rfl,w8⟩:=L.int 8 rfl rfl (k:=.u64) dz;obtain⟨_,Z⟩:=L.get 9 rfl rfl;obtain⟨Q,rfl⟩:=RV Z;obtain⟨_,S⟩:=L.get 10 rfl rfl;obtain⟨u,rfl⟩:=RV S;obtain⟨v,rfl⟩:=L.bool 11 rfl rfl dz;obtain⟨w,rfl,_⟩:=L.int 12 rfl rfl (k:=.u64) dz;obtain⟨y,rfl,a'⟩:=L.int 13 rfl rfl (k:=.u64) dz;obtain⟨_,T⟩:=L.get 14 rfl rfl;obtain⟨z,rfl⟩:=RV T;obtain⟨_,U⟩:=L.get 15 rfl rfl;obtain⟨A,rfl⟩:=RV U;obtain⟨D,rfl,_⟩:=L.int 16 rfl rfl (k:=.i64) dz;obtain⟨E,rfl,_⟩:=L.int 17 rfl rfl (k:=.i64) dz;obtain⟨F,rfl,_⟩:=L.int 18 rfl rfl (k:=.i64) dz;obtain⟨_,V⟩:=L.get 19 rfl rfl;obtain⟨p,c,B,rfl,r1,m⟩:=qO.Qq V;obtain⟨g,rfl,b'⟩:=L.int 20 rfl rfl (k:=.u64) dz;obtain⟨i,rfl,c'⟩:=L.int 21 rfl rfl (k:=.u64) dz;obtain⟨G,rfl⟩:=L.bool 22 rfl rfl dz;obtain⟨_,X⟩:=L.get 23 rfl rfl;obtain⟨q,d,l,rfl,r2,o⟩:=qO.Qq X;obtain⟨K,rfl⟩:=eL (wf_u64 w0).1;obtain⟨e,rfl⟩:=eL (wf_u64 w2).1;obtain⟨j,rfl⟩:=eL (wf_u64 w4).1;obtain⟨g,rfl⟩:=eL (wf_u64 b').1;obtain⟨i,rfl⟩:=eL (wf_u64 c').1;exact⟨⟨⟨K,t,e,I,⟨j,J,⟨M,O,P,Q,u⟩,⟨v,w,y,z,A⟩,D,E,F,B,g,i,G⟩,l⟩,p,c,q,d⟩,rfl,⟨r1,m,r2,o,(wf_u64 w8).1,(wf_u64 a').1⟩⟩
theorem Qs{l:Nat}(j:pf Tryz.prog h 22 (.L p l c)): ∃fs:List EV,fs.length=l/\Row h p (fs.flatMap Np)/\∀f∈fs,f.ok h:=by
 obtain⟨X,H,_,_,b,e⟩:=pf.slice (e:=30) Np 24 (λf=>f.ok h) dz (λ_=>rfl) (λn C g i=>Qr n C g i) dz j;exact⟨X,H,b,e⟩
theorem Iq(f:EV)(l: ∀a b,Fr No h a->R (.B b) a):Cl 6 #[f.cs.agg] h R:=by
 refine Im.walk (aR.da (x:=f.cs) λb H r j m=>Mr j (Il.walk (aI.da (x:=f.x.jr.s f.p f.c) λB e u g i=>⟨_,_,_,ak g,?_⟩)));have F:=m.tt i;have E: ∀v:Bool,∃t,Value.bool v=.B t/\if t=true then R (.B true) e else∃o T n,aY e (AA b 23)=some (.L o T n)/\R (.B (decide (((T:Nat):Int)>1300))) e:=by
  intro v;refine⟨v,rfl,?_⟩;split
  .exact l e _ F
  .exact⟨_,_,_,ak (i.get j id),l e _ F⟩
 split
 .exact E _
 .exact⟨_,ak g,_,ak g,_,ak g,_,ak g,E _⟩

end CI
end
section
namespace CI
open dM (SS Good)
open fw (fw lY Pr iY)
open Go.Proofs.YtimiaphmdidfhaaGreatDoor.Ask (Rq CS lR jS)
open Go.fV (RD)
open Go.kA (E fU keys)
variable {V:cM→Bool} {σ:SS} {k:Nat} {x:oS} {C D:gm.CF} {n:Int} {L:List E} {A:List fw} {m:Int}
theorem Cg(L:List E)(k:Int):(fU L k).Sublist L:=cS
theorem Ir: ∀(K:List Int)(s:gm.CF),(K.foldl gm.jC s).E1.Sublist s.E1/\(K.foldl gm.jC s).E2.Sublist s.E2
 | [],s=>⟨List.Sublist.refl _,List.Sublist.refl _⟩
 |k::K,s=>by
  obtain⟨a,b⟩:=Ir K (gm.jC s k);exact⟨a.trans (Cg _ _),b.trans (Cg _ _)⟩
theorem Is: ∀(K:List Int)(s:gm.CF),(K.foldl (λs k=>gm.oG s k.toNat) s).E1=s.E1/\(K.foldl (λs k=>gm.oG s k.toNat) s).E2.Sublist s.E2
 | [],s=>⟨rfl,List.Sublist.refl _⟩
 |k::K,s=>by
  obtain⟨a,b⟩:=Is K (gm.oG s k.toNat);exact⟨a,b.trans (Cg _ _)⟩
def late(n:Int)(L:List E):Prop:= ∀e∈L,cf.jI n e=false
theorem late.rest(h:Go.kA.jz L):late n (cf.rest L n):=λe H=>by
 rw[(gm.gx h).2]at H;simpa using (bj.1 H).2
theorem late.split(h:late n L):cf.due L n= []/\cf.rest L n=L:=
 cf.DN (D:= []) (T:=L) (λ_ h=>by cases h) (λe r q=>h e (by rw[q];exact dj))
theorem Nq(O:gm.Ord C):late n (gm.jo C n).E1/\late n (gm.jo C n).E2:=by
 unfold gm.jo;obtain⟨a,b⟩:=Ir (keys (cf.due C.E1 n)) { C with E1:=cf.rest C.E1 n };generalize (keys (cf.due C.E1 n)).foldl gm.jC { C with E1:=cf.rest C.E1 n } =s1 at a b⊢;obtain⟨c,d⟩:=Is (keys (cf.due s1.E2 n)) { s1 with E2:=cf.rest s1.E2 n };refine⟨λe h=> ?_,λe h=> ?_⟩
 .dsimp only at h;rw[c]at h;exact late.rest O.o1 e (a.subset h)
 .exact late.rest (fj b O.o2) e (d.subset h)
theorem Nr(h:late n D.E1)(H:late n D.E2):gm.jo D n=D:=by
 unfold gm.jo;obtain⟨a1,a2⟩:=h.split;rw[a1,a2];show(keys (cf.due D.E2 n)).foldl _ { D with E2:=cf.rest D.E2 n } =D;obtain⟨b,B⟩:=H.split;rw[b,B];rfl
theorem Ko{B:hZ.BS}{n:Nat}:dM.lQ (dM.lQ B n) n=dM.lQ B n:=by
 have e: ∀l:List hZ.It,(l.filter (λx=>decide ((n:Int)<(x.fa:Int)))).filter (λx=>decide ((n:Int)<(x.fa:Int)))=l.filter (λx=>decide ((n:Int)<(x.fa:Int))):=λl=>by
  rw[gI];congr 1;funext x;simp
 have E: ∀l:List hZ.It,(l.filter (λx=>decide ((n:Int)<(x.fa:Int)))).filter (λx=>decide ((x.fa:Int)<=(n:Int)))= []:=λl=>by
  rw[gI];refine List.filter_eq_nil_iff.2 λx _=> ?_
  simp only[aU,aX];omega
 unfold dM.lQ;dsimp only;rw[e,E];rfl
theorem up_down:Pr (iY A) m=false:=by
 have e:lY (iY A) m=(lY A m).map λs=> { s with up:=false } :=by
  unfold lY iY;split
  .rw[aD]
  .rfl
 unfold Pr;rw[e];cases lY A m<;>rfl
theorem Kq{q:Rq}(h:jS q=true):q.kind<=12:=by
 unfold jS at h;simp only[aU]at h;have p:=h.1.2;unfold Ask.lW at p
 repeat' split at p
 all_goals (try (simp only[aX]at p));omega
abbrev Tw(a:Nat):oS:=⟨a,8,0,0,Rq.none, []⟩
def oK(σ:SS):SS:= { dM.oJ σ σ.now with A:=iY σ.A }
theorem Tx(h:σ.now<=1099511627776):gF V σ (Tw σ.now)=⟨oK σ,0,RD.zero⟩:=by
 have r:mU V (Tw σ.now)=true:=by
  unfold mU;rw[aw (show(Tw σ.now).now<=1099511627776 from h),aw (show Tw σ.now=rZ (Tw σ.now)from rfl)];rfl
 have p:dM.mO σ (Tw σ.now).now=0:=by
  unfold dM.mO;rw[af (by show¬σ.now>_;omega),af (by show¬σ.now<σ.now;omega)]
 unfold gF;rw[ag r,ag p];rfl
theorem Kr(j:σ.now<=1099511627776)(O:gm.Ord σ.C)(H:x.now=σ.now)(h:x.kind=4)(r:mU V x=true):gF V (oK σ) x=⟨oK σ,0,lR x.jr.id 16⟩:=by
 have e:dM.oJ (oK σ) x.now=oK σ:=by
  obtain⟨a,b⟩:=Nq (n:=(σ.now:Int)) O;rw[H];show({ A:=iY σ.A,G:=σ.G,C:=gm.jo (gm.jo σ.C σ.now) σ.now,B:=dM.lQ (dM.lQ σ.B σ.now) σ.now,Q:=(dM.lQ (dM.lQ σ.B σ.now) σ.now).items,e:=σ.e,tm:=σ.tm,sq:=σ.sq,now:=σ.now,rf:=σ.rf } :SS)=_;rw[Nr a b,Ko];rfl
 have p:dM.mO (oK σ) x.now=0:=by
  unfold dM.mO;rw[H,dB,af (by show¬σ.now<σ.now;omega)]
 have q:jS x.jr=true/\x.jr.kind<11:=by
  have R:=r;unfold mU r8 at R;rw[af (by rw[h];decide),af (by rw[h];decide),ag h]at R;simp only[aU,dv,ff]at R;refine⟨R.2.1.1.2,?_⟩;have f:=R.2.1.2;have g:=R.2.2;have i:x.jr.kind<=12:=Kq R.2.1.1.2;omega
 have d:CS V (oK σ) x.ses x.jr=(oK σ,lR x.jr.id 16):=(ag q).trans (af (by
  show¬Pr (iY σ.A) x.ses=true;rw[up_down];decide))
 have c:iw V (oK σ) x=⟨oK σ,0,lR x.jr.id 16⟩:=by
  unfold iw;rw[af (by rw[h];decide),af (by rw[h];decide),af (by rw[h];decide),ag h,d]
 unfold gF;rw[ag r,ag p,e,c];rfl

end CI
end
section
namespace Ask
open jA (Ev lL)
open dM (SS Good Pt pG Mk Bk)
open iE
variable {V:cM→Bool} {h d H f g:aj} {R:fD} {s k c:Nat} {X:Ft} {I:pG} {a:SS} {p q:ck}
variable {l:Nat} {b:List (cM)}
theorem BL.qU{S:Nat->Prop}(B:BL H h p l c b)(F:Fr S h d)(m: ∀y,H.size<=y->¬S y):BL H d p l c b:=by
 obtain⟨u,D,f,n,o,r,i,j⟩:=B;exact⟨u,D,f,n.frame F (λy e=>m y (j y e)),o,λx t=>(r x t).frame F (λy e=>m y (i y e).1),λy e=>⟨(i y e).1,cA (i y e).2.1 F.1,(i y e).2.2⟩,j⟩
theorem Sr{G n:aj}{m e:Nat}{i:List (cM)}(B:BL G h p l c b)(C:BL n h q m e i)(r:i=b)(w:b.length<=1000000)(o:R (.B true) h):Cl 12 #[.L p l c,.L q m e] h R:=by
 subst r;have v:=B.len;obtain⟨x,t,E⟩:=B.KZ;obtain⟨y,u,j⟩:=C.KZ;refine iE.ji t u ae ?_;rw[E,j,aw rfl];exact o
def Iu(a:SS):List (cM):=dM.K3 a::dM.PX a
theorem wG(E:En V H h s X I a k):(Iu a).length<=1000000:=by
 have m:=fw.wG E.G.a;have M:=E.G.a.le;have e:=E.G.g.len;have i:(gm.wE a.C).length=a.C.L.length+1:=by unfold gm.wE;simp
 have j:=E.G.c.L;have n:(hZ.wF a.B).length=a.B.items.length+1:=by unfold hZ.wF;simp
 obtain⟨L,o⟩:=E.H.okB;have r:=o.le;have:=E.hk;unfold Iu dM.PX;simp only[bf,au,ay];omega

end Ask
end
section
variable {h:aj} {R:fD}
theorem x5.walk{L:ck}{l y':Nat}{r:aR.S} (hv:bh h (.C r.arr 30) λb k'=>Cl 5 #[] k' λV' p'=>az.EX λF=>V'=F.agg/\Cl 4 #[F.agg] p' λX' e=> ∃t G,X'=.T #[.pointer t,.I G]/\aH (λ(F':Bool) (v:aj)=>if F' then R (.B false) v else∃(I:Int->aj->Prop)(M:Int->aj->Nat),I 0 v/\∀(i:Int)(f:aj),I i f->aH (λ(G':Bool) (g:aj)=>if G' then aH (λ(J':Bool) (o:aj)=>if J' then Cl 7 #[] o λa4 x'=> ∃Q,a4=.B Q/\R (.B Q) x' else Bd i l/\aM L λc'=>aR.cN o (c'.add (toNat i*24)) λK'=>Cl 8 #[.pointer t,K'.agg] o λa5 w=>ar.EX λL'=> ∃M',a5=.T #[L'.agg,.I M']/\(I (wrap .i64 (i+1)) w/\M (wrap .i64 (i+1)) w<M i f)) (λq=>Bd i l/\aM L λd'=>aR.cN g (d'.add (toNat i*24)) λH'=>Cl 6 #[H'.agg] g λa6 k=> ∃O,a6=.B O/\if O then q true k else aR.cN k (AA b 0) λI'=>Cl 6 #[I'.agg] k λa7 l'=> ∃P,a7=.B P/\q P l')else aM t λe'=>gK g (e'.add 6) λO'=>Cl 8 #[.pointer t,.agg #[.U O',.I 8,.U 0,.I 0,.U 0,.I 0,.B false,.U 0,.U 0,.S gg,.S gg,.B false,.U 0,.U 0,.S gg,.S gg,.I 0,.I 0,.I 0,.Z,.U 0,.U 0,.B false,.Z]] g λa8 m'=>ar.EX λS=> ∃U,a8=.T #[S.agg,.I U]/\ar.NW m' λj' n'=>ar.dw n' (AA j' 0) S λm=>if(U !=0)then R (.B false) m else aM t λf'=>zM m f' λP'=>Cl 9 #[.pointer P'] m λa9 o'=>Vl a9 λQ' V _=> ∃(j:Int->aj->Prop)(x:Int->aj->Nat),j 0 o'/\∀(c:Int)(a:aj),j c a->if(decide (c<(V:Int)))then Bd c V/\aM Q' λg'=> ∃X,aY a ((g'.add (toNat c*6)).add 2)=some (.B X)/\if X then R (.B false) a else(j (wrap .i64 (c+1)) a/\x (wrap .i64 (c+1)) a<x c a)else Cl 10 #[.pointer t] a λb0 u=>Vl b0 λT' S' R'=>aM t λh'=> ∃Z,aY u (h'.add 6)=some (.U Z)/\aT u (AA b 0) (.U Z) λd=>aH (λ(z':Bool) (n:aj)=>if z' then Cl 7 #[] n λb1 q'=> ∃T,b1=.B T/\R (.B T) q' else aR.cN n (AA b 0) λA'=>Cl 8 #[.pointer t,A'.agg] n λZ' r'=>ar.EX λy=> ∃z,Z'=.T #[y.agg,.I z]/\ar.NW r' λB s'=>ar.dw s' (AA B 0) y λt'=>Cl 7 #[] t' λa0 H=> ∃A,a0=.B A/\if A then if(z==0)then∃C,Cc H B 1 (.I C)/\if(C==16)then Hu H B 0 λB'=> ∃D,Cc H b 4 (.U D)/\if(B'==D)then Cl 10 #[.pointer t] H λa1 u'=>Vl a1 λE' D' C'=>Cl 12 #[.L T' S' R',.L E' D' C'] u' λa2 v'=> ∃E,a2=.B E/\R (.B E) v' else R (.B false) H else R (.B false) H else R (.B false) H else R (.B false) H) (λs=> ∃a',Cc d b 1 (.I a')/\if(a' !=4)then s true d else aR.cN d (AA b 0) λU'=>Cl 11 #[U'.agg] d λa3 w'=> ∃b',a3=.B b'/\s (!b') w')) (λp=>if(decide (i<(l:Int)))then p (decide (i<40)) f else p false f)) (λJ=>if(G !=0)then J true e else if t.isNone then J true e else aM t λi'=> ∃K,aY e i'=some (.pointer K)/\J K.isNone e)):Cl 3 #[.L L l y',r.agg] h R:=aP (lq (lq (sq (sq (.join [(32,.one (.bool))] lf) (cq ll lf)) (sq (lq (bq (.loop [(7,.one (.int .i64))] (sq (sq (.join [(40,.one (.bool))] lf) (cq lf lf)) (sq (bq (sq (sq (.join [(51,.one (.bool))] lf) (cq ll lf)) lf)) lf))))) (sq (lq (lq (cq ll lf))) (lq (sq (lq (bq (.loop [(11,.one (.int .i64))] (sq (lq (cq lf lf)) (sq (bq (lq (cq ll lf))) lf))))) (lq (lq (sq (sq (.join [(101,.one (.bool))] lf) (cq ll lf)) (lq ll))))))))))) Tryz.func3 hv

end
section
namespace CI
open jA (Ev lL)
open dM (SS Good Pt pG Mk Bk)
open iE
open Go.Proofs.YtimiaphmdidfhaaGreatDoor.Ask (En rS Rw Bx wH Cd lR Km Iu wG BL.qU Sr Rq)
open Go.fV (RD)
variable {V:cM→Bool} {h H f g:aj} {R:fD} {s k c d:Nat} {X b:Ft} {I:pG} {a:SS} {p q:ck} {x:oS} {L:List (Nat × ar.S)}
theorem Ns{C:Array Value}(j:C.size=Tryz.prog.cellsOf 30)(m:pf Tryz.prog h 30 (.agg C)): ∃F:EV,Value.agg C=F.cs.agg/\F.ok h:=by
 obtain⟨n,i⟩:=m;obtain⟨F,e,o⟩:=Qr n C.toList (by rw[ee,j];kernel_rfl) i;refine⟨F,?_,o⟩;obtain⟨l,rfl⟩: ∃l:List Value,C=l.toArray:=⟨C.toList,bV⟩;rw[List.toList_toArray]at e;rw[e]
theorem _root_.Go.Proofs.YtimiaphmdidfhaaGreatDoor.arriveDown_ok(lp:ck)(ll lc:Nat)(rs:Array Value)(hv:pf Tryz.prog h 22 (.L lp ll lc))(sr:rs.size=Tryz.prog.cellsOf 30)(hr:pf Tryz.prog h 30 (.agg rs))(tb:lM.oD h)(ut: ∃V,Cb.lO V h)(mx:lM.Mx h):NZ Tryz.prog 3 #[.L lp ll lc,.agg rs] h:=by
 obtain⟨fs,rfl,m',w'⟩:=Qs hv;obtain⟨r,er,A⟩:=Ns sr hr;obtain⟨V,U⟩:=ut;clear hv;rw[er];clear hr sr er;unfold NZ;generalize hR:(λ(v:Value) H=>v=.B true/\Fr No h H)=R;have hk: ∀H,Fr No h H->R (.B true) H:=λH hf=>by rw[<-hR];exact⟨rfl,hf⟩
 clear hR;refine x5.walk (aR.da (x:=r.cs) λa' d' eb j' fb=>wH λf t=>az.ex Km.s ⟨rfl,dM.gL Km (λ_ h2 s X I H2 J=>⟨_,_,rfl,aH.of λA' hJ=> ?_⟩) (λy'=>absurd Cd y')⟩);have l:=Ask.En.Qi U mx (fb.tt t) H2 J;rw[dB,af bV];refine ax.2 ⟨_,ak H2.cW,?_⟩;subst hJ;dsimp only;rw[af bV];have zb:=aC j';have l': ∀{g:aj}{X:Ft},KA d' X g->¬X.M a':=λu C=>by have:=u.ge a' (.inl C);omega
 have uF:KA d' X h2:=⟨t.tt J.fr,λc hc=>cE t.1 (J.ge c hc)⟩;refine⟨λi g=> ∃(j:Nat)(b:Ft)(a:SS),i=(j:Int)/\j<=fs.length/\j<=40/\En V h g s b I a (3*j)/\KA d' b g/\aR.fR g a' r.cs,λi _=>41 - i.toNat,⟨0,X,_,rfl,bL _,bL _,l,uF,(t.tt J.fr).get j' id⟩,?_⟩;rintro _ g ⟨j,X1,a,rfl,hj,B',E,u,hb⟩;refine aH.of λJ1 h'=> ?_
 have c': ∀{g:aj}{X1:Ft}{a:SS}{k:Nat},En V h g s X1 I a k->∀{pp:ck}{dd:cM},Row h pp (bc dd)->Rw g X1 pp dd:=λE _ _ r=>⟨r.frame E.u.fr bX,λhd z T C=>by
  have:=iZ r (by simpa[bc]using hd) T;have:=E.u.ge z (.inl C);omega⟩
 have al: ∀{g:aj}{f':fD},Fr No h g->(∀G,Fr No g G->f' (.B true) G)->Cl 7 #[] g f':=λF hK=>Qo U mx F hK
 have e':J1 false g:=by
  subst h';dsimp only;rw[dB];have Gn:=E.G.n;have Go:=E.H.ord;have a8:=Tx (V:=V) (σ:=a) Gn;refine ax.2 ⟨_,ak E.H.cW,Cf (x:=Tw a.now) (p:=none) (c:=0) (q:=none) (d:=0) E ae Qm (bm _) Qm (bm _) (eu _) (eu _) (L:= []) (λe he=>by cases he) λg1 X2 b1 q1 d1 K B1 n'=> ?_⟩;rw[a8]at K;rw[a8,af (show¬((0:Int) !=0)=true by decide)];have s':=n'.fr.get hb (l' u);have u1:=u.step n';obtain⟨Y,hp,_⟩:=id K.H;refine ax.2 ⟨_,ak K.H.cW,fw.sy (hp 0) K.G.a λo p2 l2 c2 S2 w=>⟨_,_,_,rfl,?_⟩⟩;have l:=K.on w;have t':=w.get s' id;have J:=u1.on w;obtain⟨Z,z',rfl,own,g',_⟩:=S2;have up: ∀z∈Z,z.up=false:=λz T=>by
   have:z.abs∈(oK a).A:=by rw[<-g'];exact bz T
   obtain⟨y,_,D⟩:=bp.1 this;exact(bQ (·.up) D).symm
  have xl:Z.length<=8:=by
   have:=bQ List.length g';rw[ay]at this;have:=K.G.a.le;omega
  refine⟨λi G=>G=o/\∃j:Nat,i=(j:Int)/\j<=Z.length,λi _=>Z.length - i.toNat,⟨rfl,0,rfl,bL _⟩,?_⟩;rintro _ G ⟨eg,m,rfl,C⟩;rw[eg];clear eg G;by_cases hl:m<Z.length
  .rw[gk];obtain⟨z,T⟩: ∃z,Z[m]? =some z:=⟨_,ai hl⟩;obtain⟨P,rfl⟩: ∃P,p2=some P:=own.iy.some (λe=>by
    have:=bQ List.length e;rw[eO fw.Tn 6 (λ_=>rfl)]at this;simp at this;omega)
   have hc:=(own.iy.fP fw.HX T).2.2.1;refine⟨ae,ax.2 ⟨_,hc,?_⟩⟩;rw[af (by rw[up z (aK T)];decide),bC ae ae];exact⟨⟨rfl,m+1,rfl,ae⟩,by show _ - Int.toNat ((m:Int)+1)<_ - Int.toNat (m:Int);omega⟩
  rw[dB];refine dM.mf l.H l.G l.hk (tb.on l.u.fr) λg3 p3 l3 c3 B3 f3=>⟨_,_,_,rfl,?_⟩
  have n:=l.on f3;have u':=f3.get t' id;have u3:=J.on f3;refine ax.2 ⟨_,ak n.H.cW,Bm (z:=({ r.x with now:=a.now } :oS).s r.p r.c r.q r.d) u' dN rfl λg4 b' f4=>aH.of λJ3 i'=> ?_⟩;have nz: ∀y,X2.M y\/X2.D y->¬y=a':=λy D e=>by have:=u3.ge y D;omega
  have q':Fr No h g3:=n.u.fr;have O:Fr No h g4:=q'.fresh f4 (λy e=>bR fb.1);have E4:En V h g4 s X2 I (oK a) (3*j+3):=⟨n.H.frame f4 nz,n.G,n.hk,⟨O,n.u.ge⟩,n.U,n.mx⟩;have B4:BL o g4 p3 l3 c3 (Iu (oK a)):=BL.qU B3 f4 (λy D e=>bR J.fr.1);have jt: ∀S,Fr No g4 S->J3 true S:=by
   intro S B;subst i';dsimp only;rw[ag rfl];exact al (O.tt B) λg6 f6=>⟨_,rfl,hk g6 ((O.tt B).tt f6)⟩
  refine⟨_,ak b',?_⟩;by_cases k4:r.x.kind=4
  case neg=>rw[ag (cI k4)];exact jt g4 (Fr.refl _ _)
  rw[af (cI k4)];have x':({ r.x with now:=a.now } :oS).kind=4:=k4;refine aR.fN (x:=({ r.x with now:=a.now } :oS).s r.p r.c r.q r.d) b' (DM ({ r.x with now:=a.now } :oS) U O E4.Rx (A.r1.frame O bX) (A.r2.frame O bX) A.c2 λS B=>⟨_,rfl,?_⟩);cases cr:mU V ({ r.x with now:=a.now } :oS)with
  |false=>exact jt S B
  |true=>
  show J3 false S;subst i';try dsimp only
  rw[dB];have E5:=E4.on B;have ad:=Kr (V:=V) (x:=({ r.x with now:=a.now } :oS)) Gn Go rfl k4 cr;refine aR.fN (x:=({ r.x with now:=a.now } :oS).s r.p r.c r.q r.d) (B.get b' id) (Cf (x:=({ r.x with now:=a.now } :oS)) E5 ae (c' E5 A.r1) A.c1 (c' E5 A.r2) A.c2 A.w1 A.w2 (L:= []) (λe he=>by cases he) λg6 X6 b6 q6 d6 E6 B6 p'=> ?_);rw[ad]at E6 B6;have D:=B6.nth 0 rfl;refine al E6.u.fr λg7 f7=>⟨_,rfl,?_⟩
  have k':=f7.get D id;have v':=f7.get (p'.fr.get (B.get b' id) (λC=>nz a' (.inl C) rfl)) id;rw[ag rfl,ad,ag (by rfl)];refine⟨_,ak k',?_⟩;rw[ag (by rfl)];refine⟨_,ak k',_,ak v',?_⟩;rw[ag (by show((r.x.jr.id:Int)==(r.x.jr.id:Int))=true;simp)];have M:=E6.on f7;have B7:BL o g7 p3 l3 c3 (Iu (oK a)):=(BL.qU (B4.on B) p'.fr (λy D C=>l.nM D C)).on f7;refine dM.mf M.H M.G M.hk (tb.on M.u.fr) λg8 p8 l8 c8 B8 f8=>⟨_,_,_,rfl,Sr (B7.on f8) B8 rfl (wG M) ⟨_,rfl,?_⟩⟩
  exact hk g8 (M.u.fr.tt f8)
 by_cases hl:j<fs.length
 case neg=>rw[dB];exact e'
 rw[gk];by_cases h5:j<40
 case neg=>rw[aB ae];exact e'
 rw[aw ae];clear e';subst h';dsimp only;rw[ag rfl];obtain⟨F,hf⟩: ∃F,fs[j]? =some F:=⟨_,ai hl⟩;have Q:=w' F (aK hf);obtain⟨P,rfl⟩: ∃P,lp=some P:=m'.some (λe=>by
  have:=bQ List.length e;rw[eO Np 24 (λ_=>rfl)]at this;simp at this;omega)
 have rg: ∀G,Fr No h G->dP (P.add (j*24)) (Np F) 0 G:=λG fg=>(m'.frame fg bX).fP Qp hf
 refine aH.of λJ2 r'=>⟨ae,ax.2 (aR.lX (x:=F.cs) (rg g E.u.fr) (Iq F λg1 v t=>⟨_,rfl,?_⟩))⟩
 have key: ∀v o,Fr No g1 o->J2 v o:=by
  intro v o w;subst r';dsimp only;have l:=E.on (t.tt w);cases v with
  |true=>
   rw[ag rfl];exact al l.u.fr λg3 f3=>⟨_,rfl,hk g3 (l.u.fr.tt f3)⟩
  |false=>
  rw[dB];refine⟨ae,ax.2 (aR.lX (x:=F.cs) (rg o l.u.fr) (Ip l ae F.x (c' l Q.r1) Q.c1 (c' l Q.r2) Q.c2 Q.w1 Q.w2 λg3 X3 q3 d3 n o' _=>ar.ex (rS (gF V a F.x).y q3 d3) ⟨_,rfl,?_⟩))⟩;rw[bC ae ae];exact⟨⟨j+1,X3,_,rfl,ae,ae,n,(u.on (t.tt w)).step o',o'.fr.get ((t.tt w).get hb id) (l' u)⟩,by show 41 - ((j:Int)+1).toNat<41 - (j:Int).toNat;omega⟩
 cases v with
 |true=>rw[ag rfl];exact key true g1 (Fr.refl _ _)
 |false=>
  rw[dB];exact aR.fN (x:=r.cs) (t.get hb id) (Iq r λo v w=>⟨_,rfl,key v o w⟩)

end CI
end
theorem C4{H:Type}{E:TypeId×Value->H}{C:Checked}{o:Os}{f:FuncId}{F:Func}{s:ChangeSpec}{l:List PathCond}{A m n k:Bool}{a:Assume}{X:World->Array Value->Prop}(u: ∀(w p:World)(args:Array Value),w.heap=p.heap->X w args->X p args)(J:ownKnob C.prog.godebug=none)(K:o.Started)(I:C.prog.inits.idxOf? f=none)(x:C.prog.funcs[f]? =some F)(L: ∃(w:World)(T:Tape)(i:Input),w.os=o/\(w.forCall T i).Shaped C.prog/\i.vars= []/\Input.okWide C.prog (w.forCall T i) .any w.heap.size f i/\
   ((s.pre E C.prog F l A (w.forCall T i).memory i.args/\X (w.forCall T i).memory i.args)/\sizedMet E C.prog F (OpenSpec.ofChange s) A (w.forCall T i).memory i.args)/\a.holds C.prog (lone (Frame.enter C.prog f i.args .normal) [] (w.forCall T i)))(r: ∀(b:World)(q:Nat)(args:Array Value)(d G:List (DataW H))(B:List MemPlace),b.ShapedOpen C.prog->(∀(j:Nat) t v,F.params[j]? =some t->args[j]? =some v->Value.okWide C.prog b .any q t v)->
   DataW.Whole E C.prog F.params.toList s.vars A b args.toList d G B->X b args->Calls C.prog f args b λe c=> ∃v,e=.returned v/\s.post E C.prog F A m n k b args v c):
  ReturnsInHanded a C o f .any (λw args=>(s.pre E C.prog F l A w args/\X w args)/\sizedMet E C.prog F (OpenSpec.ofChange s) A w args) (s.post E C.prog F A m n k):=
 returnsInHanded_of_calls J K I L λw T i _ S _ O pre _=>by
  obtain⟨_,_,_,g,y,_,_,_,_,V⟩:=O;cases aZ (y.symm.trans x);obtain⟨⟨⟨d,G,B,z,_⟩,D⟩,_⟩:=pre;refine(r (w.forCall T i) w.heap.size i.args d G B S V (DataW.Whole.of_heap (w':=w.forCall T i) (by rfl) z) (u _ _ _ (by rfl) D)).mono λe c h=> ?_
  obtain⟨v,rfl,h⟩:=h;exact ChangeSpec.post_blind h
theorem lM.Mx.Nt{w:World}(h:w.ShapedOpen Tryz.prog):lM.Mx w.heap:=by
 obtain⟨m,H⟩:=cell_of_shapedOpen_int (g:=5) (t:=3) (zero:= #[.I 0]) (k:=.i64) h (aS dz) dz rfl dz dz dz;rw[kV]at H;exact⟨m,H⟩

section
namespace lM
theorem oD.wI{w:World}{l:List (String×DataW Unit)}{s:String}(k:Tryz.prog.globalNamed s=some 0)(h:laidMet Tryz.prog l w)(j:(s,Lib.tabData .u64 Lib.pow10Tab)∈l):oD w.heap:=by
 obtain⟨g,t,C,F,p,a,m,d,i⟩:=Lib.laidMet.reads h j;have a:Tryz.prog.globalNamed s=some g:=a;unfold World.var? at d;rw[a]at d;have H:(match w.heap[g]? with|some (.cells C _ _)=>some C|_=>none)=some C:=d;cases b:w.heap[g]? with
 |none=>rw[b]at H;cases H
 |some o=>
  rw[b]at H;cases o with
  |cells c T f=>
   obtain rfl:c=C:=aZ H;have E:g=0:=aZ (a.symm.trans k);subst E;refine⟨T,f,?_⟩;have n:t=328:=by
    have e:(Tryz.prog.globals[(0:Nat)]?).map (·.type)=some 328:=dz
    exact aZ (m.symm.trans e)
   subst n;have:=Lib.cells_of_tab (n:=20) (e:=23) dz dz dz dz i;rw[b,<-this]
  |_=>cases H

end lM
end
section
variable {h:aj} {R:fD}
theorem oU.walk{S:ck}{s i:Nat} (H:Bd 0 s/\aM S λa=>Kz h (a.add (toNat 0*1)) λT=>Bd 1 s/\aM S λA=>Kz h (A.add (toNat 1*1)) λj=>Bd 2 s/\aM S λb=>Kz h (b.add (toNat 2*1)) λk=>Bd 3 s/\aM S λc=>Kz h (c.add (toNat 3*1)) λl=>Bd 4 s/\aM S λd=>Kz h (d.add (toNat 4*1)) λm=>Bd 5 s/\aM S λe=>Kz h (e.add (toNat 5*1)) λn=>Bd 6 s/\aM S λf=>Kz h (f.add (toNat 6*1)) λo=>Bd 7 s/\aM S λg=> ∃t,aY h (g.add (toNat 7*1))=some (.int .u8 t)/\R (.U (wrap .u64 ((od (wrap .u64 ((od (wrap .u64 ((od (wrap .u64 ((od (wrap .u64 ((od (wrap .u64 ((od (wrap .u64 ((od (wrap .u64 T)|||od (wrap .u64 ((wrap .u64 j)*2 ^ min (toNat 8) (IntKind.bits .u64)))).toNat:Int))|||od (wrap .u64 ((wrap .u64 k)*2 ^ min (toNat 16) (IntKind.bits .u64)))).toNat:Int))|||od (wrap .u64 ((wrap .u64 l)*2 ^ min (toNat 24) (IntKind.bits .u64)))).toNat:Int))|||od (wrap .u64 ((wrap .u64 m)*2 ^ min (toNat 32) (IntKind.bits .u64)))).toNat:Int))|||od (wrap .u64 ((wrap .u64 n)*2 ^ min (toNat 40) (IntKind.bits .u64)))).toNat:Int))|||od (wrap .u64 ((wrap .u64 o)*2 ^ min (toNat 48) (IntKind.bits .u64)))).toNat:Int))|||od (wrap .u64 ((wrap .u64 t)*2 ^ min (toNat 56) (IntKind.bits .u64)))).toNat:Int))) h):Cl 311 #[.L S s i] h R:=aP (lq (sq (cq (sq (pN 23) lf) lf) (sq (pN 47) lf))) Tryz.func311 H
theorem vf.walk{K:ck}{f E:Nat} (hv:((0:Int)<=(f:Int)/\(f:Int)<=(E:Int))/\((0:Int)<=(f:Int)/\(f:Int)<=(f:Int))/\∃(I:ck->Nat->Nat->aj->Prop)(M:ck->Nat->Nat->aj->Nat),I (cT K (toNat (f:Int)) 0 1) (toNat (f:Int)) (toNat (f:Int)) h/\∀(a:ck)(p P:Nat)(e:aj),I a p P e->if(decide ((p:Int)>0))then aH (λ(L:ck) (G F:Nat) (y:aj)=>(I L G F y/\M L G F y<M a p P e)) (λJ=>Bd 0 p/\aM a λl'=> ∃T,aY e (l'.add (toNat 0*1))=some (.int .u8 T)/\if(decide (T<128))then((0:Int)<=1/\1<=(p:Int))/\aH (λ(b1:Bool) (n:aj)=>aH (λ(Z':ck) (S' M':Nat) (J':aj)=>J Z' S' M' J') (λr=>if b1 then((0:Int)<=8/\8<=((p - (toNat 1):Nat):Int))/\aH (λ(b3:Bool) (C:aj)=>aH (λ(a0:ck) (T' O':Nat) (K':aj)=>r a0 T' O' K') (λu=>if b3 then((0:Int)<=16/\16<=(((p - (toNat 1)) - (toNat 8):Nat):Int))/\∃(l:ck->Nat->Nat->aj->Prop)(D:ck->Nat->Nat->aj->Nat),l (cT (cT (cT a P (toNat 1) 1) (P - (toNat 1)) (toNat 8) 1) ((P - (toNat 1)) - (toNat 8)) (toNat 16) 1) (((p - (toNat 1)) - (toNat 8)) - (toNat 16)) (((P - (toNat 1)) - (toNat 8)) - (toNat 16)) C/\∀(g:ck)(d c:Nat)(k:aj),l g d c k->aH (λ(b7:Bool) (o:aj)=>if b7 then((0:Int)<=32/\32<=(d:Int))/\(l (cT g c (toNat 32) 1) (d - (toNat 32)) (c - (toNat 32)) o/\D (cT g c (toNat 32) 1) (d - (toNat 32)) (c - (toNat 32)) o<D g d c k)else u g d c o) (λv=>if(decide ((d:Int)>32))then((0:Int)<=8/\8<=(d:Int))/\((0:Int)<=16/\16<=(d:Int))/\((0:Int)<=24/\24<=(d:Int))/\Cl 311 #[.L g d c] k λc0 L'=>Vu c0 λb4=>Cl 311 #[.L (cT g c (toNat 8) 1) (d - (toNat 8)) (c - (toNat 8))] L' λc1 y'=>Vu c1 λb5=>Cl 311 #[.L (cT g c (toNat 16) 1) (d - (toNat 16)) (c - (toNat 16))] y' λc2 z'=>Vu c2 λb6=>Cl 311 #[.L (cT g c (toNat 24) 1) (d - (toNat 24)) (c - (toNat 24))] z' λc3 A'=> ∃g',c3=.U g'/\v ((wrap .u64 ((od (wrap .u64 ((od (wrap .u64 ((od b4|||od b5).toNat:Int))|||od (wrap .u64 ((od b6|||od g').toNat:Int))).toNat:Int)) &&& od 9259542123273814144).toNat:Int))==0) A' else v false k)else u (cT (cT a P (toNat 1) 1) (P - (toNat 1)) (toNat 8) 1) ((p - (toNat 1)) - (toNat 8)) ((P - (toNat 1)) - (toNat 8)) C)) (λs=>if(decide ((((p - (toNat 1)) - (toNat 8):Nat):Int)>16))then((0:Int)<=8/\8<=(((p - (toNat 1)) - (toNat 8):Nat):Int))/\Cl 311 #[.L (cT (cT a P (toNat 1) 1) (P - (toNat 1)) (toNat 8) 1) ((p - (toNat 1)) - (toNat 8)) ((P - (toNat 1)) - (toNat 8))] n λc4 B'=>Vu c4 λb2=>Cl 311 #[.slice (cT (cT (cT a P (toNat 1) 1) (P - (toNat 1)) (toNat 8) 1) ((P - (toNat 1)) - (toNat 8)) (toNat 8) 1) (((p - (toNat 1)) - (toNat 8)) - (toNat 8)) (((P - (toNat 1)) - (toNat 8)) - (toNat 8))] B' λc5 C'=> ∃f',c5=.U f'/\s ((wrap .u64 ((od (wrap .u64 ((od b2|||od f').toNat:Int)) &&& od 9259542123273814144).toNat:Int))==0) C' else s false n)else r (cT a P (toNat 1) 1) (p - (toNat 1)) (P - (toNat 1)) n)) (λq=>if(decide (((p - (toNat 1):Nat):Int)>8))then Cl 311 #[.L (cT a P (toNat 1) 1) (p - (toNat 1)) (P - (toNat 1))] e λc6 D'=> ∃e',c6=.U e'/\q ((wrap .u64 ((od e' &&& od 9259542123273814144).toNat:Int))==0) D' else q false e)else Bd T 256/\Kz e (((AA 3 0):Addr).add (toNat T*1)) λt=>Bd (Int.fdiv t (2 ^ min (toNat 4) (IntKind.bits .u8))) 16/\∃h',aY e (((AA 4 0):Addr).add (toNat (Int.fdiv t (2 ^ min (toNat 4) (IntKind.bits .u8)))*2))=some (.int .u8 h')/\∃i',aY e ((((AA 4 0):Addr).add (toNat (Int.fdiv t (2 ^ min (toNat 4) (IntKind.bits .u8)))*2)).add 1)=some (.int .u8 i')/\bh e (.C #[.int .u8 0,.int .u8 0] 410) λb E'=>aT E' (AA b 0) (.int .u8 h') λF'=>aT F' (AA b 1) (.int .u8 i') λH=>aH (λ(a1:ck) (U' P':Nat) (G':aj)=>J a1 U' P' G') (λk'=>aH (λ(a2:ck) (V' Q':Nat) (H':aj)=>k' a2 V' Q' H') (λw=>if((wrap .i64 (wrap .u8 ((qV t &&& qV 7).toNat:Int)))==2)then aH (λ(a4:Bool) (z:aj)=>if a4 then R (.B false) z else((0:Int)<=2/\2<=(p:Int))/\w (cT a P (toNat 2) 1) (p - (toNat 2)) (P - (toNat 2)) z) (λm=>if(decide ((p:Int)<2))then m true H else Bd 1 p/\aM a λm'=>Kz H (m'.add (toNat 1*1)) λb8=> ∃j',Cc H b 0 (.int .u8 j')/\if(decide (b8<j'))then m true H else Hy H b 1 λb9=>Bd 1 p/\aM a λq'=> ∃O,aY H (q'.add (toNat 1*1))=some (.int .u8 O)/\m (decide (b9<O)) H)else aH (λ(a3:ck) (X' R':Nat) (I':aj)=>w a3 X' R' I') (λx=>if((wrap .i64 (wrap .u8 ((qV t &&& qV 7).toNat:Int)))==3)then aH (λ(a7:Bool) (A:aj)=>if a7 then R (.B false) A else((0:Int)<=3/\3<=(p:Int))/\x (cT a P (toNat 3) 1) (p - (toNat 3)) (P - (toNat 3)) A) (λi=>if(decide ((p:Int)<3))then i true H else Bd 1 p/\aM a λr'=>Kz H (r'.add (toNat 1*1)) λa5=> ∃Q,Cc H b 0 (.int .u8 Q)/\if(decide (a5<Q))then i true H else Hy H b 1 λa6=>Bd 1 p/\aM a λs'=> ∃S,aY H (s'.add (toNat 1*1))=some (.int .u8 S)/\if(decide (a6<S))then i true H else Bd 2 p/\aM a λt'=> ∃U,aY H (t'.add (toNat 2*1))=some (.int .u8 U)/\if(decide (U<128))then i true H else Bd 2 p/\aM a λu'=> ∃V,aY H (u'.add (toNat 2*1))=some (.int .u8 V)/\i (decide (191<V)) H)else if((wrap .i64 (wrap .u8 ((qV t &&& qV 7).toNat:Int)))==4)then aH (λ(b0:Bool) (B:aj)=>if b0 then R (.B false) B else((0:Int)<=4/\4<=(p:Int))/\x (cT a P (toNat 4) 1) (p - (toNat 4)) (P - (toNat 4)) B) (λj=>if(decide ((p:Int)<4))then j true H else Bd 1 p/\aM a λv'=>Kz H (v'.add (toNat 1*1)) λa8=> ∃X,Cc H b 0 (.int .u8 X)/\if(decide (a8<X))then j true H else Hy H b 1 λa9=>Bd 1 p/\aM a λw'=> ∃Z,aY H (w'.add (toNat 1*1))=some (.int .u8 Z)/\if(decide (a9<Z))then j true H else Bd 2 p/\aM a λx'=> ∃a',aY H (x'.add (toNat 2*1))=some (.int .u8 a')/\if(decide (a'<128))then j true H else Bd 2 p/\aM a λn'=> ∃b',aY H (n'.add (toNat 2*1))=some (.int .u8 b')/\if(decide (191<b'))then j true H else Bd 3 p/\aM a λo'=> ∃c',aY H (o'.add (toNat 3*1))=some (.int .u8 c')/\if(decide (c'<128))then j true H else Bd 3 p/\aM a λp'=> ∃d',aY H (p'.add (toNat 3*1))=some (.int .u8 d')/\j (decide (191<d')) H)else R (.B false) H))))else R (.B true) e):Cl 291 #[.L K f E] h R:=aP (lq (lq (sq (bq (.loop [(0,.one (.slice))] (sq (lq (cq lf lf)) (.join [(0,.one (.slice))] (bq (lq (sq (lq (cq (lq (sq (sq (.join [(31,.one (.bool))] lf) (.join [(0,.one (.slice))] (cq (lq (sq (.join [(46,.one (.bool))] (.lK (.op 0 (.op 1 (.op 2 (.op 3 (.op 4 (.op 6 (.op 7 (.op 5 (.op 8 (.op 9 (.op 10 (.op 11 (.op 12 .done))))))))))))))) (.join [(0,.one (.slice))] (cq (lq (bq (.loop [(0,.one (.slice))] (sq (sq (.join [(69,.one (.bool))] (.lK (.op 0 (.op 1 (.op 2 (.op 3 (.op 4 (.op 6 (.op 7 (.op 10 (.op 11 (.op 13 (.op 14 (.op 5 (.op 8 (.op 9 (.op 12 (.op 15 (.op 16 (.op 17 (.op 18 (.op 19 (.op 20 .done))))))))))))))))))))))) (cq lf lf)) (bq lf))))) lf)))) lf))) lf)) lf)) (lq (lq (lq (lq (.join [(0,.one (.slice))] (bq (lq (.join [(0,.one (.slice))] (cq (sq (sq (.join [(103,.one (.bool))] (pN 19)) (cq ll lf)) lf) (lq (.join [(0,.one (.slice))] (cq (sq (sq (.join [(138,.one (.bool))] (pN 31)) (cq ll lf)) lf) (lq (cq (sq (sq (.join [(185,.one (.bool))] (pN 43)) (cq ll lf)) lf) ll))))))))))))))))))))) ll))) Tryz.func291 hv

end
section
namespace Cb
variable {h j H g:aj} {R:fD} {p:ck} {l c:Nat} {b d:cM} {FT A0 A1:Nat→Int}
variable {A B:Prop}
def bI(b:cM)(i:Nat):Int:=((b.getD i 0).toNat:Int)
def VY(a e f i k m n o:Int):Int:=(IntKind.wrap .u64 ((BitVec.ofInt (IntKind.bits .u64) (IntKind.wrap .u64 ((BitVec.ofInt (IntKind.bits .u64) (IntKind.wrap .u64 ((BitVec.ofInt (IntKind.bits .u64) (IntKind.wrap .u64 ((BitVec.ofInt (IntKind.bits .u64) (IntKind.wrap .u64 ((BitVec.ofInt (IntKind.bits .u64) (IntKind.wrap .u64 ((BitVec.ofInt (IntKind.bits .u64) (IntKind.wrap .u64 ((BitVec.ofInt (IntKind.bits .u64) (IntKind.wrap .u64 a)|||BitVec.ofInt (IntKind.bits .u64) (IntKind.wrap .u64 ((IntKind.wrap .u64 e)*2 ^ min (Int.toNat 8) (IntKind.bits .u64)))).toNat:Int))|||BitVec.ofInt (IntKind.bits .u64) (IntKind.wrap .u64 ((IntKind.wrap .u64 f)*2 ^ min (Int.toNat 16) (IntKind.bits .u64)))).toNat:Int))|||BitVec.ofInt (IntKind.bits .u64) (IntKind.wrap .u64 ((IntKind.wrap .u64 i)*2 ^ min (Int.toNat 24) (IntKind.bits .u64)))).toNat:Int))|||BitVec.ofInt (IntKind.bits .u64) (IntKind.wrap .u64 ((IntKind.wrap .u64 k)*2 ^ min (Int.toNat 32) (IntKind.bits .u64)))).toNat:Int))|||BitVec.ofInt (IntKind.bits .u64) (IntKind.wrap .u64 ((IntKind.wrap .u64 m)*2 ^ min (Int.toNat 40) (IntKind.bits .u64)))).toNat:Int))|||BitVec.ofInt (IntKind.bits .u64) (IntKind.wrap .u64 ((IntKind.wrap .u64 n)*2 ^ min (Int.toNat 48) (IntKind.bits .u64)))).toNat:Int))|||BitVec.ofInt (IntKind.bits .u64) (IntKind.wrap .u64 ((IntKind.wrap .u64 o)*2 ^ min (Int.toNat 56) (IntKind.bits .u64)))).toNat:Int))
def yJ(b:cM):Int:=VY (bI b 0) (bI b 1) (bI b 2) (bI b 3) (bI b 4) (bI b 5) (bI b 6) (bI b 7)
def VZ(n:Int):Bool:=(IntKind.wrap .u64 ((BitVec.ofInt (IntKind.bits .u64) n &&& BitVec.ofInt (IntKind.bits .u64) 9259542123273814144).toNat:Int))==0
def UX(a b:Int):Int:=IntKind.wrap .u64 ((BitVec.ofInt (IntKind.bits .u64) a|||BitVec.ofInt (IntKind.bits .u64) b).toNat:Int)
def Ch(b:cM):Bool:=decide (b.length>32) && VZ (UX (UX (yJ b) (yJ (b.drop 8))) (UX (yJ (b.drop 16)) (yJ (b.drop 24))))
def Ef(b:cM):Bool:=decide (b.length>16) && VZ (UX (yJ b) (yJ (b.drop 8)))
def Nu(b:cM):Bool:=decide (b.length>8) && VZ (yJ b)
def wJ:Nat->cM->cM
 |0,b=>b
 |f+1,b=>if Ch b=true then wJ f (b.drop 32)else b
def Iv(b:cM):cM:=if Nu b=true then(if Ef (b.drop 8)=true then wJ (b.length+1) ((b.drop 8).drop 16)else b.drop 8)else b
def qK(x:Int):Int:=IntKind.wrap .i64 (IntKind.wrap .u8 ((BitVec.ofInt (IntKind.bits .u8) x &&& BitVec.ofInt (IntKind.bits .u8) 7).toNat:Int))
def zH(x:Int):Int:=Int.fdiv x (2 ^ min (Int.toNat 4) (IntKind.bits .u8))
def pP(n:Nat)(L a:Int)(b:cM):Bool:=decide (b.length<n)||(decide (bI b 1<L)||decide (a<bI b 1))
def qL(b:cM)(i:Nat):Bool:=decide (bI b i<128)||decide (191<bI b i)
def yK(FT A0 A1:Nat->Int)(b:cM):Option (cM):=
 if bI b 0<128 then some (Iv (b.drop 1))
 else if qK (FT (bI b 0).toNat)=2 then(if pP 2 (A0 (zH (FT (bI b 0).toNat)).toNat) (A1 (zH (FT (bI b 0).toNat)).toNat) b=true then none else some (b.drop 2))
 else if qK (FT (bI b 0).toNat)=3 then(if(pP 3 (A0 (zH (FT (bI b 0).toNat)).toNat) (A1 (zH (FT (bI b 0).toNat)).toNat) b||qL b 2)=true then none else some (b.drop 3))
 else if qK (FT (bI b 0).toNat)=4 then(if(pP 4 (A0 (zH (FT (bI b 0).toNat)).toNat) (A1 (zH (FT (bI b 0).toNat)).toNat) b||(qL b 2||qL b 3))=true then none else some (b.drop 4))
 else none
def Le(n:cM->Option (cM)):Nat->cM->Bool
 |0,_=>true
 |f+1,b=>if b.length=0 then true else match n b with|none=>false|some r=>Le n f r
theorem RW(n:cM->Option (cM))(f:Nat):Le n (f+1) b=if b.length=0 then true else match n b with|none=>false|some r=>Le n f r:=rfl
def vg(FT A0 A1:Nat->Int)(f:Nat)(b:cM):Bool:=Le (yK FT A0 A1) f b
theorem RX(f:Nat):wJ (f+1) b=if Ch b=true then wJ f (b.drop 32)else b:=rfl
theorem Iw(f:Nat):vg FT A0 A1 (f+1) b=if b.length=0 then true else match yK FT A0 A1 b with|none=>false|some r=>vg FT A0 A1 f r:=by unfold vg;exact RW _ _
theorem Eh: ∀(f:Nat)(b:cM),(wJ f b).length<=b.length
 |0,b=>bm _
 |f+1,b=>by
  unfold wJ;split
  .exact cE (Eh f _) (by rw[bT];omega)
  .exact bm _
theorem Qt(b:cM):(Iv b).length<=b.length:=by
 unfold Iv;split
 .split
  .exact cE (Eh _ _) (by rw[bT,bT];omega)
  .rw[bT];omega
 .exact bm _
theorem Nv{r:cM}(e:b.length≠0)(a:yK FT A0 A1 b=some r):r.length<b.length:=by
 have D: ∀k,1<=k->(b.drop k).length<b.length:=λk f=>by rw[bT];omega
 unfold yK at a
 repeat' split at a
 all_goals first|(cases a;done)|(cases a;first|exact D _ dN|exact Nat.lt_of_le_of_lt (Qt _) (D 1 dN))
structure FL (h:aj) (FT A0 A1:Nat->Int):Prop where
 f: ∀i,i<256->aY h ⟨3,i,none⟩=some (.int .u8 (FT i))/\0<=FT i/\FT i<256
 a: ∀i,i<16->aY h ⟨4,i*2,none⟩=some (.int .u8 (A0 i))/\aY h ⟨4,i*2+1,none⟩=some (.int .u8 (A1 i))
theorem FL.on(U:FL h FT A0 A1)(f:Fr No h H):FL H FT A0 A1:=⟨λi a=>⟨f.cell (U.f i a).1 id,(U.f i a).2⟩,λi a=>⟨f.cell (U.a i a).1 id,f.cell (U.a i a).2 id⟩⟩
structure Sl (h:aj) (p:ck) (l c:Nat) (b:cM):Prop where
 row:Row h p (bc b)
 len:l=b.length
 cap:l<=c
theorem Sl.drop(S:Sl h p l c b){k:Nat}(a:k<=b.length):Sl h (cT p c k 1) (l - k) (c - k) (b.drop k):=by
 have f:=S.len;have e:=S.cap;refine⟨?_,by rw[bT];omega,ae⟩;have:=S.row.sub (cap:=c) (l:=k) (u:=b.length) (sz:=1) a ae;rw[cp,cp]at this;unfold bc at this⊢;rw[bn (by rw[ay];omega)]at this;rw[List.map_drop];exact this
theorem Sl.on(S:Sl h p l c b)(f:Fr No h H):Sl H p l c b:=⟨S.row.frame f bX,S.len,S.cap⟩
theorem Sl.at{i:Nat}(S:Sl h p l c b)(e:i<b.length): ∃a,p=some a/\aY h (a.add (i*1))=some (.int .u8 (bI b i)):=by
 obtain⟨a,E,f⟩:=byte_at S.row e;refine⟨a,E,?_⟩;unfold bI;rw[bk,ai e];exact f
theorem UH(b:cM)(i:Nat):0<=bI b i/\bI b i<256:=by
 unfold bI;have:=(b.getD i 0).toNat_lt;omega
theorem Ty{x:Int}(j:0<=x)(a:x<256):0<=zH x/\zH x<16:=by
 have e:zH x=x/16:=Int.fdiv_eq_ediv_of_nonneg x dN;rw[e];omega
theorem Nw{c:Prop}[Decidable c](e:c)(a:A):if c then A else B:=by rw[ag e];exact a
theorem Nx{c:Prop}[Decidable c](e: ¬c)(a:B):if c then A else B:=by rw[af e];exact a
theorem qC(S:Sl h p l c b)(o:8<=b.length)(k:R (.U (yJ b)) h):Cl 311 #[.L p l c] h R:=by
 have q:=S.len;obtain⟨a,rfl,n⟩:=S.at (i:=0) ae;have C: ∀i,i<b.length->aY h (a.add (i*1))=some (.int .u8 (bI b i)):=λi f=>by
  obtain⟨m,e,c⟩:=S.at (i:=i) f;cases e;exact c
 refine oU.walk ?_;refine⟨ae,ax.2 ⟨_,C 0 ae,ae,ax.2 ⟨_,C 1 ae,ae,ax.2 ⟨_,C 2 ae,ae,ax.2 ⟨_,C 3 ae,ae,ax.2 ⟨_,C 4 ae,ae,ax.2 ⟨_,C 5 ae,ae,ax.2 ⟨_,C 6 ae,ae,ax.2 ⟨_,C 7 ae,?_⟩⟩⟩⟩⟩⟩⟩⟩⟩;exact k
theorem Qu{vv:Bool}(hV:vg FT A0 A1 (d.length+1) d=vv)(UT:FL h FT A0 A1)(y':Row h p (bc d))(hl:d.length<=1000000)(cap:d.length<=c)(M: ∀g,Fr No h g->R (.B vv) g):Cl 291 #[.L p d.length c] h R:=by
 refine vf.walk ⟨ae,ae,λp l c g=>Fr No h g/\∃b f,Sl g p l c b/\b.length<f/\b.length<=1000000/\vg FT A0 A1 f b=vv,λ_ l _ _=>l,⟨Fr.refl _ _,d,d.length+1,⟨by rw[iU];exact y',aF _,bm _⟩,Nat.lt_succ_self _,hl,hV⟩,?_⟩;clear hV;rintro p l c g ⟨X,b,f,S,hf,hb,I⟩;have D':=S.len;by_cases c0:b.length=0
 case pos=>
  rw[dB];have:vg FT A0 A1 f b=true:=by
   cases f with
   |zero=>rfl
   |succ f=>rw[Iw,ag c0]
  rw[I.symm.trans this]at M;exact M g X
 rw[ag (by simp only[aX];omega)];refine aH.of λu' hJ=> ?_
 obtain⟨f,rfl⟩: ∃F,f=F+1:=⟨f - 1,ae⟩;rw[Iw,af c0]at I;have n: ∀(G:aj)(p':ck)(l' c':Nat)(w:cM),Fr No g G->Sl G p' l' c' w->yK FT A0 A1 b=some w->u' p' l' c' G:=by
  intro G p' l' c' w F S' hn;subst hJ;have E':=Nv c0 hn;rw[hn]at I;exact⟨⟨X.tt F,w,f,S',ae,ae,I⟩,by have:=S'.len;show l'<l;omega⟩
 have stop: ∀G,Fr No g G->yK FT A0 A1 b=none->R (.B false) G:=by
  intro G F hn;rw[hn]at I;rw[<-I]at M;exact M G (X.tt F)
 clear hJ I M;obtain⟨n',rfl,ca⟩:=S.at (i:=0) ae;have n0:=UH b 0;refine⟨ae,ax.2 ⟨_,ca,?_⟩⟩;by_cases c1:bI b 0<128
 .have E:yK FT A0 A1 b=some (Iv (b.drop 1)):=ag c1;rw[E]at n;clear stop E;rw[ag (aw c1)];refine⟨ae,aH.of λJ1 v'=> ?_⟩;have P:=S.drop (k:=1) ae;generalize hr:b.drop 1=r at n P;have r': ∀v,v=Nu r->J1 v g:=by
   intro v a;subst v';refine aH.of λJ2 e'=> ?_
   cases y:Nu r with
   |false=>
    rw[a,y,dB];subst e';exact n g _ _ _ _ (Fr.refl _ _) P (by unfold Iv;rw[y];rfl)
   |true=>
   rw[a,y,ag rfl];have l8:r.length>8:=by unfold Nu at y;simp only[aU,aX]at y;exact y.1
   have T:=P.drop (k:=8) ae;have h':=P.len;refine⟨⟨ae,by show(8:Int)<=((l - 1:Nat):Int);omega⟩,aH.of λJ3 w'=> ?_⟩;have s': ∀v,v=Ef (r.drop 8)->J3 v g:=by
    intro v a;subst w';refine aH.of λJ4 o'=> ?_
    cases O:Ef (r.drop 8)with
    |false=>
     rw[a,O,dB];subst o';subst e';exact n g _ _ _ _ (Fr.refl _ _) T (by unfold Iv;rw[y,ag rfl,O];rfl)
    |true=>
    rw[a,O,ag rfl];have F':(r.drop 8).length>16:=by unfold Ef at O;simp only[aU,aX]at O;exact O.1
    have S3:=T.drop (k:=16) ae;have d':=T.len;have eF:Iv r=wJ (r.length+1) ((r.drop 8).drop 16):=by unfold Iv;rw[y,ag rfl,O,ag rfl]
    rw[eF]at n;refine⟨⟨ae,by show(16:Int)<=((l - 1 - 8:Nat):Int);omega⟩,λp l c G=>G=g/\∃w F,Sl g p l c w/\w.length<F/\wJ F w=wJ (r.length+1) ((r.drop 8).drop 16),λ_ l _ _=>l,⟨rfl,_,_,S3,by rw[bT,bT];omega,rfl⟩,?_⟩;rintro p5 l5 c5 G ⟨rfl,b5,f5,D,B',V⟩;have C':=D.len;obtain⟨f5,rfl⟩: ∃F,f5=F+1:=⟨f5 - 1,ae⟩;rw[RX]at V;refine aH.of λJ5 x'=> ?_
    have t': ∀v,v=Ch b5->J5 v G:=by
     intro v a;subst x';dsimp only;cases J:Ch b5 with
     |false=>
      rw[a,J,dB];rw[J,dB]at V;subst o';subst e';exact n G _ _ _ _ (Fr.refl _ _) D (by rw[V])
     |true=>
      rw[a,J,ag rfl];rw[J,ag rfl]at V;have G':b5.length>32:=by unfold Ch at J;simp only[aU,aX]at J;exact J.1
      exact⟨ae,⟨rfl,_,f5,D.drop (k:=32) ae,by rw[bT];omega,V⟩,by show l5 - 32<l5;omega⟩
    by_cases q:b5.length>32
    .rw[gk];refine⟨ae,ae,ae,qC D ae ⟨_,rfl,qC (D.drop (k:=8) ae) (by rw[bT];omega) ⟨_,rfl,qC (D.drop (k:=16) ae) (by rw[bT];omega) ⟨_,rfl,qC (D.drop (k:=24) ae) (by rw[bT];omega) ⟨_,rfl,t' _ ?_⟩⟩⟩⟩⟩;unfold Ch;rw[aw q];rfl
    .rw[dB];exact t' false (by unfold Ch;rw[aB q];rfl)
   have d':=T.len;by_cases q:(r.drop 8).length>16
   .rw[ag (aw (by show((l - 1 - 8:Nat):Int)>16;have:l - 1 - 8=(r.drop 8).length:=d';omega))];refine⟨⟨ae,by show(8:Int)<=((l - 1 - 8:Nat):Int);have:l - 1 - 8=(r.drop 8).length:=d';omega⟩,qC T ae ⟨_,rfl,qC (T.drop (k:=8) ae) (by rw[bT];omega) ⟨_,rfl,s' _ ?_⟩⟩⟩;unfold Ef;rw[aw q];rfl
   .rw[af (by simp only[aX];show¬((l - 1 - 8:Nat):Int)>16;have:l - 1 - 8=(r.drop 8).length:=d';omega)];exact s' false (by unfold Ef;rw[aB q];rfl)
  have h':=P.len;by_cases q:r.length>8
  .rw[ag (aw (by show((l - 1:Nat):Int)>8;have:l - 1=r.length:=h';omega))];refine qC P ae ⟨_,rfl,r' _ ?_⟩;unfold Nu;rw[aw q];rfl
  .rw[af (by simp only[aX];show¬((l - 1:Nat):Int)>8;have:l - 1=r.length:=h';omega)];exact r' false (by unfold Nu;rw[aB q];rfl)
 obtain⟨x0,x1,x2⟩:=(UT.on X).f (bI b 0).toNat ae;have E:yK FT A0 A1 b=_:=af c1;generalize FT (bI b 0).toNat=x at x0 x1 x2 E;have rr:=Ty x1 x2;obtain⟨y0,y1⟩:=(UT.on X).a (zH x).toNat ae;generalize A0 (zH x).toNat=L at y0 E;generalize A1 (zH x).toNat=o at y1 E;rw[dB];refine⟨ae,x,by rw[hY,bM,cp];exact x0,rr,L,by rw[hY,bM];exact y0,o,by rw[hY,hY,bM];exact y1,cK ?_⟩;have k':Fr No g (g.push (.C #[.int .u8 0,.int .u8 0] 410)):=Fr.push _ _;have i':(g.push (.C #[.int .u8 0,.int .u8 0] 410))[g.size]? =_:=bZ;generalize g.push (.C #[.int .u8 0,.int .u8 0] 410)=z' at k' i'⊢;refine bD i' bV λA' a1 a2 a3=>bD a1 bV λm j' b2 b3=> ?_
 have u:Fr No g m:=(k'.fresh (Fr.of_eq (S:=λb'=>b'=g.size) a2 a3) (λb' e=>ae)).fresh (Fr.of_eq (S:=λb'=>b'=g.size) b2 b3) (λb' e=>ae);have m':=S.on u;have C: ∀i,i<b.length->aY m (n'.add (i*1))=some (.int .u8 (bI b i)):=λi o=>by
  obtain⟨a',e,c⟩:=m'.at (i:=i) o;cases e;exact c
 have cl:aY m (AA g.size 0)=some (.int .u8 L):=ak j';have ch:aY m (AA g.size 1)=some (.int .u8 o):=ak j';have dr: ∀k,k<=b.length->Sl m (cT (some n') c k 1) (l - k) (c - k) (b.drop k):=λk M=>m'.drop M
 refine aH.of λJ6 f'=>aH.of λJ7 g'=> ?_
 by_cases s2:qK x=2
 .replace E:=E.trans (ag s2);refine Nw (show(qK x==2)=true from db.2 s2) (aH.of λU Z=> ?_);have K: ∀v,v=pP 2 L o b->U v m:=by
   intro v a;subst Z;rw[<-a]at E;cases v with
   |true=>exact Nw rfl (stop m u (E.trans (ag rfl)))
   |false=>
    have l2:2<=b.length:=by simp[pP]at a;omega
    refine Nx dN ⟨ae,?_⟩;subst g';subst f';exact n m _ _ _ _ u (dr 2 l2) (E.trans (dB))
  by_cases z:b.length<2
  .rw[gk];exact K true (by simp[pP,z])
  rw[dB];refine⟨ae,ax.2 ⟨_,C 1 ae,_,cl,?_⟩⟩;by_cases Q:bI b 1<L
  .rw[ag (aw Q)];exact K true (by simp[pP,Q])
  rw[af (cI Q)];exact⟨_,ch,ae,ax.2 ⟨_,C 1 ae,K _ (by simp[pP,z,Q])⟩⟩
 replace E:=E.trans (af s2);refine Nx (show¬(qK x==2)=true from λe=>s2 (db.1 e)) (aH.of λJ9 q'=> ?_);by_cases s3:qK x=3
 .replace E:=E.trans (ag s3);refine Nw (show(qK x==3)=true from db.2 s3) (aH.of λU Z=> ?_);have K: ∀v,v=(pP 3 L o b||qL b 2)->U v m:=by
   intro v a;subst Z;rw[<-a]at E;cases v with
   |true=>exact Nw rfl (stop m u (E.trans (ag rfl)))
   |false=>
    have l2:3<=b.length:=by simp[pP]at a;omega
    refine Nx dN ⟨ae,?_⟩;subst q';subst g';subst f';exact n m _ _ _ _ u (dr 3 l2) (E.trans (dB))
  by_cases z:b.length<3
  .rw[gk];exact K true (by simp[pP,z])
  rw[dB];refine⟨ae,ax.2 ⟨_,C 1 ae,_,cl,?_⟩⟩;by_cases Q:bI b 1<L
  .rw[ag (aw Q)];exact K true (by simp[pP,Q])
  rw[af (cI Q)];refine⟨_,ch,ae,ax.2 ⟨_,C 1 ae,?_⟩⟩;by_cases s:o<bI b 1
  .rw[ag (aw s)];exact K true (by simp[pP,s])
  rw[af (cI s)];refine⟨ae,ax.2 ⟨_,C 2 ae,?_⟩⟩;by_cases t:bI b 2<128
  .rw[ag (aw t)];exact K true (by simp[qL,t])
  rw[af (cI t)];exact⟨ae,ax.2 ⟨_,C 2 ae,K _ (by simp[pP,qL,z,Q,s,t])⟩⟩
 replace E:=E.trans (af s3);refine Nx (show¬(qK x==3)=true from λe=>s3 (db.1 e)) ?_;by_cases s4:qK x=4
 .replace E:=E.trans (ag s4);refine Nw (show(qK x==4)=true from db.2 s4) (aH.of λU Z=> ?_);have K: ∀v,v=(pP 4 L o b||(qL b 2||qL b 3))->U v m:=by
   intro v a;subst Z;rw[<-a]at E;cases v with
   |true=>exact Nw rfl (stop m u (E.trans (ag rfl)))
   |false=>
    have l2:4<=b.length:=by simp[pP]at a;omega
    refine Nx dN ⟨ae,?_⟩;subst q';subst g';subst f';exact n m _ _ _ _ u (dr 4 l2) (E.trans (dB))
  by_cases z:b.length<4
  .rw[gk];exact K true (by simp[pP,z])
  rw[dB];refine⟨ae,ax.2 ⟨_,C 1 ae,_,cl,?_⟩⟩;by_cases Q:bI b 1<L
  .rw[ag (aw Q)];exact K true (by simp[pP,Q])
  rw[af (cI Q)];refine⟨_,ch,ae,ax.2 ⟨_,C 1 ae,?_⟩⟩;by_cases s:o<bI b 1
  .rw[ag (aw s)];exact K true (by simp[pP,s])
  rw[af (cI s)];refine⟨ae,ax.2 ⟨_,C 2 ae,?_⟩⟩;by_cases t:bI b 2<128
  .rw[ag (aw t)];exact K true (by simp[qL,t])
  rw[af (cI t)];refine⟨ae,ax.2 ⟨_,C 2 ae,?_⟩⟩;by_cases q4:191<bI b 2
  .rw[ag (aw q4)];exact K true (by simp[qL,q4])
  rw[af (cI q4)];refine⟨ae,ax.2 ⟨_,C 3 ae,?_⟩⟩;by_cases q5:bI b 3<128
  .rw[ag (aw q5)];exact K true (by simp[qL,q5])
  rw[af (cI q5)];exact⟨ae,ax.2 ⟨_,C 3 ae,K _ (by simp[pP,qL,z,Q,s,t,q4,q5])⟩⟩
 refine Nx (show¬(qK x==4)=true from λe=>s4 (db.1 e)) ?_;exact stop m u (E.trans (af s4))
theorem FL.WW(U:FL h FT A0 A1):lO (λd=>vg FT A0 A1 (d.length+1) d) h:=λ_ _ _ _ _ f r e cap a=>Qu rfl (U.on f) r e cap a

end Cb
end
section
namespace Cb
theorem Ny: ∀i:Fin 256,Lib.firstT i.val<256:=dN
theorem FL.wI{w:World}{l:List (String×DataW Unit)}{S x:String}(z:Tryz.prog.globalNamed S=some 3)(A:Tryz.prog.globalNamed x=some 4)(h:laidMet Tryz.prog l w)(M:(S,Lib.firstData)∈l)(B:(x,Lib.acceptData)∈l): ∃V,lO V w.heap:=by
 refine⟨_,FL.WW (FT:=λi=>(Lib.firstT i:Int)) (A0:=λi=>(Lib.accLo i:Int)) (A1:=λi=>(Lib.accHi i:Int)) ⟨λc r=> ?_,λi v=> ?_⟩⟩
 .obtain⟨g,t,y,F,p,a,n,k,m⟩:=Lib.laidMet.reads h M;obtain rfl:3=g:=aZ (z.symm.trans a);obtain rfl:408=t:=by
   have e:(Tryz.prog.globals[(3:Nat)]?).map (·.type)=some 408:=dz
   exact aZ (e.symm.trans n)
  have b:=Lib.cells_of_tab (n:=256) (e:=5) dz dz dz dz m;have:=World.var?_cell a k c;rw[kV,<-dL,b]at this;refine⟨?_,Int.natCast_nonneg _,by have:Lib.firstT c<256:=Ny ⟨c,r⟩;show((Lib.firstT c:Nat):Int)<256;omega⟩;rw[this];simp[Lib.firstTab,r]
 .obtain⟨g,t,y,F,p,a,n,k,m⟩:=Lib.laidMet.reads h B;obtain rfl:4=g:=aZ (A.symm.trans a);obtain rfl:411=t:=by
   have e:(Tryz.prog.globals[(4:Nat)]?).map (·.type)=some 411:=dz
   exact aZ (e.symm.trans n)
  obtain⟨D,d,q,s,u⟩:=Lib.array_elem (n:=16) (e:=410) dz m i v;simp only[aD,List.getElem?_range v,du,bH]at s;subst s;have C:Tryz.prog.cellsOf 410=2:=dz
  rw[C]at u;have b:=Lib.ints_of_struct (t:=410) (k:=.u8) (fs:= #[Go.Field.mk "lo" 5 0 false "" "unicode/utf8" 0,Go.Field.mk "hi" 5 1 false "" "unicode/utf8" 1]) dz (λj f H=>by
   match j,H with
   |0,H=>simp at H;subst H;exact⟨dz,rfl,dz⟩
   |1,H=>simp at H;subst H;exact⟨dz,rfl,dz⟩
   |j+2,H=>simp at H) (by rw[C];rfl) u
  have E:=bQ (·[0]?) b;have o:=bQ (·[1]?) b;simp only[df,fx]at E o;constructor
  .have:=World.var?_cell a k (i*2);rw[kV,<-dL]at this;rw[this];simpa using E
  .have:=World.var?_cell a k (i*2+1);rw[kV,<-dL]at this;rw[this];simpa using o

end Cb
end
end Go.Proofs.YtimiaphmdidfhaaGreatDoor
