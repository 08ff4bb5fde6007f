/-
  IF is proved here: parts of zp proof, one behind zp other (texts of this work, merged by a program; JW zp theorem JX not use is left out). No condition.
-/
import Derived.Test.YtelbcloplcdchaaGreatDoorMArinf
set_option linter.defProp false
set_option maxRecDepth 100000
set_option maxHeartbeats 4000000
namespace Go.Proofs.YtelbcloplcdchaaGreatDoor
open Go.Den
open IntKind (wrap)
open Int (toNat)
section
namespace Ask
open ju (Ev cY)
open dV (SS Good Pt oF Mk)
open Bn (jP iJ jx EW Jf nT Prim oX jC BB ku)
variable {V:cQ→Bool} {h f j g:aA} {R:fp} {s k bo id c:Nat} {X i:Ft} {I:oF} {a:SS} {p:bZ} {ses:Int} {x:Rq} {D:Nat→Prop} {o:Ot}
variable {b:Nat} {K:aA->Prop} {n:Nat×Nat} {d:cQ} {P:Prim}
abbrev Rq.as(x:Rq)(p:bZ)(c s:Nat)(ses:Int):cf.S:=⟨x.id,x.kind,x.ep.jY,x.ep.node,x.ep.fK,x.ep.host,x.ep.jl,x.dest.jY,x.dest.node,x.dest.fK,x.dest.host,x.dest.jl,x.lS,x.num,x.kV,p,x.nL.length,c,x.gT,x.token,x.on,some ⟨s,0,none⟩,ses⟩
structure En (V:kF) (j h:aA) (s:Nat) (X:Ft) (I:oF) (a:SS) (k:Nat):Prop where
 H:Pt h s X I a
 G:dV.Good a k
 hk:k<=30000
 u:xX j X h
 U:Cb.mG V j
 mx:jS.Mx j
def En.on(E:En V j h s X I a k)(F:Fr No h f):En V j f s X I a k:=⟨E.H.on F,E.G,E.hk,E.u.on F,E.U,E.mx⟩
def En.Un(E:En V j h s X I a k):jS.Mx h:=E.mx.on E.u.fr
def En.step{l:SS}{e:Nat}(E:En V j h s X I a k)(H:Pt f s i I l)(S:bp X h i f)(G:dV.Good l e)(hk:e<=30000):En V j f s i I l e:=⟨H,G,hk,E.u.step S,E.U,E.mx⟩
def En.nM(E:En V j h s X I a k)(e:h.size<=b): ¬X.M b:=λH=>by have:=E.H.lt b (.inl H);omega
theorem JG{S:gF}{l:List (bZ)}(F:Fr S h f)(m: ¬S b)(q: ∀p∈l,p.map (·.block)=some b):Kp h f l:=F.XE λp r x e H=>m (by grind)
structure ij (X:Ft) (h:aA) (bo id:Nat) (o:Ot) (i:Ft) (f:aA):Prop where
 fr:Fr (λy=>X.M y\/y=bo) h f
 iA: ∀c,i.M c->X.M c\/h.size<=c
 jF: ∀c,i.D c->X.D c\/h.size<=c
 nP: ∀c,X.D c->i.D c
 at': ∃y,aj.fR f bo y/\(o.e=0->∃p c,y=⟨id,0,o.num,o.zj,0,p,o.d.length,c⟩/\Row f p (bc o.d)/\(o.d≠ []->∀z,aL p z->(h.size<=z\/X.D z)/\¬i.M z))
abbrev y0(id:Nat):aj.S:=⟨id,0,0,0,0,none,0,0⟩
def ij.of{H:aA}(S:bp X h i H)(F:Fr (λy=>y=bo) H f)(at': ∃y,aj.fR f bo y/\(o.e=0->∃p c,y=⟨id,0,o.num,o.zj,0,p,o.d.length,c⟩/\Row f p (bc o.d)/\(o.d≠ []->∀z,aL p z->(h.size<=z\/X.D z)/\¬i.M z))):ij X h bo id o i f:=
 ⟨S.fr.trans F (λ_ _ A=> .inl A) (λ_ _ e=> .inr e),S.iA,S.jF,S.nP,at'⟩
def ij.bad{e:Int}(H:aj.fR h bo (y0 id))(l: ¬X.M bo)(S:bp X h i f){a:SS}:ij X h bo id (bad a e) i f:=
 ij.of S (Fr.refl _ _) ⟨_,S.fr.get H l,λ_=>⟨none,0,rfl,Row.nil,λe=>absurd rfl e⟩⟩
theorem ji{e:Nat}{y z:aj.S}{v:Value}(q:aj.fR h b y)(t:e<6)(A:y.arr.setIfInBounds e v=z.arr)(u: ∀f,aj.fR f b z->Fr (λy=>y=b) h f->K f):aO h (AA b e) v K:=
 bf q t λH w l m=>u H (by grind) (Fr.of_eq l λc r=>m c r)
def Pt.BJ{t q:Nat}(H:Pt h s X I a)(M:Mk f I.k a.e t q)(F:Fr (λy=>y=I.k) h f): ∃i,Pt f s i I { a with tm:=t,sq:=q } /\bp X h i f:=by have⟨Z,⟨_,O⟩,u,z,go⟩:=H.use 5;have⟨i,e,S,_,_⟩:=go f Z { a with tm:=t,sq:=q } ⟨M,O⟩ (bp.zJ (F.mono λy _ m=>(O y).1.2 m)) (λr l=>dV.VX a.e t q l);exact⟨i,e,S⟩
theorem Sv(h:ua a=some n):a.tm<n.1\/a.tm=n.1/\a.sq<n.2:=by
 unfold ua at h;split at h;grind;split at h
 cases h;grind
def yX{b:nT}(h:ku V b=some d):Bn.nR b.p=true:=by
 unfold ku at h;split at h;split at h
 cases h;rename_i H;unfold Bn.vN at H;split at H;cases H;rename_i e;unfold Bn.qh at e;split at e;assumption;cases e;cases h
def PY{b:nT}(h:ku V b=some d):b.p.gT<=1099511627776:=by have:=yX h;unfold Bn.nR at this;simp only[aZ,bn]at this;exact this.2
theorem Oi{b:nT}{q:bZ}{C:Nat}{xs:List BB}(E:En V j h s X I a k)(h':b.p.wf)(B:jC h D b.bl q b.bl.length C xs)(hl:b.bl.length<=1000000)(hd: ∀b'∈b.bl,b'.data.length<=80000)(hn:ua a=some n)(H: ∀f i,Pt f s i I (pC V a ses b n).σ->bp X h i f->R (.T #[.I (pC V a ses b n).num,.I (pC V a ses b n).zj,.I (pC V a ses b n).e]) f):
  Cl 259 #[(x.as p c s ses).agg,(b.s q C).agg,(⟨a.e,n.1,n.2⟩:jP).s.agg] h R:=by
 refine yV (cf.cV (x:=x.as p c s ses) λG h1 j' a' J=>ak.cV (x:=b.s q C) λb2 h2 k' U z=>ah.cV (x:=(⟨a.e,n.1,n.2⟩:jP).s) λb3 h3 l' e' r=> ?_);have w:=J.tt (z.tt r);have v:=E.on w;have z1:=J.1;have z2:=z.1;have z3:=r.1;unfold pC at H;refine ak.fX (x:=b.s q C) (r.get U _root_.id) (Bn.DI h' E.U v.u.fr v.Un (B.on w) hl hd (λO y lo Q p4 c4 o4 g4 F=>⟨_,_,_,_,rfl,?_⟩) (λy Q F=>⟨_,_,_,_,rfl,?_⟩))
 case refine_2=>rw[gH];rw[y]at H;exact H Q X (v.H.on F) (bp.iw (w.tt F))
 rw[dz];rw[y]at H;dsimp only at H;have A:=v.on F;have t:=(z.tt (r.tt F)).get a' _root_.id;have d':=(r.tt F).get U _root_.id;have Z:=F.get e' _root_.id;have z4:=F.1;have m':=aD t;have n':=aD Z;have n1: ¬X.M G:=E.nM ae;have n3: ¬X.M b3:=E.nM ae;refine⟨_,ai t,_,ai t,_,ai t,ar.2 ⟨_,ai A.H.cN,_,ai d',LI a.now b.p.gT E.G.n (PY y) ⟨_,rfl,(Fr.refl (λ_=>False) _).kp,dV.BD (pB a.now b.p.gT) rfl A.H E.G E.hk o4.hT rfl ae λh6 X6 m S=>⟨_,_,rfl,JG S.fr n1 bt,aB.of λi' T=> ?_⟩⟩⟩⟩;have st:=bp.no (w.tt F) S;unfold Lw at H;by_cases u:dV.JC a ses O (pB a.now b.p.gT)=0;rw[ag u]at H;rw[ag (by grind)];have c':=S.fr.get t n1;have f':=S.fr.get Z n3;have l:(dV.Dv a ses O (pB a.now b.p.gT)).e=a.e/\(dV.Dv a ses O (pB a.now b.p.gT)).tm=a.tm/\(dV.Dv a ses O (pB a.now b.p.gT)).sq=a.sq:=by unfold dV.Dv;rw[ag u];exact⟨rfl,rfl,rfl⟩
 have M:=Pt.mk' m;rw[l.1,l.2.1,l.2.2]at M;have hr:iJ ⟨a.e,n.1,n.2⟩=true:=by have:=FN E.G hn;unfold iJ;rw[E.G.e.1,aC this.1,aC this.2];rfl
 refine⟨_,ai c',ar.2 ⟨_,ai m.cN,ah.fX (x:=(⟨a.e,n.1,n.2⟩:jP).s) f' (FR M ⟨a.e,n.1,n.2⟩ rfl hr (Sv hn) λh8 M8 L=>⟨_,rfl,?_,?_⟩)⟩⟩;have zk:=aD M;have:G≠I.k:=λe=>by grind
 exact JG L this bt;subst T;obtain⟨X8,H8,g'⟩:=Pt.BJ m (by rw[l.1];exact M8) L;exact u.symm▸H h8 X8 H8 (st.trans g');rw[af u]at H;rw[af (by grind)];subst T;have l:dV.Dv a ses O (pB a.now b.p.gT)=a:=by unfold dV.Dv;rw[af u]
 rw[l]at m;exact H h6 X6 m st
theorem JH(H:Pt h s X I a)(l: iG h R (.I (fE.kL a.G x.ep ses))):Cl 188 #[(x.as p c s ses).agg] h R:=by
 refine xN (cf.cV λb Q eb y q=>aB.of λJ U=> ?_);have C:=H.on q;have fin: ∀(g:aA)(v:Nat),fE.Rg.at g v ((fE.jB a.G x.ep).getD .zero)->Fr No Q g->J (Sa v 0) (fE.jB a.G x.ep).isSome g:=by
  intro g v L r;subst U;unfold fE.kL at l;cases E:fE.jB a.G x.ep with
  |none=>rw[E]at l;exact l g (q.tt r)
  |some a'=>rw[E]at l L;refine ar.2 ⟨_,ai L,_,ai (r.get y _root_.id),?_⟩;dsimp only at l;by_cases G:a'.own=ses;rw[ag G]at l;rw[af (by grind)];exact l g (q.tt r);rw[af G]at l;rw[ag (by grind)];exact l g (q.tt r)
 have⟨Z,M,_⟩:=C.use 1;refine⟨_,ai y,ar.2 ⟨_,ai C.cN,jx x.ep y rfl rfl rfl rfl rfl ⟨?_,?_,trivial⟩⟩⟩;exact fE.iN M x.ep λS F=>⟨_,_,_,_,_,_,_,_,rfl,F.kp,bg.box λB T O z m=>⟨m.kp,bg.set z λw A t u=>fin w B A ((F.tt m).fresh (Fr.of_eq t u) (λb' e=>bN F.1))⟩⟩;refine bg.box λB T O z m=>⟨m.kp,fE.iN (fE.Tb.on M m) x.ep λS F=>⟨_,_,_,_,_,_,_,_,rfl,F.kp,bg.set (F.get z _root_.id) λw A t u=>fin w B A ((m.tt F).fresh (Fr.of_eq t u) (λb' e=>ae))⟩⟩
def WX{b:oX}{B:Nat}(H:ay.fR h B (b.s p c))(r:Row h p (bc b.data))(cap:b.data.length<=c):jC h (λ_=>True) [b] (Sa B 0) 1 1 [⟨b,p,c⟩]:=
 ⟨rfl,rfl,.inr ⟨_,rfl,ay.jw H⟩,λ_ _ _=>trivial,bu _,λy e=>by rw[bW.1 e];exact⟨r,λ_ _ _=>trivial,cap⟩⟩
def V7(n:Nat)(q:aE.fR h b P.s)(t: ∀f,aE.fR f b ({ P with fl:=n } :Prim).s->Fr (λy=>y=b) h f->K f):aO h (AA b 0) (.U (n:Int)) K:=
 bf q bt λH e l m=>t H e (Fr.of_eq l λc r=>m c r)
def Yl(e:Ev)(r:aE.fR h b P.s)(u: ∀f,aE.fR f b ({ P with rep:=e } :Prim).s->Fr (λy=>y=b) h f->K f):av.dv h (AA b 7) e.s K:=
 (show dG (AA b 7) e.s.l 0 h K from mN r bt rfl rfl λH l m q=>u H l (Fr.of_eq m λc t=>q c t))
def Uo(E:En V j h s X I a k)(rx:Row h p (bc x.nL))(cap:x.nL.length<=c)(lp:x.nL.length<=1000)(w1:0<=x.ep.fK)(w2:0<=x.dest.fK)(G:aj.fR h bo (y0 id))(nb: ¬(X.M bo\/X.D bo))(H: ∀f i,Pt f s i I (Ir V a ses x).σ->ij X h bo id (Ir V a ses x) i f->R (.I (Ir V a ses x).e) f):
  Cl 185 #[(x.as p c s ses).agg,.P bo 0] h R:=by
 refine xO (cf.cV (x:=x.as p c s ses) λb h1 eb j' f1=>cf.fX (x:=x.as p c s ses) j' (JH (E.H.on f1) λh2 f2=>⟨_,rfl,?_⟩));have w:=f1.tt f2;have Q:=E.on w;have a':=f2.get j' _root_.id;have O: ¬X.M bo:=λe=>nb (.inl e);unfold Ir at H;by_cases L:fE.kL a.G x.ep ses=0
 case neg=>rw[af L]at H;rw[ag (dH L)];exact H h2 X Q.H (ij.bad G O (bp.iw w))
 rw[ag L]at H;rw[af (dH L)];refine⟨_,ai a',jx x.ep a' rfl rfl rfl rfl rfl (oD Q.H E.G x.ep (λn J h3 m=>ah.ex _ (ah.ex _ ⟨_,rfl,?_⟩)) (λJ h3 m=>ah.ex _ (ah.ex _ ⟨_,rfl,?_⟩)))⟩
 case refine_2=>rw[J]at H;refine ah.cV λb1 h4 y' l q=>ah.cV λZ h5 z' c' F=>ah.iB (x:=(⟨x.ep,0,0⟩:jP).s) (F.get l _root_.id) λh6 d6 r _=>ah.iB (x:=jP.zero.s) (r.get c' (bN (aD l))) λu d7 C _=> ?_;rw[gH];have z4:=q.1;have z:Fr No h3 u:=((q.tt F).fresh r (λy e=>ae)).fresh C (λy e=>ae);exact H u X (Q.H.on (m.tt z)) (ij.bad G O (bp.iw (w.tt (m.tt z))))
 rw[J]at H;dsimp only at H;refine ah.cV λb1 h4 y' l q=>ah.cV λZ h5 z' c' F=>ah.iB (x:=(⟨x.ep,n.1,n.2⟩:jP).s) (F.get l _root_.id) λh6 d6 r _=>ah.iB (x:=(⟨a.e,n.1,n.2⟩:jP).s) (r.get c' (bN (aD l))) λu d7 C _=> ?_;rw[dz];have z1:=f1.1;have z2:=f2.1;have z3:=m.1;have z4:=q.1;have z5:=F.1;have G':b1≠Z:=by have:=aD l;omega
 have e':Fr No h3 u:=((q.tt F).fresh r (λy e=>ae)).fresh C (λy e=>ae);have d':=m.tt e';have z:=w.tt d';have v:=d'.get a' _root_.id;have s':=C.get d6 G';have R':=e'.1;refine jx x.dest v rfl rfl rfl rfl rfl (ah.fX (x:=(⟨x.ep,n.1,n.2⟩:jP).s) s' ⟨_,ai v,aE.gw (x:=(⟨0,0,x.dest,.zero,⟨x.ep,n.1,n.2⟩,x.gT⟩:Prim).s) λB h9 J' m' t=>⟨_,ai (t.get v _root_.id),aB.of λr' hJ=> ?_⟩⟩);have k':=t.get v _root_.id;have t':=t.get d7 _root_.id;have z9:=t.1;have n':b≠B:=by have:=aD v;omega
 have H':Z≠B:=by have:=aD d7;omega
 have fin: ∀g,aE.fR g B (rF x n).p.s->Fr (λy=>y=B) h9 g->r' g:=by
  intro g hp fg;subst hJ;have p':Fr No u g:=t.fresh fg (λy e=>ae);have l':=fg.get k' n';refine cf.fX (x:=x.as p c s ses) l' (aE.fX (x:=(rF x n).p.s) hp ⟨_,_,_,ai l',ay.cV (x:=(⟨1,1,0,0,x.nL⟩:oX).s p c) λb4 L' K' F' f'=>ah.fX (x:=(⟨a.e,n.1,n.2⟩:jP).s) (f'.get (fg.get t' H') _root_.id) ?_⟩);have T:=z.tt (p'.tt f');have o':=E.on T;refine Oi (b:=rF x n) (x:=x) (p:=p) (c:=c) o' ⟨w2,?_,w1⟩ (WX (b:=⟨1,1,0,0,x.nL⟩) F' (rx.frame T (λ_ _=>_root_.id)) cap) (by show 1<=_;omega) (λb' D'=>by rw[bW.1 D'];show x.nL.length<=_;omega) J λM' U q' I'=>⟨_,_,_,rfl,?_⟩;show 0<=(if x.on=true then x.ep else Ev.zero).fK;split;exact w1;exact gv 0;have S:=bp.no T I';have E':=S.fr.get G O;refine ji (z:=⟨id,0,(pC V a ses (rF x n) n).num,0,0,none,0,0⟩) E' cW rfl λO' u' g'=>ji (z:=⟨id,0,(pC V a ses (rF x n) n).num,(pC V a ses (rF x n) n).zj,0,none,0,0⟩) u' cW rfl λB' v' h'=> ?_;have no: ¬(U.M bo\/U.D bo):=λhm=>by have zo:=aD G;rcases hm with A|A;rcases S.iA bo A with A|A;exact O A;omega;rcases S.jF bo A with A|A;exact nb (.inr A);omega
  refine H B' U (q'.frame (g'.tt h') (λy hy e=>no (e▸hy))) (ij.of S (g'.tt h') ⟨_,v',λhe=>⟨none,0,?_,?_,?_⟩⟩);have:(pC V a ses (rF x n) n).d= []:=by unfold pC;split;rfl;unfold Lw;split<;>rfl
  rw[this];rfl;have:(pC V a ses (rF x n) n).d= []:=by unfold pC;split;rfl;unfold Lw;split<;>rfl
  rw[this];exact Row.nil;intro _ Q' hz;obtain⟨A,e,_⟩:=hz;cases e
 cases M:x.on with
 |false=>
  rw[af (by show¬x.on=true;rw[M];decide)];refine fin h9 ?_ (Fr.refl _ _);have:(rF x n).p=⟨0,0,x.dest,.zero,⟨x.ep,n.1,n.2⟩,x.gT⟩:=by unfold rF;rw[M];rfl
  rw[this];exact m'
 |true=>
  rw[ag (show x.on=true from M)];refine jx x.ep k' rfl rfl rfl rfl rfl (V7 131072 m' λP' w' i'=>⟨Ru i' n' bt,Yl x.ep w' λC' x' A'=>fin C' ?_ (i'.tt A')⟩);have:(rF x n).p=⟨131072,0,x.dest,x.ep,⟨x.ep,n.1,n.2⟩,x.gT⟩:=by unfold rF;rw[M];rfl
  rw[this];exact x'

end Ask
end
section
namespace Bn
open Cb
open ju (Ev cY mh)
variable {V:cQ→Bool} {h a H g:aA} {R:fp} {D:Nat→Prop}
abbrev C4.s(r:C4):aM.S:=⟨r.rc,r.dl,r.de,r.reason,r.at',r.of.e.jY,r.of.e.node,r.of.e.fK,r.of.e.host,r.of.e.jl,r.of.tm,r.of.sq⟩
theorem PZ(r:C4)(f: iG h R (.B (jn r))):Cl 345 #[r.s.agg] h R:=by
 refine Aj (aM.cV λb d E e F=>⟨_,ai e,?_⟩);have j:(r.rc||r.dl||r.de)=true->∃t,aU d (AA b 3)=some (.U t)/\if(decide (t<=255))=true then∃T,aU d (AA b 4)=some (.U T)/\if(decide (T<=1099511627776))=true then ah.cJ d (AA b 5) λp=>Cl 64 #[p.agg] d λv n=> ∃k,v=.B k/\R (.B k) n else R (.B false) d else R (.B false) d:=λo=>by
  refine⟨_,ai e,?_⟩;rw[show decide ((r.s.f3:Int)<=255)=decide (r.reason<=255)from mQ r.reason 255];unfold jn at f;rw[o]at f;by_cases c:r.reason<=255
  case neg=>grind
  rw[ag (aC c)];rw[aC c]at f;refine⟨_,ai e,?_⟩;rw[show decide ((r.s.f4:Int)<=1099511627776)=decide (r.at'<=1099511627776)from mQ r.at' 1099511627776];by_cases C:r.at'<=1099511627776
  case neg=>grind
  rw[ag (aC C)];rw[aC C]at f;exact EW r.of e rfl rfl rfl rfl rfl rfl rfl (xf r.of λm l=>⟨_,rfl,f m (F.tt l)⟩)
 cases c:r.rc with
 |true=>rw[ag (show r.s.f0=true from c)];exact j (by rw[c];rfl)
 |false=>
 rw[af (show¬r.s.f0=true by rw[show r.s.f0=r.rc from rfl,c];decide)];refine⟨_,ai e,?_⟩;cases C:r.dl with
 |true=>rw[ag (show r.s.f1=true from C)];exact j (by rw[c,C];rfl)
 |false=>
 rw[af (show¬r.s.f1=true by rw[show r.s.f1=r.dl from rfl,C];decide)];refine⟨_,ai e,?_⟩;cases i:r.de with
 |true=>rw[ag (show r.s.f2=true from i)];exact j (by rw[c,C,i];rfl)
 |false=>
 rw[af (show¬r.s.f2=true by rw[show r.s.f2=r.de from rfl,i];decide)];have:=f d F;unfold jn at this;rw[c,C,i]at this;exact this
abbrev bo(l:List Bool):List Value:=l.map λb=> .bool b
theorem Sw{p:bZ}{n c:Nat}{l:List Bool}(v:Row h p (bo l))(Z:n=l.length)(hl:l.length<=100000)(X: ∀H z,xx H (λy=>h.size<=y) (MA l) z->Fr No h H->R z.s.agg H):Cl 346 #[.L p n c] h R:=by
 subst Z;refine Dm (aa.cV λb S eb r f=>lu (ts:= []) (ys:= []) (D:=λ_=>True) ⟨rfl,.inl rfl,λe=>absurd rfl e,bu _⟩ .nil (by simp[dS]) λh2 z tz F=>aa.ex z.s ⟨rfl,aa.gw (x:=z.s) λB h4 M s d=> ?_⟩);have zb:=aD r;have z1:=f.1;have z2:=F.1;have z4:=d.1;have c':=aD s;have F4:=f.tt (F.tt d);obtain⟨zs,Q,x,K,P,I,G⟩:=Ry tz F d s M;refine⟨λt g=> ∃(i:Nat)(j:List CV)(q:bZ)(C:Nat),t=(i:Int)/\i<=l.length/\j.length=i/\Lc S g B z.k z.n z.v ((l.take i).map λb=>num (if b=true then 1 else 0)) j q C,λt _=>l.length - t.toNat,⟨0,zs,z.q,z.cl,rfl,bK _,Q,by rw[fN];exact x⟩,?_⟩;rintro _ g ⟨i,j,q,C,rfl,hi,hy,L⟩;by_cases u:i<l.length
 case neg=>rw[af (λe=>u (by grind))];rw[aX ae]at L;exact WI L K P I G f r ae ae ae X
 rw[gH];have w:Fr No h g:=f.fresh L.fr (λy e=>ae);obtain⟨A,rfl⟩:=v.some (by intro e;have:=bV List.length e;rw[aw,cA]at this;omega);have U:aU g (A.add (i*1))=some (.B l[i]):=by have:=(v.frame w bC).cell (j:=i) (v:=.B l[i]) bt;rw[cC];exact this
 refine⟨ae,bU.2 ⟨A,rfl,_,U,aB.of λJ T=> ?_⟩⟩;have go: ∀k:Nat,k=(if l[i]=true then 1 else 0)->J (k:Int) g:=by intro k O;subst T;dsimp only;refine⟨_,_,_,ai L.cN,fT λh6 o=>aa.ex (nv k).s ⟨rfl,o.kp,?_⟩⟩;refine Rz (L.on o) ae (VJ (n:=k)).Wp λg' a' q' E m b' _ _=> ?_;rw[dJ (n:=(i:Int)+1) ae ae];refine⟨⟨i+1,a',q',E,ae,ae,ae,?_⟩,by grind⟩;rw[aV,au u,aS];rw[O]at m;exact m
 cases c:l[i]with
 |true=>grind
 |false=>grind
def P0{r:C4}(b:jn r=true):room (Ja r)<=1000:=by unfold jn at b;simp only[aZ,bn]at b;have:=KY r.of b.2;simp only[Ja,MA,room,dS,cA,cp,List.map_nil];omega
def Oj(r:C4)(w:0<=r.of.e.fK)(U:mG V a)(B':Fr No a h)(k1: ∀B,Jb V r=some B->B.length<=1000->∀H p c,Own H p B.length c 1 (bc B)->(∀y,aL p y->h.size<=y)->Fr No h H->R (.T #[.L p B.length c,.I 0]) H)(X:Jb V r=none->iG h R (.T #[.Z,.I 3])):Cl 328 #[r.s.agg] h R:=by
 refine Ak (aM.cV λb h1 eb S f1=>EW r.of S rfl rfl rfl rfl rfl rfl rfl (NS r.of w λh2 z qz z0 z1 M=>aa.ex z.s ⟨_,rfl,aa.gw (x:=z.s) λb1 h4 H' w' o=>aB.of λk' P=> ?_⟩));have T:=(M.tt o).get S id;have E:=f1.tt (M.tt o);have bad: ∀g,Fr No h g->¬(jn r=true)->k' true g:=λg s hn=>by subst P;dsimp only;rw[ag rfl];exact X (by unfold Jb;rw[af (λe=>hn e.1)]) g s
 by_cases l:qz=0
 case neg=>rw[ag (dH l)];exact bad h4 E (λe=>l (z1.2 (by unfold jn at e;simp only[aZ]at e;exact e.2)))
 rw[af (dH l)];have tz:=z0 l;refine aM.fX T (PZ r λO k=>⟨_,rfl,?_⟩);have G:=E.tt k;cases A:jn r with
 |false=>exact bad O G (by rw[A];decide)
 |true=>
 clear bad;subst P;dsimp only;rw[dz];have i:=k.get T id;have rm:=P0 A;refine⟨_,ai i,_,ai i,_,ai i,_,ai i,_,ai i,aa.fX (k.get w' id) ?_⟩;have b': ∀g y,Jd g (MA [r.rc,r.dl,r.de]) y->Fr No O g->∀(x':List (bZ)){Z a':List (bZ)},Cl 144 #[.U (r.reason:Int)] g λC' x=>aa.EX λc'=>C'=c'.agg/\Kp g x Z/\Cl 144 #[.U (r.at':Int)] x λD' Q=>aa.EX λd'=>D'=d'.agg/\Kp x Q a'/\
   aW Q (.C (y.s.l++c'.l++d'.l++z.s.l).toArray 201) λl' r'=>Cl 210 #[.L (Sa l' 0) 4 4] r' λE' s'=>aa.EX λe'=>E'=e'.agg/\
   aW s' (.C ((nv 1).s.l++e'.l).toArray 201) λm' t'=>Cl 210 #[.L (Sa m' 0) 2 2] t' λF' u'=>aa.EX λf'=>F'=f'.agg/\Cl 101 #[f'.agg] u' λG' v'=>
   ∃i' h' g' j',G'=.T #[.L i' h' g',.I j']/\R (.T #[.L i' h' g',.I j']) v':=by
  intro g y t s x' Z a';refine fT λh9 q=>aa.ex (nv r.reason).s ⟨rfl,q.kp,fT λp' m=>aa.ex (nv r.at').s ⟨rfl,m.kp,?_⟩⟩;have I:=s.tt (q.tt m);have T4:GN p' [MA [r.rc,r.dl,r.de],num r.reason,num r.at',Re r.of] [y,nv r.reason,nv r.at',z]:=.cons (t.on (q.tt m)) (.cons oZ (.cons oZ (.cons (tz.on (o.tt (k.tt I))) .nil)));have e2:room (Ja r)=27+dS [MA [r.rc,r.dl,r.de],num r.reason,num r.at',Re r.of]:=by simp only[Ja,room,dS,cA];omega
  refine sH T4 ae rfl rfl λq' w tw n'=>aa.ex w.s ⟨rfl,?_⟩;have T2:GN q' [num 1,vG [MA [r.rc,r.dl,r.de],num r.reason,num r.at',Re r.of]] [nv 1,w]:=two oZ tw.u;refine sH T2 (by simp only[dS,room,cA]at e2⊢;omega) rfl rfl λI' w2 A' o'=>aa.ex w2.s ⟨rfl,?_⟩;have j:=G.tt (I.tt (n'.tt o'));refine Bi U (B'.tt j) A'.Wp (t:=Ja r) ae (λe u p c z' y' n=>⟨_,_,_,_,rfl,?_⟩) (λe u n=>⟨_,_,_,_,rfl,?_⟩);have:=j.1;exact k1 (enc (Ja r)) (by unfold Jb;rw[ag ⟨A,e⟩]) (bN (mf (Ja r))) u p c z' (λy hy=>bN (y' y hy)) (j.tt n);exact X (by unfold Jb;rw[af (λL=>by rw[e]at L;cases L.2)]) u (j.tt n)
 have J: ∀{g}{K:Nat->dw},(∀b H,Row H (Sa b 0) (bo [r.rc,r.dl,r.de])->Fr No g H->K b H)->aW g (.C #[.B r.s.f0,.B r.s.f1,.B r.s.f2] 4) K:=λhk=>cg (hk _ _ jj (Fr.push _ _));refine⟨?_,?_,trivial⟩;refine fT (n:=1) λh6 f=>aa.ex (nv 1).s ⟨rfl,f.kp,J λb2 h7 C F=>⟨F.kp,Sw C rfl (by show 3<=_;omega) λv y t d=>aa.ex y.s ⟨rfl,d.kp,b' v y t.u (f.tt (F.tt d)) []⟩⟩⟩;refine J λb2 h7 C F=>⟨F.kp,fT (n:=1) λh6 f=>aa.ex (nv 1).s ⟨rfl,f.kp,Sw (C.frame f bC) rfl (by show 3<=_;omega) λv y t d=>aa.ex y.s ⟨rfl,d.kp,b' v y t.u (F.tt (f.tt d)) []⟩⟩⟩
theorem P1(r:C4)(d:Ev)(id:jP)(l:Nat)(i':0<=r.of.e.fK)(w1:0<=d.fK)(w2:0<=id.e.fK)(U:mG V a)(c':Fr No a h)(mx:jS.Mx h)(k1: ∀b,nU V r d id l=some b->b.bl.length=1->b.p.wf->(∀v∈b.bl,v.data.length<=1000)->∀H b' L xs,jC H (λy=>h.size<=y) b.bl b' b.bl.length L xs->Fr No h H->R (.T #[(b.s b' L).agg,.I 0]) H)(k2:nU V r d id l=none->iG h R (.T #[ak.S.z.agg,.I 3])):Cl 320 #[r.s.agg,d.s.agg,id.s.agg,.U (l:Int)] h R:=by
 refine yE (aM.cV λb h1 eb hb w=>av.cV λb1 h2 k' f' x=>ah.cV λb2 h3 l' g' o=>ak.cV λb3 h4 m' C q=>aM.fX ((x.tt (o.tt q)).get hb _root_.id) ?_);have k:=w.tt (x.tt (o.tt q));have z4:=k.1;have z1:=w.1;have z3:=(w.tt (x.tt o)).1;have r':=aD C;refine Oj r i' U (c'.tt k) (λi I lb Q p c a' h' F=>⟨_,_,_,_,rfl,?_⟩) (λI Q F=>⟨_,_,_,_,rfl,?_⟩)
 case refine_2=>rw[gH];exact Fb (F.get C _root_.id) λg f=>k2 (by unfold nU;rw[I]) g ((k.tt F).fresh f (λy e=>ae))
 rw[dz];have u:=k.tt F;have z5:=F.1;refine av.fX (x:=d.s) ((o.tt (q.tt F)).get f' _root_.id) (ah.fX (x:=id.s) ((q.tt F).get g' _root_.id) (ay.cV (x:=oX.s ⟨1,1,0,0,i⟩ p c) λm h7 n' T z=>ak.cV λb5 h8 o' X s=> ?_));have t:nU V r d id l=if(ku V ⟨⟨2,0,d,.zero,id,l⟩, [⟨1,1,0,0,i⟩]⟩).isSome=true then some ⟨⟨2,0,d,.zero,id,l⟩, [⟨1,1,0,0,i⟩]⟩else none:=by unfold nU;rw[I]
 generalize A:(⟨⟨2,0,d,.zero,id,l⟩, [⟨1,1,0,0,i⟩]⟩:nT)=B at t;have E:B.bl= [⟨1,1,0,0,i⟩]:=by rw[<-A]
 have O:B.p.wf:=by rw[<-A];exact⟨w1,gv 0,w2⟩
 have s':=aD T;have t':=aD X;have z7:=z.1;have z8:=s.1;have B8:jC h8 (λy=>h4.size<=y/\y≠b5) B.bl (Sa m 0) B.bl.length 1 [⟨⟨1,1,0,0,i⟩,p,c⟩]:=by rw[E];refine⟨rfl,rfl,.inr ⟨_,rfl,ay.jw (x:=oX.s ⟨1,1,0,0,i⟩ p c) (s.get T _root_.id)⟩,λ_ y ⟨j',e,e'⟩=>by grind,bu _,λq' hx=> ?_⟩;rw[bW.1 hx];exact BV.jK ((a'.frame z (λ_ _=>_root_.id)).frame s (λ_ _=>_root_.id)) (λy j=>⟨h' y j,bN (a'.dk j)⟩)
 have eS:(B.s (Sa m 0) 1)=(⟨2,0,d.s.f0,d.s.f1,d.s.f2,d.s.f3,d.s.f4,false,0,0,⟨#[]⟩,⟨#[]⟩,id.s.f0,id.s.f1,id.s.f2,id.s.f3,id.s.f4,id.s.f5,id.s.f6,l,(Sa m 0),1,1⟩:ak.S):=by rw[<-A];rfl
 rw[<-eS];refine ak.iB (x:=B.s (Sa m 0) 1) X λh9 M P _=>ak.fX M ?_;have G:Fr No Q h9:=(z.tt s).fresh P (λy e=>ae);have J:=B8.frame P (λy j e=>j.2 e);refine xg O U (c'.tt (u.tt G)) (mx.on (u.tt G)) J (by rw[E];simp) (λv d'=>by grind) λp' n=>⟨_,rfl,?_⟩;have S:=(F.tt (G.tt n)).get C _root_.id;have K:=u.tt (G.tt n);cases Z:(ku V B).isSome with
 |false=>rw[gH];exact Fb S λg f=>k2 (by rw[t,Z];rfl) g (K.fresh f (λy e=>ae))
 |true=>rw[dz];rw[Z,ag rfl]at t;refine ak.fX (n.get M _root_.id) (Fb S λg f=>k1 B t (by rw[E];rfl) O (λv d'=>by grind) g _ 1 [⟨⟨1,1,0,0,i⟩,p,c⟩] ?_ (K.fresh f (λy e=>ae)));exact((J.on n).frame f (λy j e=>ae)).mono λy j=>ae

end Bn
end
section
variable {h:aA} {R:fp}
variable {b:ak.S} {k s n:Int}
def FU{b:ay.S}(c:aW h (.C b.arr 134) λB H=> ∃T,Cc H B 0 (.U T)/\ite (T !=k) (R (.I 4) H) (ay.cJ H (AA B 0) λd=>Cl 98 #[d.agg] H λv a=> ∃t,v=.B t/\ite (!t) (R (.I 3) a) (R (.I 0) a))):Cl 349 #[b.agg,.U k] h R:=aP [] c
def B0{b:ay.S}(d:aW h (.C b.arr 134) λB a=>ay.cJ a (AA B 0) λj=>Cl 349 #[j.agg,.U 7] a λv H=> ∃t,v=.I t/\ite (t !=0) (R (.T #[.U 0,.I t]) H) (Hl H B 4 λg f e=>Cl 208 #[.L g f e] H λV c=> ∃T i,V=.T #[.U T,.B i]/\R (.T #[.U T,.I 0]) c)):Cl 330 #[b.agg] h R:=aP [] d
def yY{c:ay.S}{C:Nat}(a:aW h (.C c.arr 134) λb H=>Hu H b 0 λT=> ∃t,Cc H C 0 (.U t)/\R (.B (T==t)) H):Cl 347 #[c.agg,.P C 0] h R:=aP [] a
def iT{d:bZ}{S g:Nat}{f:Nat} (e: ∃(I:kj)(m:kG),I 0 h/\∀t H,I t H->ite (decide (t<(S:Int))) (Bd t S/\aH d λa=>ay.cJ H (a.add (toNat t*5)) λi=>Cl 347 #[i.agg,.P f 0] H λv c=> ∃T,v=.B T/\ite T (R (.I t) c) ((I (wrap .i64 (t+1)) c/\m (wrap .i64 (t+1)) c<m t H))) (R (.I (-1)) H)):Cl 348 #[.L d S g,.func (.func 347) #[] #[.P f 0]] h R:=aP [(6,.loop [(8,sI)])] e
def B5(w:aW h (.C b.arr 73) λd p=>aW p (.C #[.U k] 27) λo q=>ay.NW q λB f=>Hl f d 20 λC A z=>Cl 348 #[.L C A z,.func (.func 347) #[] #[.P o 0]] f λv H=> ∃t,v=.I t/\ite (decide (t<0)) (ay.dv H (AA B 0) ay.S.z λg=>ay.cJ g (AA B 0) λx=>R (.T #[x.agg,.B false]) g) (Hl H d 20 λE D _=>Bd t D/\aH E λa=>ay.cJ H (a.add (toNat t*5)) λF=>ay.NW H λc r=>ay.dv r (AA c 0) F λi=>Hl i c 4 λJ I G=>Cl 57 #[.L J I G] i λV u=> ∃m l T,V=.L m l T/\aO u (AA c 4) (.L m l T) λj=>ay.cJ j (AA c 0) λK=>ay.dv j (AA B 0) K λe=>ay.cJ e (AA B 0) λy=>R (.T #[y.agg,.B true]) e)):Cl 329 #[b.agg,.U k] h R:=aP [] w
def JI (d:aW h (.C b.arr 73) λB a=>ak.cJ a (AA B 0) λe=>Cl 199 #[e.agg] a λv H=> ∃t,v=.B t/\ite (!t) (R (.I 3) H) (aB (λ(T:Bool) c=>ite T (R (.I 1) c) (R (.I 0) c)) (λJ=>ite (decide (s>n)) (J true H) (J (decide (n>1099511627776)) H)))):Cl 281 #[b.agg,.U s,.U n] h R:=aP [(11,.join [(11,sB)])] d
def JJ(i:aW h (.C b.arr 73) λd a=>ak.cJ a (AA d 0) λm=>Cl 329 #[m.agg,.U 7] a λv e=>ay.EX λT=> ∃c,v=.T #[T.agg,.B c]/\ay.NW e λB f=>ay.dv f (AA B 0) T λH=>ite (!c) (R (.U 0) H) (ay.cJ H (AA B 0) λj=>Cl 330 #[j.agg] H λV g=> ∃t l,V=.T #[.U t,.I l]/\R (.U t) g)):Cl 283 #[b.agg] h R:=aP [] i
def GW{p:aE.S}{o:Int}{c:Int} (g:aW h (.C p.arr 70) λb H=>Hu H b 17 λi=>aB (λ(P:Int) a=> ∃e,Cc a b 19 (.U e)/\ite (decide (P≥e)) (R (.U 0) a) (∃f,Cc a b 19 (.U f)/\R (.U (wrap .u64 (f - P))) a)) (λJ=>ite (decide (i>0)) (∃t,Cc H b 17 (.U t)/\ite (decide (n<t)) (Hu H b 19 λj=> ∃T,Cc H b 17 (.U T)/\R (.U (wrap .u64 (j+(wrap .u64 (T - n))))) H) (∃d,Cc H b 17 (.U d)/\J (wrap .u64 (n - d)) H)) (J (wrap .u64 (o+c)) H))):Cl 282 #[p.agg,.U o,.U c,.U n] h R:=aP [(7,.join [(9,sU)])] g
def GX(f:aW h (.C b.arr 73) λB a=>ak.cJ a (AA B 0) λj=>Cl 281 #[j.agg,.U s,.U n] a λv H=> ∃t,v=.I t/\ite (t !=0) (R (.T #[.U 0,.I t]) H) (aE.cJ H (AA B 0) λg=>ak.cJ H (AA B 0) λi=>Cl 283 #[i.agg] H λV c=> ∃T,V=.U T/\Kp H c [(Sa B 0)]/\Cl 282 #[g.agg,.U T,.U (wrap .u64 (n - s)),.U n] c λl e=> ∃d,l=.U d/\R (.T #[.U d,.I 0]) e)):Cl 203 #[b.agg,.U s,.U n] h R:=aP [(13,λ_=> .ob (gB 3 0 (gB 4 4 (.op 3 (gB 3 8 .done)))))] f
def Ca{l:bZ}{j i:Nat} (hv:aM.NW h λb e'=>Cl 196 #[.L l j i,.I 0] e' λT' g'=>aa.EX λK=> ∃p' L,T'=.T #[K.agg,.I p',.I L]/\aa.NW g' λB h'=>aa.dv h' (AA B 0) K λc=>aB (λ(C':Bool) e=>ite C' (aM.dv e (AA b 0) aM.S.z λG=>aM.cJ G (AA b 0) λr0=>R (.T #[r0.agg,.I 3]) G) (Hl e B 3 λE' D' _=>Bd 1 D'/\aH E' λa=>lW e ((a.add (toNat 1*4)).add 3) λd T _=>Bd 3 T/\aH d λa'=>aa.cJ e (a'.add (toNat 3*4)) λF'=>Cl 277 #[F'.agg] e λU' i'=>ah.EX λQ=> ∃S,U'=.T #[Q.agg,.I S]/\ah.NW i' λf j'=>ah.dv j' (AA f 0) Q λH=>ite (S !=0) (aM.dv H (AA b 0) aM.S.z λy=>aM.cJ y (AA b 0) λk'=>R (.T #[k'.agg,.I 3]) y) (Bd 0 T/\aH d λA=>lW H ((A.add (toNat 0*4)).add 3) λH' G' _=>Bd 0 G'/\aH H' λp=>gZ H ((p.add (toNat 0*4)).add 1) λI'=>Bd 0 T/\aH d λq=>lW H ((q.add (toNat 0*4)).add 3) λK' J' _=>Bd 1 J'/\aH K' λr=>gZ H ((r.add (toNat 1*4)).add 1) λL'=>Bd 0 T/\aH d λu=>lW H ((u.add (toNat 0*4)).add 3) λO' M' _=>Bd 2 M'/\aH O' λv=>gZ H ((v.add (toNat 2*4)).add 1) λP'=>Bd 1 T/\aH d λw=>gZ H ((w.add (toNat 1*4)).add 1) λQ'=>Bd 2 T/\aH d λx=>gZ H ((x.add (toNat 2*4)).add 1) λR'=>ah.cJ H (AA f 0) λt=>aM.NW H λg z=>Kp H z [(Sa f 0),(some ((x.add (toNat 2*4)).add 1)),(some ((w.add (toNat 1*4)).add 1)),(some ((v.add (toNat 2*4)).add 1)),(some ((u.add (toNat 0*4)).add 3)),(some ((r.add (toNat 1*4)).add 1)),(some ((q.add (toNat 0*4)).add 3)),(some ((p.add (toNat 0*4)).add 1)),(some ((A.add (toNat 0*4)).add 3))]/\aM.dv z (AA g 0) ⟨(I'==1),(L'==1),(P'==1),Q',R',t.f0,t.f1,t.f2,t.f3,t.f4,t.f5,t.f6⟩ λC=>aM.cJ C (AA g 0) λS'=>Cl 328 #[S'.agg] C λV' D=> ∃X V U Z,V'=.T #[.L X V U,.I Z]/\aB (λ(n':Bool) m=>ite n' (aM.dv m (AA b 0) aM.S.z λE=>aM.cJ E (AA b 0) λl'=>R (.T #[l'.agg,.I 3]) E) (aM.cJ m (AA g 0) λo'=>aM.dv m (AA b 0) o' λF=>aM.cJ F (AA b 0) λm'=>R (.T #[m'.agg,.I 0]) F)) (λo=>ite (Z !=0) (o true D) (Cl 35 #[.L X V U,.L l j i] D λX' f'=> ∃I,X'=.B I/\o (!I) f'))))) (λJ=>ite (L !=0) (J true c) (∃r' M q',Cc c B 3 (.L r' M q')/\ite (((M:Nat):Int) !=2) (J true c) (Hl c B 3 λt' s' _=>Bd 1 s'/\aH t' λb'=> ∃v' O u',aU c ((b'.add (toNat 1*4)).add 3)=some (.L v' O u')/\ite (((O:Nat):Int) !=4) (J true c) (Hl c B 3 λx' w' _=>Bd 1 w'/\aH x' λc'=>lW c ((c'.add (toNat 1*4)).add 3) λz' y' _=>Bd 0 y'/\aH z' λd'=> ∃B' P A',aU c ((d'.add (toNat 0*4)).add 3)=some (.L B' P A')/\J (((P:Nat):Int) !=3) c))))):Cl 279 #[.L l j i] h R:=aP [(6,.join [(46,sB)]),(25,λ_=>pK 36),(30,.join [(109,sB)])] hv
def FV(o:aW h (.C b.arr 73) λa j=>aM.NW j λB H=> ∃i,Cc H a 0 (.U i)/\ite ((wrap .u64 ((pG i &&& pG 2).toNat:Int))==0) (aM.dv H (AA B 0) aM.S.z λd=>aM.cJ d (AA B 0) λr=>R (.T #[r.agg,.I 4]) d) (ak.cJ H (AA a 0) λu=>Cl 199 #[u.agg] H λv c=> ∃t,v=.B t/\ite (!t) (aM.dv c (AA B 0) aM.S.z λe=>aM.cJ e (AA B 0) λp=>R (.T #[p.agg,.I 3]) e) (ak.cJ c (AA a 0) λw=>Cl 264 #[w.agg] c λV l=>Vl V λz y x=>Cl 279 #[.L z y x] l λA m=>aM.EX λT=> ∃g,A=.T #[T.agg,.I g]/\aM.dv m (AA B 0) T λf=>aM.cJ f (AA B 0) λq=>R (.T #[q.agg,.I g]) f))):Cl 201 #[b.agg] h R:=aP [] o

end
section
namespace Jk
open Cb (Tr iD Jd nV od HD)
open Bn (at_ mj ku nT oX Prim C4 jP jC BB E9 Am vP Jb kX fP TI mO elem jH mn)
variable {V:cQ→Bool} {h H a g:aA} {R:fp} {p q:bZ} {c C:Nat} {x:List BB} {D:Nat→Prop} {b:nT}
variable {k:Nat}
def Uq(V:kF)(z:oX)(k:Nat):Int:=if z.ty=k then(if mO V z=true then 0 else 3)else 4
def Ur(V:kF)(z:oX):Nat:=if Uq V z 7=0 then(fP V z.data).n else 0
def Ix(l:List oX)(k:Nat):Option oX:=l.find? λz=>decide (z.ty=k)
def P2(V:kF)(l:List oX):Nat:=match Ix l 7 with|none=>0|some z=>Ur V z
def Nj(V:kF)(b:nT)(s n:Nat):Int:=if(ku V b).isSome=true then(if s>n\/n>1099511627776 then 1 else 0)else 3
def Ve(P:Prim)(o n:Nat):Nat:=if P.id.tm>0 then n - P.id.tm else o
def Ol(P:Prim)(o n:Nat):Nat:=if P.id.tm>0/\n<P.id.tm then P.gT+(P.id.tm - n)else P.gT - Ve P o n
theorem Us(z:oX)(k:Nat)(U:Cb.mG V a)(u:Fr No a h)(M:jS.Mx h)(r:Row h p (bc z.data))(cap:z.data.length<=c)(m:z.data.length<=80000)(d: iG h R (.I (Uq V z k))):Cl 349 #[(z.s p c).agg,.U (k:Int)] h R:=by
 refine FU (ay.cV λb n E i f=>⟨_,ai i,?_⟩);unfold Uq at d;by_cases l:z.ty=k
 case neg=>grind
 rw[ag l]at d;rw[af (by grind)];refine ay.fX i (Bn.Bv z U (u.tt f) (M.on f) (r.frame f bC) cap m λe F=>⟨_,rfl,?_⟩);cases j:mO V z with
 |false=>rw[j]at d;exact d e (f.tt F)
 |true=>rw[j]at d;exact d e (f.tt F)
theorem Sx(z:oX)(U:Cb.mG V a)(u:Fr No a h)(M:jS.Mx h)(r:Row h p (bc z.data))(cap:z.data.length<=c)(l:z.data.length<=80000)(d: ∀H (e:Int),Fr No h H->R (.T #[.U (Ur V z:Int),.I e]) H):Cl 330 #[(z.s p c).agg] h R:=by
 refine B0 (ay.cV λb s E j f=>ay.fX j (Us z 7 U (u.tt f) (M.on f) (r.frame f bC) cap l λn F=>⟨_,rfl,?_⟩));unfold Ur at d;by_cases i:Uq V z 7=0
 case neg=>rw[af i]at d;rw[ag (dH i)];exact d n _ (f.tt F)
 rw[ag i]at d;rw[af (by grind)];refine⟨_,_,_,ai (F.get j id),Bn.Jj U (u.tt (f.tt F)) (r.frame (f.tt F) bC) rfl cap l λo m=>⟨_,_,rfl,d o _ (f.tt (F.tt m))⟩⟩
theorem Sy{i n m:Nat}(B:jC h D b.bl q b.bl.length C x)(Q:n=b.bl.length)(P:b.bl.length<=1000000)(s:h[i]? =some (.C #[.U (k:Int)] 27 (0,0)))(w: iG h R (.I (idxOf (λX:BB=>decide (X.b.ty=k)) x))):
  Cl 348 #[.L q n m,.func (.func 347) #[] #[.P i 0]] h R:=by
 have U:=B.xl;refine iT (qL (λX:BB=>decide (X.b.ty=k)) (λt g K=>((0)<=t/\t<((n:Nat)))/\aH q λA=>ay.cJ g (A.add (Int.toNat t*5)) λT=>Cl 347 #[T.agg,.P i 0] g λv G=> ∃t,v=.B t/\K t G) ae ae (λj M y K l f r=> ?_) w);have lt:=(aJ.1 l).1;have⟨A,d,E,O,J,S,z⟩:=(B.on f).get (i:=j) ae;obtain rfl:d=y:=bF (z.symm.trans l);refine⟨ae,bU.2 ⟨A,E,ay.iR (x:=d.s) (by grind) (yY (ay.cV λI o L u F=>⟨_,ai u,_,ai ((f.tt F).get s id),_,rfl,?_⟩))⟩⟩;have e:((d.b.ty)==(k:Int))=decide (d.b.ty=k):=by grind
 rw[e];exact r o (f.tt F)
theorem Sz{l:List BB}:(Ix (l.map BB.b) k=none/\idxOf (λX:BB=>decide (X.b.ty=k)) l= -1)\/∃(i:Nat)(y:BB),idxOf (λX:BB=>decide (X.b.ty=k)) l=(i:Int)/\l[i]? =some y/\Ix (l.map BB.b) k=some y.b:=by
 unfold Ix idxOf;rw[List.find?_map];cases f:l.findIdx? (λX=>decide (X.b.ty=k))with
 |none=>grind
 |some i=>right;have⟨d,e,m⟩:=dp.1 f;refine⟨i,l[i],rfl,au d,?_⟩;have:l.find? ((λz=>decide (z.ty=k)) ∘ BB.b)=some l[i]:=fY.2 ⟨e,i,d,rfl,λj n=>by grind⟩;rw[this];rfl
def SA{b:Nat}{y X:ay.S}{K:ay.S->dw}(e:ay.fR h b y)(i: ∀H,Fr (λy=>y=b) h H->K X H):
  ay.dv h (AA b 0) X λg=>ay.cJ g (AA b 0) λr=>K r g:=
 ay.iB e λg d f _=>ay.fX d (i g f)
def Ut{b:Nat}{z:oX}{Q:bZ}{d:Nat}{K:dw}(l:ay.fR h b (z.s p c))(n: ∀H,ay.fR H b (z.s Q d)->Fr (λy=>y=b) h H->K H):aO h (AA b 4) (.L Q z.data.length d) K:=
 bf l bt λj e f i=>n j e (Fr.of_eq f λc m=>i c m)
theorem iN(k:Nat)(B:jC h D b.bl q b.bl.length C x)(X:b.bl.length<=1000000)(hd: ∀z∈b.bl,z.data.length<=80000)(k1: ∀z,Ix b.bl k=some z->z∈b.bl->∀H p c,Row H p (bc z.data)->z.data.length<=c->Fr No h H->R (.T #[(z.s p c).agg,.B true]) H)(k2:Ix b.bl k=none->iG h R (.T #[ay.S.z.agg,.B false])):
  Cl 329 #[(b.s q C).agg,.U (k:Int)] h R:=by
 refine B5 (ak.cV λb1 d c' J G=>cg ?_);have f:Fr No d (d.push (.C #[.U (k)] 27)):=Fr.push _ _;have K:(d.push (.C #[.U (k)] 27))[d.size]? =some (.C #[.U (k)] 27 (0,0)):=bR;generalize d.push (.C #[.U (k)] 27)=h2 at f K⊢;refine ay.cV λb3 h3 d' t i=> ?_;have v:=G.tt (f.tt i);have z1:=G.1;have z2:=f.1;have f':=aD t;refine⟨_,_,_,ai ((f.tt i).get J id),Sy (B.on v) rfl X (i.get K id) λh4 F=>⟨_,rfl,?_⟩⟩;have m:=v.tt F;have w:=B.eq;rcases Sz with⟨n,j⟩|⟨b',y,n,j,L⟩;rw[w]at n;rw[j,gH];exact SA (F.get t id) λU S=>k2 n U (m.fresh S (λy e=>ae));rw[w]at L;rw[n,af bt];have xl:=B.xl;have li:=(aJ.1 j).1;have⟨A,l,E,hh,e1,ok,a'⟩:=(B.on m).get (i:=b') ae;obtain rfl:l=y:=bF (a'.symm.trans j);have Z:l.b∈b.bl:=by grind
 have sl:(b.s q C).Mu=b.bl.length:=rfl;refine⟨_,_,_,ai ((f.tt (i.tt F)).get J id),ae,bU.2 ⟨A,E,ay.iR (by grind) (ay.gw (x:=l.s) λb4 h7 e' u o=>⟨_,_,_,ai u,gg.hY (ok.row.frame o bC) rfl (by grind) λp8 P h8 O r M=>⟨_,_,_,rfl,?_⟩⟩)⟩⟩;have z4:=F.1;have g':=aD u;refine Ut (r.get u id) λh9 Q s=>ay.fX Q (SA (s.get ((F.tt (o.tt r)).get t id) ae) λT I=>(k1 l.b L Z T p8 P ((O.hT.frame s (λA E hx=>bN (M A.block ⟨A,E,rfl⟩))).frame I (λA E hx=>bN (M A.block ⟨A,E,rfl⟩))) O.le (((m.tt (o.tt r)).fresh s (λy e=>ae)).fresh I (λy e=>ae))))
def Jj(U:Cb.mG V a)(u:Fr No a h)(M:jS.Mx h)(B:jC h D b.bl q b.bl.length C x)(A:b.bl.length<=1000000)(n: ∀z∈b.bl,z.data.length<=80000)(d: iG h R (.U (P2 V b.bl:Int))):
  Cl 283 #[(b.s q C).agg] h R:=by
 unfold P2 at d;refine JJ (ak.cV λK O L y i=>ak.fX y (iN 7 (B.on i) A n (λz J G v p c r s j=>ay.ex (z.s p c) ⟨_,rfl,ay.gw λo l E m f=> ?_⟩) (λI v j=>ay.ex .z ⟨_,rfl,ay.gw λo l E m f=> ?_⟩)));rw[J]at d;rw[dz];have F:=i.tt (j.tt f);exact ay.fX m (Sx z U (u.tt F) (M.on F) (r.frame f bC) s (n z G) λw e t=>⟨_,_,rfl,d w (F.tt t)⟩);rw[I]at d;exact d l (i.tt (j.tt f))
theorem Uu(s n:Nat)(w:b.p.wf)(U:Cb.mG V a)(u:Fr No a h)(M:jS.Mx h)(B:jC h D b.bl q b.bl.length C x)(l:b.bl.length<=1000000)(j: ∀z∈b.bl,z.data.length<=80000)(d: iG h R (.I (Nj V b s n))):
  Cl 281 #[(b.s q C).agg,.U (s:Int),.U (n:Int)] h R:=by
 unfold Nj at d;refine JI (ak.cV λo v E i f=>ak.fX i (Bn.xg w U (u.tt f) (M.on f) (B.on f) l j λe F=>⟨_,rfl,?_⟩));cases m:(ku V b).isSome with
 |false=>rw[m]at d;exact d e (f.tt F)
 |true=>
 rw[dz];have d:=d e (f.tt F);refine aB.of λJ y=> ?_;by_cases r:s>n;grind;by_cases t:n>1099511627776;grind;grind
theorem SB(P:Prim)(o d:Nat)(j:P.gT<=1099511627776)(s:P.id.tm<=1099511627776)(t:d<=1099511627776)(u:o<=18446744073709551615)(i: iG h R (.U (Ol P o d:Int))):
  Cl 282 #[P.s.agg,.U (o:Int),.U 0,.U (d:Int)] h R:=by
 refine GW (aE.cV (x:=P.s) λb j E f F=>⟨_,ai f,aB.of λJ r=> ?_⟩);have i:=i j F;unfold Ol Ve at i;have fin: ∀n:Nat,(if P.id.tm>0/\d<P.id.tm then P.gT+(P.id.tm - d)else P.gT - (if P.id.tm>0 then d - P.id.tm else o))=P.gT - n->J (n:Int) j:=by intro n e;rw[e]at i;subst r;dsimp only;refine⟨_,ai f,?_⟩;by_cases c:n≥P.gT;grind;rw[af (by grind)];refine⟨_,ai f,?_⟩;show R (.U (IntKind.wrap .u64 ((P.gT:Int) - (n:Int)))) j;rw[vx,show(P.gT:Int) - (n:Int)=((P.gT - n:Nat):Int) by omega];exact i
 by_cases l:P.id.tm>0;rw[ag (aC (by show(P.id.tm:Int)>0;omega))];refine⟨_,ai f,?_⟩;by_cases m:d<P.id.tm;rw[ag (aC (by show(d:Int)<(P.id.tm:Int);omega))];rw[ag ⟨l,m⟩]at i;refine⟨_,ai f,_,ai f,?_⟩;show R (.U (IntKind.wrap .u64 ((P.gT:Int)+(IntKind.wrap .u64 ((P.id.tm:Int) - (d:Int)))))) j;rw[wrap_u64 (n:=(P.id.tm:Int) - (d:Int)) ae ae,vx,show(P.gT:Int)+((P.id.tm:Int) - (d:Int))=((P.gT+(P.id.tm - d):Nat):Int) by omega];exact i;rw[af (by grind)];refine⟨_,ai f,?_⟩;show J (IntKind.wrap .u64 ((d:Int) - (P.id.tm:Int))) j;rw[vx,show(d:Int) - (P.id.tm:Int)=((d - P.id.tm:Nat):Int) by omega];exact fin _ (by rw[af (λe=>m e.2),ag l]);rw[af (by grind)];rw[Int.add_zero,vx];exact fin _ (by rw[af (λe=>l e.1),af l])
def mI(V:kF)(b:nT)(n:Nat):Nat×Int:=if Nj V b n n=0 then(Ol b.p (P2 V b.bl) n,0)else(0,Nj V b n n)
theorem Uv{B:cQ}{l pos left:Nat}{t:Cb.Tr}{e lf:Nat}(h:Cb.iI V B l pos left=.ok (t,e,lf)):t.n<=18446744073709551615:=by
 cases l with
 |zero=>unfold Cb.iI at h;split at h;cases h;grind
 |succ l=>
  unfold Cb.iI at h;split at h;cases h;rename_i m n o f d;have:=(Cb.A5 d).2.2.1;split at h;dsimp only at h;split at h;cases h;split at h;cases h;show n<=_;omega;split at h;split at h
  cases h;cases h;exact bK _;split at h;cases h;cases h;exact bK _;cases h
def Uw(B:cQ):(fP V B).n<=18446744073709551615:=by unfold fP Cb.od;split;rename_i t n d;split at d;cases d;rename_i e;cases d;exact Uv e;decide
def Ux(l:List oX):P2 V l<=18446744073709551615:=by
 unfold P2 Ur;split;omega;split
 exact Uw _;exact bK _
theorem Uy(n:Nat)(A:n<=1099511627776)(w:b.p.wf)(U:Cb.mG V a)(u:Fr No a h)(M:jS.Mx h)(B:jC h D b.bl q b.bl.length C x)(t:b.bl.length<=1000000)(i: ∀z∈b.bl,z.data.length<=80000)(l: iG h R (.T #[.U ((mI V b n).1:Int),.I (mI V b n).2])):
  Cl 203 #[(b.s q C).agg,.U (n:Int),.U (n:Int)] h R:=by
 unfold mI at l;refine GX (ak.cV λG J I r f=>ak.fX r (Uu n n w U (u.tt f) (M.on f) (B.on f) t i λK m=>⟨_,rfl,?_⟩));have F:=f.tt m;by_cases e:Nj V b n n=0
 case neg=>simp_all
 rw[ag e]at l;rw[af (by grind)];have s:=m.get r id;have j:Bn.nR b.p=true:=by unfold Nj at e;split at e;rename_i E;have⟨d,i⟩:=dL.1 E;exact Ask.yX i;cases e
 have pr:b.p.gT<=1099511627776/\b.p.id.tm<=1099511627776:=by unfold Bn.nR Bn.iJ at j;simp only[aZ,bn]at j;exact⟨j.2,j.1.2.1.2⟩
 refine Bn.Xu s (ak.fX s (Jj U (u.tt F) (M.on F) (B.on F) t i λL o=>⟨_,rfl,o.kp,?_⟩));rw[Int.sub_self,show IntKind.wrap .u64 0=0 by rfl];exact SB b.p (P2 V b.bl) n pr.1 pr.2 A (Ux (V:=V) b.bl) λy v=>⟨_,rfl,l y (F.tt (o.tt v))⟩

end Jk
end
section
namespace Jk
open Cb (Tr iD Jd nV od oJ vH HD)
open Bn (at_ mj ku nT oX Prim C4 jP jC BB vP Jb kX elem jH mn)
variable {V:cQ→Bool} {h H a g:aA} {R:fp} {p q:bZ} {c C:Nat} {x:List BB} {D:Nat→Prop} {b:nT}
def FW(t:Tr):Prop:=t.l.length=2/\(at_ t.l 1).l.length=4/\(at_ (at_ t.l 1).l 0).l.length=3
instance (t : Tr) : Decidable (FW t) := by unfold FW; infer_instance
def Om(t:Tr)(X:jP):C4:=⟨(at_ (at_ (at_ t.l 1).l 0).l 0).n==1,(at_ (at_ (at_ t.l 1).l 0).l 1).n==1,(at_ (at_ (at_ t.l 1).l 0).l 2).n==1,(at_ (at_ t.l 1).l 1).n,(at_ (at_ t.l 1).l 2).n,X⟩
def Cd(V:kF)(B:cQ):Bool:=match od V B with
 | .error _=>false
 | .ok (t,_)=>if FW t then(match kX V (at_ (at_ t.l 1).l 3)with|none=>false|some X=>decide (Jb V (Om t X)=some B))else false
def JK{b:Nat}{y X:aM.S}{K:aM.S->dw}(e:aM.fR h b y)(i: ∀H,Fr (λy=>y=b) h H->K X H):
  aM.dv h (AA b 0) X λg=>aM.cJ g (AA b 0) λr=>K r g:=
 aM.iB e λg d f _=>aM.fX d (i g f)
theorem Nk{B:cQ}{j':Nat}(U:Cb.mG V a)(c':Fr No a h)(mx:jS.Mx h)(k':Row h p (bc B))(hl:j'=B.length)(cap:B.length<=c)(b6:B.length<=1300)(hk: ∀H (r:aM.S) (e:Int),(e=0↔Cd V B=true)->Fr No h H->R (.T #[r.agg,.I e]) H):Cl 279 #[.L p j' c] h R:=by
 subst hl;refine Ca (aM.cV (x:=.z) λb h1 eb hb f=> ?_);have zb:=aD hb;have z1:=f.1;have z: ∀g,Fr No h1 g->Cd V B=false->aM.dv g (AA b 0) .z λG=>aM.cJ G (AA b 0) λr=>R (.T #[r.agg,.I 3]) G:=λg fg e=>JK (fg.get hb id) λG f'=>hk G _ 3 ⟨λq=>absurd q cW,λq=>by rw[e]at q;cases q⟩ ((f.tt fg).fresh f' (λm' e=>ae));have d:Cd V B=Cd V B:=rfl;conv at d=>rhs;unfold Cd
 refine Cb.zU (U.mono (c'.tt f)) (k'.frame f bC) rfl cap ae (λh3 t d' nx hr tx S=>aa.ex d'.s ⟨_,_,rfl,aa.gw (x:=d'.s) λb1 m p' n v=> ?_⟩) (λh3 e he S=>aa.ex Bn.zv.s ⟨_,_,rfl,aa.gw (x:=Bn.zv.s) λb1 m p' n v=> ?_⟩)
 case refine_2=>refine aB.of λe' hJ=> ?_;rw[ag (dH (oJ he))];subst hJ;dsimp only;rw[ag rfl];exact z m (S.tt v) (by rw[d,he])
 rw[hr]at d;dsimp only at d;obtain⟨rt,b8⟩:=vH hr;have o:=S.tt v;obtain⟨xk,xn,xb,xl,xv,ys,L,TS⟩:=Bn.iD.kn (tx.u.on v);have rl:=mn (t:=t);have sl:d'.s.JT=t.l.length:=xl;refine aB.of λe' hJ=> ?_;have bad: ¬FW t->e' true m:=λhn=>by grind
 rw[dz];refine⟨_,_,_,ai n,?_⟩;rw[sl];by_cases l2:t.l.length=2
 case neg=>rw[ag (by simp only[fi,ne_eq];omega)];exact bad (λe=>l2 e.1)
 rw[af (by simp only[fi,ne_eq];omega)];obtain⟨a1,y,P,D',l',_⟩:=elem L TS (i:=1) ae;obtain⟨a8,a9,a7,A,c7,c9,I,s⟩:=Bn.iD.kn l';have j:aU m ((a1.add (Int.toNat 1*4)).add 3)=some (.L y.q y.ll y.cl):=D'.2.2.2.1;have r1:=jH (ts:=t.l) (i:=1) ae;refine⟨_,_,_,ai n,ae,bU.2 ⟨a1,P,_,_,_,j,?_⟩⟩;rw[A];by_cases l4:(at_ t.l 1).l.length=4
 case neg=>rw[ag (by simp only[fi,ne_eq];omega)];exact bad (λe=>l4 e.2.1)
 rw[af (by simp only[fi,ne_eq];omega)];obtain⟨T,k⟩: ∃T,at_ t.l 1=T:=⟨_,rfl⟩;rw[k]at l' r1 a8 a9 a7 A s l4;obtain⟨p0,w0,w',K',V',_⟩:=elem I s (i:=0) ae;obtain⟨c4,c5,c3,a5,c6,c8,L0,b0⟩:=Bn.iD.kn V';have c0:aU m ((p0.add (Int.toNat 0*4)).add 3)=some (.L w0.q w0.ll w0.cl):=K'.2.2.2.1;refine⟨_,_,_,ai n,ae,bU.2 ⟨a1,P,_,_,_,j,ae,bU.2 ⟨p0,w',_,_,_,c0,?_⟩⟩⟩;rw[a5];by_cases l3:(at_ T.l 0).l.length=3
 case neg=>rw[show(((((at_ T.l 0).l.length:Nat):Int)) !=3)=true by simp only[fi,ne_eq];omega];exact bad (λe=>l3 (by rw[<-k];exact e.2.2))
 rw[show(((((at_ T.l 0).l.length:Nat):Int)) !=3)=false by simp only[gy];omega];have sh:FW t:=⟨l2,by rw[k];exact l4,by rw[k];exact l3⟩;rw[ag sh]at d;clear bad;subst hJ;dsimp only;rw[af (show¬false=true by decide)];obtain⟨p3,w3,x',L',X',_⟩:=elem I s (i:=3) ae;have r3:=jH (ts:=T.l) (i:=3) ae;have c1:=mn (t:=T);have O':y.ll=T.l.length:=A;refine⟨_,_,_,ai n,ae,bU.2 ⟨a1,P,_,_,_,j,ae,bU.2 ⟨p3,x',aa.iR (x:=w3.s) L' (Bn.KZ U (c'.tt (f.tt o)) (mx.on (f.tt o)) X' ae (λid hid h7 X=>ah.ex id.s ⟨_,rfl,ah.gw (x:=id.s) λb2 i q' i' Z=> ?_⟩) (λhid h7 X=>ah.ex jP.zero.s ⟨_,rfl,ah.gw (x:=jP.zero.s) λb2 i q' i' Z=> ?_⟩))⟩⟩⟩
 case refine_2=>rw[gH];rw[k,hid]at d;exact z i (o.tt (X.tt Z)) d
 rw[dz];rw[k,hid]at d;dsimp only at d;have E:=X.tt Z;have F9:=o.tt E;have a6:=Bn.yz hid;have J:=I.frame E (λ_ _=>_root_.id);have O:=s.on E;obtain⟨u,v0,Q,H',S',_⟩:=elem J O (i:=0) ae;obtain⟨d1,v1,r',I',T',_⟩:=elem J O (i:=1) ae;obtain⟨d2,v2,s',J',U',_⟩:=elem J O (i:=2) ae;obtain⟨_,_,_,c2,_,zs,M,K⟩:=Bn.iD.kn S';obtain⟨_,a3,_⟩:=Bn.iD.kn T';obtain⟨_,a4,_⟩:=Bn.iD.kn U';obtain⟨g0,u0,t',E',P',_⟩:=elem M K (i:=0) ae;obtain⟨g1,u1,u',F',Q',_⟩:=elem M K (i:=1) ae;obtain⟨g2,u2,v',G',R',_⟩:=elem M K (i:=2) ae;obtain⟨_,Z',_⟩:=Bn.iD.kn P';obtain⟨_,a0,_⟩:=Bn.iD.kn Q';obtain⟨_,a2,_⟩:=Bn.iD.kn R';have j:aU i ((u.add (Int.toNat 0*4)).add 3)=some (.L v0.q v0.ll v0.cl):=H'.2.2.2.1;have n0:aU i ((g0.add (Int.toNat 0*4)).add 1)=some (.U (u0.n:Int)):=E'.2.1;have n1:aU i ((g1.add (Int.toNat 1*4)).add 1)=some (.U (u1.n:Int)):=F'.2.1;have n2:aU i ((g2.add (Int.toNat 2*4)).add 1)=some (.U (u2.n:Int)):=G'.2.1;have m1:aU i ((d1.add (Int.toNat 1*4)).add 1)=some (.U (v1.n:Int)):=I'.2.1;have m2:aU i ((d2.add (Int.toNat 2*4)).add 1)=some (.U (v2.n:Int)):=J'.2.1;rw[Z']at n0;rw[a0]at n1;rw[a2]at n2;rw[a3]at m1;rw[a4]at m2;have ib: ∀b':Nat,((b':Int)==1)=(b'==1):=λb'=>by grind
 have O':y.ll=T.l.length:=A;refine⟨ae,bU.2 ⟨u,Q,_,_,_,j,ae,bU.2 ⟨g0,t',_,n0,ae,bU.2 ⟨u,Q,_,_,_,j,ae,bU.2 ⟨g1,u',_,n1,ae,bU.2 ⟨u,Q,_,_,_,j,ae,bU.2 ⟨g2,v',_,n2,ae,bU.2 ⟨d1,r',_,m1,ae,bU.2 ⟨d2,s',_,m2,ah.fX (x:=id.s) i' ?_⟩⟩⟩⟩⟩⟩⟩⟩⟩;refine aM.cV (x:=.z) λb3 A' b5 C' h'=>⟨h'.kp,?_⟩;rw[ib,ib,ib];subst k;have wr:0<=(Om t id).of.e.fK:=a6;refine show aM.dv A' (AA b3 0) (Om t id).s _ from ?_;generalize Om t id=r at d wr;refine aM.iB (x:=r.s) C' λB' g' z' _=>aM.fX (x:=r.s) g' ?_;have n':=F9.tt h';have z9:=F9.1;have l:Fr No h1 B':=n'.fresh z' (λm' e=>ae);refine Bn.Oj r wr U (c'.tt (f.tt l)) (λo' hw lw a' b9 b4 M' b7 F=>⟨_,_,_,_,rfl,aB.of λJ1 w=> ?_⟩) (λhw a' F=>⟨_,_,_,_,rfl,aB.of λJ1 w=> ?_⟩);rw[dz];refine Cb.jg M'.hT (k'.frame (f.tt (l.tt F)) (λ_ _=>_root_.id)) rfl rfl ⟨_,rfl,?_⟩;rw[hw]at d;by_cases e:o'=B;rw[aC e];subst w;dsimp only;rw[dz];refine aM.fX (x:=r.s) (F.get g' _root_.id) (JK ((l.tt F).get hb _root_.id) λg y'=> ?_);exact hk g _ 0 ⟨λ_=>by rw[d,aC (by rw[e])],λ_=>rfl⟩ ((f.tt (l.tt F)).fresh y' (λm' e=>ae));rw[aT e];subst w;dsimp only;rw[gH];exact z a' (l.tt F) (by grind);rw[gH];subst w;dsimp only;rw[ag rfl];exact z a' (l.tt F) (by rw[d,aT (by rw[hw];intro q;cases q)])
def FX(V:kF)(b:nT):Bool:= !Ask.JD (b.p.fl:Int) 2 && (ku V b).isSome && Cd V (vP b)
theorem wx(a':b.p.wf)(U:Cb.mG V a)(u:Fr No a h)(M:jS.Mx h)(B:jC h D b.bl q b.bl.length C x)(I:b.bl.length<=1000000)(S: ∀z∈b.bl,z.data.length<=1000)(A: ∀H (r:aM.S) (e:Int),(e=0↔FX V b=true)->Fr No h H->R (.T #[r.agg,.I e]) H):Cl 201 #[(b.s q C).agg] h R:=by
 refine FV (ak.cV (x:=b.s q C) λb1 h1 c' l n=>aM.cV (x:=.z) λm v d' w j=>⟨_,ai (j.get l id),?_⟩);have F:=n.tt j;have z1:=n.1;have E:FX V b=FX V b:=rfl;conv at E=>rhs;unfold FX
 have K: ∀g (e:Int),Fr No v g->FX V b=false->e≠0->aM.dv g (AA m 0) .z λG=>aM.cJ G (AA m 0) λr=>R (.T #[r.agg,.I e]) G:=λg e t L Z=>JK (t.get w id) λG P=>A G _ e ⟨λq=>absurd q Z,λq=>by rw[L]at q;cases q⟩ ((F.tt t).fresh P (λb' e=>ae));split
 rename_i d;have d:Ask.JD (b.p.fl:Int) 2=true:=d;exact K v 4 (Fr.refl _ _) (by rw[E,d];rfl) cW;rename_i d;have d:Ask.JD (b.p.fl:Int) 2=false:=by
  cases X:Ask.JD (b.p.fl:Int) 2 with
  |true=>exact absurd X d
  |false=>rfl
 rw[d]at E;have y: ∀z∈b.bl,z.data.length<=80000:=λz hz=>by have:=S z hz;omega
 refine ak.fX (x:=b.s q C) (j.get l id) (Bn.xg a' U (u.tt F) (M.on F) (B.on F) I y λQ i=>⟨_,rfl,?_⟩);cases J:(ku V b).isSome with
 |false=>rw[gH];exact K Q 3 i (by rw[E,J];rfl) cW
 |true=>
 rw[dz];rw[J]at E;refine ak.fX (x:=b.s q C) ((j.tt i).get l id) (Bn.Fa (B.on (F.tt i)) I y λh6 p6 c6 O n6 o=>⟨_,_,_,rfl,?_⟩);have k:=F.tt (i.tt o);have lp:(vP b).length<=1300:=by unfold vP;split;exact bK _;grind
 refine Nk U (u.tt k) (M.on k) O.hT rfl O.le lp λh7 r e T s=>aM.ex r ⟨_,rfl,JK ((i.tt (o.tt s)).get w id) λg f=>A g r e ?_ ((k.tt s).fresh f (λb' e=>ae))⟩;rw[E,T];rfl

end Jk
end
section
namespace Jk
open dV (SS Good)
open Go.Proofs.YtelbcloplcdchaaGreatDoor.Ask (Ot bad Rq Lx rH)
open Bn (nT mj ku)
open Go.fv (RD)
variable {V:cQ→Bool} {σ:SS} {k:Nat} {b:nT} {data:cQ} {x:xE}
def x5(V:kF)(σ:SS)(b:nT)(data:cQ):Ot:=match fE.jB σ.G b.p.dest with
 |none=>bad σ 4
 |some r=>if FX V b=true then⟨{ σ with A:=eM.Fx σ.A r.own data },0,0,if eM.H0 σ.A r.own data=0 then 1 else 0, []⟩
  else if r.lS=2/\eM.VU σ.A r.own=false then bad σ 19
  else if(mI V b σ.now).2≠0 then bad σ (mI V b σ.now).2
  else if(mI V b σ.now).1=0 then bad σ 18
  else⟨{ σ with C:=gi.mq σ.C b.p.dest data (min (σ.now+(mI V b σ.now).1) 1099511627776) },gi.jQ σ.C b.p.dest data (min (σ.now+(mI V b σ.now).1) 1099511627776),gi.Fz σ.C b.p.dest data (min (σ.now+(mI V b σ.now).1) 1099511627776),0, []⟩
def JL(o:Ot):Ot:=if o.e≠0 then { o with σ:= { o.σ with rf:=o.σ.rf+1 } } else o
def xR(V:kF)(σ:SS)(data:cQ):Ot:=match mj V data with
 | .error e=>JL (bad σ e)
 | .ok b=>JL (x5 V σ b data)
structure Hq where
 σ:SS
 e:Int
 y:RD
def jk(V:kF)(σ:SS)(x:xE):Hq:=
 if x.kind=1 then⟨{ σ with A:=eM.wv σ.A x.token },eM.oj σ.A x.token,⟨0,0,eM.Fw σ.A x.token,0,x.token, []⟩⟩
 else if x.kind=2 then⟨{ σ with A:=eM.Pw σ.A x.token },eM.VV σ.A x.token,⟨0,0,eM.R3 σ.A x.token,0,x.token, []⟩⟩
 else if x.kind=3 then⟨{ σ with A:=eM.HZ σ.A x.ses },eM.R4 σ.A x.ses,RD.zero⟩
 else if x.kind=4 then⟨(Lx V σ x.ses x.kO).1,0,(Lx V σ x.ses x.kO).2⟩
 else if x.kind=5 then⟨(xR V σ x.data).σ,(xR V σ x.data).e,⟨0,0,(xR V σ x.data).num,(xR V σ x.data).zj,0, []⟩⟩
 else if x.kind=6 then(match σ.B.items with| []=>⟨σ,4,RD.zero⟩|z::_=>⟨dV.Iq σ,0,⟨0,0,z.num,0,0,z.d⟩⟩)
 else if x.kind=8 then⟨{ σ with A:=eM.pk σ.A },0,RD.zero⟩
 else⟨σ,0,RD.zero⟩
def gj(V:kF)(σ:SS)(x:xE):Hq:=
 if DK V x=true then
  if dV.tY σ x.now=0 then(if(jk V (dV.tZ σ x.now) x).e=0 then⟨(jk V (dV.tZ σ x.now) x).σ,0,(jk V (dV.tZ σ x.now) x).y⟩
   else⟨(jk V (dV.tZ σ x.now) x).σ,0,rH 0 (jk V (dV.tZ σ x.now) x).e⟩)
  else⟨σ,dV.tY σ x.now,RD.zero⟩
 else⟨σ,3,RD.zero⟩
def Good.mE{A:List eM.eM}(G:dV.Good σ k)(a:eM.lF A):dV.Good { σ with A:=A } k:=⟨a,G.g,G.c,G.b,G.v,G.q,G.ok,G.n,G.e,G.t,G.r⟩
def Good.WY(G:dV.Good σ k)(O:gi.Ord σ.C)(h:k<=30000)(H:0<=b.p.dest.fK):dV.Good (x5 V σ b data).σ (k+1):=by
 have m:=dV.Good.more G;unfold x5;split;exact m;split
 exact dV.Good.more (Good.mE G (G.a.note _ _));split
 exact m;split
 exact m;split
 exact m;exact dV.Good.Yj G O h _ H _ _
def Good.ref{o:Ot}(G:dV.Good o.σ k):dV.Good (JL o).σ (k+1):=by unfold JL;split;have m:=dV.Good.more G;exact⟨m.a,m.g,m.c,m.b,m.v,m.q,m.ok,m.n,m.e,m.t,by have:=G.r;show o.σ.rf+1<=_;omega⟩;exact dV.Good.more G
def Good.arr(G:dV.Good σ k)(O:gi.Ord σ.C)(H:k<=30000)(a: ∀b,mj V data=.ok b->0<=b.p.dest.fK):dV.Good (xR V σ data).σ (k+2):=by unfold xR;split;exact Good.ref (dV.Good.more G);rename_i b h;exact Good.ref (Good.WY G O H (a b h))
def Good.V8(G:dV.Good σ k)(O:gi.Ord σ.C)(h:k<=30000)(a: ∀b,mj V x.data=.ok b->0<=b.p.dest.fK)(H:0<=x.kO.ep.fK):dV.Good (jk V σ x).σ (k+2):=by
 unfold jk;split;exact dV.Good.more (dV.Good.wv G _);split
 exact dV.Good.more (dV.Good.more (Good.mE G (G.a.res _)));split
 exact dV.Good.more (dV.Good.more (Good.mE G (G.a.down _)));split
 exact Ask.Good.Lx G O h H;split
 exact Good.arr G O h a;split
 split
 exact dV.Good.more (dV.Good.more G);exact dV.Good.more (dV.Good.take G);split
 exact dV.Good.more (dV.Good.more (Good.mE G G.a.Uc));exact dV.Good.more (dV.Good.more G)

end Jk
end
section
namespace Ask
open ju (Ev cY)
open dV (SS Good Pt oF Mk)
open Bn (jP iJ jx EW Jf nT Prim oX jC BB ku mj vP)
variable {V:cQ→Bool} {h H f g:aA} {R:fp} {s k bo id c:Nat} {X d:Ft} {I:oF} {a:SS} {p:bZ} {b:Int} {x:Rq} {D:Nat→Prop}
def bp.box{B:Nat}(S:bp X h d H)(F:Fr (λy=>y=B) H g)(i:h.size<=B):bp X h d g:=⟨S.fr.trans F (λ_ _ A=>A) (λc j e=>ae),S.iA,S.jF,S.nP⟩
def SD(a:SS)(X:Ft)(I:oF)(s:Nat)(b:Int)(i:Nat)(x:Ev)(g:aA)(S:aQ.S)(e:Int)(H:aA):Prop:=
 ∃d j,Pt H s d I j/\bp X g d H/\((¬gi.yP b i/\e=1/\j=a)\/(gi.yP b i/\gi.nW a.C.L x=none/\e=4/\j=a)\/
  (gi.yP b i/\∃z,gi.nW a.C.L x=some z/\e=0/\j= { a with C:=gi.wD a.C z b i } /\∃p c,S.f0=(z.num:Int)/\S.HF=p/\S.HG=z.d.length/\S.HI=c/\Row H p (bc z.d)/\z.d.length<=c/\∀y,aL p y->g.size<=y/\¬d.M y))
def FY(l:Pt g s X I a)(G:dV.Good a k)(U:k<=30000)(x:Ev)(i:Nat){K:aQ.S->kj}(n: ∀S e H,SD a X I s b i x g S e H->K S e H):
  Cl 262 #[pt I.c,x.s.agg,.I b,.U (i:Int)] g λv H=>aQ.EX λS=> ∃e,v=.T #[S.agg,.I e]/\K S e H:=by
 have⟨Z,q,zm,zd,go⟩:=l.use 2;refine gi.PH q (G.small l.ord ae) G.c.ok.bd x b i rfl (λj m F=> ?_) (λj J m F=> ?_) (λj z q m A P C t s1 O B r=> ?_);exact aQ.ex .z ⟨_,rfl,n _ _ _ ⟨X,a,l.on F,bp.iw F,.inl ⟨j,rfl,rfl⟩⟩⟩;exact aQ.ex .z ⟨_,rfl,n _ _ _ ⟨X,a,l.on F,bp.iw F,.inr (.inl ⟨j,J,rfl,rfl⟩)⟩⟩;have⟨w,u,Q,T,M⟩:=go m A { a with C:=gi.wD a.C z b i } t s1 (λa' E=>dV.BQ _ E);exact aQ.ex ⟨(z.num),z.e.jY,z.e.node,z.e.fK,z.e.host,z.e.jl,P,z.d.length,C,(z.dB),b,(i)⟩ ⟨_,rfl,n _ _ _ ⟨w,_,u,Q,.inr (.inr ⟨j,z,q,rfl,rfl,P,C,rfl,rfl,rfl,rfl,O,B,λy o=>⟨(r y o).1,λL=>(r y o).2 (M y (r y o).1 (.inl L))⟩⟩)⟩⟩
def Uz(E:En V f h s X I a k)(ht:0<=x.kV/\x.kV<=1000000)(v:aj.fR h bo (y0 id))(nb: ¬(X.M bo\/X.D bo))(n: ∀H d,Pt H s d I (Is V a b x).σ->ij X h bo id (Is V a b x) d H->R (.I (Is V a b x).e) H):
  Cl 189 #[(x.as p c s b).agg,.P bo 0] h R:=by
 refine xP (cf.cV (x:=x.as p c s b) λD' h1 eb s' f1=>cf.fX (x:=x.as p c s b) s' (JH (E.H.on f1) λh2 t=>⟨_,rfl,?_⟩));have F2:=f1.tt t;have r:=E.on F2;have w:=t.get s' _root_.id;have O: ¬X.M bo:=λe=>nb (.inl e);have zo:=aD v;have z1:=f1.1;have z2:=t.1;unfold Is at n;by_cases ho:fE.kL a.G x.ep b=0
 case neg=>rw[af ho]at n;rw[ag (dH ho)];exact n h2 X r.H (ij.bad v O (bp.iw F2))
 rw[ag ho]at n;rw[af (dH ho)];refine aB.of λC' hJ=> ?_;have fin: ∀(g H G:aA)(S:aQ.S)(e:Int)(l:Nat),SD a X I s b (Va a x) x.ep g S e H->Fr No h2 g->h.size<=l->(l<g.size\/H.size<=l)->aQ.fR G l S->Fr (λy=>y=l) H G->C' (Sa l 0) e G:=by
  intro g H G S e l L fg T' a6 hS c';subst hJ;dsimp only;obtain⟨d,b1,H',k',c⟩:=L;have zg:=fg.1;have l':=bp.no (F2.tt fg) k';have j:=bp.box l' c' T';have X': ∀y,d.M y\/d.D y->y≠l:=λy i e=>by have:=H'.lt y i;rcases i with A|A;rcases k'.iA y A with A|A;have:=E.H.lt y (.inl A);omega;omega;rcases k'.jF y A with A|A;have:=E.H.lt y (.inr A);omega;omega
  have Hg:=H'.frame c' (λy i e=>X' y i e);rcases c with⟨K,rfl,rfl⟩|⟨K,hn,rfl,rfl⟩|⟨K,z,hz,rfl,rfl,p1,c1,e0,e1,e2,e3,r1,cap,n1⟩;rw[af K]at n;rw[gH];exact n G d Hg (ij.bad v O j);rw[ag K,hn]at n;rw[gH];exact n G d Hg (ij.bad v O j);rw[ag K,hz]at n;dsimp only at n;rw[dz];have rg:Row G p1 (bc z.d):=by by_cases hd:z.d= [];rw[hd];exact Row.nil;refine r1.frame c' (λA T M=> ?_);have h3:=n1 A.block ⟨A,T,rfl⟩;have h4:=jd r1 (by simpa[bc]using hd) ⟨A,T,rfl⟩;have M:A.block=l:=M;omega
  have ug:=(E.u.step j).fr;have ac: ∀(t':Nat){g2:aA}{a':Value},Fr No G g2->S.arr[t']? =some a'->aU g2 (AA l t')=some a':=λ_ _ _ t hv=>gm (t.get hS _root_.id) hv;have a5:=aD hS;have U':=j.fr.get v O;have bne:bo≠l:=ae
  have u': ∀(Z:aA)(m:nT)(q:bZ)(C:Nat)(xs:List BB)(D:gF),jC Z D m.bl q m.bl.length C xs->m.bl.length<=1000000->(∀y∈m.bl,y.data.length<=80000)->(vP m).length=PT V z.d->Fr No G Z->
   aW Z (.C ak.S.z.arr 73) λp' P'=>
   ak.dv P' (AA p' 0) (m.s q C) λu=>
   aH (some ((AA l 0):Addr)) λo'=>
   ∃x',aU u o'=some (.I x')/\
   ak.cJ u (AA p' 0) λa0=>
   aH (some ((AA l 0):Addr)) λQ=>
   ∃B' A' z',aU u (Q.add 6)=some (.L B' A' z')/\
   Cl 264 #[a0.agg] u λa3 h'=>
   ∃a2 y' a1,a3=.L a2 y' a1/\
   Kp u h' [(some (Q.add 6)),(some o')]/\
   aO h' (AA bo 2) (.I x') λi'=>
   Kp h' i' [(some (Q.add 6))]/\
   aO i' (AA bo 3) (.I ((y':Nat):Int)) λr'=>
   Kp i' r' [(some (Q.add 6))]/\
   aO r' (AA bo 5) (.L B' A' z') λO'=>
   R (.I 0) O':=by
   intro Z m q C xs D B hl hd hp o;refine ak.gw (x:=m.s q C) λb6 g6 a8 S' U=>ar.2 ⟨_,ac 0 (o.tt U) rfl,ak.fX (x:=m.s q C) S' (ar.2 ⟨_,_,_,ac 6 (o.tt U) rfl,Bn.Fa (B.on U) hl hd λg7 p7 c7 o7 n7 f7=>⟨_,_,_,rfl,f7.kp,?_⟩⟩)⟩;have P:=o.tt (U.tt f7);rw[hp,e0,e1,e2,e3];refine ji (z:=⟨id,0,(z.num:Int),0,0,none,0,0⟩) (P.get U' _root_.id) cW rfl λg8 d8 f8=>⟨Ru f8 bne.symm (by simp;rfl),ji (z:=⟨id,0,(z.num:Int),(PT V z.d:Int),0,none,0,0⟩) d8 cW rfl λg9 d9 f9=>⟨Ru f9 bne.symm (by simp;rfl),ji (z:=⟨id,0,(z.num:Int),(PT V z.d:Int),0,p1,z.d.length,c1⟩) d9 cW rfl λK' E' I'=> ?_⟩⟩;have fo:=f8.tt (f9.tt I');have Z': ∀y,d.M y\/d.D y->y≠bo:=λy i e=>by rcases i with A|A;rcases l'.iA y A with A|A;exact O (e▸A);omega;rcases l'.jF y A with A|A;exact nb (.inr (e▸A));omega
   refine n K' d ((Hg.on P).frame fo (λy i e=>Z' y i e)) (ij.of (j.on P) fo ⟨_,E',λ_=>⟨p1,c1,rfl,?_,λ_ y i=>⟨.inl (bN ((n1 y i).1)),(n1 y i).2⟩⟩⟩);exact(rg.frame P (λ_ _=>_root_.id)).frame fo (λA T M=>by have h3:=(n1 A.block ⟨A,T,rfl⟩).1;have M:A.block=bo:=M;omega)
  refine ar.2 ⟨_,_,_,ac 6 (Fr.refl _ _) rfl,?_⟩;rw[e1,e2,e3];refine Bn.DJ E.U ug (E.mx.on ug) rg rfl cap (λm Q' w' V' b0 h5 q C xs B o=>ak.ex (m.s q C) ⟨_,rfl,?_⟩) (λe he hn h5 o=>ak.ex .z ⟨_,rfl,?_⟩);exact u' h5 m q C xs _ B ae (λy i=>bN (V' y i)) (by unfold PT;rw[Q']) o;exact u' h5 ⟨.zero, []⟩ none 0 [] (λ_=>True) ⟨rfl,rfl,Row.nil,λe=>absurd rfl e,bu _,λy i=>by cases i⟩ (by show 0<=_;omega) (λy i=>by cases i) (by unfold PT;rw[he];rfl) o
 have j': ¬X.M D':=E.nM ae;have eT:IntKind.wrap .u64 x.kV=(x.kV.toNat:Int):=by rw[vx];omega
 have un: ∀{g:aA}{n':kj},n' (Va a x:Int) g->Cl 263 #[.U (a.now:Int),.U (IntKind.wrap .u64 x.kV)] g λa' G=> ∃v',a'=.U v'/\n' v' G:=λhK=>by rw[eT];exact LI a.now x.kV.toNat E.G.n ae ⟨_,rfl,hK⟩
 refine⟨_,ai w,ar.2 ⟨_,ai r.H.cN,jx x.ep w rfl rfl rfl rfl rfl ⟨_,ai w,_,ai w,ar.2 ⟨_,ai r.H.cN,_,ai w,⟨?_,?_,trivial⟩⟩⟩⟩⟩;refine un ⟨(Fr.refl (λ_=>False) _).kp,?_,?_,trivial⟩;exact FY r.H E.G E.hk x.ep (Va a x) λS e L' L=>⟨(by obtain⟨_,_,_,j,_⟩:=_root_.id L;exact JG j.fr j' bt),aQ.cV λb2 a9 a7 R' q'=>⟨q'.kp,aQ.iB (x:=S) R' λM' F' J' _=>fin h2 L' M' S e b2 L (Fr.refl _ _) (by obtain⟨_,_,_,j,_⟩:=_root_.id L;have:=j.fr.1;omega) (.inr ae) F' (Fr.no q' J')⟩⟩;refine aQ.cV λb3 e' G' J F=>⟨F.kp,FY (r.H.on F) E.G E.hk x.ep (Va a x) λS e f' L=> ?_⟩;have a4:=F.1;have m':=aD J;exact⟨(by obtain⟨_,_,_,j,_⟩:=_root_.id L;exact JG j.fr j' bt),aQ.iB (x:=S) (by obtain⟨_,_,_,j,_⟩:=_root_.id L;exact j.fr.get J (E.nM ae)) λg' b' d' _=>fin e' f' g' S e b3 L F ae (.inl m') b' d'⟩;refine aQ.cV λb3 e' G' J F=>⟨F.kp,un ⟨(Fr.refl (λ_=>False) _).kp,FY (r.H.on F) E.G E.hk x.ep (Va a x) λS e f' L=> ?_⟩⟩;have a4:=F.1;have m':=aD J;exact⟨(by obtain⟨_,_,_,j,_⟩:=_root_.id L;exact JG j.fr j' bt),aQ.iB (x:=S) (by obtain⟨_,_,_,j,_⟩:=_root_.id L;exact j.fr.get J (E.nM ae)) λg' b' d' _=>fin e' f' g' S e b3 L F ae (.inl m') b' d'⟩
theorem Fy(E:En V f h s X I a k)(r:aj.fR h bo (y0 id))(nb: ¬(X.M bo\/X.D bo))(j: ∀H d,Pt H s d I (BW a b x.on).σ->ij X h bo id (BW a b x.on) d H->R (.I (BW a b x.on).e) H):
  Cl 192 #[(x.as p c s b).agg,.P bo 0] h R:=by
 refine wN (cf.cV (x:=x.as p c s b) λB h1 eb n O=> ?_);have J:=E.on O;have w: ¬X.M bo:=λe=>nb (.inl e);have zo:=aD r;have G: ¬X.M B:=E.nM ae;obtain⟨Z,v,zm,zd,go⟩:=J.H.use 0;unfold BW at j;refine⟨_,ai n,ar.2 ⟨_,ai J.H.cN,_,ai n,_,ai n,eM.Fy v E.G.a λQ Z2 T2 s2=> ?_⟩⟩;obtain⟨L,m,o,l',m'⟩:=go Q Z2 { a with A:=eM.kY a.A b x.on } T2 s2 (λi' t=>dV.wC _ t);refine⟨_,rfl,JG o.fr G bt,aB.of λk' U=> ?_⟩;have e':=bp.no O o;by_cases i:eM.BI a.A b=0
 case neg=>
  rw[af i]at j;rw[af (dH i)];subst U;have eA:eM.kY a.A b x.on=a.A:=by
   unfold eM.BI at i;unfold eM.kY;cases hs:eM.pj a.A b with
   |none=>rfl
   |some z=>grind
  rw[eA]at m;exact j Q L m (ij.bad r w e')
 rw[ag i]at j;rw[ag (by rw[i];rfl)];have a':=o.fr.get n G;have j': ¬L.M B:=λu=>by rcases o.iA B u with A|A;exact G A;grind
 obtain⟨Z3,h',p',o',f'⟩:=m.use 0;refine⟨_,ai a',ar.2 ⟨_,ai m.cN,_,ai a',eM.lD h' (E.G.a.watch b x.on) λh4 Z4 P C T4 s4 c'=> ?_⟩⟩;obtain⟨q,K,d',M,n'⟩:=f' h4 Z4 { a with A:=eM.Ic (eM.kY a.A b x.on) b } T4 s4 (λi' t=>dV.wC (σ:= { a with A:=eM.kY a.A b x.on }) _ t);have S:=e'.trans d';refine⟨_,_,_,_,_,rfl,JG d'.fr j' bt,?_⟩;have g':=S.fr.get r w;refine ji (z:=⟨id,0,0,0,0,P,(eM.Ib (eM.kY a.A b x.on) b).length,C⟩) g' cW rfl λh5 d5 f5=>ji (z:=⟨id,0,0,eM.N9 (eM.kY a.A b x.on) b,0,P,(eM.Ib (eM.kY a.A b x.on) b).length,C⟩) d5 cW rfl λh6 d6 f6=> ?_;subst U;have F:=f5.tt f6;have b': ∀y,q.M y\/q.D y->y≠bo:=λy l e=>by rcases l with A|A;rcases S.iA y A with A|A;exact w (e▸A);omega;rcases S.jF y A with A|A;grind;omega
 refine j h6 q (K.frame F (λy l e=>b' y l e)) (ij.of S F ⟨_,d6,λ_=>⟨P,C,rfl,?_,λhd z v=> ?_⟩⟩);have:=BV.ok.frame c' F (λy l e=>b' y (.inr (M y l)) e);exact this.row;have T:=M z (c'.own hd z v);exact⟨(S.jF z T).symm,λu=>K.xY z u T⟩

end Ask
end
section
namespace Ask
open ju (Ev cY)
open dV (SS Good Pt oF Mk)
open Bn (jP iJ jx EW Jf nT Prim oX C4 jC BB ku mj vP nU)
variable {V:cQ→Bool} {h H f g:aA} {R:fp} {s k c:Nat} {X b:Ft} {I:oF} {a:SS} {p:bZ} {ses:Int} {x:Rq} {D:Nat→Prop}
variable {K:ak.S->Int->aA->Prop} {d:cQ} {q:bZ} {C:Nat}
def NX(a:SS)(i j:jP)(e:Int):Prop:=(e=0/\∃n,ua a=some n/\i=⟨a.e,n.1,n.2⟩/\j=⟨a.e,n.1,n.2⟩)\/(e=5/\ua a=none)
def LJ(e:Pt g s X I a){K:ah.S->dw}(i: ∀G,Fr No g G->K (⟨a.e,a.tm,a.sq⟩:jP).s G):Cl 28 #[pt I.k] g λv G=>ah.EX λt=>v=t.agg/\K t G:=
 dV.DN (Pt.mk' e) λG F=>ah.ex (⟨a.e,a.tm,a.sq⟩:jP).s ⟨rfl,i G F⟩
def wO(r:Pt g s X I a)(G:dV.Good a k){K:ah.S->ah.S->kj}(l: ∀i m o e,NX a m o e->Fr No g i->K m.s o.s e i):
  Cl 258 #[pt s,a.e.s.agg] g λv i=>ah.EX λt=>ah.EX λT=> ∃e,v=.T #[t.agg,T.agg,.I e]/\K t T e i:=
 oD r G a.e (λn j i F=>ah.ex (⟨a.e,n.1,n.2⟩:jP).s (ah.ex (⟨a.e,n.1,n.2⟩:jP).s ⟨_,rfl,l i _ _ 0 (.inl ⟨rfl,n,j,rfl,rfl⟩) F⟩)) (λj i F=>ah.ex (⟨a.e,0,0⟩:jP).s (ah.ex jP.zero.s ⟨_,rfl,l i _ _ 5 (.inr ⟨rfl,j⟩) F⟩))
theorem WZ(E:En V f g s X I a k)(P:Prim)(n:Nat×Nat)(w:P.wf)(m: ∀G (i:nT) q j l e,((e=0/\nU V ⟨false,true,false,0,a.now,P.id⟩ P.rep ⟨a.e,n.1,n.2⟩ P.gT=some i/\i.p.wf/\i.bl.length=1/\(∀y∈i.bl,y.data.length<=80000)/\jC G (λy=>g.size<=y) i.bl q i.bl.length j l)\/(e=3/\nU V ⟨false,true,false,0,a.now,P.id⟩ P.rep ⟨a.e,n.1,n.2⟩ P.gT=none))->Fr No g G->K (i.s q j) e G):
  Cl 320 #[(⟨false,true,false,0,a.now,P.id⟩:C4).s.agg,P.rep.s.agg,(⟨a.e,n.1,n.2⟩:jP).s.agg,.U (P.gT:Int)] g λv G=>ak.EX λt=> ∃e,v=.T #[t.agg,.I e]/\K t e G:=
 Bn.P1 ⟨false,true,false,0,a.now,P.id⟩ P.rep ⟨a.e,n.1,n.2⟩ P.gT w.2.2 w.2.1 E.G.e.2.2 E.U E.u.fr E.Un
  (λi o r z A G q j l B F=>ak.ex (i.s q j) ⟨_,rfl,m G i q j l 0 (.inl ⟨rfl,o,z,r,(λy J=>by grind),B⟩) F⟩)
  (λu G F=>ak.ex (nT.s ⟨.zero, []⟩ none 0) ⟨_,rfl,m G ⟨.zero, []⟩ none 0 [] 3 (.inr ⟨rfl,u⟩) F⟩)
theorem W0(E:En V f g s X I a k)(r:Row g q (bc d))(cap:d.length<=C)(l: ∀G (i:nT) Q j e,i.p.wf->(FM i.p=false->pD V a ses d=(a,0))->(FM i.p=true->mj V d=.ok i)->Fr No g G->K (i.s Q j) e G):
  Cl 136 #[.L q d.length C] g λv G=>ak.EX λt=> ∃e,v=.T #[t.agg,.I e]/\K t e G:=
 Bn.DJ E.U E.u.fr E.Un r rfl cap
  (λi m w u y G Q j A B F=>ak.ex (i.s Q j) ⟨_,rfl,l G i Q j 0 w (λn=>by unfold pD;rw[m];dsimp only;rw[af (by grind)]) (λ_=>m) F⟩)
  (λe o z G F=>ak.ex (nT.s ⟨.zero, []⟩ none 0) ⟨_,rfl,l G ⟨.zero, []⟩ none 0 e ⟨gv 0,gv 0,gv 0⟩ (λ_=>by unfold pD;rw[o]) (λn=>absurd n cW) F⟩)
def UA{k':Nat}(E:En V f h s X I a k)(u':Row h q (bc d))(hl:k'=d.length)(cap:d.length<=C)(S: ∀H b,Pt H s b I (pD V a ses d).1->bp X h b H->R (.I (pD V a ses d).2) H):
  Cl 269 #[(x.as p c s ses).agg,.L q k' C] h R:=by
 subst hl;refine xQ (cf.cV (x:=x.as p c s ses) λb' h1 eb s' f1=> ?_);refine W0 (ses:=ses) (E.on f1) (u'.frame f1 bC) cap λh2 F q' J e0 l' w' x' f2=>ak.gw (x:=F.s q' J) λb3 h4 y' t' f4=>Bn.Xu t' (aE.gw (x:=F.p.s) λb4 h6 z' d' f6=>aB.of λm' hJ=> ?_);have F6:=f1.tt (f2.tt (f4.tt f6));have A:=E.on F6;have c':=(f2.tt (f4.tt f6)).get s' id;have dn: ∀g,Fr No h g->pD V a ses d=(a,0)->R (.I 0) g:=λg Q e=>by rw[e]at S;exact S g X (E.H.on Q) (bp.iw Q)
 have key: ∀h',h'= !FM F.p->m' h' h6:=by
  intro h' hv;subst hv;subst hJ;dsimp only;cases ht:FM F.p with
  |false=>rw[gH];exact dn h6 F6 (w' ht)
  |true=>
  rw[dz];have f':=x' ht;refine aB.of λJ1 p'=> ?_;have o': ∀(g:aA)(M O:Nat)(m o:jP)(e:Int),NX a m o e->ah.fR g M m.s->ah.fR g O o.s->Fr No h6 g->J1 (Sa M 0) (Sa O 0) e g:=by
   intro g M O m o e t hi hw Q;subst p';dsimp only;rcases t with⟨rfl,n,hn,rfl,rfl⟩|⟨rfl,hn⟩
   case inr=>rw[gH];exact dn g (F6.tt Q) (by unfold pD;rw[f'];dsimp only;rw[ag ht,hn])
   rw[dz];have Eg:=A.on Q;have j':=Q.get c' id;have e':=Q.get d' id;refine aB.of λJ2 r'=> ?_;have i': ∀(g5:aA)(l:nT)(q:bZ)(J:Nat)(xs:List BB)(D:gF)(br:Nat)(e:Int),((e=0/\nU V ⟨false,true,false,0,a.now,F.p.id⟩ F.p.rep ⟨a.e,n.1,n.2⟩ F.p.gT=some l/\l.p.wf/\l.bl.length=1/\(∀y∈l.bl,y.data.length<=80000)/\jC g5 D l.bl q l.bl.length J xs)\/(e=3/\nU V ⟨false,true,false,0,a.now,F.p.id⟩ F.p.rep ⟨a.e,n.1,n.2⟩ F.p.gT=none))->
     ak.fR g5 br (l.s q J)->Fr No g g5->J2 e (Sa br 0) g5:=by
    intro g5 l q J xs D br e sp hr f5;subst r';dsimp only;rcases sp with⟨rfl,hs,wb,hl,hd,B⟩|⟨rfl,hs⟩
    case inr=>rw[gH];exact dn g5 (F6.tt (Q.tt f5)) (by unfold pD;rw[f'];dsimp only;rw[ag ht,hn];dsimp only;rw[hs])
    rw[dz];refine cf.fX (x:=x.as p c s ses) (f5.get j' id) (ar.2 (ak.fX (x:=l.s q J) hr (ar.2 (ah.fX (x:=(⟨a.e,n.1,n.2⟩:jP).s) (f5.get hw id) (Oi (b:=l) (x:=x) (p:=p) (c:=c) (ses:=ses) (Eg.on f5) wb B ae hd hn λh9 X9 H9 v'=>⟨_,_,_,rfl,?_⟩)))));have eQ:pD V a ses d=((pC V a ses l n).σ,if(pC V a ses l n).e=0 then 1 else 0):=by unfold pD;rw[f'];dsimp only;rw[ag ht,hn];dsimp only;rw[hs]
    rw[eQ]at S;have S:=S h9 X9 H9 (bp.no (F6.tt (Q.tt f5)) v');by_cases T:(pC V a ses l n).e=0;rw[af (dH T)];rw[ag T]at S;exact S;rw[ag (dH T)];rw[af T]at S;exact S
   refine⟨_,ai j',ar.2 ⟨_,ai Eg.H.cN,EW F.p.id e' rfl rfl rfl rfl rfl rfl rfl (jx F.p.rep e' rfl rfl rfl rfl rfl (ar.2 (ah.fX (x:=(⟨a.e,n.1,n.2⟩:jP).s) hi ⟨_,ai e',?_,?_,trivial⟩)))⟩⟩;refine WZ Eg F.p n l' λG l q J xs e sp u=>⟨u.kp,ak.cV λbr Z er hr j=>⟨j.kp,ak.iB (x:=l.s q J) hr λz d4 i _=> ?_⟩⟩;have U4:Fr No G z:=j.fresh i (λy e=>ae);refine i' z l q J xs (λy=>g.size<=y) br e ?_ d4 (u.tt U4);rcases sp with⟨a1,a2,a3,a4,a5,a6⟩|a';exact .inl ⟨a1,a2,a3,a4,a5,a6.on U4⟩;exact .inr a';refine ak.cV λbr Z er hr j=>⟨j.kp,WZ (Eg.on j) F.p n l' λG l q J xs e sp u=>⟨u.kp,ak.iB (x:=l.s q J) (u.get hr id) λz d4 i _=> ?_⟩⟩;have zr:=aD hr;have U4:Fr No g z:=(j.tt u).fresh i (λy e=>ae);refine i' z l q J xs (λy=>Z.size<=y) br e ?_ d4 U4;rcases sp with⟨a1,a2,a3,a4,a5,a6⟩|a';exact .inl ⟨a1,a2,a3,a4,a5,a6.frame i (λy hy e=>ae)⟩;exact .inr a'
  have L: ∀(g:aA)(M O:Nat)(y1 y2:ah.S)(m o:jP)(e:Int),NX a m o e->ah.fR g M y1->ah.fR g O y2->M≠O->h6.size<=M->h6.size<=O->Fr No h6 g->
    ah.dv g (AA M 0) m.s λg1=>ah.dv g1 (AA O 0) o.s λG=>J1 (Sa M 0) (Sa O 0) e G:=by
   intro g M O y1 y2 m o e t hi hw ne zi zw Q;exact ah.iB (x:=m.s) hi λg1 d1 U _=>ah.iB (x:=o.s) (U.get hw ne.symm) λG d2 u _=>o' G M O m o e t (u.get d1 ne) d2 ((Q.fresh U (λy e=>ae)).fresh u (λy e=>ae))
  have lt: ∀{g:aA}{b':Nat}{y:ah.S},ah.fR g b' y->b'<g.size:=λh=>aD h;have le: ∀{g g':aA},Fr No g g'->g.size<=g'.size:=λn'=>n'.1;refine⟨_,ai c',_,ai c',ar.2 ⟨_,ai A.H.cN,?_,?_,?_,trivial⟩⟩;refine LJ A.H λg1 U=>⟨U.kp,?_,?_,?_,trivial⟩;refine wO (A.H.on U) E.G λG m o e t u=>⟨u.kp,?_,?_,trivial⟩;exact ah.cV λl Z e5 r j=>⟨j.kp,ah.cV λv z P w i=>⟨i.kp,L z l v _ _ m o e t (i.get r id) w (bN (lt r)) (gM (le U) (le u)) (zq (le U) (le u) (le j)) (U.tt (u.tt (j.tt i)))⟩⟩;exact ah.cV λl Z e5 r j=>⟨j.kp,ah.cV λv z P w i=>⟨i.kp,L z v l _ _ m o e t w (i.get r id) (bN (lt r)) (zq (le U) (le u) (le j)) (gM (le U) (le u)) (U.tt (u.tt (j.tt i)))⟩⟩;refine ah.cV λl Z e5 r j=>⟨j.kp,?_,?_,trivial⟩;exact wO (A.H.on (U.tt j)) E.G λG m o e t u=>⟨u.kp,ah.cV λv z P w i=>⟨i.kp,L z l v _ _ m o e t ((u.tt i).get r id) w (gM (lt r) (le u)) (bN (le U)) (zq (le U) (le u) (le j)) (U.tt (j.tt (u.tt i)))⟩⟩;exact ah.cV λv z P w i=>⟨i.kp,wO (A.H.on (U.tt (j.tt i))) E.G λG m o e t u=>⟨u.kp,L G l v _ _ m o e t ((i.tt u).get r id) (u.get w id) (bN (lt r)) (bN (le U)) (gM (le U) (le j)) (U.tt (j.tt (i.tt u)))⟩⟩;refine ah.cV λl Z e5 r j=>⟨j.kp,?_,?_,trivial⟩;exact wO (A.H.on (U.tt j)) E.G λG m o e t u=>⟨u.kp,ah.cV λv z P w i=>⟨i.kp,L z v l _ _ m o e t w ((u.tt i).get r id) (gM (lt r) (le u)) (zq (le U) (le u) (le j)) (bN (le U)) (U.tt (j.tt (u.tt i)))⟩⟩;exact ah.cV λv z P w i=>⟨i.kp,wO (A.H.on (U.tt (j.tt i))) E.G λG m o e t u=>⟨u.kp,L G v l _ _ m o e t (u.get w id) ((i.tt u).get r id) (bN (lt r)) (gM (le U) (le j)) (bN (le U)) (U.tt (j.tt (i.tt u)))⟩⟩;refine ah.cV λl Z e5 r j=>⟨j.kp,?_,?_,trivial⟩;refine LJ (A.H.on j) λg1 U=>⟨U.kp,?_,?_,trivial⟩;exact wO (A.H.on (j.tt U)) E.G λG m o e t u=>⟨u.kp,ah.cV λv z P w i=>⟨i.kp,L z l v _ _ m o e t ((U.tt (u.tt i)).get r id) w (zq (lt r) (le U) (le u)) ae (zq (le U) (le u) (le j)) (j.tt (U.tt (u.tt i)))⟩⟩;exact ah.cV λv z P w i=>⟨i.kp,wO (A.H.on (j.tt (U.tt i))) E.G λG m o e t u=>⟨u.kp,L G l v _ _ m o e t ((U.tt (i.tt u)).get r id) (u.get w id) (gM (lt r) (le U)) ae (gM (le U) (le j)) (j.tt (U.tt (i.tt u)))⟩⟩;exact ah.cV λv z P w i=>⟨i.kp,LJ (A.H.on (j.tt i)) λg1 U=>⟨U.kp,wO (A.H.on (j.tt (i.tt U))) E.G λG m o e t u=>⟨u.kp,L G l v _ _ m o e t ((i.tt (U.tt u)).get r id) ((U.tt u).get w id) (bN (lt r)) ae (bN (le j)) (j.tt (i.tt (U.tt u)))⟩⟩⟩;refine ah.cV λl Z e5 r j=>⟨j.kp,?_,?_,trivial⟩;refine LJ (A.H.on j) λg1 U=>⟨U.kp,?_,?_,trivial⟩;exact wO (A.H.on (j.tt U)) E.G λG m o e t u=>⟨u.kp,ah.cV λv z P w i=>⟨i.kp,L z v l _ _ m o e t w ((U.tt (u.tt i)).get r id) (zq (lt r) (le U) (le u)) (zq (le U) (le u) (le j)) ae (j.tt (U.tt (u.tt i)))⟩⟩;exact ah.cV λv z P w i=>⟨i.kp,wO (A.H.on (j.tt (U.tt i))) E.G λG m o e t u=>⟨u.kp,L G v l _ _ m o e t (u.get w id) ((U.tt (i.tt u)).get r id) (gM (lt r) (le U)) (gM (le U) (le j)) ae (j.tt (U.tt (i.tt u)))⟩⟩;exact ah.cV λv z P w i=>⟨i.kp,LJ (A.H.on (j.tt i)) λg1 U=>⟨U.kp,wO (A.H.on (j.tt (i.tt U))) E.G λG m o e t u=>⟨u.kp,L G v l _ _ m o e t ((U.tt u).get w id) ((i.tt (U.tt u)).get r id) (bN (lt r)) (bN (le j)) ae (j.tt (i.tt (U.tt u)))⟩⟩⟩
 refine⟨_,ai d',?_⟩;split;rename_i T;exact key true (by have:JD (F.p.fl:Int) 131072=true:=T;unfold FM;rw[this];rfl);rename_i T;refine⟨_,ai d',key _ ?_⟩;have:JD (F.p.fl:Int) 131072=false:=by
  cases hh:JD (F.p.fl:Int) 131072 with
  |true=>exact absurd hh T
  |false=>rfl
 unfold FM;rw[this];rfl

end Ask
end
section
namespace Ask
open ju (Ev cY)
open dV (SS Good Pt oF Mk)
open gi (CV JA ia)
variable {V:cQ→Bool} {h H f g:aA} {R:fp} {s k b r c:Nat} {X d:Ft} {I:oF} {a:SS} {p:bZ} {S:Int} {x:Rq} {D:Nat→Prop} {o:Ot}
variable {y:List CV}
theorem wk{B n m:Nat}{q:bZ}(o:Own h q y.length m 10 (y.flatMap JA))(J:n=y.length)(U:y.length<=1000000)(z:cf.fR h B (x.as p c s S)) (E: ∀H,Fr No h H->R (.I (idxOf (λe:CV=>decide ((e.num:Int)=x.num)) y)) H):
  Cl 267 #[.L q n m,.func (.func 268) #[] #[.P B 0]] h R:=by
 refine jb (qL (λe=>decide ((e.num)=x.num)) (λt g K=>((0)<=t/\t<((n:Nat)))/\aH q λA=>aQ.cJ g (A.add (Int.toNat t*10)) λT=>Cl 268 #[T.agg,.P B 0] g λv G=> ∃t,v=.B t/\K t G) J ae (λj P e K l F w=> ?_) E);have lt:=(aJ.1 l).1;have O:=o.frame F bC;obtain⟨Z,po,rfl⟩:=O.addr ae;have Q:=O.fa ia l;refine⟨ae,ar.2 (aQ.iR (x:=⟨(e.num),e.e.jY,e.e.node,e.e.fK,e.e.host,e.e.jl,e.v.p,e.v.b.length,e.v.c,(e.dB),e.ses,(e.dl)⟩) (by grind) (wM (aQ.cV λL u M C i=>⟨_,ai C,_,ai ((F.tt i).get z id),_,rfl,(w u (F.tt i))⟩)))⟩
theorem SE{num:Int}{z:gi.Cp}(h:gi.Dt (y.map CV.abs) num=some z): ∃(i:Nat)(e:CV),idxOf (λe:CV=>decide ((e.num:Int)=num)) y=(i:Int)/\y[i]? =some e/\e.abs=z:=by unfold gi.Dt at h;rw[List.find?_map]at h;obtain⟨e,l,rfl⟩:=Option.map_eq_some_iff.1 h;have l:y.find? (λe=>decide ((e.num)=num))=some e:=l;obtain⟨n,i,m,rfl,q⟩:=fY.1 l;refine⟨i,y[i],?_,au m,rfl⟩;have:y.findIdx? (λe=>decide ((e.num)=num))=some i:=dp.2 ⟨m,n,λj t=>by grind⟩;unfold idxOf;rw[this]
theorem MX(E:En V f h s X I a k)(g':k+1<=30000)(T:aj.fR h b (y0 r))(nb: ¬(X.M b\/X.D b))(n: ∀H d,Pt H s d I (PU V a S x.num).σ->ij X h b r (PU V a S x.num) d H->R (.I (PU V a S x.num).e) H):
  Cl 190 #[(x.as p c s S).agg,.P b 0] h R:=by
 refine yW (cf.cV (x:=x.as p c s S) λd' h1 eb a' M=> ?_);have C:=E.on M;have U: ¬X.M b:=λe=>nb (.inl e);have zo:=aD T;have c': ¬X.M d':=E.nM ae;obtain⟨Z,t,zm,zd,go⟩:=C.H.use 2;have sm:=E.G.small E.H.ord (bN E.hk);have z1:=M.1;refine⟨_,ai a',ar.2 ⟨_,ai C.H.cN,gi.Od t sm (λz t=>(E.G.c.ok.bd z t).2.2) λh2 q2 c2 y o2 a2 r2 n2 O=>⟨_,_,_,rfl,?_⟩⟩⟩;have E2:=C.on O;have w:=O.get a' id;obtain⟨Z,t,zm,zd,go⟩:=E2.H.use 2;have hG:=E.G.c;refine⟨_,ai w,ar.2 ⟨_,ai E2.H.cN,_,ai w,_,ai w,gi.MX t sm (gM hG.L E.hk) x.num S λh3 Z3 C3 s3=> ?_⟩⟩;obtain⟨X3,H3,u,k',l'⟩:=go h3 Z3 { a with C:=gi.xM a.C x.num S } C3 s3 (λi hi=>dV.BQ _ hi);refine⟨_,rfl,JG u.fr c' bt,?_⟩;have new: ∀j,h1.size<=j->¬X.M j:=λj m=>E.nM ae;have o3:=o2.frame u.fr (λj m=>new j (n2 j m));have b':=u.fr.get w c';have F2:=M.tt O;have ll:y.length<=30000:=by have K:=bV List.length a2;rw[aw]at K;have v:=hG.L;have e3:=E.hk;omega
 refine wk o3 rfl ae b' λh4 F=>⟨_,rfl,?_⟩;have st:=(bp.no F2 u).on F;have G:=H3.on F;refine aB.of λj' P=> ?_;unfold PU at n;by_cases l:gi.mH a.C.L x.num S=0
 case neg=>
  rw[af l]at n;rw[af (dH l)];subst P;dsimp only;refine aB.of λJ1 Q=> ?_;rw[dz];subst Q;have eC:gi.xM a.C x.num S=a.C:=by unfold gi.xM;rw[af l]
  rw[eC]at G;exact n h4 X3 G (ij.bad T U st)
 rw[ag l]at n;rw[ag (by rw[l];rfl)];cases q:gi.Dt a.C.L x.num with
 |none=>unfold gi.mH at l;rw[q]at l;cases l
 |some z=>
  rw[q]at n;dsimp only at n;rw[<-a2]at q;obtain⟨i,j,K,v,e3⟩:=SE q;rw[K]at P⊢;subst P;dsimp only;refine aB.of λJ1 Q=> ?_;rw[gH];have hi:=(aJ.1 v).1;have o4:=o3.frame F bC;obtain⟨pb,po,rfl⟩:=o4.addr ae;have hh:=o4.fa ia v;have e':=F.get b' id;have ry:=((r2 j (aG v)).frame u.fr (λj m=>new j m)).frame F bC;have L:z.d=j.v.b:=by rw[<-e3];rfl
  have G4:dV.Good { a with C:=gi.xM a.C x.num S } (k+1):=Good.WU E.G E.H.ord E.hk ⟨2,x.num,S,.zero,none,0, [],0⟩ (gv 0);have c2: ∀g,cH (((AA pb po):Addr).add (i*10)) (JA j) 0 g->aU g ((((AA pb po):Addr).add (Int.toNat (i:Int)*10)).add 6)=some j.v.val:=λg q=>by rw[aK];exact q.2.2.2.2.2.2.1
  have E4:En V f h4 s X3 I { a with C:=gi.xM a.C x.num S } (k+1):=E.step G st G4 g';refine cf.fX (x:=x.as p c s S) e' ⟨ae,ar.2 ⟨_,_,_,c2 _ hh,UA (ses:=S) (x:=x) (p:=p) (c:=c) (d:=z.d) E4 (by rw[L];exact ry.row) (by rw[L]) (by rw[L];exact ry.cap) λh5 J H5 i'=>⟨_,rfl,?_⟩⟩⟩;have B:=st.trans i';have f':=B.fr.get T U;refine ji (z:=⟨r,0,0,(pD V { a with C:=gi.xM a.C x.num S } S z.d).2,0,none,0,0⟩) f' cW rfl λh6 d6 f6=> ?_;subst Q;dsimp only;rw[l];have h': ∀j,J.M j\/J.D j->j≠b:=λj m e=>by rcases m with A|A;rcases B.iA j A with A|A;exact U (e▸A);omega;rcases B.jF j A with A|A;grind;omega
  exact n h6 J (H5.frame f6 (λj m e=>h' j m e)) (ij.of B f6 ⟨_,d6,λ_=>⟨none,0,rfl,Row.nil,λe=>absurd rfl e⟩⟩)

end Ask
end
section
variable {h:aA} {R:fp}
variable {x X a b c:Int} {g S:bZ} {f d s i:Nat}
def Dx{A:Int}{j:Int}{k:Int}{l:Int}{m:Int}{p:bZ}{o n:Nat}{q:Int}{B:Int}{r:Int}{t:Int}{u:Int}{y:bZ}{w v:Nat} (J:aW h (.C #[.U A,.I j,.I k,.I l,.U m,.L p o n] 42) λe G=>aW G (.C #[.U q,.I B,.I r,.I t,.U u,.L y w v] 42) λB H=>Hu H e 0 λt6=> ∃F,Cc H B 0 (.U F)/\ite (t6==F) (Hi H e 1 λK=> ∃T,Cc H B 1 (.I T)/\ite (K==T) (Hi H e 2 λL=> ∃z,Cc H B 2 (.I z)/\ite (L==z) (Hi H e 3 λM=> ∃C,Cc H B 3 (.I C)/\ite (M==C) (Hu H e 4 λO=> ∃D,Cc H B 4 (.U D)/\ite (O==D) (Hl H e 5 λU Q P=>Hl H B 5 λa' Z V=>Cl 35 #[.L U Q P,.L a' Z V] H λb' I=> ∃E,b'=.B E/\R (.B E) I) (R (.B false) H)) (R (.B false) H)) (R (.B false) H)) (R (.B false) H)) (R (.B false) H)):Cl 11 #[.agg #[.U A,.I j,.I k,.I l,.U m,.L p o n],.agg #[.U q,.I B,.I r,.I t,.U u,.L y w v]] h R:=aP [] J
def Dy{id:Int}{e:Int}(k:aW h (.C #[.U 0,.I 0,.I 0,.I 0,.U 0,.Z] 42) λB j=>aj.ST j (AA B 0) id e 0 0 0 none 0 0 λH=>aj.LD H (AA B 0) λr l m n o t q p=>R (.agg #[.U r,.I l,.I m,.I n,.U o,.L t q p]) H):Cl 52 #[.U id,.I e] h R:=aP [] k
def AF{e:bZ}{L l:Nat}(j:Cl 315 #[.L e L l,.func (.func 316) #[] #[]] h λv H=> ∃t,v=.B t/\R (.B (!t)) H):Cl 256 #[.L e L l] h R:=aP [] j
def xS{n:Int}(H:ite (decide (n<0)) (R (.B true) h) (R (.B (decide (n>1099511627776))) h)):Cl 316 #[.I n] h R:=aP [] H
def Cf (U:aW h (.C #[.U x,.I X,.I a,.I b,.U c,.L g f d] 42) λB H=>aB (λ(t3:Bool) e=>ite t3 (R (.B false) e) (∃n,Cc e B 1 (.I n)/\ite (n !=0) (aj.LD e (AA B 0) λo p q r u y w v=>Hu e B 0 λc'=>Hi e B 1 λd'=>Cl 52 #[.U c',.I d'] e λe' k=> ∃z A C D E I G F,e'=.agg #[.U z,.I A,.I C,.I D,.U E,.L I G F]/\cH (AA B 0) [.U o,.I p,.I q,.I r,.U u,.L y w v] 0 k/\Cl 11 #[.agg #[.U o,.I p,.I q,.I r,.U u,.L y w v],.agg #[.U z,.I A,.I C,.I D,.U E,.L I G F]] k λf' P=> ∃K,f'=.B K/\R (.B K) P) (R (.B true) e))) (λJ=> ∃L,Cc H B 0 (.U L)/\ite (decide (L>1099511627776)) (J true H) (∃M,Cc H B 1 (.I M)/\ite (decide (M<0)) (J true H) (∃t,Cc H B 1 (.I t)/\ite (decide (t>99)) (J true H) (Hi H B 2 λV=>Hi H B 3 λZ=>aW H (.C #[.I V,.I Z] 3) λO Q=>Cl 256 #[.L (Sa O 0) 2 2] Q λg' j=> ∃T,g'=.B T/\ite (!T) (J true j) (∃l,Cc j B 4 (.U l)/\ite (decide (l>2147483648)) (J true j) (∃b' m a',Cc j B 5 (.L b' m a')/\J (decide (((m:Nat):Int)>600)) j))))))):Cl 181 #[.agg #[.U x,.I X,.I a,.I b,.U c,.L g f d]] h R:=aP [(5,.join [(3,sB)]),(14,λ_=>pN 8)] U
def Cg(F:aW h (.C #[.U x,.I X,.I a,.I b,.U c,.L g f d] 42) λB u=>aj.LD u (AA B 0) λO P Q U V b' a' Z=>Cl 181 #[.agg #[.U O,.I P,.I Q,.I U,.U V,.L b' a' Z]] u λc' H=> ∃A,c'=.B A/\ite (!A) (R (.T #[.Z,.I 3]) H) (Hu H B 0 λC=>Hi H B 1 λr=>Hi H B 2 λp=>Hi H B 3 λn=>Hu H B 4 λl=>Hl H B 5 λj T t=>Cl 42 #[] H λd' e=>Vp d' λt7=>Cc e B 5 (.L j T t)/\Cc e B 4 (.U l)/\Cc e B 3 (.I n)/\Cc e B 2 (.I p)/\Cc e B 1 (.I r)/\Cc e B 0 (.U C)/\Cl 44 #[.Q t7,.U C] e λe' k=>Vp e' λG=>Cc k B 5 (.L j T t)/\Cc k B 4 (.U l)/\Cc k B 3 (.I n)/\Cc k B 2 (.I p)/\Cc k B 1 (.I r)/\Cl 45 #[.Q G,.I r] k λf' m=>Vp f' λI=>Cc m B 5 (.L j T t)/\Cc m B 4 (.U l)/\Cc m B 3 (.I n)/\Cc m B 2 (.I p)/\Cl 45 #[.Q I,.I p] m λg' o=>Vp g' λJ=>Cc o B 5 (.L j T t)/\Cc o B 4 (.U l)/\Cc o B 3 (.I n)/\Cl 45 #[.Q J,.I n] o λh' q=>Vp h' λK=>Cc q B 5 (.L j T t)/\Cc q B 4 (.U l)/\Cl 44 #[.Q K,.U l] q λi' v=>Vp i' λL=>Cc v B 5 (.L j T t)/\Cl 43 #[.Q L,.L j T t] v λj' E=>Vp j' λM=>Cl 46 #[.Q M] E λk' D=> ∃z y w,k'=.L z y w/\R (.T #[.L z y w,.I 0]) D)):Cl 134 #[.agg #[.U x,.I X,.I a,.I b,.U c,.L g f d]] h R:=aP [(11,λ_=> .ni (lO [1,2,4,5,7,8,10,11,13,14,16,17,0,3,6,9,12,15,18,19,20,21] .done))] F
def Dz{m:bZ}{l k:Nat}(F:aW h (.C #[.U 0,.I 0,.I 0,.I 0,.U 0,.Z] 42) λB q=>Cl 23 #[.L m l k] q λD' v=>Vp D' λt=>Cl 26 #[.Q t] v λE' w=>Vu E' λt9=>Cl 27 #[.Q t] w λF' y=>Vi F' λf'=>Cl 27 #[.Q t] y λG' z=>Vi G' λg'=>Cl 27 #[.Q t] z λH' A=>Vi H' λh'=>Cl 26 #[.Q t] A λI' C=>Vu I' λi'=>Cl 25 #[.Q t] C λJ' D=>Vl J' λl' k' j'=>aW D (.C #[.U 0,.I 0,.I 0,.I 0,.U 0,.Z] 42) λe E=>aj.ST E (AA e 0) t9 f' g' h' i' l' k' j' λr=>aB (λ(u':Bool) H=>ite u' (aj.ST H (AA B 0) 0 0 0 0 0 none 0 0 λn=>aj.LD n (AA B 0) λG K M P U d' b' Z=>R (.T #[.agg #[.U G,.I K,.I M,.I P,.U U,.L d' b' Z],.I 3]) n) (aj.LD H (AA e 0) λv' w' x' y' z' C' B' A'=>aj.ST H (AA B 0) v' w' x' y' z' C' B' A' λo=>aj.LD o (AA B 0) λI L O Q V e' c' a'=>R (.T #[.agg #[.U I,.I L,.I O,.I Q,.U V,.L e' c' a'],.I 0]) o)) (λJ=>Cl 30 #[.Q t] r λK' j=> ∃T,K'=.I T/\ite (T !=0) (J true j) (aj.LD j (AA e 0) λm' n' o' p' q' t' s' r'=>Cl 181 #[.agg #[.U m',.I n',.I o',.I p',.U q',.L t' s' r']] j λL' u=> ∃p,L'=.B p/\J (!p) u))):Cl 132 #[.L m l k] h R:=aP [(8,.join [(28,sB)])] F
def kh(e:Cl 303 #[.L S s i,.func (.func 316) #[] #[]] h λv H=> ∃t,v=.I t/\R (.B (decide (t≥0))) H):Cl 315 #[.L S s i,.func (.func 316) #[] #[]] h R:=aP [] e
def kN (j: ∃(I:kj)(m:kG),I 0 h/\∀t H,I t H->ite (decide (t<(s:Int))) (Bd t s/\aH S λA=>kU H (A.add (toNat t*1)) λk=>Cl 316 #[.I k] H λv e=> ∃T,v=.B T/\ite T (R (.I t) e) ((I (wrap .i64 (t+1)) e/\m (wrap .i64 (t+1)) e<m t H))) (R (.I (-1)) H)):Cl 303 #[.L S s i,.func (.func 316) #[] #[]] h R:=aP [(6,.loop [(8,sI)])] j

end
section
open Go.fv
namespace C4
open gg
variable {h H:aA} {R:fp} {p q:bZ} {c d:Nat}
variable {n m:Nat}
abbrev val(x:RD)(p:bZ)(c:Nat):Value:=.agg #[.int .u64 (x.id:Int),.int .i64 x.err,.int .i64 x.num,.int .i64 x.count,.int .u64 (x.token:Int),.slice p x.b.length c]
abbrev At(h:aA)(b:Nat)(x:RD)(p:bZ)(c:Nat):Prop:=aj.at h b (x.id:Int) x.err x.num x.count (x.token:Int) p x.b.length c
theorem GY{a b:cQ}(r:Row h p (bc a))(i:Row h q (bc b))(g:n=a.length)(f:m=b.length)(e:R (.B (decide (a=b))) h):Cl 35 #[.L p n c,.L q m d] h R:=by
 refine qY ⟨_,conv r g,_,conv i f,?_⟩;rw[oS,oS];have:(a==b)=decide (a=b):=by grind
 rw[this];exact e
theorem jv(x y:RD)(t:Row h p (bc x.b))(u:Row h q (bc y.b))(f: iG h R (.B (decide (x.same y)))):Cl 11 #[val x p c,val y q d] h R:=by refine Dx (aj.box λb v _ s o=>aj.box λB r _ a i=> ?_);have e:=i.get s id;have F:=o.tt i;have f:=f r F;unfold RD.same at f;refine⟨_,ai e,_,ai a,?_⟩;by_cases E:x.id=y.id;rw[ag (by rw[E];simp)];refine⟨_,ai e,_,ai a,?_⟩;by_cases j:x.err=y.err;rw[ag (by grind)];refine⟨_,ai e,_,ai a,?_⟩;by_cases g:x.num=y.num;rw[ag (by rw[g];simp)];refine⟨_,ai e,_,ai a,?_⟩;by_cases k:x.count=y.count;rw[ag (by grind)];refine⟨_,ai e,_,ai a,?_⟩;by_cases l:x.token=y.token;rw[ag (by grind)];refine⟨_,_,_,ai e,_,_,_,ai a,GY (t.frame F bC) (u.frame F bC) rfl rfl ⟨_,rfl,?_⟩⟩;simpa[E,j,g,k,l]using f;grind;grind;grind;grind;grind
def On(id:Nat)(e:Int):RD:=⟨id,e,0,0,0, []⟩
def oC{i:Int}(id:Nat)(j:i=(id:Int))(e:Int)(k: iG h R (val (On id e) none 0)):Cl 52 #[.U i,.I e] h R:=by subst j;refine Dy (aj.new λb a _ g f=>aj.ld g (k a f))
def Tj(n:Int):Bool:=decide (0<=n/\n<=1099511627776)
theorem V9(n:Int)(a:R (.B (!Tj n)) h):Cl 316 #[.I n] h R:=by refine xS ?_;unfold Tj at a;by_cases b:n<0;grind;by_cases e:n>1099511627776;grind;grind
theorem Bu{ns:List Int}(r:Row h p (ns.map (.int .i64 ·)))(f:n=ns.length)(w:ns.length<=1000000)(e:R (.B (ns.all Tj)) h):Cl 256 #[.L p n m] h R:=by
 subst f;refine AF (kh (kN ⟨λi g=>g=h/\∃k:Nat,i=(k)/\k<=ns.length/\∀j,j<k->Tj (ns.getD j 0)=true,λi _=>ns.length - i.toNat,⟨rfl,0,rfl,ae,λj b=>ae⟩,?_⟩));rintro _ s ⟨rfl,k,rfl,v,l⟩;by_cases o:k<ns.length
 .have:(k)<(ns.length:Int):=ae
  simp only[this,ct,bJ,aK];obtain⟨a,rfl,C⟩:=Mh r o;refine⟨⟨ae,by first|omega|trivial⟩,ar.2 ⟨_,C,V9 _ ⟨_,rfl,?_⟩⟩⟩;cases t:Tj (ns.getD k 0)with
  |false=>
   refine⟨_,rfl,⟨_,rfl,?_⟩⟩;have:ns.all Tj=false:=by grind
   have H:=ae
   simpa[H]using e
  |true=>simp only[df,az,aY];rw[fc];refine⟨⟨trivial,k+1,ae,ae,λj b=> ?_⟩,?_⟩;grind;grind
 rw[dz];refine⟨_,rfl,⟨_,rfl,?_⟩⟩;have:ns.all Tj=true:=by rw[List.all_eq_true];intro n f;have⟨j,b⟩:=bA f;have u:=(aJ.1 b).1;have:=l j ae;rwa[bx,b]at this
 rw[this]at e;simpa using e
theorem fD(x:RD)(L:Row h p (bc x.b))(B: iG h R (.B (decide x.qN))):Cl 181 #[val x p c] h R:=by
 refine Cf (aj.box λb t _ g F=>aB.of λJ G=> ?_);have j: ∀f,Fr No h f->¬x.qN->J true f:=by grind
 have P: ∀f,At f b x p c->Fr No h f->x.id<=1099511627776->(0<=x.err/\x.err<=99)->(0<=x.num/\x.num<=1099511627776)->(0<=x.count/\x.count<=1099511627776)->x.token<=2147483648->x.b.length<=600->J false f:=by
  intro f i v Q k l C o r;subst G;simp only[az,aY];refine⟨_,ai i,?_⟩;by_cases u:x.err=0;rw[af (by simp[u])];have:=B f v;rwa[aC (show x.qN from⟨Q,k,l,C,o,r,λh=>absurd u h⟩)]at this;rw[ag (by grind)];refine aj.ld i ⟨_,ai i,_,ai i,oC x.id rfl x.err λM y=>⟨_,_,_,_,_,_,_,_,rfl,(aj.held (y.get i id)),?_⟩⟩;have w:=v.tt y;refine jv x (On x.id x.err) (L.frame w bC) (.inl rfl) λE D=>⟨_,rfl,?_⟩;have e:decide (x.same (On x.id x.err))=decide x.qN:=by unfold RD.same RD.qN On;simp[Q,k,l,C,o,r,u]
  rw[e];exact B E (w.tt D)
 refine⟨_,ai g,?_⟩;by_cases Q:x.id<=1099511627776;rw[af (by simp;omega)];refine⟨_,ai g,?_⟩;by_cases k:0<=x.err;rw[af (by simp;omega)];refine⟨_,ai g,?_⟩;by_cases l:x.err<=99;rw[af (by simp;omega)];refine⟨_,ai g,_,ai g,cg ?_⟩;refine Bu (ns:= [x.num,x.count]) jj rfl bt ⟨_,rfl,?_⟩;have s:=F.tt (Fr.push t (.C #[.I x.num,.I x.count] 3));have z:At _ b x p c:=(Fr.push (S:=λ_=>False) t (.C #[.I x.num,.I x.count] 3)).get g id;generalize t.push (.C #[.I x.num,.I x.count] 3)=O at*;cases A: [x.num,x.count].all Tj with
 |false=>simp only[ee,bJ];refine j _ s λa=> ?_;obtain⟨_,_,I,K,_⟩:=a;simp[Tj,I,K]at A
 |true=>
  simp only[df,az,aY];simp[Tj]at A;refine⟨_,ai z,?_⟩;by_cases o:x.token<=2147483648;rw[af (by simp;omega)];refine⟨_,_,_,ai z,?_⟩;by_cases r:x.b.length<=600;grind;have:decide ((x.b.length:Int)>600)=true:=by simp;omega
  rw[this];exact j _ s λa=>r a.2.2.2.2.2.1;rw[ag (by simp;omega)];exact j _ s λa=>o a.2.2.2.2.1
 rw[ag (by simp;omega)];exact j _ F λa=>l a.2.1.2;rw[ag (by simp;omega)];exact j _ F λa=>k a.2.1.1;rw[ag (by grind)];exact j _ F λa=>Q a.1
theorem SF(x:RD)(v:Row h p (bc x.b))(k1:x.qN->∀i q d,Own i q x.enc.length d 1 (bc x.enc)->Fr No h i->(∀y,aL q y->h.size<=y)->R (.T #[.L q x.enc.length d,.I 0]) i)(k2: ¬x.qN->iG h R (.T #[.Z,.I 3])):Cl 134 #[val x p c] h R:=by
 refine Cg (aj.box λb h1 eb A r=>aj.ld A (fD x (v.frame r bC) λt s=>⟨_,rfl,?_⟩));by_cases j:x.qN;rw[aC j];rw[dz];have⟨q1,⟨q2,g'⟩,⟨q3,h'⟩,⟨q4,i'⟩,q5,q6,_⟩:=id j;have a:=s.get A id;have F:=r.tt s;refine⟨_,ai a,_,ai a,_,ai a,_,ai a,_,ai a,_,_,_,ai a,(gC λh3 j' S3 P z g3=>⟨_,rfl,?_⟩)⟩;have B:=z.get a id;have U:Up t S3 h3:=⟨z,g3⟩;have k: ∀{S:gF}{i:aA},Up t S i->¬S b:=λf' hx=>by have:=f'.ge b hx;have:=aD a;omega
 refine⟨ai B,ai B,ai B,ai B,ai B,ai B,(fT x.id P bt rfl ae λh4 S4 Q C=>⟨_,rfl,?_⟩)⟩;have f:=C.fr.get B (k U);have J:=U.step C;have l1:=(bw x.id).2;refine⟨ai f,ai f,ai f,ai f,ai f,(iK Q (by grind) ae λh5 S5 T D=>⟨_,rfl,?_⟩)⟩;have g:=D.fr.get f (k J);have K:=J.step D;have l2:=(bw (fx x.err)).2;refine⟨ai g,ai g,ai g,ai g,(iK T (by simp only[dj,aq];omega) ae λh6 S6 V E=>⟨_,rfl,?_⟩)⟩;have l:=E.fr.get g (k K);have L:=K.step E;have l3:=(bw (fx x.num)).2;refine⟨ai l,ai l,ai l,(iK V (by grind) ae λh7 S7 X G=>⟨_,rfl,?_⟩)⟩;have o:=G.fr.get l (k L);have M:=L.step G;have l4:=(bw (fx x.count)).2;refine⟨ai o,ai o,(fT x.token X (by simp only[dj,aq];omega) rfl ae λh8 S8 Z I=>⟨_,rfl,?_⟩)⟩;have u8:=M.step I;have l5:=(bw x.token).2;refine⟨ai (I.fr.get o (k M)),(pd Z (by grind) (v.frame (F.tt u8.fr) bC) rfl ae (λy u d' hS=> ?_) λh9 S9 w s9=>⟨_,rfl,?_⟩)⟩;have:=jd v (λe=>d' (List.map_eq_nil_iff.1 e)) u;have:=u8.ge y hS;have:=F.1;omega;have O:=u8.step s9;have he: []++bm x.id++bm (fx x.err)++bm (fx x.num)++bm (fx x.count)++bm x.token++cX x.b=x.enc:=rfl;rw[he]at w;refine je w (bN (mf q6)) λq d c' e' a' b'=>⟨_,_,_,rfl,(k1 j c' q d e' (F.tt (O.fr.tt a')) (λy u=>gM (b' y u) ((F.tt O.fr).1)))⟩;rw[aT j];exact k2 j t (r.tt s)
theorem lD{bs:cQ}(rb:Row h p (bc bs))(hn:n=bs.length)(hl:bs.length<=70368744177664)(k1: ∀x,OW bs=some x->∀Z q d,Own Z q x.b.length d 1 (bc x.b)->Fr No h Z->(∀y,aL q y->h.size<=y)->R (.T #[val x q d,.I 0]) Z)(k2:OW bs=none->iG h R (.T #[val RD.zero none 0,.I 3])):Cl 132 #[.L p n c] h R:=by
 refine Dz (aj.box (f5l:=0) λb h1 eb hb f1=> ?_);refine gg.lD (rb.frame f1 bC) hn hl λh2 y' T D f2 g2=>⟨_,rfl,?_⟩;have u2:Up h1 T h2:=⟨f2,g2⟩;refine jU D λh3 l f3=>⟨_,rfl,?_⟩;have u3:=u2.Hk f3 (λy e=>e▸D.self);have la:=vD 0 bs;generalize hA:fb 0 bs=k' at l la⊢;obtain⟨a,Q,A⟩:=k';dsimp only at l la⊢;refine gp l λh4 o f4=>⟨_,rfl,?_⟩;have u4:=u3.Hk f4 (λy e=>e▸D.self);have lb:(gV Q A).2.2.length<=A.length:=sr _ Q A;generalize hB:gV Q A=B at o lb⊢;obtain⟨u,S,v⟩:=B;dsimp only at o lb⊢;refine gp o λh5 r f5=>⟨_,rfl,?_⟩;have u5:=u4.Hk f5 (λy e=>e▸D.self);have lc:(gV S v).2.2.length<=v.length:=sr _ S v;generalize hC:gV S v=C at r lc⊢;obtain⟨w,U,z⟩:=C;dsimp only at r lc⊢;refine gp r λh6 s f6=>⟨_,rfl,?_⟩;have u6:=u5.Hk f6 (λy e=>e▸D.self);have ld:(gV U z).2.2.length<=z.length:=sr _ U z;generalize hD:gV U z=l' at s ld⊢;obtain⟨E,de,dr⟩:=l';dsimp only at s ld⊢;refine jU s λh7 t f7=>⟨_,rfl,?_⟩;have u7:=u6.Hk f7 (λy e=>e▸D.self);have lf:=vD de dr;generalize hF:fb de dr=F at t lf⊢;obtain⟨I,fe,fr⟩:=F;dsimp only at t lf⊢;refine nB t ae λh8 q d M O g8 f8=>⟨_,_,_,rfl,?_⟩;have u8:=u7.Hk f8 (λy e=>e▸D.self);generalize hG:jo fe fr=m' at M O⊢;obtain⟨K,G,j⟩:=m';dsimp only at M O⊢;have hX:XG 1099511627776 hU bs=⟨⟨a,u,w,E,I,K⟩,G,j⟩:=by unfold gV at hB hC hD;unfold XG;simp only[hA,hB,hC,hD,hF,hG]
 have i':OW bs=Es ⟨⟨a,u,w,E,I,K⟩,G,j⟩:=by unfold OW;rw[hX]
 clear hX hA hB hC hD hF hG la lb lc ld lf l o r s t f3 f4 f5 f6 f7 f8;generalize i:(⟨a,u,w,E,I,K⟩:RD)=x at*;have e0:a=x.id:=by rw[<-i]
 have e1:(u:Int)=x.err:=by rw[<-i]
 have e2:(w:Int)=x.num:=by rw[<-i]
 have e3:(E:Int)=x.count:=by rw[<-i]
 have e4:I=x.token:=by grind
 have V:K=x.b:=by rw[<-i]
 rw[e0,e1,e2,e3,e4,V];rw[V]at O;clear i e0 e1 e2 e3 e4 V;refine aj.new λb1 a' w' h' J=> ?_;have b':At a' b RD.zero none 0:=J.get (u8.fr.get hb id) id;have P:Fr No h a':=f1.tt (u8.fr.tt J);have j':=O.frame J bC;have gq: ∀y,aL q y->h1.size<=y:=λy k=>by have:=g8 y k;have:=u7.fr.1;omega
 have bne:b≠b1:=λe=>by have:=aD (u8.fr.get hb id);omega
 have x':b<h1.size:=aD hb;refine aB.of λd' hJ=> ?_;have jt:Es ⟨x,G,j⟩=none->∀f,At f b RD.zero none 0->Fr No h f->d' true f:=by intro hn f c' X;subst hJ;simp only[bJ];refine aj.set c' λn' p' u' s'=>aj.ld p' ?_;exact k2 (i'.trans hn) n' (X.step (Fr.of_eq (S:=λy=>y=b) u' s') (λy k e=>ae))
 have jf:Es ⟨x,G,j⟩=some x->∀f,At f b RD.zero none 0->At f b1 x q d->Own f q x.b.length d 1 (bc x.b)->Fr No h f->d' false f:=by intro hs f c' o' r' X;subst hJ;simp only[az,aY];refine aj.ld o' (aj.set c' λf' q' v' t'=>aj.ld q' ?_);have e':Fr (λy=>y=b) f f':=Fr.of_eq v' t';refine k1 x (i'.trans hs) f' q d (r'.frame e' (λy k e=> ?_)) (X.step e' (λy k e=>ae)) (λy k=> ?_);grind;grind
 clear hJ;refine mX (M.frame J bC) ⟨_,rfl,?_⟩;by_cases he:oA G j=0;rw[af (by grind)];refine aj.ld h' (fD x j'.hT λg' g=>⟨_,rfl,?_⟩);by_cases L:x.qN;rw[aC L];exact jf (by unfold Es;rw[ag ⟨he,L⟩]) g' (g.get b' id) (g.get h' id) (j'.frame g bC) (P.tt g);rw[aT L];exact jt (by unfold Es;rw[af (λhh=>L hh.2)]) g' (g.get b' id) (P.tt g);rw[ag (dH he)];exact jt (by unfold Es;rw[af (λhh=>he hh.1)]) a' b' P

end C4
end
section
namespace Ask
open ju (Ev cY)
open dV (SS Good Pt oF Mk)
open Bn (jx)
variable {V:cQ→Bool} {h H f d g:aA} {R:fp} {s k bo r c:Nat} {X b:Ft} {I:oF} {a:SS} {p:bZ} {ses:Int} {x:Rq} {D:Nat→Prop} {o:Ot}
def ij.no(F:Fr No h d)(O:ij X d bo r o b H):ij X h bo r o b H:=by have z:=F.1;refine⟨Fr.no F O.fr,λc i=>(O.iA c i).imp _root_.id (λA=>ae),λc i=>(O.jF c i).imp _root_.id (λA=>ae),O.nP,?_⟩;have⟨y,t,q⟩:=O.at';refine⟨y,t,λm=> ?_⟩;have⟨p,c,e,u,n⟩:=q m;exact⟨p,c,e,u,λj z l=>⟨(n j z l).1.imp (λA=>ae) _root_.id,(n j z l).2⟩⟩
def ij.num{st1:bp X h b d}(n c:Int)(F:Fr (λy=>y=bo) d H)(i:aj.fR H bo ⟨r,0,n,c,0,none,0,0⟩){a:SS}{e:Int}:ij X h bo r ⟨a,e,n,c, []⟩ b H:=
 ij.of st1 F ⟨_,i,λ_=>⟨none,0,rfl,Row.nil,λe=>absurd rfl e⟩⟩
theorem tF(S:bp X h b d)(n: ¬(X.M bo\/X.D bo))(z:bo<h.size): ∀y,b.M y\/b.D y->y≠bo:=λy i e=>by rcases i with A|A;rcases S.iA _ A with A|A;grind;omega;rcases S.jF _ A with A|A;grind;omega
def LK(e:mP x=true):oY x=true:=by unfold mP at e;simp only[aZ]at e;exact e.1.2
theorem W8(E:En V f h s X I a k)(h':k+1<=30000)(hr:mP x=true)(w1:0<=x.ep.fK)(w2:0<=x.dest.fK)(rx:Row h p (bc x.nL))(cap:x.nL.length<=c)(v:aj.fR h bo (y0 r))(A: ¬(X.M bo\/X.D bo))(j: ∀H b,Pt H s b I (Of V a ses x).σ->ij X h bo r (Of V a ses x) b H->R (.I (Of V a ses x).e) H):
  Cl 133 #[(x.as p c s ses).agg,.P bo 0] h R:=by
 refine AE (cf.cV (x:=x.as p c s ses) λc' d eb l F=>⟨_,ai l,?_⟩);have n:=E.on F;have z: ¬X.M bo:=λe=>A (.inl e);have zo:=aD v;have z1:=F.1;have C: ¬X.M c':=E.nM ae;have P:=F.get v id;have sm:=E.G.small E.H.ord (bN E.hk);have cL:=E.G.c.L;have ek:=E.hk;have pr:=LK hr;unfold Of at j;unfold oY at pr;by_cases U:x.kind=1;rw[ag U]at j;rw[ag (bq.2 U)];obtain⟨Z,u,M,L,go⟩:=n.H.use 1;refine⟨_,ai l,ar.2 ⟨_,ai n.H.cN,jx x.ep l rfl rfl rfl rfl rfl ⟨_,ai l,_,ai l,fE.BK u ⟨x.ep,x.lS,ses⟩ E.G.g.len λm T J=> ?_⟩⟩⟩;obtain⟨t,q,S,_,_⟩:=go m Z { a with G:=fE.Dr a.G ⟨x.ep,x.lS,ses⟩ } T J (λi w=>dV.MZ _ w);exact⟨_,rfl,JG S.fr C bt,j m t q (ij.bad v z (bp.no F S))⟩;rw[af U]at j;rw[af (λe=>U (bq.1 e))];by_cases k2:x.kind=2
 .rw[ag k2]at j;rw[ag (bq.2 k2)];obtain⟨Z,u,M,L,go⟩:=n.H.use 1;refine⟨_,ai l,ar.2 ⟨_,ai n.H.cN,jx x.ep l rfl rfl rfl rfl rfl ⟨_,ai l,fE.rq u x.ep ses λh3 T3 s3=> ?_⟩⟩⟩;obtain⟨X3,y,b',_,_⟩:=go h3 Z { a with G:=fE.FC a.G x.ep ses } T3 s3 (λi w=>dV.MZ _ w);have f':=bp.no F b';refine⟨_,rfl,JG b'.fr C bt,aB.of λj' hJ=> ?_⟩;by_cases B:fE.kL a.G x.ep ses=0
  case neg=>
   rw[af B]at j;rw[af (dH B)];subst hJ;have eG:fE.FC a.G x.ep ses=a.G:=by unfold fE.FC;rw[af B]
   rw[eG]at y;exact j h3 X3 y (ij.bad v z f')
  rw[ag B]at j;rw[ag (by rw[B];rfl)];have Q:=b'.fr.get l C;obtain⟨Z,u,M,L,go⟩:=y.use 2;have i': ¬X3.M c':=λhm=>by rcases b'.iA c' hm with d'|d';exact C d';grind
  refine⟨_,ai Q,ar.2 ⟨_,ai y.cN,jx x.ep Q rfl rfl rfl rfl rfl (gi.sJ u sm (by grind) x.ep λh5 Z5 p5 c5 C5 s5 N5 n5=> ?_)⟩⟩;obtain⟨X5,H5,e',_,_⟩:=go h5 Z5 { a with G:=fE.FC a.G x.ep ses,C:=gi.CS a.C x.ep } C5 s5 (λi w=>dV.BQ (σ:= { a with G:=fE.FC a.G x.ep ses }) _ w);have st:=f'.trans e';refine⟨_,_,_,rfl,JG e'.fr i' bt,ji (z:=⟨r,0,0,((gi.nF a.C.L x.ep).length:Int),0,none,0,0⟩) (st.fr.get v z) cW rfl λh6 d6 f6=> ?_⟩;subst hJ;rw[B];exact j h6 X5 (H5.frame f6 (λg' hy e=>tF st A zo g' hy e)) (ij.num (st1:=st) 0 _ f6 d6)
 rw[af k2]at j;rw[af (λe=>k2 (bq.1 e))];by_cases k3:x.kind=3;rw[ag k3]at j;rw[ag (bq.2 k3)];obtain⟨Z,u,M,L,go⟩:=n.H.use 1;refine⟨_,ai l,ar.2 ⟨_,ai n.H.cN,jx x.ep l rfl rfl rfl rfl rfl ⟨_,ai l,_,ai l,fE.PC u x.ep ses x.lS λm T J=> ?_⟩⟩⟩;obtain⟨t,q,S,_,_⟩:=go m Z { a with G:=fE.Lm a.G x.ep ses x.lS } T J (λi w=>dV.MZ _ w);exact⟨_,rfl,JG S.fr C bt,j m t q (ij.bad v z (bp.no F S))⟩;rw[af k3]at j;rw[af (λe=>k3 (bq.1 e))];by_cases K:x.kind=4;rw[ag K]at j;rw[ag (bq.2 K)];rw[dz,dz,ag K]at pr;simp only[aZ,bn]at pr;exact cf.fX (x:=x.as p c s ses) l (Uo n (rx.frame F bC) cap ae w1 w2 P A λm t q O=>⟨_,rfl,j m t q (ij.no F O)⟩);rw[af K]at j;rw[af (λe=>K (bq.1 e))];by_cases k5:x.kind=5;rw[ag k5]at j;rw[ag (bq.2 k5)];exact⟨_,ai l,_,ai l,_,ai l,dV.BM n.H E.G E.hk λm t q S=>⟨_,rfl,j m t q (ij.bad v z (bp.no F S))⟩⟩;rw[af k5]at j;rw[af (λe=>k5 (bq.1 e))];by_cases k6:x.kind=6;rw[ag k6]at j;rw[ag (bq.2 k6)];obtain⟨Z,u,M,L,go⟩:=n.H.use 2;refine⟨_,ai l,ar.2 ⟨_,ai n.H.cN,jx x.ep l rfl rfl rfl rfl rfl (gi.Sm u sm x.ep λm f2=>⟨_,rfl,f2.kp,?_⟩)⟩⟩;have F2:=F.tt f2;refine ji (z:=⟨r,0,(gi.Na a.C.L x.ep:Int),0,0,none,0,0⟩) (F2.get v id) cW rfl λh3 d3 f3=> ?_;have Q:=f3.get (f2.get l id) (λe=>ae);have y:=(E.H.on F2).frame f3 (λg' hy e=>A (e▸hy));refine cf.fX (x:=x.as p c s ses) Q (JH y λh4 f4=>⟨_,rfl,?_⟩);exact j h4 X (y.on f4) (ij.num (st1:=bp.iw F2) _ 0 (f3.on f4) (f4.get d3 id));rw[af k6]at j;rw[af (λe=>k6 (bq.1 e))];by_cases G:x.kind=7;rw[ag G]at j;rw[ag (bq.2 G)];rw[dz,dz,af K,dz,ag G]at pr;simp only[aZ,bn]at pr;exact cf.fX (x:=x.as p c s ses) l (Uz n ae P A λm t q O=>⟨_,rfl,j m t q (ij.no F O)⟩);rw[af G]at j;rw[af (λe=>G (bq.1 e))];by_cases k8:x.kind=8;rw[ag k8]at j;rw[ag (bq.2 k8)];exact cf.fX (x:=x.as p c s ses) l (MX n h' P A λm t q O=>⟨_,rfl,j m t q (ij.no F O)⟩);rw[af k8]at j;rw[af (λe=>k8 (bq.1 e))];by_cases k9:x.kind=9;rw[ag k9]at j;rw[ag (bq.2 k9)];obtain⟨Z,u,M,L,go⟩:=n.H.use 2;refine⟨_,ai l,ar.2 ⟨_,ai n.H.cN,_,ai l,_,ai l,gi.MY u sm x.num ses λm Z2 T J=> ?_⟩⟩;obtain⟨t,q,S,_,_⟩:=go m Z2 { a with C:=gi.Ju a.C x.num ses } T J (λi w=>dV.BQ _ w);exact⟨_,rfl,JG S.fr C bt,j m t q (ij.bad v z (bp.no F S))⟩;rw[af k9]at j;rw[af (λe=>k9 (bq.1 e))];by_cases a':x.kind=10;rw[ag a']at j;rw[ag (bq.2 a')];exact cf.fX (x:=x.as p c s ses) l (Fy n P A λm t q O=>⟨_,rfl,j m t q (ij.no F O)⟩);rw[af a']at j;rw[af (λe=>a' (bq.1 e))];exact j d X n.H (ij.bad v z (bp.iw F))
def UB{A:List eM.eM}(O:eM.lF A){m:Int}{j:Nat}{B:cQ}(h:eM.CP A m j=some B):B.length<=1000:=by unfold eM.CP at h;split at h;cases h;rename_i z q;have⟨i,_,n⟩:=eM.HX q;obtain⟨e,l,rfl⟩:=Option.map_eq_some_iff.1 h;exact((O.at_ i z n).kd e (List.mem_of_find?_eq_some l)).2
abbrev rS(y:Go.fv.RD)(p:bZ)(c:Nat):aj.S:=⟨(y.id:Int),y.err,y.num,y.count,(y.token:Int),p,y.b.length,c⟩
def CW{B:Nat}{y z:aj.S}{K:aj.S->dw}(i:aj.fR h B y)(j: ∀H,Fr (λy=>y=B) h H->K z H):
  aj.dv h (AA B 0) z λg=>aj.cJ g (AA B 0) λl=>K l g:=
 aj.iB i λg e F _=>aj.fX e (j g F)
theorem Wa(E:En V f h s X I a k)(I':k+1<=30000)(w1:0<=x.ep.fK)(w2:0<=x.dest.fK)(rx:Row h p (bc x.nL))(cap:x.nL.length<=c)(t: ∀H b q j,Pt H s b I (Lx V a ses x).1->bp X h b H->Row H q (bc (Lx V a ses x).2.b)->((Lx V a ses x).2.b≠ []->∀y,aL q y->(h.size<=y\/b.D y)/\¬b.M y)->R (C4.val (Lx V a ses x).2 q j) H):
  Cl 93 #[pt s,.I ses,(x.s p c).agg] h R:=by
 refine LH (aI.cV (x:=x.s p c) λg' d eb hb f1=>aj.cV (x:=.z) λl h2 a0 a' f2=>aB.of λx' hJ=> ?_);have F2:=f1.tt f2;have E2:=E.on F2;have c':=f2.get hb _root_.id;have z1:=f1.1;have z2:=f2.1;have B:=E2.H.cN;have fl: ∀(g:aA)(e:Int),Fr No h2 g->Lx V a ses x=(a,rH x.id e)->Cl 52 #[.U (x.id:Int),.I e] g λX' D'=>aj.EX λw'=>X'=w'.agg/\aj.dv D' (AA l 0) w' λp'=>aj.cJ p' (AA l 0) λr0=>R (r0.agg) p':=by intro g e v hq;rw[hq]at t;refine C4.oC x.id rfl e λH F=>aj.ex (rS (rH x.id e) none 0) ⟨rfl,CW ((v.tt F).get a' _root_.id) λA' z'=> ?_⟩;have FF:=(F2.tt (v.tt F)).fresh z' (λy e=>ae);exact t A' X none 0 (E.H.on FF) (bp.iw FF) Row.nil (λe=>absurd rfl e)
 have y': ∀(e:Int),¬(mP x=true/\x.kind<11)->Lx V a ses x=(a,rH x.id 3):=λe hn=>by unfold Lx;rw[af hn]
 have key:x' false h2:=by
  subst hJ;dsimp only;rw[dz];refine aB.of λJ1 k'=>aI.fX (x:=x.s p c) c' (fD x (rx.frame F2 (λ_ _=>_root_.id)) λh3 w=>⟨_,rfl,?_⟩);have b':=w.get c' _root_.id;have a5:J1 true h3->True:=λ_=>trivial;have bad: ¬(mP x=true/\x.kind<11)->J1 true h3:=by
   intro hn;subst k';try dsimp only
   rw[ag rfl];exact⟨_,ai b',fl h3 3 w (y' 0 hn)⟩
  cases hr:mP x with
  |false=>rw[gH];exact bad (λe=>by rw[hr]at e;cases e.1)
  |true=>
  rw[dz];refine⟨_,ai b',?_⟩;by_cases s':x.kind<11
  case neg=>grind
  have:decide ((x.s p c).f1≥11)=false:=aT (by show¬x.kind≥11;omega);rw[this];subst k';dsimp only;rw[dz];have E3:=E2.on w;obtain⟨Z,m,_⟩:=E3.H.use 0;unfold Lx at t fl;rw[ag ⟨hr,s'⟩]at t;simp only[ag (show mP x=true/\x.kind<11 from⟨hr,s'⟩)]at fl;refine⟨_,ai E3.H.cN,eM.K8 m E.G.a ⟨_,rfl,?_⟩⟩;cases hu:eM.VU a.A ses with
  |false=>rw[gH];exact⟨_,ai b',fl h3 16 w (by rw[hu];rfl)⟩
  |true=>
  rw[hu,ag rfl]at t;rw[dz];refine⟨_,ai E3.H.cN,_,ai b',eM.Og x.id rfl m E.G.a (λkb e' h4 p4 c4 o4 K n4=>⟨_,_,_,_,rfl,?_⟩) (λe' h4 K=>⟨_,_,_,_,rfl,?_⟩)⟩;rw[e']at t;rw[ag rfl];dsimp only at t;have F4:=F2.tt (w.tt K);have z3:=w.1;have z4:=K.1;have fin: ∀(g:aA)(y:Go.fv.RD)(q:bZ)(j:Nat),(Go.fv.OW kb).getD Go.fv.RD.zero=y->Row g q (bc y.b)->(∀z,aL q z->h4.size<=z)->Fr No h4 g->
    aW g (.C aj.S.z.arr 42) λi' C'=>
    aj.dv C' (AA i' 0) (rS y q j) λl'=>
    aj.cJ l' (AA i' 0) λT'=>
    aj.dv l' (AA l 0) T' λm'=>
    aj.cJ m' (AA l 0) λO'=>
    R (O'.agg) m':=by
   intro g y q j i Q C v;refine aj.gw (x:=rS y q j) λb2 g2 a2 c' n=>aj.fX (x:=rS y q j) c' (CW ((w.tt (K.tt (v.tt n))).get a' _root_.id) λg3 f6=> ?_);have FF:=(F4.tt (v.tt n)).fresh f6 (λy e=>ae);have rr:=((Q.frame n (λ_ _=>_root_.id)).frame f6 (λA ea L=>by have:=C A.block ⟨A,ea,rfl⟩;have L:A.block=l:=L;have:=aD a';omega));rw[i]at t;exact t g3 X q j (E.H.on FF) (bp.iw FF) rr (λ_ z m=>⟨.inl (gM (C z m) F4.1),λu=>gM (C z m) (E.H.lt z (.inl u))⟩)
  refine C4.lD o4.hT rfl (bN (UB E.G.a e')) (λy i T q j o5 n n5=>aj.ex (rS y q j) ⟨_,rfl,?_⟩) (λi T n=>aj.ex (rS .zero none 0) ⟨_,rfl,?_⟩);exact fin T y q j (by rw[i];rfl) o5.hT n5 n;exact fin T .zero none 0 (by rw[i];rfl) Row.nil (λz m=>by obtain⟨A,e,_⟩:=m;cases e) n;rw[e']at t;rw[dz];dsimp only at t;have F4:=F2.tt (w.tt K);have z3:=w.1;have z4:=K.1;have d':=K.get b' _root_.id;refine⟨_,ai d',aj.gw (x:=y0 x.id) λJ T a3 q' n=>aI.fX (x:=x.s p c) (n.get d' _root_.id) ?_⟩;have F5:=F4.tt n;have E5:=E.on F5;have z5:=n.1;have nX: ∀y,h.size<=y->¬(X.M y\/X.D y):=λy i u=>by have:=E.H.lt y u;omega
  refine W8 (p:=p) (c:=c) (ses:=ses) E5 I' hr w1 w2 (rx.frame F5 (λ_ _=>_root_.id)) cap q' (nX J ae) λh6 M H6 O=>⟨_,rfl,aB.of λJ2 B'=> ?_⟩;have sG:=Good.Of (V:=V) (ses:=ses) (q:=x) E.G E.H.ord E.hk w1;generalize Of V a ses x=o at t H6 O sG;have r':aI.fR h6 g' (x.s p c):=O.fr.get (n.get d' _root_.id) (λu=>by grind);have F':aj.fR h6 l .z:=O.fr.get ((w.tt (K.tt n)).get a' _root_.id) (λu=>by grind);have zo:=aD q';have st:bp X h M h6:=⟨(Fr.no F5 O.fr).trans (Fr.refl (λ_=>False) _) (λc hc u=>by rcases u with A|A;exact A;omega) (λ_ _=>False.elim),λc hc=>(O.iA c hc).imp _root_.id (λA=>ae),λc hc=>(O.jF c hc).imp _root_.id (λA=>ae),O.nP⟩;have a7:=aD d';have a6:=aD a';have f': ∀y,h.size<=y->y<T.size->¬(M.M y\/M.D y):=λy i hl u=>by rcases u with A|A;rcases O.iA y A with A|A;exact nX y i (.inl A);omega;rcases O.jF y A with A|A;exact nX y i (.inr A);omega
  have fin: ∀(g:aA)(q:bZ)(j:Nat),aj.fR g J (rS (rG x.id o) q j)->Fr (λy=>y=J) h6 g->Row g q (bc (rG x.id o).b)->((rG x.id o).b≠ []->∀z,aL q z->(T.size<=z\/X.D z)/\¬M.M z)->J2 g:=by
   intro g q j hg v Q C;subst B';have Hg:=H6.frame v (λy i e=>f' J ae zo (e▸i));have zg:=v.1;have z6:=O.fr.1;have L':g'≠J:=ae
   have M':l≠J:=ae
   obtain⟨Z,m,zm,zd,go⟩:=Hg.use 0;have wr: ∀(G:aA)(U:bZ)(cw:Nat),Row G U (bc (Vc (rG x.id o)))->(∀y,aL U y->g.size<=y)->Fr No g G->∀(e:Int),
     ∃u',aU G (AA s 0)=some (.Q u')/\
     ∃v',aU G (AA g' 0)=some (.U v')/\
     Cl 135 #[.Q u',.I ses,.U v',.slice U (Vc (rG x.id o)).length cw] G λZ' n'=>
     ∃U',Z'=.I U'/\
     aj.cJ n' (AA J 0) λV'=>
     aj.dv n' (AA l 0) V' λo'=>
     aj.cJ o' (AA l 0) λP'=>
     R (P'.agg) o':=by
    intro G U cw Q' nw F _;have h':=Hg.on F;obtain⟨Z,m,zm,zd,go⟩:=h'.use 0;have E':=F.get (v.get r' L') _root_.id;refine⟨_,ai h'.cN,_,ai E',eM.Ul x.id rfl m sG.a Q' rfl (λ_ y i u=>gM (nw y i) (Hg.lt y (.inl (zm y u)))) λh7 Z7 T7 s7=>⟨_,rfl,?_⟩⟩;obtain⟨X7,H7,S,_,_⟩:=go h7 Z7 { o.σ with A:=eM.Au o.σ.A ses x.id (Vc (rG x.id o)) } T7 s7 (λa4 hi=>dV.wC _ hi);have n3: ¬M.M J:=λA=>f' J ae zo (.inl A);have n1: ¬M.M l:=λA=>f' l ae ae (.inl A);have H':=S.fr.get (F.get hg _root_.id) n3;have G':=S.fr.get (F.get (v.get F' M') _root_.id) n1;refine aj.fX (x:=rS (rG x.id o) q j) H' (CW G' λh8 f8=> ?_);have z7:=S.fr.1;have zf:=F.1;have R':bp X h M G:=(bp.box st v ae).on F;have S':=R'.trans S;have t':=bp.box S' f8 ae;have K': ∀y,X7.M y\/X7.D y->y≠l:=λy i e=>by rcases i with A|A;rcases S.iA y A with A|A;exact n1 (e▸A);omega;rcases S.jF y A with A|A;exact f' l ae ae (.inr (e▸A));omega
    refine t h8 X7 q j (H7.frame f8 (λy i e=>K' y i e)) t' ?_ (λP z m=>⟨(C P z m).1.imp (λA=>bN F5.1) (t'.nP z),λu=> ?_⟩);by_cases P:(rG x.id o).b= [];rw[P];exact Row.nil;refine(((Q.frame F (λ_ _=>_root_.id)).frame S.fr (λA ea L=>(C P A.block ⟨A,ea,rfl⟩).2 L)).frame f8 (λA ea L=> ?_));have L:A.block=l:=L;rcases(C P A.block ⟨A,ea,rfl⟩).1 with a1|a1;omega;exact nX l ae (.inr (L▸a1));rcases S.iA z u with A|A;exact(C P z m).2 A;have:=jd Q (by simpa[bc]using P) m;omega
   refine aj.fX (x:=rS (rG x.id o) q j) hg (C4.SF (rG x.id o) Q (λhR G U cw ow F nw=>⟨_,_,_,_,rfl,?_⟩) (λhR G F=>⟨_,_,_,_,rfl,?_⟩));have:=wr G U cw (by rw[show Vc (rG x.id o)=(rG x.id o).enc from ag hR];exact ow.hT) nw F 0;rw[show Vc (rG x.id o)=(rG x.id o).enc from ag hR]at this;exact this;have:=wr G none 0 (by rw[show Vc (rG x.id o)= []from af hR];exact Row.nil) (λy i=>by obtain⟨A,e,_⟩:=i;cases e) F 0;rw[show Vc (rG x.id o)= []from af hR]at this;exact this
  obtain⟨y,i,J'⟩:=O.at';by_cases he:o.e=0;rw[af (dH he)];obtain⟨q,j,rfl,Q,C⟩:=J' he;have eo:rG x.id o=⟨x.id,0,o.num,o.zj,0,o.d⟩:=ag he;rw[eo]at fin;exact fin h6 q j i (Fr.refl _ _) Q C;rw[ag (dH he)];have eo:rG x.id o=⟨x.id,o.e,0,0,0, []⟩:=af he;rw[eo]at fin;refine⟨_,ai r',C4.oC x.id rfl o.e λg j'=>aj.ex (rS ⟨x.id,o.e,0,0,0, []⟩ none 0) ⟨rfl,aj.iB (x:=rS ⟨x.id,o.e,0,0,0, []⟩ none 0) (j'.get i _root_.id) λg2 d2 f2 _=>fin g2 none 0 d2 (Fr.no j' f2) Row.nil (λe=>absurd rfl e)⟩⟩
 refine⟨_,ai B,?_⟩;rw[af bt];refine⟨_,ai B,?_⟩;rw[af bt];refine⟨_,ai B,?_⟩;rw[af bt];refine⟨_,ai B,?_⟩;rw[af bt];refine⟨_,ai B,?_⟩;rw[af bt];exact⟨_,ai B,key⟩

end Ask
end
section
variable {h:aA} {R:fp}
variable {s o:Nat} {c:cb.S} {x:aR.S}
def Ch (H: ∃e,Cc h s 0 (.Q e)/\ite (!e.isNone) (∃t,Cc h s 1 (.Q t)/\ite (!t.isNone) (∃T,Cc h s 2 (.Q T)/\ite (!T.isNone) (∃a,Cc h s 3 (.Q a)/\ite (!a.isNone) (∃b,Cc h s 4 (.Q b)/\ite (!b.isNone) (∃d,Cc h s 5 (.Q d)/\R (.B (!d.isNone)) h) (R (.B false) h)) (R (.B false) h)) (R (.B false) h)) (R (.B false) h)) (R (.B false) h)):Cl 48 #[.P s 0] h R:=aP [] H
def wP(H:R (.B false) h):Cl 48 #[.Q none] h R:=aP [] H
def rM{O:Int}(e:aW h (.C c.arr 249) λb H=>Hp H b 21 λi=>aH i λa=>AN H a λj=>Hl H b 22 λg f T=>Cl 280 #[.Q j,.I O,.L g f T] H λv d=> ∃t,v=.I t/\Kp H d [(Sa b 21)]/\ite (t !=0) (R (.I 0) d) (R (.I 1) d)):Cl 202 #[c.agg,.I O] h R:=aP [(4,λ_=>pK 10)] e
def rN (hv:aW h (.C c.arr 249) λb e=>aB (λ(r:bZ) (is:Bool) i=>ite (!is) (R (.I 4) i) (ak.cJ i (AA b 0) λu'=>Cl 201 #[u'.agg] i λO' p'=>aM.EX λZ=> ∃a',O'=.T #[Z.agg,.I a']/\aM.NW p' λl' q'=>aM.dv q' (AA l' 0) Z λa=>ite (a'==0) (cb.cJ a (AA b 0) λv'=>aH r λf'=>kU a (f'.add 6) λw'=>Cl 202 #[v'.agg,.I w'] a λP' r'=> ∃b',P'=.I b'/\aO r' (AA o 3) (.I b') λs'=>R (.I 0) s') (ak.cJ a (AA b 0) λx'=>Hp a b 21 λy'=>aH y' λg'=>gZ a (g'.add 6) λz'=>Hp a b 21 λA'=>aH A' λh'=>gZ a (h'.add 6) λB'=>Cl 203 #[x'.agg,.U z',.U B'] a λQ' d=> ∃t T,Q'=.T #[.U t,.I T]/\Kp a d [(Sa b 21),(Sa b 21)]/\aB (λ(C':Bool) H=>ite C' (R (.I 19) H) (ite (T !=0) (R (.I T) H) (ite (t==0) (R (.I 18) H) (Hp H b 21 λG'=>aH G' λi'=>AN H (i'.add 2) λH'=>av.cJ H (AA b 2) λI'=>Hl H b 22 λL' K' J'=>Hp H b 21 λM'=>aH M' λA=>gZ H (A.add 6) λe'=>Cl 204 #[.Q H',I'.agg,.L L' K' J',.U (if 1099511627776<wrap .u64 (e'+t)then 1099511627776 else wrap .u64 (e'+t))] H λR' n=> ∃v w,R'=.T #[.I v,.I w]/\Kp H n [(some (A.add 6)),(Sa b 21),(Sa b 21)]/\aO n (AA o 2) (.I v) λm'=>R (.I w) m')))) (λj=>aH r λk=> ∃c',aU d (k.add 5)=some (.I c')/\ite (c'==2) (Hp d b 21 λD'=>aH D' λj'=>AN d j' λE'=>aH r λk'=>kU d (k'.add 6) λF'=>Cl 130 #[.Q E',.I F'] d λS' p=> ∃d',S'=.B d'/\Kp d p [(Sa b 21),(some (k.add 5))]/\j (!d') p) (j false d))))) (λJ=>Hp e b 21 λt'=>aH t' λl=>AN e (l.add 1) λy=>av.cJ e (AA b 2) λz=>(Cl 200 #[.Q y,z.agg] e λT' f=> ∃C E G K M P S V,T'=.T #[.agg #[.B C,.U E,.U G,.S K,.S M,.I P,.I S],.B V]/\Kp e f [(Sa b 21)]/\aW f (.C #[.B false,.U 0,.U 0,.S (⟨#[]⟩:cF),.S (⟨#[]⟩:cF),.I 0,.I 0] 173) λB q=>Kp f q [(Sa b 21)]/\bg.ST q (AA B 0) C E G K M P S λn'=>J (Sa B 0) V n')/\(aW e (.C #[.B false,.U 0,.U 0,.S (⟨#[]⟩:cF),.S (⟨#[]⟩:cF),.I 0,.I 0] 173) λm g=>Kp e g [(Sa b 2),(some (l.add 1)),(Sa b 21)]/\Cl 200 #[.Q y,z.agg] g λU' u=> ∃D F I L O Q U X,U'=.T #[.agg #[.B D,.U F,.U I,.S L,.S O,.I Q,.I U],.B X]/\Kp g u [(Sa b 21)]/\bg.ST u (AA m 0) D F I L O Q U λo'=>J (Sa m 0) X o')/\True)):Cl 137 #[c.agg,.P o 0] h R:=aP [(3,.join [(5,sP),(6,sB)]),(3,λ_=> .ob (gB 9 0 (.alts (.fork 9 (gB 6 10 .done) (.fork 13 (gB 4 9 (lO [14,15] .done)) .hO))))),(25,λ_=>pK 18),(29,.join [(57,sB)]),(29,λ_=>pK 15),(48,λ_=>pK 28)] hv
def yZ{a:bZ}{D d:Nat} (r:Cl 136 #[.L a D d] h λv l=>ak.EX λg=> ∃T,v=.T #[g.agg,.I T]/\ak.NW l λb m=>ak.dv m (AA b 0) g λH=>aB (λ(e:Int) f=>aB (λn=>R (.I e) n) (λj=>ite (e !=0) (∃k,Cc f s 7 (.I k)/\aO f (AA s 7) (.I (wrap .i64 (k+1))) λp=>j p) (j f))) (λJ=>ite (T==0) (ak.cJ H (AA b 0) λt=>Cl 137 #[.agg #[.U t.f0,.I t.f1,.B t.f2,.U t.f3,.U t.f4,.S t.f5,.S t.f6,.B t.f7,.U t.f8,.U t.f9,.S t.f10,.S t.f11,.B t.f12,.U t.f13,.U t.f14,.S t.f15,.S t.f16,.U t.f17,.U t.f18,.U t.f19,.L t.TA t.Mu t.TC,.P s 0,.L a D d],.P o 0] H λV q=> ∃i,V=.I i/\J i q) (J T H))):Cl 94 #[.P s 0,.L a D d,.P o 0] h R:=aP [(7,.join [(8,sI)]),(13,.join [])] r
def y7 (hv:aW h (.C x.arr 36) λb H=>Hi H b 1 λt=>aB (λ(e:Int) e'=>R (.I e) e') (λJ=>aB (λ(I:Int) j'=>J I j') (λj=>ite (t==1) (Hp H s 0 λp'=>Hu H b 2 λq'=>Cl 90 #[.Q p',.U q'] H λB' k'=> ∃T q,B'=.T #[.I T,.I q]/\aO k' (AA o 2) (.I T) λn=> ∃r,Cc n b 2 (.U r)/\aO n (AA o 4) (.U r) λl'=>j q l') (aB (λ(K:Int) m'=>j K m') (λd=>ite (t==2) (Hp H s 0 λr'=>Hu H b 2 λs'=>Cl 91 #[.Q r',.U s'] H λC' n'=> ∃u v,C'=.T #[.I u,.I v]/\aO n' (AA o 2) (.I u) λp=> ∃w,Cc p b 2 (.U w)/\aO p (AA o 4) (.U w) λQ=>d v Q) (aB (λ(L:Int) S=>d L S) (λf=>ite (t==3) (Hp H s 0 λt'=>Hi H b 3 λu'=>Cl 92 #[.Q t',.I u'] H λD' U=> ∃y,D'=.I y/\f y U) (aB (λ(M:Int) V=>f M V) (λg=>ite (t==4) (Hi H b 3 λv'=>aI.cJ H (AA b 4) λw'=>Cl 93 #[.P s 0,.I v',w'.agg] H λE' X=>aj.EX λz=>E'=z.agg/\aj.dv X (AA o 0) z λZ=>g 0 Z) (aB (λ(O:Int) a'=>g O a') (λi=>ite (t==5) (Hl H b 23 λz' y' x'=>Cl 94 #[.P s 0,.L z' y' x',.P o 0] H λF' b'=> ∃A,F'=.I A/\i A b') (aB (λ(P:Int) c'=>i P c') (λk=>ite (t==6) (Cl 95 #[.P s 0] H λG' d'=>aF.EX λC=> ∃D,G'=.T #[C.agg,.I D]/\aF.NW d' λB f'=>aF.dv f' (AA B 0) C λa=>Hi a B 0 λA'=> ∃G F E,Cc a B 2 (.L G F E)/\aO a (AA o 2) (.I A') λm=>Kp a m [(Sa B 2)]/\aO m (AA o 5) (.L G F E) λg'=>k D g') (aB (λh'=>k 0 h') (λl=>ite (t==8) (Hp H s 0 λo'=>Cl 96 #[.Q o'] H λH' i'=>H'=.T #[]/\l i') (l H)))))))))))))))):Cl 51 #[.P s 0,x.agg,.P o 0] h R:=aP [(7,.join [(7,sI)]),(10,.join [(7,sI)]),(12,λ_=>pK 15),(16,.join [(7,sI)]),(18,λ_=>pK 15),(22,.join [(7,sI)]),(23,λ_=>pK 8),(26,.join [(7,sI)]),(30,.join [(7,sI)]),(34,.join [(7,sI)]),(37,λ_=>pK 14),(40,.join [])] hv
def AG (y:aW h (.C x.arr 36) λb r=>aj.NW r λB w=>Cl 48 #[.P s 0] w λv a=> ∃n,v=.B n/\ite (!n) (aj.dv a (AA B 0) aj.S.z λi=>aj.cJ i (AA B 0) λz=>R (.T #[z.agg,.I 6]) i) (aR.cJ a (AA b 0) λF=>Cl 49 #[F.agg] a λV d=> ∃p,V=.B p/\ite (!p) (aj.dv d (AA B 0) aj.S.z λj=>aj.cJ j (AA B 0) λA=>R (.T #[A.agg,.I 3]) j) (Hu d b 0 λG=>Cl 50 #[.P s 0,.U G] d λK k=> ∃t,K=.I t/\ite (t !=0) (aj.dv k (AA B 0) aj.S.z λl=>aj.cJ l (AA B 0) λC=>R (.T #[C.agg,.I t]) l) (aj.NW k λe m=>aR.cJ m (AA b 0) λI=>Cl 51 #[.P s 0,I.agg,.P e 0] m λL H=> ∃T,L=.I T/\ite (T !=0) (Cl 52 #[.U 0,.I T] H λM u=>aj.EX λq=>M=q.agg/\aj.dv u (AA B 0) q λf=>aj.cJ f (AA B 0) λD=>R (.T #[D.agg,.I 0]) f) (aj.cJ H (AA e 0) λJ=>aj.dv H (AA B 0) J λg=>aj.cJ g (AA B 0) λE=>R (.T #[E.agg,.I 0]) g))))):Cl 10 #[.P s 0,x.agg] h R:=aP [] y
def uW (y:aW h (.C x.arr 36) λb r=>aj.NW r λB w=>Cl 48 #[.Q none] w λv a=> ∃n,v=.B n/\ite (!n) (aj.dv a (AA B 0) aj.S.z λi=>aj.cJ i (AA B 0) λz=>R (.T #[z.agg,.I 6]) i) (aR.cJ a (AA b 0) λF=>Cl 49 #[F.agg] a λV d=> ∃p,V=.B p/\ite (!p) (aj.dv d (AA B 0) aj.S.z λj=>aj.cJ j (AA B 0) λA=>R (.T #[A.agg,.I 3]) j) (Hu d b 0 λG=>Cl 50 #[.Q none,.U G] d λK k=> ∃t,K=.I t/\ite (t !=0) (aj.dv k (AA B 0) aj.S.z λl=>aj.cJ l (AA B 0) λC=>R (.T #[C.agg,.I t]) l) (aj.NW k λe m=>aR.cJ m (AA b 0) λI=>Cl 51 #[.Q none,I.agg,.P e 0] m λL H=> ∃T,L=.I T/\ite (T !=0) (Cl 52 #[.U 0,.I T] H λM u=>aj.EX λq=>M=q.agg/\aj.dv u (AA B 0) q λf=>aj.cJ f (AA B 0) λD=>R (.T #[D.agg,.I 0]) f) (aj.cJ H (AA e 0) λJ=>aj.dv H (AA B 0) J λg=>aj.cJ g (AA B 0) λE=>R (.T #[E.agg,.I 0]) g))))):Cl 10 #[.Q none,x.agg] h R:=aP [] y
def y8{L:bZ}{l n:Nat} (k: ∃(I:kj)(m:kG),I 0 h/\∀t H,I t H->ite (decide (t<(l:Int))) (Bd t l/\aH L λa=>aR.cJ H (a.add (toNat t*24)) λp=>aR.NW H λb g=>aR.dv g (AA b 0) p λe=>aR.cJ e (AA b 0) λq=>Cl 10 #[.P s 0,q.agg] e λv i=>aj.EX λf=> ∃T,v=.T #[f.agg,.I T]/\aj.NW i λB j=>aj.dv j (AA B 0) f λd=>ite (T !=0) (R (.T #[.I t,.I T]) d) ((I (wrap .i64 (t+1)) d/\m (wrap .i64 (t+1)) d<m t H))) (R (.T #[.I (l:Int),.I 0]) H)):Cl 22 #[.P s 0,.L L l n] h R:=aP [(6,.loop [(12,sI)])] k
def Ci{d:bZ}{a B:Nat}(i:ak.NW h λb f=>aW f (.C #[.U 1,.U 1,.U 0,.I 0,.L d a B] 134) λe g=>ak.dv g (AA b 0) ⟨0,0,false,0,0,(⟨#[]⟩:cF),(⟨#[]⟩:cF),false,0,0,(⟨#[]⟩:cF),(⟨#[]⟩:cF),false,0,0,(⟨#[]⟩:cF),(⟨#[]⟩:cF),0,0,0,(Sa e 0),1,1⟩ λH=>ak.cJ H (AA b 0) λr=>R (r.agg) H):Cl 21 #[.L d a B] h R:=aP [] i
def Cj{x:aI.S} (a:aW h (.C x.arr 34) λb H=> ∃i T g,Cc H b 15 (.L i T g)/\ite (decide (((T:Nat):Int)>400)) (R (.B true) H) (Hs H b 5 λd=>Hs H b 6 λe=>Hs H b 10 λf=> ∃t,Cc H b 11 (.S t)/\R (.B (decide ((wrap .i64 ((wrap .i64 ((wrap .i64 ((d.size:Int)+(e.size:Int)))+(f.size:Int)))+((t.size:Nat):Int)))>300))) H)):Cl 19 #[x.agg] h R:=aP [] a
def Ck (d:aW h (.C x.arr 36) λb a=>aI.cJ a (AA b 4) λe=>Cl 19 #[e.agg] a λv H=> ∃t,v=.B t/\ite t (R (.B true) H) (∃g T f,Cc H b 23 (.L g T f)/\R (.B (decide (((T:Nat):Int)>1300))) H)):Cl 6 #[x.agg] h R:=aP [] d
def Cn (hv:Cl 5 #[] h λo' M=>av.EX λf=>o'=f.agg/\Cl 4 #[f.agg] M λp' d=> ∃t g,p'=.T #[.Q t,.I g]/\aB (λ(j':Bool) e=>ite j' (R (.B false) e) (Cl 10 #[.Q t,.agg #[.U 3,.I 1,.U 5,.I 0,.U 0,.I 0,.B false,.U 0,.U 0,.S (⟨#[]⟩:cF),.S (⟨#[]⟩:cF),.B false,.U 0,.U 0,.S (⟨#[]⟩:cF),.S (⟨#[]⟩:cF),.I 0,.I 0,.I 0,.Z,.U 0,.U 0,.B false,.Z]] e λq' d'=>aj.EX λi=> ∃j,q'=.T #[i.agg,.I j]/\aj.NW d' λb e'=>aj.dv e' (AA b 0) i λf'=>aW f' (.C #[.int .u8 120] 5) λG g'=>jE (convert 32 32 (.L (Sa G 0) 1 1)) g' λr' h'=>Vl r' λm' l' k'=>Cl 21 #[.L m' l' k'] h' λs' i'=>ak.EX λk=>s'=k.agg/\Cl 20 #[k.agg] i' λt' O=> ∃n m l n',t'=.T #[.L n m l,.I n']/\Cl 10 #[.Q t,.agg #[.U 4,.I 5,.U 0,.I 0,.U 0,.I 0,.B false,.U 0,.U 0,.S (⟨#[]⟩:cF),.S (⟨#[]⟩:cF),.B false,.U 0,.U 0,.S (⟨#[]⟩:cF),.S (⟨#[]⟩:cF),.I 0,.I 0,.I 0,.Z,.U 0,.U 0,.B false,.L n m l]] O λu' P=>aj.EX λp=> ∃q,u'=.T #[p.agg,.I q]/\aj.NW P λB Q=>aj.dv Q (AA B 0) p λS=>Cl 10 #[.Q t,.agg #[.U 3,.I 7,.U 0,.I 0,.U 0,.I 0,.B false,.U 0,.U 0,.S (⟨#[]⟩:cF),.S (⟨#[]⟩:cF),.B false,.U 0,.U 0,.S (⟨#[]⟩:cF),.S (⟨#[]⟩:cF),.I 0,.I 0,.I 0,.Z,.U 0,.U 0,.B false,.Z]] S λv' U=>aj.EX λr=> ∃u,v'=.T #[r.agg,.I u]/\aj.NW U λI V=>aj.dv V (AA I 0) r λX=>Cl 10 #[.Q none,.agg #[.U 0,.I 7,.U 0,.I 0,.U 0,.I 0,.B false,.U 0,.U 0,.S (⟨#[]⟩:cF),.S (⟨#[]⟩:cF),.B false,.U 0,.U 0,.S (⟨#[]⟩:cF),.S (⟨#[]⟩:cF),.I 0,.I 0,.I 0,.Z,.U 0,.U 0,.B false,.Z]] X λw' Z=>aj.EX λv=> ∃w,w'=.T #[v.agg,.I w]/\aj.NW Z λK a'=>aj.dv a' (AA K 0) v λb'=>aW b' (.C #[.U 9,.I 8,.U 0,.I 0,.U 0,.I 0,.B false,.U 0,.U 0,.S (⟨#[]⟩:cF),.S (⟨#[]⟩:cF),.B false,.U 0,.U 0,.S (⟨#[]⟩:cF),.S (⟨#[]⟩:cF),.I 0,.I 0,.I 0,.Z,.U 0,.U 0,.B false,.Z,.U 8,.I 7,.U 0,.I 0,.U 0,.I 0,.B false,.U 0,.U 0,.S (⟨#[]⟩:cF),.S (⟨#[]⟩:cF),.B false,.U 0,.U 0,.S (⟨#[]⟩:cF),.S (⟨#[]⟩:cF),.I 0,.I 0,.I 0,.Z,.U 0,.U 0,.B false,.Z] 36) λL c'=>Cl 22 #[.Q t,.L (Sa L 0) 2 2] c' λx' H=> ∃y z,x'=.T #[.I y,.I z]/\∃A,Cc H b 2 (.I A)/\ite (A==1) (∃C,Cc H b 4 (.U C)/\ite (C==5) (ite (j==0) (∃D,Cc H B 1 (.I D)/\ite (D==4) (ite (q==0) (aH t λa=> ∃E,aU H (a.add 7)=some (.I E)/\ite (E==1) (ite (u==18) (ite (w==6) (ite (y==1) (ite (z==18) (aH t λF=> ∃T,aU H (F.add 6)=some (.U T)/\R (.B (T==9)) H) (R (.B false) H)) (R (.B false) H)) (R (.B false) H)) (R (.B false) H)) (R (.B false) H)) (R (.B false) H)) (R (.B false) H)) (R (.B false) H)) (R (.B false) H)) (R (.B false) H))) (λJ=>ite (g !=0) (J true d) (J t.isNone d))):Cl 7 #[] h R:=aP [(6,.join [(25,sB)])] hv

end
section
namespace Jk
open ju (Ev cY)
open dV (SS Good Pt oF Mk Bk)
open Go.Proofs.YtelbcloplcdchaaGreatDoor.Ask (En ij y0 ji JG)
open Bn (nT mj ku jC BB jx Xu)
variable {V:cQ→Bool} {h H f g:aA} {R:fp} {s k bo c C:Nat} {X x:Ft} {I:oF} {a:SS} {p q:bZ} {D:Nat→Prop} {b:nT} {d:cQ} {i:List BB}
abbrev W9(b:nT)(q:bZ)(C s:Nat)(p:bZ)(n c:Nat):cb.S:=⟨b.p.fl,b.p.sum,b.p.dest.jY,b.p.dest.node,b.p.dest.fK,b.p.dest.host,b.p.dest.jl,b.p.rep.jY,b.p.rep.node,b.p.rep.fK,b.p.rep.host,b.p.rep.jl,b.p.id.e.jY,b.p.id.e.node,b.p.id.e.fK,b.p.id.e.host,b.p.id.e.jl,b.p.id.tm,b.p.id.sq,b.p.gT,q,b.bl.length,C,some ⟨s,0,none⟩,p,n,c⟩
theorem P3(h:mj V d=.ok b):(ku V b).isSome=true/\d.length<=1200:=by
 unfold mj at h;split at h
 case isFalse=>cases h
 rename_i e;refine⟨?_,e⟩;repeat grind
theorem JF(E:En V f h s X I a k)(o:Int)(r:Row h p (bc d))(G:d.length<=1200)(A: ∀H x,Pt H s x I { a with A:=eM.Fx a.A o d } ->bp X h x H->R (.I (if eM.H0 a.A o d=0 then 1 else 0)) H):
  Cl 202 #[(W9 b q C s p d.length c).agg,.I o] h R:=by
 refine rM (cb.cV λB y w j F=> ?_);have e:=E.on F;have⟨Z,n,M,L,go⟩:=e.H.use 0;refine⟨_,ai j,ar.2 ⟨_,ai e.H.cN,_,_,_,ai j,eM.JF n E.G.a (r.frame F bC) rfl ae λl z T s2=> ?_⟩⟩;have⟨u,t,S,_,_⟩:=go l z { a with A:=eM.Fx a.A o d } T s2 (λJ m=>dV.wC _ m);have K:=bp.no F S;refine⟨_,rfl,JG S.fr (b:=B) (E.nM ae) bt,?_⟩;by_cases v:eM.H0 a.A o d=0;grind;grind
def Xa{B n:Nat}{K:ak.S->Prop}(e:cb.fR h B (W9 b q C s p n c))(j:K (b.s q C)):ak.cJ h (AA B 0) K:=
 ⟨_,ai e,_,ai e,_,ai e,_,ai e,_,ai e,_,ai e,_,ai e,_,ai e,_,ai e,_,ai e,_,ai e,_,ai e,_,ai e,_,ai e,_,ai e,_,ai e,_,ai e,_,ai e,_,ai e,_,ai e,_,_,_,ai e,j⟩
def SG(b:nT)(n:Nat):(mI V b n).1<=2199023255552:=by
 unfold mI;split;rename_i j;unfold Nj at j;split at j;rename_i m;have⟨o,l⟩:=dL.1 m;have e:=Ask.yX l;have pr:b.p.gT<=1099511627776/\b.p.id.tm<=1099511627776:=by unfold Bn.nR Bn.iJ at e;simp only[aZ,bn]at e;exact⟨e.2,e.1.2.1.2⟩
 unfold Ol;split<;>omega;cases j;omega
theorem UC(E:En V f h s X I a k)(m':b.p.wf)(B:jC h D b.bl q b.bl.length C i)(hl:b.bl.length<=8)(hd: ∀z∈b.bl,z.data.length<=200)(k':Row h p (bc d))(ld:d.length<=1200)(t':d≠ []->∀Q,p=some Q->¬X.M Q.block)(m:aj.fR h bo (y0 0))(nb: ¬(X.M bo\/X.D bo))(j: ∀H x,Pt H s x I (x5 V a b d).σ->ij X h bo 0 (x5 V a b d) x H->R (.I (x5 V a b d).e) H):
  Cl 137 #[(W9 b q C s p d.length c).agg,.P bo 0] h R:=by
 refine rN (cb.cV (x:=W9 b q C s p d.length c) λJ h1 eb a' f1=>aB.of λn' hJ=> ?_);have E1:=E.on f1;have A: ¬X.M bo:=λe=>nb (.inl e);have zo:=aD m;have y':=E.hk;have sm:=E.G.small E.H.ord ae;have j': ¬X.M J:=E.nM ae;have A': ¬X.D J:=λhm=>by have:=E.H.lt J (.inr hm);omega
 have key: ∀(g:aA)(L:Nat),h1.size<=L->fE.Rg.at g L ((fE.jB a.G b.p.dest).getD .zero)->Fr No h1 g->n' (Sa L 0) (fE.jB a.G b.p.dest).isSome g:=by
  intro g L zr hr fg;subst hJ;dsimp only;unfold x5 at j;cases hf:fE.jB a.G b.p.dest with
  |none=>rw[hf]at j;rw[ag (by rfl)];have F:=f1.tt fg;exact j g X (E.H.on F) (ij.bad m A (bp.iw F))
  |some r=>
   rw[hf]at j hr;rw[af bt];dsimp only at j;have F:=f1.tt fg;have Eg:=E.on F;have hr:fE.Rg.at g L r:=hr;have ug:=Eg.u.fr;refine Xa (fg.get a' id) (wx m' E.U ug Eg.Un (B.on F) ae (λz l=>bN (hd z l)) λh2 rr e he f2=>aM.ex rr ⟨_,rfl,aM.gw (x:=rr) λb4 h4 w' x' t=> ?_⟩);have c':=f2.tt t;have v:=F.tt c';have G:=E.on v;have O:=c'.get (fg.get a' id) id;have g':=c'.get hr id;have i':=v.get m id;by_cases T:FX V b=true;rw[ag T]at j;have e0:=he.2 T;subst e0;rw[ag (by rfl)];refine cb.fX (x:=W9 b q C s p d.length c) O (ar.2 ⟨_,ai g',JF G r.own (k'.frame v bC) ld λh5 X5 H5 l'=>⟨_,rfl,?_⟩⟩);have S:=bp.no v l';refine ji (z:=⟨0,0,0,if eM.H0 a.A r.own d=0 then 1 else 0,0,none,0,0⟩) (l'.fr.get i' A) cW rfl λh6 d6 f6=> ?_;exact j h6 X5 (H5.frame f6 (λy m e=>Ask.tF S nb zo y m e)) (ij.num (st1:=S) 0 _ f6 d6);rw[af T]at j;have e0: ¬e=0:=λe=>T (he.1 e);rw[af (dH e0)];refine Xa O ⟨_,ai O,ar.2 ⟨_,ai G.H.cN,_,ai O,ar.2 ⟨_,ai G.H.cN,Uy a.now E.G.n m' E.U G.u.fr G.Un (B.on v) ae (λz l=>bN (hd z l)) λh8 M=>⟨_,_,rfl,M.kp,aB.of λJ1 s'=> ?_⟩⟩⟩⟩;have w:=v.tt M;have n:=E.on w;have P:=M.get O id;have h':=M.get g' id;have u':=M.get i' id;have ll:=SG (V:=V) b a.now;have v': ∀e',(e'=true↔(r.lS=2/\eM.VU a.A r.own=false))->J1 e' h8:=by
    intro e' hv;subst s';dsimp only;by_cases u:r.lS=2/\eM.VU a.A r.own=false;rw[ag u]at j;rw[ag (hv.2 u)];exact j h8 X n.H (ij.bad m A (bp.iw w));rw[af u]at j;rw[af (λe=>u (hv.1 e))];by_cases U:(mI V b a.now).2=0
    case neg=>rw[ag U]at j;rw[ag (dH U)];exact j h8 X n.H (ij.bad m A (bp.iw w))
    rw[af (λe=>e U)]at j;rw[af (dH U)];by_cases c4:(mI V b a.now).1=0;rw[ag c4]at j;rw[ag (by rw[c4];rfl)];exact j h8 X n.H (ij.bad m A (bp.iw w));rw[af c4]at j;rw[af (by simp only[dQ];omega)];have wl:IntKind.wrap .u64 ((a.now:Int)+((mI V b a.now).1:Int))=(a.now:Int)+((mI V b a.now).1:Int):=wrap_u64 ae (bN E.G.n);obtain⟨Z,l,zm,zd,go⟩:=n.H.use 2;refine⟨_,ai P,ar.2 ⟨_,ai n.H.cN,jx b.p.dest P rfl rfl rfl rfl rfl ⟨_,_,_,ai P,_,ai P,ar.2 ⟨_,ai n.H.cN,gi.BK l sm (λz l=>(E.G.c.ok.bd z l).2.1) (bN E.G.c.ok.zj) b.p.dest (d:=d) (min (a.now+(mI V b a.now).1) 1099511627776) (by rw[wl];split<;>omega) (k'.frame w bC) rfl (λhd Q ea hm=>t' hd Q ea (zm _ hm)) λh9 Z9 C9 s9=>⟨_,_,rfl,?_⟩⟩⟩⟩⟩;obtain⟨X9,H9,b',_,_⟩:=go h9 Z9 { a with C:=gi.mq a.C b.p.dest d (min (a.now+(mI V b a.now).1) 1099511627776) } C9 s9 (λz' hi=>dV.BQ _ hi);have S:=bp.no w b';refine⟨λq' hq B' e hx=> ?_,ji (z:=⟨0,0,gi.Fz a.C b.p.dest d (min (a.now+(mI V b a.now).1) 1099511627776),0,0,none,0,0⟩) (b'.fr.get u' A) cW rfl λr' o' f'=> ?_⟩;simp only[bG,gX,or_false]at hq;rcases hq with rfl|rfl|rfl;cases e;exact H9.cN.trans n.H.cN.symm;cases e;exact b'.fr.2 J hx j';cases e;exact b'.fr.2 J hx j';exact j r' X9 (H9.frame f' (λy m e=>Ask.tF S nb zo y m e)) (ij.num (st1:=S) _ 0 f' o')
   refine ar.2 ⟨_,ai h',?_⟩;by_cases u:r.lS=2;rw[ag (by rw[u];rfl)];obtain⟨Z,l,_⟩:=n.H.use 0;exact⟨_,ai P,ar.2 ⟨_,ai n.H.cN,ar.2 ⟨_,ai h',eM.K8 l E.G.a ⟨_,rfl,(Fr.refl _ _).kp,v' _ (by simp[u])⟩⟩⟩⟩;grind
 obtain⟨Z,l,_⟩:=E1.H.use 1;refine⟨_,ai a',ar.2 ⟨_,ai E1.H.cN,jx b.p.dest a' rfl rfl rfl rfl rfl ⟨?_,?_,trivial⟩⟩⟩;exact fE.iN l b.p.dest λh3 o=>⟨_,_,_,_,_,_,_,_,rfl,o.kp,bg.box λK h4 p' d' t=>⟨t.kp,bg.set d' λh5 a1 a2 a3=>key h5 K (bN o.1) a1 ((o.tt t).fresh (Fr.of_eq (S:=λy=>y=K) a2 a3) (λy e=>bN o.1))⟩⟩;refine bg.box λK h4 p' d' t=>⟨t.kp,fE.iN (fE.Tb.on l t) b.p.dest λh3 o=>⟨_,_,_,_,_,_,_,_,rfl,o.kp,bg.set (o.get d' _root_.id) λh5 a1 a2 a3=>key h5 K ae a1 ((t.tt o).fresh (Fr.of_eq (S:=λy=>y=K) a2 a3) (λy e=>ae))⟩⟩
def ij.Xb{o n:Ask.Ot}{l m:Ft}{G:aA}(O:ij X h bo 0 o l g)(S:bp l g m G)(r: ¬n.e=0)(w: ¬X.M bo)(Z:bo<h.size):ij X h bo 0 n m G:=by have z:=O.fr.1;refine⟨O.fr.trans S.fr bC (λc j u=> .inl ((O.iA c u).resolve_right ae)),λc j=> ?_,λc j=> ?_,λc j=>S.nP c (O.nP c j),?_⟩;rcases S.iA c j with A|A;exact O.iA c A;omega;rcases S.jF c j with A|A;exact O.jF c A;right;omega;have⟨y,v,_⟩:=O.at';exact⟨y,S.fr.get v (λt=>(O.iA bo t).elim w (λA=>ae)),λe=>absurd e r⟩
theorem Qa(E:En V f h s X I a k)(g':k+2<=30000)(S:Row h p (bc d))(cap:d.length<=c)(e':d≠ []->∀G,p=some G->¬X.M G.block)(A:aj.fR h bo (y0 0))(Q: ¬(X.M bo\/X.D bo))(l: ∀H x,Pt H s x I (xR V a d).σ->ij X h bo 0 (xR V a d) x H->R (.I (xR V a d).e) H):
  Cl 94 #[pt s,.L p d.length c,.P bo 0] h R:=by
 have P:=λe=>Q (.inl e);have zo:=aD A;have fin: ∀(o:Ask.Ot) g t,xR V a d=JL o->o.σ.rf<=40000->Pt g s t I o.σ->ij X h bo 0 o t g->(aB (λ(g5)=>R (.I o.e) g5) λr=>if(o.e !=0)=true then∃T,aU g (AA s 7)=some (.I T)/\aO g (AA s 7) (.I (IntKind.wrap .i64 (T+1))) λg6=>r g6 else r g):=by intro o g t z hr n a';refine aB.of λr c'=> ?_;rw[z]at l;unfold JL at l;by_cases K:o.e=0;grind;rw[ag K]at l;rw[ag (by grind)];refine⟨_,ai n.cN,?_⟩;rw[show((o.σ.rf:Nat))+1=((o.σ.rf+1):Int) by omega,fc];refine bf n.cN bt λg2 a1 a2 a3=> ?_;have⟨X2,U,f'⟩:=n.put a1 a2 a3;subst c';exact l g2 X2 U (ij.Xb a' f' K P zo)
 refine yZ (Bn.DJ E.U E.u.fr E.Un S rfl cap (λb M w hd hl h1 q C i B v=>ak.ex (b.s q C) ⟨_,rfl,ak.gw λb2 L b' O j=>aB.of λJ y=> ?_⟩) (λe z hn h1 v=>ak.ex .z ⟨_,rfl,ak.gw λb2 L b' O j=>aB.of λJ y=> ?_⟩));have F:=v.tt j;have m:=E.on F;have d':=P3 M;have u:xR V a d=JL (x5 V a b d):=by unfold xR;rw[M]
 rw[ag (by rfl)];refine ak.fX O (UC m w (B.frame j bC) hl hd (S.frame F bC) d'.2 e' (F.get A id) Q λh3 X3 Z O3=>⟨_,rfl,?_⟩);subst y;refine fin _ h3 X3 u ?_ Z (Ask.ij.no F O3);have:=(Good.WY (V:=V) (data:=d) E.G E.H.ord E.hk w.1).r;omega;have F:=v.tt j;have m:=E.on F;have u:xR V a d=JL (Ask.bad a e):=by unfold xR;rw[z]
 rw[af (by grind)];subst y;refine fin (Ask.bad a e) L X u (by have:=E.G.r;show a.rf<=_;omega) m.H (ij.bad A P (bp.iw F))

end Jk
end
section
namespace Ask
open ju (Ev cY)
open dV (SS Good)
open Go.fv (RD)
abbrev Nl:Ev:=⟨true,7,0,⟨#[]⟩,⟨#[]⟩⟩
abbrev Xc:Ev:=⟨true,7,1,⟨#[]⟩,⟨#[]⟩⟩
def q1:Rq:=⟨1,1,Xc,.zero,0,0,0, [],0,0,false⟩
def q2(n:Nat)(id:Nat):Rq:=⟨id,7,Xc,.zero,0,0,(n:Int), [],0,0,false⟩
def q3(id:Nat)(k:Int):Rq:=⟨id,k,.zero,.zero,0,1,0, [],0,0,false⟩
def q4:Rq:=⟨2,4,Xc,Xc,0,0,0, [120],9,0,false⟩
def q6:Rq:=⟨2,6,Xc,.zero,0,0,0, [],0,0,false⟩

end Ask
end
section
namespace Ask
open ju (Ev cY mh)
open dV (SS Good Pt oF Mk Bk)
open Go.fv (RD)
variable {V:cQ→Bool} {h a b h1:aA} {R:fp} {s c:Nat} {X x:Ft} {I:oF} {p:bZ} {L:List (Nat × aj.S)}
variable {d:cQ}
def xm(e: iG h R (mh Nl)):Cl 5 #[] h R:=Dw (av.gw λ_ h1 _ H f=>av.fX H (e h1 f))
def CX:dV.Nh Nl:=⟨cZ,λe=>by cases bV Ev.jY e⟩
def Bx(h:aA)(X:Ft)(L:List (Nat×aj.S)):Prop:= ∀e∈L,aj.fR h e.1 e.2/\¬X.M e.1
def Bx.step(B:Bx h X L)(S:bp X h x a):Bx a x L:=λe H=>⟨S.fr.get (B e H).1 (B e H).2,λf=>by rcases S.iA _ f with A|A;exact(B e H).2 A;have:=aD (B e H).1;omega⟩
def Bx.on(B:Bx h X L)(f:Fr No h a):Bx a X L:=λe H=>⟨f.get (B e H).1 id,(B e H).2⟩
def Rw(h:aA)(X:Ft)(p:bZ)(d:cQ):Prop:=Row h p (bc d)/\(d≠ []->∀z,aL p z->¬X.M z)
def Rw.step(B:Rw h X p d)(S:bp X h x a):Rw a x p d:=by by_cases H:d= [];subst H;exact⟨Row.nil,λe=>absurd rfl e⟩;refine⟨B.1.frame S.fr (λA E i=>B.2 H A.block ⟨A,E,rfl⟩ i),λ_ z f g=> ?_⟩;rcases S.iA z g with A|A;exact B.2 H z f A;have:=jd B.1 (by simpa[bc]using H) f;omega
def Rw.on(B:Rw h X p d)(f:Fr No h a):Rw a X p d:=⟨B.1.frame f bC,B.2⟩
def Bx.nth{e:Nat}{y:aj.S}(B:Bx h X L)(i:Nat)(H:L[i]? =some (e,y)):aj.fR h e y:=(B _ (aG H)).1
def En.Nn(U:Cb.mG V b)(mx:jS.Mx b)(f:Fr No b h1)(H:Pt h s X I (dV.GS Nl))(u:xX h1 X h):En V b h s X I (dV.GS Nl) 0:=
 ⟨H,dV.Good.new CX.1 CX.2 cW,ae,⟨f.tt u.fr,λc e=>cD f.1 (u.ge c e)⟩,U,mx⟩

end Ask
end
section
namespace Jk
open dV (SS Good Pt oF Mk Bk)
open Go.Proofs.YtelbcloplcdchaaGreatDoor.Ask (En ij y0 ji JG rS Rw tF)
open Go.fv (RD)
variable {V:cQ→Bool} {h H i f g:aA} {R:fp} {s k B c d:Nat} {X b:Ft} {I:oF} {a:SS} {p q:bZ} {x:xE} {o:Hq}
variable {D:cQ}
structure Np (X:Ft) (h:aA) (B:Nat) (o:Hq) (b:Ft) (H:aA):Prop where
 fr:Fr (λy=>X.M y\/y=B) h H
 iA: ∀c,b.M c->X.M c\/h.size<=c
 jF: ∀c,b.D c->X.D c\/h.size<=c
 nP: ∀c,X.D c->b.D c
 at': ∃y,aj.fR H B y/\(o.e=0->∃p c,y=rS o.y p c/\Row H p (bc o.y.b)/\(o.y.b≠ []->∀z,aL p z->(h.size<=z\/b.D z)/\¬b.M z))
def Np.of(S:bp X h b f)(F:Fr (λy=>y=B) f H)(at': ∃y,aj.fR H B y/\(o.e=0->∃p c,y=rS o.y p c/\Row H p (bc o.y.b)/\(o.y.b≠ []->∀z,aL p z->(h.size<=z\/b.D z)/\¬b.M z))):Np X h B o b H:=
 ⟨S.fr.trans F (λ_ _ A=> .inl A) (λ_ _ e=> .inr e),S.iA,S.jF,S.nP,at'⟩
def Np.nil{y:RD}{e:Int}(S:bp X h b f)(F:Fr (λy=>y=B) f H)(l:aj.fR H B (rS y none 0))(j:y.b= []):Np X h B ⟨a,e,y⟩ b H:=
 Np.of S F ⟨_,l,λ_=>⟨none,0,rfl,by rw[show(⟨a,e,y⟩:Hq).y.b= []from j];exact Row.nil,λe=>absurd j e⟩⟩
def UD{e:Bn.nT}:(x5 V a e D).d= []:=by
 unfold x5;split;rfl;split
 rfl;split
 rfl;split
 rfl;split<;>rfl
def Wb :(xR V a D).d= []:=by
 unfold xR JL;split;split<;>rfl
 split<;>exact UD
theorem SH{d:cQ}{y:aj.S}(r:Row h q (bc d))(n:aj.fR h B y)(m:d≠ [])(A:Addr)(E:q=some A):A.block≠B:=by intro l;subst E;obtain⟨x,t,rfl⟩:=List.exists_cons_of_ne_nil m;have e:=r.cell (j:=0) rfl;unfold aU at e;rw[show(A.add 0).block=B from l,n]at e;dsimp only at e;split at e;cases e;generalize (A.add 0).off=j at e;rcases j with _|_|_|_|_|_|j;grind;grind;grind;grind;simp_all;simp_all;simp_all
theorem Qb(E:En V i h s X I a k)(t':k+2<=30000)(x:xE)(rx:Row h p (bc x.kO.nL))(cx:x.kO.nL.length<=c)(dx:Rw h X q x.data)(cd:x.data.length<=d)(w1:0<=x.kO.ep.fK)(w2:0<=x.kO.dest.fK)(j:aj.fR h B (y0 0))(P: ¬(X.M B\/X.D B))(hk: ∀H b,Pt H s b I (jk V a x).σ->Np X h B (jk V a x) b H->R (.I (jk V a x).e) H):
  Cl 51 #[pt s,(x.s p c q d).agg,.P B 0] h R:=by
 refine y7 (aR.cV λj' f eb C l=>⟨_,ai C,aB.of λr' hJ=>aB.of λJ1 s'=> ?_⟩);have z:=E.on l;have M:=λe=>P (.inl e);have zo:=aD j;have J:=l.get j id;have h': ¬X.M j':=E.nM ae;have F: ∀g b,Pt g s b I (jk V a x).σ->Np X h B (jk V a x) b g->J1 (jk V a x).e g:=by grind
 unfold jk at F;by_cases k1:x.kind=1;rw[ag k1]at F;rw[ag (Ask.bq.2 k1)];have⟨Z,A,zm,zd,go⟩:=z.H.use 0;refine⟨_,ai z.H.cN,_,ai C,eM.Ac x.token rfl A E.G.a λu K T s2=> ?_⟩;have⟨w,r,S,_,_⟩:=go u K { a with A:=eM.wv a.A x.token } T s2 (λe' G=>dV.wC _ G);have n:=bp.no l S;refine⟨_,_,rfl,ji (z:=⟨0,0,eM.Fw a.A x.token,0,0,none,0,0⟩) (S.fr.get J M) cW rfl λh3 d3 m=>⟨_,ai (m.get (S.fr.get C h') ae),ji (z:=⟨0,0,eM.Fw a.A x.token,0,x.token,none,0,0⟩) d3 cW rfl λh4 L t=> ?_⟩⟩;exact F h4 w (r.frame (m.tt t) (λy j e=>tF n P zo y j e)) (Np.nil n (m.tt t) L rfl);rw[af k1]at F;rw[af (λe=>k1 (Ask.bq.1 e))];refine aB.of λJ2 l'=> ?_;have e2:J2=J1:=l';subst e2;by_cases k2:x.kind=2;rw[ag k2]at F;rw[ag (Ask.bq.2 k2)];have⟨Z,A,zm,zd,go⟩:=z.H.use 0;refine⟨_,ai z.H.cN,_,ai C,eM.Px x.token rfl A E.G.a λu K T s2=> ?_⟩;have⟨w,r,S,_,_⟩:=go u K { a with A:=eM.Pw a.A x.token } T s2 (λe' G=>dV.wC _ G);have n:=bp.no l S;refine⟨_,_,rfl,ji (z:=⟨0,0,eM.R3 a.A x.token,0,0,none,0,0⟩) (S.fr.get J M) cW rfl λh3 d3 m=>⟨_,ai (m.get (S.fr.get C h') ae),ji (z:=⟨0,0,eM.R3 a.A x.token,0,x.token,none,0,0⟩) d3 cW rfl λh4 L t=> ?_⟩⟩;exact F h4 w (r.frame (m.tt t) (λy j e=>tF n P zo y j e)) (Np.nil n (m.tt t) L rfl);rw[af k2]at F;rw[af (λe=>k2 (Ask.bq.1 e))];refine aB.of λJ3 m'=> ?_;have e3:J3=J2:=m';subst e3;by_cases k3:x.kind=3;rw[ag k3]at F;rw[ag (Ask.bq.2 k3)];have⟨Z,A,zm,zd,go⟩:=z.H.use 0;refine⟨_,ai z.H.cN,_,ai C,eM.Jn A E.G.a λu K T s2=> ?_⟩;have⟨w,r,S,_,_⟩:=go u K { a with A:=eM.HZ a.A x.ses } T s2 (λe' G=>dV.wC _ G);have n:=bp.no l S;exact⟨_,rfl,F u w r (Np.nil n (Fr.refl _ _) (S.fr.get J M) rfl)⟩;rw[af k3]at F;rw[af (λe=>k3 (Ask.bq.1 e))];refine aB.of λJ4 n'=> ?_;have e4:=n';subst e4;by_cases k4:x.kind=4;rw[ag k4]at F;rw[ag (Ask.bq.2 k4)];refine⟨_,ai C,Pm C (Ask.Wa z ae w1 w2 (rx.frame l bC) cx λu w q2 d2 r S i' g'=>aj.ex (rS (Ask.Lx V a x.ses x.kO).2 q2 d2) ⟨rfl,aj.iB (S.fr.get J M) λh3 d3 m _=> ?_⟩)⟩;have n:=bp.no l S;have d':=m;refine F h3 w (r.frame d' (λy j e=>tF n P zo y j e)) (Np.of n d' ⟨_,d3,λ_=>⟨q2,d2,rfl,?_,λhd y j=>⟨(g' hd y j).1.imp (λQ=>cD l.1 Q) id,(g' hd y j).2⟩⟩⟩);by_cases hd:(Ask.Lx V a x.ses x.kO).2.b= [];rw[hd];exact Row.nil;exact i'.frame d' (λQ ea e=>SH i' (S.fr.get J M) hd Q ea e);rw[af k4]at F;rw[af (λe=>k4 (Ask.bq.1 e))];refine aB.of λJ5 o'=> ?_;have e5:=o';subst e5;by_cases k5:x.kind=5;rw[ag k5]at F;rw[ag (Ask.bq.2 k5)];refine⟨_,_,_,ai C,Qa z ae (dx.1.frame l bC) cd (λb' Q ea=>dx.2 b' Q.block ⟨Q,ea,rfl⟩) J P λu w r O2=>⟨_,rfl,?_⟩⟩;have O:=Ask.ij.no l O2;refine F u w r ⟨O.fr,O.iA,O.jF,O.nP,?_⟩;have⟨y,j,hx⟩:=O.at';refine⟨y,j,λhe=> ?_⟩;have⟨p2,c2,ey,r2,_⟩:=hx he;rw[Wb]at ey r2;exact⟨p2,c2,ey,r2,λe=>absurd rfl e⟩;rw[af k5]at F;rw[af (λe=>k5 (Ask.bq.1 e))];refine aB.of λJ6 p'=> ?_;have e6:=p';subst e6;by_cases k6:x.kind=6;rw[ag k6]at F;rw[ag (Ask.bq.2 k6)];refine dV.Ap z.H E.G ae (λhn u f2=>aF.ex .z ⟨_,rfl,aF.gw λb2 h3 k' a' m=> ?_⟩) (λc' u' G u w v ev r S vk=>aF.ex ⟨v.num,v.owner,v.v.p,v.v.b.length,v.v.c,v.dB⟩ ⟨_,rfl,aF.gw (x:=⟨v.num,v.owner,v.v.p,v.v.b.length,v.v.c,v.dB⟩) λb2 h3 k' a' m=> ?_⟩);rw[hn]at F;have F3:=l.tt (f2.tt m);have z1:=(l.tt f2).1;refine⟨_,ai a',_,_,_,ai a',ji (z:=⟨0,0,0,0,0,none,0,0⟩) (F3.get j id) cW rfl λh4 L t=>⟨JG t (b:=b2) ae bt,ji (z:=⟨0,0,0,0,0,none,0,0⟩) L cW rfl λh5 d5 U=> ?_⟩⟩;exact F h5 X ((E.H.on F3).frame (t.tt U) (λy j e=>P (e▸j))) (Np.nil (y:=RD.zero) (bp.iw F3) (t.tt U) d5 rfl);rw[G]at F;have n:=bp.no l S;have z1:=l.1;have z2:=S.fr.1;have nx:=tF n P zo;refine⟨_,ai a',_,_,_,ai a',ji (z:=⟨0,0,v.num,0,0,none,0,0⟩) (m.get (S.fr.get J M) id) cW rfl λh4 L t=>⟨JG t (b:=b2) ae bt,ji (z:=⟨0,0,v.num,0,0,v.v.p,v.v.b.length,v.v.c⟩) L cW rfl λh5 d5 U=> ?_⟩⟩;have q':=vk.frame (m.no (t.tt U)) (λy j e=>nx y (.inr j) e);subst ev;refine F h5 w ((r.on m).frame (t.tt U) nx) (Np.of (n.on m) (t.tt U) ⟨_,d5,λ_=>⟨v.v.p,v.v.c,rfl,q'.row,λb' c' A=>⟨.inr (vk.own b' c' A),λhm=>r.xY c' hm (vk.own b' c' A)⟩⟩⟩);rw[af k6]at F;rw[af (λe=>k6 (Ask.bq.1 e))];refine aB.of λJ7 f'=> ?_;by_cases k8:x.kind=8;rw[ag k8]at F;rw[ag (Ask.bq.2 k8)];obtain⟨Z,A,zm,zd,go⟩:=z.H.use 0;refine⟨_,ai z.H.cN,eM.MT A E.G.a λu K T s2=> ?_⟩;obtain⟨w,r,S,_,_⟩:=go u K { a with A:=eM.pk a.A } T s2 (λe' G=>dV.wC _ G);have n:=bp.no l S;subst f';exact⟨rfl,F u w r (Np.nil (y:=RD.zero) n (Fr.refl _ _) (S.fr.get J M) rfl)⟩;rw[af k8]at F;rw[af (λe=>k8 (Ask.bq.1 e))];subst f';exact F f X z.H (Np.nil (y:=RD.zero) (bp.iw l) (Fr.refl _ _) J rfl)

end Jk
end
section
namespace Jk
open dV (SS Good Pt oF Mk Bk)
open Go.Proofs.YtelbcloplcdchaaGreatDoor.Ask (En ij y0 ji JG rS Rw tF CW rH)
open Go.fv (RD)
variable {V:cQ→Bool} {h H f i g:aA} {R:fp} {s k c d:Nat} {X b:Ft} {I:oF} {a:SS} {p q:bZ} {x:xE}
def _root_.Go.Proofs.YtelbcloplcdchaaGreatDoor.Ask.Rw.nil :Rw h X none []:=⟨Row.nil,λe=>absurd rfl e⟩
def SI{n r:Nat}(B:Bk h s I n r)(e:R (.B true) h):Cl 48 #[pt s] h R:=by refine Ch ?_;repeat (first|exact e|refine⟨_,ai B,?_⟩|rw[ag rfl])
def Good.apply(G:dV.Good a k)(O:gi.Ord a.C)(Op:gi.Ord (dV.CT a x.now).C)(L:List Go.jD.E)(t:gI.okB a.B L)(n:k+1<=30000)(r: ∀B,Bn.mj V x.data=.ok B->0<=B.p.dest.fK)(o:0<=x.kO.ep.fK):dV.Good (gj V a x).σ (k+3):=by
 have j:=dV.Good.pass G O L t ae x.now;have m:=dV.Good.more (dV.Good.more (dV.Good.more G));unfold gj;split;split
 rename_i l;have e:dV.CT a x.now=dV.tZ a x.now:=ag l;rw[e]at j Op;have:=Good.V8 (V:=V) (x:=x) j Op n r o;split<;>exact this;exact m;exact m
def SJ{t:Cb.Tr}{p:Bn.Prim}(h:Bn.xZ V t=.ok p):p.wf:=by
 unfold Bn.xZ at h;split at h;cases h;split at h
 split at h
 rename_i d r m e l j;split at h;split at h
 cases h;exact⟨(Bn.Aa e).1,(Bn.Aa l).1,Bn.yz j⟩;cases h;cases h;cases h;cases h
def UE{D:cQ}{B:Bn.nT}(h:Bn.mj V D=.ok B):B.p.wf:=by
 unfold Bn.mj at h;split at h
 case isFalse=>cases h
 split at h
 cases h;split at h
 case isFalse=>cases h
 split at h
 cases h;rename_i p e;split at h;cases h;split at h
 cases h;exact SJ e;cases h
def Wc(h H:aA)(b:Ft)(p:bZ)(d:cQ):Prop:=Row H p (bc d)/\(d≠ []->∀z,aL p z->(h.size<=z\/b.D z)/\¬b.M z)
def Wc.nil:Wc h H b none []:=⟨Row.nil,λe=>absurd rfl e⟩
def Co(E:En V f h s X I a k)(d':k+3<=30000)(x:xE)(rx:Rw h X p x.kO.nL)(cx:x.kO.nL.length<=c)(dx:Rw h X q x.data)(cd:x.data.length<=d)(w1:0<=x.kO.ep.fK)(w2:0<=x.kO.dest.fK)(w: ∀H b Q D,En V f H s b I (gj V a x).σ (k+3)->bp X h b H->Wc h H b Q (gj V a x).y.b->R (.T #[(rS (gj V a x).y Q D).agg,.I (gj V a x).e]) H):
  Cl 10 #[pt s,(x.s p c q d).agg] h R:=by
 refine AG (aR.cV (x:=x.s p c q d) λf' i eb hb f1=>aj.cV (x:=.z) λB h2 s' a' f2=>SI ((f1.tt f2).get E.H.cN id) ⟨_,rfl,?_⟩);rw[dz];have K:=f1.tt f2;have z1:=f1.1;have z2:=f2.1;have E2:=E.on K;have c':=f2.get hb id;have u':=E.hk;obtain⟨L,ok⟩:=E.H.okB;have bad: ∀g (e:Int),Fr No h2 g->gj V a x=⟨a,e,RD.zero⟩->aj.dv g (AA B 0) aj.S.z λh4=>aj.cJ h4 (AA B 0) λr0=>R (.T #[r0.agg,.I e]) h4:=by intro g e n he;rw[he]at w;refine CW (n.get a' id) λG F=> ?_;have FF:=(K.tt n).fresh F (λy e=>ae);have Eg:=E.on FF;exact w G X none 0 ⟨Eg.H,dV.Good.more (dV.Good.more (dV.Good.more E.G)),d',Eg.u,Eg.U,Eg.mx⟩ (bp.iw FF) Wc.nil
 refine aR.fX (x:=x.s p c q d) c' (Po x E.U E2.u.fr E2.Un (rx.on K).1 (dx.on K).1 cd λh3 j=>⟨_,rfl,?_⟩);have M:=K.tt j;have E3:=E.on M;cases cr:DK V x with
 |false=>rw[gH];exact bad h3 3 j (by unfold gj;rw[cr];rfl)
 |true=>
 rw[dz];refine⟨_,ai (j.get c' id),dV.Aw x.now rfl E3.H E3.G ae λh4 t r S=>⟨_,rfl,?_⟩⟩;have nb: ¬X.M f':=E.nM ae;have e': ¬X.M B:=E.nM ae;have p':=S.fr.get (j.get c' id) nb;have h':=S.fr.get (j.get a' id) e';by_cases C:dV.tY a x.now=0
 case neg=>
  rw[ag (dH C)];have T:dV.CT a x.now=a:=af C;have eA:gj V a x=⟨a,dV.tY a x.now,RD.zero⟩:=by unfold gj;rw[ag cr,af C]
  rw[eA]at w;rw[T]at r;refine CW h' λG F=> ?_;have l:=bp.no M S;have z3:=l.fr.1;have nx: ∀y,t.M y\/t.D y->¬y=B:=λy o e=>by subst e;have lt:=aD (j.get a' id);rcases o with A|A;rcases S.iA _ A with A|A;exact e' A;omega;rcases S.jF _ A with A|A;have:=E.H.lt y (.inr A);omega;omega
  have l':bp X h t G:=⟨l.fr.trans F bC (λy o e=>ae),l.iA,l.jF,l.nP⟩;exact w G t none 0 (E.step (r.frame F nx) l' (dV.Good.more (dV.Good.more (dV.Good.more E.G))) d') l' Wc.nil
 rw[af (dH C)];have T:dV.CT a x.now=dV.tZ a x.now:=ag C;rw[T]at r;have G4:=dV.Good.pass E.G E.H.ord L ok ae x.now;rw[T]at G4;have l:=bp.no M S;have E4:=E.step r l G4 ae;have Gf:dV.Good (gj V a x).σ (k+3):=Good.apply E.G E.H.ord (by rw[T];exact r.ord) L ok ae (λf' hb=>(UE hb).1) w1;have v':=aD (j.get a' id);have z4:=S.fr.1;have z3:=j.1;have k': ¬t.M B:=λhm=>(S.iA _ hm).elim e' (λA=>ae);have o': ¬t.D B:=λhm=>(S.jF _ hm).elim (λA=>bN (E.H.lt B (.inr A))) (λA=>ae);refine aj.cV (x:=.z) λb2 h5 t' q' m=>aR.fX (x:=x.s p c q d) (m.get p' id) (Qb (E4.on m) ae x (((rx.on M).step S).on m).1 cx (((dx.on M).step S).on m) cd w1 w2 q' (λe=>bN (r.lt b2 e)) λh6 u H6 O=>⟨_,rfl,?_⟩);have z5:=m.1;have z6:=O.fr.1;have b':bp X h u h6:=by have z:=l.on m;have zz:=z.fr.1;refine⟨z.fr.trans O.fr bC (λc v hx=>hx.elim (λA=>(z.iA c A).resolve_right ae) (λe=>ae)),λc v=> ?_,λc v=> ?_,λc v=>O.nP c (z.nP c v)⟩;rcases O.iA c v with A|A;exact z.iA c A;right;omega;rcases O.jF c v with A|A;exact z.jF c A;right;omega
 have i':=O.fr.get (m.get h' id) (λe=>e.elim k' (λe=>ae));have r': ∀y,u.M y\/u.D y->¬y=B:=λy o e=>by subst e;rcases o with A|A;exact(O.iA _ A).elim k' (λA=>ae);exact(O.jF _ A).elim o' (λA=>ae)
 have j': ∀g J Q D,Fr No h6 g->gj V a x=⟨(jk V (dV.tZ a x.now) x).σ,0,J⟩->Wc h g u Q J.b->aj.dv g (AA B 0) (rS J Q D) λg'=>aj.cJ g' (AA B 0) λr0=>R (.T #[r0.agg,.I 0]) g':=by intro g J Q D n he Z;rw[he]at w Gf;refine CW (n.get i' id) λG F=> ?_;have m':bp X h u G:=⟨(b'.fr.on n).trans F bC (λy o e=>ae),b'.iA,b'.jF,b'.nP⟩;refine w G u Q D (E.step ((H6.on n).frame F r') m' Gf d') m' ?_;refine⟨?_,Z.2⟩;by_cases U:J.b= [];show Row G Q (bc J.b);rw[U];exact Row.nil;exact Z.1.frame F (λA ea e=>SH Z.1 (n.get i' id) U A ea e)
 by_cases P:(jk V (dV.tZ a x.now) x).e=0;rw[af (by rw[P];decide)];obtain⟨y,o,hx⟩:=O.at';obtain⟨Q,D,rfl,Z,hn⟩:=hx P;exact aj.fX o (j' h6 _ Q D (Fr.refl _ _) (by unfold gj;rw[ag cr,ag C,ag P]) ⟨Z,λU n' hz=>⟨(hn U n' hz).1.imp (λA=>ae) id,(hn U n' hz).2⟩⟩);rw[ag (dH P)];refine C4.oC 0 rfl _ λh7 f7=>aj.ex (rS (rH 0 (jk V (dV.tZ a x.now) x).e) none 0) ⟨rfl,?_⟩;exact j' h7 (rH 0 (jk V (dV.tZ a x.now) x).e) none 0 f7 (by unfold gj;rw[ag cr,ag C,af P]) Wc.nil
def SK(E:En V f h s X I a k)(n:k+3<=30000)(x:xE)(r:Rw h X p x.kO.nL)(j:x.kO.nL.length<=c)(l:Rw h X q x.data)(C:x.data.length<=d)(w:0<=x.kO.ep.fK)(t:0<=x.kO.dest.fK)(m: ∀H b Q D,En V f H s b I (gj V a x).σ (k+3)->bp X h b H->Rw H b Q (gj V a x).y.b->R (.T #[(rS (gj V a x).y Q D).agg,.I (gj V a x).e]) H):
  Cl 10 #[pt s,(x.s p c q d).agg] h R:=
 Co E n x r j l C w t λH b Q D A B c=>m H b Q D A B ⟨c.1,λe z o=>(c.2 e z o).2⟩
def Qc(x:xE)(n: iG h R (.T #[aj.S.z.agg,.I 6])):Cl 10 #[.Q none,(x.s p c q d).agg] h R:=by refine uW (aR.cV (x:=x.s p c q d) λB i E u j=>aj.cV (x:=.z) λo t r m l=>wP ⟨_,rfl,?_⟩);rw[gH];exact CW m λG F=>n G (j.tt (l.fresh F (λy e=>ae)))

end Jk
end
section
namespace Jk
open ju (Ev mh)
open dV (SS Good Pt oF Mk Bk)
open Go.Proofs.YtelbcloplcdchaaGreatDoor.Ask (En rS Rw Bx xm CX rH Nl)
open Bn (nT mj ku oX)
open Go.fv (RD)
variable {V:cQ→Bool} {h H b i g:aA} {R:fp} {s k c d:Nat} {X a:Ft} {I:oF} {f:SS} {p q:bZ} {x:xE} {L:List (Nat × aj.S)}
def LL{K:Int->Nat->dw}(E:En V b h s X I f k)(z:k+3<=30000)(x:xE)(J:Rw h X p x.kO.nL)(n:x.kO.nL.length<=c)(o:Rw h X q x.data)(C:x.data.length<=d)(M:0<=x.kO.ep.fK)(O:0<=x.kO.dest.fK)(B:Bx h X L)(w: ∀H a j Q D,En V b H s a I (gj V f x).σ (k+3)->Bx H a ((j,rS (gj V f x).y Q D)::L)->bp X h a H->K (gj V f x).e j H):
  Cl 10 #[pt s,(x.s p c q d).agg] h λv g=>aj.EX λt=> ∃e,v=.T #[t.agg,.I e]/\aW g (.C aj.S.z.arr 42) λj G=>aj.dv G (AA j 0) t λr=>K e j r:=by
 refine SK E z x J n o C M O λT m Q D l S U=>aj.ex (rS (gj V f x).y Q D) ⟨_,rfl,aj.gw (x:=rS (gj V f x).y Q D) λj u P y F=> ?_⟩;refine w u m j Q D (l.on F) (λe he=> ?_) (S.on F);rcases bG.1 he with rfl|he;exact⟨y,λA=>bN (l.H.lt j (.inl A))⟩;exact((B.step S).on F) e he
abbrev ev(n:Nat)(K:Int)(t:Nat)(D:cQ):xE:=⟨n,K,t,0,Rq.none,D⟩
def UF:Rw h X none []:=Ask.Rw.nil
def dX:cQ:= [159,136,7,0,0,130,1,0,130,1,0,130,1,0,130,0,0,0,133,1,1,0,0,65,120,255]
def Xd:nT:=⟨⟨0,0,.zero,.zero,⟨.zero,0,0⟩,0⟩, [⟨1,1,0,0, [120]⟩]⟩
def YL:ku V Xd=some dX:=cZ
def V0:kF:=λ_=>true
def s1:SS:=(gj V0 (dV.GS Ask.Nl) (ev 3 1 5 [])).σ
def s2:SS:=(gj V0 s1 (ev 4 5 0 dX)).σ
def s4:SS:=(gj V0 s2 (ev 9 8 0 [])).σ
def a1:gj V (dV.GS Ask.Nl) (ev 3 1 5 [])=⟨s1,0,⟨0,0,1,0,5, []⟩⟩:=cZ
def a2:gj V s1 (ev 4 5 0 dX)=⟨s2,0,rH 0 4⟩:=cZ
def a3:gj V s2 (ev 3 7 0 [])=⟨s2,18,RD.zero⟩:=cZ
def a4:gj V s2 (ev 9 8 0 [])=⟨s4,0,RD.zero⟩:=cZ
def a5:gj V s4 (ev 8 7 0 [])=⟨s4,18,RD.zero⟩:=cZ
def a6:s4.rf=1/\s4.now=9:=⟨cZ,cZ⟩
def SM(t: ∀H j,ay.fR H j (oX.s ⟨1,1,0,0, [120]⟩ p c)->Fr No h H->R (Xd.s (Sa j 0) 1).agg H):Cl 21 #[.L p 1 c] h R:=by refine Ci (ak.cV (x:=.z) λu i E n F=>ay.cV (x:=oX.s ⟨1,1,0,0, [120]⟩ p c) λB w v r l=>ak.iB (x:=Xd.s (Sa B 0) 1) (l.get n id) λo D m _=>ak.fX D ?_);have Z:=aD n;have z:=F.1;exact t o B (m.get r ae) ((F.tt l).fresh m (λy e=>ae))
def Wd{u:Nat}(E:En V b h s X I s2 k)(Q:k+6<=30000)(y:h[u]? =some (.C #[.U 9,.I 8,.U 0,.I 0,.U 0,.I 0,.B false,.U 0,.U 0,.S (⟨#[]⟩:cF),.S (⟨#[]⟩:cF),.B false,.U 0,.U 0,.S (⟨#[]⟩:cF),.S (⟨#[]⟩:cF),.I 0,.I 0,.I 0,.Z,.U 0,.U 0,.B false,.Z,.U 8,.I 7,.U 0,.I 0,.U 0,.I 0,.B false,.U 0,.U 0,.S (⟨#[]⟩:cF),.S (⟨#[]⟩:cF),.B false,.U 0,.U 0,.S (⟨#[]⟩:cF),.S (⟨#[]⟩:cF),.I 0,.I 0,.I 0,.Z,.U 0,.U 0,.B false,.Z] 36 (0,0)))(z: ¬X.M u)(B:Bx h X L)(P: ∀H a,En V b H s a I s4 (k+6)->Bx H a L->R (.T #[.I 1,.I 18]) H):Cl 22 #[pt s,.L (Sa u 0) 2 2] h R:=by
 refine y8 ⟨λt g=>(t=0/\∃a,En V b g s a I s2 k/\Bx g a L/\bp X h a g)\/(t=1/\∃a,En V b g s a I s4 (k+3)/\Bx g a L/\bp X h a g),λt _=>2 - t.toNat,.inl ⟨rfl,X,E,B,bp.refl _ _⟩,?_⟩;rintro t g (⟨rfl,C,o,m,S⟩|⟨rfl,C,o,m,S⟩);have j:=S.fr.get y z;rw[gH];refine⟨cW,ar.2 ⟨_,ai j,_,ai j,_,ai j,_,ai j,_,ai j,_,ai j,_,ai j,_,ai j,_,ai j,_,ai j,_,ai j,_,ai j,_,ai j,_,ai j,_,ai j,_,ai j,_,ai j,_,ai j,_,ai j,_,_,_,ai j,_,ai j,_,ai j,_,ai j,_,_,_,ai j,?_⟩⟩;refine aR.gw (x:=(ev 9 8 0 []).s none 0 none 0) λD O M v F=>aR.fX (x:=(ev 9 8 0 []).s none 0 none 0) v ?_;refine LL (x:=ev 9 8 0 []) (o.on F) ae UF (bu _) UF (bu _) cW cW (m.on F) λG r J q3 K l n A=> ?_;rw[a4]at l;rw[a4,dz];exact⟨.inr ⟨rfl,r,l,λe w=>n e (bQ _ w),(S.on F).trans A⟩,by show 2 - (IntKind.wrap .i64 (0+1)).toNat<2 - (0:Int).toNat;decide⟩;have j:=S.fr.get y z;rw[gH];refine⟨cW,ar.2 ⟨_,ai j,_,ai j,_,ai j,_,ai j,_,ai j,_,ai j,_,ai j,_,ai j,_,ai j,_,ai j,_,ai j,_,ai j,_,ai j,_,ai j,_,ai j,_,ai j,_,ai j,_,ai j,_,ai j,_,_,_,ai j,_,ai j,_,ai j,_,ai j,_,_,_,ai j,?_⟩⟩;refine aR.gw (x:=(ev 8 7 0 []).s none 0 none 0) λD O M v F=>aR.fX (x:=(ev 8 7 0 []).s none 0 none 0) v ?_;refine LL (x:=ev 8 7 0 []) (o.on F) ae UF (bu _) UF (bu _) cW cW (m.on F) λG r J q3 K l n A=> ?_;rw[a5]at l;rw[a5,gH];exact P G r l λe w=>n e (bQ _ w)
def SN(U:Cb.mG V b)(mx:jS.Mx b)(u:Fr No b h)(hk: iG h R (.B true)):Cl 7 #[] h R:=by refine Cn (xm λi f1=>av.ex Nl.s ⟨rfl,dV.gC Nl (λ_ h2 s X I H2 u2=>⟨_,_,rfl,aB.of λf' hJ=> ?_⟩) (λd'=>absurd CX d')⟩);have T:=Ask.En.Nn (U.mono u) (mx.on u) f1 H2 u2;rw[dz];subst hJ;dsimp only;rw[af bt];refine LL (x:=ev 3 1 5 []) (p:=none) (c:=0) (q:=none) (d:=0) T ae UF (bu _) UF (bu _) cW cW (L:= []) (λe he=>by cases he) λh3 X3 b3 q3 d3 r l m'=> ?_;rw[a1]at r l;rw[a1];dsimp only at r l⊢;refine gg.VH (bs:= [120]) rfl λh4 e' A=>SM λh5 b5 c' v=>ak.ex (Xd.s (Sa b5 0) 1) ⟨rfl,?_⟩;have E:=r.on (A.tt v);have P:=l.on (A.tt v);refine Bn.DI (b:=Xd) ⟨cW,cW,cW⟩ E.U E.u.fr E.Un (Ask.WX c' (e'.frame v bC) cW) cW (λh' hb=>by rw[bW.1 hb];decide) (λl' K hl h6 p6 c6 O n6 C=>⟨_,_,_,_,rfl,?_⟩) (λJ=>by rw[YL]at J;cases J);rw[YL]at K;cases K;have Z:=E.on C;have Q:=P.on C;refine LL (x:=ev 4 5 0 dX) (p:=none) (c:=0) (q:=p6) (d:=c6) Z ae UF (bu _) ⟨O.hT,λ_ z hz w=>gM (n6 z hz) (E.H.lt z (.inl w))⟩ O.le cW cW Q λh7 X7 b7 q7 d7 t m n'=> ?_;rw[a2]at t m;rw[a2];dsimp only at t m⊢;refine LL (x:=ev 3 7 0 []) (p:=none) (c:=0) (q:=none) (d:=0) t ae UF (bu _) UF (bu _) cW cW m λh8 X8 b8 q8 d8 j n o'=> ?_;rw[a3]at j n;rw[a3];dsimp only at j n⊢;refine Qc (p:=none) (c:=0) (q:=none) (d:=0) (ev 0 7 0 []) λh9 D=>aj.ex .z ⟨_,rfl,aj.gw (x:=.z) λi' G j' k' y=>cg ?_⟩;have a':Fr No G (G.push (.C #[.U 9,.I 8,.U 0,.I 0,.U 0,.I 0,.B false,.U 0,.U 0,.S (⟨#[]⟩:cF),.S (⟨#[]⟩:cF),.B false,.U 0,.U 0,.S (⟨#[]⟩:cF),.S (⟨#[]⟩:cF),.I 0,.I 0,.I 0,.Z,.U 0,.U 0,.B false,.Z,.U 8,.I 7,.U 0,.I 0,.U 0,.I 0,.B false,.U 0,.U 0,.S (⟨#[]⟩:cF),.S (⟨#[]⟩:cF),.B false,.U 0,.U 0,.S (⟨#[]⟩:cF),.S (⟨#[]⟩:cF),.I 0,.I 0,.I 0,.Z,.U 0,.U 0,.B false,.Z] 36)):=Fr.push _ _;have F:=(D.tt y).tt a';have S:=j.on F;have M:=n.on F;refine Wd S ae bR (λw=>gM (j.H.lt _ (.inl w)) ((D.tt y).1)) M λb' g' o B=>⟨_,_,rfl,?_⟩;refine⟨_,ai (B.nth 2 rfl),?_⟩;rw[ag (by rfl)];refine⟨_,ai (B.nth 2 rfl),?_⟩;rw[ag (by rfl),ag (by rfl)];refine⟨_,ai (B.nth 1 rfl),?_⟩;rw[ag (by rfl),ag (by rfl)];refine ar.2 ⟨_,ai o.H.cN,?_⟩;rw[ag (by rw[a6.1];rfl),ag (by rfl),ag (by rfl),ag (by rfl),ag (by rfl)];refine ar.2 ⟨_,ai o.H.cN,?_⟩;rw[a6.2];exact hk b' o.u.fr

end Jk
end
section
namespace Jk
open ju (Ev mh)
open dV (SS Good Pt oF Mk Bk)
open Go.Proofs.YtelbcloplcdchaaGreatDoor.Ask (En rS Rw Bx xm CX rH Nl)
open Go.fv (RD)
variable {h a H:aA} {R:fp} {s k c d:Nat} {p q:bZ} {x:xE} {L:List (Nat × aj.S)}
variable {v:Value}
structure EV where
 x:xE
 p:bZ
 c:Nat
 q:bZ
 d:Nat
abbrev EV.cs(f:EV):aR.S:=f.x.s f.p f.c f.q f.d
abbrev SO(f:EV):List Value:=f.cs.l
def LM(f:EV):(SO f).length=24:=rfl
structure EV.ok (h:aA) (f:EV):Prop where
 r1:Row h f.p (bc f.x.kO.nL)
 c1:f.x.kO.nL.length<=f.c
 r2:Row h f.q (bc f.x.data)
 c2:f.x.data.length<=f.d
 w1:0<=f.x.kO.ep.fK
 w2:0<=f.x.kO.dest.fK
def Xe:zI Tryz.prog 8 36=some [27,3,27,3,27,3,4,27,27,9,9,4,27,27,9,9,3,3,3,32,27,27,4,32]:=cZ
theorem uj.SP{n:Nat}(f:uj Tryz.prog h n 32 [v]): ∃p c b,v=.slice p (b:cQ).length c/\Row h p (bc b)/\b.length<=c:=by
 obtain⟨p,c,b,rfl,i⟩:=uj.bytes cZ gg.u8 gg.uU f;refine⟨p,c,b,rfl,i,?_⟩;cases n with
 |zero=>exact f.elim
 |succ n=>unfold uj at f;rcases f with g|⟨A,l,C,g,H,_⟩;injection g with e _;injection e with E j m;omega;grind
theorem UG{m:Nat}(b:uj Tryz.prog h m 9 [v]): ∃s,v=.S s:=by
 cases m with
 |zero=>exact b.elim
 |succ m=>unfold uj at b;have⟨s,e,_⟩:=b;exact⟨s,by grind⟩
def We(n:Nat)(C:List Value)(o:C.length=24)(r:uj Tryz.prog h n 36 C): ∃f:EV,C=SO f/\f.ok h:=by
 have L:=Ek 8 n _ _ C Xe ae r
 match C,o with
 | [v0,v1,v2,v3,v4,v5,v6,v7,v8,v9,d',e',f',g',h',i',j',k',l',m',n',o',p',q'],_=>obtain⟨K,rfl,w0⟩:=L.int 0 rfl rfl (k:=.u64) cZ;obtain⟨t,rfl,_⟩:=L.int 1 rfl rfl (k:=.i64) cZ;obtain⟨b,rfl,w2⟩:=L.int 2 rfl rfl (k:=.u64) cZ;obtain⟨J,rfl,_⟩:=L.int 3 rfl rfl (k:=.i64) cZ;obtain⟨i,rfl,w4⟩:=L.int 4 rfl rfl (k:=.u64) cZ;obtain⟨M,rfl,_⟩:=L.int 5 rfl rfl (k:=.i64) cZ;obtain⟨O,rfl⟩:=L.bool 6 rfl rfl cZ;obtain⟨P,rfl,_⟩:=L.int 7 rfl rfl (k:=.u64) cZ;obtain⟨Q,rfl,w8⟩:=L.int 8 rfl rfl (k:=.u64) cZ;have⟨_,m9⟩:=L.get 9 rfl rfl;obtain⟨S,rfl⟩:=UG m9;have⟨_,T⟩:=L.get 10 rfl rfl;obtain⟨u,rfl⟩:=UG T;obtain⟨w,rfl⟩:=L.bool 11 rfl rfl cZ;obtain⟨y,rfl,_⟩:=L.int 12 rfl rfl (k:=.u64) cZ;obtain⟨z,rfl,a'⟩:=L.int 13 rfl rfl (k:=.u64) cZ;have⟨_,U⟩:=L.get 14 rfl rfl;obtain⟨A,rfl⟩:=UG U;have⟨_,V⟩:=L.get 15 rfl rfl;obtain⟨D,rfl⟩:=UG V;obtain⟨E,rfl,_⟩:=L.int 16 rfl rfl (k:=.i64) cZ;obtain⟨F,rfl,_⟩:=L.int 17 rfl rfl (k:=.i64) cZ;obtain⟨G,rfl,_⟩:=L.int 18 rfl rfl (k:=.i64) cZ;have⟨_,X⟩:=L.get 19 rfl rfl;obtain⟨p,c,B,rfl,r1,l⟩:=uj.SP X;obtain⟨e,rfl,b'⟩:=L.int 20 rfl rfl (k:=.u64) cZ;obtain⟨g,rfl,c'⟩:=L.int 21 rfl rfl (k:=.u64) cZ;obtain⟨I,rfl⟩:=L.bool 22 rfl rfl cZ;have⟨_,Z⟩:=L.get 23 rfl rfl;obtain⟨q,d,j,rfl,r2,m⟩:=uj.SP Z;obtain⟨K,rfl⟩:=dE (wf_u64 w0).1;obtain⟨b,rfl⟩:=dE (wf_u64 w2).1;obtain⟨i,rfl⟩:=dE (wf_u64 w4).1;obtain⟨e,rfl⟩:=dE (wf_u64 b').1;obtain⟨g,rfl⟩:=dE (wf_u64 c').1;exact⟨⟨⟨K,t,b,J,⟨i,M,⟨O,P,Q,S,u⟩,⟨w,y,z,A,D⟩,E,F,G,B,e,g,I⟩,j⟩,p,c,q,d⟩,rfl,⟨r1,l,r2,m,(wf_u64 w8).1,(wf_u64 a').1⟩⟩
def SQ{l:Nat}(j:vy Tryz.prog h 22 (.L p l c)): ∃fs:List EV,fs.length=l/\Row h p (fs.flatMap SO)/\∀f∈fs,f.ok h:=by have⟨X,H,_,_,b,e⟩:=vy.slice SO 24 (λf=>f.ok h) cZ (λ_=>rfl) (λn C g i=>We n C g i) cZ j;exact⟨X,H,b,e⟩
theorem SR(f:EV)(m: ∀a b,Fr No h a->R (.B b) a):Cl 6 #[f.cs.agg] h R:=by
 refine Ck (aR.cV λb H r i l=>Pm i (Cj (aI.cV λB g u e F=>⟨_,_,_,ai e,?_⟩)));have j:=l.tt F;have E: ∀v,∃t,Value.bool v=.B t/\if t=true then R (.B true) g else∃o T n,aU g (AA b 23)=some (.L o T n)/\R (.B (decide (((T):Int)>1300))) g:=by intro v;refine⟨v,rfl,?_⟩;split;grind;exact⟨_,_,_,ai (F.get i id),m g _ j⟩
 split
 grind;exact⟨_,ai e,_,ai e,_,ai e,_,ai e,E _⟩

end Jk
end
section
open Go.fv
namespace eM
open gg
variable {h H f:aA} {t x:Nat} {X:Ft} {R:fp} {p:bZ} {A:List eM} {G:Nat→Prop} {B:List Nat} {g r:List (cQ)} {b:cQ} {K:List (Nat × cQ)} {N:List (cQ)} {token:Nat} {up wa:Bool}
variable {a:Nat×cQ} {n:Nat} {Q:Nat->Prop} {d:List BV} {i:Ft} {k:List eM} {j:List Nat} {o:List (cQ)}
theorem lF.pre{B:List eM}(O:lF (A++B)):lF A:=by refine⟨?_,λI s c=>O.at_ I s ?_,?_⟩;have:=O.le;rw[aq]at this;omega;grind;have:=O.tk;rw[aS,ft]at this;exact this.1
theorem Qd{s:eM}(O:lF (A++ [s])):oj A s.token=0/\Fw A s.token=(s.num:Int):=by
 have m:=O.at_ A.length s bt;have q:=O.le;rw[aq,fk]at q;have e:oj A s.token=0:=by unfold oj;have:=m.tk;rw[dz,af,dz];intro c;unfold HY at c;rw[List.any_eq_true]at c;have⟨x,u,e⟩:=c;have l:=O.tk;rw[aS,ft]at l;exact l.2.2 x.token (bL u) s.token bt (by grind)
 refine⟨e,?_⟩;unfold Fw;rw[ag e,m.num];rfl
abbrev Sp(A:List eM)(token:Nat)(up wa:Bool)(K:List (Nat×cQ))(N:List (cQ)):List eM:=A++ [⟨A.length+1,token,up,wa,K,N⟩]
theorem lF.part(c:lF (Sp A token up wa K N))(J m:Nat):lF (Sp A token up wa (K.take J) (N.take m)):=by
 have O:=c.at_ A.length ⟨A.length+1,token,up,wa,K,N⟩ bt;have e:K.length<=6:=O.kl;have l:=O.nl;have:=c.set (s:=⟨A.length+1,token,up,wa,K,N⟩) (s':=⟨A.length+1,token,up,wa,K.take J,N.take m⟩) bt rfl
  ⟨rfl,O.tk,by rw[bT];omega,by grind,λa h=>O.kd a (List.mem_of_mem_take h),λa h=>O.nd a (List.mem_of_mem_take h),by rw[List.map_take];exact O.ki.sublist (List.take_sublist _ _)⟩
 simpa using this
def Ym:pj (Sp A token up wa K N) ((A.length:Int)+1)=some ⟨A.length+1,token,up,wa,K,N⟩:=by rw[qj];simp
theorem Wf{J:Nat}(s:(K.map (·.1)).Nodup)(v:K[J]? =some a): ∀y∈K.take J,y.1≠a.1:=by
 intro y u e;have⟨m,c⟩:=bA u;rw[db]at c;split at c;rename_i w;have q:m<(K.map (·.1)).length:=by grind
 have E:(K.map (·.1))[m]? =some y.1:=by grind
 have l:(K.map (·.1))[J]? =some y.1:=by grind
 have:=(eE q s).1 (E.trans l.symm);omega;cases c
theorem Xf(m: ∀y∈K,y.1≠a.1)(u:K.length<6)(q:a.1<=1099511627776)(s:a.2.length<=1000):
  CP (Sp A token up wa K N) (((A.length+1:Nat):Int)) a.1=none/\Lh (Sp A token up wa K N) (((A.length+1:Nat):Int)) a.1 a.2=0/\Au (Sp A token up wa K N) (((A.length+1:Nat):Int)) a.1 a.2=Sp A token up wa (K++ [a]) N:=by
 rw[show((A.length+1:Nat))=(A.length:Int)+1 from rfl];unfold CP Lh Au;rw[Ym];dsimp only;have c: ¬(a.1>1099511627776\/a.2.length>1000):=ae
 rw[af c,af c];refine⟨?_,rfl,?_⟩;unfold N8;rw[List.find?_eq_none.2 (λy e=>by grind)];rfl;have l:K.filter (λy=>decide (y.1≠a.1))=K:=by rw[cK];intro y e;simpa using m y e
 unfold As mE;rw[l,af (by grind),show((A.length:Int)+1 - 1).toNat=A.length by omega];simp
def Yn(c:n<=1099511627776)(y:cQ):gV 0 (bm n++y)=(n,0,y):=gA c cW y
def Yo(c:n<=2^40):gV 0 (bm n)=(n,0, []):=by have:=Yn c [];rwa[fy]at this
def YM(b:Bool)(y:cQ):hU 1 0 (bm (bit b)++y)=(bit b,0,y):=gA (VA _) cW y
def YN{n:cQ}(h:n.length<=1000):jo 0 (cX n)=(n,0, []):=by have:=kT (t:=n) ae [];rwa[fy]at this
def Ld(h:aA)(x:Nat)(G:gF)(g:List (cQ)):Prop:=
 ∃(p:bZ)(c:Nat)(d:List BV),h[x]? =some (.cells #[.slice p d.length c,.bool false] 217 (0,0))/\Row h p (d.flatMap ie)/\d.length<=c/\d.map BV.b=g/\(d≠ []->∀y,aL p y->G y)/\∀v∈d,Row h v.p (bc v.b)/\(v.b≠ []->∀y,aL v.p y->G y)
def y9(F:Fr Q h H)(m: ∀y,G y->¬Q y)(c:Row h p (d.flatMap ie))(l:d≠ []->∀y,aL p y->G y):Row H p (d.flatMap ie):=by by_cases e:d= [];rw[e];exact .inl rfl;exact c.frame F (λa E=>m _ (l e _ ⟨a,E,rfl⟩))
def wQ{v:BV}(F:Fr Q h H)(l: ∀y,G y->¬Q y)(c:Row h v.p (bc v.b)/\(v.b≠ []->∀y,aL v.p y->G y)):Row H v.p (bc v.b)/\(v.b≠ []->∀y,aL v.p y->G y):=by refine⟨?_,c.2⟩;by_cases e:v.b= [];rw[e];exact .inl rfl;exact c.1.frame F (λa E=>l _ (c.2 e _ ⟨a,E,rfl⟩))
def Ld.frame(m:Ld h x G g)(F:Fr Q h H)(D: ¬Q x)(l: ∀y,G y->¬Q y):Ld H x G g:=by have⟨p,c,d,q,s,u,w,e,z⟩:=m;exact⟨p,c,d,F.get q D,y9 F l s e,u,w,e,λv C=>wQ F l (z v C)⟩
structure LS (f h:aA) (t x:Nat) (X:Ft) (G:gF) (A:List eM) (B:List Nat) (g:List (cQ)):Prop where
 has:sO h t X A B
 ld:Ld h x G g
 up:xX f X h
 gx:f.size<=x
 lx:x<h.size
 sep: ∀y,X.M y\/X.D y->y≠x
 gl: ∀y,G y->y<f.size
 le: ∀b∈g,b.length<=2^40
def LS.other(c:LS f h t x X G A B g)(F:Fr Q h H)(m: ∀y,Q y->y≠x/\¬(X.M y\/X.D y)/\f.size<=y):LS f H t x X G A B g:=
 ⟨c.has.frame F (λy l e=>(m y e).2.1 l),c.ld.frame F (λe=>(m x e).1 rfl) (λy l e=>gM (c.gl y l) ((m y e).2.2)),⟨c.up.fr.fresh F (λy l=>(m y l).2.2),c.up.ge⟩,c.gx,bX c.lx F.1,c.sep,c.gl,c.le⟩
def LS.on(c:LS f h t x X G A B g)(F:Fr No h H):LS f H t x X G A B g:=c.other F (λ_ e=>e.elim)
def LS.Yp{E:gF}(e:LS f h t x X G A B g)(T:sO H t i k j)(F:Fr X.M h H)(m: ∀c,i.M c->X.M c\/h.size<=c)(D: ∀c,i.D c->X.D c\/E c)(q: ∀c,E c->f.size<=c/\c≠x):LS f H t x i G k j g:=by have z:=e.up.fr.1;have lx:=e.lx;refine⟨T,e.ld.frame F (λl=>e.sep x (.inl l) rfl) (λy hy l=>gM (e.gl y hy) (e.up.ge y (.inl l))),⟨e.up.fr.fresh F (λy hy=>e.up.ge y (.inl hy)),?_⟩,e.gx,bX e.lx F.1,?_,e.gl,e.le⟩;rintro y (hy|hy);rcases m y hy with h1|h1;exact e.up.ge y (.inl h1);omega;rcases D y hy with h1|h1;exact e.up.ge y (.inr h1);exact(q y h1).1;rintro y (hy|hy);rcases m y hy with h1|h1;exact e.sep y (.inl h1);omega;rcases D y hy with h1|h1;exact e.sep y (.inr h1);exact(q y h1).2
def LS.Yq(c:LS f h t x X G A B g)(T:sO H t i k j)(s:bp X h i H):LS f H t x i G k j g:=by exact⟨T,c.ld.frame s.fr (λl=>c.sep x (.inl l) rfl) (λy m l=>gM (c.gl y m) (c.up.ge y (.inl l))),c.up.step s,c.gx,bX c.lx s.fr.1,s.apart (λy m e=>c.sep y m e) (λy e=>e▸c.lx),c.gl,c.le⟩
def LS.SU(c:LS f h t x X G A B g)(L:Ld H x G o)(F:Fr (λy=>y=x) h H)(m: ∀b∈o,b∈g):LS f H t x X G A B o:=
 ⟨c.has.frame F (λy q e=>c.sep y q e),L,⟨c.up.fr.fresh F (λ_ e=>e▸c.gx),c.up.ge⟩,c.gx,bX c.lx F.1,c.sep,c.gl,λb l=>c.le b (m b l)⟩
def LS.nG(c:LS f h t x X G A B g): ∀y,G y->¬y=x:=λy l e=>by have:=c.gl y l;have:=c.gx;omega
def hH{I:Bool}(e:LS f h t x X G A B g)(C:I=true)(D: ∀H,LS f H t x X G A B g->Fr (λy=>y=x) h H->R (.T #[]) H):Cl 157 #[.P x 0,.B I] h R:=by subst C;have⟨p,c,d,l,q,s,u,m,w⟩:=id e.ld;refine pT ⟨_,ai l,(bf l bt λH J L M=> ?_)⟩;have F:=Fr.of_eq L M;exact D H (e.SU ⟨p,c,d,J,y9 F e.nG q m,s,u,m,λv E=>wQ F e.nG (w v E)⟩ F (λ_ z=>z)) F
theorem oD(l:LS f h t x X G A B (b::g))(P: ∀H q S,LS f H t x X G A B g->Rd H q S 0 b->(∀y,S y->h.size<=y)->Fr (λy=>y=x) h H->R (.P q 0) H):
  Cl 155 #[.P x 0] h R:=by
 have⟨p,c,d,s,u,h3,m,E,I⟩:=id l.ld;cases d with
 |nil=>cases m
 |cons v d=>
  obtain⟨rfl,rfl⟩:=List.cons.inj m;refine pS ⟨_,_,_,ai s,?_⟩;obtain⟨a,rfl⟩:=u.some bt;have d':=l.le v.b bt;refine⟨_,_,_,ai s,⟨ae,bt⟩,ar.2 ⟨v.p,v.b.length,v.c,?_,?_⟩⟩;exact((u.fa dZ (i:=0) rfl).1);refine gg.lD (I v dN).1 rfl ae λc' q S D w M=>⟨_,rfl,?_⟩;have C:=w.get s id;refine⟨_,_,_,ai C,⟨ae,by simp only[ba];omega⟩,bf C bt λm U V Z=> ?_⟩;have z:=Fr.of_eq V Z;have F:=Fr.no w z;have a':=by have L:=(y9 F l.nG u E).sub (l:=1) (u:=(v::d).length) (sz:=1) bt ae;rw[<-iH ie 1 dZ (v::d),dA,kR ie 1 dZ]at L;exact L
  refine P m q S (l.SU ⟨cE (some a) c 1 1,c - 1,d,?_,a',by grind,rfl,λ_ y J=>E bt y (mM J),λb' T=>wQ F l.nG (I b' (bQ _ T))⟩ F (λb O=>bQ _ O)) (D.frame z (λy J e=>by grind)) M F;rw[U];simp
def Iy(x:Nat)(h:aA):Nat:=match h[x]? with
 |some (.cells c _ _)=>(match (c[0]? :Option Value)with|some (.slice _ n _)=>n|_=>0)
 |_=>0
def LS.Iy(e:LS f h t x X G A B g):eM.Iy x h=g.length:=by have⟨p,c,d,l,q,s,m,_⟩:=e.ld;unfold eM.Iy;rw[l,<-m,aw];rfl
def LS.rd{l:Nat}{S:gF}{m:aA}(q:LS f h t x X G A B g)(F:Fr (λy=>y=l) h H)(u:S l)(s: ∀y,S y->m.size<=y)(c:LS f m t x X G A B o):LS f H t x X G A B g:=by have:=s l u;have:=c.lx;have:=c.up.fr.1;exact q.other F (λy e=>⟨ae,λv=>bN (c.has.lt y v),ae⟩)
theorem yQ(k':LS f h t x X G A B (LF ⟨A.length+1,token,up,wa,K,N⟩++r))(ok:lF (Sp A token up wa K N))(hk: ∀H i j,LS f H t x i G (Sp A token up wa K N) j r->R (.T #[]) H):
  Cl 108 #[.P x 0,.P t 0] h R:=by
 have a':=ok.at_ A.length ⟨A.length+1,token,up,wa,K,N⟩ bt;have e3:=ok.le;rw[aq,fk]at e3;obtain⟨o1,o2⟩:=Qd ok;have tk:=a'.tk;have kl:K.length<=6:=a'.kl;have nl:N.length<=6:=a'.nl;dsimp only at o1 o2 tk;have eL:LF ⟨A.length+1,token,up,wa,K,N⟩++r=mB ⟨A.length+1,token,up,wa,K,N⟩::(K.map BY++(N.map cX++r)):=by unfold LF;simp
 rw[eL]at k';refine nY (oD k' λz M S L1 D1 g1 f1=>⟨_,rfl,?_⟩);have eH:mB ⟨A.length+1,token,up,wa,K,N⟩=bm (A.length+1)++(bm token++(bm (bit up)++(bm (bit wa)++(bm K.length++bm N.length)))):=by unfold mB;simp only[cu]
 rw[eH]at D1;refine gp D1 λh2 D2 f2=> ?_;rw[Yn ae]at D2⊢;refine⟨_,rfl,jU D2 λh3 D3 f3=> ?_⟩;rw[iW ae]at D3⊢;refine⟨_,rfl,K6 D3 λh4 D4 f4=> ?_⟩;rw[YM]at D4⊢;refine⟨_,rfl,K6 D4 λh5 D5 f5=> ?_⟩;rw[YM]at D5⊢;refine⟨_,rfl,gp D5 λh6 D6 f6=> ?_⟩;rw[Yn ae]at D6⊢;refine⟨_,rfl,gp D6 λh7 D7 f7=> ?_⟩;rw[Yo ae]at D7⊢;have eb: ∀b:Bool,decide (bit b=1)=b:=λb=>by cases b<;>rfl
 have c2: ∀{a b c:aA},Fr (λy=>y=M) a b->Fr (λy=>y=M) b c->Fr (λy=>y=M) a c:=λa b=>a.trans b bC bC;have L7:=L1.rd (c2 (c2 (c2 (c2 (c2 f2 f3) f4) f5) f6) f7) D1.self g1 k';dsimp only;rw[eb,eb];refine⟨_,rfl,?_⟩;clear D1 D2 D3 D4 D5 D6 f2 f3 f4 f5 f6 L1;refine aB.of λg2 hJ=>mX D7 ⟨_,rfl,?_⟩;rw[ag (by rfl),ag (by simp;omega)];refine hH L7 (by simp;omega) λh8 L8 f8=>⟨rfl,?_⟩;subst hJ;refine Ac token rfl ⟨B,L8.has⟩ ok.pre λh9 X9 H9 s9=>⟨_,_,rfl,?_⟩;obtain⟨B9,H9⟩:=H9;have L9:=L8.Yq H9 s9;refine aB.of λJ1 d7=> ?_;rw[o1,o2,ag (by rfl)];refine hH L9 bt λh0 c' g8=>⟨rfl,?_⟩;subst d7;obtain⟨j3,g5,j8,T',_⟩:=id c'.ld;refine⟨_,ai T',?_⟩;rw[dz];have eA:wv A token=A++ [⟨A.length+1,token,true,false, [], []⟩]:=by unfold wv;rw[ag o1]
 rw[eA]at c';obtain⟨v',D,T,F,U,V⟩:=id c'.has;have e1:D.length=A.length+1:=by have:=bV List.length F;rwa[aw,aq,fk]at this
 have⟨s,Z⟩:=OK D A.length;have R':s.abs=⟨A.length+1,token,true,false, [], []⟩:=by
  have z:(D.map SC.abs)[A.length]? =some s.abs:=by rw[aN,Z];rfl
  rw[F]at z;simpa using z.symm
 have d6:B9[A.length]? =some s.b:=by rw[<-U,aN,Z];rfl
 obtain⟨tp,tc,S',y',_⟩:=T.cN;have w:=T.ses _ s Z;have ew:IntKind.wrap .i64 (((A.length+1:Nat):Int) - 1)=(A.length:Int):=by rw[fc];omega
 rw[o2,ew];obtain⟨ab,g3,rfl⟩:=y'.addr ae;refine⟨_,_,_,ai S',ae,ar.2 ⟨some (AA s.b 0),?_,ar.2 ?_⟩⟩;rw[aK,cC];exact y'.cell (by rw[aN,Z];rfl);refine bf w.cN bt λh1 a1 a2 a3=>ar.2 (bf a1 bt λi0 b1 b2 b3=> ?_);obtain⟨b5,B',a4⟩:=T.flag (s':= { s with up:=up,watch:=wa }) V Z rfl ⟨rfl,rfl,rfl⟩ ⟨rfl,rfl,rfl⟩ b1 ae (λy u=>by rw[b3 y u,a3 y u]);have l':=c'.Yq B' a4;have G':(D.map SC.abs).set A.length ({ s with up:=up,watch:=wa } :SC).abs=Sp A token up wa [] []:=by
  rw[F];have:({ s with up:=up,watch:=wa } :SC).abs=⟨A.length+1,token,up,wa, [], []⟩:=by have e:({ s with up:=up,watch:=wa } :SC).abs= { s.abs with up:=up,watch:=wa } :=rfl;rw[e,R']
  rw[this];simp
 rw[G',U]at l';clear c' T F U V Z R' S' y' w B' a4 L9 H9 s9 a1 a2 a3 b1 b2 b3 G' L8 T' L7 D7 e1 eA;refine⟨λI H=> ∃(J:Nat)(i:Ft),I=(J:Int)/\J<=K.length/\LS f H t x i G (Sp A token up wa (K.take J) []) B9 ((K.drop J).map BY++(N.map cX++r)),λI _=>K.length - I.toNat,
  ⟨0,b5,rfl,ae,dH l'⟩,?_⟩
 clear l';rintro _ i1 ⟨J,b6,rfl,hj,L⟩;have e6:=L.le;by_cases t':J<K.length;rw[gH];refine aB.of λJ2 d8=> ?_;have E:K[J]? =some K[J]:=au t';rw[cG t',cp,dC]at L;generalize K[J]=a at E L;obtain⟨d1,d2⟩:=a'.kd a (aG E);obtain⟨k1,k2,k3⟩:=Xf (A:=A) (token:=token) (up:=up) (wa:=wa) (N:= []) (Wf (K:=K) a'.ki E) (by rw[bT];omega) d1 d2;have et:K.take (J+1)=K.take J++ [a]:=by rw[aV,E];rfl
 have x':=ok.part J 0;rw[fN]at x';refine oD L λi2 M S a7 g' c8 c4=>⟨_,rfl,?_⟩;unfold BY at g';refine jU g' λi3 z' H'=> ?_;rw[iW ae]at z'⊢;refine⟨_,rfl,nB z' (by unfold cX;rw[aq];have:=(bw a.2.length).2;omega) λi4 j4 g6 h' w' c9 c5=> ?_⟩;rw[YN d2]at h' w'⊢;dsimp only at h' w'⊢;refine⟨_,_,_,rfl,?_⟩;have a8:=a7.rd (H'.trans c5 bC bC) g'.self c8 L;refine bO.new λg4 i5 g7 O' p'=>⟨_,ai O',?_⟩;have C':=a8.on p';have j9:=c4.1;have k0:=H'.1;refine Og a.1 rfl ⟨B9,C'.has⟩ x' (λj7 hw=>by rw[k1]at hw;cases hw) (λ_ i6 d'=>⟨_,_,_,_,rfl,?_⟩);refine aB.of λJ3 d9=>mX (h'.frame (p'.tt d') bC) ⟨_,rfl,?_⟩;rw[ag (by rfl),ag (by rfl)];have D':=C'.on d';have F':=d'.get O' id;refine⟨_,ai F',_,_,_,ai F',LC a.1 rfl D'.has x' (w'.frame (p'.tt d') bC).hT rfl (λ_ y u hM=>gM (c9 y u) (L.has.lt y (.inl hM))) λi7 b7 a5 g0=>⟨_,rfl,?_⟩⟩;have a9:=D'.Yq a5 g0;refine hH a9 (by rw[k2];rfl) λi8 E' g9=>⟨rfl,?_⟩;subst d9;subst d8;rw[fc];rw[k3,<-et]at E';exact⟨⟨J+1,b7,ae,ae,E'⟩,by show K.length - Int.toNat ((J:Int)+1)<K.length - Int.toNat (J:Int);omega⟩;rw[af (λe=>t' (bN (bk e)))];obtain rfl:J=K.length:=ae
 rw[dA,List.drop_length,List.map_nil,dj]at L;refine⟨λI H=> ∃(m:Nat)(i:Ft),I=(m:Int)/\m<=N.length/\LS f H t x i G (Sp A token up wa K (N.take m)) B9 ((N.drop m).map cX++r),λI _=>N.length - I.toNat,
  ⟨0,b6,rfl,ae,dH L⟩,?_⟩
 clear L e6;rintro _ K' ⟨m,o',rfl,hm,C⟩;by_cases u':m<N.length;rw[gH];have E:N[m]? =some N[m]:=au u';rw[cG u',cp,dC]at C;generalize N[m]=n at E C;have c1:=a'.nd n (aG E);have et:N.take (m+1)=N.take m++ [n]:=by rw[aV,E];rfl
 have M':=C.has.lt;have k4:=C.up.fr.1;have j0:=C.lx;refine oD C λi9 M S b0 A' d0 c6=>⟨_,rfl,?_⟩;refine nB A' (by unfold cX;rw[aq];have:=(bw n.length).2;omega) λd4 P O i' f' d3 I'=> ?_;rw[YN ae]at i' f'⊢;dsimp only at i' f'⊢;refine⟨_,_,_,rfl,?_⟩;have b4:=b0.rd I' A'.self d0 C;have k5:=c6.1;have k6:=I'.1;refine aB.of λJ4 e0=>mX i' ⟨_,rfl,?_⟩;rw[ag (by rfl)];refine Iv rfl ⟨_,rfl,hH b4 (by unfold sQ;simpa using c1) λL' m' J'=>⟨rfl,?_⟩⟩;subst e0;obtain⟨v',D,T,F,U,V⟩:=id m'.has;obtain⟨l,P',e4,Q'⟩: ∃l,D[A.length]? =some l/\l.b=s.b/\l.abs=⟨A.length+1,token,up,wa,K,N.take m⟩:=by
  have z:(D.map SC.b)[A.length]? =some s.b:=by rw[U];exact d6
  have h2:(D.map SC.abs)[A.length]? =some ⟨A.length+1,token,up,wa,K,N.take m⟩:=by rw[F];simp
  rw[aN]at z h2;cases hq:D[A.length]? with
  |none=>rw[hq]at z;cases z
  |some s=>grind
 have w:=T.ses _ l P';have en:l.notes.map BV.b=N.take m:=bV eM.notes Q';have j1:l.notes.length=m:=by rw[<-aw BV.b,en,bT];omega
 rw[<-e4];refine ar.2 ⟨_,_,_,ai w.cN,iV tN uN w.Fv rfl (λj6 hv=>by simp at hv;subst hv;rfl) ae ae ?_⟩;intro a0 b9 d5 f0 q' s';refine⟨_,_,_,rfl,ar.2 ?_⟩;have V': ∀c,aL l.np c->c≠l.b:=λc q e=>by have z:=w.nl c q;rw[e,w.lb]at z;simp at z
 have e5:=q'.get w.cN (λv=>V' _ v rfl);refine bf e5 bt λe' q1 q2 q3=> ?_;have r':Fr (λy=>y=l.b) d5 e':=Fr.of_eq q2 q3;have k7:=J'.1;have k8:=q'.1;have j5:l.b<L'.size:=aD w.cN;have j':Fr (λy=>y=l.b\/aL l.np y) L' e':=(q'.mono (λ_ _ v=> .inr v)).tt (r'.mono (λ_ _ v=> .inl v));have M1: ∀y,aL l.np y\/y=l.b->o'.M y:=λy u=>(V y).2 (u.elim (λu=>⟨_,w.nl y u⟩) (λe=>⟨_,e▸w.lb⟩));have b': ∀y,aL P y->K'.size<=y/\y<d4.size:=λy u=>⟨bN (d3 y u),f'.dk u⟩;have X': ∀y,aL P y->¬(y=l.b\/aL l.np y):=λy u v=>by have:=M' y (.inl (M1 y v.symm));have:=b' y u;omega
 have Z': ∀y,aL P y->y≠x:=λy u e=>by have:=b' y u;omega
 have f9:Own e' P n.length O 1 (bc n):=(f'.frame J' Z').frame j' X';have kD: ∀c,o'.D c->¬(c=l.b\/aL l.np c):=λc q v=>m'.has.xY c (M1 c v.symm) q;have c0:l.notes.flatMap ie++ [.L P n.length O]=(l.notes++ [(⟨P,O,n⟩:BV)]).flatMap ie:=by rw[cO];simp
 have U':(l.notes++ [(⟨P,O,n⟩:BV)]).length=l.notes.length+1:=by rw[aq];rfl
 have e9: ∀c,aL a0 c->c≠l.b:=λc q e=>(s' c q).elim (λv=>V' c v e) (λv=>ae);have e7: ∀c,aL P c->v' c=none:=λc q=>by
  cases hl:v' c with
  |none=>rfl
  |some M=>have:=M' c (.inl ((V c).2 ⟨M,hl⟩));have:=b' c q;omega
 obtain⟨b8,a6,c7,e8,c3,j2⟩:=T.V6 (K':=l.notes++ [⟨P,O,n⟩]) (np':=a0) (nc':=b9) (E:=aL P) V P' (by
  show e'[l.b]? =_;rw[q1];dsimp only;rw[U'];rfl)
  (by rw[U',<-c0];exact f0.frame r' (λc q e=>e9 c q e)) s' j' (λc q=>⟨e7 c q,gM ((b' c q).2) r'.1,λv=>(s' c v).elim (λh2=>X' c q (.inr h2)) (λh2=>bN (b' c q))⟩)
  (λn hn=>by rcases bP.1 hn with hn|hn;exact((w.nd n hn).frame j' kD).mono (λc=> .inl);obtain rfl:=bW.1 hn;exact BV.jK f9 (λc=> .inr))
 have n':=m'.Yp a6 c7 e8 c3 (λc q=>⟨bN ((b' c q).1),Z' c q⟩);rw[U,aS,en,Q',F]at n';have e2:(Sp A token up wa K (N.take m)).set A.length { (⟨A.length+1,token,up,wa,K,N.take m⟩:eM)with notes:=N.take m++ [(⟨P,O,n⟩:BV)].map BV.b } =Sp A token up wa K (N.take (m+1)):=by rw[et];simp
 rw[e2]at n';rw[fc];exact⟨⟨m+1,b8,ae,ae,n'⟩,by show N.length - Int.toNat ((m:Int)+1)<N.length - Int.toNat (m:Int);omega⟩;rw[af (λe=>u' (bN (bk e)))];obtain rfl:m=N.length:=ae
 rw[dA,List.drop_length,List.map_nil,dj]at C;exact hk K' o' B9 C
structure Rows (h:aA) (p:bZ) (l c:Nat) (d:List BV):Prop where
 len:l=d.length
 row:Row h p (d.flatMap ie)
 cap:l<=c
 each: ∀x∈d,Row h x.p (bc x.b)
def Nq(u:lF A): ∀b∈kf A,b.length<=2000:=by intro b hb;have⟨s,q,hb⟩:=List.mem_flatMap.1 hb;have⟨I,m⟩:=bA q;have O:=u.at_ I s m;have e:=λn=>(bw n).2;rcases bG.1 hb with rfl|hb;unfold mB;simp only[aq];have:=e s.num;have:=e s.token;have:=e (bit s.up);have:=e (bit s.watch);have:=e s.kept.length;have:=e s.notes.length;omega;rcases bP.1 hb with hb|hb;obtain⟨a,c,rfl⟩:=bh.1 hb;have l:=(O.kd a c).2;have:=e a.1;have:=e a.2.length;unfold BY cX;simp only[aq];omega;obtain⟨a,c,rfl⟩:=bh.1 hb;have l:=(O.nd a c).2;have:=e a.length;unfold cX;simp only[aq];omega
def SV{a' c:Nat}(b':Rows h p a' c d)(O:lF A)(hx:d.map BV.b=kf A)(hk: ∀H t X,Has H t X A->xX h X H->R (.T #[.P t 0,.I 0]) H):Cl 67 #[.L p a' c] h R:=by
 obtain⟨rfl,hr,hc,he⟩:=b';refine yU (gC λq t X m C V=>⟨_,rfl,cg ?_⟩);have F:Fr No h (q.push (.C #[.L p d.length c,.B false] 217)):=C.tt (Fr.push _ _);obtain⟨B,m⟩:=m;have z1:=C.1;have w:LS h (q.push (.C #[.L p d.length c,.B false] 217)) t q.size X (λy=>y<h.size) [] B (kf A):=by refine⟨m.frame (Fr.push (S:=λ_=>False) _ _) bC,⟨p,c,d,bR,hr.frame F bC,hc,hx,λM y u=>jd hr ?_ u,λv hv=>⟨(he v hv).frame F bC,λM y u=>jd (he v hv) ?_ u⟩⟩,⟨F,V⟩,z1,by rw[cI];omega,λy u e=>bN (m.lt y u),λ_=>id,λb E=>cD (Nq O b E) cW⟩;intro e;exact M (by cases d with|nil=>rfl|cons=>simp at e);intro e;exact M (by cases E:v.b with|nil=>rfl|cons=>rw[E]at e;simp[bc]at e)
 generalize q.push (.C #[.L p d.length c,.B false] 217)=h2 at w⊢;generalize q.size=x at w⊢;clear F m z1 V C;refine⟨λD=> ∃X B J,J<=A.length/\LS h D t x X (λy=>y<h.size) (A.take J) B (kf (A.drop J)),Iy x,⟨X,B,0,bK _,dH w⟩,?_⟩;clear w;rintro D ⟨X,B,J,hj,L⟩;obtain⟨p',c',ys,z,a2,a3,a4,a5⟩:=id L.ld;refine aB.of λe' Z=>⟨_,_,_,ai z,?_⟩;have S:=L.Iy;have l:=bV List.length a4;rw[aw]at l;by_cases I:J<A.length;obtain⟨s,P⟩: ∃s,A[J]? =some s:=⟨_,au I⟩;have e1:kf (A.drop J)=LF s++kf (A.drop (J+1)):=by rw[show A.drop J=s::A.drop (J+1) by rw[cG I];congr 1;exact(aJ.1 P).2];rfl
 have U:A.take (J+1)=A.take J++ [s]:=by rw[aV,P];rfl
 have lt:(A.take J).length=J:=by rw[bT];omega
 have d':lF (A.take J++ [s]):=by rw[<-U];rw[<-fM (J+1) A]at O;exact O.pre
 obtain⟨num,token,up,wa,K,N⟩:=s;obtain rfl:num=(A.take J).length+1:=by rw[lt];exact(O.at_ J _ P).num
 rw[e1]at L l S;have rl:=LG ⟨(A.take J).length+1,token,up,wa,K,N⟩;rw[aq]at l S;rw[gH];refine⟨_,ai z,?_⟩;subst Z;dsimp only;rw[ag (by rfl)];exact yQ L d' λH i j T=>⟨rfl,⟨i,j,J+1,I,by rw[U];exact T⟩,by rw[S,T.Iy];omega⟩;obtain rfl:J=A.length:=ae
 rw[List.drop_length]at l;rw[dA]at L;have l:ys.length=0:=l;rw[af (λe=>bN (bk e))];subst Z;dsimp only;rw[dz];refine⟨_,ai z,?_⟩;rw[dz];exact hk D t X ⟨B,L.has⟩ L.up

end eM
end
section
open Go.fv Go.jD
namespace gI
open gg
variable {h H:aA} {b:Nat} {X:Ft} {R:fp} {p:bZ} {c d i:Nat} {L:List E} {s:BS}
def tH{n:Nat}(a:n<=2^40)(y:cQ):gV 0 (bm n++y)=(n,0,y):=gA a ae y
def tJ{xs:List BV}{l c:Nat}(t:gg.Rows h p l c xs)(o:okB s L)(f0:s.next<=1000000000)(hl:l<=100)(K:xs.map BV.b=iE s)(k1: ∀H b X,CQ H b X s->xX h X H->R (.T #[.P b 0,.I 0]) H):
  Cl 70 #[.L p l c] h R:=by
 have e5:=o.zj;have e8:=o.le;refine BX ?_;obtain⟨q,j,rfl⟩: ∃q j,xs=q::j:=by
  cases xs with
  |nil=>cases K
  |cons q j=>exact⟨q,j,rfl⟩
 have e9:l=j.length+1:=t.len;obtain⟨F',H'⟩:=List.cons.inj K;have J:s.items.length=j.length:=by simpa using (bV List.length H').symm
 rw[af (by simp only[dQ];omega)];obtain⟨pa,rfl⟩:=t.row.some bt;refine gC λr b w B1 z g1=>⟨_,rfl,ae,ar.2 ⟨q.p,q.b.length,q.c,?_,?_⟩⟩;have:=((t.on z).row.fa dZ (i:=0) (x:=q) rfl).1;rw[Nat.zero_mul,cj,cj]at this;rw[show Int.toNat 0*1=0 from rfl,cj];exact this;have e4:=Iu s;refine gg.lD ((t.on z).each q bt) rfl (by rw[F'];omega) λh2 b' S2 Q f2 g2=>⟨_,rfl,?_⟩;obtain⟨lp,lc,ys,a,S,T⟩:=B1;have b6:ys= []:=List.map_eq_nil_iff.1 T.abs;subst b6;have z1:=z.1;have z2:=f2.1;have b8: ∀y,w.M y\/w.D y->y<r.size:=λy f=>T.lt y f;have lb:=aD T.cN;rw[F']at Q;have e0:pE s=bm s.next++(bm s.taken++(bm s.mD++(bm s.over++(bm s.items.length++ [])))):=by unfold pE;simp
 rw[e0]at Q;have rS:=g2 b' Q.self;have i': ∀{g g':aA},Fr No r g->Fr (λy=>y=b') g g'->Fr No r g':=λz f2=>z.fresh f2 (λy e=>ae);refine gp Q λh3 D3 f3=> ?_;rw[tH ae]at D3⊢;refine⟨_,rfl,gp D3 λh4 D4 f4=> ?_⟩;rw[tH ae]at D4⊢;refine⟨_,rfl,gp D4 λh5 D5 f5=> ?_⟩;rw[tH ae]at D5⊢;refine⟨_,rfl,gp D5 λh6 D6 f6=> ?_⟩;rw[tH ae]at D6⊢;refine⟨_,rfl,?_⟩;dsimp only at D6⊢;have F6:Fr No r h6:=i' (i' (i' (i' f2 f3) f4) f5) f6;have M6:=T.on F6;refine ar.2 (bf M6.cN bt λh7 V a2 Z=>ar.2 (bf V bt λh8 B b2 b3=>ar.2 (bf B bt λh9 c1 c2 c3=>ar.2 (bf c1 bt λa' d1 d2 d3=> ?_))));have F:Fr (λy=>y=b) h6 a':=⟨ae,λy f J=>by rw[d3 y J,c3 y J,b3 y J,Z y J]⟩;obtain⟨x',L'⟩:=M6.field (s':=⟨[],s.next,s.taken,s.mD,s.over⟩) (h':=a') rfl (by rw[d1];rfl) F;have v':=D6.frame F (λy f e=>bN (g2 y f));refine gp v' λG c' A=> ?_;rw[tH ae]at c'⊢;refine⟨_,rfl,?_⟩;dsimp only at c'⊢;have v:Mm G b w ⟨[],s.next,s.taken,s.mD,s.over⟩ [] lp lc [] a S:=x'.frame A (λy f e=>bN (b8 y f));have y':xX h w G:=by have u1:xX h w r:=⟨z,g1⟩;have O':=(u1.on F6).step L';exact⟨O'.fr.fresh A (λy e=>ae),O'.ge⟩
 clear T M6 x' Q D3 D4 D5 D6 v' V a2 Z B b2 b3 c1 c2 c3 d1 d2 d3 L';refine aB.of λc7 hJ=>mX c' ⟨_,rfl,?_⟩;have er:oA 0 []=0:=rfl;rw[er,dz];have wl:IntKind.wrap .i64 ((l:Int) - 1)=(j.length:Int):=by rw[fc];omega
 rw[wl];have q1:((s.items.length:Int) !=(j.length:Int))=false:=by rw[J];simp
 rw[q1,af bt,af (by simp;omega)];refine ar.2 ⟨_,ai v.cN,?_⟩;rw[af (by simp;omega)];refine ar.2 ⟨_,ai v.cN,ar.2 ⟨_,ai v.cN,ar.2 ⟨_,ai v.cN,ar.2 ⟨_,ai v.cN,?_⟩⟩⟩⟩;have q2:((IntKind.wrap .i64 ((s.next:Int) - 1)) !=(IntKind.wrap .i64 ((IntKind.wrap .i64 ((IntKind.wrap .i64 ((s.taken:Int)+(s.mD:Int)))+(s.over:Int)))+(s.items.length:Int))))=false:=by rw[dJ (n:=(s.next:Int) - 1) ae ae,dJ (n:=(s.taken:Int)+(s.mD:Int)) ae ae,dJ (n:=(s.taken:Int)+(s.mD:Int)+(s.over:Int)) ae ae,fc];simp only[gy];omega
 dsimp only;rw[q2];subst hJ;simp only[az,aY];have t1:Int.toNat 1=1:=rfl;rw[t1];have cap:=t.cap;refine⟨ae,?_⟩;have c5:Row h (cE (some pa) c 1 1) (j.flatMap ie):=by have rs:=t.row.sub (cap:=c) (l:=1) (u:=l) (sz:=1) ae ae;rw[kQ ie 1 dZ,kR ie 1 dZ,aX (by rw[ba];omega)]at rs;exact rs
 refine⟨λJ' t' g=> ∃(k:Nat)(X:Ft)(u:List E),t'=(k:Int)/\k<=j.length/\Bx g b X ⟨s.items.take k,s.next,s.taken,s.mD,s.over⟩ u/\xX h X g/\u.Perm ((s.items.take k).map It.kv)/\(∀x,s.items[k]? =some x->J'<(x.num:Int)),λ_ t' _=>j.length - t'.toNat,
  ⟨0,w, [],rfl,ae,⟨lp,lc, [],a,S,v⟩,y',.refl _,λx b4=>bN ((o.it x (aG b4)).1)⟩,?_⟩
 clear v y' c' A F F6;rintro J' _ g ⟨k,X,u,rfl,e6,⟨lp,lc,ys,a,S,M⟩,U,pm,a6⟩;have P':=M.len;have P':ys.length=k:=by rw[P'];show(s.items.take k).length=k;rw[bT];omega
 by_cases a7:k<j.length
 .rw[gH,aK];have⟨u',s'⟩:=lP a7;have⟨x,I⟩:=OK s.items k;have G':u'.b=Ly x:=by
   have r:(j.map BV.b)[k]? =some u'.b:=by rw[aN,s'];rfl
   rw[H',aN,I]at r;exact(bF r).symm
  have b5:=aG I;have n:=o.it x b5;have f8:=LA (x:=x) n.2.2.2.1;have rg:=c5.frame U.fr bC;obtain⟨sa,b1⟩:=rg.any dZ;rw[b1]at rg⊢;have cv:=(rg.fa dZ s').1;rw[cj]at cv;refine⟨⟨by first|trivial|omega,by first|trivial|omega⟩,ar.2 ⟨_,_,_,cv,?_⟩⟩;have c6:=(t.each u' (bQ _ (aG s'))).frame U.fr bC;refine gg.lD c6 rfl (by rw[G'];omega) λd6 b' c9 D A' V'=>⟨_,rfl,?_⟩;rw[G']at D;have ei:Ly x=bm x.num++(bm x.owner.toNat++(cX x.d++(bm x.dB++ []))):=by unfold Ly;simp
  rw[ei]at D;have rS:=V' b' D.self;have g0:=D.lt b' D.self;refine gp D λd7 m' B'=> ?_;rw[tH ae]at m'⊢;refine⟨_,rfl,gp m' λd8 d' C'=> ?_⟩;rw[tH ae]at d'⊢;refine⟨_,rfl,?_⟩;dsimp only at d'⊢;have et:=kT (t:=x.d) ae (bm x.dB++ []);have f1:(cX x.d++(bm x.dB++ [])).length<=1000:=by have:=bV List.length ei;simp only[aq]at this⊢;omega
  refine nB d' ae λd9 P C n' k' E' D'=> ?_;rw[et]at n' k'⊢;refine⟨_,_,_,rfl,jU n' λe3 O p'=> ?_⟩;dsimp only at O k';rw[iW ae]at O⊢;refine⟨_,rfl,?_⟩;dsimp only at O⊢;have g5:=A'.1;have g6:=B'.1;have g7:=C'.1;have g8:=D'.1;have g9:=p'.1;have ey:((x.owner.toNat:Nat):Int)=x.owner:=ae
  rw[ey];refine aF.new λB X' d4 q' f'=>aB.of λJ1 a0=> ?_;have h0:=f'.1;have l1:=aD q';have S':Fr No g X':=(((A'.fresh B' (λy e=>ae)).fresh C' (λy e=>ae)).fresh D' (λy e=>ae)).fresh p' (λy e=>ae)|>.tt f';refine mX (O.frame f' bC) ⟨_,rfl,?_⟩;rw[er,dz];refine aF.ld q' (fD λm h'=>⟨_,rfl,?_⟩);have b0:yI x.owner x.d.length (x.dB:Int)=true:=Fi.2 ⟨n.2.2.2.2.1,n.2.2.2.2.2.1,n.2.2.1,n.2.2.2.1,bN n.2.2.2.2.2.2⟩;rw[b0];simp only[df,az,aY];have w':Fr No g m:=S'.tt h';have h1:=h'.1;have e':=M.on w';have j':aF.at m B (x.num:Int) x.owner P x.d.length C (x.dB:Int):=h'.get q' id;refine⟨_,ai j',?_⟩;have e7:=a6 x I;rw[dz];refine⟨_,ai j',ar.2 ⟨_,ai e'.cN,?_⟩⟩;have q6:decide ((x.num:Int)≥(s.next:Int))=false:=aT (bN n.2.1);dsimp only;rw[q6];subst a0;simp only[az,aY];have K':Own m P x.d.length C 1 (bc x.d):=((k'.frame p' (λy f e=>bN (E' y f))).frame f' bC).frame h' bC;have c4: ∀y,aL P y->g.size<=y/\y<m.size:=λy f=>⟨bN (E' y f),K'.dk f⟩;clear D m' d' n' O k';refine ar.2 ⟨_,_,_,ai e'.cN,aF.ld j' ?_⟩;refine cg ⟨gm (e'.on (Fr.push (S:=λ_=>False) m _)).cN rfl,?_⟩;have f9:Fr No m (m.push (.C #[.I (x.num:Int),.I x.owner,.L P x.d.length C,.U (x.dB:Int)] 92)):=Fr.push _ _;have r9:Row (m.push (.C #[.I (x.num:Int),.I x.owner,.L P x.d.length C,.U (x.dB:Int)] 92)) (Sa m.size 0) [.I (x.num:Int),.I x.owner,.L P x.d.length C,.U (x.dB:Int)]:=jj;generalize m.push (.C #[.I (x.num:Int),.I x.owner,.L P x.d.length C,.U (x.dB:Int)] 92)=Z' at f9 r9⊢;have o':=e'.on f9;have a3:aF.at Z' B (x.num:Int) x.owner P x.d.length C (x.dB:Int):=f9.get j' id;refine dI tI uI o'.own r9 rfl (λg3 hw=>by simp at hw;rcases hw with rfl|rfl|rfl|rfl<;>rfl) ae ae λf7 d0 a' c0 _ F T'=>⟨_,_,_,rfl,?_⟩;have z9:=f9.1;have g4:=F.1;have lb:=aD M.cN;have b7:=F.get o'.cN M.bl;refine ar.2 (bf b7 bt λG V a2 Z=>ar.2 ?_);have A:Fr (λy=>y=b) a' G:=Fr.of_eq a2 Z;have b9: ∀y,g.size<=y->¬aL lp y:=λy f K=>by have:=M.own.dk K;omega
  have a1:aF.at a' B (x.num:Int) x.owner P x.d.length C (x.dB:Int):=F.get a3 (b9 B ae);have r':aF.at G B (x.num:Int) x.owner P x.d.length C (x.dB:Int):=(Z B ae).trans a1;have Q':ck.Al G a S u:=(o'.al.frame F (λy f K=>M.ls y K f)).frame A (λy f e=>M.bs (e▸f));refine⟨_,ai V,_,ai r',_,ai r',?_⟩;have Ll:u.length<=16:=by have:=pm.length_eq;rw[aw,bT]at this;omega
  have a8:ck.may (x.num:Int) (x.dB:Int)=true:=ck.lE.2 ⟨bN n.1,bN n.2.1,bN n.2.2.2.2.2.2⟩;refine ck.BE Q' ae _ _ ae (λ_ d5 c8 R' U' z'=>⟨_,rfl,?_⟩) (λhf=>by rw[a8]at hf;cases hf);have nS: ∀y,g.size<=y->¬S y:=λy f hs=>by have:=M.al.lt hs;omega
  refine⟨_,ai (z'.get r' (nS B ae)),?_⟩;have tk:s.items.take (k+1)=s.items.take k++ [x]:=by rw[aV,I];rfl
  rw[fc];obtain⟨M',st⟩:=M.grow (s':=⟨s.items.take (k+1),s.next,s.taken,s.mD,s.over⟩) w' K' (λy f=>(c4 y f).1) f9 c0 F T' A z' R' U' V tk;refine⟨⟨k+1,_,_,ae,ae,⟨_,_,_,_,_,M'⟩,U.step st,?_,?_⟩,?_⟩;have a9:(x.num:Int)∉keys u:=by intro hm;obtain⟨e,he,ek⟩:=bh.1 hm;obtain⟨l',hz,rfl⟩:=bh.1 (pm.mem_iff.1 he);have ek:(l'.num:Int)=(x.num:Int):=ek;obtain⟨I',hj⟩:=bA hz;rw[db]at hj;split at hj;rename_i a4;have hp:=List.pairwise_iff_getElem.1 o.inc I' k (by rw[aw];omega) (by rw[aw];omega) a4;rw[List.getElem_map,List.getElem_map]at hp;have e1:s.items[I']' ae=l':=bF ((au _).symm.trans hj);have e2:s.items[k]' ae=x:=bF ((au _).symm.trans I);rw[e1,e2]at hp;omega;cases hj
  unfold ck.pM;rw[kJ a9,tk,aS];exact(me _ _).trans ((List.Perm.cons _ pm).trans (eJ _ _).symm);intro l' hz;have a5:=(aJ.1 hz).1;have hp:=List.pairwise_iff_getElem.1 o.inc k (k+1) (by rw[aw];omega) (by rw[aw];omega) ae;rw[List.getElem_map,List.getElem_map]at hp;have e1:s.items[k+1]'a5=l':=bF ((au _).symm.trans hz);have e2:s.items[k]' ae=x:=bF ((au _).symm.trans I);rw[e1,e2]at hp;omega;show j.length - Int.toNat ((k:Int)+1)<j.length - k;omega
 rw[dz];have e1:s.items.take k=s.items:=aX ae;rw[e1]at M pm;exact k1 g b X ⟨u,⟨lp,lc,ys,a,S,M⟩,⟨o.le,pm,o.it,o.inc,o.zj⟩⟩ U

end gI
end
section
open Go.fv
namespace gg
variable {h:aA} {R:fp} {p q:bZ} {m c d i:Nat}
def AH{l:Nat}{X f:List BV}(z:Rows h p l c X)(A:Rows h q m d f)(I:l<=1000000000)(H:R (.B (decide (X.map BV.b=f.map BV.b))) h):Cl 34 #[.L p l c,.L q m d,.func (.func 35) #[] #[]] h R:=by
 obtain⟨rfl,v,_,E⟩:=z;obtain⟨rfl,w,_,B⟩:=A;refine iM ?_;by_cases u:X.length=f.length
 .have:((X.length:Int) !=(f.length:Int))=false:=by rw[u];simp
  rw[this];simp only[az,aY];refine⟨λi g=>g=h/\∃k:Nat,i=(k:Int)/\k<=X.length/\(X.take k).map BV.b=(f.take k).map BV.b,λi _=>X.length - i.toNat,⟨rfl,0,rfl,ae,bt⟩,?_⟩;rintro _ _ ⟨rfl,k,rfl,F,o⟩;by_cases D:k<X.length
  .rw[gH,aK];have G:X[k]? =some X[k]:=au D;have j:f[k]? =some (f[k]' ae):=au _;generalize X[k]=x at G;generalize f[k]' ae=y at j;obtain⟨a,rfl⟩:=v.any dZ;obtain⟨b,rfl⟩:=w.any dZ;have C:=(v.fa dZ G).1;have s:=(w.fa dZ j).1;rw[cj]at C s;refine⟨⟨by first|trivial|omega,by first|trivial|omega⟩,ar.2 ⟨_,_,_,C,⟨by first|trivial|omega,by first|trivial|omega⟩,ar.2 ⟨_,_,_,s,?_⟩⟩⟩;refine Cb.jg (E x (aG G)) (B y (aG j)) rfl rfl ⟨_,rfl,?_⟩;by_cases n:x.b=y.b
   .rw[n];simp only[ct,df,az,aY];rw[fc];refine⟨⟨by first|trivial|rfl,k+1,ae,ae,?_⟩,by show _ - Int.toNat ((k:Int)+1)<_;omega⟩;rw[aV,aV,G,j,aS,aS,o];simp[n]
   simp only[n,cU,ee,bJ];have r:X.map BV.b≠f.map BV.b:=λe=>by
    have t:(X.map BV.b)[k]? =(f.map BV.b)[k]? :=by rw[e]
    rw[aN,aN,G,j]at t;exact n (bF t)
   rw[aT r]at H;exact H
  rw[dz];rw[aX ae,aX ae]at o;rw[aC o]at H;exact H
 have:((X.length:Int) !=(f.length:Int))=true:=by simp;omega
 rw[this];simp only[bJ];have r:X.map BV.b≠f.map BV.b:=λe=>u (by have:=bV List.length e;simpa using this);rw[aT r]at H;exact H

end gg
end
section
variable {h:aA} {R:fp}
variable {s:cF}
def FZ (G:aW h (.C #[.B false,.U 0,.U 0,.S (⟨#[]⟩:cF),.S (⟨#[]⟩:cF)] 29) λb a=>ite (s.toList==(⟨#[100,116,110,58,110,111,110,101]⟩:cF).toList) (av.ST a (AA b 0) false 0 0 (⟨#[]⟩:cF) (⟨#[]⟩:cF) λd=>av.LD d (AA b 0) λK P U Z c'=>R (.T #[.agg #[.B K,.U P,.U U,.S Z,.S c'],.I 0]) d) (aW a (.C #[.B false,.U 0,.U 0,.S (⟨#[]⟩:cF),.S (⟨#[]⟩:cF)] 29) λB D=>Cl 58 #[.S s,.S (⟨#[105,112,110,58]⟩:cF)] D λk' e=> ∃t T,k'=.T #[.S t,.B T]/\aB (λ(O:Bool) H=>ite (!O) (av.ST H (AA b 0) false 0 0 (⟨#[]⟩:cF) (⟨#[]⟩:cF) λf=>av.LD f (AA b 0) λL Q V a' d'=>R (.T #[.agg #[.B L,.U Q,.U V,.S a',.S d'],.I 3]) f) (av.LD H (AA B 0) λf' g' h' i' j'=>av.ST H (AA b 0) f' g' h' i' j' λg=>av.LD g (AA b 0) λM S X b' e'=>R (.T #[.agg #[.B M,.U S,.U X,.S b',.S e'],.I 0]) g)) (λJ=>ite T (Cl 59 #[.S t] e λl' E=> ∃i k l m n o,l'=.T #[.agg #[.B i,.U k,.U l,.S m,.S n],.B o]/\av.ST E (AA B 0) i k l m n λF=>J o F) (Cl 58 #[.S s,.S (⟨#[100,116,110,58]⟩:cF)] e λm' c=> ∃p q,m'=.T #[.S p,.B q]/\aB (λ(I:Bool) z=>J I z) (λj=>ite q (Cl 60 #[.S p] c λn' A=> ∃r u v w x y,n'=.T #[.agg #[.B r,.U u,.U v,.S w,.S x],.B y]/\av.ST A (AA B 0) r u v w x λC=>j y C) (j false c)))))):Cl 24 #[.S s] h R:=aP [(19,.join [(5,sB)]),(25,.join [(5,sB)])] G
def uX (G:aW h (.C #[.B false,.U 0,.U 0,.S (⟨#[]⟩:cF),.S (⟨#[]⟩:cF)] 29) λb z=>Cl 104 #[.S s,.S (⟨#[46]⟩:cF)] z λx' A=> ∃g i u,x'=.T #[.S g,.S i,.B u]/\Cl 105 #[.S g,.I 10,.I 32] A λy' C=> ∃j v,y'=.T #[.U j,v]/\Cl 105 #[.S i,.I 10,.I 32] C λz' D=> ∃k w,z'=.T #[.U k,w]/\aW D (.C #[.B false,.U 0,.U 0,.S (⟨#[]⟩:cF),.S (⟨#[]⟩:cF)] 29) λB F=>av.ST F (AA B 0) true j k (⟨#[]⟩:cF) (⟨#[]⟩:cF) λH=>av.LD H (AA B 0) λt T a c d=>ite u (∃(E:Bool),JS 209 (v) (.nilIface) E/\ite E (∃(eq_1:Bool),JS 209 (w) (.nilIface) eq_1/\ite eq_1 (av.LD H (AA B 0) λr' s' t' u' v'=>Cl 53 #[.agg #[.B r',.U s',.U t',.S u',.S v']] H λA' e=>Vb A' λw'=>cH (AA B 0) [.B t,.U T,.U a,.S c,.S d] 0 e/\ite w' (Cl 74 #[.U j,.I 10] e λB' f=> ∃x,B'=.S x/\cH (AA B 0) [.B t,.U T,.U a,.S c,.S d] 0 f/\ite (x.toList==g.toList) (Cl 74 #[.U k,.I 10] f λC' r=> ∃y,C'=.S y/\cH (AA B 0) [.B t,.U T,.U a,.S c,.S d] 0 r/\av.ST r (AA b 0) t T a c d λl=>av.LD l (AA b 0) λI P Z f' l'=>R (.T #[.agg #[.B I,.U P,.U Z,.S f',.S l'],.B (y.toList==i.toList)]) l) (av.ST f (AA b 0) t T a c d λm=>av.LD m (AA b 0) λJ Q a' g' m'=>R (.T #[.agg #[.B J,.U Q,.U a',.S g',.S m'],.B false]) m)) (av.ST e (AA b 0) t T a c d λn=>av.LD n (AA b 0) λK S b' h' n'=>R (.T #[.agg #[.B K,.U S,.U b',.S h',.S n'],.B false]) n)) (av.ST H (AA b 0) t T a c d λo=>av.LD o (AA b 0) λL U c' i' o'=>R (.T #[.agg #[.B L,.U U,.U c',.S i',.S o'],.B false]) o)) (av.ST H (AA b 0) t T a c d λp=>av.LD p (AA b 0) λM V d' j' p'=>R (.T #[.agg #[.B M,.U V,.U d',.S j',.S p'],.B false]) p)) (av.ST H (AA b 0) t T a c d λq=>av.LD q (AA b 0) λO X e' k' q'=>R (.T #[.agg #[.B O,.U X,.U e',.S k',.S q'],.B false]) q)):Cl 59 #[.S s] h R:=aP [(11,λ_=> .ni (lO [0,1,2,3,4,5,6,7,8,9,10,11,12,13,14,15,17,16,18,19,20,21,23,22,24,25,26,27] .done))] G

end
section
namespace ju
variable {h:aA} {R:fp}
variable {M:Nat} {x:Ev}
theorem index_one(c:UInt8)(b:cQ): ∀a:cQ,c∉a->Lib.index (a++c::b) [c]=(a.length:Int)
 | [],_=>by unfold Lib.index;simp[List.isPrefixOf]
 |x::a,h=>by
  have f: ¬c=x:=λe=>h (by grind);show Lib.index (x::(a++c::b)) [c]=_;unfold Lib.index;rw[(index_one c b a (λd=>h (bQ _ d)))];have H: [c].isPrefixOf (x::(a++c::b))=false:=by grind
  rw[H];rw[dz];rw[af bt,ba];omega
def Oo(c:UInt8)(a b:cQ)(h:c∉a):Lib.cut (a++c::b) [c]=(a,b,true):=by unfold Lib.cut;rw[index_one c b a h,gH,aK,List.take_left];rw[<-List.drop_drop,List.drop_left];rfl
theorem Nr: ∀(u:Nat),∀c∈Lib.decDigits u,48<=c.toNat/\c.toNat<=57:=by
 intro u;induction u using Nat.strongRecOn with
 |_ u i=>intro c hc;rw[Lib.decDigits]at hc;split at hc;rw[bW]at hc;subst hc;rw[fU];omega;rcases bP.1 hc with hc|hc;grind;rw[bW]at hc;subst hc;rw[fU];omega
def F0{a:Nat}{c:UInt8}: ∀(l:cQ)(A:Nat),Lib.parseUintM M A l=.ok a->Lib.parseUintM M A (l++ [c])=Lib.parseUintM M a [c]
 | [],A,h=>by cases h;rfl
 |x::l,A,h=>by
  rw[dC];unfold Lib.parseUintM at h;conv=>lhs;unfold Lib.parseUintM
  split at h
  rename_i d;rw[ag d];split at h;cases h;rename_i H;rw[af H];split at h;cases h;rename_i b;rw[af b];exact F0 l _ h;cases h
theorem Qe(H:M<=4294967295): ∀u,u<=M->Lib.parseUintM M 0 (Lib.decDigits u)=.ok u:=by
 intro u;induction u using Nat.strongRecOn with
 |_ u i=>
  intro f;have one: ∀(a d:Nat),d<10->a*10+d<=M->Lib.parseUintM M a [UInt8.ofNat (48+d)]=.ok (a*10+d):=λa d c b=>by
   have e:(UInt8.ofNat (48+d)).toNat=48+d:=by simp;omega
   unfold Lib.parseUintM;rw[e,gH,dz,dz];unfold Lib.parseUintM;congr 1;omega
  rw[Lib.decDigits];split;grind;rw[F0 _ 0 (i (u/10) ae ae),one (u/10) (u%10) ae ae];congr 1;omega
def Ga{u:Nat}(H:u<=4294967295):Lib.parseUintB 32 (Lib.decDigits u)=.ok u:=by unfold Lib.parseUintB;rw[af (by intro e;have:=bV List.length e;rw[Lib.decDigits_length]at this;have:=Lib.nDigits_pos u;simp at*;omega)];exact Qe cW u H
def rO(l:cQ):(str l).data.toList=l:=by unfold str;simp
def Oq(l:cQ):(⟨l.toArray⟩:cF)=str l:=rfl
def DO(u:Nat):(⟨(Lib.decDigits u).toArray⟩:cF)=str (Lib.decDigits u):=rfl
def Xg:Ox Tryz.prog 209 .nilIface .nilIface true:=λh=>cZ
def Gb(p r:cQ):Lib.trimPrefix (p++r) p=r/\Lib.hasPrefix (p++r) p=true:=by
 have H:Lib.hasPrefix (p++r) p=true:=by unfold Lib.hasPrefix;rw[List.isPrefixOf_iff_prefix];exact List.prefix_append p r
 refine⟨?_,H⟩;unfold Lib.trimPrefix;rw[ag H,List.drop_left]
def px(d:x.jY=true)(G:cY x=true)(w1:0<=x.fK)(I:jS.nE h)(mx:jS.Mx h)(U: iG h R (.T #[mh x,.B true])):Cl 59 #[.S (str (Lib.decDigits x.node.toNat++ [46]++Lib.decDigits x.fK.toNat))] h R:=by
 have Z:x≠ .zero:=λe=>by rw[e]at d;cases d
 have a:=G;unfold cY at a;rw[af Z,ag d]at a;have a:=bk a;have l1:=xj (u:=x.node.toNat) ae;have l2:=xj (u:=x.fK.toNat) ae;have S:(46)∉Lib.decDigits x.node.toNat:=λV=>by have:=Nr _ _ V;have e:(46:UInt8).toNat=46:=rfl;omega
 have O:Lib.cut (str (Lib.decDigits x.node.toNat++ [46]++Lib.decDigits x.fK.toNat)).data.toList (⟨#[46]⟩:cF).data.toList=(Lib.decDigits x.node.toNat,Lib.decDigits x.fK.toNat,true):=by rw[rO,cu];exact Oo 46 _ _ S
 refine uX (cg ?_);have i:Fr No h (h.push (.C #[.B false,.U 0,.U 0,.string ⟨#[]⟩,.string ⟨#[]⟩] 29)):=Fr.push _ _;have D:av.at (h.push (.C #[.B false,.U 0,.U 0,.string ⟨#[]⟩,.string ⟨#[]⟩] 29)) h.size false 0 0 ⟨#[]⟩ ⟨#[]⟩:=bR;generalize h.push (.C #[.B false,.U 0,.U 0,.string ⟨#[]⟩,.string ⟨#[]⟩] 29)=h1 at i D⊢;refine jS.A6 (mx.on i) (by rw[hZ];simp;omega) ⟨_,_,_,rfl,?_⟩;rw[O];rw[DO,DO];refine jS.qP (by rw[hZ];omega) (by rw[rO];exact Ga ae) λh2 s=>⟨_,_,rfl,jS.qP (by rw[hZ];omega) (by rw[rO];exact Ga ae) λh3 u=>⟨_,_,rfl,av.new λB h4 e4 H w=>av.ld H ?_⟩⟩;have n:((x.node.toNat:Nat))=x.node:=ae
 have l:((x.fK.toNat:Nat))=x.fK:=ae
 rw[n,l]at H;rw[n,l,ag rfl];refine⟨true,Xg,?_⟩;rw[ag rfl];refine⟨true,Xg,?_⟩;rw[ag rfl];have E:(⟨true,x.node,x.fK,⟨#[]⟩,⟨#[]⟩⟩)=x:=Ev.ext' d.symm rfl rfl a.1.symm a.2.1.symm;have g:=i.tt (s.tt (u.tt w));refine av.ld H (fD ⟨true,x.node,x.fK,⟨#[]⟩,⟨#[]⟩⟩ λh5 f=>⟨_,rfl,av.held (f.get H id),?_⟩);rw[E,ag G];have z:=jS.mY (R:=λf' k=> ∃(T:cF),f'=.S T/\
  cH (AA B 0) [.B true,.U x.node,.U x.fK,.string ⟨#[]⟩,.string ⟨#[]⟩] 0 k/\
  if(T.toList==(str (Lib.decDigits x.node.toNat)).toList)=true then
   Cl 74 #[.U x.fK,.I 10] k λv c=>
   ∃(t:cF),v=.S t/\
   cH (AA B 0) [.B true,.U x.node,.U x.fK,.string ⟨#[]⟩,.string ⟨#[]⟩] 0 c/\
   av.ST c (AA h.size 0) true x.node x.fK ⟨#[]⟩ ⟨#[]⟩ λb=>
   av.LD b (AA h.size 0) λr m o p q=>
   R (.T #[.agg #[.B r,.U m,.U o,.S p,.S q],.B (t.toList==(str (Lib.decDigits x.fK.toNat)).toList)]) b
  else
   av.ST k (AA h.size 0) true x.node x.fK ⟨#[]⟩ ⟨#[]⟩ λC=>
   av.LD C (AA h.size 0) λa' b' c' d' e'=>
   R (.T #[.agg #[.B a',.U b',.U c',.S d',.S e'],.B false]) C) (u:=x.node.toNat) (I.on (g.tt f)) ae λh6 F=>by
  refine⟨_,rfl,av.held ((f.tt F).get H id),?_⟩;rw[DO,ag bt];have Q:=((s.tt (u.tt w)).tt (f.tt F)).get D id;have A:=jS.mY (R:=λv c=> ∃(t:cF),v=.S t/\
   cH (AA B 0) [.B true,.U x.node,.U x.fK,.string ⟨#[]⟩,.string ⟨#[]⟩] 0 c/\
   av.ST c (AA h.size 0) true x.node x.fK ⟨#[]⟩ ⟨#[]⟩ λb=>
   av.LD b (AA h.size 0) λr m o p q=>
   R (.T #[.agg #[.B r,.U m,.U o,.S p,.S q],.B (t.toList==(str (Lib.decDigits x.fK.toNat)).toList)]) b) (u:=x.fK.toNat) (I.on (g.tt (f.tt F))) ae λh7 j=>by
   refine⟨_,rfl,av.held ((f.tt (F.tt j)).get H id),av.set (j.get Q id) λP J s8 o8=>av.ld J ?_⟩;rw[DO];have L:((str (Lib.decDigits x.fK.toNat)).toList==(str (Lib.decDigits x.fK.toNat)).toList)=true:=bt
   rw[L];have K:=U P ((g.tt (f.tt (F.tt j))).fresh ⟨ae,λy _ X=>o8 y X⟩ (λy e=>Nat.le_of_eq e.symm));rw[<-E]at K;exact K
  rw[l]at A;exact A
 rw[n]at z;exact z
def SW{s:cF}(a:nQ 45 s=true):(47:UInt8)∉s.data.toList:=λH=>by have:=List.all_eq_true.1 a _ H;revert this;decide
theorem UH(f:x.jY=false)(g:x≠ .zero)(d:cY x=true):Bn.vJ ([47,47]++x.host.data.toList++ [47]++x.jl.data.toList)=x/\Bn.vK ([47,47]++x.host.data.toList++ [47]++x.jl.data.toList)=true:=by
 have H:=d;unfold cY at H;rw[af g,af (by grind)]at H;simp only[aZ,bn]at H;have⟨⟨n,s,q,_⟩,p,_⟩:=H;have l:=ml x.host;have⟨E,a⟩:=Gb [47,47] (x.host.data.toList++([47]++x.jl.data.toList));rw[<-cu [47,47],<-cu _ [47]]at E a;have b:=Oo 47 x.host.data.toList x.jl.data.toList (SW p);have c:Bn.vJ ([47,47]++x.host.data.toList++ [47]++x.jl.data.toList)=x:=by unfold Bn.vJ;rw[E,show x.host.data.toList++([47]++x.jl.data.toList)=x.host.data.toList++47::x.jl.data.toList from rfl,b];exact Ev.ext' f.symm n.symm s.symm rfl rfl
 refine⟨c,?_⟩;unfold Bn.vK;rw[c,d,E,a,show x.host.data.toList++([47]++x.jl.data.toList)=x.host.data.toList++47::x.jl.data.toList from rfl,b];have:x.host.data.toList≠ []:=λe=>by grind
 simpa using this
def qP(o:cY x=true)(w:0<=x.fK)(d:x≠ .zero)(U:jS.nE h)(q:jS.Mx h)(Q: iG h R (.T #[mh x,.I 0])):Cl 24 #[.S (str (fW x))] h R:=by
 refine FZ (cg ?_);have i:Fr No h (h.push (.C #[.B false,.U 0,.U 0,.string ⟨#[]⟩,.string ⟨#[]⟩] 29)):=Fr.push _ _;have m:av.at (h.push (.C #[.B false,.U 0,.U 0,.string ⟨#[]⟩,.string ⟨#[]⟩] 29)) h.size false 0 0 ⟨#[]⟩ ⟨#[]⟩:=bR;generalize h.push (.C #[.B false,.U 0,.U 0,.string ⟨#[]⟩,.string ⟨#[]⟩] 29)=H at i m⊢;have a':=aD m;have V: ¬((str (fW x)).toList==(⟨#[100,116,110,58,110,111,110,101]⟩:cF).toList)=true:=by rw[dQ,oS,toList_data];unfold fW;rw[af d];split;intro e;simp at e;intro e;simp at e
 rw[af V];refine cg ?_;have j:Fr No H (H.push (.C #[.B false,.U 0,.U 0,.string ⟨#[]⟩,.string ⟨#[]⟩] 29)):=Fr.push _ _;have b:av.at (H.push (.C #[.B false,.U 0,.U 0,.string ⟨#[]⟩,.string ⟨#[]⟩] 29)) H.size false 0 0 ⟨#[]⟩ ⟨#[]⟩:=bR;generalize H.push (.C #[.B false,.U 0,.U 0,.string ⟨#[]⟩,.string ⟨#[]⟩] 29)=B at j b⊢;have b':=aD b;have F:=i.tt j;have K:=j.get m id;refine jS.A7 ⟨_,_,rfl,aB.of λJ D=> ?_⟩;have done: ∀g,Fr No B g->∀G,av.at G H.size x.jY x.node x.fK x.host x.jl->G.size=g.size->(∀y,y≠H.size->G[y]? =g[y]?)->J true G:=λg p G z sg r=>by
  subst D;dsimp only;rw[dz];have z1:=i.1;have u:Fr No h G:=(F.tt p).fresh (S:=λy=>y=H.size) ⟨ae,λy _ n=>r y n⟩ (λy e=>ae);have L:av.at G h.size false 0 0 ⟨#[]⟩ ⟨#[]⟩:=by have:=p.get K id;show G[h.size]? =_;rw[r h.size ae];exact this
  refine av.ld z (av.set L λC v s8 T=>av.ld v ?_);exact Q C (u.fresh (S:=λy=>y=h.size) ⟨ae,λy _ n=>T y n⟩ (λy e=>Nat.le_of_eq e.symm))
 rw[rO];by_cases c:x.jY=true
 .have a:fW x= [105,112,110,58]++(Lib.decDigits x.node.toNat++ [46]++Lib.decDigits x.fK.toNat):=by
   unfold fW;rw[af d,ag c];simp
  have t:=Gb [105,112,110,58] (Lib.decDigits x.node.toNat++ [46]++Lib.decDigits x.fK.toNat);rw[<-a]at t;have E:(⟨#[105,112,110,58]⟩:cF).data.toList= [105,112,110,58]:=rfl;rw[E,t.1,t.2,ag rfl,Oq];refine px c o w (U.on F) (q.on F) λk f=>⟨_,_,_,_,_,_,rfl,av.set (f.get b id) λl A s O=> ?_⟩;exact done k f l A s O
 .have P:x.jY=false:=by simpa using c
  have a:fW x= [100,116,110,58]++([47,47]++x.host.data.toList++ [47]++x.jl.data.toList):=by unfold fW;rw[af d,af c]
  have S:Lib.hasPrefix (fW x) (⟨#[105,112,110,58]⟩:cF).data.toList=false:=by rw[a];unfold Lib.hasPrefix;rfl
  rw[S,dz];refine jS.A7 ⟨_,_,rfl,aB.of λJ1 I=> ?_⟩;have t:=Gb [100,116,110,58] ([47,47]++x.host.data.toList++ [47]++x.jl.data.toList);rw[<-a]at t;have E:(⟨#[100,116,110,58]⟩:cF).data.toList= [100,116,110,58]:=rfl;rw[rO,E,t.1,t.2,ag rfl,Oq];obtain⟨X,Z⟩:=UH P d o;refine Bn.zZ (q.on F) ?_ λk f=> ?_;rw[hZ];have:=kM o w;have:=bV List.length a;simp at this⊢;omega;rw[rO,X,Z];refine⟨_,_,_,_,_,_,rfl,av.set (f.get b id) λl A s O=> ?_⟩;subst I;exact done k f l A s O

end ju
end
end Go.Proofs.YtelbcloplcdchaaGreatDoor
