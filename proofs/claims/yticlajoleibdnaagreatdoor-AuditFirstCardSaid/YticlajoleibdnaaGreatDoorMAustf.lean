/-
  IY is proved here: parts of AH proof, one behind AH other (texts of this work, merged by a program; KW AH theorem KX not use is left out). No condition.
-/
import Derived.Lib.LaidU8
import Derived.Lib.LaidTab
import Derived.Handed
import Derived.Shelf.Vars
import Derived.Test.YticlajoleibdnaaGreatDoorRows
import Derived.LaidByTextLater
import Derived.SevenTiedAt
import Derived.LaidLaws
import Derived.Test.YticlajoleibdnaaGreatDoorChecked
import Derived.KernelRfl
import Derived.Test.YticlajoleibdnaaGreatDoorMAuste
set_option linter.defProp false
set_option maxRecDepth 100000
set_option maxHeartbeats 4000000
namespace Go.Proofs.YticlajoleibdnaaGreatDoor
open Go.Den
open IntKind (wrap)
open Int (toNat)
section
namespace Bn
open Cb
open iZ (Ev dD jQ)
variable {V:cO→Bool} {h a H:Heap} {R:dH} {D:Nat→Prop} {t:List Tr} {y:List CV} {q:bH} {l c:Nat}
variable {i:Nat}
theorem He(L:ny h D q l c y)(T:dT h D t y)(G:dG t<=1000000)(B:i<100)(n: jA h R (.I (typeAt t i))):Cl 386 #[.L q l c,.I (i:Int)] h R:=by
 have I:=T.len;have w:=L.len;refine vM (ay.of λJ k=> ?_);have o: ∀g,Fr No h g->¬(i<t.length/\(at_ t i).n<=2/\pG (at_ t i) (num (at_ t i).n)=true)->J true g:=λg r d=>by subst k;dsimp only;have:=n g r;unfold typeAt at this;rw[af d]at this;exact this
 rw[fe];by_cases b:i<t.length
 case neg=>rw[iE];exact o h (Fr.refl _ _) (λe=>b e.1)
 rw[fe];have⟨A,u,E,z,p,_⟩:=elem L T b;have K:=jR b;have⟨_,v,_⟩:=hM.kn p;have m:cz (A.add (Int.toNat (i)*4)) u.s.l 0 h:=by grind
 have C:aQ h ((A.add (Int.toNat (i)*4)).add 1)=some (.U ((at_ t i).n)):=by rw[<-v];exact m.2.1
 refine⟨ae,cf.2 ⟨A,E,_,C,?_⟩⟩;by_cases d:(at_ t i).n<=2
 case neg=>rw[iE];exact o h (Fr.refl _ _) (λe=>d e.2.1)
 rw[af (by grind)];refine⟨ae,cf.2 ⟨A,E,aa.gT m ⟨ae,cf.2 ⟨A,E,_,C,fD λx f=>aa.ex (nv (at_ t i).n).s ⟨rfl,f.kp,jx (p.on f) pP ae λs j=>⟨_,rfl,j.kp,?_⟩⟩⟩⟩⟩⟩;have F:=f.tt j;cases e:pG (at_ t i) (num (at_ t i).n)with
 |false=>grind
 |true=>subst k;dsimp only;refine⟨ae,cf.2 ⟨A,E,_,F.cell C id,?_⟩⟩;have:=n s F;unfold typeAt at this;rw[ah ⟨b,d,e⟩]at this;rw[eY];exact this
def Hf(t:List Tr)(i:Nat): -1<=typeAt t i/\typeAt t i<=2:=by unfold typeAt;split<;>omega
def Tw(n:Nat):List.replicate n (Value.int .u8 0)=bc (List.replicate n 0):=by unfold bc;rw[List.map_replicate];rfl
def Xz(n k:Nat)(m:Nat)(b:m=k):IntKind.wrap .u8 (Int.fdiv (n:Int) (2 ^ m))=((UInt8.ofNat (n/2 ^ k)).toNat:Int):=by subst b;rw[DE,FM]
theorem Ky{sum:Nat}(U:lU V a)(c':Fr No a h)(L:ny h D q l c y)(T:dT h D t y)(hr:dG t<=900000)(s1:1<=sum)(s2:sum<=2)(Z: ∀b,sumOf V t sum=.ok b->∀H p c,Row H p (bc b)->b.length=2*sum->(∀d,aN p d->h.size<=d)->Fr No h H->R (.T #[.L p b.length c,.I 0]) H)(k2:sumOf V t sum=.error 3->jA h R (.T #[.Z,.I 3])):Cl 389 #[.L q l c,.I (sum:Int)] h R:=by
 have ln:=T.len;have el:=L.len;have l9:=ia t;refine xe (OI L.row L.len ae λp1 c1 h1 o1 n X=>⟨_,_,_,rfl,lV ⟨_,rfl,?_⟩⟩);rw[df (n:=2*(sum:Int)) ae ae,show 2*(sum:Int)=((2*sum:Nat):Int) by omega];refine P6 gD.tU rfl (2*sum) ae ae λh3 p3 o3 P g3=>⟨_,_,_,rfl,?_⟩;rw[Tw]at o3;have C:(List.replicate (2*sum) (0:UInt8)).length=2*sum:=List.length_replicate;refine gJ o3.iy C.symm ae λh4 v K ov Q=>aa.ex (CV.s ⟨2,0,v,none,0,0⟩) ⟨rfl,aa.cE λb h5 eb hb o=> ?_⟩;have F:=P.tt (Q.tt o);have z1:=n.1;have z3:=P.1;have z4:=Q.1;have z5:=o.1;have n1: ∀d,aN p1 d->d<h1.size:=λd j=>o1.dW j;have vl:v.b.length=2*sum:=by rw[K,C]
 refine du tI uI (o1.frame F bD) (ds:=jr ⟨2,0,v,none,0,0⟩) (.inr ⟨_,rfl,aa.im (x:=CV.s ⟨2,0,v,none,0,0⟩) hb⟩) rfl (pO _) ae ae λp6 c6 w O _ s g6=>⟨_,_,_,rfl,?_⟩;have ef:y.flatMap jr++jr ⟨2,0,v,none,0,0⟩=(y++ [(⟨2,0,v,none,0,0⟩:CV)]).flatMap jr:=bO
 rw[ef]at O;have T6:Ke w (t++ [rW (List.replicate (2*sum) 0)]) (y++ [⟨2,0,v,none,0,0⟩]):=by have A:=(T.lt.on (n.tt F)).frame s (λd j z=>cv (X d z));have b:hM w (λd=>h3.size<=d) (.mk 2 0 v.b []) ⟨2,0,v,none,0,0⟩:=GR ((ov.frame o bD).frame s (λd j z=>cv (n1 d z)));rw[K]at b;exact A.u.snoc b.u
 have lA:(y++ [(⟨2,0,v,none,0,0⟩:CV)]).length=y.length+1:=bO
 have rA:dG (t++ [rW (List.replicate (2*sum) 0)])<=900100:=by rw[iB];simp only[dG,room,C];omega
 refine kI (D:=λ_=>True) ⟨lA.symm,O.iy,λ_ _ _=>trivial,O.le⟩ T6 ae λh7 a' tz S=>aa.ex a'.s ⟨rfl,?_⟩;have I:Fr No h w:=(n.tt F).fresh s (λd j=>X d j);have k:=I.tt S;have z6:=I.1;have z7:=S.1;have f:sumOf V t sum=sumOf V t sum:=rfl;conv at f=>rhs;unfold sumOf
 refine GU (x:=a') U (c'.tt k) tz.u (by simp only[room,bZ];omega) (λx g p8 c8 G n8 u=>⟨_,_,_,_,rfl,?_⟩) (λx g u=>⟨_,_,_,_,rfl,?_⟩);rw[fe];rw[ah x]at f;have m:=k.tt u;have b':(enc (wW (t++ [rW (List.replicate (2*sum) 0)]))).length<=900200:=by have:=mD (wW (t++ [rW (List.replicate (2*sum) 0)]));simp only[room,bZ]at this;omega
 generalize enc (wW (t++ [rW (List.replicate (2*sum) 0)]))=B at f G b'⊢;have z8:=m.1;by_cases E:sum=1;rw[ah (by rw[E];rfl)];rw[ah E]at f;refine QB G.iy rfl ae ⟨_,rfl,bn ?_⟩;rw[Xz (Ec B) 8 (min (Int.toNat 8) (IntKind.bits .u16)) rfl,FM];have r:Row (g.push (.C (bc (Iq B)).toArray 5)) (Sa g.size 0) (bc (Iq B)):=gW;exact Z _ f _ _ _ r (by rw[E];rfl) (λd ⟨A,J,M⟩=>by cases J;rw[<-M];exact z8) (m.tt (Fr.push _ _));rw[af (λe=>E (by grind))];rw[af E]at f;refine Ig G.iy rfl ae ⟨_,rfl,bn ?_⟩;rw[Xz (mq B) 24 (min (Int.toNat 24) (IntKind.bits .u32)) rfl,Xz (mq B) 16 (min (Int.toNat 16) (IntKind.bits .u32)) rfl,Xz (mq B) 8 (min (Int.toNat 8) (IntKind.bits .u32)) rfl,FM];have r:Row (g.push (.C (bc (MW B)).toArray 5)) (Sa g.size 0) (bc (MW B)):=gW;exact Z _ f _ _ _ r (by rw[show sum=2 by omega];rfl) (λd ⟨A,J,M⟩=>by grind) (m.tt (Fr.push _ _));rw[iE];rw[af (by rw[x];decide)]at f;exact k2 f g (k.tt u)
theorem Nh(U:lU V a)(c':Fr No a h)(L:ny h D q l c y)(v:dT h D t y)(hr:dG t<=800000)(hi:i<100)(k1: ∀T,oE V t i=.ok T->∀H z,wv H (λb=>h.size<=b) T z->Fr No h H->R (.T #[z.agg,.I 0]) H)(k2: ∀e,oE V t i=.error e->jA h R (.T #[zv.agg,.I e])):Cl 397 #[.L q l c,.I (i:Int)] h R:=by
 have ln:=v.len;have el:=L.len;have l9:=ia t;refine yt (aa.cE λa' h1 eb K F=>ay.of λy' hJ=> ?_);have zb:=aE K;have no: ∀g e,Fr No h1 g->oE V t i=.error e->aa.cR g (AA a' 0) .z λG=>aa.ck G (AA a' 0) λt'=>R (.T #[t'.agg,.I e]) G:=λg e A s=>Iu (A.get K id) λG f=>k2 e s G ((F.tt A).fresh f (λb e=>ae));rw[af bO];have d:oE V t i=oE V t i:=rfl;conv at d=>rhs;unfold oE
 by_cases f':i<t.length
 case neg=>rw[aq ae];rw[af f']at d;subst hJ;dsimp only;rw[ah rfl];exact no h1 1 (Fr.refl _ _) d
 rw[ah f']at d;rw[aA ae];subst hJ;dsimp only;rw[af (show¬false=true by decide)];refine He (L.frame F bD) (v.on F) ae hi λh4 m=>⟨_,rfl,ay.of λJ1 d'=>Re U (c'.tt (F.tt m)) (L.frame (F.tt m) bD) (v.on (F.tt m)) ae λn x=>⟨_,rfl,?_⟩⟩;have F':=Hf t i;have I:=F.tt (m.tt x);have r': ¬(t.all (iq V)=true/\0<=typeAt t i)->J1 true n:=λhn=>by subst d';dsimp only;rw[ah rfl];exact no n 3 (m.tt x) (by rw[d,af hn])
 cases ha:t.all (iq V)with
 |false=>grind
 |true=>
 rw[fe];by_cases ht:0<=typeAt t i
 case neg=>grind
 rw[aA ae];clear r';rw[ah ⟨ha,ht⟩]at d;subst d';dsimp only;rw[af (show¬false=true by decide)];refine kI (L.frame I bD) (v.on I) ae λh7 z tz r=>aa.ex z.s ⟨rfl,aa.fX (x:=z.s) λB C A' M k=>ay.of λJ2 o'=> ?_⟩;have z1:=F.1;have z4:=m.1;have I':=x.1;have z5:=I.1;have z7:=r.1;have z9:=k.1;have J':=aE M;have u:=I.tt (r.tt k);have done: ∀g (w:CV) T,wv g (λb=>n.size<=b/\b≠B) T w->room T<=900000->aa.ff g B w.s->Fr (λb=>n.size<=b) C g->(oE V t i=if iq V T=true then .ok T else .error 3)->J2 g:=by
  intro g w T E rt hw A s;subst o';try dsimp only
  have Q:Fr No h g:=u.fresh A (λb e=>ae);have e': ∀{g2},Fr No g g2->aa.ff g2 a' .z:=λf=>f.get (A.get ((m.tt (x.tt (r.tt k))).get K id) ae) id;refine aa.dZ hw (fA U (c'.tt Q) E.u ae λB' o=>⟨_,rfl,?_⟩);cases O:iq V T with
  |false=>rw[iE];rw[O]at s;exact Iu (e' o) λG f=>k2 3 s G ((Q.tt o).fresh f (λb e=>ae))
  |true=>rw[fe];rw[O,ah rfl]at s;refine aa.dZ (o.get hw id) (fin (e' o) (E.frame o bD) (λb j e=>cv F.1) λm' v' l'=>k1 T s m' w (v'.mono λb j=>ae) ((Q.tt o).fresh l' (λb e=>ae)))
 have P:wv C (λb=>n.size<=b/\b≠B) (wW t) z:=by obtain⟨⟨a1,a2,a3,a4⟩,Z,a5,a6,a7,a8⟩:=tz;refine⟨⟨a1,a2,a3,((MU a4).mono λb j=>ae).frame k bD⟩,Z,a5,a6.frame k bD,λb j=>⟨a7 b j,cv (a6.dW j)⟩,(dT.mono (λb j=>by grind) a8.lt).on k⟩
 by_cases hp:0<typeAt t i
 case neg=>rw[fe];rw[af hp]at d;exact done C z (wW t) P (by simp only[room,bZ];omega) M (Fr.refl _ _) d
 rw[ah (aq hp)];rw[ah hp]at d;obtain⟨sum,p'⟩:=fi ht;rw[p']at d⊢;rw[aG]at d;refine Ky U (c'.tt u) (L.frame u bD) (v.on u) ae ae ae (λbs hs n' E' z' u' lb nb p=>⟨_,_,_,_,rfl,?_⟩) (λhs n' p=>⟨_,_,_,_,rfl,?_⟩)
 .rw[fe];rw[hs]at d;refine⟨_,_,_,aj (p.get M id),gJ u' rfl ae λC' w' ev ov b'=>aa.ex (CV.s ⟨2,0,w',none,0,0⟩) ⟨rfl,b'.kp,?_⟩⟩;have h':=p.tt b';have g0:Fr (λb=>b=B) n C:=(r.tt k).mono λ_ _=>False.elim;obtain⟨Z,ez,X⟩:=UC (g0:=n) P M g0;have k':z.s.Fw=Z.length:=ez.symm;have zl:Z.length=t.length:=by have:=X.tr.len;exact this.symm
  have q9: ∀b,aN z.q b->b<C.size:=λb j=>X.own.dW j;have G':=p.1;have H':=b'.1;have i':=X.on h';rw[k'];obtain⟨zk,zn,g',_⟩:=P.1;refine UE i' ae (hM.mono (λb j=>⟨ae,λO=>cv (q9 b O)⟩) (GR ov)) λG x' q' j' S hl D' ho=> ?_;have s':z.v.ok G (λb=>n.size<=b/\b≠B):=by have J:z.v.b= []:=g';exact⟨by rw[J];exact Row.nil,λe=>absurd J e,P.1.2.2.2.cap⟩
  have E:=UD (k':=z.n) S s';have ek:z.k=4:=zk;have en:z.n=0:=zn;have J:z.v.b= []:=g';rw[ek,en,J,ev]at E;have lr:=iB (a:=t) (b:= [rW bs]);simp only[dG,room,bZ]at lr;refine done G ⟨z.k,z.n,z.v,q',x'.length,j'⟩ (wW (t++ [rW bs])) (by rw[ek,en];exact E) (by simp only[room,bZ];omega) S.cV ?_ d;refine⟨ae,λb j hn=> ?_⟩;rw[S.fr.2 b ae ae,(r.tt k).2 b ae id]
 rw[iE];rw[hs]at d;exact Iu (p.get ((m.tt (x.tt (r.tt k))).get K id) id) λG f=>k2 3 d G ((u.tt p).fresh f (λb e=>cv F.1))
theorem Ni{T:Tr}{x:CV}(U:lU V a)(f':Fr No a h)(tx:KV h T x)(P:room T<=800000)(hi:i<100)(k1: ∀u,rM V T i=.ok u->dG u<=dG T.l->∀H p z c,ny H (λd=>h.size<=d) p z.length c z->dT H (λd=>h.size<=d) u z->Fr No h H->R (.T #[.L p z.length c,.I 0]) H)(Z: ∀e,rM V T i=.error e->e≠0->jA h R (.T #[.Z,.I e])):Cl 324 #[x.agg,.I (i:Int)] h R:=by
 obtain⟨xk,xn,xb,xl,xv,y,L,o⟩:=hM.kn tx;have rl:=oW (t:=T);have ln:=o.len;have el:=L.len;have l9:=ia T.l;have e4:x.s.f0=T.k:=xk;have k':x.s.Fw=T.l.length:=xl;refine yu (x:=x.s) (aa.cE λs' h1 eb hb J=>ay.of λi' hJ=>aa.dZ hb (fA U (f'.tt J) (tx.on J) ae λh3 f3=>⟨_,rfl,?_⟩));have w:=J.tt f3;have O:=f3.get hb id;have b:rM V T i=rM V T i:=rfl;conv at b=>rhs;unfold rM
 have B: ¬(iq V T=true/\T.k=4/\0<=typeAt T.l i)->∀g,Fr No h g->R (.T #[.Z,.I 3]) g:=λk g F=>Z 3 (by rw[b,af k]) bA g F;have I: ¬(iq V T=true/\T.k=4/\0<=typeAt T.l i)->i' true h3:=λk=>by subst hJ;dsimp only;rw[ah rfl];exact B k h3 w
 cases hR:iq V T with
 |false=>exact I (λe=>by rw[hR]at e;cases e.1)
 |true=>
 rw[af (show¬(!true)=true by decide)];refine⟨_,aj O,?_⟩;rw[e4];by_cases K:T.k=4
 case neg=>rw[show(T.k !=4)=true by simpa using K];exact I (λe=>K e.2.1)
 rw[show(T.k !=4)=false by simpa using K];clear I;subst hJ;dsimp only;rw[af (show¬false=true by decide)];refine⟨_,_,_,aj O,He (L.frame w bD) (o.on w) ae hi λh4 f4=>⟨_,rfl,?_⟩⟩;have j:=w.tt f4;have v:=f4.get O id;by_cases S:0<=typeAt T.l i
 case neg=>rw[iE];exact B (λe=>S e.2.2) h4 j
 rw[fe];rw[ah ⟨hR,K,S⟩]at b;clear B;have e': ∀{g}(u:List Tr)(z:List CV){n c:Nat}{p:bH},ny g (λ_=>True) p n c z->Ke g u z->dG u<=dG T.l->Fr No h g->rM V T i=.ok u->Cl 327 #[.L p n c] g λr' o'=>aa.EX λC=>r'=C.agg/\R (.T #[.L C.Pl C.Fw C.Ll,.I 0]) o':=by intro g u z n c p Lz Tz rz F hu;refine kI Lz Tz ae λn' a' tz l'=>aa.ex a'.s ⟨rfl,?_⟩;obtain⟨_,ws,a5,a6,a7,a8⟩:=tz;have zg:=F.1;have:=k1 u hu rz n' a'.q ws a'.cl ⟨rfl,a6.iy,λ_ d X=>cv (a7 d X),a6.le⟩ (dT.mono (λd X=>cv X.1) a8) (F.tt l');rw[<-a5]at this;exact this
 by_cases a:typeAt T.l i=0;rw[ah (by rw[a];rfl)];rw[ah a]at b;exact⟨_,_,_,aj v,e' T.l y (L.frame j bD) (o.on j) (bf _) j b⟩;rw[af (dQ a)];rw[af a]at b;have x':i<T.l.length:=by
  rcases Nat.lt_or_ge i T.l.length with hq|hq;exact hq;have:typeAt T.l i= -1:=by unfold typeAt;rw[af (λe=>ae)]
  omega
 have C':=Hf T.l i;obtain⟨sum,p'⟩:=fi S;rw[p']at b⊢;rw[aG]at b;have d':1<=sum/\sum<=2:=ae
 obtain⟨n,k⟩: ∃n,T.l.length=n+1:=⟨T.l.length - 1,ae⟩;rw[show T.l.length - 1=n by omega]at b;have ew:IntKind.wrap .i64 ((x.s.Fw:Int) - 1)=(n:Int):=by rw[k',k,eY];omega
 refine⟨_,_,_,aj v,?_⟩;rw[ew];obtain⟨j',d,ea,hh,ty,_⟩:=elem (L.frame j bD) (o.on j) (i:=n) ae;have rn:=jR (ts:=T.l) (i:=n) ae;obtain⟨yk,yn,yb,yl,yv,_⟩:=hM.kn ty;generalize y':at_ T.l n=f at ty rn yk yn yb yl b;have B':=oW (t:=f);refine⟨_,_,_,aj v,ae,cf.2 ⟨j',ea,aa.gT (x:=d.s) (by rw[aG];exact hh) (aa.fX (x:=d.s) λb1 h6 u' A s=>ay.of λJ1 c'=> ?_)⟩⟩;have F6:=j.tt s;have lb:d.s.SF=f.b.length:=by show d.v.b.length=_;rw[yb]
 have B: ∀g,Fr No h6 g->¬(i<n/\pG f (rW f.b)=true/\f.b.length=2*sum)->J1 true g:=λg F k=>by
  subst c';try dsimp only
  rw[ah rfl];exact Z 3 (by rw[b,af k]) bA g (F6.tt F)
 by_cases c1:i<n
 case neg=>grind
 rw[fe];have h': ∀{g},Fr No h6 g->Row g d.v.p (bc f.b):=λF=>by rw[<-yb];exact((yv.frame s bD).frame F bD).row
 refine aa.dZ A ⟨_,_,_,aj A,gJ (h' (Fr.refl _ _)) lb ae λv' g' ev ov M=>aa.ex (CV.s ⟨2,0,g',none,0,0⟩) ⟨rfl,M.kp,?_⟩⟩;refine jx (x:=d) (y:=⟨2,0,g',none,0,0⟩) (s:=rW f.b) (ty.on (s.tt M)) (ev▸GR ov) ae λw' m'=>⟨_,rfl,?_⟩;have m:=M.tt m';cases c2:pG f (rW f.b)with
 |false=>grind
 |true=>
 rw[af (show¬(!true)=true by decide)];refine⟨_,_,_,aj (m.get A id),lV ⟨_,rfl,(Fr.refl _ _).kp,?_⟩⟩;rw[lb,df (n:=2*(sum:Int)) ae ae];by_cases c3:f.b.length=2*sum
 case neg=>grind
 rw[show((f.b.length:Int) !=2*(sum:Int))=false by simp only[bne_eq_false_iff_eq];omega];clear B;rw[ah ⟨c1,c2,c3⟩]at b;subst c';try dsimp only
 rw[af (show¬false=true by decide)];have G:=F6.tt m;have cut: ∀{g},Fr No h g->ny g (λ_=>True) (bV x.s.Pl x.s.Ll 0 4) ((Int.toNat (n:Int)) - 0) (x.s.Ll - 0) (y.take n):=fun {g} F=>by have P:=(L.frame F bD).row.sub (cap:=x.cl) (l:=0) (u:=n) (sz:=4) (bg _) (cv L.cap);rw[mM jr 4 gI,Nat.zero_mul,List.drop_zero]at P;have hc:x.ll<=x.cl:=L.cap;exact⟨by rw[bM];omega,P,λ_ _ _=>trivial,by show n - 0<=x.cl - 0;omega⟩
 have cc:n<=x.s.Ll:=by have hc:x.ll<=x.cl:=L.cap;show n<=x.cl;omega
 have rt:dG (T.l.take n)<=dG T.l:=oQ _ _;refine⟨_,_,_,aj ((s.tt m).get v id),ae,Ky U (f'.tt G) (cut G) ((o.on G).take n) ae d'.1 d'.2 (λbs Q b' A' t' q' z' nb r=>⟨_,_,_,_,rfl,?_⟩) (λQ b' r=>⟨_,_,_,_,rfl,?_⟩)⟩;rw[fe];rw[Q]at b;dsimp only at b;refine⟨_,_,_,aj ((m.tt r).get A id),ja q' (h' (m.tt r)) rfl lb ⟨_,rfl,?_⟩⟩;have E:=G.tt r;by_cases ce:bs=f.b;rw[aq ce,af (show¬(!true)=true by decide)];rw[ah ce]at b;exact⟨_,_,_,aj (((s.tt m).tt r).get v id),ae,e' (T.l.take n) (y.take n) (cut E) ((o.on E).take n) rt E b⟩;grind;rw[iE];rw[Q]at b;exact Z 3 b bA b' (G.tt r)

end Bn
end
section
namespace Bn
open Cb
open iZ (Ev dD jQ)
variable {V:cO→Bool} {h a H:Heap} {R:dH}
variable {T:List Tr} {i:Nat} {t:Tr} {e:Int}
abbrev Prim.s(p:Prim):aH.S:=⟨p.fl,p.sum,p.dest.lS,p.dest.node,p.dest.iA,p.dest.host,p.dest.kj,p.rep.lS,p.rep.node,p.rep.iA,p.rep.host,p.rep.kj,p.id.e.lS,p.id.e.node,p.id.e.iA,p.id.e.host,p.id.e.kj,p.id.tm,p.id.sq,p.kG⟩
def Prim.wf(p:Prim):Prop:=0<=p.dest.iA/\0<=p.rep.iA/\0<=p.id.e.iA
variable {p:Prim}
def Xb{b:Nat}{y:aH.S}(x:Prim){K:aH.S->cM}(c:aH.ff h b y)(j: ∀H,Fr (λy=>y=b) h H->K x.s H):
  aH.cR h (AA b 0) x.s λg=>aH.ck g (AA b 0) λr=>K r g:=
 aH.fB c λg d f _=>aH.dZ d (j g f)
def OJ(p:Prim)(c: jA h R (.B (xa p))):Cl 395 #[p.s.agg] h R:=by refine xf (aH.cE λb l E d f=>⟨_,aj d,?_⟩);unfold xa at c;simp only[fx]at c;refine jM c f λc=>⟨_,aj d,jM c f λc=>⟨_,aj d,jM c f λc=>oh p.dest d rfl rfl rfl rfl rfl (iZ.fA p.dest λm F=>⟨_,rfl,jM c (f.tt F) λc=>oh p.rep (F.get d id) rfl rfl rfl rfl rfl (iZ.fA p.rep λn g=>⟨_,rfl,jM c (f.tt (F.tt g)) λc=>Xa p.id ((F.tt g).get d id) rfl rfl rfl rfl rfl rfl rfl (Ha p.id λk j=>⟨_,rfl,jM c (f.tt (F.tt (g.tt j))) λc=>⟨_,aj ((F.tt (g.tt j)).get d id),?_⟩⟩)⟩)⟩)⟩⟩;rw[show decide ((p.s.f19:Int)<=1099511627776)=_ from nH p.kG 1099511627776];exact c k (f.tt (F.tt (g.tt j)))
def Hh(h:xa p=true):0<=p.sum/\p.sum<=2/\dD p.dest=true/\dD p.rep=true/\kF p.id=true/\p.kG<=1099511627776:=by unfold xa at h;simp only[bE,bN]at h;exact⟨h.1.1.1.1.1.2,h.1.1.1.1.2,h.1.1.1.2,h.1.1.2,h.1.2,h.2⟩
def EK(h:xa p=true):dG (JW p)<=1000:=by have⟨_,_,A,b,c,_⟩:=Hh h;have:=mO _ A;have:=mO _ b;have:=mO _ (EJ c).1;simp only[JW,dG,room,bZ];omega
def EL(h:oE V T i=.ok t):room t<=dG T+30:=by
 unfold oE at h;split at h;split at h;split at h
 split at h
 cases h;rename_i b c;split at h;cases h;have:b.length<=4:=by unfold sumOf at c;split at c;cases c;split<;>simp[Iq,MW];cases c
 simp only[room,iB,dG,bZ];omega;cases h;split at h;cases h;simp only[room,bZ];omega;cases h;cases h;cases h
def EM(h:pM V p=.ok t):room t<=1100:=by unfold pM at h;split at h;rename_i b;have:=EL h;have:=EK b;omega;cases h
theorem Rf(p:Prim)(w:p.wf)(U:lU V a)(n':Fr No a h)(u: ∀t,pM V p=.ok t->∀H z,wv H (λy=>h.size<=y) t z->Fr No h H->R (.T #[z.agg,.I 0]) H)(K: ∀e,pM V p=.error e->jA h R (.T #[zv.agg,.I e])):Cl 328 #[p.s.agg] h R:=by
 refine xg (aH.cE λo' h1 eb Q D=>aa.cE λb1 h2 p' S l=>aH.dZ (l.get Q id) (OJ p λh3 j=>⟨_,rfl,?_⟩));have k:=(l.tt j).get Q id;have q:=j.get S id;have d:=D.tt (l.tt j);have z1:=D.1;have D':=aE S;have z3:=j.1;unfold pM at u K;cases s:xa p with
 |false=>exact Iu q λh4 f4=>K 3 (by grind) h4 (d.fresh f4 (λy e=>ae))
 |true=>
 rw[fe];rw[s,ah rfl]at u K;have⟨s0,s2,eD,eR,eI,_⟩:=Hh s;have hE:=(EJ eI).1;refine oh p.dest k rfl rfl rfl rfl rfl (Af p.dest w.1 (λ_ h5 Z td f5=>aa.ex Z.s ⟨_,rfl,aa.fX λb2 h7 q' e' P=> ?_⟩) (λe=>by grind));have B:=f5.tt P;refine oh p.rep (B.get k id) rfl rfl rfl rfl rfl (Af p.rep w.2.1 (λ_ h8 v tr n=>aa.ex v.s ⟨_,rfl,aa.fX λb3 u' r' g' g=> ?_⟩) (λe=>by grind));have x:=B.tt (n.tt g);refine Xa p.id (x.get k id) rfl rfl rfl rfl rfl rfl rfl (Hd p.id w.2.2 (λ_ v' zi ti b=>aa.ex zi.s ⟨_,rfl,aa.fX λb4 w' s' X f=> ?_⟩) (λe=>by grind));have A:=x.tt (b.tt f);have r:=A.get k id;have f':=(n.tt (g.tt (b.tt f))).get e' id;have h':=(b.tt f).get g' id;have⟨ik,B',ib,il,iv,ys,L,C⟩:=hM.kn (ti.u.on f);have lI:(Vh p.id).l.length=2:=rfl;have li:zi.s.Fw=2:=il;have⟨a0,y0,a',i',l',_⟩:=elem L C (i:=0) ae;have⟨a1,y1,b',j',m',_⟩:=elem L C (i:=1) ae;refine⟨_,aj r,_,aj r,aa.dZ f' ⟨_,_,_,aj X,ae,cf.2 ⟨a0,a',aa.gT i' (aa.dZ h' ⟨_,_,_,aj X,ae,cf.2 ⟨a1,b',aa.gT j' ⟨_,aj r,?_⟩⟩⟩)⟩⟩⟩;have⟨sum,hs⟩:=fi s0;have es:=ae
 refine fD λx' E=>aa.ex (nv 7).s ⟨rfl,E.kp,fD λy' I=>aa.ex (nv p.fl).s ⟨rfl,I.kp,?_⟩⟩;rw[show p.s.f1=((sum:Nat))from hs,HN];refine fD λz' J=>aa.ex (nv sum).s ⟨rfl,J.kp,fD λA' M=>aa.ex (nv p.kG).s ⟨rfl,M.kp,pQ (ys:= [nv 7,nv p.fl,nv sum,Z,y0,v,y1,nv p.kG]) rfl λb5 c' t' L5 O=>⟨O.kp,?_⟩⟩⟩;have G:=E.tt (I.tt (J.tt (M.tt O)));have T5:Ke c' (JW p) [nv 7,nv p.fl,nv sum,Z,y0,v,y1,nv p.kG]:=by unfold JW;rw[es];exact .cons pP (.cons pP (.cons pP (.cons (td.u.on (P.tt (n.tt (g.tt (b.tt (f.tt G)))))) (.cons (l'.on G) (.cons (tr.u.on (g.tt (b.tt (f.tt G)))) (.cons (m'.on G) (.cons pP .nil)))))))
 have F:=A.tt G;have rp:=EK s;refine Nh (i:=2) U (n'.tt (d.tt F)) (L5 (λ_=>True) trivial) T5 ae ae (λt ht d' z tz c=>aa.ex z.s ⟨_,rfl,?_⟩) (λe he d' c=>aa.ex zv.s ⟨_,rfl,?_⟩);have C':=F.1;exact fin ((F.tt c).get q id) tz (λy hy e=>ae) λo k' m=>u t ht o z (k'.mono λy hy=>ae) ((d.tt (F.tt c)).fresh m (λy e=>ae));exact Iu ((F.tt c).get q id) λo m=>K e he o ((d.tt (F.tt c)).fresh m (λy e=>ae))
theorem Hj(h:oE V T i=.error e):e≠0:=by
 unfold oE at h;split at h;split at h
 split at h
 split at h
 rename_i b;cases h;unfold sumOf at b;split at b;cases b;grind;grind;grind;cases h;decide;grind
theorem OK(h:pM V p=.error e):e≠0:=by unfold pM at h;split at h;exact Hj h;grind
theorem Rh(p:Prim)(w:p.wf)(U:lU V a)(u:Fr No a h)(c: ∀H z q,(∀t,pM V p=.ok t->q=0/\KV H t z)->(∀e,pM V p=.error e->q≠0)->Fr No h H->R (.T #[z.s.agg,.I q]) H):Cl 328 #[p.s.agg] h R:=
 Rf p w U u (λt d H z g f=>c H z 0 (λj e=>by rw[d]at e;cases e;exact⟨rfl,g.u⟩) (λe b=>by grind) f) (λe b H f=>c H zv e (λt d=>by grind) (λ_ _=>OK b) f)
def Ri{x:CV}(U:lU V a)(z':Fr No a h)(mx:jk.Mx h)(tx:KV h t x)(hr:room t<=400000)(k1: ∀p,Bb V t=.ok p->p.wf->jA h R (.T #[p.s.agg,.I 0]))(k2: ∀e,Bb V t=.error e->e≠0->jA h R (.T #[Prim.zero.s.agg,.I e])):Cl 254 #[x.agg] h R:=by
 have rl:=oW (t:=t);refine yw (x:=x.s) (aa.cE λp' M eb hb f1=>aH.cE λb1 h2 f3 k' f2=>aa.dZ (f2.get hb id) ?_);have n:=f1.tt f2;have c4:=f2.get hb id;have zb:=aE hb;have i5:=aE k';have z1:=f1.1;have z2:=f2.1;have no: ∀g e,Fr No h2 g->Bb V t=.error e->e≠0->aH.cR g (AA b1 0) .z λG=>aH.ck G (AA b1 0) λr=>R (.T #[r.agg,.I e]) G:=λg e j Q hn=>Xb .zero (j.get k' id) λG j'=>k2 e Q hn G ((n.tt j).fresh j' (λy e=>ae));have b:Bb V t=Bb V t:=rfl;conv at b=>rhs;unfold Bb
 refine Ni (i:=2) U (z'.tt n) (tx.on n) ae ae (λu c ru v p zs f0 L TS F=>⟨_,_,_,_,rfl,?_⟩) (λe Q hn v F=>⟨_,_,_,_,rfl,?_⟩)
 case refine_2=>rw[ah (dQ hn)];exact no v e F (by rw[b,Q]) hn
 rw[fe];rw[c]at b;dsimp only at b;have ln:=TS.len;have l9:=ia u;by_cases l8:u.length=8
 case neg=>rw[ah (by simp only[fp,ne_eq];omega)];exact no v 3 F (by rw[b,af l8]) bA
 rw[af (by simp only[fp,ne_eq];omega)];rw[ah l8]at b;have z3:=F.1;have I: ∀i,i<8->∃(A:Addr)(y:CV),p=some A/\cz (A.add (i*4)) y.s.l 0 v/\KV v (at_ u i) y/\(∀{g},Fr No v g->aQ g ((A.add (i*4)).add 1)=some (.U ((at_ u i).n:Int))):=λi hi=>by obtain⟨A,y,ea,hh,ty,_⟩:=elem L TS (i:=i) ae;obtain⟨_,yn,_⟩:=hM.kn ty;exact⟨A,y,ea,hh,ty.u,λj=>j.cell (by have:=hh.2.1;rw[<-yn];exact this) id⟩
 have g': ∀i,i<8->room (at_ u i)<=dG u:=λi hi=>jR ae;obtain⟨a3,y3,M',d5,e5,_⟩:=I 3 ae;have r3:=g' 3 ae;have r5:=g' 5 ae;have r4:=g' 4 ae;have r6:=g' 6 ae;have u2:=z'.tt n;have m2:=mx.on n;refine⟨ae,cf.2 ⟨a3,M',aa.gT (x:=y3.s) d5 (IC U (u2.tt F) (m2.on F) e5 ae λd qd ⟨d3,d4,wd⟩ h6 f6=>aw.ex d.s ⟨_,rfl,aw.fX (x:=d.s) λb2 h8 f7 c5 f8=> ?_⟩)⟩⟩;obtain⟨a5,y5,P',d7,e7,_⟩:=I 5 ae;have w:=f6.tt f8;refine⟨ae,cf.2 ⟨a5,P',aa.gT (x:=y5.s) (lO w id d7) (IC U (u2.tt (F.tt w)) (m2.on (F.tt w)) (e7.on w) ae λr qr ⟨e1,e2,wr⟩ h9 f9=>aw.ex r.s ⟨_,rfl,aw.fX (x:=r.s) λb3 x' g0 c7 r'=>ay.of λA' hJ=> ?_⟩)⟩⟩;obtain⟨a4,y4,O',d6,e6,_⟩:=I 4 ae;obtain⟨a6,y6,Q',d8,e8,_⟩:=I 6 ae;have m:=w.tt (f9.tt r');have c6:=(f9.tt r').get c5 id;have i':=u2.tt (F.tt m);have e':=m2.on (F.tt m);have h': ∀g l' (X:CC) (q:Int),aB.ff g l' X.s->Fr No x' g->IQ V (wW [at_ u 4,at_ u 6]) X q->A' (Sa l' 0) q g:=by
  intro g l' X q hs j ⟨d9,e0,wq⟩;have B:=m.tt j;obtain⟨D',w1,R',_,_,G'⟩:=I 1 ae;obtain⟨E',w2,S',_,_,H'⟩:=I 2 ae;obtain⟨F',w7,T',_,_,I'⟩:=I 7 ae;subst hJ;dsimp only;refine⟨ae,cf.2 ⟨D',R',_,G' B,ae,cf.2 ⟨E',S',_,H' B,aw.dZ (j.get c6 id) (aw.dZ (j.get c7 id) (av.2 (aB.dZ hs ⟨ae,cf.2 ⟨F',T',_,I' B,?_⟩⟩)))⟩⟩⟩;have n2:(at_ u 2).n<=2:=by
   have:0<=typeAt u 2:=by
    unfold rM at c;split at c;rename_i M;have key: ∀k,2<k->typeAt (t.l.take k) 2=typeAt t.l 2:=λk hk=>by unfold typeAt at_;rw[aL,aL,eC,ah hk,bM];exact ite_congr (propext (by constructor<;>(rintro⟨A,p'⟩;exact⟨ae,p'⟩))) (λ_=>rfl) (λ_=>rfl)
    split at c
    cases c;exact M.2.2;split at c;rename_i h2;split at c;cases c;split at c;cases c;rw[key _ h2.1];exact M.2.2;cases c;cases c;cases c
   unfold typeAt at this;split at this;rename_i M;exact M.2.1;omega
  refine aH.cE λb4 g7 g1 c8 s'=>⟨s'.kp,?_⟩;rw[df (n:=(((at_ u 2).n:Nat):Int)) ae ae];refine aH.fB (x:=(Aa u d r X).s) c8 λa7 q' U' _=>aH.dZ q' ?_;have zg:=B.1;have m':Fr No h2 a7:=(F.tt (B.tt s')).fresh U' (λy e=>ae);refine Rh (Aa u d r X) ⟨wd,wr,wq⟩ U (u2.tt m') λg8 z qz e3 e4 V'=>aa.ex z.s ⟨_,rfl,aa.fX (x:=z.s) λb5 O g2 c9 t'=>ay.of λJ1 y'=> ?_⟩;have n':=V'.tt t';have C:=m'.tt n';have D: ∀g,Fr No O g->Bb V t=.error 3->J1 true g:=λg j Q=>by
   subst y';try dsimp only
   rw[ah rfl];exact no g 3 (C.tt j) Q bA
  by_cases S:qd=0
  case neg=>rw[ah (dQ S)];exact D O (Fr.refl _ _) (by rw[b,d4 S])
  rw[af (dQ S)];by_cases Z:qr=0
  case neg=>rw[ah (dQ Z)];exact D O (Fr.refl _ _) (by rw[b,e2 Z];cases pL V (at_ u 3)<;>rfl)
  rw[af (dQ Z)];by_cases c3:q=0
  case neg=>rw[ah (dQ c3)];exact D O (Fr.refl _ _) (by rw[b,e0 c3];cases pL V (at_ u 3)<;>cases pL V (at_ u 5)<;>rfl)
  rw[af (dQ c3)];rw[d3 S,e1 Z,d9 c3]at b;dsimp only at b;cases P:pM V (Aa u d r X)with
  |error e=>rw[P]at b;rw[ah (dQ (e4 e P))];exact D O (Fr.refl _ _) b
  |ok o'=>
   rw[P]at b;dsimp only at b;obtain⟨rfl,l⟩:=e3 o' P;rw[fe];have ra:=EM P;refine aa.dZ c9 (aa.dZ (x:=x.s) (C.get c4 id) (jx (x:=z) (y:=x) (l.on t') (tx.on (n.tt C)) ae λa8 a'=>⟨_,rfl,?_⟩));cases hs:pG o' t with
   |false=>exact D a8 a' (by rw[b,af (by rw[hs];decide)])
   |true=>
    rw[hs,ah rfl]at b;subst y';try dsimp only
    rw[fe];exact aH.dZ ((n'.tt a').get q' id) (Xb (Aa u d r X) ((C.tt a').get k' id) λG j'=>k1 _ b ⟨wd,wr,wq⟩ G ((n.tt (C.tt a')).fresh j' (λy e=>ae)))
 have rI:dG [at_ u 4,at_ u 6]<=2*dG u:=by simp only[dG];omega
 have f':room (wW [at_ u 4,at_ u 6])<=900000:=by simp only[room,bZ];omega
 refine⟨ae,cf.2 ⟨a4,O',aa.gT (x:=y4.s) (lO m id d6) ⟨ae,cf.2 ⟨a6,Q',aa.gT (x:=y6.s) (lO m id d8) ?_⟩⟩⟩⟩;have T2:Ke x' [at_ u 4,at_ u 6] [y4,y6]:=two (e6.on m) (e8.on m);refine⟨pQ (ys:= [y4,y6]) rfl λb6 g9 g3 L6 f=>⟨?_,?_,trivial⟩,aB.cE λC' i1 f4 c2 J=>⟨J.kp,pQ (ys:= [y4,y6]) rfl λe9 i2 f5 B' K=> ?_⟩,trivial⟩;refine kI (L6 (λ_=>True) trivial) (T2.on f) ae λh0 z l o=>aa.ex z.s ⟨rfl,?_,?_,trivial⟩;exact ID U (i'.tt (f.tt o)) (e'.on (f.tt o)) l.u f' λX q s h1 X'=>aB.ex X.s ⟨_,rfl,aB.fX (x:=X.s) λb7 a9 g4 d0 Z'=>h' a9 b7 X q d0 (f.tt (o.tt (X'.tt Z'))) s⟩;refine aB.cE λb8 h3 g5 d1 b'=>ID U (i'.tt (f.tt (o.tt b'))) (e'.on (f.tt (o.tt b'))) (l.u.on b') f' λX q s h4 u'=>aB.ex X.s ⟨_,rfl,aB.fB (x:=X.s) (u'.get d1 id) λb0 J' a0 _=>h' b0 b8 X q J' ?_ s⟩;exact(f.tt (o.tt (b'.tt u'))).fresh a0 (λy e=>iI f.1 o.1);refine aB.cE λb9 h5 g6 d2 E=>kI ((L6 (λ_=>True) trivial).frame E bD) (T2.on (f.tt E)) ae λh7 z l c'=>aa.ex z.s ⟨rfl,ID U (i'.tt (f.tt (E.tt c'))) (e'.on (f.tt (E.tt c'))) l.u f' λX q s i0 v'=>aB.ex X.s ⟨_,rfl,aB.fB (x:=X.s) ((c'.tt v').get d2 id) λc0 K' a1 _=>h' c0 b9 X q K' ?_ s⟩⟩;exact(f.tt (E.tt (c'.tt v'))).fresh a1 (λy e=>cv f.1);refine kI (B' (λ_=>True) trivial) (T2.on (J.tt K)) ae λi3 z l d'=>aa.ex z.s ⟨rfl,ID U (i'.tt (J.tt (K.tt d'))) (e'.on (J.tt (K.tt d'))) l.u f' λX q s i4 w'=>aB.ex X.s ⟨_,rfl,aB.fB (x:=X.s) ((K.tt (d'.tt w')).get c2 id) λc1 L' a2 _=>h' c1 C' X q L' ?_ s⟩⟩;exact(J.tt (K.tt (d'.tt w'))).fresh a2 (λy e=>ae)

end Bn
end
section
variable {h:Heap} {R:dH}
variable {a L:bH} {d D l c:Nat} {b:aK.S}
def B9(o:aa.NW h λb k=>Cl 253 #[.L a d D,.I 0] k λv m=>aa.EX λi=> ∃q j,v=.T #[i.agg,.I q,.I j]/\aa.NW m λB n=>aa.cR n (AA B 0) i λH=>aa.ck H (AA B 0) λt=>ite (j==0) (Cl 557 #[.L a d D] H λV e=> ∃T,V=.B T/\Kp H e [(Sa B 0)]/\aa.cR e (AA b 0) t λf=>aa.ck f (AA b 0) λr=>R (.T #[r.agg,.B T]) f) (aa.cR H (AA b 0) t λg=>aa.ck g (AA b 0) λp=>R (.T #[p.agg,.B false]) g)):Cl 518 #[.L a d D] h R:=aD [(5,λ_=>pK 9)] o
def vV(s:aw.NW h λb n=>Cl 518 #[.L a d D] n λv o=>aa.EX λt=> ∃T,v=.T #[t.agg,.B T]/\aa.NW o λB p=>aa.cR p (AA B 0) t λf=>aa.ck f (AA B 0) λx=>Cl 325 #[x.agg] f λV q=>aw.EX λj=> ∃k,V=.T #[j.agg,.I k]/\aw.NW q λe r=>aw.cR r (AA e 0) j λH=>aw.ck H (AA e 0) λm=>ite T (aw.cR H (AA b 0) m λg=>aw.ck g (AA b 0) λu=>R (.T #[u.agg,.B (k==0)]) g) (aw.cR H (AA b 0) m λi=>aw.ck i (AA b 0) λw=>R (.T #[w.agg,.B false]) i)):Cl 466 #[.L a d D] h R:=aD [] s
def EN (o:Cl 518 #[.L a d D] h λv m=>aa.EX λj=> ∃k,v=.T #[j.agg,.B k]/\aa.NW m λb n=>aa.cR n (AA b 0) j λH=> ∃t,Cc H b 1 (.U t)/\ite k (aa.ck H (AA b 0) λp=>Hu H b 1 λq=>Cl 390 #[.U q] H λV f=>aa.EX λT=>V=T.agg/\Kp H f [(Sa b 0),(Sa b 1)]/\Cl 329 #[p.agg,T.agg] f λr e=> ∃g,r=.B g/\Kp f e [(Sa b 1)]/\ite g (∃i,Cc e b 1 (.U i)/\R (.T #[.U t,.B (decide (i<=1099511627776))]) e) (R (.T #[.U t,.B false]) e)) (R (.T #[.U t,.B false]) H)):Cl 467 #[.L a d D] h R:=aD [(5,λ_=>pK 17)] o
def Ca (u:Cl 518 #[.L a d D] h λv r=>aa.EX λj=> ∃k,v=.T #[j.agg,.B k]/\aa.NW r λb s=>aa.cR s (AA b 0) j λe=>ay (λ(y:Bool) H=>ite y (R (.T #[.U 0,.U 0,.B false]) H) (Hl H b 3 λC z K=>Bd 0 z/\aJ C λA=>fM H ((A.add (toNat 0*4)).add 1) λt=>Hl H b 3 λF E M=>Bd 1 E/\aJ F λq=>fM H ((q.add (toNat 1*4)).add 1) λT=>aa.ck H (AA b 0) λG=>aT H (.C #[.U t,.U T] 62) λB g=>Kp H g [(Sa b 0)]/\Cl 399 #[.L (Sa B 0) 2 2] g λV i=>aa.EX λo=>V=o.agg/\Kp g i [(Sa b 0)]/\Cl 329 #[G.agg,o.agg] i λI f=> ∃p,I=.B p/\ite p (ite (decide (t≥1)) (ite (decide (t<=255)) (R (.T #[.U t,.U T,.B (decide (T<=t))]) f) (R (.T #[.U t,.U T,.B false]) f)) (R (.T #[.U t,.U T,.B false]) f)) (R (.T #[.U t,.U T,.B false]) f))) (λJ=>ite (!k) (J true e) (∃m,Cc e b 0 (.I m)/\ite (m !=4) (J true e) (∃x n w,Cc e b 3 (.L x n w)/\J (((n:Nat):Int) !=2) e)))):Cl 468 #[.L a d D] h R:=aD [(6,.join [(26,sB)]),(13,λ_=>pK 12),(15,λ_=>pK 24)] u
def xw(x:aa.NW h λb q=>Cl 327 #[.Z] q λv r=>aa.EX λo=>v=o.agg/\aa.NW r λB s=>aa.cR s (AA B 0) o λu=> ∃(I:iT)(m:iW),I 0 u/\∀t H,I t H->ite (decide (t<(l:Int))) (Bd t l/\aJ L λA=>fM H (A.add (toNat t*1)) λz=>Hl H B 3 λF E C=>Cl 390 #[.U z] H λV e=>aa.EX λT=>V=T.agg/\Kp H e [(Sa B 3)]/\aT e (.C T.arr 368) λp g=>Kp e g [(Sa B 3)]/\ij (Builtin.append_ #[366,366] 366 #[.L F E C,.L (Sa p 0) 1 1]) g λJ w=> ∃n k j,J=.L n k j/\aI w (AA B 3) (.L n k j) λi=>(I (wrap .i64 (t+1)) i/\m (wrap .i64 (t+1)) i<m t H)) (aa.ck H (AA B 0) λG=>aa.cR H (AA b 0) G λf=>aa.ck f (AA b 0) λy=>R (y.agg) f)):Cl 399 #[.L L l c] h R:=aD [(8,.loop [(9,sI)]),(19,λ_=>pK 8)] x
def yI{k:Int} (r:ay (λ(O:Bool) H=>ite O (R (.B (decide ((d:Int)<=200))) H) (R (.B false) H)) (λJ=>ay (λ(s:Bool) i=>J s i) (λj=>ite (k==6) (Cl 466 #[.L a d D] h λv m=>aw.EX λx=> ∃t,v=.T #[x.agg,.B t]/\j t m) (ay (λ(u:Bool) n=>j u n) (λe=>ite (k==7) (Cl 467 #[.L a d D] h λV o=> ∃y T,V=.T #[.U y,.B T]/\e T o) (ay (λ(w:Bool) p=>e w p) (λf=>ite (k==10) (Cl 468 #[.L a d D] h λB q=> ∃z A g,B=.T #[.U z,.U A,.B g]/\f g q) (f true h)))))))):Cl 401 #[.U k,.L a d D] h R:=aD [(7,.join [(5,sB)]),(10,.join [(5,sB)]),(14,.join [(5,sB)]),(18,.join [(5,sB)])] r
def yJ(e:Cl 464 #[.L L l c,.func (.func 465) #[] #[]] h λv H=> ∃t,v=.B t/\R (.B (!t)) H):Cl 400 #[.L L l c] h R:=aD [] e
def vW{n:Int}(H:ite (decide (n<1)) (R (.B true) h) (R (.B (decide (n>255))) h)):Cl 465 #[.U n] h R:=aD [] H
def Ao (n:aT h (.C b.arr 374) λB e=>Hu e B 0 λs=>Hu e B 1 λu=>aT e (.C #[.U s,.U u] 62) λj k=>Cl 400 #[.L (Sa j 0) 2 2] k λv H=> ∃i,v=.B i/\ite i (∃t,Cc H B 2 (.U t)/\ite ((wrap .u64 ((ry t &&& ~~~ ry 23).toNat:Int))==0) (∃T,Cc H B 3 (.I T)/\ite (decide (T≥0)) (∃f,Cc H B 3 (.I f)/\ite (decide (f<=2)) (Hu H B 0 λo=>Hl H B 4 λr q p=>Cl 401 #[.U o,.L r q p] H λV m=> ∃g,V=.B g/\R (.B g) m) (R (.B false) H)) (R (.B false) H)) (R (.B false) H)) (R (.B false) H)):Cl 331 #[b.agg] h R:=aD [] n
theorem Ap(M:aT h (.C b.arr 374) λB E=>aa.NW E λe g=>aK.ck g (AA B 0) λQ=>Cl 331 #[Q.agg] g λv H=> ∃z,v=.B z/\ite (!z) (aa.cR H (AA e 0) aa.S.z λi=>aa.ck i (AA e 0) λO=>R (.T #[O.agg,.I 3]) i) (∃T,Cc H B 0 (.U T)/\∃k,Cc H B 1 (.U k)/\∃m,Cc H B 2 (.U m)/\∃n,Cc H B 3 (.I n)/\aT H (.C #[.U T,.U k,.U m,.U (wrap .u64 n)] 62) λA G=>Cl 399 #[.L (Sa A 0) 4 4] G λV j=>aa.EX λt=>V=t.agg/\∃q p o,Cc j B 4 (.L q p o)/\Cl 387 #[.L q p o] j λS I=>aa.EX λr=>S=r.agg/\aT I (.C r.arr 368) λC J=>ij (Builtin.append_ #[366,366] 366 #[.L t.Pl t.Fw t.Ll,.L (Sa C 0) 1 1]) J λU K=> ∃w u s,U=.L w u s/\Cl 397 #[.L w u s,.I 3] K λX F=>aa.EX λx=> ∃y,X=.T #[x.agg,.I y]/\aa.cR F (AA e 0) x λf=>aa.ck f (AA e 0) λP=>R (.T #[P.agg,.I y]) f)):Cl 330 #[b.agg] h R:=aD [] M
def Cd{x:aa.S} (hv:aT h (.C x.arr 368) λb l'=>aK.NW l' λB F=>aa.ck F (AA b 0) λu'=>Cl 324 #[u'.agg,.I 3] F λC' j=> ∃T t v' o,C'=.T #[.L T t v',.I o]/\ite (o !=0) (aK.cR j (AA B 0) aK.S.z λG=>aK.ck G (AA B 0) λr0=>R (.T #[r0.agg,.I o]) G) (ay (λ(w':Bool) H=>ite w' (aK.cR H (AA B 0) aK.S.z λI=>aK.ck I (AA B 0) λr'=>R (.T #[r'.agg,.I 3]) I) (ay (λ(s:bH) K=>aJ s λi'=>aK.ck K i' λx'=>Cl 330 #[x'.agg] K λD' p'=>aa.EX λf'=> ∃g',D'=.T #[f'.agg,.I g']/\aa.NW p' λu q'=>aa.cR q' (AA u 0) f' λi=>ay (λ(A':Bool) k=>ite A' (aK.cR k (AA B 0) aK.S.z λy=>aK.ck y (AA B 0) λs'=>R (.T #[s'.agg,.I 3]) y) (aJ s λj'=>aK.ck k j' λB'=>aK.cR k (AA B 0) B' λz=>aK.ck z (AA B 0) λt'=>R (.T #[t'.agg,.I 0]) z)) (λq=>ite (g' !=0) (q true i) (aa.ck i (AA u 0) λy'=>aa.ck i (AA b 0) λz'=>Cl 329 #[y'.agg,z'.agg] i λE' m'=> ∃h',E'=.B h'/\q (!h') m'))) (λp=>Bd 0 t/\aJ T λA=>fM H ((A.add (toNat 0*4)).add 1) λO=>Bd 1 t/\aJ T λe=>fM H ((e.add (toNat 1*4)).add 1) λP=>Bd 2 t/\aJ T λf=>fM H ((f.add (toNat 2*4)).add 1) λQ=>Bd 3 t/\aJ T λg=>fM H ((g.add (toNat 3*4)).add 1) λS=>Bd 4 t/\aJ T λr=>oM H ((r.add (toNat 4*4)).add 2) λX V U=>(Cl 152 #[.L X V U] H λF' m=> ∃d' b' Z,F'=.L d' b' Z/\Kp H m [(some ((g.add (toNat 3*4)).add 1)),(some ((f.add (toNat 2*4)).add 1)),(some ((e.add (toNat 1*4)).add 1)),(some ((A.add (toNat 0*4)).add 1))]/\aK.NW m λv C=>Kp m C [(some ((g.add (toNat 3*4)).add 1)),(some ((f.add (toNat 2*4)).add 1)),(some ((e.add (toNat 1*4)).add 1)),(some ((A.add (toNat 0*4)).add 1))]/\aK.cR C (AA v 0) ⟨O,P,Q,(wrap .i64 S),d',b',Z⟩ λn'=>p (Sa v 0) n')/\(aK.NW H λw n=>Kp H n [(some ((r.add (toNat 4*4)).add 2)),(some ((g.add (toNat 3*4)).add 1)),(some ((f.add (toNat 2*4)).add 1)),(some ((e.add (toNat 1*4)).add 1)),(some ((A.add (toNat 0*4)).add 1))]/\Cl 152 #[.L X V U] n λG' E=> ∃e' c' a',G'=.L e' c' a'/\Kp n E [(some ((g.add (toNat 3*4)).add 1)),(some ((f.add (toNat 2*4)).add 1)),(some ((e.add (toNat 1*4)).add 1)),(some ((A.add (toNat 0*4)).add 1))]/\aK.cR E (AA w 0) ⟨O,P,Q,(wrap .i64 S),e',c',a'⟩ λo'=>p (Sa w 0) o')/\True))) (λJ=>ite (((t:Nat):Int) !=5) (J true j) (Bd 4 t/\aJ T λk'=> ∃M,aQ j (k'.add (toNat 4*4))=some (.I M)/\J (M !=2) j)))):Cl 255 #[x.agg] h R:=aD [(13,.join [(19,sB)]),(20,.join [(6,sP)]),(20,λ_=> .ju (fE 21 0 (.alts (.fork 21 (fE 3 22 .done) (.fork 23 (mL [21,22,24] .done) .iH))))),(25,.join [(66,sB)])] hv

end
section
namespace Bn
open Cb
open iZ (Ev dD jQ)
variable {V:cO→Bool} {h a H:Heap} {R:dH} {D:Nat→Prop}
variable {p:bH} {l c n i:Nat} {B:cO} {t:Tr} {u:List Tr}
def xy(B:cO):room (fv V B)<=10*B.length+9:=by unfold fv;split;rename_i h;have:=(DX h).1;omega;simp[MQ,room,dG]
def EO(U:lU V a)(G:Fr No a h)(C:Row h p (bc B))(A:l=B.length)(cap:B.length<=c)(X:B.length<=80000)(k: ∀H z,KV H (fv V B) z->Fr No h H->R (.T #[z.s.agg,.B (kH V B)]) H):Cl 518 #[.L p l c] h R:=by
 refine B9 (aa.cE λb Q P s d=>Eg (U.mono (G.tt d)) (C.frame d bD) A cap ae (λL t x nx O T F=>aa.ex x.s ⟨_,_,rfl,aa.fX λI M J v f=>aa.dZ v ?_⟩) (λL e w F=>aa.ex zv.s ⟨_,_,rfl,aa.fX λI M J v f=>aa.dZ v ?_⟩));have m:=d.tt (F.tt f);have E:fv V B=t:=by unfold fv;rw[O]
 rw[E]at k;rw[iE];refine Kc (U.mono (G.tt m)) (C.frame m bD) A cap ae λS g=>⟨_,rfl,g.kp,aa.fB ((F.tt (f.tt g)).get s id) λr o j _=>aa.dZ o (k r x ?_ ((m.tt g).fresh j (λy e=>ae)))⟩;have zb:=aE s;exact((T.on f).on g).frame j (λy Z e=>ae)|>.u;have E:fv V B=MQ:=by unfold fv;rw[w]
 have K:kH V B=false:=by unfold kH;rw[w]
 rw[E,K]at k;rw[af (λq=>vB w (eq_of_beq q))];exact aa.fB ((F.tt f).get s id) λr o j _=>aa.dZ o (k r zv (pP) ((d.tt (F.tt f)).fresh j (λy e=>ae)))
theorem Kz(U:lU V a)(s:Fr No a h)(M:jk.Mx h)(I:Row h p (bc B))(C:l=B.length)(cap:B.length<=c)(G:B.length<=80000)(g: ∀H (e:Ev),Fr No h H->R (.T #[e.s.agg,.B (kH V B && (pL V (fv V B)).isSome)]) H):Cl 466 #[.L p l c] h R:=by
 have ri:=xy (V:=V) B;refine vV (aw.cE λb Q L o f=>EO U (s.tt f) (I.frame f bD) C cap G λS z T j=>aa.ex z.s ⟨_,rfl,aa.fX λJ X O x d=>aa.dZ x (IC U (s.tt (f.tt (j.tt d))) (M.on (f.tt (j.tt d))) (T.on d) ae λe q ⟨q0,q1,_⟩ Z v=>aw.ex e.s ⟨_,rfl,aw.fX λK h7 P A w=>aw.dZ A ?_⟩)⟩);have F:=j.tt (d.tt (v.tt w));cases r:kH V B with
 |false=>rw[r]at g;exact LP (F.get o id) λm k=>g m e ((f.tt F).fresh k (λy e=>ae))
 |true=>
  rw[r]at g;refine LP (F.get o id) λm k=> ?_;have:=g m e ((f.tt F).fresh k (λy e=>ae));have E:(true && (pL V (fv V B)).isSome)=(q==0):=by grind
  rw[E]at this;exact this
theorem VH(U:lU V a)(x:Fr No a h)(w:Row h p (bc B))(s:l=B.length)(cap:B.length<=c)(v:B.length<=80000)(d: jA h R (.T #[.U ((fv V B).n:Int),.B (Vj V B)])):Cl 467 #[.L p l c] h R:=by
 have G:=xy (V:=V) B;refine EN (EO U x w s cap v λA z T j=>aa.ex z.s ⟨_,rfl,aa.fX λy o E e F=> ?_⟩);unfold Vj at d;have⟨_,Z,_⟩:=hM.kn T;rw[<-Z]at d;refine⟨_,aj e,?_⟩;cases k:kH V B with
 |false=>rw[k]at d;exact d o (j.tt F)
 |true=>
  rw[k]at d;rw[ah rfl];refine aa.dZ e ⟨_,aj e,fD λC f=>aa.ex (nv z.n).s ⟨rfl,f.kp,jx ((T.on F).on f) (pP) ae λq g=>⟨_,rfl,g.kp,?_⟩⟩⟩;have m:=j.tt (F.tt (f.tt g));cases r:pG (fv V B) (num z.n)with
  |false=>grind
  |true=>rw[r]at d;refine⟨_,aj ((f.tt g).get e id),?_⟩;rw[show decide ((z.n:Int)<=1099511627776)=decide (z.n<=1099511627776)from nH z.n 1099511627776];exact d q m
abbrev nu(l:List Nat):List Value:=l.map λ(n:Nat)=> .int .u64 (n:Int)
theorem KA{l:List Nat}(s:Row h p (nu l))(U:n=l.length)(hl:l.length<=100000)(T: ∀H z,wv H (λy=>h.size<=y) (Qx l) z->Fr No h H->R z.s.agg H):Cl 399 #[.L p n c] h R:=by
 subst U;refine xw (aa.cE λb Q eb m f=>kI (ts:= []) (ys:= []) (D:=λ_=>True) ⟨rfl,.inl rfl,λe=>absurd rfl e,bf _⟩ .nil (by simp[dG]) λh2 z Z F=>aa.ex z.s ⟨rfl,aa.fX (x:=z.s) λE h4 M o d=> ?_⟩);have zb:=aE m;have z1:=f.1;have z2:=F.1;have z4:=d.1;have c':=aE o;have F4:=f.tt (F.tt d);obtain⟨zs,P,x,K,O,J,I⟩:=VG Z F d o M;refine⟨λt g=> ∃(i:Nat)(j:List CV)(q:bH)(C:Nat),t=(i:Int)/\i<=l.length/\j.length=i/\Lc Q g E z.k z.n z.v ((l.take i).map num) j q C,λt _=>l.length - t.toNat,⟨0,zs,z.q,z.cl,rfl,bg _,P,by rw[fy];exact x⟩,?_⟩;rintro _ g ⟨i,j,q,C,rfl,hi,hy,L⟩;by_cases r:i<l.length
 case neg=>rw[af (λe=>r (by grind))];rw[bz ae]at L;exact Yl L K O J I f m ae ae ae T
 rw[iE];have v:Fr No h g:=f.fresh L.fr (λy e=>ae);obtain⟨A,rfl⟩:=s.some (by intro e;have:=bY List.length e;rw[aM,bZ]at this;omega);have S:aQ g (A.add (i*1))=some (.U ((l[i]:Nat):Int)):=by have:=(s.frame v bD).cell (j:=i) (v:=.U ((l[i]:Nat):Int)) (by grind);rw[bJ];exact this
 refine⟨ae,cf.2 ⟨A,rfl,_,S,_,_,_,aj L.cV,fD λh6 k=>aa.ex (nv l[i]).s ⟨rfl,k.kp,?_⟩⟩⟩;refine UE (L.on k) ae (WE (n:=l[i])).Xy λg' a' X G w b' _ _=> ?_;rw[df (n:=(i:Int)+1) ae ae];refine⟨⟨i+1,a',X,G,ae,ae,ae,?_⟩,by grind⟩;rw[bt,ai r,bB];exact w
def LR{l:List Nat}{n:Nat}{K:Nat->cM}{c:Array Value}(d:c=(nu l).toArray)(e: ∀b H,Row H (Sa b 0) (nu l)->Fr No h H->K b H):aT h (.C c 62) K:=by refine bn (e _ _ (by rw[d];exact gW) (Fr.push _ _))
theorem Tx(U:lU V a)(e':Fr No a h)(b':Row h p (bc B))(Z:l=B.length)(cap:B.length<=c)(a':B.length<=80000)(m: ∀H (C b:Nat),Fr No h H->R (.T #[.U (C:Int),.U (b:Int),.B (Qy V B)]) H):Cl 468 #[.L p l c] h R:=by
 have ri:=xy (V:=V) B;have rl:=oW (t:=fv V B);refine Ca (EO U e' b' Z cap a' λh2 z v I=>aa.ex z.s ⟨_,rfl,aa.fX (x:=z.s) λb1 j f' d f=>ay.of λJ O=> ?_⟩);have x:=I.tt f;unfold Qy at m;have o: ¬(kH V B=true/\(fv V B).k=4/\(fv V B).l.length=2)->J true j:=λhn=>by grind
 obtain⟨zk,zn,zb,zl,g',ys,L,T⟩:=hM.kn (v.on f);cases s:kH V B with
 |false=>rw[iE];exact o (λe=>by rw[s]at e;cases e.1)
 |true=>
 rw[fe];refine⟨_,aj d,?_⟩;rw[show z.s.f0=(fv V B).k from zk];by_cases k:(fv V B).k=4
 case neg=>rw[ah (dQ k)];exact o (λe=>k e.2.1)
 rw[af (dQ k)];refine⟨_,_,_,aj d,?_⟩;have sl:z.s.Fw=(fv V B).l.length:=zl;rw[sl];by_cases l2:(fv V B).l.length=2
 case neg=>grind
 rw[show((((fv V B).l.length:Nat):Int) !=2)=false by simp only[bne_eq_false_iff_eq];omega];clear o;rw[s,aq ⟨k,l2⟩]at m;subst O;dsimp only;rw[fe];obtain⟨A,y0,E,S,c',_⟩:=elem L T (i:=0) ae;obtain⟨q,y1,G,X,d',_⟩:=elem L T (i:=1) ae;have n0:=(hM.kn c').2.1;have n1:=(hM.kn d').2.1;have P:aQ j ((A.add (0*4)).add 1)=some (.U ((uh (fv V B):Nat):Int)):=by have:=S.2.1;unfold uh;rw[<-n0];exact this
 have Q:aQ j ((q.add (1*4)).add 1)=some (.U ((Ir (fv V B):Nat):Int)):=by have:=X.2.1;unfold Ir;rw[<-n1];exact this
 refine⟨_,_,_,aj d,ae,cf.2 ⟨A,E,_,P,_,_,_,aj d,ae,cf.2 ⟨q,G,_,Q,aa.dZ d ?_⟩⟩⟩;refine LR (l:= [uh (fv V B),Ir (fv V B)]) (n:=2) rfl λb2 h5 r5 F=>⟨F.kp,KA r5 rfl (by show 2<=_;omega) λh6 w tw g=>aa.ex w.s ⟨rfl,g.kp,jx (x:=z) (y:=w) ((v.on f).on (F.tt g)) tw.u ae λM K=>⟨_,rfl,?_⟩⟩⟩;have y:=x.tt (F.tt (g.tt K));have fin:=m M (uh (fv V B)) (Ir (fv V B)) y;cases r:pG (fv V B) (Qx [uh (fv V B),Ir (fv V B)])with
 |false=>rw[r]at fin;rw[fe];exact fin
 |true=>
 rw[r]at fin;rw[ah rfl];change if(decide (((uh (fv V B):Nat):Int)≥1))=true then(if(decide (((uh (fv V B):Nat):Int)<=255))=true then _ else _)else _;by_cases c1:1<=uh (fv V B)
 case neg=>grind
 rw[iE];by_cases c2:uh (fv V B)<=255
 case neg=>grind
 rw[iE];have:decide (1<=uh (fv V B)/\uh (fv V B)<=255/\Ir (fv V B)<=uh (fv V B))=decide (((Ir (fv V B):Nat):Int)<=((uh (fv V B):Nat):Int)):=by grind
 rw[this]at fin;exact fin
theorem OL{T:Nat}(U:lU V a)(o:Fr No a h)(M:jk.Mx h)(r:Row h p (bc B))(z:l=B.length)(cap:B.length<=c)(m:B.length<=80000)(x: jA h R (.B (Be V T B))):Cl 401 #[.U (T:Int),.L p l c] h R:=by
 subst z;refine yI (ay.of λJ y=>ay.of λA j=> ?_);unfold Be at x;have fin: ∀q g,Fr No h g->(Be V T B=(q && decide (B.length<=200)))->J q g:=λq g F e=>by
  subst y;have:=x g F;unfold Be at e;rw[e]at this;rw[show decide (((B.length):Int)<=200)=decide (B.length<=200)from nH B.length 200];cases q with
  |_=>exact this
 by_cases s:T=6;subst s;rw[iE];refine Kz U o M r rfl cap m λd e f=>aw.ex e.s ⟨_,rfl,?_⟩;subst j;exact fin _ d f rfl;rw[af (by simp only[cU];omega)];refine ay.of λE k=> ?_;by_cases v:T=7;subst v;rw[iE];refine VH U o r rfl cap m λd f=>⟨_,_,rfl,?_⟩;subst k j;exact fin _ d f rfl;rw[af (by grind)];refine ay.of λG w=> ?_;by_cases C:T=10;subst C;rw[iE];refine Tx U o r rfl cap m λd I b f=>⟨_,_,_,rfl,?_⟩;subst w k j;exact fin _ d f rfl;rw[af (by simp only[cU];omega)];subst w k j;exact fin true h (Fr.refl _ _) (by unfold Be;rw[af s,af v,af C])
theorem Aq{l:List Nat}(r:Row h p (nu l))(s:n=l.length)(w:l.length<=100000)(f:R (.B (l.all mr)) h):Cl 400 #[.L p n c] h R:=by
 subst s;refine yJ (iD (iR ?_));refine⟨λt g=> ∃i:Nat,t=(i:Int)/\i<=l.length/\g=h/\(l.take i).all mr=true,λt _=>l.length - t.toNat,⟨0,rfl,bg _,rfl,by rfl⟩,?_⟩;rintro _ g ⟨i,rfl,v,rfl,m⟩;by_cases d:i<l.length;rw[iE];obtain⟨A,rfl⟩:=r.some (by intro e;have:=bY List.length e;rw[aM,bZ]at this;omega);have o:aQ g (A.add (i*1))=some (.U ((l[i]:Nat):Int)):=by have:=r.cell (j:=i) (v:=.U ((l[i]:Nat):Int)) (by grind);rw[bJ];exact this
 have key: ∀q,q=(!mr l[i])->(if q=true then∃j,Value.I (i:Int)=.I j/\∃T,Value.bool (decide (j≥0))=.B T/\R (.B (!T)) g else((∃k:Nat,IntKind.wrap .i64 ((i:Int)+1)=(k:Int)/\k<=l.length/\g=g/\(l.take k).all mr=true)/\l.length - (IntKind.wrap .i64 ((i:Int)+1)).toNat<l.length - (i:Int).toNat)):=by
  rintro q rfl;cases e:mr l[i]with
  |false=>rw[iE];refine⟨_,rfl,_,rfl,?_⟩;rw[aq ae];have:l.all mr=false:=List.all_eq_false.2 ⟨l[i],cx d,by grind⟩;rw[this]at f;exact f
  |true=>rw[fe,df (n:=(i:Int)+1) ae ae];refine⟨⟨i+1,ae,ae,rfl,?_⟩,ae⟩;rw[bt,ai d,List.all_append,m];simp[e]
 refine⟨ae,cf.2 ⟨A,rfl,_,o,vW ?_⟩⟩;have E:mr l[i]=(decide (1<=l[i]) && decide (l[i]<=255)):=by unfold mr;by_cases A:1<=l[i]<;>by_cases b:l[i]<=255<;>simp[A,b]
 by_cases C:l[i]<1;grind;grind;grind
abbrev BP.s(b:BP)(p:bH)(c:Nat):aK.S:=⟨b.ty,b.nr,b.fl,b.sum,p,b.data.length,c⟩
variable {b:BP}
def Hk(b:BP)(U:lU V a)(v:Fr No a h)(M:jk.Mx h)(s:Row h p (bc b.data))(cap:b.data.length<=c)(q:b.data.length<=80000)(d: jA h R (.B (oP V b))):Cl 331 #[(b.s p c).agg] h R:=by
 refine Ao (aK.cE λx y E g k=>⟨_,aj g,_,aj g,LR (l:= [b.ty,b.nr]) (n:=2) rfl λw z r j=>Aq r rfl bO ⟨_,rfl,?_⟩⟩);have F:=k.tt j;have e:=j.get g id;have d: ∀H,Fr No h H->R (.B ((mr b.ty && mr b.nr) && (X9 (b.fl:Int) 23 && (decide (0<=b.sum) && (decide (b.sum<=2) && Be V b.ty b.data))))) H:=λH f=>by have:=d H f;unfold oP at this;simpa only[fx]using this
 rw[show [b.ty,b.nr].all mr=(mr b.ty && mr b.nr) by simp];exact jM d F λd=>⟨_,aj e,jM d F λd=>⟨_,aj e,jM d F λd=>⟨_,aj e,jM d F λd=>⟨_,aj e,_,_,_,aj e,OL U (v.tt F) (M.on F) (s.frame F bD) rfl cap q λo m=>⟨_,rfl,d o (F.tt m)⟩⟩⟩⟩⟩
theorem LS(d:rM V t i=.ok u):0<=typeAt u i:=by
 unfold rM at d;split at d;rename_i f;have key: ∀k,i<k->typeAt (t.l.take k) i=typeAt t.l i:=λk e=>by unfold typeAt at_;rw[aL,aL,eC,ah e,bM];exact ite_congr (propext (by grind)) (λ_=>rfl) (λ_=>rfl)
 split at d
 grind;grind;cases d
def OM(d:rM V t i=.ok u):(at_ u i).n<=2:=by have:=LS d;unfold typeAt at this;split at this;omega;omega
def Ar(h:oP V b=true):0<=b.sum/\b.sum<=2/\b.data.length<=200/\1<=b.ty/\b.ty<=255/\1<=b.nr/\b.nr<=255:=by unfold oP at h;simp only[bE,bN]at h;have⟨⟨⟨⟨⟨A,e⟩,_⟩,f⟩,c⟩,d⟩:=h;unfold mr at A e;unfold Be at d;simp only[bE,bN]at A e d;exact⟨f,c,d.2,A.1,A.2,e.1,e.2⟩
def Hm(h:oP V b=true):dG (Ol b)<=300:=by have⟨_,_,d,_⟩:=Ar h;simp only[Ol,dG,room,bZ];omega
def Hn(h:vL V b=.ok t):room t<=400:=by unfold vL at h;split at h;rename_i d;have:=EL h;have:=Hm d;omega;cases h
theorem KB{e:Int}(h:vL V b=.error e):e≠0:=by unfold vL at h;split at h;exact Hj h;grind
theorem Nj(b:BP)(U:lU V a)(b':Fr No a h)(mx:jk.Mx h)(a':Row h p (bc b.data))(cap:b.data.length<=c)(g':b.data.length<=80000)(M: ∀H z q,(∀t,vL V b=.ok t->q=0/\wv H (λy=>h.size<=y) t z)->(∀e,vL V b=.error e->q=e)->Fr No h H->R (.T #[z.s.agg,.I q]) H):Cl 330 #[(b.s p c).agg] h R:=by
 refine Ap (aK.cE λbb h1 eb hb j=>aa.cE λb1 h2 i' e' g=>aK.dZ (g.get hb id) (Hk b U (b'.tt (j.tt g)) (mx.on (j.tt g)) (a'.frame (j.tt g) bD) cap g' λh3 s=>⟨_,rfl,?_⟩));have o:=(g.tt s).get hb id;have C:=s.get e' id;have F:=j.tt (g.tt s);have z3:=F.1;have z1:=j.1;have k':=s.1;have l':=aE C;cases r:oP V b with
 |false=>exact Iu C λh4 f4=>M h4 zv 3 (λt e=>by unfold vL at e;rw[r,fe]at e;cases e) (λt e=>by unfold vL at e;rw[r,fe]at e;cases e;rfl) (F.fresh f4 (λy e=>ae))
 |true=>
 rw[fe];obtain⟨s0,s2,d2,_⟩:=Ar r;have rm:=Hm r;have G:vL V b=oE V (Ol b) 3:=by unfold vL;rw[r,ah rfl]
 obtain⟨sum,hs⟩:=fi s0;have es:b.sum.toNat=sum:=ae
 refine⟨_,aj o,_,aj o,_,aj o,_,aj o,?_⟩;rw[show(b.s p c).f3=(sum:Int)from hs,wrap_u64 (n:=(sum:Int)) ae ae];refine LR (l:= [b.ty,b.nr,b.fl,sum]) (n:=4) rfl λb3 h5 r5 w=>KA r5 rfl (by show 4<=_;omega) λX z T x=>aa.ex z.s ⟨rfl,_,_,_,aj ((w.tt x).get o id),gJ (a'.frame (F.tt (w.tt x)) bD) rfl ae λh7 v ev ov A=>aa.ex (CV.s ⟨2,0,v,none,0,0⟩) ⟨rfl,aa.cE (x:=CV.s ⟨2,0,v,none,0,0⟩) λb4 h8 j' f' m=> ?_⟩⟩;have F8:=w.tt (x.tt (A.tt m));obtain⟨_,Z,a5,Q,a7,S⟩:=T;have zl:Z.length=4:=by have:=S.len;exact this.symm
 have sl:z.s.Fw=Z.length:=a5;rw[sl];have z6:=x.1;have z7:=A.1;have z8:=m.1;have qs: ∀y,aN z.q y->y<X.size:=λy d=>Q.dW d;refine du tI uI (Q.frame (A.tt m) bD) (ds:=jr ⟨2,0,v,none,0,0⟩) (.inr ⟨_,rfl,aa.im (x:=CV.s ⟨2,0,v,none,0,0⟩) f'⟩) rfl (pO _) ae ae λq' c' L P _ J g9=>⟨_,_,_,rfl,?_⟩;have ef:Z.flatMap jr++jr ⟨2,0,v,none,0,0⟩=(Z++ [(⟨2,0,v,none,0,0⟩:CV)]).flatMap jr:=bO
 rw[ef]at P;have f:Fr No h3 L:=F8.fresh J (λy d=>iI (a7 y d) w.1);have L9:ny L (λ_=>True) q' (Z.length+1) c' (Z++ [⟨2,0,v,none,0,0⟩]):=⟨bO,P.iy,λ_ _ _=>trivial,P.le⟩;have T9:Ke L (Ol b) (Z++ [⟨2,0,v,none,0,0⟩]):=by have t1:=dT.frame J (λy d O=>d.2 O) (dT.on (dT.on S A) m);have t2:hM h7 (λy=>X.size<=y) (rW v.b) ⟨2,0,v,none,0,0⟩:=GR ov;have t3:=(t2.on m).frame J (λy d O=>cv (qs y O));have:=dT.snoc t1.u t3.u;rw[ev]at this;unfold Ol;rw[es];exact this
 refine Nh (i:=3) U (b'.tt (F.tt f)) L9 T9 ae ae (λt ht d' z T k=>aa.ex z.s ⟨_,rfl,?_⟩) (λe he d' k=>aa.ex zv.s ⟨_,rfl,?_⟩);have z9:=f.1;exact fin ((f.tt k).get C id) T (λy d e=>ae) λK h' I=>M K z 0 (λt' e=>by rw[G,ht]at e;cases e;exact⟨rfl,h'.mono λy d=>ae⟩) (λE e=>by rw[G,ht]at e;cases e) ((F.tt (f.tt k)).fresh I (λy e=>ae));exact Iu ((f.tt k).get C id) λK I=>M K zv e (λt' E=>by rw[G,he]at E;cases E) (λE e2=>by grind) ((F.tt (f.tt k)).fresh I (λy e=>ae))
def UF{b:Nat}{y x:aK.S}{K:aK.S->cM}(e:aK.ff h b y)(j: ∀H,Fr (λy=>y=b) h H->K x H):
  aK.cR h (AA b 0) x λg=>aK.ck g (AA b 0) λr=>K r g:=
 aK.fB e λg d f _=>aK.dZ d (j g f)
theorem Ty{x:CV}(U:lU V a)(o':Fr No a h)(mx:jk.Mx h)(tx:KV h t x)(hr:room t<=50000)(k1: ∀b,Ee V t=.ok b->∀H p c,BV.ok H (λy=>h.size<=y) ⟨p,c,b.data⟩->Fr No h H->R (.T #[(b.s p c).agg,.I 0]) H)(k2: ∀e,Ee V t=.error e->e≠0->jA h R (.T #[aK.S.z.agg,.I e])):Cl 255 #[x.agg] h R:=by
 have rl:=oW (t:=t);refine Cd (x:=x.s) (aa.cE λb h1 eb hb f1=>aK.cE λb1 h2 K' b' O=>aa.dZ (O.get hb id) ?_);have F:=f1.tt O;have C':=O.get hb id;have zb:=aE hb;have b2:=aE b';have z1:=f1.1;have z2:=O.1;have no: ∀g e,Fr No h2 g->Ee V t=.error e->e≠0->aK.cR g (AA b1 0) .z λG=>aK.ck G (AA b1 0) λI'=>R (.T #[I'.agg,.I e]) G:=λg e o s hn=>UF (o.get b' id) λG f=>k2 e s hn G ((F.tt o).fresh f (λy e=>ae));have j:Ee V t=Ee V t:=rfl;conv at j=>rhs;unfold Ee
 refine Ni (i:=3) U (o'.tt F) (tx.on F) ae ae (λu hu ru m p zs c L TS w=>⟨_,_,_,_,rfl,?_⟩) (λe s hn m w=>⟨_,_,_,_,rfl,?_⟩)
 case refine_2=>grind
 rw[fe];rw[hu]at j;dsimp only at j;have n2:=OM hu;have ln:=TS.len;have l9:=ia u;refine ay.of λp' hJ=> ?_;have T: ¬(u.length=5/\(at_ u 4).k=2)->p' true m:=λhn=>by grind
 by_cases l5:u.length=5
 case neg=>grind
 rw[af (by simp only[fp,ne_eq];omega)];have z3:=w.1;have I: ∀i,i<5->∃(A:Addr)(y:CV),p=some A/\cz (A.add (i*4)) y.s.l 0 m/\KV m (at_ u i) y/\aQ m ((A.add (i*4)).add 1)=some (.U ((at_ u i).n:Int)):=λi hi=>by obtain⟨A,y,ea,hh,ty,_⟩:=elem L TS (i:=i) ae;obtain⟨_,yn,_⟩:=hM.kn ty;exact⟨A,y,ea,hh,ty.u,by have:=hh.2.1;rw[<-yn];exact this⟩
 obtain⟨a0,y0,s',S',a5,c0⟩:=I 0 ae;obtain⟨a1,y1,t',T',a6,c1⟩:=I 1 ae;obtain⟨a2,y2,u',U',a7,c2⟩:=I 2 ae;obtain⟨a3,y3,v',V',a8,c3⟩:=I 3 ae;obtain⟨a4,Q,f',m',J',c4⟩:=I 4 ae;obtain⟨yk,yn,yb,yl,yv,_⟩:=hM.kn J';have r4:=jR (ts:=u) (i:=4) ae;have X':=oW (t:=at_ u 4);refine⟨ae,cf.2 ⟨a4,f',_,m'.1,?_⟩⟩;by_cases E':(at_ u 4).k=2
 case neg=>grind
 rw[show(Q.s.f0 !=2)=false by simp;omega];clear T;rw[ah ⟨l5,E'⟩]at j;subst hJ;try dsimp only
 rw[fe];have u3:=o'.tt (F.tt w);have m3:=mx.on (F.tt w);have J:(ui u).data=Q.v.b:=yb.symm;refine ay.of λJ1 B'=> ?_;have n': ∀g k q E,aK.ff g k ((ui u).s q E)->h2.size<=k->BV.ok g (λy=>m.size<=y/\y≠k) ⟨q,E,(ui u).data⟩->Fr No m g->J1 (Sa k 0) g:=by
  intro g k q E hs z4 ov o;subst B';refine av.2 (aK.dZ hs (Nj (ui u) U (u3.tt o) (m3.on o) ov.row ov.cap (by rw[J,yb];omega) λh8 d' qw w0 w1 f8=>aa.ex d'.s ⟨_,rfl,aa.fX (x:=d'.s) λb5 k' L' D' g'=>ay.of λJ2 l'=> ?_⟩));have S:=f8.tt g';have v:=w.tt (o.tt S);have T: ∀G,Fr No k' G->Ee V t=.error 3->J2 true G:=λG x' s=>by
   subst l';try dsimp only
   rw[ah rfl];exact no G 3 (v.tt x') s bA
  cases r:vL V (ui u)with
  |error e=>rw[r]at j;rw[ah (by rw[w1 e r];simpa using KB r)];exact T k' (Fr.refl _ _) j
  |ok e'=>
   rw[r]at j;dsimp only at j;obtain⟨rfl,tw⟩:=w0 e' r;have Z':=Hn r;rw[fe];refine aa.dZ D' (aa.dZ (x:=x.s) (v.get C' id) (jx (x:=d') (y:=x) (tw.u.on g') (tx.on (F.tt v)) ae λM' K=>⟨_,rfl,?_⟩));cases s:pG e' t with
   |false=>grind
   |true=>
    rw[s,ah rfl]at j;subst l';try dsimp only
    rw[fe];refine av.2 (aK.dZ ((S.tt K).get hs id) (UF ((v.tt K).get b' id) λG f=>k1 _ j G q E ?_ ((F.tt (v.tt K)).fresh f (λy e=>ae))));have:=(ov.mono (D':=λy=>m.size<=y) λy d=>d.1).frame (S.tt K) bD;exact(this.frame f (λy d e=>ae)).mono λy d=>ae
 refine⟨ae,cf.2 ⟨a0,s',_,c0,ae,cf.2 ⟨a1,t',_,c1,ae,cf.2 ⟨a2,u',_,c2,ae,cf.2 ⟨a3,v',_,c3,ae,cf.2 ⟨a4,f',_,_,_,m'.2.2.1,?_⟩⟩⟩⟩⟩⟩;rw[df (n:=(((at_ u 3).n:Nat):Int)) ae ae];have l4:Q.v.b.length<=50000:=by rw[yb];omega
 have eS: ∀P C,(⟨(at_ u 0).n,(at_ u 1).n,(at_ u 2).n,(at_ u 3).n,P,Q.v.b.length,C⟩:aK.S)=(ui u).s P C:=λP C=>by show _=(⟨_,_,_,_,P,(ui u).data.length,C⟩:aK.S);rw[J];rfl
 refine⟨?_,?_,trivial⟩;refine gD.jC yv.row rfl ae λP C O' c' X y'=>⟨_,_,_,rfl,X.kp,aK.cE λk P' w' z Z=>⟨Z.kp,?_⟩⟩;rw[eS];have a9:=X.1;have z4:=aE z;refine aK.fB (x:=(ui u).s P C) z λz' q' h' _=>n' z' k P C q' ae ?_ ((X.tt Z).fresh h' (λy e=>ae));have F':=(c'.frame Z bD).frame h' (λy d e=>cv (c'.dW d));rw[J];exact BV.kZ F' (λy d=>⟨y' y d,cv (c'.dW d)⟩);refine aK.cE λk Q' w' z M=>⟨M.kp,gD.jC (yv.row.frame M bD) rfl ae λP C R' G' a' j'=>⟨_,_,_,rfl,a'.kp,?_⟩⟩;rw[eS];have b0:=M.1;have z4:=aE z;refine aK.fB (x:=(ui u).s P C) (a'.get z id) λA' r' i' _=>n' A' k P C r' ae ?_ ((M.tt a').fresh i' (λy e=>ae));have H':=G'.frame i' (λy d e=>cv (j' y d));rw[J];exact BV.kZ H' (λy d=>cv (j' y d))

end Bn
end
section
variable {h:Heap} {R:dH}
variable {b:az.S}
def yK{k:Int} (H:ite (k==1) (R (.B true) h) (ite (k==6) (R (.B true) h) (ite (k==7) (R (.B true) h) (R (.B (k==10)) h)))):Cl 332 #[.U k] h R:=aD [] H
def Cf{L:bH}{l f:Nat} (S: ∃(I:Bool->cM)(mu:Bool->Heap->Nat),(ay (λ(X:Bool) k=>ite X (R (.B false) k) (I true k)) (λJ=>ite (decide ((wrap .i64 ((l:Int) - 1))<0)) (J true h) (ite (decide ((wrap .i64 ((l:Int) - 1))≥8)) (J true h) (Bd (wrap .i64 ((l:Int) - 1)) l/\aJ L λa=> ∃u,aQ h (a.add (toNat (wrap .i64 ((l:Int) - 1))*5))=some (.U u)/\ite (u !=1) (J true h) (Bd (wrap .i64 ((l:Int) - 1)) l/\aJ L λA=> ∃v,aQ h ((A.add (toNat (wrap .i64 ((l:Int) - 1))*5)).add 1)=some (.U v)/\J (v !=1) h)))))/\∀r m,I r m->ay (λ(U:Bool) K=>R (.B U) K) (λg=> ∃(i:Bool->iT)(M:Bool->iW),i r 0 m/\∀O t d,i O t d->ite (decide (t<(l:Int))) (Bd t l/\aJ L λC=>aK.ck d (C.add (toNat t*5)) λZ=>aK.NW d λb P=>aK.cR P (AA b 0) Z λn=>aK.ck n (AA b 0) λa'=>Cl 331 #[a'.agg] n λg' Q=>Vb g' λb'=>((0:Int)<=t/\t<=(f:Int))/\∃(e:Bool->iT)(q:Bool->iW),e b' 0 Q/\∀o T c,e o T c->ite (decide (T<(((toNat t) - 0:Nat):Int))) (ay (λ(s:Bool) p=>(e s (wrap .i64 (T+1)) p/\q s (wrap .i64 (T+1)) p<q o T c)) (λz=>((0:Int)<=T/\T<(((toNat t) - 0:Nat):Int))/\aJ (bV L f 0 5) λD=>aK.ck c (D.add (toNat T*5)) λc'=>aK.NW c λB E=>aK.cR E (AA B 0) c' λH=>ay (λ(V:Bool) F=>z V F) (λj=>ite o (Hu H B 1 λd'=> ∃w,Cc H b 1 (.U w)/\ite (d' !=w) (Hu H B 0 λe'=> ∃x,Cc H b 0 (.U x)/\ite (e' !=x) (j true H) (Hu H b 0 λf'=>Cl 332 #[.U f'] H λh' G=> ∃y,h'=.B y/\j (!y) G)) (j false H)) (j false H)))) (ite (!o) (g o c) ((i o (wrap .i64 (t+1)) c/\M o (wrap .i64 (t+1)) c<M O t d)))) (g O d))):Cl 257 #[.L L l f] h R:=aD [(2,λ_=> .scope 0 [(4,sB)] (lq (sq (sq (.join [(33,sB)] lf) (cq ll lf)) (lq ll))) (lq (sq (lq (.join [(4,sB)] (bq (.loop [(4,sB),(36,sI)] (lq (sq (cq lf lf) (sq (bq (lq (lq (sq (lq (bq (.loop [(4,sB),(47,sI)] (lq (sq (cq lf lf) (sq (.join [(4,sB)] (bq (lq (.join [(4,sB)] lf)))) lf)))))) (lq (cq lf lf)))))) lf))))))) ll)))] S
def yL (L:aT h (.C b.arr 277) λB l=>aH.ck l (AA B 0) λP=>Cl 328 #[P.agg] l λb' F=>aa.EX λq=> ∃r,b'=.T #[q.agg,.I r]/\aa.NW F λi G=>aa.cR G (AA i 0) q λe=>ite (r !=0) (R (.T #[.Z,.B false]) e) (aa.ck e (AA i 0) λQ=>Cl 333 #[Q.agg] e λc' n=> ∃v u s S,c'=.T #[.L v u s,.I S]/\Hl n B 20 λU w g'=> ∃(I:bH->Nat->Nat->iT)(M:bH->Nat->Nat->iW),I v u s 0 n/\∀c O o t H,I c O o t H->ite (decide (t<(w:Int))) (Bd t w/\aJ U λa=>aK.ck H (a.add (toNat t*5)) λV=>aK.NW H λj J=>aK.cR J (AA j 0) V λp=>aK.ck p (AA j 0) λX=>Cl 330 #[X.agg] p λd' K=>aa.EX λx=> ∃y,d'=.T #[x.agg,.I y]/\aa.NW K λk D=>aa.cR D (AA k 0) x λd=>ite (y !=0) (R (.T #[.Z,.B false]) d) (aa.ck d (AA k 0) λZ=>Cl 333 #[Z.agg] d λe' E=> ∃C A z a',e'=.T #[.L C A z,.I a']/\ij (Builtin.append_ #[69,69] 69 #[.L c O o,.L C A z]) E λf' m=> ∃g f T,f'=.L g f T/\(I g f T (wrap .i64 (t+1)) m/\M g f T (wrap .i64 (t+1)) m<M c O o t H))) (R (.T #[.L c O o,.B true]) H))):Cl 258 #[b.agg] h R:=aD [(18,.loop [(6,sS),(30,sI)])] L
def yM(c:aT h (.C b.arr 277) λB H=>az.ck H (AA B 0) λT=>Cl 185 #[T.agg] H λv a=> ∃f e d t,v=.T #[.L f e d,.I t]/\R (.B (t==0)) a):Cl 256 #[b.agg] h R:=aD [] c
def yN (r:aT h (.C b.arr 277) λB a=>Hl a B 20 λC A z=>Cl 257 #[.L C A z] a λv H=> ∃k,v=.B k/\ite (!k) (R (.T #[.Z,.I 3]) H) (az.ck H (AA B 0) λs=>Cl 258 #[s.agg] H λV c=> ∃e t T f,V=.T #[.L e t T,.B f]/\ay (λ(u:Bool) d=>ite u (R (.T #[.Z,.I 3]) d) (aT d (.C #[.int .u8 159] 5) λl n=>ij (Builtin.append_ #[69,69] 69 #[.L (Sa l 0) 1 1,.L e t T]) n λD o=>Vl D λy x w=>aT o (.C #[.int .u8 255] 5) λm p=>ij (Builtin.append_ #[69,69] 69 #[.L y x w,.L (Sa m 0) 1 1]) p λE q=> ∃j i g,E=.L j i g/\R (.T #[.L j i g,.I 0]) q)) (λJ=>ite (!f) (J true c) (J (decide (((t:Nat):Int)>598)) c)))):Cl 185 #[b.agg] h R:=aD [(14,.join [(21,sB)])] r
def As{q:bH}{e p:Nat} (hv:az.NW h λb r=>ite (decide ((e:Int)>1200)) (az.cR r (AA b 0) az.S.z λw=>az.ck w (AA b 0) λr0=>R (.T #[r0.agg,.I 2]) w) (Cl 253 #[.L q e p,.I 0] r λG' g'=>aa.EX λE=> ∃F T,G'=.T #[E.agg,.I F,.I T]/\aa.NW g' λB h'=>aa.cR h' (AA B 0) E λH=>ite (T !=0) (az.cR H (AA b 0) az.S.z λA=>az.ck A (AA b 0) λi'=>R (.T #[i'.agg,.I T]) A) (ay (λ(o':Bool) C=>ite o' (az.cR C (AA b 0) az.S.z λD=>az.ck D (AA b 0) λj'=>R (.T #[j'.agg,.I 3]) D) (az.NW C λd j=>Hl j B 3 λu' t' L'=>Bd 0 t'/\aJ u' λa=>aa.ck j (a.add (toNat 0*4)) λv'=>Cl 254 #[v'.agg] j λH' a'=>aH.EX λO=> ∃k,H'=.T #[O.agg,.I k]/\aH.cR a' (AA d 0) O λg=>ite (k !=0) (az.cR g (AA b 0) az.S.z λs=>az.ck s (AA b 0) λk'=>R (.T #[k'.agg,.I k]) s) (Hl g B 3 λx' l w'=>((0:Int)<=1/\1<=(l:Int))/\∃(I:iT)(M:iW),I 0 g/\∀t c,I t c->ite (decide (t<((l - (toNat 1):Nat):Int))) (((0:Int)<=t/\t<((l - (toNat 1):Nat):Int))/\aJ (bV x' w' (toNat 1) 4) λX=>aa.ck c (X.add (toNat t*4)) λy'=>aa.NW c λn b'=>aa.cR b' (AA n 0) y' λu=>aa.ck u (AA n 0) λz'=>Cl 255 #[z'.agg] u λI' c'=>aK.EX λP=> ∃m,I'=.T #[P.agg,.I m]/\aK.NW c' λo d'=>aK.cR d' (AA o 0) P λf=>ite (m !=0) (az.cR f (AA b 0) az.S.z λv=>az.ck v (AA b 0) λl'=>R (.T #[l'.agg,.I m]) v) (Hl f d 20 λC' B' A'=>aK.ck f (AA o 0) λD'=>aT f (.C D'.arr 374) λZ e'=>ij (Builtin.append_ #[275,275] 275 #[.L C' B' A',.L (Sa Z 0) 1 1]) e' λJ' f'=> ∃U S Q,J'=.L U S Q/\aI f' (AA d 20) (.L U S Q) λx=>(I (wrap .i64 (t+1)) x/\M (wrap .i64 (t+1)) x<M t c))) (az.ck c (AA d 0) λE'=>Cl 256 #[E'.agg] c λK' i=> ∃V,K'=.B V/\ite (!V) (az.cR i (AA b 0) az.S.z λy=>az.ck y (AA b 0) λm'=>R (.T #[m'.agg,.I 3]) y) (az.ck i (AA d 0) λF'=>az.cR i (AA b 0) F' λz=>az.ck z (AA b 0) λn'=>R (.T #[n'.agg,.I 0]) z))))) (λJ=>ite (F !=(e:Int)) (J true H) (∃G,Cc H B 0 (.I G)/\ite (G !=4) (J true H) (∃q' K p',Cc H B 3 (.L q' K p')/\ite (decide (((K:Nat):Int)<2)) (J true H) (∃s' L r',Cc H B 3 (.L s' L r')/\J (decide (((L:Nat):Int)>9)) H))))))):Cl 184 #[.L q e p] h R:=aD [(21,.join [(27,sB)]),(43,.loop [(67,sI)])] hv

end
section
namespace Bn
open Cb
open iZ (Ev dD jQ)
variable {V:cO→Bool} {h d H g:Heap} {R:dH} {D D':Nat→Prop}
variable {a:List BP} {q:bH} {l cl:Nat}
structure BB where
 b:BP
 p:bH
 c:Nat
abbrev BB.s(x:BB):aK.S:=x.b.s x.p x.c
variable {xs:List BB}
abbrev Gc(x:BB):List Value:=x.s.l
def EP(x:BB):(Gc x).length=5:=rfl
def Rj(x:BB): ∀v∈Gc x,fH v=true:=λv c=>by simp only[Gc,aK.S.l,bG,dU,or_false]at c;rcases c with rfl|rfl|rfl|rfl|rfl<;>rfl
structure oi (h:Heap) (D:fZ) (a:List BP) (q:bH) (l cl:Nat) (xs:List BB):Prop where
 eq:xs.map BB.b=a
 len:l=a.length
 row:Row h q (xs.flatMap Gc)
 own:xs≠ []->∀y,aN q y->D y
 cap:l<=cl
 ok: ∀x∈xs,BV.ok h D ⟨x.p,x.c,x.b.data⟩
def oi.xl(B:oi h D a q l cl xs):xs.length=a.length:=by rw[<-B.eq,aM]
def oi.frame{Q:fZ}(B:oi h D a q l cl xs)(f:Fr Q h H)(c: ∀y,D y->¬Q y):oi H D a q l cl xs:=by refine⟨B.eq,B.len,?_,B.own,B.cap,λx j=>(B.ok x j).frame f c⟩;by_cases e:xs= [];subst e;exact Row.nil;exact B.row.frame f (λA i=>c _ (B.own e _ ⟨A,i,rfl⟩))
def oi.on(B:oi h D a q l cl xs)(f:Fr No h H):oi H D a q l cl xs:=B.frame f bD
def oi.mono(B:oi h D a q l cl xs)(c: ∀y,D y->D' y):oi h D' a q l cl xs:=
 ⟨B.eq,B.len,B.row,λe y i=>c y (B.own e y i),B.cap,λx f=>(B.ok x f).mono c⟩
def oi.get(B:oi h D a q l cl xs){i:Nat}(e:i<a.length): ∃(A:Addr)(x:BB),q=some A/\cz (A.add (i*5)) x.s.l 0 h/\x.b=a[i]/\BV.ok h D ⟨x.p,x.c,x.b.data⟩/\xs[i]? =some x:=by have xl:=B.xl;have c:xs[i]? =some (xs[i]' ae):=ai _;obtain⟨A,rfl⟩:=B.row.any EP;refine⟨A,_,rfl,B.row.gL EP c,?_,B.ok _ (aW c),c⟩;have:=B.eq;subst this;rw[List.getElem_map]
theorem oi.take(B:oi h D a q l cl xs){n:Nat}(r:n<=a.length):oi h D (a.take n) (bV q cl 0 5) (n - 0) (cl - 0) (xs.take n):=by
 have o:=B.cap;have p:=B.len;have f:=B.row.sub (cap:=cl) (u:=n) (sz:=5) (bg _) ae;rw[mM Gc 5 EP,Nat.zero_mul,List.drop_zero]at f;refine⟨by rw[List.map_take,B.eq],by grind,f,λe y j=>B.own (λm=>e (by grind)) y ?_,ae,λx i=>B.ok x (List.mem_of_mem_take i)⟩;have⟨A,E,c⟩:=j;unfold bV at E;cases q with
 |none=>grind
 |some k=>
  split at E
  cases E;exact⟨_,rfl,c⟩;cases E;exact⟨_,rfl,c⟩
theorem Rk{k:Nat}(c:R (.B (alone k)) h):Cl 332 #[.U (k:Int)] h R:=by
 refine yK ?_;unfold alone at c;by_cases C:k=1;grind;rw[af (by simp only[cU];omega)];by_cases e:k=6;grind;rw[af (by grind)];by_cases f:k=7;grind;rw[af (by simp only[cU];omega)];have:((k:Int)==10)=decide (k=1\/k=6\/k=7\/k=10):=by grind
 rw[this];exact c
theorem VI(U:lU V d)(n':Fr No d h)(mx:jk.Mx h)(B:oi h D a q l cl xs)(hl:a.length<=1000000)(hd: ∀b∈a,b.data.length<=80000)(K: jA h R (.B (FQ V a))):Cl 257 #[.L q l cl] h R:=by
 have el:=B.len;subst el;refine Cf ?_;have c:FQ V a=FQ V a:=rfl;conv at c=>rhs;unfold FQ
 refine⟨λo g=>o=true/\g=h/\a.length<=8/\FQ V a=LB V [] a,λ_ _=>0,ay.of λd' S=> ?_,?_⟩
 .have L:FQ V a=false->d' true h:=λe=>by
   subst S;dsimp only;rw[ah rfl];have:=K h (Fr.refl _ _);rw[e]at this;exact this
  by_cases O:a.length=0;rw[ah (by rw[O];decide)];have:a= []:=List.length_eq_zero_iff.1 O;exact L (by rw[c,this];rfl);obtain⟨n,hn⟩: ∃n,a.length=n+1:=⟨a.length - 1,ae⟩;have ew:IntKind.wrap .i64 (((a.length:Nat):Int) - 1)=(n:Int):=by rw[hn,eY];omega
  have m':a.getLast? =some a[n]:=by rw[List.getLast?_eq_getElem?,show a.length - 1=n by omega,ai ae]
  rw[m']at c;dsimp only at c;rw[ew,fe];by_cases w:a.length<=8
  case neg=>rw[ah (by simp only[bN];omega)];exact L (by rw[c,aA w];rfl)
  rw[fe];rw[aq w,Bool.true_and]at c;obtain⟨A,x,rfl,u,E,_⟩:=B.get (i:=n) ae;have f':aQ h (A.add (n*5))=some (.U ((a[n].ty:Nat):Int)):=by rw[<-E];exact u.1
  have g':aQ h ((A.add (n*5)).add 1)=some (.U ((a[n].nr:Nat):Int)):=by rw[<-E];exact u.2.1
  refine⟨ae,av.2 ⟨_,by rw[aG];exact f',?_⟩⟩;by_cases C:a[n].ty=1
  case neg=>rw[ah (by simp only[fp,ne_eq];omega)];exact L (by rw[c,aA (λe=>C e.1)];rfl)
  rw[af (by simp only[fp,ne_eq];omega)];refine⟨ae,av.2 ⟨_,by rw[aG];exact g',?_⟩⟩;by_cases f:a[n].nr=1
  case neg=>grind
  rw[show(((a[n].nr:Nat):Int) !=1)=false by simp only[bne_eq_false_iff_eq];omega];subst S;dsimp only;rw[fe];exact⟨rfl,rfl,w,by rw[c,aq ⟨C,f⟩];rfl⟩
 rintro _ h ⟨rfl,rfl,l8,hf⟩;clear c;refine ay.of λJ1 T=> ?_;refine⟨λo t g=> ∃i:Nat,t=(i:Int)/\i<=a.length/\o=true/\Fr No h g/\LB V [] a=LB V (a.take i) (a.drop i),λ_ t _=>a.length - t.toNat,⟨0,rfl,bg _,rfl,Fr.refl _ _,rfl⟩,?_⟩;rintro _ _ g ⟨i,rfl,hi,rfl,F,j⟩;by_cases p:i<a.length
 case neg=>rw[af (λe=>p (cv (bj e)))];subst T;have:=K g F;rw[hf,j,dR ae]at this;exact this
 rw[iE];have Bg:=B.on F;obtain⟨A,x,rfl,u,E,c',_⟩:=Bg.get p;rw[cK p]at j;have lx:x.b.data.length<=80000:=by rw[E];exact hd _ (cx p)
 refine⟨ae,av.2 (aK.gT (x:=x.s) (by rw[aG];exact u) (aK.fX (x:=x.s) λb h6 eb X s=>aK.dZ X (Hk x.b U (n'.tt (F.tt s)) (mx.on (F.tt s)) (c'.frame s bD).row c'.cap lx λh7 Q=>⟨_,rfl,⟨ae,cv B.cap⟩,?_⟩)))⟩;have M:=s.tt Q;have j':=Q.get X id;have z7:=F.tt M;rw[E];have eP: ∀r,LB V (a.take i) (a[i]::r)=(oP V a[i] && (a.take i).all (apart a[i]) && LB V (a.take i++ [a[i]]) r):=λr=>rfl;rw[eP]at j;refine⟨λo t G=> ∃k:Nat,t=(k:Int)/\k<=i/\o=(oP V a[i] && (a.take k).all (apart a[i]))/\Fr No h7 G,λ_ t _=>i - t.toNat,⟨0,rfl,bg _,bO,Fr.refl _ _⟩,?_⟩;rintro o _ G ⟨k,rfl,p',b',z⟩;have ei:((Int.toNat (i:Int)) - 0:Nat)=i:=ae
 rw[ei];have v:=F.tt (M.tt z);by_cases l':k<i
 case neg=>
  rw[af (λe=>l' (cv (bj e)))];have:k=i:=ae
  subst this;rw[<-b']at j;cases o with
  |false=>rw[iE];subst T;have:=K G v;rw[hf,j]at this;exact this
  |true=>rw[fe,df (n:=(k:Int)+1) ae ae];refine⟨⟨k+1,ae,ae,rfl,v,?_⟩,by show a.length - Int.toNat ((k:Int)+1)<a.length - Int.toNat (k:Int);omega⟩;rw[j,Bool.true_and,bt,ai p];rfl
 rw[iE];refine ay.of λJ2 h'=> ?_;have B2:=(B.on v).take (n:=i) ae;have lt:(a.take i).length=i:=by rw[bM];omega
 obtain⟨a',y,e',k',ey,q',_⟩:=B2.get (i:=k) ae;rw[List.getElem_take]at ey;have lk:k<a.length:=ae
 have ek:a.take (k+1)=a.take k++ [a[k]]:=by rw[bt,ai lk];rfl
 refine⟨ae,cf.2 ⟨a',e',aK.gT (x:=y.s) (by rw[aG];exact k') (aK.fX (x:=y.s) λb1 m o' Z P=>ay.of λJ3 i'=> ?_)⟩⟩;have J:=(z.tt P).get j' id;have go: ∀r I,Fr No m I->r=(o && apart a[i] a[k])->J3 r I:=by intro r I f2 er;subst i' h';dsimp only;rw[df (n:=(k:Int)+1) ae ae];refine⟨⟨k+1,ae,ae,?_,z.tt (P.tt f2)⟩,by show i - Int.toNat ((k:Int)+1)<i - Int.toNat (k:Int);omega⟩;rw[er,b',ek,List.all_append,<-fx];simp
 cases hq:o with
 |false=>rw[fe];exact go false m (Fr.refl _ _) (by rw[hq];rfl)
 |true=>
 rw[ah rfl];refine⟨_,aj Z,_,aj J,?_⟩;rw[hq]at go;have n1:(((y.s.f1:Int) !=x.s.f1)=decide (a[k].nr≠a[i].nr)):=by grind
 have n2:(((y.s.f0:Int) !=x.s.f0)=decide (a[k].ty≠a[i].ty)):=by grind
 rw[n1];by_cases C:a[k].nr≠a[i].nr
 case neg=>rw[af (dQ C)];exact go false m (Fr.refl _ _) (by unfold apart;rw[aA C];rfl)
 rw[ah (aq C)];refine⟨_,aj Z,_,aj J,?_⟩;rw[n2];by_cases f:a[k].ty≠a[i].ty;rw[ah (aq f)];exact go true m (Fr.refl _ _) (by unfold apart;rw[aq C,aq f];rfl);rw[af (dQ f)];refine⟨_,aj J,?_⟩;rw[show x.s.f0=((a[i].ty:Nat):Int) by rw[<-E]];exact Rk ⟨_,rfl,go _ m (Fr.refl _ _) (by unfold apart;rw[aq C,aA f];rfl)⟩
def KC(t:Tr):(Ef V t).length<=room t:=by unfold Ef;split;exact mD t;simp
theorem Nk{t:Tr}{x:CV}(U:lU V d)(u:Fr No d h)(T:hM h D t x)(j:room t<=1000000)(i: ∀H p c (q:Int),Own H p (Ef V t).length c 1 (bc (Ef V t))->(∀y,aN p y->h.size<=y)->Fr No h H->R (.T #[.slice p (Ef V t).length c,.I q]) H):Cl 333 #[x.agg] h R:=by
 unfold Ef at i;refine GU U u T j (λe H p c o n f=> ?_) (λe H f=> ?_);grind;rw[e,fe]at i;exact i H none 0 3 (.nil rfl rfl rfl rfl) (λy ⟨A,e,_⟩=>by cases e) f
abbrev JX.s(b:JX)(q:bH)(cl:Nat):az.S:=⟨b.p.fl,b.p.sum,b.p.dest.lS,b.p.dest.node,b.p.dest.iA,b.p.dest.host,b.p.dest.kj,b.p.rep.lS,b.p.rep.node,b.p.rep.iA,b.p.rep.host,b.p.rep.kj,b.p.id.e.lS,b.p.id.e.node,b.p.id.e.iA,b.p.id.e.host,b.p.id.e.kj,b.p.id.tm,b.p.id.sq,b.p.kG,q,b.bl.length,cl⟩
variable {b:JX}
def Zi{b:Nat}{x:JX}{K:aH.S->Prop}(c:az.ff h b (x.s q cl))(e:K x.p.s):aH.ck h (AA b 0) K:=
 ⟨_,aj c,_,aj c,_,aj c,_,aj c,_,aj c,_,aj c,_,aj c,_,aj c,_,aj c,_,aj c,_,aj c,_,aj c,_,aj c,_,aj c,_,aj c,_,aj c,_,aj c,_,aj c,_,aj c,_,aj c,e⟩
theorem Rl(l':b.p.wf)(U:lU V d)(u:Fr No d h)(mx:jk.Mx h)(B:oi h D b.bl q b.bl.length cl xs)(hl:b.bl.length<=8)(hd: ∀b'∈b.bl,b'.data.length<=80000)(k1: ∀o,xc V b=some o->o.length<=5000->∀H p c,Own H p o.length c 1 (bc o)->(∀y,aN p y->h.size<=y)->Fr No h H->R (.T #[.L p o.length c,.B true]) H)(k2:xc V b=none->jA h R (.T #[.Z,.B false])):Cl 258 #[(b.s q cl).agg] h R:=by
 refine yL (az.cE λb1 h1 n' O I=>Zi O (Rh b.p l' U (u.tt I) λh2 a' qz z0 z1 J=>aa.ex a'.s ⟨_,rfl,aa.fX (x:=a'.s) λb2 h4 o' h' s=> ?_⟩));have n:=I.tt (J.tt s);have m:xc V b=xc V b:=rfl;conv at m=>rhs;unfold xc
 cases v:pM V b.p with
 |error e=>grind
 |ok t=>
 obtain⟨rfl,tz⟩:=z0 t v;rw[v]at m;dsimp only at m;rw[fe];have rt:=EM v;have le:=KC (V:=V) t;refine aa.dZ h' (Nk U (u.tt n) (tz.on s) ae λh5 p5 c5 q5 o5 n5 K=>⟨_,_,_,_,rfl,_,_,_,aj ((J.tt (s.tt K)).get O id),?_⟩);have F5:=n.tt K;have z4:=n.1;refine⟨λp l c t g=> ∃(i:Nat)(o:cO),t=(i:Int)/\i<=b.bl.length/\l=o.length/\Own g p o.length c 1 (bc o)/\(∀y,aN p y->h.size<=y)/\Fr No h g/\xc V b=JY V (b.bl.drop i) o/\o.length<=1100+400*i,λ_ _ _ t _=>b.bl.length - t.toNat,⟨0,Ef V t,rfl,bg _,rfl,o5,λy z=>cv (n5 y z),F5,m,ae⟩,?_⟩;rintro p _ c _ g ⟨i,o,rfl,hi,rfl,S,C,F,f,u'⟩;have lb:(b.s q cl).P7=b.bl.length:=rfl;by_cases w:i<b.bl.length
 case neg=>rw[af (λe=>w (by grind))];rw[dR ae]at f;exact k1 o f ae g p c S C F
 rw[iE];obtain⟨A,x,rfl,hh,ex,Q,_⟩:=(B.on F).get w;have lx:x.b.data.length<=80000:=by grind
 refine⟨ae,av.2 (aK.gT (x:=x.s) (by grind) (aK.fX (x:=x.s) λb3 h8 q' i' k=>aK.dZ i' (Nj x.b U (u.tt (F.tt k)) (mx.on (F.tt k)) (Q.frame k bD).row Q.cap lx λh9 y qy X Z M=>aa.ex y.s ⟨_,rfl,aa.fX (x:=y.s) λb4 g' r' j' r=> ?_⟩)))⟩;have E:=F.tt (k.tt (M.tt r));rw[ex]at X Z;rw[cK w]at f;have hB: ∀L,JY V (b.bl[i]::L) o=(match vL V b.bl[i]with| .error _=>none| .ok t=>JY V L (o++Ef V t)):=λL=>rfl;rw[hB]at f;cases j:vL V b.bl[i]with
 |error e=>rw[ah (by rw[Z e j];simpa using KB j)];exact k2 (by rw[f,j]) g' E
 |ok T=>
 obtain⟨rfl,ty⟩:=X T j;rw[j]at f;dsimp only at f;rw[fe];have z':=Hn j;have v':=KC (V:=V) T;refine aa.dZ j' (Nk U (u.tt E) (ty.u.on r) ae λs' x' m' y' k' w' d'=>⟨_,_,_,_,rfl,?_⟩);have G:=k.tt (M.tt (r.tt d'));refine du gD.tU gD.uU (S.frame G bD) k'.iy (by rw[fO,bJ]) (kY _) ae ae λp' c' t' P _ e' f'=>⟨_,_,_,rfl,?_⟩;rw[df (n:=(i:Int)+1) ae ae];rw[<-hZ,<-ak]at P;have zG:=(F.tt G).1;refine⟨⟨i+1,o++Ef V T,ae,ae,by rw[ak],P,λy z=> ?_,(F.tt G).fresh e' C,f,by rw[ak];omega⟩,by grind⟩;rcases f' y z with A|A;exact C y A;omega
theorem CJ(b':b.p.wf)(U:lU V d)(u:Fr No d h)(M:jk.Mx h)(B:oi h D b.bl q b.bl.length cl xs)(hl:b.bl.length<=1000000)(K: ∀S∈b.bl,S.data.length<=80000)(k1: ∀o,xd V b=some o->o.length<=600->∀H p c,Own H p o.length c 1 (bc o)->(∀y,aN p y->h.size<=y)->Fr No h H->R (.T #[.L p o.length c,.I 0]) H)(L:xd V b=none->jA h R (.T #[.Z,.I 3])):Cl 185 #[(b.s q cl).agg] h R:=by
 have i:xd V b=xd V b:=rfl;conv at i=>rhs;unfold xd
 refine yN (az.cE λb1 h1 c' I j=>⟨_,_,_,aj I,VI U (u.tt j) (M.on j) (B.on j) hl K λh2 z=>⟨_,rfl,?_⟩⟩);have F:=j.tt z;cases n:FQ V b.bl with
 |false=>grind
 |true=>
 rw[n,ah rfl]at i;rw[fe];have l8:b.bl.length<=8:=by unfold FQ at n;split at n;cases n;grind
 refine az.dZ (z.get I id) (Rl b' U (u.tt F) (M.on F) (B.on F) l8 K (λo ho lo f p c ow nw k=>⟨_,_,_,_,rfl,ay.of λJ t=> ?_⟩) (λhn f k=>⟨_,_,_,_,rfl,ay.of λJ t=> ?_⟩))
 case refine_2=>rw[iE];subst t;dsimp only;rw[ah rfl];exact L (by rw[i,hn]) f (F.tt k)
 rw[ho]at i;dsimp only at i;rw[fe];subst t;dsimp only;by_cases C:o.length<=598
 case neg=>rw[ah (by simp only[bN];omega)];exact L (by rw[i,af C]) f (F.tt k)
 rw[af (by grind)];rw[ah C]at i;have x:=F.tt k;have z3:=x.1;refine bn ?_;have r:Fr No f (f.push (.C #[.int .u8 159] 5)):=Fr.push _ _;have o5:Own (f.push (.C #[.int .u8 159] 5)) (Sa f.size 0) 1 1 1 (bc [159]):=by
  exact .row f.size 0 #[.int .u8 159] 5 rfl aU (bf _) bO rfl (λa' d' v=>by
   match a',v with
   |0,v=>exact v)
 refine du gD.tU gD.uU o5 ((ow.frame r bD).iy) (by rw[fO,bJ]) (kY _) ae ae λp6 c6 m o6 _ G g6=>⟨_,_,_,rfl,bn ?_⟩;have s:Fr No m (m.push (.C #[.int .u8 255] 5)):=Fr.push _ _;have z5:=r.1;have z6:=G.1;have z7:=s.1;refine du gD.tU gD.uU (o6.frame s bD) (q:=some (AA m.size 0)) (ds:=bc [255]) gW rfl (kY _) ae ae λp8 T h8 O _ Z g8=>⟨_,_,_,rfl,?_⟩;rw[<-hZ,<-hZ]at O;have X:1+o.length+1=(159::(o++ [255])).length:=by simp;omega
 rw[X]at O⊢;have P: ∀y,aN p6 y->f.size<=y:=λy w=>by rcases g6 y w with⟨A,e,E⟩|A;cases e;rw[<-E];exact bf _;omega
 have Q:Fr No f m:=r.fresh G (λy ⟨A,e,E⟩=>by grind);refine k1 _ i (by simp;omega) h8 p8 T O (λy w=> ?_) (x.tt ((Q.tt s).fresh Z P));rcases g8 y w with A|A;have:=P y A;omega;omega
def ON(w:b.p.wf)(U:lU V d)(u:Fr No d h)(M:jk.Mx h)(B:oi h D b.bl q b.bl.length cl xs)(n:b.bl.length<=1000000)(m: ∀j∈b.bl,j.data.length<=80000)(i: jA h R (.B (xd V b).isSome)):Cl 256 #[(b.s q cl).agg] h R:=by
 refine yM (az.cE λs t E k f=>az.dZ k (CJ w U (u.tt f) (M.on f) (B.on f) n m (λO r L e p c x v F=>⟨_,_,_,_,rfl,?_⟩) (λo e F=>⟨_,_,_,_,rfl,?_⟩)));have:=i e (f.tt F);rw[r]at this;exact this;have:=i e (f.tt F);rw[o]at this;exact this

end Bn
end
section
namespace Bn
open Cb
open iZ (Ev dD jQ)
variable {V:cO→Bool} {h d H g G:Heap} {R:dH} {D:Nat→Prop}
variable {b cl c l:Nat} {q:bH} {p:Prim} {a:List BP} {X:List BB}
def tK:jL Tryz.prog 275 374 5 56 (.agg #[.U 0,.U 0,.U 0,.I 0,.Z]):=⟨zzkr,zzkr,rfl⟩
def uK:Tryz.prog.underlying 275=some (.slice 374):=zzkr
def Rm{x:JX}{K:cM}(k:az.ff h b (x.s q cl))(n: ∀H,az.ff H b (JX.s ⟨p,x.bl⟩ q cl)->Fr (λy=>y=b) h H->K H):aH.cR h (AA b 0) p.s K:=
 (show cQ (AA b 0) p.s.l 0 h K from vu k bO rfl rfl λj e f i=>n j e (Fr.of_eq f λC m=>i C m))
def Rn{y x:az.S}{K:az.S->cM}(i:az.ff h b y)(j: ∀H,Fr (λy=>y=b) h H->K x H):
  az.cR h (AA b 0) x λg=>az.ck g (AA b 0) λr=>K r g:=
 az.fB i λg e f _=>az.dZ e (j g f)
structure Bc (G g:Heap) (c:Nat) (p:Prim) (a:List BP) (X:List BB) (q:bH) (cl:Nat):Prop where
 cV:az.ff g c (JX.s ⟨p,a⟩ q cl)
 own:Own g q X.length cl 5 (X.flatMap Gc)
 ge: ∀y,aN q y->G.size<=y/\y≠c
 eq:X.map BB.b=a
 ok: ∀x∈X,BV.ok g (λy=>(G.size<=y/\y≠c)/\¬aN q y) ⟨x.p,x.c,x.b.data⟩
 fr:Fr (λy=>y=c) G g
def Bc.on(L:Bc G g c p a X q cl)(f:Fr No g H):Bc G H c p a X q cl:=
 ⟨f.get L.cV id,L.own.frame f bD,L.ge,L.eq,λx e=>(L.ok x e).frame f bD,L.fr.on f⟩
def Bc.len(L:Bc G g c p a X q cl):X.length=a.length:=by rw[<-L.eq,aM]
def Bc.to(L:Bc G g c p a X q cl):oi g (λy=>G.size<=y/\y≠c) a q a.length cl X:=
 ⟨L.eq,rfl,L.own.iy,λ_=>L.ge,iI L.own.le L.len,λx e=>(L.ok x e).mono λy f=>f.1⟩
theorem Yn{x:BB}{u:cM}(L:Bc G g c p a X q cl)(hl:l=X.length)(ll:X.length<=1000000)(ox:BV.ok g (λy=>(G.size<=y/\y≠c)/\¬aN q y) ⟨x.p,x.c,x.b.data⟩)(hk: ∀k c' Q C,Bc G k c p (a++ [x.b]) c' Q C->g.size<=k.size->u k):
  aT g (.C x.s.arr 374) λv S=>bu Tryz.prog (Builtin.append_ #[275,275] 275 #[.L q l cl,.L (Sa v 0) 1 1]) S λb' U=>∃s T t,b'=.L s T t/\aI U (AA c 20) (.L s T t) λZ=>u Z:=by
 subst hl;refine aK.cE λb2 h7 d' n F=> ?_;have z7:=F.1;have zg:=L.fr.1;have e':=aE n;have f':=aE L.cV;have nq: ∀y,aN q y->y<g.size:=λy f=>L.own.dW f;refine du tK uK (L.own.frame F bD) (ds:=Gc x) (.inr ⟨_,rfl,aK.im (x:=x.s) n⟩) rfl (Rj x) ae ae λQ C P a' _ i O=>⟨_,_,_,rfl,?_⟩;have B:=i.get (F.get L.cV id) (λf=>(L.ge _ f).2 rfl);refine aY B (by show 20<21;omega) λm E I J=> ?_;have j:Fr (λy=>y=c) P m:=Fr.of_eq I (λz hc=>J z hc);have r: ∀y,aN Q y->G.size<=y/\y≠c:=λy f=>by rcases O y f with A|A;exact L.ge y A;omega
 have K:X.flatMap Gc++Gc x=(X++ [x]).flatMap Gc:=bO
 have M:(a++ [x.b]).length=X.length+1:=by rw[ak,L.len];rfl
 refine hk m (X++ [x]) Q C ⟨?_,?_,r,?_,?_,?_⟩ ?_;unfold az.ff JX.s;rw[M];exact E;rw[ak,<-K];exact a'.frame j (λy f e=>cv (r y f));rw[bB,L.eq];rfl;intro y f;have key: ∀w:BB,BV.ok g (λy=>(G.size<=y/\y≠c)/\¬aN q y) ⟨w.p,w.c,w.b.data⟩->BV.ok m (λy=>(G.size<=y/\y≠c)/\¬aN Q y) ⟨w.p,w.c,w.b.data⟩:=λw ow=>by have o1:=((MU ow).frame F bD).frame i (λy f o=>f.1.2 o);have o2:=o1.mono (D':=λy=>(G.size<=y/\y≠c)/\¬aN Q y) (λy f=>⟨f.1.1,λo=>by grind⟩);exact o2.frame j (λy f e=>ae)
 rcases cG.1 f with A|A;exact key y (L.ok y A);grind;exact((L.fr.on F).trans i (S'':=λy=>y=c) bD (λx hx f=>cv (L.ge x f))).trans j bD bD;have:=i.1;omega
def Ro{t:Tr}{b:BP}(h:Ee V t=.ok b):b.data.length<=200:=by
 unfold Ee at h;split at h;cases h;split at h
 split at h
 rename_i e;split at h;cases h;unfold vL at e;split at e;rename_i f;exact(Ar f).2.2.1;cases e;cases h;cases h;cases h
theorem Rp{b:JX}(h:(xd V b).isSome=true):b.bl.length<=8/\b.bl≠ []:=by unfold xd at h;split at h;rename_i e;unfold FQ at e;split at e;cases e;grind;cases h
def JX.zs:az.S:=.z
def IF{a:cO}{p:bH}{m':Nat}(U:lU V d)(d':Fr No d h)(mx:jk.Mx h)(K':Row h p (bc a))(hl:l=a.length)(cap:a.length<=m')(k1: ∀b,BQ V a=.ok b->b.p.wf->(∀s∈b.bl,s.data.length<=200)->b.bl.length<=8->∀H q cl X,oi H (λy=>h.size<=y) b.bl q b.bl.length cl X->Fr No h H->R (.T #[(b.s q cl).agg,.I 0]) H)(k2: ∀e,BQ V a=.error e->e≠0->jA h R (.T #[az.S.z.agg,.I e])):Cl 184 #[.L p l m'] h R:=by
 subst hl;have k:BQ V a=BQ V a:=rfl;conv at k=>rhs;unfold BQ
 refine As (az.cE λb h1 eb hb A=> ?_);have zb:=aE hb;have z1:=A.1;have J: ∀g e,Fr No h1 g->BQ V a=.error e->e≠0->az.cR g (AA b 0) .z λv=>az.ck v (AA b 0) λJ'=>R (.T #[J'.agg,.I e]) v:=λg e fg j m=>Rn (fg.get hb id) λv f=>k2 e j m v ((A.tt fg).fresh f (λy e=>ae));by_cases c0:a.length<=1200
 case neg=>rw[ah (by simp only[bN];omega)];exact J h1 2 (Fr.refl _ _) (by rw[k,af c0]) bA
 rw[fe];rw[ah c0]at k;refine Eg (U.mono (d'.tt A)) (K'.frame A bD) rfl cap ae (λh3 t x nx O tx u=>aa.ex x.s ⟨_,_,rfl,aa.fX (x:=x.s) λb1 w y' I n=> ?_⟩) (λh3 e j u=>aa.ex zv.s ⟨_,_,rfl,aa.fX (x:=zv.s) λb1 w y' I n=> ?_⟩)
 case refine_2=>rw[ah (dQ (vB j))];exact J w e (u.tt n) (by rw[k,j]) (vB j)
 rw[O]at k;dsimp only at k;obtain⟨rt,R'⟩:=DX O;rw[fe];have z:=A.tt (u.tt n);obtain⟨xk,xn,xb,xl,xv,ys,L,TS⟩:=hM.kn (tx.u.on n);have rl:=oW (t:=t);have ln:=TS.len;refine ay.of λu' hJ=> ?_;have K: ¬(nx=a.length/\t.k=4/\2<=t.l.length/\t.l.length<=9)->u' true w:=λm=>by subst hJ;dsimp only;rw[ah rfl];exact J w 3 (u.tt n) (by rw[k,af m]) bA
 have sl:x.s.Fw=t.l.length:=xl;by_cases c1:nx=a.length
 case neg=>rw[ah (by simp only[fp,ne_eq];omega)];exact K (λe=>c1 e.1)
 rw[af (by simp only[fp,ne_eq];omega)];refine⟨_,aj I,?_⟩;rw[show x.s.f0=t.k from xk];by_cases Z:t.k=4
 case neg=>rw[ah (dQ Z)];exact K (λe=>Z e.2.1)
 rw[af (dQ Z)];refine⟨_,_,_,aj I,?_⟩;by_cases c3:2<=t.l.length
 case neg=>rw[ah (by simp only[bN];omega)];exact K (λe=>c3 e.2.2.1)
 rw[fe];refine⟨_,_,_,aj I,?_⟩;by_cases c4:t.l.length<=9
 case neg=>rw[show decide ((x.s.Fw:Int)>9)=true by simp only[bN];omega];exact K (λe=>c4 e.2.2.2)
 rw[show decide ((x.s.Fw:Int)>9)=false by simp only[decide_eq_false_iff_not];omega];clear K;rw[ah ⟨c1,Z,c3,c4⟩]at k;subst hJ;try dsimp only
 rw[fe];have z5:=z.1;have T':=(u.tt n).1;refine az.cE λb2 h9 O' i' r=> ?_;have z9:=r.1;have U':=aE i';obtain⟨a0,y0,w',H',L',_⟩:=elem (L.frame r bD) (TS.on r) (i:=0) ae;have r0:=jR (ts:=t.l) (i:=0) ae;have F9:=z.tt r;refine⟨_,_,_,aj (r.get I id),ae,cf.2 ⟨a0,w',aa.gT (x:=y0.s) H' ?_⟩⟩;refine Ri U (d'.tt F9) (mx.on F9) L' ae (λpr hp wp C' C=>aH.ex pr.s ⟨_,rfl,Rm (x:=⟨Prim.zero, []⟩) (p:=pr) (q:=none) (cl:=0) (C.get i' id) λg' n' a'=> ?_⟩) (λe j m C' C=>aH.ex Prim.zero.s ⟨_,rfl,Rm (x:=⟨Prim.zero, []⟩) (p:=Prim.zero) (q:=none) (cl:=0) (C.get i' id) λg' n' a'=> ?_⟩)
 case refine_2=>rw[ah (dQ m)];exact J g' e ((u.tt (n.tt (r.tt C))).fresh a' (λy e=>ae)) (by rw[k,j]) m
 rw[fe];rw[hp]at k;dsimp only at k;have t':Fr No w g':=(r.tt C).fresh a' (λy e=>ae);refine⟨_,_,_,aj (t'.get I id),ae,?_⟩;have e1:Int.toNat 1=1:=rfl;rw[e1,sl];refine⟨λT g=> ∃(i:Nat)(o:List BP)(X:List BB)(q:bH)(cl:Nat),T=(i:Int)/\i+1<=t.l.length/\o.length=i/\Bc w g b2 pr o X q cl/\(∀s∈o,s.data.length<=200)/\BQ V a=(match JZ V (t.l.drop (i+1)) o with| .error e=> .error e| .ok l=>if(xd V ⟨pr,l⟩).isSome=true then .ok ⟨pr,l⟩else .error 3),λT _=>t.l.length - 1 - T.toNat,⟨0, [], [],none,0,rfl,ae,rfl,⟨n',.nil rfl rfl rfl rfl,(λy ⟨Q,e,_⟩=>by cases e),rfl,(λx hx=>by cases hx),(r.tt C).mono (λ_ _=>False.elim)|>.tt a'⟩,(λx hx=>by cases hx),k⟩,?_⟩;rintro _ g ⟨i,o,X,q,cl,rfl,hi,ho,B,hd,j⟩;have F:Fr No w g:=(Fr.refl _ _).fresh B.fr (λy e=>ae);have P:Fr No h1 g:=u.tt (n.tt F);by_cases c':i+1<t.l.length
 case neg=>
  rw[af (λe=>c' (cv (bj e)))];rw[dR ae]at j;have j:BQ V a=if(xd V ⟨pr,o⟩).isSome=true then .ok ⟨pr,o⟩else .error 3:=j;refine az.dZ B.cV (ON (b:=⟨pr,o⟩) wp U (d'.tt (z.tt F)) (mx.on (z.tt F)) B.to (by show o.length<=_;omega) (λs h'=>cv (hd s h')) λE' M=>⟨_,rfl,?_⟩);cases hw:(xd V ⟨pr,o⟩).isSome with
  |false=>rw[iE];exact J E' 3 (P.tt M) (by rw[j,hw];rfl) bA
  |true=>rw[hw,ah rfl]at j;rw[fe];refine az.dZ (M.get B.cV id) (Rn ((P.tt M).get hb id) λv f=>k1 ⟨pr,o⟩ j wp hd (Rp hw).1 v q cl X ?_ ((A.tt (P.tt M)).fresh f (λy e=>ae)));exact((B.to.on M).frame f (λy hy e=>ae)).mono λy hy=>ae
 rw[iE];have G':t.l.drop (i+1)=at_ t.l (i+1)::t.l.drop (i+1+1):=by rw[cK c'];unfold at_;rw[aL,ai c'];rfl
 rw[G']at j;have hB: ∀T l',JZ V (T::l') o=(match Ee V T with| .error e=> .error e| .ok b=>JZ V l' (o++ [b])):=λ_ _=>rfl;rw[hB]at j;have Lg:=L.frame F bD;have cc:x.ll<=x.cl:=L.cap;have L2:ny g (λ_=>True) (bV x.s.Pl x.s.Ll 1 4) (t.l.length - 1) (x.s.Ll - 1) (ys.drop 1):=by have O:=Lg.row.sub (cap:=x.cl) (l:=1) (u:=t.l.length) (sz:=4) ae ae;rw[mM jr 4 gI,zB jr 4 gI,bz ae]at O;exact⟨by rw[cj];omega,O,λ_ _ _=>trivial,by show _<=x.cl - 1;omega⟩
 have T2:Ke g (t.l.drop 1) (ys.drop 1):=(TS.on F).drop 1;obtain⟨a1,y1,x',I',s',_⟩:=elem L2 T2 (i:=i) (by rw[cj];omega);have ei:at_ (t.l.drop 1) i=at_ t.l (i+1):=by unfold at_;rw[aL,aL,fj,Nat.add_comm]
 rw[ei]at s';have r1:=jR (ts:=t.l) (i:=i+1) c';refine⟨ae,cf.2 ⟨a1,x',aa.gT (x:=y1.s) (by rw[aG];exact I') (aa.fX (x:=y1.s) λb3 Q' P' F' E=>aa.dZ F' ?_)⟩⟩;have zg:=F.1;refine Ty U (d'.tt (z.tt (F.tt E))) (mx.on (z.tt (F.tt E))) (s'.on E) ae (λS r' D' j' e' ov f'=>aK.ex (S.s j' e') ⟨_,rfl,aK.fX (x:=S.s j' e') λb4 o' z' p' b'=> ?_⟩) (λe hE m D' f'=>aK.ex .z ⟨_,rfl,aK.fX (x:=.z) λb4 o' z' p' b'=> ?_⟩)
 case refine_2=>rw[ah (dQ m)];exact J o' e (P.tt (E.tt (f'.tt b'))) (by rw[j,hE]) m
 rw[fe];rw[r']at j;dsimp only at j;have A':=E.tt (f'.tt b');have k':=B.on A';have S':=E.1;have nq: ∀y,aN q y->y<g.size:=λy hy=>B.own.dW hy;have V':=aE B.cV;refine⟨_,_,_,aj k'.cV,aK.dZ p' (Yn (x:=⟨S,j',e'⟩) k' (by show o.length=_;exact B.len.symm) (cv B.len) ((ov.frame b' bD).mono λy hy=>⟨ae,λhq=>cv (nq y hq)⟩) λv M' q' v' B' X'=> ?_)⟩;rw[df (n:=(i:Int)+1) ae ae];refine⟨⟨i+1,o++ [S],M',q',v',ae,ae,by rw[ak,ho];rfl,B',λs h'=> ?_,j⟩,by show t.l.length - 1 - Int.toNat ((i:Int)+1)<t.l.length - 1 - Int.toNat (i:Int);omega⟩;rcases cG.1 h' with Q|Q;exact hd s Q;rw[bT.1 Q];exact Ro r'

end Bn
end
section
variable {h:Heap} {R:dH}
variable {x:ax.S}
def Cg{a:ax.S}{b:ax.S} (l:aT h (.C a.arr 176) λB j=>aT j (.C b.arr 176) λc H=>Hu H B 0 λA=> ∃i,Cc H c 0 (.U i)/\ite (A==i) (Hi H B 1 λm=> ∃t,Cc H c 1 (.I t)/\ite (m==t) (Hu H B 2 λn=> ∃T,Cc H c 2 (.U T)/\ite (n==T) (Hi H B 3 λo=> ∃e,Cc H c 3 (.I e)/\ite (o==e) (aC.ck H (AA B 4) λp=>aC.ck H (AA c 4) λq=>Cl 342 #[p.agg,q.agg] H λv d=> ∃f,v=.B f/\ite f (Hl d B 23 λu s r=>Hl d c 23 λz y w=>Cl 194 #[.L u s r,.L z y w] d λV k=> ∃g,V=.B g/\R (.B g) k) (R (.B false) d)) (R (.B false) H)) (R (.B false) H)) (R (.B false) H)) (R (.B false) H)):Cl 269 #[a.agg,b.agg] h R:=aD [] l
def ER (E:aT h (.C x.arr 176) λb r=>ax.NW r λi a=>Hu a b 0 λM=>Hi a b 1 λO=>ax.NW a λB A=>ax.cR A (AA B 0) ⟨M,O,0,0,0,0,false,0,0,(⟨#[]⟩:bC),(⟨#[]⟩:bC),false,0,0,(⟨#[]⟩:bC),(⟨#[]⟩:bC),0,0,0,none,0,0,0,0,false,none,0,0⟩ λc=>Hi c b 1 λt=>ay (λl=>ax.ck l (AA B 0) λL=>ax.cR l (AA i 0) L λm=>ax.ck m (AA i 0) λF=>R (F.agg) m) (λJ=>ay (λ(G:Bool) H=>ay (λC=>J C) (λd=>ite G (∃T,Cc H b 2 (.U T)/\aI H (AA B 2) (.U T) λD=>d D) (ay (λs=>d s) (λe=>ite (t==3) (∃n,Cc H b 3 (.I n)/\aI H (AA B 3) (.I n) λu=>e u) (ay (λv=>e v) (λf=>ite (t==4) (Hi H b 3 λI=>aC.ck H (AA b 4) λK=>aI H (AA B 3) (.I I) λk=>Kp H k [(Sa b 4)]/\aC.cR k (AA B 4) K λw=>f w) (ay (λy=>f y) (λg=>ite (t==5) (∃q p o,Cc H b 23 (.L q p o)/\aI H (AA B 23) (.L q p o) λz=>g z) (g H))))))))) (λj=>ite (t==1) (j (t==1) c) (j (t==2) c)))):Cl 270 #[x.agg] h R:=aD [(7,.join []),(11,.join [(11,sB)]),(14,.join []),(18,.join []),(22,.join []),(23,λ_=>pK 8),(26,.join [])] E
def uO{n:Int}(H:ite (decide (n≥1)) (R (.B (decide (n<=1099511627776))) h) (R (.B false) h)):Cl 343 #[.I n] h R:=aD [] H
def Au (r:aT h (.C x.arr 176) λb c=>Hi c b 1 λt=>ay (λ(B:Bool) H=>ite B (∃o,Cc H b 2 (.U o)/\ite (decide (o≥1)) (∃T,Cc H b 2 (.U T)/\R (.B (decide (T<=2147483648))) H) (R (.B false) H)) (ite (t==3) (Hi H b 3 λs=>Cl 343 #[.I s] H λv p=> ∃e,v=.B e/\R (.B e) p) (ite (t==4) (Hi H b 3 λu=>Cl 343 #[.I u] H λV d=> ∃f,V=.B f/\ite f (aC.ck d (AA b 4) λw=>Cl 298 #[w.agg] d λC a=> ∃g,C=.B g/\ite g (∃i,Cc a b 5 (.I i)/\ite (i !=11) (∃j,Cc a b 5 (.I j)/\R (.B (j !=12)) a) (R (.B false) a)) (R (.B false) a)) (R (.B false) d)) (ite (t==5) (Hl H b 23 λA z y=>Cl 344 #[.L A z y] H λD q=> ∃k,D=.B k/\R (.B k) q) (∃l,Cc H b 1 (.I l)/\ite (l==6) (R (.B true) H) (∃m,Cc H b 1 (.I m)/\ite (m==7) (R (.B true) H) (∃n,Cc H b 1 (.I n)/\R (.B (n==8)) H))))))) (λJ=>ite (t==1) (J (t==1) c) (J (t==2) c))):Cl 271 #[x.agg] h R:=aD [(9,.join [(5,sB)])] r
def Av(g:aT h (.C x.arr 176) λb H=> ∃e,Cc H b 0 (.U e)/\ite (decide (e<=1099511627776)) (ax.ck H (AA b 0) λj=>ax.ck H (AA b 0) λk=>Cl 270 #[k.agg] H λv c=>ax.EX λf=>v=f.agg/\Kp H c [(Sa b 0),(Sa b 0)]/\Cl 269 #[j.agg,f.agg] c λV a=> ∃t,V=.B t/\Kp c a [(Sa b 0)]/\ite t (ax.ck a (AA b 0) λi=>Cl 271 #[i.agg] a λl d=> ∃T,l=.B T/\Kp a d [(Sa b 0)]/\R (.B T) d) (R (.B false) a)) (R (.B false) H)):Cl 195 #[x.agg] h R:=aD [(3,λ_=>pK 14)] g
def uP{c:bH}{a B:Nat}(n:Cl 184 #[.L c a B] h λv k=>az.EX λi=> ∃j,v=.T #[i.agg,.I j]/\az.NW k λb l=>az.cR l (AA b 0) i λH=>ite (j !=0) (R (.B false) H) (az.ck H (AA b 0) λo=>Cl 185 #[o.agg] H λV d=> ∃e T t f,V=.T #[.L e T t,.I f]/\ite (f==0) (Cl 194 #[.L c a B,.L e T t] d λp m=> ∃g,p=.B g/\R (.B g) m) (R (.B false) d))):Cl 344 #[.L c a B] h R:=aD [] n

end
section
namespace Bh
open Go.Proofs.YticlajoleibdnaaGreatDoor.Ask (Rq EI uL UB bq)
open Bn (BQ xd jP JX)
variable {V:cO→Bool} {h H a g:Heap} {R:dH} {p q P Q:bH} {c d C D:Nat}
variable {b:Nat} {K:Heap->Prop}
def OO{f:cO}{l:Nat}(U:Cb.lU V a)(u:Fr No a h)(M:jk.Mx h)(z:Row h p (bc f))(v:l=f.length)(cap:f.length<=c)(i: jA h R (.B (jP V f))):Cl 344 #[.L p l c] h R:=by
 subst v;unfold jP at i;refine uP (Bn.IF U u M z rfl cap (λb I w J v G q m xs B n=>az.ex (b.s q m) ⟨_,rfl,az.fX (x:=b.s q m) λA s E t j=> ?_⟩) (λe L S G n=>az.ex .z ⟨_,rfl,az.fX (x:=.z) λA s E t j=> ?_⟩))
 case refine_2=>rw[L]at i;rw[ah (dQ S)];exact i s (n.tt j)
 rw[I]at i;dsimp only at i;rw[fe];have F:=n.tt j;refine az.dZ (x:=b.s q m) t (Bn.CJ w U (u.tt F) (M.on F) (B.on j) ae (λy T=>cv (J y T)) (λO r lo o p4 Z X n4 k=>⟨_,_,_,_,rfl,?_⟩) (λr o k=>⟨_,_,_,_,rfl,?_⟩));rw[iE];refine Cb.ja (z.frame (F.tt k) bD) X.iy rfl rfl ⟨_,rfl,?_⟩;have e:decide (f=O)=decide (xd V b=some f):=by rw[r];by_cases e:f=O;rw[aq e,aq (by rw[e])];rw[aA e,aA (λq=>e (bL q).symm)]
 rw[e];exact i o (F.tt k);rw[fe];have:=i o (F.tt k);rw[aA (by rw[r];intro e;cases e)]at this;exact this
structure Ch where
 now:Nat
 kind:Int
 token:Nat
 kQ:Int
 nO:Rq
 data:cO
deriving DecidableEq
def Rq.none:Rq:=⟨0,0,.zero,.zero,0,0,0, [],0,0,false⟩
abbrev Ch.s(x:Ch)(p:bH)(c:Nat)(q:bH)(d:Nat):ax.S:=⟨x.now,x.kind,x.token,x.kQ,x.nO.id,x.nO.kind,x.nO.ep.lS,x.nO.ep.node,x.nO.ep.iA,x.nO.ep.host,x.nO.ep.kj,x.nO.dest.lS,x.nO.dest.node,x.nO.dest.iA,x.nO.dest.host,x.nO.dest.kj,x.nO.wy,x.nO.num,x.nO.oH,p,x.nO.wC.length,c,x.nO.kG,x.nO.token,x.nO.on,q,x.data.length,d⟩
variable {x:Ch}
def kU(x:Ch):Ch:=⟨x.now,x.kind,0,0,Rq.none, []⟩
def uQ(x:Ch):Ch:=
 if x.kind=1\/x.kind=2 then { kU x with token:=x.token }
 else if x.kind=3 then { kU x with kQ:=x.kQ }
 else if x.kind=4 then { kU x with kQ:=x.kQ,nO:=x.nO }
 else if x.kind=5 then { kU x with data:=x.data }
 else kU x
def isS(n:Int):Bool:=decide (n≥1) && decide (n<=1099511627776)
def re(V:mv)(x:Ch):Bool:=
 if x.kind=1\/x.kind=2 then decide (x.token≥1) && decide (x.token<=2147483648)
 else if x.kind=3 then isS x.kQ
 else if x.kind=4 then isS x.kQ && EI x.nO && (x.nO.kind !=11) && (x.nO.kind !=12)
 else if x.kind=5 then jP V x.data
 else decide (x.kind=6\/x.kind=7\/x.kind=8)
def kO(V:mv)(x:Ch):Bool:=decide (x.now<=1099511627776) && decide (x=uQ x) && re V x
def TA{K:aC.S->Prop}(e:ax.ff h b (x.s p c q d))(f:K (x.nO.s p c)):aC.ck h (AA b 4) K:=
 ⟨_,aj e,_,aj e,_,aj e,_,aj e,_,aj e,_,aj e,_,aj e,_,aj e,_,aj e,_,aj e,_,aj e,_,aj e,_,aj e,_,aj e,_,aj e,_,_,_,aj e,_,aj e,_,aj e,_,aj e,f⟩
def Yo{r:Rq}(k:ax.ff h b (x.s p c q d))(m: ∀H,ax.ff H b (({ x with nO:=r } :Ch).s P C q d)->Fr (λy=>y=b) h H->K H):aC.cR h (AA b 4) (r.s P C) K:=
 (show cQ (AA b 4) (r.s P C).l 0 h K from vu k bO rfl rfl λj e f i=>m j e (Fr.of_eq f λc l=>i c l))
theorem IG{i:Nat}{y z:ax.S}{v:Value}(k:ax.ff h b y)(m:i<24)(r:y.arr.setIfInBounds i v=z.arr)(n: ∀H,ax.ff H b z->Fr (λy=>y=b) h H->K H):aI h (AA b i) v K:=
 aY k m λj o e f=>n j (by grind) (Fr.of_eq e λc l=>f c l)
def Yp(x y:Ch):decide (x=y)=(((x.now:Int)==(y.now:Int)) && ((x.kind==y.kind) && (((x.token:Int)==(y.token:Int)) && ((x.kQ==y.kQ) && (decide (x.nO=y.nO) && decide (x.data=y.data)))))):=by rw[dA];cases x;cases y;simp[Int.ofNat_inj]
def Rr(x y:Ch)(s:Row h p (bc x.nO.wC))(t:Row h P (bc y.nO.wC))(l:Row h q (bc x.data))(m:Row h Q (bc y.data))(e: jA h R (.B (decide (x=y)))):Cl 269 #[(x.s p c q d).agg,(y.s P C Q D).agg] h R:=by refine Cg (ax.cE λb v E r n=>ax.cE λB w u i k=> ?_);have j:=k.get r id;have F:=n.tt k;simp only[Yp]at e;exact⟨_,aj j,_,aj i,jM e F λe=>⟨_,aj j,_,aj i,jM e F λe=>⟨_,aj j,_,aj i,jM e F λe=>⟨_,aj j,_,aj i,jM e F λe=>TA j (TA i (Ask.Kx x.nO y.nO (s.frame F bD) (t.frame F bD) λo f=>⟨_,rfl,jM e (F.tt f) λe=>⟨_,_,_,aj (f.get j id),_,_,_,aj (f.get i id),Cb.ja (l.frame (F.tt f) bD) (m.frame (F.tt f) bD) rfl rfl ⟨_,rfl,e o (F.tt f)⟩⟩⟩))⟩⟩⟩⟩
theorem TC(x:Ch)(rx:Row h p (bc x.nO.wC))(dx:Row h q (bc x.data))(hk: ∀H P C Q D,Row H P (bc (uQ x).nO.wC)->Row H Q (bc (uQ x).data)->Fr No h H->R ((uQ x).s P C Q D).agg H):Cl 270 #[(x.s p c q d).agg] h R:=by
 refine ER (ax.cE λb h1 eb u O=>ax.cE λb1 h2 c' U F=>⟨_,aj (F.get u id),_,aj (F.get u id),ax.fX (x:=(kU x).s none 0 none 0) λB I d' r S=> ?_⟩);have l:=(F.tt S).get u id;have zb:=aE u;have e':=aE U;have z1:=O.1;have z2:=F.1;have ne:b≠B:=ae
 refine⟨_,aj l,ay.of λJ hJ=>ay.of λZ a'=> ?_⟩;have fin: ∀g P C Q D,ax.ff g B ((uQ x).s P C Q D)->Row h P (bc (uQ x).nO.wC)->Row h Q (bc (uQ x).data)->Fr (λy=>y=B) I g->J g:=by intro g P C Q D hg hr hd fg;have M:Fr No h2 g:=S.fresh fg (λy e=>ae);have G:=(O.tt F).tt M;subst hJ;refine ax.dZ hg (ax.fB (x:=(uQ x).s P C Q D) (M.get U id) λh6 d6 A _=>ax.dZ d6 ?_);have z:=G.fresh A (λy e=>ae);exact hk h6 P C Q D (hr.frame z bD) (hd.frame z bD) z
 have n:Row h none (bc []):=Row.nil;have b': ∀v,(v=true↔x.kind=1\/x.kind=2)->Z v I:=by intro v X;subst a';dsimp only;refine ay.of λJ2 o=> ?_;by_cases k:x.kind=1\/x.kind=2;have E:uQ x= { kU x with token:=x.token } :=ah k;rw[E]at fin;rw[ah (X.2 k)];exact⟨_,aj l,IG (z:=({ kU x with token:=x.token } :Ch).s none 0 none 0) r bA rfl λj i f=>by subst o;exact fin j none 0 none 0 i n n f⟩;rw[af (λe=>k (X.1 e))];refine ay.of λJ3 t=> ?_;by_cases m:x.kind=3;have E:uQ x= { kU x with kQ:=x.kQ } :=(af k).trans (ah m);rw[E]at fin;rw[ah (bq.2 m)];exact⟨_,aj l,IG (z:=({ kU x with kQ:=x.kQ } :Ch).s none 0 none 0) r bA rfl λj i f=>by subst t;subst o;exact fin j none 0 none 0 i n n f⟩;rw[af (λe=>m (bq.1 e))];refine ay.of λJ4 L=> ?_;by_cases s:x.kind=4;have E:uQ x= { kU x with kQ:=x.kQ,nO:=x.nO } :=(af k).trans ((af m).trans (ah s));rw[E]at fin;rw[ah (bq.2 s)];refine⟨_,aj l,TA l (IG (z:=({ kU x with kQ:=x.kQ } :Ch).s none 0 none 0) r bA rfl λj i f=>⟨UB f ne bO,Yo (x:= { kU x with kQ:=x.kQ }) (r:=x.nO) i λg2 e2 A=> ?_⟩)⟩;subst L;subst t;subst o;exact fin g2 p c none 0 e2 rx n (f.tt A);rw[af (λe=>s (bq.1 e))];refine ay.of λJ5 T=> ?_;by_cases w:x.kind=5;have E:uQ x= { kU x with data:=x.data } :=(af k).trans ((af m).trans ((af s).trans (ah w)));rw[E]at fin;rw[ah (bq.2 w)];exact⟨_,_,_,aj l,IG (z:=({ kU x with data:=x.data } :Ch).s none 0 q d) r bA rfl λj i f=>by subst T;subst L;subst t;subst o;exact fin j none 0 q d i n dx f⟩;rw[af (λe=>w (bq.1 e))];have E:uQ x=kU x:=(af k).trans ((af m).trans ((af s).trans (af w)));rw[E]at fin;subst T;subst L;subst t;subst o;exact fin I none 0 none 0 r n n (Fr.refl _ _)
 by_cases k:x.kind=1;grind;rw[af (λe=>k (bq.1 e))];exact b' _ ⟨λe=> .inr (bq.1 e),λe=>bq.2 (e.resolve_left k)⟩
theorem Rs(n:Int)(e:R (.B (isS n)) h):Cl 343 #[.I n] h R:=by refine uO ?_;unfold isS at e;by_cases c:n≥1;grind;grind
theorem OP(x:Ch)(U:Cb.lU V a)(u:Fr No a h)(M:jk.Mx h)(I:Row h p (bc x.nO.wC))(y:Row h q (bc x.data))(cap:x.data.length<=d)(f: jA h R (.B (re V x))):Cl 271 #[(x.s p c q d).agg] h R:=by
 refine Au (ax.cE λb n L i F=>⟨_,aj i,ay.of λJ A=> ?_⟩);have G: ∀v,(v=true↔x.kind=1\/x.kind=2)->J v n:=by
  intro v s;subst A;dsimp only;by_cases k:x.kind=1\/x.kind=2;have E:re V x=(decide (x.token≥1) && decide (x.token<=2147483648)):=ah k;rw[E]at f;rw[ah (s.2 k)];have f:=f n F;exact⟨_,aj i,xV f (λf=>⟨_,aj i,by rw[show decide (((x.s p c q d).f2:Int)<=2147483648)=_ from Bn.nH x.token 2147483648];exact f⟩) (Ask.IE x.token 1)⟩;rw[af (λe=>k (s.1 e))];by_cases j:x.kind=3;have E:re V x=isS x.kQ:=(af k).trans (ah j);rw[E]at f;rw[ah (bq.2 j)];exact⟨_,aj i,Rs x.kQ ⟨_,rfl,f n F⟩⟩;rw[af (λe=>j (bq.1 e))];by_cases m:x.kind=4;have E:re V x=(isS x.kQ && EI x.nO && (x.nO.kind !=11) && (x.nO.kind !=12)):=(af k).trans ((af j).trans (ah m));rw[E]at f;rw[ah (bq.2 m)];simp only[fx]at f;exact⟨_,aj i,Rs x.kQ ⟨_,rfl,jM f F λf=>TA i (Ask.fA x.nO (I.frame F bD) λr l=>⟨_,rfl,xV (f r (F.tt l)) λf=>⟨_,aj (l.get i id),xV f λf=>⟨_,aj (l.get i id),f⟩⟩⟩)⟩⟩;rw[af (λe=>m (bq.1 e))];by_cases o:x.kind=5;have E:re V x=jP V x.data:=(af k).trans ((af j).trans ((af m).trans (ah o)));rw[E]at f;rw[ah (bq.2 o)];exact⟨_,_,_,aj i,OO U (u.tt F) (M.on F) (y.frame F bD) rfl cap λr l=>⟨_,rfl,f r (F.tt l)⟩⟩;rw[af (λe=>o (bq.1 e))];have E:re V x=decide (x.kind=6\/x.kind=7\/x.kind=8):=(af k).trans ((af j).trans ((af m).trans (af o)));rw[E]at f;have f:=f n F;refine⟨_,aj i,?_⟩;by_cases t:x.kind=6;grind;rw[af (λe=>t (bq.1 e))];refine⟨_,aj i,?_⟩;by_cases w:x.kind=7;grind;rw[af (λe=>w (bq.1 e))];refine⟨_,aj i,?_⟩;have z:decide (x.kind=6\/x.kind=7\/x.kind=8)=(x.kind==8):=by by_cases B:x.kind=8<;>simp[t,w,B]
  rw[z]at f;exact f
 by_cases k:x.kind=1;grind;rw[af (λe=>k (bq.1 e))];exact G _ ⟨λe=> .inr (bq.1 e),λe=>bq.2 (e.resolve_left k)⟩
def mP(x:Ch)(U:Cb.lU V a)(u:Fr No a h)(M:jk.Mx h)(r:Row h p (bc x.nO.wC))(l:Row h q (bc x.data))(cap:x.data.length<=d)(e: jA h R (.B (kO V x))):Cl 195 #[(x.s p c q d).agg] h R:=by refine Av (ax.cE λb A E j i=>⟨_,aj j,?_⟩);unfold kO at e;rw[show decide (((x.s p c q d).f0:Int)<=1099511627776)=_ from Bn.nH x.now 1099511627776];simp only[fx]at e;refine jM e i λe=> ?_;have o:=r.frame i bD;have m:=l.frame i bD;refine ax.dZ j (ax.dZ j (TC x o m λB w s y t z S f=>ax.ex ((uQ x).s w s y t) ⟨rfl,f.kp,(Rr x (uQ x) (o.frame f bD) z (m.frame f bD) S λG k=>⟨_,rfl,k.kp,?_⟩)⟩));have F:=i.tt (f.tt k);refine jM e F λe=> ?_;exact ax.dZ ((f.tt k).get j id) (OP x U (u.tt F) (M.on F) (r.frame F bD) (l.frame F bD) cap λv n=>⟨_,rfl,n.kp,e v (F.tt n)⟩)

end Bh
end
section
variable {h:Heap} {R:dH}
variable {S:bH} {s a:Nat}
def Ci{A:Int}{c:Int}{d:Int}{e:Int}{f:Int}{j:bH}{i g:Nat}{k:Int}{B:Int}{l:Int}{m:Int}{n:Int}{q:bH}{p o:Nat} (C:aT h (.C #[.U A,.I c,.I d,.I e,.U f,.L j i g] 110) λb y=>aT y (.C #[.U k,.I B,.I l,.I m,.U n,.L q p o] 110) λB H=>Hu H b 0 λP=> ∃x,Cc H B 0 (.U x)/\ite (P==x) (Hi H b 1 λD=> ∃t,Cc H B 1 (.I t)/\ite (D==t) (Hi H b 2 λE=> ∃T,Cc H B 2 (.I T)/\ite (E==T) (Hi H b 3 λF=> ∃r,Cc H B 3 (.I r)/\ite (F==r) (Hu H b 4 λG=> ∃u,Cc H B 4 (.U u)/\ite (G==u) (Hl H b 5 λK J I=>Hl H B 5 λO M L=>Cl 194 #[.L K J I,.L O M L] H λv z=> ∃w,v=.B w/\R (.B w) z) (R (.B false) H)) (R (.B false) H)) (R (.B false) H)) (R (.B false) H)) (R (.B false) H)):Cl 201 #[.agg #[.U A,.I c,.I d,.I e,.U f,.L j i g],.agg #[.U k,.I B,.I l,.I m,.U n,.L q p o]] h R:=aD [] C
def Cj{id:Int}{e:Int}(d:aT h (.C #[.U 0,.I 0,.I 0,.I 0,.U 0,.Z] 110) λb c=>ag.ST c (AA b 0) id e 0 0 0 none 0 0 λH=>ag.LD H (AA b 0) λr f g i j m l k=>R (.agg #[.U r,.I f,.I g,.I i,.U j,.L m l k]) H):Cl 176 #[.U id,.I e] h R:=aD [] d
def yO{b:bH}{L l:Nat}(c:Cl 41 #[.L b L l,.func (.func 345) #[] #[]] h λv H=> ∃t,v=.B t/\R (.B (!t)) H):Cl 272 #[.L b L l] h R:=aD [] c
def vX{n:Int}(H:ite (decide (n<0)) (R (.B true) h) (R (.B (decide (n>1099511627776))) h)):Cl 345 #[.I n] h R:=aD [] H
def Aw{X:Int}{E:Int}{F:Int}{G:Int}{I:Int}{M:bH}{L K:Nat} (U:aT h (.C #[.U X,.I E,.I F,.I G,.U I,.L M L K] 110) λb H=>ay (λ(t3:Bool) c=>ite t3 (R (.B false) c) (∃i,Cc c b 1 (.I i)/\ite (i !=0) (ag.LD c (AA b 0) λj k l m n q p o=>Hu c b 0 λc'=>Hi c b 1 λd'=>Cl 176 #[.U c',.I d'] c λe' e=> ∃r u v w x A z y,e'=.agg #[.U r,.I u,.I v,.I w,.U x,.L A z y]/\cz (AA b 0) [.U j,.I k,.I l,.I m,.U n,.L q p o] 0 e/\Cl 201 #[.agg #[.U j,.I k,.I l,.I m,.U n,.L q p o],.agg #[.U r,.I u,.I v,.I w,.U x,.L A z y]] e λf' P=> ∃B,f'=.B B/\R (.B B) P) (R (.B true) c))) (λJ=> ∃C,Cc H b 0 (.U C)/\ite (decide (C>1099511627776)) (J true H) (∃D,Cc H b 1 (.I D)/\ite (decide (D<0)) (J true H) (∃t,Cc H b 1 (.I t)/\ite (decide (t>99)) (J true H) (Hi H b 2 λV=>Hi H b 3 λZ=>aT H (.C #[.I V,.I Z] 3) λO Q=>Cl 272 #[.L (Sa O 0) 2 2] Q λg' d=> ∃T,g'=.B T/\ite (!T) (J true d) (∃f,Cc d b 4 (.U f)/\ite (decide (f>2147483648)) (J true d) (∃b' g a',Cc d b 5 (.L b' g a')/\J (decide (((g:Nat):Int)>600)) d))))))):Cl 196 #[.agg #[.U X,.I E,.I F,.I G,.U I,.L M L K]] h R:=aD [(5,.join [(3,sB)]),(14,λ_=>pN 8)] U
def ji(b:Cl 82 #[.L S s a,.func (.func 345) #[] #[]] h λv H=> ∃t,v=.I t/\R (.B (decide (t≥0))) H):Cl 41 #[.L S s a,.func (.func 345) #[] #[]] h R:=aD [] b
def jF (c: ∃(I:iT)(m:iW),I 0 h/\∀t H,I t H->ite (decide (t<(s:Int))) (Bd t s/\aJ S λA=>iw H (A.add (toNat t*1)) λd=>Cl 345 #[.I d] H λv b=> ∃T,v=.B T/\ite T (R (.I t) b) ((I (wrap .i64 (t+1)) b/\m (wrap .i64 (t+1)) b<m t H))) (R (.I (-1)) H)):Cl 82 #[.L S s a,.func (.func 345) #[] #[]] h R:=aD [(6,.loop [(8,sI)])] c

end
section
open Go.Fields
namespace WD
open gD
variable {h H:Heap} {R:dH} {p q:bH} {c d:Nat}
variable {n m:Nat}
abbrev val(x:RD)(p:bH)(c:Nat):Value:=.agg #[.int .u64 (x.id:Int),.int .i64 x.err,.int .i64 x.num,.int .i64 x.count,.int .u64 (x.token:Int),.slice p x.b.length c]
abbrev At(h:Heap)(b:Nat)(x:RD)(p:bH)(c:Nat):Prop:=ag.at h b (x.id:Int) x.err x.num x.count (x.token:Int) p x.b.length c
theorem Gd{a b:cO}(r:Row h p (bc a))(i:Row h q (bc b))(g:n=a.length)(f:m=b.length)(e:R (.B (decide (a=b))) h):Cl 194 #[.L p n c,.L q m d] h R:=by
 refine la ⟨_,conv r g,_,conv i f,?_⟩;rw[ps,ps];have:(a==b)=decide (a=b):=by grind
 rw[this];exact e
theorem jx(x y:RD)(t:Row h p (bc x.b))(u:Row h q (bc y.b))(f: jA h R (.B (decide (x.same y)))):Cl 201 #[val x p c,val y q d] h R:=by refine Ci (ag.box λb v _ s o=>ag.box λB r _ a i=> ?_);have e:=i.get s id;have F:=o.tt i;have f:=f r F;unfold RD.same at f;refine⟨_,aj e,_,aj a,?_⟩;by_cases E:x.id=y.id;rw[ah (by rw[E];simp)];refine⟨_,aj e,_,aj a,?_⟩;by_cases j:x.err=y.err;rw[ah (by grind)];refine⟨_,aj e,_,aj a,?_⟩;by_cases g:x.num=y.num;rw[ah (by rw[g];simp)];refine⟨_,aj e,_,aj a,?_⟩;by_cases k:x.count=y.count;rw[ah (by grind)];refine⟨_,aj e,_,aj a,?_⟩;by_cases l:x.token=y.token;rw[ah (by grind)];refine⟨_,_,_,aj e,_,_,_,aj a,Gd (t.frame F bD) (u.frame F bD) rfl rfl ⟨_,rfl,?_⟩⟩;simpa[E,j,g,k,l]using f;grind;grind;grind;grind;grind
def Nl(id:Nat)(e:Int):RD:=⟨id,e,0,0,0, []⟩
def Nn{i:Int}(id:Nat)(j:i=(id:Int))(e:Int)(k: jA h R (val (Nl id e) none 0)):Cl 176 #[.U i,.I e] h R:=by subst j;refine Cj (ag.new λb a _ g f=>ag.ld g (k a f))
def Si(n:Int):Bool:=decide (0<=n/\n<=1099511627776)
theorem VJ(n:Int)(a:R (.B (!Si n)) h):Cl 345 #[.I n] h R:=by refine vX ?_;unfold Si at a;by_cases b:n<0;grind;by_cases e:n>1099511627776;grind;grind
theorem Aq{ns:List Int}(r:Row h p (ns.map (.int .i64 ·)))(f:n=ns.length)(w:ns.length<=1000000)(e:R (.B (ns.all Si)) h):Cl 272 #[.L p n m] h R:=by
 subst f;refine yO (ji (jF ⟨λi g=>g=h/\∃k:Nat,i=(k)/\k<=ns.length/\∀j,j<k->Si (ns.getD j 0)=true,λi _=>ns.length - i.toNat,⟨rfl,0,rfl,ae,λj b=>ae⟩,?_⟩));rintro _ s ⟨rfl,k,rfl,v,l⟩;by_cases o:k<ns.length
 .have:(k)<(ns.length:Int):=ae
  simp only[this,di,cI,aG];obtain⟨a,rfl,C⟩:=La r o;refine⟨⟨ae,by first|omega|trivial⟩,av.2 ⟨_,C,VJ _ ⟨_,rfl,?_⟩⟩⟩;cases t:Si (ns.getD k 0)with
  |false=>
   refine⟨_,rfl,⟨_,rfl,?_⟩⟩;have:ns.all Si=false:=by grind
   have H:=ae
   simpa[H]using e
  |true=>simp only[Bool.not_true,aV,bQ];rw[eY];refine⟨⟨trivial,k+1,ae,ae,λj b=> ?_⟩,?_⟩;grind;grind
 rw[fe];refine⟨_,rfl,⟨_,rfl,?_⟩⟩;have:ns.all Si=true:=by rw[eG];intro n f;have⟨j,b⟩:=cd f;have u:=(aS.1 b).1;have:=l j ae;rwa[aL,b]at this
 rw[this]at e;simpa using e
theorem fA(x:RD)(L:Row h p (bc x.b))(B: jA h R (.B (decide x.Dp))):Cl 196 #[val x p c] h R:=by
 refine Aw (ag.box λb t _ g F=>ay.of λJ G=> ?_);have j: ∀f,Fr No h f->¬x.Dp->J true f:=by grind
 have P: ∀f,At f b x p c->Fr No h f->x.id<=1099511627776->(0<=x.err/\x.err<=99)->(0<=x.num/\x.num<=1099511627776)->(0<=x.count/\x.count<=1099511627776)->x.token<=2147483648->x.b.length<=600->J false f:=by
  intro f i v Q k l C o r;subst G;simp only[aV,bQ];refine⟨_,aj i,?_⟩;by_cases u:x.err=0;rw[af (by simp[u])];have:=B f v;rwa[aq (show x.Dp from⟨Q,k,l,C,o,r,λh=>absurd u h⟩)]at this;rw[ah (by grind)];refine ag.ld i ⟨_,aj i,_,aj i,Nn x.id rfl x.err λM y=>⟨_,_,_,_,_,_,_,_,rfl,(ag.held (y.get i id)),?_⟩⟩;have w:=v.tt y;refine jx x (Nl x.id x.err) (L.frame w bD) (.inl rfl) λE D=>⟨_,rfl,?_⟩;have e:decide (x.same (Nl x.id x.err))=decide x.Dp:=by unfold RD.same RD.Dp Nl;simp[Q,k,l,C,o,r,u]
  rw[e];exact B E (w.tt D)
 refine⟨_,aj g,?_⟩;by_cases Q:x.id<=1099511627776;rw[af (by simp;omega)];refine⟨_,aj g,?_⟩;by_cases k:0<=x.err;rw[af (by simp;omega)];refine⟨_,aj g,?_⟩;by_cases l:x.err<=99;rw[af (by simp;omega)];refine⟨_,aj g,_,aj g,bn ?_⟩;refine Aq (ns:= [x.num,x.count]) gW rfl bO ⟨_,rfl,?_⟩;have s:=F.tt (Fr.push t (.C #[.I x.num,.I x.count] 3));have z:At _ b x p c:=(Fr.push (S:=λ_=>False) t (.C #[.I x.num,.I x.count] 3)).get g id;generalize t.push (.C #[.I x.num,.I x.count] 3)=O at*;cases A: [x.num,x.count].all Si with
 |false=>simp only[Bool.not_false,cI];refine j _ s λa=> ?_;obtain⟨_,_,I,K,_⟩:=a;simp[Si,I,K]at A
 |true=>
  simp only[Bool.not_true,aV,bQ];simp[Si]at A;refine⟨_,aj z,?_⟩;by_cases o:x.token<=2147483648;rw[af (by simp;omega)];refine⟨_,_,_,aj z,?_⟩;by_cases r:x.b.length<=600;grind;have:decide ((x.b.length:Int)>600)=true:=by simp;omega
  rw[this];exact j _ s λa=>r a.2.2.2.2.2.1;rw[ah (by simp;omega)];exact j _ s λa=>o a.2.2.2.2.1
 rw[ah (by simp;omega)];exact j _ F λa=>l a.2.1.2;rw[ah (by simp;omega)];exact j _ F λa=>k a.2.1.1;rw[ah (by grind)];exact j _ F λa=>Q a.1

end WD
end
section
variable {h:Heap} {R:dH}
variable {l w B b d s o:Nat} {x:ax.S} {a:bH}
def oI (hv:aT h (.C x.arr 176) λg b'=>ag.NW b' λc g'=>Cl 153 #[.P l 0] g' λy' j=> ∃F,y'=.B F/\ite (!F) (ag.cR j (AA c 0) ag.S.z λC=>ag.ck C (AA c 0) λr0=>R (.T #[r0.agg,.I 0,.I 6]) C) (ax.ck j (AA g 0) λq'=>Cl 154 #[q'.agg] j λz' f=> ∃K I G t,z'=.T #[.L K I G,.I t]/\ite (t !=0) (ag.cR f (AA c 0) ag.S.z λD=>ag.ck D (AA c 0) λl'=>R (.T #[l'.agg,.I 0,.I t]) D) (Hu f g 0 λr'=>Hp f l 1 λs'=>aJ s' λX=> ∃L,aQ f (X.add 6)=some (.U L)/\ite (decide (r'<L)) (ag.cR f (AA c 0) ag.S.z λE=>ag.ck E (AA c 0) λm'=>R (.T #[m'.agg,.I 0,.I 18]) E) (aT f (.C #[.int .u8 69] 5) λa' j'=>ij (Builtin.append_ #[69,69] 69 #[.L (Sa a' 0) 1 1,.L K I G]) j' λA' k=>Vl A' λu' T t'=>Hi k g 1 λv'=>ay (λ(k':Int) c'=>Cl 155 #[.P l 0,.I k'] c' λB' i=> ∃m,B'=.I m/\ite (m !=0) (ag.cR i (AA c 0) ag.S.z λu=>ag.ck u (AA c 0) λn'=>R (.T #[n'.agg,.I 0,.I m]) u) (Hp i l 0 λw'=>Cl 156 #[.Q w',.L u' T t'] i λC' H=> ∃M n,C'=.T #[.I M,.I n]/\ite (n !=0) (ag.cR H (AA c 0) ag.S.z λv=>ag.ck v (AA c 0) λo'=>R (.T #[o'.agg,.I 0,.I n]) v) (ay (λ(e:Int) (o:bH) y=>aJ o λZ=>ag.ck y Z λx'=>ag.cR y (AA c 0) x' λz=>ag.ck z (AA c 0) λp'=>R (.T #[p'.agg,.I M,.I e]) z) (λp=>Hp H l 1 λO=>ax.ck H (AA g 0) λP=>(Cl 157 #[.Q O,P.agg] H λD' d'=>ag.EX λQ=> ∃U,D'=.T #[Q.agg,.I U]/\ag.NW d' λq e'=>ag.cR e' (AA q 0) Q λf'=>p U (Sa q 0) f')/\(ag.NW H λr A=>Kp H A [(Sa g 0),(Sa l 1)]/\Cl 157 #[.Q O,P.agg] A λE' h'=>ag.EX λS=> ∃V,E'=.T #[S.agg,.I V]/\ag.cR h' (AA r 0) S λi'=>p V (Sa r 0) i')/\True)))) (λJ=>ite (v' !=8) (J (wrap .i64 ((T:Int)+16)) k) (J (T:Int) k)))))):Cl 90 #[.P l 0,x.agg] h R:=aD [(21,λ_=>pK 11),(34,.join [(10,sI)]),(58,.join [(8,sI),(13,sP)]),(58,λ_=> .ju (fE 5 0 (.alts (.fork 5 (fE 6 6 .done) (.fork 9 (fE 4 5 (mL [10,11] .done)) .iH)))))] hv
def vY{n:Int} (r:Hp h l 0 λu=>Cl 223 #[.Q u,.I n] h λv c=> ∃f,v=.B f/\ite f (R (.I 0) c) (Hp c l 1 λy=>Cl 193 #[.Q y] c λV k=>Vl V λD C z=>Cl 224 #[.int .u8 83,.L D C z] k λK p=>Vl K λg T E=> ∃(I:Int->iT)(m:Int->iW),I (wrap .i64 (n+2)) 0 p/\∀size t H,I size t H->ite (decide (t<(T:Int))) (Bd t T/\aJ g λA=> ∃G e F,aQ H (A.add (toNat t*1))=some (.L G e F)/\(I (wrap .i64 (size+(wrap .i64 (((e:Nat):Int)+2)))) (wrap .i64 (t+1)) H/\m (wrap .i64 (size+(wrap .i64 (((e:Nat):Int)+2)))) (wrap .i64 (t+1)) H<m size t H)) (∃i,Cc H l 2 (.I i)/\ite (decide (size>i)) (R (.I 5) H) (Hp H l 0 λJ=>Cl 225 #[.Q J,.L g T E] H λL q=> ∃j,L=.I j/\R (.I j) q)))):Cl 155 #[.P l 0,.I n] h R:=aD [(18,.loop [(6,sI),(25,sI)])] r
def lB (Z:aT h (.C x.arr 176) λc r=>ax.ck r (AA c 0) λt7=>Cl 195 #[t7.agg] r λp' e=> ∃G,p'=.B G/\ite (!G) (R (.T #[.Z,.I 3]) e) (Hu e c 0 λa'=>Hi e c 1 λb'=>Cl 217 #[] e λq' g=> ∃v,q'=.Q v/\Kp e g [(Sa c 1),(Sa c 0)]/\Cl 218 #[.Q v,.U a'] g λs' u=> ∃y,s'=.Q y/\Kp g u [(Sa c 1)]/\Cl 219 #[.Q y,.I b'] u λt' i=>Vp t' λT=>Hi i c 1 λt=>ay (λU=>Cl 222 #[.Q T] U λu' V=> ∃F E D,u'=.L F E D/\R (.T #[.L F E D,.I 0]) V) (λJ=>ay (λ(c':Bool) H=>ay (λX=>J X) (λm=>ite c' (Hu H c 2 λd'=>Cl 218 #[.Q T,.U d'] H λv' I=> ∃e',v'=.Q e'/\m I) (ay (λK=>m K) (λn=>ite (t==3) (Hi H c 3 λf'=>Cl 219 #[.Q T,.I f'] H λw' L=> ∃g',w'=.Q g'/\n L) (ay (λM=>n M) (λp=>ite (t==4) (aC.ck H (AA c 4) λh'=>Cl 220 #[h'.agg] H λx' f=> ∃C A z j,x'=.T #[.L C A z,.I j]/\ite (j !=0) (R (.T #[.Z,.I j]) f) (Hi f c 3 λi'=>Cl 219 #[.Q T,.I i'] f λy' O=>Vp y' λj'=>Cl 221 #[.Q j',.L C A z] O λz' P=> ∃k',z'=.Q k'/\p P)) (ay (λQ=>p Q) (λq=>ite (t==5) (Hl H c 23 λn' m' l'=>Cl 221 #[.Q T,.L n' m' l'] H λr' S=> ∃o',r'=.Q o'/\q S) (q H))))))))) (λk=>ite (t==1) (k (t==1) i) (k (t==2) i))))):Cl 154 #[x.agg] h R:=aD [(11,λ_=> .ju (mL [1,2,4,5,0,3,6,7] .done)),(15,.join []),(19,.join [(19,sB)]),(22,.join []),(26,.join []),(30,.join []),(44,.join [])] Z
def sL(m:ag.NW h λc g=>Cl 96 #[.P w 0] g λv i=>Vp v λn=>Cl 117 #[.Q n] i λV j=>ao.EX λe=> ∃f,V=.T #[e.agg,.I f]/\Cl 115 #[.P w 0,e.agg,.I f] j λp k=>ag.EX λt=> ∃T,p=.T #[t.agg,.I T]/\ag.cR k (AA c 0) t λH=>ag.ck H (AA c 0) λr=>R (.T #[r.agg,.I T]) H):Cl 61 #[.P w 0] h R:=aD [] m
def qi(m:ag.NW h λc g=>Cl 96 #[.P w 0] g λv i=>Vp v λn=>Cl 116 #[.Q n,.L a B b] i λV j=>ao.EX λt=> ∃T,V=.T #[t.agg,.I T]/\Cl 115 #[.P w 0,t.agg,.I T] j λp k=>ag.EX λe=> ∃f,p=.T #[e.agg,.I f]/\ag.cR k (AA c 0) e λH=>ag.ck H (AA c 0) λr=>R (.T #[r.agg,.I f]) H):Cl 60 #[.P w 0,.L a B b] h R:=aD [] m
def kf{x:ao.S}{e:Int}(m:aT h (.C x.arr 189) λf k=>ag.NW k λc H=>ite (e !=0) (ag.cR H (AA c 0) ag.S.z λg=>ag.ck g (AA c 0) λr=>R (.T #[r.agg,.I e]) g) (ao.ck H (AA f 0) λt=>Cl 100 #[.P w 0,t.agg] H λv i=>Vi v λp=>ag.ck i (AA f 44) λT=>ag.cR i (AA c 0) T λj=>ag.ck j (AA c 0) λn=>R (.T #[n.agg,.I 0]) j)):Cl 115 #[.P w 0,x.agg,.I e] h R:=aD [] m
def qj(k:ao.NW h λc i=>Cl 162 #[.P d 0] i λv H=> ∃g,v=.B g/\ite (!g) (ao.cR H (AA c 0) ao.S.z λe=>ao.ck e (AA c 0) λr=>R (.T #[r.agg,.I 6]) e) (Hu H d 4 λn=>Cl 186 #[.P d 0,.agg #[.U n,.I 6,.U 0,.I 0,.U 0,.I 0,.B false,.U 0,.U 0,.S (⟨#[]⟩:bC),.S (⟨#[]⟩:bC),.B false,.U 0,.U 0,.S (⟨#[]⟩:bC),.S (⟨#[]⟩:bC),.I 0,.I 0,.I 0,.Z,.U 0,.U 0,.B false,.Z]] H λV j=>ao.EX λt=> ∃T,V=.T #[t.agg,.I T]/\ao.cR j (AA c 0) t λf=>ao.ck f (AA c 0) λm=>R (.T #[m.agg,.I T]) f)):Cl 117 #[.P d 0] h R:=aD [] k
def oj(F:ao.NW h λc A=>Cl 162 #[.P d 0] A λv g=> ∃t,v=.B t/\ite (!t) (ao.cR g (AA c 0) ao.S.z λi=>ao.ck i (AA c 0) λG=>R (.T #[G.agg,.I 6]) i) (Cl 184 #[.L a B b] g λV D=>az.EX λT=> ∃n,V=.T #[T.agg,.I n]/\az.NW D λe E=>az.cR E (AA e 0) T λj=>az.ck j (AA e 0) λL=>Cl 185 #[L.agg] j λP k=> ∃r q p u,P=.T #[.L r q p,.I u]/\ay (λ(M:Bool) H=>ite M (ao.cR H (AA c 0) ao.S.z λm=>ao.ck m (AA c 0) λI=>R (.T #[I.agg,.I 3]) m) (Hu H d 4 λO=>Cl 186 #[.P d 0,.agg #[.U O,.I 5,.U 0,.I 0,.U 0,.I 0,.B false,.U 0,.U 0,.S (⟨#[]⟩:bC),.S (⟨#[]⟩:bC),.B false,.U 0,.U 0,.S (⟨#[]⟩:bC),.S (⟨#[]⟩:bC),.I 0,.I 0,.I 0,.Z,.U 0,.U 0,.B false,.L r q p]] H λQ C=>ao.EX λy=> ∃z,Q=.T #[y.agg,.I z]/\ao.cR C (AA c 0) y λf=>ao.ck f (AA c 0) λK=>R (.T #[K.agg,.I z]) f)) (λJ=>ite (n !=0) (J true k) (J (u !=0) k)))):Cl 116 #[.P d 0,.L a B b] h R:=aD [(16,.join [(29,sB)])] F
def jJ(O:aT h (.C x.arr 176) λg F=>ao.NW F λc H=>ay (λ(r:bH) (P:Int) (e:Int) f=>ite (e !=0) (ao.cR f (AA c 0) ao.S.z λk=>ao.ck k (AA c 0) λQ=>R (.T #[Q.agg,.I e]) k) (ax.ck f (AA g 0) λt=>aJ r λE=>ag.ck f E λT=>ao.cR f (AA c 0) ⟨0,0,0,false,0,0,(⟨#[]⟩:bC),(⟨#[]⟩:bC),false,0,0,(⟨#[]⟩:bC),(⟨#[]⟩:bC),0,0,0,none,0,0,0,0,false,t.f0,t.f1,t.f2,t.f3,t.f4,t.f5,t.f6,t.f7,t.f8,t.f9,t.f10,t.f11,t.f12,t.f13,t.f14,t.f15,t.f16,t.f17,t.f18,t.zI,t.Bp,t.HX,t.f20,t.f21,t.f22,t.Bq,t.Br,t.HY,T.f0,T.f1,T.f2,T.f3,T.f4,T.Wv,T.Ww,T.Wx,P⟩ λm=>ao.ck m (AA c 0) λS=>R (.T #[S.agg,.I 0]) m)) (λJ=>Hp H d 0 λp=>ax.ck H (AA g 0) λq=>(Cl 90 #[.Q p,q.agg] H λv K=>ag.EX λu=> ∃z C,v=.T #[u.agg,.I z,.I C]/\ag.NW K λi L=>ag.cR L (AA i 0) u λM=>J (Sa i 0) z C M)/\(ag.NW H λj n=>Kp H n [(Sa g 0),(Sa d 0)]/\Cl 90 #[.Q p,q.agg] n λV G=>ag.EX λy=> ∃A D,V=.T #[y.agg,.I A,.I D]/\ag.cR G (AA j 0) y λI=>J (Sa j 0) A D I)/\True)):Cl 186 #[.P d 0,x.agg] h R:=aD [(3,.join [(6,sP),(7,sI),(8,sI)]),(3,λ_=> .ju (fE 5 0 (.alts (.fork 5 (fE 8 6 .done) (.fork 10 (fE 5 5 (fE 3 11 .done)) .iH)))))] O
def oX{h:Nat}{r:ag.S}{m:Heap} (L:aT m (.C x.arr 176) λc K=>aT K (.C r.arr 110) λe n=>ay (λ(t8:Bool) g=>ite t8 (R (.T #[.I 0,.I 6]) g) (ay (λ(M:Bool) H=>ite M (R (.T #[.I 0,.I 3]) H) (∃S z Q,Cc H h 1 (.L S z Q)/\ite (decide (((z:Nat):Int)≥2000)) (R (.T #[.I 0,.I 5]) H) (Hl H h 1 λX V U=>ax.ck H (AA c 0) λt=>ag.ck H (AA e 0) λT=>Cl 189 #[.agg #[.U t.f0,.I t.f1,.U t.f2,.I t.f3,.U t.f4,.I t.f5,.B t.f6,.U t.f7,.U t.f8,.S t.f9,.S t.f10,.B t.f11,.U t.f12,.U t.f13,.S t.f14,.S t.f15,.I t.f16,.I t.f17,.I t.f18,.L t.zI t.Bp t.HX,.U t.f20,.U t.f21,.B t.f22,.L t.Bq t.Br t.HY,.U T.f0,.I T.f1,.I T.f2,.I T.f3,.U T.f4,.L T.Wv T.Ww T.Wx,.B false,.B false]] H λb' i=>aF.EX λA=>b'=A.agg/\Kp H i [(Sa e 0),(Sa c 0),(Sa h 1)]/\aT i (.C A.arr 212) λG j=>Kp i j [(Sa e 0),(Sa c 0),(Sa h 1)]/\ij (Builtin.append_ #[179,179] 179 #[.L X V U,.L (Sa G 0) 1 1]) j λc' p=> ∃E D C,c'=.L E D C/\Kp j p [(Sa e 0),(Sa c 0)]/\aI p (AA h 1) (.L E D C) λq=> ∃a' F Z,Cc q h 1 (.L a' F Z)/\R (.T #[.I (wrap .i64 (((F:Nat):Int) - 1)),.I 0]) q))) (λk=>ax.ck g (AA c 0) λO=>Cl 195 #[O.agg] g λd' f=> ∃v,d'=.B v/\ite (!v) (k true f) (ag.ck f (AA e 0) λP=>Cl 196 #[P.agg] f λe' I=> ∃y,e'=.B y/\k (!y) I)))) (λJ=> ∃u,Cc n h 0 (.B u)/\J (!u) n)):Cl 123 #[.P h 0,x.agg,r.agg] m R:=aD [(5,.join [(8,sB)]),(11,.join [(18,sB)]),(24,λ_=>pK 14)] L
def vZ{x:aF.S}(D:aT h (.C x.arr 212) λc y=>aF.NW y λe H=>Hl H c 23 λQ P O=>Cl 152 #[.L Q P O] H λv z=> ∃u r q,v=.L u r q/\aI z (AA c 23) (.L u r q) λf=>Hl f c 19 λI G F=>Cl 152 #[.L I G F] f λV A=> ∃k T t,V=.L k T t/\aI A (AA c 19) (.L k T t) λg=>Hl g c 29 λL K J=>Cl 152 #[.L L K J] g λS C=> ∃p n m,S=.L p n m/\aI C (AA c 29) (.L p n m) λi=>aF.ck i (AA c 0) λM=>aF.cR i (AA e 0) M λj=>aF.ck j (AA e 0) λE=>R (E.agg) j):Cl 189 #[x.agg] h R:=aD [] D
def Ax (H: ∃g,Cc h s 0 (.Q g)/\ite (!g.isNone) (∃t,Cc h s 1 (.Q t)/\ite (!t.isNone) (∃T,Cc h s 2 (.Q T)/\ite (!T.isNone) (∃c,Cc h s 3 (.Q c)/\ite (!c.isNone) (∃e,Cc h s 4 (.Q e)/\ite (!e.isNone) (∃f,Cc h s 5 (.Q f)/\R (.B (!f.isNone)) h) (R (.B false) h)) (R (.B false) h)) (R (.B false) h)) (R (.B false) h)) (R (.B false) h)):Cl 229 #[.P s 0] h R:=aD [] H
def qk{c:cJ.S} (hv:aT h (.C c.arr 526) λe i=>ay (λ(r:bH) (is:Bool) m=>ite (!is) (R (.I 4) m) (az.ck m (AA e 0) λA'=>Cl 450 #[A'.agg] m λU' v'=>dj.EX λf'=> ∃g',U'=.T #[f'.agg,.I g']/\dj.NW v' λr' w'=>dj.cR w' (AA r' 0) f' λf=>ite (g'==0) (cJ.ck f (AA e 0) λB'=>aJ r λl'=>iw f (l'.add 6) λC'=>Cl 451 #[B'.agg,.I C'] f λV' x'=> ∃h',V'=.I h'/\aI x' (AA o 3) (.I h') λy'=>R (.I 0) y') (az.ck f (AA e 0) λD'=>Hp f e 21 λE'=>aJ E' λm'=>fM f (m'.add 6) λF'=>Hp f e 21 λG'=>aJ G' λn'=>fM f (n'.add 6) λH'=>Cl 452 #[D'.agg,.U F',.U H'] f λX' g=> ∃t T,X'=.T #[.U t,.I T]/\Kp f g [(Sa e 21),(Sa e 21)]/\ay (λ(I':Bool) H=>ite I' (R (.I 19) H) (ite (T !=0) (R (.I T) H) (ite (t==0) (R (.I 18) H) (Hp H e 21 λM'=>aJ M' λo'=>UX H (o'.add 2) λO'=>aw.ck H (AA e 2) λP'=>Hl H e 22 λS' R' Q'=>Hp H e 21 λT'=>aJ T' λA=>fM H (A.add 6) λk'=>Cl 453 #[.Q O',P'.agg,.L S' R' Q',.U (if 1099511627776<wrap .u64 (k'+t)then 1099511627776 else wrap .u64 (k'+t))] H λZ' y=> ∃E F,Z'=.T #[.I E,.I F]/\Kp H y [(some (A.add 6)),(Sa e 21),(Sa e 21)]/\aI y (AA o 2) (.I E) λs'=>R (.I F) s')))) (λn=>aJ r λp=> ∃i',aQ g (p.add 5)=some (.I i')/\ite (i'==2) (Hp g e 21 λJ'=>aJ J' λp'=>UX g p' λK'=>aJ r λq'=>iw g (q'.add 6) λL'=>Cl 372 #[.Q K',.I L'] g λa0 z=> ∃j',a0=.B j'/\Kp g z [(Sa e 21),(some (p.add 5))]/\n (!j') z) (n false g))))) (λJ=>Hp i e 21 λz'=>aJ z' λq=>UX i (q.add 1) λG=>aw.ck i (AA e 2) λI=>(Cl 449 #[.Q G,I.agg] i λa1 j=> ∃K M P S V Z b' d',a1=.T #[.agg #[.B K,.U M,.U P,.S S,.S V,.I Z,.I b'],.B d']/\Kp i j [(Sa e 21)]/\aT j (.C #[.B false,.U 0,.U 0,.S (⟨#[]⟩:bC),.S (⟨#[]⟩:bC),.I 0,.I 0] 479) λu C=>Kp j C [(Sa e 21)]/\bX.ST C (AA u 0) K M P S V Z b' λt'=>J (Sa u 0) d' t')/\(aT i (.C #[.B false,.U 0,.U 0,.S (⟨#[]⟩:bC),.S (⟨#[]⟩:bC),.I 0,.I 0] 479) λv k=>Kp i k [(Sa e 2),(some (q.add 1)),(Sa e 21)]/\Cl 449 #[.Q G,I.agg] k λa2 D=> ∃L O Q U X a' c' e',a2=.T #[.agg #[.B L,.U O,.U Q,.S U,.S X,.I a',.I c'],.B e']/\Kp k D [(Sa e 21)]/\bX.ST D (AA v 0) L O Q U X a' c' λu'=>J (Sa v 0) e' u')/\True)):Cl 376 #[c.agg,.P o 0] h R:=aD [(3,.join [(5,sP),(6,sB)]),(3,λ_=> .ju (fE 9 0 (.alts (.fork 9 (fE 6 10 .done) (.fork 13 (fE 4 9 (mL [14,15] .done)) .iH))))),(25,λ_=>pK 18),(29,.join [(57,sB)]),(29,λ_=>pK 15),(48,λ_=>pK 28)] hv
def xz{f:bH}{c D:Nat} (z:Cl 184 #[.L f c D] h λv p=>az.EX λk=> ∃T,v=.T #[k.agg,.I T]/\az.NW p λi q=>az.cR q (AA i 0) k λH=>ay (λ(e:Int) g=>ay (λr=>R (.I e) r) (λj=>ite (e !=0) (∃n,Cc g s 7 (.I n)/\aI g (AA s 7) (.I (wrap .i64 (n+1))) λu=>j u) (j g))) (λJ=>ite (T==0) (az.ck H (AA i 0) λt=>Cl 376 #[.agg #[.U t.f0,.I t.f1,.B t.f2,.U t.f3,.U t.f4,.S t.f5,.S t.f6,.B t.f7,.U t.f8,.U t.f9,.S t.f10,.S t.f11,.B t.f12,.U t.f13,.U t.f14,.S t.f15,.S t.f16,.U t.f17,.U t.f18,.U t.f19,.L t.Sz t.P7 t.SA,.P s 0,.L f c D],.P o 0] H λV y=> ∃m,V=.I m/\J m y) (J T H))):Cl 310 #[.P s 0,.L f c D,.P o 0] h R:=aD [(7,.join [(8,sI)]),(13,.join [])] z
def nJ (hv:aT h (.C x.arr 176) λc H=>Hi H c 1 λt=>ay (λ(e:Int) j'=>R (.I e) j') (λJ=>ay (λ(P:Int) o'=>J P o') (λj=>ite (t==1) (Hp H s 0 λu'=>Hu H c 2 λv'=>Cl 306 #[.Q u',.U v'] H λG' p'=> ∃T y,G'=.T #[.I T,.I y]/\aI p' (AA o 2) (.I T) λu=> ∃z,Cc u c 2 (.U z)/\aI u (AA o 4) (.U z) λq'=>j y q') (ay (λ(Q:Int) r'=>j Q r') (λi=>ite (t==2) (Hp H s 0 λw'=>Hu H c 2 λx'=>Cl 307 #[.Q w',.U x'] H λH' s'=> ∃A C,H'=.T #[.I A,.I C]/\aI s' (AA o 2) (.I A) λv=> ∃D,Cc v c 2 (.U D)/\aI v (AA o 4) (.U D) λZ=>i C Z) (ay (λ(S:Int) a'=>i S a') (λk=>ite (t==3) (Hp H s 0 λy'=>Hi H c 3 λz'=>Cl 308 #[.Q y',.I z'] H λI' b'=> ∃E,I'=.I E/\k E b') (ay (λ(U:Int) c'=>k U c') (λm=>ite (t==4) (Hi H c 3 λA'=>aC.ck H (AA c 4) λB'=>Cl 309 #[.P s 0,.I A',B'.agg] H λJ' d'=>ag.EX λF=>J'=F.agg/\ag.cR d' (AA o 0) F λe'=>m 0 e') (ay (λ(V:Int) f'=>m V f') (λn=>ite (t==5) (Hl H c 23 λE' D' C'=>Cl 310 #[.P s 0,.L E' D' C',.P o 0] H λK' g'=> ∃G,K'=.I G/\n G g') (ay (λ(X:Int) h'=>n X h') (λp=>ite (t==6) (Cl 311 #[.P s 0] H λL' i'=>aR.EX λI=> ∃K,L'=.T #[I.agg,.I K]/\aR.NW i' λf k'=>aR.cR k' (AA f 0) I λg=>Hi g f 0 λF'=> ∃O M L,Cc g f 2 (.L O M L)/\aI g (AA o 2) (.I F') λr=>Kp g r [(Sa f 2)]/\aI r (AA o 5) (.L O M L) λl'=>p K l') (ay (λm'=>p 0 m') (λq=>ite (t==8) (Hp H s 0 λt'=>Cl 312 #[.Q t'] H λM' n'=>M'=.T #[]/\q n') (q H)))))))))))))))):Cl 231 #[.P s 0,x.agg,.P o 0] h R:=aD [(7,.join [(7,sI)]),(10,.join [(7,sI)]),(12,λ_=>pK 15),(16,.join [(7,sI)]),(18,λ_=>pK 15),(22,.join [(7,sI)]),(23,λ_=>pK 8),(26,.join [(7,sI)]),(30,.join [(7,sI)]),(34,.join [(7,sI)]),(37,λ_=>pK 14),(40,.join [])] hv
def yP (E:aT h (.C x.arr 176) λe A=>ag.NW A λc D=>Cl 229 #[.P s 0] D λv f=> ∃u,v=.B u/\ite (!u) (ag.cR f (AA c 0) ag.S.z λm=>ag.ck m (AA c 0) λF=>R (.T #[F.agg,.I 6]) m) (ax.ck f (AA e 0) λL=>Cl 195 #[L.agg] f λV g=> ∃y,V=.B y/\ite (!y) (ag.cR g (AA c 0) ag.S.z λn=>ag.ck n (AA c 0) λG=>R (.T #[G.agg,.I 3]) n) (Hu g e 0 λM=>Cl 230 #[.P s 0,.U M] g λQ p=> ∃t,Q=.I t/\ite (t !=0) (ag.cR p (AA c 0) ag.S.z λq=>ag.ck q (AA c 0) λI=>R (.T #[I.agg,.I t]) q) (ag.NW p λi r=>ax.ck r (AA e 0) λO=>Cl 231 #[.P s 0,O.agg,.P i 0] r λS H=> ∃T,S=.I T/\ite (T !=0) (Cl 176 #[.U 0,.I T] H λU C=>ag.EX λz=>U=z.agg/\ag.cR C (AA c 0) z λj=>ag.ck j (AA c 0) λJ=>R (.T #[J.agg,.I 0]) j) (ag.ck H (AA i 0) λP=>ag.cR H (AA c 0) P λk=>ag.ck k (AA c 0) λK=>R (.T #[K.agg,.I 0]) k))))):Cl 157 #[.P s 0,x.agg] h R:=aD [] E
def sM{e:bH}{c L:Nat}{cut:Int} (G:ay (λ(K:Bool) m=>ite K (Cl 6 #[] m λv C=> ∃r,v=.B r/\R (.B r) C) (((0:Int)<=cut/\cut<=(L:Int))/\Cl 7 #[.L e c L] m λV D=>Vi V λt=>Cl 7 #[.L (bV e L 0 2) ((toNat cut) - 0) (L - 0)] D λX p=>Vi X λO=>ay (λ(d':Int) E=>Cl 8 #[] E λZ F=>Vp Z λP=> ∃(I:iT)(M:iW),I 0 F/\∀i H,I i H->ite (decide (i<(c:Int))) (Bd i c/\aJ e λA=>jZ H (A.add (toNat i*2)) λQ=>jZ H ((A.add (toNat i*2)).add 1) λS=>Cl 9 #[.Q P,.agg #[.S Q,.S S]] H λa' q=> ∃u y,a'=.T #[.B u,.I y]/\ay (λ(U:Bool) g=>ite U (R (.B false) g) ((I (wrap .i64 (i+1)) g/\M (wrap .i64 (i+1)) g<M i H))) (λk=>ite (!(u==(decide (i<t)))) (k true q) (k (!((y==7)==(decide (i>t)))) q))) (Cl 6 #[] H λb' n=> ∃z,b'=.B z/\ite z (R (.B (O==d')) n) (R (.B false) n))) (λj=>ite (decide (cut<t)) (j cut p) (j t p)))) (λJ=>Cl 5 #[.L e c L] h λc' f=> ∃T,c'=.B T/\ite T (J true f) (ite (decide (cut<0)) (J true f) (J (decide (cut>(c:Int))) f)))):Cl 3 #[.L e c L,.I cut] h R:=aD [(4,.join [(23,sB)]),(11,λ_=> .ju (.op 0 (fE 3 2 (.op 1 (fE 3 5 .done))))),(17,.join [(7,sI)]),(26,.loop [(9,sI)]),(38,.join [(64,sB)])] G

end
section
namespace jk
def vx.yQ{w:World}{l:List (String×DataW Unit)}{s:String}(k:Tryz.prog.globalNamed s=some 5)(h:laidMet Tryz.prog l w)(j:(s,Lib.tabData .u64 Lib.pow10Tab)∈l):vx w.heap:=by
 obtain⟨g,t,C,F,p,a,m,d,i⟩:=Lib.laidMet.reads h j;have a:Tryz.prog.globalNamed s=some g:=a;unfold World.var? at d;rw[a]at d;have H:(match w.heap[g]? with|some (.cells C _ _)=>some C|_=>none)=some C:=d;cases b:w.heap[g]? with
 |none=>rw[b]at H;cases H
 |some o=>
  rw[b]at H;cases o with
  |cells c T f=>
   obtain rfl:c=C:=bL H;have E:g=5:=bL (a.symm.trans k);subst E;refine⟨T,f,?_⟩;have n:t=314:=by
    have e:(Tryz.prog.globals[(5:Nat)]?).map (·.type)=some 314:=zzkr
    exact bL (m.symm.trans e)
   subst n;have:=Lib.cells_of_tab (n:=20) (e:=62) zzkr zzkr zzkr zzkr i;rw[b,<-this]
  |_=>cases H

end jk
end
def Ge{H:Type}{E:TypeId×Value->H}{C:Checked}{os:Os}{f:FuncId}{F:Func}{s:ChangeSpec}{l:List PathCond}{A m n k:Bool}{a:Assume}{X:World->Array Value->Prop}(r: ∀(w o:World)(args:Array Value),w.heap=o.heap->X w args->X o args)(I:ownKnob C.prog.godebug=none)(J:os.Started)(D:C.prog.inits.idxOf? f=none)(u:C.prog.funcs[f]? =some F)(K: ∃(w:World)(tape:Tape)(i:Input),w.os=os/\(w.forCall tape i).Shaped C.prog/\i.vars= []/\Input.okWide C.prog (w.forCall tape i) .any w.heap.size f i/\
   ((s.pre E C.prog F l A (w.forCall tape i).memory i.args/\X (w.forCall tape i).memory i.args)/\sizedMet E C.prog F (OpenSpec.ofChange s) A (w.forCall tape i).memory i.args)/\a.holds C.prog (lone (Frame.enter C.prog f i.args .normal) [] (w.forCall tape i)))(q: ∀(b:World)(p:Nat)(args:Array Value)(d G:List (DataW H))(B:List MemPlace),b.ShapedOpen C.prog->(∀(j:Nat) t v,F.params[j]? =some t->args[j]? =some v->Value.okWide C.prog b .any p t v)->
   DataW.Whole E C.prog F.params.toList s.vars A b args.toList d G B->X b args->Calls C.prog f args b λe c=> ∃v,e=.returned v/\s.post E C.prog F A m n k b args v c):
  ReturnsInHanded a C os f .any (λw args=>(s.pre E C.prog F l A w args/\X w args)/\sizedMet E C.prog F (OpenSpec.ofChange s) A w args) (s.post E C.prog F A m n k):=
 returnsInHanded_of_calls I J D K λw tape i _ S _ O pre _=>by have⟨_,_,_,g,x,_,_,_,_,V⟩:=O;cases bL (x.symm.trans u);have⟨⟨⟨d,G,B,y,_⟩,z⟩,_⟩:=pre;refine(q (w.forCall tape i) w.heap.size i.args d G B S V (DataW.Whole.of_heap (by rfl) y) (r _ _ _ (by rfl) z)).mono λe c h=> ?_;obtain⟨v,rfl,h⟩:=h;exact ChangeSpec.post_blind h
def jk.Mx.OQ{w:World}(h:w.ShapedOpen Tryz.prog):jk.Mx w.heap:=by obtain⟨m,H⟩:=cell_of_shapedOpen_int (g:=0) (t:=3) (zero:= #[.I 0]) (k:=.i64) h (bj zzkr) zzkr rfl zzkr zzkr zzkr;rw[kk]at H;exact⟨m,H⟩

section
open Go
def mI:Tryz.pinned.checked.prog.pinnedFits "unicode/utf8.first" =true:=zzkr
def KD:Tryz.pinned.checked.prog.headLifts.contains "ownunsafe" =false:=zzkr
def Xc:Tryz.pinned.checked.prog.listedFits [("strconv.ErrSyntax",Rows.laid_strconv_ErrSyntax),("strconv.ErrRange",Rows.laid_strconv_ErrRange),("internal/strconv.uint64pow10",Rows.laid_internal_strconv_uint64pow10),("math/bits.deBruijn32tab",Rows.laid_math_bits_deBruijn32tab),("math/bits.deBruijn64tab",Rows.laid_math_bits_deBruijn64tab),("unicode/utf8.first",Rows.laid_unicode_utf8_first),("unicode/utf8.acceptRanges",Rows.laid_unicode_utf8_acceptRanges)]=true:=by unfold Program.listedFits;rw[KD];kernel_rfl
abbrev tieL:List (String×DataW Unit):= [("strconv.ErrSyntax",Rows.laid_strconv_ErrSyntax),("strconv.ErrRange",Rows.laid_strconv_ErrRange),("internal/strconv.uint64pow10",Rows.laid_internal_strconv_uint64pow10),("math/bits.deBruijn32tab",Rows.laid_math_bits_deBruijn32tab),("math/bits.deBruijn64tab",Rows.laid_math_bits_deBruijn64tab),("unicode/utf8.acceptRanges",Rows.laid_unicode_utf8_acceptRanges)]
def Yq:Tryz.prog.worded (varsWordLater true)=true:=zzkr
def Yr:Tryz.prog.worded (varsWordLater !true)=false:=zzkr
def Ys:Tryz.prog.worded rootWordLater=true:=zzkr
def Yt:tieL.map (λx=>Tryz.prog.kindOfLater x.1)=([.sentinel,.sentinel,.data,.data,.data,.data]:List LaidKind).map some:=zzkr
def Yu:(Tryz.prog.funcNamed "gosem.cut.vars").isSome=true:=zzkr
def Yw:varsNamedLaterB Tryz.prog (varsId Tryz.prog) tieL=true:=zzkr
set_option maxRecDepth 1000000 in theorem tie7: ∀os tape,varsDone Tryz.prog 400 (varsId Tryz.prog) os tape=true:=λ_ _=>zzkr
set_option maxRecDepth 1000000 in theorem tie8: ∀os tape,(DataW.laidRun Tryz.prog (varsWorld Tryz.prog 400 (varsId Tryz.prog) os tape).memory 8 (tieL.map (·.1))).map (·.1)=some tieL:=λ_ _=>zzkr
set_option maxRecDepth 1000000 in theorem tie9: ∀os tape,(DataW.laidRun Tryz.prog (varsWorld Tryz.prog 400 (varsId Tryz.prog) os tape).memory 8 (tieL.map (·.1))).map (λx=>decide x.2.Nodup && laidRowsB Tryz.prog (varsWorld Tryz.prog 400 (varsId Tryz.prog) os tape).memory x.2)=some true:=λ_ _=>zzkr
def tie:Tryz.prog.laidByTextLater tieL [.sentinel,.sentinel,.data,.data,.data,.data] true:=
 Program.laidByTextLater_by_run 400 8 Yq Yr Ys Yt Yu Yw tie7 tie8 tie9
def xA:Rows.auditFirstRow.laidByTextAt .later Tryz.pinned [.sentinel,.sentinel,.data,.data,.data,.pinned,.data] true:=
 OpenClaim.laidByTextAt_pinned rfl rfl tie rfl rfl rfl rfl (λy h _e=>by simp only[Rows.auditFirstRow,List.zip_cons_cons,List.zip_nil_right,bG,List.mem_nil_iff,or_false]at h;rcases h with rfl|rfl|rfl|rfl|rfl|rfl|rfl;cases _e;cases _e;cases _e;cases _e;cases _e;exact⟨mI,zzkr⟩;cases _e) Xc

end
section
variable {h:Heap} {R:dH}
def lZ{S:bH}{s i:Nat} (H:Bd 0 s/\aJ S λa=>Ji h (a.add (toNat 0*1)) λT=>Bd 1 s/\aJ S λA=>Ji h (A.add (toNat 1*1)) λj=>Bd 2 s/\aJ S λb=>Ji h (b.add (toNat 2*1)) λk=>Bd 3 s/\aJ S λc=>Ji h (c.add (toNat 3*1)) λl=>Bd 4 s/\aJ S λd=>Ji h (d.add (toNat 4*1)) λm=>Bd 5 s/\aJ S λe=>Ji h (e.add (toNat 5*1)) λn=>Bd 6 s/\aJ S λf=>Ji h (f.add (toNat 6*1)) λo=>Bd 7 s/\aJ S λg=> ∃t,aQ h (g.add (toNat 7*1))=some (.int .u8 t)/\R (.U (wrap .u64 ((ry (wrap .u64 ((ry (wrap .u64 ((ry (wrap .u64 ((ry (wrap .u64 ((ry (wrap .u64 ((ry (wrap .u64 ((ry (wrap .u64 T)|||ry (wrap .u64 ((wrap .u64 j)*2 ^ min (toNat 8) (IntKind.bits .u64)))).toNat:Int))|||ry (wrap .u64 ((wrap .u64 k)*2 ^ min (toNat 16) (IntKind.bits .u64)))).toNat:Int))|||ry (wrap .u64 ((wrap .u64 l)*2 ^ min (toNat 24) (IntKind.bits .u64)))).toNat:Int))|||ry (wrap .u64 ((wrap .u64 m)*2 ^ min (toNat 32) (IntKind.bits .u64)))).toNat:Int))|||ry (wrap .u64 ((wrap .u64 n)*2 ^ min (toNat 40) (IntKind.bits .u64)))).toNat:Int))|||ry (wrap .u64 ((wrap .u64 o)*2 ^ min (toNat 48) (IntKind.bits .u64)))).toNat:Int))|||ry (wrap .u64 ((wrap .u64 t)*2 ^ min (toNat 56) (IntKind.bits .u64)))).toNat:Int))) h):Cl 556 #[.L S s i] h R:=aD [(5,λ_=>pN 23),(9,λ_=>pN 47)] H
def qm{K:bH}{f E:Nat} (hv:((0:Int)<=(f:Int)/\(f:Int)<=(E:Int))/\((0:Int)<=(f:Int)/\(f:Int)<=(f:Int))/\∃(I:bH->Nat->Nat->cM)(M:bH->Nat->Nat->Heap->Nat),I (bV K (toNat (f:Int)) 0 1) (toNat (f:Int)) (toNat (f:Int)) h/\∀a p P e,I a p P e->ite (decide (((p:Nat):Int)>0)) (ay (λ(L:bH) (G F:Nat) y=>(I L G F y/\M L G F y<M a p P e)) (λJ=>Bd 0 p/\aJ a λl'=> ∃T,aQ e (l'.add (toNat 0*1))=some (.int .u8 T)/\ite (decide (T<128)) (((0:Int)<=1/\1<=((p:Nat):Int))/\ay (λ(b1:Bool) n=>ay (λ(Z':bH) (S' M':Nat) J'=>J Z' S' M' J') (λr=>ite b1 (((0:Int)<=8/\8<=((p - (toNat 1):Nat):Int))/\ay (λ(b3:Bool) C=>ay (λ(a0:bH) (T' O':Nat) K'=>r a0 T' O' K') (λu=>ite b3 (((0:Int)<=16/\16<=(((p - (toNat 1)) - (toNat 8):Nat):Int))/\∃(l:bH->Nat->Nat->cM)(D:bH->Nat->Nat->Heap->Nat),l (bV (bV (bV a P (toNat 1) 1) (P - (toNat 1)) (toNat 8) 1) ((P - (toNat 1)) - (toNat 8)) (toNat 16) 1) (((p - (toNat 1)) - (toNat 8)) - (toNat 16)) (((P - (toNat 1)) - (toNat 8)) - (toNat 16)) C/\∀g d c k,l g d c k->ay (λ(b7:Bool) o=>ite b7 (((0:Int)<=32/\32<=((d:Nat):Int))/\(l (bV g c (toNat 32) 1) (d - (toNat 32)) (c - (toNat 32)) o/\D (bV g c (toNat 32) 1) (d - (toNat 32)) (c - (toNat 32)) o<D g d c k)) (u g d c o)) (λv=>ite (decide (((d:Nat):Int)>32)) (((0:Int)<=8/\8<=((d:Nat):Int))/\((0:Int)<=16/\16<=((d:Nat):Int))/\((0:Int)<=24/\24<=((d:Nat):Int))/\Cl 556 #[.L g d c] k λc0 L'=>Vu c0 λb4=>Cl 556 #[.L (bV g c (toNat 8) 1) (d - (toNat 8)) (c - (toNat 8))] L' λc1 y'=>Vu c1 λb5=>Cl 556 #[.L (bV g c (toNat 16) 1) (d - (toNat 16)) (c - (toNat 16))] y' λc2 z'=>Vu c2 λb6=>Cl 556 #[.L (bV g c (toNat 24) 1) (d - (toNat 24)) (c - (toNat 24))] z' λc3 A'=> ∃g',c3=.U g'/\v ((wrap .u64 ((ry (wrap .u64 ((ry (wrap .u64 ((ry b4|||ry b5).toNat:Int))|||ry (wrap .u64 ((ry b6|||ry g').toNat:Int))).toNat:Int)) &&& ry 9259542123273814144).toNat:Int))==0) A') (v false k))) (u (bV (bV a P (toNat 1) 1) (P - (toNat 1)) (toNat 8) 1) ((p - (toNat 1)) - (toNat 8)) ((P - (toNat 1)) - (toNat 8)) C))) (λs=>ite (decide ((((p - (toNat 1)) - (toNat 8):Nat):Int)>16)) (((0:Int)<=8/\8<=(((p - (toNat 1)) - (toNat 8):Nat):Int))/\Cl 556 #[.L (bV (bV a P (toNat 1) 1) (P - (toNat 1)) (toNat 8) 1) ((p - (toNat 1)) - (toNat 8)) ((P - (toNat 1)) - (toNat 8))] n λc4 B'=>Vu c4 λb2=>Cl 556 #[.slice (bV (bV (bV a P (toNat 1) 1) (P - (toNat 1)) (toNat 8) 1) ((P - (toNat 1)) - (toNat 8)) (toNat 8) 1) (((p - (toNat 1)) - (toNat 8)) - (toNat 8)) (((P - (toNat 1)) - (toNat 8)) - (toNat 8))] B' λc5 C'=> ∃f',c5=.U f'/\s ((wrap .u64 ((ry (wrap .u64 ((ry b2|||ry f').toNat:Int)) &&& ry 9259542123273814144).toNat:Int))==0) C') (s false n))) (r (bV a P (toNat 1) 1) (p - (toNat 1)) (P - (toNat 1)) n))) (λq=>ite (decide (((p - (toNat 1):Nat):Int)>8)) (Cl 556 #[.L (bV a P (toNat 1) 1) (p - (toNat 1)) (P - (toNat 1))] e λc6 D'=> ∃e',c6=.U e'/\q ((wrap .u64 ((ry e' &&& ry 9259542123273814144).toNat:Int))==0) D') (q false e))) (Bd T 256/\Ji e (((AA 3 0):Addr).add (toNat T*1)) λt=>Bd (Int.fdiv t (2 ^ min (toNat 4) (IntKind.bits .u8))) 16/\∃h',aQ e (((AA 4 0):Addr).add (toNat (Int.fdiv t (2 ^ min (toNat 4) (IntKind.bits .u8)))*2))=some (.int .u8 h')/\∃i',aQ e ((((AA 4 0):Addr).add (toNat (Int.fdiv t (2 ^ min (toNat 4) (IntKind.bits .u8)))*2)).add 1)=some (.int .u8 i')/\aT e (.C #[.int .u8 0,.int .u8 0] 304) λb E'=>aI E' (AA b 0) (.int .u8 h') λF'=>aI F' (AA b 1) (.int .u8 i') λH=>ay (λ(a1:bH) (U' P':Nat) G'=>J a1 U' P' G') (λk'=>ay (λ(a2:bH) (V' Q':Nat) H'=>k' a2 V' Q' H') (λw=>ite ((wrap .i64 (wrap .u8 ((vq t &&& vq 7).toNat:Int)))==2) (ay (λ(a4:Bool) z=>ite a4 (R (.B false) z) (((0:Int)<=2/\2<=((p:Nat):Int))/\w (bV a P (toNat 2) 1) (p - (toNat 2)) (P - (toNat 2)) z)) (λm=>ite (decide (((p:Nat):Int)<2)) (m true H) (Bd 1 p/\aJ a λm'=>Ji H (m'.add (toNat 1*1)) λb8=> ∃j',Cc H b 0 (.int .u8 j')/\ite (decide (b8<j')) (m true H) (Hy H b 1 λb9=>Bd 1 p/\aJ a λq'=> ∃O,aQ H (q'.add (toNat 1*1))=some (.int .u8 O)/\m (decide (b9<O)) H)))) (ay (λ(a3:bH) (X' R':Nat) I'=>w a3 X' R' I') (λx=>ite ((wrap .i64 (wrap .u8 ((vq t &&& vq 7).toNat:Int)))==3) (ay (λ(a7:Bool) A=>ite a7 (R (.B false) A) (((0:Int)<=3/\3<=((p:Nat):Int))/\x (bV a P (toNat 3) 1) (p - (toNat 3)) (P - (toNat 3)) A)) (λi=>ite (decide (((p:Nat):Int)<3)) (i true H) (Bd 1 p/\aJ a λr'=>Ji H (r'.add (toNat 1*1)) λa5=> ∃Q,Cc H b 0 (.int .u8 Q)/\ite (decide (a5<Q)) (i true H) (Hy H b 1 λa6=>Bd 1 p/\aJ a λs'=> ∃S,aQ H (s'.add (toNat 1*1))=some (.int .u8 S)/\ite (decide (a6<S)) (i true H) (Bd 2 p/\aJ a λt'=> ∃U,aQ H (t'.add (toNat 2*1))=some (.int .u8 U)/\ite (decide (U<128)) (i true H) (Bd 2 p/\aJ a λu'=> ∃V,aQ H (u'.add (toNat 2*1))=some (.int .u8 V)/\i (decide (191<V)) H)))))) (ite ((wrap .i64 (wrap .u8 ((vq t &&& vq 7).toNat:Int)))==4) (ay (λ(b0:Bool) B=>ite b0 (R (.B false) B) (((0:Int)<=4/\4<=((p:Nat):Int))/\x (bV a P (toNat 4) 1) (p - (toNat 4)) (P - (toNat 4)) B)) (λj=>ite (decide (((p:Nat):Int)<4)) (j true H) (Bd 1 p/\aJ a λv'=>Ji H (v'.add (toNat 1*1)) λa8=> ∃X,Cc H b 0 (.int .u8 X)/\ite (decide (a8<X)) (j true H) (Hy H b 1 λa9=>Bd 1 p/\aJ a λw'=> ∃Z,aQ H (w'.add (toNat 1*1))=some (.int .u8 Z)/\ite (decide (a9<Z)) (j true H) (Bd 2 p/\aJ a λx'=> ∃a',aQ H (x'.add (toNat 2*1))=some (.int .u8 a')/\ite (decide (a'<128)) (j true H) (Bd 2 p/\aJ a λn'=> ∃b',aQ H (n'.add (toNat 2*1))=some (.int .u8 b')/\ite (decide (191<b')) (j true H) (Bd 3 p/\aJ a λo'=> ∃c',aQ H (o'.add (toNat 3*1))=some (.int .u8 c')/\ite (decide (c'<128)) (j true H) (Bd 3 p/\aJ a λp'=> ∃d',aQ H (p'.add (toNat 3*1))=some (.int .u8 d')/\j (decide (191<d')) H)))))))) (R (.B false) H))))))))) (R (.B true) e)):Cl 513 #[.L K f E] h R:=aD [(6,.loop [(0,sS)]),(13,.join [(0,sS)]),(24,.join [(31,sB)]),(25,.join [(0,sS)]),(29,.join [(46,sB)]),(29,λ_=> .pn (mL [0,1,2,3,4,6,7,5,8,9,10,11,12] .done)),(30,.join [(0,sS)]),(34,.loop [(0,sS)]),(37,.join [(69,sB)]),(37,λ_=> .pn (mL [0,1,2,3,4,6,7,10,11,13,14,5,8,9,12,15,16,17,18,19,20] .done)),(55,.join [(0,sS)]),(58,.join [(0,sS)]),(61,.join [(103,sB)]),(61,λ_=>pN 19),(70,.join [(0,sS)]),(73,.join [(138,sB)]),(73,λ_=>pN 31),(85,.join [(185,sB)]),(85,λ_=>pN 43)] hv

end
section
namespace Cb
variable {h j H g:Heap} {R:dH} {p:bH} {l c:Nat} {b d:cO} {FT A0 A1:Nat→Int}
variable {A B:Prop}
def bI(b:cO)(i:Nat):Int:=((b.getD i 0).toNat:Int)
def Yx(a e f i k m n o:Int):Int:=(IntKind.wrap .u64 ((BitVec.ofInt (IntKind.bits .u64) (IntKind.wrap .u64 ((BitVec.ofInt (IntKind.bits .u64) (IntKind.wrap .u64 ((BitVec.ofInt (IntKind.bits .u64) (IntKind.wrap .u64 ((BitVec.ofInt (IntKind.bits .u64) (IntKind.wrap .u64 ((BitVec.ofInt (IntKind.bits .u64) (IntKind.wrap .u64 ((BitVec.ofInt (IntKind.bits .u64) (IntKind.wrap .u64 ((BitVec.ofInt (IntKind.bits .u64) (IntKind.wrap .u64 a)|||BitVec.ofInt (IntKind.bits .u64) (IntKind.wrap .u64 ((IntKind.wrap .u64 e)*2 ^ min (Int.toNat 8) (IntKind.bits .u64)))).toNat:Int))|||BitVec.ofInt (IntKind.bits .u64) (IntKind.wrap .u64 ((IntKind.wrap .u64 f)*2 ^ min (Int.toNat 16) (IntKind.bits .u64)))).toNat:Int))|||BitVec.ofInt (IntKind.bits .u64) (IntKind.wrap .u64 ((IntKind.wrap .u64 i)*2 ^ min (Int.toNat 24) (IntKind.bits .u64)))).toNat:Int))|||BitVec.ofInt (IntKind.bits .u64) (IntKind.wrap .u64 ((IntKind.wrap .u64 k)*2 ^ min (Int.toNat 32) (IntKind.bits .u64)))).toNat:Int))|||BitVec.ofInt (IntKind.bits .u64) (IntKind.wrap .u64 ((IntKind.wrap .u64 m)*2 ^ min (Int.toNat 40) (IntKind.bits .u64)))).toNat:Int))|||BitVec.ofInt (IntKind.bits .u64) (IntKind.wrap .u64 ((IntKind.wrap .u64 n)*2 ^ min (Int.toNat 48) (IntKind.bits .u64)))).toNat:Int))|||BitVec.ofInt (IntKind.bits .u64) (IntKind.wrap .u64 ((IntKind.wrap .u64 o)*2 ^ min (Int.toNat 56) (IntKind.bits .u64)))).toNat:Int))
def Bi(b:cO):Int:=Yx (bI b 0) (bI b 1) (bI b 2) (bI b 3) (bI b 4) (bI b 5) (bI b 6) (bI b 7)
def Yy(n:Int):Bool:=(IntKind.wrap .u64 ((BitVec.ofInt (IntKind.bits .u64) n &&& BitVec.ofInt (IntKind.bits .u64) 9259542123273814144).toNat:Int))==0
def XA(a b:Int):Int:=IntKind.wrap .u64 ((BitVec.ofInt (IntKind.bits .u64) a|||BitVec.ofInt (IntKind.bits .u64) b).toNat:Int)
def ES(b:cO):Bool:=decide (b.length>32) && Yy (XA (XA (Bi b) (Bi (b.drop 8))) (XA (Bi (b.drop 16)) (Bi (b.drop 24))))
def Ho(b:cO):Bool:=decide (b.length>16) && Yy (XA (Bi b) (Bi (b.drop 8)))
def OR(b:cO):Bool:=decide (b.length>8) && Yy (Bi b)
def yR:Nat->cO->cO
 |0,b=>b
 |f+1,b=>if ES b=true then yR f (b.drop 32)else b
def KE(b:cO):cO:=if OR b=true then(if Ho (b.drop 8)=true then yR (b.length+1) ((b.drop 8).drop 16)else b.drop 8)else b
def rP(x:Int):Int:=IntKind.wrap .i64 (IntKind.wrap .u8 ((BitVec.ofInt (IntKind.bits .u8) x &&& BitVec.ofInt (IntKind.bits .u8) 7).toNat:Int))
def Ck(x:Int):Int:=Int.fdiv x (2 ^ min (Int.toNat 4) (IntKind.bits .u8))
def qo(n:Nat)(L a:Int)(b:cO):Bool:=decide (b.length<n)||(decide (bI b 1<L)||decide (a<bI b 1))
def rQ(b:cO)(i:Nat):Bool:=decide (bI b i<128)||decide (191<bI b i)
def Bj(FT A0 A1:Nat->Int)(b:cO):Option (cO):=
 if bI b 0<128 then some (KE (b.drop 1))
 else if rP (FT (bI b 0).toNat)=2 then(if qo 2 (A0 (Ck (FT (bI b 0).toNat)).toNat) (A1 (Ck (FT (bI b 0).toNat)).toNat) b=true then none else some (b.drop 2))
 else if rP (FT (bI b 0).toNat)=3 then(if(qo 3 (A0 (Ck (FT (bI b 0).toNat)).toNat) (A1 (Ck (FT (bI b 0).toNat)).toNat) b||rQ b 2)=true then none else some (b.drop 3))
 else if rP (FT (bI b 0).toNat)=4 then(if(qo 4 (A0 (Ck (FT (bI b 0).toNat)).toNat) (A1 (Ck (FT (bI b 0).toNat)).toNat) b||(rQ b 2||rQ b 3))=true then none else some (b.drop 4))
 else none
def UG(n:cO->Option (cO)):Nat->mv
 |0,_=>true
 |f+1,b=>if b.length=0 then true else match n b with|none=>false|some r=>UG n f r
def Ay(FT A0 A1:Nat->Int)(f:Nat)(b:cO):Bool:=UG (Bj FT A0 A1) f b
def TD(f:Nat):yR (f+1) b=if ES b=true then yR f (b.drop 32)else b:=rfl
def KF(f:Nat):Ay FT A0 A1 (f+1) b=if b.length=0 then true else match Bj FT A0 A1 b with|none=>false|some r=>Ay FT A0 A1 f r:=by rfl
def Hq: ∀(f:Nat)(b:cO),(yR f b).length<=b.length
 |0,b=>bf _
 |f+1,b=>by unfold yR;split;exact cw (Hq f _) bO;omega
def Rt(b:cO):(KE b).length<=b.length:=by
 unfold KE;split;split
 exact cw (Hq _ _) bO;simp;omega
theorem OS{r:cO}(e:b.length≠0)(a:Bj FT A0 A1 b=some r):r.length<b.length:=by
 have D: ∀k,1<=k->(b.drop k).length<b.length:=λk f=>by grind
 unfold Bj at a
 repeat' split at a
 all_goals first|grind|(cases a;first|grind|exact Nat.lt_of_le_of_lt (Rt _) (D 1 bA))
structure II (h:Heap) (FT A0 A1:Nat->Int):Prop where
 f: ∀i,i<256->aQ h ⟨3,i,none⟩=some (.int .u8 (FT i))/\0<=FT i/\FT i<256
 a: ∀i,i<16->aQ h ⟨4,i*2,none⟩=some (.int .u8 (A0 i))/\aQ h ⟨4,i*2+1,none⟩=some (.int .u8 (A1 i))
def II.on(U:II h FT A0 A1)(f:Fr No h H):II H FT A0 A1:=⟨λi a=>⟨f.cell (U.f i a).1 id,(U.f i a).2⟩,λi a=>⟨f.cell (U.a i a).1 id,f.cell (U.a i a).2 id⟩⟩
structure Sl (h:Heap) (p:bH) (l c:Nat) (b:cO):Prop where
 row:Row h p (bc b)
 len:l=b.length
 cap:l<=c
theorem Sl.drop(S:Sl h p l c b){k:Nat}(a:k<=b.length):Sl h (bV p c k 1) (l - k) (c - k) (b.drop k):=by have f:=S.len;have e:=S.cap;refine⟨?_,by grind,ae⟩;have:=S.row.sub (cap:=c) (sz:=1) a ae;rw[bJ,bJ]at this;unfold bc at this⊢;rw[bz bO]at this;rw[List.map_drop];exact this
def Sl.on(S:Sl h p l c b)(f:Fr No h H):Sl H p l c b:=⟨S.row.frame f bD,S.len,S.cap⟩
def Sl.at{i:Nat}(S:Sl h p l c b)(e:i<b.length): ∃a,p=some a/\aQ h (a.add (i*1))=some (.int .u8 (bI b i)):=by have⟨a,E,f⟩:=byte_at S.row e;refine⟨a,E,?_⟩;unfold bI;rw[aL,ai e];exact f
def Xd(b:cO)(i:Nat):0<=bI b i/\bI b i<256:=by unfold bI;have:=(b.getD i 0).toNat_lt;omega
def VK{x:Int}(j:0<=x)(a:x<256):0<=Ck x/\Ck x<16:=by have e:Ck x=x/16:=Int.fdiv_eq_ediv_of_nonneg x bA;omega
theorem OT{c:Prop}[Decidable c](e:c)(a:A):if c then A else B:=by grind
theorem OU{c:Prop}[Decidable c](e: ¬c)(a:B):if c then A else B:=by grind
def rj(S:Sl h p l c b)(o:8<=b.length)(k:R (.U (Bi b)) h):Cl 556 #[.L p l c] h R:=by
 have q:=S.len;obtain⟨a,rfl,n⟩:=S.at (i:=0) ae;have C: ∀i,i<b.length->aQ h (a.add (i*1))=some (.int .u8 (bI b i)):=λi f=>by obtain⟨m,e,c⟩:=S.at (i:=i) f;cases e;exact c
 refine lZ ?_;refine⟨ae,av.2 ⟨_,C 0 ae,ae,av.2 ⟨_,C 1 ae,ae,av.2 ⟨_,C 2 ae,ae,av.2 ⟨_,C 3 ae,ae,av.2 ⟨_,C 4 ae,ae,av.2 ⟨_,C 5 ae,ae,av.2 ⟨_,C 6 ae,ae,av.2 ⟨_,C 7 ae,?_⟩⟩⟩⟩⟩⟩⟩⟩⟩;exact k
def Ru{vv:Bool}(hV:Ay FT A0 A1 (d.length+1) d=vv)(UT:II h FT A0 A1)(y':Row h p (bc d))(hl:d.length<=1000000)(cap:d.length<=c)(M: ∀g,Fr No h g->R (.B vv) g):Cl 513 #[.L p d.length c] h R:=by
 refine qm ⟨ae,ae,λp l c g=>Fr No h g/\∃b f,Sl g p l c b/\b.length<f/\b.length<=1000000/\Ay FT A0 A1 f b=vv,λ_ l _ _=>l,⟨Fr.refl _ _,d,d.length+1,⟨by rw[iV];exact y',aG _,bf _⟩,Nat.lt_succ_self _,hl,hV⟩,?_⟩;clear hV;rintro p l c g ⟨X,b,f,S,hf,hb,I⟩;have D':=S.len;by_cases c0:b.length=0
 case pos=>
  rw[fe];have:Ay FT A0 A1 f b=true:=by
   cases f with
   |zero=>rfl
   |succ f=>rw[KF,ah c0]
  rw[I.symm.trans this]at M;exact M g X
 rw[ah (by simp only[bN];omega)];refine ay.of λu' hJ=> ?_;obtain⟨f,rfl⟩: ∃F,f=F+1:=⟨f - 1,ae⟩;rw[KF,af c0]at I;have n: ∀(G:Heap)(p':bH)(l' c':Nat)(w:cO),Fr No g G->Sl G p' l' c' w->Bj FT A0 A1 b=some w->u' p' l' c' G:=by intro G p' l' c' w F S' hn;subst hJ;have E':=OS c0 hn;rw[hn]at I;exact⟨⟨X.tt F,w,f,S',ae,ae,I⟩,by have:=S'.len;show l'<l;omega⟩
 have stop: ∀G,Fr No g G->Bj FT A0 A1 b=none->R (.B false) G:=by intro G F hn;rw[hn]at I;rw[<-I]at M;exact M G (X.tt F)
 clear hJ I M;obtain⟨n',rfl,ca⟩:=S.at (i:=0) ae;have n0:=Xd b 0;refine⟨ae,av.2 ⟨_,ca,?_⟩⟩;by_cases c1:bI b 0<128;have E:Bj FT A0 A1 b=some (KE (b.drop 1)):=ah c1;rw[E]at n;clear stop E;rw[ah (aq c1)];refine⟨ae,ay.of λJ1 v'=> ?_⟩;have P:=S.drop (k:=1) ae;generalize hr:b.drop 1=r at n P;have r': ∀v,v=OR r->J1 v g:=by
  intro v a;subst v';refine ay.of λJ2 e'=> ?_;cases y:OR r with
  |false=>rw[a,y,fe];subst e';exact n g _ _ _ _ (Fr.refl _ _) P (by unfold KE;rw[y];rfl)
  |true=>
  rw[a,y,ah rfl];have l8:r.length>8:=by unfold OR at y;simp only[bE,bN]at y;exact y.1
  have T:=P.drop (k:=8) ae;have h':=P.len;refine⟨⟨ae,by show(8:Int)<=((l - 1:Nat):Int);omega⟩,ay.of λJ3 w'=> ?_⟩;have s': ∀v,v=Ho (r.drop 8)->J3 v g:=by
   intro v a;subst w';refine ay.of λJ4 o'=> ?_;cases O:Ho (r.drop 8)with
   |false=>rw[a,O,fe];subst o';subst e';exact n g _ _ _ _ (Fr.refl _ _) T (by unfold KE;rw[y,ah rfl,O];rfl)
   |true=>
   rw[a,O,ah rfl];have F':(r.drop 8).length>16:=by unfold Ho at O;simp only[bE,bN]at O;exact O.1
   have S3:=T.drop (k:=16) ae;have d':=T.len;have eF:KE r=yR (r.length+1) ((r.drop 8).drop 16):=by unfold KE;rw[y,ah rfl,O,ah rfl]
   rw[eF]at n;refine⟨⟨ae,by show(16:Int)<=((l - 1 - 8:Nat):Int);omega⟩,λp l c G=>G=g/\∃w F,Sl g p l c w/\w.length<F/\yR F w=yR (r.length+1) ((r.drop 8).drop 16),λ_ l _ _=>l,⟨rfl,_,_,S3,by rw[cj,cj];omega,rfl⟩,?_⟩;rintro p5 l5 c5 G ⟨rfl,b5,f5,D,B',V⟩;have C':=D.len;obtain⟨f5,rfl⟩: ∃F,f5=F+1:=⟨f5 - 1,ae⟩;rw[TD]at V;refine ay.of λJ5 x'=> ?_;have t': ∀v,v=ES b5->J5 v G:=by
    intro v a;subst x';dsimp only;cases J:ES b5 with
    |false=>rw[a,J,fe];rw[J,fe]at V;subst o';subst e';exact n G _ _ _ _ (Fr.refl _ _) D (by rw[V])
    |true=>
     rw[a,J,ah rfl];rw[J,ah rfl]at V;have G':b5.length>32:=by unfold ES at J;simp only[bE,bN]at J;exact J.1
     exact⟨ae,⟨rfl,_,f5,D.drop (k:=32) ae,by rw[cj];omega,V⟩,by show l5 - 32<l5;omega⟩
   by_cases q:b5.length>32;rw[iE];refine⟨ae,ae,ae,rj D ae ⟨_,rfl,rj (D.drop (k:=8) ae) (by rw[cj];omega) ⟨_,rfl,rj (D.drop (k:=16) ae) (by rw[cj];omega) ⟨_,rfl,rj (D.drop (k:=24) ae) (by rw[cj];omega) ⟨_,rfl,t' _ ?_⟩⟩⟩⟩⟩;unfold ES;rw[aq q];rfl;rw[fe];exact t' false (by unfold ES;rw[aA q];rfl)
  have d':=T.len;by_cases q:(r.drop 8).length>16;rw[ah (aq (by show((l - 1 - 8:Nat):Int)>16;have:l - 1 - 8=(r.drop 8).length:=d';omega))];refine⟨⟨ae,by show(8:Int)<=((l - 1 - 8:Nat):Int);have:l - 1 - 8=(r.drop 8).length:=d';omega⟩,rj T ae ⟨_,rfl,rj (T.drop (k:=8) ae) (by rw[cj];omega) ⟨_,rfl,s' _ ?_⟩⟩⟩;unfold Ho;rw[aq q];rfl;rw[af (by simp only[bN];show¬((l - 1 - 8:Nat):Int)>16;have:l - 1 - 8=(r.drop 8).length:=d';omega)];exact s' false (by unfold Ho;rw[aA q];rfl)
 have h':=P.len;by_cases q:r.length>8;rw[ah (aq (by show((l - 1:Nat):Int)>8;have:l - 1=r.length:=h';omega))];refine rj P ae ⟨_,rfl,r' _ ?_⟩;unfold OR;rw[aq q];rfl;rw[af (by simp only[bN];show¬((l - 1:Nat):Int)>8;have:l - 1=r.length:=h';omega)];exact r' false (by unfold OR;rw[aA q];rfl);obtain⟨x0,x1,x2⟩:=(UT.on X).f (bI b 0).toNat ae;have E:Bj FT A0 A1 b=_:=af c1;generalize FT (bI b 0).toNat=x at x0 x1 x2 E;have rr:=VK x1 x2;obtain⟨y0,y1⟩:=(UT.on X).a (Ck x).toNat ae;generalize A0 (Ck x).toNat=L at y0 E;generalize A1 (Ck x).toNat=o at y1 E;rw[fe];refine⟨ae,x,by rw[hH,aX,bJ];exact x0,rr,L,by rw[hH,aX];exact y0,o,by rw[hH,hH,aX];exact y1,bn ?_⟩;have k':Fr No g (g.push (.C #[.int .u8 0,.int .u8 0] 304)):=Fr.push _ _;have i':(g.push (.C #[.int .u8 0,.int .u8 0] 304))[g.size]? =_:=aU;generalize g.push (.C #[.int .u8 0,.int .u8 0] 304)=z' at k' i'⊢;refine aY i' bO λA' a1 a2 a3=>aY a1 bO λm j' b2 b3=> ?_;have u:Fr No g m:=(k'.fresh (Fr.of_eq (S:=λb'=>b'=g.size) a2 a3) (λb' e=>ae)).fresh (Fr.of_eq (S:=λb'=>b'=g.size) b2 b3) (λb' e=>ae);have m':=S.on u;have C: ∀i,i<b.length->aQ m (n'.add (i*1))=some (.int .u8 (bI b i)):=λi o=>by obtain⟨a',e,c⟩:=m'.at (i:=i) o;cases e;exact c
 have cl:aQ m (AA g.size 0)=some (.int .u8 L):=aj j';have ch:aQ m (AA g.size 1)=some (.int .u8 o):=aj j';have dr: ∀k,k<=b.length->Sl m (bV (some n') c k 1) (l - k) (c - k) (b.drop k):=λk M=>m'.drop M;refine ay.of λJ6 f'=>ay.of λJ7 g'=> ?_;by_cases s2:rP x=2;replace E:=E.trans (ah s2);refine OT (show(rP x==2)=true from cU.2 s2) (ay.of λU Z=> ?_);have K: ∀v,v=qo 2 L o b->U v m:=by
  intro v a;subst Z;rw[<-a]at E;cases v with
  |true=>exact OT rfl (stop m u (E.trans (ah rfl)))
  |false=>
   have l2:2<=b.length:=by simp[qo]at a;omega
   refine OU bA ⟨ae,?_⟩;subst g';subst f';exact n m _ _ _ _ u (dr 2 l2) (E.trans (fe))
 by_cases z:b.length<2;rw[iE];exact K true (by simp[qo,z]);rw[fe];refine⟨ae,av.2 ⟨_,C 1 ae,_,cl,?_⟩⟩;by_cases Q:bI b 1<L;rw[ah (aq Q)];exact K true (by simp[qo,Q]);rw[af (dQ Q)];exact⟨_,ch,ae,av.2 ⟨_,C 1 ae,K _ (by simp[qo,z,Q])⟩⟩;replace E:=E.trans (af s2);refine OU (show¬(rP x==2)=true from λe=>s2 (cU.1 e)) (ay.of λJ9 q'=> ?_);by_cases s3:rP x=3;replace E:=E.trans (ah s3);refine OT (show(rP x==3)=true from cU.2 s3) (ay.of λU Z=> ?_);have K: ∀v,v=(qo 3 L o b||rQ b 2)->U v m:=by
  intro v a;subst Z;rw[<-a]at E;cases v with
  |true=>exact OT rfl (stop m u (E.trans (ah rfl)))
  |false=>
   have l2:3<=b.length:=by simp[qo]at a;omega
   refine OU bA ⟨ae,?_⟩;subst q';subst g';subst f';exact n m _ _ _ _ u (dr 3 l2) (E.trans (fe))
 by_cases z:b.length<3;rw[iE];exact K true (by simp[qo,z]);rw[fe];refine⟨ae,av.2 ⟨_,C 1 ae,_,cl,?_⟩⟩;by_cases Q:bI b 1<L;rw[ah (aq Q)];exact K true (by simp[qo,Q]);rw[af (dQ Q)];refine⟨_,ch,ae,av.2 ⟨_,C 1 ae,?_⟩⟩;by_cases s:o<bI b 1;rw[ah (aq s)];exact K true (by simp[qo,s]);rw[af (dQ s)];refine⟨ae,av.2 ⟨_,C 2 ae,?_⟩⟩;by_cases t:bI b 2<128;rw[ah (aq t)];exact K true (by simp[rQ,t]);rw[af (dQ t)];exact⟨ae,av.2 ⟨_,C 2 ae,K _ (by simp[qo,rQ,z,Q,s,t])⟩⟩;replace E:=E.trans (af s3);refine OU (show¬(rP x==3)=true from λe=>s3 (cU.1 e)) ?_;by_cases s4:rP x=4;replace E:=E.trans (ah s4);refine OT (show(rP x==4)=true from cU.2 s4) (ay.of λU Z=> ?_);have K: ∀v,v=(qo 4 L o b||(rQ b 2||rQ b 3))->U v m:=by
  intro v a;subst Z;rw[<-a]at E;cases v with
  |true=>exact OT rfl (stop m u (E.trans (ah rfl)))
  |false=>
   have l2:4<=b.length:=by simp[qo]at a;omega
   refine OU bA ⟨ae,?_⟩;subst q';subst g';subst f';exact n m _ _ _ _ u (dr 4 l2) (E.trans (fe))
 by_cases z:b.length<4;rw[iE];exact K true (by simp[qo,z]);rw[fe];refine⟨ae,av.2 ⟨_,C 1 ae,_,cl,?_⟩⟩;by_cases Q:bI b 1<L;rw[ah (aq Q)];exact K true (by simp[qo,Q]);rw[af (dQ Q)];refine⟨_,ch,ae,av.2 ⟨_,C 1 ae,?_⟩⟩;by_cases s:o<bI b 1;rw[ah (aq s)];exact K true (by simp[qo,s]);rw[af (dQ s)];refine⟨ae,av.2 ⟨_,C 2 ae,?_⟩⟩;by_cases t:bI b 2<128;rw[ah (aq t)];exact K true (by simp[rQ,t]);rw[af (dQ t)];refine⟨ae,av.2 ⟨_,C 2 ae,?_⟩⟩;by_cases q4:191<bI b 2;rw[ah (aq q4)];exact K true (by simp[rQ,q4]);rw[af (dQ q4)];refine⟨ae,av.2 ⟨_,C 3 ae,?_⟩⟩;by_cases q5:bI b 3<128;rw[ah (aq q5)];exact K true (by simp[rQ,q5]);rw[af (dQ q5)];exact⟨ae,av.2 ⟨_,C 3 ae,K _ (by simp[qo,rQ,z,Q,s,t,q4,q5])⟩⟩;refine OU (show¬(rP x==4)=true from λe=>s4 (cU.1 e)) ?_;exact stop m u (E.trans (af s4))
def II.Zj(U:II h FT A0 A1):lU (λd=>Ay FT A0 A1 (d.length+1) d) h:=λg p c d R f r e cap a=>Ru rfl (U.on f) r e cap a

end Cb
end
section
namespace Cb
def OV: ∀i:Fin 256,Lib.firstT i.val<256:=bA
def II.yQ{w:World}{l:List (String×DataW Unit)}{S x:String}(z:Tryz.prog.globalNamed S=some 3)(A:Tryz.prog.globalNamed x=some 4)(h:laidMet Tryz.prog l w)(M:(S,Lib.firstData)∈l)(B:(x,Lib.acceptData)∈l): ∃V,lU V w.heap:=by
 refine⟨_,II.Zj (FT:=λi=>(Lib.firstT i:Int)) (A0:=λi=>(Lib.accLo i:Int)) (A1:=λi=>(Lib.accHi i:Int)) ⟨λc r=> ?_,λi v=> ?_⟩⟩;obtain⟨g,t,y,F,p,a,n,k,m⟩:=Lib.laidMet.reads h M;obtain rfl:3=g:=bL (z.symm.trans a);obtain rfl:302=t:=by
  have e:(Tryz.prog.globals[(3:Nat)]?).map (·.type)=some 302:=zzkr
  exact bL (e.symm.trans n)
 have b:=Lib.cells_of_tab (n:=256) (e:=5) zzkr zzkr zzkr zzkr m;have:=World.var?_cell a k c;rw[kk,<-eu,b]at this;refine⟨?_,Int.natCast_nonneg _,by have:Lib.firstT c<256:=OV ⟨c,r⟩;show((Lib.firstT c:Nat):Int)<256;omega⟩;rw[this];simp[Lib.firstTab,r];obtain⟨g,t,y,F,p,a,n,k,m⟩:=Lib.laidMet.reads h B;obtain rfl:4=g:=bL (A.symm.trans a);obtain rfl:305=t:=by
  have e:(Tryz.prog.globals[(4:Nat)]?).map (·.type)=some 305:=zzkr
  exact bL (e.symm.trans n)
 obtain⟨D,d,q,s,u⟩:=Lib.array_elem (n:=16) (e:=304) zzkr m i v;simp only[aP,List.getElem?_range v,dB,cr]at s;subst s;have C:Tryz.prog.cellsOf 304=2:=zzkr
 rw[C]at u;have b:=Lib.ints_of_struct (t:=304) (k:=.u8) (fs:= #[Go.Field.mk "lo" 5 0 false "" "unicode/utf8" 0,Go.Field.mk "hi" 5 1 false "" "unicode/utf8" 1]) zzkr (λj f H=>by
  match j,H with
  |0,H=>simp at H;subst H;exact⟨zzkr,rfl,zzkr⟩
  |1,H=>simp at H;subst H;exact⟨zzkr,rfl,zzkr⟩
  |j+2,H=>simp at H) (by rw[C];rfl) u
 have E:=bY (·[0]?) b;have o:=bY (·[1]?) b;simp only[eC,fj]at E o;constructor;have:=World.var?_cell a k (i*2);rw[kk,<-eu]at this;rw[this];simpa using E;have:=World.var?_cell a k (i*2+1);rw[kk,<-eu]at this;rw[this];simpa using o

end Cb
end
section
namespace jk
variable {w:World}
def Bl{l:List (String×DataW Unit)}{s n:String}{d:DataW Unit}{g:Nat}(f:Tryz.prog.globalNamed s=some g)(i:(Tryz.prog.globals[g]?).map (·.type)=some 54)(h:laidMet Tryz.prog l w)(b:(s,.iface n d)∈l): ∃v,aQ w.heap (AA g 0)=some v/\JE v:=by
 obtain⟨G,t,C,F,p,H,j,k,a⟩:=Lib.laidMet.reads h b;obtain rfl:G=g:=bL (H.symm.trans f);have E:t=54:=bL (j.symm.trans i);subst E;have U:Tryz.prog.underlying 54=some (.interface ((match Tryz.prog.underlying 54 with|some (.interface m)=>m|_=> #[]))):=zzkr
 obtain⟨o,u,v,e,_,_⟩:=iface_of_trod U a;have c:=World.var?_cell H k 0;have:C[0]? =some (.iface u v):=by rw[<-eu,e];rfl
 rw[this]at c;exact⟨_,c,.inr ⟨u,v,rfl⟩⟩
def Er.of(a: ∃v,aQ w.heap (AA 1 0)=some v/\JE v)(b: ∃v,aQ w.heap (AA 2 0)=some v/\JE v):Er w.heap:=⟨a,b⟩

end jk
end
def Cn:Tryz.checked.prog.closure 3=(([3,5,6,7,8,9,11,12,17,30,29,42,43,83,84,148,85,149,198,273,274,275,276,277,346,278,213,285,347,408,348,409,358,421,422,423,480,544,567,194]++([349,286,294,287,350,410,295,288,351,227,152,214,289,290,291,245,248,246,319,320,352,411,474,540,412,460,515,68,134,202,135,136,137,203,93,138,204,205,37,70]++([139,71,72,24,38,74,141,142,207,206,208,143,144,209,210,282,283,140,73,94,161,391,247,321,262,353,413,414,406,472,249,354,415,475,416,476,541,380,542,306]++([370,373,371,433,432,375,447,446,448,543,417,434,403,487,490,336,263,334,217,221,218,219,222,265,335,404,471,530,470,522,523,558,524,559,560,525,561,562,575,526]++([527,528,529,405,192,418,477,511,489,338,337,407,473,531,537,566,532,563,533,534,564,565,576,535,536,538,539,547,546,82,339,479,482,427,483,484,545,485,419,478]++([261,355,340,420,356,369,431,193,264,89,300,266,267,268,341,292,357,318,379,220,298,361,425,362,342,299,195,270,269,271,343,344,184,253,322,323,381,454,512,382]++([383,455,384,456,513,556,254,324,385,457,514,386,390,329,398,327,394,387,388,389,458,333,402,469,519,520,521,459,325,392,326,393,396,461,328,395,397,462,463,516]++([255,330,331,400,464,517,465,401,466,518,557,467,468,399,256,185,257,332,258,293,157,229,230,303,364,426,481,365,366,304,368,430,429,367,428,486,305,231,307,308]++([309,176,372,178,196,272,41,345,201,374,435,488,436,437,438,441,449,491,548,492,496,549,568,569,439,493,494,440,442,495,550,497,443,498,499,503,501,500,502,551]++([553,570,571,444,445,504,505,552,171,310,376,450,506,451,507,452,508,510,554,572,573,555,574,509,453,311,377,312,215,150,216,296,359,360,424,297,86,87,88,151]++([90,153,154,155,223,226,301,224,225,228,233,302,363,313,156,91,108,180,158,232,159,92,160,44,18,31,13,19,33,65,66,133,34,67,35,45,46,47,95,48]++([32,50,96,97,162,163,234,49,51,98,164,183,252,235,314,165,114,52,99,166,167,236,250,237,315,316,378,317,238,174,103,173,243,242,175,100,123,189,101,168]++([109,181,54,102,169,197,239,170,240,241,172,53,59,113,55,56,104,105,107,124,125,57,106,177,244,179,251,110,111,58,112,182,60,116,186,115,61,117,62,118]++([63,119,187,128,120,188,259,121,190,200,281,191,260,122,64,126,127,129,131,132,130,199,279,280,14,20,23,36,69,15,16,21,22,25,39,76,75,77,79,145]++([78,81,147,212,146,211,284,80,26,40,27,28]))))))))))))))):List Nat):=zzkr
def ET:([3,5,6,7,8,9,11,12,17,30,29,42,43,83,84,148,85,149,198,273,274,275,276,277,346,278,213,285,347,408,348,409,358,421,422,423,480,544,567,194]:List Nat).flatMap (λg=>((Tryz.checked.prog.funcs[g]?).bind (·.body)).elim [] Code.globalsNamed)= []:=zzkr
def EU:([349,286,294,287,350,410,295,288,351,227,152,214,289,290,291,245,248,246,319,320,352,411,474,540,412,460,515,68,134,202,135,136,137,203,93,138,204,205,37,70]:List Nat).flatMap (λg=>((Tryz.checked.prog.funcs[g]?).bind (·.body)).elim [] Code.globalsNamed)= [0,0,0,1]:=zzkr
def EV:([139,71,72,24,38,74,141,142,207,206,208,143,144,209,210,282,283,140,73,94,161,391,247,321,262,353,413,414,406,472,249,354,415,475,416,476,541,380,542,306]:List Nat).flatMap (λg=>((Tryz.checked.prog.funcs[g]?).bind (·.body)).elim [] Code.globalsNamed)= [2,5,6,7]:=zzkr
def EW:([370,373,371,433,432,375,447,446,448,543,417,434,403,487,490,336,263,334,217,221,218,219,222,265,335,404,471,530,470,522,523,558,524,559,560,525,561,562,575,526]:List Nat).flatMap (λg=>((Tryz.checked.prog.funcs[g]?).bind (·.body)).elim [] Code.globalsNamed)= []:=zzkr
def EY:([527,528,529,405,192,418,477,511,489,338,337,407,473,531,537,566,532,563,533,534,564,565,576,535,536,538,539,547,546,82,339,479,482,427,483,484,545,485,419,478]:List Nat).flatMap (λg=>((Tryz.checked.prog.funcs[g]?).bind (·.body)).elim [] Code.globalsNamed)= []:=zzkr
def EZ:([261,355,340,420,356,369,431,193,264,89,300,266,267,268,341,292,357,318,379,220,298,361,425,362,342,299,195,270,269,271,343,344,184,253,322,323,381,454,512,382]:List Nat).flatMap (λg=>((Tryz.checked.prog.funcs[g]?).bind (·.body)).elim [] Code.globalsNamed)= []:=zzkr
def E0:([383,455,384,456,513,556,254,324,385,457,514,386,390,329,398,327,394,387,388,389,458,333,402,469,519,520,521,459,325,392,326,393,396,461,328,395,397,462,463,516]:List Nat).flatMap (λg=>((Tryz.checked.prog.funcs[g]?).bind (·.body)).elim [] Code.globalsNamed)= [3,4]:=zzkr
def E3:([255,330,331,400,464,517,465,401,466,518,557,467,468,399,256,185,257,332,258,293,157,229,230,303,364,426,481,365,366,304,368,430,429,367,428,486,305,231,307,308]:List Nat).flatMap (λg=>((Tryz.checked.prog.funcs[g]?).bind (·.body)).elim [] Code.globalsNamed)= []:=zzkr
def E4:([309,176,372,178,196,272,41,345,201,374,435,488,436,437,438,441,449,491,548,492,496,549,568,569,439,493,494,440,442,495,550,497,443,498,499,503,501,500,502,551]:List Nat).flatMap (λg=>((Tryz.checked.prog.funcs[g]?).bind (·.body)).elim [] Code.globalsNamed)= []:=zzkr
def E5:([553,570,571,444,445,504,505,552,171,310,376,450,506,451,507,452,508,510,554,572,573,555,574,509,453,311,377,312,215,150,216,296,359,360,424,297,86,87,88,151]:List Nat).flatMap (λg=>((Tryz.checked.prog.funcs[g]?).bind (·.body)).elim [] Code.globalsNamed)= []:=zzkr
def Co:([90,153,154,155,223,226,301,224,225,228,233,302,363,313,156,91,108,180,158,232,159,92,160,44,18,31,13,19,33,65,66,133,34,67,35,45,46,47,95,48]:List Nat).flatMap (λg=>((Tryz.checked.prog.funcs[g]?).bind (·.body)).elim [] Code.globalsNamed)= [3,4]:=zzkr
def Cq:([32,50,96,97,162,163,234,49,51,98,164,183,252,235,314,165,114,52,99,166,167,236,250,237,315,316,378,317,238,174,103,173,243,242,175,100,123,189,101,168]:List Nat).flatMap (λg=>((Tryz.checked.prog.funcs[g]?).bind (·.body)).elim [] Code.globalsNamed)= []:=zzkr
def Cr:([109,181,54,102,169,197,239,170,240,241,172,53,59,113,55,56,104,105,107,124,125,57,106,177,244,179,251,110,111,58,112,182,60,116,186,115,61,117,62,118]:List Nat).flatMap (λg=>((Tryz.checked.prog.funcs[g]?).bind (·.body)).elim [] Code.globalsNamed)= []:=zzkr
def Cs:([63,119,187,128,120,188,259,121,190,200,281,191,260,122,64,126,127,129,131,132,130,199,279,280,14,20,23,36,69,15,16,21,22,25,39,76,75,77,79,145]:List Nat).flatMap (λg=>((Tryz.checked.prog.funcs[g]?).bind (·.body)).elim [] Code.globalsNamed)= []:=zzkr
def Cu:([78,81,147,212,146,211,284,80,26,40,27,28]:List Nat).flatMap (λg=>((Tryz.checked.prog.funcs[g]?).bind (·.body)).elim [] Code.globalsNamed)= []:=zzkr
def E6:(([3,5,6,7,8,9,11,12,17,30,29,42,43,83,84,148,85,149,198,273,274,275,276,277,346,278,213,285,347,408,348,409,358,421,422,423,480,544,567,194]++([349,286,294,287,350,410,295,288,351,227,152,214,289,290,291,245,248,246,319,320,352,411,474,540,412,460,515,68,134,202,135,136,137,203,93,138,204,205,37,70]++([139,71,72,24,38,74,141,142,207,206,208,143,144,209,210,282,283,140,73,94,161,391,247,321,262,353,413,414,406,472,249,354,415,475,416,476,541,380,542,306]++([370,373,371,433,432,375,447,446,448,543,417,434,403,487,490,336,263,334,217,221,218,219,222,265,335,404,471,530,470,522,523,558,524,559,560,525,561,562,575,526]++([527,528,529,405,192,418,477,511,489,338,337,407,473,531,537,566,532,563,533,534,564,565,576,535,536,538,539,547,546,82,339,479,482,427,483,484,545,485,419,478]++([261,355,340,420,356,369,431,193,264,89,300,266,267,268,341,292,357,318,379,220,298,361,425,362,342,299,195,270,269,271,343,344,184,253,322,323,381,454,512,382]++([383,455,384,456,513,556,254,324,385,457,514,386,390,329,398,327,394,387,388,389,458,333,402,469,519,520,521,459,325,392,326,393,396,461,328,395,397,462,463,516]++([255,330,331,400,464,517,465,401,466,518,557,467,468,399,256,185,257,332,258,293,157,229,230,303,364,426,481,365,366,304,368,430,429,367,428,486,305,231,307,308]++([309,176,372,178,196,272,41,345,201,374,435,488,436,437,438,441,449,491,548,492,496,549,568,569,439,493,494,440,442,495,550,497,443,498,499,503,501,500,502,551]++([553,570,571,444,445,504,505,552,171,310,376,450,506,451,507,452,508,510,554,572,573,555,574,509,453,311,377,312,215,150,216,296,359,360,424,297,86,87,88,151]++([90,153,154,155,223,226,301,224,225,228,233,302,363,313,156,91,108,180,158,232,159,92,160,44,18,31,13,19,33,65,66,133,34,67,35,45,46,47,95,48]++([32,50,96,97,162,163,234,49,51,98,164,183,252,235,314,165,114,52,99,166,167,236,250,237,315,316,378,317,238,174,103,173,243,242,175,100,123,189,101,168]++([109,181,54,102,169,197,239,170,240,241,172,53,59,113,55,56,104,105,107,124,125,57,106,177,244,179,251,110,111,58,112,182,60,116,186,115,61,117,62,118]++([63,119,187,128,120,188,259,121,190,200,281,191,260,122,64,126,127,129,131,132,130,199,279,280,14,20,23,36,69,15,16,21,22,25,39,76,75,77,79,145]++([78,81,147,212,146,211,284,80,26,40,27,28]))))))))))))))):List Nat).filterMap (λg=>(Tryz.checked.prog.funcs[g]?).bind λf=>if f.body.isNone then entryReads.lookup f.name else none)= ["internal/bytealg.MaxLen"]:=zzkr
def E7:((([]++([0,0,0,1]++([2,5,6,7]++([]++([]++([]++([3,4]++([]++([]++([]++([3,4]++([]++([]++([]++([]))))))))))))))):List Nat).eraseDups.filterMap (λg=>(Tryz.checked.prog.globals[g]?).map (·.name))++(["internal/bytealg.MaxLen"]:List String)).eraseDups=Rows.auditFirstRow.named:=zzkr
def v7:(Rows.auditFirstRow.named==Tryz.checked.prog.varsNamed 3)=true:=by
 rw[cU];unfold Program.varsNamed;rw[Cn];have a:(([3,5,6,7,8,9,11,12,17,30,29,42,43,83,84,148,85,149,198,273,274,275,276,277,346,278,213,285,347,408,348,409,358,421,422,423,480,544,567,194]++([349,286,294,287,350,410,295,288,351,227,152,214,289,290,291,245,248,246,319,320,352,411,474,540,412,460,515,68,134,202,135,136,137,203,93,138,204,205,37,70]++([139,71,72,24,38,74,141,142,207,206,208,143,144,209,210,282,283,140,73,94,161,391,247,321,262,353,413,414,406,472,249,354,415,475,416,476,541,380,542,306]++([370,373,371,433,432,375,447,446,448,543,417,434,403,487,490,336,263,334,217,221,218,219,222,265,335,404,471,530,470,522,523,558,524,559,560,525,561,562,575,526]++([527,528,529,405,192,418,477,511,489,338,337,407,473,531,537,566,532,563,533,534,564,565,576,535,536,538,539,547,546,82,339,479,482,427,483,484,545,485,419,478]++([261,355,340,420,356,369,431,193,264,89,300,266,267,268,341,292,357,318,379,220,298,361,425,362,342,299,195,270,269,271,343,344,184,253,322,323,381,454,512,382]++([383,455,384,456,513,556,254,324,385,457,514,386,390,329,398,327,394,387,388,389,458,333,402,469,519,520,521,459,325,392,326,393,396,461,328,395,397,462,463,516]++([255,330,331,400,464,517,465,401,466,518,557,467,468,399,256,185,257,332,258,293,157,229,230,303,364,426,481,365,366,304,368,430,429,367,428,486,305,231,307,308]++([309,176,372,178,196,272,41,345,201,374,435,488,436,437,438,441,449,491,548,492,496,549,568,569,439,493,494,440,442,495,550,497,443,498,499,503,501,500,502,551]++([553,570,571,444,445,504,505,552,171,310,376,450,506,451,507,452,508,510,554,572,573,555,574,509,453,311,377,312,215,150,216,296,359,360,424,297,86,87,88,151]++([90,153,154,155,223,226,301,224,225,228,233,302,363,313,156,91,108,180,158,232,159,92,160,44,18,31,13,19,33,65,66,133,34,67,35,45,46,47,95,48]++([32,50,96,97,162,163,234,49,51,98,164,183,252,235,314,165,114,52,99,166,167,236,250,237,315,316,378,317,238,174,103,173,243,242,175,100,123,189,101,168]++([109,181,54,102,169,197,239,170,240,241,172,53,59,113,55,56,104,105,107,124,125,57,106,177,244,179,251,110,111,58,112,182,60,116,186,115,61,117,62,118]++([63,119,187,128,120,188,259,121,190,200,281,191,260,122,64,126,127,129,131,132,130,199,279,280,14,20,23,36,69,15,16,21,22,25,39,76,75,77,79,145]++([78,81,147,212,146,211,284,80,26,40,27,28]))))))))))))))):List Nat).flatMap (λg=>((Tryz.checked.prog.funcs[g]?).bind (·.body)).elim [] Code.globalsNamed)=(([]++([0,0,0,1]++([2,5,6,7]++([]++([]++([]++([3,4]++([]++([]++([]++([3,4]++([]++([]++([]++([]))))))))))))))):List Nat):=by simp only[cC,ET,EU,EV,EW,EY,EZ,E0,E3,E4,E5,Co,Cq,Cr,Cs,Cu]
 exact((bY (λl:List Nat=>(l.eraseDups.filterMap (λg=>(Tryz.checked.prog.globals[g]?).map (·.name))++_).eraseDups) a).trans ((bY (λl:List String=>(_++l).eraseDups) E6).trans E7)).symm

end Go.Proofs.YticlajoleibdnaaGreatDoor
