/-
  IY is proved here: parts of AH proof, one behind AH other (texts of this work, merged by a program; KW AH theorem KX not use is left out). No condition.
-/
import Derived.Test.YticlajoleibdnaaGreatDoorMAustg
set_option linter.defProp false
set_option maxRecDepth 100000
set_option maxHeartbeats 4000000
namespace Go.Proofs.YticlajoleibdnaaGreatDoor
open Go.Den
open IntKind (wrap)
open Int (toNat)
section
namespace zK
open jk
open qM xH Im y7 Pp
open pg (SS GY Pt kL Q4 yG Ks)
open Bh (Ch)
open Go.Fields
open Bn (JX)
variable {h f H:Heap} {R:dH} {V:cO→Bool} {p q:bH} {c d C a w x y hh s b:Nat} {X:Ft} {I:GY} {D:cO}
variable {n:Nat}
abbrev jQ(D:cO):Ch:=⟨0,5,0,0,Bh.Rq.none,D⟩
abbrev Pq:Ch:=⟨0,6,0,0,Bh.Rq.none, []⟩
def Mg:Bh.kO V Pq=true:=by simp[Bh.kO,Bh.uQ,Bh.kU,Bh.re]
def VZ(e:Bh.kO V (jQ D)=true):Bn.jP V D=true:=by simpa[Bh.kO,Bh.uQ,Bh.kU,Bh.re]using e
def w6:cO:=([]++bU 0)++bU (gv 6)
def w5(D:cO):cO:=(([]++bU 0)++bU (gv 5))++dF D
def Mh:1<=w6.length/\w6.length<=1500:=by have A:=kz 9 0;have B:=kz 9 (gv 6);unfold w6 bU;simp only[ak,bZ];omega
def Mi(e:D.length<=1200):1<=(w5 D).length/\(w5 D).length<=1500:=by have A:=kz 9 0;have B:=kz 9 (gv 5);have c:=kz 9 D.length;unfold w5 dF bU;simp only[ak,bZ];omega
def Mj(z:Ch)(e:Bh.kO V z=false)(U:Cb.lU V H)(u:Fr No H h)(M:jk.Mx h)(r:Row h p (bc z.nO.wC))(i:Row h q (bc z.data))(cap:z.data.length<=d)(m: ∀g,Fr No h g->R (.T #[.Z,.I 3]) g):Cl 154 #[(z.s p c q d).agg] h R:=
 lB (ax.cE (x:=z.s p c q d) λB o E l F=>ax.dZ l (Bh.mP z U (u.tt F) (M.on F) (r.frame F bD) (i.frame F bD) cap λk j=>⟨_,rfl,cF (by rw[e];rfl) (m k (F.tt j))⟩))
def TV(U:Cb.lU V H)(e':Fr No H h)(mx:jk.Mx h)(hk: ∀g p c,Den.Own g p w6.length c 1 (bc w6)->Fr No h g->R (.T #[.L p w6.length c,.I 0]) g):Cl 154 #[(Pq.s none 0 none 0).agg] h R:=by refine lB (ax.cE (x:=Pq.s none 0 none 0) λr L e1 B F=>ax.dZ B (Bh.mP Pq U (e'.tt F) (mx.on F) .nil .nil (bf _) λi k=>⟨_,rfl,bo (by rw[Mg];rfl) ?_⟩));have j:=k.get B id;have bl:r<L.size:=aE B;have u1:=F.1;have u2:=k.1;refine⟨_,aj j,_,aj j,gD.ft λh3 w S3 v l G=>⟨_,rfl,l.kp,gD.fD 0 v bA rfl bA λM u z S=>⟨_,rfl,?_,?_⟩⟩⟩;refine S.fr.St λp t x e hx=> ?_;simp at t;subst t;cases e;have:i.size<=r:=G _ hx;omega;have u3:=l.1;have K: ∀y,u y->i.size<=y:=λy hy=>(S.new y hy).elim (G y) (λe=>ae);have m:Fr No i M:=l.fresh S.fr G;have u4:=m.1;refine gD.gY (n:=6) z bA bA λO S5 A d'=>⟨_,rfl,?_⟩;have o:Fr No i O:=m.fresh d'.fr K;have E:=o.get j id;refine⟨_,aj E,ay.of λf' Q=>ay.of λJ1 T=>bo (b:=((6:Int)==1)) rfl ?_⟩;subst T;refine ay.of λJ2 Z=>bo (b:=((6:Int)==2)) rfl (ay.of λJ3 a'=>bo (b:=((6:Int)==3)) rfl (ay.of λJ4 b'=>bo (b:=((6:Int)==4)) rfl (ay.of λJ5 c'=>bo (b:=((6:Int)==5)) rfl ?_)));subst c' b' a' Z Q;refine gD.gJ A (by have:=Mh.2;unfold w6 at this;omega) λp c P o7 J g7=>⟨_,_,_,rfl,?_⟩;exact hk P p c o7 (((F.tt k).tt o).tt J)
def TW(ri:Bh.kO V (jQ D)=true)(hd:D.length<=1200)(U:Cb.lU V H)(g':Fr No H h)(mx:jk.Mx h)(E:Row h q (bc D))(cap:D.length<=d)(hq: ∀y,aN q y->y<h.size)(hk: ∀g p c,Den.Own g p (w5 D).length c 1 (bc (w5 D))->Fr No h g->R (.T #[.slice p (w5 D).length c,.I 0]) g):Cl 154 #[((jQ D).s none 0 q d).agg] h R:=by
 refine lB (ax.cE (x:=(jQ D).s none 0 q d) λt h1 e1 B F=>ax.dZ B (Bh.mP (jQ D) U (g'.tt F) (mx.on F) .nil (E.frame F bD) cap λi k=>⟨_,rfl,bo (by rw[ri];rfl) ?_⟩));have m:=k.get B id;have bl:t<h1.size:=aE B;have u1:=F.1;have u2:=k.1;refine⟨_,aj m,_,aj m,gD.ft λh3 w S3 P o G=>⟨_,rfl,o.kp,gD.fD 0 P bA rfl bA λh4 M Q S=>⟨_,rfl,?_,?_⟩⟩⟩;refine S.fr.St λp A x e hx=> ?_;simp at A;subst A;cases e;have:i.size<=t:=G _ hx;omega;have u3:=o.1;have v: ∀y,M y->i.size<=y:=λy j=>(S.new y j).elim (G y) (λe=>ae);have r:Fr No i h4:=o.fresh S.fr G;have u4:=r.1;refine gD.gY (n:=5) Q bA bA λh5 O T J=>⟨_,rfl,?_⟩;have l:Fr No i h5:=r.fresh J.fr v;have z: ∀y,O y->i.size<=y:=λy j=>(J.new y j).elim (v y) (λe=>ae);have u:=l.get m id;refine⟨_,aj u,ay.of λh' hJ=>ay.of λJ1 a'=>bo (b:=((5:Int)==1)) rfl ?_⟩;subst a';refine ay.of λJ2 b'=>bo (b:=((5:Int)==2)) rfl (ay.of λJ3 c'=>bo (b:=((5:Int)==3)) rfl (ay.of λJ4 d'=>bo (b:=((5:Int)==4)) rfl (ay.of λJ5 e'=>cF (b:=((5:Int)==5)) rfl ?_)));have K:=(Mi hd).2;refine⟨_,_,_,aj u,gD.mF T (by have:=kz 9 0;have:=kz 9 (gv 5);unfold bU;simp only[ak,bZ];omega) ((E.frame (F.tt k) bD).frame l bD) rfl ae (λy j e=>iI (hq y j) (z y e)) λh6 S6 Z f'=>⟨_,rfl,?_⟩⟩;subst e' d' c' b' hJ;have L:Fr No i h6:=l.fresh f'.fr z;refine gD.gJ Z (by unfold w5 at K;exact cw K bA) λp c h7 o7 f7 g7=>⟨_,_,_,rfl,?_⟩;exact hk h7 p c o7 (((F.tt k).tt L).tt f7)
def DL{r:Nat}(B:pg.Bk h s I n r)(e:R (.B true) h):Cl 229 #[pt s] h R:=by refine Ax ?_;repeat (first|exact e|refine⟨_,aj B,?_⟩|rw[ah rfl])
def Xo:pg.Good (kL e7) 0:=pg.Good.new KL.1 KL.2 bA
def Nv(z:Ch)(hz:z.now=0)(P:Pt h s X I (kL e7))(ri:Bh.kO V z=true)(U:Cb.lU V H)(f':Fr No H h)(mx:jk.Mx h)(rx:Row h p (bc z.nO.wC))(O:Row h q (bc z.data))(cap:z.data.length<=d)(hh: ∀g b j (Q:dH),Fr X.M h g->Pt g s j I (kL e7)->ag.ff g b ag.S.z->(∀G,Fr (λy=>j.M y\/y=b) g G->Q (.I 4) G)->Cl 231 #[pt s,(z.s p c q d).agg,.P b 0] g Q)(hk: ∀g,Fr X.M h g->R (.T #[r4.agg,.I 0]) g):Cl 157 #[pt s,(z.s p c q d).agg] h R:=by
 refine yP (ax.cE (x:=z.s p c q d) λK h1 eb m i=>ag.cE (x:=ag.S.z) λB h2 g' J F=>DL (P.on (i.tt F)).cV ⟨_,rfl,bo rfl (ax.dZ (F.get m id) (Bh.mP z U (f'.tt (i.tt F)) (mx.on (i.tt F)) (rx.frame (i.tt F) bD) (O.frame (i.tt F) bD) cap λh3 k=>⟨_,rfl,bo (by rw[ri];rfl) ⟨_,aj (k.get (F.get m id) id),?_⟩⟩))⟩);have r:=(i.tt F).tt k;have u1:=i.1;have u2:=F.1;have u3:=k.1;have lb:=aE m;have i':=aE J;have o: ∀y,h.size<=y->¬X.M y:=λy hy e=>by have:=P.lt y (.inl e);omega
 refine pg.yE 0 (by show(z.now:Int)=_;rw[hz]) (P.on r) Xo bA λh4 j u S=>⟨_,rfl,bo bA ?_⟩;rw[show Ks (kL e7) 0=kL e7 from rfl]at u;have u4:=S.fr.1;have d':=S.fr.get (k.get (F.get m id) id) (o K ae);have a':=S.fr.get (k.get J id) (o B ae);refine ag.cE (x:=ag.S.z) λL E h' c' l=>ax.dZ (l.get d' id) ?_;have u5:=l.1;have t:Fr X.M h E:=(r.no S.fr).on l;refine hh E L j _ t (u.on l) c' λh6 v=>⟨_,rfl,cF rfl (WD.Nn 0 rfl 4 λh7 A=>ag.ex r4 ⟨rfl,?_⟩)⟩;have e': ¬j.M B:=λe=>by rcases S.nT B e with q|q;exact o B ae q;omega
 have b':=A.get (v.get (l.get a' id) (λe=>e.elim e' (λe=>ae))) id;refine ag.fB (x:=r4) b' λZ M T _=>ag.dZ M (hk Z ?_);exact((t.trans v bD (λy yl e=>e.elim (λe=>(S.nT y e).resolve_right ae) (λe=>ae))).on A).nw T λy e=>by have:y=B:=e;omega
def R5(P:Pt h s X I (kL e7))(E: ∀g,Fr No h g->R (.T #[.agg #[.I 0,.I 0,.Z,.U 0],.I 4]) g):Cl 311 #[pt s] h R:=by refine sD (aR.box λB Q M l F=> ?_);have i:=P.on F;refine pg.fJ i.cV ⟨_,rfl,bo rfl ?_⟩;obtain⟨Z,G,zm,zd,go⟩:=i.use 3;have U:=aE l;refine⟨_,aj i.cV,nz.Tl G bA (λhit S K j=>⟨_,_,_,_,_,_,_,rfl,aR.new λL T O z k=>ay.of λJ v=> ?_⟩) (λx r hit=>by cases hit)⟩;rw[fe];subst v;have A:=(j.tt k).get l id;exact aR.ld z (aR.set A λu m o t=>aR.ld m (E u ((F.tt (j.tt k)).fresh (Fr.of_eq (S:=λy=>y=B) o t) (λy e=>ae))))
def TX(P:Pt h s X I (kL e7))(i:ag.ff h b ag.S.z)(O: ∀g,Fr (λy=>X.M y\/y=b) h g->R (.I 4) g):Cl 231 #[pt s,(Pq.s none 0 none 0).agg,.P b 0] h R:=by
 refine nJ (ax.cE (x:=Pq.s none 0 none 0) λa' h1 eb M F=>⟨_,aj M,ay.of λJ u=>ay.of λT v=>bo (b:=((6:Int)==1)) rfl (ay.of λU A=>bo (b:=((6:Int)==2)) rfl (ay.of λJ3 E=>bo (b:=((6:Int)==3)) rfl (ay.of λJ4 G=>bo (b:=((6:Int)==4)) rfl (ay.of λJ5 K=>bo (b:=((6:Int)==5)) rfl (ay.of λJ6 L=>cF (b:=((6:Int)==6)) rfl ?_)))))⟩);subst L K G E A v u;refine R5 (P.on F) λh2 k=>⟨_,_,_,_,_,_,_,rfl,aR.new λB h3 b' l r=>⟨_,aj l,_,_,_,aj l,?_⟩⟩;have j:=(F.tt k).tt r;have zo:=aE i;have u1:=F.1;have u2:=k.1;refine aY (j.get i id) (by show 2<6;omega) λh4 o z Q=>⟨?_,aY o (by show 5<6;omega) λt b5 Z S=>O t ?_⟩;exact(Fr.of_eq (S:=λy=>y=b) z Q).St λp m y e i=>by rw[bT]at m;subst m;cases e;have:B=b:=i;omega
 exact(j.no ((Fr.of_eq (S:=λy=>y=b) z Q).tt (Fr.of_eq Z S))).mono λy _ e=> .inr e
abbrev YZ(B:JX)(q:bH)(C s:Nat)(p:bH)(n c:Nat):cJ.S:=⟨B.p.fl,B.p.sum,B.p.dest.lS,B.p.dest.node,B.p.dest.iA,B.p.dest.host,B.p.dest.kj,B.p.rep.lS,B.p.rep.node,B.p.rep.iA,B.p.rep.host,B.p.rep.kj,B.p.id.e.lS,B.p.id.e.node,B.p.id.e.iA,B.p.id.e.host,B.p.id.e.kj,B.p.id.tm,B.p.id.sq,B.p.kG,q,B.bl.length,C,some ⟨s,0,none⟩,p,n,c⟩
def Xp{B:JX}(P:Pt h s X I (kL e7))(S: ∀g,Fr No h g->R (.I 4) g):Cl 376 #[(YZ B q C s p n c).agg,.P b 0] h R:=by
 refine qk (cJ.cE (x:=YZ B q C s p n c) λT L U u t=>ay.of λJ Q=> ?_);have o:=P.on t;have K: ∀(g:Heap)(r:Nat),Fr No L g->J (Sa r 0) (nB.wA (kL e7).G B.p.dest).isSome g:=by intro g r G;subst Q;exact cF rfl (S g (t.tt G))
 obtain⟨Z,v,_⟩:=o.use 1;refine⟨_,aj u,av.2 ⟨_,aj o.cV,Bn.oh B.p.dest u rfl rfl rfl rfl rfl ⟨?_,?_,trivial⟩⟩⟩;exact nB.CG v B.p.dest λM F=>⟨_,_,_,_,_,_,_,_,rfl,F.kp,bX.box λj O E m i=>⟨i.kp,bX.set m λl z A k=>K l j ((F.tt i).fresh (Fr.of_eq (S:=λy=>y=j) A k) (λy e=>cv F.1))⟩⟩;refine bX.box λj O E m i=>⟨i.kp,nB.CG (nB.Tb.on v i) B.p.dest λM F=>⟨_,_,_,_,_,_,_,_,rfl,F.kp,bX.set (F.get m _root_.id) λl z A k=>K l j ((i.tt F).fresh (Fr.of_eq (S:=λy=>y=j) A k) (λy e=>ae))⟩⟩
def Ml(e:Bn.jP V D=true): ∃B,Bn.BQ V D=.ok B:=by
 unfold Bn.jP at e;cases g:Bn.BQ V D with
 |ok B=>exact⟨B,rfl⟩
 |error x=>rw[g]at e;cases e
def TY(P:Pt h s X I (kL e7))(e:Bn.jP V D=true)(U:Cb.lU V H)(u:Fr No H h)(M:jk.Mx h)(L:Row h q (bc D))(cap:D.length<=d)(K: ∀g,Fr X.M h g->R (.I 4) g):Cl 310 #[pt s,.L q D.length d,.P b 0] h R:=by obtain⟨b0,z⟩:=Ml e;refine xz (Bn.IF U u M L rfl cap (λr hb w hd hl h1 Q C xs B F=>az.ex (r.s Q C) ⟨_,rfl,az.fX λb2 h2 a' E j=>ay.of λJ t=> ?_⟩) (λe l=>by rw[z]at l;cases l));refine cF rfl (az.dZ E (Xp (P.on (F.tt j)) λh3 k=>⟨_,rfl,?_⟩));subst t;have i:=(P.on (F.tt j)).on k;refine ay.of λT v=>cF rfl ⟨_,aj i.cV,?_⟩;subst v;rw[show IntKind.wrap .i64 (((kL e7).rf:Int)+1)=((1:Nat):Int)from zzkr];refine aY i.cV bO λG A m o=> ?_;obtain⟨Z,O,S⟩:=i.put A m o;exact K G (((F.tt j).tt k).no S.fr)
def TZ(P:Pt h s X I (kL e7))(e:Bn.jP V D=true)(U:Cb.lU V H)(u:Fr No H h)(M:jk.Mx h)(z:Row h q (bc D))(cap:D.length<=d)(v: ∀g,Fr (λy=>X.M y\/y=b) h g->R (.I 4) g):Cl 231 #[pt s,((jQ D).s none 0 q d).agg,.P b 0] h R:=by refine nJ (ax.cE (x:=(jQ D).s none 0 q d) λL Q O i F=>⟨_,aj i,ay.of λJ k=>ay.of λA l=>bo (b:=((5:Int)==1)) rfl (ay.of λB m=>bo (b:=((5:Int)==2)) rfl (ay.of λE o=>bo (b:=((5:Int)==3)) rfl (ay.of λG r=>bo (b:=((5:Int)==4)) rfl (ay.of λK t=>cF (b:=((5:Int)==5)) rfl ?_))))⟩);subst t r o m l k;exact⟨_,_,_,aj i,TY (P.on F) e U (u.tt F) (M.on F) (z.frame F bD) cap λg j=>⟨_,rfl,v g ((F.no j).mono λy _ e=> .inl e)⟩⟩
def Fd.wr(e:Fd h a d w x y hh X)(F:Fr X.M h f):f[w]? =some (.C #[pt x,pt y,.B true,.U 7,.U 0,.string ⟨#[]⟩,.string ⟨#[]⟩,pt hh,.I 0,.Z] 94 (0,0))/\Sk f hh:=
 ⟨F.get e.w λq=>e.sw (.inl q),F.get e.hh λq=>e.sh (.inl q)⟩
def T0:KN (str [116,97,107,101]):=λh R a d w x y hh X d' ns bs m B i z0 lt V ln lb hk=>by
 obtain⟨V0,H,U,c',hn⟩:=i.ux;refine dv (a:=d') (bk.cE λl' h1 eb hb o=>⟨_,aj hb,?_⟩);rw[V.v];simp only[eqs];have E:=i.on o;refine bo rfl (bo rfl (bo rfl (bo rfl (bo rfl (bo rfl (bo rfl (bo rfl (cF rfl ⟨_,aj E.d,sL (ag.cE (x:=ag.S.z) λb1 h2 m' a' t=>gm (E.on t) ⟨_,rfl,?_⟩)⟩))))))));have A:=o.tt t;have J:=E.on t;obtain⟨lg,mm,q,X0,T,bq,k',L,nx,nm,nq,eX⟩:=id J.db;refine qj (ao.cE (x:=ao.S.z) λb3 h3 n' b' l=>eZ ⟨_,aj (l.get T id),_,rfl,bo rfl ⟨_,aj (l.get T id),?_⟩⟩);have M:=A.tt l;have H3:=J.on l;have z1:=A.1;have z3:=l.1;have o':=aE a';have p':=aE b';have r: ∀z,X.M z->a<=z:=λz q=>i.gX z (.inl q);have lX: ∀z,X.M z->z<h.size:=λz q=>i.db.lt z (.inl q);have uX: ∀g,Fr X.M h3 g->Fr No H g:=λg F=>(c'.tt M).fresh F λz q=>cw hn (r z q);have S: ∀g,Fr X.M h3 g->Bs g:=λg F=>B g ((no M).tt (F.mono λz _ q=>r z q));have fF: ∀{g G},Fr No g G->Fr X.M g G:=λF=>F.mono λ_ _ q=>q.elim;refine KP (ev:=Pq.s none 0 none 0) (bs:=w6) H3 rfl bA (λg Q F k=>TV U (uX g (fF F)) (S g (fF F)).mx k) (λg Q s XS I F P q' k=>Nv Pq rfl P Mg U (uX g F) (S g F).mx .nil .nil (bf _) (λg2 b X4 Q2 t P2 hy k2=>TX P2 hy k2) k) Mh.1 Mh.2 λg F=>ao.ex (IN (Pq.s none 0 none 0) r4 1) ⟨_,rfl,?_⟩;refine ao.fB (F.get b' λq=>cv (lX _ q)) λu d1 i' _=>ao.dZ d1 (ao.ex (IN (Pq.s none 0 none 0) r4 1) ⟨_,rfl,?_⟩);have v:Fr X.M h2 u:=(l.no F).nw i' λz e=>by have:z=b3:=e;omega
 obtain⟨W1,S1⟩:=J.wr v;have K:Fr X.M h u:=A.no v;have j': ∀G,Fr No u G->Fr No H G:=λG j=>(c'.fresh K λz q=>cw hn (r z q)).tt j;have e': ∀G,Fr No u G->Bs G:=λG j=>B G ((K.mono λz _ q=>r z q).on j);refine Fs (ev:=Pq.s none 0 none 0) (ds:= []) W1 S1 bA (λG Q j k=>Bh.mP Pq U (j' G j) (e' G j).mx .nil .nil (bf _) λh' f'=>by rw[Mg];exact k h' f') rfl rfl .nil rfl bA λg2 Z=>ag.ex r4 ⟨_,rfl,?_⟩;refine ag.fB (x:=r4) (Z.get (v.get a' λq=>iI (lX _ q) o.1) λe=>iI (aE i.hh) o.1) λg3 d3 g' _=>ag.dZ d3 (ag.ex r4 ⟨_,rfl,?_⟩);have O:Fr (λz=>a<=z) h g3:=((K.mono λz _ q=>r z q).tt (Z.mono λz _ e=>by rw[e];exact i.gh)).nw g' λz e=>by have:z=b1:=e;have:=o.1;omega
 exact vC (r:=4) (e:=0) (B g3 O) ⟨bA,bA⟩ ⟨bA,bA⟩ λg s F=>⟨_,rfl,hk g s (O.tt (no F))⟩
def R6{bs:cO}(Z:Fd h a d w x y hh X)(U:Cb.lU V H)(uX: ∀g,Fr X.M h g->Fr No H g)(mX: ∀g,Fr X.M h g->jk.Mx g)(l':Row h p (bc bs))(cap:bs.length<=c)(k1: ∀g o q c',Bh.kO V (jQ o)=true->o.length<=600->Row g q (bc o)->o.length<=c'->(∀y,aN q y->h.size<=y)->Fr X.M h g->R (.T #[(IN ((jQ o).s none 0 q c') r4 1).agg,.I 0]) g)(k2: ∀g,Fr No h g->R (.T #[ao.S.z.agg,.I 3]) g):Cl 116 #[.P x 0,.L p bs.length c] h R:=by
 obtain⟨lg,mm,q0,X0,bx,bq,n',L,nx,nm,nq,eX⟩:=id Z.db;have nX: ∀b',h.size<=b'->¬X.M b':=λb' hz q=>by have:=Z.db.lt b' (.inl q);omega
 have i: ∀{g g':Heap},Fr No g g'->Fr X.M g g':=λF=>F.mono λ_ _ q=>q.elim;refine oj (ao.cE (x:=ao.S.z) λB h3 o' e' m=>eZ ⟨_,aj (m.get bx id),_,rfl,bo rfl ?_⟩);have z3:=m.1;have q':=aE e';have i': ∀g,Fr No h3 g->(ao.cR g (AA B 0) ao.S.z λG=>ao.ck G (AA B 0) λr0=>R (.T #[r0.agg,.I 3]) G):=λg F=>ao.fB (F.get e' id) λG M E _=>ao.dZ M (k2 G ((m.tt F).fresh E λy e=>by have:y=B:=e;omega));refine Bn.IF U (uX _ (i m)) (mX _ (i m)) (l'.frame m bD) rfl cap (λb4 p' wf hd hl h4 q4 C xs B4 v=>az.ex (b4.s q4 C) ⟨_,rfl,az.fX (x:=b4.s q4 C) λb5 h5 k' f' r=>az.dZ f' ?_⟩) (λe he j' h4 v=>az.ex .z ⟨_,rfl,az.fX (x:=.z) λb5 h5 k' f' r=>az.dZ f' ?_⟩)
 rotate_left
 .have t:=(m.tt v).tt r;refine Bn.CJ (b:=⟨.zero, []⟩) (q:=none) (cl:=0) (xs:= []) (D:=λ_=>True) ⟨bA,bA,bA⟩ U (uX _ (i t)) (mX _ (i t)) ⟨rfl,rfl,.nil,λe=>absurd rfl e,bf _,λx hx=>by cases hx⟩ bA (λy j=>by cases j) (λo ho lo l A K o6 n6 z=>⟨_,_,_,_,rfl,ay.of λd' J=>cF (dQ j') ?_⟩) (λho l z=>⟨_,_,_,_,rfl,ay.of λd' J=>cF (dQ j') ?_⟩);all_goals (subst J;exact cF rfl (i' l ((v.tt r).tt z)))
 have t:=(m.tt v).tt r;refine Bn.CJ wf U (uX _ (i t)) (mX _ (i t)) (B4.on r) ae (λy j=>cv (hd y j)) (λo ho lo l A K o6 n6 z=>⟨_,_,_,_,rfl,ay.of λd' J=>bo rfl ?_⟩) (λho l z=>⟨_,_,_,_,rfl,ay.of λd' J=>bo rfl ?_⟩)
 rotate_left
 subst J;exact cF rfl (i' l ((v.tt r).tt z));subst J;have u:=t.tt z;have h':=((v.tt r).tt z).get e' id;refine bo rfl ⟨_,aj (u.get bx id),?_⟩;have q6: ∀y,aN A y->h.size<=y/\y<l.size:=λy j=>⟨iI (n6 y j) t.1,o6.dW j⟩;have T: ∀g,Fr X.M l g->Row g A (bc o):=λg F=>o6.iy.frame F λa' e q=>nX _ (q6 _ ⟨a',e,rfl⟩).1 q;have O:=o6.le;have u6: ∀g,Fr X.M l g->Fr No H g:=λg F=>uX g (u.no F);have m6: ∀g,Fr X.M l g->jk.Mx g:=λg F=>mX g (u.no F);cases S:Bh.kO V (jQ o)with
 |false=>exact Mf (ev:=(jQ o).s none 0 A K) (Z.on u) (λg Q F k=>Mj (jQ o) S U (u6 g (i F)) (m6 g (i F)) .nil (T g (i F)) O k) λg F=>ao.ex .z ⟨_,rfl,ao.fB (F.get h' id) λG M E _=>ao.dZ M (k2 G ((u.tt F).fresh E λy e=>by have:y=B:=e;omega))⟩
 |true=>
  refine KP (ev:=(jQ o).s none 0 A K) (bs:=w5 o) (Z.on u) rfl (show(5:Int)≠8 by decide) (λg Q F k=>TW S ae U (u6 g (i F)) (m6 g (i F)) (T g (i F)) O (λy j=>iI ((q6 y j).2) F.1) k)
   (λg Q s XS I F P m' k=>Nv (jQ o) rfl P S U (u6 g F) (m6 g F) .nil (T g F) O (λg2 b X4 Q2 f2 P2 j k2=>
    have F2:=F.trans f2 bD (λy _ e=>m' y e)
    TZ P2 (VZ S) U (u6 g2 F2) (m6 g2 F2) (T g2 F2) O k2) k)
   (Mi ae).1 (Mi ae).2 λg F=>ao.ex (IN ((jQ o).s none 0 A K) r4 1) ⟨_,rfl,ao.fB (F.get h' (nX _ ae)) λG M E _=>ao.dZ M ?_⟩
  exact k1 G o A K S lo ((T g F).frame E λa' e q=>by have:a'.block=B:=q;have:=n6 _ ⟨a',e,rfl⟩;have:=(v.tt r).1;omega) O (λy j=>(q6 y j).1) ((u.no F).nw E λy e=>by have:y=B:=e;omega)
def Ph:KN (str [97,114,114,105,118,101]):=λh R a d w x y hh X c' ns bs m B j z0 lt V ln lb hk=>by
 obtain⟨V0,H,U,f',hn⟩:=j.ux;refine dv (a:=c') (bk.cE λh' h1 eb hb l=>⟨_,aj hb,?_⟩);rw[V.v];simp only[eqs];have r:=j.on l;refine bo rfl (bo rfl (bo rfl (bo rfl (bo rfl (bo rfl (bo rfl (cF rfl ⟨_,aj r.d,_,_,_,aj hb,qi (ag.cE (x:=ag.S.z) λP h2 i' K A=>gm (r.on A) ⟨_,rfl,?_⟩)⟩)))))));have i:=l.tt A;have L:=r.on A;have z1:=i.1;have j':=aE K;have J: ∀z,X.M z->a<=z:=λz q=>j.gX z (.inl q);have lX: ∀z,X.M z->z<h.size:=λz q=>j.db.lt z (.inl q);have uX: ∀g,Fr X.M h g->Fr No H g:=λg F=>f'.fresh F λz q=>cw hn (J z q);have S: ∀g,Fr X.M h g->Bs g:=λg F=>B g (F.mono λz _ q=>J z q);have M:=V.frame i;rw[V.bl];have lh:=aE j.hh;refine R6 L U (λg F=>uX g (i.no F)) (λg F=>(S g (i.no F)).mx) M.b M.O3 (λg O q T ri lo b' le nb F=>ao.ex (IN ((jQ O).s none 0 q T) r4 1) ⟨_,rfl,?_⟩) (λg F=>ao.ex .z ⟨_,rfl,KQ bA λg1 Z=>ag.ex .z ⟨_,rfl,?_⟩⟩);obtain⟨W1,S1⟩:=L.wr F;have t:Fr X.M h g:=i.no F;have lr: ∀y,aN q y->y≠hh:=λy hy e=>by have:=nb y hy;omega
 refine Fs (ev:=(jQ O).s none 0 q T) (ds:=O) W1 S1 (show(5:Int)≠4 by decide) (λg' Q v k=>Bh.mP (jQ O) U (uX g' (t.on v)) (S g' (t.on v)).mx .nil (b'.frame v bD) le λe' d'=>by rw[ri];exact k e' d') rfl rfl b' rfl ae λg2 a'=>ag.ex r4 ⟨_,rfl,?_⟩;refine ag.fB (x:=r4) (a'.get (F.get K λq=>iI (lX _ q) l.1) λe=>cv l.1) λo u E _=>ag.dZ u (ag.ex r4 ⟨_,rfl,?_⟩);have G:Fr (λz=>a<=z) h o:=((t.mono λz _ q=>J z q).tt (a'.mono λz _ e=>by rw[e];exact j.gh)).nw E λz e=>by have:z=P:=e;have:=l.1;omega
 exact vC (r:=4) (e:=0) (B o G) ⟨bA,bA⟩ ⟨bA,bA⟩ λg s F=>⟨_,rfl,hk g s (G.tt (no F))⟩;refine ag.fB (x:=.z) (Z.get (F.get K id) id) λo u E _=>ag.dZ u (ag.ex .z ⟨_,rfl,?_⟩);have G:Fr (λz=>a<=z) h o:=(no ((i.tt F).tt Z)).nw E λz e=>by have:z=P:=e;have:=l.1;omega
 exact vC (r:=0) (e:=3) (B o G) ⟨bA,bA⟩ ⟨bA,bA⟩ λg s F=>⟨_,rfl,hk g s (G.tt (no F))⟩

end zK
end
section
namespace zK
open jk
variable {h:Heap} {R:dH} {s:ByteArray} {p q:bH} {l c b:Nat} {es:List (ByteArray × ByteArray)}
variable {n:Nat}
abbrev IP:bC:=⟨#[99,111,110,110,101,99,116]⟩
abbrev KR:bC:=⟨#[116,105,99,107,32,53]⟩
abbrev Mn:bC:=⟨#[110,111,119]⟩
abbrev KS:bC:=⟨#[119,104,97,116]⟩
abbrev R7:bC:=⟨#[114,117,110,32,49,32,55]⟩
def Nw:O8 IP:=vE bA λ_=>by rw[show ga IP 0=str [99,111,110,110,101,99,116]from zzkr];exact Fm
def R8:O8 KR:=vE bA λ_=>by rw[show ga KR 0=str [116,105,99,107]from zzkr];exact Nt
def Nx:O8 Mn:=vE bA λ_=>by rw[show ga Mn 0=str [110,111,119]from zzkr];exact RP
def R9:O8 KS:=vE bA λq=>by rw[show A4 KS=false from zzkr]at q;cases q
def T4:O8 R7:=vE bA λ_=>by rw[show ga R7 0=str [114,117,110]from zzkr];exact RR
def Sb(r:Row h p (es.flatMap Fl))(E:l=es.length)(m: ∀b:Bool,(b=false->es.length<=40/\∀x∈es,x.1.size<=4200/\x.2.size<=3000)->R (.B b) h):Cl 5 #[.L p l c] h R:=by
 subst E;refine zX ⟨λall i g=> ∃k:Nat,i=(k:Int)/\k<=es.length/\g=h/\(0<k->es.length<=40)/\∀j (H:j<es.length),j<k->es[j].1.size<=4200/\es[j].2.size<=3000,λ_ i _=>es.length - i.toNat,⟨0,rfl,bg _,rfl,λq=>absurd q bA,λj _ q=>absurd q (Nat.not_lt_zero _)⟩,?_⟩;rintro all _ g ⟨k,rfl,P,z,w,o⟩;subst z;by_cases d:k<es.length;obtain⟨a,rfl⟩:=r.some (IM d);obtain⟨G,I⟩:=IL r d;refine cF (aq ae) (ay.of λJ f=> ?_);have y:J true g:=by subst f;exact cF rfl (m true λq=>by cases q)
 have B:(0:Int)<=(k:Int)/\(k:Int)<((es.length:Nat):Int):=ae;have C:aQ g (a.add (Int.toNat (k:Int)*2))=some (.S es[k].1):=by rw[aG];exact G
 have u:aQ g ((a.add (Int.toNat (k:Int)*2)).add 1)=some (.S es[k].2):=by rw[aG];exact I
 by_cases K:es.length>40;exact cF (aq ae) y;refine bo (aA ae) ⟨B,av.2 ⟨_,C,?_⟩⟩;have L:es[k].1.size<=4200->((0:Int)<=(k:Int)/\(k:Int)<((es.length:Nat):Int))/\aJ (some a) λA=> ∃t,aQ g ((A.add (Int.toNat (k:Int)*2)).add 1)=some (.S t)/\J (decide (((t.size:Nat):Int)>3000)) g:=λD=>by refine⟨B,av.2 ⟨_,u,?_⟩⟩;by_cases v:es[k].2.size>3000;rw[aq ae];exact y;rw[aA ae];subst f;refine bo rfl ⟨B,av.2 ⟨_,C,⟨k+1,by rw[eY];rfl,d,rfl,λ_=>ae,λj H O=> ?_⟩,?_⟩⟩;by_cases e:j=k;subst e;exact⟨D,ae⟩;exact o j H ae;show es.length - Int.toNat (IntKind.wrap .i64 ((k:Int)+1))<es.length - Int.toNat (k:Int);rw[eY];omega
 by_cases M:es[k].1.size>1000;refine cF (aq ae) ⟨B,av.2 ⟨_,C,?_⟩⟩;by_cases D:es[k].1.size<=4096;exact cF (aq ae) y;refine bo (aA ae) ⟨B,av.2 ⟨_,C,?_⟩⟩;by_cases v:es[k].1.size>4200;exact cF (aq ae) y;exact bo (aA ae) (L ae);exact bo (aA ae) ⟨B,av.2 ⟨_,C,bo (aA ae) (L ae)⟩⟩;refine bo (aA ae) (m _ λ_=>⟨?_,λx F=> ?_⟩);by_cases e:es.length=0;omega;exact w ae;obtain⟨j,H,rfl⟩:=List.getElem_of_mem F;exact o j H ae
abbrev tA:bC:=⟨#[111,107,32,49]⟩
abbrev tB:bC:=⟨#[111,107]⟩
abbrev tC:bC:=⟨#[111,107,32,53]⟩
abbrev tD:bC:=⟨#[98,97,100]⟩
abbrev tE:bC:=⟨#[111,107,32,51,32,52,32,49,32,48,32,48,32,45]⟩
def j4:fR CA [(IP,tA),(KR,tB),(KS,tD),(Mn,tC),(R7,tE)]=4:=zzkr
def j1:fR CA [(IP,tA),(IP,tA)]=1:=zzkr
def j0:fR CA [(Mn,tC)]=0:=zzkr
def T7{x:bC×bC}(H:x∈ [(IP,tA),(KR,tB),(KS,tD),(Mn,tC),(R7,tE)]):O8 x.1/\x.1.size<=10000/\x.2.size<=10000:=by simp only[bG,dU,or_false]at H;rcases H with rfl|rfl|rfl|rfl|rfl;exact⟨Nw,bA,bA⟩;exact⟨R8,bA,bA⟩;exact⟨R9,bA,bA⟩;exact⟨Nx,bA,bA⟩;exact⟨T4,bA,bA⟩
def AF{es:List (bC×bC)}{C:Array Value}{Q:dH}(B:Bs h)(H:C=(es.flatMap Fl).toArray)(e:n=es.length)(d:es.length<=1000)(L: ∀x∈es,O8 x.1/\x.1.size<=10000/\x.2.size<=10000)(a: ∀g,Fr No h g->Q (.I (fR CA es:Int)) g):aT h (.C C 32) λb g=>Cl 7 #[.L (Sa b 0) n n] g Q:=by
 subst H;refine bn (vD (B.on (Fr.push _ _)) L gW e d λg f=>a g ((Fr.push _ _).tt f))
def KT(B:Bs h)(J: ∀g,Fr No h g->R (.B true) g):Cl 6 #[] h R:=by refine zY (mQ λK Z Q u z=>mQ λL I S v r=>mQ λM G T w j=>mQ λO g4 U y e=>mQ λP g5 V C a=> ?_);have o:=a.get y id;have i:=a.get (e.get w id) id;have m:=a.get (e.get (j.get v id) id) id;have D:=a.get (e.get (j.get (r.get u id) id) id) id;have F:=(((z.tt r).tt j).tt e).tt a;refine⟨_,aj D,_,aj D,_,aj m,_,aj m,_,aj o,_,aj o,_,aj i,_,aj i,_,aj C,_,aj C,?_⟩;refine AF (es:= [(IP,tA),(KR,tB),(KS,tD),(Mn,tC),(R7,tE)]) (B.on F) rfl rfl bA (λx H=>T7 H) λg f=>⟨_,rfl,?_⟩;rw[j4];have A:=f.get D id;refine cF rfl ⟨_,aj A,_,aj A,_,aj A,_,aj A,AF (es:= [(IP,tA),(IP,tA)]) (B.on (F.tt f)) rfl rfl bA (λx H=> ?_) λX d=>⟨_,rfl,?_⟩⟩;simp only[bG,dU,or_false,or_self]at H;subst H;exact⟨Nw,bA,bA⟩;rw[j1];have k:=d.get (f.get i id) id;refine cF rfl ⟨_,aj k,_,aj k,AF (es:= [(Mn,tC)]) (B.on ((F.tt f).tt d)) rfl rfl bA (λx H=> ?_) λI t=>⟨_,rfl,?_⟩⟩;rw[bT]at H;subst H;exact⟨Nx,bA,bA⟩;rw[j0];refine cF rfl (vD (es:= []) (B.on (((F.tt f).tt d).tt t)) (λx H=>by cases H) .nil rfl bA λG E=>⟨_,rfl,J G ((((F.tt f).tt d).tt t).tt E)⟩)
def Ny{v:Value}(H:C8 Tryz.prog h n 9 [v]): ∃s,v=.S s:=by
 have u:Tryz.prog.underlying 9=some .string:=zzkr
 cases n with
 |zero=>exact H.elim
 |succ m=>unfold C8 at H;rw[u]at H;obtain⟨s,e,_⟩:=H;exact⟨s,dQ e⟩
def Xq:xU Tryz.prog 5 32=some [9,9]:=zzkr

end zK
end
section
namespace zK
open jk
variable {h H:Heap} {R:dH} {s:ByteArray} {q:bH} {l c a b:Nat} {E:List (ByteArray × ByteArray)} {K:BK}
variable {x:bC×bC}
def T8{v:bC}(k:(iO v).2=true):KN v:=by
 cases e:isS v [99,111,110,110,101,99,116]with
 |true=>rw[nK e];exact Fm
 |false=>
 cases n:isS v [115,116,101,112]with
 |true=>rw[nK n];exact TQ
 |false=>
 cases o:isS v [97,110,115,119,101,114]with
 |true=>rw[nK o];exact Pd
 |false=>
 cases p:isS v [116,97,107,101]with
 |true=>rw[nK p];exact T0
 |false=>
 cases r:isS v [110,111,119]with
 |true=>rw[nK r];exact RP
 |false=>
 cases t:isS v [108,105,110,101,115]with
 |true=>rw[nK t];exact RX
 |false=>
 cases e7:isS v [106,117,100,103,101]with
 |true=>rw[nK e7];exact RY
 |false=>
 cases u:isS v [99,108,111,115,101]with
 |true=>rw[nK u];exact RT
 |false=>
 cases w:isS v [111,117,116]with
 |true=>rw[nK w];exact VT
 |false=>
 cases d:isS v [116,105,99,107]with
 |true=>rw[nK d];exact Nt
 |false=>
 cases f:isS v [119,97,105,116,115]with
 |true=>rw[nK f];exact RU
 |false=>
 cases g:isS v [114,117,110]with
 |true=>rw[nK g];exact RR
 |false=>
 cases i:isS v [102,101,101,100]with
 |true=>rw[nK i];exact TO
 |false=>
 cases j:isS v [97,114,114,105,118,101]with
 |true=>rw[nK j];exact Ph
 |false=>
 cases m:isS v [99,114,97,115,104]with
 |true=>rw[nK m];exact R3
 |false=>unfold iO at k;simp[e,n,o,p,r,t,e7,u,w,d,f,g,i,j,m]at k
def Ua(d:s.size<=100000):O8 s:=vE d λq=>T8 (by unfold A4 at q;rw[bE]at q;exact q.1)
def Bo: ∀(K:BK)(l:List (bC×bC))(c:Nat),c<=l.length->fR K (l.take c)=if c<fR K l then c else fR K l
 |K, [],c,h=>by
  have:c=0:=by simpa using h
  subst this;rfl
 |K,x::l,0,_=>by show 0=_;split<;>omega
 |K,x::l,c+1,h=>by show fR K (x::l.take c)=_;unfold fR;split;have i:=Bo (gH K x).1 l c (dQ h);rw[i];split<;>split<;>omega;rfl
def Fu(d:K.oz=true):gH K x=(K,false,7):=by unfold gH;rw[ah d]
def HC(d:K.oz=false):(gH K x).1.oz= !(gH K x).2.1/\(gH K x).2.2=0:=by unfold gH;rw[af (by rw[d];decide)];exact⟨rfl,rfl⟩
def Nz: ∀(l:List (bC×bC))(K:BK)(i:Nat)(x:bC×bC),K.oz=false->l[i]? =some x->
  (kh K (l.take i)).oz=decide (fR K l<i)/\(gH (kh K (l.take i)) x).2.1=decide (i<fR K l)/\(gH (kh K (l.take i)) x).2.2=if fR K l<i then 7 else 0
 | [],_,_,_,_,d=>by cases d
 |y::l,K,0,x,e,d=>by cases d;have f:=HC (x:=y) e;refine⟨?_,?_,?_⟩;show K.oz=_;rw[e];simp;show(gH K y).2.1=_;unfold fR;split;rename_i q;rw[q];simp;rename_i q;simpa using q;show(gH K y).2.2=_;rw[f.2];simp
 |y::l,K,i+1,x,e,d=>by
  have f:=HC (x:=y) e;have d:l[i]? =some x:=d;show(kh (gH K y).1 (l.take i)).oz=_/\(gH (kh (gH K y).1 (l.take i)) x).2.1=_/\(gH (kh (gH K y).1 (l.take i)) x).2.2=_;unfold fR;cases q:(gH K y).2.1 with
  |true=>rw[ah rfl];rw[q]at f;obtain⟨A,b,c⟩:=Nz l (gH K y).1 i x f.1 d;rw[A,b,c];refine⟨?_,?_,?_⟩;exact dA.2 bO;exact dA.2 bO;simp
  |false=>
   rw[fe];rw[q]at f;have j: ∀(m:List (bC×bC))(J:BK),J.oz=true->kh J m=J:=λm=>by
    induction m with
    |nil=>exact λ_ _=>rfl
    |cons z m I=>intro J g;show kh (gH J z).1 m=J;rw[Fu g];exact I J g
   rw[j _ _ f.1,Fu f.1,f.1];refine⟨?_,?_,?_⟩<;>simp
def V1(n:Nat)(C:List Value)(d:C.length=2)(g:C8 Tryz.prog h n 32 C): ∃x:bC×bC,C=Fl x/\True:=by
 have L:=Da 5 n _ _ C Xq (by rw[d];rfl) g
 match C,d with
 | [A,b],_=>obtain⟨m,e⟩:=L.get 0 rfl rfl;obtain⟨k,rfl⟩:=Ny e;obtain⟨M,f⟩:=L.get 1 rfl rfl;obtain⟨i,rfl⟩:=Ny f;exact⟨(k,i),rfl,trivial⟩
def _root_.Go.Proofs.YticlajoleibdnaaGreatDoor.auditFirst_ok(o:bH)(ll a:Nat)(cut:Int)(d:HP Tryz.prog h 22 (.L o ll a))(wc:(Lit.int .i64 cut).wf=true)(tb:jk.vx h)(ut: ∃V,Cb.lU V h)(er:jk.Er h)(mx:jk.Mx h):PO Tryz.prog 3 #[.L o ll a,.int .i64 cut] h:=by
 obtain⟨E,rfl,h',_,r,_⟩:=HP.slice (e:=32) Fl 2 (λ_=>True) zzkr (λ_=>rfl) (λc' Z hl hr=>V1 c' Z hl hr) zzkr d;have B:Bs h:=⟨tb,er,mx,ut⟩;clear d;unfold PO;generalize P:(λ(e':Value) H=>e'=.B true/\Fr No h H)=R;have Q: ∀H,Fr No h H->R (.B true) H:=λH hf=>by rw[<-P];exact⟨rfl,hf⟩
 clear P;refine sM (ay.of λJ O=>Sb r rfl λb hb=>⟨_,rfl,?_⟩);have t:J true h:=by subst O;exact cF rfl (KT B λg f=>⟨_,rfl,Q g f⟩)
 cases b with
 |true=>exact cF rfl t
 |false=>
 obtain⟨i',sz⟩:=hb rfl;refine bo rfl ?_;by_cases z:cut<0;exact cF (aq z) t;refine bo (aA z) ?_;by_cases A:cut>((E.length:Nat):Int);rw[aq A];exact t;rw[aA A];obtain⟨c,rfl⟩:=fi (show 0<=cut by omega);have hc:c<=E.length:=ae
 subst O;have L: ∀x∈E,O8 x.1/\x.1.size<=10000/\x.2.size<=10000:=λx d=>by have:=sz x d;exact⟨Ua ae,ae,ae⟩
 refine bo rfl ⟨ae,vD B L r rfl ae λg1 n=>⟨_,rfl,?_⟩⟩;have d':Row g1 (bV o a 0 2) ((E.take c).flatMap Fl):=by have:=(r.frame n bD).sub (cap:=a) (u:=c) (sz:=2) (bg _) ae;rw[mM Fl 2 (λ_=>rfl),Nat.zero_mul,List.drop_zero]at this;exact this
 have tl:(E.take c).length=c:=by simp;omega
 refine vD (es:=E.take c) (B.on n) (λx d=>L x (List.mem_of_mem_take d)) d' (by rw[tl];rfl) ae λm f2=>⟨_,rfl,ay.of λX a'=> ?_⟩;have S: ∀w:Int,w=((fR CA (E.take c):Nat):Int)->X w m:=by
  intro w hw;subst a';have u:=n.tt f2;refine ft λM U f0=>⟨_,rfl,λi g=> ∃k:Nat,i=(k:Int)/\k<=E.length/\Fr (λy=>y=m.size) M g/\Fi g m.size (kh CA (E.take k)),λi _=>E.length - i.toNat,⟨0,rfl,bg _,Fr.refl _ _,U⟩,?_⟩;rintro _ g ⟨k,rfl,g',f,T⟩;have z2:=u.1;have j: ∀G,Fr (λy=>y=m.size) M G->Fr No h G:=λG F=>(u.tt f0).fresh F λy e=>ae
  by_cases C:k<E.length;obtain⟨f',rfl⟩:=r.some (IM C);obtain⟨r0,r1⟩:=IL (r.frame (j g f) bD) C;have d:E[k]? =some E[k]:=ai C;obtain⟨_,q1,q2⟩:=Nz E CA k E[k] rfl d;have p:=L E[k] (cx C);refine cF (aq ae) ⟨ae,av.2 ⟨_,by rw[aG];exact r0,_,by rw[aG];exact r1,?_⟩⟩;refine Ns p.1 (B.on (j g f)) T (Az CA _ ⟨bA,bA⟩) (λG F=>B.on (j G (f.tt F))) p.2.1 p.2.2 λG F v=>⟨_,_,rfl,ay.of λJ2 b'=> ?_⟩;rw[show(E[k].1,E[k].2)=E[k]from rfl]at v⊢;rw[q1,q2];refine bo (by rw[show decide ((k:Int)<((fR CA E:Nat):Int))=decide (k<fR CA E)from dA.2 bO];simp) ?_;rw[show(!(((if fR CA E<k then(7:Int)else 0)==7)==decide ((k:Int)>((fR CA E:Nat):Int))))=false from ?_];subst b';refine bo rfl ⟨⟨k+1,by rw[eY];rfl,C,f.tt F,?_⟩,?_⟩;rw[bt,d];show Fi G m.size (kh CA (E.take k++ [E[k]]));rw[xE];exact v;show E.length - Int.toNat (IntKind.wrap .i64 ((k:Int)+1))<E.length - Int.toNat (k:Int);rw[eY];omega;by_cases I:fR CA E<k;rw[ah I,aq ae];rfl;rw[af I,aA ae];rfl;refine bo (aA ae) (KT (B.on (j g f)) λg3 f3=>⟨_,rfl,cF rfl ?_⟩);rw[hw,beq_self_eq_true];exact Q g3 ((j g f).tt f3)
 have e:=Bo CA E c hc;by_cases D:c<fR CA E;rw[ah D]at e;exact cF (aq ae) (S _ (by rw[e]));rw[af D]at e;exact bo (aA ae) (S _ (by rw[e]))

end zK
end
end Go.Proofs.YticlajoleibdnaaGreatDoor
