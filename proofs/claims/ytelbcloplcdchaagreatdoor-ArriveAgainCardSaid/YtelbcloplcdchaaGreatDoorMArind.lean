/-
  IF is proved here: parts of zp proof, one behind zp other (texts of this work, merged by a program; JW zp theorem JX not use is left out). No condition.
-/
import Derived.Test.YtelbcloplcdchaaGreatDoorMArinc
set_option linter.defProp false
set_option maxRecDepth 100000
set_option maxHeartbeats 4000000
namespace Go.Proofs.YtelbcloplcdchaaGreatDoor
open Go.Den
open IntKind (wrap)
open Int (toNat)
section
namespace Bn
open Cb
open ju (Ev cY mh)
variable {V:cQ→Bool} {h a H:aA} {R:fp}
variable {l:List Nat} {n c i:Nat} {p:bZ} {B:cQ} {t:Tr} {u:List Tr}
def MI{n:Nat}{K:Nat->dw}{c:Array Value}(d:c=(nu l).toArray)(e: ∀b H,Row H (Sa b 0) (nu l)->Fr No h H->K b H):aW h (.C c 27) K:=by refine cg (e _ _ (by rw[d];exact jj) (Fr.push _ _))
theorem TU{l:Nat}(U:mG V a)(d':Fr No a h)(a':Row h p (bc B))(X:l=B.length)(cap:B.length<=c)(Z:B.length<=80000)(m: ∀H (C b:Nat),Fr No h H->R (.T #[.U (C:Int),.U (b:Int),.B (Rh V B)]) H):Cl 209 #[.L p l c] h R:=by
 have ri:=yD (V:=V) B;have rl:=mn (t:=fP V B);refine Di (E8 U d' a' X cap Z λh2 z v G=>aa.ex z.s ⟨_,rfl,aa.gw (x:=z.s) λb1 j e' d f=>aB.of λJ M=> ?_⟩);have x:=G.tt f;unfold Rh at m;have o: ¬(mi V B=true/\(fP V B).k=4/\(fP V B).l.length=2)->J true j:=λhn=>by grind
 obtain⟨zk,zn,zb,zl,f',ys,L,T⟩:=iD.kn (v.on f);cases s:mi V B with
 |false=>rw[gH];exact o (λe=>by rw[s]at e;cases e.1)
 |true=>
 rw[dz];refine⟨_,ai d,?_⟩;rw[show z.s.f0=(fP V B).k from zk];by_cases k:(fP V B).k=4
 case neg=>rw[ag (dH k)];exact o (λe=>k e.2.1)
 rw[af (dH k)];refine⟨_,_,_,ai d,?_⟩;have sl:z.s.JT=(fP V B).l.length:=zl;rw[sl];by_cases l2:(fP V B).l.length=2
 case neg=>grind
 rw[show((((fP V B).l.length:Nat):Int) !=2)=false by simp only[gy];omega];clear o;rw[s,aC ⟨k,l2⟩]at m;subst M;dsimp only;rw[dz];obtain⟨A,y0,E,Q,b',_⟩:=elem L T (i:=0) ae;obtain⟨q,y1,D,S,c',_⟩:=elem L T (i:=1) ae;have n0:=(iD.kn b').2.1;have n1:=(iD.kn c').2.1;have O:aU j ((A.add (0*4)).add 1)=some (.U ((vL (fP V B):Nat):Int)):=by have:=Q.2.1;unfold vL;rw[<-n0];exact this
 have P:aU j ((q.add (1*4)).add 1)=some (.U ((I8 (fP V B):Nat):Int)):=by have:=S.2.1;unfold I8;rw[<-n1];exact this
 refine⟨_,_,_,ai d,ae,bU.2 ⟨A,E,_,O,_,_,_,ai d,ae,bU.2 ⟨q,D,_,P,aa.fX d ?_⟩⟩⟩;refine MI (l:= [vL (fP V B),I8 (fP V B)]) (n:=2) rfl λb2 h5 r5 F=>⟨F.kp,K3 r5 rfl (by show 2<=_;omega) λh6 w tw g=>aa.ex w.s ⟨rfl,g.kp,jv (x:=z) (y:=w) ((v.on f).on (F.tt g)) tw.u ae λK I=>⟨_,rfl,?_⟩⟩⟩;have y:=x.tt (F.tt (g.tt I));have fin:=m K (vL (fP V B)) (I8 (fP V B)) y;cases r:qO (fP V B) (Rf [vL (fP V B),I8 (fP V B)])with
 |false=>rw[r]at fin;rw[dz];exact fin
 |true=>
 rw[r]at fin;rw[ag rfl];change if(decide (((vL (fP V B):Nat):Int)≥1))=true then(if(decide (((vL (fP V B):Nat):Int)<=255))=true then _ else _)else _;by_cases c1:1<=vL (fP V B)
 case neg=>grind
 rw[gH];by_cases c2:vL (fP V B)<=255
 case neg=>grind
 rw[gH];have:decide (1<=vL (fP V B)/\vL (fP V B)<=255/\I8 (fP V B)<=vL (fP V B))=decide (((I8 (fP V B):Nat):Int)<=((vL (fP V B):Nat):Int)):=by grind
 rw[this]at fin;exact fin
theorem Pj{T:Nat}{l:Nat}(U:mG V a)(o:Fr No a h)(M:jS.Mx h)(r:Row h p (bc B))(z:l=B.length)(cap:B.length<=c)(m:B.length<=80000)(x: iG h R (.B (CN V T B))):Cl 140 #[.U (T:Int),.L p l c] h R:=by
 subst z;refine Ad (aB.of λJ y=>aB.of λA j=> ?_);unfold CN at x;have fin: ∀q g,Fr No h g->(CN V T B=(q && decide (B.length<=200)))->J q g:=λq g F e=>by
  subst y;have:=x g F;unfold CN at e;rw[e]at this;rw[show decide (((B.length):Int)<=200)=decide (B.length<=200)from mQ B.length 200];cases q with
  |_=>exact this
 by_cases s:T=6;subst s;rw[gH];refine K2 U o M r rfl cap m λd e f=>av.ex e.s ⟨_,rfl,?_⟩;subst j;exact fin _ d f rfl;rw[af (by simp only[dQ];omega)];refine aB.of λD k=> ?_;by_cases v:T=7;subst v;rw[gH];refine Jj U o r rfl cap m λd f=>⟨_,_,rfl,?_⟩;subst k j;exact fin _ d f rfl;rw[af (by grind)];refine aB.of λE w=> ?_;by_cases C:T=10;subst C;rw[gH];refine TU U o r rfl cap m λd G b f=>⟨_,_,_,rfl,?_⟩;subst w k j;exact fin _ d f rfl;rw[af (by simp only[dQ];omega)];subst w k j;exact fin true h (Fr.refl _ _) (by unfold CN;rw[af s,af v,af C])
theorem Bu(r:Row h p (nu l))(s:n=l.length)(w:l.length<=100000)(f:R (.B (l.all oe)) h):Cl 139 #[.L p n c] h R:=by
 subst s;refine Ae (jz (jM ?_));refine⟨λt g=> ∃i:Nat,t=(i:Int)/\i<=l.length/\g=h/\(l.take i).all oe=true,λt _=>l.length - t.toNat,⟨0,rfl,bK _,rfl,by rfl⟩,?_⟩;rintro _ g ⟨i,rfl,v,rfl,m⟩;by_cases d:i<l.length;rw[gH];obtain⟨A,rfl⟩:=r.some (by intro e;have:=bV List.length e;rw[aw,cA]at this;omega);have o:aU g (A.add (i*1))=some (.U ((l[i]:Nat):Int)):=by have:=r.cell (j:=i) (v:=.U ((l[i]:Nat):Int)) (by grind);rw[cC];exact this
 have key: ∀q,q=(!oe l[i])->(if q=true then∃j,Value.I (i:Int)=.I j/\∃T,Value.bool (decide (j≥0))=.B T/\R (.B (!T)) g else((∃k:Nat,IntKind.wrap .i64 ((i:Int)+1)=(k:Int)/\k<=l.length/\g=g/\(l.take k).all oe=true)/\l.length - (IntKind.wrap .i64 ((i:Int)+1)).toNat<l.length - (i:Int).toNat)):=by
  rintro q rfl;cases e:oe l[i]with
  |false=>rw[gH];refine⟨_,rfl,_,rfl,?_⟩;rw[aC ae];have:l.all oe=false:=List.all_eq_false.2 ⟨l[i],fZ d,by grind⟩;rw[this]at f;exact f
  |true=>rw[dz,dJ (n:=(i:Int)+1) ae ae];refine⟨⟨i+1,ae,ae,rfl,?_⟩,ae⟩;rw[aV,au d,List.all_append,m];simp[e]
 refine⟨ae,bU.2 ⟨A,rfl,_,o,xC ?_⟩⟩;have E:oe l[i]=(decide (1<=l[i]) && decide (l[i]<=255)):=by unfold oe;by_cases A:1<=l[i]<;>by_cases b:l[i]<=255<;>simp[A,b]
 by_cases C:l[i]<1;grind;grind;grind
abbrev oX.s(b:oX)(p:bZ)(c:Nat):ay.S:=⟨b.ty,b.nr,b.fl,b.sum,p,b.data.length,c⟩
variable {b:oX}
def Bv(b:oX)(U:mG V a)(v:Fr No a h)(M:jS.Mx h)(s:Row h p (bc b.data))(cap:b.data.length<=c)(q:b.data.length<=80000)(d: iG h R (.B (mO V b))):Cl 98 #[(b.s p c).agg] h R:=by
 refine Bs (ay.cV λx y E g k=>⟨_,ai g,_,ai g,MI (l:= [b.ty,b.nr]) (n:=2) rfl λw z r j=>Bu r rfl bt ⟨_,rfl,?_⟩⟩);have F:=k.tt j;have e:=j.get g id;have d: ∀H,Fr No h H->R (.B ((oe b.ty && oe b.nr) && (XV (b.fl:Int) 23 && (decide (0<=b.sum) && (decide (b.sum<=2) && CN V b.ty b.data))))) H:=λH f=>by have:=d H f;unfold mO at this;simpa only[gu]using this
 rw[show [b.ty,b.nr].all oe=(oe b.ty && oe b.nr) by simp];exact kZ d F λd=>⟨_,ai e,kZ d F λd=>⟨_,ai e,kZ d F λd=>⟨_,ai e,kZ d F λd=>⟨_,ai e,_,_,_,ai e,Pj U (v.tt F) (M.on F) (s.frame F bC) rfl cap q λo m=>⟨_,rfl,d o (F.tt m)⟩⟩⟩⟩⟩
theorem MJ(d:tV V t i=.ok u):0<=typeAt u i:=by
 unfold tV at d;split at d;rename_i f;have key: ∀k,i<k->typeAt (t.l.take k) i=typeAt t.l i:=λk e=>by unfold typeAt at_;rw[bx,bx,db,ag e,bT];exact ite_congr (propext (by grind)) (λ_=>rfl) (λ_=>rfl)
 split at d
 grind;grind;cases d
def Pk(d:tV V t i=.ok u):(at_ u i).n<=2:=by have:=MJ d;unfold typeAt at this;split at this;omega;omega
def Bw(h:mO V b=true):0<=b.sum/\b.sum<=2/\b.data.length<=200/\1<=b.ty/\b.ty<=255/\1<=b.nr/\b.nr<=255:=by unfold mO at h;simp only[aZ,bn]at h;have⟨⟨⟨⟨⟨A,e⟩,_⟩,f⟩,c⟩,d⟩:=h;unfold oe at A e;unfold CN at d;simp only[aZ,bn]at A e d;exact⟨f,c,d.2,A.1,A.2,e.1,e.2⟩
def HR(h:mO V b=true):dS (O6 b)<=300:=by have⟨_,_,d,_⟩:=Bw h;simp only[O6,dS,room,cA];omega
def HS(h:xw V b=.ok t):room t<=400:=by unfold xw at h;split at h;rename_i d;have:=E0 h;have:=HR d;omega;cases h
theorem K4{e:Int}(h:xw V b=.error e):e≠0:=by unfold xw at h;split at h;exact HQ h;grind
theorem NU(b:oX)(U:mG V a)(b':Fr No a h)(mx:jS.Mx h)(a':Row h p (bc b.data))(cap:b.data.length<=c)(g':b.data.length<=80000)(L: ∀H z q,(∀t,xw V b=.ok t->q=0/\xx H (λy=>h.size<=y) t z)->(∀e,xw V b=.error e->q=e)->Fr No h H->R (.T #[z.s.agg,.I q]) H):Cl 102 #[(b.s p c).agg] h R:=by
 refine Bt (ay.cV λbb h1 eb X j=>aa.cV λb1 h2 i' e' g=>ay.fX (g.get X id) (Bv b U (b'.tt (j.tt g)) (mx.on (j.tt g)) (a'.frame (j.tt g) bC) cap g' λh3 s=>⟨_,rfl,?_⟩));have o:=(g.tt s).get X id;have C:=s.get e' id;have F:=j.tt (g.tt s);have z3:=F.1;have z1:=j.1;have k':=s.1;have l':=aD C;cases r:mO V b with
 |false=>exact Je C λh4 f4=>L h4 zv 3 (λt e=>by unfold xw at e;rw[r,dz]at e;cases e) (λt e=>by unfold xw at e;rw[r,dz]at e;cases e;rfl) (F.fresh f4 (λy e=>ae))
 |true=>
 rw[dz];obtain⟨s0,s2,d2,_⟩:=Bw r;have rm:=HR r;have D:xw V b=qe V (O6 b) 3:=by unfold xw;rw[r,ag rfl]
 obtain⟨sum,hs⟩:=dE s0;have es:b.sum.toNat=sum:=ae
 refine⟨_,ai o,_,ai o,_,ai o,_,ai o,?_⟩;rw[show(b.s p c).f3=(sum:Int)from hs,wrap_u64 (n:=(sum:Int)) ae ae];refine MI (l:= [b.ty,b.nr,b.fl,sum]) (n:=4) rfl λb3 h5 r5 w=>K3 r5 rfl (by show 4<=_;omega) λS z T x=>aa.ex z.s ⟨rfl,_,_,_,ai ((w.tt x).get o id),je (a'.frame (F.tt (w.tt x)) bC) rfl ae λh7 v ev ov A=>aa.ex (CV.s ⟨2,0,v,none,0,0⟩) ⟨rfl,aa.cV (x:=CV.s ⟨2,0,v,none,0,0⟩) λb4 h8 j' f' m=> ?_⟩⟩;have F8:=w.tt (x.tt (A.tt m));obtain⟨_,Z,a5,P,a7,Q⟩:=T;have zl:Z.length=4:=by have:=Q.len;exact this.symm
 have sl:z.s.JT=Z.length:=a5;rw[sl];have z6:=x.1;have z7:=A.1;have z8:=m.1;have qs: ∀y,aL z.q y->y<S.size:=λy d=>P.dk d;refine dI tI uI (P.frame (A.tt m) bC) (ds:=kx ⟨2,0,v,none,0,0⟩) (.inr ⟨_,rfl,aa.jw (x:=CV.s ⟨2,0,v,none,0,0⟩) f'⟩) rfl (qX _) ae ae λq' c' K O _ I g9=>⟨_,_,_,rfl,?_⟩;have ef:Z.flatMap kx++kx ⟨2,0,v,none,0,0⟩=(Z++ [(⟨2,0,v,none,0,0⟩:CV)]).flatMap kx:=bt
 rw[ef]at O;have f:Fr No h3 K:=F8.fresh I (λy d=>gM (a7 y d) w.1);have L9:nV K (λ_=>True) q' (Z.length+1) c' (Z++ [⟨2,0,v,none,0,0⟩]):=⟨bt,O.hT,λ_ _ _=>trivial,O.le⟩;have T9:GN K (O6 b) (Z++ [⟨2,0,v,none,0,0⟩]):=by have t1:=eZ.frame I (λy d M=>d.2 M) (eZ.on (eZ.on Q A) m);have t2:iD h7 (λy=>S.size<=y) (uk v.b) ⟨2,0,v,none,0,0⟩:=HK ov;have t3:=(t2.on m).frame I (λy d M=>bN (qs y M));have:=eZ.snoc t1.u t3.u;rw[ev]at this;unfold O6;rw[es];exact this
 refine NT (i:=3) U (b'.tt (F.tt f)) L9 T9 ae ae (λt ht d' z T k=>aa.ex z.s ⟨_,rfl,?_⟩) (λe he d' k=>aa.ex zv.s ⟨_,rfl,?_⟩);have z9:=f.1;exact fin ((f.tt k).get C id) T (λy d e=>ae) λJ h' G=>L J z 0 (λt' e=>by rw[D,ht]at e;cases e;exact⟨rfl,h'.mono λy d=>ae⟩) (λE e=>by rw[D,ht]at e;cases e) ((F.tt (f.tt k)).fresh G (λy e=>ae));exact Je ((f.tt k).get C id) λJ G=>L J zv e (λt' E=>by rw[D,he]at E;cases E) (λE e2=>by grind) ((F.tt (f.tt k)).fresh G (λy e=>ae))
def U0{b:Nat}{y x:ay.S}{K:ay.S->dw}(e:ay.fR h b y)(j: ∀H,Fr (λy=>y=b) h H->K x H):
  ay.dv h (AA b 0) x λg=>ay.cJ g (AA b 0) λr=>K r g:=
 ay.iB e λg d f _=>ay.fX d (j g f)
theorem TV{x:CV}(U:mG V a)(n':Fr No a h)(mx:jS.Mx h)(tx:Jd h t x)(hr:room t<=50000)(k1: ∀b,ED V t=.ok b->∀H p c,BV.ok H (λy=>h.size<=y) ⟨p,c,b.data⟩->Fr No h H->R (.T #[(b.s p c).agg,.I 0]) H)(k2: ∀e,ED V t=.error e->e≠0->iG h R (.T #[ay.S.z.agg,.I e])):Cl 198 #[x.agg] h R:=by
 have rl:=mn (t:=t);refine Dj (x:=x.s) (aa.cV λb h1 eb hb f1=>ay.cV λb1 h2 J' a' M=>aa.fX (M.get hb id) ?_);have F:=f1.tt M;have B':=M.get hb id;have zb:=aD hb;have b0:=aD a';have z1:=f1.1;have z2:=M.1;have no: ∀g e,Fr No h2 g->ED V t=.error e->e≠0->ay.dv g (AA b1 0) .z λG=>ay.cJ G (AA b1 0) λH'=>R (.T #[H'.agg,.I e]) G:=λg e o s hn=>U0 (o.get a' id) λG f=>k2 e s hn G ((F.tt o).fresh f (λy e=>ae));have j:ED V t=ED V t:=rfl;conv at j=>rhs;unfold ED
 refine Ac (i:=3) U (n'.tt F) (tx.on F) ae ae (λu hu ru m p zs c L TS w=>⟨_,_,_,_,rfl,?_⟩) (λe s hn m w=>⟨_,_,_,_,rfl,?_⟩)
 case refine_2=>grind
 rw[dz];rw[hu]at j;dsimp only at j;have n2:=Pk hu;have ln:=TS.len;have l9:=iZ u;refine aB.of λo' hJ=> ?_;have S: ¬(u.length=5/\(at_ u 4).k=2)->o' true m:=λhn=>by grind
 by_cases l5:u.length=5
 case neg=>grind
 rw[af (by simp only[fi,ne_eq];omega)];have z3:=w.1;have I: ∀i,i<5->∃(A:Addr)(y:CV),p=some A/\cH (A.add (i*4)) y.s.l 0 m/\Jd m (at_ u i) y/\aU m ((A.add (i*4)).add 1)=some (.U ((at_ u i).n:Int)):=λi hi=>by obtain⟨A,y,ea,hh,ty,_⟩:=elem L TS (i:=i) ae;obtain⟨_,yn,_⟩:=iD.kn ty;exact⟨A,y,ea,hh,ty.u,by have:=hh.2.1;rw[<-yn];exact this⟩
 obtain⟨a0,y0,r',R',Z',c0⟩:=I 0 ae;obtain⟨a1,y1,s',S',a5,c1⟩:=I 1 ae;obtain⟨a2,y2,t',T',a6,c2⟩:=I 2 ae;obtain⟨a3,y3,u',U',a7,c3⟩:=I 3 ae;obtain⟨a4,O,e',l',I',c4⟩:=I 4 ae;obtain⟨yk,yn,yb,yl,yv,_⟩:=iD.kn I';have r4:=jH (ts:=u) (i:=4) ae;have V':=mn (t:=at_ u 4);refine⟨ae,bU.2 ⟨a4,e',_,l'.1,?_⟩⟩;by_cases D':(at_ u 4).k=2
 case neg=>grind
 rw[show(O.s.f0 !=2)=false by simp;omega];clear S;rw[ag ⟨l5,D'⟩]at j;subst hJ;try dsimp only
 rw[dz];have u3:=n'.tt (F.tt w);have m3:=mx.on (F.tt w);have E:(vM u).data=O.v.b:=yb.symm;refine aB.of λJ1 A'=> ?_;have m': ∀g k q D,ay.fR g k ((vM u).s q D)->h2.size<=k->BV.ok g (λy=>m.size<=y/\y≠k) ⟨q,D,(vM u).data⟩->Fr No m g->J1 (Sa k 0) g:=by
  intro g k q D hs z4 ov o;subst A';refine ar.2 (ay.fX hs (NU (vM u) U (u3.tt o) (m3.on o) ov.row ov.cap (by rw[E,yb];omega) λh8 c' qw w0 w1 f8=>aa.ex c'.s ⟨_,rfl,aa.gw (x:=c'.s) λb5 j' K' C' f'=>aB.of λJ2 k'=> ?_⟩));have Q:=f8.tt f';have v:=w.tt (o.tt Q);have S: ∀G,Fr No j' G->ED V t=.error 3->J2 true G:=λG w' s=>by
   subst k';try dsimp only
   rw[ag rfl];exact no G 3 (v.tt w') s cW
  cases r:xw V (vM u)with
  |error e=>rw[r]at j;rw[ag (by rw[w1 e r];simpa using K4 r)];exact S j' (Fr.refl _ _) j
  |ok d'=>
   rw[r]at j;dsimp only at j;obtain⟨rfl,tw⟩:=w0 d' r;have X':=HS r;rw[dz];refine aa.fX C' (aa.fX (x:=x.s) (v.get B' id) (jv (x:=c') (y:=x) (tw.u.on f') (tx.on (F.tt v)) ae λL' J=>⟨_,rfl,?_⟩));cases s:qO d' t with
   |false=>grind
   |true=>
    rw[s,ag rfl]at j;subst k';try dsimp only
    rw[dz];refine ar.2 (ay.fX ((Q.tt J).get hs id) (U0 ((v.tt J).get a' id) λG f=>k1 _ j G q D ?_ ((F.tt (v.tt J)).fresh f (λy e=>ae))));have:=(ov.mono (D':=λy=>m.size<=y) λy d=>d.1).frame (Q.tt J) bC;exact(this.frame f (λy d e=>ae)).mono λy d=>ae
 refine⟨ae,bU.2 ⟨a0,r',_,c0,ae,bU.2 ⟨a1,s',_,c1,ae,bU.2 ⟨a2,t',_,c2,ae,bU.2 ⟨a3,u',_,c3,ae,bU.2 ⟨a4,e',_,_,_,l'.2.2.1,?_⟩⟩⟩⟩⟩⟩;rw[dJ (n:=(((at_ u 3).n:Nat):Int)) ae ae];have l4:O.v.b.length<=50000:=by rw[yb];omega
 have eS: ∀P C,(⟨(at_ u 0).n,(at_ u 1).n,(at_ u 2).n,(at_ u 3).n,P,O.v.b.length,C⟩:ay.S)=(vM u).s P C:=λP C=>by show _=(⟨_,_,_,_,P,(vM u).data.length,C⟩:ay.S);rw[E];rfl
 refine⟨?_,?_,trivial⟩;refine gg.hY yv.row rfl ae λP C M' b' T x'=>⟨_,_,_,rfl,T.kp,ay.cV λk O' v' z X=>⟨X.kp,?_⟩⟩;rw[eS];have a8:=T.1;have z4:=aD z;refine ay.iB (x:=(vM u).s P C) z λy' p' g' _=>m' y' k P C p' ae ?_ ((T.tt X).fresh g' (λy e=>ae));have E':=(b'.frame X bC).frame g' (λy d e=>bN (b'.dk d));rw[E];exact BV.jK E' (λy d=>⟨x' y d,bN (b'.dk d)⟩);refine ay.cV λk P' v' z K=>⟨K.kp,gg.hY (yv.row.frame K bC) rfl ae λP C Q' F' Z i'=>⟨_,_,_,rfl,Z.kp,?_⟩⟩;rw[eS];have a9:=K.1;have z4:=aD z;refine ay.iB (x:=(vM u).s P C) (Z.get z id) λz' q' h' _=>m' z' k P C q' ae ?_ ((K.tt Z).fresh h' (λy e=>ae));have G':=F'.frame h' (λy d e=>bN (i' y d));rw[E];exact BV.jK G' (λy d=>bN (i' y d))

end Bn
end
section
variable {h:aA} {R:fp}
variable {L:bZ} {l a:Nat} {b:ak.S} {r:aM.S}
def Af{k:Int} (H:ite (k==1) (R (.B true) h) (ite (k==6) (R (.B true) h) (ite (k==7) (R (.B true) h) (R (.B (k==10)) h)))):Cl 99 #[.U k] h R:=aP [] H
def Dk (U: ∃(I:Bool->dw)(_:Bool->aA->Nat),(aB (λ(Z:Bool) g=>ite Z (R (.B false) g) (I true g)) (λJ=>ite (decide ((wrap .i64 ((l:Int) - 1))<0)) (J true h) (ite (decide ((wrap .i64 ((l:Int) - 1))≥8)) (J true h) (Bd (wrap .i64 ((l:Int) - 1)) l/\aH L λA=> ∃u,aU h (A.add (toNat (wrap .i64 ((l:Int) - 1))*5))=some (.U u)/\ite (u !=1) (J true h) (Bd (wrap .i64 ((l:Int) - 1)) l/\aH L λC=> ∃v,aU h ((C.add (toNat (wrap .i64 ((l:Int) - 1))*5)).add 1)=some (.U v)/\J (v !=1) h)))))/\∀q k,I q k->aB (λ(V:Bool) P=>R (.B V) P) (λf=> ∃(i:Bool->kj)(M:Bool->kG),i q 0 k/\∀O t d,i O t d->ite (decide (t<(l:Int))) (Bd t l/\aH L λD=>ay.cJ d (D.add (toNat t*5)) λa'=>ay.NW d λb Q=>ay.dv Q (AA b 0) a' λm=>ay.cJ m (AA b 0) λb'=>Cl 98 #[b'.agg] m λh' S=>Vb h' λc'=>((0:Int)<=t/\t<=(a:Int))/\∃(e:Bool->kj)(p:Bool->kG),e c' 0 S/\∀o T c,e o T c->ite (decide (T<(((toNat t) - 0:Nat):Int))) (aB (λ(s:Bool) n=>(e s (wrap .i64 (T+1)) n/\p s (wrap .i64 (T+1)) n<p o T c)) (λz=>((0:Int)<=T/\T<(((toNat t) - 0:Nat):Int))/\aH (cE L a 0 5) λE=>ay.cJ c (E.add (toNat T*5)) λd'=>ay.NW c λB F=>ay.dv F (AA B 0) d' λH=>aB (λ(X:Bool) G=>z X G) (λj=>ite o (Hu H B 1 λe'=> ∃w,Cc H b 1 (.U w)/\ite (e' !=w) (Hu H B 0 λf'=> ∃x,Cc H b 0 (.U x)/\ite (f' !=x) (j true H) (Hu H b 0 λg'=>Cl 99 #[.U g'] H λi' K=> ∃y,i'=.B y/\j (!y) K)) (j false H)) (j false H)))) (ite (!o) (f o c) ((i o (wrap .i64 (t+1)) c/\M o (wrap .i64 (t+1)) c<M O t d)))) (f O d))):Cl 55 #[.L L l a] h R:=aP [(2,λ_=> .scope 0 [(4,sB)] (lq (sq (sq (.join [(33,sB)] lf) (cq ll lf)) (lq ll))) (lq (sq (lq (.join [(4,sB)] (bq (.loop [(4,sB),(36,sI)] (lq (sq (cq lf lf) (sq (bq (lq (lq (sq (lq (bq (.loop [(4,sB),(47,sI)] (lq (sq (cq lf lf) (sq (.join [(4,sB)] (bq (lq (.join [(4,sB)] lf)))) lf)))))) (lq (cq lf lf)))))) lf))))))) ll)))] U
def Ag (U:aW h (.C b.arr 73) λB m=>aE.cJ m (AA B 0) λV=>Cl 100 #[V.agg] m λf' K=>aa.EX λs=> ∃u,f'=.T #[s.agg,.I u]/\aa.NW K λi P=>aa.dv P (AA i 0) s λe=>ite (u !=0) (R (.T #[.Z,.B false]) e) (aa.cJ e (AA i 0) λX=>Cl 101 #[X.agg] e λg' p=> ∃x w v Z,g'=.T #[.L x w v,.I Z]/\Hl p B 20 λa' y _=> ∃(I:bZ->Nat->Nat->kj)(M:bZ->Nat->Nat->kG),I x w v 0 p/\∀c O o t H,I c O o t H->ite (decide (t<(y:Int))) (Bd t y/\aH a' λF=>ay.cJ H (F.add (toNat t*5)) λb'=>ay.NW H λj Q=>ay.dv Q (AA j 0) b' λq=>ay.cJ q (AA j 0) λc'=>Cl 102 #[c'.agg] q λh' S=>aa.EX λz=> ∃A,h'=.T #[z.agg,.I A]/\aa.NW S λk G=>aa.dv G (AA k 0) z λd=>ite (A !=0) (R (.T #[.Z,.B false]) d) (aa.cJ d (AA k 0) λd'=>Cl 101 #[d'.agg] d λi' J=> ∃E D C e',i'=.T #[.L E D C,.I e']/\jE (Builtin.append_ #[32,32] 32 #[.L c O o,.L E D C]) J λj' n=> ∃g f T,j'=.L g f T/\(I g f T (wrap .i64 (t+1)) n/\M g f T (wrap .i64 (t+1)) n<M c O o t H))) (R (.T #[.L c O o,.B true]) H))):Cl 56 #[b.agg] h R:=aP [(18,.loop [(6,sS),(30,sI)])] U
def Ah(d:aW h (.C b.arr 73) λB H=>ak.cJ H (AA B 0) λT=>Cl 20 #[T.agg] H λv c=> ∃g f e t,v=.T #[.L g f e,.I t]/\R (.B (t==0)) c):Cl 199 #[b.agg] h R:=aP [] d
def Ai (w:aW h (.C b.arr 73) λB c=>Hl c B 20 λF E D=>Cl 55 #[.L F E D] c λv H=> ∃m,v=.B m/\ite (!m) (R (.T #[.Z,.I 3]) H) (ak.cJ H (AA B 0) λx=>Cl 56 #[x.agg] H λV d=> ∃f t T g,V=.T #[.L f t T,.B g]/\aB (λ(y:Bool) e=>ite y (R (.T #[.Z,.I 3]) e) (aW e (.C #[.int .u8 159] 5) λn p=>jE (Builtin.append_ #[32,32] 32 #[.L (Sa n 0) 1 1,.L f t T]) p λG q=>Vl G λC A z=>aW q (.C #[.int .u8 255] 5) λo s=>jE (Builtin.append_ #[32,32] 32 #[.L C A z,.L (Sa o 0) 1 1]) s λI u=> ∃k j i,I=.L k j i/\R (.T #[.L k j i,.I 0]) u)) (λJ=>ite (!g) (J true d) (J (decide (((t:Nat):Int)>598)) d)))):Cl 20 #[b.agg] h R:=aP [(14,.join [(21,sB)])] w
def By{s:bZ}{e q:Nat} (hv:ak.NW h λb u=>ite (decide ((e:Int)>1200)) (ak.dv u (AA b 0) ak.S.z λy=>ak.cJ y (AA b 0) λr0=>R (.T #[r0.agg,.I 2]) y) (Cl 196 #[.L s e q,.I 0] u λK' k'=>aa.EX λG=> ∃K T,K'=.T #[G.agg,.I K,.I T]/\aa.NW k' λB l'=>aa.dv l' (AA B 0) G λH=>ite (T !=0) (ak.dv H (AA b 0) ak.S.z λD=>ak.cJ D (AA b 0) λm'=>R (.T #[m'.agg,.I T]) D) (aB (λ(s':Bool) E=>ite s' (ak.dv E (AA b 0) ak.S.z λF=>ak.cJ F (AA b 0) λn'=>R (.T #[n'.agg,.I 3]) F) (ak.NW E λd j=>Hl j B 3 λy' x' _=>Bd 0 x'/\aH y' λb'=>aa.cJ j (b'.add (toNat 0*4)) λz'=>Cl 197 #[z'.agg] j λL' e'=>aE.EX λS=> ∃k,L'=.T #[S.agg,.I k]/\aE.dv e' (AA d 0) S λg=>ite (k !=0) (ak.dv g (AA b 0) ak.S.z λv=>ak.cJ v (AA b 0) λo'=>R (.T #[o'.agg,.I k]) v) (Hl g B 3 λB' m A'=>((0:Int)<=1/\1<=(m:Int))/\∃(I:kj)(M:kG),I 0 g/\∀t c,I t c->ite (decide (t<((m - (toNat 1):Nat):Int))) (((0:Int)<=t/\t<((m - (toNat 1):Nat):Int))/\aH (cE B' A' (toNat 1) 4) λc'=>aa.cJ c (c'.add (toNat t*4)) λC'=>aa.NW c λo f'=>aa.dv f' (AA o 0) C' λw=>aa.cJ w (AA o 0) λD'=>Cl 198 #[D'.agg] w λM' g'=>ay.EX λU=> ∃n,M'=.T #[U.agg,.I n]/\ay.NW g' λp h'=>ay.dv h' (AA p 0) U λf=>ite (n !=0) (ak.dv f (AA b 0) ak.S.z λx=>ak.cJ x (AA b 0) λp'=>R (.T #[p'.agg,.I n]) x) (Hl f d 20 λG' F' E'=>ay.cJ f (AA p 0) λH'=>aW f (.C H'.arr 134) λd' i'=>jE (Builtin.append_ #[71,71] 71 #[.L G' F' E',.L (Sa d' 0) 1 1]) i' λO' j'=> ∃Z X V,O'=.L Z X V/\aO j' (AA d 20) (.L Z X V) λz=>(I (wrap .i64 (t+1)) z/\M (wrap .i64 (t+1)) z<M t c))) (ak.cJ c (AA d 0) λI'=>Cl 199 #[I'.agg] c λP' i=> ∃a',P'=.B a'/\ite (!a') (ak.dv i (AA b 0) ak.S.z λA=>ak.cJ A (AA b 0) λq'=>R (.T #[q'.agg,.I 3]) A) (ak.cJ i (AA d 0) λJ'=>ak.dv i (AA b 0) J' λC=>ak.cJ C (AA b 0) λr'=>R (.T #[r'.agg,.I 0]) C))))) (λJ=>ite (K !=(e:Int)) (J true H) (∃O,Cc H B 0 (.I O)/\ite (O !=4) (J true H) (∃u' P t',Cc H B 3 (.L u' P t')/\ite (decide (((P:Nat):Int)<2)) (J true H) (∃w' Q v',Cc H B 3 (.L w' Q v')/\J (decide (((Q:Nat):Int)>9)) H))))))):Cl 136 #[.L s e q] h R:=aP [(21,.join [(27,sB)]),(43,.loop [(67,sI)])] hv
theorem xD (n:aW h (.C b.arr 73) λB H=> ∃s i q,Cc H B 20 (.L s i q)/\ite (((i:Nat):Int)==0) (R (.Z) H) (∃k j u,Cc H B 20 (.L k j u)/\∃p t o,Cc H B 20 (.L p t o)/\((0:Int)<=wrap .i64 (((t:Nat):Int) - 1)/\wrap .i64 (((t:Nat):Int) - 1)<((j:Nat):Int))/\aH k λA=> ∃d c T,aU H ((A.add (toNat (wrap .i64 (((t:Nat):Int) - 1))*5)).add 4)=some (.L d c T)/\Cl 57 #[.L d c T] H λv m=> ∃g f e,v=.L g f e/\R (.L g f e) m)):Cl 264 #[b.agg] h R:=aP [] n
def Aj (s:aW h (.C r.arr 303) λb H=> ∃m,Cc H b 0 (.B m)/\ite m (∃T,Cc H b 3 (.U T)/\ite (decide (T<=255)) (∃e,Cc H b 4 (.U e)/\ite (decide (e<=1099511627776)) (ah.cJ H (AA b 5) λu=>Cl 64 #[u.agg] H λv o=> ∃i,v=.B i/\R (.B i) o) (R (.B false) H)) (R (.B false) H)) (∃n,Cc H b 1 (.B n)/\ite n (∃c,Cc H b 3 (.U c)/\ite (decide (c<=255)) (∃f,Cc H b 4 (.U f)/\ite (decide (f<=1099511627776)) (ah.cJ H (AA b 5) λw=>Cl 64 #[w.agg] H λV p=> ∃j,V=.B j/\R (.B j) p) (R (.B false) H)) (R (.B false) H)) (∃t,Cc H b 2 (.B t)/\ite t (∃d,Cc H b 3 (.U d)/\ite (decide (d<=255)) (∃g,Cc H b 4 (.U g)/\ite (decide (g<=1099511627776)) (ah.cJ H (AA b 5) λx=>Cl 64 #[x.agg] H λy q=> ∃k,y=.B k/\R (.B k) q) (R (.B false) H)) (R (.B false) H)) (R (.B false) H)))):Cl 345 #[r.agg] h R:=aP [] s
def Dm (y:aa.NW h λb q=>Cl 210 #[.Z] q λv s=>aa.EX λo=>v=o.agg/\aa.NW s λB u=>aa.dv u (AA B 0) o λw=> ∃(I:kj)(m:kG),I 0 w/\∀t H,I t H->ite (decide (t<(l:Int))) (Bd t l/\aH L λA=>ye H (A.add (toNat t*1)) λC=>aB (λ(n:Int) c=>Hl c B 3 λF E D=>Cl 144 #[.U n] c λV d=>aa.EX λT=>V=T.agg/\Kp c d [(Sa B 3)]/\aW d (.C T.arr 201) λp g=>Kp d g [(Sa B 3)]/\jE (Builtin.append_ #[199,199] 199 #[.L F E D,.L (Sa p 0) 1 1]) g λK x=> ∃k j i,K=.L k j i/\aO x (AA B 3) (.L k j i) λe=>(I (wrap .i64 (t+1)) e/\m (wrap .i64 (t+1)) e<m t H)) (λJ=>ite C (J 1 H) (J 0 H))) (aa.cJ H (AA B 0) λG=>aa.dv H (AA b 0) G λf=>aa.cJ f (AA b 0) λz=>R (z.agg) f)):Cl 346 #[.L L l a] h R:=aP [(8,.loop [(10,sI)]),(24,.join [(6,sU)]),(27,λ_=>pK 8)] y
def Ak (hv:aW h (.C r.arr 303) λb n=>ah.cJ n (AA b 5) λt8=>Cl 143 #[t8.agg] n λx' n'=>aa.EX λa'=> ∃b',x'=.T #[a'.agg,.I b']/\aa.NW n' λB u'=>aa.dv u' (AA B 0) a' λg=>aB (λ(w':Bool) H=>ite w' (R (.T #[.Z,.I 3]) H) (Hb H b 0 λs=>Hb H b 1 λu=>Hb H b 2 λv=>Hu H b 3 λy=>Hu H b 4 λC=>aa.cJ H (AA B 0) λF=>(Cl 144 #[.U 1] H λy' i=>aa.EX λT=>y'=T.agg/\Kp H i [(Sa B 0),(Sa b 4),(Sa b 3),(Sa b 2),(Sa b 1),(Sa b 0)]/\aW i (.C #[.B s,.B u,.B v] 4) λc' j=>Kp i j [(Sa B 0),(Sa b 4),(Sa b 3)]/\Cl 346 #[.L (Sa c' 0) 3 3] j λF' k=>aa.EX λw=>F'=w.agg/\Kp j k [(Sa B 0),(Sa b 4),(Sa b 3)]/\Cl 144 #[.U y] k λG' m=>aa.EX λz=>G'=z.agg/\Kp k m [(Sa B 0),(Sa b 4)]/\Cl 144 #[.U C] m λH' o=>aa.EX λD=>H'=D.agg/\Kp m o [(Sa B 0)]/\aW o (.C (w.l++z.l++D.l++F.l).toArray 201) λd' i'=>Cl 210 #[.L (Sa d' 0) 4 4] i' λI' j'=>aa.EX λG=>I'=G.agg/\aW j' (.C (T.l++G.l).toArray 201) λe' k'=>Cl 210 #[.L (Sa e' 0) 2 2] k' λJ' l'=>aa.EX λK=>J'=K.agg/\Cl 101 #[K.agg] l' λK' m'=> ∃U Q O X,K'=.T #[.L U Q O,.I X]/\R (.T #[.L U Q O,.I X]) m')/\(aW H (.C #[.B s,.B u,.B v] 4) λf' c=>Kp H c [(Sa B 0),(Sa b 4),(Sa b 3)]/\Cl 144 #[.U 1] c λL' d=>aa.EX λq=>L'=q.agg/\Kp c d [(Sa B 0),(Sa b 4),(Sa b 3)]/\Cl 346 #[.L (Sa f' 0) 3 3] d λM' e=>aa.EX λx=>M'=x.agg/\Kp d e [(Sa B 0),(Sa b 4),(Sa b 3)]/\Cl 144 #[.U y] e λz' f=>aa.EX λA=>z'=A.agg/\Kp e f [(Sa B 0),(Sa b 4)]/\Cl 144 #[.U C] f λA' p=>aa.EX λE=>A'=E.agg/\Kp f p [(Sa B 0)]/\aW p (.C (x.l++A.l++E.l++F.l).toArray 201) λg' o'=>Cl 210 #[.L (Sa g' 0) 4 4] o' λB' p'=>aa.EX λI=>B'=I.agg/\aW p' (.C (q.l++I.l).toArray 201) λh' q'=>Cl 210 #[.L (Sa h' 0) 2 2] q' λC' r'=>aa.EX λM=>C'=M.agg/\Cl 101 #[M.agg] r' λD' s'=> ∃V S P Z,D'=.T #[.L V S P,.I Z]/\R (.T #[.L V S P,.I Z]) s')/\True)) (λJ=>ite (b' !=0) (J true g) (aM.cJ g (AA b 0) λv'=>Cl 345 #[v'.agg] g λE' t'=> ∃t,E'=.B t/\J (!t) t'))):Cl 328 #[r.agg] h R:=aP [(6,.join [(18,sB)]),(13,λ_=> .ob (gB 6 1 (lO [9,10,12,13,15] (.alts (.fork 0 (lO [7,8,11,14] (gB 9 16 .done)) (.fork 7 (lO [0,8,11,14] (gB 9 16 .done)) .hO))))))] hv
def yE{D:av.S}{id:ah.S}{m:Int}(E:aW h (.C r.arr 303) λb x=>aW x (.C D.arr 29) λs y=>aW y (.C id.arr 68) λu z=>ak.NW z λB i=>aM.cJ i (AA b 0) λJ=>Cl 328 #[J.agg] i λv H=> ∃p o n e,v=.T #[.L p o n,.I e]/\ite (e !=0) (ak.dv H (AA B 0) ak.S.z λj=>ak.cJ j (AA B 0) λF=>R (.T #[F.agg,.I e]) j) (av.cJ H (AA s 0) λT=>ah.cJ H (AA u 0) λt=>aW H (.C #[.U 1,.U 1,.U 0,.I 0,.L p o n] 134) λw A=>ak.NW A λc C=>ak.dv C (AA c 0) ⟨2,0,T.f0,T.f1,T.f2,T.f3,T.f4,false,0,0,(⟨#[]⟩:cF),(⟨#[]⟩:cF),t.f0,t.f1,t.f2,t.f3,t.f4,t.f5,t.f6,m,(Sa w 0),1,1⟩ λk=>ak.cJ k (AA c 0) λK=>Cl 199 #[K.agg] k λV d=> ∃q,V=.B q/\ite (!q) (ak.dv d (AA B 0) ak.S.z λf=>ak.cJ f (AA B 0) λG=>R (.T #[G.agg,.I 3]) f) (ak.cJ d (AA c 0) λM=>ak.dv d (AA B 0) M λg=>ak.cJ g (AA B 0) λI=>R (.T #[I.agg,.I 0]) g))):Cl 320 #[r.agg,D.agg,id.agg,.U m] h R:=aP [] E

end
section
namespace Bn
open Cb
open ju (Ev cY mh)
variable {V:cQ→Bool} {h d H g:aA} {R:fp} {D D':Nat→Prop}
variable {a:List oX} {q:bZ} {l C:Nat}
structure BB where
 b:oX
 p:bZ
 c:Nat
abbrev BB.s(x:BB):ay.S:=x.b.s x.p x.c
variable {X:List BB}
abbrev E9(x:BB):List Value:=x.s.l
def Am(x:BB):(E9 x).length=5:=rfl
def RG(x:BB): ∀v∈E9 x,gk v=true:=λv c=>by simp only[E9,ay.S.l,bG,gX,or_false]at c;rcases c with rfl|rfl|rfl|rfl|rfl<;>rfl
structure jC (h:aA) (D:gF) (a:List oX) (q:bZ) (l C:Nat) (X:List BB):Prop where
 eq:X.map BB.b=a
 len:l=a.length
 row:Row h q (X.flatMap E9)
 own:X≠ []->∀y,aL q y->D y
 cap:l<=C
 ok: ∀x∈X,BV.ok h D ⟨x.p,x.c,x.b.data⟩
def jC.xl(B:jC h D a q l C X):X.length=a.length:=by rw[<-B.eq,aw]
def jC.frame{Q:gF}(B:jC h D a q l C X)(f:Fr Q h H)(c: ∀y,D y->¬Q y):jC H D a q l C X:=by refine⟨B.eq,B.len,?_,B.own,B.cap,λx j=>(B.ok x j).frame f c⟩;by_cases e:X= [];subst e;exact Row.nil;exact B.row.frame f (λA i=>c _ (B.own e _ ⟨A,i,rfl⟩))
def jC.on(B:jC h D a q l C X)(f:Fr No h H):jC H D a q l C X:=B.frame f bC
def jC.mono(B:jC h D a q l C X)(c: ∀y,D y->D' y):jC h D' a q l C X:=
 ⟨B.eq,B.len,B.row,λe y i=>c y (B.own e y i),B.cap,λx f=>(B.ok x f).mono c⟩
def jC.get(B:jC h D a q l C X){i:Nat}(e:i<a.length): ∃(A:Addr)(x:BB),q=some A/\cH (A.add (i*5)) x.s.l 0 h/\x.b=a[i]/\BV.ok h D ⟨x.p,x.c,x.b.data⟩/\X[i]? =some x:=by have xl:=B.xl;have c:X[i]? =some (X[i]' ae):=au _;obtain⟨A,rfl⟩:=B.row.any Am;refine⟨A,_,rfl,B.row.fa Am c,?_,B.ok _ (aG c),c⟩;have:=B.eq;subst this;rw[List.getElem_map]
theorem jC.take(B:jC h D a q l C X){n:Nat}(r:n<=a.length):jC h D (a.take n) (cE q C 0 5) (n - 0) (C - 0) (X.take n):=by
 have o:=B.cap;have p:=B.len;have f:=B.row.sub (cap:=C) (u:=n) (sz:=5) (bK _) ae;rw[kQ E9 5 Am,Nat.zero_mul,gK]at f;refine⟨by rw[List.map_take,B.eq],by grind,f,λe y j=>B.own (λm=>e (by grind)) y ?_,ae,λx i=>B.ok x (List.mem_of_mem_take i)⟩;have⟨A,E,c⟩:=j;unfold cE at E;cases q with
 |none=>grind
 |some k=>
  split at E
  cases E;exact⟨_,rfl,c⟩;cases E;exact⟨_,rfl,c⟩
theorem RH{k:Nat}(c:R (.B (alone k)) h):Cl 99 #[.U (k:Int)] h R:=by
 refine Af ?_;unfold alone at c;by_cases e:k=1;grind;rw[af (by simp only[dQ];omega)];by_cases f:k=6;grind;rw[af (by grind)];by_cases i:k=7;grind;rw[af (by simp only[dQ];omega)];have:((k:Int)==10)=decide (k=1\/k=6\/k=7\/k=10):=by grind
 rw[this];exact c
theorem VQ(U:mG V d)(o':Fr No d h)(mx:jS.Mx h)(B:jC h D a q l C X)(hl:a.length<=1000000)(hd: ∀b∈a,b.data.length<=80000)(L: iG h R (.B (GD V a))):Cl 55 #[.L q l C] h R:=by
 have el:=B.len;subst el;refine Dk ?_;have c:GD V a=GD V a:=rfl;conv at c=>rhs;unfold GD
 refine⟨λo g=>o=true/\g=h/\a.length<=8/\GD V a=Mz V [] a,λ_ _=>0,aB.of λe' T=> ?_,?_⟩
 .have M:GD V a=false->e' true h:=λe=>by
   subst T;dsimp only;rw[ag rfl];have:=L h (Fr.refl _ _);rw[e]at this;exact this
  by_cases P:a.length=0;rw[ag (by rw[P];decide)];have:a= []:=gO.1 P;exact M (by rw[c,this];rfl);obtain⟨n,hn⟩: ∃n,a.length=n+1:=⟨a.length - 1,ae⟩;have ew:IntKind.wrap .i64 (((a.length:Nat):Int) - 1)=(n:Int):=by rw[hn,fc];omega
  have n':a.getLast? =some a[n]:=by rw[List.getLast?_eq_getElem?,show a.length - 1=n by omega,au ae]
  rw[n']at c;dsimp only at c;rw[ew,dz];by_cases z:a.length<=8
  case neg=>rw[ag (by simp only[bn];omega)];exact M (by rw[c,aT z];rfl)
  rw[dz];rw[aC z,gU]at c;obtain⟨A,x,rfl,v,E,_⟩:=B.get (i:=n) ae;have g':aU h (A.add (n*5))=some (.U ((a[n].ty:Nat):Int)):=by rw[<-E];exact v.1
  have h':aU h ((A.add (n*5)).add 1)=some (.U ((a[n].nr:Nat):Int)):=by rw[<-E];exact v.2.1
  refine⟨ae,ar.2 ⟨_,by rw[aK];exact g',?_⟩⟩;by_cases f:a[n].ty=1
  case neg=>rw[ag (by simp only[fi,ne_eq];omega)];exact M (by rw[c,aT (λe=>f e.1)];rfl)
  rw[af (by simp only[fi,ne_eq];omega)];refine⟨ae,ar.2 ⟨_,by rw[aK];exact h',?_⟩⟩;by_cases j:a[n].nr=1
  case neg=>grind
  rw[show(((a[n].nr:Nat):Int) !=1)=false by simp only[gy];omega];subst T;dsimp only;rw[dz];exact⟨rfl,rfl,z,by rw[c,aC ⟨f,j⟩];rfl⟩
 rintro _ h ⟨rfl,rfl,l8,hf⟩;clear c;refine aB.of λJ1 Z=> ?_;refine⟨λo t g=> ∃i:Nat,t=(i:Int)/\i<=a.length/\o=true/\Fr No h g/\Mz V [] a=Mz V (a.take i) (a.drop i),λ_ t _=>a.length - t.toNat,⟨0,rfl,bK _,rfl,Fr.refl _ _,rfl⟩,?_⟩;rintro _ _ g ⟨i,rfl,hi,rfl,F,m⟩;by_cases s:i<a.length
 case neg=>rw[af (λe=>s (bN (bk e)))];subst Z;have:=L g F;rw[hf,m,dW ae]at this;exact this
 rw[gH];have Bg:=B.on F;obtain⟨A,x,rfl,v,E,d',_⟩:=Bg.get s;rw[cG s]at m;have lx:x.b.data.length<=80000:=by rw[E];exact hd _ (fZ s)
 refine⟨ae,ar.2 (ay.iR (x:=x.s) (by rw[aK];exact v) (ay.gw (x:=x.s) λb h6 eb hb u=>ay.fX hb (Bv x.b U (o'.tt (F.tt u)) (mx.on (F.tt u)) (d'.frame u bC).row d'.cap lx λh7 S=>⟨_,rfl,⟨ae,bN B.cap⟩,?_⟩)))⟩;have O:=u.tt S;have k':=S.get hb id;have z7:=F.tt O;rw[E];have eP: ∀r,Mz V (a.take i) (a[i]::r)=(mO V a[i] && (a.take i).all (apart a[i]) && Mz V (a.take i++ [a[i]]) r):=λr=>rfl;rw[eP]at m;refine⟨λo t I=> ∃k:Nat,t=(k:Int)/\k<=i/\o=(mO V a[i] && (a.take k).all (apart a[i]))/\Fr No h7 I,λ_ t _=>i - t.toNat,⟨0,rfl,bK _,bt,Fr.refl _ _⟩,?_⟩;rintro o _ I ⟨k,rfl,q',c',G⟩;have ei:((Int.toNat (i:Int)) - 0:Nat)=i:=ae
 rw[ei];have w:=F.tt (O.tt G);by_cases m':k<i
 case neg=>
  rw[af (λe=>m' (bN (bk e)))];have:k=i:=ae
  subst this;rw[<-c']at m;cases o with
  |false=>rw[gH];subst Z;have:=L I w;rw[hf,m]at this;exact this
  |true=>rw[dz,dJ (n:=(k:Int)+1) ae ae];refine⟨⟨k+1,ae,ae,rfl,w,?_⟩,by show a.length - Int.toNat ((k:Int)+1)<a.length - Int.toNat (k:Int);omega⟩;rw[m,gU,aV,au s];rfl
 rw[gH];refine aB.of λJ2 i'=> ?_;have B2:=(B.on w).take (n:=i) ae;have lt:(a.take i).length=i:=by rw[bT];omega
 obtain⟨a',y,f',l',ey,r',_⟩:=B2.get (i:=k) ae;rw[List.getElem_take]at ey;have lk:k<a.length:=ae
 have ek:a.take (k+1)=a.take k++ [a[k]]:=by rw[aV,au lk];rfl
 refine⟨ae,bU.2 ⟨a',f',ay.iR (x:=y.s) (by rw[aK];exact l') (ay.gw (x:=y.s) λb1 p p' b' Q=>aB.of λJ3 j'=> ?_)⟩⟩;have K:=(G.tt Q).get k' id;have go: ∀r J,Fr No p J->r=(o && apart a[i] a[k])->J3 r J:=by intro r J f2 er;subst j' i';dsimp only;rw[dJ (n:=(k:Int)+1) ae ae];refine⟨⟨k+1,ae,ae,?_,G.tt (Q.tt f2)⟩,by show i - Int.toNat ((k:Int)+1)<i - Int.toNat (k:Int);omega⟩;rw[er,c',ek,List.all_append,<-gu];simp
 cases hq:o with
 |false=>rw[dz];exact go false p (Fr.refl _ _) (by rw[hq];rfl)
 |true=>
 rw[ag rfl];refine⟨_,ai b',_,ai K,?_⟩;rw[hq]at go;have n1:(((y.s.f1:Int) !=x.s.f1)=decide (a[k].nr≠a[i].nr)):=by grind
 have n2:(((y.s.f0:Int) !=x.s.f0)=decide (a[k].ty≠a[i].ty)):=by grind
 rw[n1];by_cases f:a[k].nr≠a[i].nr
 case neg=>rw[af (dH f)];exact go false p (Fr.refl _ _) (by unfold apart;rw[aT f];rfl)
 rw[ag (aC f)];refine⟨_,ai b',_,ai K,?_⟩;rw[n2];by_cases j:a[k].ty≠a[i].ty;rw[ag (aC j)];exact go true p (Fr.refl _ _) (by unfold apart;rw[aC f,aC j];rfl);rw[af (dH j)];refine⟨_,ai K,?_⟩;rw[show x.s.f0=((a[i].ty:Nat):Int) by rw[<-E]];exact RH ⟨_,rfl,go _ p (Fr.refl _ _) (by unfold apart;rw[aC f,aT j];rfl)⟩
def K5(t:Tr):(EE V t).length<=room t:=by unfold EE;split;exact mf t;simp
theorem NV{t:Tr}{x:CV}(U:mG V d)(u:Fr No d h)(T:iD h D t x)(j:room t<=1000000)(i: ∀H p c (q:Int),Own H p (EE V t).length c 1 (bc (EE V t))->(∀y,aL p y->h.size<=y)->Fr No h H->R (.T #[.slice p (EE V t).length c,.I q]) H):Cl 101 #[x.agg] h R:=by
 unfold EE at i;refine Bi U u T j (λe H p c o n f=> ?_) (λe H f=> ?_);grind;rw[e,dz]at i;exact i H none 0 3 (.nil rfl rfl rfl rfl) (λy ⟨A,e,_⟩=>by cases e) f
abbrev nT.s(b:nT)(q:bZ)(C:Nat):ak.S:=⟨b.p.fl,b.p.sum,b.p.dest.jY,b.p.dest.node,b.p.dest.fK,b.p.dest.host,b.p.dest.jl,b.p.rep.jY,b.p.rep.node,b.p.rep.fK,b.p.rep.host,b.p.rep.jl,b.p.id.e.jY,b.p.id.e.node,b.p.id.e.fK,b.p.id.e.host,b.p.id.e.jl,b.p.id.tm,b.p.id.sq,b.p.gT,q,b.bl.length,C⟩
variable {b:nT}
def Xu{b:Nat}{x:nT}{K:aE.S->Prop}(c:ak.fR h b (x.s q C))(e:K x.p.s):aE.cJ h (AA b 0) K:=
 ⟨_,ai c,_,ai c,_,ai c,_,ai c,_,ai c,_,ai c,_,ai c,_,ai c,_,ai c,_,ai c,_,ai c,_,ai c,_,ai c,_,ai c,_,ai c,_,ai c,_,ai c,_,ai c,_,ai c,_,ai c,e⟩
theorem RI(l':b.p.wf)(U:mG V d)(u:Fr No d h)(mx:jS.Mx h)(B:jC h D b.bl q b.bl.length C X)(hl:b.bl.length<=8)(hd: ∀b'∈b.bl,b'.data.length<=80000)(k1: ∀o,vN V b=some o->o.length<=5000->∀H p c,Own H p o.length c 1 (bc o)->(∀y,aL p y->h.size<=y)->Fr No h H->R (.T #[.L p o.length c,.B true]) H)(k2:vN V b=none->iG h R (.T #[.Z,.B false])):Cl 56 #[(b.s q C).agg] h R:=by
 refine Ag (ak.cV λb1 h1 n' P J=>Xu P (RC b.p l' U (u.tt J) λh2 a' qz z0 z1 K=>aa.ex a'.s ⟨_,rfl,aa.gw (x:=a'.s) λb2 h4 o' h' s=> ?_⟩));have n:=J.tt (K.tt s);have m:vN V b=vN V b:=rfl;conv at m=>rhs;unfold vN
 cases v:qh V b.p with
 |error e=>grind
 |ok t=>
 obtain⟨rfl,tz⟩:=z0 t v;rw[v]at m;dsimp only at m;rw[dz];have rt:=E6 v;have le:=K5 (V:=V) t;refine aa.fX h' (NV U (u.tt n) (tz.on s) ae λh5 p5 c5 q5 o5 n5 M=>⟨_,_,_,_,rfl,_,_,_,ai ((K.tt (s.tt M)).get P id),?_⟩);have F5:=n.tt M;have z4:=n.1;refine⟨λp l c t g=> ∃(i:Nat)(o:cQ),t=(i:Int)/\i<=b.bl.length/\l=o.length/\Own g p o.length c 1 (bc o)/\(∀y,aL p y->h.size<=y)/\Fr No h g/\vN V b=KN V (b.bl.drop i) o/\o.length<=1100+400*i,λ_ _ _ t _=>b.bl.length - t.toNat,⟨0,EE V t,rfl,bK _,rfl,o5,λy z=>bN (n5 y z),F5,m,ae⟩,?_⟩;rintro p _ c _ g ⟨i,o,rfl,hi,rfl,Z,E,F,f,u'⟩;have lb:(b.s q C).Mu=b.bl.length:=rfl;by_cases w:i<b.bl.length
 case neg=>rw[af (λe=>w (by grind))];rw[dW ae]at f;exact k1 o f ae g p c Z E F
 rw[gH];obtain⟨A,x,rfl,hh,ex,S,_⟩:=(B.on F).get w;have lx:x.b.data.length<=80000:=by grind
 refine⟨ae,ar.2 (ay.iR (x:=x.s) (by grind) (ay.gw (x:=x.s) λb3 h8 q' i' k=>ay.fX i' (NU x.b U (u.tt (F.tt k)) (mx.on (F.tt k)) (S.frame k bC).row S.cap lx λh9 y qy y0 y1 O=>aa.ex y.s ⟨_,rfl,aa.gw (x:=y.s) λb4 g' r' j' r=> ?_⟩)))⟩;have I:=F.tt (k.tt (O.tt r));rw[ex]at y0 y1;rw[cG w]at f;have hB: ∀L,KN V (b.bl[i]::L) o=(match xw V b.bl[i]with| .error _=>none| .ok t=>KN V L (o++EE V t)):=λL=>rfl;rw[hB]at f;cases j:xw V b.bl[i]with
 |error e=>rw[ag (by rw[y1 e j];simpa using K4 j)];exact k2 (by rw[f,j]) g' I
 |ok T=>
 obtain⟨rfl,ty⟩:=y0 T j;rw[j]at f;dsimp only at f;rw[dz];have z':=HS j;have v':=K5 (V:=V) T;refine aa.fX j' (NV U (u.tt I) (ty.u.on r) ae λs' x' m' y' k' w' d'=>⟨_,_,_,_,rfl,?_⟩);have G:=k.tt (O.tt (r.tt d'));refine dI gg.tU gg.uU (Z.frame G bC) k'.hT (by rw[ks,cC]) (vA _) ae ae λp' c' t' Q _ e' f'=>⟨_,_,_,rfl,?_⟩;rw[dJ (n:=(i:Int)+1) ae ae];rw[<-lQ,<-aq]at Q;have zG:=(F.tt G).1;refine⟨⟨i+1,o++EE V T,ae,ae,by rw[aq],Q,λy z=> ?_,(F.tt G).fresh e' E,f,by rw[aq];omega⟩,by grind⟩;rcases f' y z with A|A;exact E y A;omega
theorem DI(b':b.p.wf)(U:mG V d)(u:Fr No d h)(P:jS.Mx h)(B:jC h D b.bl q b.bl.length C X)(hl:b.bl.length<=1000000)(L: ∀T∈b.bl,T.data.length<=80000)(k1: ∀o,ku V b=some o->o.length<=600->∀H p c,Own H p o.length c 1 (bc o)->(∀y,aL p y->h.size<=y)->Fr No h H->R (.T #[.L p o.length c,.I 0]) H)(M:ku V b=none->iG h R (.T #[.Z,.I 3])):Cl 20 #[(b.s q C).agg] h R:=by
 have i:ku V b=ku V b:=rfl;conv at i=>rhs;unfold ku
 refine Ai (ak.cV λb1 h1 c' K j=>⟨_,_,_,ai K,VQ U (u.tt j) (P.on j) (B.on j) hl L λh2 G=>⟨_,rfl,?_⟩⟩);have F:=j.tt G;cases n:GD V b.bl with
 |false=>grind
 |true=>
 rw[n,ag rfl]at i;rw[dz];have l8:b.bl.length<=8:=by unfold GD at n;split at n;cases n;grind
 refine ak.fX (G.get K id) (RI b' U (u.tt F) (P.on F) (B.on F) l8 L (λo ho lo f p c ow nw k=>⟨_,_,_,_,rfl,aB.of λJ t=> ?_⟩) (λhn f k=>⟨_,_,_,_,rfl,aB.of λJ t=> ?_⟩))
 case refine_2=>rw[gH];subst t;dsimp only;rw[ag rfl];exact M (by rw[i,hn]) f (F.tt k)
 rw[ho]at i;dsimp only at i;rw[dz];subst t;dsimp only;by_cases z:o.length<=598
 case neg=>rw[ag (by simp only[bn];omega)];exact M (by rw[i,af z]) f (F.tt k)
 rw[af (by grind)];rw[ag z]at i;have x:=F.tt k;have z3:=x.1;refine cg ?_;have r:Fr No f (f.push (.C #[.int .u8 159] 5)):=Fr.push _ _;have o5:Own (f.push (.C #[.int .u8 159] 5)) (Sa f.size 0) 1 1 1 (bc [159]):=by
  exact .row f.size 0 #[.int .u8 159] 5 rfl bR (bu _) bt rfl (λa' d' v=>by
   match a',v with
   |0,v=>exact v)
 refine dI gg.tU gg.uU o5 ((ow.frame r bC).hT) (by rw[ks,cC]) (vA _) ae ae λp6 c6 m o6 _ I g6=>⟨_,_,_,rfl,cg ?_⟩;have s:Fr No m (m.push (.C #[.int .u8 255] 5)):=Fr.push _ _;have z5:=r.1;have z6:=I.1;have z7:=s.1;refine dI gg.tU gg.uU (o6.frame s bC) (q:=some (AA m.size 0)) (ds:=bc [255]) jj rfl (vA _) ae ae λp8 Z h8 O _ f8 g8=>⟨_,_,_,rfl,?_⟩;rw[<-lQ,<-lQ]at O;have el:1+o.length+1=(159::(o++ [255])).length:=by simp;omega
 rw[el]at O⊢;have Q: ∀y,aL p6 y->f.size<=y:=λy w=>by rcases g6 y w with⟨A,e,E⟩|A;cases e;rw[<-E];exact bu _;omega
 have S:Fr No f m:=r.fresh I (λy ⟨A,e,E⟩=>by grind);refine k1 _ i (by simp;omega) h8 p8 Z O (λy w=> ?_) (x.tt ((S.tt s).fresh f8 Q));rcases g8 y w with A|A;have:=Q y A;omega;omega
def xg(w:b.p.wf)(U:mG V d)(u:Fr No d h)(M:jS.Mx h)(B:jC h D b.bl q b.bl.length C X)(n:b.bl.length<=1000000)(m: ∀j∈b.bl,j.data.length<=80000)(i: iG h R (.B (ku V b).isSome)):Cl 199 #[(b.s q C).agg] h R:=by
 refine Ah (ak.cV λs t E k f=>ak.fX k (DI w U (u.tt f) (M.on f) (B.on f) n m (λO r L e p c x v F=>⟨_,_,_,_,rfl,?_⟩) (λo e F=>⟨_,_,_,_,rfl,?_⟩)));have:=i e (f.tt F);rw[r]at this;exact this;have:=i e (f.tt F);rw[o]at this;exact this
theorem Fa(B:jC h D b.bl q b.bl.length C X)(M:b.bl.length<=1000000)(K: ∀j∈b.bl,j.data.length<=80000)(f: ∀H p c,Own H p (vP b).length c 1 (bc (vP b))->(∀y,aL p y->h.size<=y)->Fr No h H->R (.slice p (vP b).length c) H):Cl 264 #[(b.s q C).agg] h R:=by
 have L:(b.s q C).Mu=b.bl.length:=rfl;refine xD (ak.cV λI u J i F=>⟨_,_,_,ai i,?_⟩);by_cases k:b.bl.length=0;rw[ag (by simp only[dQ];omega)];have E:=gO.1 k;have:vP b= []:=by unfold vP;rw[E];rfl
 rw[this]at f;exact f u none 0 (.nil rfl rfl rfl rfl) (λy ⟨A,e,_⟩=>by cases e) F;rw[af (by grind)];have⟨n,G⟩: ∃n,b.bl.length=n+1:=⟨b.bl.length - 1,ae⟩;have r:IntKind.wrap .i64 (((b.bl.length:Nat)) - 1)=(n):=by rw[G,fc];omega
 have z:b.bl.getLast? =some b.bl[n]:=by grind
 have m:vP b=b.bl[n].data:=by unfold vP;rw[z]
 refine⟨_,_,_,ai i,_,_,_,ai i,?_⟩;rw[L,r];obtain⟨A,x,rfl,w,s,O,_⟩:=(B.on F).get (i:=n) ae;refine⟨ae,ar.2 ⟨_,_,_,by exact w.2.2.2.2.1,gg.hY O.row rfl (by grind) λp c v o t Q=>⟨_,_,_,rfl,?_⟩⟩⟩;rw[m,<-s]at f;exact f v p c o (λy P=>by grind) (F.tt t)

end Bn
end
section
namespace Bn
open Cb
open ju (Ev cY mh)
variable {V:cQ→Bool} {h d H g G:aA} {R:fp} {D:Nat→Prop}
variable {b cl c l:Nat} {q:bZ} {p:Prim} {a:List oX} {X:List BB}
def tK:pJ Tryz.prog 71 134 5 56 (.agg #[.U 0,.U 0,.U 0,.I 0,.Z]):=⟨cZ,cZ,rfl⟩
def uK:Tryz.prog.underlying 71=some (.slice 134):=cZ
def RJ{x:nT}{K:dw}(k:ak.fR h b (x.s q cl))(n: ∀H,ak.fR H b (nT.s ⟨p,x.bl⟩ q cl)->Fr (λy=>y=b) h H->K H):aE.dv h (AA b 0) p.s K:=
 (show dG (AA b 0) p.s.l 0 h K from mN k bt rfl rfl λj e f i=>n j e (Fr.of_eq f λC m=>i C m))
def Fb{y x:ak.S}{K:ak.S->dw}(i:ak.fR h b y)(j: ∀H,Fr (λy=>y=b) h H->K x H):
  ak.dv h (AA b 0) x λg=>ak.cJ g (AA b 0) λr=>K r g:=
 ak.iB i λg e f _=>ak.fX e (j g f)
structure Bc (G g:aA) (c:Nat) (p:Prim) (a:List oX) (X:List BB) (q:bZ) (cl:Nat):Prop where
 cN:ak.fR g c (nT.s ⟨p,a⟩ q cl)
 own:Own g q X.length cl 5 (X.flatMap E9)
 ge: ∀y,aL q y->G.size<=y/\y≠c
 eq:X.map BB.b=a
 ok: ∀x∈X,BV.ok g (λy=>(G.size<=y/\y≠c)/\¬aL q y) ⟨x.p,x.c,x.b.data⟩
 fr:Fr (λy=>y=c) G g
def Bc.on(L:Bc G g c p a X q cl)(f:Fr No g H):Bc G H c p a X q cl:=
 ⟨f.get L.cN id,L.own.frame f bC,L.ge,L.eq,λx e=>(L.ok x e).frame f bC,L.fr.on f⟩
def Bc.len(L:Bc G g c p a X q cl):X.length=a.length:=by rw[<-L.eq,aw]
def Bc.to(L:Bc G g c p a X q cl):jC g (λy=>G.size<=y/\y≠c) a q a.length cl X:=
 ⟨L.eq,rfl,L.own.hT,λ_=>L.ge,gM L.own.le L.len,λx e=>(L.ok x e).mono λy f=>f.1⟩
theorem Ya{x:BB}{u:dw}(L:Bc G g c p a X q cl)(hl:l=X.length)(ll:X.length<=1000000)(ox:BV.ok g (λy=>(G.size<=y/\y≠c)/\¬aL q y) ⟨x.p,x.c,x.b.data⟩)(hk: ∀k c' Q C,Bc G k c p (a++ [x.b]) c' Q C->g.size<=k.size->u k):
  aW g (.C x.s.arr 134) λv S=>bM Tryz.prog (Builtin.append_ #[71,71] 71 #[.L q l cl,.L (Sa v 0) 1 1]) S λb' U=>∃s T t,b'=.L s T t/\aO U (AA c 20) (.L s T t) λZ=>u Z:=by
 subst hl;refine ay.cV λb2 h7 d' n F=> ?_;have z7:=F.1;have zg:=L.fr.1;have e':=aD n;have f':=aD L.cN;have nq: ∀y,aL q y->y<g.size:=λy f=>L.own.dk f;refine dI tK uK (L.own.frame F bC) (ds:=E9 x) (.inr ⟨_,rfl,ay.jw (x:=x.s) n⟩) rfl (RG x) ae ae λQ C P a' _ i O=>⟨_,_,_,rfl,?_⟩;have B:=i.get (F.get L.cN id) (λf=>(L.ge _ f).2 rfl);refine bf B (by show 20<21;omega) λm E I J=> ?_;have j:Fr (λy=>y=c) P m:=Fr.of_eq I (λz hc=>J z hc);have r: ∀y,aL Q y->G.size<=y/\y≠c:=λy f=>by rcases O y f with A|A;exact L.ge y A;omega
 have K:X.flatMap E9++E9 x=(X++ [x]).flatMap E9:=bt
 have M:(a++ [x.b]).length=X.length+1:=by rw[aq,L.len];rfl
 refine hk m (X++ [x]) Q C ⟨?_,?_,r,?_,?_,?_⟩ ?_;unfold ak.fR nT.s;rw[M];exact E;rw[aq,<-K];exact a'.frame j (λy f e=>bN (r y f));rw[aS,L.eq];rfl;intro y f;have key: ∀w:BB,BV.ok g (λy=>(G.size<=y/\y≠c)/\¬aL q y) ⟨w.p,w.c,w.b.data⟩->BV.ok m (λy=>(G.size<=y/\y≠c)/\¬aL Q y) ⟨w.p,w.c,w.b.data⟩:=λw ow=>by have o1:=((NN ow).frame F bC).frame i (λy f o=>f.1.2 o);have o2:=o1.mono (D':=λy=>(G.size<=y/\y≠c)/\¬aL Q y) (λy f=>⟨f.1.1,λo=>by grind⟩);exact o2.frame j (λy f e=>ae)
 rcases bP.1 f with A|A;exact key y (L.ok y A);grind;exact((L.fr.on F).trans i (S'':=λy=>y=c) bC (λx hx f=>bN (L.ge x f))).trans j bC bC;have:=i.1;omega
def RL{t:Tr}{b:oX}(h:ED V t=.ok b):b.data.length<=200:=by
 unfold ED at h;split at h;cases h;split at h
 split at h
 rename_i e;split at h;cases h;unfold xw at e;split at e;rename_i f;exact(Bw f).2.2.1;cases e;cases h;cases h;cases h
theorem RM{b:nT}(h:(ku V b).isSome=true):b.bl.length<=8/\b.bl≠ []:=by unfold ku at h;split at h;rename_i e;unfold GD at e;split at e;cases e;grind;cases h
def nT.zs:ak.S:=.z
def DJ{a:cQ}{p:bZ}{m':Nat}(U:mG V d)(d':Fr No d h)(mx:jS.Mx h)(K':Row h p (bc a))(hl:l=a.length)(cap:a.length<=m')(k1: ∀b,mj V a=.ok b->b.p.wf->(∀s∈b.bl,s.data.length<=200)->b.bl.length<=8->∀H q cl X,jC H (λy=>h.size<=y) b.bl q b.bl.length cl X->Fr No h H->R (.T #[(b.s q cl).agg,.I 0]) H)(k2: ∀e,mj V a=.error e->e≠0->iG h R (.T #[ak.S.z.agg,.I e])):Cl 136 #[.L p l m'] h R:=by
 subst hl;have k:mj V a=mj V a:=rfl;conv at k=>rhs;unfold mj
 refine By (ak.cV λb h1 eb hb A=> ?_);have zb:=aD hb;have z1:=A.1;have J: ∀g e,Fr No h1 g->mj V a=.error e->e≠0->ak.dv g (AA b 0) .z λv=>ak.cJ v (AA b 0) λJ'=>R (.T #[J'.agg,.I e]) v:=λg e fg j m=>Fb (fg.get hb id) λv f=>k2 e j m v ((A.tt fg).fresh f (λy e=>ae));by_cases c0:a.length<=1200
 case neg=>rw[ag (by simp only[bn];omega)];exact J h1 2 (Fr.refl _ _) (by rw[k,af c0]) cW
 rw[dz];rw[ag c0]at k;refine zU (U.mono (d'.tt A)) (K'.frame A bC) rfl cap ae (λh3 t x nx O tx u=>aa.ex x.s ⟨_,_,rfl,aa.gw (x:=x.s) λb1 w y' I n=> ?_⟩) (λh3 e j u=>aa.ex zv.s ⟨_,_,rfl,aa.gw (x:=zv.s) λb1 w y' I n=> ?_⟩)
 case refine_2=>rw[ag (dH (oJ j))];exact J w e (u.tt n) (by rw[k,j]) (oJ j)
 rw[O]at k;dsimp only at k;obtain⟨rt,R'⟩:=vH O;rw[dz];have z:=A.tt (u.tt n);obtain⟨xk,xn,xb,xl,xv,ys,L,TS⟩:=iD.kn (tx.u.on n);have rl:=mn (t:=t);have ln:=TS.len;refine aB.of λu' hJ=> ?_;have K: ¬(nx=a.length/\t.k=4/\2<=t.l.length/\t.l.length<=9)->u' true w:=λm=>by subst hJ;dsimp only;rw[ag rfl];exact J w 3 (u.tt n) (by rw[k,af m]) cW
 have sl:x.s.JT=t.l.length:=xl;by_cases c1:nx=a.length
 case neg=>rw[ag (by simp only[fi,ne_eq];omega)];exact K (λe=>c1 e.1)
 rw[af (by simp only[fi,ne_eq];omega)];refine⟨_,ai I,?_⟩;rw[show x.s.f0=t.k from xk];by_cases Z:t.k=4
 case neg=>rw[ag (dH Z)];exact K (λe=>Z e.2.1)
 rw[af (dH Z)];refine⟨_,_,_,ai I,?_⟩;by_cases c3:2<=t.l.length
 case neg=>rw[ag (by simp only[bn];omega)];exact K (λe=>c3 e.2.2.1)
 rw[dz];refine⟨_,_,_,ai I,?_⟩;by_cases c4:t.l.length<=9
 case neg=>rw[show decide ((x.s.JT:Int)>9)=true by simp only[bn];omega];exact K (λe=>c4 e.2.2.2)
 rw[show decide ((x.s.JT:Int)>9)=false by simp only[eK];omega];clear K;rw[ag ⟨c1,Z,c3,c4⟩]at k;subst hJ;try dsimp only
 rw[dz];have z5:=z.1;have T':=(u.tt n).1;refine ak.cV λb2 h9 O' i' r=> ?_;have z9:=r.1;have U':=aD i';obtain⟨a0,y0,w',H',L',_⟩:=elem (L.frame r bC) (TS.on r) (i:=0) ae;have r0:=jH (ts:=t.l) (i:=0) ae;have F9:=z.tt r;refine⟨_,_,_,ai (r.get I id),ae,bU.2 ⟨a0,w',aa.iR (x:=y0.s) H' ?_⟩⟩;refine RE U (d'.tt F9) (mx.on F9) L' ae (λpr hp wp C' C=>aE.ex pr.s ⟨_,rfl,RJ (x:=⟨Prim.zero, []⟩) (p:=pr) (q:=none) (cl:=0) (C.get i' id) λg' n' a'=> ?_⟩) (λe j m C' C=>aE.ex Prim.zero.s ⟨_,rfl,RJ (x:=⟨Prim.zero, []⟩) (p:=Prim.zero) (q:=none) (cl:=0) (C.get i' id) λg' n' a'=> ?_⟩)
 case refine_2=>rw[ag (dH m)];exact J g' e ((u.tt (n.tt (r.tt C))).fresh a' (λy e=>ae)) (by rw[k,j]) m
 rw[dz];rw[hp]at k;dsimp only at k;have t':Fr No w g':=(r.tt C).fresh a' (λy e=>ae);refine⟨_,_,_,ai (t'.get I id),ae,?_⟩;have e1:Int.toNat 1=1:=rfl;rw[e1,sl];refine⟨λT g=> ∃(i:Nat)(o:List oX)(X:List BB)(q:bZ)(cl:Nat),T=(i:Int)/\i+1<=t.l.length/\o.length=i/\Bc w g b2 pr o X q cl/\(∀s∈o,s.data.length<=200)/\mj V a=(match KO V (t.l.drop (i+1)) o with| .error e=> .error e| .ok l=>if(ku V ⟨pr,l⟩).isSome=true then .ok ⟨pr,l⟩else .error 3),λT _=>t.l.length - 1 - T.toNat,⟨0, [], [],none,0,rfl,ae,rfl,⟨n',.nil rfl rfl rfl rfl,(λy ⟨Q,e,_⟩=>by cases e),rfl,(λx hx=>by cases hx),(r.tt C).mono (λ_ _=>False.elim)|>.tt a'⟩,(λx hx=>by cases hx),k⟩,?_⟩;rintro _ g ⟨i,o,X,q,cl,rfl,hi,ho,B,hd,j⟩;have F:Fr No w g:=(Fr.refl _ _).fresh B.fr (λy e=>ae);have P:Fr No h1 g:=u.tt (n.tt F);by_cases c':i+1<t.l.length
 case neg=>
  rw[af (λe=>c' (bN (bk e)))];rw[dW ae]at j;have j:mj V a=if(ku V ⟨pr,o⟩).isSome=true then .ok ⟨pr,o⟩else .error 3:=j;refine ak.fX B.cN (xg (b:=⟨pr,o⟩) wp U (d'.tt (z.tt F)) (mx.on (z.tt F)) B.to (by show o.length<=_;omega) (λs h'=>bN (hd s h')) λE' M=>⟨_,rfl,?_⟩);cases hw:(ku V ⟨pr,o⟩).isSome with
  |false=>rw[gH];exact J E' 3 (P.tt M) (by rw[j,hw];rfl) cW
  |true=>rw[hw,ag rfl]at j;rw[dz];refine ak.fX (M.get B.cN id) (Fb ((P.tt M).get hb id) λv f=>k1 ⟨pr,o⟩ j wp hd (RM hw).1 v q cl X ?_ ((A.tt (P.tt M)).fresh f (λy e=>ae)));exact((B.to.on M).frame f (λy hy e=>ae)).mono λy hy=>ae
 rw[gH];have G':t.l.drop (i+1)=at_ t.l (i+1)::t.l.drop (i+1+1):=by rw[cG c'];unfold at_;rw[bx,au c'];rfl
 rw[G']at j;have hB: ∀T l',KO V (T::l') o=(match ED V T with| .error e=> .error e| .ok b=>KO V l' (o++ [b])):=λ_ _=>rfl;rw[hB]at j;have Lg:=L.frame F bC;have cc:x.ll<=x.cl:=L.cap;have L2:nV g (λ_=>True) (cE x.s.VE x.s.Ti 1 4) (t.l.length - 1) (x.s.Ti - 1) (ys.drop 1):=by have O:=Lg.row.sub (cap:=x.cl) (l:=1) (u:=t.l.length) (sz:=4) ae ae;rw[kQ kx 4 iy,kR kx 4 iy,aX ae]at O;exact⟨by rw[cR];omega,O,λ_ _ _=>trivial,by show _<=x.cl - 1;omega⟩
 have T2:GN g (t.l.drop 1) (ys.drop 1):=(TS.on F).drop 1;obtain⟨a1,y1,x',I',s',_⟩:=elem L2 T2 (i:=i) (by rw[cR];omega);have ei:at_ (t.l.drop 1) i=at_ t.l (i+1):=by unfold at_;rw[bx,bx,fC,Nat.add_comm]
 rw[ei]at s';have r1:=jH (ts:=t.l) (i:=i+1) c';refine⟨ae,bU.2 ⟨a1,x',aa.iR (x:=y1.s) (by rw[aK];exact I') (aa.gw (x:=y1.s) λb3 Q' P' F' E=>aa.fX F' ?_)⟩⟩;have zg:=F.1;refine TV U (d'.tt (z.tt (F.tt E))) (mx.on (z.tt (F.tt E))) (s'.on E) ae (λS r' D' j' e' ov f'=>ay.ex (S.s j' e') ⟨_,rfl,ay.gw (x:=S.s j' e') λb4 o' z' p' b'=> ?_⟩) (λe hE m D' f'=>ay.ex .z ⟨_,rfl,ay.gw (x:=.z) λb4 o' z' p' b'=> ?_⟩)
 case refine_2=>rw[ag (dH m)];exact J o' e (P.tt (E.tt (f'.tt b'))) (by rw[j,hE]) m
 rw[dz];rw[r']at j;dsimp only at j;have A':=E.tt (f'.tt b');have k':=B.on A';have S':=E.1;have nq: ∀y,aL q y->y<g.size:=λy hy=>B.own.dk hy;have V':=aD B.cN;refine⟨_,_,_,ai k'.cN,ay.fX p' (Ya (x:=⟨S,j',e'⟩) k' (by show o.length=_;exact B.len.symm) (bN B.len) ((ov.frame b' bC).mono λy hy=>⟨ae,λhq=>bN (nq y hq)⟩) λv M' q' v' B' X'=> ?_)⟩;rw[dJ (n:=(i:Int)+1) ae ae];refine⟨⟨i+1,o++ [S],M',q',v',ae,ae,by rw[aq,ho];rfl,B',λs h'=> ?_,j⟩,by show t.l.length - 1 - Int.toNat ((i:Int)+1)<t.l.length - 1 - Int.toNat (i:Int);omega⟩;rcases bP.1 h' with Q|Q;exact hd s Q;rw[bW.1 Q];exact RL r'

end Bn
end
section
variable {h:aA} {R:fp}
variable {x:aR.S}
def Dn{a:aR.S}{b:aR.S} (l:aW h (.C a.arr 36) λB j=>aW j (.C b.arr 36) λc H=>Hu H B 0 λA=> ∃i,Cc H c 0 (.U i)/\ite (A==i) (Hi H B 1 λm=> ∃t,Cc H c 1 (.I t)/\ite (m==t) (Hu H B 2 λn=> ∃T,Cc H c 2 (.U T)/\ite (n==T) (Hi H B 3 λo=> ∃e,Cc H c 3 (.I e)/\ite (o==e) (aI.cJ H (AA B 4) λp=>aI.cJ H (AA c 4) λq=>Cl 119 #[p.agg,q.agg] H λv d=> ∃f,v=.B f/\ite f (Hl d B 23 λu s r=>Hl d c 23 λz y w=>Cl 35 #[.L u s r,.L z y w] d λV k=> ∃g,V=.B g/\R (.B g) k) (R (.B false) d)) (R (.B false) H)) (R (.B false) H)) (R (.B false) H)) (R (.B false) H)):Cl 84 #[a.agg,b.agg] h R:=aP [] l
def Fc (E:aW h (.C x.arr 36) λb r=>aR.NW r λi a=>Hu a b 0 λM=>Hi a b 1 λO=>aR.NW a λB A=>aR.dv A (AA B 0) ⟨M,O,0,0,0,0,false,0,0,(⟨#[]⟩:cF),(⟨#[]⟩:cF),false,0,0,(⟨#[]⟩:cF),(⟨#[]⟩:cF),0,0,0,none,0,0,0,0,false,none,0,0⟩ λc=>Hi c b 1 λt=>aB (λl=>aR.cJ l (AA B 0) λL=>aR.dv l (AA i 0) L λm=>aR.cJ m (AA i 0) λF=>R (F.agg) m) (λJ=>aB (λ(G:Bool) H=>aB (λC=>J C) (λd=>ite G (∃T,Cc H b 2 (.U T)/\aO H (AA B 2) (.U T) λD=>d D) (aB (λs=>d s) (λe=>ite (t==3) (∃n,Cc H b 3 (.I n)/\aO H (AA B 3) (.I n) λu=>e u) (aB (λv=>e v) (λf=>ite (t==4) (Hi H b 3 λI=>aI.cJ H (AA b 4) λK=>aO H (AA B 3) (.I I) λk=>Kp H k [(Sa b 4)]/\aI.dv k (AA B 4) K λw=>f w) (aB (λy=>f y) (λg=>ite (t==5) (∃q p o,Cc H b 23 (.L q p o)/\aO H (AA B 23) (.L q p o) λz=>g z) (g H))))))))) (λj=>ite (t==1) (j (t==1) c) (j (t==2) c)))):Cl 85 #[x.agg] h R:=aP [(7,.join []),(11,.join [(11,sB)]),(14,.join []),(18,.join []),(22,.join []),(23,λ_=>pK 8),(26,.join [])] E
def vU{n:Int}(H:ite (decide (n≥1)) (R (.B (decide (n<=1099511627776))) h) (R (.B false) h)):Cl 120 #[.I n] h R:=aP [] H
def Bz (r:aW h (.C x.arr 36) λb c=>Hi c b 1 λt=>aB (λ(B:Bool) H=>ite B (∃o,Cc H b 2 (.U o)/\ite (decide (o≥1)) (∃T,Cc H b 2 (.U T)/\R (.B (decide (T<=2147483648))) H) (R (.B false) H)) (ite (t==3) (Hi H b 3 λs=>Cl 120 #[.I s] H λv p=> ∃e,v=.B e/\R (.B e) p) (ite (t==4) (Hi H b 3 λu=>Cl 120 #[.I u] H λV d=> ∃f,V=.B f/\ite f (aI.cJ d (AA b 4) λw=>Cl 121 #[w.agg] d λC a=> ∃g,C=.B g/\ite g (∃i,Cc a b 5 (.I i)/\ite (i !=11) (∃j,Cc a b 5 (.I j)/\R (.B (j !=12)) a) (R (.B false) a)) (R (.B false) a)) (R (.B false) d)) (ite (t==5) (Hl H b 23 λA z y=>Cl 122 #[.L A z y] H λD q=> ∃k,D=.B k/\R (.B k) q) (∃l,Cc H b 1 (.I l)/\ite (l==6) (R (.B true) H) (∃m,Cc H b 1 (.I m)/\ite (m==7) (R (.B true) H) (∃n,Cc H b 1 (.I n)/\R (.B (n==8)) H))))))) (λJ=>ite (t==1) (J (t==1) c) (J (t==2) c))):Cl 86 #[x.agg] h R:=aP [(9,.join [(5,sB)])] r
def BA(g:aW h (.C x.arr 36) λb H=> ∃e,Cc H b 0 (.U e)/\ite (decide (e<=1099511627776)) (aR.cJ H (AA b 0) λj=>aR.cJ H (AA b 0) λk=>Cl 85 #[k.agg] H λv c=>aR.EX λf=>v=f.agg/\Kp H c [(Sa b 0),(Sa b 0)]/\Cl 84 #[j.agg,f.agg] c λV a=> ∃t,V=.B t/\Kp c a [(Sa b 0)]/\ite t (aR.cJ a (AA b 0) λi=>Cl 86 #[i.agg] a λl d=> ∃T,l=.B T/\Kp a d [(Sa b 0)]/\R (.B T) d) (R (.B false) a)) (R (.B false) H)):Cl 49 #[x.agg] h R:=aP [(3,λ_=>pK 14)] g
def vV{c:bZ}{a B:Nat}(n:Cl 136 #[.L c a B] h λv k=>ak.EX λi=> ∃j,v=.T #[i.agg,.I j]/\ak.NW k λb l=>ak.dv l (AA b 0) i λH=>ite (j !=0) (R (.B false) H) (ak.cJ H (AA b 0) λo=>Cl 20 #[o.agg] H λV d=> ∃e T t f,V=.T #[.L e T t,.I f]/\ite (f==0) (Cl 35 #[.L c a B,.L e T t] d λp m=> ∃g,p=.B g/\R (.B g) m) (R (.B false) d))):Cl 122 #[.L c a B] h R:=aP [] n

end
section
namespace Jk
open Go.Proofs.YtelbcloplcdchaaGreatDoor.Ask (Rq mP vQ Ru bq)
open Bn (mj ku vO nT)
variable {V:cQ→Bool} {h H a g:aA} {R:fp} {p q P Q:bZ} {c d C D:Nat}
variable {b:Nat} {K:aA->Prop}
def Pl{f:cQ}{l:Nat}(U:Cb.mG V a)(u:Fr No a h)(M:jS.Mx h)(z:Row h p (bc f))(v:l=f.length)(cap:f.length<=c)(i: iG h R (.B (vO V f))):Cl 122 #[.L p l c] h R:=by
 subst v;unfold vO at i;refine vV (Bn.DJ U u M z rfl cap (λb I w J v G q m xs B n=>ak.ex (b.s q m) ⟨_,rfl,ak.gw (x:=b.s q m) λA s E t j=> ?_⟩) (λe L S G n=>ak.ex .z ⟨_,rfl,ak.gw (x:=.z) λA s E t j=> ?_⟩))
 case refine_2=>rw[L]at i;rw[ag (dH S)];exact i s (n.tt j)
 rw[I]at i;dsimp only at i;rw[dz];have F:=n.tt j;refine ak.fX (x:=b.s q m) t (Bn.DI w U (u.tt F) (M.on F) (B.on j) ae (λy T=>bN (J y T)) (λO r lo o p4 Z X n4 k=>⟨_,_,_,_,rfl,?_⟩) (λr o k=>⟨_,_,_,_,rfl,?_⟩));rw[gH];refine Cb.jg (z.frame (F.tt k) bC) X.hT rfl rfl ⟨_,rfl,?_⟩;have e:decide (f=O)=decide (ku V b=some f):=by rw[r];by_cases e:f=O;rw[aC e,aC (by rw[e])];rw[aT e,aT (λq=>e (bF q).symm)]
 rw[e];exact i o (F.tt k);rw[dz];have:=i o (F.tt k);rw[aT (by rw[r];intro e;cases e)]at this;exact this
structure xE where
 now:Nat
 kind:Int
 token:Nat
 ses:Int
 kO:Rq
 data:cQ
deriving DecidableEq
def Rq.none:Rq:=⟨0,0,.zero,.zero,0,0,0, [],0,0,false⟩
abbrev xE.s(x:xE)(p:bZ)(c:Nat)(q:bZ)(d:Nat):aR.S:=⟨x.now,x.kind,x.token,x.ses,x.kO.id,x.kO.kind,x.kO.ep.jY,x.kO.ep.node,x.kO.ep.fK,x.kO.ep.host,x.kO.ep.jl,x.kO.dest.jY,x.kO.dest.node,x.kO.dest.fK,x.kO.dest.host,x.kO.dest.jl,x.kO.lS,x.kO.num,x.kO.kV,p,x.kO.nL.length,c,x.kO.gT,x.kO.token,x.kO.on,q,x.data.length,d⟩
variable {x:xE}
def oh(x:xE):xE:=⟨x.now,x.kind,0,0,Rq.none, []⟩
def yF(x:xE):xE:=
 if x.kind=1\/x.kind=2 then { oh x with token:=x.token }
 else if x.kind=3 then { oh x with ses:=x.ses }
 else if x.kind=4 then { oh x with ses:=x.ses,kO:=x.kO }
 else if x.kind=5 then { oh x with data:=x.data }
 else oh x
def isS(n:Int):Bool:=decide (n≥1) && decide (n<=1099511627776)
def yG(V:kF)(x:xE):Bool:=
 if x.kind=1\/x.kind=2 then decide (x.token≥1) && decide (x.token<=2147483648)
 else if x.kind=3 then isS x.ses
 else if x.kind=4 then isS x.ses && mP x.kO && (x.kO.kind !=11) && (x.kO.kind !=12)
 else if x.kind=5 then vO V x.data
 else decide (x.kind=6\/x.kind=7\/x.kind=8)
def DK(V:kF)(x:xE):Bool:=decide (x.now<=1099511627776) && decide (x=yF x) && yG V x
def Pm{K:aI.S->Prop}(e:aR.fR h b (x.s p c q d))(f:K (x.kO.s p c)):aI.cJ h (AA b 4) K:=
 ⟨_,ai e,_,ai e,_,ai e,_,ai e,_,ai e,_,ai e,_,ai e,_,ai e,_,ai e,_,ai e,_,ai e,_,ai e,_,ai e,_,ai e,_,ai e,_,_,_,ai e,_,ai e,_,ai e,_,ai e,f⟩
def Yb{r:Rq}(k:aR.fR h b (x.s p c q d))(m: ∀H,aR.fR H b (({ x with kO:=r } :xE).s P C q d)->Fr (λy=>y=b) h H->K H):aI.dv h (AA b 4) (r.s P C) K:=
 (show dG (AA b 4) (r.s P C).l 0 h K from mN k bt rfl rfl λj e f i=>m j e (Fr.of_eq f λc l=>i c l))
theorem Jl{i:Nat}{y z:aR.S}{v:Value}(k:aR.fR h b y)(m:i<24)(r:y.arr.setIfInBounds i v=z.arr)(n: ∀H,aR.fR H b z->Fr (λy=>y=b) h H->K H):aO h (AA b i) v K:=
 bf k m λj o e f=>n j (by grind) (Fr.of_eq e λc l=>f c l)
def Yc(x y:xE):decide (x=y)=(((x.now:Int)==(y.now:Int)) && ((x.kind==y.kind) && (((x.token:Int)==(y.token:Int)) && ((x.ses==y.ses) && (decide (x.kO=y.kO) && decide (x.data=y.data)))))):=by rw[Bool.eq_iff_iff];cases x;cases y;simp[Int.ofNat_inj]
def RN(x y:xE)(s:Row h p (bc x.kO.nL))(t:Row h P (bc y.kO.nL))(l:Row h q (bc x.data))(m:Row h Q (bc y.data))(e: iG h R (.B (decide (x=y)))):Cl 84 #[(x.s p c q d).agg,(y.s P C Q D).agg] h R:=by refine Dn (aR.cV λb v E r n=>aR.cV λB w u i k=> ?_);have j:=k.get r id;have F:=n.tt k;simp only[Yc]at e;exact⟨_,ai j,_,ai i,kZ e F λe=>⟨_,ai j,_,ai i,kZ e F λe=>⟨_,ai j,_,ai i,kZ e F λe=>⟨_,ai j,_,ai i,kZ e F λe=>Pm j (Pm i (Ask.K0 x.kO y.kO (s.frame F bC) (t.frame F bC) λo f=>⟨_,rfl,kZ e (F.tt f) λe=>⟨_,_,_,ai (f.get j id),_,_,_,ai (f.get i id),Cb.jg (l.frame (F.tt f) bC) (m.frame (F.tt f) bC) rfl rfl ⟨_,rfl,e o (F.tt f)⟩⟩⟩))⟩⟩⟩⟩
theorem TW(x:xE)(rx:Row h p (bc x.kO.nL))(dx:Row h q (bc x.data))(hk: ∀H P C Q D,Row H P (bc (yF x).kO.nL)->Row H Q (bc (yF x).data)->Fr No h H->R ((yF x).s P C Q D).agg H):Cl 85 #[(x.s p c q d).agg] h R:=by
 refine Fc (aR.cV λb h1 eb u O=>aR.cV λb1 h2 c' U F=>⟨_,ai (F.get u id),_,ai (F.get u id),aR.gw (x:=(oh x).s none 0 none 0) λB I d' r S=> ?_⟩);have l:=(F.tt S).get u id;have zb:=aD u;have e':=aD U;have z1:=O.1;have z2:=F.1;have ne:b≠B:=ae
 refine⟨_,ai l,aB.of λJ hJ=>aB.of λZ a'=> ?_⟩;have fin: ∀g P C Q D,aR.fR g B ((yF x).s P C Q D)->Row h P (bc (yF x).kO.nL)->Row h Q (bc (yF x).data)->Fr (λy=>y=B) I g->J g:=by intro g P C Q D hg hr hd fg;have M:Fr No h2 g:=S.fresh fg (λy e=>ae);have G:=(O.tt F).tt M;subst hJ;refine aR.fX hg (aR.iB (x:=(yF x).s P C Q D) (M.get U id) λh6 d6 A _=>aR.fX d6 ?_);have z:=G.fresh A (λy e=>ae);exact hk h6 P C Q D (hr.frame z bC) (hd.frame z bC) z
 have n:Row h none (bc []):=Row.nil;have b': ∀v,(v=true↔x.kind=1\/x.kind=2)->Z v I:=by intro v X;subst a';dsimp only;refine aB.of λJ2 o=> ?_;by_cases k:x.kind=1\/x.kind=2;have E:yF x= { oh x with token:=x.token } :=ag k;rw[E]at fin;rw[ag (X.2 k)];exact⟨_,ai l,Jl (z:=({ oh x with token:=x.token } :xE).s none 0 none 0) r cW rfl λj i f=>by subst o;exact fin j none 0 none 0 i n n f⟩;rw[af (λe=>k (X.1 e))];refine aB.of λJ3 t=> ?_;by_cases m:x.kind=3;have E:yF x= { oh x with ses:=x.ses } :=(af k).trans (ag m);rw[E]at fin;rw[ag (bq.2 m)];exact⟨_,ai l,Jl (z:=({ oh x with ses:=x.ses } :xE).s none 0 none 0) r cW rfl λj i f=>by subst t;subst o;exact fin j none 0 none 0 i n n f⟩;rw[af (λe=>m (bq.1 e))];refine aB.of λJ4 L=> ?_;by_cases s:x.kind=4;have E:yF x= { oh x with ses:=x.ses,kO:=x.kO } :=(af k).trans ((af m).trans (ag s));rw[E]at fin;rw[ag (bq.2 s)];refine⟨_,ai l,Pm l (Jl (z:=({ oh x with ses:=x.ses } :xE).s none 0 none 0) r cW rfl λj i f=>⟨Ru f ne bt,Yb (x:= { oh x with ses:=x.ses }) (r:=x.kO) i λg2 e2 A=> ?_⟩)⟩;subst L;subst t;subst o;exact fin g2 p c none 0 e2 rx n (f.tt A);rw[af (λe=>s (bq.1 e))];refine aB.of λJ5 T=> ?_;by_cases w:x.kind=5;have E:yF x= { oh x with data:=x.data } :=(af k).trans ((af m).trans ((af s).trans (ag w)));rw[E]at fin;rw[ag (bq.2 w)];exact⟨_,_,_,ai l,Jl (z:=({ oh x with data:=x.data } :xE).s none 0 q d) r cW rfl λj i f=>by subst T;subst L;subst t;subst o;exact fin j none 0 q d i n dx f⟩;rw[af (λe=>w (bq.1 e))];have E:yF x=oh x:=(af k).trans ((af m).trans ((af s).trans (af w)));rw[E]at fin;subst T;subst L;subst t;subst o;exact fin I none 0 none 0 r n n (Fr.refl _ _)
 by_cases k:x.kind=1;grind;rw[af (λe=>k (bq.1 e))];exact b' _ ⟨λe=> .inr (bq.1 e),λe=>bq.2 (e.resolve_left k)⟩
theorem RO(n:Int)(e:R (.B (isS n)) h):Cl 120 #[.I n] h R:=by refine vU ?_;unfold isS at e;by_cases c:n≥1;grind;grind
theorem Pn(x:xE)(U:Cb.mG V a)(u:Fr No a h)(M:jS.Mx h)(I:Row h p (bc x.kO.nL))(y:Row h q (bc x.data))(cap:x.data.length<=d)(f: iG h R (.B (yG V x))):Cl 86 #[(x.s p c q d).agg] h R:=by
 refine Bz (aR.cV λb n L i F=>⟨_,ai i,aB.of λJ A=> ?_⟩);have G: ∀v,(v=true↔x.kind=1\/x.kind=2)->J v n:=by
  intro v s;subst A;dsimp only;by_cases k:x.kind=1\/x.kind=2;have E:yG V x=(decide (x.token≥1) && decide (x.token<=2147483648)):=ag k;rw[E]at f;rw[ag (s.2 k)];have f:=f n F;exact⟨_,ai i,zK f (λf=>⟨_,ai i,by rw[show decide (((x.s p c q d).f2:Int)<=2147483648)=_ from Bn.mQ x.token 2147483648];exact f⟩) (Ask.Ji x.token 1)⟩;rw[af (λe=>k (s.1 e))];by_cases j:x.kind=3;have E:yG V x=isS x.ses:=(af k).trans (ag j);rw[E]at f;rw[ag (bq.2 j)];exact⟨_,ai i,RO x.ses ⟨_,rfl,f n F⟩⟩;rw[af (λe=>j (bq.1 e))];by_cases m:x.kind=4;have E:yG V x=(isS x.ses && mP x.kO && (x.kO.kind !=11) && (x.kO.kind !=12)):=(af k).trans ((af j).trans (ag m));rw[E]at f;rw[ag (bq.2 m)];simp only[gu]at f;exact⟨_,ai i,RO x.ses ⟨_,rfl,kZ f F λf=>Pm i (Ask.fD x.kO (I.frame F bC) λr l=>⟨_,rfl,zK (f r (F.tt l)) λf=>⟨_,ai (l.get i id),zK f λf=>⟨_,ai (l.get i id),f⟩⟩⟩)⟩⟩;rw[af (λe=>m (bq.1 e))];by_cases o:x.kind=5;have E:yG V x=vO V x.data:=(af k).trans ((af j).trans ((af m).trans (ag o)));rw[E]at f;rw[ag (bq.2 o)];exact⟨_,_,_,ai i,Pl U (u.tt F) (M.on F) (y.frame F bC) rfl cap λr l=>⟨_,rfl,f r (F.tt l)⟩⟩;rw[af (λe=>o (bq.1 e))];have E:yG V x=decide (x.kind=6\/x.kind=7\/x.kind=8):=(af k).trans ((af j).trans ((af m).trans (af o)));rw[E]at f;have f:=f n F;refine⟨_,ai i,?_⟩;by_cases t:x.kind=6;grind;rw[af (λe=>t (bq.1 e))];refine⟨_,ai i,?_⟩;by_cases w:x.kind=7;grind;rw[af (λe=>w (bq.1 e))];refine⟨_,ai i,?_⟩;have z:decide (x.kind=6\/x.kind=7\/x.kind=8)=(x.kind==8):=by by_cases B:x.kind=8<;>simp[t,w,B]
  rw[z]at f;exact f
 by_cases k:x.kind=1;grind;rw[af (λe=>k (bq.1 e))];exact G _ ⟨λe=> .inr (bq.1 e),λe=>bq.2 (e.resolve_left k)⟩
def Po(x:xE)(U:Cb.mG V a)(u:Fr No a h)(M:jS.Mx h)(r:Row h p (bc x.kO.nL))(l:Row h q (bc x.data))(cap:x.data.length<=d)(e: iG h R (.B (DK V x))):Cl 49 #[(x.s p c q d).agg] h R:=by refine BA (aR.cV λb z E j i=>⟨_,ai j,?_⟩);unfold DK at e;rw[show decide (((x.s p c q d).f0:Int)<=1099511627776)=_ from Bn.mQ x.now 1099511627776];simp only[gu]at e;refine kZ e i λe=> ?_;have o:=r.frame i bC;have m:=l.frame i bC;refine aR.fX j (aR.fX j (TW x o m λA w s q2 t y s2 f=>aR.ex ((yF x).s w s q2 t) ⟨rfl,f.kp,(RN x (yF x) (o.frame f bC) y (m.frame f bC) s2 λB k=>⟨_,rfl,k.kp,?_⟩)⟩));have F:=i.tt (f.tt k);refine kZ e F λe=> ?_;exact aR.fX ((f.tt k).get j id) (Pn x U (u.tt F) (M.on F) (r.frame F bC) (l.frame F bC) cap λv n=>⟨_,rfl,n.kp,e v (F.tt n)⟩)

end Jk
end
section
open Go.fv
namespace gg
variable {h a:aA} {w r:Nat} {S:Nat→Prop} {bs:cQ} {e:Int} {R:fp}
variable {Q:Nat->Prop} {H:aA} {p:bZ} {c n:Nat} {K:aA->Prop} {t:cQ}
def Wr(h:aA)(w:Nat)(S:gF)(bs:cQ):Prop:=
 ∃p c,h[w]? =some (.cells #[.bool true,.slice p bs.length c] 180 (0,0))/\Own h p bs.length c 1 (bc bs)/\¬aL p w/\∀x,S x↔x=w\/aL p x
theorem Wr.lt(b:Wr h w S bs): ∀x,S x->x<h.size:=by have⟨p,c,f,o,_,d⟩:=b;intro x hx;rcases(d x).1 hx with rfl|hx;grind;exact o.dk hx
def Wr.frame(g:Wr h w S bs)(d:Fr Q h H)(f: ∀x,S x->¬Q x):Wr H w S bs:=by have⟨p,c,i,o,j,b⟩:=g;exact⟨p,c,d.get i (f w ((b w).2 (.inl rfl))),o.frame d (λx k=>f x ((b x).2 (.inr k))),j,b⟩
def gC(d: ∀H w S,Wr H w S []->Fr No h H->(∀x,S x->h.size<=x)->R (.P w 0) H):Cl 42 #[] h R:=by refine C8 (cg (d _ _ (λx=>x=h.size) ⟨none,0,bR,.nil rfl rfl rfl rfl,(λ⟨A,e,_⟩=>by cases e),λx=> ?_⟩ (Fr.push _ _) (λx b=>ae)));constructor;exact .inl;rintro(b|⟨A,e,_⟩);exact b;cases e
theorem Wr.store{P:bZ}{C:Nat}{d:aA}{cs:cQ}(i:h[w]? =some (.C #[.B true,.L p bs.length c] 180 (0,0)))(k: ¬aL p w)(j: ∀x,S x↔x=w\/aL p x)(o:Own d P (bs.length+n) C 1 (bc bs++bc cs))(f:Fr (aL p) h d)(g: ∀x,aL P x->aL p x\/h.size<=x)(q:n=cs.length)(m: ∀H s,Wr H w s (bs++cs)->Step S h s H->K H):aO d (AA w 1) (.L P (bs.length+n) C) K:=by
 subst q;have z:=aD i;have l:=λb=>(g w b).elim k (λy=>ae);refine bf (f.get i k) bt λH A u v=> ?_;have F:=Fr.of_eq u v;refine m H (λx=>x=w\/aL P x) ⟨P,C,?_,?_,l,λx=>eV⟩ ⟨?_,?_⟩;grind;rw[aq,lQ];exact o.frame F (λx b e=>l (e▸b));exact f.trans F (λx _ b=>(j x).2 (.inr b)) (λx _ b=>(j x).2 (.inl b));grind
def Wr.push{x:Int}{b:UInt8}(i:Wr h w S bs)(D:bs.length<=1099511627786)(A:x=(b.toNat:Int))(u: ∀H s,Wr H w s (bs++ [b])->Step S h s H->K H):
  ∃(p:bZ)(l c:Nat),aU h (AA w 1)=some (.L p l c)/\
  aW h (.C #[.int .u8 x] 5) λb j=>
  bM Tryz.prog (Builtin.append_ #[32,32] 32 #[.L p l c,.L (Sa b 0) 1 1]) j λv k=>
  ∃(q:bZ)(m d:Nat),v=.L q m d/\aO k (AA w 1) (.L q m d) K:=by
 have⟨p,c,f,o,z,y⟩:=i;refine⟨p,bs.length,c,ai f,(iV tU uU o rfl (λv g=>by simp at g;subst g;rfl) ae ae ?_)⟩;intro P C B O F G;subst A;exact⟨_,_,_,rfl,Wr.store (cs:= [b]) f z y O F G rfl u⟩
def Yd(a:aA)(w:Nat)(s:gF)(bs:cQ)(b:Nat)(n:Int)(h:aA):Prop:=
 ∃(m:Nat)(S:gF)(d:cQ),n=(m:Int)/\m<18446744073709551616/\Wr h w S (bs++d)/\d++bm m=bm b/\Step s a S h
theorem fT{n:Int}(k:Nat)(q:Wr h w S bs)(E:bs.length<=1099511627776)(e:n=(k:Int))(A:k<18446744073709551616)(z: ∀H g,Wr H w g (bs++bm k)->Step S h g H->R (.P w 0) H):Cl 44 #[.P w 0,.U n] h R:=by
 subst e;refine sw ?_;have⟨p,c,x,_⟩:=id q;refine aB.of λJ v=>⟨true,ai x,?_⟩;subst v;refine⟨Yd h w S bs k,λn _=>n.toNat,⟨k,S, [],rfl,A,by grind,rfl,Step.refl _ _⟩,?_⟩;rintro _ C ⟨m,B,d,rfl,l,f,j,o⟩;have D:=by have:=(bw k).2;omega
 by_cases y:(m:Int)>127;simp only[y,ct,bJ];refine f.push (by grind) (Wz m) λi s u b=> ?_;rw[XF];refine⟨⟨m/128,s,d++ [UInt8.ofNat (m%128+128)],rfl,ae,by grind,?_,o.trans b⟩,?_⟩;rw[<-j,CI l,gH];simp;omega;rw[dz];refine f.push (by grind) (b:=UInt8.ofNat m) (by rfl) λi s u b=>(z i s ?_ (o.trans b));rwa[<-j,CI l,dz,<-cu]
def Ye(n:Int)(b:n<=9223372036854775807):IntKind.wrap .u64 (if 0>n then 0 else n)=((fx n:Nat):Int):=by unfold fx;split;rw[vx];omega;rw[vx];omega
def iK{n:Int}(b:Wr h w S bs)(g:bs.length<=2^40)(i:n<=9223372036854775807)(f: ∀H s,Wr H w s (bs++bm (fx n))->Step S h s H->R (.P w 0) H):Cl 45 #[.P w 0,.I n] h R:=
 sA (fT (fx n) b g (Ye n i) (by unfold fx;omega) λH s d j=>⟨_,rfl,f H s d j⟩)
def NY{b:Bool}(g:Wr h w S bs)(j:bs.length<=2^40)(i: ∀H s,Wr H w s (bs++bm (bit b))->Step S h s H->R (.P w 0) H):Cl 77 #[.P w 0,.B b] h R:=by
 refine qS ?_;cases b;all_goals simp
 exact fT 0 g j rfl ae λH s d f=>⟨_,rfl,i H s d f⟩;exact fT 1 g j rfl ae λH s d f=>⟨_,rfl,i H s d f⟩
theorem pd(k:Wr h w S bs)(B:bs.length<=2^40)(E:Row h p (bc t))(C:n=t.length)(V:t.length<=2^40)(D: ∀x,aL p x->t≠ []->¬S x)(z: ∀H s,Wr H w s (bs++cX t)->Step S h s H->R (.P w 0) H):Cl 43 #[.P w 0,.L p n c] h R:=by
 subst C;refine qT (fT t.length k B (vx) ae λT O l j=>⟨_,rfl,?_⟩);have⟨q,d,b,o,I,G⟩:=l;refine aB.of λJ f=>⟨true,ai b,?_⟩;subst f;refine aB.of λJ f=>⟨q,_,d,ai b,?_⟩;have U:=(bw t.length).2;rw[aq];rw[aq]at o;refine dI tU uU o (by by_cases i:t= [];rw[i];exact .inl rfl;exact E.frame j.fr (λA e L=>D _ ⟨A,e,rfl⟩ i L)) (by rw[ks,cC]) (vA t) ae ae ?_;intro Z P H X _ F g;refine⟨_,_,_,rfl,?_⟩;rw[aq]at b;have:=Wr.store (K:=λy=>R (Value.pointer (some { block:=w,off:=0 })) y) (bs:=bs++bm t.length) (by simp;omega) I G (by simp;omega) F g rfl λv u m M=> ?_;grind;exact z v u (by rwa[cu]at m) (j.trans M)
def qi(b:Wr h w S bs)(f:bs.length<=2^40)(j:Row h p (bc t))(g:n=t.length)(k:t.length<=2^40)(i: ∀x,aL p x->¬S x)(d: ∀H s,Wr H w s (bs++cX t)->Step S h s H->R (.P w 0) H):Cl 43 #[.P w 0,.L p n c] h R:=
 pd b f j g k (λx l _=>i x l) d
def je(b:Wr h w S bs)(j:bs.length<=70368744177664)(i: ∀P C H,Own H P bs.length C 1 (bc bs)->Fr No h H->(∀x,aL P x->h.size<=x)->R (.L P bs.length C) H):Cl 46 #[.P w 0] h R:=by
 have⟨p,c,d,o,l,k⟩:=b;exact qt ⟨p,_,c,ai d,hY o.hT rfl j λP C H O f g=>⟨_,_,_,rfl,i P C H O f g⟩⟩
def Rd(h:aA)(r:Nat)(S:gF)(e:Int)(bs:cQ):Prop:=
 ∃p c,h[r]? =some (.cells #[.int .i64 e,.bool true,.slice p bs.length c] 139 (0,0))/\Own h p bs.length c 1 (bc bs)/\¬aL p r/\S r/\(∀x,aL p x->S x)/\∀x,S x->x<h.size
def Rd.lt(b:Rd h r S e bs): ∀x,S x->x<h.size:=by have⟨p,c,_,_,_,_,_,d⟩:=b;exact d
def Rd.self(b:Rd h r S e bs):S r:=by have⟨p,c,_,_,_,d,_,_⟩:=b;exact d
def Rd.frame(j:Rd h r S e bs)(b:Fr Q h H)(i: ∀x,S x->¬Q x):Rd H r S e bs:=by have⟨p,c,l,o,m,f,g,k⟩:=j;exact⟨p,c,b.get l (i r f),o.frame b (λx d=>i x (g x d)),m,f,g,λx d=>bX (k x d) b.1⟩
theorem lD(l:Row h p (bc bs))(k:n=bs.length)(j:bs.length<=70368744177664)(i: ∀H r S,Rd H r S 0 bs->Fr No h H->(∀x,S x->h.size<=x)->R (.P r 0) H):Cl 23 #[.L p n c] h R:=by
 refine Bf (hY l k j λP C d o f g=>⟨_,_,_,rfl,cg (i _ _ (λx=>h.size<=x/\x<=d.size) ⟨P,C,bR,o.frame (Fr.push _ _) bC,?_,⟨f.1,bu _⟩,?_,?_⟩ (Fr.on f (Fr.push _ _)) (λx b=>b.1))⟩);intro b;have:=o.dk b;omega;intro x b;have:=o.dk b;exact⟨g x b,ae⟩;grind
theorem oC{E:Int}(d:Rd h r S e bs)(b: ∀H,Rd H r S (QR e E) bs->Fr (λx=>x=r) h H->R (.T #[]) H):Cl 62 #[.P r 0,.I E] h R:=by have⟨p,c,g,o,i,k,l,u⟩:=id d;refine sC ⟨e,ai g,?_⟩;unfold QR at b;by_cases a:e=0;subst a;refine bf g bt λH m q s=> ?_;have f:=Fr.of_eq q s;exact b H ⟨p,c,m,o.frame f (λx j e=>i (e▸j)),i,k,l,λx j=>by grind⟩ f;simp only[dQ,a,aY];simp only[a,aY]at b;exact b h d (Fr.refl _ _)
def Jm(d:Rd h r S e bs)(f:R (.B (e==0)) h):Cl 61 #[.P r 0] h R:=by have⟨p,c,b,o,k,g,i,j⟩:=d;exact qU ⟨true,ai b,e,ai b,f⟩
def WK(a:aA)(r:Nat)(S:gF)(bs:cQ)(n i:Int)(h:aA):Prop:=
 ∃(k A:Nat)(b:cQ),i=(k:Int)/\n=(A:Int)/\k<=10/\A<2 ^ (7*k)/\A<18446744073709551616/\Rd h r S 0 b/\Fr (λx=>x=r) a h/\LU k A b=LU 0 0 bs
theorem jU(m:Rd h r S e bs)(f: ∀H,Rd H r S (fb e bs).2.1 (fb e bs).2.2->Fr (λx=>x=r) h H->R (.U ((fb e bs).1:Int)) H):
  Cl 26 #[.P r 0] h R:=by
 refine sD (aB.of λg' u=> ?_);by_cases B:e=0;subst B;unfold fb at f;rw[ag rfl]at f;refine⟨WK h r S bs,λ_ d' _=>11 - d'.toNat,⟨0,0,bs,rfl,rfl,ae,bt,ae,m,Fr.refl _ _,rfl⟩,?_⟩;rintro _ _ s ⟨k,h',d,rfl,rfl,k',ha,j',q,F,g⟩;refine Jm q ⟨_,rfl,?_⟩;simp only[beq_self_eq_true,bJ];have⟨p,c,j,o,D,X,c',h3⟩:=id q;refine⟨p,_,c,ai j,?_⟩;cases d with
 |nil=>simp only[cA,Int.natCast_zero,beq_self_eq_true,bJ];refine oC q λZ E U=>⟨rfl,?_⟩;subst u;rw[LU]at g;rw[<-g]at f;exact f Z E (F.tt U)
 |cons b d=>
  have b':((((b::d).length:Nat):Int)==0)=false:=by rfl
  simp only[b',az,aY];refine⟨p,_,c,ai j,⟨ae,bt⟩,?_⟩;obtain⟨I,L,rfl⟩:=o.some (by rw[ks];simp);refine ar.2 ⟨(b.toNat),o.cell rfl,some (AA I L),_,c,ai j,⟨ae,by grind⟩,?_⟩;have O:=o.sub (l:=1) bt (bu _);have T:((bc (b::d)).take ((b::d).length*1)).drop (1*1)=bc d:=by simp only[cC];rw[aX (by rw[ks];exact bu _)];rfl
  rw[T]at O;have M:(b::d).length - Int.toNat 1=d.length:=bt
  rw[M];have P:(b::d).length - 1=d.length:=bt
  rw[P]at O;refine bf j bt λA k1 k2 k3=> ?_;have z:=Fr.of_eq k2 k3;have v:Rd A r S 0 d:=⟨_,_,k1,O.frame z (λx i e=>D (e▸mM i)),λi=>D (mM i),X,λx i=>c' x (mM i),λx i=>by grind⟩;have y:=F.tt z;have w1:IntKind.wrap .i64 ((k:Int)*7)=((7*k:Nat):Int):=by rw[fc];omega
  have w2:IntKind.wrap .i64 (7*(k:Int))=((7*k:Nat):Int):=by grind
  have w3:IntKind.wrap .i64 ((k:Int)+1)=((k+1:Nat):Int):=by rw[fc];omega
  have j:=b.toNat_lt;rw[LU]at g;refine aB.of λJ a'=> ?_;have i':J (decide (k=10\/(k=9/\b.toNat>1)\/(b.toNat=0/\k>0))) A:=by
   subst a';by_cases l:k=10\/(k=9/\b.toNat>1)\/(b.toNat=0/\k>0);simp only[l,ct,bJ];rw[ag l]at g;refine oC v λh7 G V=>⟨rfl,?_⟩;subst u;rw[<-g]at f;exact f h7 G (y.tt V);simp only[l,cU,az,aY];rw[af l]at g;rw[w2,w3,dz,Vx,Vy];have hd:b.toNat%128*2 ^ (7*k)<18446744073709551616:=by
    by_cases h9:k=9;grind;have h8:=ae
    have p1:(2:Nat) ^ (7*k)<=2 ^ 56:=gL ae ae;have p2:b.toNat%128<=127:=ae
    have:=Nat.mul_le_mul p2 p1;omega
   have f':IntKind.wrap .u64 ((b.toNat%128:Nat):Int)=((b.toNat%128:Nat):Int):=sd ae;have e':7*k<=64:=ae
   rw[f',Vz ha hd e'];by_cases C:b.toNat<128;grind;simp only[C,cU,az,aY];rw[af C]at g;have h9:k<=8:=ae
   have p3:(2:Nat) ^ (7*(k+1))=128*2 ^ (7*k):=by grind
   have p4:b.toNat%128+1<=128:=ae
   have p5:=dc (2 ^ (7*k)) p4;rw[gG]at p5;have p6:(2:Nat) ^ (7*(k+1))<=2 ^ 63:=gL ae ae;refine⟨⟨k+1,_,d,rfl,rfl,ae,ae,ae,v,y,g⟩,?_⟩;omega
  rw[w1];by_cases c1:k=10;grind;grind
 refine⟨λ_ _ s=>s=h,λ_ _ _=>0,rfl,?_⟩;rintro _ _ s rfl;refine Jm m ⟨_,rfl,?_⟩;have:(e==0)=false:=by grind
 simp only[this,az,aY];subst u;unfold fb at f;rw[af B]at f;exact f _ m (Fr.refl _ _)
theorem NZ(T:Nat){t:Int}(m:t=(T:Int))(d:Rd h r S e bs)(b: ∀H,Rd H r S (hU T e bs).2.1 (hU T e bs).2.2->Fr (λx=>x=r) h H->R (.U ((hU T e bs).1:Int)) H):
  Cl 63 #[.P r 0,.U t] h R:=by
 refine pL (jU d λl f F=>⟨_,rfl,?_⟩);unfold hU at b;by_cases k:(fb e bs).1>T;rw[gH];rw[ag k]at b;exact oC f λj g i=>⟨rfl,b j g (F.tt i)⟩;grind
def gp(b:Rd h r S e bs)(i: ∀H,Rd H r S (gV e bs).2.1 (gV e bs).2.2->Fr (λx=>x=r) h H->R (.I ((gV e bs).1:Int)) H):
  Cl 27 #[.P r 0] h R:=
 sE (NZ 1099511627776 rfl b λg d f=>⟨_,rfl,by have:=Kz 1099511627776 e bs;rw[fc];exact i g d f⟩)
theorem K6(b:Rd h r S e bs)(i: ∀H,Rd H r S (hU 1 e bs).2.1 (hU 1 e bs).2.2->Fr (λx=>x=r) h H->R (.B (decide ((hU 1 e bs).1=1))) H):
  Cl 156 #[.P r 0] h R:=
 qV (NZ 1 rfl b λg d f=>⟨_,rfl,by
  have:=i g d f;have e:(((hU 1 e bs).1:Int)==1)=decide ((hU 1 e bs).1=1):=by grind
  rw[e];exact this⟩)
theorem nB(u:Rd h r S e bs)(hl:bs.length<=70368744177664)(d: ∀H p c,Rd H r S (jo e bs).2.1 (jo e bs).2.2->Own H p (jo e bs).1.length c 1 (bc (jo e bs).1)->(∀x,aL p x->h.size<=x)->Fr (λx=>x=r) h H->R (.slice p (jo e bs).1.length c) H):
  Cl 25 #[.P r 0] h R:=by
 refine qW (jU u λI g F=>⟨_,rfl,Jm g ⟨_,rfl,?_⟩⟩);unfold jo at d;have c':=Mn e bs;have b':(fb e bs).2.2.length<=bs.length:=by unfold fb;split;exact I0 bs 0 0;simp
 generalize fb e bs=y at*;have⟨n,E,f⟩:=y;dsimp only at*;by_cases a:E=0;subst a;simp only[beq_self_eq_true,df,az,aY];have⟨p,c,k,o,hr,k1,k2,k3⟩:=id g;refine⟨p,_,c,ai k,?_⟩;rw[ag rfl]at d;rw[vx];by_cases m:n>f.length;have:(n)>(f.length:Int):=ae
 simp only[this,ct,bJ];rw[ag m]at d;exact oC g λJ v D=>⟨rfl,d J none 0 v (.nil rfl rfl rfl rfl) (λx ⟨A,e,_⟩=>by cases e) (F.tt D)⟩;have: ¬(n)>(f.length:Int):=ae
 simp only[this,cU,az,aY];rw[af m]at d;have hc:=o.le;refine⟨p,_,c,ai k,ae,?_⟩;have O:=o.sub (l:=0) (u:=n) ae ae;simp only[cC,gK,Ts]at O;have a':(f.take n).length=n:=by grind
 refine hY O.hT ae ae λX z h4 V j G=>⟨_,_,_,rfl,?_⟩;have⟨P,C,l,U,q,M,T,d'⟩:=(g.frame j bC);refine⟨P,_,C,ai l,ae,(bf l bt λL q1 Z q3=> ?_)⟩;have i:=Fr.of_eq Z q3;have s:=U.sub (l:=n) ae (bu _);rw[cC,cC,<-ks f,dA,ks,Tt]at s;have B:(f.drop n).length=f.length - n:=bt
 refine d L X z ⟨cE P C n 1,C - n,?_,?_,λb=>q (mM b),M,λx b=>T x (mM b),λx b=>by grind⟩ (V.frame i (λx b e=> ?_)) (λx b=> ?_) (F.tt ((j.mono λ_ _=>False.elim).tt i));grind;rw[B];exact s.frame i (λx b e=>q (e▸mM b));grind;have:=G x b;have:=F.1;omega;have:(E==0)=false:=by grind
 simp only[this,ee,bJ];rw[af a]at d;exact d I none 0 g (.nil rfl rfl rfl rfl) (λx ⟨A,e,_⟩=>by cases e) F
theorem mX(g:Rd h r S e bs)(f:R (.I (oA e bs)) h):Cl 30 #[.P r 0] h R:=by
 have⟨p,c,d,o,j,k,l,m⟩:=g;refine sF (aB.of λJ i=>⟨true,ai d,?_⟩);subst i;refine⟨e,ai d,?_⟩;unfold oA at f;by_cases a:e=0;subst a;refine⟨p,_,c,ai d,?_⟩;cases bs with
 |nil=>exact f
 |cons b bs=>grind
 have:(e !=0)=true:=by grind
 simp only[this,bJ];rw[af a]at f;exact⟨e,ai d,f⟩

end gg
end
section
open Go.fv
namespace gg
variable {h a H:aA} {p:bZ} {l c:Nat} {B:List (cQ)}
abbrev ie(n:BV):List Value:= [n.val]
def tN:pJ Tryz.prog 39 32 1 24 (.Z):=⟨cZ,cZ,rfl⟩
def uN:Tryz.prog.underlying 39=some (.slice 32):=cZ
def dZ(n:BV):(ie n).length=1:=rfl
def Fe(x:List BV): ∀v∈x.flatMap ie,gk v=true:=by intro v d;have⟨A,_,b⟩:=List.mem_flatMap.1 d;simp at b;subst b;rfl
def BL(H h:aA)(p:bZ)(l c:Nat)(B:List (cQ)):Prop:=
 ∃(X:List BV)(D:gF),l=X.length/\Own h p l c 1 (X.flatMap ie)/\X.map BV.b=B/\(∀x∈X,x.ok h D)/\(∀y,D y->H.size<=y/\y<h.size/\¬aL p y)/\∀y,aL p y->H.size<=y
def BL.nil:BL H h none 0 0 []:=⟨[],λ_=>False,rfl,.nil rfl rfl rfl rfl,rfl,(λx b=>by cases b),(λy d=>d.elim),λy ⟨A,e,_⟩=>by cases e⟩
def BL.on(e:BL H h p l c B)(f:Fr No h a):BL H a p l c B:=by have⟨X,D,g,i,j,k,b,m⟩:=e;exact⟨X,D,g,i.frame f bC,j,λx n=>(k x n).frame f bC,λy d=>⟨(b y d).1,bX (b y d).2.1 f.1,(b y d).2.2⟩,m⟩
def BL.len(b:BL H h p l c B):l=B.length:=by have⟨x,D,d,_,e,_⟩:=b;rw[d,<-e,aw]
def BL.lt(b:BL H h p l c B){y:Nat}(e:aL p y):y<h.size:=by have⟨x,D,_,d,_⟩:=b;exact d.dk e
def BL.mono{b:aA}(g:BL b h p l c B)(f:H.size<=b.size):BL H h p l c B:=by have⟨x,D,b,i,j,k,e,m⟩:=g;exact⟨x,D,b,i,j,k,λy d=>⟨cD f (e y d).1,(e y d).2⟩,λy d=>cD f (m y d)⟩
def BL.push{b:cQ}{q:bZ}{d:Nat}{K:fp}(m:BL H h p l c B)(up:H.size<=h.size)(o:Own h q b.length d 1 (bc b))(j: ∀y,aL q y->H.size<=y/\¬aL p y)(w:l<=1000000)(u: ∀P C a,BL H a P (l+1) C (B++ [b])->Fr (aL p) h a->(∀y,aL P y->aL p y\/h.size<=y)->K (.L P (l+1) C) a):
  aW h (.C #[.L q b.length d] 32) λn i=>bM Tryz.prog (Builtin.append_ #[39,39] 39 #[.L p l c,.L (Sa n 0) 1 1]) i K:=by
 obtain⟨X,D,i,h2,r,s,e,t⟩:=m;refine iV tN uN h2 rfl (λv k=>by simp at k;subst k;rfl) ae ae ?_;intro P C a O f g;have lt: ∀y,aL q y->y<h.size:=λy hy=>o.dk hy;refine u P C a ⟨X++ [⟨q,d,b⟩],λy=>D y\/aL q y,by rw[aq,i];rfl,?_,?_,?_,?_,?_⟩ f g;rw[cO];simpa using O;rw[aS,r];rfl;intro x hx;rcases bP.1 hx with hx|hx;exact((s x hx).frame f (λy hy=>(e y hy).2.2)).mono (λy=> .inl);simp at hx;subst hx;exact BV.jK (o.frame f (λy hy=>(j y hy).2)) (λy=> .inr);have z:=f.1;rintro y (hy|hy);exact⟨(e y hy).1,bN ((e y hy).2.1),λhx=>(g y hx).elim (e y hy).2.2 (λh2=>bN ((e y hy).2.1))⟩;exact⟨(j y hy).1,bN (lt y hy),λhx=>(g y hx).elim (j y hy).2 (λh2=>bN (lt y hy))⟩;intro y hy;rcases g y hy with h2|h2;exact t y h2;omega
def BL.rows(d:BL H h p l c B): ∃X:List BV,l=X.length/\Row h p (X.flatMap ie)/\X.map BV.b=B/\l<=c/\∀x∈X,Row h x.p (bc x.b):=by obtain⟨X,D,e,b,f,g,j,k⟩:=d;exact⟨X,e,b.hT,f,b.le,λx i=>(g x i).row⟩

end gg
end
section
variable {h:aA} {R:fp}
variable {a:Nat} {x X i k:Int}
def Ff(d:aW h (.map #[] 0) λb H=>aW H (.C #[.Z,.map (some b)] 196) λB c=>R (.P B 0) c):Cl 54 #[] h R:=aP [] d
def uv(H: ∃t,Cc h a 1 (.map t)/\R (.B (!t.isNone)) h):Cl 162 #[.P a 0] h R:=aP [] H
def vW(H: ∃b t T,Cc h a 0 (.L b t T)/\R (.I ((t:Nat):Int)) h):Cl 254 #[.P a 0] h R:=aP [] H
def BC{y:Int}{d:Int} (f:aW h (.C #[.I x,.U X] 271) λb e=>aW e (.C #[.I y,.U d] 271) λB H=>Hu H b 1 λl=> ∃c,Cc H B 1 (.U c)/\ite (decide (l<c)) (R (.B true) H) (Hu H b 1 λg=> ∃t,Cc H B 1 (.U t)/\ite (g==t) (Hi H b 0 λj=> ∃T,Cc H B 0 (.I T)/\R (.B (decide (j<T))) H) (R (.B false) H))):Cl 229 #[.agg #[.I x,.U X],.agg #[.I y,.U d]] h R:=aP [] f
def vX(f:aW h (.C #[.I x,.U X] 271) λb H=>Hl H a 0 λm l _=>Hi H b 0 λT=>Hu H b 1 λg=>Bd i l/\aH m λA=>aO H (A.add (toNat i*2)) (.I T) λd=>aO d ((A.add (toNat i*2)).add 1) (.U g) λc=> ∃t,Cc c a 1 (.map t)/\Hi c b 0 λj=>jE (Instr.mapUpdate 114 (.map t) (.I j) (.I i)) c λ_ e=>R (.T #[]) e):Cl 164 #[.P a 0,.I i,.agg #[.I x,.U X]] h R:=aP [(3,λ_=>pN 8),(4,λ_=>pN 8)] f
def xF (hv: ∃(I:kj)(P:kG),(I i h)/\∀c H,I c H->aB (λ(m':Bool) d=>ite m' (aB (λ(u':bZ) (v':bZ) C=>aH u' λG=>kU C G λn'=>gZ C (G.add 1) λo'=>Cl 164 #[.P a 0,.I (wrap .i64 (Int.tdiv (wrap .i64 (c - 1)) 2)),.agg #[.I n',.U o']] C λr' D=>r'=.T #[]/\aH v' λK=>kU D K λp'=>gZ D (K.add 1) λq'=>Cl 164 #[.P a 0,.I c,.agg #[.I p',.U q']] D λs' O=>s'=.T #[]/\(I (wrap .i64 (Int.tdiv (wrap .i64 (c - 1)) 2)) O/\P (wrap .i64 (Int.tdiv (wrap .i64 (c - 1)) 2)) O<P c H)) (λF=>Hl d a 0 λs r u=>Bd c r/\aH s λg=>kU d (g.add (toNat c*2)) λj=>gZ d ((g.add (toNat c*2)).add 1) λl=>Hl d a 0 λf e m=>Bd (wrap .i64 (Int.tdiv (wrap .i64 (c - 1)) 2)) e/\aH f λA=> ∃t,aU d (A.add (toNat (wrap .i64 (Int.tdiv (wrap .i64 (c - 1)) 2))*2))=some (.I t)/\∃T,aU d ((A.add (toNat (wrap .i64 (Int.tdiv (wrap .i64 (c - 1)) 2))*2)).add 1)=some (.U T)/\(aW d (.C #[.I 0,.U 0] 271) λb p=>cH (A.add (toNat (wrap .i64 (Int.tdiv (wrap .i64 (c - 1)) 2))*2)) [.I t,.U T] 0 p/\Cc p a 0 (.L f e m)/\cH (g.add (toNat c*2)) [.I j,.U l] 0 p/\Cc p a 0 (.L s r u)/\aW p (.C #[.I 0,.U 0] 271) λB q=>cH (A.add (toNat (wrap .i64 (Int.tdiv (wrap .i64 (c - 1)) 2))*2)) [.I t,.U T] 0 q/\Cc q a 0 (.L f e m)/\cH (g.add (toNat c*2)) [.I j,.U l] 0 q/\Cc q a 0 (.L s r u)/\aO q (AA b 0) (.I j) λg'=>aO g' (AA b 1) (.U l) λE=>cH (A.add (toNat (wrap .i64 (Int.tdiv (wrap .i64 (c - 1)) 2))*2)) [.I t,.U T] 0 E/\Cc E a 0 (.L f e m)/\aO E (AA B 0) (.I t) λb'=>aO b' (AA B 1) (.U T) λc'=>F (Sa b 0) (Sa B 0) c')/\(aW d (.C #[.I 0,.U 0] 271) λv n=>cH (A.add (toNat (wrap .i64 (Int.tdiv (wrap .i64 (c - 1)) 2))*2)) [.I t,.U T] 0 n/\Cc n a 0 (.L f e m)/\cH (g.add (toNat c*2)) [.I j,.U l] 0 n/\Cc n a 0 (.L s r u)/\aW n (.C #[.I 0,.U 0] 271) λw o=>cH (A.add (toNat (wrap .i64 (Int.tdiv (wrap .i64 (c - 1)) 2))*2)) [.I t,.U T] 0 o/\Cc o a 0 (.L f e m)/\cH (g.add (toNat c*2)) [.I j,.U l] 0 o/\Cc o a 0 (.L s r u)/\aO o (AA w 0) (.I j) λd'=>aO d' (AA w 1) (.U l) λy=>cH (A.add (toNat (wrap .i64 (Int.tdiv (wrap .i64 (c - 1)) 2))*2)) [.I t,.U T] 0 y/\Cc y a 0 (.L f e m)/\aO y (AA v 0) (.I t) λe'=>aO e' (AA v 1) (.U T) λf'=>F (Sa w 0) (Sa v 0) f')/\True)) (R (.T #[]) d)) (λJ=>ite (decide (c>0)) (Hl H a 0 λS Q h'=>Bd c Q/\aH S λL=>kU H (L.add (toNat c*2)) λi'=>gZ H ((L.add (toNat c*2)).add 1) λj'=>Hl H a 0 λV U k'=>Bd (wrap .i64 (Int.tdiv (wrap .i64 (c - 1)) 2)) U/\aH V λM=> ∃Z,aU H (M.add (toNat (wrap .i64 (Int.tdiv (wrap .i64 (c - 1)) 2))*2))=some (.I Z)/\∃a',aU H ((M.add (toNat (wrap .i64 (Int.tdiv (wrap .i64 (c - 1)) 2))*2)).add 1)=some (.U a')/\Cl 229 #[.agg #[.I i',.U j'],.agg #[.I Z,.U a']] H λt' z=>Vb t' λl'=>Cc z a 0 (.L V U k')/\Cc z a 0 (.L S Q h')/\J l' z) (J false H))):Cl 165 #[.P a 0,.I i] h R:=aP [(0,λ_=> .scope 0 [(1,sI)] ll (lq (lq (sq (.join [(28,sB)] (pN 19)) (cq (sq (.join [(5,sP),(6,sP)] (.ni (gB 14 0 (.alts (.fork 14 (gB 3 15 .done) (.fork 15 (lO [14,16,17] .done) .hO)))))) (lq (lq ll))) lf)))))] hv
def uw (hv: ∃(I:kj)(mu:kG),(I i h)/\∀c E,I c E->∃(y:Int->kj)(k':Int->kG),y c 0 E/\∀B t H,y B t H->ite (decide (t<2)) (aB (λ(f':Int) h'=>(y f' (wrap .i64 (t+1)) h'/\k' f' (wrap .i64 (t+1)) h'<k' B t H)) (λJ=>Bd t 2/\(t=((0:Nat):Int)->aB (λ(X':Bool) i'=>aB (λ(B':Int) J'=>J B' J') (λQ=>ite X' (Q (wrap .i64 ((wrap .i64 (2*c))+1)) i') (Q B i'))) (λP=> ∃n' M l',Cc H a 0 (.L n' M l')/\ite (decide ((wrap .i64 ((wrap .i64 (2*c))+1))<((M:Nat):Int))) (Hl H a 0 λr' p' L'=>Bd (wrap .i64 ((wrap .i64 (2*c))+1)) p'/\aH r' λZ=> ∃t',aU H (Z.add (toNat (wrap .i64 ((wrap .i64 (2*c))+1))*2))=some (.I t')/\∃v',aU H ((Z.add (toNat (wrap .i64 ((wrap .i64 (2*c))+1))*2)).add 1)=some (.U v')/\Hl H a 0 λz' x' O'=>Bd B x'/\aH z' λa'=>kU H (a'.add (toNat B*2)) λQ'=>gZ H ((a'.add (toNat B*2)).add 1) λS'=>Cl 229 #[.agg #[.I t',.U v'],.agg #[.I Q',.U S']] H λa4 u=>Vb a4 λU'=>Cc u a 0 (.L z' x' O')/\Cc u a 0 (.L r' p' L')/\Cc u a 0 (.L n' M l')/\P U' u) (P false H)))/\(t=((1:Nat):Int)->aB (λ(Z':Bool) j'=>aB (λ(C':Int) K'=>J C' K') (λU=>ite Z' (U (wrap .i64 ((wrap .i64 (2*c))+2)) j') (U B j'))) (λS=> ∃o' O m',Cc H a 0 (.L o' O m')/\ite (decide ((wrap .i64 ((wrap .i64 (2*c))+2))<((O:Nat):Int))) (Hl H a 0 λs' q' M'=>Bd (wrap .i64 ((wrap .i64 (2*c))+2)) q'/\aH s' λb'=> ∃u',aU H (b'.add (toNat (wrap .i64 ((wrap .i64 (2*c))+2))*2))=some (.I u')/\∃w',aU H ((b'.add (toNat (wrap .i64 ((wrap .i64 (2*c))+2))*2)).add 1)=some (.U w')/\Hl H a 0 λA' y' P'=>Bd B y'/\aH A' λc'=>kU H (c'.add (toNat B*2)) λR'=>gZ H ((c'.add (toNat B*2)).add 1) λT'=>Cl 229 #[.agg #[.I u',.U w'],.agg #[.I R',.U T']] H λa5 v=>Vb a5 λV'=>Cc v a 0 (.L A' y' P')/\Cc v a 0 (.L s' q' M')/\Cc v a 0 (.L o' O m')/\S V' v) (S false H)))/\True)) (ite (B !=c) (aB (λ(a8:bZ) (a9:bZ) F=>aH a8 λd'=>kU F d' λa0=>gZ F (d'.add 1) λa1=>Cl 164 #[.P a 0,.I B,.agg #[.I a0,.U a1]] F λa6 G=>a6=.T #[]/\aH a9 λe'=>kU G e' λa2=>gZ G (e'.add 1) λa3=>Cl 164 #[.P a 0,.I c,.agg #[.I a2,.U a3]] G λa7 g'=>a7=.T #[]/\(I B g'/\mu B g'<mu c E)) (λV=>Hl H a 0 λs r w=>Bd c r/\aH s λg=>kU H (g.add (toNat c*2)) λj=>gZ H ((g.add (toNat c*2)).add 1) λl=>Hl H a 0 λf e m=>Bd B e/\aH f λA=>kU H (A.add (toNat B*2)) λT=>gZ H ((A.add (toNat B*2)).add 1) λd=>(aW H (.C #[.I 0,.U 0] 271) λb n=>cH (A.add (toNat B*2)) [.I T,.U d] 0 n/\Cc n a 0 (.L f e m)/\cH (g.add (toNat c*2)) [.I j,.U l] 0 n/\Cc n a 0 (.L s r w)/\aW n (.C #[.I 0,.U 0] 271) λz o=>cH (A.add (toNat B*2)) [.I T,.U d] 0 o/\Cc o a 0 (.L f e m)/\cH (g.add (toNat c*2)) [.I j,.U l] 0 o/\Cc o a 0 (.L s r w)/\aO o (AA b 0) (.I j) λD'=>aO D' (AA b 1) (.U l) λK=>cH (A.add (toNat B*2)) [.I T,.U d] 0 K/\Cc K a 0 (.L f e m)/\aO K (AA z 0) (.I T) λE'=>aO E' (AA z 1) (.U d) λF'=>V (Sa b 0) (Sa z 0) F')/\(aW H (.C #[.I 0,.U 0] 271) λC p=>cH (A.add (toNat B*2)) [.I T,.U d] 0 p/\Cc p a 0 (.L f e m)/\cH (g.add (toNat c*2)) [.I j,.U l] 0 p/\Cc p a 0 (.L s r w)/\aW p (.C #[.I 0,.U 0] 271) λD q=>cH (A.add (toNat B*2)) [.I T,.U d] 0 q/\Cc q a 0 (.L f e m)/\cH (g.add (toNat c*2)) [.I j,.U l] 0 q/\Cc q a 0 (.L s r w)/\aO q (AA D 0) (.I j) λG'=>aO G' (AA D 1) (.U l) λL=>cH (A.add (toNat B*2)) [.I T,.U d] 0 L/\Cc L a 0 (.L f e m)/\aO L (AA C 0) (.I T) λH'=>aO H' (AA C 1) (.U d) λI'=>V (Sa D 0) (Sa C 0) I')/\True)) (R (.T #[]) H))):Cl 228 #[.P a 0,.I i] h R:=aP [(0,λ_=> .scope 0 [(1,sI)] ll (lq (lq (sq (lq (bq (.loop [(4,sI),(17,sI)] (lq (sq (cq lf lf) (sq (.join [(4,sI)] (bq (lq (sq (.join [(43,sB)] (pN 24)) (.join [(4,sI)] (cq lf lf)))))) lf)))))) (lq (cq (sq (.join [(7,sP),(8,sP)] (.ni (gB 14 0 (.alts (.fork 14 (gB 3 15 .done) (.fork 15 (lO [14,16,17] .done) .hO)))))) (lq (lq ll))) lf))))))] hv
def vY{V:Int} (p:Cl 162 #[.P a 0] h λv H=> ∃t,v=.B t/\ite (!t) (R (.I 6) H) (aB (λ(q:Bool) c=>ite q (R (.I 1) c) (Cl 163 #[.P a 0,.I k] c λw d=>Vi w λ_=>Hl d a 0 λu s r=>aW d (.C #[.I 0,.U 0] 271) λb l=>jE (Builtin.append_ #[194,194] 194 #[.L u s r,.L (Sa b 0) 1 1]) l λy m=> ∃g f T,y=.L g f T/\aO m (AA a 0) (.L g f T) λe=>Hl e a 0 λ_ j _=>Cl 164 #[.P a 0,.I (wrap .i64 ((j:Int) - 1)),.agg #[.I k,.U V]] e λz n=>z=.T #[]/\Cl 165 #[.P a 0,.I (wrap .i64 ((j:Int) - 1))] n λA o=>A=.T #[]/\R (.I 0) o)) (λJ=>ite (decide (k<1)) (J true H) (ite (decide (k>1099511627776)) (J true H) (J (decide (V>1099511627776)) H))))):Cl 112 #[.P a 0,.I k,.U V] h R:=aP [(11,.join [(12,sB)])] p
def ux (C:Cl 162 #[.P a 0] h λv H=> ∃m,v=.B m/\ite (!m) (R (.I 6) H) (∃n,Cc H a 1 (.map n)/\∃T o,Gs 114 (.map n) (.I k) true H (.T #[.I T,.B o])/\ite (!o) (R (.I 4) H) (Hl H a 0 λ_ t _=>Hl H a 0 λE D _=>Bd (wrap .i64 ((t:Int) - 1)) D/\aH E λA=> ∃p,aU H (A.add (toNat (wrap .i64 ((t:Int) - 1))*2))=some (.I p)/\∃q,aU H ((A.add (toNat (wrap .i64 ((t:Int) - 1))*2)).add 1)=some (.U q)/\aW H (.C #[.I 0,.U 0] 271) λb w=>aO w (AA b 0) (.I p) λy=>aO y (AA b 1) (.U q) λj=>Hl j a 0 λF _ f=>((0:Int)<=wrap .i64 ((t:Int) - 1)/\wrap .i64 ((t:Int) - 1)<=(f:Int))/\aO j (AA a 0) (.slice (cE F f 0 2) ((toNat (wrap .i64 ((t:Int) - 1))) - 0) (f - 0)) λl=> ∃r,Cc l a 1 (.map r)/\jE (Builtin.delete_ #[114,3] 0 #[.map r,.I k]) l λV c=>V=.T #[]/\aB (λz=>R (.I 0) z) (λJ=>ite (decide (T<(wrap .i64 ((t:Int) - 1)))) (Hi c b 0 λG=>Hu c b 1 λI=>Cl 164 #[.P a 0,.I T,.agg #[.I G,.U I]] c λK B=>K=.T #[]/\Cl 165 #[.P a 0,.I T] B λL d=>L=.T #[]/\∃g,Cc d a 1 (.map g)/\Hi d b 0 λs=> ∃u,Gs 114 (.map g) (.I s) false d (.I u)/\Cl 228 #[.P a 0,.I u] d λM e=>M=.T #[]/\Cc e b 0 (.I s)/\Cc e a 1 (.map g)/\J e) (J c))))):Cl 163 #[.P a 0,.I k] h R:=aP [(31,.join []),(36,λ_=>pN 9)] C
def uy(c:Cl 254 #[.P a 0] h λv H=> ∃T,v=.I T/\ite (T==0) (R (.T #[.I 0,.U 0,.B false]) H) (Hl H a 0 λe d _=>Bd 0 d/\aH e λA=>kU H (A.add (toNat 0*2)) λf=>Hl H a 0 λj g _=>Bd 0 g/\aH j λb=> ∃t,aU H ((b.add (toNat 0*2)).add 1)=some (.U t)/\R (.T #[.I f,.U t,.B true]) H)):Cl 175 #[.P a 0] h R:=aP [(11,λ_=>pN 17)] c
def uz{n:Int}(A:Cl 175 #[.P a 0] h λv u=> ∃j l p,v=.T #[.I j,.U l,.B p]/\∃(I:bZ->Nat->Nat->Int->Int->Bool->dw)(m:bZ->Nat->Nat->Int->Int->Bool->aA->Nat),I none 0 0 j l p u/\∀c O o k V d H,I c O o k V d H->aB (λ(B:Bool) f=>ite B (aW f (.C #[.I k] 3) λb w=>jE (Builtin.append_ #[175,175] 175 #[.L c O o,.L (Sa b 0) 1 1]) w λC y=>Vl C λs r q=>Cl 163 #[.P a 0,.I k] y λD z=>Vi D λ_=>Cl 175 #[.P a 0] z λE g=> ∃t T e,E=.T #[.I t,.U T,.B e]/\(I s r q t T e g/\m s r q t T e g<m c O o k V d H)) (R (.L c O o) f)) (λJ=>ite d (J (decide (V<=n)) H) (J false H))):Cl 123 #[.P a 0,.U n] h R:=aP [(8,.loop [(5,sS),(6,sI),(7,sU),(8,sB)]),(11,.join [(20,sB)])] A

end
section
open Go.jD
namespace ck
def tm:vw Tryz.prog 114 (.I 0):=.of 3 3 .i64 cZ cZ cZ
def enc(b:List E):List Value:=b.flatMap λe=> [.int .i64 e.1,.int .u64 e.2]
def vZ(e:E)(b:List E):enc (e::b)=.I e.1:: .U e.2::enc b:=rfl
def mf: ∀b:List E,(enc b).length=b.length*2
 | []=>rfl
 |e::b=>by rw[vZ];simp only[ba,mf b];omega
def MK(b fs:List E):enc (b++fs)=enc b++enc fs:=by simp[enc]
theorem U1: ∀{b:List E}{i:Nat},i<b.length->(enc b)[i*2]? =some (.I (at_ b i).1)
 | [],_,h=>by simp at h
 |e::b,0,_=>rfl
 |e::b,i+1,h=>by rw[vZ,show(i+1)*2=i*2+1+1 by omega,List.getElem?_cons_succ,List.getElem?_cons_succ,U1 (by grind)];rfl
theorem U2: ∀{b:List E}{i:Nat},i<b.length->(enc b)[i*2+1]? =some (.U (at_ b i).2)
 | [],_,h=>by simp at h
 |e::b,0,_=>rfl
 |e::b,i+1,h=>by rw[vZ,show(i+1)*2+1=i*2+1+1+1 by omega,List.getElem?_cons_succ,List.getElem?_cons_succ,U2 (by grind)];rfl
def N0: ∀(b:List E)(i:Nat)(x:E),((enc b).set (i*2) (.I x.1)).set (i*2+1) (.U x.2)=enc (b.set i x)
 | [],_,_=>by simp[enc]
 |e::b,0,x=>rfl
 |e::b,i+1,x=>by rw[vZ,show(i+1)*2=i*2+1+1 by omega,List.set_cons_succ,List.set_cons_succ,List.set_cons_succ,List.set_cons_succ,N0 b i x];rfl
def K7: ∀(b:List E)(n:Nat),(enc b).take (n*2)=enc (b.take n)
 | [],n=>by simp[enc]
 |e::b,0=>by simp[enc]
 |e::b,n+1=>by rw[vZ,show(n+1)*2=n*2+1+1 by omega,List.take_succ_cons,List.take_succ_cons,K7 b n];rfl
def N1: ∀(b:List E),∀v∈enc b,gk v=true
 | [],_,h=>by cases h
 |e::b,v,h=>by rcases bG.1 h with rfl|h;rfl;rcases bG.1 h with rfl|h;rfl;exact N1 b v h
structure Mem (h:aA) (a:Nat) (p:bZ) (cap m:Nat) (b:List E) (g:Int->Option Value):Prop where
 cN:h[a]? =some (.cells #[.slice p b.length cap,.map (some m)] 196 (0,0))
 own:Own h p b.length cap 2 (enc b)
 map:pI h m g
 ne: ¬aL p a
def Fh(a:Nat)(p:bZ)(m:Nat)(c:Nat):Prop:=c=a\/c=m\/aL p c
def inner(p:bZ)(m:Nat)(c:Nat):Prop:=c=m\/aL p c
variable {h : aA} {a m cap : Nat} {p : Option Addr} {b : List E} {g : Int → Option Value} {R : Value → aA → Prop}
def Mem.am(M:Mem h a p cap m b g):a≠m:=by rintro rfl;have⟨x,c,H⟩:=M.map.map;rw[M.cN]at H;cases H
def Mem.pm(M:Mem h a p cap m b g): ¬aL p m:=λd=>by have⟨x,c,H⟩:=M.map.map;have⟨y,t,e⟩:=M.own.cells d;rw[e]at H;cases H
def Mem.lt(M:Mem h a p cap m b g){c:Nat}(hc:Fh a p m c):c<h.size:=by rcases hc with rfl|rfl|hc;exact aD M.cN;exact M.map.lt;exact M.own.dk hc
def Mem.frame{S:gF}{e:aA}(M:Mem h a p cap m b g)(H:Fr S h e)(d: ∀c,Fh a p m c->¬S c):Mem e a p cap m b g:=
 ⟨H.get M.cN (d a (.inl rfl)),M.own.frame H λc f=>d c (.inr (.inr f)),M.map.frame H (d m (.inr (.inl rfl))),M.ne⟩
def Mem.calm{H:aA}(M:Mem h a p cap m b g)(c:Fr No h H):Mem H a p cap m b g:=M.frame c λ_ _=>id
def Mem.hd(M:Mem h a p cap m b g):aU h (AA a 0)=some (.L p b.length cap):=ai M.cN
def Mem.mp(M:Mem h a p cap m b g):aU h (AA a 1)=some (.map (some m)):=ai M.cN
def Mem.some(M:Mem h a p cap m b g)(c:0<b.length): ∃A,p=some A:=by have⟨B,o,H⟩:=M.own.some (by rw[mf];omega);exact⟨_,H⟩
def Mem.c0{A:Addr}(M:Mem h a (.some A) cap m b g){i:Nat}(H:i<b.length):aU h (A.add (i*2))=.some (.I (at_ b i).1):=M.own.cell (U1 H)
def Mem.c1{A:Addr}(M:Mem h a (.some A) cap m b g){i:Nat}(H:i<b.length):aU h ((A.add (i*2)).add 1)=.some (.U (at_ b i).2):=by rw[add_add];exact M.own.cell (U2 H)
def An{X x c y:Int}(l: iG h R (.B (decide (lt (X,x) (c,y))))):
  Cl 229 #[.agg #[.I X,.U x],.agg #[.I c,.U y]] h R:=by
 refine BC ?_;rintro B d rfl rfl n i rfl rfl;have f:Fr No h ((h.push (.C #[.I X,.U x] 271)).push (.C #[.I c,.U y] 271)):=Fr.tt (Fr.push _ _) (Fr.push _ _);have j:=Eh (x:=.C #[.I c,.U y] 271) (bR (h:=h) (x:=.C #[.I X,.U x] 271));have k:=bR (h:=h.push (.C #[.I X,.U x] 271)) (x:=.C #[.I c,.U y] 271);have H:=l _ f;refine⟨x,ai j,y,ai k,?_⟩;by_cases d:x<y;have e:decide (lt (X,x) (c,y))=true:=by simp[lt,d]
 rw[e]at H;simpa only[d,ct,bJ]using H;rw[dz];refine⟨x,ai j,y,ai k,?_⟩;by_cases i:x=y;subst i;simp only[beq_self_eq_true,bJ];refine⟨X,ai j,c,ai k,?_⟩;have e:decide (lt (X,x) (c,x))=decide (X<c):=by simp[lt]
 rw[e]at H;exact H;have e:decide (lt (X,x) (c,y))=false:=by simp[lt,d,i]
 rw[e]at H;simpa only[beq_eq_false_iff_ne.2 i,az,aY]using H
theorem BD(M:Mem h a p cap m b g){i:Nat}(G:i<b.length){x X:Int}(v: ∀l,Mem l a p cap m (b.set i (x,X)) (λk=>if k=x then some (.I i)else g k)->Fr (inner p m) h l->R (.T #[]) l):
  Cl 164 #[.P a 0,.I i,.agg #[.I x,.U X]] h R:=by
 obtain⟨A,rfl⟩:=M.some ae;refine vX ?_;rintro B q t rfl;have j:Fr No h (h.push (.C #[.I x,.U X] 271)):=Fr.push _ _;have d:=M.calm j;have f:=bR (h:=h) (x:=.C #[.I x,.U X] 271);rw[<-t]at f;generalize h.push (.C #[.I x,.U X] 271)=q at j d f;have u: ∀c,Fh a (some A) m c->B≠c:=λc H e=>by have:=M.lt H;omega
 refine⟨_,_,_,d.hd,x,ai f,X,ai f,ae,ar.2 ?_⟩;rw[aK,add_add];have I:=mf b;refine d.own.store ae λD O S w=>O.store (by grind) λE o C y=> ?_;rw[N0 b i (x,X)]at o;have F:=Fr.tt (Fr.of_eq S w) (Fr.of_eq C y);have n:=F.get d.cN M.ne;refine⟨_,ai n,x,ai (F.get f (λH=>u B (.inr (.inr H)) rfl)),(oR tm (d.map.frame F M.pm) λr z s K=>v r ⟨?_,?_,z,M.ne⟩ ?_)⟩;rw[K a M.am,n,fS];rw[fS];exact o.frame (Fr.of_eq s K) (λc H e=>M.pm (e▸H));exact Fr.no j ((F.mono λc _ H=> .inr H).trans (Fr.of_eq s K) bC (λ_ _ H=> .inl H))
def U3{h:aA}{t:TypeId}{z Z X M O P:Value}{G k u v:dw}{J:bZ->bZ->dw}(s: ∀j,Fr No h j->G j/\k j/\u j/\v j)(hJ: ∀B d j,j[B]? =some (.C #[X,M] t (0,0))->j[d]? =some (.C #[O,P] t (0,0))->h.size<=B->h.size<=d->Fr No h j->J (Sa B 0) (Sa d 0) j):
  (aW h (.C #[z,Z] t) λB H=>G H/\k H/\u H/\v H/\aW H (.C #[z,Z] t) λl e=>G e/\k e/\u e/\v e/\
   aO e (AA B 0) X λE=>aO E (AA B 1) M λi=>G i/\k i/\aO i (AA l 0) O λC=>aO C (AA l 1) P λD=>J (Sa B 0) (Sa l 0) D)/\
  (aW h (.C #[z,Z] t) λB H=>G H/\k H/\u H/\v H/\aW H (.C #[z,Z] t) λl e=>G e/\k e/\u e/\v e/\
   aO e (AA l 0) X λE=>aO E (AA l 1) M λi=>G i/\k i/\aO i (AA B 0) O λC=>aO C (AA B 1) P λD=>J (Sa l 0) (Sa B 0) D)/\True:=by
 have a': ∀(B d:Nat)(A:aA),B≠d->h.size<=B->h.size<=d->Fr No h A->A[B]? =some (.C #[z,Z] t (0,0))->A[d]? =some (.C #[z,Z] t (0,0))->
   aO A (AA B 0) X λE=>aO E (AA B 1) M λi=>G i/\k i/\aO i (AA d 0) O λC=>aO C (AA d 1) P λD=>J (Sa B 0) (Sa d 0) D:=by
  intro B d A L S T f7 c7 f';have K: ∀{w x:aA}{c':Nat},Fr No h w->h.size<=c'->x.size=w.size->(∀y,y≠c'->x[y]? =w[y]?)->Fr No h x:=λf hx hs ho=>⟨bN f.1,λc hc hn=>by rw[ho c ae];exact f.2 c hc hn⟩;refine bf c7 bt λh8 c8 s8 k8=>bf c8 bt λh9 c9 s9 k9=> ?_;have Q:=K (K f7 S s8 k8) S s9 k9;have g':h9[d]? =some (.C #[z,Z] t (0,0)):=by rw[k9 _ L.symm,k8 _ L.symm];exact f'
  refine⟨(s _ Q).1,(s _ Q).2.1,bf g' bt λk' d' i' U=>bf d' bt λh' e' j' V=> ?_⟩;refine hJ B d h' ?_ e' S T (K (K Q T i' U) T j' V);rw[V _ L,U _ L];exact c9
 have I: ∀b',Fr No h (h.push b'):=λb'=>Fr.push _ _;refine⟨?_,?_,trivial⟩;rintro B w rfl rfl;obtain⟨n,o,q,r⟩:=s _ (I _);refine⟨n,o,q,r,?_⟩;rintro d x rfl rfl;have F:=Fr.tt (I (.C #[z,Z] t)) (Fr.push (h.push (.C #[z,Z] t)) (.C #[z,Z] t));obtain⟨n,o,q,r⟩:=s _ F;exact⟨n,o,q,r,a' _ _ _ bt bt bt F (Eh bR) bR⟩;rintro B w rfl rfl;obtain⟨n,o,q,r⟩:=s _ (I _);refine⟨n,o,q,r,?_⟩;rintro d x rfl rfl;have F:=Fr.tt (I (.C #[z,Z] t)) (Fr.push (h.push (.C #[z,Z] t)) (.C #[z,Z] t));obtain⟨n,o,q,r⟩:=s _ F;exact⟨n,o,q,r,a' _ _ _ bt bt bt F bR (Eh bR)⟩
end ck
end
section
open Go.jD
namespace ck
variable {h:aA} {a m cap:Nat} {p:bZ} {c:List E} {g:Int→Option Value} {R:fp}
variable {q i b:Nat}
def VR(H:q<1000000):IntKind.wrap .i64 (Int.tdiv (IntKind.wrap .i64 ((q:Int) - 1)) 2)=(((q - 1)/2:Nat):Int):=by
 rw[dJ (n:=(q) - 1) ae ae];cases q with
 |zero=>decide
 |succ n=>
  rw[show((n+1:Nat)) - 1=(n:Int) by omega,show n+1 - 1=n from rfl];have:Int.tdiv (n) 2=((n/2)):=by rfl
  exact fc
def TX(H:q<1000000):IntKind.wrap .i64 (IntKind.wrap .i64 (2*(q:Int))+1)=((2*q+1:Nat):Int):=by rw[dJ (n:=2*(q)) ae ae,fc];omega
def TY(H:q<1000000):IntKind.wrap .i64 (IntKind.wrap .i64 (2*(q:Int))+2)=((2*q+2:Nat):Int):=by rw[dJ (n:=2*(q)) ae ae,fc];omega
def N4{K:dw}(M:Mem h a p cap m c g)(y:jq c g){j B:Nat}(n:i<c.length)(o:j<c.length)(E:i≠j)(k:h[b]? =some (.C #[.I (at_ c i).1,.U (at_ c i).2] 271 (0,0)))(C:h[B]? =some (.C #[.I (at_ c j).1,.U (at_ c j).2] 271 (0,0)))(I: ¬inner p m B)(D: ∀H G,Mem H a p cap m (tR c i j) G->jq (tR c i j) G->Fr (inner p m) h H->K H):
  aH (some ((AA b 0):Addr)) λA=>
   ∃(t:Int),aU h A=some (.I t)/\∃(T:Int),aU h (A.add 1)=some (.U T)/\
   Cl 164 #[.P a 0,.I (j:Int),.agg #[.I t,.U T]] h λv d=>
   v=.T #[]/\
   aH (some ((AA B 0):Addr)) λe=>
   ∃(r:Int),aU d e=some (.I r)/\∃(s:Int),aU d (e.add 1)=some (.U s)/\
   Cl 164 #[.P a 0,.I (i:Int),.agg #[.I r,.U s]] d λV z=>
   V=.T #[]/\K z:=by
 refine ar.2 ⟨_,ai k,_,by rw[iP];exact ai k,?_⟩;refine BD M o λJ u f=>⟨rfl,ar.2 ?_⟩;have l:=f.get C I;refine⟨_,ai l,_,by rw[iP];exact ai l,?_⟩;refine BD u (by rw[fS];exact n) λx w F=>⟨rfl,D x _ w (y.swap n o E) (Fr.tt f F)⟩
def YY(H:aA)(a:Nat)(p:bZ)(cap m:Nat)(e:List E)(I:Nat)(i:Int)(h:aA):Prop:=
 ∃c g q,i=((q:Nat):Int)/\q<e.length/\c.length=e.length/\Mem h a p cap m c g/\jq c g/\c.Perm e/\yi (at_ c) e.length q/\
  ((q=I/\c=e)\/Er (at_ c) e.length q)/\at_ c q=at_ e I/\Fr (inner p m) H h
theorem K8(M:Mem h a p cap m c g)(V:jq c g)(hi:i<c.length)(hn:c.length<1000000)(K:yi (at_ c) c.length i)(hk: ∀o E G q,Mem o a p cap m E G->jq E G->E.Perm c->E.length=c.length->q<c.length->at_ E q=at_ c i->yj (at_ E) c.length q->(Er (at_ c) c.length i->vE (at_ E) c.length)->Fr (inner p m) h o->R (.T #[]) o):
  Cl 165 #[.P a 0,.I (i:Int)] h R:=by
 refine xF ⟨YY h a p cap m c i,λi _=>i.toNat,⟨c,g,i,rfl,hi,rfl,M,V,.refl _,K,.inl ⟨rfl,rfl⟩,rfl,Fr.refl _ _⟩,?_⟩;rintro i1 u ⟨e,O,q,rfl,y,x,d,P,A,s,kd,w,t⟩;rw[VR ae];refine aB.of λJ v=> ?_;have k:q<e.length:=ae
 have H:(q - 1)/2<e.length:=ae
 have S: ∀n,Fr No u n->(q=0\/le (at_ e ((q - 1)/2)) (at_ e q))->J false n:=by intro n f c';subst v;simp only[az,aY];have hd:=Tv s c';refine hk n e O q (d.calm f) P A x y w hd (λk0=> ?_) (Fr.on t f);rcases kd with⟨D,I⟩|kd;subst D I;exact ss hd k0;exact ss hd kd
 by_cases T:q=0;subst T;exact S u (Fr.refl _ _) (.inl rfl);have a':(q:Int)>0:=ae
 simp only[a',ct,bJ,aK];obtain⟨ad,rfl⟩:=d.some ae;refine⟨_,_,_,d.hd,ae,ar.2 ⟨_,d.c0 k,_,d.c1 k,_,_,_,d.hd,ae,ar.2 ⟨_,d.c0 H,_,d.c1 H,An λn f=>⟨_,rfl,(d.calm f).hd,(d.calm f).hd,?_⟩⟩⟩⟩;by_cases r:lt (at_ e q) (at_ e ((q - 1)/2));rw[show decide (lt ((at_ e q).1,(at_ e q).2) ((at_ e ((q - 1)/2)).1,(at_ e ((q - 1)/2)).2))=true from aC r];subst v;rw[ag rfl,aK];have j:=d.calm f;refine aB.of λJ1 U=>⟨_,_,_,j.hd,ae,ar.2 ⟨_,j.c0 k,_,j.c1 k,_,_,_,j.hd,ae,ar.2 ⟨_,j.c0 H,_,j.c1 H,(U3 (λo F=> ?_) (λb b' o X Z sb d' F=> ?_))⟩⟩⟩;have l:=j.calm F;exact⟨⟨l.c0 H,l.c1 H,trivial⟩,l.hd,⟨l.c0 k,l.c1 k,trivial⟩,l.hd⟩;subst U;refine N4 (j.calm F) P k H ae X Z (λhc=> ?_) λh5 Q B C L=>⟨⟨tR e q ((q - 1)/2),Q,(q - 1)/2,rfl,ae,by rw[A2];exact x,B,C,(ym k H).trans A,?_⟩,?_⟩;have:=j.lt (.inr hc);omega;have z:=Tw s ae y rfl r;rw[HA k H];refine⟨z.1,.inr z.2,?_,Fr.tt t (Fr.no f (Fr.no F L))⟩;rw[<-w];unfold qM;rw[dz,ag rfl];grind;rw[show decide (lt ((at_ e q).1,(at_ e q).2) ((at_ e ((q - 1)/2)).1,(at_ e ((q - 1)/2)).2))=false from aT r];exact S n f (.inr r)
def RP{J:kj}(M:Mem h a p cap m c g){C:Nat}(z:b<c.length)(S:c.length<=C->J b h)(U:C<c.length->lt (at_ c C) (at_ c b)->∀H,Fr No h H->J C H)(V:C<c.length->¬lt (at_ c C) (at_ c b)->∀H,Fr No h H->J b H):
  aB (λ(X:Bool) (y:aA)=>
   aB (λ(P:Int) (Q:aA)=>J P Q)
   (λs=>
    if X=true then
     s (C:Int) y
    else
     s (b:Int) y))
  (λr=>
   ∃(D:bZ)(t B:Nat),aU h (AA a 0)=some (.L D t B)/\
   if(decide ((C:Int)<(t:Int)))=true then
    ∃(l:bZ)(T E:Nat),aU h (AA a 0)=some (.L l T E)/\
    ((0:Int)<=(C:Int)/\(C:Int)<(T:Int))/\
    aH l λA=>
    ∃(F:Int),aU h (A.add (Int.toNat (C:Int)*2))=some (.I F)/\∃(G:Int),aU h ((A.add (Int.toNat (C:Int)*2)).add 1)=some (.U G)/\
    ∃(o:bZ)(n I:Nat),aU h (AA a 0)=some (.L o n I)/\
    ((0:Int)<=(b:Int)/\(b:Int)<(n:Int))/\
    aH o λu=>
    ∃(K:Int),aU h (u.add (Int.toNat (b:Int)*2))=some (.I K)/\∃(L:Int),aU h ((u.add (Int.toNat (b:Int)*2)).add 1)=some (.U L)/\
    Cl 229 #[.agg #[.I F,.U G],.agg #[.I K,.U L]] h λv d=>
    ∃(O:Bool),v=.B O/\
    aU d (AA a 0)=some (.L o n I)/\
    aU d (AA a 0)=some (.L l T E)/\
    aU d (AA a 0)=some (.L D t B)/\
    r O d
   else
    r false h):=by
 refine aB.of λZ x=>⟨_,_,_,M.hd,?_⟩;by_cases e:C<c.length;have k:(C:Int)<(c.length:Int):=ae
 simp only[k,ct,bJ,aK];obtain⟨ad,rfl⟩:=M.some ae;refine⟨_,_,_,M.hd,ae,ar.2 ⟨_,M.c0 e,_,M.c1 e,_,_,_,M.hd,ae,ar.2 ⟨_,M.c0 z,_,M.c1 z,An λw f=>⟨_,rfl,(M.calm f).hd,(M.calm f).hd,(M.calm f).hd,?_⟩⟩⟩⟩;subst x;by_cases j:lt (at_ c C) (at_ c b);rw[show decide (lt ((at_ c C).1,(at_ c C).2) ((at_ c b).1,(at_ c b).2))=true from aC j];simp only[bJ,aB];exact U e j w f;rw[show decide (lt ((at_ c C).1,(at_ c C).2) ((at_ c b).1,(at_ c b).2))=false from aT j];simp only[az,aY,aB];exact V e j w f;have k: ¬(C:Int)<(c.length:Int):=ae
 subst x;simp only[k,cU,az,aY,aB];exact S ae
def YZ(H:aA)(a:Nat)(p:bZ)(cap m:Nat)(e:List E)(i:Int)(h:aA):Prop:=
 ∃c g q,i=((q:Nat):Int)/\q<e.length/\c.length=e.length/\Mem h a p cap m c g/\jq c g/\c.Perm e/\yj (at_ c) e.length q/\Fr (inner p m) H h
def Yf(H:aA)(c:List E)(q:Nat)(B t:Int)(h:aA):Prop:=
 ∃b k:Nat,B=b/\t=k/\k<=2/\b<c.length/\Fr No H h/\(b≠q->(b - 1)/2=q/\0<b/\lt (at_ c b) (at_ c q))/\∀C,0<C->C<c.length->C<=2*q+k->(C - 1)/2=q->le (at_ c b) (at_ c C)
theorem Jn(M:Mem h a p cap m c g)(hP:jq c g)(hi:i<c.length)(hn:c.length<1000000)(ex:yj (at_ c) c.length i)(hk: ∀z E Q,Mem z a p cap m E Q->jq E Q->E.Perm c->E.length=c.length->vE (at_ E) c.length->Fr (inner p m) h z->R (.T #[]) z):
  Cl 228 #[.P a 0,.I (i:Int)] h R:=by
 refine uw ⟨YZ h a p cap m c,λi _=>c.length - i.toNat,⟨c,g,i,rfl,hi,rfl,M,hP,.refl _,ex,Fr.refl _ _⟩,?_⟩;rintro i1 S ⟨A,g1,q,rfl,hq,V,Z,P,X,L,O⟩;have n:q<A.length:=ae
 rw[TX ae,TY ae];refine⟨Yf S A q,λ_ t _=>2 - t.toNat,⟨q,0,rfl,rfl,ae,n,Fr.refl _ _,λI=>absurd rfl I,λC S T D h4=>ae⟩,?_⟩;rintro e' t T ⟨b,k,rfl,rfl,h',H,F,v,G⟩;have d:=Z.calm F;by_cases i':k<2;have b':(k:Int)<2:=ae
 simp only[b',ct,bJ];rw[dJ (n:=(k:Int)+1) ae ae];refine aB.of λd' U=>⟨ae,λf'=> ?_,λg'=> ?_,trivial⟩;obtain rfl:k=0:=ae
 refine RP d H (λl=> ?_) (λl f D u=> ?_) (λl f D u=> ?_)<;>subst U<;>refine⟨?_,bt⟩;exact⟨b,1,rfl,rfl,ae,H,F,v,λC o r y s=>ae⟩;refine⟨2*q+1,1,rfl,rfl,ae,l,Fr.tt F u,λ_=>⟨ae,ae,?_⟩,λC o r y s=> ?_⟩;by_cases e:b=q;rw[<-e];exact e▸f;exact lt_trans f (v e).2.2;have:C=2*q+1:=ae
 subst this;exact le_refl _;refine⟨b,1,rfl,rfl,ae,H,Fr.tt F u,v,λC o r y s=> ?_⟩;have:C=2*q+1:=ae
 subst this;exact f;obtain rfl:k=1:=ae
 refine RP d H (λl=> ?_) (λl f D u=> ?_) (λl f D u=> ?_)<;>subst U<;>refine⟨?_,bt⟩;exact⟨b,2,rfl,rfl,ae,H,F,v,λC o r y s=>G C o r ae s⟩;refine⟨2*q+2,2,rfl,rfl,ae,l,Fr.tt F u,λ_=>⟨ae,ae,?_⟩,λC o r y s=> ?_⟩;by_cases e:b=q;rw[<-e];exact e▸f;exact lt_trans f (v e).2.2;by_cases e:C=2*q+2;subst e;exact le_refl _;exact le_trans (le_of_lt f) (G C o r ae s);refine⟨b,2,rfl,rfl,ae,H,Fr.tt F u,v,λC o r y s=> ?_⟩;by_cases e:C=2*q+2;subst e;exact f;grind;obtain rfl:k=2:=ae
 simp only[show¬((2:Nat):Int)<2 by omega,cU,az,aY];by_cases e:b=q;subst e;simp only[bne_self_eq_false,az,aY];refine hk T A g1 d P X V (ss L λj J j2 K=>G j J ae ae K) (Fr.on O F);obtain⟨b1,b2,b3⟩:=v e;have I:((b:Int) !=(q:Int))=true:=by simp;omega
 simp only[I,bJ,aK];obtain⟨ad,rfl⟩:=d.some ae;refine aB.of λJ1 a'=> ?_;refine⟨_,_,_,d.hd,ae,ar.2 ⟨_,d.c0 n,_,d.c1 n,_,_,_,d.hd,ae,ar.2 ⟨_,d.c0 H,_,d.c1 H,?_⟩⟩⟩;refine U3 (λz B=> ?_) (λx x' z hx c' sx j' B=> ?_);have w:=d.calm B;exact⟨⟨w.c0 H,w.c1 H,trivial⟩,w.hd,⟨w.c0 n,w.c1 n,trivial⟩,w.hd⟩;subst a';have M3:=d.calm B;refine N4 M3 P n H (λx=>e x.symm) hx c' (λl=> ?_) λh5 g5 M5 P5 f5=>⟨⟨tR A q b,g5,b,rfl,ae,by rw[A2];exact V,M5,P5,(ym n H).trans X,?_,Fr.tt O (Fr.no F (Fr.no B f5))⟩,?_⟩;have:=d.lt (.inr l);omega;rw[HA n H];exact OT L b1 b2 ae b3 λj J j2 K=>G j J ae ae K;grind

end ck
end
section
open Go.jD
namespace ck
variable {h:aA} {a m cap:Nat} {p:bZ} {b:List E} {g:Int→Option Value} {R:fp} {S:Nat→Prop} {L:List E}
def tE:pJ Tryz.prog 194 271 2 16 (.agg #[.I 0,.U 0]):=⟨cZ,cZ,rfl⟩
def tI:pJ Tryz.prog 175 3 1 8 (.I 0):=⟨cZ,cZ,rfl⟩
def Good(L:List E):Prop:= ∀e∈L,1<=e.1/\e.1<=2^40/\0<=e.2/\e.2<=2^40
def Al(h:aA)(a:Nat)(S:gF)(L:List E):Prop:=
 ∃p cap m b g,Mem h a p cap m b g/\jq b g/\vE (at_ b) b.length/\b.Perm L/\jL L/\Good L/\∀c,S c↔Fh a p m c
def Al.lt(A:Al h a S L){c:Nat}(d:S c):c<h.size:=by have⟨p,cap,m,b,g,M,_,_,_,_,_,H⟩:=A;exact M.lt ((H c).1 d)
def Al.frame{Q:gF}{d:aA}(A:Al h a S L)(i:Fr Q h d)(j: ∀c,S c->¬Q c):Al d a S L:=by have⟨p,cap,m,b,g,M,P,H,k,s,G,e⟩:=A;exact⟨p,cap,m,b,g,M.frame i λc f=>j c ((e c).2 f),P,H,k,s,G,e⟩
def Al.sorted(A:Al h a S L):jL L:=by have⟨p,cap,m,b,g,M,P,H,d,s,G,c⟩:=A;exact s
def Al.nodup(A:Al h a S L):(keys L).Nodup:=by have⟨p,cap,m,b,g,M,P,H,c,s,G,d⟩:=A;exact(keys_perm c).nodup_iff.1 P.1
def gh(M:Mem h a p cap m b g)(H:R (.B true) h):Cl 162 #[.P a 0] h R:=
 uv ⟨some m,M.mp,H⟩
def gC(k: ∀a S H,Al H a S []->(∀c,S c->h.size<=c)->Fr No h H->R (.P a 0) H):Cl 54 #[] h R:=by refine Ff ?_;rintro B n rfl rfl l o rfl rfl;have f:Fr No (h.push (.map #[] 0)) ((h.push (.map #[] 0)).push (.C #[.Z,.map (some h.size)] 196)):=Fr.push _ _;refine k _ (Fh (h.push (.map #[] 0)).size none h.size) _ ⟨none,0,h.size, [],λ_=>none,⟨bR,.nil rfl rfl rfl rfl,(pI.push h).frame f id,?_⟩,⟨.nil,?_,λ_ _=>rfl⟩,?_,.refl _,.nil,?_,λ_=>eV⟩ ?_ (Fr.tt (Fr.push _ _) f);rintro⟨_,e,_⟩;cases e;simp;intro j _ i;simp at i;intro e d;cases d;rintro c (rfl|rfl|⟨_,e,_⟩);simp;omega;cases e
def ML(A:Al h a S L)(c:R (.I (L.length:Int)) h):Cl 254 #[.P a 0] h R:=by have⟨p,cap,m,b,g,M,P,H,d,s,G,e⟩:=A;refine vW ⟨_,_,_,M.hd,?_⟩;rw[d.length_eq];exact c
def hd(L:List E):E:=L.headD (0,0)
def oD(A:Al h a S L)(d:R (.T #[.I (hd L).1,.U (hd L).2,.B (!L.isEmpty)]) h):Cl 175 #[.P a 0] h R:=by
 refine uy (ML A ⟨_,rfl,?_⟩);have⟨p,cap,m,b,g,M,P,H,f,s,G,l⟩:=A;cases L with
 |nil=>exact d
 |cons e r=>have i:=f.length_eq;simp only[ba]at i;obtain⟨k,rfl⟩:=M.some ae;have⟨n,j⟩:=QT f s H ae;have c:=M.c0 (i:=0) ae;have C:=M.c1 (i:=0) ae;rw[((List.cons.inj j).1.symm)]at c C;refine⟨_,_,_,M.hd,ae,ar.2 ⟨_,c,_,_,_,M.hd,ae,ar.2 ⟨_,C,d⟩⟩⟩
def VS{t:TypeId}{z Z x X:Value}{K:Nat->dw}(k: ∀B H,H[B]? =some (.C #[x,X] t (0,0))->h.size<=B->Fr No h H->K B H):
  aW h (.C #[z,Z] t) λB e=>aO e (AA B 0) x λf=>aO f (AA B 1) X λd=>K B d:=by
 rintro B e rfl rfl;refine bf bR bt λf C s l=>bf C bt λd i o n=>k _ d i (bu _) ⟨?_,λc j _=> ?_⟩;rw[o,s];simp;rw[n c ae,l c ae];exact(Fr.push (S:=λ_=>False) h _).2 c j id
theorem sJ(j':Al h a S L)(hn:L.length<1000000)(k:Int)(T:k∈keys L->∀f,Al f a S (gE L k)->Fr S h f->R (.I 0) f)(k2:k∉keys L->R (.I 4) h):Cl 163 #[.P a 0,.I k] h R:=by
 obtain⟨p,cap,m,b,g,M,P,H,y,so,gd,hS⟩:=j';have x':=y.length_eq;refine ux (gh M ⟨true,rfl,?_⟩);simp only[df,az,aY];have w:=IU tm M.map k;by_cases v:k∈keys b
 .have T:=T ((keys_perm y).mem_iff.1 v);clear k2;obtain⟨j,O,rfl⟩:=mem_keys v;obtain⟨n,l⟩: ∃n,b.length=n+1:=⟨b.length - 1,ae⟩;rw[P.2.1 j O]at w;refine⟨some m,M.mp,(j:Int),true,w,?_⟩;simp only[df,az,aY];obtain⟨B,o,rfl⟩:=M.own.some (by rw[mf];omega);refine⟨_,_,_,M.hd,_,_,_,M.hd,?_⟩;rw[show IntKind.wrap .i64 ((b.length:Int) - 1)=(n:Int) by rw[fc];omega];simp only[aK];refine⟨ae,ar.2 ⟨_,M.c0 (i:=n) ae,_,M.c1 (i:=n) ae,VS λC h4 hb sb f4=> ?_⟩⟩;have r:=M.calm f4;have w':=M.own.le;have r':cE (some ((AA B o):Addr)) cap 0 2=some (AA B o):=by
   unfold cE;split;rfl;rfl
  refine⟨_,_,_,r.hd,ae,bf r.cN bt λI c5 s5 k5=> ?_⟩;have F:Fr (λc=>c=a) h4 I:=Fr.of_eq s5 k5;have tl:(b.take n).length=n:=by grind
  have s:Mem I a (Sa B o) cap m (b.take n) g:=by refine⟨?_,?_,r.map.frame F (λe=>M.am e.symm),M.ne⟩;grind;have h':=(r.own.frame F (λc d e=>M.ne (e▸d))).sub (l:=0) (u:=n) ae ae;rw[r',K7,Nat.zero_mul,gK]at h';rw[tl];exact h'
  refine⟨some m,s.mp,CC tm s.map λu m6 s6 k6=>⟨rfl,?_⟩⟩;have t:Fr (λc=>c=m) I u:=Fr.of_eq s6 k6;have z:Mem u a (Sa B o) cap m (b.take n) (λi'=>if i'=(at_ b j).1 then none else g i'):=
   ⟨t.get s.cN M.am,s.own.frame t (λc d e=>M.pm (e▸d)),m6,M.ne⟩
  have c':Fr (Fh a (Sa B o) m) h u:=Fr.no f4 (F.trans t (λ_ _ e=> .inl e) (λ_ _ e=> .inr (.inl e)));have K: ∀c,Fh a (Sa B o) m c->C≠c:=λc d e=>by have:=M.lt d;omega
  have J:=t.get (F.get hb (K a (.inl rfl))) (K m (.inr (.inl rfl)));refine aB.of λk' hJ=> ?_;have done: ∀f E G,Mem f a (Sa B o) cap m E G->jq E G->vE (at_ E) E.length->E.Perm (cut b n j)->Fr (Fh a (Sa B o) m) h f->k' f:=by intro f E G M' P' V t' f';subst hJ;exact T f ⟨_,_,_,E,G,M',P',V,t'.trans (QU l O P.1 y),so.drop _,λe he=>gd e (bD.1 he).1,hS⟩ (f'.mono λc _ d=>(hS c).2 d)
  have x:=OU P l O;have cl:=NH (j:=j) l;by_cases i:j<n
  .have Q:(j:Int)<(n:Int):=ae
   simp only[i,bJ]at x;simp only[Q,ct,bJ];have D:(b.take n).set j ((at_ b n).1,(at_ b n).2)=cut b n j:=by unfold cut;rw[ag i]
   refine⟨_,ai J,_,ai J,BD z ae λh8 M8 f8=>⟨rfl,?_⟩⟩;rw[D]at M8;have ex:=QV l i H;refine K8 M8 x ae ae (by grind) λh9 o' g9 q A P9 v' l9 q9 m' a' _ f9=>⟨rfl,some m,A.mp,?_⟩;have U: ¬inner (Sa B o) m C:=λd=>K C (.inr d) rfl;have e':=f9.get (f8.get J U) U;have g':=Hh tm A.map (at_ b n).1;have e9:at_ o' q=at_ b n:=by rw[m',vF l i,ag rfl]
   have d':=P9.2.1 q ae;rw[e9]at d';rw[d']at g';refine⟨_,ai e',(q:Int),g',?_⟩;rw[<-l9]at a';refine Jn A P9 ae ae a' λq' n' p' Z l' u' s' X b'=>⟨rfl,ai (b'.get e' U),Z.mp,?_⟩;rw[<-s']at X;exact done q' n' p' Z l' X (u'.trans v') (c'.trans (Fr.tt f8 (Fr.tt f9 b')) bC (λ_ _ d=> .inr d))
  .have Q: ¬(j:Int)<(n:Int):=ae
   simp only[i,aY]at x;simp only[Q,cU,az,aY];have D:b.take n=cut b n j:=by unfold cut;rw[af i]
   rw[D]at z;have V:=QW l i H;exact done u _ _ z x (by grind) (.refl _) c'
 rw[P.2.2 k v]at w;exact⟨some m,M.mp,0,false,w,k2 λhx=>v ((keys_perm y).mem_iff.2 hx)⟩
def may(k t:Int):Bool:=decide (1<=k) && decide (k<=1099511627776) && decide (t<=1099511627776)
def lE{k t:Int}:may k t=true↔1<=k/\k<=2^40/\t<=2^40:=by simp[may,and_assoc]
def pM(L:List E)(k t:Int):List E:=DF (gE L k) (k,t)
def rh(L:List E)(k:Int):(gE L k).length<=L.length:=cS _ _
def BE(A:Al h a S L)(hn:L.length<999999)(k t:Int)(ht:0<=t)(K:may k t=true->∀u B,Al u a B (pM L k t)->(∀c,B c->S c\/h.size<=c)->Fr S h u->R (.I 0) u)(Z:may k t=false->R (.I 1) h):Cl 112 #[.P a 0,.I k,.U t] h R:=by
 have x:=A;obtain⟨p,cap,m,b,g,M, -, -, -, -, -, -⟩:=A;refine vY (gh M ⟨true,rfl,?_⟩);clear M;simp only[df,az,aY];refine aB.of λi' V=> ?_;have n:may k t=false->i' true h:=λl=>by subst V;exact Z l
 by_cases H:k<1;simp only[H,ct,bJ];exact n (by simp[may,show¬1<=k by omega]);simp only[H,cU,az,aY];by_cases J:k>1099511627776;simp only[J,ct,bJ];exact n (by simp[may,show¬k<=1099511627776 by omega]);simp only[J,cU,az,aY];by_cases O:t>1099511627776;simp only[O,ct];exact n (by simp[may,show¬t<=1099511627776 by omega]);simp only[O,cU];clear n Z;have K:=K (lE.2 ⟨ae,ae,ae⟩);subst V;simp only[az,aY];have rest: ∀H e,Al H a S (gE L k)->Fr S h H->(∃(t':Int),Value.I e=.I t'/\
    ∃(d':bZ)(c' b':Nat),aU H (AA a 0)=some (.L d' c' b')/\
    aW H (.C #[.I 0,.U 0] 271) λC l'=>
    bM Tryz.prog (Builtin.append_ #[194,194] 194 #[.L d' c' b',.L (Sa C 0) 1 1]) l' λw' m'=>
    ∃(g':bZ)(f' e':Nat),w'=.L g' f' e'/\
    aO m' (AA a 0) (.L g' f' e') λX=>
    ∃(v':bZ)(T u':Nat),aU X (AA a 0)=some (.L v' T u')/\
    Cl 164 #[.P a 0,.I (IntKind.wrap .i64 ((T:Int) - 1)),.agg #[.I k,.U t]] X λx' n'=>
    x'=.T #[]/\
    Cl 165 #[.P a 0,.I (IntKind.wrap .i64 ((T:Int) - 1))] n' λy' o'=>
    y'=.T #[]/\
    R (.I 0) o'):=by
  intro H e o F;refine⟨e,rfl,?_⟩;have kn:=Mq L k;have dl:=rh L k;obtain⟨p,cap,m,b,g,M,P,h',w,so,gd,d⟩:=o;have z':=w.length_eq;refine⟨_,_,_,M.hd,?_⟩;rintro C h4 rfl rfl;have s:Fr No H (H.push (.C #[.I 0,.U 0] 271)):=Fr.push _ _;have s':Row (H.push (.C #[.I 0,.U 0] 271)) (Sa H.size 0) (enc [(0,0)]):=.inr ⟨_,rfl,dO bR λA' E' hj=>by rw[bj];simpa[enc]using hj⟩;have D':H.size<=(H.push (.C #[.I 0,.U 0] 271)).size:=s.1;have i:=M.calm s;refine dI tE (eT:=271) cZ i.own s' rfl (N1 _) ae ae λf D Q o5 _ q G=>⟨_,_,_,rfl,?_⟩;rw[<-MK]at o5;have b5:=q.get i.cN M.ne;have a': ¬aL f a:=λhc=>by rcases G a hc with hx|hx;exact M.ne hx;have:=aD i.cN;omega
  have B': ¬aL f m:=λhc=>by rcases G m hc with hx|hx;exact M.pm hx;have:=i.map.lt;omega
  refine bf b5 bt λv c6 s6 k6=> ?_;have r:Fr (λc=>c=a) Q v:=Fr.of_eq s6 k6;have y:Mem v a f D m (b++ [(0,0)]) g:=by refine⟨?_,?_,(i.map.frame q M.pm).frame r (λe=>M.am e.symm),a'⟩;rw[c6,aq];rfl;rw[aq];exact o5.frame r (λc hc e=>a' (e▸hc))
  refine⟨_,_,_,y.hd,?_⟩;have ew:IntKind.wrap .i64 ((((b++ [((0,0):E)]).length:Nat):Int) - 1)=(b.length:Int):=by rw[aq,fk,fc];omega
  rw[ew];refine BD y bt λh7 z f7=>⟨rfl,?_⟩;have j':(b++ [((0,0):E)]).set b.length (k,t)=b++ [(k,t)]:=bt
  rw[j']at z;have q':k∉keys b:=λhx=>kn ((keys_perm w).mem_iff.1 hx);have P7:=OV (x:=(k,t)) P q';obtain⟨I,kd⟩:=QX (x:=(k,t)) h';have l7:(b++ [(k,t)]).length=b.length+1:=bt
  rw[<-l7]at I kd;refine K8 z P7 ae ae I λU k' g8 C' M8 P8 r' l8 _ _ _ j f8=>⟨rfl,?_⟩;have j:=j kd;rw[<-l8]at j;have gf: ∀c,Fh a f m c->S c\/h.size<=c:=by rintro c (rfl|rfl|hc);exact .inl ((d _).2 (.inl rfl));exact .inl ((d _).2 (.inr (.inl rfl)));rcases G c hc with hx|hx;exact .inl ((d _).2 (.inr (.inr hx)));have:=F.1;exact .inr ae
  refine K U (Fh a f m) ⟨f,D,m,k',g8,M8,P8,j,?_,so.insert _ kn,?_,λ_=>eV⟩ gf ?_;exact r'.trans ((eJ _ _).trans ((w.cons _).trans (me _ _).symm));intro e he;rcases bG.1 ((me _ _).mem_iff.1 he)with rfl|hx;omega;exact gd e hx;have p': ∀c,c<H.size->Fh a f m c->S c:=λc hc hx=>by rcases hx with rfl|rfl|hx;exact(d _).2 (.inl rfl);exact(d _).2 (.inr (.inl rfl));rcases G c hx with hy|hy;exact(d _).2 (.inr (.inr hy));omega
  have g1:Fr S H Q:=Fr.no s (q.mono λc _ hc=>(d c).2 (.inr (.inr hc)));have g2:Fr S H v:=g1.trans r bC (λc _ e=>(d c).2 (.inl e));have g3:Fr S H U:=g2.trans (Fr.tt f7 f8) bC (λc hc hx=>p' c hc (.inr hx));exact Fr.tt F g3
 refine sJ x ae k (λl H o F=>rest H 0 o F) (λl=> ?_);refine rest h 4 ?_ (Fr.refl _ _);rw[kJ l];exact x
def lB(n:Int)(e:E):Bool:=decide (e.2<=n)
def due(L:List E)(n:Int):List E:=L.takeWhile (lB n)
def rest(L:List E)(n:Int):List E:=L.dropWhile (lB n)
def kc(L:List E):List Value:=(keys L).map (.int .i64 ·)
theorem Pp{D T:List E}{n:Int}(hd: ∀e∈D,lB n e=true)(H: ∀e r,T=e::r->lB n e=false):due (D++T) n=D/\rest (D++T) n=T:=by
 unfold due rest;induction D with
 |nil=>
  cases T with
  |nil=>simp
  |cons e r=>simp_all
 |cons d D i=>simp_all
def WL(H:aA)(a:Nat)(S:gF)(L:List E)(n:Int)(o:bZ)(l c:Nat)(k t:Int)(i:Bool)(h:aA):Prop:=
 ∃D T,L=D++T/\(∀e∈D,lB n e=true)/\Al h a S T/\k=(hd T).1/\t=(hd T).2/\i= !T.isEmpty/\l=D.length/\Own h o l c 1 (kc D)/\(∀x,aL o x->H.size<=x)/\Fr S H h
theorem Jo(A:Al h a S L)(hn:L.length<999999)(n:Int)(X: ∀i P C,Al i a S (rest L n)->Own i P (due L n).length C 1 (kc (due L n))->(∀c,aL P c->h.size<=c)->Fr S h i->R (.slice P (due L n).length C) i):
  Cl 123 #[.P a 0,.U n] h R:=by
 refine uz (oD A ⟨_,_,_,rfl,?_⟩);refine⟨WL h a S L n,λ_ l _ _ _ _ _=>L.length - l,⟨[],L,rfl,(λ_ T=>by cases T),A,rfl,rfl,rfl,rfl,.nil rfl rfl rfl rfl,(λc ⟨_,e,_⟩=>by cases e),Fr.refl _ _⟩,?_⟩;rintro b' l c j' k' is H ⟨D,U,o,u,B,rfl,rfl,rfl,rfl,O,z,F⟩;refine aB.of λJ v=> ?_;have stop:(∀e r,U=e::r->lB n e=false)->J false H:=λht=>by subst v;simp only[az,aY];obtain⟨E,G⟩:=Pp u ht;rw[<-o]at E G;rw[<-E];rw[<-E]at O;exact X H b' c (by grind) O z F
 cases U with
 |nil=>grind
 |cons e U=>
  simp only[List.isEmpty_cons,ee,bJ];by_cases j:e.2<=n;rw[show decide ((hd (e::U)).2<=n)=true from aC j];subst v;simp only[bJ];rintro f' h4 rfl rfl;have h':L.length=D.length+(U.length+1):=by rw[o];simp
  have f:Fr No H (H.push (.C #[.I (hd (e::U)).1] 3)):=Fr.push _ _;have c':Row (H.push (.C #[.I (hd (e::U)).1] 3)) (Sa H.size 0) (kc [e]):=.inr ⟨_,rfl,dO bR λi' d' V=>by rw[bj];simpa[kc,keys,hd]using V⟩;have sz:H.size<=(H.push (.C #[.I (hd (e::U)).1] 3)).size:=f.1;refine dI tI (eT:=3) cZ (O.frame f λ_ _=>id) c' rfl (λd' w=>by simp[kc,keys]at w;subst w;rfl) ae ae λP C Q y _ s M=>⟨_,_,_,rfl,?_⟩;have I:kc D++kc [e]=kc (D++ [e]):=by simp[kc,keys]
  rw[I]at y;have g': ∀{c},S c->c<h.size:=λd=>A.lt d;have q:=(B.frame f λ_ _=>id).frame s (λc d hx=>by grind);have a': ∀c,aL P c->h.size<=c:=λc d=>by rcases M c d with hx|hx;exact z c hx;have:=F.1;omega
  have K:Fr S h Q:=F.trans (Fr.no f s) bC (λc d hx=>by grind);refine sJ q (by simp;omega) _ (λ_ h6 k t=>⟨_,rfl,?_⟩) (λZ=>absurd (by exact dN) Z);rw[show gE (e::U) (hd (e::U)).1=U from Ms q.nodup]at k;refine oD k ⟨_,_,_,rfl,⟨D++ [e],U,by rw[o];simp,?_,k,rfl,rfl,rfl,bt,?_,a',Fr.tt K t⟩,?_⟩;intro x hx;rcases bP.1 hx with hx|hx;exact u x hx;simp at hx;subst hx;exact aC j;exact y.frame t λc d hx=>by grind
  omega;rw[show decide ((hd (e::U)).2<=n)=false from aT j];exact stop λe' r x=>by cases x;exact aT j

end ck
end
section
variable {h:aA} {R:fp}
variable {b c a S s:Nat} {x X e num o:Int} {d f:bZ}
def Dp(i:Cl 54 #[] h λv H=>Vp v λt=>aW H (.C #[.Z,.I 1,.I 0,.I 0,.I 0,.Q t] 129) λb g=>R (.P b 0) g):Cl 18 #[] h R:=aP [] i
def wc(H: ∃t,Cc h b 5 (.Q t)/\R (.B (!t.isNone)) h):Cl 71 #[.P b 0] h R:=aP [] H
def yH(m:aW h (.C #[.I x,.I X,.L d c a,.U e] 92) λb k=>aW k (.C #[.I 0,.I 0,.Z,.U 0] 92) λB H=>Hl H b 2 λA z y=>Cl 57 #[.L A z y] H λv l=> ∃j T t,v=.L j T t/\aO l (AA b 2) (.L j T t) λg=>aF.LD g (AA b 0) λC D G F E I=>aF.ST g (AA B 0) C D G F E I λi=>aF.LD i (AA B 0) λr n u q p w=>R (.agg #[.I r,.I n,.L u q p,.U w]) i):Cl 72 #[.agg #[.I x,.I X,.L d c a,.U e]] h R:=aP [] m
def Ao (k:aW h (.C #[.I x,.I X,.L d c a,.U e] 92) λb H=> ∃i,Cc H b 1 (.I i)/\ite (decide (i≥1)) (∃j,Cc H b 1 (.I j)/\ite (decide (j<=1099511627776)) (∃m t l,Cc H b 2 (.L m t l)/\ite (decide (((t:Nat):Int)≥1)) (∃p T n,Cc H b 2 (.L p T n)/\ite (decide (((T:Nat):Int)<=600)) (∃g,Cc H b 3 (.U g)/\R (.B (decide (g<=1099511627776))) H) (R (.B false) H)) (R (.B false) H)) (R (.B false) H)) (R (.B false) H)):Cl 111 #[.agg #[.I x,.I X,.L d c a,.U e]] h R:=aP [] k
def wh(i:aW h (.C #[.I num] 3) λB H=>Hl H b 0 λk j T=>Cl 177 #[.L k j T,.func (.func 178) #[] #[.P B 0]] H λv g=> ∃t,v=.I t/\R (.I t) g):Cl 127 #[.P b 0,.I num] h R:=aP [] i
def sK{C:Nat}(g:aW h (.C #[.I x,.I X,.L d c a,.U e] 92) λb H=>Hi H b 0 λT=> ∃t,Cc H C 0 (.I t)/\R (.B (T==t)) H):Cl 178 #[.agg #[.I x,.I X,.L d c a,.U e],.P C 0] h R:=aP [] g
def xG{i:Int} (z:aW h (.C #[.I 0,.I 0,.Z,.U 0] 92) λq H=>Hl H b 0 λi' h' _=>Bd i h'/\aH i' λA=>aF.LD H (A.add (toNat i*4)) λJ K O M L P=>aW H (.C #[.I 0,.I 0,.Z,.U 0] 92) λB y=>aF.ST y (AA B 0) J K O M L P λj=>Hp j b 5 λQ=>Hi j B 0 λU=>Cl 163 #[.Q Q,.I U] j λj' k=>Vi j' λ_=>Hl k b 0 λn v t=>((0:Int)<=i/\i<=(t:Int))/\Hl k b 0 λp g T=>((0:Int)<=wrap .i64 (i+1)/\wrap .i64 (i+1)<=(g:Int))/\aW k (.C #[.L (cE n t 0 4) ((toNat i) - 0) (t - 0),.slice (cE p T (toNat (wrap .i64 (i+1))) 4) (g - (toNat (wrap .i64 (i+1)))) (T - (toNat (wrap .i64 (i+1))))] 89) λw l=>Cc l b 0 (.L p g T)/\Cc l b 0 (.L n v t)/\Cl 176 #[.L (Sa w 0) 2 2] l λk' m=>Vl k' λa' Z V=>Cc m b 0 (.L p g T)/\Cc m b 0 (.L n v t)/\aO m (AA b 0) (.L a' Z V) λr=>aF.LD r (AA B 0) λb' c' f' e' d' g'=>aF.ST r (AA q 0) b' c' f' e' d' g' λu=>aF.LD u (AA q 0) λC D G F E I=>R (.agg #[.I C,.I D,.L G F E,.U I]) u):Cl 126 #[.P b 0,.I i] h R:=aP [(5,λ_=>pN 7),(7,λ_=>pN 19)] z
def xH (G:Cl 71 #[.P b 0] h λj' j=>Vb j' λt7=>aB (λ(P:bZ) (L K:Nat) C=>R (.L P L K) C) (λJ=>ite t7 (Hl j b 0 λQ p _=> ∃(I:bZ->Nat->Nat->kj)(M:bZ->Nat->Nat->kG),I none 0 0 0 j/\∀i g O t H,I i g O t H->ite (decide (t<(p:Int))) (Bd t p/\aH Q λA=>aF.LD H (A.add (toNat t*4)) λU V b' a' Z c'=>aW H (.C #[.I 0,.I 0,.Z,.U 0] 92) λB D=>aF.ST D (AA B 0) U V b' a' Z c' λm=>aF.LD m (AA B 0) λd' e' h' g' f' i'=>Cl 72 #[.agg #[.I d',.I e',.L h' g' f',.U i']] m λk' E=> ∃q r w v u y,k'=.agg #[.I q,.I r,.L w v u,.U y]/\aW E (.C #[.I q,.I r,.L w v u,.U y] 92) λz F=>jE (Builtin.append_ #[89,89] 89 #[.L i g O,.L (Sa z 0) 1 1]) F λl' n=> ∃l k T,l'=.L l k T/\(I l k T (wrap .i64 (t+1)) n/\M l k T (wrap .i64 (t+1)) n<M i g O t H)) (J i g O H)) (J none 0 0 j))):Cl 32 #[.P b 0] h R:=aP [(7,.join [(3,sS)]),(11,.loop [(3,sS),(13,sI)])] G
def xI{k:bZ}{j D:Nat}{v:Int} (U:Cl 71 #[.P b 0] h λp' g=> ∃t,p'=.B t/\ite (!t) (R (.T #[.I 0,.I 6]) g) (Hi g b 1 λV=>Cl 72 #[.agg #[.I V,.I o,.L k j D,.U v]] g λq' O=> ∃T q w u r y,q'=.agg #[.I T,.I q,.L w u r,.U y]/\aW O (.C #[.I 0,.I 0,.Z,.U 0] 92) λB P=>aF.ST P (AA B 0) T q w u r y λm=>aF.LD m (AA B 0) λZ a' d' c' b' e'=>Cl 111 #[.agg #[.I Z,.I a',.L d' c' b',.U e']] m λr' H=> ∃z,r'=.B z/\ite (!z) (R (.T #[.I 0,.I 1]) H) (∃g' A f',Cc H b 0 (.L g' A f')/\ite (decide (((A:Nat):Int)≥16)) (R (.T #[.I 0,.I 15]) H) (Hl H b 0 λF E C=>aF.LD H (AA B 0) λh' i' l' k' j' m'=>aW H (.C #[.I h',.I i',.L l' k' j',.U m'] 92) λM n=>Cc n b 0 (.L F E C)/\jE (Builtin.append_ #[89,89] 89 #[.L F E C,.L (Sa M 0) 1 1]) n λs' Q=> ∃J I G,s'=.L J I G/\aO Q (AA b 0) (.L J I G) λp=> ∃K,Cc p b 1 (.I K)/\aO p (AA b 1) (.I (wrap .i64 (K+1))) λi=>Hp i b 5 λn'=>Hi i B 0 λo'=>Cl 112 #[.Q n',.I o',.U v] i λt' l=>Vi t' λ_=> ∃L,Cc l B 0 (.I L)/\R (.T #[.I L,.I 0]) l)))):Cl 341 #[.P b 0,.I o,.L k j D,.U v] h R:=aP [(28,λ_=>pN 11),(32,λ_=>pN 8)] U
def sL (m:Cl 71 #[.P b 0] h λv g=> ∃k,v=.B k/\ite (!k) (R (.I 6) g) (Cl 127 #[.P b 0,.I num] g λV H=> ∃t,V=.I t/\ite (decide (t<0)) (R (.I 4) H) (Hl H b 0 λp n _=>Bd t n/\aH p λA=> ∃T,aU H ((A.add (toNat t*4)).add 1)=some (.I T)/\ite (T !=o) (R (.I 13) H) (Cl 126 #[.P b 0,.I t] H λB i=> ∃q r y w u z,B=.agg #[.I q,.I r,.L y w u,.U z]/\∃j,Cc i b 3 (.I j)/\aO i (AA b 3) (.I (wrap .i64 (j+1))) λl=>R (.I 0) l)))):Cl 260 #[.P b 0,.I num,.I o] h R:=aP [] m
def wi (y:aW h (.C #[.I 0,.I 0,.Z,.U 0] 92) λB u=>Cl 71 #[.P b 0] u λc' H=> ∃r,c'=.B r/\ite (!r) (aF.ST H (AA B 0) 0 0 none 0 0 0 λg=>aF.LD g (AA B 0) λz D O K G U=>R (.T #[.agg #[.I z,.I D,.L O K G,.U U],.I 6]) g) (∃b' t a',Cc H b 0 (.L b' t a')/\ite (((t:Nat):Int)==0) (aF.ST H (AA B 0) 0 0 none 0 0 0 λi=>aF.LD i (AA B 0) λA E P L I V=>R (.T #[.agg #[.I A,.I E,.L P L I,.U V],.I 4]) i) (∃T,Cc H b 2 (.I T)/\aO H (AA b 2) (.I (wrap .i64 (T+1))) λv=>Cl 126 #[.P b 0,.I 0] v λd' w=> ∃k l p n m q,d'=.agg #[.I k,.I l,.L p n m,.U q]/\aF.ST w (AA B 0) k l p n m q λj=>aF.LD j (AA B 0) λC F Q M J Z=>R (.T #[.agg #[.I C,.I F,.L Q M J,.U Z],.I 0]) j))):Cl 138 #[.P b 0] h R:=aP [] y
def wj{n:Int} (M:Cl 71 #[.P b 0] h λc' j=>Vb c' λt9=>aB (λ(U:bZ) (Q P:Nat) E=>R (.L U Q P) E) (λJ=>ite t9 (Hp j b 5 λV=>Cl 123 #[.Q V,.U n] j λd' F=>Vl d' λZ T _=> ∃(I:bZ->Nat->Nat->kj)(m:bZ->Nat->Nat->kG),I none 0 0 0 F/\∀i g O t H,I i g O t H->ite (decide (t<(T:Int))) (Bd t T/\aH Z λC=>kU H (C.add (toNat t*1)) λa'=>Cl 127 #[.P b 0,.I a'] H λe' G=>Vi e' λb'=>Cl 126 #[.P b 0,.I b'] G λf' K=> ∃p q v u r w,f'=.agg #[.I p,.I q,.L v u r,.U w]/\aW K (.C #[.I p,.I q,.L v u r,.U w] 92) λD L=>jE (Builtin.append_ #[89,89] 89 #[.L i g O,.L (Sa D 0) 1 1]) L λg' k=>Vl g' λA z y=> ∃B,Cc k b 4 (.I B)/\aO k (AA b 4) (.I (wrap .i64 (B+1))) λl=>(I A z y (wrap .i64 (t+1)) l/\m A z y (wrap .i64 (t+1)) l<m i g O t H)) (J i g O H)) (J none 0 0 j))):Cl 88 #[.P b 0,.U n] h R:=aP [(7,.join [(5,sS)]),(11,.loop [(5,sS),(17,sI)])] M
def iS{F:Nat} (i: ∃(I:kj)(m:kG),I 0 h/\∀t H,I t H->ite (decide (t<(S:Int))) (Bd t S/\aH f λA=>aF.LD H (A.add (toNat t*4)) λj k p n l q=>Cl 178 #[.agg #[.I j,.I k,.L p n l,.U q],.P F 0] H λv g=> ∃T,v=.B T/\ite T (R (.I t) g) ((I (wrap .i64 (t+1)) g/\m (wrap .i64 (t+1)) g<m t H))) (R (.I (-1)) H)):Cl 177 #[.L f S s,.func (.func 178) #[] #[.P F 0]] h R:=aP [(6,.loop [(8,sI)])] i
def jN{m:bZ}{i K:Nat} (G: ∃(I:Int->kj)(M:Int->kG),I 0 0 h/\∀size t H,I size t H->ite (decide (t<(i:Int))) (aB (λ(z:Int) u=>(I z (wrap .i64 (t+1)) u/\M z (wrap .i64 (t+1)) u<M size t H)) (λJ=>Bd t i/\aH m λC=>lW H (C.add (toNat t*1)) λ_ A _=>aB (λE=>J (wrap .i64 (size+(A:Int))) E) (λB=>ite (decide ((wrap .i64 (size+(A:Int)))<0)) (False) (B H)))) (Cl 255 #[.Z,.I size] H λv F=>Vl v λP O L=> ∃(l:bZ->Nat->Nat->kj)(y:bZ->Nat->Nat->kG),l P O L 0 F/\∀k j n T g,l k j n T g->ite (decide (T<(i:Int))) (Bd T i/\aH m λD=>lW g (D.add (toNat T*1)) λV U Q=>jE (Builtin.append_ #[89,89] 89 #[.L k j n,.L V U Q]) g λZ w=> ∃r q p,Z=.L r q p/\(l r q p (wrap .i64 (T+1)) w/\y r q p (wrap .i64 (T+1)) w<y k j n T g)) (R (.L k j n) g))):Cl 176 #[.L m i K] h R:=aP [(8,.loop [(3,sI),(11,sI)]),(16,.join [(3,sI)]),(23,.join []),(33,.loop [(6,sS),(27,sI)])] G
def jV{n:Int} (k:aB (λH=>aB (λ(p:bZ) (m l:Nat) g=>R (.L p m l) g) (λj=>ite (decide ((wrap .i64 (n - (wrap .i64 ((s:Int) - (S:Int)))))>0)) (((0:Int)<=(s:Int)/\(s:Int)<=(s:Int))/\jE (Builtin.append_ #[89,3] 89 #[.L (cE f s 0 4) ((toNat (s:Int)) - 0) (s - 0),.I (wrap .i64 (n - (wrap .i64 ((s:Int) - (S:Int)))))]) H λv i=>Vl v λT _ t=>((0:Int)<=(S:Int)/\(S:Int)<=(t:Int))/\j (cE T t 0 4) ((toNat (S:Int)) - 0) (t - 0) i) (j f S s H))) (λJ=>ite (decide (n<0)) (False) (J h))):Cl 255 #[.L f S s,.I n] h R:=aP [(5,.join []),(13,.join [(0,sS)])] k

end
section
open Go.fv Go.jD
namespace gI
open gg
variable {h H:aA} {b:Nat} {X:Ft} {R:fp} {p:bZ} {c d i:Nat} {L:List E}
structure It where
 num:Nat
 owner:Int
 d:cQ
 dB:Nat
structure IV where
 num:Nat
 owner:Int
 v:BV
 dB:Nat
def IV.abs(x:IV):It:=⟨x.num,x.owner,x.v.b,x.dB⟩
abbrev iC(x:IV):List Value:= [.int .i64 (x.num:Int),.int .i64 x.owner,x.v.val,.int .u64 (x.dB:Int)]
def iL(x:IV):(iC x).length=4:=rfl
def K9(f:List IV): ∀v∈f.flatMap iC,gk v=true:=by intro v k;have⟨a,_,e⟩:=List.mem_flatMap.1 k;simp at e;rcases e with rfl|rfl|rfl|rfl<;>rfl
abbrev IV.agg(x:IV):Value:=.agg #[.int .i64 (x.num:Int),.int .i64 x.owner,x.v.val,.int .u64 (x.dB:Int)]
def tI:pJ Tryz.prog 89 92 4 48 (.agg #[.I 0,.I 0,.Z,.U 0]):=⟨cZ,cZ,rfl⟩
def uI:Tryz.prog.underlying 89=some (.slice 92):=cZ
def Yg:Tryz.prog.underlying 3=some (.int .i64):=cZ
structure BS where
 items:List It
 next:Nat
 taken:Nat
 mD:Nat
 over:Nat
structure Mm (h:aA) (b:Nat) (X:Ft) (s:BS) (L:List E) (j:bZ) (g:Nat) (f:List IV) (a:Nat) (S:gF):Prop where
 cN:h[b]? =some (.cells #[.slice j f.length g,.int .i64 (s.next:Int),.int .i64 (s.taken:Int),.int .i64 (s.mD:Int),.int .i64 (s.over:Int),.pointer (some ⟨a,0,none⟩)] 129 (0,0))
 own:Own h j f.length g 4 (f.flatMap iC)
 al:ck.Al h a S L
 abs:f.map IV.abs=s.items
 Gt: ∀x∈f,x.v.ok h X.D
 m: ∀c,X.M c↔c=b\/aL j c\/S c
 bl: ¬aL j b
 bs: ¬S b
 ls: ∀c,aL j c->¬S c
 xY: ∀c,X.M c->¬X.D c
 La: ∀c,X.D c->c<h.size
def Bx(h:aA)(b:Nat)(X:Ft)(s:BS)(L:List E):Prop:= ∃j g f a S,Mm h b X s L j g f a S
variable {s : BS} {j : Option Addr} {g a : Nat} {f : List IV} {S : Nat → Prop}
def Mm.lt(e:Mm h b X s L j g f a S)(y:Nat)(hy:X.M y\/X.D y):y<h.size:=by rcases hy with hy|hy;rcases(e.m y).1 hy with rfl|h1|h1;exact aD e.cN;exact e.own.dk h1;exact e.al.lt h1;exact e.La y hy
def Bx.lt(e:Bx h b X s L)(y:Nat)(k:X.M y\/X.D y):y<h.size:=by have⟨j,g,f,a,S,e⟩:=e;exact e.lt y k
def Mm.frame{Q:gF}(e:Mm h b X s L j g f a S)(F:Fr Q h H)(m: ∀y,X.M y\/X.D y->¬Q y):Mm H b X s L j g f a S:=
 have l:=λy k=>m y (.inl k)
 ⟨F.get e.cN (l b ((e.m b).2 (.inl rfl))),e.own.frame F (λy k=>l y ((e.m y).2 (.inr (.inl k)))),e.al.frame F (λy k=>l y ((e.m y).2 (.inr (.inr k)))),e.abs,λx n=>(e.Gt x n).frame F (λy k=>m y (.inr k)),e.m,e.bl,e.bs,e.ls,e.xY,λy k=>bX (e.La y k) F.1⟩
def Bx.frame{Q:gF}(e:Bx h b X s L)(F:Fr Q h H)(k: ∀y,X.M y\/X.D y->¬Q y):Bx H b X s L:=by have⟨j,g,f,a,S,e⟩:=e;exact⟨j,g,f,a,S,e.frame F k⟩
def Mm.on(e:Mm h b X s L j g f a S)(F:Fr No h H):Mm H b X s L j g f a S:=e.frame F bC
def Mm.len(e:Mm h b X s L j g f a S):f.length=s.items.length:=by rw[<-e.abs,aw]
def gh(e:Mm h b X s L j g f a S)(k:R (.B true) h):Cl 71 #[.P b 0] h R:=
 wc ⟨_,ai e.cN,k⟩
theorem gC(m: ∀H b X,Bx H b X ⟨[],1,0,0,0⟩ []->Fr No h H->(∀y,X.M y\/X.D y->h.size<=y)->R (.P b 0) H):Cl 18 #[] h R:=by refine Dp (ck.gC λa S k A G F=>⟨_,rfl,cg ?_⟩);have l:Fr No k (k.push (.C #[.Z,.I 1,.I 0,.I 0,.I 0,.P a 0] 129)):=Fr.push _ _;refine m _ k.size ⟨λy=>y=k.size\/aL none y\/S y,λ_=>False⟩ ⟨none,0, [],a,S,⟨bR,.nil rfl rfl rfl rfl,A.frame l bC,rfl,(λx n=>by cases n),λ_=>eV,(λ⟨a,e,_⟩=>by cases e),λhs=> ?_,(λy ⟨a,e,_⟩=>by cases e),λ_ _=>id,λ_ hy=>hy.elim⟩⟩ (F.tt l) ?_;have:=A.lt hs;omega;rintro y ((rfl|⟨a,e,_⟩|hs)|hy);exact F.1;cases e;grind;grind
theorem xe{A D E:Int}{B:cQ}{n m:Nat}(T:Row h p (bc B))(z:n=B.length)(Q:B.length<=70368744177664)(O: ∀H P C,Own H P B.length C 1 (bc B)->Fr No h H->(∀y,aL P y->h.size<=y)->R (.agg #[.I A,.I D,.L P B.length C,.U E]) H):
  Cl 72 #[.agg #[.I A,.I D,.L p n m,.U E]] h R:=by
 subst z;refine yH (aF.box λq h1 a' v r=>aF.box λk h2 b' x F=> ?_);have w:=F.get v id;refine⟨_,_,_,ai w,hY (T.frame (r.tt F) bC) rfl Q λZ J M V l g3=>⟨_,_,_,rfl,?_⟩⟩;have l1:=aD v;have l2:=aD x;have U:k≠q:=ae
 refine bf (l.get w id) bt λh4 G a2 I=>(aF.ld G (aF.set ((I k U).trans (l.get x id)) λu K d2 d3=>aF.ld K ?_));have t:Fr (λy=>y=q\/y=k) M u:=⟨ae,λy o z=>by grind⟩;refine O u Z J (V.frame t (λy o e=>by grind)) ((r.tt (F.tt l)).fresh t (λy o=>ae)) (λy o=>by grind)
def yI(o:Int)(n:Nat)(t:Int):Bool:=decide (1<=o) && decide (o<=1099511627776) && decide (1<=n) && decide (n<=600) && decide (t<=1099511627776)
def Fi{o t:Int}{n:Nat}:yI o n t=true↔1<=o/\o<=2^40/\1<=n/\n<=600/\t<=2^40:=by simp[yI,and_assoc]
theorem fD{u x o:Int}{n m:Nat}(k: ∀H,Fr No h H->R (.B (yI x n o)) H):
  Cl 111 #[.agg #[.I u,.I x,.L p n m,.U o]] h R:=by
 refine Ao (aF.box λB l E e F=>⟨_,gm e rfl,?_⟩);have k:=k l F;unfold yI at k;by_cases l:1<=x
 .rw[ag (by grind)];refine⟨_,gm e rfl,?_⟩;by_cases q:x<=1099511627776
  .rw[ag (by grind)];refine⟨_,_,_,gm e rfl,?_⟩;by_cases r:1<=n
   .rw[ag (by grind)];refine⟨_,_,_,gm e rfl,?_⟩;by_cases t:n<=600
    .rw[ag (by grind)];refine⟨_,gm e rfl,?_⟩;simpa[l,q,r,t]using k
    .grind
   .grind
  .grind
 .grind
def Fj(f:List It)(num:Int):Option Nat:=f.findIdx? (λa=>decide ((a.num:Int)=num))
def yJ(f:List It)(num:Int):Int:=match Fj f num with|some k=>(k:Int)|none=> -1
abbrev HT(h:aA)(b:Nat)(num:Int):Prop:=h[b]? =some (.cells #[.int .i64 num] 3 (0,0))
def RQ{b:Nat}{num:Int}(x:IV)(hid:HT h b num)(l: iG h R (.B (decide ((x.num:Int)=num)))):Cl 178 #[x.agg,.P b 0] h R:=by refine sK (aF.box λB e E k F=>⟨_,ai k,_,ai (F.get hid (λx=>x)),(l e F)⟩)
def wk{f:List IV}{n m b:Nat}{num:Int}(I:Row h p (f.flatMap iC))(E:n=f.length)(D:f.length<=1000000000)(hid:HT h b num)(q: iG h R (.I (yJ (f.map IV.abs) num))):
  Cl 177 #[.L p n m,.func (.func 178) #[] #[.P b 0]] h R:=by
 have e:yJ (f.map IV.abs) num=idxOf (λx=>decide ((x.num)=num)) f:=by unfold yJ Fj idxOf;rw[List.findIdx?_map];rfl
 rw[e]at q;refine iS (qL (λx=>decide ((x.num)=num)) (λt G K=>((0)<=t/\t<((n)))/\aH p λa=>aF.LD G (a.add (Int.toNat t*4)) λx y z l c w=>Cl 178 #[.agg #[.I x,.I y,.L z l c,.U w],.P b 0] G λv B=> ∃t,v=.B t/\K t B) E D (λk G x K r F C=> ?_) q);have lt:=(aJ.1 r).1;have o:=I.frame F bC;obtain⟨a,rfl⟩:=o.any iL;exact⟨ae,ar.2 (aF.qq (o.fa iL r) (RQ x (F.get hid id) λA u=>⟨_,rfl,C A (F.tt u)⟩))⟩
def iN{num:Int}(e:Mm h b X s L j g f a S)(o:s.items.length<=1000000000)(n: iG h R (.I (yJ s.items num))):Cl 127 #[.P b 0,.I num] h R:=by refine wh (cg ?_);have F:Fr No h (h.push (.C #[.I num] 3)):=Fr.push _ _;have k:=e.on F;have q:=e.len;refine⟨_,_,_,ai k.cN,wk k.own.hT rfl ae bR λm l=>⟨_,rfl,?_⟩⟩;rw[e.abs];exact n m (F.tt l)
theorem TZ{n:Nat}(t:n<=1000000)(k: ∀P C H,Own H P 0 C 4 []->Fr No h H->(∀y,aL P y->h.size<=y)->R (.L P 0 C) H):
  Cl 255 #[.Z,.I (n:Int)] h R:=by
 refine jV ?_;have m:IntKind.wrap .i64 (((0:Nat)) - ((0:Nat)))=0:=rfl;have E:IntKind.wrap .i64 ((n) - 0)=(n):=by rw[fc];omega
 rw[m,E];by_cases q:n=0;subst q;exact k none 0 h (.nil rfl rfl rfl rfl) (Fr.refl _ _) (λy ⟨a,e,_⟩=>by cases e);have Q:(n:Int)>0:=ae
 simp only[Q,ct,bJ];refine⟨ae,(KC tI Yg ae ae ae λl H o r F=>⟨_,_,_,rfl,ae,?_⟩)⟩;rw[kI];exact k _ l H o F (λy ⟨a,e,E⟩=>by grind)
theorem HU{C D:bZ}{U K V Q:Nat}{u w:List IV}(T:Row h (Sa c 0) [.L C U K,.L D V Q])(r1:Row h C (u.flatMap iC))(e1:U=u.length)(r2:Row h D (w.flatMap iC))(e2:V=w.length)(hl:u.length+w.length<=1000)(hk: ∀P E H,Own H P (u++w).length E 4 ((u++w).flatMap iC)->Fr No h H->(∀y,aL P y->h.size<=y)->R (.slice P (u++w).length E) H):
  Cl 176 #[.L (Sa c 0) 2 2] h R:=by
 subst e1 e2;have I: ∀{G:aA},Fr No h G->aU G (((AA c 0):Addr).add (0*1))=some (.L C u.length K):=λt=>(T.frame t bC).cell rfl;have M: ∀{G:aA},Fr No h G->aU G (((AA c 0):Addr).add (1*1))=some (.L D w.length Q):=λt=>(T.frame t bC).cell rfl;refine jN ⟨λsize i G=>G=h/\((i=0/\size=0)\/(i=1/\size=(u.length))\/(i=2/\size=((u.length+w.length)))),λ_ i _=>2 - i.toNat,⟨rfl,.inl ⟨rfl,rfl⟩⟩,?_⟩;rintro size i G ⟨rfl,A⟩;rcases A with⟨rfl,rfl⟩|⟨rfl,rfl⟩|⟨rfl,rfl⟩;rw[ag (by rfl)];refine aB.of λJ z=>⟨ae,ar.2 ⟨_,_,_,I (Fr.refl _ _),aB.of λZ l=> ?_⟩⟩;have e:IntKind.wrap .i64 (0+((u.length)))=(u.length):=by rw[fc];omega
 rw[e]at l;rw[e,af bt];subst l;subst z;exact⟨⟨rfl,.inr (.inl ⟨rfl,rfl⟩)⟩,by show 2 - Int.toNat 1<2 - Int.toNat 0;decide⟩;rw[ag (by rfl)];refine aB.of λJ z=>⟨ae,ar.2 ⟨_,_,_,M (Fr.refl _ _),aB.of λZ l=> ?_⟩⟩;have e:IntKind.wrap .i64 ((u.length)+((w.length)))=((u.length+w.length:Nat)):=by rw[fc];omega
 rw[e]at l;rw[e,af (by grind)];subst l;subst z;exact⟨⟨rfl,.inr (.inr ⟨rfl,rfl⟩)⟩,by show 2 - Int.toNat 2<2 - Int.toNat 1;decide⟩;rw[dz];refine TZ ae λp4 c4 h4 o4 f4 g4=>⟨_,_,_,rfl,⟨λm n r i k=>Fr No G k/\(∀y,aL m y->G.size<=y)/\((i=0/\n=0/\Own k m n r 4 [])\/(i=1/\n=u.length/\Own k m n r 4 (u.flatMap iC))\/(i=2/\n=(u++w).length/\Own k m n r 4 ((u++w).flatMap iC))),λ_ _ _ i _=>2 - i.toNat,⟨f4,g4,.inl ⟨rfl,rfl,o4⟩⟩,?_⟩⟩;rintro m n r i k ⟨F,q,A⟩;rcases A with⟨rfl,rfl,o⟩|⟨rfl,rfl,o⟩|⟨rfl,rfl,o⟩;refine⟨ae,ar.2 ⟨_,_,_,I F,(dI tI uI o (r1.frame F bC) (iH iC 4 iL u) (K9 u) ae ae λp6 c6 h6 O _ v x=>⟨_,_,_,rfl,?_⟩)⟩⟩;rw[dj,bj]at O;rw[bj];have a':=F.1;exact⟨⟨F.fresh v q,(λy B=>(x y B).elim (q y) (λh2=>ae)),.inr (.inl ⟨rfl,rfl,O⟩)⟩,by show 2 - Int.toNat 1<2 - Int.toNat 0;decide⟩;refine⟨ae,ar.2 ⟨_,_,_,M F,(dI tI uI o (r2.frame F bC) (iH iC 4 iL w) (K9 w) ae ae λp6 c6 h6 O _ v x=>⟨_,_,_,rfl,?_⟩)⟩⟩;rw[<-cO,<-aq]at O;rw[<-aq];have a':=F.1;exact⟨⟨F.fresh v q,(λy B=>(x y B).elim (q y) (λh2=>ae)),.inr (.inr ⟨rfl,rfl,O⟩)⟩,by show 2 - Int.toNat 2<2 - Int.toNat 1;decide⟩;grind
def Pq{L:List E}{k:Int}(n:k∉keys L):gE L k=L:=by unfold gE;rw[cK];intro e m;have:e.1≠k:=λl=>n (l▸bL m);simpa using this
def Own.DL{h:aA}{p:bZ}{f:List IV}{cap l u:Nat}(m:Row h p (f.flatMap iC))(e:l<=u)(k:u<=cap):Row h (cE p cap l 4) (((f.take u).drop l).flatMap iC):=by have:=m.sub (sz:=4) e k;rwa[kQ iC 4 iL,kR iC 4 iL]at this
def BF(f:List It)(i:Nat):List It:=f.take i++f.drop (i+1)
theorem A6{x:IV}(k:Mm h b X s L j g f a S)(hl:s.items.length<=100)(hL:L.length<1000)(m:f[i]? =some x)(hk: ∀H X',Bx H b X' { s with items:=BF s.items i } (gE L (x.num:Int))->bp X h X' H->x.v.ok H X'.D->R x.agg H):
  Cl 126 #[.P b 0,.I (i:Int)] h R:=by
 have G':=k.len;have hi:=(aJ.1 m).1;refine xG (aF.box λB h1 E' j' f1=> ?_);have H1:=k.on f1;obtain⟨v,w,rfl⟩:=k.own.addr ae;refine⟨_,_,_,ai H1.cN,ae,ar.2 (aF.qq (by rw[aK];exact H1.own.fa iL m) (aF.new λr o F' g' Z=> ?_))⟩;have z:=H1.on Z;have B':aF.at o B 0 0 none 0 0 0:=Z.get j' id;have z1:=f1.1;have z2:=Z.1;have l1:=aD j';have l2:=aD g';have ne:r≠B:=ae
 have nX: ∀y,h.size<=y->¬(X.M y\/X.D y):=λy hy m=>by have:=k.lt y m;omega
 refine⟨_,ai z.cN,_,ai g',?_⟩;have h': ∀l,ck.Al l a S (gE L (x.num:Int))->Fr S o l->
   l[b]? =some (.C #[.L (Sa v w) f.length g,.I (s.next:Int),.I (s.taken:Int),.I (s.mD:Int),.I (s.over:Int),.P a 0] 129 (0,0))/\
   Row l (Sa v w) (f.flatMap iC)/\aF.at l B 0 0 none 0 0 0/\aF.at l r (x.num:Int) x.owner x.v.p x.v.b.length x.v.c (x.dB:Int):=by
  intro l A F;have nS: ∀y,h.size<=y->¬S y:=λy hy J=>by have:=k.al.lt J;omega
  exact⟨F.get z.cN k.bs,z.own.hT.frame F (λa' ea J=>k.ls _ ⟨a',ea,rfl⟩ J),F.get B' (nS B ae),F.get g' (nS r ae)⟩
 have i': ∀l,ck.Al l a S (gE L (x.num:Int))->Fr S o l->∀P C q,Fr No l q->Own q P (f.take i++f.drop (i+1)).length C 4 ((f.take i++f.drop (i+1)).flatMap iC)->(∀y,aL P y->l.size<=y)->
   aO q (AA b 0) (.slice P (f.take i++f.drop (i+1)).length C) λE=>
    ∃(r':Int),aU E (AA r 0)=some (.I r')/\∃(s':Int),aU E (AA r 1)=some (.I s')/\∃(v':bZ)(u' t':Nat),aU E (AA r 2)=some (.L v' u' t')/\∃(w':Int),aU E (AA r 3)=some (.U w')/\
    aO E (AA B 0) (.I r') λy'=>
    aO y' (AA B 1) (.I s') λz'=>
    aO z' (AA B 2) (.L v' u' t') λA'=>
    aO A' (AA B 3) (.U w') λI=>
    ∃(l':Int),aU I (AA B 0)=some (.I l')/\∃(m':Int),aU I (AA B 1)=some (.I m')/\∃(p':bZ)(o' n':Nat),aU I (AA B 2)=some (.L p' o' n')/\∃(q':Int),aU I (AA B 3)=some (.U q')/\
    R (.agg #[.I l',.I m',.L p' o' n',.U q']) I:=by
  intro l A F P C q n O G;obtain⟨K,_,k3,k4⟩:=h' l A F;have lb:=aD k.cN;have z7:=F.1;have z9:=n.1;refine bf (n.get K id) bt λD a1 a2 a3=> ?_;have i2:aF.at D r (x.num:Int) x.owner x.v.p x.v.b.length x.v.c (x.dB:Int):=(a3 r ae).trans (n.get k4 id);refine aF.ld i2 ?_;have i1:aF.at D B 0 0 none 0 0 0:=(a3 B ae).trans (n.get k3 id);refine aF.set i1 λb' d1 d2 d3=>aF.ld d1 ?_;have f':Fr (λy=>y=b) q D:=Fr.of_eq a2 a3;have V:Fr (λy=>y=B) D b':=Fr.of_eq d2 d3;have F2:Fr No h o:=f1.tt Z;have F7:Fr S h l:=Fr.no F2 F;have F9:Fr S h q:=F7.tt (n.mono (λ_ _ m=>m.elim));have d':Fr (λy=>S y\/y=b) h D:=(F9.mono (λ_ _ m=> .inl m)).tt (f'.mono (λ_ _ m=> .inr m));have e':Fr X.M h b':=by refine⟨cD d'.1 V.1,λy hy hn=> ?_⟩;rw[V.2 y (bX hy d'.1) (λe=>ae),d'.2 y hy (λm=>hn ((k.m y).2 (m.elim (λh=> .inr (.inr h)) .inl)))]
  have C': ∀y,aL P y->¬S y:=λy hy J=>by have:=G y hy;have:=k.al.lt J;omega
  have k': ∀y,aL P y->y≠b:=λy hy e=>by have:=G y hy;omega
  have D': ∀y,aL P y->y≠B:=λy hy e=>by have:=G y hy;omega
  have x': ∀c':IV,c'∈f->c'.v.ok b' X.D:=λc' hv=>(k.Gt c' hv).frame e' (λy hd hm=>k.xY y hm hd);refine hk b' ⟨λy=>y=b\/aL P y\/S y,X.D⟩ ⟨P,C,f.take i++f.drop (i+1),a,S,⟨?_,(O.frame f' k').frame V D',?_,?_,?_,λ_=>eV,λm=>k' b m rfl,k.bs,C',?_,λy hy=>bX (k.La y hy) e'.1⟩⟩ ⟨e',?_,λ_=> .inl,λ_=>id⟩ (x' x (aG m));rw[d3 b ae,a1];simp;have A9:=A.frame n bC;exact(A9.frame f' (λy hy e=>k.bs (e▸hy))).frame V (λy hy e=>bN (k.al.lt hy));show _=BF s.items i;unfold BF;rw[<-k.abs,aS,List.map_take,List.map_drop];grind;rintro y (rfl|hy|hy) hd;exact k.xY _ ((k.m _).2 (.inl rfl)) hd;grind;exact k.xY _ ((k.m _).2 (.inr (.inr hy))) hd;rintro y (rfl|hy|hy);exact .inl ((k.m _).2 (.inl rfl));right;have:=G y hy;omega;exact .inl ((k.m _).2 (.inr (.inr hy)))
 have ew:IntKind.wrap .i64 ((i:Int)+1)=((i+1:Nat):Int):=by rw[fc];omega
 have cap:=k.own.le;rw[ew];simp only[aK,Nat.sub_zero];refine ck.sJ z.al ae _ (λhm l A F=>⟨_,rfl,?_⟩) (λhm=>⟨_,rfl,?_⟩);obtain⟨K,k2,k3,k4⟩:=h' l A F;refine⟨_,_,_,ai K,ae,_,_,_,ai K,ae,cg ?_⟩;have t:Fr No l (l.push (.C #[.L (cE (Sa v w) g 0 4) i g,.L (cE (Sa v w) g (i+1) 4) (f.length - (i+1)) (g - (i+1))] 89)):=Fr.push _ _;have u:=t.get K id;refine⟨ai u,ai u,?_⟩;have Q:=k2.frame t bC;have T:=Own.DL (l:=0) (u:=i) (cap:=g) Q ae ae;have U:=Own.DL (l:=i+1) (u:=f.length) (cap:=g) Q ae ae;rw[gK]at T;rw[dA]at U;refine HU jj T (by rw[bT];omega) U (by rw[cR]) (by grind) λP C q O n G=>⟨_,_,_,rfl,?_⟩;have M:=n.get u id;exact⟨ai M,ai M,i' l A F P C q (t.tt n) O (λy hy=>by grind)⟩;have A:ck.Al o a S (gE L (x.num:Int)):=by rw[Pq hm];exact z.al
 have F:Fr S o o:=Fr.refl _ _;obtain⟨K,k2,k3,k4⟩:=h' o A F;refine⟨_,_,_,ai K,ae,_,_,_,ai K,ae,cg ?_⟩;have t:Fr No o (o.push (.C #[.L (cE (Sa v w) g 0 4) i g,.L (cE (Sa v w) g (i+1) 4) (f.length - (i+1)) (g - (i+1))] 89)):=Fr.push _ _;have u:=t.get K id;refine⟨ai u,ai u,?_⟩;have Q:=k2.frame t bC;have T:=Own.DL (l:=0) (u:=i) (cap:=g) Q ae ae;have U:=Own.DL (l:=i+1) (u:=f.length) (cap:=g) Q ae ae;rw[gK]at T;rw[dA]at U;refine HU jj T (by rw[bT];omega) U (by rw[cR]) (by grind) λP C q O n G=>⟨_,_,_,rfl,?_⟩;have M:=n.get u id;exact⟨ai M,ai M,i' o A F P C q (t.tt n) O (λy hy=>by grind)⟩
end gI
end
section
open Go.fv Go.jD
namespace gI
open ck (lB)
variable {L:List E} {s:BS} {i:List It} {now:Int}
variable {num:Int}
def It.kv(x:It):E:=((x.num:Int),(x.dB:Int))
structure okB (s:BS) (L:List E):Prop where
 le:s.items.length<=16
 pm:L.Perm (s.items.map It.kv)
 it: ∀x∈s.items,1<=x.num/\x.num<s.next/\1<=x.d.length/\x.d.length<=600/\1<=x.owner/\x.owner<=2^40/\x.dB<=2^40
 inc:(s.items.map It.num).Pairwise (· < ·)
 zj:s.next=1+s.items.length+s.taken+s.mD+s.over
def okB.nil:okB ⟨[],1,0,0,0⟩ []:=⟨bt,.refl _,bt,.nil,rfl⟩
def wm(i:List It)(num:Int):List It:=i.filter (λy=> !decide ((y.num:Int)=num))
def rj: ∀{i:List It}{I:Nat}{x:It},(i.map It.num).Pairwise (· < ·)->i[I]? =some x->BF i I=wm i (x.num:Int)
 | [],I,x,_,h=>by simp at h
 |y::r,0,x,H,h=>by
  simp at h;subst h;rw[cp,dF]at H;unfold BF wm;rw[di];simp only[ct,df,az,aY,fN,dj,List.drop_succ_cons,gK];symm;rw[cK];intro z c;have:=H.1 z.num (bL c);have: ¬(z.num)=(y.num:Int):=ae
  simp[this]
 |y::r,I+1,x,H,h=>by
  rw[cp,dF]at H;have a:=rj H.2 h;have d:=H.1 x.num (bL (aG h));have b: ¬(y.num)=(x.num:Int):=ae
  unfold BF wm at a⊢;rw[di];simp only[b,cU,ee,bJ,List.take_succ_cons,List.drop_succ_cons,dC];rw[a]
def Fk(h:L.Perm (i.map It.kv)):(gE L num).Perm ((wm i num).map It.kv):=by have:=h.filter (λe=> !(e.1==num));refine this.trans ?_;rw[dT];refine List.Perm.of_eq (bV _ (eO ?_));intro x _;show(!((x.num)==num))=_;by_cases q:(x.num)=num<;>simp[q]
def okB.sub{I:List It}{l:List E}{t c o:Nat}(O:okB s L)(h:I.Sublist s.items)(a:l.Perm (I.map It.kv))(H:s.next=1+I.length+t+c+o):okB ⟨I,s.next,t,c,o⟩ l:=
 ⟨cD h.length_le O.le,a,λx b=>O.it x (h.subset b),O.inc.sublist (h.map _),H⟩
theorem Fl{I:Nat}(h:Fj i num=some I): ∃x,i[I]? =some x/\(x.num:Int)=num:=by unfold Fj at h;rw[dp]at h;have⟨H,a,_⟩:=h;exact⟨_,au H,by grind⟩
def RR(h:Fj i num=none): ∀x∈i,(x.num:Int)≠num:=by unfold Fj at h;rw[List.findIdx?_eq_none_iff]at h;intro x H;simpa using h x H
theorem uniq(h:(i.map It.num).Pairwise (· < ·)){x y:It}(H:x∈i)(a:y∈i)(e:x.num=y.num):x=y:=by
 induction i with
 |nil=>cases H
 |cons z r I=>rw[cp,dF]at h;rcases bG.1 H with b|Y0;rcases bG.1 a with E|YI;grind;have:=h.1 y.num (bL YI);rw[b]at e;omega;rcases bG.1 a with E|YI;have:=h.1 x.num (bL Y0);rw[E]at e;omega;grind
theorem gW: ∀{L:List E},jL L->ck.due L now=L.filter (lB now)/\ck.rest L now=L.filter (λe=> !lB now e)
 | [],_=>⟨rfl,rfl⟩
 |e::r,b=>by
  have a:=dF.1 b;have⟨I,c⟩:=gW a.2;unfold ck.due at I⊢;unfold ck.rest at c⊢;by_cases f:lB now e=true;simp_all;have H:lB now e=false:=by grind
  have all: ∀x∈r,lB now x=false:=by intro x h;have h1:=a.1 x h;have d:=fV H;apply aT;rcases h1 with h1|h1<;>omega
  rw[List.takeWhile_cons,List.dropWhile_cons,di,di,H];simp only[az,aY,ee,bJ];refine⟨?_,?_⟩;simp_all;congr 1;symm;rw[cK];intro x h;rw[all x h];rfl
def rk(i:List It)(K:List Int):List It:=i.filter (λx=>decide ((x.num:Int)∉K))
def RT:rk i []=i:=by unfold rk;simp
theorem RU{K:List Int}{k:Int}:wm (rk i K) k=rk i (K++ [k]):=by unfold wm rk;rw[List.filter_filter];apply eO;intro x _;by_cases h:(x.num)=k;simp[h];grind
def RV(o:okB s L)(S:jL L)(n:(keys L).Nodup):rk s.items (keys (ck.due L now))=s.items.filter (λx=>decide (now<(x.dB:Int))):=by have⟨E,_⟩:=gW (now:=now) S;apply eO;intro x b;by_cases a:now<(x.dB);simp only[a,ct,bn];intro H;rw[E]at H;have⟨e,d,c⟩:=bh.1 H;have h:=bD.1 d;obtain⟨y,f,rfl⟩:=bh.1 (o.pm.mem_iff.1 h.1);have:=uniq o.inc f b (by have:(y.num)=(x.num:Int):=c;omega);subst this;have:=bk h.2;unfold It.kv at this;omega;simp only[a,cU,eK,Classical.not_not];rw[E];refine bh.2 ⟨x.kv,bD.2 ⟨(o.pm.mem_iff.2 (bL b)),aC ?_⟩,rfl⟩;unfold It.kv;omega
theorem HV(o:okB s L)(S:jL L):(ck.rest L now).Perm ((s.items.filter (λx=>decide (now<(x.dB:Int)))).map It.kv):=by rw[(gW S).2];refine(o.pm.filter _).trans (List.Perm.of_eq ?_);rw[dT];congr 1;apply eO;intro x _;show(!decide ((x.dB)<=now))=_;by_cases q:now<(x.dB);simp[q];grind
def RW(o:okB s L)(S:jL L):(ck.due L now).Perm ((s.items.filter (λx=>decide ((x.dB:Int)<=now))).map It.kv):=by rw[(gW S).1];refine(o.pm.filter _).trans (List.Perm.of_eq ?_);rw[dT];rfl

end gI
end
section
variable {h:aA} {R:fp}
variable {p:Nat} {o n:Int}
def uB(H: ∃t,Cc h p 2 (.map t)/\R (.B (!t.isNone)) h):Cl 113 #[.P p 0] h R:=aP [] H
def Fm{w:Int}{s:Int} (d:aB (λ(t:Bool) H=>ite t (R (.T #[.Q none,.I 1]) H) (aW H (.map #[] 0) λb a=>aW a (.C #[.I w,.I s,.map (some b),.I 0] 116) λB c=>R (.T #[.P B 0,.I 0]) c)) (λJ=>ite (decide (w<1)) (J true h) (ite (decide (w>1048576)) (J true h) (ite (decide (s<1)) (J true h) (J (decide (s>w)) h))))):Cl 14 #[.I w,.I s] h R:=aP [(4,.join [(20,sB)])] d
def wo (b:Cl 113 #[.P p 0] h λv H=> ∃t,v=.B t/\ite (!t) (R (.I 6) H) (aB (λ(T:Bool) a=>ite T (R (.I 1) a) (R (.I 0) a)) (λJ=>ite (decide (o<1)) (J true H) (ite (decide (o>1099511627776)) (J true H) (J (decide (n<0)) H))))):Cl 73 #[.P p 0,.I o,.I n] h R:=aP [(11,.join [(11,sB)])] b
def uC (l:Cl 73 #[.P p 0,.I o,.I n] h λv H=> ∃t,v=.I t/\ite (t !=0) (R (.I t) H) (aB (λ(r:Bool) a=>ite r (R (.I 15) a) (aB (λi=>R (.I 0) i) (λj=>ite (decide (n>0)) (∃T,Cc a p 2 (.map T)/\∃f,Gs 114 (.map T) (.I o) false a (.I f)/\jE (Instr.mapUpdate 114 (.map T) (.I o) (.I (wrap .i64 (f+n)))) a λ_ b=> ∃g,Cc b p 3 (.I g)/\aO b (AA p 3) (.I (wrap .i64 (g+n))) λk=>j k) (j a)))) (λJ=>Hi H p 1 λm=> ∃c,Cc H p 2 (.map c)/\∃d,Gs 114 (.map c) (.I o) false H (.I d)/\ite (decide (n>(wrap .i64 (m - d)))) (J true H) (Hi H p 0 λq=> ∃e,Cc H p 3 (.I e)/\J (decide (n>(wrap .i64 (q - e)))) H)))):Cl 33 #[.P p 0,.I o,.I n] h R:=aP [(14,.join [(40,sB)]),(14,λ_=>pN 26),(23,.join [])] l
def uD (c:Cl 73 #[.P p 0,.I o,.I n] h λv H=> ∃t,v=.I t/\ite (t==0) (Hi H p 1 λd=> ∃T,Cc H p 2 (.map T)/\∃a,Gs 114 (.map T) (.I o) false H (.I a)/\ite (decide (n<=(wrap .i64 (d - a)))) (Hi H p 0 λe=> ∃b,Cc H p 3 (.I b)/\R (.B (decide (n<=(wrap .i64 (e - b))))) H) (R (.B false) H)) (R (.B false) H)):Cl 340 #[.P p 0,.I o,.I n] h R:=aP [(3,λ_=>pN 34)] c
def uE (m:Cl 73 #[.P p 0,.I o,.I n] h λv H=> ∃t,v=.I t/\ite (t !=0) (R (.I t) H) (∃c,Cc H p 2 (.map c)/\∃d,Gs 114 (.map c) (.I o) false H (.I d)/\ite (decide (n>d)) (R (.I 7) H) (∃e,Cc H p 3 (.I e)/\aO H (AA p 3) (.I (wrap .i64 (e - n))) λb=> ∃T,Cc b p 2 (.map T)/\∃f,Gs 114 (.map T) (.I o) false b (.I f)/\jE (Instr.mapUpdate 114 (.map T) (.I o) (.I (wrap .i64 (f - n)))) b λ_ a=> ∃g,Cc a p 2 (.map g)/\∃i,Gs 114 (.map g) (.I o) false a (.I i)/\aB (λk=>R (.I 0) k) (λJ=>ite (i==0) (∃j,Cc a p 2 (.map j)/\jE (Builtin.delete_ #[114,3] 0 #[.map j,.I o]) a λV l=>V=.T #[]/\J l) (J a))))):Cl 89 #[.P p 0,.I o,.I n] h R:=aP [(27,.join [])] m

end
section
namespace oi
def tm:vw Tryz.prog 114 (.I 0):=.of 3 3 .i64 cZ cZ cZ
def ir(h:aA)(p m:Nat)(w S A:Int)(f:Int->Int):Prop:=
 h[p]? =some (.cells #[.int .i64 w,.int .i64 S,.map (some m),.int .i64 A] 116 (0,0))/\
 ∃g:Int->Option Value,pI h m g/\∀k,(g k).getD (.int .i64 0)=.int .i64 (f k)
def Ok(w S A:Int)(f:Int->Int):Prop:=1<=S/\S<=w/\w<=1048576/\ -2000000000000<=A/\A<=w/\∀k,0<=f k/\f k<=S
variable {h : aA} {p m : Nat} {w S A : Int} {f : Int → Int} {R : Value → aA → Prop}
def ir.frame{Q:gF}{H:aA}(j:ir h p m w S A f)(a:Fr Q h H)(b: ¬Q p)(c: ¬Q m):ir H p m w S A f:=by have⟨d,g,e,i⟩:=j;exact⟨a.get d b,g,e.frame a c,i⟩
def ir.ne(d:ir h p m w S A f):p≠m:=by have⟨a,g,b,_⟩:=d;have⟨e,c,H⟩:=b.map;rintro rfl;rw[a]at H;cases H
def ir.lt(H:ir h p m w S A f):p<h.size/\m<h.size:=⟨aD H.1,by have⟨_,g,a,_⟩:=H;exact a.lt⟩
theorem ir.ext{F:Int->Int}(b:ir h p m w S A f)(c: ∀k,F k=f k):ir h p m w S A F:=by have⟨H,g,a,d⟩:=b;exact⟨H,g,a,λk=>by grind⟩
def gh(a:ir h p m w S A f)(H:R (.B true) h):Cl 113 #[.P p 0] h R:=
 uB ⟨some m,ai a.1,H⟩
def look(b:ir h p m w S A f)(o:Int):xU Tryz.prog 114 (.map (some m)) (.I o) false h (.I (f o)):=by have⟨_,g,H,a⟩:=b;have:=Hh tm H o;rw[a]at this;exact this
def may(o n:Int):Bool:=decide (1<=o) && decide (o<=1099511627776) && decide (0<=n)
def kL(o n:Int):Int:=if may o n=true then 0 else 1
def lE{o n:Int}:may o n=true↔1<=o/\o<=2^40/\0<=n:=by simp[may,and_assoc]
theorem BG(a:ir h p m w S A f)(o n:Int)(H:R (.I (kL o n)) h):Cl 73 #[.P p 0,.I o,.I n] h R:=by refine wo (gh a ⟨true,rfl,?_⟩);simp only[aB];unfold kL may at H;by_cases b:o<1;grind;grind
def fits(w S A:Int)(f:Int->Int)(o n:Int):Bool:=may o n && decide (n<=S - f o) && decide (n<=w - A)
def U5(w S A:Int)(f:Int->Int)(o n:Int):Int:=if may o n=true then(if fits w S A f o n=true then 0 else 15)else 1
def mq(f:Int->Int)(o n:Int):Int->Int:=λk=>if k=o then f k+n else f k
def Le{o n:Int}:fits w S A f o n=true↔(1<=o/\o<=2^40/\0<=n)/\n<=S - f o/\n<=w - A:=by simp[fits,lE,and_assoc]
theorem Ok.take{o n:Int}(d:Ok w S A f)(H:fits w S A f o n=true):Ok w S (A+n) (mq f o n):=by have⟨O,a,b,q,r,c⟩:=d;have⟨⟨e,g,i⟩,j,l⟩:=Le.1 H;refine⟨O,a,b,ae,ae,λk=> ?_⟩;have:=c k;unfold mq;split;grind;exact this
theorem Ap(H:ir h p m w S A f)(C:Ok w S A f)(o n:Int)(j:fits w S A f o n=true->∀d,ir d p m w S (A+n) (mq f o n)->Fr (λc=>c=p\/c=m) h d->R (.I 0) d)(K:fits w S A f o n=false->R (.I (U5 w S A f o n)) h):
  Cl 33 #[.P p 0,.I o,.I n] h R:=by
 have⟨M,P,Q,T,U,O⟩:=C;have V:=O o;refine uC (BG H o n ⟨_,rfl,?_⟩);unfold U5 at K;unfold kL;cases b:may o n with
 |false=>have:=K (by simp[fits,b]);simpa[b]using this
 |true=>
  have I:=lE.1 b;simp only[bJ,bne_self_eq_false,az,aY,aB];refine⟨S,ai H.1,some m,ai H.1,f o,look H o,?_⟩;rw[fc];by_cases l:n>S - f o;have a:fits w S A f o n=false:=by simp[fits,show¬n<=S - f o by omega]
  have:=K a;simpa[l,b,a]using this;rw[dz];refine⟨w,ai H.1,A,ai H.1,?_⟩;rw[fc];by_cases q:n>w - A;have a:fits w S A f o n=false:=by simp[fits,show¬n<=w - A by omega]
  have:=K a;simpa[q,b,a]using this;have a:fits w S A f o n=true:=by simp[fits,b,show n<=S - f o by omega,show n<=w - A by omega]
  rw[dz];by_cases D:n>0;rw[gH];refine⟨some m,ai H.1,f o,look H o,?_⟩;rw[fc];have i:=H.ne;have⟨s,g,u,G⟩:=H;refine oR tm u ?_;intro E v J z;have e:=(z p i).trans s;refine⟨A,ai e,?_⟩;rw[fc];refine bf e bt ?_;intro r t L B;refine j a r ⟨t,_,v.oQ (B m (Ne.symm i)),λk=> ?_⟩ (Fr.of_eq ae λc F=> ?_);unfold mq;by_cases x:k=o;simp[x];grind;grind;have y:n=0:=ae
  rw[dz];refine j a h ?_ (Fr.refl _ _);subst y;rw[Int.add_zero];exact H.ext λk=>by unfold mq;split<;>omega
theorem T0(H:ir h p m w S A f)(d:Ok w S A f)(o n:Int)(a:R (.B (fits w S A f o n)) h):Cl 340 #[.P p 0,.I o,.I n] h R:=by
 have⟨e,g,i,j,k,O⟩:=d;have l:=O o;refine uD (BG H o n ⟨_,rfl,?_⟩);unfold kL;unfold fits at a;cases c:may o n with
 |false=>grind
 |true=>refine⟨S,ai H.1,some m,ai H.1,f o,look H o,?_⟩;rw[fc];by_cases b:n<=S - f o;rw[gH];refine⟨w,ai H.1,A,ai H.1,?_⟩;rw[fc];simpa[c,b]using a;grind
def gives(f:Int->Int)(o n:Int):Bool:=may o n && decide (n<=f o)
def U6(f:Int->Int)(o n:Int):Int:=if may o n=true then(if gives f o n=true then 0 else 7)else 1
def Pr{o n:Int}:gives f o n=true↔(1<=o/\o<=2^40/\0<=n)/\n<=f o:=by simp[gives,lE,and_assoc]
theorem T8(a:ir h p m w S A f)(P:Ok w S A f)(o n:Int)(M:gives f o n=true->∀e,ir e p m w S (A - n) (mq f o (-n))->Fr (λc=>c=p\/c=m) h e->R (.I 0) e)(K:gives f o n=false->R (.I (U6 f o n)) h):
  Cl 89 #[.P p 0,.I o,.I n] h R:=by
 have⟨Z,o2,o3,o4,o5,O⟩:=P;have of:=O o;refine uE (BG a o n ⟨_,rfl,?_⟩);unfold U6 at K;unfold kL;cases H:may o n with
 |false=>have:=K (by simp[gives,H]);simpa[H]using this
 |true=>
  have T:=lE.1 H;simp only[bJ,bne_self_eq_false,az,aY];refine⟨some m,ai a.1,f o,look a o,?_⟩;by_cases l:n>f o;have d:gives f o n=false:=by simp[gives,show¬n<=f o by omega]
  have:=K d;simpa[l,H,d]using this;have d:gives f o n=true:=by simp[gives,H,show n<=f o by omega]
  simp only[l,cU,az,aY];have j:=a.ne;have⟨r,g,B,u⟩:=a;refine⟨A,ai r,?_⟩;rw[fc];refine bf r bt ?_;intro x i U E;have s:=B.oQ (E m (Ne.symm j));have I:ir x p m w S (A - n) f:=⟨i,g,s,u⟩;refine⟨some m,ai i,f o,look I o,?_⟩;rw[fc];refine oR tm s ?_;intro q t V F;have b:=(F p j).trans i;have J:ir q p m w S (A - n) (mq f o (-n)):=⟨b,_,t,λk=>by unfold mq;by_cases v:k=o;grind;grind⟩;have Q:Fr (λc=>c=p\/c=m) h q:=Fr.of_eq ae λc z=>by grind
  have D:=look J o;refine⟨some m,ai b,mq f o (-n) o,D,?_⟩;simp only[aB];by_cases L:mq f o (-n) o=0;simp only[L,beq_self_eq_true,bJ];refine⟨some m,ai b,(CC tm t ?_)⟩;intro y C X G;refine⟨rfl,M d y ⟨(G p j).trans b,_,C,λk=> ?_⟩ (Fr.of_eq ae λc z=> ?_)⟩;by_cases v:k=o;grind;simp[v,u,mq];grind;grind
def CO(w S:Int):Bool:=decide (1<=w) && decide (w<=1048576) && decide (1<=S) && decide (S<=w)
def Ps:CO w S=true↔1<=w/\w<=1048576/\1<=S/\S<=w:=by simp[CO,and_assoc]
def gC(w S:Int){h:aA}(K:CO w S=true->∀H p m,ir H p m w S 0 (λ_=>0)->h.size<=p->h.size<=m->Fr No h H->R (.T #[.P p 0,.I 0]) H)(k:CO w S=false->R (.T #[.Q none,.I 1]) h):Cl 14 #[.I w,.I S] h R:=by
 refine Fm ?_;simp only[aB];by_cases c:w<1;simpa only[c,ct,bJ]using k (by simp[CO,show¬1<=w by omega]);rw[dz];by_cases d:w>1048576;simpa only[d,ct,bJ]using k (by simp[CO,show¬w<=1048576 by omega]);rw[dz];by_cases e:S<1;simpa only[e,ct,bJ]using k (by simp[CO,show¬1<=S by omega]);rw[dz];by_cases g:S>w;simpa only[g,ct,bJ]using k (by simp[CO,show¬S<=w by omega]);rw[dz];rintro b i rfl rfl B j rfl rfl;refine K (Ps.2 ae) _ _ h.size ⟨bR,λ_=>none,?_,λ_=>rfl⟩ bt bt ?_;exact(pI.push h).frame (Fr.push (S:=λ_=>False) _ _) bt;exact(Fr.push h _).trans (Fr.push _ _) (λ_ _ a=>a) (λ_ _ a=>a)
end oi
end
section
namespace dV
open gI (It)
variable {l L:List It} {x:It} {o:Int}
def xp(l:List It):Int:=(l.map (λx=>(x.d.length:Int))).sum
def own(l:List It)(o:Int):Int:=xp (l.filter (λx=>decide (x.owner=o)))
def Fo(p:l.Perm L):xp l=xp L:=by
 induction p with
 |nil=>rfl
 |cons x _ i=>unfold xp at i⊢;simp only[cp,List.sum_cons];omega
 |swap x y l=>unfold xp;simp only[cp,List.sum_cons];omega
 |trans _ _ a b=>omega
def Fq(p:l.Perm L):own l=own L:=funext λ_=>Fo (p.filter _)
def jA:xp (x::l)=x.d.length+xp l:=by rfl
theorem nC:own (x::l) o=(if x.owner=o then(x.d.length:Int)else 0)+own l o:=by unfold own;rw[di];split<;>rename_i h;rw[jA,ag (bk h)];grind
def MM:0<=xp l:=by
 induction l with
 |nil=>decide
 |cons x l i=>rw[jA];omega
def MN:0<=own l o:=MM
def VT(c:x∈l):(x.d.length:Int)<=own l x.owner:=by obtain⟨a,b,rfl⟩:=List.append_of_mem c;rw[Fq List.perm_middle,nC,ag rfl];have:=MN (l:=a++b) (o:=x.owner);omega
abbrev tX(l:List It):Prop:=oi.Ok 4800 1600 (xp l) (own l)
def tX.perm(O:tX l)(p:l.Perm L):tX L:=by unfold tX;rw[<-Fo p,<-Fq p];exact O
def tX.sub(O:tX (x::l)):tX l:=by have⟨a,b,c,d,e,f⟩:=O;rw[jA]at d e;have:=MM (l:=l);refine⟨a,b,c,ae,ae,λk=>⟨MN,?_⟩⟩;have:=(f k).2;rw[nC]at this;split at this<;>omega
def tX.nil:tX []:=⟨cW,cW,cW,cW,cW,λ_=>⟨gv 0,show(0)<=1600 by decide⟩⟩
def N7:oi.mq (own l) x.owner (x.d.length:Int)=own (x::l):=by funext k;unfold oi.mq;rw[nC];by_cases e:k=x.owner;omega;omega
def RX:oi.mq (own (x::l)) x.owner (-(x.d.length:Int))=own l:=by funext k;unfold oi.mq;rw[nC];by_cases e:k=x.owner;omega;omega
def Fs{a b:List It}:xp (a++b)=xp a+xp b:=by
 induction a with
 |nil=>show xp b=0+xp b;omega
 |cons x a i=>rw[dC,jA,jA,i];omega
def MO{a b:List It}{o:Int}:own (a++b) o=own a o+own b o:=by unfold own;rw[fz,Fs]
def Xv(x:It):Prop:=1<=x.d.length/\x.d.length<=600/\1<=x.owner/\x.owner<=2^40
section
variable {h H : aA} {R : Value → aA → Prop} {p m : Nat}
abbrev Pu(h:aA)(p m:Nat)(l:List It):Prop:=oi.ir h p m 4800 1600 (xp l) (own l)
def Pu.perm(a:Pu h p m l)(q:l.Perm L):Pu h p m L:=by unfold Pu;rw[<-Fo q,<-Fq q];exact a
def WM{n:Int}(b:Pu h p m (x::l))(O:tX (x::l))(k:Xv x)(i:n=(x.d.length:Int))(d: ∀H,Pu H p m l->Fr (λc=>c=p\/c=m) h H->R (.I 0) H):
  Cl 89 #[.P p 0,.I x.owner,.I n] h R:=by
 subst i;have g:oi.gives (own (x::l)) x.owner (x.d.length:Int)=true:=oi.Pr.2 ⟨⟨k.2.2.1,k.2.2.2,ae⟩,VT bt⟩;refine oi.T8 b O _ _ (λ_ H a f=>d H ?_ f) (λe=>by rw[g]at e;cases e);rw[RX,jA,show(x.d.length:Int)+xp l - x.d.length=xp l by omega]at a;exact a
end
end dV
end
section
variable {h:aA} {R:fp}
variable {t d D e c C s a F:Nat} {num T id A:Int} {b f S:bZ}
def Aq(g:aW h (.C #[.B true,.Z] 119) λB H=>R (.P B 0) H):Cl 15 #[] h R:=aP [] g
def qx (n:aB (λ(v:Bool) H=>ite v (R (.T #[.Q none,.I 6]) H) (aB (λ(o:Bool) g=>ite o (R (.T #[.Q none,.I 4]) g) (Hl g t 1 λu r _=>Bd (wrap .i64 (num - 1)) r/\aH u λm=> ∃l,aU g (m.add (toNat (wrap .i64 (num - 1))*1))=some (.Q l)/\R (.T #[.Q l,.I 0]) g)) (λj=>ite (decide (num<1)) (j true H) (∃q k p,Cc H t 1 (.L q k p)/\j (decide (num>((k:Nat):Int))) H)))) (λJ=> ∃i,Cc h t 0 (.B i)/\J (!i) h)):Cl 129 #[.P t 0,.I num] h R:=aP [(5,.join [(6,sB)]),(11,.join [(16,sB)])] n
def sM(l:Cl 129 #[.P t 0,.I num] h λv H=> ∃g i,v=.T #[.Q g,.I i]/\ite (i==0) (aH g λk=> ∃j,aU H (k.add 2)=some (.B j)/\R (.B j) H) (R (.B false) H)):Cl 130 #[.P t 0,.I num] h R:=aP [] l
def sN (o:Hl h t 1 λp i _=> ∃(I:kj)(m:kG),I 0 h/\∀g H,I g H->ite (decide (g<(i:Int))) (Bd g i/\aH p λl=>AN H (l.add (toNat g*1)) λj=>aH j λn=> ∃k,aU H (n.add 1)=some (.U k)/\ite (k==T) (R (.Q j) H) ((I (wrap .i64 (g+1)) H/\m (wrap .i64 (g+1)) H<m g H))) (R (.Q none) H)):Cl 128 #[.P t 0,.U T] h R:=aP [(6,.loop [(12,sI)])] o
theorem qA (K:aB (λ(U:Bool) g=>ite U (R (.T #[.I 0,.I 6]) g) (aB (λ(L:Bool) i=>ite L (R (.T #[.I 0,.I 1]) i) (Cl 128 #[.P t 0,.U T] i λv H=> ∃n,v=.Q n/\ite (!n.isNone) (R (.T #[.I 0,.I 12]) H) (∃O o M,Cc H t 1 (.L O o M)/\ite (decide (((o:Nat):Int)≥8)) (R (.T #[.I 0,.I 5]) H) (∃Q p P,Cc H t 1 (.L Q p P)/\aW H (.C #[.I (wrap .i64 (((p:Nat):Int)+1)),.U T,.B true,.B false,.Z,.Z] 166) λB k=> ∃u r q,Cc k t 1 (.L u r q)/\aW k (.C #[.P B 0] 224) λE G=>jE (Builtin.append_ #[117,117] 117 #[.L u r q,.L (Sa E 0) 1 1]) G λV I=> ∃y x w,V=.L y x w/\aO I (AA t 1) (.L y x w) λl=> ∃z,Cc l B 0 (.I z)/\R (.T #[.I z,.I 0]) l)))) (λj=>ite (decide (T<1)) (j true g) (j (decide (T>2147483648)) g)))) (λJ=> ∃m,Cc h t 0 (.B m)/\J (!m) h)):Cl 90 #[.P t 0,.U T] h R:=aP [(5,.join [(7,sB)]),(11,.join [(17,sB)])] K
def pf (q:aB (λ(r:Bool) i=>ite r (R (.T #[.I 0,.I 6]) i) (Cl 128 #[.P t 0,.U T] i λv H=> ∃g,v=.Q g/\ite g.isNone (R (.T #[.I 0,.I 12]) H) (aH g λn=> ∃l,aU H (n.add 2)=some (.B l)/\ite l (R (.T #[.I 0,.I 7]) H) (aH g λo=>aO H (o.add 2) (.B true) λj=>aH g λp=> ∃m,aU j p=some (.I m)/\R (.T #[.I m,.I 0]) j)))) (λJ=> ∃k,Cc h t 0 (.B k)/\J (!k) h)):Cl 91 #[.P t 0,.U T] h R:=aP [(4,.join [(15,sB)])] q
def qB(n:Cl 129 #[.P t 0,.I num] h λv H=> ∃g i,v=.T #[.Q g,.I i]/\ite (i !=0) (R (.I i) H) (aH g λk=> ∃j,aU H (k.add 2)=some (.B j)/\ite (!j) (R (.I 7) H) (aH g λl=>aO H (l.add 2) (.B false) λm=>R (.I 0) m))):Cl 92 #[.P t 0,.I num] h R:=aP [] n
def oE(n:Hl h t 1 λp j _=> ∃(I:kj)(m:kG),I 0 h/\∀g H,I g H->ite (decide (g<(j:Int))) (Bd g j/\aH p λk=>AN H (k.add (toNat g*1)) λo=>aH o λl=>aO H (l.add 2) (.B false) λi=>(I (wrap .i64 (g+1)) i/\m (wrap .i64 (g+1)) i<m g H)) (R (.T #[]) H)):Cl 96 #[.P t 0] h R:=aP [(6,.loop [(11,sI)])] n
def qC (Z:aW h (.C #[.U id] 27) λB P=>Cl 129 #[.P t 0,.I num] P λs' H=> ∃g p,s'=.T #[.Q g,.I p]/\ite (p !=0) (R (.I p) H) (aB (λ(a':Bool) l=>ite a' (R (.I 1) l) (aH g λE=>lW l (E.add 4) λd' c' b'=>Cl 193 #[.L d' c' b',.func (.func 194) #[] #[.P B 0]] l λt' X=>Vl t' λg' f' e'=>aH g λG=>aO X (G.add 4) (.L g' f' e') λm=>aH g λk=>lW m (k.add 4) λu r q=>Hu m B 0 λj=>Cl 57 #[.L b d D] m λu' n=>Vl u' λj' i' h'=>Cc n B 0 (.U j)/\aU n (k.add 4)=some (.L u r q)/\aW n (.C #[.U j,.L j' i' h'] 169) λO o=>Cc o B 0 (.U j)/\aU o (k.add 4)=some (.L u r q)/\jE (Builtin.append_ #[164,164] 164 #[.L u r q,.L (Sa O 0) 1 1]) o λv' w=>Vl v' λm' l' k'=>Cc w B 0 (.U j)/\aH g λI=>aO w (I.add 4) (.L m' l' k') λi=>aH g λK=>lW i (K.add 4) λ_ n' _=>aB (λQ=>R (.I 0) Q) (λv=>ite (decide ((n':Int)>6)) (aH g λL=>lW i (L.add 4) λo' z y=>((0:Int)<=1/\1<=(z:Int))/\Cl 195 #[.L (cE o' y (toNat 1) 2) (z - (toNat 1)) (y - (toNat 1))] i λw' U=>Vl w' λr' q' p'=>aH g λM=>aO U (M.add 4) (.L r' q' p') λV=>v V) (v i)))) (λJ=> ∃x,Cc H B 0 (.U x)/\ite (decide (x>1099511627776)) (J true H) (J (decide ((d:Int)>1000)) H)))):Cl 135 #[.P t 0,.I num,.U id,.L b d D] h R:=aP [(13,.join [(21,sB)]),(22,λ_=>pN 14),(26,.join [])] Z
def pg(i:aW h (.C #[.U A,.L f e c] 169) λB H=>Hu H B 0 λj=> ∃g,Cc H C 0 (.U g)/\R (.B (j==g)) H):Cl 194 #[.agg #[.U A,.L f e c],.P C 0] h R:=aP [] i
def qD (w:aW h (.C #[.U id] 27) λB r=>Cl 129 #[.P t 0,.I num] r λv i=> ∃j k,v=.T #[.Q j,.I k]/\ite (k !=0) (R (.T #[.Z,.B false]) i) (aH j λo=>lW i (o.add 4) λz y x=>Cl 179 #[.L z y x,.func (.func 180) #[] #[.P B 0]] i λV H=> ∃g,V=.I g/\ite (decide (g<0)) (R (.T #[.Z,.B false]) H) (aH j λp=>lW H (p.add 4) λG E _=>Bd g E/\aH G λq=>lW H ((q.add (toNat g*2)).add 1) λK J I=>Cl 57 #[.L K J I] H λL u=> ∃n m l,L=.L n m l/\R (.T #[.L n m l,.B true]) u))):Cl 131 #[.P t 0,.I num,.U id] h R:=aP [] w
def ph(i:aW h (.C #[.U A,.L f e c] 169) λB H=>Hu H B 0 λj=> ∃g,Cc H C 0 (.U g)/\R (.B (j==g)) H):Cl 180 #[.agg #[.U A,.L f e c],.P C 0] h R:=aP [] i
def pO{o:Bool}(m:Cl 129 #[.P t 0,.I num] h λv H=> ∃i g,v=.T #[.Q i,.I g]/\aB (λk=>R (.I g) k) (λJ=>ite (g==0) (aH i λj=>aO H (j.add 3) (.B o) λl=>J l) (J H))):Cl 271 #[.P t 0,.I num,.B o] h R:=aP [(7,.join [])] m
def wu{i:bZ}{B g:Nat} (H:ite (decide ((B:Int)≥1)) (R (.B (decide ((B:Int)<=600))) h) (R (.B false) h)):Cl 158 #[.L i B g] h R:=aP [] H
def qE (O:Cl 129 #[.P t 0,.I num] h λf' o=> ∃g k,f'=.T #[.Q g,.I k]/\ite (k !=0) (R (.I k) o) (Cl 158 #[.L b d D] o λg' H=> ∃r,g'=.B r/\ite (!r) (R (.I 1) H) (aH g λx=> ∃u,aU H (x.add 3)=some (.B u)/\ite (!u) (R (.I 7) H) (aH g λj=>lW H (j.add 5) λn m l=>Cl 57 #[.L b d D] H λh' p=>Vl h' λU Q P=>aU p (j.add 5)=some (.L n m l)/\aW p (.C #[.L U Q P] 32) λG q=>aU q (j.add 5)=some (.L n m l)/\jE (Builtin.append_ #[39,39] 39 #[.L n m l,.L (Sa G 0) 1 1]) q λi' I=>Vl i' λZ X V=>aH g λy=>aO I (y.add 5) (.L Z X V) λi=>aH g λz=>lW i (z.add 5) λ_ a' _=>aB (λK=>R (.I 0) K) (λJ=>ite (decide ((a':Int)>6)) (aH g λB=>lW i (B.add 5) λb' w v=>((0:Int)<=1/\1<=(w:Int))/\Cl 321 #[.L (cE b' v (toNat 1) 1) (w - (toNat 1)) (v - (toNat 1))] i λj' L=>Vl j' λe' d' c'=>aH g λE=>aO L (E.add 5) (.L e' d' c') λM=>J M) (J i)))))):Cl 280 #[.P t 0,.I num,.L b d D] h R:=aP [(26,λ_=>pN 12),(30,.join [])] O
def qF(y:Cl 129 #[.P t 0,.I num] h λv i=> ∃g j,v=.T #[.Q g,.I j]/\aB (λ(n:Int) H=>ite (n==0) (R (.T #[.Z,.I 0,.I j]) H) (aH g λo=>lW H (o.add 5) λG E _=>Bd 0 E/\aH G λp=>lW H (p.add (toNat 0*1)) λL K I=>aH g λq=>lW H (q.add 5) λM m l=>((0:Int)<=1/\1<=(m:Int))/\Cl 321 #[.L (cE M l (toNat 1) 1) (m - (toNat 1)) (l - (toNat 1))] H λV w=>Vl V λQ P O=>aH g λr=>aO w (r.add 5) (.L Q P O) λx=>R (.T #[.L L K I,.I n,.I 0]) x)) (λJ=>ite (j==0) (aH g λu=> ∃B k z,aU i (u.add 5)=some (.L B k z)/\J ((k:Nat):Int) i) (J 0 i))):Cl 272 #[.P t 0,.I num] h R:=aP [(9,.join [(9,sI)])] y
def ig{k:Nat} (z:Cl 179 #[.L S s a,.func (.func 194) #[] #[.P k 0]] h λd' n=> ∃g,d'=.I g/\ite (g==(-1)) (R (.L S s a) n) (∃(I:Int->kj)(M:Int->kG),I g (wrap .i64 (g+1)) n/\∀i j H,I i j H->ite (decide (j<(s:Int))) (aB (λ(q:Int) o=>(I q (wrap .i64 (j+1)) o/\M q (wrap .i64 (j+1)) o<M i j H)) (λJ=>Bd j s/\aH S λr=>bO.LD H (r.add (toNat j*2)) λG O L K=>aW H (.C #[.U 0,.Z] 169) λB v=>bO.ST v (AA B 0) G O L K λp=>bO.LD p (AA B 0) λP V U Q=>Cl 194 #[.agg #[.U P,.L V U Q],.P k 0] p λe' l=>Vb e' λX=>aB (λ(E:Int) w=>J E w) (λm=>ite (!X) (bO.LD l (AA B 0) λZ c' b' a'=>Bd i s/\aH S λu=>bO.ST l (u.add (toNat i*2)) Z c' b' a' λx=>m (wrap .i64 (i+1)) x) (m i l)))) (((0:Int)<=i/\i<=(s:Int))/\jE (Builtin.clear_ #[164] 0 #[.L (cE S a (toNat i) 2) (s - (toNat i)) (a - (toNat i))]) H λf' y=>f'=.T #[]/\((0:Int)<=i/\i<=(a:Int))/\R (.L (cE S a 0 2) ((toNat i) - 0) (a - 0)) y))):Cl 193 #[.L S s a,.func (.func 194) #[] #[.P k 0]] h R:=aP [(16,.loop [(5,sI),(6,sI)]),(24,.join [(5,sI)]),(29,.join [(5,sI)])] z
def im (l: ∃(I:kj)(m:kG),I 0 h/\∀g H,I g H->ite (decide (g<(s:Int))) (Bd g s/\aH S λk=>bO.LD H (k.add (toNat g*2)) λn q p o=>Cl 194 #[.agg #[.U n,.L q p o],.P F 0] H λv i=> ∃j,v=.B j/\ite j (R (.I g) i) ((I (wrap .i64 (g+1)) i/\m (wrap .i64 (g+1)) i<m g H))) (R (.I (-1)) H)):Cl 179 #[.L S s a,.func (.func 194) #[] #[.P F 0]] h R:=aP [(6,.loop [(8,sI)])] l
def iq (l: ∃(I:kj)(m:kG),I 0 h/\∀g H,I g H->ite (decide (g<(s:Int))) (Bd g s/\aH S λk=>bO.LD H (k.add (toNat g*2)) λn q p o=>Cl 180 #[.agg #[.U n,.L q p o],.P F 0] H λv i=> ∃j,v=.B j/\ite j (R (.I g) i) ((I (wrap .i64 (g+1)) i/\m (wrap .i64 (g+1)) i<m g H))) (R (.I (-1)) H)):Cl 179 #[.L S s a,.func (.func 180) #[] #[.P F 0]] h R:=aP [(6,.loop [(8,sI)])] l
def ja(l:ite S.isNone (R (.Z) h) (aW h (.C #[] 169) λB H=>jE (Builtin.append_ #[164,164] 164 #[.L (Sa B 0) 0 0,.L S s a]) H λv k=> ∃j i g,v=.L j i g/\R (.L j i g) k)):Cl 195 #[.L S s a] h R:=aP [] l
def lV(l:ite S.isNone (R (.Z) h) (aW h (.C #[] 32) λB H=>jE (Builtin.append_ #[39,39] 39 #[.L (Sa B 0) 0 0,.L S s a]) H λv k=> ∃j i g,v=.L j i g/\R (.L j i g) k)):Cl 321 #[.L S s a] h R:=aP [] l

end
section
open Go.fv
namespace eM
open gg
variable {h H d:aA} {t:Nat} {X:Ft} {R:fp} {p:bZ} {c i:Nat}
structure AV where
 id:Nat
 v:BV
abbrev AV.enc(a:AV):List Value:= [.int .u64 (a.id:Int),a.v.val]
structure SC where
 b:Nat
 num:Nat
 token:Nat
 up:Bool
 watch:Bool
 kept:List AV
 kp:bZ
 kc:Nat
 notes:List BV
 np:bZ
 nc:Nat
structure eM where
 num:Nat
 token:Nat
 up:Bool
 watch:Bool
 kept:List (Nat×cQ)
 notes:List (cQ)
def AV.abs(a:AV):Nat×cQ:=(a.id,a.v.b)
def SC.abs(s:SC):eM:=⟨s.num,s.token,s.up,s.watch,s.kept.map AV.abs,s.notes.map BV.b⟩
theorem Ar{b:Type}{a:List b}{i:Nat}{v:b}(h:a[i]? =some v):a.set i v=a:=by apply fH;intro j;rw[List.getElem?_set];split;grind;rfl
abbrev Ua:=Nat->Option Nat
abbrev At(h:aA)(s:SC):Prop:=cB.at h s.b (s.num:Int) (s.token:Int) s.up s.watch s.kp s.kept.length s.kc s.np s.notes.length s.nc
structure Fu (h:aA) (l:Ua) (D:gF) (i:Nat) (s:SC):Prop where
 cN:At h s
 lb:l s.b=some (2+3*i)
 BH:Own h s.kp s.kept.length s.kc 2 (s.kept.flatMap AV.enc)
 kl: ∀c,aL s.kp c->l c=some (3+3*i)
 Fv:Own h s.np s.notes.length s.nc 1 (s.notes.flatMap ie)
 nl: ∀c,aL s.np c->l c=some (4+3*i)
 kd: ∀a∈s.kept,a.v.ok h D
 nd: ∀n∈s.notes,n.ok h D
structure nE (h:aA) (t:Nat) (l:Ua) (D:gF) (L:List SC):Prop where
 cN: ∃p c,h[t]? =some (.cells #[.bool true,.slice p L.length c] 119 (0,0))/\Own h p L.length c 1 (L.map λs=> .pointer (some ⟨s.b,0,none⟩))/\∀x,aL p x->l x=some 1
 RY:l t=some 0
 ses: ∀i s,L[i]? =some s->Fu h l D i s
 RZ: ∀c r,l c=some r->c<h.size
 La: ∀c,D c->c<h.size
 ap: ∀c r,l c=some r->¬D c
def sO(h:aA)(t:Nat)(X:Ft)(A:List eM)(B:List Nat):Prop:=
 ∃l L,nE h t l X.D L/\L.map SC.abs=A/\L.map SC.b=B/\∀c,X.M c↔ ∃r,l c=some r
def Has(h:aA)(t:Nat)(X:Ft)(A:List eM):Prop:= ∃B,sO h t X A B
variable {l : Ua} {D : Nat → Prop} {L : List SC} {A : List eM}
def Fu.frame{Q:gF}{s:SC}(b:Fu h l D i s)(f:Fr Q h H)(g: ∀c r,l c=some r->2+3*i<=r->r<=4+3*i->¬Q c)(j: ∀c,D c->¬Q c):Fu H l D i s:=
 ⟨f.get b.cN (g _ _ b.lb ae ae),b.lb,b.BH.frame f (λc e=>g c _ (b.kl c e) ae ae),b.kl,b.Fv.frame f (λc e=>g c _ (b.nl c e) ae ae),b.nl,λa k=>(b.kd a k).frame f j,λn m=>(b.nd n m).frame f j⟩
def Fu.mono{j:Ua}{D':gF}{s:SC}(b:Fu h l D i s)(f: ∀c r,l c=some r->j c=some r)(g: ∀c,D c->D' c):Fu h j D' i s:=
 ⟨b.cN,f _ _ b.lb,b.BH,λc e=>f c _ (b.kl c e),b.Fv,λc e=>f c _ (b.nl c e),λa k=>(b.kd a k).mono g,λn m=>(b.nd n m).mono g⟩
def sO.lt{B:List Nat}(a:sO h t X A B): ∀x,X.M x\/X.D x->x<h.size:=by have⟨l,L,T,_,_,b⟩:=a;rintro x (f|hd);have⟨r,e⟩:=(b x).1 f;exact T.RZ x r e;exact T.La x hd
def sO.xY{B:List Nat}(a:sO h t X A B): ∀x,X.M x->¬X.D x:=by have⟨l,L,T,_,_,b⟩:=a;intro x f;have⟨r,e⟩:=(b x).1 f;exact T.ap x r e
def sO.frame{B:List Nat}{Q:gF}(n:sO h t X A B)(f:Fr Q h H)(m: ∀x,X.M x\/X.D x->¬Q x):sO H t X A B:=by have⟨l,L,T,e,E,j⟩:=n;have⟨p,c,o,O,k⟩:=T.cN;have g:=λc r a=>m c (.inl ((j c).2 ⟨r,a⟩));refine⟨l,L,⟨⟨p,c,f.get o (g t _ T.RY),O.frame f (λx u=>g x _ (k x u)),k⟩,T.RY,λi s q=>(T.ses i s q).frame f (λc r a _ _=>g c r a) (λc b=>m c (.inr b)),?_,?_,T.ap⟩,e,E,j⟩;intro c r a;exact bX (T.RZ c r a) f.1;intro c b;exact bX (T.La c b) f.1
def Has.lt(a:Has h t X A): ∀x,X.M x\/X.D x->x<h.size:=by have⟨B,a⟩:=a;exact a.lt
def Has.xY(a:Has h t X A): ∀x,X.M x->¬X.D x:=by have⟨B,a⟩:=a;exact a.xY
def Has.frame{Q:gF}(a:Has h t X A)(f:Fr Q h H)(b: ∀x,X.M x\/X.D x->¬Q x):Has H t X A:=by have⟨B,a⟩:=a;exact⟨B,a.frame f b⟩
open Classical in
def nE.WN{s s':SC}{Q E:gF}(T:nE h t l X.D L)(B: ∀c,X.M c↔ ∃r,l c=some r)(w:L[i]? =some s)(z:s'.b=s.b)(f:Fr Q h H)(q: ∀c,Q c->∃r,l c=some r/\2+3*i<=r/\r<=4+3*i)(cN:At H s')(K:Own H s'.kp s'.kept.length s'.kc 2 (s'.kept.flatMap AV.enc))(Z: ∀c,aL s'.kp c->l c=some (3+3*i)\/h.size<=c)(G:Own H s'.np s'.notes.length s'.nc 1 (s'.notes.flatMap ie))(nn: ∀c,aL s'.np c->l c=some (4+3*i)\/h.size<=c)(a': ∀c,aL s'.kp c->aL s'.np c->False)(v: ∀c,E c->l c=none/\c<H.size/\¬aL s'.kp c/\¬aL s'.np c)(V: ∀a∈s'.kept,a.v.ok H (λc=>X.D c\/E c))(nd: ∀b'∈s'.notes,b'.ok H (λc=>X.D c\/E c)):
  ∃u,sO H t u ((L.map SC.abs).set i s'.abs) (L.map SC.b)/\Fr X.M h H/\(∀c,u.M c->X.M c\/h.size<=c)/\(∀c,u.D c->X.D c\/E c)/\∀c,X.D c->u.D c:=by
 let y:Ua:=λc=>if h.size<=c/\aL s'.kp c then some (3+3*i)else if h.size<=c/\aL s'.np c then some (4+3*i)else l c
 have O: ∀c r,l c=some r->y c=some r:=λc r b=>by have:=T.RZ c r b;show(if h.size<=c/\aL s'.kp c then some (3+3*i)else if h.size<=c/\aL s'.np c then some (4+3*i)else l c)=some r;rw[af (λm=>ae),af (λm=>ae)];exact b
 have new: ∀c r,y c=some r->l c=some r\/(h.size<=c/\(aL s'.kp c\/aL s'.np c)):=λc r b=>by have b:(if h.size<=c/\aL s'.kp c then some (3+3*i)else if h.size<=c/\aL s'.np c then some (4+3*i)else l c)=some r:=b;split at b;rename_i m;exact .inr ⟨m.1,.inl m.2⟩;split at b;rename_i m;exact .inr ⟨m.1,.inr m.2⟩;exact .inl b
 have nb: ∀c,aL s'.kp c\/aL s'.np c->c<H.size:=λc k=>k.elim (λk=>K.dk k) (λk=>G.dk k);have P: ∀c,X.D c->¬Q c:=λc k n=>by obtain⟨r,b,_⟩:=q c n;exact T.ap c r b k
 obtain⟨p,J,M,e',C⟩:=T.cN;have S:i<L.length:=(aJ.1 w).1;have c': ¬Q t:=λn=>by obtain⟨r,b,h1,g⟩:=q t n;rw[T.RY]at b;cases b;omega
 have d': ∀x,aL p x->¬Q x:=λx n U=>by obtain⟨r,b,h1,g⟩:=q x U;rw[C x n]at b;cases b;omega
 have f':(L.set i s').map (λs=>Value.P s.b 0)=L.map (λs=>Value.P s.b 0):=by rw[List.map_set,z];exact Ar (by rw[aN,w];rfl)
 have I:(L.set i s').map SC.b=L.map SC.b:=by rw[List.map_set,z];exact Ar (by rw[aN,w];rfl)
 refine⟨⟨λc=> ∃r,y c=some r,λc=>X.D c\/E c⟩,⟨y,L.set i s',⟨⟨p,J,?_,?_,λx n=>O x _ (C x n)⟩,O t 0 T.RY,?_,?_,?_,?_⟩,?_,I,λc=>eV⟩,?_,?_,λc h=>h,λc=> .inl⟩;rw[fS];exact f.get M c';rw[f',fS];exact e'.frame f d';intro j sj o;rw[List.getElem?_set]at o;by_cases e:i=j;subst e;rw[ag rfl,ag S]at o;obtain rfl:=bF o;refine⟨cN,?_,K,λc k=> ?_,G,λc k=> ?_,V,nd⟩;rw[z];exact O _ _ (T.ses i s w).lb;show(if h.size<=c/\aL s'.kp c then some (3+3*i)else if h.size<=c/\aL s'.np c then some (4+3*i)else l c)=_;rcases Z c k with h1|h1;have:=T.RZ c _ h1;rw[af (λm=>ae),af (λm=>ae)];exact h1;rw[ag ⟨h1,k⟩];show(if h.size<=c/\aL s'.kp c then some (3+3*i)else if h.size<=c/\aL s'.np c then some (4+3*i)else l c)=_;rw[af (λm=>a' c m.2 k)];rcases nn c k with h1|h1;have:=T.RZ c _ h1;rw[af (λm=>ae)];exact h1;rw[ag ⟨h1,k⟩];rw[af e]at o;refine((T.ses j sj o).frame f (λc r b h1 g n=> ?_) P).mono O (λc=> .inl);obtain⟨r',F,h3,h4⟩:=q c n;rw[b]at F;cases F;omega;intro c r b;rcases new c r b with h1|⟨_,h1⟩;exact bX (T.RZ c r h1) f.1;exact nb c h1;rintro c (h1|h1);exact bX (T.La c h1) f.1;exact(v c h1).2.1;rintro c r b (h1|h1);rcases new c r b with g|⟨g,_⟩;exact T.ap c r g h1;have:=T.La c h1;omega;rcases new c r b with g|⟨_,g⟩;rw[(v c h1).1]at g;cases g;exact g.elim (v c h1).2.2.1 (v c h1).2.2.2;rw[List.map_set];exact f.mono (λc _ n=>by obtain⟨r,b,_⟩:=q c n;exact(B c).2 ⟨r,b⟩);rintro c ⟨r,b⟩;rcases new c r b with g|⟨g,_⟩;exact .inl ((B c).2 ⟨r,g⟩);exact .inr g
def nE.Yh{s s':SC}{Q E:gF}(T:nE h t l X.D L)(k: ∀c,X.M c↔ ∃r,l c=some r)(u:L[i]? =some s)(m:s'.b=s.b)(f:Fr Q h H)(q: ∀c,Q c->∃r,l c=some r/\2+3*i<=r/\r<=4+3*i)(cN:At H s')(y:Own H s'.kp s'.kept.length s'.kc 2 (s'.kept.flatMap AV.enc))(v: ∀c,aL s'.kp c->l c=some (3+3*i)\/h.size<=c)(C:Own H s'.np s'.notes.length s'.nc 1 (s'.notes.flatMap ie))(B: ∀c,aL s'.np c->l c=some (4+3*i)\/h.size<=c)(w: ∀c,aL s'.kp c->aL s'.np c->False)(e: ∀c,E c->h.size<=c/\c<H.size/\¬aL s'.kp c/\¬aL s'.np c)(K: ∀a∈s'.kept,a.v.ok H (λc=>X.D c\/E c))(z: ∀n∈s'.notes,n.ok H (λc=>X.D c\/E c)):
  ∃x,sO H t x ((L.map SC.abs).set i s'.abs) (L.map SC.b)/\bp X h x H:=by
 obtain⟨x,g,F,M,j,O⟩:=T.WN (Q:=Q) (E:=E) k u m f q cN y v C B w (λc b=>⟨by
  cases o:l c with
  |none=>rfl
  |some r=>have:=T.RZ c r o;have:=(e c b).1;omega,(e c b).2⟩) K z
 exact⟨x,g,F,M,λc b=>(j c b).imp (λh=>h) (λh=>(e c h).1),O⟩
def nE.flag{s s':SC}(T:nE h t l X.D L)(y: ∀c,X.M c↔ ∃r,l c=some r)(u:L[i]? =some s)(B:s'.b=s.b)(o:s'.kept=s.kept/\s'.kp=s.kp/\s'.kc=s.kc)(k:s'.notes=s.notes/\s'.np=s.np/\s'.nc=s.nc)(cN:At H s')(E:H.size=h.size)(C: ∀x,x≠s.b->H[x]? =h[x]?): ∃q,sO H t q ((L.map SC.abs).set i s'.abs) (L.map SC.b)/\bp X h q H:=by
 have g:=T.ses i s u;have f:Fr (λx=>x=s.b) h H:=Fr.of_eq E C;have F: ∀c,aL s.kp c->¬c=s.b:=λc j e=>by have m:=g.kl c j;rw[e,g.lb]at m;simp at m
 have G: ∀c,aL s.np c->¬c=s.b:=λc j e=>by have m:=g.nl c j;rw[e,g.lb]at m;simp at m
 have v: ∀c,X.D c->¬c=s.b:=λc j e=>T.ap c _ (e▸g.lb) j;refine T.Yh (Q:=λx=>x=s.b) (E:=λ_=>False) y u B f (λc e=>⟨_,e▸g.lb,ae,ae⟩) cN ?_ ?_ ?_ ?_ ?_ (λc j=>j.elim) ?_ ?_;rw[o.1,o.2.1,o.2.2];exact g.BH.frame f F;rw[o.2.1];exact λc j=> .inl (g.kl c j);rw[k.1,k.2.1,k.2.2];exact g.Fv.frame f G;rw[k.2.1];exact λc j=> .inl (g.nl c j);rw[o.2.1,k.2.1];exact λc m w=>by have a:=g.kl c m;have b:=g.nl c w;rw[a]at b;simp at b
 rw[o.1];exact λa z=>((g.kd a z).frame f v).mono (λc=> .inl);rw[k.1];exact λn k=>((g.nd n k).frame f v).mono (λc=> .inl)
open Classical in
def nE.add{s:SC}{p:bZ}{c0:Nat}{Q:gF}(T:nE h t l X.D L)(z: ∀c,X.M c↔ ∃r,l c=some r)(f:Fr Q h H)(w: ∀c,Q c->l c=some 0\/l c=some 1)(F:H[t]? =some (.C #[.B true,.L p (L.length+1) c0] 119 (0,0)))(C:Own H p (L.length+1) c0 1 (L.map (λs=> .P s.b 0)++ [.P s.b 0]))(I: ∀x,aL p x->l x=some 1\/h.size<=x)(J: ¬aL p s.b)(cN:At H s)(K:h.size<=s.b)(o:s.kept= []/\s.kp=none/\s.kc=0)(q:s.notes= []/\s.np=none/\s.nc=0):
  ∃y,sO H t y (L.map SC.abs++ [s.abs]) (L.map SC.b++ [s.b])/\bp X h y H:=by
 have M:=aD cN;let u:Ua:=λc=>if c=s.b then some (2+3*L.length)else if h.size<=c/\aL p c then some 1 else l c
 have O: ∀c r,l c=some r->u c=some r:=λc r b=>by have:=T.RZ c r b;show(if c=s.b then some (2+3*L.length)else if h.size<=c/\aL p c then some 1 else l c)=some r;rw[af (λm=>ae),af (λm=>ae)];exact b
 have new: ∀c r,u c=some r->l c=some r\/(h.size<=c/\(c=s.b\/aL p c)):=λc r b=>by have b:(if c=s.b then some (2+3*L.length)else if h.size<=c/\aL p c then some 1 else l c)=some r:=b;split at b;rename_i m;exact .inr ⟨ae,.inl m⟩;split at b;rename_i m;exact .inr ⟨m.1,.inr m.2⟩;exact .inl b
 have G: ∀c,X.D c->¬Q c:=λc B g=>(w c g).elim (λh1=>T.ap c _ h1 B) (λh1=>T.ap c _ h1 B);refine⟨⟨λc=> ∃r,u c=some r,X.D⟩,⟨u,L++ [s],⟨⟨p,c0,?_,?_,?_⟩,O t 0 T.RY,?_,?_,?_,?_⟩,?_,by rw[aS];rfl,λc=>eV⟩,?_,?_,λc=> .inl,λc=>id⟩;rw[aq];exact F;rw[aq,aS];exact C;intro x g;show(if x=s.b then some (2+3*L.length)else if h.size<=x/\aL p x then some 1 else l x)=some 1;rw[af (λe:x=s.b=>J (e▸g))];rcases I x g with h1|h1;have:=T.RZ x _ h1;rw[af (λm=>ae)];exact h1;rw[ag ⟨h1,g⟩];intro j S n;by_cases e:j<L.length;rw[fj e]at n;refine((T.ses j S n).frame f (λc r b h1 k g=> ?_) G).mono O (λc h=>h);rcases w c g with h3|h3;rw[b]at h3;cases h3;omega;rw[b]at h3;cases h3;omega;rw[du ae]at n;have E:j=L.length:=by have:=(aJ.1 n).1;simp at this;omega
 subst E;simp at n;subst n;refine⟨cN,?_,?_,?_,?_,?_,?_,?_⟩;show(if s.b=s.b then some (2+3*L.length)else _)=_;rw[ag rfl];rw[o.1,o.2.1,o.2.2];exact .nil rfl rfl rfl rfl;rw[o.2.1];rintro c ⟨a,e,_⟩;cases e;rw[q.1,q.2.1,q.2.2];exact .nil rfl rfl rfl rfl;rw[q.2.1];rintro c ⟨a,e,_⟩;cases e;rw[o.1];intro a v;cases v;rw[q.1];intro a v;cases v;intro c r b;rcases new c r b with h1|⟨_,h1|h1⟩;exact bX (T.RZ c r h1) f.1;omega;exact C.dk h1;intro c h1;exact bX (T.La c h1) f.1;intro c r b h1;rcases new c r b with k|⟨k,_⟩;exact T.ap c r k h1;have:=T.La c h1;omega;rw[aS];rfl;exact f.mono (λc _ g=>(z c).2 ((w c g).elim (λh1=>⟨_,h1⟩) (λh1=>⟨_,h1⟩)));rintro c ⟨r,b⟩;rcases new c r b with k|⟨k,_⟩;exact .inl ((z c).2 ⟨r,k⟩);exact .inr k
def tA:pJ Tryz.prog 164 169 2 32 (.agg #[.U 0,.Z]):=⟨cZ,cZ,rfl⟩
def uA:Tryz.prog.underlying 164=some (.slice 169):=cZ
def ia(a:AV):a.enc.length=2:=rfl
def R0(x:List AV): ∀v∈x.flatMap AV.enc,gk v=true:=by intro v e;have⟨a,_,b⟩:=List.mem_flatMap.1 e;simp at b;rcases b with rfl|rfl<;>rfl
def Pv{a:List AV}{n m:Nat}(f:Row h p (a.flatMap AV.enc))(e:n=a.length)(g:a.length<=1000000000)(b: ∀P C H,Own H P a.length C 2 (a.flatMap AV.enc)->Fr No h H->(∀x,aL P x->h.size<=x)->R (.L P a.length C) H):
  Cl 195 #[.L p n m] h R:=by
 subst e;exact ja (w9 tA uA cW f (iH AV.enc 2 ia a) (R0 a) ae ae b)
def HW{a:List BV}{n m:Nat}(f:Row h p (a.flatMap ie))(e:n=a.length)(g:a.length<=1000000000)(b: ∀P C H,Own H P a.length C 1 (a.flatMap ie)->Fr No h H->(∀x,aL P x->h.size<=x)->R (.L P a.length C) H):
  Cl 321 #[.L p n m] h R:=by
 subst e;exact lV (w9 tN uN cW f (iH ie 1 dZ a) (Fe a) ae ae b)
abbrev yK(h:aA)(b:Nat)(id:Nat):Prop:=h[b]? =some (.cells #[.int .u64 (id:Int)] 27 (0,0))
abbrev Ub(x:List AV)(id:Nat):Int:=idxOf (λa=>decide (a.id=id)) x
theorem Lf{b id:Nat}(a:AV)(hid:yK h b id)(k: iG h R (.B (decide (a.id=id)))):Cl 194 #[.agg #[.U (a.id:Int),a.v.val],.P b 0] h R:=by
 refine pg (bO.box λB g E j f=>⟨_,ai j,_,ai (f.get hid (λx=>x)),?_⟩);have e:(((a.id))==((id):Int))=decide (a.id=id):=by grind
 rw[e];exact k g f
def MP{e:List AV}{n m b id:Nat}(z:Row h p (e.flatMap AV.enc))(w:n=e.length)(u:e.length<=1000000000)(hid:yK h b id)(s: iG h R (.I (Ub e id))):
  Cl 179 #[.L p n m,.func (.func 194) #[] #[.P b 0]] h R:=by
 refine im (qL (λa=>decide (a.id=id)) (λt g K=>((0)<=t/\t<((n)))/\aH p λa=>bO.LD g (a.add (Int.toNat t*2)) λx y B c=>Cl 194 #[.agg #[.U x,.L y B c],.P b 0] g λv q=> ∃t,v=.B t/\K t q) w u (λk g x K o f r=> ?_) s);have lt:=(aJ.1 o).1;have j:=z.frame f (λ_ _=>_root_.id);obtain⟨a,rfl⟩:=j.any ia;exact⟨ae,ar.2 (bO.qq (j.fa ia o) (Lf x (f.get hid _root_.id) λG F=>⟨_,rfl,r G (f.tt F)⟩))⟩
theorem R2{b id:Nat}(a:AV)(hid:yK h b id)(k: iG h R (.B (decide (a.id=id)))):Cl 180 #[.agg #[.U (a.id:Int),a.v.val],.P b 0] h R:=by
 refine ph (bO.box λB g E j f=>⟨_,ai j,_,ai (f.get hid (λx=>x)),?_⟩);have e:(((a.id))==((id):Int))=decide (a.id=id):=by grind
 rw[e];exact k g f
def MQ{e:List AV}{n m b id:Nat}(z:Row h p (e.flatMap AV.enc))(w:n=e.length)(u:e.length<=1000000000)(hid:yK h b id)(s: iG h R (.I (Ub e id))):
  Cl 179 #[.L p n m,.func (.func 180) #[] #[.P b 0]] h R:=by
 refine iq (qL (λa=>decide (a.id=id)) (λt g K=>((0)<=t/\t<((n)))/\aH p λa=>bO.LD g (a.add (Int.toNat t*2)) λx y B c=>Cl 180 #[.agg #[.U x,.L y B c],.P b 0] g λv q=> ∃t,v=.B t/\K t q) w u (λk g x K o f r=> ?_) s);have lt:=(aJ.1 o).1;have j:=z.frame f (λ_ _=>_root_.id);obtain⟨a,rfl⟩:=j.any ia;exact⟨ae,ar.2 (bO.qq (j.fa ia o) (R2 x (f.get hid _root_.id) λG F=>⟨_,rfl,r G (f.tt F)⟩))⟩
def wm(d:aA)(p:bZ)(cap b id:Nat)(e:List AV)(i j:Int)(h:aA):Prop:=
 ∃(a k:Nat)(z:List AV),i=(a:Int)/\j=(k:Int)/\a<k/\k<=e.length/\z.length=e.length/\z.take a=(e.take k).filter (λx=>decide (x.id≠id))/\z.drop k=e.drop k/\Own h p e.length cap 2 (z.flatMap AV.enc)/\Fr (aL p) d h/\yK h b id
theorem MR{f:List AV}{cap b id e':Nat}(O:Own h p f.length cap 2 (f.flatMap AV.enc))(hn:e'=f.length)(hl:f.length<=1000000000)(hid:yK h b id)(S: ¬aL p b)(g: ∀H,Own H p (f.filter (λx=>decide (x.id≠id))).length cap 2 ((f.filter (λx=>decide (x.id≠id))).flatMap AV.enc)->Fr (aL p) h H->yK H b id->R (.slice p (f.filter (λx=>decide (x.id≠id))).length cap) H):
  Cl 193 #[.L p e' cap,.func (.func 194) #[] #[.P b 0]] h R:=by
 subst hn;refine ig (MP O.hT rfl hl hid λq F=>⟨_,rfl,?_⟩);have w:=O.frame F (λ_ _ x=>x);have r:yK q b id:=F.get hid (λx=>x);have m:Fr (aL p) h q:=F.mono (λ_ _=>False.elim);unfold Ub idxOf;cases U:f.findIdx? (λa=>decide (a.id=id))with
 |none=>
  rw[ag (by rfl)];have l':f.filter (λx=>decide (x.id≠id))=f:=by simp_all
  rw[l']at g;exact g q w m r
 |some k=>
  dsimp only;rw[af bt];obtain⟨b',q',p'⟩:=dp.1 U;rw[fc];have c':(f.take (k+1)).filter (λx=>decide (x.id≠id))=f.take k:=by
   rw[aV,au b',fz];have e1:(f.take k).filter (λx=>decide (x.id≠id))=f.take k:=by rw[cK];intro a ha;obtain⟨j,s⟩:=bA ha;rw[db]at s;split at s;grind;cases s
   have e2: [f[k]].filter (λx=>decide (x.id≠id))= []:=by grind
   rw[e1];show f.take k++ [f[k]].filter (λx=>decide (x.id≠id))=_;rw[e2,fy]
  refine⟨wm h p cap b id f,λ_ j _=>f.length - j.toNat,⟨k,k+1,f,rfl,ae,ae,ae,rfl,c'.symm,rfl,w,m,r⟩,?_⟩;clear w r m F c' p' q' b' U;rintro _ _ h2 ⟨a,j,z,rfl,rfl,z',A',t',u,v,o,y,V⟩;by_cases o':j<f.length
  .have Q:(j:Int)<(f.length:Int):=ae
   simp only[Q,ct,bJ,aK];have d':f[j]? =some f[j]:=au o';have s':z[j]? =some f[j]:=by have:=bV (·[0]?) v;simpa[d']using this
   have E:(f.take (j+1)).filter (λx=>decide (x.id≠id))=(f.take j).filter (λx=>decide (x.id≠id))++if f[j].id=id then []else [f[j]]:=by rw[aV,d',fz];congr 1;by_cases e:f[j].id=id<;>simp[e]
   generalize f[j]=x at*;obtain⟨ab,i',rfl⟩:=o.addr ae;refine aB.of λx' M=>⟨⟨ae,by first|omega|simp⟩,ar.2 (bO.qq (o.fa ia s') (bO.new λb6 h6 y' T J=>bO.ld T ?_))⟩;have Z:yK h6 b id:=J.get V (λx=>x);refine Lf x Z λK n=>⟨_,rfl,?_⟩;have G:=J.tt n;have h':=o.frame G (λ_ _ x=>x);have a':yK K b id:=n.get Z (λx=>x);have B:=y.on G;refine aB.of λJ1 k'=> ?_;subst k';by_cases e:x.id=id;simp only[e,ct,df,az,aY];subst M;rw[fc];rw[ag e,fy]at E;refine⟨⟨a,j+1,z,rfl,ae,ae,ae,t',by grind,?_,h',B,a'⟩,?_⟩;have:=bV (List.drop 1) v;rw[List.drop_drop,List.drop_drop]at this;exact this;omega
   .simp only[e,cU,ee,bJ];have m':=n.get T (λx=>x);rw[af e]at E;refine bO.ld m' ⟨⟨ae,by first|trivial|omega⟩,ar.2 ?_⟩;have P:a<z.length:=ae
    have n':=iH AV.enc 2 ia z;refine h'.store (by rw[n'];omega) λh9 v' s9 o9=> ?_;rw[add_add];refine v'.store (by grind) λj' f' w' u'=> ?_;rw[ON ia P rfl]at f';subst M;rw[fc,fc];have C:Fr (aL (Sa ab i')) K j':=(Fr.of_eq s9 o9).tt (Fr.of_eq w' u');refine⟨⟨a+1,j+1,z.set a x,ae,ae,ae,ae,by grind,?_,?_,f',B.tt C,C.get a' S⟩,?_⟩;rw[E,<-u,aV,List.getElem?_set,ag rfl,ag P,List.take_set_of_le (bu a)];rfl;rw[List.drop_set_of_lt ae];have:=bV (List.drop 1) v;rw[List.drop_drop,List.drop_drop]at this;exact this;grind
  have Q: ¬(j:Int)<(f.length:Int):=ae
  simp only[Q,cU,az,aY];obtain rfl:j=f.length:=ae
  rw[dA]at u;have r':(f.filter (λx=>decide (x.id≠id))).length=a:=by grind
  refine⟨ae,?_⟩;simp only[aK];refine Hm tA cW o ae λh3 g' I=>⟨rfl,⟨ae,bN O.le⟩,?_⟩;rw[kQ AV.enc 2 ia,u]at g';rw[kI,Nat.sub_zero,Nat.sub_zero];rw[r']at g;exact g h3 g' (y.tt I) (I.get V S)
end eM
end
end Go.Proofs.YtelbcloplcdchaaGreatDoor
