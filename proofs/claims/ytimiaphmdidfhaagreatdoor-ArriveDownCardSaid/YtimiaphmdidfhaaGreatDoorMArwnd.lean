/-
  FU is proved here: parts of x7 proof, one behind x7 other (texts of this work, merged by a program; IA x7 theorem IB not use is left out). No condition.
-/
import Derived.Test.YtimiaphmdidfhaaGreatDoorMArwnc
set_option maxRecDepth 100000
set_option maxHeartbeats 4000000
namespace Go.Proofs.YtimiaphmdidfhaaGreatDoor
open Go.Den
open IntKind (wrap)
open Int (toNat)
section
variable {h:aj} {R:fD}
variable {S:ck} {s a:Nat}
theorem kK.walk(e:if S.isNone then R (.Z) h else bh h (.C #[] 167) λb H=>aW Tryz.prog (Builtin.append_ #[165,165] 165 #[.L (Sa b 0) 0 0,.L S s a]) H λv d=> ∃c T t,v=.L c T t/\R (.L c T t) d):Cl 247 #[.L S s a] h R:=aP (lq (sq (lq (cq ll lf)) ll)) Tryz.func247 e
theorem jG.Vs.walk(b:Cl 246 #[.L S s a,.func (.func 170) #[] #[]] h λv H=> ∃t,v=.I t/\R (.B (decide (t≥0))) H):Cl 172 #[.L S s a,.func (.func 170) #[] #[]] h R:=aP (lq ll) Tryz.func172 b
theorem jY.Vs.walk(c: ∃(I:Int->aj->Prop)(m:Int->aj->Nat),I 0 h/\∀(t:Int)(H:aj),I t H->if(decide (t<(s:Int)))then Bd t s/\aM S λA=>aa.cN H (A.add (toNat t*4)) λd=>Cl 170 #[d.agg] H λv b=> ∃T,v=.B T/\if T then R (.I t) b else(I (wrap .i64 (t+1)) b/\m (wrap .i64 (t+1)) b<m t H)else R (.I (-1)) H):Cl 246 #[.L S s a,.func (.func 170) #[] #[]] h R:=aP (lq (sq (lq (bq (.loop [(8,.one (.int .i64))] (lq (sq (cq lf lf) (sq (bq (lq (lq (cq ll lf)))) lf)))))) ll)) Tryz.func246 c
theorem kF.within.walk(b:Cl 243 #[.L S s a,.func (.func 163) #[] #[]] h λv H=> ∃t,v=.I t/\R (.B (decide (t≥0))) H):Cl 162 #[.L S s a,.func (.func 163) #[] #[]] h R:=aP (lq ll) Tryz.func162 b
theorem lH.within.walk(c: ∃(I:Int->aj->Prop)(m:Int->aj->Nat),I 0 h/\∀(t:Int)(H:aj),I t H->if(decide (t<(s:Int)))then Bd t s/\aM S λA=>gK H (A.add (toNat t*1)) λd=>Cl 163 #[.U d] H λv b=> ∃T,v=.B T/\if T then R (.I t) b else(I (wrap .i64 (t+1)) b/\m (wrap .i64 (t+1)) b<m t H)else R (.I (-1)) H):Cl 243 #[.L S s a,.func (.func 163) #[] #[]] h R:=aP (lq (sq (lq (bq (.loop [(8,.one (.int .i64))] (lq (sq (cq lf lf) (sq (bq (lq (lq (cq ll lf)))) lf)))))) ll)) Tryz.func243 c

end
section
namespace Bn
open Cb
open jA (Ev dc lL)
variable {V:cM→Bool} {h d H g0 g:aj} {R:fD} {D:Nat→Prop}
variable {a:List CV} {n k:Int} {b c:Nat} {v:BV} {T:List Tr} {q:ck} {t:Tr} {z:CV}
theorem OT(a:List CV): ∀v∈a.flatMap iR,gw v=true:=λv f=>by
 obtain⟨A,_,e⟩:=List.mem_flatMap.1 f;exact ps A v e
theorem Mh{p:ck}{n m:Nat}(i:Row h p (a.flatMap iR))(l:n=a.length)(s:a.length<=1000000)(j: ∀P C H,fz H P a.length C 4 (a.flatMap iR)->Fr No h H->(∀x,aN P x->h.size<=x)->R (.L P a.length C) H):Cl 247 #[.L p n m] h R:=by
 subst l;refine kK.walk ?_;cases p with
 |none=>
  have:a= []:=by
   rcases i with i|⟨A,e,_⟩
   .cases a with
    |nil=>rfl
    |cons B r=>cases i
   .cases e
  subst this;exact j none 0 h (.nil rfl rfl rfl rfl) (Fr.refl _ _) (λx ⟨A,e,_⟩=>by cases e)
 |some A=>
  simp only[ia,aq,aL];exact wV tI uI i (eO iR 4 hM a) (OT a) ae ae λP C H o f g=>⟨_,_,_,rfl,j P C H o f g⟩
structure Lc (g0 g:aj) (b:Nat) (k n:Int) (v:BV) (T:List Tr) (a:List CV) (q:ck) (c:Nat):Prop where
 cW:aa.at g b k n v.p v.b.length v.c q a.length c
 own:fz g q a.length c 4 (a.flatMap iR)
 ge: ∀y,aN q y->g0.size<=y/\y≠b
 tr:dD g (λy=>(g0.size<=y/\y≠b)/\¬aN q y) T a
 fr:Fr (λy=>y=b) g0 g
theorem Lc.on(L:Lc g0 g b k n v T a q c)(f:Fr No g H):Lc g0 H b k n v T a q c:=
 ⟨f.get L.cW id,L.own.frame f bX,L.ge,L.tr.on f,L.fr.on f⟩
theorem OU(o:tY g (λy=>g0.size<=y/\y≠b) t z)(m:aa.fR g b z.s)(f:Fr (λy=>y=b) g0 g): ∃a,a.length=z.ll/\Lc g0 g b z.k z.n z.v t.l a z.q z.cl:=by
 obtain⟨p,a,e,i,j,l⟩:=o;refine⟨a,e.symm,?_,i,j,l,f⟩;rw[<-e];exact m
theorem OV{k':Nat}(L:Lc g0 g b k (k':Int) v T a q c)(o:v.ok g (λy=>g0.size<=y/\y≠b)):tY g (λy=>g0.size<=y/\y≠b) (.mk k k' v.b T) ⟨k,k',v,q,a.length,c⟩:=
 ⟨⟨rfl,rfl,rfl,o⟩,a,rfl,L.own,L.ge,L.tr⟩
theorem Vt{J:aj->Prop}(L:Lc g0 g b k n v T a q c)(ll:a.length<=1000000)(tz:gX g (λy=>(g0.size<=y/\y≠b)/\¬aN q y) t z)(hk: ∀G I Q C,Lc g0 G b k n v (T++ [t]) I Q C->I.length=a.length+1->g.size<=G.size->(∀x,x≠b->¬aN q x->x<g.size->G[x]? =g[x]?)->J G):
  bh g (.C z.s.arr 167) λM Z=>aW Tryz.prog (Builtin.append_ #[165,165] 165 #[.L q a.length c,.L (Sa M 0) 1 1]) Z λd' a'=>
   ∃E B w,d'=.L E B w/\aT a' (AA b 3) (.L E B w) λb'=>J b':=by
 refine aa.da λb2 h7 e' r F=> ?_
 have z7:=F.1;have zg:=L.fr.1;have f':=aC r;have g':=aC L.cW;have nq: ∀y,aN q y->y<g.size:=λy f=>L.own.dC f
 refine dH tI uI (L.own.frame F bX) (ds:=iR z) (.inr ⟨_,rfl,aa.AX (x:=z.s) r⟩) rfl (ps z) ae ae λQ C X c' _ i o=>⟨_,_,_,rfl,?_⟩
 have K:=i.get (F.get L.cW id) (λf=>(L.ge _ f).2 rfl);refine bD K (by show 3<4;omega) λp P S m=> ?_
 have j:Fr (λy=>y=b) X p:=Fr.of_eq S (λO hc=>m O hc);have u: ∀y,aN Q y->g0.size<=y/\y≠b:=λy f=>by
  rcases o y f with A|A
  .exact L.ge y A
  .omega
 have U:a.flatMap iR++iR z=(a++ [z]).flatMap iR:=by rw[cg];simp
 refine hk p (a++ [z]) Q C ⟨?_,?_,u,?_,?_⟩ bV ?_ ?_
 .rw[au];exact P
 .rw[au,<-U];exact c'.frame j (λy f e=>bR (u y f))
 .have t1:=((L.tr.snoc tz).lt.on F).frame i (λy f l=>f.1.2 l);have m1:=dD.mono (D':=λy=>(g0.size<=y/\y≠b)/\¬aN Q y) (λy f=>⟨f.1.1,λl=>by
   rcases o y l with A|A
   .exact f.1.2 A
   .have:=f.2;omega⟩) t1
  exact dD.frame j (λy f e=>ae) m1
 .exact((L.fr.on F).trans i (S'':=λy=>y=b) bX (λx s f=>bR (L.ge x f))).trans j bX bX
 .have:=i.1;omega
 .intro x s hq hl;rw[m x s,i.2 x ae hq,F.2 x hl id]
theorem OW{o:aj->Prop}{K:List (ck)}(L:Lc g0 g b k n v T a q c)(ll:a.length<=1000000)(A:gX g (λy=>(g0.size<=y/\y≠b)/\¬aN q y) t z)(w: ∀G m Q C,Lc g0 G b k n v (T++ [t]) m Q C->m.length=a.length+1->g.size<=G.size->(∀x,x≠b->¬aN q x->x<g.size->G[x]? =g[x]?)->o G):
  bh g (.C z.s.arr 167) λp f=>Kp g f K/\aW Tryz.prog (Builtin.append_ #[165,165] 165 #[.L q a.length c,.L (Sa p 0) 1 1]) f λF s=>
   ∃l j i,F=.L l j i/\aT s (AA b 3) (.L l j i) λu=>o u:=by
 intro B r E e;refine⟨?_,Vt L ll A w B r E e⟩;subst e;exact(Fr.push _ _).kp
theorem OX{l C:Nat}(U:lO V d)(u:Fr No d h)(L:mF h D q l C a)(p:dD h D T a)(S:dK T<=1000000)(r: iq h R (.B (!T.all (iC V)))):Cl 172 #[.L q l C,.func (.func 170) #[] #[]] h R:=by
 have ln:=p.len;have O:=L.len;have Z:=ir T;refine jG.Vs.walk (jY.Vs.walk ?_);refine⟨λt g=> ∃i:Nat,t=(i:Int)/\i<=T.length/\Fr No h g/\(T.take i).all (iC V)=true,λt _=>T.length - t.toNat,⟨0,rfl,bL _,Fr.refl _ _,by rw[eZ];rfl⟩,?_⟩;rintro _ g ⟨i,rfl,Q,F,m⟩;by_cases f:i<T.length
 .rw[gk];obtain⟨A,y,E,G,J,X⟩:=elem (L.frame F bX) (p.on F) f;have ra:=jj f;have s:T.take (i+1)=T.take i++ [at_ T i]:=by
   rw[bt];unfold at_;rw[bk,ai f];rfl
  have I:at_ T i∈T:=by
   unfold at_;rw[bk,ai f];exact dI f
  refine⟨ae,bW.2 ⟨A,E,aa.lX (x:=y.s) (by rw[aF];exact G) (AZ.walk (x:=y.s) (aa.da λK P M B j=>aa.fN B (fK U (u.tt (F.tt j)) (J.on j) ae λx w=>⟨_,rfl,_,rfl,?_⟩)))⟩⟩;have o:=F.tt (j.tt w);cases q:iC V (at_ T i)with
  |false=>
   rw[gk];refine⟨_,rfl,?_⟩;have:=r x o;rw[show T.all (iC V)=false by rw[List.all_eq_false];exact⟨_,I,by rw[q];decide⟩]at this;rw[aw ae];exact this
  |true=>
   rw[dB,bC (n:=(i:Int)+1) ae ae];exact⟨⟨i+1,ae,ae,o,by rw[s,List.all_append,m];simp[q]⟩,by show T.length - Int.toNat ((i:Int)+1)<T.length - Int.toNat (i:Int);omega⟩
 .rw[af (λe=>f (bR (aS e)))];rw[bn ae]at m;have:=r g F;rw[m]at this;exact⟨_,rfl,this⟩

end Bn
end
section
namespace Bn
open Cb
open jA (Ev dc lL)
variable {V:cM→Bool} {h a H:aj} {R:fD} {D:Nat→Prop} {t:List Tr} {y:List CV} {q:ck} {l c:Nat}
variable {i:Nat}
theorem DG(L:mF h D q l c y)(T:dD h D t y)(G:dK t<=1000000)(B:i<100)(r: iq h R (.I (typeAt t i))):Cl 171 #[.L q l c,.I (i:Int)] h R:=by
 have K:=T.len;have x:=L.len;have I:=ir t;refine AY.walk (aH.of λJ o=> ?_);have n: ∀g,Fr No h g->¬(i<t.length/\(at_ t i).n<=2/\oV (at_ t i) (num (at_ t i).n)=true)->J true g:=λg u d=>by
  subst o;dsimp only;rw[ag rfl];have:=r g u;unfold typeAt at this;rw[af d]at this;exact this
 rw[dB];by_cases b:i<t.length
 case neg=>rw[gk];exact n h (Fr.refl _ _) (λe=>b e.1)
 rw[dB];obtain⟨A,j,E,v,s,_⟩:=elem L T b;have M:=jj b;obtain⟨_,w,_⟩:=gX.kn s;have p:dP (A.add (Int.toNat (i:Int)*4)) j.s.l 0 h:=by rw[aF];exact v
 have C:aY h ((A.add (Int.toNat (i:Int)*4)).add 1)=some (.U ((at_ t i).n:Int)):=by rw[<-w];exact p.2.1
 refine⟨ae,bW.2 ⟨A,E,_,C,?_⟩⟩;by_cases d:(at_ t i).n<=2
 case neg=>rw[gk];exact n h (Fr.refl _ _) (λe=>d e.2.1)
 rw[dB];refine⟨ae,bW.2 ⟨A,E,aa.lX (x:=j.s) p ⟨ae,bW.2 ⟨A,E,_,C,fM λz f=>aa.ex (nv (at_ t i).n).s ⟨rfl,f.kp,ji (x:=j) (y:=nv (at_ t i).n) (s.on f) nK ae λm k=>⟨_,rfl,k.kp,?_⟩⟩⟩⟩⟩⟩;have F:=f.tt k;cases e:oV (at_ t i) (num (at_ t i).n)with
 |false=>exact n m F (λq=>by rw[e]at q;cases q.2.2)
 |true=>
  subst o;dsimp only;rw[dB];refine⟨ae,bW.2 ⟨A,E,_,F.cell C id,?_⟩⟩;have:=r m F;unfold typeAt at this;rw[ag ⟨b,d,e⟩]at this;rw[bC ae ae];exact this
theorem DH(t:List Tr)(i:Nat): -1<=typeAt t i/\typeAt t i<=2:=by unfold typeAt;split<;>omega
theorem Q4(n:Nat):List.replicate n (Value.int .u8 0)=bc (List.replicate n 0):=by unfold bc;rw[List.map_replicate];rfl
theorem UQ(n k:Nat)(m:Nat)(b:m=k):IntKind.wrap .u8 (Int.fdiv (n:Int) (2 ^ m))=((UInt8.ofNat (n/2 ^ k)).toNat:Int):=by subst b;rw[OF,OE]
theorem Hk{s:Nat}(U:lO V a)(c':Fr No a h)(L:mF h D q l c y)(T:dD h D t y)(hr:dK t<=900000)(s1:1<=s)(s2:s<=2)(k1: ∀b,sumOf V t s=.ok b->∀H p c,Row H p (bc b)->b.length=2*s->(∀d,aN p d->h.size<=d)->Fr No h H->R (.T #[.L p b.length c,.I 0]) H)(k2:sumOf V t s=.error 3->iq h R (.T #[.Z,.I 3])):Cl 173 #[.L q l c,.I (s:Int)] h R:=by
 have ln:=T.len;have el:=L.len;have l9:=ir t;refine Cy.walk (Mh L.row L.len ae λp1 c1 h1 o1 u Z=>⟨_,_,_,rfl,qG.walk ⟨_,rfl,?_⟩⟩);rw[bC (n:=2*(s:Int)) ae ae,show 2*(s:Int)=((2*s:Nat):Int) by omega];refine N4 iE.tU rfl (2*s) ae ae λh3 p3 o3 Q g3=>⟨_,_,_,rfl,?_⟩
 rw[Q4]at o3;have J:(List.replicate (2*s) (0:UInt8)).length=2*s:=List.length_replicate;refine iM o3.iy J.symm ae λh4 v P ov S=>aa.ex (CV.s ⟨2,0,v,none,0,0⟩) ⟨rfl,aa.da λb h5 eb hb w=> ?_⟩
 have F:=Q.tt (S.tt w);have z1:=u.1;have z3:=Q.1;have z4:=S.1;have z5:=w.1;have n1: ∀d,aN p1 d->d<h1.size:=λd j=>o1.dC j
 have vl:v.b.length=2*s:=by rw[P,J]
 refine dH tI uI (o1.frame F bX) (ds:=iR ⟨2,0,v,none,0,0⟩) (.inr ⟨_,rfl,aa.AX (x:=CV.s ⟨2,0,v,none,0,0⟩) hb⟩) rfl (ps _) ae ae λp6 c6 C O _ x g6=>⟨_,_,_,rfl,?_⟩
 have ef:y.flatMap iR++iR ⟨2,0,v,none,0,0⟩=(y++ [(⟨2,0,v,none,0,0⟩:CV)]).flatMap iR:=by rw[cg];simp
 rw[ef]at O;have T6:CC C (t++ [qP (List.replicate (2*s) 0)]) (y++ [⟨2,0,v,none,0,0⟩]):=by
  have A:=(T.lt.on (u.tt F)).frame x (λd j I=>bR (Z d I));have b:gX C (λd=>h3.size<=d) (.mk 2 0 v.b []) ⟨2,0,v,none,0,0⟩:=DD ((ov.frame w bX).frame x (λd j I=>bR (n1 d I)));rw[P]at b;exact A.u.snoc b.u
 have lA:(y++ [(⟨2,0,v,none,0,0⟩:CV)]).length=y.length+1:=bV
 have rA:dK (t++ [qP (List.replicate (2*s) 0)])<=900100:=by rw[iW];simp only[dK,room,J];omega
 refine kC (D:=λ_=>True) ⟨lA.symm,O.iy,λ_ _ _=>trivial,O.le⟩ T6 ae λh7 a' tz X=>aa.ex a'.s ⟨rfl,?_⟩
 have M:Fr No h C:=(u.tt F).fresh x (λd j=>Z d j);have k:=M.tt X;have z6:=M.1;have z7:=X.1;have f:sumOf V t s=sumOf V t s:=rfl;conv at f=>rhs;unfold sumOf
 refine xe (x:=a') U (c'.tt k) tz.u (by simp only[room,bG];omega) (λG g p8 c8 K n8 z=>⟨_,_,_,_,rfl,?_⟩) (λG g z=>⟨_,_,_,_,rfl,?_⟩)
 .rw[dB];rw[ag G]at f;have m:=k.tt z;have b':(enc (sX (t++ [qP (List.replicate (2*s) 0)]))).length<=900200:=by
   have:=lB (sX (t++ [qP (List.replicate (2*s) 0)]));simp only[room,bG]at this;omega
  generalize enc (sX (t++ [qP (List.replicate (2*s) 0)]))=B at f K b'⊢;have z8:=m.1;by_cases E:s=1
  .rw[ag (by rw[E];rfl)];rw[ag E]at f;refine OM K.iy rfl ae ⟨_,rfl,cK ?_⟩;rw[UQ (AN B) 8 (min (Int.toNat 8) (IntKind.bits .u16)) rfl,OE];have r:Row (g.push (.C (bc (EG B)).toArray 5)) (Sa g.size 0) (bc (EG B)):=iT;exact k1 _ f _ _ _ r (by rw[E];rfl) (λd ⟨A,n,o⟩=>by cases n;rw[<-o];exact z8) (m.tt (Fr.push _ _))
  .rw[af (λe=>E (bR (eq_of_beq e)))];rw[af E]at f;refine Q1 K.iy rfl ae ⟨_,rfl,cK ?_⟩;rw[UQ (yx B) 24 (min (Int.toNat 24) (IntKind.bits .u32)) rfl,UQ (yx B) 16 (min (Int.toNat 16) (IntKind.bits .u32)) rfl,UQ (yx B) 8 (min (Int.toNat 8) (IntKind.bits .u32)) rfl,OE];have r:Row (g.push (.C (bc (KG B)).toArray 5)) (Sa g.size 0) (bc (KG B)):=iT;exact k1 _ f _ _ _ r (by rw[show s=2 by omega];rfl) (λd ⟨A,n,o⟩=>by cases n;rw[<-o];exact z8) (m.tt (Fr.push _ _))
 .rw[gk];rw[af (by rw[G];decide)]at f;exact k2 f g (k.tt z)
theorem KM(U:lO V a)(d':Fr No a h)(L:mF h D q l c y)(v:dD h D t y)(hr:dK t<=800000)(hi:i<100)(k1: ∀T,oA V t i=.ok T->∀H z,tY H (λb=>h.size<=b) T z->Fr No h H->R (.T #[z.agg,.I 0]) H)(k2: ∀e,oA V t i=.error e->iq h R (.T #[zv.agg,.I e])):Cl 110 #[.L q l c,.I (i:Int)] h R:=by
 have ln:=v.len;have el:=L.len;have l9:=ir t;refine EK.walk (aa.da λa' K eb M F=>aH.of λy' hJ=> ?_);have zb:=aC M;have no: ∀g e,Fr No K g->oA V t i=.error e->aa.dw g (AA a' 0) .z λG=>aa.cN G (AA a' 0) λt'=>R (.T #[t'.agg,.I e]) G:=λg e A s=>
  EP (A.get M id) λG f=>k2 e s G ((F.tt A).fresh f (λb e=>ae))
 rw[dB];have d:oA V t i=oA V t i:=rfl;conv at d=>rhs;unfold oA
 by_cases g':i<t.length
 case neg=>
  rw[aw ae];rw[af g']at d;subst hJ;dsimp only;rw[ag rfl];exact no K 1 (Fr.refl _ _) d
 rw[ag g']at d;rw[aB ae];subst hJ;dsimp only;rw[af (show¬false=true by decide)];refine DG (L.frame F bX) (v.on F) ae hi λh4 m=>⟨_,rfl,aH.of λJ1 e'=>OX U (d'.tt (F.tt m)) (L.frame (F.tt m) bX) (v.on (F.tt m)) ae λn x=>⟨_,rfl,?_⟩⟩
 have G':=DH t i;have I:=F.tt (m.tt x);have c': ¬(t.all (iC V)=true/\0<=typeAt t i)->J1 true n:=λhn=>by
  subst e';dsimp only;rw[ag rfl];exact no n 3 (m.tt x) (by rw[d,af hn])
 cases ha:t.all (iC V)with
 |false=>rw[gk];exact c' (λe=>by rw[ha]at e;cases e.1)
 |true=>
 rw[dB];by_cases ht:0<=typeAt t i
 case neg=>rw[aw ae];exact c' (λe=>ht e.2)
 rw[aB ae];clear c';rw[ag ⟨ha,ht⟩]at d;subst e';dsimp only;rw[af (show¬false=true by decide)];refine kC (L.frame I bX) (v.on I) ae λh7 z tz r=>aa.ex z.s ⟨rfl,aa.fY (x:=z.s) λB C A' O k=>aH.of λJ2 p'=> ?_⟩
 have z1:=F.1;have z4:=m.1;have J':=x.1;have z5:=I.1;have z7:=r.1;have z9:=k.1;have K':=aC O;have u:=I.tt (r.tt k);have done: ∀g (w:CV) T,tY g (λb=>n.size<=b/\b≠B) T w->room T<=900000->aa.fR g B w.s->Fr (λb=>n.size<=b) C g->(oA V t i=if iC V T=true then .ok T else .error 3)->J2 g:=by
  intro g w T E rt hw A s;subst p';try dsimp only
  have S:Fr No h g:=u.fresh A (λb e=>ae);have f': ∀{g2},Fr No g g2->aa.fR g2 a' .z:=λf=>f.get (A.get ((m.tt (x.tt (r.tt k))).get M id) ae) id
  refine aa.fN hw (fK U (d'.tt S) E.u ae λB' o=>⟨_,rfl,?_⟩);cases P:iC V T with
  |false=>
   rw[gk];rw[P]at s;exact EP (f' o) λG f=>k2 3 s G ((S.tt o).fresh f (λb e=>ae))
  |true=>
   rw[dB];rw[P,ag rfl]at s;refine aa.fN (o.get hw id) (fin (f' o) (E.frame o bX) (λb j e=>bR F.1) λn' v' m'=>k1 T s n' w (v'.mono λb j=>ae) ((S.tt o).fresh m' (λb e=>ae)))
 have Q:tY C (λb=>n.size<=b/\b≠B) (sX t) z:=by
  obtain⟨⟨a1,a2,a3,a4⟩,Z,a5,a6,a7,a8⟩:=tz;refine⟨⟨a1,a2,a3,((GN a4).mono λb j=>ae).frame k bX⟩,Z,a5,a6.frame k bX,λb j=>⟨a7 b j,bR (a6.dC j)⟩,(dD.mono (λb j=>by have K:=j.1.1;have h2:=j.2;exact⟨⟨K,ae⟩,j.1.2⟩) a8.lt).on k⟩
 by_cases hp:0<typeAt t i
 case neg=>
  rw[dB];rw[af hp]at d;exact done C z (sX t) Q (by simp only[room,bG];omega) O (Fr.refl _ _) d
 rw[ag (aw hp)];rw[ag hp]at d;obtain⟨F',r'⟩:=eL ht;rw[r']at d⊢;rw[aF]at d;refine Hk U (d'.tt u) (L.frame u bX) (v.on u) ae ae ae (λbs hs o' E' z' u' lb nb p=>⟨_,_,_,_,rfl,?_⟩) (λhs o' p=>⟨_,_,_,_,rfl,?_⟩)
 .rw[dB];rw[hs]at d;refine⟨_,_,_,ak (p.get O id),iM u' rfl ae λC' w' ev ov b'=>aa.ex (CV.s ⟨2,0,w',none,0,0⟩) ⟨rfl,b'.kp,?_⟩⟩;have i':=p.tt b';have g0:Fr (λb=>b=B) n C:=(r.tt k).mono λ_ _=>False.elim
  obtain⟨Z,ez,Lz⟩:=OU (g0:=n) Q O g0;have l':z.s.FN=Z.length:=ez.symm;have zl:Z.length=t.length:=by have:=Lz.tr.len;exact this.symm
  have q9: ∀b,aN z.q b->b<C.size:=λb j=>Lz.own.dC j
  have H':=p.1;have I':=b'.1;have j':=Lz.on i';rw[l'];obtain⟨zk,zn,h',_⟩:=Q.1;refine OW j' ae (gX.mono (λb j=>⟨ae,λP=>bR (q9 b P)⟩) (DD ov)) λG x' q' k' X hl D' ho=> ?_
  have s':z.v.ok G (λb=>n.size<=b/\b≠B):=by
   have J:z.v.b= []:=h';exact⟨by rw[J];exact Row.nil,λe=>absurd J e,Q.1.2.2.2.cap⟩
  have E:=OV (k':=z.n) X s';have ek:z.k=4:=zk;have en:z.n=0:=zn;have J:z.v.b= []:=h';rw[ek,en,J,ev]at E;have lr:=iW (a:=t) (b:= [qP bs]);simp only[dK,room]at lr;refine done G ⟨z.k,z.n,z.v,q',x'.length,k'⟩ (sX (t++ [qP bs])) (by rw[ek,en];exact E) (by simp only[room,bG];omega) X.cW ?_ d;refine⟨ae,λb j hn=> ?_⟩;rw[X.fr.2 b ae ae,(r.tt k).2 b ae id]
 .rw[gk];rw[hs]at d;exact EP (p.get ((m.tt (x.tt (r.tt k))).get M id) id) λG f=>k2 3 d G ((u.tt p).fresh f (λb e=>bR F.1))
theorem zR{i : Nat}{T : Tr}{x : CV}(U : lO V a)(g' : Fr No a h)(tx : EO h T x)(Z : room T ≤ 800000)(hi : i < 100)(k1 : ∀ u, qF V T i = .ok u → dK u ≤ dK T.l → ∀ H p z c, mF H (λf => h.size ≤ f) p z.length c z → dD H (λf => h.size ≤ f) u z → Fr No h H → R (.tuple #[.slice p z.length c, .int .i64 0]) H)(K : ∀ e, qF V T i = .error e → e ≠ 0 → ∀ H, Fr No h H → R (.tuple #[.slice none 0 0, .int .i64 e]) H): Cl 209 #[x.agg, .int .i64 (i : Int)] h R := by
  obtain ⟨xk, xn, xb, xl, xv, y, L, o⟩ := gX.kn tx
  have rl := lF (t := T)
  have ln := o.len
  have el := L.len
  have l9 := ir T.l
  have e4 : x.s.f0 = T.k := xk
  have l' : x.s.FN = T.l.length := xl
  refine EL.walk (x := x.s) (aa.da λt' h1 eb hb O => aH.of λj' hJ => aa.fN hb (fK U (g'.tt O) (tx.on O) (by omega) λh3 f3 => ⟨_, rfl, ?_⟩))
  have A := O.tt f3
  have X := f3.get hb id
  have b : qF V T i = qF V T i := rfl
  conv at b => rhs; unfold qF
  have bad : ¬ (iC V T = true ∧ T.k = 4 ∧ 0 ≤ typeAt T.l i) → ∀ g, Fr No h g → R (.tuple #[.slice none 0 0, .int .i64 3]) g := λm g F => K 3 (by rw [b, if_neg m]) (by decide) g F
  have M : ¬ (iC V T = true ∧ T.k = 4 ∧ 0 ≤ typeAt T.l i) → j' true h3 := λm => by
    subst hJ
    dsimp only
    rw [if_pos rfl]
    exact bad m h3 A
  cases hR : iC V T with
  | false => exact M (λe => by rw [hR] at e; cases e.1)
  | true =>
  rw [if_neg (show ¬ (!true) = true by decide)]
  refine ⟨_, cB X rfl, ?_⟩
  rw [e4]
  by_cases I : T.k = 4
  case neg => rw [show (T.k != 4) = true by simpa using I]; exact M (λe => I e.2.1)
  rw [show (T.k != 4) = false by simpa using I]
  clear M
  subst hJ
  dsimp only
  rw [if_neg (show ¬ false = true by decide)]
  refine ⟨_, _, _, cB X rfl, DG (L.frame A (λ_ _ => id)) (o.on A) (by omega) hi λh4 f4 => ⟨_, rfl, ?_⟩⟩
  have k := A.tt f4
  have w := f4.get X id
  by_cases ht : 0 ≤ typeAt T.l i
  case neg => rw [if_pos (decide_eq_true (by omega))]; exact bad (λe => ht e.2.2) h4 k
  rw [if_neg (by simp only [decide_eq_true_eq]; omega)]
  rw [if_pos ⟨hR, I, ht⟩] at b
  clear bad
  have f' : ∀{g}(u : List Tr)(z : List CV){n c : Nat}{p : Option Addr}, mF g (λ_ => True) p n c z → CC g u z → dK u ≤ dK T.l → Fr No h g → qF V T i = .ok u → Cl 168 #[.slice p n c] g λs' p' => aa.EX λJ => s' = J.agg ∧ R (.tuple #[.slice J.SK J.FN J.Qy, .int .i64 0]) p' := by
    intro g u z n c p Lz Tz rz F hu
    refine kC Lz Tz (by omega) λo' a' tz m' => aa.ex a'.s ⟨rfl, ?_⟩
    obtain ⟨_, ws, a5, a6, a7, a8⟩ := tz
    have zg := F.1
    have := k1 u hu rz o' a'.q ws a'.cl ⟨rfl, a6.iy, λ_ f hy => by have := a7 f hy; omega, a6.le⟩ (dD.mono (λf hy => by have := hy.1; omega) a8) (F.tt m')
    rw [← a5] at this
    exact this
  by_cases a : typeAt T.l i = 0
  · rw [if_pos (by rw [a]; rfl)]
    rw [if_pos a] at b
    exact ⟨_, _, _, cB w rfl, f' T.l y (L.frame k (λ_ _ => id)) (o.on k) (Nat.le_refl _) k b⟩
  rw [if_neg (by simpa using a)]
  rw [if_neg a] at b
  have x' : i < T.l.length := by
    rcases Nat.lt_or_ge i T.l.length with hq | hq
    · exact hq
    · have : typeAt T.l i = -1 := by unfold typeAt; rw [if_neg (λe => by omega)]
      omega
  have C' := DH T.l i
  obtain ⟨s, q'⟩ := Int.eq_ofNat_of_zero_le ht
  rw [q'] at b ⊢
  rw [Int.toNat_natCast] at b
  have e' : 1 ≤ s ∧ s ≤ 2 := by omega
  obtain ⟨n, m⟩ : ∃ n, T.l.length = n + 1 := ⟨T.l.length - 1, by omega⟩
  rw [show T.l.length - 1 = n by omega] at b
  have ew : IntKind.wrap .i64 (((x.s.FN : Nat) : Int) - 1) = (n : Int) := by rw [l', m, bC (by omega) (by omega)]; omega
  refine ⟨_, _, _, cB w rfl, ?_⟩
  rw [ew]
  obtain ⟨k', f, ea, hh, ty, _⟩ := elem (L.frame k (λ_ _ => id)) (o.on k) (i := n) (by omega)
  have rn := jj (ts := T.l) (i := n) (by omega)
  obtain ⟨yk, yn, yb, yl, yv, _⟩ := gX.kn ty
  generalize y' : at_ T.l n = d at ty rn yk yn yb yl b
  have B' := lF (t := d)
  refine ⟨_, _, _, cB w rfl, ⟨by omega, by omega⟩, bW.2 ⟨k', ea, aa.lX (x := f.s) (by rw [Int.toNat_natCast]; exact hh) (aa.fY (x := f.s) λb1 S v' E v => aH.of λJ1 d' => ?_)⟩⟩
  have F6 := k.tt v
  have lb : f.s.UK = d.b.length := by show f.v.b.length = _; rw [yb]
  have bad : ∀ g, Fr No S g → ¬ (i < n ∧ oV d (qP d.b) = true ∧ d.b.length = 2 * s) → J1 true g := λg F m => by
    subst d'
    try dsimp only
    rw [if_pos rfl]
    exact K 3 (by rw [b, if_neg m]) (by decide) g (F6.tt F)
  by_cases c1 : i < n
  case neg => rw [if_pos (decide_eq_true (by omega))]; exact bad S (Fr.refl _ _) (λe => c1 e.1)
  rw [if_neg (by simp only [decide_eq_true_eq]; omega)]
  have i' : ∀{g}, Fr No S g → Row g f.v.p (bc d.b) := λF => by rw [← yb]; exact ((yv.frame v (λ_ _ => id)).frame F (λ_ _ => id)).row
  refine aa.fN E ⟨_, _, _, cB E rfl, iM (i' (Fr.refl _ _)) lb (by omega) λw' h' ev ov P => aa.ex (CV.s ⟨2, 0, h', none, 0, 0⟩) ⟨rfl, P.kp, ?_⟩⟩
  refine ji (x := f) (y := ⟨2, 0, h', none, 0, 0⟩) (s := qP d.b) (ty.on (v.tt P)) (ev ▸ DD ov) (by omega) λc' n' => ⟨_, rfl, ?_⟩
  have j := P.tt n'
  cases c2 : oV d (qP d.b) with
  | false => rw [if_pos (by decide)]; exact bad c' j (λe => by rw [c2] at e; cases e.2.1)
  | true =>
  rw [if_neg (show ¬ (!true) = true by decide)]
  refine ⟨_, _, _, cB (j.get E id) rfl, qG.walk ⟨_, rfl, (Fr.refl _ _).kp, ?_⟩⟩
  rw [lb, bC (n := 2 * (s : Int)) (by omega) (by omega)]
  by_cases c3 : d.b.length = 2 * s
  case neg => rw [show (((d.b.length : Nat) : Int) != 2 * (s : Int)) = true by simp only [bne_iff_ne, ne_eq]; omega]; exact bad c' j (λe => c3 e.2.2)
  rw [show (((d.b.length : Nat) : Int) != 2 * (s : Int)) = false by simp only [bne_eq_false_iff_eq]; omega]
  clear bad
  rw [if_pos ⟨c1, c2, c3⟩] at b
  subst d'
  try dsimp only
  rw [if_neg (show ¬ false = true by decide)]
  have G := F6.tt j
  have b' : ∀{g}, Fr No h g → mF g (λ_ => True) (cT x.s.SK x.s.Qy 0 4) ((Int.toNat (n : Int)) - 0) (x.s.Qy - 0) (y.take n) := fun {g} F => by
    have Z := (L.frame F (λ_ _ => id)).row.sub (cap := x.cl) (l := 0) (u := n) (sz := 4) (Nat.zero_le _) (by have := L.cap; omega)
    rw [ni iR 4 hM, Nat.zero_mul, List.drop_zero] at Z
    have hc : x.ll ≤ x.cl := L.cap
    exact ⟨by rw [List.length_take]; omega, Z, λ_ _ _ => trivial, by show n - 0 ≤ x.cl - 0; omega⟩
  have cc : n ≤ x.s.Qy := by have hc : x.ll ≤ x.cl := L.cap; show n ≤ x.cl; omega
  have rt : dK (T.l.take n) ≤ dK T.l := oR _ _
  refine ⟨_, _, _, cB ((v.tt j).get w id) rfl, ⟨by omega, by omega⟩, Hk U (g'.tt G) (b' G) ((o.on G).take n) (by omega) e'.1 e'.2 (λbs hs Q A' u' r' z' nb r => ⟨_, _, _, _, rfl, ?_⟩) (λhs Q r => ⟨_, _, _, _, rfl, ?_⟩)⟩
  · rw [if_neg (by decide)]
    rw [hs] at b
    dsimp only at b
    refine ⟨_, _, _, cB ((j.tt r).get E id) rfl, kJ r' (i' (j.tt r)) rfl lb ⟨_, rfl, ?_⟩⟩
    have B := G.tt r
    by_cases C : bs = d.b
    · rw [decide_eq_true C, if_neg (show ¬ (!true) = true by decide)]
      rw [if_pos C] at b
      exact ⟨_, _, _, cB (((v.tt j).tt r).get w id) rfl, ⟨by omega, by omega⟩, f' (T.l.take n) (y.take n) (b' B) ((o.on B).take n) rt B b⟩
    · rw [decide_eq_false C, if_pos (show (!false) = true by decide)]
      rw [if_neg C] at b
      exact K 10 b (by decide) Q B
  · rw [if_pos (by decide)]
    rw [hs] at b
    exact K 3 b (by decide) Q (G.tt r)

end Bn
end
section
namespace Bn
open Cb
open jA (Ev dc lL)
variable {V:cM→Bool} {h a H:aj} {R:fD}
variable {T:List Tr} {i:Nat} {t:Tr} {e:Int}
abbrev Prim.s(p:Prim):aG.S:=⟨p.fl,p.sum,p.dest.km,p.dest.node,p.dest.gy,p.dest.host,p.dest.jN,p.rep.km,p.rep.node,p.rep.gy,p.rep.host,p.rep.jN,p.id.e.km,p.id.e.node,p.id.e.gy,p.id.e.host,p.id.e.jN,p.id.tm,p.id.sq,p.fW⟩
def Prim.wf(p:Prim):Prop:=0<=p.dest.gy/\0<=p.rep.gy/\0<=p.id.e.gy
variable {p:Prim}
theorem Ub{b:Nat}{y:aG.S}(x:Prim){K:aG.S->aj->Prop}(c:aG.fR h b y)(j: ∀H,Fr (λy=>y=b) h H->K x.s H):
  aG.dw h (AA b 0) x.s λg=>aG.cN g (AA b 0) λr=>K r g:=
 aG.hU (x:=x.s) c λg d f _=>aG.fN d (j g f)
theorem Mi(p:Prim)(x: iq h R (.B (jB p))):Cl 106 #[p.s.agg] h R:=by
 refine Cz.walk (aG.da λb m E c f=>⟨_,ak c,?_⟩);have n: ∀g,Fr No h g->jB p=false->R (.B false) g:=λg y e=>by have:=x g y;rw[e]at this;exact this
 change if TG (p.fl:Int) 409638=true then _ else _
 by_cases C:TG (p.fl:Int) 409638=true
 case neg=>rw[af C];exact n m f (by unfold jB;simp[C])
 rw[ag C];refine⟨_,ak c,?_⟩;by_cases d:0<=p.sum
 case neg=>rw[af (by simp only[aX];exact d)];exact n m f (by unfold jB;simp[d])
 rw[ag (aw d)];refine⟨_,ak c,?_⟩;by_cases j:p.sum<=2
 case neg=>rw[af (by simp only[aX];exact j)];exact n m f (by unfold jB;simp[j])
 rw[ag (aw j)];refine iX p.dest c rfl rfl rfl rfl rfl (jA.fK p.dest λz k=>⟨_,rfl,?_⟩);cases o:dc p.dest with
 |false=>exact n z (f.tt k) (by unfold jB;simp[o])
 |true=>
 rw[ag rfl];have v:=k.get c id;refine iX p.rep v rfl rfl rfl rfl rfl (jA.fK p.rep λA s=>⟨_,rfl,?_⟩);have F:=f.tt (k.tt s);cases q:dc p.rep with
 |false=>exact n A F (by unfold jB;simp[q])
 |true=>
 rw[ag rfl];have w:=s.get v id;refine A5 p.id w rfl rfl rfl rfl rfl rfl rfl (sN p.id λu l=>⟨_,rfl,?_⟩);cases r:ij p.id with
 |false=>exact n u (F.tt l) (by unfold jB;simp[r])
 |true=>
 rw[ag rfl];refine⟨_,ak (l.get w id),?_⟩;have:=x u (F.tt l);unfold jB at this;rw[C,aw d,aw j,o,q,r]at this;rw[show decide ((p.s.f19:Int)<=1099511627776)=decide (p.fW<=1099511627776)from lG p.fW 1099511627776];exact this
theorem DI(h:jB p=true):0<=p.sum/\p.sum<=2/\dc p.dest=true/\dc p.rep=true/\ij p.id=true/\p.fW<=1099511627776:=by
 unfold jB at h;simp only[aU,aX]at h;exact⟨h.1.1.1.1.1.2,h.1.1.1.1.2,h.1.1.1.2,h.1.1.2,h.1.2,h.2⟩
theorem A8(h:jB p=true):dK (GI p)<=1000:=by
 obtain⟨_,_,A,b,c,_⟩:=DI h;have:=nt _ A;have:=nt _ b;have:=nt _ (A6 c).1;simp only[GI,dK,room,bG];omega
theorem Ba(h:oA V T i=.ok t):room t<=dK T+30:=by
 unfold oA at h;split at h
 .split at h
  .split at h
   .split at h
    .cases h
    .rename_i b c;split at h
     .cases h;have:b.length<=4:=by
       unfold sumOf at c;split at c
       .cases c;split<;>simp[EG,KG]
       .cases c
      simp only[room,iW,dK,bG];omega
     .cases h
   .split at h
    .cases h;simp only[room,bG];omega
    .cases h
  .cases h
 .cases h
theorem Bb(h:oB V p=.ok t):room t<=1100:=by
 unfold oB at h;split at h
 .rename_i b;have:=Ba h;have:=A8 b;omega
 .cases h
theorem OY(p:Prim)(w:p.wf)(U:lO V a)(p':Fr No a h)(x: ∀t,oB V p=.ok t->∀H z,tY H (λy=>h.size<=y) t z->Fr No h H->R (.T #[z.agg,.I 0]) H)(K: ∀e,oB V p=.error e->iq h R (.T #[zv.agg,.I e])):Cl 76 #[p.s.agg] h R:=by
 refine CA.walk (aG.da λq' h1 eb hb M=>aa.da λb1 h2 r' a' n=>aG.fN (x:=p.s) (n.get hb id) (Mi p λh3 j=>⟨_,rfl,?_⟩));have k:=(n.tt j).get hb id;have u:=j.get a' id;have d:=M.tt (n.tt j);have z1:=M.1;have F':=aC a';have z3:=j.1;unfold oB at x K;cases l:jB p with
 |false=>exact EP u λh4 f4=>K 3 (by rw[l,dB]) h4 (d.fresh f4 (λy e=>ae))
 |true=>
 rw[dB];rw[l,ag rfl]at x K;obtain⟨s0,s2,eD,eR,J,_⟩:=DI l;have hE:=(A6 J).1;refine iX p.dest k rfl rfl rfl rfl rfl (xh p.dest w.1 (λ_ h5 Z td f5=>aa.ex Z.s ⟨_,rfl,aa.fY (x:=Z.s) λb2 h7 s' g' f7=> ?_⟩) (λe=>by rw[eD]at e;cases e));have E:=f5.tt f7;refine iX p.rep (E.get k id) rfl rfl rfl rfl rfl (xh p.rep w.2.1 (λ_ h8 m tr q=>aa.ex m.s ⟨_,rfl,aa.fY (x:=m.s) λb3 w' t' i' g=> ?_⟩) (λe=>by rw[eR]at e;cases e));have C:=E.tt (q.tt g);refine A5 p.id (C.get k id) rfl rfl rfl rfl rfl rfl rfl (DF p.id w.2.2 (λ_ x' B ti b=>aa.ex B.s ⟨_,rfl,aa.fY (x:=B.s) λb4 y' u' b' f=> ?_⟩) (λe=>by rw[J]at e;cases e));have D:=C.tt (b.tt f);have v:=D.get k id;have h':=(q.tt (g.tt (b.tt f))).get g' id;have j':=(b.tt f).get i' id;obtain⟨ik,D',ib,il,iv,ys,L,I⟩:=gX.kn (ti.u.on f);have lI:(Ox p.id).l.length=2:=rfl;have li:B.s.FN=2:=il;obtain⟨a0,y0,c',k',n',_⟩:=elem L I (i:=0) ae;obtain⟨a1,A,d',l',o',_⟩:=elem L I (i:=1) ae;refine⟨_,ak v,_,ak v,aa.fN h' ⟨_,_,_,ak b',ae,bW.2 ⟨a0,c',aa.lX (x:=y0.s) k' (aa.fN j' ⟨_,_,_,ak b',ae,bW.2 ⟨a1,d',aa.lX (x:=A.s) l' ⟨_,ak v,?_⟩⟩⟩)⟩⟩⟩;obtain⟨s,hs⟩:=eL s0;have es:p.sum.toNat=s:=ae
 refine fM (n:=7) λz' O=>aa.ex (nv 7).s ⟨rfl,O.kp,fM (n:=p.fl) λA' P=>aa.ex (nv p.fl).s ⟨rfl,P.kp,?_⟩⟩
 rw[show p.s.f1=(s:Int)from hs,wrap_u64 (n:=(s:Int)) ae ae];refine fM (n:=s) λB' Q=>aa.ex (nv s).s ⟨rfl,Q.kp,fM (n:=p.fW) λC' S=>aa.ex (nv p.fW).s ⟨rfl,S.kp,px (ys:= [nv 7,nv p.fl,nv s,Z,y0,m,A,nv p.fW]) rfl λb5 e' v' L5 X=>⟨X.kp,?_⟩⟩⟩
 have G:=O.tt (P.tt (Q.tt (S.tt X)));have T5:CC e' (GI p) [nv 7,nv p.fl,nv s,Z,y0,m,A,nv p.fW]:=by
  unfold GI;rw[es];exact .cons nK (.cons nK (.cons nK (.cons (td.u.on (f7.tt (q.tt (g.tt (b.tt (f.tt G)))))) (.cons (n'.on G) (.cons (tr.u.on (g.tt (b.tt (f.tt G)))) (.cons (o'.on G) (.cons nK .nil)))))))
 have F:=D.tt G;have rp:=A8 l;refine KM (i:=2) U (p'.tt (d.tt F)) (L5 (λ_=>True) trivial) T5 ae ae (λt ht f' z tz c=>aa.ex z.s ⟨_,rfl,?_⟩) (λe he f' c=>aa.ex zv.s ⟨_,rfl,?_⟩)
 .have E':=F.1;exact fin ((F.tt c).get u id) tz (λy hy e=>ae) λr m' o=>x t ht r z (m'.mono λy hy=>ae) ((d.tt (F.tt c)).fresh o (λy e=>ae))
 .exact EP ((F.tt c).get u id) λr o=>K e he r ((d.tt (F.tt c)).fresh o (λy e=>ae))
theorem DJ(h:oA V T i=.error e):e≠0:=by
 unfold oA at h;split at h
 .split at h
  .split at h
   .split at h
    .rename_i b;cases h;unfold sumOf at b;split at b
     .cases b
     .cases b;decide
    .split at h
     .cases h
     .cases h;decide
   .split at h
    .cases h
    .cases h;decide
  .cases h;decide
 .cases h;decide
theorem Mj(h:oB V p=.error e):e≠0:=by
 unfold oB at h;split at h
 .exact DJ h
 .cases h;decide
theorem OZ(p:Prim)(w:p.wf)(U:lO V a)(u:Fr No a h)(d: ∀H z q,(∀t,oB V p=.ok t->q=0/\EO H t z)->(∀e,oB V p=.error e->q≠0)->Fr No h H->R (.T #[z.s.agg,.I q]) H):Cl 76 #[p.s.agg] h R:=
 OY p w U u (λt c H z g f=>d H z 0 (λj e=>by rw[c]at e;cases e;exact⟨rfl,g.u⟩) (λe b=>by rw[c]at b;cases b) f) (λe b H f=>d H zv e (λt c=>by rw[b]at c;cases c) (λ_ _=>Mj b) f)
theorem O0{x:CV}(U:lO V a)(z':Fr No a h)(mx:lM.Mx h)(tx:EO h t x)(hr:room t<=400000)(k1: ∀p,tX V t=.ok p->p.wf->iq h R (.T #[p.s.agg,.I 0]))(k2: ∀e,tX V t=.error e->e≠0->iq h R (.T #[Prim.zero.s.agg,.I e])):Cl 145 #[x.agg] h R:=by
 have rl:=lF (t:=t);refine EM.walk (x:=x.s) (aa.da λp' K eb hb f1=>aG.da λb1 h2 f0 k' f2=>aa.fN (f2.get hb id) ?_);have n:=f1.tt f2;have c3:=f2.get hb id;have zb:=aC hb;have i4:=aC k';have z1:=f1.1;have z2:=f2.1;have no: ∀g e,Fr No h2 g->tX V t=.error e->e≠0->aG.dw g (AA b1 0) .z λG=>aG.cN G (AA b1 0) λr=>R (.T #[r.agg,.I e]) G:=λg e j P hn=>
  Ub .zero (j.get k' id) λG j'=>k2 e P hn G ((n.tt j).fresh j' (λy e=>ae))
 have b:tX V t=tX V t:=rfl;conv at b=>rhs;unfold tX
 refine zR (i:=2) U (z'.tt n) (tx.on n) ae ae (λu c ru v p zs e9 L TS F=>⟨_,_,_,_,rfl,?_⟩) (λe P hn v F=>⟨_,_,_,_,rfl,?_⟩)
 case refine_2=>
  rw[ag (cI hn)];exact no v e F (by rw[b,P]) hn
 rw[dB];rw[c]at b;dsimp only at b;have ln:=TS.len;have l9:=ir u;by_cases l8:u.length=8
 case neg=>
  rw[ag (by simp only[dv,ff];omega)];exact no v 3 F (by rw[b,af l8]) dN
 rw[af (by simp only[dv,ff];omega)];rw[ag l8]at b;have z3:=F.1;have I: ∀i,i<8->∃(A:Addr)(y:CV),p=some A/\dP (A.add (i*4)) y.s.l 0 v/\EO v (at_ u i) y/\(∀{g},Fr No v g->aY g ((A.add (i*4)).add 1)=some (.U ((at_ u i).n:Int))):=λi hi=>by
  obtain⟨A,y,ea,hh,ty,_⟩:=elem L TS (i:=i) ae;obtain⟨_,yn,_⟩:=gX.kn ty;exact⟨A,y,ea,hh,ty.u,λj=>j.cell (by have:=hh.2.1;rw[<-yn];exact this) id⟩
 have g': ∀i,i<8->room (at_ u i)<=dK u:=λi hi=>jj ae
 obtain⟨a3,y3,M',d4,e4,_⟩:=I 3 ae;have r3:=g' 3 ae;have r5:=g' 5 ae;have r4:=g' 4 ae;have r6:=g' 6 ae;have u2:=z'.tt n;have m2:=mx.on n;refine⟨ae,bW.2 ⟨a3,M',aa.lX (x:=y3.s) d4 (ET U (u2.tt F) (m2.on F) e4 ae λd qd ⟨d2,d3,wd⟩ h6 f6=>az.ex d.s ⟨_,rfl,az.fY (x:=d.s) λb2 h8 f5 c4 f8=> ?_⟩)⟩⟩;obtain⟨a5,y5,P',d6,e6,_⟩:=I 5 ae;have w:=f6.tt f8;refine⟨ae,bW.2 ⟨a5,P',aa.lX (x:=y5.s) (mj w id d6) (ET U (u2.tt (F.tt w)) (m2.on (F.tt w)) (e6.on w) ae λr qr ⟨e0,e1,wr⟩ h9 f9=>az.ex r.s ⟨_,rfl,az.fY (x:=r.s) λb3 x' f7 c6 r'=>aH.of λA' hJ=> ?_⟩)⟩⟩;obtain⟨a4,y4,O',d5,e5,_⟩:=I 4 ae;obtain⟨a6,y6,Q',d7,e7,_⟩:=I 6 ae;have m:=w.tt (f9.tt r');have c5:=(f9.tt r').get c4 id;have i':=u2.tt (F.tt m);have e':=m2.on (F.tt m);have h': ∀g l' (X:jq) (q:Int),ah.fR g l' X.s->Fr No x' g->IQ V (sX [at_ u 4,at_ u 6]) X q->A' (Sa l' 0) q g:=by
  intro g l' X q hs j ⟨d8,d9,wq⟩;have B:=m.tt j;obtain⟨D',w1,R',_,_,G'⟩:=I 1 ae;obtain⟨E',w2,S',_,_,H'⟩:=I 2 ae;obtain⟨F',w7,T',_,_,I'⟩:=I 7 ae;subst hJ;dsimp only;refine⟨ae,bW.2 ⟨D',R',_,G' B,ae,bW.2 ⟨E',S',_,H' B,az.fN (j.get c5 id) (az.fN (j.get c6 id) (ax.2 (ah.fN hs ⟨ae,bW.2 ⟨F',T',_,I' B,?_⟩⟩)))⟩⟩⟩;have n2:(at_ u 2).n<=2:=by
   have:0<=typeAt u 2:=by
    unfold qF at c;split at c
    .rename_i K;have key: ∀k,2<k->typeAt (t.l.take k) 2=typeAt t.l 2:=λk hk=>by
      unfold typeAt at_;rw[bk,bk,df,ag hk,bw];exact ite_congr (propext (by constructor<;>(rintro⟨A,p'⟩;exact⟨ae,p'⟩))) (λ_=>rfl) (λ_=>rfl)
     split at c
     .cases c;exact K.2.2
     .split at c
      .rename_i h2;split at c
       .cases c
       .split at c
        .cases c;rw[key _ h2.1];exact K.2.2
        .cases c
      .cases c
    .cases c
   unfold typeAt at this;split at this
   .rename_i K;exact K.2.1
   .omega
  refine aG.da λb4 g6 g0 c7 s'=>⟨s'.kp,?_⟩
  rw[bC (n:=(((at_ u 2).n:Nat):Int)) ae ae];refine aG.hU (x:=(w9 u d r X).s) c7 λa7 q' U' _=>aG.fN q' ?_
  have zg:=B.1;have m':Fr No h2 a7:=(F.tt (B.tt s')).fresh U' (λy e=>ae);refine OZ (w9 u d r X) ⟨wd,wr,wq⟩ U (u2.tt m') λg7 z qz e2 e3 V'=>aa.ex z.s ⟨_,rfl,aa.fY (x:=z.s) λb5 M g1 c8 t'=>aH.of λJ1 y'=> ?_⟩
  have n':=V'.tt t';have C:=m'.tt n';have bad: ∀g,Fr No M g->tX V t=.error 3->J1 true g:=λg j P=>by
   subst y';try dsimp only
   rw[ag rfl];exact no g 3 (C.tt j) P dN
  by_cases Q:qd=0
  case neg=>rw[ag (cI Q)];exact bad M (Fr.refl _ _) (by rw[b,d3 Q])
  rw[af (cI Q)];by_cases S:qr=0
  case neg=>rw[ag (cI S)];exact bad M (Fr.refl _ _) (by rw[b,e1 S];cases pn V (at_ u 3)<;>rfl)
  rw[af (cI S)];by_cases Z:q=0
  case neg=>rw[ag (cI Z)];exact bad M (Fr.refl _ _) (by rw[b,d9 Z];cases pn V (at_ u 3)<;>cases pn V (at_ u 5)<;>rfl)
  rw[af (cI Z)];rw[d2 Q,e0 S,d8 Z]at b;dsimp only at b;cases O:oB V (w9 u d r X)with
  |error e=>
   rw[O]at b;rw[ag (cI (e3 e O))];exact bad M (Fr.refl _ _) b
  |ok o'=>
   rw[O]at b;dsimp only at b;obtain⟨rfl,l⟩:=e2 o' O;rw[dB];have ra:=Bb O;refine aa.fN c8 (aa.fN (x:=x.s) (C.get c3 id) (ji (x:=z) (y:=x) (l.on t') (tx.on (n.tt C)) ae λa8 a'=>⟨_,rfl,?_⟩));cases hs:oV o' t with
   |false=>exact bad a8 a' (by rw[b,af (by rw[hs];decide)])
   |true=>
    rw[hs,ag rfl]at b;subst y';try dsimp only
    rw[dB];exact aG.fN ((n'.tt a').get q' id) (Ub (w9 u d r X) ((C.tt a').get k' id) λG j'=>k1 _ b ⟨wd,wr,wq⟩ G ((n.tt (C.tt a')).fresh j' (λy e=>ae)))
 have rI:dK [at_ u 4,at_ u 6]<=2*dK u:=by simp only[dK];omega
 have f':room (sX [at_ u 4,at_ u 6])<=900000:=by simp only[room,bG];omega
 refine⟨ae,bW.2 ⟨a4,O',aa.lX (x:=y4.s) (mj m id d5) ⟨ae,bW.2 ⟨a6,Q',aa.lX (x:=y6.s) (mj m id d7) ?_⟩⟩⟩⟩;have T2:CC x' [at_ u 4,at_ u 6] [y4,y6]:=two (e5.on m) (e7.on m);refine⟨px (ys:= [y4,y6]) rfl λb6 g8 g2 L6 f=>⟨?_,?_,trivial⟩,ah.da λC' i0 f3 c2 E=>⟨E.kp,px (ys:= [y4,y6]) rfl λe8 i1 f4 B' J=> ?_⟩,trivial⟩
 .refine kC (L6 (λ_=>True) trivial) (T2.on f) ae λg9 z l o=>aa.ex z.s ⟨rfl,?_,?_,trivial⟩
  .exact EU U (i'.tt (f.tt o)) (e'.on (f.tt o)) l.u f' λX q s h0 X'=>ah.ex X.s ⟨_,rfl,ah.fY (x:=X.s) λb7 a9 g3 c9 Z'=>h' a9 b7 X q c9 (f.tt (o.tt (X'.tt Z'))) s⟩
  .refine ah.da λb8 h1 g4 d0 b'=>EU U (i'.tt (f.tt (o.tt b'))) (e'.on (f.tt (o.tt b'))) (l.u.on b') f' λX q s h3 u'=>ah.ex X.s ⟨_,rfl,ah.hU (x:=X.s) (u'.get d0 id) λb0 J' a0 _=>h' b0 b8 X q J' ?_ s⟩
   exact(f.tt (o.tt (b'.tt u'))).fresh a0 (λy e=>gG f.1 o.1)
 .refine ah.da λb9 h4 g5 d1 D=>kC ((L6 (λ_=>True) trivial).frame D bX) (T2.on (f.tt D)) ae λh5 z l c'=>aa.ex z.s ⟨rfl,EU U (i'.tt (f.tt (D.tt c'))) (e'.on (f.tt (D.tt c'))) l.u f' λX q s h7 v'=>ah.ex X.s ⟨_,rfl,ah.hU (x:=X.s) ((c'.tt v').get d1 id) λc0 K' a1 _=>h' c0 b9 X q K' ?_ s⟩⟩
  exact(f.tt (D.tt (c'.tt v'))).fresh a1 (λy e=>bR f.1)
 .refine kC (B' (λ_=>True) trivial) (T2.on (E.tt J)) ae λi2 z l d'=>aa.ex z.s ⟨rfl,EU U (i'.tt (E.tt (J.tt d'))) (e'.on (E.tt (J.tt d'))) l.u f' λX q s i3 w'=>ah.ex X.s ⟨_,rfl,ah.hU (x:=X.s) ((J.tt (d'.tt w')).get c2 id) λc1 L' a2 _=>h' c1 C' X q L' ?_ s⟩⟩
  exact(E.tt (J.tt (d'.tt w'))).fresh a2 (λy e=>ae)

end Bn
end
section
variable {h:aj} {R:fD}
variable {a L:ck} {d D l c:Nat} {b:aA.S}
theorem Jk.walk(o:aa.NW h λb k=>Cl 144 #[.L a d D,.I 0] k λv m=>aa.EX λi=> ∃q j,v=.T #[i.agg,.I q,.I j]/\aa.NW m λB n=>aa.dw n (AA B 0) i λH=>aa.cN H (AA B 0) λt=>if(j==0)then Cl 289 #[.L a d D] H λV e=> ∃T,V=.B T/\Kp H e [(Sa B 0)]/\aa.dw e (AA b 0) t λf=>aa.cN f (AA b 0) λr=>R (.T #[r.agg,.B T]) f else aa.dw H (AA b 0) t λg=>aa.cN g (AA b 0) λp=>R (.T #[p.agg,.B false]) g):Cl 244 #[.L a d D] h R:=aP (lq (lq (sq (pK 9) lf))) Tryz.func244 o
theorem Be.walk(s:az.NW h λb n=>Cl 244 #[.L a d D] n λv o=>aa.EX λt=> ∃T,v=.T #[t.agg,.B T]/\aa.NW o λB p=>aa.dw p (AA B 0) t λf=>aa.cN f (AA B 0) λx=>Cl 210 #[x.agg] f λV q=>az.EX λj=> ∃k,V=.T #[j.agg,.I k]/\az.NW q λe r=>az.dw r (AA e 0) j λH=>az.cN H (AA e 0) λm=>if T then az.dw H (AA b 0) m λg=>az.cN g (AA b 0) λu=>R (.T #[u.agg,.B (k==0)]) g else az.dw H (AA b 0) m λi=>az.cN i (AA b 0) λw=>R (.T #[w.agg,.B false]) i):Cl 164 #[.L a d D] h R:=aP (lq (lq (lq ll))) Tryz.func164 s
theorem Ml.walk(o:Cl 244 #[.L a d D] h λv m=>aa.EX λj=> ∃k,v=.T #[j.agg,.B k]/\aa.NW m λb n=>aa.dw n (AA b 0) j λH=> ∃t,Cc H b 1 (.U t)/\if k then aa.cN H (AA b 0) λp=>Hu H b 1 λq=>Cl 109 #[.U q] H λV f=>aa.EX λT=>V=T.agg/\Kp H f [(Sa b 0),(Sa b 1)]/\Cl 212 #[p.agg,T.agg] f λr e=> ∃g,r=.B g/\Kp f e [(Sa b 1)]/\if g then∃i,Cc e b 1 (.U i)/\R (.T #[.U t,.B (decide (i<=1099511627776))]) e else R (.T #[.U t,.B false]) e else R (.T #[.U t,.B false]) H):Cl 165 #[.L a d D] h R:=aP (lq (lq (sq (pK 17) lf))) Tryz.func165 o
theorem Jl.walk(u:Cl 244 #[.L a d D] h λv r=>aa.EX λj=> ∃k,v=.T #[j.agg,.B k]/\aa.NW r λb s=>aa.dw s (AA b 0) j λe=>aH (λ(y:Bool) (H:aj)=>if y then R (.T #[.U 0,.U 0,.B false]) H else Hl H b 3 λC z _=>Bd 0 z/\aM C λA=>gK H ((A.add (toNat 0*4)).add 1) λt=>Hl H b 3 λF E _=>Bd 1 E/\aM F λq=>gK H ((q.add (toNat 1*4)).add 1) λT=>aa.cN H (AA b 0) λG=>bh H (.C #[.U t,.U T] 23) λB g=>Kp H g [(Sa b 0)]/\Cl 113 #[.L (Sa B 0) 2 2] g λV i=>aa.EX λo=>V=o.agg/\Kp g i [(Sa b 0)]/\Cl 212 #[G.agg,o.agg] i λI f=> ∃p,I=.B p/\if p then if(decide (t≥1))then if(decide (t<=255))then R (.T #[.U t,.U T,.B (decide (T<=t))]) f else R (.T #[.U t,.U T,.B false]) f else R (.T #[.U t,.U T,.B false]) f else R (.T #[.U t,.U T,.B false]) f) (λJ=>if(!k)then J true e else∃m,Cc e b 0 (.I m)/\if(m !=4)then J true e else∃x n w,Cc e b 3 (.L x n w)/\J (((n:Nat):Int) !=2) e)):Cl 166 #[.L a d D] h R:=aP (lq (lq (sq (sq (.join [(26,.one (.bool))] lf) (cq ll lf)) (sq (pK 12) (sq (pK 24) lf))))) Tryz.func166 u
theorem CG.walk(x:aa.NW h λb q=>Cl 168 #[.Z] q λv r=>aa.EX λo=>v=o.agg/\aa.NW r λB s=>aa.dw s (AA B 0) o λu=> ∃(I:Int->aj->Prop)(m:Int->aj->Nat),I 0 u/\∀(t:Int)(H:aj),I t H->if(decide (t<(l:Int)))then Bd t l/\aM L λA=>gK H (A.add (toNat t*1)) λz=>Hl H B 3 λF E C=>Cl 109 #[.U z] H λV e=>aa.EX λT=>V=T.agg/\Kp H e [(Sa B 3)]/\bh e (.C T.arr 167) λp g=>Kp e g [(Sa B 3)]/\aW Tryz.prog (Builtin.append_ #[165,165] 165 #[.L F E C,.L (Sa p 0) 1 1]) g λJ w=> ∃n k j,J=.L n k j/\aT w (AA B 3) (.L n k j) λi=>(I (wrap .i64 (t+1)) i/\m (wrap .i64 (t+1)) i<m t H)else aa.cN H (AA B 0) λG=>aa.dw H (AA b 0) G λf=>aa.cN f (AA b 0) λy=>R (y.agg) f):Cl 113 #[.L L l c] h R:=aP (lq (lq (sq (lq (bq (.loop [(9,.one (.int .i64))] (lq (sq (cq lf lf) (sq (bq (lq (pK 8))) lf)))))) ll))) Tryz.func113 x
theorem EZ.walk{k:Int} (r:aH (λ(O:Bool) (H:aj)=>if O then R (.B (decide ((d:Int)<=200))) H else R (.B false) H) (λJ=>aH (λ(s:Bool) (i:aj)=>J s i) (λj=>if(k==6)then Cl 164 #[.L a d D] h λv m=>az.EX λx=> ∃t,v=.T #[x.agg,.B t]/\j t m else aH (λ(u:Bool) (n:aj)=>j u n) (λe=>if(k==7)then Cl 165 #[.L a d D] h λV o=> ∃y T,V=.T #[.U y,.B T]/\e T o else aH (λ(w:Bool) (p:aj)=>e w p) (λf=>if(k==10)then Cl 166 #[.L a d D] h λB q=> ∃z A g,B=.T #[.U z,.U A,.B g]/\f g q else f true h))))):Cl 105 #[.U k,.L a d D] h R:=aP (lq (lq (sq (lq (.join [(5,.one (.bool))] (bq (lq (.join [(5,.one (.bool))] (cq lf (lq (.join [(5,.one (.bool))] (cq lf (lq (.join [(5,.one (.bool))] (cq lf lf)))))))))))) ll))) Tryz.func105 r
theorem E0.walk(e:Cl 162 #[.L L l c,.func (.func 163) #[] #[]] h λv H=> ∃t,v=.B t/\R (.B (!t)) H):Cl 104 #[.L L l c] h R:=aP (lq ll) Tryz.func104 e
theorem Bf.walk{n:Int}(H:if(decide (n<1))then R (.B true) h else R (.B (decide (n>255))) h):Cl 163 #[.U n] h R:=aP (lq ll) Tryz.func163 H
theorem Hm.walk(n:bh h (.C b.arr 127) λB e=>Hu e B 0 λs=>Hu e B 1 λu=>bh e (.C #[.U s,.U u] 23) λj k=>Cl 104 #[.L (Sa j 0) 2 2] k λv H=> ∃i,v=.B i/\if i then∃t,Cc H B 2 (.U t)/\if((wrap .u64 ((od t &&& ~~~ od 23).toNat:Int))==0)then∃T,Cc H B 3 (.I T)/\if(decide (T≥0))then∃f,Cc H B 3 (.I f)/\if(decide (f<=2))then Hu H B 0 λo=>Hl H B 4 λr q p=>Cl 105 #[.U o,.L r q p] H λV m=> ∃g,V=.B g/\R (.B g) m else R (.B false) H else R (.B false) H else R (.B false) H else R (.B false) H):Cl 74 #[b.agg] h R:=aP (lq ll) Tryz.func74 n
theorem Hn.walk(M:bh h (.C b.arr 127) λB E=>aa.NW E λe g=>aA.cN g (AA B 0) λQ=>Cl 74 #[Q.agg] g λv H=> ∃z,v=.B z/\if(!z)then aa.dw H (AA e 0) aa.S.z λi=>aa.cN i (AA e 0) λO=>R (.T #[O.agg,.I 3]) i else∃T,Cc H B 0 (.U T)/\∃k,Cc H B 1 (.U k)/\∃m,Cc H B 2 (.U m)/\∃n,Cc H B 3 (.I n)/\bh H (.C #[.U T,.U k,.U m,.U (wrap .u64 n)] 23) λA G=>Cl 113 #[.L (Sa A 0) 4 4] G λV j=>aa.EX λt=>V=t.agg/\∃q p o,Cc j B 4 (.L q p o)/\Cl 114 #[.L q p o] j λS I=>aa.EX λr=>S=r.agg/\bh I (.C r.arr 167) λC J=>aW Tryz.prog (Builtin.append_ #[165,165] 165 #[.L t.SK t.FN t.Qy,.L (Sa C 0) 1 1]) J λU K=> ∃w u s,U=.L w u s/\Cl 110 #[.L w u s,.I 3] K λX F=>aa.EX λx=> ∃y,X=.T #[x.agg,.I y]/\aa.dw F (AA e 0) x λf=>aa.cN f (AA e 0) λP=>R (.T #[P.agg,.I y]) f):Cl 78 #[b.agg] h R:=aP (lq (sq (lq (cq ll lf)) (lq ll))) Tryz.func78 M
theorem Jm.walk{x:aa.S} (hv:bh h (.C x.arr 167) λb l'=>aA.NW l' λB F=>aa.cN F (AA b 0) λu'=>Cl 209 #[u'.agg,.I 3] F λC' j=> ∃T t v' o,C'=.T #[.L T t v',.I o]/\if(o !=0)then aA.dw j (AA B 0) aA.S.z λG=>aA.cN G (AA B 0) λr0=>R (.T #[r0.agg,.I o]) G else aH (λ(w':Bool) (H:aj)=>if w' then aA.dw H (AA B 0) aA.S.z λI=>aA.cN I (AA B 0) λr'=>R (.T #[r'.agg,.I 3]) I else aH (λ(s:ck) (K:aj)=>aM s λi'=>aA.cN K i' λx'=>Cl 78 #[x'.agg] K λD' p'=>aa.EX λf'=> ∃g',D'=.T #[f'.agg,.I g']/\aa.NW p' λu q'=>aa.dw q' (AA u 0) f' λi=>aH (λ(A':Bool) (k:aj)=>if A' then aA.dw k (AA B 0) aA.S.z λy=>aA.cN y (AA B 0) λs'=>R (.T #[s'.agg,.I 3]) y else aM s λj'=>aA.cN k j' λB'=>aA.dw k (AA B 0) B' λz=>aA.cN z (AA B 0) λt'=>R (.T #[t'.agg,.I 0]) z) (λq=>if(g' !=0)then q true i else aa.cN i (AA u 0) λy'=>aa.cN i (AA b 0) λz'=>Cl 212 #[y'.agg,z'.agg] i λE' m'=> ∃h',E'=.B h'/\q (!h') m')) (λp=>Bd 0 t/\aM T λA=>gK H ((A.add (toNat 0*4)).add 1) λO=>Bd 1 t/\aM T λe=>gK H ((e.add (toNat 1*4)).add 1) λP=>Bd 2 t/\aM T λf=>gK H ((f.add (toNat 2*4)).add 1) λQ=>Bd 3 t/\aM T λg=>gK H ((g.add (toNat 3*4)).add 1) λS=>Bd 4 t/\aM T λr=>mJ H ((r.add (toNat 4*4)).add 2) λX V U=>(Cl 27 #[.L X V U] H λF' m=> ∃d' b' Z,F'=.L d' b' Z/\Kp H m [(some ((g.add (toNat 3*4)).add 1)),(some ((f.add (toNat 2*4)).add 1)),(some ((e.add (toNat 1*4)).add 1)),(some ((A.add (toNat 0*4)).add 1))]/\aA.NW m λv C=>Kp m C [(some ((g.add (toNat 3*4)).add 1)),(some ((f.add (toNat 2*4)).add 1)),(some ((e.add (toNat 1*4)).add 1)),(some ((A.add (toNat 0*4)).add 1))]/\aA.dw C (AA v 0) ⟨O,P,Q,(wrap .i64 S),d',b',Z⟩ λn'=>p (Sa v 0) n')/\(aA.NW H λw n=>Kp H n [(some ((r.add (toNat 4*4)).add 2)),(some ((g.add (toNat 3*4)).add 1)),(some ((f.add (toNat 2*4)).add 1)),(some ((e.add (toNat 1*4)).add 1)),(some ((A.add (toNat 0*4)).add 1))]/\Cl 27 #[.L X V U] n λG' E=> ∃e' c' a',G'=.L e' c' a'/\Kp n E [(some ((g.add (toNat 3*4)).add 1)),(some ((f.add (toNat 2*4)).add 1)),(some ((e.add (toNat 1*4)).add 1)),(some ((A.add (toNat 0*4)).add 1))]/\aA.dw E (AA w 0) ⟨O,P,Q,(wrap .i64 S),e',c',a'⟩ λo'=>p (Sa w 0) o')/\True)) (λJ=>if(((t:Nat):Int) !=5)then J true j else Bd 4 t/\aM T λk'=> ∃M,aY j (k'.add (toNat 4*4))=some (.I M)/\J (M !=2) j)):Cl 146 #[x.agg] h R:=aP (lq (lq (sq (bq (lq (cq ll (sq (.join [(19,.one (.bool))] lf) (cq ll lf))))) (sq (.join [(6,.one (.ptr))] (.kz (ga 21 0 (.alts (.fork 21 (ga 3 22 .done) (.fork 23 (.op 21 (.op 22 (.op 24 .done))) .gM)))))) (sq (lq (sq (.join [(66,.one (.bool))] lf) (cq ll lf))) ll))))) Tryz.func146 hv

end
section
namespace Bn
open Cb
open jA (Ev dc lL)
variable {V:cM→Bool} {h a H:aj} {R:fD} {D:Nat→Prop}
variable {p:ck} {l c n i:Nat} {B:cM} {t:Tr} {u:List Tr}
theorem uM(B:cM):room (eY V B)<=10*B.length+9:=by
 unfold eY;split
 .rename_i h;have:=(rO h).1;omega
 .simp[Dz,room,dK]
theorem Bh(U:lO V a)(G:Fr No a h)(C:Row h p (bc B))(A:l=B.length)(cap:B.length<=c)(X:B.length<=80000)(m: ∀H z,EO H (eY V B) z->Fr No h H->R (.T #[z.s.agg,.B (ks V B)]) H):Cl 244 #[.L p l c] h R:=by
 refine Jk.walk (aa.da λb Q P s g=>vO (U.mono (G.tt g)) (C.frame g bX) A cap ae (λL t x nx O T d=>aa.ex x.s ⟨_,_,rfl,aa.fY (x:=x.s) λI M J v f=>aa.fN v ?_⟩) (λL e w d=>aa.ex zv.s ⟨_,_,rfl,aa.fY (x:=zv.s) λI M J v f=>aa.fN v ?_⟩))
 .have F:=g.tt (d.tt f);have E:eY V B=t:=by unfold eY;rw[O]
  rw[E]at m;rw[gk];refine GX (U.mono (G.tt F)) (C.frame F bX) A cap ae λS j=>⟨_,rfl,j.kp,aa.hU (x:=x.s) ((d.tt (f.tt j)).get s id) λr o k _=>aa.fN o (m r x ?_ ((F.tt j).fresh k (λy e=>ae)))⟩
  have zb:=aC s;exact((T.on f).on j).frame k (λy Z e=>ae)|>.u
 .have F:=g.tt (d.tt f);have E:eY V B=Dz:=by unfold eY;rw[w]
  have K:ks V B=false:=by unfold ks;rw[w]
  rw[E,K]at m;rw[af (λq=>nk w (eq_of_beq q))];exact aa.hU (x:=zv.s) ((d.tt f).get s id) λr o k _=>aa.fN o (m r zv (nK (n:=0)) (F.fresh k (λy e=>ae)))
theorem Ho(U:lO V a)(s:Fr No a h)(M:lM.Mx h)(K:Row h p (bc B))(G:l=B.length)(cap:B.length<=c)(I:B.length<=80000)(g: ∀H (e:Ev),Fr No h H->R (.T #[e.s.agg,.B (ks V B && (pn V (eY V B)).isSome)]) H):Cl 164 #[.L p l c] h R:=by
 have ri:=uM (V:=V) B;refine Be.walk (az.da λb Z P o f=>Bh U (s.tt f) (K.frame f bX) G cap I λh2 z T j=>aa.ex z.s ⟨_,rfl,aa.fY (x:=z.s) λL h4 S x d=>aa.fN x (ET U (s.tt (f.tt (j.tt d))) (M.on (f.tt (j.tt d))) (T.on d) ae λe q ⟨Q,J,_⟩ h5 v=>az.ex e.s ⟨_,rfl,az.fY (x:=e.s) λO h7 X A w=>az.fN A ?_⟩)⟩);have F:=j.tt (d.tt (v.tt w));cases r:ks V B with
 |false=>
  rw[r]at g;rw[dB];exact Jj (x:=e) (F.get o id) λm k=>g m e ((f.tt F).fresh k (λy e=>ae))
 |true=>
  rw[r]at g;rw[ag rfl];refine Jj (x:=e) (F.get o id) λm k=> ?_
  have:=g m e ((f.tt F).fresh k (λy e=>ae));have E:(true && (pn V (eY V B)).isSome)=(q==0):=by
   by_cases C:q=0
   .rw[Q C,C];rfl
   .rw[J C,dA.2 C];rfl
  rw[E]at this;exact this
theorem E7(U:lO V a)(y:Fr No a h)(x:Row h p (bc B))(v:l=B.length)(cap:B.length<=c)(w:B.length<=80000)(d: iq h R (.T #[.U ((eY V B).n:Int),.B (QU V B)])):Cl 165 #[.L p l c] h R:=by
 have G:=uM (V:=V) B;refine Ml.walk (Bh U y x v cap w λC z T k=>aa.ex z.s ⟨_,rfl,aa.fY (x:=z.s) λA r E e F=> ?_⟩);unfold QU at d;obtain⟨_,Z,_⟩:=gX.kn T;rw[<-Z]at d;refine⟨_,ak e,?_⟩;cases q:ks V B with
 |false=>
  rw[q]at d;rw[dB];exact d r (k.tt F)
 |true=>
  rw[q]at d;rw[ag rfl];refine aa.fN e ⟨_,ak e,fM λs f=>aa.ex (nv z.n).s ⟨rfl,f.kp,ji (x:=z) (y:=nv z.n) (s:=num z.n) ((T.on F).on f) (nK (h:=s) (n:=z.n)) ae λm g=>⟨_,rfl,g.kp,?_⟩⟩⟩;have j:=k.tt (F.tt (f.tt g));cases o:oV (eY V B) (num z.n)with
  |false=>
   rw[o]at d;rw[dB];exact d m j
  |true=>
   rw[o]at d;rw[ag rfl];refine⟨_,ak ((f.tt g).get e id),?_⟩;rw[show decide ((z.n:Int)<=1099511627776)=decide (z.n<=1099511627776)from lG z.n 1099511627776];exact d m j
abbrev nu(l:List Nat):List Value:=l.map λ(n:Nat)=> .int .u64 (n:Int)
theorem Hr{l:List Nat}(M:Row h p (nu l))(hn:n=l.length)(hl:l.length<=100000)(hk: ∀H z,tY H (λy=>h.size<=y) (GJ l) z->Fr No h H->R z.s.agg H):Cl 113 #[.L p n c] h R:=by
 subst hn;refine CG.walk (aa.da λb f eb J m=>kC (ts:= []) (ys:= []) (D:=λ_=>True) ⟨rfl,.inl rfl,λe=>absurd rfl e,bm _⟩ .nil (by simp[dK]) λh2 z T o=>aa.ex z.s ⟨rfl,aa.fY (x:=z.s) λk h4 e' K F=> ?_⟩);have zb:=aC J;have z1:=m.1;have z2:=o.1;have z4:=F.1;have g':=aC K;have F4:=m.tt (o.tt F);have c':tY h4 (λy=>f.size<=y/\y≠k) (sX []) z:=by
  obtain⟨⟨S,U,X,a4⟩,Z,a5,v,a7,a8⟩:=T;refine⟨⟨S,U,X,((GN a4).mono λy d=>ae).frame F bX⟩,Z,a5,v.frame F bX,λy d=>⟨a7 y d,bR (v.dC d)⟩,(dD.mono (λy d=>by have f:=d.1.1;have h2:=d.2;exact⟨⟨f,ae⟩,d.1.2⟩) a8.lt).on F⟩
 obtain⟨Z,ez,s⟩:=OU (g0:=f) c' K ((o.tt F).mono λ_ _=>False.elim);have w:z.k=4:=T.1.1;have x:z.n=0:=T.1.2.1;have E:z.v.b= []:=T.1.2.2.1;refine⟨λt g=> ∃(i:Nat)(j:List CV)(q:ck)(C:Nat),t=(i:Int)/\i<=l.length/\j.length=i/\Lc f g k z.k z.n z.v ((l.take i).map num) j q C,λt _=>l.length - t.toNat,⟨0,Z,z.q,z.cl,rfl,bL _,?_,by rw[eZ];exact s⟩,?_⟩
 .have:=s.tr.len;exact this.symm
 rintro _ g ⟨i,j,q,C,rfl,hi,d,L⟩;by_cases r:i<l.length
 case neg=>
  rw[af (λe=>r (bR (aS e)))];rw[bn ae]at L;have b':z.v.ok g (λy=>f.size<=y/\y≠k):=⟨by rw[E];exact Row.nil,λe=>absurd E e,T.1.2.2.2.cap⟩;have O:=OV (k':=z.n) L b';rw[w,x,E]at O;refine aa.fN (x:=CV.s ⟨z.k,z.n,z.v,q,j.length,C⟩) L.cW (fin (z:=⟨z.k,z.n,z.v,q,j.length,C⟩) (t:=GJ l) (D:=λy=>f.size<=y/\y≠k) (L.fr.get J ae) (by rw[w,x];exact O) (λy d e=>ae) λI tg fg=>hk I _ (tg.mono λy d=>ae) ((m.fresh L.fr (λy e=>ae)).fresh fg (λy e=>ae)))
 rw[gk];have P:Fr No h g:=m.fresh L.fr (λy e=>ae);obtain⟨A,rfl⟩:=M.some (by intro e;have:=bQ List.length e;rw[ay,bG]at this;omega);have hc:aY g (A.add (i*1))=some (.U ((l[i]:Nat):Int)):=by
  have:=(M.frame P bX).cell (j:=i) (v:=.U ((l[i]:Nat):Int)) (by rw[aD,ai r];rfl);rw[cp];exact this
 refine⟨ae,bW.2 ⟨A,rfl,_,hc,_,_,_,ak L.cW,fM λh6 G=>aa.ex (nv l[i]).s ⟨rfl,G.kp,?_⟩⟩⟩;refine OW (L.on G) ae (SP (n:=l[i])).TH λI d' q' a' Q f' _ _=> ?_
 rw[bC (n:=(i:Int)+1) ae ae];refine⟨⟨i+1,d',q',a',ae,ae,ae,?_⟩,by show l.length - Int.toNat ((i:Int)+1)<l.length - Int.toNat (i:Int);omega⟩;rw[bt,ai r,aV];exact Q
theorem Jn{l:List Nat}{n:Nat}{K:Nat->aj->Prop}{c:Array Value}(d:c=(nu l).toArray)(e: ∀b H,Row H (Sa b 0) (nu l)->Fr No h H->K b H):bh h (.C c 23) K:=by
 refine cK (e _ _ (by rw[d];exact iT) (Fr.push _ _))
theorem Q5(U:lO V a)(g':Fr No a h)(d':Row h p (bc B))(hl:l=B.length)(cap:B.length<=c)(c':B.length<=80000)(g: ∀H (A b:Nat),Fr No h H->R (.T #[.U (A:Int),.U (b:Int),.B (Oy V B)]) H):Cl 166 #[.L p l c] h R:=by
 have ri:=uM (V:=V) B;have rl:=lF (t:=eY V B);refine Jl.walk (Bh U g' d' hl cap c' λh2 z I P=>aa.ex z.s ⟨_,rfl,aa.fY (x:=z.s) λb1 f h' d F=>aH.of λJ x=> ?_⟩);have q:=P.tt F;unfold Oy at g;have j: ¬(ks V B=true/\(eY V B).k=4/\(eY V B).l.length=2)->J true f:=λhn=>by
  subst x;dsimp only;rw[ag rfl];have:=g f 0 0 q;rw[show(ks V B && decide ((eY V B).k=4/\(eY V B).l.length=2) && oV (eY V B) (GJ [oP (eY V B),AP (eY V B)]) && decide (1<=oP (eY V B)/\oP (eY V B)<=255/\AP (eY V B)<=oP (eY V B)))=false by
   by_cases A:ks V B=true
   .rw[aB (λe=>hn ⟨A,e⟩)];simp
   .simp[A]]at this
  exact this
 obtain⟨zk,zn,zb,zl,i',ys,L,T⟩:=gX.kn (I.on F);cases E:ks V B with
 |false=>rw[gk];exact j (λe=>by rw[E]at e;cases e.1)
 |true=>
 rw[dB];refine⟨_,ak d,?_⟩;rw[show z.s.f0=(eY V B).k from zk];by_cases k:(eY V B).k=4
 case neg=>rw[ag (cI k)];exact j (λe=>k e.2.1)
 rw[af (cI k)];refine⟨_,_,_,ak d,?_⟩;have sl:z.s.FN=(eY V B).l.length:=zl;rw[sl];by_cases G:(eY V B).l.length=2
 case neg=>rw[show((((eY V B).l.length:Nat):Int) !=2)=true by simp only[dv,ff];omega];exact j (λe=>G e.2.2)
 rw[show((((eY V B).l.length:Nat):Int) !=2)=false by simp only[gA];omega];clear j;rw[E,aw ⟨k,G⟩]at g;subst x;dsimp only;rw[dB];obtain⟨r,y0,M,a',e',_⟩:=elem L T (i:=0) ae;obtain⟨s,y1,O,b',f',_⟩:=elem L T (i:=1) ae;have n0:=(gX.kn e').2.1;have n1:=(gX.kn f').2.1;have X:aY f ((r.add (0*4)).add 1)=some (.U ((oP (eY V B):Nat):Int)):=by have:=a'.2.1;unfold oP;rw[<-n0];exact this
 have Z:aY f ((s.add (1*4)).add 1)=some (.U ((AP (eY V B):Nat):Int)):=by have:=b'.2.1;unfold AP;rw[<-n1];exact this
 refine⟨_,_,_,ak d,ae,bW.2 ⟨r,M,_,X,_,_,_,ak d,ae,bW.2 ⟨s,O,_,Z,aa.fN d ?_⟩⟩⟩;refine Jn (l:= [oP (eY V B),AP (eY V B)]) (n:=2) rfl λb2 h5 r5 m=>⟨m.kp,Hr r5 rfl (by show 2<=_;omega) λh6 w tw o=>aa.ex w.s ⟨rfl,o.kp,ji (x:=z) (y:=w) ((I.on F).on (m.tt o)) tw.u ae λS Q=>⟨_,rfl,?_⟩⟩⟩
 have K:=q.tt (m.tt (o.tt Q));have fin:=g S (oP (eY V B)) (AP (eY V B)) K;cases y:oV (eY V B) (GJ [oP (eY V B),AP (eY V B)])with
 |false=>rw[y]at fin;rw[dB];exact fin
 |true=>
 rw[y]at fin;rw[ag rfl];change if(decide (((oP (eY V B):Nat):Int)≥1))=true then(if(decide (((oP (eY V B):Nat):Int)<=255))=true then _ else _)else _
 by_cases C:1<=oP (eY V B)
 case neg=>rw[aB (λe=>C e.1)]at fin;rw[dB];exact fin
 rw[gk];by_cases v:oP (eY V B)<=255
 case neg=>rw[aB (λe=>v e.2.1)]at fin;rw[dB];exact fin
 rw[gk];have:decide (1<=oP (eY V B)/\oP (eY V B)<=255/\AP (eY V B)<=oP (eY V B))=decide (((AP (eY V B):Nat):Int)<=((oP (eY V B):Nat):Int)):=by
  rw[lG];exact decide_eq_decide.2 ⟨λe=>e.2.2,λe=>⟨C,v,e⟩⟩
 rw[this]at fin;exact fin
theorem Mn{T:Nat}(U:lO V a)(o:Fr No a h)(M:lM.Mx h)(r:Row h p (bc B))(z:l=B.length)(cap:B.length<=c)(m:B.length<=80000)(x: iq h R (.B (AQ V T B))):Cl 105 #[.U (T:Int),.L p l c] h R:=by
 subst z;refine EZ.walk (aH.of λJ y=>aH.of λA j=> ?_);unfold AQ at x;have fin: ∀q g,Fr No h g->(AQ V T B=(q && decide (B.length<=200)))->J q g:=λq g F e=>by
  subst y;have:=x g F;unfold AQ at e;rw[e]at this;rw[show decide ((B.length:Int)<=200)=decide (B.length<=200)from lG B.length 200];cases q with
  |false=>exact this
  |true=>exact this
 by_cases s:T=6
 .subst s;rw[gk];refine Ho U o M r rfl cap m λd e f=>az.ex e.s ⟨_,rfl,?_⟩
  subst j;exact fin _ d f rfl
 rw[af (by simp only[db];omega)];refine aH.of λE k=> ?_
 by_cases v:T=7
 .subst v;rw[gk];refine E7 U o r rfl cap m λd f=>⟨_,_,rfl,?_⟩
  subst k j;exact fin _ d f rfl
 rw[af (by simp only[db];omega)];refine aH.of λG w=> ?_
 by_cases C:T=10
 .subst C;rw[gk];refine Q5 U o r rfl cap m λd I b f=>⟨_,_,_,rfl,?_⟩
  subst w k j;exact fin _ d f rfl
 rw[af (by simp only[db];omega)];subst w k j;exact fin true h (Fr.refl _ _) (by unfold AQ;rw[af s,af v,af C])
theorem xi{p:ck}{n c:Nat}{l:List Nat}(r:Row h p (nu l))(s:n=l.length)(x:l.length<=100000)(f:R (.B (l.all mL)) h):Cl 104 #[.L p n c] h R:=by
 subst s;refine E0.walk (kF.within.walk (lH.within.walk ?_));refine⟨λt g=> ∃i:Nat,t=(i:Int)/\i<=l.length/\g=h/\(l.take i).all mL=true,λt _=>l.length - t.toNat,⟨0,rfl,bL _,rfl,by rw[eZ];rfl⟩,?_⟩;rintro _ g ⟨i,rfl,w,rfl,j⟩;by_cases d:i<l.length
 .rw[gk];obtain⟨A,rfl⟩:=r.some (by intro e;have:=bQ List.length e;rw[ay,bG]at this;omega);have o:aY g (A.add (i*1))=some (.U ((l[i]:Nat):Int)):=by
   have:=r.cell (j:=i) (v:=.U ((l[i]:Nat):Int)) (by rw[aD,ai d];rfl);rw[cp];exact this
  have key: ∀q,q=(!mL l[i])->(if q=true then∃m,Value.I (i:Int)=.I m/\∃T,Value.bool (decide (m≥0))=.B T/\R (.B (!T)) g else((∃k:Nat,IntKind.wrap .i64 ((i:Int)+1)=(k:Int)/\k<=l.length/\g=g/\(l.take k).all mL=true)/\l.length - (IntKind.wrap .i64 ((i:Int)+1)).toNat<l.length - (i:Int).toNat)):=by
   rintro q rfl;cases e:mL l[i]with
   |false=>
    rw[gk];refine⟨_,rfl,_,rfl,?_⟩;rw[aw ae];have:l.all mL=false:=List.all_eq_false.2 ⟨l[i],dI d,by rw[e];decide⟩;rw[this]at f;exact f
   |true=>
    rw[dB,bC (n:=(i:Int)+1) ae ae];refine⟨⟨i+1,ae,ae,rfl,?_⟩,ae⟩;rw[bt,ai d,List.all_append,j];simp[e]
  refine⟨ae,bW.2 ⟨A,rfl,_,o,Bf.walk ?_⟩⟩;have E:mL l[i]=(decide (1<=l[i]) && decide (l[i]<=255)):=by unfold mL;by_cases A:1<=l[i]<;>by_cases b:l[i]<=255<;>simp[A,b]
  by_cases v:l[i]<1
  .rw[gk];refine⟨_,rfl,key true ?_⟩;rw[E,aB (show¬1<=l[i] by omega)];rfl
  .rw[dB];refine⟨_,rfl,key _ ?_⟩;rw[E,aw (show 1<=l[i] by omega)];by_cases C:l[i]<=255
   .rw[aw C,aB (show¬((l[i]:Nat):Int)>255 by omega)];rfl
   .rw[aB C,aw (show((l[i]:Nat):Int)>255 by omega)];rfl
 .rw[af (λe=>d (bR (aS e)))];rw[bn ae]at j;rw[j]at f;exact⟨_,rfl,_,rfl,f⟩
abbrev mT.s(b:mT)(p:ck)(c:Nat):aA.S:=⟨b.ty,b.nr,b.fl,b.sum,p,b.data.length,c⟩
variable {b:mT}
theorem xj(b:mT)(U:lO V a)(I:Fr No a h)(M:lM.Mx h)(G:Row h p (bc b.data))(cap:b.data.length<=c)(z:b.data.length<=80000)(s: iq h R (.B (jQ V b))):Cl 74 #[(b.s p c).agg] h R:=by
 refine Hm.walk (aA.da λK O L o v=>⟨_,ak o,_,ak o,Jn (l:= [b.ty,b.nr]) (n:=2) rfl λJ k A r=>xi A rfl (by show 2<=_;omega) ⟨_,rfl,?_⟩⟩);have F:=v.tt r;have d:=r.get o id;have m: ∀g,Fr No h g->jQ V b=false->R (.B false) g:=λg x e=>by have:=s g x;rw[e]at this;exact this
 have E: [b.ty,b.nr].all mL=(mL b.ty && mL b.nr):=bV
 rw[E];cases q:(mL b.ty && mL b.nr)with
 |false=>rw[dB];exact m k F (by unfold jQ;rw[q];rfl)
 |true=>
 rw[ag rfl];refine⟨_,ak d,?_⟩;change if TG (b.fl:Int) 23=true then _ else _
 by_cases C:TG (b.fl:Int) 23=true
 case neg=>rw[af C];exact m k F (by unfold jQ;simp[C])
 rw[ag C];refine⟨_,ak d,?_⟩;by_cases f:0<=b.sum
 case neg=>rw[af (by simp only[aX];exact f)];exact m k F (by unfold jQ;simp[f])
 rw[ag (aw f)];refine⟨_,ak d,?_⟩;by_cases j:b.sum<=2
 case neg=>rw[af (by simp only[aX];exact j)];exact m k F (by unfold jQ;simp[j])
 rw[ag (aw j)];refine⟨_,ak d,_,_,_,ak d,Mn U (I.tt F) (M.on F) (G.frame F bX) rfl cap z λy w=>⟨_,rfl,?_⟩⟩;have:=s y (F.tt w);unfold jQ at this;rw[q,C,aw f,aw j]at this;exact this
theorem Jo(d:qF V t i=.ok u):0<=typeAt u i:=by
 unfold qF at d;split at d
 .rename_i e;have key: ∀k,i<k->typeAt (t.l.take k) i=typeAt t.l i:=λk g=>by
   unfold typeAt at_;rw[bk,bk,df,ag g,bw];exact ite_congr (propext (by constructor<;>(rintro⟨A,b⟩;exact⟨ae,b⟩))) (λ_=>rfl) (λ_=>rfl)
  split at d
  .cases d;exact e.2.2
  .split at d
   .rename_i f;split at d
    .cases d
    .split at d
     .cases d;rw[key _ f.1];exact e.2.2
     .cases d
   .cases d
 .cases d
theorem Mo(e:qF V t i=.ok u):(at_ u i).n<=2:=by
 have:=Jo e;unfold typeAt at this;split at this
 .rename_i d;exact d.2.1
 .omega
theorem xm(h:jQ V b=true):0<=b.sum/\b.sum<=2/\b.data.length<=200/\1<=b.ty/\b.ty<=255/\1<=b.nr/\b.nr<=255:=by
 unfold jQ at h;simp only[aU,aX]at h;obtain⟨⟨⟨⟨⟨A,e⟩,_⟩,f⟩,c⟩,d⟩:=h;unfold mL at A e;unfold AQ at d;simp only[aU,aX]at A e d;exact⟨f,c,d.2,A.1,A.2,e.1,e.2⟩
theorem DK(h:jQ V b=true):dK (LQ b)<=300:=by
 obtain⟨_,_,d,_⟩:=xm h;simp only[LQ,dK,room,bG];omega
theorem DL(h:sZ V b=.ok t):room t<=400:=by
 unfold sZ at h;split at h
 .rename_i d;have:=Ba h;have:=DK d;omega
 .cases h
theorem Ht{e:Int}(h:sZ V b=.error e):e≠0:=by
 unfold sZ at h;split at h
 .exact DJ h
 .cases h;decide
theorem KN(b : mT){p : Option Addr}{c : Nat}(U : lO V a)(b' : Fr No a h)(mx : lM.Mx h)(a' : Row h p (bc b.data))(cap : b.data.length ≤ c)(g' : b.data.length ≤ 80000)(M : ∀ H z q, (∀ t, sZ V b = .ok t → q = 0 ∧ tY H (λy => h.size ≤ y) t z) → (∀ e, sZ V b = .error e → q = e) → Fr No h H → R (.tuple #[z.s.agg, .int .i64 q]) H): Cl 78 #[(b.s p c).agg] h R := by
  refine Hn.walk (aA.da λbb h1 eb hb j => aa.da λb1 h2 i' e' g => aA.fN (g.get hb id) (xj b U (b'.tt (j.tt g)) (mx.on (j.tt g)) (a'.frame (j.tt g) (λ_ _ => id)) cap g' λh3 w => ⟨_, rfl, ?_⟩))
  have o := (g.tt w).get hb id
  have G := w.get e' id
  have F := j.tt (g.tt w)
  have z3 := F.1
  have z1 := j.1
  have k' := w.1
  have l' := aC G
  cases r : jQ V b with
  | false => exact EP G λh4 f4 => M h4 zv 3 (λt e => by unfold sZ at e; rw [r, if_neg (by decide)] at e; cases e) (λt e => by unfold sZ at e; rw [r, if_neg (by decide)] at e; cases e; rfl) (F.fresh f4 (λy e => by omega))
  | true =>
  rw [if_neg (by decide)]
  obtain ⟨s0, s2, d2, _⟩ := xm r
  have rm := DK r
  have s : sZ V b = oA V (LQ b) 3 := by unfold sZ; rw [r, if_pos rfl]
  obtain ⟨S, hs⟩ := Int.eq_ofNat_of_zero_le s0
  have es : b.sum.toNat = S := by omega
  refine ⟨_, cB o rfl, _, cB o rfl, _, cB o rfl, _, cB o rfl, ?_⟩
  rw [show (b.s p c).f3 = ((S : Nat) : Int) from hs, wrap_u64 (n := (S : Int)) (by omega) (by omega)]
  refine Jn (l := [b.ty, b.nr, b.fl, S]) (n := 4) rfl λb3 h5 r5 x => Hr r5 rfl (by show 4 ≤ _; omega) λh6 z T A => aa.ex z.s ⟨rfl, _, _, _, cB ((x.tt A).get o id) rfl, iM (a'.frame (F.tt (x.tt A)) (λ_ _ => id)) rfl (by omega) λh7 v ev ov C => aa.ex (CV.s ⟨2, 0, v, none, 0, 0⟩) ⟨rfl, aa.da (x := CV.s ⟨2, 0, v, none, 0, 0⟩) λb4 h8 j' f' m => ?_⟩⟩
  have F8 := x.tt (A.tt (C.tt m))
  obtain ⟨_, Z, a5, Q, a7, X⟩ := T
  have zl : Z.length = 4 := by have := X.len; exact this.symm
  have sl : z.s.FN = Z.length := a5
  rw [sl]
  have z6 := A.1
  have z7 := C.1
  have z8 := m.1
  have qs : ∀ y, aN z.q y → y < h6.size := λy d => Q.dC d
  refine dH tI uI (Q.frame (C.tt m) (λ_ _ => id)) (ds := iR ⟨2, 0, v, none, 0, 0⟩) (.inr ⟨_, rfl, aa.AX (x := CV.s ⟨2, 0, v, none, 0, 0⟩) f'⟩) rfl (ps _) (by omega) (by omega) λq' c' L P _ J g9 => ⟨_, _, _, rfl, ?_⟩
  have ef : Z.flatMap iR ++ iR ⟨2, 0, v, none, 0, 0⟩ = (Z ++ [(⟨2, 0, v, none, 0, 0⟩ : CV)]).flatMap iR := by rw [List.flatMap_append, List.flatMap_singleton]
  rw [ef] at P
  have f : Fr No h3 L := F8.fresh J (λy d => by have := a7 y d; have := x.1; omega)
  have L9 : mF L (λ_ => True) q' (Z.length + 1) c' (Z ++ [⟨2, 0, v, none, 0, 0⟩]) := ⟨by simp, P.iy, λ_ _ _ => trivial, P.le⟩
  have T9 : CC L (LQ b) (Z ++ [⟨2, 0, v, none, 0, 0⟩]) := by
    have t1 := dD.frame J (λy d O => d.2 O) (dD.on (dD.on X C) m)
    have t2 : gX h7 (λy => h6.size ≤ y) (qP v.b) ⟨2, 0, v, none, 0, 0⟩ := DD ov
    have t3 := (t2.on m).frame J (λy d O => by have := qs y O; omega)
    have := dD.snoc t1.u t3.u
    rw [ev] at this
    unfold LQ
    rw [es]
    exact this
  refine KM (i := 3) U (b'.tt (F.tt f)) L9 T9 (by omega) (by omega) (λt ht d' z T k => aa.ex z.s ⟨_, rfl, ?_⟩) (λe he d' k => aa.ex zv.s ⟨_, rfl, ?_⟩)
  · have z9 := f.1
    exact fin ((f.tt k).get G id) T (λy d e => by omega) λK h' I => M K z 0 (λt' e => by rw [s, ht] at e; cases e; exact ⟨rfl, h'.mono λy d => by omega⟩) (λE e => by rw [s, ht] at e; cases e) ((F.tt (f.tt k)).fresh I (λy e => by omega))
  · exact EP ((f.tt k).get G id) λK I => M K zv e (λt' E => by rw [s, he] at E; cases E) (λE e2 => by rw [s, he] at e2; cases e2; rfl) ((F.tt (f.tt k)).fresh I (λy e => by omega))
theorem R7{b:Nat}{y x:aA.S}{K:aA.S->aj->Prop}(e:aA.fR h b y)(j: ∀H,Fr (λy=>y=b) h H->K x H):
  aA.dw h (AA b 0) x λg=>aA.cN g (AA b 0) λr=>K r g:=
 aA.hU (x:=x) e λg d f _=>aA.fN d (j g f)
theorem Q6{x:CV}(U:lO V a)(p':Fr No a h)(mx:lM.Mx h)(tx:EO h t x)(hr:room t<=50000)(k1: ∀b,AR V t=.ok b->∀H p c,BV.ok H (λy=>h.size<=y) ⟨p,c,b.data⟩->Fr No h H->R (.T #[(b.s p c).agg,.I 0]) H)(k2: ∀e,AR V t=.error e->e≠0->iq h R (.T #[aA.S.z.agg,.I e])):Cl 146 #[x.agg] h R:=by
 have rl:=lF (t:=t);refine Jm.walk (x:=x.s) (aa.da λb h1 eb hb f1=>aA.da λb1 h2 L' c' S=>aa.fN (S.get hb id) ?_);have F:=f1.tt S;have E':=S.get hb id;have zb:=aC hb;have b2:=aC c';have z1:=f1.1;have z2:=S.1;have no: ∀g e,Fr No h2 g->AR V t=.error e->e≠0->aA.dw g (AA b1 0) .z λG=>aA.cN G (AA b1 0) λJ'=>R (.T #[J'.agg,.I e]) G:=λg e v o z=>
  R7 (v.get c' id) λG f=>k2 e o z G ((F.tt v).fresh f (λy e=>ae))
 have d:AR V t=AR V t:=rfl;conv at d=>rhs;unfold AR
 refine zR (i:=3) U (p'.tt F) (tx.on F) ae ae (λu hu ru k p zs c L TS r=>⟨_,_,_,_,rfl,?_⟩) (λe o z k r=>⟨_,_,_,_,rfl,?_⟩)
 case refine_2=>
  rw[ag (cI z)];exact no k e r (by rw[d,o]) z
 rw[dB];rw[hu]at d;dsimp only at d;have n2:=Mo hu;have ln:=TS.len;have l9:=ir u;refine aH.of λq' hJ=> ?_
 have bad: ¬(u.length=5/\(at_ u 4).k=2)->q' true k:=λz=>by
  subst hJ;dsimp only;rw[ag rfl];exact no k 3 r (by rw[d,af z]) dN
 by_cases l5:u.length=5
 case neg=>rw[ag (by simp only[dv,ff];omega)];exact bad (λe=>l5 e.1)
 rw[af (by simp only[dv,ff];omega)];have z3:=r.1;have K: ∀i,i<5->∃(E:Addr)(y:CV),p=some E/\dP (E.add (i*4)) y.s.l 0 k/\EO k (at_ u i) y/\aY k ((E.add (i*4)).add 1)=some (.U ((at_ u i).n:Int)):=λi hi=>by
  obtain⟨E,y,ea,hh,ty,_⟩:=elem L TS (i:=i) ae;obtain⟨_,yn,_⟩:=gX.kn ty;exact⟨E,y,ea,hh,ty.u,by have:=hh.2.1;rw[<-yn];exact this⟩
 obtain⟨a0,y0,t',S',a5,c0⟩:=K 0 ae;obtain⟨a1,y1,u',T',a6,c1⟩:=K 1 ae;obtain⟨a2,y2,v',U',a7,c2⟩:=K 2 ae;obtain⟨a3,y3,w',V',a8,c3⟩:=K 3 ae;obtain⟨a4,s,g',n',K',c4⟩:=K 4 ae;obtain⟨yk,yn,yb,yl,yv,_⟩:=gX.kn K';have r4:=jj (ts:=u) (i:=4) ae;have X':=lF (t:=at_ u 4);refine⟨ae,bW.2 ⟨a4,g',_,n'.1,?_⟩⟩;by_cases T:(at_ u 4).k=2
 case neg=>rw[show(s.s.f0 !=2)=true by have:s.s.f0=(at_ u 4).k:=yk;rw[this];simpa using T];exact bad (λe=>T e.2)
 rw[show(s.s.f0 !=2)=false by have:s.s.f0=(at_ u 4).k:=yk;rw[this];simpa using T];clear bad;rw[ag ⟨l5,T⟩]at d;subst hJ;try dsimp only
 rw[dB];have u3:=p'.tt (F.tt r);have m3:=mx.on (F.tt r);have O:(rQ u).data=s.v.b:=yb.symm;refine aH.of λJ1 D'=> ?_
 have o': ∀g m q M,aA.fR g m ((rQ u).s q M)->h2.size<=m->BV.ok g (λy=>k.size<=y/\y≠m) ⟨q,M,(rQ u).data⟩->Fr No k g->J1 (Sa m 0) g:=by
  intro g m q M hs z4 ov v;subst D';refine ax.2 (aA.fN hs (KN (rQ u) U (u3.tt v) (m3.on v) ov.row ov.cap (by rw[O,yb];omega) λh8 e' qw w0 w1 f8=>aa.ex e'.s ⟨_,rfl,aa.fY (x:=e'.s) λb5 l' M' F' h'=>aH.of λJ2 m'=> ?_⟩));have X:=f8.tt h';have A:=r.tt (v.tt X);have bad: ∀G,Fr No l' G->AR V t=.error 3->J2 true G:=λG y' o=>by
   subst m';try dsimp only
   rw[ag rfl];exact no G 3 (A.tt y') o dN
  cases w:sZ V (rQ u)with
  |error e=>
   rw[w]at d;rw[ag (by rw[w1 e w];simpa using Ht w)];exact bad l' (Fr.refl _ _) d
  |ok f'=>
   rw[w]at d;dsimp only at d;obtain⟨rfl,tw⟩:=w0 f' w;have Z':=DL w;rw[dB];refine aa.fN F' (aa.fN (x:=x.s) (A.get E' id) (ji (x:=e') (y:=x) (tw.u.on h') (tx.on (F.tt A)) ae λA' I=>⟨_,rfl,?_⟩));cases o:oV f' t with
   |false=>exact bad A' I (by rw[d,af (by rw[o];decide)])
   |true=>
    rw[o,ag rfl]at d;subst m';try dsimp only
    rw[dB];refine ax.2 (aA.fN ((X.tt I).get hs id) (R7 ((A.tt I).get c' id) λG f=>k1 _ d G q M ?_ ((F.tt (A.tt I)).fresh f (λy e=>ae))));have:=(ov.mono (D':=λy=>k.size<=y) λy j=>j.1).frame (X.tt I) bX;exact(this.frame f (λy j e=>ae)).mono λy j=>ae
 refine⟨ae,bW.2 ⟨a0,t',_,c0,ae,bW.2 ⟨a1,u',_,c1,ae,bW.2 ⟨a2,v',_,c2,ae,bW.2 ⟨a3,w',_,c3,ae,bW.2 ⟨a4,g',_,_,_,n'.2.2.1,?_⟩⟩⟩⟩⟩⟩;rw[bC (n:=(((at_ u 3).n:Nat):Int)) ae ae];have l4:s.v.b.length<=50000:=by rw[yb];omega
 have eS: ∀P C,(⟨(at_ u 0).n,(at_ u 1).n,(at_ u 2).n,(at_ u 3).n,P,s.v.b.length,C⟩:aA.S)=(rQ u).s P C:=λP C=>by
  show _=(⟨_,_,_,_,P,(rQ u).data.length,C⟩:aA.S);rw[O];rfl
 refine⟨?_,?_,trivial⟩
 .refine iE.gP yv.row rfl ae λP C O' d' Z z'=>⟨_,_,_,rfl,Z.kp,aA.da λm P' x' J a'=>⟨a'.kp,?_⟩⟩
  rw[eS];have a9:=Z.1;have z4:=aC J;refine aA.hU (x:=(rQ u).s P C) J λB' r' i' _=>o' B' m P C r' ae ?_ ((Z.tt a').fresh i' (λy e=>ae))
  have G':=(d'.frame a' bX).frame i' (λy j e=>bR (d'.dC j));rw[O];exact BV.jy G' (λy j=>⟨z' y j,bR (d'.dC j)⟩)
 .refine aA.da λm Q' x' J Q=>⟨Q.kp,iE.gP (yv.row.frame Q bX) rfl ae λP C R' H' b' k'=>⟨_,_,_,rfl,b'.kp,?_⟩⟩
  rw[eS];have b0:=Q.1;have z4:=aC J;refine aA.hU (x:=(rQ u).s P C) (b'.get J id) λC' s' j' _=>o' C' m P C s' ae ?_ ((Q.tt b').fresh j' (λy e=>ae))
  have I':=H'.frame j' (λy j e=>bR (k' y j));rw[O];exact BV.jy I' (λy j=>bR (k' y j))

end Bn
end
section
variable {h:aj} {R:fD}
variable {L:ck} {l a:Nat} {b:av.S} {r:aO.S}
theorem E8.walk{k:Int}(H:if(k==1)then R (.B true) h else if(k==6)then R (.B true) h else if(k==7)then R (.B true) h else R (.B (k==10)) h):Cl 75 #[.U k] h R:=aP (lq ll) Tryz.func75 H
theorem Jp.walk (U: ∃(I:Bool->aj->Prop)(_:Bool->aj->Nat),(aH (λ(Z:Bool) (g:aj)=>if Z then R (.B false) g else I true g) (λJ=>if(decide ((wrap .i64 ((l:Int) - 1))<0))then J true h else if(decide ((wrap .i64 ((l:Int) - 1))≥8))then J true h else Bd (wrap .i64 ((l:Int) - 1)) l/\aM L λA=> ∃u,aY h (A.add (toNat (wrap .i64 ((l:Int) - 1))*5))=some (.U u)/\if(u !=1)then J true h else Bd (wrap .i64 ((l:Int) - 1)) l/\aM L λC=> ∃v,aY h ((C.add (toNat (wrap .i64 ((l:Int) - 1))*5)).add 1)=some (.U v)/\J (v !=1) h))/\∀(q:Bool)(k:aj),I q k->aH (λ(V:Bool) (P:aj)=>R (.B V) P) (λf=> ∃(i:Bool->Int->aj->Prop)(M:Bool->Int->aj->Nat),i q 0 k/\∀(O:Bool)(t:Int)(d:aj),i O t d->if(decide (t<(l:Int)))then Bd t l/\aM L λD=>aA.cN d (D.add (toNat t*5)) λa'=>aA.NW d λb Q=>aA.dw Q (AA b 0) a' λm=>aA.cN m (AA b 0) λb'=>Cl 74 #[b'.agg] m λh' S=>Vb h' λc'=>((0:Int)<=t/\t<=(a:Int))/\∃(e:Bool->Int->aj->Prop)(p:Bool->Int->aj->Nat),e c' 0 S/\∀(o:Bool)(T:Int)(c:aj),e o T c->if(decide (T<(((toNat t) - 0:Nat):Int)))then aH (λ(s:Bool) (n:aj)=>(e s (wrap .i64 (T+1)) n/\p s (wrap .i64 (T+1)) n<p o T c)) (λz=>((0:Int)<=T/\T<(((toNat t) - 0:Nat):Int))/\aM (cT L a 0 5) λE=>aA.cN c (E.add (toNat T*5)) λd'=>aA.NW c λB F=>aA.dw F (AA B 0) d' λH=>aH (λ(X:Bool) (G:aj)=>z X G) (λj=>if o then Hu H B 1 λe'=> ∃w,Cc H b 1 (.U w)/\if(e' !=w)then Hu H B 0 λf'=> ∃x,Cc H b 0 (.U x)/\if(f' !=x)then j true H else Hu H b 0 λg'=>Cl 75 #[.U g'] H λi' K=> ∃y,i'=.B y/\j (!y) K else j false H else j false H))else if(!o)then f o c else(i o (wrap .i64 (t+1)) c/\M o (wrap .i64 (t+1)) c<M O t d)else f O d)):Cl 46 #[.L L l a] h R:=aP (lq (.scope 0 [(4,.one (.bool))] (lq (sq (sq (.join [(33,.one (.bool))] lf) (cq ll lf)) (lq ll))) (lq (sq (lq (.join [(4,.one (.bool))] (bq (.loop [(4,.one (.bool)),(36,.one (.int .i64))] (lq (sq (cq lf lf) (sq (bq (lq (lq (sq (lq (bq (.loop [(4,.one (.bool)),(47,.one (.int .i64))] (lq (sq (cq lf lf) (sq (.join [(4,.one (.bool))] (bq (lq (.join [(4,.one (.bool))] lf)))) lf)))))) (lq (cq lf lf)))))) lf))))))) ll)))) Tryz.func46 U
theorem E9.walk(U:bh h (.C b.arr 76) λB m=>aG.cN m (AA B 0) λV=>Cl 76 #[V.agg] m λf' K=>aa.EX λs=> ∃u,f'=.T #[s.agg,.I u]/\aa.NW K λi P=>aa.dw P (AA i 0) s λe=>if(u !=0)then R (.T #[.Z,.B false]) e else aa.cN e (AA i 0) λX=>Cl 77 #[X.agg] e λg' p=> ∃x w v Z,g'=.T #[.L x w v,.I Z]/\Hl p B 20 λa' y _=> ∃(I:ck->Nat->Nat->Int->aj->Prop)(M:ck->Nat->Nat->Int->aj->Nat),I x w v 0 p/\∀(c:ck)(O o:Nat)(t:Int)(H:aj),I c O o t H->if(decide (t<(y:Int)))then Bd t y/\aM a' λF=>aA.cN H (F.add (toNat t*5)) λb'=>aA.NW H λj Q=>aA.dw Q (AA j 0) b' λq=>aA.cN q (AA j 0) λc'=>Cl 78 #[c'.agg] q λh' S=>aa.EX λz=> ∃A,h'=.T #[z.agg,.I A]/\aa.NW S λk G=>aa.dw G (AA k 0) z λd=>if(A !=0)then R (.T #[.Z,.B false]) d else aa.cN d (AA k 0) λd'=>Cl 77 #[d'.agg] d λi' J=> ∃E D C e',i'=.T #[.L E D C,.I e']/\aW Tryz.prog (Builtin.append_ #[26,26] 26 #[.L c O o,.L E D C]) J λj' n=> ∃g f T,j'=.L g f T/\(I g f T (wrap .i64 (t+1)) n/\M g f T (wrap .i64 (t+1)) n<M c O o t H)else R (.T #[.L c O o,.B true]) H):Cl 47 #[b.agg] h R:=aP (lq (lq (sq (lq (cq ll lf)) (lq (sq (lq (bq (.loop [(6,.one (.slice)),(30,.one (.int .i64))] (lq (sq (cq lf lf) (sq (bq (lq (lq (sq (lq (cq ll lf)) ll)))) lf)))))) ll))))) Tryz.func47 U
theorem Fa.walk(d:bh h (.C b.arr 76) λB H=>av.cN H (AA B 0) λT=>Cl 20 #[T.agg] H λv c=> ∃g f e t,v=.T #[.L g f e,.I t]/\R (.B (t==0)) c):Cl 147 #[b.agg] h R:=aP (lq (lq ll)) Tryz.func147 d
theorem Fb.walk (w:bh h (.C b.arr 76) λB c=>Hl c B 20 λF E D=>Cl 46 #[.L F E D] c λv H=> ∃m,v=.B m/\if(!m)then R (.T #[.Z,.I 3]) H else av.cN H (AA B 0) λx=>Cl 47 #[x.agg] H λV d=> ∃f t T g,V=.T #[.L f t T,.B g]/\aH (λ(y:Bool) (e:aj)=>if y then R (.T #[.Z,.I 3]) e else bh e (.C #[.int .u8 159] 5) λn p=>aW Tryz.prog (Builtin.append_ #[26,26] 26 #[.L (Sa n 0) 1 1,.L f t T]) p λG q=>Vl G λC A z=>bh q (.C #[.int .u8 255] 5) λo s=>aW Tryz.prog (Builtin.append_ #[26,26] 26 #[.L C A z,.L (Sa o 0) 1 1]) s λI u=> ∃k j i,I=.L k j i/\R (.T #[.L k j i,.I 0]) u) (λJ=>if(!g)then J true d else J (decide (((t:Nat):Int)>598)) d)):Cl 20 #[b.agg] h R:=aP (lq (sq (lq (cq ll lf)) (lq (sq (sq (.join [(21,.one (.bool))] lf) (cq ll lf)) ll)))) Tryz.func20 w
theorem Hv.walk{s:ck}{e q:Nat} (hv:av.NW h λb u=>if(decide ((e:Int)>1200))then av.dw u (AA b 0) av.S.z λy=>av.cN y (AA b 0) λr0=>R (.T #[r0.agg,.I 2]) y else Cl 144 #[.L s e q,.I 0] u λK' k'=>aa.EX λG=> ∃K T,K'=.T #[G.agg,.I K,.I T]/\aa.NW k' λB l'=>aa.dw l' (AA B 0) G λH=>if(T !=0)then av.dw H (AA b 0) av.S.z λD=>av.cN D (AA b 0) λm'=>R (.T #[m'.agg,.I T]) D else aH (λ(s':Bool) (E:aj)=>if s' then av.dw E (AA b 0) av.S.z λF=>av.cN F (AA b 0) λn'=>R (.T #[n'.agg,.I 3]) F else av.NW E λd j=>Hl j B 3 λy' x' _=>Bd 0 x'/\aM y' λb'=>aa.cN j (b'.add (toNat 0*4)) λz'=>Cl 145 #[z'.agg] j λL' e'=>aG.EX λS=> ∃k,L'=.T #[S.agg,.I k]/\aG.dw e' (AA d 0) S λg=>if(k !=0)then av.dw g (AA b 0) av.S.z λv=>av.cN v (AA b 0) λo'=>R (.T #[o'.agg,.I k]) v else Hl g B 3 λB' m A'=>((0:Int)<=1/\1<=(m:Int))/\∃(I:Int->aj->Prop)(M:Int->aj->Nat),I 0 g/\∀(t:Int)(c:aj),I t c->if(decide (t<((m - (toNat 1):Nat):Int)))then((0:Int)<=t/\t<((m - (toNat 1):Nat):Int))/\aM (cT B' A' (toNat 1) 4) λc'=>aa.cN c (c'.add (toNat t*4)) λC'=>aa.NW c λo f'=>aa.dw f' (AA o 0) C' λw=>aa.cN w (AA o 0) λD'=>Cl 146 #[D'.agg] w λM' g'=>aA.EX λU=> ∃n,M'=.T #[U.agg,.I n]/\aA.NW g' λp h'=>aA.dw h' (AA p 0) U λf=>if(n !=0)then av.dw f (AA b 0) av.S.z λx=>av.cN x (AA b 0) λp'=>R (.T #[p'.agg,.I n]) x else Hl f d 20 λG' F' E'=>aA.cN f (AA p 0) λH'=>bh f (.C H'.arr 127) λd' i'=>aW Tryz.prog (Builtin.append_ #[74,74] 74 #[.L G' F' E',.L (Sa d' 0) 1 1]) i' λO' j'=> ∃Z X V,O'=.L Z X V/\aT j' (AA d 20) (.L Z X V) λz=>(I (wrap .i64 (t+1)) z/\M (wrap .i64 (t+1)) z<M t c)else av.cN c (AA d 0) λI'=>Cl 147 #[I'.agg] c λP' i=> ∃a',P'=.B a'/\if(!a')then av.dw i (AA b 0) av.S.z λA=>av.cN A (AA b 0) λq'=>R (.T #[q'.agg,.I 3]) A else av.cN i (AA d 0) λJ'=>av.dw i (AA b 0) J' λC=>av.cN C (AA b 0) λr'=>R (.T #[r'.agg,.I 0]) C) (λJ=>if(K !=(e:Int))then J true H else∃O,Cc H B 0 (.I O)/\if(O !=4)then J true H else∃u' P t',Cc H B 3 (.L u' P t')/\if(decide (((P:Nat):Int)<2))then J true H else∃w' Q v',Cc H B 3 (.L w' Q v')/\J (decide (((Q:Nat):Int)>9)) H)):Cl 93 #[.L s e q] h R:=aP (lq (sq (lq (cq ll lf)) (lq (sq (bq (lq (cq ll (sq (.join [(27,.one (.bool))] lf) (cq ll lf))))) (lq (sq (lq (lq (cq ll lf))) (sq (lq (bq (.loop [(67,.one (.int .i64))] (lq (sq (cq lf lf) (sq (bq (lq (lq (sq (lq (cq ll lf)) lf)))) lf)))))) (sq (lq (cq ll lf)) ll)))))))) Tryz.func93 hv
theorem Bi.walk (n:bh h (.C b.arr 76) λB H=> ∃s i q,Cc H B 20 (.L s i q)/\if(((i:Nat):Int)==0)then R (.Z) H else∃k j u,Cc H B 20 (.L k j u)/\∃p t o,Cc H B 20 (.L p t o)/\((0:Int)<=wrap .i64 (((t:Nat):Int) - 1)/\wrap .i64 (((t:Nat):Int) - 1)<((j:Nat):Int))/\aM k λA=> ∃d c T,aY H ((A.add (toNat (wrap .i64 (((t:Nat):Int) - 1))*5)).add 4)=some (.L d c T)/\Cl 27 #[.L d c T] H λv m=> ∃g f e,v=.L g f e/\R (.L g f e) m):Cl 198 #[b.agg] h R:=aP (lq (sq (lq (cq ll lf)) ll)) Tryz.func198 n
theorem Fc.walk(s:bh h (.C r.arr 237) λb H=> ∃m,Cc H b 0 (.B m)/\if m then∃T,Cc H b 3 (.U T)/\if(decide (T<=255))then∃e,Cc H b 4 (.U e)/\if(decide (e<=1099511627776))then ah.cN H (AA b 5) λu=>Cl 167 #[u.agg] H λv o=> ∃i,v=.B i/\R (.B i) o else R (.B false) H else R (.B false) H else∃n,Cc H b 1 (.B n)/\if n then∃c,Cc H b 3 (.U c)/\if(decide (c<=255))then∃f,Cc H b 4 (.U f)/\if(decide (f<=1099511627776))then ah.cN H (AA b 5) λw=>Cl 167 #[w.agg] H λV p=> ∃j,V=.B j/\R (.B j) p else R (.B false) H else R (.B false) H else∃t,Cc H b 2 (.B t)/\if t then∃d,Cc H b 3 (.U d)/\if(decide (d<=255))then∃g,Cc H b 4 (.U g)/\if(decide (g<=1099511627776))then ah.cN H (AA b 5) λx=>Cl 167 #[x.agg] H λy q=> ∃k,y=.B k/\R (.B k) q else R (.B false) H else R (.B false) H else R (.B false) H):Cl 303 #[r.agg] h R:=aP (lq ll) Tryz.func303 s
theorem Jq.walk(y:aa.NW h λb q=>Cl 168 #[.Z] q λv s=>aa.EX λo=>v=o.agg/\aa.NW s λB u=>aa.dw u (AA B 0) o λw=> ∃(I:Int->aj->Prop)(m:Int->aj->Nat),I 0 w/\∀(t:Int)(H:aj),I t H->if(decide (t<(l:Int)))then Bd t l/\aM L λA=>uu H (A.add (toNat t*1)) λC=>aH (λ(n:Int) (c:aj)=>Hl c B 3 λF E D=>Cl 109 #[.U n] c λV d=>aa.EX λT=>V=T.agg/\Kp c d [(Sa B 3)]/\bh d (.C T.arr 167) λp g=>Kp d g [(Sa B 3)]/\aW Tryz.prog (Builtin.append_ #[165,165] 165 #[.L F E D,.L (Sa p 0) 1 1]) g λK x=> ∃k j i,K=.L k j i/\aT x (AA B 3) (.L k j i) λe=>(I (wrap .i64 (t+1)) e/\m (wrap .i64 (t+1)) e<m t H)) (λJ=>if C then J 1 H else J 0 H)else aa.cN H (AA B 0) λG=>aa.dw H (AA b 0) G λf=>aa.cN f (AA b 0) λz=>R (z.agg) f):Cl 304 #[.L L l a] h R:=aP (lq (lq (sq (lq (bq (.loop [(10,.one (.int .i64))] (lq (sq (cq lf lf) (sq (bq (lq (lq (sq (lq (.join [(6,.one (.int .u64))] (cq lf lf))) (pK 8))))) lf)))))) ll))) Tryz.func304 y
theorem Fe.walk(hv:bh h (.C r.arr 237) λb n=>ah.cN n (AA b 5) λt8=>Cl 108 #[t8.agg] n λx' n'=>aa.EX λa'=> ∃b',x'=.T #[a'.agg,.I b']/\aa.NW n' λB u'=>aa.dw u' (AA B 0) a' λg=>aH (λ(w':Bool) (H:aj)=>if w' then R (.T #[.Z,.I 3]) H else Hb H b 0 λs=>Hb H b 1 λu=>Hb H b 2 λv=>Hu H b 3 λy=>Hu H b 4 λC=>aa.cN H (AA B 0) λF=>(Cl 109 #[.U 1] H λy' i=>aa.EX λT=>y'=T.agg/\Kp H i [(Sa B 0),(Sa b 4),(Sa b 3),(Sa b 2),(Sa b 1),(Sa b 0)]/\bh i (.C #[.B s,.B u,.B v] 4) λc' j=>Kp i j [(Sa B 0),(Sa b 4),(Sa b 3)]/\Cl 304 #[.L (Sa c' 0) 3 3] j λF' k=>aa.EX λw=>F'=w.agg/\Kp j k [(Sa B 0),(Sa b 4),(Sa b 3)]/\Cl 109 #[.U y] k λG' m=>aa.EX λz=>G'=z.agg/\Kp k m [(Sa B 0),(Sa b 4)]/\Cl 109 #[.U C] m λH' o=>aa.EX λD=>H'=D.agg/\Kp m o [(Sa B 0)]/\bh o (.C (w.l++z.l++D.l++F.l).toArray 167) λd' i'=>Cl 168 #[.L (Sa d' 0) 4 4] i' λI' j'=>aa.EX λG=>I'=G.agg/\bh j' (.C (T.l++G.l).toArray 167) λe' k'=>Cl 168 #[.L (Sa e' 0) 2 2] k' λJ' l'=>aa.EX λK=>J'=K.agg/\Cl 77 #[K.agg] l' λK' m'=> ∃U Q O X,K'=.T #[.L U Q O,.I X]/\R (.T #[.L U Q O,.I X]) m')/\(bh H (.C #[.B s,.B u,.B v] 4) λf' c=>Kp H c [(Sa B 0),(Sa b 4),(Sa b 3)]/\Cl 109 #[.U 1] c λL' d=>aa.EX λq=>L'=q.agg/\Kp c d [(Sa B 0),(Sa b 4),(Sa b 3)]/\Cl 304 #[.L (Sa f' 0) 3 3] d λM' e=>aa.EX λx=>M'=x.agg/\Kp d e [(Sa B 0),(Sa b 4),(Sa b 3)]/\Cl 109 #[.U y] e λz' f=>aa.EX λA=>z'=A.agg/\Kp e f [(Sa B 0),(Sa b 4)]/\Cl 109 #[.U C] f λA' p=>aa.EX λE=>A'=E.agg/\Kp f p [(Sa B 0)]/\bh p (.C (x.l++A.l++E.l++F.l).toArray 167) λg' o'=>Cl 168 #[.L (Sa g' 0) 4 4] o' λB' p'=>aa.EX λI=>B'=I.agg/\bh p' (.C (q.l++I.l).toArray 167) λh' q'=>Cl 168 #[.L (Sa h' 0) 2 2] q' λC' r'=>aa.EX λM=>C'=M.agg/\Cl 77 #[M.agg] r' λD' s'=> ∃V S P Z,D'=.T #[.L V S P,.I Z]/\R (.T #[.L V S P,.I Z]) s')/\True) (λJ=>if(b' !=0)then J true g else aO.cN g (AA b 0) λv'=>Cl 303 #[v'.agg] g λE' t'=> ∃t,E'=.B t/\J (!t) t')):Cl 274 #[r.agg] h R:=aP (lq (lq (sq (sq (.join [(18,.one (.bool))] lf) (cq ll lf)) (sq (.kz (ga 6 1 (.op 9 (.op 10 (.op 12 (.op 13 (.op 15 (.alts (.fork 0 (.op 7 (.op 8 (.op 11 (.op 14 (ga 9 16 .done))))) (.fork 7 (.op 0 (.op 8 (.op 11 (.op 14 (ga 9 16 .done))))) .gM)))))))))) lf)))) Tryz.func274 hv
theorem CH.walk{D:az.S}{id:ah.S}{m:Int}(E:bh h (.C r.arr 237) λb x=>bh x (.C D.arr 25) λs y=>bh y (.C id.arr 71) λu z=>av.NW z λB i=>aO.cN i (AA b 0) λJ=>Cl 274 #[J.agg] i λv H=> ∃p o n e,v=.T #[.L p o n,.I e]/\if(e !=0)then av.dw H (AA B 0) av.S.z λj=>av.cN j (AA B 0) λF=>R (.T #[F.agg,.I e]) j else az.cN H (AA s 0) λT=>ah.cN H (AA u 0) λt=>bh H (.C #[.U 1,.U 1,.U 0,.I 0,.L p o n] 127) λw A=>av.NW A λc C=>av.dw C (AA c 0) ⟨2,0,T.f0,T.f1,T.f2,T.f3,T.f4,false,0,0,gg,gg,t.f0,t.f1,t.f2,t.f3,t.f4,t.f5,t.f6,m,(Sa w 0),1,1⟩ λk=>av.cN k (AA c 0) λK=>Cl 147 #[K.agg] k λV d=> ∃q,V=.B q/\if(!q)then av.dw d (AA B 0) av.S.z λf=>av.cN f (AA B 0) λG=>R (.T #[G.agg,.I 3]) f else av.cN d (AA c 0) λM=>av.dw d (AA B 0) M λg=>av.cN g (AA B 0) λI=>R (.T #[I.agg,.I 0]) g):Cl 265 #[r.agg,D.agg,id.agg,.U m] h R:=aP (lq (lq (sq (lq (cq ll lf)) (lq (sq (lq (cq ll lf)) ll))))) Tryz.func265 E

end
section
namespace Bn
open Cb
open jA (Ev dc lL)
variable {V:cM→Bool} {h d H g:aj} {R:fD} {D D':Nat→Prop}
variable {a:List mT} {q:ck} {l C:Nat}
structure BB where
 b:mT
 p:ck
 c:Nat
abbrev BB.s(x:BB):aA.S:=x.b.s x.p x.c
variable {X:List BB}
abbrev yP(x:BB):List Value:=x.s.l
theorem vS(x:BB):(yP x).length=5:=rfl
theorem O4(x:BB): ∀v∈yP x,gw v=true:=λv c=>by
 simp only[yP,aA.S.l,bK,gH,or_false]at c;rcases c with rfl|rfl|rfl|rfl|rfl<;>rfl
structure jb (h:aj) (D:Nat->Prop) (a:List mT) (q:ck) (l C:Nat) (X:List BB):Prop where
 eq:X.map BB.b=a
 len:l=a.length
 row:Row h q (X.flatMap yP)
 own:X≠ []->∀y,aN q y->D y
 cap:l<=C
 ok: ∀x∈X,BV.ok h D ⟨x.p,x.c,x.b.data⟩
theorem jb.xl(B:jb h D a q l C X):X.length=a.length:=by rw[<-B.eq,ay]
theorem jb.frame{Q:Nat->Prop}(B:jb h D a q l C X)(f:Fr Q h H)(c: ∀y,D y->¬Q y):jb H D a q l C X:=by
 refine⟨B.eq,B.len,?_,B.own,B.cap,λx j=>(B.ok x j).frame f c⟩;by_cases e:X= []
 .subst e;exact Row.nil
 .exact B.row.frame f (λA i=>c _ (B.own e _ ⟨A,i,rfl⟩))
theorem jb.on(B:jb h D a q l C X)(f:Fr No h H):jb H D a q l C X:=B.frame f bX
theorem jb.mono(B:jb h D a q l C X)(c: ∀y,D y->D' y):jb h D' a q l C X:=
 ⟨B.eq,B.len,B.row,λe y i=>c y (B.own e y i),B.cap,λx f=>(B.ok x f).mono c⟩
theorem jb.get(B:jb h D a q l C X){i:Nat}(f:i<a.length): ∃(A:Addr)(x:BB),q=some A/\dP (A.add (i*5)) x.s.l 0 h/\x.b=a[i]/\BV.ok h D ⟨x.p,x.c,x.b.data⟩/\X[i]? =some x:=by
 have xl:=B.xl;have c:X[i]? =some (X[i]' ae):=ai _;obtain⟨A,rfl⟩:=B.row.some (by intro e;have:=bQ List.length e;rw[eO yP 5 vS,bG]at this;omega);refine⟨A,_,rfl,B.row.fP vS c,?_,B.ok _ (aK c),c⟩;have:=B.eq;subst this;rw[List.getElem_map]
theorem jb.take(B:jb h D a q l C X){n:Nat}(r:n<=a.length):jb h D (a.take n) (cT q C 0 5) (n - 0) (C - 0) (X.take n):=by
 have o:=B.cap;have p:=B.len;have f:=B.row.sub (cap:=C) (l:=0) (u:=n) (sz:=5) (bL _) ae;rw[ni yP 5 vS,Nat.zero_mul,hN]at f;refine⟨by rw[List.map_take,B.eq],by rw[bw];omega,f,λe y k=>B.own (λi=>e (by rw[i,List.take_nil])) y ?_,ae,λx j=>B.ok x (List.mem_of_mem_take j)⟩;obtain⟨A,E,c⟩:=k;unfold cT at E;cases q with
 |none=>split at E<;>cases E
 |some m=>
  split at E
  .cases E;exact⟨_,rfl,c⟩
  .cases E;exact⟨_,rfl,c⟩
theorem O5{k:Nat}(c:R (.B (alone k)) h):Cl 75 #[.U (k:Int)] h R:=by
 refine E8.walk ?_;unfold alone at c;by_cases e:k=1
 .rw[aw (.inl e)]at c;rw[ag (by simp only[db];omega)];exact c
 rw[af (by simp only[db];omega)];by_cases i:k=6
 .rw[aw (.inr (.inl i))]at c;rw[ag (by simp only[db];omega)];exact c
 rw[af (by simp only[db];omega)];by_cases j:k=7
 .rw[aw (.inr (.inr (.inl j)))]at c;rw[ag (by simp only[db];omega)];exact c
 rw[af (by simp only[db];omega)];have:((k:Int)==10)=decide (k=1\/k=6\/k=7\/k=10):=by
  by_cases f:k=10
  .rw[aw (.inr (.inr (.inr f)))];simp only[db];omega
  .rw[aB ae];simp only[dA,ff];omega
 rw[this];exact c
theorem SZ(U:lO V d)(p':Fr No d h)(mx:lM.Mx h)(B:jb h D a q l C X)(hl:a.length<=1000000)(hd: ∀b∈a,b.data.length<=80000)(O: iq h R (.B (Cw V a))):Cl 46 #[.L q l C] h R:=by
 have el:=B.len;subst el;refine Jp.walk ?_;have c:Cw V a=Cw V a:=rfl;conv at c=>rhs;unfold Cw
 refine⟨λo g=>o=true/\g=h/\a.length<=8/\Cw V a=I3 V [] a,λ_ _=>0,aH.of λf' Z=> ?_,?_⟩
 .have w:Cw V a=false->f' true h:=λe=>by
   subst Z;dsimp only;rw[ag rfl];have:=O h (Fr.refl _ _);rw[e]at this;exact this
  by_cases Q:a.length=0
  .rw[ag (by rw[Q];decide)];have:a= []:=gW.1 Q;exact w (by rw[c,this];rfl)
  obtain⟨n,hn⟩: ∃n,a.length=n+1:=⟨a.length - 1,ae⟩;have ew:IntKind.wrap .i64 (((a.length:Nat):Int) - 1)=(n:Int):=by rw[hn,bC ae ae];omega
  have o':a.getLast? =some a[n]:=by rw[List.getLast?_eq_getElem?,show a.length - 1=n by omega,ai ae]
  rw[o']at c;dsimp only at c;rw[ew,dB];by_cases G:a.length<=8
  case neg=>rw[ag (by simp only[aX];omega)];exact w (by rw[c,aB G];rfl)
  rw[dB];rw[aw G,eI]at c;obtain⟨A,x,rfl,v,E,_⟩:=B.get (i:=n) ae;have h':aY h (A.add (n*5))=some (.U ((a[n].ty:Nat):Int)):=by rw[<-E];exact v.1
  have i':aY h ((A.add (n*5)).add 1)=some (.U ((a[n].nr:Nat):Int)):=by rw[<-E];exact v.2.1
  refine⟨ae,ax.2 ⟨_,by rw[aF];exact h',?_⟩⟩;by_cases f:a[n].ty=1
  case neg=>rw[ag (by simp only[dv,ff];omega)];exact w (by rw[c,aB (λe=>f e.1)];rfl)
  rw[af (by simp only[dv,ff];omega)];refine⟨ae,ax.2 ⟨_,by rw[aF];exact i',?_⟩⟩;by_cases j:a[n].nr=1
  case neg=>rw[show(((a[n].nr:Nat):Int) !=1)=true by simp only[dv,ff];omega];exact w (by rw[c,aB (λe=>j e.2)];rfl)
  rw[show(((a[n].nr:Nat):Int) !=1)=false by simp only[gA];omega];subst Z;dsimp only;rw[dB];exact⟨rfl,rfl,G,by rw[c,aw ⟨f,j⟩];rfl⟩
 rintro _ h ⟨rfl,rfl,l8,hf⟩;clear c;refine aH.of λJ1 b'=> ?_
 refine⟨λo t g=> ∃i:Nat,t=(i:Int)/\i<=a.length/\o=true/\Fr No h g/\I3 V [] a=I3 V (a.take i) (a.drop i),λ_ t _=>a.length - t.toNat,⟨0,rfl,bL _,rfl,Fr.refl _ _,rfl⟩,?_⟩;rintro _ _ g ⟨i,rfl,hi,rfl,F,m⟩;by_cases s:i<a.length
 case neg=>
  rw[af (λe=>s (bR (aS e)))];subst b';have:=O g F;rw[hf,m,dV ae]at this;exact this
 rw[gk];have Bg:=B.on F;obtain⟨A,x,rfl,v,E,e',_⟩:=Bg.get s;rw[cX s]at m;have lx:x.b.data.length<=80000:=by rw[E];exact hd _ (dI s)
 refine⟨ae,ax.2 (aA.lX (x:=x.s) (by rw[aF];exact v) (aA.fY (x:=x.s) λb h6 eb hb u=>aA.fN hb (xj x.b U (p'.tt (F.tt u)) (mx.on (F.tt u)) (e'.frame u bX).row e'.cap lx λh7 T=>⟨_,rfl,⟨ae,bR B.cap⟩,?_⟩)))⟩;have P:=u.tt T;have l':=T.get hb id;have z7:=F.tt P;rw[E];have eP: ∀r,I3 V (a.take i) (a[i]::r)=(jQ V a[i] && (a.take i).all (apart a[i]) && I3 V (a.take i++ [a[i]]) r):=λr=>rfl
 rw[eP]at m;refine⟨λo t K=> ∃k:Nat,t=(k:Int)/\k<=i/\o=(jQ V a[i] && (a.take k).all (apart a[i]))/\Fr No h7 K,λ_ t _=>i - t.toNat,⟨0,rfl,bL _,bV,Fr.refl _ _⟩,?_⟩;rintro o _ K ⟨k,rfl,r',d',J⟩;have ei:((Int.toNat (i:Int)) - 0:Nat)=i:=ae
 rw[ei];have z:=F.tt (P.tt J);by_cases n':k<i
 case neg=>
  rw[af (λe=>n' (bR (aS e)))];have:k=i:=ae
  subst this;rw[<-d']at m;cases o with
  |false=>
   rw[gk];subst b';have:=O K z;rw[hf,m]at this;exact this
  |true=>
   rw[dB,bC (n:=(k:Int)+1) ae ae];refine⟨⟨k+1,ae,ae,rfl,z,?_⟩,by show a.length - Int.toNat ((k:Int)+1)<a.length - Int.toNat (k:Int);omega⟩;rw[m,eI,bt,ai s];rfl
 rw[gk];refine aH.of λJ2 j'=> ?_
 have B2:=(B.on z).take (n:=i) ae;have lt:(a.take i).length=i:=by rw[bw];omega
 obtain⟨a',y,g',m',I,s',_⟩:=B2.get (i:=k) ae;rw[List.getElem_take]at I;have lk:k<a.length:=ae
 have ek:a.take (k+1)=a.take k++ [a[k]]:=by rw[bt,ai lk];rfl
 refine⟨ae,bW.2 ⟨a',g',aA.lX (x:=y.s) (by rw[aF];exact m') (aA.fY (x:=y.s) λb1 p q' c' S=>aH.of λJ3 k'=> ?_)⟩⟩;have M:=(J.tt S).get l' id;have go: ∀r L,Fr No p L->r=(o && apart a[i] a[k])->J3 r L:=by
  intro r L f2 er;subst k' j';dsimp only;rw[bC (n:=(k:Int)+1) ae ae];refine⟨⟨k+1,ae,ae,?_,J.tt (S.tt f2)⟩,by show i - Int.toNat ((k:Int)+1)<i - Int.toNat (k:Int);omega⟩;rw[er,d',ek,List.all_append,<-Bool.and_assoc];simp
 cases hq:o with
 |false=>rw[dB];exact go false p (Fr.refl _ _) (by rw[hq];rfl)
 |true=>
 rw[ag rfl];refine⟨_,ak c',_,ak M,?_⟩;rw[hq]at go;have n1:(((y.s.f1:Int) !=x.s.f1)=decide (a[k].nr≠a[i].nr)):=by
  show((y.b.nr:Int) !=(x.b.nr:Int))=_;rw[I,E];by_cases e:a[k].nr=a[i].nr
  .rw[aB (λq=>q e),e];simp
  .rw[aw e];simp only[dv,ff];omega
 have n2:(((y.s.f0:Int) !=x.s.f0)=decide (a[k].ty≠a[i].ty)):=by
  show((y.b.ty:Int) !=(x.b.ty:Int))=_;rw[I,E];by_cases e:a[k].ty=a[i].ty
  .rw[aB (λq=>q e),e];simp
  .rw[aw e];simp only[dv,ff];omega
 rw[n1];by_cases f:a[k].nr≠a[i].nr
 case neg=>rw[af (cI f)];exact go false p (Fr.refl _ _) (by unfold apart;rw[aB f];rfl)
 rw[ag (aw f)];refine⟨_,ak c',_,ak M,?_⟩;rw[n2];by_cases j:a[k].ty≠a[i].ty
 .rw[ag (aw j)];exact go true p (Fr.refl _ _) (by unfold apart;rw[aw f,aw j];rfl)
 rw[af (cI j)];refine⟨_,ak M,?_⟩;rw[show x.s.f0=((a[i].ty:Nat):Int) by rw[<-E]];exact O5 ⟨_,rfl,go _ p (Fr.refl _ _) (by unfold apart;rw[aw f,aB j];rfl)⟩
theorem Hw(t:Tr):(AS V t).length<=room t:=by
 unfold AS;split
 .exact lB t
 .exact bL _
theorem KO{t:Tr}{x:CV}(U:lO V d)(u:Fr No d h)(T:gX h D t x)(j:room t<=1000000)(i: ∀H p c (q:Int),fz H p (AS V t).length c 1 (bc (AS V t))->(∀y,aN p y->h.size<=y)->Fr No h H->R (.T #[.slice p (AS V t).length c,.I q]) H):Cl 77 #[x.agg] h R:=by
 unfold AS at i;refine xe U u T j (λe H p c o n f=> ?_) (λe H f=> ?_)
 .rw[ag e]at i;exact i H p c 0 o n f
 .rw[e,dB]at i;exact i H none 0 3 (.nil rfl rfl rfl rfl) (λy ⟨A,e,_⟩=>by cases e) f
abbrev mr.s(b:mr)(q:ck)(C:Nat):av.S:=⟨b.p.fl,b.p.sum,b.p.dest.km,b.p.dest.node,b.p.dest.gy,b.p.dest.host,b.p.dest.jN,b.p.rep.km,b.p.rep.node,b.p.rep.gy,b.p.rep.host,b.p.rep.jN,b.p.id.e.km,b.p.id.e.node,b.p.id.e.gy,b.p.id.e.host,b.p.id.e.jN,b.p.id.tm,b.p.id.sq,b.p.fW,q,b.bl.length,C⟩
variable {b:mr}
theorem UR{b:Nat}{x:mr}{K:aG.S->Prop}(c:av.fR h b (x.s q C))(e:K x.p.s):aG.cN h (AA b 0) K:=
 ⟨_,ak c,_,ak c,_,ak c,_,ak c,_,ak c,_,ak c,_,ak c,_,ak c,_,ak c,_,ak c,_,ak c,_,ak c,_,ak c,_,ak c,_,ak c,_,ak c,_,ak c,_,ak c,_,ak c,_,ak c,e⟩
theorem O6(m':b.p.wf)(U:lO V d)(u:Fr No d h)(mx:lM.Mx h)(B:jb h D b.bl q b.bl.length C X)(hl:b.bl.length<=8)(hd: ∀b'∈b.bl,b'.data.length<=80000)(k1: ∀o,rR V b=some o->o.length<=5000->∀H p c,fz H p o.length c 1 (bc o)->(∀y,aN p y->h.size<=y)->Fr No h H->R (.T #[.L p o.length c,.B true]) H)(S:rR V b=none->iq h R (.T #[.Z,.B false])):Cl 47 #[(b.s q C).agg] h R:=by
 refine E9.walk (av.da λb1 h1 o' Q K=>UR Q (OZ b.p m' U (u.tt K) λh2 d' qz z0 z1 M=>aa.ex d'.s ⟨_,rfl,aa.fY (x:=d'.s) λb2 h4 q' i' w=> ?_⟩));have r:=K.tt (M.tt w);have m:rR V b=rR V b:=rfl;conv at m=>rhs;unfold rR
 cases n:oB V b.p with
 |error e=>rw[ag (cI (z1 e n))];exact S (by rw[m,n]) h4 r
 |ok t=>
 obtain⟨rfl,tz⟩:=z0 t n;rw[n]at m;dsimp only at m;rw[dB];have rt:=Bb n;have le:=Hw (V:=V) t;refine aa.fN i' (KO U (u.tt r) (tz.on w) ae λh5 p5 c5 q5 o5 n5 O=>⟨_,_,_,_,rfl,_,_,_,ak ((M.tt (w.tt O)).get Q id),?_⟩);have F5:=r.tt O;have z4:=r.1;refine⟨λp l c t g=> ∃(i:Nat)(o:cM),t=(i:Int)/\i<=b.bl.length/\l=o.length/\fz g p o.length c 1 (bc o)/\(∀y,aN p y->h.size<=y)/\Fr No h g/\rR V b=GK V (b.bl.drop i) o/\o.length<=1100+400*i,λ_ _ _ t _=>b.bl.length - t.toNat,⟨0,AS V t,rfl,bL _,rfl,o5,λy z=>bR (n5 y z),F5,m,ae⟩,?_⟩;rintro p _ c _ g ⟨i,o,rfl,hi,rfl,ow,E,F,f,v'⟩;have lb:(b.s q C).I2=b.bl.length:=rfl;by_cases s:i<b.bl.length
 case neg=>
  rw[af (λe=>s (bR (aS e)))];rw[dV ae]at f;exact k1 o f ae g p c ow E F
 rw[gk];obtain⟨A,x,rfl,hh,J,a',_⟩:=(B.on F).get s;have lx:x.b.data.length<=80000:=by rw[J];exact hd _ (dI s)
 refine⟨ae,ax.2 (aA.lX (x:=x.s) (by rw[aF];exact hh) (aA.fY (x:=x.s) λb3 h8 r' j' k=>aA.fN j' (KN x.b U (u.tt (F.tt k)) (mx.on (F.tt k)) (a'.frame k bX).row a'.cap lx λh9 y qy y0 y1 P=>aa.ex y.s ⟨_,rfl,aa.fY (x:=y.s) λb4 h' s' k' v=> ?_⟩)))⟩;have I:=F.tt (k.tt (P.tt v));rw[J]at y0 y1;rw[cX s]at f;have hB: ∀L,GK V (b.bl[i]::L) o=(match sZ V b.bl[i]with| .error _=>none| .ok t=>GK V L (o++AS V t)):=λL=>rfl
 rw[hB]at f;cases j:sZ V b.bl[i]with
 |error e=>rw[ag (by rw[y1 e j];simpa using Ht j)];exact S (by rw[f,j]) h' I
 |ok T=>
 obtain⟨rfl,ty⟩:=y0 T j;rw[j]at f;dsimp only at f;rw[dB];have A':=DL j;have w':=Hw (V:=V) T;refine aa.fN k' (KO U (u.tt I) (ty.u.on v) ae λt' y' n' z' l' x' e'=>⟨_,_,_,_,rfl,?_⟩);have G:=k.tt (P.tt (v.tt e'));refine dH iE.tU iE.uU (ow.frame G bX) l'.iy (by rw[jP,cp]) (rJ _) ae ae λp' c' u' Z _ f' g'=>⟨_,_,_,rfl,?_⟩
 rw[bC (n:=(i:Int)+1) ae ae];rw[<-kP,<-au]at Z;have zG:=(F.tt G).1;refine⟨⟨i+1,o++AS V T,ae,ae,by rw[au],Z,λy z=> ?_,(F.tt G).fresh f' E,f,by rw[au];omega⟩,by show b.bl.length - Int.toNat ((i:Int)+1)<b.bl.length - Int.toNat (i:Int);omega⟩;rcases g' y z with A|A
 .exact E y A
 .omega
theorem zS(b':b.p.wf)(U:lO V d)(u:Fr No d h)(P:lM.Mx h)(B:jb h D b.bl q b.bl.length C X)(hl:b.bl.length<=1000000)(M: ∀T∈b.bl,T.data.length<=80000)(k1: ∀o,jR V b=some o->o.length<=600->∀H p c,fz H p o.length c 1 (bc o)->(∀y,aN p y->h.size<=y)->Fr No h H->R (.T #[.L p o.length c,.I 0]) H)(K:jR V b=none->iq h R (.T #[.Z,.I 3])):Cl 20 #[(b.s q C).agg] h R:=by
 have i:jR V b=jR V b:=rfl;conv at i=>rhs;unfold jR
 refine Fb.walk (av.da λb1 h1 c' L k=>⟨_,_,_,ak L,SZ U (u.tt k) (P.on k) (B.on k) hl M λh2 G=>⟨_,rfl,?_⟩⟩);have F:=k.tt G;cases j:Cw V b.bl with
 |false=>rw[gk];exact K (by rw[i,j];rfl) h2 F
 |true=>
 rw[j,ag rfl]at i;rw[dB];have l8:b.bl.length<=8:=by
  unfold Cw at j;split at j
  .cases j
  .simp only[aU,aX]at j;exact j.1.1
 refine av.fN (G.get L id) (O6 b' U (u.tt F) (P.on F) (B.on F) l8 M (λo ho lo f p c ow nw m=>⟨_,_,_,_,rfl,aH.of λJ t=> ?_⟩) (λhn f m=>⟨_,_,_,_,rfl,aH.of λJ t=> ?_⟩))
 case refine_2=>
  rw[gk];subst t;dsimp only;rw[ag rfl];exact K (by rw[i,hn]) f (F.tt m)
 rw[ho]at i;dsimp only at i;rw[dB];subst t;dsimp only;by_cases z:o.length<=598
 case neg=>rw[ag (by simp only[aX];omega)];exact K (by rw[i,af z]) f (F.tt m)
 rw[dB];rw[ag z]at i;have x:=F.tt m;have z3:=x.1;refine cK ?_;have r:Fr No f (f.push (.C #[.int .u8 159] 5)):=Fr.push _ _;have o5:fz (f.push (.C #[.int .u8 159] 5)) (Sa f.size 0) 1 1 1 (bc [159]):=by
  exact .row f.size 0 #[.int .u8 159] 5 rfl bZ (bm _) bV rfl (λa' d' v=>by
   match a',v with
   |0,v=>exact v)
 refine dH iE.tU iE.uU o5 ((ow.frame r bX).iy) (by rw[jP,cp]) (rJ _) ae ae λp6 c6 n o6 _ I g6=>⟨_,_,_,rfl,cK ?_⟩
 have s:Fr No n (n.push (.C #[.int .u8 255] 5)):=Fr.push _ _;have z5:=r.1;have z6:=I.1;have z7:=s.1;refine dH iE.tU iE.uU (o6.frame s bX) (q:=some (AA n.size 0)) (ds:=bc [255]) iT rfl (rJ _) ae ae λp8 Z h8 O _ f8 g8=>⟨_,_,_,rfl,?_⟩
 rw[<-kP,<-kP]at O;have el:1+o.length+1=(159::(o++ [255])).length:=by simp;omega
 rw[el]at O⊢;have Q: ∀y,aN p6 y->f.size<=y:=λy w=>by
  rcases g6 y w with⟨A,e,E⟩|A
  .cases e;rw[<-E];exact bm _
  .omega
 have S:Fr No f n:=r.fresh I (λy ⟨A,e,E⟩=>by cases e;rw[<-E];exact bm _);refine k1 _ i (by simp;omega) h8 p8 Z O (λy w=> ?_) (x.tt ((S.tt s).fresh f8 Q));rcases g8 y w with A|A
 .have:=Q y A;omega
 .omega
theorem sO(w:b.p.wf)(U:lO V d)(u:Fr No d h)(M:lM.Mx h)(B:jb h D b.bl q b.bl.length C X)(n:b.bl.length<=1000000)(m: ∀j∈b.bl,j.data.length<=80000)(i: iq h R (.B (jR V b).isSome)):Cl 147 #[(b.s q C).agg] h R:=by
 refine Fa.walk (av.da λs t E k f=>av.fN k (zS w U (u.tt f) (M.on f) (B.on f) n m (λO r L e p c x v F=>⟨_,_,_,_,rfl,?_⟩) (λo e F=>⟨_,_,_,_,rfl,?_⟩)))
 .have:=i e (f.tt F);rw[r]at this;exact this
 .have:=i e (f.tt F);rw[o]at this;exact this
theorem Bj{b : mr}{q : Option Addr}{C : Nat}{X : List BB}(B : jb h D b.bl q b.bl.length C X)(Q : b.bl.length ≤ 1000000)(w : ∀ k ∈ b.bl, k.data.length ≤ 80000)(i : ∀ H p c, fz H p (rU b).length c 1 (bc (rU b)) → (∀ y, aN p y → h.size ≤ y) → Fr No h H → R (.slice p (rU b).length c) H): Cl 198 #[(b.s q C).agg] h R := by
  have L : (b.s q C).I2 = b.bl.length := rfl
  refine Bi.walk (av.da λM u P j f => ⟨_, _, _, cB j rfl, ?_⟩)
  by_cases m : b.bl.length = 0
  · rw [if_pos (by simp only [beq_iff_eq]; omega)]
    have r : b.bl = [] := List.length_eq_zero_iff.1 m
    have : rU b = [] := by unfold rU; rw [r]; rfl
    rw [this] at i
    exact i u none 0 (.nil rfl rfl rfl rfl) (λy ⟨A, e, _⟩ => by cases e) f
  rw [if_neg (by simp only [beq_iff_eq]; omega)]
  obtain ⟨n, I⟩ : ∃ n, b.bl.length = n + 1 := ⟨b.bl.length - 1, by omega⟩
  have t : IntKind.wrap .i64 (((b.bl.length : Nat) : Int) - 1) = (n : Int) := by rw [I, bC (by omega) (by omega)]; omega
  have G : b.bl.getLast? = some b.bl[n] := by rw [List.getLast?_eq_getElem?, show b.bl.length - 1 = n by omega, List.getElem?_eq_getElem (by omega)]
  have s : rU b = b.bl[n].data := by unfold rU; rw [G]
  refine ⟨_, _, _, cB j rfl, _, _, _, cB j rfl, ?_⟩
  rw [L, t]
  obtain ⟨A, x, rfl, z, E, O, _⟩ := (B.on f).get (i := n) (by omega)
  refine ⟨⟨by omega, by omega⟩, ax.2 ⟨_, _, _, by rw [Int.toNat_natCast]; exact z.2.2.2.2.1, iE.gP O.row rfl (by have := w _ (List.getElem_mem (show n < b.bl.length by omega)); rw [← E] at this; show x.b.data.length ≤ _; omega) λp c v o F K => ⟨_, _, _, rfl, ?_⟩⟩⟩
  rw [s, ← E] at i
  exact i v p c o (λy J => by have := K y J; have := f.1; omega) (f.tt F)

end Bn
end
section
namespace Bn
open Cb
open jA (Ev dc lL)
variable {V:cM→Bool} {h d H g G:aj} {R:fD} {D:Nat→Prop}
variable {b cl c l:Nat} {q:ck} {p:Prim} {a:List mT} {X:List BB}
theorem tK:oN Tryz.prog 74 127 5 56 (.agg #[.U 0,.U 0,.U 0,.I 0,.Z]):=⟨dz,dz,rfl⟩
theorem uK:Tryz.prog.underlying 74=some (.slice 127):=dz
theorem O7{x:mr}{K:aj->Prop}(k:av.fR h b (x.s q cl))(n: ∀H,av.fR H b (mr.s ⟨p,x.bl⟩ q cl)->Fr (λy=>y=b) h H->K H):aG.dw h (AA b 0) p.s K:=
 (show dO (AA b 0) p.s.l 0 h K from lV (off:=0) (ws:=(mr.s ⟨p,x.bl⟩ q cl).l) k (by show 0+20<=21;omega) rfl rfl λj e f i=>n j e (Fr.of_eq f λC m=>i C m))
theorem Bl{y x:av.S}{K:av.S->aj->Prop}(i:av.fR h b y)(j: ∀H,Fr (λy=>y=b) h H->K x H):
  av.dw h (AA b 0) x λg=>av.cN g (AA b 0) λr=>K r g:=
 av.hU (x:=x) i λg e f _=>av.fN e (j g f)
structure Bc (G g:aj) (c:Nat) (p:Prim) (a:List mT) (X:List BB) (q:ck) (cl:Nat):Prop where
 cW:av.fR g c (mr.s ⟨p,a⟩ q cl)
 own:fz g q X.length cl 5 (X.flatMap yP)
 ge: ∀y,aN q y->G.size<=y/\y≠c
 eq:X.map BB.b=a
 ok: ∀x∈X,BV.ok g (λy=>(G.size<=y/\y≠c)/\¬aN q y) ⟨x.p,x.c,x.b.data⟩
 fr:Fr (λy=>y=c) G g
theorem Bc.on(L:Bc G g c p a X q cl)(f:Fr No g H):Bc G H c p a X q cl:=
 ⟨f.get L.cW id,L.own.frame f bX,L.ge,L.eq,λx e=>(L.ok x e).frame f bX,L.fr.on f⟩
theorem Bc.len(L:Bc G g c p a X q cl):X.length=a.length:=by rw[<-L.eq,ay]
theorem Bc.to(L:Bc G g c p a X q cl):jb g (λy=>G.size<=y/\y≠c) a q a.length cl X:=
 ⟨L.eq,rfl,L.own.iy,λ_=>L.ge,gG L.own.le L.len,λx e=>(L.ok x e).mono λy f=>f.1⟩
theorem Vv{x:BB}{v:aj->Prop}(L:Bc G g c p a X q cl)(hl:l=X.length)(ll:X.length<=1000000)(ox:BV.ok g (λy=>(G.size<=y/\y≠c)/\¬aN q y) ⟨x.p,x.c,x.b.data⟩)(hk: ∀k c' Q C,Bc G k c p (a++ [x.b]) c' Q C->g.size<=k.size->v k):
  bh g (.C x.s.arr 127) λz S=>aW Tryz.prog (Builtin.append_ #[74,74] 74 #[.L q l cl,.L (Sa z 0) 1 1]) S λb' U=>
   ∃u T t,b'=.L u T t/\aT U (AA c 20) (.L u T t) λZ=>v Z:=by
 subst hl;refine aA.da λb2 h7 d' r F=> ?_
 have z7:=F.1;have zg:=L.fr.1;have e':=aC r;have f':=aC L.cW;have nq: ∀y,aN q y->y<g.size:=λy f=>L.own.dC f
 refine dH tK uK (L.own.frame F bX) (ds:=yP x) (.inr ⟨_,rfl,aA.AX (x:=x.s) r⟩) rfl (O4 x) ae ae λQ C P a' _ i o=>⟨_,_,_,rfl,?_⟩
 have B:=i.get (F.get L.cW id) (λf=>(L.ge _ f).2 rfl);refine bD B (by show 20<21;omega) λm I J K=> ?_
 have j:Fr (λy=>y=c) P m:=Fr.of_eq J (λE hc=>K E hc);have s: ∀y,aN Q y->G.size<=y/\y≠c:=λy f=>by
  rcases o y f with A|A
  .exact L.ge y A
  .omega
 have M:X.flatMap yP++yP x=(X++ [x]).flatMap yP:=by rw[cg,List.flatMap_singleton]
 have O:(a++ [x.b]).length=X.length+1:=by rw[au,L.len];rfl
 refine hk m (X++ [x]) Q C ⟨?_,?_,s,?_,?_,?_⟩ ?_
 .unfold av.fR mr.s;rw[O];exact I
 .rw[au,<-M];exact a'.frame j (λy f e=>bR (s y f))
 .rw[aV,L.eq];rfl
 .intro y f;have key: ∀w:BB,BV.ok g (λy=>(G.size<=y/\y≠c)/\¬aN q y) ⟨w.p,w.c,w.b.data⟩->BV.ok m (λy=>(G.size<=y/\y≠c)/\¬aN Q y) ⟨w.p,w.c,w.b.data⟩:=λw ow=>by
   have o1:=((GN ow).frame F bX).frame i (λy f n=>f.1.2 n);have o2:=o1.mono (D':=λy=>(G.size<=y/\y≠c)/\¬aN Q y) (λy f=>⟨f.1.1,λn=>by
    rcases o y n with A|A
    .exact f.1.2 A
    .have:=f.2;omega⟩)
   exact o2.frame j (λy f e=>ae)
  rcases bE.1 f with A|A
  .exact key y (L.ok y A)
  .rw[bP.1 A];exact key x ox
 .exact((L.fr.on F).trans i (S'':=λy=>y=c) bX (λx hx f=>bR (L.ge x f))).trans j bX bX
 .have:=i.1;omega
theorem O8{t:Tr}{b:mT}(h:AR V t=.ok b):b.data.length<=200:=by
 unfold AR at h;split at h
 .cases h
 .split at h
  .split at h
   .rename_i e;split at h
    .cases h;unfold sZ at e;split at e
     .rename_i f;exact(xm f).2.2.1
     .cases e
    .cases h
   .cases h
  .cases h
theorem O9{b:mr}(h:(jR V b).isSome=true):b.bl.length<=8/\b.bl≠ []:=by
 unfold jR at h;split at h
 .rename_i f;unfold Cw at f;split at f
  .cases f
  .rename_i i;simp only[aU,aX]at f;exact⟨f.1.1,λe=>by rw[e]at i;cases i⟩
 .cases h
def mr.zs:av.S:=.z
theorem zT{a:cM}{p:ck}{k':Nat}(U:lO V d)(c':Fr No d h)(mx:lM.Mx h)(J':Row h p (bc a))(hl:l=a.length)(cap:a.length<=k')(k1: ∀b,lD V a=.ok b->b.p.wf->(∀s∈b.bl,s.data.length<=200)->b.bl.length<=8->∀H q cl X,jb H (λy=>h.size<=y) b.bl q b.bl.length cl X->Fr No h H->R (.T #[(b.s q cl).agg,.I 0]) H)(k2: ∀e,lD V a=.error e->e≠0->iq h R (.T #[av.S.z.agg,.I e])):Cl 93 #[.L p l k'] h R:=by
 subst hl;have k:lD V a=lD V a:=rfl;conv at k=>rhs;unfold lD
 refine Hv.walk (av.da λb h1 eb hb A=> ?_);have zb:=aC hb;have z1:=A.1;have J: ∀g e,Fr No h1 g->lD V a=.error e->e≠0->av.dw g (AA b 0) .z λv=>av.cN v (AA b 0) λI'=>R (.T #[I'.agg,.I e]) v:=λg e fg j m=>
  Bl (fg.get hb id) λv f=>k2 e j m v ((A.tt fg).fresh f (λy e=>ae))
 by_cases c0:a.length<=1200
 case neg=>rw[ag (by simp only[aX];omega)];exact J h1 2 (Fr.refl _ _) (by rw[k,af c0]) dN
 rw[dB];rw[ag c0]at k;refine vO (U.mono (c'.tt A)) (J'.frame A bX) rfl cap ae (λh3 t x nx M tx u=>aa.ex x.s ⟨_,_,rfl,aa.fY (x:=x.s) λb1 w x' I n=> ?_⟩) (λh3 e j u=>aa.ex zv.s ⟨_,_,rfl,aa.fY (x:=zv.s) λb1 w x' I n=> ?_⟩)
 case refine_2=>
  rw[ag (cI (nk j))];exact J w e (u.tt n) (by rw[k,j]) (nk j)
 rw[M]at k;dsimp only at k;obtain⟨rt,Q'⟩:=rO M;rw[dB];have z:=A.tt (u.tt n);obtain⟨xk,xn,xb,xl,xv,ys,L,TS⟩:=gX.kn (tx.u.on n);have rl:=lF (t:=t);have ln:=TS.len;refine aH.of λt' hJ=> ?_
 have bad: ¬(nx=a.length/\t.k=4/\2<=t.l.length/\t.l.length<=9)->t' true w:=λm=>by
  subst hJ;dsimp only;rw[ag rfl];exact J w 3 (u.tt n) (by rw[k,af m]) dN
 have sl:x.s.FN=t.l.length:=xl;by_cases c1:nx=a.length
 case neg=>rw[ag (by simp only[dv,ff];omega)];exact bad (λe=>c1 e.1)
 rw[af (by simp only[dv,ff];omega)];refine⟨_,ak I,?_⟩;rw[show x.s.f0=t.k from xk];by_cases S:t.k=4
 case neg=>rw[ag (cI S)];exact bad (λe=>S e.2.1)
 rw[af (cI S)];refine⟨_,_,_,ak I,?_⟩;by_cases c3:2<=t.l.length
 case neg=>rw[ag (by simp only[aX];omega)];exact bad (λe=>c3 e.2.2.1)
 rw[dB];refine⟨_,_,_,ak I,?_⟩;by_cases c4:t.l.length<=9
 case neg=>rw[show decide ((x.s.FN:Int)>9)=true by simp only[aX];omega];exact bad (λe=>c4 e.2.2.2)
 rw[show decide ((x.s.FN:Int)>9)=false by simp only[fv];omega];clear bad;rw[ag ⟨c1,S,c3,c4⟩]at k;subst hJ;try dsimp only
 rw[dB];have z5:=z.1;have S':=(u.tt n).1;refine av.da λb2 h9 M' h' r=> ?_
 have z9:=r.1;have T':=aC h';obtain⟨a0,y0,v',G',K',_⟩:=elem (L.frame r bX) (TS.on r) (i:=0) ae;have r0:=jj (ts:=t.l) (i:=0) ae;have F9:=z.tt r;refine⟨_,_,_,ak (r.get I id),ae,bW.2 ⟨a0,v',aa.lX (x:=y0.s) G' ?_⟩⟩;refine O0 U (c'.tt F9) (mx.on F9) K' ae (λpr hp wp A' C=>aG.ex pr.s ⟨_,rfl,O7 (x:=⟨Prim.zero, []⟩) (p:=pr) (q:=none) (cl:=0) (C.get h' id) λf' m' Z=> ?_⟩) (λe j m A' C=>aG.ex Prim.zero.s ⟨_,rfl,O7 (x:=⟨Prim.zero, []⟩) (p:=Prim.zero) (q:=none) (cl:=0) (C.get h' id) λf' m' Z=> ?_⟩)
 case refine_2=>
  rw[ag (cI m)];exact J f' e ((u.tt (n.tt (r.tt C))).fresh Z (λy e=>ae)) (by rw[k,j]) m
 rw[dB];rw[hp]at k;dsimp only at k;have s':Fr No w f':=(r.tt C).fresh Z (λy e=>ae);refine⟨_,_,_,ak (s'.get I id),ae,?_⟩;have e1:Int.toNat 1=1:=rfl;rw[e1,sl];refine⟨λT g=> ∃(i:Nat)(o:List mT)(X:List BB)(q:ck)(cl:Nat),T=(i:Int)/\i+1<=t.l.length/\o.length=i/\Bc w g b2 pr o X q cl/\(∀s∈o,s.data.length<=200)/\lD V a=(match GL V (t.l.drop (i+1)) o with| .error e=> .error e| .ok l=>if(jR V ⟨pr,l⟩).isSome=true then .ok ⟨pr,l⟩else .error 3),λT _=>t.l.length - 1 - T.toNat,⟨0, [], [],none,0,rfl,ae,rfl,⟨m',.nil rfl rfl rfl rfl,(λy ⟨P,e,_⟩=>by cases e),rfl,(λx hx=>by cases hx),(r.tt C).mono (λ_ _=>False.elim)|>.tt Z⟩,(λx hx=>by cases hx),k⟩,?_⟩;rintro _ g ⟨i,o,X,q,cl,rfl,hi,ho,B,hd,j⟩;have F:Fr No w g:=(Fr.refl _ _).fresh B.fr (λy e=>ae);have O:Fr No h1 g:=u.tt (n.tt F);by_cases b':i+1<t.l.length
 case neg=>
  rw[af (λe=>b' (bR (aS e)))];rw[dV ae]at j;have j:lD V a=if(jR V ⟨pr,o⟩).isSome=true then .ok ⟨pr,o⟩else .error 3:=j
  refine av.fN B.cW (sO (b:=⟨pr,o⟩) wp U (c'.tt (z.tt F)) (mx.on (z.tt F)) B.to (by show o.length<=_;omega) (λs g'=>bR (hd s g')) λD' K=>⟨_,rfl,?_⟩);cases hw:(jR V ⟨pr,o⟩).isSome with
  |false=>
   rw[gk];exact J D' 3 (O.tt K) (by rw[j,hw];rfl) dN
  |true=>
   rw[hw,ag rfl]at j;rw[dB];refine av.fN (K.get B.cW id) (Bl ((O.tt K).get hb id) λv f=>k1 ⟨pr,o⟩ j wp hd (O9 hw).1 v q cl X ?_ ((A.tt (O.tt K)).fresh f (λy e=>ae)));exact((B.to.on K).frame f (λy hy e=>ae)).mono λy hy=>ae
 rw[gk];have F':t.l.drop (i+1)=at_ t.l (i+1)::t.l.drop (i+1+1):=by
  rw[cX b'];unfold at_;rw[bk,ai b'];rfl
 rw[F']at j;have hB: ∀T l',GL V (T::l') o=(match AR V T with| .error e=> .error e| .ok b=>GL V l' (o++ [b])):=λ_ _=>rfl
 rw[hB]at j;have Lg:=L.frame F bX;have cc:x.ll<=x.cl:=L.cap;have L2:mF g (λ_=>True) (cT x.s.SK x.s.Qy 1 4) (t.l.length - 1) (x.s.Qy - 1) (ys.drop 1):=by
  have M:=Lg.row.sub (cap:=x.cl) (l:=1) (u:=t.l.length) (sz:=4) ae ae;rw[ni iR 4 hM,nj iR 4 hM,bn ae]at M;exact⟨by rw[bT];omega,M,λ_ _ _=>trivial,by show _<=x.cl - 1;omega⟩
 have T2:CC g (t.l.drop 1) (ys.drop 1):=(TS.on F).drop 1;obtain⟨a1,y1,w',H',r',_⟩:=elem L2 T2 (i:=i) (by rw[bT];omega);have ei:at_ (t.l.drop 1) i=at_ t.l (i+1):=by unfold at_;rw[bk,bk,fx,Nat.add_comm]
 rw[ei]at r';have r1:=jj (ts:=t.l) (i:=i+1) b';refine⟨ae,bW.2 ⟨a1,w',aa.lX (x:=y1.s) (by rw[aF];exact H') (aa.fY (x:=y1.s) λb3 P' O' E' E=>aa.fN E' ?_)⟩⟩;have zg:=F.1;refine Q6 U (c'.tt (z.tt (F.tt E))) (mx.on (z.tt (F.tt E))) (r'.on E) ae (λQ p' C' i' d' ov e'=>aA.ex (Q.s i' d') ⟨_,rfl,aA.fY (x:=Q.s i' d') λb4 n' y' o' a'=> ?_⟩) (λe hE m C' e'=>aA.ex .z ⟨_,rfl,aA.fY (x:=.z) λb4 n' y' o' a'=> ?_⟩)
 case refine_2=>
  rw[ag (cI m)];exact J n' e (O.tt (E.tt (e'.tt a'))) (by rw[j,hE]) m
 rw[dB];rw[p']at j;dsimp only at j;have z':=E.tt (e'.tt a');have j':=B.on z';have R':=E.1;have nq: ∀y,aN q y->y<g.size:=λy hy=>B.own.dC hy
 have U':=aC B.cW;refine⟨_,_,_,ak j'.cW,aA.fN o' (Vv (x:=⟨Q,i',d'⟩) j' (by show o.length=_;exact B.len.symm) (bR B.len) ((ov.frame a' bX).mono λy hy=>⟨ae,λhq=>bR (nq y hq)⟩) λv L' q' u' B' V'=> ?_)⟩;rw[bC (n:=(i:Int)+1) ae ae];refine⟨⟨i+1,o++ [Q],L',q',u',ae,ae,by rw[au,ho];rfl,B',λs g'=> ?_,j⟩,by show t.l.length - 1 - Int.toNat ((i:Int)+1)<t.l.length - 1 - Int.toNat (i:Int);omega⟩;rcases bE.1 g' with P|P
 .exact hd s P
 .rw[bP.1 P];exact O8 p'

end Bn
end
section
variable {h:aj} {R:fD}
variable {x:aR.S}
theorem Jr.walk{a:aR.S}{b:aR.S}(l:bh h (.C a.arr 30) λB j=>bh j (.C b.arr 30) λc H=>Hu H B 0 λA=> ∃i,Cc H c 0 (.U i)/\if(A==i)then Hi H B 1 λm=> ∃t,Cc H c 1 (.I t)/\if(m==t)then Hu H B 2 λn=> ∃T,Cc H c 2 (.U T)/\if(n==T)then Hi H B 3 λo=> ∃e,Cc H c 3 (.I e)/\if(o==e)then aI.cN H (AA B 4) λp=>aI.cN H (AA c 4) λq=>Cl 68 #[p.agg,q.agg] H λv d=> ∃f,v=.B f/\if f then Hl d B 23 λu s r=>Hl d c 23 λz y w=>Cl 69 #[.L u s r,.L z y w] d λV k=> ∃g,V=.B g/\R (.B g) k else R (.B false) d else R (.B false) H else R (.B false) H else R (.B false) H else R (.B false) H):Cl 41 #[a.agg,b.agg] h R:=aP (lq ll) Tryz.func41 l
theorem Mp.walk (E:bh h (.C x.arr 30) λb r=>aR.NW r λi a=>Hu a b 0 λM=>Hi a b 1 λO=>aR.NW a λB A=>aR.dw A (AA B 0) ⟨M,O,0,0,0,0,false,0,0,gg,gg,false,0,0,gg,gg,0,0,0,none,0,0,0,0,false,none,0,0⟩ λc=>Hi c b 1 λt=>aH (λ(l:aj)=>aR.cN l (AA B 0) λL=>aR.dw l (AA i 0) L λm=>aR.cN m (AA i 0) λF=>R (F.agg) m) (λJ=>aH (λ(G:Bool) (H:aj)=>aH (λ(C:aj)=>J C) (λd=>if G then∃T,Cc H b 2 (.U T)/\aT H (AA B 2) (.U T) λD=>d D else aH (λ(s:aj)=>d s) (λe=>if(t==3)then∃n,Cc H b 3 (.I n)/\aT H (AA B 3) (.I n) λu=>e u else aH (λ(v:aj)=>e v) (λf=>if(t==4)then Hi H b 3 λI=>aI.cN H (AA b 4) λK=>aT H (AA B 3) (.I I) λk=>Kp H k [(Sa b 4)]/\aI.dw k (AA B 4) K λw=>f w else aH (λ(y:aj)=>f y) (λg=>if(t==5)then∃q p o,Cc H b 23 (.L q p o)/\aT H (AA B 23) (.L q p o) λz=>g z else g H))))) (λj=>if(t==1)then j (t==1) c else j (t==2) c))):Cl 42 #[x.agg] h R:=aP (lq (lq (sq (lq (.join [] (bq (sq (lq (.join [(11,.one (.bool))] (cq lf lf))) (.join [] (cq lf (lq (.join [] (cq lf (lq (.join [] (cq (pK 8) (lq (.join [] (cq lf lf))))))))))))))) ll))) Tryz.func42 E
theorem yQ.walk{n:Int}(H:if(decide (n≥1))then R (.B (decide (n<=1099511627776))) h else R (.B false) h):Cl 70 #[.I n] h R:=aP (lq ll) Tryz.func70 H
theorem Hx.walk(r:bh h (.C x.arr 30) λb c=>Hi c b 1 λt=>aH (λ(B:Bool) (H:aj)=>if B then∃o,Cc H b 2 (.U o)/\if(decide (o≥1))then∃T,Cc H b 2 (.U T)/\R (.B (decide (T<=2147483648))) H else R (.B false) H else if(t==3)then Hi H b 3 λs=>Cl 70 #[.I s] H λv p=> ∃e,v=.B e/\R (.B e) p else if(t==4)then Hi H b 3 λu=>Cl 70 #[.I u] H λV d=> ∃f,V=.B f/\if f then aI.cN d (AA b 4) λw=>Cl 71 #[w.agg] d λC a=> ∃g,C=.B g/\if g then∃i,Cc a b 5 (.I i)/\if(i !=11)then∃j,Cc a b 5 (.I j)/\R (.B (j !=12)) a else R (.B false) a else R (.B false) a else R (.B false) d else if(t==5)then Hl H b 23 λA z y=>Cl 72 #[.L A z y] H λD q=> ∃k,D=.B k/\R (.B k) q else∃l,Cc H b 1 (.I l)/\if(l==6)then R (.B true) H else∃m,Cc H b 1 (.I m)/\if(m==7)then R (.B true) H else∃n,Cc H b 1 (.I n)/\R (.B (n==8)) H) (λJ=>if(t==1)then J (t==1) c else J (t==2) c)):Cl 43 #[x.agg] h R:=aP (lq (sq (lq (bq (sq (lq (.join [(5,.one (.bool))] (cq lf lf))) (cq ll (lq (cq ll (lq (cq ll (lq (cq ll lf)))))))))) ll)) Tryz.func43 r
theorem Hz.walk(g:bh h (.C x.arr 30) λb H=> ∃e,Cc H b 0 (.U e)/\if(decide (e<=1099511627776))then aR.cN H (AA b 0) λj=>aR.cN H (AA b 0) λk=>Cl 42 #[k.agg] H λv c=>aR.EX λf=>v=f.agg/\Kp H c [(Sa b 0),(Sa b 0)]/\Cl 41 #[j.agg,f.agg] c λV a=> ∃t,V=.B t/\Kp c a [(Sa b 0)]/\if t then aR.cN a (AA b 0) λi=>Cl 43 #[i.agg] a λl d=> ∃T,l=.B T/\Kp a d [(Sa b 0)]/\R (.B T) d else R (.B false) a else R (.B false) H):Cl 11 #[x.agg] h R:=aP (lq (sq (pK 14) lf)) Tryz.func11 g
theorem yR.walk{c:ck}{a B:Nat}(n:Cl 93 #[.L c a B] h λv k=>av.EX λi=> ∃j,v=.T #[i.agg,.I j]/\av.NW k λb l=>av.dw l (AA b 0) i λH=>if(j !=0)then R (.B false) H else av.cN H (AA b 0) λo=>Cl 20 #[o.agg] H λV d=> ∃e T t f,V=.T #[.L e T t,.I f]/\if(f==0)then Cl 69 #[.L c a B,.L e T t] d λp m=> ∃g,p=.B g/\R (.B g) m else R (.B false) d):Cl 72 #[.L c a B] h R:=aP (lq (lq (sq (lq (cq ll lf)) (lq ll)))) Tryz.func72 n

end
section
namespace CI
open Go.Proofs.YtimiaphmdidfhaaGreatDoor.Ask (Rq jS rV OR bq py)
open Bn (lD jR rT mr)
variable {V:cM→Bool} {h H a g:aj} {R:fD} {p q P Q:ck} {c d C D:Nat}
variable {b:Nat} {K:aj->Prop}
theorem Mq{f:cM}{l:Nat}(U:Cb.lO V a)(u:Fr No a h)(M:lM.Mx h)(z:Row h p (bc f))(v:l=f.length)(cap:f.length<=c)(i: iq h R (.B (rT V f))):Cl 72 #[.L p l c] h R:=by
 subst v;unfold rT at i;refine yR.walk (Bn.zT U u M z rfl cap (λb I w J v G q m xs B n=>av.ex (b.s q m) ⟨_,rfl,av.fY (x:=b.s q m) λA s E t j=> ?_⟩) (λe L S G n=>av.ex .z ⟨_,rfl,av.fY (x:=.z) λA s E t j=> ?_⟩))
 case refine_2=>
  rw[L]at i;rw[ag (cI S)];exact i s (n.tt j)
 rw[I]at i;dsimp only at i;rw[dB];have F:=n.tt j;refine av.fN (x:=b.s q m) t (Bn.zS w U (u.tt F) (M.on F) (B.on j) ae (λy T=>bR (J y T)) (λO r lo o p4 Z X n4 k=>⟨_,_,_,_,rfl,?_⟩) (λr o k=>⟨_,_,_,_,rfl,?_⟩))
 .rw[gk];refine Cb.kJ (z.frame (F.tt k) bX) X.iy rfl rfl ⟨_,rfl,?_⟩;have e:decide (f=O)=decide (jR V b=some f):=by
   rw[r];by_cases e:f=O
   .rw[aw e,aw (by rw[e])]
   .rw[aB e,aB (λq=>e (aZ q).symm)]
  rw[e];exact i o (F.tt k)
 .rw[dB];have:=i o (F.tt k);rw[aB (by rw[r];intro e;cases e)]at this;exact this
structure oS where
 now:Nat
 kind:Int
 token:Nat
 ses:Int
 jr:Rq
 data:cM
deriving DecidableEq
def Rq.none:Rq:=⟨0,0,.zero,.zero,0,0,0, [],0,0,false⟩
abbrev oS.s(x:oS)(p:ck)(c:Nat)(q:ck)(d:Nat):aR.S:=⟨x.now,x.kind,x.token,x.ses,x.jr.id,x.jr.kind,x.jr.ep.km,x.jr.ep.node,x.jr.ep.gy,x.jr.ep.host,x.jr.ep.jN,x.jr.dest.km,x.jr.dest.node,x.jr.dest.gy,x.jr.dest.host,x.jr.dest.jN,x.jr.kH,x.jr.num,x.jr.jm,p,x.jr.mz.length,c,x.jr.fW,x.jr.token,x.jr.on,q,x.data.length,d⟩
variable {x:oS}
def mN(x:oS):oS:=⟨x.now,x.kind,0,0,Rq.none, []⟩
def rZ(x:oS):oS:=
 if x.kind=1\/x.kind=2 then { mN x with token:=x.token }
 else if x.kind=3 then { mN x with ses:=x.ses }
 else if x.kind=4 then { mN x with ses:=x.ses,jr:=x.jr }
 else if x.kind=5 then { mN x with data:=x.data }
 else mN x
def isS(n:Int):Bool:=decide (n≥1) && decide (n<=1099511627776)
def r8(V:cM->Bool)(x:oS):Bool:=
 if x.kind=1\/x.kind=2 then decide (x.token≥1) && decide (x.token<=2147483648)
 else if x.kind=3 then isS x.ses
 else if x.kind=4 then isS x.ses && jS x.jr && (x.jr.kind !=11) && (x.jr.kind !=12)
 else if x.kind=5 then rT V x.data
 else decide (x.kind=6\/x.kind=7\/x.kind=8)
def mU(V:cM->Bool)(x:oS):Bool:=decide (x.now<=1099511627776) && decide (x=rZ x) && r8 V x
theorem Mr{K:aI.S->Prop}(e:aR.fR h b (x.s p c q d))(f:K (x.jr.s p c)):aI.cN h (AA b 4) K:=
 ⟨_,ak e,_,ak e,_,ak e,_,ak e,_,ak e,_,ak e,_,ak e,_,ak e,_,ak e,_,ak e,_,ak e,_,ak e,_,ak e,_,ak e,_,ak e,_,_,_,ak e,_,ak e,_,ak e,_,ak e,f⟩
theorem Vw{r:Rq}(k:aR.fR h b (x.s p c q d))(m: ∀H,aR.fR H b (({ x with jr:=r } :oS).s P C q d)->Fr (λy=>y=b) h H->K H):aI.dw h (AA b 4) (r.s P C) K:=
 (show dO (AA b 4) (r.s P C).l 0 h K from lV (off:=4) (ws:=(({ x with jr:=r } :oS).s P C q d).l) k (by show 4+19<=24;omega) rfl rfl λj e f i=>m j e (Fr.of_eq f λc l=>i c l))
theorem Bm{i:Nat}{y z:aR.S}{v:Value}(l:aR.fR h b y)(n:i<24)(r:y.arr.setIfInBounds i v=z.arr)(o: ∀H,aR.fR H b z->Fr (λy=>y=b) h H->K H):aT h (AA b i) v K:=
 bD l n λk e f j=>o k (by unfold aR.fR;rw[<-r];exact e) (Fr.of_eq f λc m=>j c m)
theorem Pa(x y:oS)(U:Row h p (bc x.jr.mz))(X:Row h P (bc y.jr.mz))(G:Row h q (bc x.data))(J:Row h Q (bc y.data))(E: iq h R (.B (decide (x=y)))):Cl 41 #[(x.s p c q d).agg,(y.s P C Q D).agg] h R:=by
 refine Jr.walk (aR.da λb h1 eb T O=>aR.da λZ v a' f z=> ?_);have i:=z.get T id;have F:=O.tt z;have t: ∀g,Fr No h g->x≠y->R (.B false) g:=λg S e=>by have:=E g S;rw[aB e]at this;exact this
 have I: ∀(A b:Int)(m n:Nat),A=m->b=n->m≠n->¬(A==b)=true:=λA b m n L M e=>by rw[L,M];simp only[db];omega
 refine⟨_,ak i,_,ak f,?_⟩;by_cases j:x.now=y.now
 case neg=>rw[af (I _ _ _ _ rfl rfl j)];exact t v F (λe=>j (by rw[e]))
 rw[ag (by show((x.now:Int)==(y.now:Int))=true;rw[j];simp)];refine⟨_,ak i,_,ak f,?_⟩;by_cases k:x.kind=y.kind
 case neg=>rw[af (by show¬(x.kind==y.kind)=true;simpa using k)];exact t v F (λe=>k (by rw[e]))
 rw[ag (by show(x.kind==y.kind)=true;simpa using k)];refine⟨_,ak i,_,ak f,?_⟩;by_cases l:x.token=y.token
 case neg=>rw[af (I _ _ _ _ rfl rfl l)];exact t v F (λe=>l (by rw[e]))
 rw[ag (by show((x.token:Int)==(y.token:Int))=true;rw[l];simp)];refine⟨_,ak i,_,ak f,?_⟩;by_cases o:x.ses=y.ses
 case neg=>rw[af (by show¬(x.ses==y.ses)=true;simpa using o)];exact t v F (λe=>o (by rw[e]))
 rw[ag (by show(x.ses==y.ses)=true;simpa using o)];refine Mr i (Mr f (Ask.Hj x.jr y.jr (U.frame F bX) (X.frame F bX) λB w=>⟨_,rfl,?_⟩));have u:=F.tt w;by_cases r:x.jr=y.jr
 case neg=>rw[af (cI r)];exact t B u (λe=>r (by rw[e]))
 rw[ag (cI r)];refine⟨_,_,_,ak (w.get i id),_,_,_,ak (w.get f id),Cb.kJ (G.frame u bX) (J.frame u bX) rfl rfl ⟨_,rfl,?_⟩⟩;have e:decide (x=y)=decide (x.data=y.data):=by
  by_cases s:x.data=y.data
  .have:x=y:=by cases x;cases y;simp only at j k l o r s;simp[j,k,l,o,r,s]
   rw[aw this,aw s]
  .rw[aB (λe=>s (by rw[e])),aB s]
 rw[<-e];exact E B u
theorem Q7(x:oS)(rx:Row h p (bc x.jr.mz))(dx:Row h q (bc x.data))(hk: ∀H P C Q D,Row H P (bc (rZ x).jr.mz)->Row H Q (bc (rZ x).data)->Fr No h H->R ((rZ x).s P C Q D).agg H):Cl 42 #[(x.s p c q d).agg] h R:=by
 refine Mp.walk (aR.da λb h1 eb u O=>aR.da λb1 h2 b' U F=>⟨_,ak (F.get u id),_,ak (F.get u id),aR.fY (x:=(mN x).s none 0 none 0) λB I c' r S=> ?_⟩);have l:=(F.tt S).get u id;have zb:=aC u;have d':=aC U;have z1:=O.1;have z2:=F.1;have ne:b≠B:=ae
 refine⟨_,ak l,aH.of λJ hJ=>aH.of λJ1 a'=> ?_⟩;have fin: ∀g P C Q D,aR.fR g B ((rZ x).s P C Q D)->Row h P (bc (rZ x).jr.mz)->Row h Q (bc (rZ x).data)->Fr (λy=>y=B) I g->J g:=by
  intro g P C Q D hg hr hd fg;have M:Fr No h2 g:=S.fresh fg (λy e=>ae);have G:=(O.tt F).tt M;subst hJ;refine aR.fN hg (aR.hU (x:=(rZ x).s P C Q D) (M.get U id) λh6 d6 A _=>aR.fN d6 ?_);have z:=G.fresh A (λy e=>ae);exact hk h6 P C Q D (hr.frame z bX) (hd.frame z bX) z
 have n:Row h none (bc []):=Row.nil;have Z: ∀v,(v=true↔x.kind=1\/x.kind=2)->J1 v I:=by
  intro v X;subst a';dsimp only;refine aH.of λJ2 o=> ?_
  by_cases k:x.kind=1\/x.kind=2
  .have E:rZ x= { mN x with token:=x.token } :=ag k;rw[E]at fin;rw[ag (X.2 k)];exact⟨_,ak l,Bm (z:=({ mN x with token:=x.token } :oS).s none 0 none 0) r dN rfl λj i f=>by subst o;exact fin j none 0 none 0 i n n f⟩
  rw[af (λe=>k (X.1 e))];refine aH.of λJ3 t=> ?_
  by_cases m:x.kind=3
  .have E:rZ x= { mN x with ses:=x.ses } :=(af k).trans (ag m);rw[E]at fin;rw[ag (bq.2 m)];exact⟨_,ak l,Bm (z:=({ mN x with ses:=x.ses } :oS).s none 0 none 0) r dN rfl λj i f=>by subst t;subst o;exact fin j none 0 none 0 i n n f⟩
  rw[af (λe=>m (bq.1 e))];refine aH.of λJ4 L=> ?_
  by_cases s:x.kind=4
  .have E:rZ x= { mN x with ses:=x.ses,jr:=x.jr } :=(af k).trans ((af m).trans (ag s));rw[E]at fin;rw[ag (bq.2 s)];refine⟨_,ak l,Mr l (Bm (z:=({ mN x with ses:=x.ses } :oS).s none 0 none 0) r dN rfl λj i f=>⟨OR f ne bV,Vw (x:= { mN x with ses:=x.ses }) (r:=x.jr) i λg2 e2 A=> ?_⟩)⟩;subst L;subst t;subst o;exact fin g2 p c none 0 e2 rx n (f.tt A)
  rw[af (λe=>s (bq.1 e))];refine aH.of λJ5 T=> ?_
  by_cases w:x.kind=5
  .have E:rZ x= { mN x with data:=x.data } :=(af k).trans ((af m).trans ((af s).trans (ag w)));rw[E]at fin;rw[ag (bq.2 w)];exact⟨_,_,_,ak l,Bm (z:=({ mN x with data:=x.data } :oS).s none 0 q d) r dN rfl λj i f=>by subst T;subst L;subst t;subst o;exact fin j none 0 q d i n dx f⟩
  rw[af (λe=>w (bq.1 e))];have E:rZ x=mN x:=(af k).trans ((af m).trans ((af s).trans (af w)));rw[E]at fin;subst T;subst L;subst t;subst o;exact fin I none 0 none 0 r n n (Fr.refl _ _)
 by_cases k:x.kind=1
 .rw[ag (bq.2 k)];exact Z _ ⟨λ_=> .inl k,λ_=>bq.2 k⟩
 rw[af (λe=>k (bq.1 e))];exact Z _ ⟨λe=> .inr (bq.1 e),λe=>bq.2 (e.resolve_left k)⟩
theorem Pb(n:Int)(e:R (.B (isS n)) h):Cl 70 #[.I n] h R:=by
 refine yQ.walk ?_;unfold isS at e;by_cases c:n≥1
 .rw[ag (aw c)];rw[aw c]at e;exact e
 .rw[af (cI c)];rw[aB c]at e;exact e
theorem Ms(x:oS)(U:Cb.lO V a)(u:Fr No a h)(X:lM.Mx h)(Z:Row h p (bc x.jr.mz))(M:Row h q (bc x.data))(cap:x.data.length<=d)(f: iq h R (.B (r8 V x))):Cl 43 #[(x.s p c q d).agg] h R:=by
 refine Hx.walk (aR.da λb m eb i F=>⟨_,ak i,aH.of λL S=> ?_⟩);have J: ∀v,(v=true↔x.kind=1\/x.kind=2)->L v m:=by
  intro v I;subst S;dsimp only;by_cases k:x.kind=1\/x.kind=2
  .have E:r8 V x=(decide (x.token≥1) && decide (x.token<=2147483648)):=ag k;rw[E]at f;rw[ag (I.2 k)];have f:=f m F;refine⟨_,ak i,?_⟩;have O:decide (((x.s p c q d).f2:Int)≥1)=decide (x.token≥1):=Ask.EY x.token 1;rw[O];refine py (λz=> ?_) (λz=> ?_) (b:=decide (x.token≥1))
   .rw[z]at f⊢;rw[ag rfl];refine⟨_,ak i,?_⟩;have A:decide (((x.s p c q d).f2:Int)<=2147483648)=decide (x.token<=2147483648):=Bn.lG x.token 2147483648;rw[A];exact f
   .rw[z]at f⊢;rw[dB];exact f
  rw[af (λe=>k (I.1 e))];by_cases j:x.kind=3
  .have E:r8 V x=isS x.ses:=(af k).trans (ag j);rw[E]at f;rw[ag (bq.2 j)];exact⟨_,ak i,Pb x.ses ⟨_,rfl,f m F⟩⟩
  rw[af (λe=>j (bq.1 e))];by_cases n:x.kind=4
  .have E:r8 V x=(isS x.ses && jS x.jr && (x.jr.kind !=11) && (x.jr.kind !=12)):=(af k).trans ((af j).trans (ag n));rw[E]at f;rw[ag (bq.2 n)];refine⟨_,ak i,Pb x.ses ⟨_,rfl,?_⟩⟩;refine py (λw=> ?_) (λw=> ?_) (b:=isS x.ses)
   case refine_2=>rw[w]at f⊢;rw[dB];exact f m F
   rw[w]at f⊢;rw[ag rfl];refine Mr i (Ask.fK x.jr (Z.frame F bX) λB o=>⟨_,rfl,?_⟩);have G:=o.get i id;have f:=f B (F.tt o);refine py (λy=> ?_) (λy=> ?_) (b:=jS x.jr)
   case refine_2=>rw[y]at f⊢;rw[dB];exact f
   rw[y]at f⊢;rw[ag rfl];refine⟨_,ak G,?_⟩;refine py (λl=> ?_) (λl=> ?_) (b:=x.jr.kind !=11)
   .rw[l]at f;rw[ag l];exact⟨_,ak G,f⟩
   .rw[l]at f;rw[af (by show¬(x.jr.kind !=11)=true;rw[l];decide)];exact f
  rw[af (λe=>n (bq.1 e))];by_cases r:x.kind=5
  .have E:r8 V x=rT V x.data:=(af k).trans ((af j).trans ((af n).trans (ag r)));rw[E]at f;rw[ag (bq.2 r)];exact⟨_,_,_,ak i,Mq U (u.tt F) (X.on F) (M.frame F bX) rfl cap λB o=>⟨_,rfl,f B (F.tt o)⟩⟩
  rw[af (λe=>r (bq.1 e))];have E:r8 V x=decide (x.kind=6\/x.kind=7\/x.kind=8):=(af k).trans ((af j).trans ((af n).trans (af r)));rw[E]at f;have f:=f m F;refine⟨_,ak i,?_⟩;by_cases s:x.kind=6
  .rw[ag (bq.2 s)];rw[aw (.inl s)]at f;exact f
  rw[af (λe=>s (bq.1 e))];refine⟨_,ak i,?_⟩;by_cases t:x.kind=7
  .rw[ag (bq.2 t)];rw[aw (.inr (.inl t))]at f;exact f
  rw[af (λe=>t (bq.1 e))];refine⟨_,ak i,?_⟩;have A:decide (x.kind=6\/x.kind=7\/x.kind=8)=(x.kind==8):=by by_cases T:x.kind=8<;>simp[s,t,T]
  rw[A]at f;exact f
 by_cases k:x.kind=1
 .rw[ag (bq.2 k)];exact J _ ⟨λ_=> .inl k,λ_=>bq.2 k⟩
 rw[af (λe=>k (bq.1 e))];exact J _ ⟨λe=> .inr (bq.1 e),λe=>bq.2 (e.resolve_left k)⟩
theorem DM(x:oS)(U:Cb.lO V a)(u:Fr No a h)(M:lM.Mx h)(s:Row h p (bc x.jr.mz))(n:Row h q (bc x.data))(cap:x.data.length<=d)(e: iq h R (.B (mU V x))):Cl 11 #[(x.s p c q d).agg] h R:=by
 refine Hz.walk (aR.da λb w G k j=>⟨_,ak k,?_⟩);unfold mU at e;have E:decide (((x.s p c q d).f0:Int)<=1099511627776)=decide (x.now<=1099511627776):=Bn.lG x.now 1099511627776;rw[E];refine py (λl=> ?_) (λl=> ?_) (b:=decide (x.now<=1099511627776))
 case refine_2=>rw[l]at e⊢;rw[dB];exact e w j
 rw[l]at e⊢;rw[ag rfl];have t:=s.frame j bX;have o:=n.frame j bX;refine aR.fN (x:=x.s p c q d) k (aR.fN (x:=x.s p c q d) k (Q7 x t o λI A f q2 v B s2 i=>aR.ex ((rZ x).s A f q2 v) ⟨rfl,i.kp,?_⟩));refine Pa x (rZ x) (t.frame i bX) B (o.frame i bX) s2 λy m=>⟨_,rfl,m.kp,?_⟩
 have F:=j.tt (i.tt m);refine py (λf=> ?_) (λf=> ?_) (b:=decide (x=rZ x))
 case refine_2=>rw[f]at e⊢;rw[dB];exact e y F
 rw[f]at e⊢;rw[ag rfl];exact aR.fN (x:=x.s p c q d) ((i.tt m).get k id) (Ms x U (u.tt F) (M.on F) (s.frame F bX) (n.frame F bX) cap λz r=>⟨_,rfl,r.kp,e z (F.tt r)⟩)

end CI
end
section
open Go.fV
namespace iE
variable {h a:aj} {w r:Nat} {S:Nat→Prop} {bs:cM} {e:Int} {R:fD}
variable {Q:Nat->Prop} {H:aj} {p:ck} {c n:Nat} {K:aj->Prop} {t:cM}
def Wr(h:aj)(w:Nat)(S:Nat->Prop)(bs:cM):Prop:=
 ∃p c,h[w]? =some (.cells #[.bool true,.slice p bs.length c] 152 (0,0))/\fz h p bs.length c 1 (bc bs)/\¬aN p w/\∀x,S x↔x=w\/aN p x
theorem Wr.lt(b:Wr h w S bs): ∀x,S x->x<h.size:=by
 obtain⟨p,c,d,o,_,f⟩:=b;intro x hx;rcases(f x).1 hx with rfl|hx
 .exact aC d
 .exact o.dC hx
theorem Wr.frame(g:Wr h w S bs)(d:Fr Q h H)(f: ∀x,S x->¬Q x):Wr H w S bs:=by
 obtain⟨p,c,i,o,j,b⟩:=g;exact⟨p,c,d.get i (f w ((b w).2 (.inl rfl))),o.frame d (λx k=>f x ((b x).2 (.inr k))),j,b⟩
theorem gL(d: ∀H w S,Wr H w S []->Fr No h H->(∀x,S x->h.size<=x)->R (.P w 0) H):Cl 35 #[] h R:=by
 refine I7.walk (cK ?_);refine d _ _ (λx=>x=h.size) ⟨none,0,bZ,.nil rfl rfl rfl rfl,(λ⟨A,e,_⟩=>by cases e),λx=> ?_⟩ (Fr.push _ _) (λx b=>ae);constructor
 .exact .inl
 .rintro(b|⟨A,e,_⟩)
  .exact b
  .cases e
theorem Wr.store{P:ck}{C:Nat}{b:aj}{cs:cM}(j:h[w]? =some (.C #[.B true,.L p bs.length c] 152 (0,0)))(k: ¬aN p w)(d: ∀x,S x↔x=w\/aN p x)(o:fz b P (bs.length+n) C 1 (bc bs++bc cs))(f:Fr (aN p) h b)(g: ∀x,aN P x->aN p x\/h.size<=x)(u:n=cs.length)(q: ∀H s,Wr H w s (bs++cs)->Step S h s H->K H):aT b (AA w 1) (.L P (bs.length+n) C) K:=by
 subst u;have m:=f.get j k;have A:=aC j;have l: ¬aN P w:=λhx=>(g w hx).elim k (λi=>ae)
 refine bD m bV λH v y z=> ?_
 have F:Fr (λx=>x=w) b H:=Fr.of_eq y z;refine q H (λx=>x=w\/aN P x) ⟨P,C,?_,?_,l,λx=>fi⟩ ⟨?_,?_⟩
 .rw[v,au];rfl
 .rw[au,kP];exact o.frame F (λx hx e=>l (e▸hx))
 .exact f.trans F (λx _ hx=>(d x).2 (.inr hx)) (λx _ hx=>(d x).2 (.inl hx))
 .rintro x (hx|hx)
  .exact .inl ((d x).2 (.inl hx))
  .exact(g x hx).imp (λi=>(d x).2 (.inr i)) id
theorem Wr.push{x:Int}{b:UInt8}(i:Wr h w S bs)(D:bs.length<=1099511627786)(A:x=(b.toNat:Int))(u: ∀H s,Wr H w s (bs++ [b])->Step S h s H->K H):
  ∃(p:ck)(l c:Nat),aY h (AA w 1)=some (.L p l c)/\
  bh h (.C #[.int .u8 x] 5) λb j=>
  aW Tryz.prog (Builtin.append_ #[26,26] 26 #[.L p l c,.L (Sa b 0) 1 1]) j λv k=>
  ∃(q:ck)(m d:Nat),v=.L q m d/\aT k (AA w 1) (.L q m d) K:=by
 obtain⟨p,c,f,o,z,y⟩:=i;refine⟨p,bs.length,c,ak f,?_⟩;refine iS tU uU o rfl (λv g=>by simp at g;subst g;rfl) ae ae ?_;intro P C B O F G;subst A;exact⟨_,_,_,rfl,Wr.store (cs:= [b]) f z y O F G rfl u⟩
def Vx(a:aj)(w:Nat)(s:Nat->Prop)(bs:cM)(b:Nat)(n:Int)(h:aj):Prop:=
 ∃(m:Nat)(S:Nat->Prop)(d:cM),n=(m:Int)/\m<18446744073709551616/\Wr h w S (bs++d)/\d++ct m=ct b/\Step s a S h
theorem fM{n:Int}(k:Nat)(g:Wr h w S bs)(E:bs.length<=1099511627776)(e:n=(k:Int))(A:k<18446744073709551616)(z: ∀H l,Wr H w l (bs++ct k)->Step S h l H->R (.P w 0) H):Cl 37 #[.P w 0,.U n] h R:=by
 subst e;refine vH.walk ?_;obtain⟨p,c,q,_⟩:=id g;refine aH.of λJ y=>⟨true,ak q,?_⟩
 subst y;simp only[cU,aq,aL];clear q;refine⟨Vx h w S bs k,λn _=>n.toNat,⟨k,S, [],rfl,A,cI g,rfl,Step.refl _ _⟩,?_⟩;rintro _ C ⟨m,B,d,rfl,v,i,b,x⟩;have D:d.length<=10:=by
  have:=bQ List.length b;rw[au]at this;have:=(bU k).2;omega
 by_cases u:(m:Int)>127
 .simp only[u,bu,ba];refine i.push (by rw[au];omega) (TU m) λo s j f=> ?_
  rw[U5];refine⟨⟨m/128,s,d++ [UInt8.ofNat (m%128+128)],rfl,ae,by rwa[di]at j,?_,x.trans f⟩,?_⟩
  .rw[<-b,yr v,gk];simp
  .show Int.toNat ((m/128:Nat):Int)<Int.toNat (m:Int);omega
 .simp only[u,bg,aq,aL];refine i.push (by rw[au];omega) (b:=UInt8.ofNat m) (by rw[mn,gJ]) λo s j f=> ?_
  refine z o s ?_ (x.trans f);rwa[<-b,yr v,dB,<-di]
theorem Vy(n:Int)(b:n<=9223372036854775807):IntKind.wrap .u64 (if 0>n then 0 else n)=((gC n:Nat):Int):=by
 unfold gC;split
 .rw[wrap_u64 ae ae];omega
 .rw[wrap_u64 ae ae];omega
theorem im{n:Int}(b:Wr h w S bs)(g:bs.length<=1099511627776)(i:n<=9223372036854775807)(f: ∀H s,Wr H w s (bs++ct (gC n))->Step S h s H->R (.P w 0) H):Cl 38 #[.P w 0,.I n] h R:=
 vI.walk (fM (gC n) b g (Vy n i) (by unfold gC;omega) λH s d j=>⟨_,rfl,f H s d j⟩)
theorem KP{b:Bool}(g:Wr h w S bs)(j:bs.length<=1099511627776)(i: ∀H s,Wr H w s (bs++ct (bit b))->Step S h s H->R (.P w 0) H):Cl 60 #[.P w 0,.B b] h R:=by
 refine uD.walk ?_;cases b;all_goals simp only[ba,aq,aL]
 .exact fM 0 g j rfl ae λH s d f=>⟨_,rfl,i H s d f⟩
 .exact fM 1 g j rfl ae λH s d f=>⟨_,rfl,i H s d f⟩
theorem nL(k:Wr h w S bs)(B:bs.length<=1099511627776)(E:Row h p (bc t))(C:n=t.length)(X:t.length<=1099511627776)(D: ∀x,aN p x->t≠ []->¬S x)(z: ∀H s,Wr H w s (bs++dW t)->Step S h s H->R (.P w 0) H):Cl 36 #[.P w 0,.L p n c] h R:=by
 subst C;refine uE.walk (fM t.length k B (wrap_u64 ae ae) ae λU P l j=>⟨_,rfl,?_⟩);obtain⟨q,d,b,o,I,G⟩:=l;refine aH.of λJ f=>⟨true,ak b,?_⟩
 subst f;refine aH.of λJ f=> ?_
 simp only[ba];subst f;refine⟨q,_,d,ak b,?_⟩;have V:=(bU t.length).2;rw[au];rw[au]at o;refine dH tU uU o (by
  by_cases i:t= []
  .rw[i];exact .inl rfl
  .exact E.frame j.fr (λA e L=>D _ ⟨A,e,rfl⟩ i L)) (by rw[jP,cp]) (rJ t) ae ae ?_
 intro Z T H O _ F g;refine⟨_,_,_,rfl,?_⟩;rw[au]at b;have:=Wr.store (n:=t.length) (cs:=t) (K:=λy=>R (Value.pointer (some { block:=w,off:=0 })) y) (bs:=bs++ct t.length) (by rw[au];exact b) I G (by rw[au];exact O) F g rfl λv u m M=> ?_
 .rw[au]at this;exact this
 .exact z v u (by unfold dW;rwa[di]at m) (j.trans M)
theorem oC(b:Wr h w S bs)(f:bs.length<=1099511627776)(j:Row h p (bc t))(g:n=t.length)(k:t.length<=1099511627776)(i: ∀x,aN p x->¬S x)(d: ∀H s,Wr H w s (bs++dW t)->Step S h s H->R (.P w 0) H):Cl 36 #[.P w 0,.L p n c] h R:=
 nL b f j g k (λx l _=>i x l) d
theorem iM(b:Wr h w S bs)(j:bs.length<=70368744177664)(i: ∀P C H,fz H P bs.length C 1 (bc bs)->Fr No h H->(∀x,aN P x->h.size<=x)->R (.L P bs.length C) H):Cl 39 #[.P w 0] h R:=by
 obtain⟨p,c,d,o,l,k⟩:=b;exact te.walk ⟨p,_,c,ak d,gP o.iy rfl j λP C H O f g=>⟨_,_,_,rfl,i P C H O f g⟩⟩
def Rd(h:aj)(r:Nat)(S:Nat->Prop)(e:Int)(bs:cM):Prop:=
 ∃p c,h[r]? =some (.cells #[.int .i64 e,.bool true,.slice p bs.length c] 279 (0,0))/\fz h p bs.length c 1 (bc bs)/\¬aN p r/\S r/\(∀x,aN p x->S x)/\∀x,S x->x<h.size
theorem Rd.lt(b:Rd h r S e bs): ∀x,S x->x<h.size:=by
 obtain⟨p,c,_,_,_,_,_,d⟩:=b;exact d
theorem Rd.self(b:Rd h r S e bs):S r:=by
 obtain⟨p,c,_,_,_,d,_,_⟩:=b;exact d
theorem Rd.frame(j:Rd h r S e bs)(b:Fr Q h H)(i: ∀x,S x->¬Q x):Rd H r S e bs:=by
 obtain⟨p,c,l,o,m,f,g,k⟩:=j;exact⟨p,c,b.get l (i r f),o.frame b (λx d=>i x (g x d)),m,f,g,λx d=>cA (k x d) b.1⟩
theorem vT(l:Row h p (bc bs))(k:n=bs.length)(j:bs.length<=70368744177664)(i: ∀H r S,Rd H r S 0 bs->Fr No h H->(∀x,S x->h.size<=x)->R (.P r 0) H):Cl 123 #[.L p n c] h R:=by
 refine GQ.walk (gP l k j λP C d o f g=>⟨_,_,_,rfl,cK ?_⟩);refine i _ _ (λx=>h.size<=x/\x<=d.size) ⟨P,C,bZ,o.frame (Fr.push (S:=λ_=>False) _ _) bX,?_,⟨f.1,bm _⟩,?_,?_⟩ (Fr.on f (Fr.push _ _)) (λx b=>b.1)
 .intro b;have:=o.dC b;omega
 .intro x b;have:=o.dC b;exact⟨g x b,ae⟩
 .intro x b;rw[dk];omega
theorem mV{E:Int}(g:Rd h r S e bs)(b: ∀H,Rd H r S (N8 e E) bs->Fr (λx=>x=r) h H->R (.T #[]) H):Cl 183 #[.P r 0,.I E] h R:=by
 obtain⟨p,c,i,o,j,l,m,q⟩:=id g;refine vJ.walk ⟨e,ak i,?_⟩;unfold N8 at b;by_cases a:e=0
 .subst a;simp only[fy,ba];refine bD i bV λH s k u=> ?_
  have f:Fr (λx=>x=r) h H:=Fr.of_eq k u;exact b H ⟨p,c,s,o.frame f (λx d e=>j (e▸d)),j,l,m,λx d=>by rw[k];exact q x d⟩ f
 .simp only[db,a,aL];simp only[a,aL]at b;exact b h g (Fr.refl _ _)
theorem Ff(d:Rd h r S e bs)(f:R (.B (e==0)) h):Cl 182 #[.P r 0] h R:=by
 obtain⟨p,c,b,o,k,g,i,j⟩:=d;exact uH.walk ⟨true,ak b,e,ak b,f⟩
def Uc(a:aj)(r:Nat)(S:Nat->Prop)(bs:cM)(n i:Int)(h:aj):Prop:=
 ∃(k A:Nat)(b:cM),i=(k:Int)/\n=(A:Int)/\k<=10/\A<2 ^ (7*k)/\A<18446744073709551616/\Rd h r S 0 b/\Fr (λx=>x=r) a h/\Nz k A b=Nz 0 0 bs
theorem zU(v:Rd h r S e bs)(f: ∀H,Rd H r S (fH e bs).2.1 (fH e bs).2.2->Fr (λx=>x=r) h H->R (.U ((fH e bs).1:Int)) H):
  Cl 124 #[.P r 0] h R:=by
 refine vK.walk (aH.of λk' I=> ?_);by_cases J:e=0
 .subst J;unfold fH at f;rw[ag rfl]at f;refine⟨Uc h r S bs,λ_ h' _=>11 - h'.toNat,⟨0,0,bs,rfl,rfl,ae,bV,ae,v,Fr.refl _ _,rfl⟩,?_⟩;rintro _ _ m ⟨k,l',d,rfl,rfl,n',ha,m',y,V,g⟩;refine Ff y ⟨_,rfl,?_⟩;simp only[fy,ba];obtain⟨p,c,j,o,L,h1,b',X⟩:=id y;refine⟨p,_,c,ak j,?_⟩;cases d with
  |nil=>
   simp only[bG,Int.natCast_zero,fy,ba];refine mV y λh4 H4 f4=>⟨rfl,?_⟩
   subst I;rw[Nz]at g;rw[<-g]at f;exact f h4 H4 (V.tt f4)
  |cons b d=>
   have a':((((b::d).length:Nat):Int)==0)=false:=by simp only[bf,dA,ff];omega
   simp only[a',aq,aL];refine⟨p,_,c,ak j,⟨ae,by simp only[bf];omega⟩,?_⟩;obtain⟨ab,c',rfl⟩:=o.some (by rw[jP];simp);refine ax.2 ⟨(b.toNat:Int),o.cell rfl,some (AA ab c'),_,c,ak j,⟨ae,by simp only[bf];omega⟩,?_⟩;have O:=o.sub (l:=1) (u:=(b::d).length) bV (bm _);have U:((bc (b::d)).take ((b::d).length*1)).drop (1*1)=bc d:=by
    simp only[cp];rw[bn (by rw[jP];exact bm _)];rfl
   rw[U]at O;have P:(b::d).length - Int.toNat 1=d.length:=bV
   rw[P];have T:(b::d).length - 1=d.length:=bV
   rw[T]at O;refine bD j bV λq k1 M k3=> ?_
   have G:Fr (λx=>x=r) m q:=Fr.of_eq M k3;have z:Rd q r S 0 d:=⟨_,_,k1,O.frame G (λx i e=>L (e▸nf i)),λi=>L (nf i),h1,λx i=>b' x (nf i),λx i=>by rw[M];exact X x i⟩;have E:=V.tt G;clear O k1 M k3 G U P T a' o j b' X L;have w1:IntKind.wrap .i64 ((k:Int)*7)=((7*k:Nat):Int):=by rw[bC ae ae];omega
   have w2:IntKind.wrap .i64 (7*(k:Int))=((7*k:Nat):Int):=by rw[bC ae ae];omega
   have w3:IntKind.wrap .i64 ((k:Int)+1)=((k+1:Nat):Int):=by rw[bC ae ae];omega
   have j:=b.toNat_lt;rw[Nz]at g;refine aH.of λJ1 g'=> ?_
   have F:J1 (decide (k=10\/(k=9/\b.toNat>1)\/(b.toNat=0/\k>0))) q:=by
    subst g';by_cases s:k=10\/(k=9/\b.toNat>1)\/(b.toNat=0/\k>0)
    .simp only[s,bu,ba];rw[ag s]at g;refine mV z λh7 H7 f7=>⟨rfl,?_⟩
     subst I;rw[<-g]at f;exact f h7 H7 (E.tt f7)
    .simp only[s,bg,aq,aL];rw[af s]at g;rw[w2,w3,dB,SE,SF];have hd:b.toNat%128*2 ^ (7*k)<18446744073709551616:=by
      by_cases Z:k=9
      .subst Z;have:b.toNat%128<=1:=ae
       have:=cZ (2 ^ (7*9)) this;omega
      .have h8:k<=8:=ae
       have p1:(2:Nat) ^ (7*k)<=2 ^ 56:=gv ae ae;have p2:b.toNat%128<=127:=ae
       have:=Nat.mul_le_mul p2 p1;omega
     have j':IntKind.wrap .u64 ((b.toNat%128:Nat):Int)=((b.toNat%128:Nat):Int):=qe ae;have i':7*k<=64:=ae
     rw[j',SG ha hd i'];by_cases u:b.toNat<128
     .simp only[u,bu,ba];rw[ag u]at g;rw[<-g]at f;exact f q z E
     .simp only[u,bg,aq,aL];rw[af u]at g;have Z:k<=8:=ae
      have p3:(2:Nat) ^ (7*(k+1))=128*2 ^ (7*k):=by rw[Nat.mul_add,Nat.pow_add,Nat.mul_comm]
      have p4:b.toNat%128+1<=128:=ae
      have p5:=cZ (2 ^ (7*k)) p4;rw[eW]at p5;have p6:(2:Nat) ^ (7*(k+1))<=2 ^ 63:=gv ae ae;refine⟨⟨k+1,_,d,rfl,rfl,ae,ae,ae,z,E,g⟩,?_⟩;show 11 - Int.toNat ((k+1:Nat):Int)<11 - Int.toNat (k:Int);omega
   rw[w1];by_cases A:k=10
   .subst A;simpa using F
   .have d':((k:Int)==10)=false:=by simp only[dA,ff];omega
    simp only[d',aq,aL];by_cases B:k=9
    .subst B;by_cases D:b.toNat>1
     .have l:(b.toNat:Int)>1:=ae
      have C: ¬b.toNat=0:=ae
      simpa[D,l,C]using F
     .have l: ¬(b.toNat:Int)>1:=ae
      by_cases C:b.toNat=0
      .simpa[D,l,C]using F
      .simpa[D,l,C]using F
    .have e':(((7*k:Nat):Int)==63)=false:=by simp only[dA,ff];omega
     simp only[e',aq,aL];by_cases C:b.toNat=0
     .have c5:decide ((k:Int)>0)=decide (k>0):=bV
      simp only[C,Int.natCast_zero,fy,ba,c5];simpa[A,B,C]using F
     .have f':((b.toNat:Int)==0)=false:=by simp only[dA,ff];omega
      simp only[f',aq,aL];simpa[A,B,C]using F
 .refine⟨λ_ _ m=>m=h,λ_ _ _=>0,rfl,?_⟩;rintro _ _ m rfl;refine Ff v ⟨_,rfl,?_⟩;have:(e==0)=false:=by simpa using J
  simp only[this,aq,aL];subst I;unfold fH at f;rw[af J]at f;exact f _ v (Fr.refl _ _)
theorem Q8(T:Nat){t:Int}(m:t=(T:Int))(i:Rd h r S e bs)(b: ∀H,Rd H r S (jX T e bs).2.1 (jX T e bs).2.2->Fr (λx=>x=r) h H->R (.U ((jX T e bs).1:Int)) H):
  Cl 184 #[.P r 0,.U t] h R:=by
 subst m;refine rX.walk (zU i λk d f=>⟨_,rfl,?_⟩);unfold jX at b;by_cases g:(fH e bs).1>T
 .have:((fH e bs).1:Int)>(T:Int):=ae
  simp only[this,bu,ba];rw[ag g]at b;exact mV d λl j F=>⟨rfl,b l j (f.tt F)⟩
 .have: ¬((fH e bs).1:Int)>(T:Int):=ae
  simp only[this,bg,aq,aL];rw[af g]at b;exact b k d f
theorem Fh(b:Rd h r S e bs)(i: ∀H,Rd H r S (me e bs).2.1 (me e bs).2.2->Fr (λx=>x=r) h H->R (.I ((me e bs).1:Int)) H):
  Cl 125 #[.P r 0] h R:=
 vL.walk (Q8 1099511627776 rfl b λg d f=>⟨_,rfl,by
  have:=Gt 1099511627776 e bs;rw[bC ae ae];exact i g d f⟩)
theorem Pc(z:Rd h r S e bs)(hl:bs.length<=70368744177664)(f: ∀H p c,Rd H r S (mq e bs).2.1 (mq e bs).2.2->fz H p (mq e bs).1.length c 1 (bc (mq e bs).1)->(∀x,aN p x->h.size<=x)->Fr (λx=>x=r) h H->R (.slice p (mq e bs).1.length c) H):
  Cl 126 #[.P r 0] h R:=by
 refine uJ.walk (zU z λT g F=>⟨_,rfl,Ff g ⟨_,rfl,?_⟩⟩);unfold mq at f;have c':=IU e bs;have b':(fH e bs).2.2.length<=bs.length:=by
  unfold fH;split
  .exact Ez bs 0 0
  .exact bm _
 generalize fH e bs=D at*;obtain⟨n,E,d⟩:=D;dsimp only at*;by_cases a:E=0
 .subst a;simp only[fy,cU,aq,aL];obtain⟨p,c,j,o,hr,k1,k2,k3⟩:=id g;refine⟨p,_,c,ak j,?_⟩;rw[ag rfl]at f;rw[wrap_u64 (n:=(d.length:Int)) ae ae];by_cases s:n>d.length
  .have:(n:Int)>(d.length:Int):=ae
   simp only[this,bu,ba];rw[ag s]at f;exact mV g λU A M=>⟨rfl,f U none 0 A (.nil rfl rfl rfl rfl) (λx ⟨I,e,_⟩=>by cases e) (F.tt M)⟩
  .have: ¬(n:Int)>(d.length:Int):=ae
   simp only[this,bg,aq,aL];rw[af s]at f;have hc:=o.le;refine⟨p,_,c,ak j,ae,?_⟩;have O:=o.sub (l:=0) (u:=n) ae ae;simp only[cp,hN,QG]at O;have L:(d.take n).length=n:=by rw[bw];omega
   refine gP O.iy (by rw[L];omega) ae λp' J V o4 l G=>⟨_,_,_,rfl,?_⟩
   have B:=g.frame l bX;obtain⟨P,C,q,o2,u,X,Z,a'⟩:=B;refine⟨P,_,C,ak q,ae,?_⟩;refine bD q bV λm q1 y q3=> ?_
   have i:Fr (λx=>x=r) V m:=Fr.of_eq y q3;have v:=o2.sub (l:=n) (u:=d.length) ae (bm _);rw[cp,cp,<-jP d,dT,jP,QH]at v;have k:(d.drop n).length=d.length - n:=bV
   refine f m p' J ⟨cT P C n 1,C - n,?_,?_,λb=>u (nf b),X,λx b=>Z x (nf b),λx b=>by rw[y];exact a' x b⟩ (o4.frame i (λx b e=> ?_)) (λx b=> ?_) (F.tt ((l.mono λ_ _=>False.elim).tt i))
   .rw[k];simpa using q1
   .rw[k];exact v.frame i (λx b e=>u (e▸nf b))
   .have:=G x b;have:=aC j;omega
   .have:=G x b;have:=F.1;omega
 .have:(E==0)=false:=by simpa using a
  simp only[this,dS,ba];rw[af a]at f;exact f T none 0 g (.nil rfl rfl rfl rfl) (λx ⟨I,e,_⟩=>by cases e) F
theorem Q9(g:Rd h r S e bs)(d:R (.I (zN e bs)) h):Cl 127 #[.P r 0] h R:=by
 obtain⟨p,c,f,o,j,k,l,m⟩:=g;refine vM.walk (aH.of λJ i=>⟨true,ak f,?_⟩);subst i;simp only[cU,aq,aL];refine⟨e,ak f,?_⟩;unfold zN at d;by_cases a:e=0
 .subst a;simp only[bne_self_eq_false,aq,aL];refine⟨p,_,c,ak f,?_⟩;rw[ag rfl]at d;cases bs with
  |nil=>exact d
  |cons b bs=>
   have:(((b::bs).length:Nat):Int)>0:=by simp only[bf];omega
   simp only[this,bu,ba];rwa[af bV]at d
 .have:(e !=0)=true:=by simpa using a
  simp only[this,ba];rw[af a]at d;exact⟨e,ak f,d⟩

end iE
end
section
open Go.fV
namespace iE
variable {h a H:aj} {p:ck} {l c:Nat} {B:List (cM)}
abbrev jn(n:BV):List Value:= [n.val]
theorem tN:oN Tryz.prog 53 26 1 24 (.Z):=⟨dz,dz,rfl⟩
theorem uN:Tryz.prog.underlying 53=some (.slice 26):=dz
theorem jH(n:BV):(jn n).length=1:=rfl
theorem Bo(x:List BV): ∀v∈x.flatMap jn,gw v=true:=by
 intro v d;obtain⟨A,_,b⟩:=List.mem_flatMap.1 d;simp at b;subst b;rfl
def BL(H h:aj)(p:ck)(l c:Nat)(B:List (cM)):Prop:=
 ∃(X:List BV)(D:Nat->Prop),l=X.length/\fz h p l c 1 (X.flatMap jn)/\X.map BV.b=B/\(∀x∈X,x.ok h D)/\(∀y,D y->H.size<=y/\y<h.size/\¬aN p y)/\∀y,aN p y->H.size<=y
theorem BL.nil:BL H h none 0 0 []:=⟨[],λ_=>False,rfl,.nil rfl rfl rfl rfl,rfl,(λx b=>by cases b),(λy d=>d.elim),λy ⟨A,e,_⟩=>by cases e⟩
theorem BL.on(e:BL H h p l c B)(f:Fr No h a):BL H a p l c B:=by
 obtain⟨X,D,g,i,j,k,b,m⟩:=e;exact⟨X,D,g,i.frame f bX,j,λx n=>(k x n).frame f bX,λy d=>⟨(b y d).1,cA (b y d).2.1 f.1,(b y d).2.2⟩,m⟩
theorem BL.len(b:BL H h p l c B):l=B.length:=by
 obtain⟨x,D,d,_,e,_⟩:=b;rw[d,<-e,ay]
theorem BL.lt(b:BL H h p l c B){y:Nat}(e:aN p y):y<h.size:=by
 obtain⟨x,D,_,d,_⟩:=b;exact d.dC e
theorem BL.mono{b:aj}(g:BL b h p l c B)(f:H.size<=b.size):BL H h p l c B:=by
 obtain⟨x,D,b,i,j,k,e,m⟩:=g;exact⟨x,D,b,i,j,k,λy d=>⟨cE f (e y d).1,(e y d).2⟩,λy d=>cE f (m y d)⟩
theorem BL.push{b:cM}{q:ck}{d:Nat}{K:fD}(m:BL H h p l c B)(up:H.size<=h.size)(o:fz h q b.length d 1 (bc b))(j: ∀y,aN q y->H.size<=y/\¬aN p y)(w:l<=1000000)(u: ∀P C a,BL H a P (l+1) C (B++ [b])->Fr (aN p) h a->(∀y,aN P y->aN p y\/h.size<=y)->K (.L P (l+1) C) a):
  bh h (.C #[.L q b.length d] 26) λn i=>aW Tryz.prog (Builtin.append_ #[53,53] 53 #[.L p l c,.L (Sa n 0) 1 1]) i K:=by
 obtain⟨X,D,i,h2,r,s,e,t⟩:=m;refine iS tN uN h2 rfl (λv k=>by simp at k;subst k;rfl) ae ae ?_;intro P C a O f g;have lt: ∀y,aN q y->y<h.size:=λy hy=>o.dC hy
 refine u P C a ⟨X++ [⟨q,d,b⟩],λy=>D y\/aN q y,by rw[au,i];rfl,?_,?_,?_,?_,?_⟩ f g
 .rw[cg];simpa using O
 .rw[aV,r];rfl
 .intro x hx;rcases bE.1 hx with hx|hx
  .exact((s x hx).frame f (λy hy=>(e y hy).2.2)).mono (λy=> .inl)
  .simp at hx;subst hx;exact BV.jy (o.frame f (λy hy=>(j y hy).2)) (λy=> .inr)
 .have z:=f.1;rintro y (hy|hy)
  .exact⟨(e y hy).1,bR ((e y hy).2.1),λhx=>(g y hx).elim (e y hy).2.2 (λh2=>bR ((e y hy).2.1))⟩
  .exact⟨(j y hy).1,bR (lt y hy),λhx=>(g y hx).elim (j y hy).2 (λh2=>bR (lt y hy))⟩
 .intro y hy;rcases g y hy with h2|h2
  .exact t y h2
  .omega
theorem BL.rows(d:BL H h p l c B): ∃X:List BV,l=X.length/\Row h p (X.flatMap jn)/\X.map BV.b=B/\l<=c/\∀x∈X,Row h x.p (bc x.b):=by
 obtain⟨X,D,e,b,f,g,j,k⟩:=d;exact⟨X,e,b.iy,f,b.le,λx i=>(g x i).row⟩

end iE
end
section
variable {h:aj} {R:fD}
variable {a:Nat} {x X i k:Int}
theorem Mt.walk(d:bh h (.map #[] 0) λb H=>bh H (.C #[.Z,.map (some b)] 162) λB c=>R (.P B 0) c):Cl 45 #[] h R:=aP (lq ll) Tryz.func45 d
theorem xp.walk(H: ∃t,Cc h a 1 (.map t)/\R (.B (!t.isNone)) h):Cl 177 #[.P a 0] h R:=aP (lq ll) Tryz.func177 H
theorem yS.walk(H: ∃b t T,Cc h a 0 (.L b t T)/\R (.I ((t:Nat):Int)) h):Cl 176 #[.P a 0] h R:=aP (lq (sq (lq (cq ll lf)) ll)) Tryz.func176 H
theorem HA.walk{y:Int}{d:Int}(f:bh h (.C #[.I x,.U X] 271) λb e=>bh e (.C #[.I y,.U d] 271) λB H=>Hu H b 1 λl=> ∃c,Cc H B 1 (.U c)/\if(decide (l<c))then R (.B true) H else Hu H b 1 λg=> ∃t,Cc H B 1 (.U t)/\if(g==t)then Hi H b 0 λj=> ∃T,Cc H B 0 (.I T)/\R (.B (decide (j<T))) H else R (.B false) H):Cl 255 #[.agg #[.I x,.U X],.agg #[.I y,.U d]] h R:=aP (lq ll) Tryz.func255 f
theorem yT.walk(f:bh h (.C #[.I x,.U X] 271) λb H=>Hl H a 0 λm l _=>Hi H b 0 λT=>Hu H b 1 λg=>Bd i l/\aM m λA=>aT H (A.add (toNat i*2)) (.I T) λd=>aT d ((A.add (toNat i*2)).add 1) (.U g) λc=> ∃t,Cc c a 1 (.map t)/\Hi c b 0 λj=>aW Tryz.prog (Instr.mapUpdate 109 (.map t) (.I j) (.I i)) c λ_ e=>R (.T #[]) e):Cl 178 #[.P a 0,.I i,.agg #[.I x,.U X]] h R:=aP (lq (sq (pN 8) (pN 8))) Tryz.func178 f
theorem Bp.walk (hv: ∃(I:Int->aj->Prop)(P:Int->aj->Nat),(I i h)/\∀(c:Int)(H:aj),I c H->aH (λ(m':Bool) (d:aj)=>if m' then aH (λ(u':ck) (v':ck) (C:aj)=>aM u' λG=>kR C G λn'=>gK C (G.add 1) λo'=>Cl 178 #[.P a 0,.I (wrap .i64 (Int.tdiv (wrap .i64 (c - 1)) 2)),.agg #[.I n',.U o']] C λr' D=>r'=.T #[]/\aM v' λK=>kR D K λp'=>gK D (K.add 1) λq'=>Cl 178 #[.P a 0,.I c,.agg #[.I p',.U q']] D λs' O=>s'=.T #[]/\(I (wrap .i64 (Int.tdiv (wrap .i64 (c - 1)) 2)) O/\P (wrap .i64 (Int.tdiv (wrap .i64 (c - 1)) 2)) O<P c H)) (λF=>Hl d a 0 λs r u=>Bd c r/\aM s λg=>kR d (g.add (toNat c*2)) λj=>gK d ((g.add (toNat c*2)).add 1) λl=>Hl d a 0 λf e m=>Bd (wrap .i64 (Int.tdiv (wrap .i64 (c - 1)) 2)) e/\aM f λA=> ∃t,aY d (A.add (toNat (wrap .i64 (Int.tdiv (wrap .i64 (c - 1)) 2))*2))=some (.I t)/\∃T,aY d ((A.add (toNat (wrap .i64 (Int.tdiv (wrap .i64 (c - 1)) 2))*2)).add 1)=some (.U T)/\(bh d (.C #[.I 0,.U 0] 271) λb p=>dP (A.add (toNat (wrap .i64 (Int.tdiv (wrap .i64 (c - 1)) 2))*2)) [.I t,.U T] 0 p/\Cc p a 0 (.L f e m)/\dP (g.add (toNat c*2)) [.I j,.U l] 0 p/\Cc p a 0 (.L s r u)/\bh p (.C #[.I 0,.U 0] 271) λB q=>dP (A.add (toNat (wrap .i64 (Int.tdiv (wrap .i64 (c - 1)) 2))*2)) [.I t,.U T] 0 q/\Cc q a 0 (.L f e m)/\dP (g.add (toNat c*2)) [.I j,.U l] 0 q/\Cc q a 0 (.L s r u)/\aT q (AA b 0) (.I j) λg'=>aT g' (AA b 1) (.U l) λE=>dP (A.add (toNat (wrap .i64 (Int.tdiv (wrap .i64 (c - 1)) 2))*2)) [.I t,.U T] 0 E/\Cc E a 0 (.L f e m)/\aT E (AA B 0) (.I t) λb'=>aT b' (AA B 1) (.U T) λc'=>F (Sa b 0) (Sa B 0) c')/\(bh d (.C #[.I 0,.U 0] 271) λv n=>dP (A.add (toNat (wrap .i64 (Int.tdiv (wrap .i64 (c - 1)) 2))*2)) [.I t,.U T] 0 n/\Cc n a 0 (.L f e m)/\dP (g.add (toNat c*2)) [.I j,.U l] 0 n/\Cc n a 0 (.L s r u)/\bh n (.C #[.I 0,.U 0] 271) λw o=>dP (A.add (toNat (wrap .i64 (Int.tdiv (wrap .i64 (c - 1)) 2))*2)) [.I t,.U T] 0 o/\Cc o a 0 (.L f e m)/\dP (g.add (toNat c*2)) [.I j,.U l] 0 o/\Cc o a 0 (.L s r u)/\aT o (AA w 0) (.I j) λd'=>aT d' (AA w 1) (.U l) λy=>dP (A.add (toNat (wrap .i64 (Int.tdiv (wrap .i64 (c - 1)) 2))*2)) [.I t,.U T] 0 y/\Cc y a 0 (.L f e m)/\aT y (AA v 0) (.I t) λe'=>aT e' (AA v 1) (.U T) λf'=>F (Sa w 0) (Sa v 0) f')/\True)else R (.T #[]) d) (λJ=>if(decide (c>0))then Hl H a 0 λS Q h'=>Bd c Q/\aM S λL=>kR H (L.add (toNat c*2)) λi'=>gK H ((L.add (toNat c*2)).add 1) λj'=>Hl H a 0 λV U k'=>Bd (wrap .i64 (Int.tdiv (wrap .i64 (c - 1)) 2)) U/\aM V λM=> ∃Z,aY H (M.add (toNat (wrap .i64 (Int.tdiv (wrap .i64 (c - 1)) 2))*2))=some (.I Z)/\∃a',aY H ((M.add (toNat (wrap .i64 (Int.tdiv (wrap .i64 (c - 1)) 2))*2)).add 1)=some (.U a')/\Cl 255 #[.agg #[.I i',.U j'],.agg #[.I Z,.U a']] H λt' z=>Vb t' λl'=>Cc z a 0 (.L V U k')/\Cc z a 0 (.L S Q h')/\J l' z else J false H)):Cl 179 #[.P a 0,.I i] h R:=aP (.scope 0 [(1,.one (.int .i64))] ll (lq (lq (sq (.join [(28,.one (.bool))] (pN 19)) (cq (sq (.join [(5,.one (.ptr)),(6,.one (.ptr))] (.lK (ga 14 0 (.alts (.fork 14 (ga 3 15 .done) (.fork 15 (.op 14 (.op 16 (.op 17 .done))) .gM)))))) (lq (lq ll))) lf))))) Tryz.func179 hv
theorem xq.walk (hv: ∃(I:Int->aj->Prop)(mu:Int->aj->Nat),(I i h)/\∀(c:Int)(E:aj),I c E->∃(y:Int->Int->aj->Prop)(k':Int->Int->aj->Nat),y c 0 E/\∀(B:Int)(t:Int)(H:aj),y B t H->if(decide (t<2))then aH (λ(f':Int) (h':aj)=>(y f' (wrap .i64 (t+1)) h'/\k' f' (wrap .i64 (t+1)) h'<k' B t H)) (λJ=>Bd t 2/\(t=((0:Nat):Int)->aH (λ(X':Bool) (i':aj)=>aH (λ(B':Int) (J':aj)=>J B' J') (λQ=>if X' then Q (wrap .i64 ((wrap .i64 (2*c))+1)) i' else Q B i')) (λP=> ∃n' M l',Cc H a 0 (.L n' M l')/\if(decide ((wrap .i64 ((wrap .i64 (2*c))+1))<((M:Nat):Int)))then Hl H a 0 λr' p' L'=>Bd (wrap .i64 ((wrap .i64 (2*c))+1)) p'/\aM r' λZ=> ∃t',aY H (Z.add (toNat (wrap .i64 ((wrap .i64 (2*c))+1))*2))=some (.I t')/\∃v',aY H ((Z.add (toNat (wrap .i64 ((wrap .i64 (2*c))+1))*2)).add 1)=some (.U v')/\Hl H a 0 λz' x' O'=>Bd B x'/\aM z' λa'=>kR H (a'.add (toNat B*2)) λQ'=>gK H ((a'.add (toNat B*2)).add 1) λS'=>Cl 255 #[.agg #[.I t',.U v'],.agg #[.I Q',.U S']] H λa4 u=>Vb a4 λU'=>Cc u a 0 (.L z' x' O')/\Cc u a 0 (.L r' p' L')/\Cc u a 0 (.L n' M l')/\P U' u else P false H))/\(t=((1:Nat):Int)->aH (λ(Z':Bool) (j':aj)=>aH (λ(C':Int) (K':aj)=>J C' K') (λU=>if Z' then U (wrap .i64 ((wrap .i64 (2*c))+2)) j' else U B j')) (λS=> ∃o' O m',Cc H a 0 (.L o' O m')/\if(decide ((wrap .i64 ((wrap .i64 (2*c))+2))<((O:Nat):Int)))then Hl H a 0 λs' q' M'=>Bd (wrap .i64 ((wrap .i64 (2*c))+2)) q'/\aM s' λb'=> ∃u',aY H (b'.add (toNat (wrap .i64 ((wrap .i64 (2*c))+2))*2))=some (.I u')/\∃w',aY H ((b'.add (toNat (wrap .i64 ((wrap .i64 (2*c))+2))*2)).add 1)=some (.U w')/\Hl H a 0 λA' y' P'=>Bd B y'/\aM A' λc'=>kR H (c'.add (toNat B*2)) λR'=>gK H ((c'.add (toNat B*2)).add 1) λT'=>Cl 255 #[.agg #[.I u',.U w'],.agg #[.I R',.U T']] H λa5 v=>Vb a5 λV'=>Cc v a 0 (.L A' y' P')/\Cc v a 0 (.L s' q' M')/\Cc v a 0 (.L o' O m')/\S V' v else S false H))/\True)else if(B !=c)then aH (λ(a8:ck) (a9:ck) (F:aj)=>aM a8 λd'=>kR F d' λa0=>gK F (d'.add 1) λa1=>Cl 178 #[.P a 0,.I B,.agg #[.I a0,.U a1]] F λa6 G=>a6=.T #[]/\aM a9 λe'=>kR G e' λa2=>gK G (e'.add 1) λa3=>Cl 178 #[.P a 0,.I c,.agg #[.I a2,.U a3]] G λa7 g'=>a7=.T #[]/\(I B g'/\mu B g'<mu c E)) (λV=>Hl H a 0 λs r w=>Bd c r/\aM s λg=>kR H (g.add (toNat c*2)) λj=>gK H ((g.add (toNat c*2)).add 1) λl=>Hl H a 0 λf e m=>Bd B e/\aM f λA=>kR H (A.add (toNat B*2)) λT=>gK H ((A.add (toNat B*2)).add 1) λd=>(bh H (.C #[.I 0,.U 0] 271) λb n=>dP (A.add (toNat B*2)) [.I T,.U d] 0 n/\Cc n a 0 (.L f e m)/\dP (g.add (toNat c*2)) [.I j,.U l] 0 n/\Cc n a 0 (.L s r w)/\bh n (.C #[.I 0,.U 0] 271) λz o=>dP (A.add (toNat B*2)) [.I T,.U d] 0 o/\Cc o a 0 (.L f e m)/\dP (g.add (toNat c*2)) [.I j,.U l] 0 o/\Cc o a 0 (.L s r w)/\aT o (AA b 0) (.I j) λD'=>aT D' (AA b 1) (.U l) λK=>dP (A.add (toNat B*2)) [.I T,.U d] 0 K/\Cc K a 0 (.L f e m)/\aT K (AA z 0) (.I T) λE'=>aT E' (AA z 1) (.U d) λF'=>V (Sa b 0) (Sa z 0) F')/\(bh H (.C #[.I 0,.U 0] 271) λC p=>dP (A.add (toNat B*2)) [.I T,.U d] 0 p/\Cc p a 0 (.L f e m)/\dP (g.add (toNat c*2)) [.I j,.U l] 0 p/\Cc p a 0 (.L s r w)/\bh p (.C #[.I 0,.U 0] 271) λD q=>dP (A.add (toNat B*2)) [.I T,.U d] 0 q/\Cc q a 0 (.L f e m)/\dP (g.add (toNat c*2)) [.I j,.U l] 0 q/\Cc q a 0 (.L s r w)/\aT q (AA D 0) (.I j) λG'=>aT G' (AA D 1) (.U l) λL=>dP (A.add (toNat B*2)) [.I T,.U d] 0 L/\Cc L a 0 (.L f e m)/\aT L (AA C 0) (.I T) λH'=>aT H' (AA C 1) (.U d) λI'=>V (Sa D 0) (Sa C 0) I')/\True)else R (.T #[]) H):Cl 180 #[.P a 0,.I i] h R:=aP (.scope 0 [(1,.one (.int .i64))] ll (lq (lq (sq (lq (bq (.loop [(4,.one (.int .i64)),(17,.one (.int .i64))] (lq (sq (cq lf lf) (sq (.join [(4,.one (.int .i64))] (bq (lq (sq (.join [(43,.one (.bool))] (pN 24)) (.join [(4,.one (.int .i64))] (cq lf lf)))))) lf)))))) (lq (cq (sq (.join [(7,.one (.ptr)),(8,.one (.ptr))] (.lK (ga 14 0 (.alts (.fork 14 (ga 3 15 .done) (.fork 15 (.op 14 (.op 16 (.op 17 .done))) .gM)))))) (lq (lq ll))) lf)))))) Tryz.func180 hv
theorem yU.walk{V:Int}(p:Cl 177 #[.P a 0] h λv H=> ∃t,v=.B t/\if(!t)then R (.I 6) H else aH (λ(q:Bool) (c:aj)=>if q then R (.I 1) c else Cl 116 #[.P a 0,.I k] c λw d=>Vi w λ_=>Hl d a 0 λu s r=>bh d (.C #[.I 0,.U 0] 271) λb l=>aW Tryz.prog (Builtin.append_ #[160,160] 160 #[.L u s r,.L (Sa b 0) 1 1]) l λy m=> ∃g f T,y=.L g f T/\aT m (AA a 0) (.L g f T) λe=>Hl e a 0 λ_ j _=>Cl 178 #[.P a 0,.I (wrap .i64 ((j:Int) - 1)),.agg #[.I k,.U V]] e λz n=>z=.T #[]/\Cl 179 #[.P a 0,.I (wrap .i64 ((j:Int) - 1))] n λA o=>A=.T #[]/\R (.I 0) o) (λJ=>if(decide (k<1))then J true H else if(decide (k>1099511627776))then J true H else J (decide (V>1099511627776)) H)):Cl 219 #[.P a 0,.I k,.U V] h R:=aP (lq (sq (bq (lq (cq ll (sq (.join [(12,.one (.bool))] lf) (cq ll lf))))) (lq (lq (lq (lq (lq ll))))))) Tryz.func219 p
theorem xr.walk (C:Cl 177 #[.P a 0] h λv H=> ∃m,v=.B m/\if(!m)then R (.I 6) H else∃n,Cc H a 1 (.map n)/\∃T o,iJ Tryz.prog 109 (.map n) (.I k) true H (.T #[.I T,.B o])/\if(!o)then R (.I 4) H else Hl H a 0 λ_ t _=>Hl H a 0 λE D _=>Bd (wrap .i64 ((t:Int) - 1)) D/\aM E λA=> ∃p,aY H (A.add (toNat (wrap .i64 ((t:Int) - 1))*2))=some (.I p)/\∃q,aY H ((A.add (toNat (wrap .i64 ((t:Int) - 1))*2)).add 1)=some (.U q)/\bh H (.C #[.I 0,.U 0] 271) λb w=>aT w (AA b 0) (.I p) λy=>aT y (AA b 1) (.U q) λj=>Hl j a 0 λF _ f=>((0:Int)<=wrap .i64 ((t:Int) - 1)/\wrap .i64 ((t:Int) - 1)<=(f:Int))/\aT j (AA a 0) (.slice (cT F f 0 2) ((toNat (wrap .i64 ((t:Int) - 1))) - 0) (f - 0)) λl=> ∃r,Cc l a 1 (.map r)/\aW Tryz.prog (Builtin.delete_ #[109,3] 0 #[.map r,.I k]) l λV c=>V=.T #[]/\aH (λ(z:aj)=>R (.I 0) z) (λJ=>if(decide (T<(wrap .i64 ((t:Int) - 1))))then Hi c b 0 λG=>Hu c b 1 λI=>Cl 178 #[.P a 0,.I T,.agg #[.I G,.U I]] c λK B=>K=.T #[]/\Cl 179 #[.P a 0,.I T] B λL d=>L=.T #[]/\∃g,Cc d a 1 (.map g)/\Hi d b 0 λs=> ∃u,iJ Tryz.prog 109 (.map g) (.I s) false d (.I u)/\Cl 180 #[.P a 0,.I u] d λM e=>M=.T #[]/\Cc e b 0 (.I s)/\Cc e a 1 (.map g)/\J e else J c)):Cl 116 #[.P a 0,.I k] h R:=aP (lq (sq (lq (cq ll lf)) (lq (sq (lq (cq ll lf)) (lq (lq (lq (lq (sq (lq (.join [] (cq (lq (lq (pN 9))) lf))) ll))))))))) Tryz.func116 C
theorem xu.walk(c:Cl 176 #[.P a 0] h λv H=> ∃T,v=.I T/\if(T==0)then R (.T #[.I 0,.U 0,.B false]) H else Hl H a 0 λe d _=>Bd 0 d/\aM e λA=>kR H (A.add (toNat 0*2)) λf=>Hl H a 0 λj g _=>Bd 0 g/\aM j λb=> ∃t,aY H ((b.add (toNat 0*2)).add 1)=some (.U t)/\R (.T #[.I f,.U t,.B true]) H):Cl 115 #[.P a 0] h R:=aP (lq (sq (lq (cq ll lf)) (sq (pN 17) lf))) Tryz.func115 c
theorem xw.walk{n:Int}(A:Cl 115 #[.P a 0] h λv u=> ∃j l p,v=.T #[.I j,.U l,.B p]/\∃(I:ck->Nat->Nat->Int->Int->Bool->aj->Prop)(m:ck->Nat->Nat->Int->Int->Bool->aj->Nat),I none 0 0 j l p u/\∀(c:ck)(O o:Nat)(k:Int)(V:Int)(d:Bool)(H:aj),I c O o k V d H->aH (λ(B:Bool) (f:aj)=>if B then bh f (.C #[.I k] 3) λb w=>aW Tryz.prog (Builtin.append_ #[128,128] 128 #[.L c O o,.L (Sa b 0) 1 1]) w λC y=>Vl C λs r q=>Cl 116 #[.P a 0,.I k] y λD z=>Vi D λ_=>Cl 115 #[.P a 0] z λE g=> ∃t T e,E=.T #[.I t,.U T,.B e]/\(I s r q t T e g/\m s r q t T e g<m c O o k V d H)else R (.L c O o) f) (λJ=>if d then J (decide (V<=n)) H else J false H)):Cl 79 #[.P a 0,.U n] h R:=aP (lq (lq (sq (lq (bq (.loop [(5,.one (.slice)),(6,.one (.int .i64)),(7,.one (.int .u64)),(8,.one (.bool))] (sq (sq (.join [(20,.one (.bool))] lf) (cq lf lf)) (sq (bq ll) lf))))) ll))) Tryz.func79 A

end
section
open Go.kA
namespace cf
theorem tm:rG Tryz.prog 109 (.I 0):=.of 3 3 .i64 dz dz dz
def enc(b:List E):List Value:=b.flatMap λe=> [.int .i64 e.1,.int .u64 e.2]
theorem pA(e:E)(b:List E):enc (e::b)=.I e.1:: .U e.2::enc b:=rfl
theorem lB: ∀b:List E,(enc b).length=b.length*2
 | []=>rfl
 |e::b=>by rw[pA];simp only[bf,lB b];omega
theorem Js(b fs:List E):enc (b++fs)=enc b++enc fs:=by simp[enc]
theorem R8: ∀{b:List E}{i:Nat},i<b.length->(enc b)[i*2]? =some (.I (at_ b i).1)
 | [],_,h=>by simp at h
 |e::b,0,_=>rfl
 |e::b,i+1,h=>by
  rw[pA,show(i+1)*2=i*2+1+1 by omega,dG,dG,R8 (cI h)];rfl
theorem R9: ∀{b:List E}{i:Nat},i<b.length->(enc b)[i*2+1]? =some (.U (at_ b i).2)
 | [],_,h=>by simp at h
 |e::b,0,_=>rfl
 |e::b,i+1,h=>by
  rw[pA,show(i+1)*2+1=i*2+1+1+1 by omega,dG,dG,R9 (cI h)];rfl
theorem KQ: ∀(b:List E)(i:Nat)(x:E),((enc b).set (i*2) (.I x.1)).set (i*2+1) (.U x.2)=enc (b.set i x)
 | [],_,_=>by simp[enc]
 |e::b,0,x=>rfl
 |e::b,i+1,x=>by
  rw[pA,show(i+1)*2=i*2+1+1 by omega,List.set_cons_succ,List.set_cons_succ,List.set_cons_succ,List.set_cons_succ,KQ b i x];rfl
theorem HB: ∀(b:List E)(n:Nat),(enc b).take (n*2)=enc (b.take n)
 | [],n=>by simp[enc]
 |e::b,0=>by simp[enc]
 |e::b,n+1=>by
  rw[pA,show(n+1)*2=n*2+1+1 by omega,gz,gz,HB b n];rfl
theorem KR: ∀(b:List E),∀v∈enc b,gw v=true
 | [],_,h=>by cases h
 |e::b,v,h=>by
  rw[pA]at h;rcases bK.1 h with rfl|h
  .rfl
  .rcases bK.1 h with rfl|h
   .rfl
   .exact KR b v h
structure Mem (h:aj) (a:Nat) (p:ck) (cap m:Nat) (b:List E) (g:Int->Option Value):Prop where
 cW:h[a]? =some (.cells #[.slice p b.length cap,.map (some m)] 162 (0,0))
 own:fz h p b.length cap 2 (enc b)
 map:oe h m g
 ne: ¬aN p a
def Bq(a:Nat)(p:ck)(m:Nat)(c:Nat):Prop:=c=a\/c=m\/aN p c
def inner(p:ck)(m:Nat)(c:Nat):Prop:=c=m\/aN p c
variable {h : aj} {a m cap : Nat} {p : Option Addr} {b : List E} {g : Int → Option Value} {R : Value → aj → Prop}
theorem Mem.am(M:Mem h a p cap m b g):a≠m:=by
 rintro rfl;obtain⟨x,c,H⟩:=M.map.map;rw[M.cW]at H;cases H
theorem Mem.pm(M:Mem h a p cap m b g): ¬aN p m:=λd=>by
 obtain⟨x,c,H⟩:=M.map.map;obtain⟨y,t,e⟩:=M.own.cells d;rw[e]at H;cases H
theorem Mem.lt(M:Mem h a p cap m b g){c:Nat}(hc:Bq a p m c):c<h.size:=by
 rcases hc with rfl|rfl|hc
 .exact aC M.cW
 .exact M.map.lt
 .exact M.own.dC hc
theorem Mem.frame{S:Nat->Prop}{e:aj}(M:Mem h a p cap m b g)(H:Fr S h e)(d: ∀c,Bq a p m c->¬S c):Mem e a p cap m b g:=
 ⟨H.get M.cW (d a (.inl rfl)),M.own.frame H λc f=>d c (.inr (.inr f)),M.map.frame H (d m (.inr (.inl rfl))),M.ne⟩
theorem Mem.calm{H:aj}(M:Mem h a p cap m b g)(c:Fr No h H):Mem H a p cap m b g:=M.frame c λ_ _=>id
theorem Mem.hd(M:Mem h a p cap m b g):aY h (AA a 0)=some (.L p b.length cap):=ak M.cW
theorem Mem.mp(M:Mem h a p cap m b g):aY h (AA a 1)=some (.map (some m)):=ak M.cW
theorem Mem.some(M:Mem h a p cap m b g)(c:0<b.length): ∃A,p=some A:=by
 obtain⟨B,o,H⟩:=M.own.some (by rw[lB];omega);exact⟨_,H⟩
theorem Mem.c0{A:Addr}(M:Mem h a (.some A) cap m b g){i:Nat}(H:i<b.length):aY h (A.add (i*2))=.some (.I (at_ b i).1):=M.own.cell (R8 H)
theorem Mem.c1{A:Addr}(M:Mem h a (.some A) cap m b g){i:Nat}(H:i<b.length):aY h ((A.add (i*2)).add 1)=.some (.U (at_ b i).2):=by
 rw[add_add];exact M.own.cell (R9 H)
theorem vU{X x y0 y:Int}(k: iq h R (.B (decide (lt (X,x) (y0,y))))):
  Cl 255 #[.agg #[.I X,.U x],.agg #[.I y0,.U y]] h R:=by
 refine HA.walk ?_;rintro B c rfl rfl l d rfl rfl;have f:Fr No h ((h.push (.C #[.I X,.U x] 271)).push (.C #[.I y0,.U y] 271)):=Fr.tt (Fr.push _ _) (Fr.push _ _);have i:=Aq (x:=.C #[.I y0,.U y] 271) (bZ (h:=h) (x:=.C #[.I X,.U x] 271));have j:=bZ (h:=h.push (.C #[.I X,.U x] 271)) (x:=.C #[.I y0,.U y] 271);have H:=k _ f;refine⟨x,ak i,y,ak j,?_⟩;by_cases c:x<y
 .have e:decide (lt (X,x) (y0,y))=true:=by simp[lt,c]
  rw[e]at H;simpa only[c,bu,ba]using H
 .simp only[c,bg,aq,aL];refine⟨x,ak i,y,ak j,?_⟩;by_cases d:x=y
  .subst d;simp only[fy,ba];refine⟨X,ak i,y0,ak j,?_⟩;have e:decide (lt (X,x) (y0,x))=decide (X<y0):=by simp[lt]
   rw[e]at H;exact H
  .have e:decide (lt (X,x) (y0,y))=false:=by simp[lt,c,d]
   rw[e]at H;simpa only[dA.2 d,aq,aL]using H
theorem xx(M:Mem h a p cap m b g){i:Nat}(I:i<b.length){x X:Int}(v: ∀l,Mem l a p cap m (b.set i (x,X)) (λk=>if k=x then some (.I i)else g k)->Fr (inner p m) h l->R (.T #[]) l):
  Cl 178 #[.P a 0,.I i,.agg #[.I x,.U X]] h R:=by
 obtain⟨A,rfl⟩:=M.some ae;refine yT.walk ?_;rintro B n t rfl;have j:Fr No h (h.push (.C #[.I x,.U X] 271)):=Fr.push _ _;have d:=M.calm j;have f:=bZ (h:=h) (x:=.C #[.I x,.U X] 271);rw[<-t]at f;generalize h.push (.C #[.I x,.U X] 271)=n at j d f;have u: ∀c,Bq a (some A) m c->B≠c:=λc H e=>by have:=M.lt H;omega
 refine⟨_,_,_,d.hd,x,ak f,X,ak f,ae,ax.2 ?_⟩;rw[aF,add_add];have J:=lB b;refine d.own.store ae λG D S y=>D.store (by rw[dt];omega) λq O E z=> ?_
 rw[KQ b i (x,X)]at O;have F:Fr (aN (some A)) n q:=Fr.tt (Fr.of_eq S y) (Fr.of_eq E z);have w:=F.get f (λH=>u B (.inr (.inr H)) rfl);have o:=F.get d.cW M.ne;refine⟨_,ak o,x,ak w,?_⟩;refine nF tm (d.map.frame F M.pm) λr C s K=>v r ⟨?_,?_,C,M.ne⟩ ?_
 .rw[K a M.am,o,dt]
 .rw[dt];exact O.frame (Fr.of_eq (S:=λc=>c=m) s K) (λc H e=>M.pm (e▸H))
 .exact Fr.no j ((F.mono λc _ H=> .inr H).trans (Fr.of_eq (S:=λc=>c=m) s K) bX (λ_ _ H=> .inl H))
theorem Sb{h:aj}{t:TypeId}{z Z X M y0 O:Value}{G k u v:aj->Prop}{J:ck->ck->aj->Prop}(s: ∀j,Fr No h j->G j/\k j/\u j/\v j)(hJ: ∀B d j,j[B]? =some (.C #[X,M] t (0,0))->j[d]? =some (.C #[y0,O] t (0,0))->h.size<=B->h.size<=d->Fr No h j->J (Sa B 0) (Sa d 0) j):
  (bh h (.C #[z,Z] t) λB H=>G H/\k H/\u H/\v H/\bh H (.C #[z,Z] t) λl e=>G e/\k e/\u e/\v e/\
   aT e (AA B 0) X λE=>aT E (AA B 1) M λi=>G i/\k i/\aT i (AA l 0) y0 λC=>aT C (AA l 1) O λD=>J (Sa B 0) (Sa l 0) D)/\
  (bh h (.C #[z,Z] t) λB H=>G H/\k H/\u H/\v H/\bh H (.C #[z,Z] t) λl e=>G e/\k e/\u e/\v e/\
   aT e (AA l 0) X λE=>aT E (AA l 1) M λi=>G i/\k i/\aT i (AA B 0) y0 λC=>aT C (AA B 1) O λD=>J (Sa l 0) (Sa B 0) D)/\True:=by
 have a': ∀(B d:Nat)(A:aj),B≠d->h.size<=B->h.size<=d->Fr No h A->A[B]? =some (.C #[z,Z] t (0,0))->A[d]? =some (.C #[z,Z] t (0,0))->
   aT A (AA B 0) X λE=>aT E (AA B 1) M λi=>G i/\k i/\aT i (AA d 0) y0 λC=>aT C (AA d 1) O λD=>J (Sa B 0) (Sa d 0) D:=by
  intro B d A L Q S f7 c7 f';have K: ∀{w x:aj}{c':Nat},Fr No h w->h.size<=c'->x.size=w.size->(∀y,y≠c'->x[y]? =w[y]?)->Fr No h x:=λf hx hs ho=>
   ⟨bR f.1,λc hc hn=>by rw[ho c ae];exact f.2 c hc hn⟩
  refine bD c7 bV λh8 c8 s8 V=>bD c8 bV λh9 c9 s9 k9=> ?_
  have P:=K (K f7 Q s8 V) Q s9 k9;have g':h9[d]? =some (.C #[z,Z] t (0,0)):=by rw[k9 _ L.symm,V _ L.symm];exact f'
  refine⟨(s _ P).1,(s _ P).2.1,bD g' bV λk' d' i' T=>bD d' bV λh' e' j' U=> ?_⟩;refine hJ B d h' ?_ e' Q S (K (K P S i' T) S j' U);rw[U _ L,T _ L];exact c9
 have I: ∀b',Fr No h (h.push b'):=λb'=>Fr.push _ _
 refine⟨?_,?_,trivial⟩
 .rintro B w rfl rfl;obtain⟨n,o,q,r⟩:=s _ (I _);refine⟨n,o,q,r,?_⟩;rintro d x rfl rfl;have F:=Fr.tt (I (.C #[z,Z] t)) (Fr.push (h.push (.C #[z,Z] t)) (.C #[z,Z] t));obtain⟨n,o,q,r⟩:=s _ F;exact⟨n,o,q,r,a' _ _ _ bV bV bV F (Aq bZ) bZ⟩
 .rintro B w rfl rfl;obtain⟨n,o,q,r⟩:=s _ (I _);refine⟨n,o,q,r,?_⟩;rintro d x rfl rfl;have F:=Fr.tt (I (.C #[z,Z] t)) (Fr.push (h.push (.C #[z,Z] t)) (.C #[z,Z] t));obtain⟨n,o,q,r⟩:=s _ F;exact⟨n,o,q,r,a' _ _ _ bV bV bV F bZ (Aq bZ)⟩
end cf
end
section
open Go.kA
namespace cf
variable {h:aj} {a m cap:Nat} {p:ck} {c:List E} {g:Int→Option Value} {R:fD}
variable {q i b:Nat}
theorem S0(H:q<1000000):IntKind.wrap .i64 (Int.tdiv (IntKind.wrap .i64 ((q:Int) - 1)) 2)=(((q - 1)/2:Nat):Int):=by
 rw[bC (n:=(q:Int) - 1) ae ae];cases q with
 |zero=>decide
 |succ n=>
  rw[show((n+1:Nat):Int) - 1=(n:Int) by omega,show n+1 - 1=n from rfl];have:Int.tdiv (n:Int) 2=((n/2:Nat):Int):=by
   rw[Int.tdiv_eq_ediv_of_nonneg ae];omega
  rw[this];exact bC ae ae
theorem Ra(H:q<1000000):IntKind.wrap .i64 (IntKind.wrap .i64 (2*(q:Int))+1)=((2*q+1:Nat):Int):=by
 rw[bC (n:=2*(q:Int)) ae ae,bC ae ae];omega
theorem Rb(H:q<1000000):IntKind.wrap .i64 (IntKind.wrap .i64 (2*(q:Int))+2)=((2*q+2:Nat):Int):=by
 rw[bC (n:=2*(q:Int)) ae ae,bC ae ae];omega
theorem KS{K:aj->Prop}(M:Mem h a p cap m c g)(y:iV c g){j B:Nat}(n:i<c.length)(o:j<c.length)(E:i≠j)(k:h[b]? =some (.C #[.I (at_ c i).1,.U (at_ c i).2] 271 (0,0)))(C:h[B]? =some (.C #[.I (at_ c j).1,.U (at_ c j).2] 271 (0,0)))(I: ¬inner p m B)(D: ∀H G,Mem H a p cap m (qE c i j) G->iV (qE c i j) G->Fr (inner p m) h H->K H):
  aM (some ((AA b 0):Addr)) λA=>
   ∃(t:Int),aY h A=some (.I t)/\∃(T:Int),aY h (A.add 1)=some (.U T)/\
   Cl 178 #[.P a 0,.I (j:Int),.agg #[.I t,.U T]] h λv d=>
   v=.T #[]/\
   aM (some ((AA B 0):Addr)) λe=>
   ∃(r:Int),aY d e=some (.I r)/\∃(s:Int),aY d (e.add 1)=some (.U s)/\
   Cl 178 #[.P a 0,.I (i:Int),.agg #[.I r,.U s]] d λV z=>
   V=.T #[]/\K z:=by
 refine ax.2 ⟨_,ak k,_,by rw[hY];exact ak k,?_⟩;refine xx M o λJ u f=>⟨rfl,ax.2 ?_⟩
 have l:=f.get C I;refine⟨_,ak l,_,by rw[hY];exact ak l,?_⟩;refine xx u (by rw[dt];exact n) λx w F=>⟨rfl,D x _ w (y.swap n o E) (Fr.tt f F)⟩
def Ww(H:aj)(a:Nat)(p:ck)(cap m:Nat)(e:List E)(I:Nat)(i:Int)(h:aj):Prop:=
 ∃c g q,i=((q:Nat):Int)/\q<e.length/\c.length=e.length/\Mem h a p cap m c g/\iV c g/\c.Perm e/\uw (at_ c) e.length q/\
  ((q=I/\c=e)\/AB (at_ c) e.length q)/\at_ c q=at_ e I/\Fr (inner p m) H h
theorem HC(M:Mem h a p cap m c g)(X:iV c g)(hi:i<c.length)(hn:c.length<1000000)(L:uw (at_ c) c.length i)(hk: ∀o E G q,Mem o a p cap m E G->iV E G->E.Perm c->E.length=c.length->q<c.length->at_ E q=at_ c i->ux (at_ E) c.length q->(AB (at_ c) c.length i->rM (at_ E) c.length)->Fr (inner p m) h o->R (.T #[]) o):
  Cl 179 #[.P a 0,.I (i:Int)] h R:=by
 refine Bp.walk ⟨Ww h a p cap m c i,λi _=>i.toNat,⟨c,g,i,rfl,hi,rfl,M,X,.refl _,L,.inl ⟨rfl,rfl⟩,rfl,Fr.refl _ _⟩,?_⟩;rintro i1 u ⟨e,Q,q,rfl,y,x,d,P,A,s,kd,w,t⟩;rw[S0 ae];refine aH.of λJ v=> ?_
 have k:q<e.length:=ae
 have H:(q - 1)/2<e.length:=ae
 have S: ∀n,Fr No u n->(q=0\/le (at_ e ((q - 1)/2)) (at_ e q))->J false n:=by
  intro n f d';subst v;simp only[aq,aL];have hd:=QJ s d';refine hk n e Q q (d.calm f) P A x y w hd (λk0=> ?_) (Fr.on t f);rcases kd with⟨I,K⟩|kd
  .subst I K;exact qj hd k0
  .exact qj hd kd
 by_cases U:q=0
 .subst U;exact S u (Fr.refl _ _) (.inl rfl)
 .have c':(q:Int)>0:=ae
  simp only[c',bu,ba,aF];obtain⟨ad,rfl⟩:=d.some ae;refine⟨_,_,_,d.hd,ae,ax.2 ⟨_,d.c0 k,_,d.c1 k,_,_,_,d.hd,ae,ax.2 ⟨_,d.c0 H,_,d.c1 H,vU λn f=>⟨_,rfl,(d.calm f).hd,(d.calm f).hd,?_⟩⟩⟩⟩;by_cases r:lt (at_ e q) (at_ e ((q - 1)/2))
  .rw[show decide (lt ((at_ e q).1,(at_ e q).2) ((at_ e ((q - 1)/2)).1,(at_ e ((q - 1)/2)).2))=true from aw r];subst v;simp only[ba,aF];have j:=d.calm f;refine aH.of λJ1 V=> ?_
   refine⟨_,_,_,j.hd,ae,ax.2 ⟨_,j.c0 k,_,j.c1 k,_,_,_,j.hd,ae,ax.2 ⟨_,j.c0 H,_,j.c1 H,?_⟩⟩⟩;refine Sb (λo F=> ?_) (λb b' o Z a' sb e' F=> ?_)
   .have l:=j.calm F;exact⟨⟨l.c0 H,l.c1 H,trivial⟩,l.hd,⟨l.c0 k,l.c1 k,trivial⟩,l.hd⟩
   .subst V;have B:=j.calm F;refine KS B P k H ae Z a' (λhc=> ?_) λh5 T C D O=>⟨⟨qE e q ((q - 1)/2),T,(q - 1)/2,rfl,ae,by rw[wX];exact x,C,D,(uy k H).trans A,?_⟩,?_⟩
    .have:=j.lt (.inr hc);omega
    .have z:=QK s ae y rfl r;rw[Dx k H];refine⟨z.1,.inr z.2,?_,Fr.tt t (Fr.no f (Fr.no F O))⟩;rw[<-w];unfold pj;rw[dB,ag rfl]
    .show Int.toNat (((q - 1)/2:Nat):Int)<Int.toNat (q:Int);rw[aF,aF];omega
  .rw[show decide (lt ((at_ e q).1,(at_ e q).2) ((at_ e ((q - 1)/2)).1,(at_ e ((q - 1)/2)).2))=false from aB r];exact S n f (.inr r)
theorem Pd{J:Int->aj->Prop}(M:Mem h a p cap m c g){C:Nat}(z:b<c.length)(S:c.length<=C->J b h)(U:C<c.length->lt (at_ c C) (at_ c b)->∀H,Fr No h H->J C H)(V:C<c.length->¬lt (at_ c C) (at_ c b)->∀H,Fr No h H->J b H):
  aH (λ(X:Bool) (y:aj)=>
   aH (λ(P:Int) (Q:aj)=>
    J P Q)
   (λs=>
    if X=true then
     s (C:Int) y
    else
     s (b:Int) y))
  (λr=>
   ∃(D:ck)(t B:Nat),aY h (AA a 0)=some (.L D t B)/\
   if(decide ((C:Int)<(t:Int)))=true then
    ∃(l:ck)(T E:Nat),aY h (AA a 0)=some (.L l T E)/\
    ((0:Int)<=(C:Int)/\(C:Int)<(T:Int))/\
    aM l λA=>
    ∃(F:Int),aY h (A.add (Int.toNat (C:Int)*2))=some (.I F)/\∃(G:Int),aY h ((A.add (Int.toNat (C:Int)*2)).add 1)=some (.U G)/\
    ∃(o:ck)(n I:Nat),aY h (AA a 0)=some (.L o n I)/\
    ((0:Int)<=(b:Int)/\(b:Int)<(n:Int))/\
    aM o λu=>
    ∃(K:Int),aY h (u.add (Int.toNat (b:Int)*2))=some (.I K)/\∃(L:Int),aY h ((u.add (Int.toNat (b:Int)*2)).add 1)=some (.U L)/\
    Cl 255 #[.agg #[.I F,.U G],.agg #[.I K,.U L]] h λv d=>
    ∃(O:Bool),v=.B O/\
    aY d (AA a 0)=some (.L o n I)/\
    aY d (AA a 0)=some (.L l T E)/\
    aY d (AA a 0)=some (.L D t B)/\
    r O d
   else
    r false h):=by
 refine aH.of λZ x=>⟨_,_,_,M.hd,?_⟩
 by_cases e:C<c.length
 .have k:(C:Int)<(c.length:Int):=ae
  simp only[k,bu,ba,aF];obtain⟨ad,rfl⟩:=M.some ae;refine⟨_,_,_,M.hd,ae,ax.2 ⟨_,M.c0 e,_,M.c1 e,_,_,_,M.hd,ae,ax.2 ⟨_,M.c0 z,_,M.c1 z,vU λw f=>⟨_,rfl,(M.calm f).hd,(M.calm f).hd,(M.calm f).hd,?_⟩⟩⟩⟩;subst x;by_cases j:lt (at_ c C) (at_ c b)
  .rw[show decide (lt ((at_ c C).1,(at_ c C).2) ((at_ c b).1,(at_ c b).2))=true from aw j];simp only[ba,aH];exact U e j w f
  .rw[show decide (lt ((at_ c C).1,(at_ c C).2) ((at_ c b).1,(at_ c b).2))=false from aB j];simp only[aq,aL,aH];exact V e j w f
 .have k: ¬(C:Int)<(c.length:Int):=ae
  subst x;simp only[k,bg,aq,aL,aH];exact S ae
def Wx(H:aj)(a:Nat)(p:ck)(cap m:Nat)(e:List E)(i:Int)(h:aj):Prop:=
 ∃c g q,i=((q:Nat):Int)/\q<e.length/\c.length=e.length/\Mem h a p cap m c g/\iV c g/\c.Perm e/\ux (at_ c) e.length q/\Fr (inner p m) H h
def Vz(H:aj)(c:List E)(q:Nat)(B t:Int)(h:aj):Prop:=
 ∃b k:Nat,B=b/\t=k/\k<=2/\b<c.length/\Fr No H h/\(b≠q->(b - 1)/2=q/\0<b/\lt (at_ c b) (at_ c q))/\∀C,0<C->C<c.length->C<=2*q+k->(C - 1)/2=q->le (at_ c b) (at_ c C)
theorem Fi(M:Mem h a p cap m c g)(hP:iV c g)(hi:i<c.length)(hn:c.length<1000000)(ex:ux (at_ c) c.length i)(hk: ∀z E Q,Mem z a p cap m E Q->iV E Q->E.Perm c->E.length=c.length->rM (at_ E) c.length->Fr (inner p m) h z->R (.T #[]) z):
  Cl 180 #[.P a 0,.I (i:Int)] h R:=by
 refine xq.walk ⟨Wx h a p cap m c,λi _=>c.length - i.toNat,⟨c,g,i,rfl,hi,rfl,M,hP,.refl _,ex,Fr.refl _ _⟩,?_⟩;rintro i1 S ⟨B,g1,q,rfl,hq,V,Z,P,X,L,O⟩;have s:q<B.length:=ae
 rw[Ra ae,Rb ae];refine⟨Vz S B q,λ_ t _=>2 - t.toNat,⟨q,0,rfl,rfl,ae,s,Fr.refl _ _,λI=>absurd rfl I,λC S T G h4=>ae⟩,?_⟩;rintro e' t T ⟨b,k,rfl,rfl,h',H,F,v,A⟩;have d:=Z.calm F;by_cases i':k<2
 .have b':(k:Int)<2:=ae
  simp only[b',bu,ba];rw[bC (n:=(k:Int)+1) ae ae];refine aH.of λd' U=>⟨ae,λf'=> ?_,λg'=> ?_,trivial⟩
  .obtain rfl:k=0:=ae
   refine Pd d H (λl=> ?_) (λl f G u=> ?_) (λl f G u=> ?_)<;>subst U<;>refine⟨?_,bV⟩
   .exact⟨b,1,rfl,rfl,ae,H,F,v,λC n o y r=>ae⟩
   .refine⟨2*q+1,1,rfl,rfl,ae,l,Fr.tt F u,λ_=>⟨ae,ae,?_⟩,λC n o y r=> ?_⟩
    .by_cases e:b=q
     .rw[<-e];exact e▸f
     .exact lt_trans f (v e).2.2
    .have:C=2*q+1:=ae
     subst this;exact le_refl _
   .refine⟨b,1,rfl,rfl,ae,H,Fr.tt F u,v,λC n o y r=> ?_⟩;have:C=2*q+1:=ae
    subst this;exact f
  .obtain rfl:k=1:=ae
   refine Pd d H (λl=> ?_) (λl f G u=> ?_) (λl f G u=> ?_)<;>subst U<;>refine⟨?_,bV⟩
   .exact⟨b,2,rfl,rfl,ae,H,F,v,λC n o y r=>A C n o ae r⟩
   .refine⟨2*q+2,2,rfl,rfl,ae,l,Fr.tt F u,λ_=>⟨ae,ae,?_⟩,λC n o y r=> ?_⟩
    .by_cases e:b=q
     .rw[<-e];exact e▸f
     .exact lt_trans f (v e).2.2
    .by_cases e:C=2*q+2
     .subst e;exact le_refl _
     .exact le_trans (le_of_lt f) (A C n o ae r)
   .refine⟨b,2,rfl,rfl,ae,H,Fr.tt F u,v,λC n o y r=> ?_⟩;by_cases e:C=2*q+2
    .subst e;exact f
    .exact A C n o ae r
 .obtain rfl:k=2:=ae
  simp only[show¬((2:Nat):Int)<2 by omega,bg,aq,aL];by_cases e:b=q
  .subst e;simp only[bne_self_eq_false,aq,aL];refine hk T B g1 d P X V (qj L λj J j2 K=>A j J ae ae K) (Fr.on O F)
  .obtain⟨b1,b2,b3⟩:=v e;have I:((b:Int) !=(q:Int))=true:=by simp;omega
   simp only[I,ba,aF];obtain⟨ad,rfl⟩:=d.some ae;refine aH.of λJ1 a'=> ?_
   refine⟨_,_,_,d.hd,ae,ax.2 ⟨_,d.c0 s,_,d.c1 s,_,_,_,d.hd,ae,ax.2 ⟨_,d.c0 H,_,d.c1 H,?_⟩⟩⟩;refine Sb (λz D=> ?_) (λx x' z hx c' sx j' D=> ?_)
   .have w:=d.calm D;exact⟨⟨w.c0 H,w.c1 H,trivial⟩,w.hd,⟨w.c0 s,w.c1 s,trivial⟩,w.hd⟩
   .subst a';have M3:=d.calm D;refine KS M3 P s H (λx=>e x.symm) hx c' (λl=> ?_) λh5 g5 M5 P5 f5=>⟨⟨qE B q b,g5,b,rfl,ae,by rw[wX];exact V,M5,P5,(uy s H).trans X,?_,Fr.tt O (Fr.no F (Fr.no D f5))⟩,?_⟩
    .have:=d.lt (.inr l);omega
    .rw[Dx s H];exact Lx L b1 b2 ae b3 λj J j2 K=>A j J ae ae K
    .show c.length - Int.toNat (b:Int)<c.length - Int.toNat (q:Int);rw[aF,aF];omega

end cf
end
section
open Go.kA
namespace cf
variable {h:aj} {a m cap:Nat} {p:ck} {b:List E} {g:Int→Option Value} {R:fD} {S:Nat→Prop} {L:List E}
theorem tE:oN Tryz.prog 160 271 2 16 (.agg #[.I 0,.U 0]):=⟨dz,dz,rfl⟩
theorem tI:oN Tryz.prog 128 3 1 8 (.I 0):=⟨dz,dz,rfl⟩
def Good(L:List E):Prop:= ∀e∈L,1<=e.1/\e.1<=1099511627776/\0<=e.2/\e.2<=1099511627776
def Al(h:aj)(a:Nat)(S:Nat->Prop)(L:List E):Prop:=
 ∃p cap m b g,Mem h a p cap m b g/\iV b g/\rM (at_ b) b.length/\b.Perm L/\jz L/\Good L/\∀c,S c↔Bq a p m c
theorem Al.lt(A:Al h a S L){c:Nat}(d:S c):c<h.size:=by
 obtain⟨p,cap,m,b,g,M,_,_,_,_,_,H⟩:=A;exact M.lt ((H c).1 d)
theorem Al.frame{Q:Nat->Prop}{d:aj}(A:Al h a S L)(i:Fr Q h d)(j: ∀c,S c->¬Q c):Al d a S L:=by
 obtain⟨p,cap,m,b,g,M,P,H,k,s,G,e⟩:=A;exact⟨p,cap,m,b,g,M.frame i λc f=>j c ((e c).2 f),P,H,k,s,G,e⟩
theorem Al.sorted(A:Al h a S L):jz L:=by
 obtain⟨p,cap,m,b,g,M,P,H,d,s,G,c⟩:=A;exact s
theorem Al.nodup(A:Al h a S L):(keys L).Nodup:=by
 obtain⟨p,cap,m,b,g,M,P,H,c,s,G,d⟩:=A;exact(keys_perm c).nodup_iff.1 P.1
theorem fT(M:Mem h a p cap m b g)(H:R (.B true) h):Cl 177 #[.P a 0] h R:=
 xp.walk ⟨some m,M.mp,H⟩
theorem gL(k: ∀a S H,Al H a S []->(∀c,S c->h.size<=c)->Fr No h H->R (.P a 0) H):Cl 45 #[] h R:=by
 refine Mt.walk ?_;rintro B n rfl rfl l o rfl rfl;have f:Fr No (h.push (.map #[] 0)) ((h.push (.map #[] 0)).push (.C #[.Z,.map (some h.size)] 162)):=Fr.push _ _;refine k _ (Bq (h.push (.map #[] 0)).size none h.size) _ ⟨none,0,h.size, [],λ_=>none,⟨bZ,.nil rfl rfl rfl rfl,(oe.push h).frame f id,?_⟩,⟨.nil,?_,λ_ _=>rfl⟩,?_,.refl _,.nil,?_,λ_=>fi⟩ ?_ (Fr.tt (Fr.push _ _) f)
 .rintro⟨_,e,_⟩;cases e
 .intro j d;simp at d
 .intro j _ d;simp at d
 .intro e i;cases i
 .rintro c (rfl|rfl|⟨_,e,_⟩)
  .simp
  .exact bm _
  .cases e
theorem Jt(A:Al h a S L)(c:R (.I (L.length:Int)) h):Cl 176 #[.P a 0] h R:=by
 obtain⟨p,cap,m,b,g,M,P,H,d,s,G,e⟩:=A;refine yS.walk ⟨_,_,_,M.hd,?_⟩;rw[d.length_eq];exact c
def hd(L:List E):E:=L.headD (0,0)
theorem vV(A:Al h a S L)(d:R (.T #[.I (hd L).1,.U (hd L).2,.B (!L.isEmpty)]) h):Cl 115 #[.P a 0] h R:=by
 refine xu.walk (Jt A ⟨_,rfl,?_⟩);obtain⟨p,cap,m,b,g,M,P,H,f,s,G,o⟩:=A;cases L with
 |nil=>exact d
 |cons e r=>
  have j:=f.length_eq;simp only[bf]at j;have k:(((e::r).length:Int)==0)=false:=by simp only[bf,dA];omega
  simp only[k,aq,aL];obtain⟨n,rfl⟩:=M.some ae;obtain⟨q,l⟩:=Oa f s H ae;have i:at_ b 0=e:=(List.cons.inj l).1.symm;have c:=M.c0 (i:=0) ae;have C:=M.c1 (i:=0) ae;rw[i]at c C;refine⟨_,_,_,M.hd,ae,ax.2 ⟨_,c,_,_,_,M.hd,ae,ax.2 ⟨_,C,d⟩⟩⟩
theorem Ta{t:TypeId}{z Z x X:Value}{K:Nat->aj->Prop}(k: ∀B H,H[B]? =some (.C #[x,X] t (0,0))->h.size<=B->Fr No h H->K B H):
  bh h (.C #[z,Z] t) λB e=>aT e (AA B 0) x λf=>aT f (AA B 1) X λd=>K B d:=by
 rintro B e rfl rfl;refine bD bZ bV λf C s l=>bD C bV λd i o n=>k _ d i (bm _) ⟨?_,λc j _=> ?_⟩
 .rw[o,s];simp
 .rw[n c ae,l c ae];exact(Fr.push (S:=λ_=>False) h _).2 c j id
theorem qp(k':Al h a S L)(hn:L.length<1000000)(k:Int)(U:k∈keys L->∀f,Al f a S (fU L k)->Fr S h f->R (.I 0) f)(k2:k∉keys L->R (.I 4) h):Cl 116 #[.P a 0,.I k] h R:=by
 obtain⟨p,cap,m,b,g,M,P,H,y,so,gd,hS⟩:=k';have x':=y.length_eq;refine xr.walk (fT M ⟨true,rfl,?_⟩);simp only[cU,aq,aL];have w:=Et tm M.map k;by_cases v:k∈keys b
 .have U:=U ((keys_perm y).mem_iff.1 v);clear k2;obtain⟨j,Q,rfl⟩:=mem_keys v;obtain⟨n,l⟩: ∃n,b.length=n+1:=⟨b.length - 1,ae⟩;rw[P.2.1 j Q]at w;refine⟨some m,M.mp,(j:Int),true,w,?_⟩;simp only[cU,aq,aL];obtain⟨B,o,rfl⟩:=M.own.some (by rw[lB];omega);refine⟨_,_,_,M.hd,_,_,_,M.hd,?_⟩;rw[show IntKind.wrap .i64 ((b.length:Int) - 1)=(n:Int) by rw[bC ae ae];omega];simp only[aF];refine⟨ae,ax.2 ⟨_,M.c0 (i:=n) ae,_,M.c1 (i:=n) ae,Ta λD h4 hb sb f4=> ?_⟩⟩;have r:=M.calm f4;have w':=M.own.le;have g':cT (some ((AA B o):Addr)) cap 0 2=some (AA B o):=by
   unfold cT;split
   .rfl
   .simp[hY]
  refine⟨_,_,_,r.hd,ae,bD r.cW bV λJ c5 s5 k5=> ?_⟩;have F:Fr (λc=>c=a) h4 J:=Fr.of_eq s5 k5;have tl:(b.take n).length=n:=by rw[bw];omega
  have s:Mem J a (Sa B o) cap m (b.take n) g:=by
   refine⟨?_,?_,r.map.frame F (λe=>M.am e.symm),M.ne⟩
   .rw[c5,g',tl];rfl
   .have i':=(r.own.frame F (λc d e=>M.ne (e▸d))).sub (l:=0) (u:=n) ae ae;rw[g',HB,Nat.zero_mul,hN]at i';rw[tl];exact i'
  refine⟨some m,s.mp,yi tm s.map λu m6 s6 k6=>⟨rfl,?_⟩⟩;have t:Fr (λc=>c=m) J u:=Fr.of_eq s6 k6;have A:Mem u a (Sa B o) cap m (b.take n) (λj'=>if j'=(at_ b j).1 then none else g j'):=
   ⟨t.get s.cW M.am,s.own.frame t (λc d e=>M.pm (e▸d)),m6,M.ne⟩
  have c':Fr (Bq a (Sa B o) m) h u:=Fr.no f4 (F.trans t (λ_ _ e=> .inl e) (λ_ _ e=> .inr (.inl e)));have O: ∀c,Bq a (Sa B o) m c->D≠c:=λc d e=>by have:=M.lt d;omega
  have K:=t.get (F.get hb (O a (.inl rfl))) (O m (.inr (.inl rfl)));refine aH.of λl' hJ=> ?_
  have done: ∀f E G,Mem f a (Sa B o) cap m E G->iV E G->rM (at_ E) E.length->E.Perm (cut b n j)->Fr (Bq a (Sa B o) m) h f->l' f:=by
   intro f E G M' P' z t' f';subst hJ;exact U f ⟨_,_,_,E,G,M',P',z,t'.trans (Ob l Q P.1 y),so.drop _,λe he=>gd e (bj.1 he).1,hS⟩ (f'.mono λc _ d=>(hS c).2 d)
  have x:=Ly P l Q;have cl:=EB (j:=j) l;by_cases i:j<n
  .have T:(j:Int)<(n:Int):=ae
   simp only[i,ba]at x;simp only[T,bu,ba];have I:(b.take n).set j ((at_ b n).1,(at_ b n).2)=cut b n j:=by unfold cut;rw[ag i]
   refine⟨_,ak K,_,ak K,xx A ae λh8 M8 f8=>⟨rfl,?_⟩⟩;rw[I]at M8;have ex:=Oc l i H;refine HC M8 x ae ae (by rw[cl];exact ex) λh9 p' g9 q C P9 v' l9 q9 n' a' _ f9=>⟨rfl,some m,C.mp,?_⟩
   have V: ¬inner (Sa B o) m D:=λd=>O D (.inr d) rfl
   have e':=f9.get (f8.get K V) V;have h':=Dj tm C.map (at_ b n).1;have e9:at_ p' q=at_ b n:=by rw[n',qk l i,ag rfl]
   have d':=P9.2.1 q ae;rw[e9]at d';rw[d']at h';refine⟨_,ak e',(q:Int),h',?_⟩;rw[<-l9]at a';refine Fi C P9 ae ae a' λr' o' q' Z m' u' s' X b'=>⟨rfl,ak (b'.get e' V),Z.mp,?_⟩
   rw[<-s']at X;exact done r' o' q' Z m' X (u'.trans v') (c'.trans (Fr.tt f8 (Fr.tt f9 b')) bX (λ_ _ d=> .inr d))
  .have T: ¬(j:Int)<(n:Int):=ae
   simp only[i,aL]at x;simp only[T,bg,aq,aL];have I:b.take n=cut b n j:=by unfold cut;rw[af i]
   rw[I]at A;have z:=Od l i H;exact done u _ _ A x (by rw[cl];exact z) (.refl _) c'
 .rw[P.2.2 k v]at w;exact⟨some m,M.mp,0,false,w,k2 λhx=>v ((keys_perm y).mem_iff.2 hx)⟩
def may(k t:Int):Bool:=decide (1<=k) && decide (k<=1099511627776) && decide (t<=1099511627776)
theorem mW{k t:Int}:may k t=true↔1<=k/\k<=1099511627776/\t<=1099511627776:=by simp[may,and_assoc]
def Br(L:List E)(k t:Int):List E:=vz (fU L k) (k,t)
theorem pB(L:List E)(k:Int):(fU L k).length<=L.length:=cP _ _
theorem Ju(A:Al h a S L)(hn:L.length<999999)(k t:Int)(ht:0<=t)(K:may k t=true->∀u B,Al u a B (Br L k t)->(∀c,B c->S c\/h.size<=c)->Fr S h u->R (.I 0) u)(Z:may k t=false->R (.I 1) h):Cl 219 #[.P a 0,.I k,.U t] h R:=by
 have x:=A;obtain⟨p,cap,m,b,g,M, -, -, -, -, -, -⟩:=A;refine yU.walk (fT M ⟨true,rfl,?_⟩);clear M;simp only[cU,aq,aL];refine aH.of λi' V=> ?_
 have n:may k t=false->i' true h:=λl=>by subst V;exact Z l
 by_cases H:k<1
 .simp only[H,bu,ba];exact n (by simp[may,show¬1<=k by omega])
 simp only[H,bg,aq,aL];by_cases J:k>1099511627776
 .simp only[J,bu,ba];exact n (by simp[may,show¬k<=1099511627776 by omega])
 simp only[J,bg,aq,aL];by_cases O:t>1099511627776
 .simp only[O,bu];exact n (by simp[may,show¬t<=1099511627776 by omega])
 simp only[O,bg];clear n Z;have K:=K (mW.2 ⟨ae,ae,ae⟩);subst V;simp only[aq,aL];have rest: ∀H e,Al H a S (fU L k)->Fr S h H->(∃(t':Int),Value.I e=.I t'/\
    ∃(d':ck)(c' b':Nat),aY H (AA a 0)=some (.L d' c' b')/\
    bh H (.C #[.I 0,.U 0] 271) λC l'=>
    aW Tryz.prog (Builtin.append_ #[160,160] 160 #[.L d' c' b',.L (Sa C 0) 1 1]) l' λw' m'=>
    ∃(g':ck)(f' e':Nat),w'=.L g' f' e'/\
    aT m' (AA a 0) (.L g' f' e') λX=>
    ∃(v':ck)(T u':Nat),aY X (AA a 0)=some (.L v' T u')/\
    Cl 178 #[.P a 0,.I (IntKind.wrap .i64 ((T:Int) - 1)),.agg #[.I k,.U t]] X λx' n'=>
    x'=.T #[]/\
    Cl 179 #[.P a 0,.I (IntKind.wrap .i64 ((T:Int) - 1))] n' λy' o'=>
    y'=.T #[]/\
    R (.I 0) o'):=by
  intro H e o F;refine⟨e,rfl,?_⟩;have kn:=IX L k;have dl:=pB L k;obtain⟨p,cap,m,b,g,M,P,h',w,so,gd,d⟩:=o;have z':=w.length_eq;refine⟨_,_,_,M.hd,?_⟩;rintro C h4 rfl rfl;have s:Fr No H (H.push (.C #[.I 0,.U 0] 271)):=Fr.push _ _;have s':Row (H.push (.C #[.I 0,.U 0] 271)) (Sa H.size 0) (enc [(0,0)]):=.inr ⟨_,rfl,hT bZ λA' E' hj=>by rw[bM];simpa[enc]using hj⟩;have D':H.size<=(H.push (.C #[.I 0,.U 0] 271)).size:=s.1;have i:=M.calm s;refine dH tE (eT:=271) dz i.own s' rfl (KR _) ae ae λf D Q o5 _ q G=>⟨_,_,_,rfl,?_⟩
  rw[<-Js]at o5;have b5:=q.get i.cW M.ne;have a': ¬aN f a:=λhc=>by
   rcases G a hc with hx|hx
   .exact M.ne hx
   .have:=aC i.cW;omega
  have B': ¬aN f m:=λhc=>by
   rcases G m hc with hx|hx
   .exact M.pm hx
   .have:=i.map.lt;omega
  refine bD b5 bV λv c6 s6 k6=> ?_
  have r:Fr (λc=>c=a) Q v:=Fr.of_eq s6 k6;have y:Mem v a f D m (b++ [(0,0)]) g:=by
   refine⟨?_,?_,(i.map.frame q M.pm).frame r (λe=>M.am e.symm),a'⟩
   .rw[c6,au];rfl
   .rw[au];exact o5.frame r (λc hc e=>a' (e▸hc))
  refine⟨_,_,_,y.hd,?_⟩;have ew:IntKind.wrap .i64 ((((b++ [((0,0):E)]).length:Nat):Int) - 1)=(b.length:Int):=by
   rw[au,dF,bC ae ae];omega
  rw[ew];refine xx y (by rw[au,dF];omega) λh7 z f7=>⟨rfl,?_⟩
  have j':(b++ [((0,0):E)]).set b.length (k,t)=b++ [(k,t)]:=by
   rw[List.set_append_right _ _ (bm _)];simp
  rw[j']at z;have q':k∉keys b:=λhx=>kn ((keys_perm w).mem_iff.1 hx)
  have P7:=LA (x:=(k,t)) P q';obtain⟨I,kd⟩:=Oe (x:=(k,t)) h';have l7:(b++ [(k,t)]).length=b.length+1:=bV
  rw[<-l7]at I kd;refine HC z P7 ae ae I λU k' g8 C' M8 P8 r' l8 _ _ _ j f8=>⟨rfl,?_⟩
  have j:=j kd;rw[<-l8]at j;have gf: ∀c,Bq a f m c->S c\/h.size<=c:=by
   rintro c (rfl|rfl|hc)
   .exact .inl ((d _).2 (.inl rfl))
   .exact .inl ((d _).2 (.inr (.inl rfl)))
   .rcases G c hc with hx|hx
    .exact .inl ((d _).2 (.inr (.inr hx)))
    .have:=F.1;exact .inr ae
  refine K U (Bq a f m) ⟨f,D,m,k',g8,M8,P8,j,?_,so.insert _ kn,?_,λ_=>fi⟩ gf ?_
  .exact r'.trans ((eK _ _).trans ((w.cons _).trans (mR _ _).symm))
  .intro e he;rcases bK.1 ((mR _ _).mem_iff.1 he)with rfl|hx
   .exact⟨by simp only;omega,by simp only;omega,ht,by simp only;omega⟩
   .exact gd e hx
  .have p': ∀c,c<H.size->Bq a f m c->S c:=λc hc hx=>by
    rcases hx with rfl|rfl|hx
    .exact(d _).2 (.inl rfl)
    .exact(d _).2 (.inr (.inl rfl))
    .rcases G c hx with hy|hy
     .exact(d _).2 (.inr (.inr hy))
     .omega
   have g1:Fr S H Q:=Fr.no s (q.mono λc _ hc=>(d c).2 (.inr (.inr hc)));have g2:Fr S H v:=g1.trans r bX (λc _ e=>(d c).2 (.inl e));have g3:Fr S H U:=g2.trans (Fr.tt f7 f8) bX (λc hc hx=>p' c hc (.inr hx));exact Fr.tt F g3
 refine qp x ae k (λl H o F=>rest H 0 o F) (λl=> ?_);refine rest h 4 ?_ (Fr.refl _ _);rw[kI l];exact x
def jI(n:Int)(e:E):Bool:=decide (e.2<=n)
def due(L:List E)(n:Int):List E:=L.takeWhile (jI n)
def rest(L:List E)(n:Int):List E:=L.dropWhile (jI n)
def kc(L:List E):List Value:=(keys L).map (.int .i64 ·)
theorem DN{D T:List E}{n:Int}(hd: ∀e∈D,jI n e=true)(f: ∀e r,T=e::r->jI n e=false):due (D++T) n=D/\rest (D++T) n=T:=by
 unfold due rest;induction D with
 |nil=>
  cases T with
  |nil=>exact⟨rfl,rfl⟩
  |cons e r=>simp[f e r rfl]
 |cons d D j=>
  have H:=hd d dj;obtain⟨i,I⟩:=j λe c=>hd e (cv _ c)
  simp only[eJ,List.takeWhile_cons,List.dropWhile_cons,H,ba];exact⟨by rw[i],I⟩
def Ud(H:aj)(a:Nat)(S:Nat->Prop)(L:List E)(n:Int)(o:ck)(l c:Nat)(k t:Int)(i:Bool)(h:aj):Prop:=
 ∃D T,L=D++T/\(∀e∈D,jI n e=true)/\Al h a S T/\k=(hd T).1/\t=(hd T).2/\i= !T.isEmpty/\l=D.length/\fz h o l c 1 (kc D)/\(∀x,aN o x->H.size<=x)/\Fr S H h
theorem Fj(A:Al h a S L)(hn:L.length<999999)(n:Int)(hk: ∀i P C,Al i a S (rest L n)->fz i P (due L n).length C 1 (kc (due L n))->(∀c,aN P c->h.size<=c)->Fr S h i->R (.slice P (due L n).length C) i):
  Cl 79 #[.P a 0,.U n] h R:=by
 refine xw.walk (vV A ⟨_,_,_,rfl,?_⟩);refine⟨Ud h a S L n,λ_ l _ _ _ _ _=>L.length - l,⟨[],L,rfl,(λ_ X=>by cases X),A,rfl,rfl,rfl,rfl,.nil rfl rfl rfl rfl,(λc ⟨_,e,_⟩=>by cases e),Fr.refl _ _⟩,?_⟩;rintro b' l c i' j' is H ⟨D,U,q,y,s,rfl,rfl,rfl,rfl,O,o,F⟩;refine aH.of λJ z=> ?_
 have stop:(∀e r,U=e::r->jI n e=false)->J false H:=λht=>by
  subst z;simp only[aq,aL];obtain⟨E,u⟩:=DN y ht;rw[<-q]at E u;rw[<-E];rw[<-E]at O;exact hk H b' c (by rw[u];exact s) O o F
 cases U with
 |nil=>exact stop (λe r x=>by cases x)
 |cons e U=>
  simp only[List.isEmpty_cons,dS,ba];by_cases j:e.2<=n
  .rw[show decide ((hd (e::U)).2<=n)=true from aw j];subst z;simp only[ba];rintro f' h4 rfl rfl;have g':L.length=D.length+(U.length+1):=by rw[q];simp
   have f:Fr No H (H.push (.C #[.I (hd (e::U)).1] 3)):=Fr.push _ _;have c':Row (H.push (.C #[.I (hd (e::U)).1] 3)) (Sa H.size 0) (kc [e]):=.inr ⟨_,rfl,hT bZ λh' d' Z=>by rw[bM];simpa[kc,keys,hd]using Z⟩;have sz:H.size<=(H.push (.C #[.I (hd (e::U)).1] 3)).size:=f.1;refine dH tI (eT:=3) dz (O.frame f λ_ _=>id) c' rfl (λd' G=>by simp[kc,keys]at G;subst G;rfl) ae ae λP C V I _ v T=>⟨_,_,_,rfl,?_⟩
   have M:kc D++kc [e]=kc (D++ [e]):=by simp[kc,keys]
   rw[M]at I;have B: ∀{c},S c->c<h.size:=λd=>A.lt d
   have t:=(s.frame f λ_ _=>id).frame v (λc d hx=>gG (o c hx) (B d));have K: ∀c,aN P c->h.size<=c:=λc d=>by
    rcases T c d with hx|hx
    .exact o c hx
    .have:=F.1;omega
   have Q:Fr S h V:=F.trans (Fr.no f v) bX (λc d hx=>bR (o c hx));refine qp t (by simp;omega) _ (λ_ h6 k w=>⟨_,rfl,?_⟩) (λa'=>absurd (by exact dj) a');rw[show fU (e::U) (hd (e::U)).1=U from IZ t.nodup]at k;refine vV k ⟨_,_,_,rfl,⟨D++ [e],U,by rw[q];simp,?_,k,rfl,rfl,rfl,bV,?_,K,Fr.tt Q w⟩,?_⟩
   .intro x hx;rcases bE.1 hx with hx|hx
    .exact y x hx
    .simp at hx;subst hx;exact aw j
   .exact I.frame w λc d hx=>by have:=K c d;have:=B hx;omega
   .show L.length - (D.length+1)<L.length - D.length;omega
  .rw[show decide ((hd (e::U)).2<=n)=false from aB j];exact stop λe' r x=>by cases x;exact aB j

end cf
end
section
variable {h:aj} {R:fD}
variable {b c a:Nat} {x X e num o:Int} {d:ck}
theorem Jv.walk(g:Cl 45 #[] h λv H=>Vp v λt=>bh H (.C #[.Z,.I 1,.I 0,.I 0,.I 0,.pointer t] 122) λb f=>R (.P b 0) f):Cl 18 #[] h R:=aP (lq ll) Tryz.func18 g
theorem yV.walk(H: ∃t,Cc h b 5 (.pointer t)/\R (.B (!t.isNone)) h):Cl 66 #[.P b 0] h R:=aP (lq ll) Tryz.func66 H
theorem CJ.walk(l:bh h (.C #[.I x,.I X,.L d c a,.U e] 132) λb j=>bh j (.C #[.I 0,.I 0,.Z,.U 0] 132) λB H=>Hl H b 2 λy w u=>Cl 27 #[.L y w u] H λv k=> ∃i T t,v=.L i T t/\aT k (AA b 2) (.L i T t) λf=>aJ.LD f (AA b 0) λz A E D C F=>aJ.ST f (AA B 0) z A E D C F λg=>aJ.LD g (AA B 0) λr m q p n s=>R (.agg #[.I r,.I m,.L q p n,.U s]) g):Cl 263 #[.agg #[.I x,.I X,.L d c a,.U e]] h R:=aP (lq (lq ll)) Tryz.func263 l
theorem Fk.walk(j:bh h (.C #[.I x,.I X,.L d c a,.U e] 132) λb H=> ∃g,Cc H b 1 (.I g)/\if(decide (g≥1))then∃i,Cc H b 1 (.I i)/\if(decide (i<=1099511627776))then∃l t k,Cc H b 2 (.L l t k)/\if(decide (((t:Nat):Int)≥1))then∃n T m,Cc H b 2 (.L n T m)/\if(decide (((T:Nat):Int)<=600))then∃f,Cc H b 3 (.U f)/\R (.B (decide (f<=1099511627776))) H else R (.B false) H else R (.B false) H else R (.B false) H else R (.B false) H):Cl 312 #[.agg #[.I x,.I X,.L d c a,.U e]] h R:=aP (lq ll) Tryz.func312 j
theorem yW.walk(g:bh h (.C #[.I num] 3) λB H=>Hl H b 0 λj i T=>Cl 118 #[.L j i T,.func (.func 119) #[] #[.P B 0]] H λv f=> ∃t,v=.I t/\R (.I t) f):Cl 83 #[.P b 0,.I num] h R:=aP (lq ll) Tryz.func83 g
theorem vW.walk{C:Nat}(f:bh h (.C #[.I x,.I X,.L d c a,.U e] 132) λb H=>Hi H b 0 λT=> ∃t,Cc H C 0 (.I t)/\R (.B (T==t)) H):Cl 119 #[.agg #[.I x,.I X,.L d c a,.U e],.P C 0] h R:=aP (lq ll) Tryz.func119 f
theorem Bs.walk{i:Int} (w:bh h (.C #[.I 0,.I 0,.Z,.U 0] 132) λp H=>Hl H b 0 λf' e' _=>Bd i e'/\aM f' λA=>aJ.LD H (A.add (toNat i*4)) λG I L K J M=>bh H (.C #[.I 0,.I 0,.Z,.U 0] 132) λB v=>aJ.ST v (AA B 0) G I L K J M λg=>Hp g b 5 λO=>Hi g B 0 λP=>Cl 116 #[.pointer O,.I P] g λg' j=>Vi g' λ_=>Hl j b 0 λm s t=>((0:Int)<=i/\i<=(t:Int))/\Hl j b 0 λn f T=>((0:Int)<=wrap .i64 (i+1)/\wrap .i64 (i+1)<=(f:Int))/\bh j (.C #[.L (cT m t 0 4) ((toNat i) - 0) (t - 0),.slice (cT n T (toNat (wrap .i64 (i+1))) 4) (f - (toNat (wrap .i64 (i+1)))) (T - (toNat (wrap .i64 (i+1))))] 120) λu k=>Cc k b 0 (.L n f T)/\Cc k b 0 (.L m s t)/\Cl 117 #[.L (Sa u 0) 2 2] k λh' l=>Vl h' λU S Q=>Cc l b 0 (.L n f T)/\Cc l b 0 (.L m s t)/\aT l (AA b 0) (.L U S Q) λq=>aJ.LD q (AA B 0) λV Z c' b' a' d'=>aJ.ST q (AA p 0) V Z c' b' a' d' λr=>aJ.LD r (AA p 0) λy z E D C F=>R (.agg #[.I y,.I z,.L E D C,.U F]) r):Cl 82 #[.P b 0,.I i] h R:=aP (lq (lq (sq (pN 7) (sq (pN 19) ll)))) Tryz.func82 w
theorem Bt.walk(E:Cl 66 #[.P b 0] h λg' i=>Vb g' λt7=>aH (λ(K:ck) (G F:Nat) (y:aj)=>R (.L K G F) y) (λJ=>if t7 then Hl i b 0 λL n _=> ∃(I:ck->Nat->Nat->Int->aj->Prop)(M:ck->Nat->Nat->Int->aj->Nat),I none 0 0 0 i/\∀(g:ck)(f O:Nat)(t:Int)(H:aj),I g f O t H->if(decide (t<(n:Int)))then Bd t n/\aM L λA=>aJ.LD H (A.add (toNat t*4)) λP Q V U S Z=>bh H (.C #[.I 0,.I 0,.Z,.U 0] 132) λB z=>aJ.ST z (AA B 0) P Q V U S Z λl=>aJ.LD l (AA B 0) λa' b' e' d' c' f'=>Cl 263 #[.agg #[.I a',.I b',.L e' d' c',.U f']] l λh' C=> ∃p q u s r v,h'=.agg #[.I p,.I q,.L u s r,.U v]/\bh C (.C #[.I p,.I q,.L u s r,.U v] 132) λw D=>aW Tryz.prog (Builtin.append_ #[120,120] 120 #[.L g f O,.L (Sa w 0) 1 1]) D λi' m=> ∃k j T,i'=.L k j T/\(I k j T (wrap .i64 (t+1)) m/\M k j T (wrap .i64 (t+1)) m<M g f O t H)else J g f O H else J none 0 0 i)):Cl 193 #[.P b 0] h R:=aP (lq (lq (sq (lq (.join [(3,.one (.slice))] (cq (lq (bq (.loop [(3,.one (.slice)),(13,.one (.int .i64))] (lq (sq (cq lf lf) (sq (bq ll) lf)))))) lf))) ll))) Tryz.func193 E
theorem Bu.walk{j:ck}{i D:Nat}{v:Int}(P:Cl 66 #[.P b 0] h λm' f=> ∃t,m'=.B t/\if(!t)then R (.T #[.I 0,.I 6]) f else Hi f b 1 λQ=>Cl 263 #[.agg #[.I Q,.I o,.L j i D,.U v]] f λn' L=> ∃T p s r q u,n'=.agg #[.I T,.I p,.L s r q,.U u]/\bh L (.C #[.I 0,.I 0,.Z,.U 0] 132) λB M=>aJ.ST M (AA B 0) T p s r q u λl=>aJ.LD l (AA B 0) λS U a' Z V b'=>Cl 312 #[.agg #[.I S,.I U,.L a' Z V,.U b']] l λo' H=> ∃w,o'=.B w/\if(!w)then R (.T #[.I 0,.I 1]) H else∃d' y c',Cc H b 0 (.L d' y c')/\if(decide (((y:Nat):Int)≥16))then R (.T #[.I 0,.I 15]) H else Hl H b 0 λC A z=>aJ.LD H (AA B 0) λe' f' i' h' g' j'=>bh H (.C #[.I e',.I f',.L i' h' g',.U j'] 132) λK m=>Cc m b 0 (.L C A z)/\aW Tryz.prog (Builtin.append_ #[120,120] 120 #[.L C A z,.L (Sa K 0) 1 1]) m λp' O=> ∃G F E,p'=.L G F E/\aT O (AA b 0) (.L G F E) λn=> ∃I,Cc n b 1 (.I I)/\aT n (AA b 1) (.I (wrap .i64 (I+1))) λg=>Hp g b 5 λk'=>Hi g B 0 λl'=>Cl 219 #[.pointer k',.I l',.U v] g λq' k=>Vi q' λ_=> ∃J,Cc k B 0 (.I J)/\R (.T #[.I J,.I 0]) k):Cl 296 #[.P b 0,.I o,.L j i D,.U v] h R:=aP (lq (sq (lq (cq ll lf)) (lq (sq (bq (lq (cq ll (lq (cq ll lf))))) (sq (pN 11) (lq (sq (pN 8) ll))))))) Tryz.func296 P
theorem vX.walk(l:Cl 66 #[.P b 0] h λv f=> ∃j,v=.B j/\if(!j)then R (.I 6) f else Cl 83 #[.P b 0,.I num] f λV H=> ∃t,V=.I t/\if(decide (t<0))then R (.I 4) H else Hl H b 0 λn m _=>Bd t m/\aM n λA=> ∃T,aY H ((A.add (toNat t*4)).add 1)=some (.I T)/\if(T !=o)then R (.I 13) H else Cl 82 #[.P b 0,.I t] H λy g=> ∃p q u s r w,y=.agg #[.I p,.I q,.L u s r,.U w]/\∃i,Cc g b 3 (.I i)/\aT g (AA b 3) (.I (wrap .i64 (i+1))) λk=>R (.I 0) k):Cl 194 #[.P b 0,.I num,.I o] h R:=aP (lq (sq (lq (cq ll lf)) (lq (sq (bq (lq (cq ll (lq (cq ll lf))))) (lq (lq ll)))))) Tryz.func194 l
theorem yX.walk(w:bh h (.C #[.I 0,.I 0,.Z,.U 0] 132) λB r=>Cl 66 #[.P b 0] r λv H=> ∃q,v=.B q/\if(!q)then aJ.ST H (AA B 0) 0 0 none 0 0 0 λf=>aJ.LD f (AA B 0) λy C M J F Q=>R (.T #[.agg #[.I y,.I C,.L M J F,.U Q],.I 6]) f else∃Z t V,Cc H b 0 (.L Z t V)/\if(((t:Nat):Int)==0)then aJ.ST H (AA B 0) 0 0 none 0 0 0 λg=>aJ.LD g (AA B 0) λz D O K G S=>R (.T #[.agg #[.I z,.I D,.L O K G,.U S],.I 4]) g else∃T,Cc H b 2 (.I T)/\aT H (AA b 2) (.I (wrap .i64 (T+1))) λs=>Cl 82 #[.P b 0,.I 0] s λa' u=> ∃j k n m l p,a'=.agg #[.I j,.I k,.L n m l,.U p]/\aJ.ST u (AA B 0) j k n m l p λi=>aJ.LD i (AA B 0) λA E P L I U=>R (.T #[.agg #[.I A,.I E,.L P L I,.U U],.I 0]) i):Cl 95 #[.P b 0] h R:=aP (lq (sq (bq (lq (cq ll (lq (cq ll lf))))) (lq ll))) Tryz.func95 w
theorem yY.walk{n:Int}(K:Cl 66 #[.P b 0] h λa' i=>Vb a' λZ=>aH (λ(P:ck) (M L:Nat) (C:aj)=>R (.L P M L) C) (λJ=>if Z then Hp i b 5 λQ=>Cl 79 #[.pointer Q,.U n] i λb' D=>Vl b' λS T _=> ∃(I:ck->Nat->Nat->Int->aj->Prop)(m:ck->Nat->Nat->Int->aj->Nat),I none 0 0 0 D/\∀(g:ck)(f O:Nat)(t:Int)(H:aj),I g f O t H->if(decide (t<(T:Int)))then Bd t T/\aM S λA=>kR H (A.add (toNat t*1)) λU=>Cl 83 #[.P b 0,.I U] H λc' E=>Vi c' λV=>Cl 82 #[.P b 0,.I V] E λd' F=> ∃l p s r q u,d'=.agg #[.I l,.I p,.L s r q,.U u]/\bh F (.C #[.I l,.I p,.L s r q,.U u] 132) λB G=>aW Tryz.prog (Builtin.append_ #[120,120] 120 #[.L g f O,.L (Sa B 0) 1 1]) G λe' j=>Vl e' λy w v=> ∃z,Cc j b 4 (.I z)/\aT j (AA b 4) (.I (wrap .i64 (z+1))) λk=>(I y w v (wrap .i64 (t+1)) k/\m y w v (wrap .i64 (t+1)) k<m g f O t H)else J g f O H else J none 0 0 i)):Cl 49 #[.P b 0,.U n] h R:=aP (lq (lq (sq (lq (.join [(5,.one (.slice))] (cq (lq (bq (.loop [(5,.one (.slice)),(17,.one (.int .i64))] (lq (sq (cq lf lf) (sq (bq (lq ll)) lf)))))) lf))) ll))) Tryz.func49 K

end
end Go.Proofs.YtimiaphmdidfhaaGreatDoor
