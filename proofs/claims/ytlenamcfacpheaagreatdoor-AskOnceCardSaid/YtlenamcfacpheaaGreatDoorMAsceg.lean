/-
  Ei is proved here: parts of xi proof, one behind xi other (texts of this work, merged by a program; GH xi theorem GI not use is left out). No condition.
-/
import Derived.Test.YtlenamcfacpheaaGreatDoorMAscef
set_option maxRecDepth 100000
set_option maxHeartbeats 4000000
namespace Go.Proofs.YtlenamcfacpheaaGreatDoor
open Go.Den
open IntKind (wrap)
open Int (toNat)
section
namespace Bn
open Cb
open iY (Ev cV kO)
variable {V:cM→Bool} {h H h' g0 g:ak} {R:fG} {D:Nat→Prop}
variable {ys:List CV} {n k:Int} {bb cl:Nat} {v:BV} {ts:List Tr} {q:bZ} {t:Tr} {z:CV}
theorem Ou(ys:List CV): ∀v∈ys.flatMap iC,fX v=true:=λv c=>by
 obtain⟨a,_,b⟩:=List.mem_flatMap.1 c;exact oU a v b
theorem LF{p:bZ}{n m:Nat}(d:Row h p (ys.flatMap iC))(i:n=ys.length)(j:ys.length<=1000000)(hk: ∀P c h',fi h' P ys.length c 4 (ys.flatMap iC)->Fr No h h'->(∀x,aL P x->h.size<=x)->R (.slice P ys.length c) h'):Cl 295 #[.slice p n m] h R:=by
 subst i;refine j9.walk ?_;cases p with
 |none=>
  have:ys= []:=by
   rcases d with d|⟨a,e,_⟩
   .cases ys with
    |nil=>rfl
    |cons b bs=>cases d
   .cases e
  subst this;exact hk none 0 h (.nil rfl rfl rfl rfl) (Fr.refl _ _) (λx ⟨a,e,_⟩=>by cases e)
 |some a=>
  simp only[Option.isNone_some,au,aM];exact wg tI uI d (eO iC 4 gK ys) (Ou ys) ae ae λP c h' o f g=>⟨_,_,_,rfl,hk P c h' o f g⟩
structure Lc (g0 g:ak) (bb:Nat) (k n:Int) (v:BV) (ts:List Tr) (ys:List CV) (q:bZ) (cl:Nat):Prop where
 cX:aa.at g bb k n v.p v.b.length v.c q ys.length cl
 own:fi g q ys.length cl 4 (ys.flatMap iC)
 ge: ∀y,aL q y->g0.size<=y/\y≠bb
 tr:dx g (λy=>(g0.size<=y/\y≠bb)/\¬aL q y) ts ys
 fr:Fr (λy=>y=bb) g0 g
theorem Lc.on(L:Lc g0 g bb k n v ts ys q cl)(f:Fr No g h'):Lc g0 h' bb k n v ts ys q cl:=
 ⟨f.get L.cX id,L.own.frame f cb,L.ge,L.tr.on f,L.fr.on f⟩
theorem Ov(T:sX g (λy=>g0.size<=y/\y≠bb) t z)(e:aa.gn g bb z.s)(f:Fr (λy=>y=bb) g0 g): ∃ys,ys.length=z.ll/\Lc g0 g bb z.k z.n z.v t.l ys z.q z.cl:=by
 obtain⟨i,ys,a,b,c,d⟩:=T;refine⟨ys,a.symm,?_,b,c,d,f⟩;rw[<-a];exact e
theorem Ow{k':Nat}(L:Lc g0 g bb k (k':Int) v ts ys q cl)(ok:v.ok g (λy=>g0.size<=y/\y≠bb)):sX g (λy=>g0.size<=y/\y≠bb) (.mk k k' v.b ts) ⟨k,k',v,q,ys.length,cl⟩:=
 ⟨⟨rfl,rfl,rfl,ok⟩,ys,rfl,L.own,L.ge,L.tr⟩
theorem WV{Φ:ak->Prop}(L:Lc g0 g bb k n v ts ys q cl)(ll:ys.length<=1000000)(J:gX g (λy=>(g0.size<=y/\y≠bb)/\¬aL q y) t z)(hk: ∀G Y Q C,Lc g0 G bb k n v (ts++ [t]) Y Q C->Y.length=ys.length+1->g.size<=G.size->(∀x,x≠bb->¬aL q x->x<g.size->G[x]? =g[x]?)->Φ G):
  aT g (.cells z.s.arr 262) λp s=>aU Tryz.prog (Builtin.append_ #[260,260] 260 #[.slice q ys.length cl,.slice (Sa p 0) 1 1]) s λK u=>
   ∃o m T,K=.slice o m T/\aQ u (AA bb 3) (.slice o m T) λw=>Φ w:=by
 refine aa.dv λP U S j f7=> ?_
 have Z:=f7.1;have zg:=L.fr.1;have X:=aE j;have a':=aE L.cX;have W: ∀y,aL q y->y<g.size:=λy b=>L.own.dw b
 refine dD tI uI (L.own.frame f7 cb) (ds:=iC z) (.inr ⟨_,rfl,aa.AF (x:=z.s) j⟩) rfl (oU z) ae ae λQ C r O _ f11 f=>⟨_,_,_,rfl,?_⟩
 have B:=f11.get (f7.get L.cX id) (λb=>(L.ge _ b).2 rfl);refine bL B (by show 3<4;omega) λi d1 d2 d3=> ?_
 have f12:Fr (λy=>y=bb) r i:=Fr.of_eq d2 (λc A=>d3 c A);have N: ∀y,aL Q y->g0.size<=y/\y≠bb:=λy b=>by
  rcases f y b with a|a
  .exact L.ge y a
  .omega
 have E:ys.flatMap iC++iC z=(ys++ [z]).flatMap iC:=by rw[bY];simp
 refine hk i (ys++ [z]) Q C ⟨?_,?_,N,?_,?_⟩ bQ ?_ ?_
 .rw[ar];exact d1
 .rw[ar,<-E];exact O.frame f12 (λy b e=>bR (N y b))
 .have t1:=((L.tr.snoc J).lt.on f7).frame f11 (λy b d=>b.1.2 d);have M:=dx.mono (D':=λy=>(g0.size<=y/\y≠bb)/\¬aL Q y) (λy b=>⟨b.1.1,λd=>by
   rcases f y d with a|a
   .exact b.1.2 a
   .have:=b.2;omega⟩) t1
  exact dx.frame f12 (λy b e=>ae) M
 .exact((L.fr.on f7).trans f11 (S'':=λy=>y=bb) cb (λx l b=>bR (L.ge x b))).trans f12 cb cb
 .have:=f11.1;omega
 .intro x l I F;rw[d3 x l,f11.2 x ae I,f7.2 x F id]
theorem Ox{Φ:ak->Prop}{kl:List (bZ)}(L:Lc g0 g bb k n v ts ys q cl)(ll:ys.length<=1000000)(l:gX g (λy=>(g0.size<=y/\y≠bb)/\¬aL q y) t z)(hk: ∀G Y Q C,Lc g0 G bb k n v (ts++ [t]) Y Q C->Y.length=ys.length+1->g.size<=G.size->(∀x,x≠bb->¬aL q x->x<g.size->G[x]? =g[x]?)->Φ G):
  aT g (.cells z.s.arr 262) λB a=>Kp g a kl/\aU Tryz.prog (Builtin.append_ #[260,260] 260 #[.slice q ys.length cl,.slice (Sa B 0) 1 1]) a λm i=>
   ∃d c T,m=.slice d c T/\aQ i (AA bb 3) (.slice d c T) λj=>Φ j:=by
 intro b f E e;refine⟨?_,WV L ll l hk b f E e⟩;subst e;exact(Fr.push _ _).kp
theorem Oy{l c:Nat}(U:nk V H)(u:Fr No H h)(L:na h D q l c ys)(T:dx h D ts ys)(A:dF ts<=1000000)(hk: iq h R (.bool (!ts.all (hH V)))):Cl 258 #[.slice q l c,.func (.func 256) #[] #[]] h R:=by
 have G:=T.len;have el:=L.len;have C:=gW ts;refine jk.WU.walk (jG.WU.walk ?_);refine⟨λt g=> ∃i:Nat,t=(i:Int)/\i<=ts.length/\Fr No h g/\(ts.take i).all (hH V)=true,λt _=>ts.length - t.toNat,⟨0,rfl,br _,Fr.refl _ _,by rw[eM];rfl⟩,?_⟩;rintro _ g ⟨i,rfl,w,f,j⟩;by_cases d:i<ts.length
 .rw[gh];obtain⟨a,y,E,p,ty,B⟩:=elem (L.frame f cb) (T.on f) d;have I:=j1 d;have eq:ts.take (i+1)=ts.take i++ [at_ ts i]:=by
   rw[bm];unfold at_;rw[bh,aj d];rfl
  have tm:at_ ts i∈ts:=by
   unfold at_;rw[bh,aj d];exact dQ d
  refine⟨ae,cA.2 ⟨a,E,aa.nf (x:=y.s) (by rw[aC];exact p) (AH.walk (x:=y.s) (aa.dv λb s r o f1=>aa.fY o (fx U (u.tt (f.tt f1)) (ty.on f1) ae λm f2=>⟨_,rfl,_,rfl,?_⟩)))⟩⟩;have F:=f.tt (f1.tt f2);cases q:hH V (at_ ts i)with
  |false=>
   rw[gh];refine⟨_,rfl,?_⟩;have:=hk m F;rw[show ts.all (hH V)=false by rw[List.all_eq_false];exact⟨_,tm,by rw[q];decide⟩]at this;rw[aw ae];exact this
  |true=>
   rw[dz,bB (n:=(i:Int)+1) ae ae];exact⟨⟨i+1,ae,ae,F,by rw[eq,List.all_append,j];simp[q]⟩,by show ts.length - Int.toNat ((i:Int)+1)<ts.length - Int.toNat (i:Int);omega⟩
 .rw[af (λe=>d (bR (aP e)))];rw[bk ae]at j;have:=hk g f;rw[j]at this;exact⟨_,rfl,this⟩

end Bn
end
section
namespace Bn
open Cb
open iY (Ev cV kO)
variable {V:cM→Bool} {h h0 h':ak} {R:fG} {D:Nat→Prop} {ts:List Tr} {ys:List CV} {q:bZ} {l c:Nat}
variable {i:Nat}
theorem CI(L:na h D q l c ys)(T:dx h D ts ys)(p:dF ts<=1000000)(o:i<100)(hk: iq h R (.I (typeAt ts i))):Cl 257 #[.slice q l c,.I (i:Int)] h R:=by
 have s:=T.len;have el:=L.len;have r:=gW ts;refine AG.walk (aI.of λJ f=> ?_);have no: ∀g,Fr No h g->¬(i<ts.length/\(at_ ts i).n<=2/\ot (at_ ts i) (num (at_ ts i).n)=true)->J true g:=λg k b=>by
  subst f;dsimp only;rw[ah rfl];have:=hk g k;unfold typeAt at this;rw[af b]at this;exact this
 rw[dz];by_cases H:i<ts.length
 case neg=>rw[gh];exact no h (Fr.refl _ _) (λe=>H e.1)
 rw[dz];obtain⟨a,y,E,m,ty,_⟩:=elem L T H;have t:=j1 H;obtain⟨_,Y,_⟩:=gX.kn ty;have j:dM (a.add (Int.toNat (i:Int)*4)) y.s.l 0 h:=by rw[aC];exact m
 have c1:aX h ((a.add (Int.toNat (i:Int)*4)).add 1)=some (.U ((at_ ts i).n:Int)):=by rw[<-Y];exact j.2.1
 refine⟨ae,cA.2 ⟨a,E,_,c1,?_⟩⟩;by_cases b:(at_ ts i).n<=2
 case neg=>rw[gh];exact no h (Fr.refl _ _) (λe=>b e.2.1)
 rw[dz];refine⟨ae,cA.2 ⟨a,E,aa.nf (x:=y.s) j ⟨ae,cA.2 ⟨a,E,_,c1,fz λn f2=>aa.ex (nv (at_ ts i).n).s ⟨rfl,f2.kp,iI (x:=y) (y:=nv (at_ ts i).n) (ty.on f2) nh ae λd f3=>⟨_,rfl,f3.kp,?_⟩⟩⟩⟩⟩⟩;have F:=f2.tt f3;cases e:ot (at_ ts i) (num (at_ ts i).n)with
 |false=>exact no d F (λq=>by rw[e]at q;cases q.2.2)
 |true=>
  subst f;dsimp only;rw[dz];refine⟨ae,cA.2 ⟨a,E,_,F.cell c1 id,?_⟩⟩;have:=hk d F;unfold typeAt at this;rw[ah ⟨H,b,e⟩]at this;rw[bB ae ae];exact this
theorem CJ(ts:List Tr)(i:Nat): -1<=typeAt ts i/\typeAt ts i<=2:=by unfold typeAt;split<;>omega
theorem QU(n:Nat):List.replicate n (Value.int .u8 0)=bc (List.replicate n 0):=by unfold bc;rw[List.map_replicate];rfl
theorem Vn(n k:Nat)(m:Nat)(H:m=k):IntKind.wrap .u8 (Int.fdiv (n:Int) (2 ^ m))=((UInt8.ofNat (n/2 ^ k)).toNat:Int):=by subst H;rw[Oc,Ob]
theorem Gg{sum:Nat}(U:nk V h0)(u:Fr No h0 h)(L:na h D q l c ys)(T:dx h D ts ys)(hr:dF ts<=900000)(s1:1<=sum)(s2:sum<=2)(K: ∀b,sumOf V ts sum=.ok b->∀h' p c,Row h' p (bc b)->b.length=2*sum->(∀y,aL p y->h.size<=y)->Fr No h h'->R (.tuple #[.slice p b.length c,.I 0]) h')(Q:sumOf V ts sum=.error 3->iq h R (.tuple #[.Z,.I 3])):Cl 259 #[.slice q l c,.I (sum:Int)] h R:=by
 have ln:=T.len;have el:=L.len;have l9:=gW ts;refine BA.walk (LF L.row L.len ae λY c1 M o1 f1 G=>⟨_,_,_,rfl,pW.walk ⟨_,rfl,?_⟩⟩);rw[bB (n:=2*(sum:Int)) ae ae,show 2*(sum:Int)=((2*sum:Nat):Int) by omega];refine ML hM.tU rfl (2*sum) ae ae λN p3 C f3 g3=>⟨_,_,_,rfl,?_⟩
 rw[QU]at C;have t:(List.replicate (2*sum) (0:UInt8)).length=2*sum:=List.length_replicate;refine ir C.iJ t.symm ae λh4 v ev X f4=>aa.ex (CV.s ⟨2,0,v,none,0,0⟩) ⟨rfl,aa.dv λb h5 eb P f5=> ?_⟩
 have F:=f3.tt (f4.tt f5);have z1:=f1.1;have z3:=f3.1;have z4:=f4.1;have z5:=f5.1;have n1: ∀y,aL Y y->y<M.size:=λy f=>o1.dw f
 have vl:v.b.length=2*sum:=by rw[ev,t]
 refine dD tI uI (o1.frame F cb) (ds:=iC ⟨2,0,v,none,0,0⟩) (.inr ⟨_,rfl,aa.AF (x:=CV.s ⟨2,0,v,none,0,0⟩) P⟩) rfl (oU _) ae ae λp6 c6 m O _ f6 g6=>⟨_,_,_,rfl,?_⟩
 have J:ys.flatMap iC++iC ⟨2,0,v,none,0,0⟩=(ys++ [(⟨2,0,v,none,0,0⟩:CV)]).flatMap iC:=by rw[bY];simp
 rw[J]at O;have I:BF m (ts++ [qb (List.replicate (2*sum) 0)]) (ys++ [⟨2,0,v,none,0,0⟩]):=by
  have a:=(T.lt.on (f1.tt F)).frame f6 (λy f s=>bR (G y s));have b:gX m (λy=>N.size<=y) (.mk 2 0 v.b []) ⟨2,0,v,none,0,0⟩:=CE ((X.frame f5 cb).frame f6 (λy f s=>bR (n1 y s)));rw[ev]at b;exact a.u.snoc b.u
 have S:(ys++ [(⟨2,0,v,none,0,0⟩:CV)]).length=ys.length+1:=bQ
 have rA:dF (ts++ [qb (List.replicate (2*sum) 0)])<=900100:=by rw[iH];simp only[dF,room,t];omega
 refine jZ (D:=λ_=>True) ⟨S.symm,O.iJ,λ_ _ _=>trivial,O.le⟩ I ae λh7 z tz f7=>aa.ex z.s ⟨rfl,?_⟩
 have A:Fr No h m:=(f1.tt F).fresh f6 (λy f=>G y f);have g:=A.tt f7;have z6:=A.1;have z7:=f7.1;have H:sumOf V ts sum=sumOf V ts sum:=rfl;conv at H=>rhs;unfold sumOf
 refine xa (x:=z) U (u.tt g) tz.u (by simp only[room,bw];omega) (λo d p8 c8 w n8 f8=>⟨_,_,_,_,rfl,?_⟩) (λo d f8=>⟨_,_,_,_,rfl,?_⟩)
 .rw[dz];rw[ah o]at H;have j:=g.tt f8;have W:(enc (si (ts++ [qb (List.replicate (2*sum) 0)]))).length<=900200:=by
   have:=jI (si (ts++ [qb (List.replicate (2*sum) 0)]));simp only[room,bw]at this;omega
  generalize enc (si (ts++ [qb (List.replicate (2*sum) 0)]))=B at H w W⊢;have Z:=j.1;by_cases e1:sum=1
  .rw[ah (by rw[e1];rfl)];rw[ah e1]at H;refine Oi w.iJ rfl ae ⟨_,rfl,cI ?_⟩;rw[Vn (zO B) 8 (min (Int.toNat 8) (IntKind.bits .u16)) rfl,Ob];have r:Row (d.push (.cells (bc (Di B)).toArray 5)) (Sa d.size 0) (bc (Di B)):=iS;exact K _ H _ _ _ r (by rw[e1];rfl) (λy ⟨a,E,k⟩=>by cases E;rw[<-k];exact Z) (j.tt (Fr.push _ _))
  .rw[af (λe=>e1 (bR (eq_of_beq e)))];rw[af e1]at H;refine QR w.iJ rfl ae ⟨_,rfl,cI ?_⟩;rw[Vn (xK B) 24 (min (Int.toNat 24) (IntKind.bits .u32)) rfl,Vn (xK B) 16 (min (Int.toNat 16) (IntKind.bits .u32)) rfl,Vn (xK B) 8 (min (Int.toNat 8) (IntKind.bits .u32)) rfl,Ob];have r:Row (d.push (.cells (bc (Je B)).toArray 5)) (Sa d.size 0) (bc (Je B)):=iS;exact K _ H _ _ _ r (by rw[show sum=2 by omega];rfl) (λy ⟨a,E,k⟩=>by cases E;rw[<-k];exact Z) (j.tt (Fr.push _ _))
 .rw[gh];rw[af (by rw[o];decide)]at H;exact Q H d (g.tt f8)
theorem JV(U:nk V h0)(u:Fr No h0 h)(L:na h D q l c ys)(T:dx h D ts ys)(hr:dF ts<=800000)(hi:i<100)(k1: ∀t,nJ V ts i=.ok t->∀h' z,sX h' (λy=>h.size<=y) t z->Fr No h h'->R (.tuple #[z.agg,.I 0]) h')(Q: ∀e,nJ V ts i=.error e->iq h R (.tuple #[zv.agg,.I e])):Cl 206 #[.slice q l c,.I (i:Int)] h R:=by
 have ln:=T.len;have el:=L.len;have l9:=gW ts;refine DH.walk (aa.dv λb s eb A f1=>aI.of λr' hJ=> ?_);have zb:=aE A;have no: ∀g e,Fr No s g->nJ V ts i=.error e->aa.dE g (AA b 0) .z λG=>aa.cW G (AA b 0) λr=>R (.tuple #[r.agg,.I e]) G:=λg e m k=>
  DL (m.get A id) λG f=>Q e k G ((f1.tt m).fresh f (λy e=>ae))
 rw[dz];have H:nJ V ts i=nJ V ts i:=rfl;conv at H=>rhs;unfold nJ
 by_cases c':i<ts.length
 case neg=>
  rw[aw ae];rw[af c']at H;subst hJ;dsimp only;rw[ah rfl];exact no s 1 (Fr.refl _ _) H
 rw[ah c']at H;rw[aD ae];subst hJ;dsimp only;rw[af (show¬false=true by decide)];refine CI (L.frame f1 cb) (T.on f1) ae hi λh4 f4=>⟨_,rfl,aI.of λJ1 a'=>Oy U (u.tt (f1.tt f4)) (L.frame (f1.tt f4) cb) (T.on (f1.tt f4)) ae λj f5=>⟨_,rfl,?_⟩⟩
 have y':=CJ ts i;have p:=f1.tt (f4.tt f5);have S: ¬(ts.all (hH V)=true/\0<=typeAt ts i)->J1 true j:=λhn=>by
  subst a';dsimp only;rw[ah rfl];exact no j 3 (f4.tt f5) (by rw[H,af hn])
 cases ha:ts.all (hH V)with
 |false=>rw[gh];exact S (λe=>by rw[ha]at e;cases e.1)
 |true=>
 rw[dz];by_cases P:0<=typeAt ts i
 case neg=>rw[aw ae];exact S (λe=>P e.2)
 rw[aD ae];clear S;rw[ah ⟨ha,P⟩]at H;subst a';dsimp only;rw[af (show¬false=true by decide)];refine jZ (L.frame p cb) (T.on p) ae λh7 z tz f7=>aa.ex z.s ⟨rfl,aa.gB (x:=z.s) λb1 n t' B f9=>aI.of λJ2 m'=> ?_⟩
 have z1:=f1.1;have z4:=f4.1;have B':=f5.1;have z5:=p.1;have z7:=f7.1;have z9:=f9.1;have C':=aE B;have F:=p.tt (f7.tt f9);have done: ∀g (w:CV) t,sX g (λy=>j.size<=y/\y≠b1) t w->room t<=900000->aa.gn g b1 w.s->Fr (λy=>j.size<=y) n g->(nJ V ts i=if hH V t=true then .ok t else .error 3)->J2 g:=by
  intro g w t o rt hw m k;subst m';try dsimp only
  have J:Fr No h g:=F.fresh m (λy e=>ae);have b': ∀{Z},Fr No g Z->aa.gn Z b .z:=λf=>f.get (m.get ((f4.tt (f5.tt (f7.tt f9))).get A id) ae) id
  refine aa.fY hw (fx U (u.tt J) o.u ae λu' f11=>⟨_,rfl,?_⟩);cases C:hH V t with
  |false=>
   rw[gh];rw[C]at k;exact DL (b' f11) λG f=>Q 3 k G ((J.tt f11).fresh f (λy e=>ae))
  |true=>
   rw[dz];rw[C,ah rfl]at k;refine aa.fY (f11.get hw id) (fin (b' f11) (o.frame f11 cb) (λy d e=>bR f1.1) λj' t13 f13=>k1 t k j' w (t13.mono λy d=>ae) ((J.tt f11).fresh f13 (λy e=>ae)))
 have I:sX n (λy=>j.size<=y/\y≠b1) (si ts) z:=by
  obtain⟨⟨a1,a2,a3,a4⟩,zs,a5,W,a7,a8⟩:=tz;refine⟨⟨a1,a2,a3,((FI a4).mono λy d=>ae).frame f9 cb⟩,zs,a5,W.frame f9 cb,λy d=>⟨a7 y d,bR (W.dw d)⟩,(dx.mono (λy d=>by have s:=d.1.1;have h2:=d.2;exact⟨⟨s,ae⟩,d.1.2⟩) a8.lt).on f9⟩
 by_cases N:0<typeAt ts i
 case neg=>
  rw[dz];rw[af N]at H;exact done n z (si ts) I (by simp only[room,bw];omega) B (Fr.refl _ _) H
 rw[ah (aw N)];rw[ah N]at H;obtain⟨sum,n'⟩:=e8 P;rw[n']at H⊢;rw[aC]at H;refine Gg U (u.tt F) (L.frame F cb) (T.on F) ae ae ae (λbs O l' x' s' row lb nb f14=>⟨_,_,_,_,rfl,?_⟩) (λO l' f14=>⟨_,_,_,_,rfl,?_⟩)
 .rw[dz];rw[O]at H;refine⟨_,_,_,aq (f14.get B id),ir row rfl ae λv' v ev ov f16=>aa.ex (CV.s ⟨2,0,v,none,0,0⟩) ⟨rfl,f16.kp,?_⟩⟩;have e':=f14.tt f16;have g0:Fr (λy=>y=b1) j n:=(f7.tt f9).mono λ_ _=>False.elim
  obtain⟨zs,ez,M⟩:=Ov (g0:=j) I B g0;have i':z.s.lS=zs.length:=ez.symm;have zl:zs.length=ts.length:=by have:=M.tr.len;exact this.symm
  have q9: ∀y,aL z.q y->y<n.size:=λy d=>M.own.dw d
  have z':=f14.1;have A':=f16.1;have f':=M.on e';rw[i'];obtain⟨zk,zn,d',_⟩:=I.1;refine Ox f' ae (gX.mono (λy d=>⟨ae,λC=>bR (q9 y C)⟩) (CE ov)) λG p' q' g' K hl w' ho=> ?_
  have o':z.v.ok G (λy=>j.size<=y/\y≠b1):=by
   have E:z.v.b= []:=d';exact⟨by rw[E];exact Row.nil,λe=>absurd E e,I.1.2.2.2.cap⟩
  have o:=Ow (k':=z.n) K o';have X:z.k=4:=zk;have Y:z.n=0:=zn;have E:z.v.b= []:=d';rw[X,Y,E,ev]at o;have lr:=iH (a:=ts) (b:= [qb bs]);simp only[dF,room,bw]at lr;refine done G ⟨z.k,z.n,z.v,q',p'.length,g'⟩ (si (ts++ [qb bs])) (by rw[X,Y];exact o) (by simp only[room,bw];omega) K.cX ?_ H;refine⟨ae,λy d hn=> ?_⟩;rw[K.fr.2 y ae ae,(f7.tt f9).2 y ae id]
 .rw[gh];rw[O]at H;exact DL (f14.get ((f4.tt (f5.tt (f7.tt f9))).get A id) id) λG f=>Q 3 H G ((F.tt f14).fresh f (λy e=>bR f1.1))
theorem nN {i : Nat} {t : Tr} {x : CV} (U : nk V h0) (u : Fr No h0 h) (tx : FY h t x) (hr : room t ≤ 800000) (hi : i < 100)
    (k1 : ∀ us, pS V t i = .ok us → dF us ≤ dF t.l → ∀ h' p zs c, na h' (λy => h.size ≤ y) p zs.length c zs → dx h' (λy => h.size ≤ y) us zs → Fr No h h' → R (.tuple #[.slice p zs.length c, .int .i64 0]) h')
    (k2 : ∀ e, pS V t i = .error e → e ≠ 0 → ∀ h', Fr No h h' → R (.tuple #[.slice none 0 0, .int .i64 e]) h') : Cl 244 #[x.agg, .int .i64 (i : Int)] h R := by
  obtain ⟨xk, xn, xb, xl, xv, ys, L, TS⟩ := gX.kn tx
  have rl := oj (t := t)
  have ln := TS.len
  have el := L.len
  have l9 := gW t.l
  have e4 : x.s.f0 = t.k := xk
  have WW : x.s.lS = t.l.length := xl
  refine DI.walk (x := x.s) (aa.dv λb h1 eb hb f1 => aI.of λJ hJ => aa.fY hb (fx U (u.tt f1) (tx.on f1) (by omega) λh3 f3 => ⟨_, rfl, ?_⟩))
  have F3 := f1.tt f3
  have QV := f3.get hb id
  have hO : pS V t i = pS V t i := rfl
  conv at hO => rhs; unfold pS
  have bad : ¬ (hH V t = true ∧ t.k = 4 ∧ 0 ≤ typeAt t.l i) → ∀ g, Fr No h g → R (.tuple #[.slice none 0 0, .int .i64 3]) g := λhn g fg => k2 3 (by rw [hO, if_neg hn]) (by decide) g fg
  have SB : ¬ (hH V t = true ∧ t.k = 4 ∧ 0 ≤ typeAt t.l i) → J true h3 := λhn => by
    subst hJ
    dsimp only
    rw [if_pos rfl]
    exact bad hn h3 F3
  cases hR : hH V t with
  | false => exact SB (λe => by rw [hR] at e; cases e.1)
  | true =>
  rw [if_neg (show ¬ (!true) = true by decide)]
  refine ⟨_, cK QV rfl, ?_⟩
  rw [e4]
  by_cases k4 : t.k = 4
  case neg => rw [show (t.k != 4) = true by simpa using k4]; exact SB (λe => k4 e.2.1)
  rw [show (t.k != 4) = false by simpa using k4]
  clear SB
  subst hJ
  dsimp only
  rw [if_neg (show ¬ false = true by decide)]
  refine ⟨_, _, _, cK QV rfl, CI (L.frame F3 (λ_ _ => id)) (TS.on F3) (by omega) hi λh4 f4 => ⟨_, rfl, ?_⟩⟩
  have F4 := F3.tt f4
  have Jl := f4.get QV id
  by_cases ht : 0 ≤ typeAt t.l i
  case neg => rw [if_pos (decide_eq_true (by omega))]; exact bad (λe => ht e.2.2) h4 F4
  rw [if_neg (by simp only [decide_eq_true_eq]; omega)]
  rw [if_pos ⟨hR, k4, ht⟩] at hO
  clear bad
  have JW : ∀ {g} (us : List Tr) (zs : List CV) {n c : Nat} {p : Option Addr}, na g (λ_ => True) p n c zs → BF g us zs → dF us ≤ dF t.l → Fr No h g → pS V t i = .ok us → Cl 247 #[.slice p n c] g λHD WX => aa.EX λt84 => HD = t84.agg ∧ R (.tuple #[.slice t84.ou t84.lS t84.nt, .int .i64 0]) WX := by
    intro g us zs n c p Lz Tz rz fg hu
    refine jZ Lz Tz (by omega) λU7 z tz f10 => aa.ex z.s ⟨rfl, ?_⟩
    obtain ⟨_, ws, a5, a6, a7, a8⟩ := tz
    have zg := fg.1
    have := k1 us hu rz U7 z.q ws z.cl ⟨rfl, a6.iJ, λ_ y hy => by have := a7 y hy; omega, a6.le⟩ (dx.mono (λy hy => by have := hy.1; omega) a8) (fg.tt f10)
    rw [← a5] at this
    exact this
  by_cases h0 : typeAt t.l i = 0
  · rw [if_pos (by rw [h0]; rfl)]
    rw [if_pos h0] at hO
    exact ⟨_, _, _, cK Jl rfl, JW t.l ys (L.frame F4 (λ_ _ => id)) (TS.on F4) (Nat.le_refl _) F4 hO⟩
  rw [if_neg (by simpa using h0)]
  rw [if_neg h0] at hO
  have hil : i < t.l.length := by
    rcases Nat.lt_or_ge i t.l.length with hq | hq
    · exact hq
    · have : typeAt t.l i = -1 := by unfold typeAt; rw [if_neg (λe => by omega)]
      omega
  have ty2 := CJ t.l i
  obtain ⟨sum, WY⟩ := Int.eq_ofNat_of_zero_le ht
  rw [WY] at hO ⊢
  rw [Int.toNat_natCast] at hO
  have RJ : 1 ≤ sum ∧ sum ≤ 2 := by omega
  obtain ⟨n, hn⟩ : ∃ n, t.l.length = n + 1 := ⟨t.l.length - 1, by omega⟩
  rw [show t.l.length - 1 = n by omega] at hO
  have ew : IntKind.wrap .i64 (((x.s.lS : Nat) : Int) - 1) = (n : Int) := by rw [WW, hn, bB (by omega) (by omega)]; omega
  refine ⟨_, _, _, cK Jl rfl, ?_⟩
  rw [ew]
  obtain ⟨a, y, ea, hh, ty, _⟩ := elem (L.frame F4 (λ_ _ => id)) (TS.on F4) (i := n) (by omega)
  have rn := j1 (ts := t.l) (i := n) (by omega)
  obtain ⟨yk, yn, yb, yl, yv, _⟩ := gX.kn ty
  generalize RL : at_ t.l n = la at ty rn yk yn yb yl hO
  have rla := oj (t := la)
  refine ⟨_, _, _, cK Jl rfl, ⟨by omega, by omega⟩, cA.2 ⟨a, ea, aa.nf (x := y.s) (by rw [Int.toNat_natCast]; exact hh) (aa.gB (x := y.s) λb1 h6 Vm Jv f6 => aI.of λJ1 XT => ?_)⟩⟩
  have F6 := F4.tt f6
  have lb : y.s.kR = la.b.length := by show y.v.b.length = _; rw [yb]
  have bad : ∀ g, Fr No h6 g → ¬ (i < n ∧ ot la (qb la.b) = true ∧ la.b.length = 2 * sum) → J1 true g := λg fg hn => by
    subst XT
    try dsimp only
    rw [if_pos rfl]
    exact k2 3 (by rw [hO, if_neg hn]) (by decide) g (F6.tt fg)
  by_cases c1 : i < n
  case neg => rw [if_pos (decide_eq_true (by omega))]; exact bad h6 (Fr.refl _ _) (λe => c1 e.1)
  rw [if_neg (by simp only [decide_eq_true_eq]; omega)]
  have UQ : ∀ {g}, Fr No h6 g → Row g y.v.p (bc la.b) := λfg => by rw [← yb]; exact ((yv.frame f6 (λ_ _ => id)).frame fg (λ_ _ => id)).row
  refine aa.fY Jv ⟨_, _, _, cK Jv rfl, ir (UQ (Fr.refl _ _)) lb (by omega) λYp v ev ov f11 => aa.ex (CV.s ⟨2, 0, v, none, 0, 0⟩) ⟨rfl, f11.kp, ?_⟩⟩
  refine iI (x := y) (y := ⟨2, 0, v, none, 0, 0⟩) (s := qb la.b) (ty.on (f6.tt f11)) (ev ▸ CE ov) (by omega) λWi f12 => ⟨_, rfl, ?_⟩
  have RM := f11.tt f12
  cases c2 : ot la (qb la.b) with
  | false => rw [if_pos (by decide)]; exact bad Wi RM (λe => by rw [c2] at e; cases e.2.1)
  | true =>
  rw [if_neg (show ¬ (!true) = true by decide)]
  refine ⟨_, _, _, cK (RM.get Jv id) rfl, pW.walk ⟨_, rfl, (Fr.refl _ _).kp, ?_⟩⟩
  rw [lb, bB (n := 2 * (sum : Int)) (by omega) (by omega)]
  by_cases c3 : la.b.length = 2 * sum
  case neg => rw [show (((la.b.length : Nat) : Int) != 2 * (sum : Int)) = true by simp only [bne_iff_ne, ne_eq]; omega]; exact bad Wi RM (λe => c3 e.2.2)
  rw [show (((la.b.length : Nat) : Int) != 2 * (sum : Int)) = false by simp only [bne_eq_false_iff_eq]; omega]
  clear bad
  rw [if_pos ⟨c1, c2, c3⟩] at hO
  subst XT
  try dsimp only
  rw [if_neg (show ¬ false = true by decide)]
  have UR := F6.tt RM
  have cut : ∀ {g}, Fr No h g → na g (λ_ => True) (cR x.s.ou x.s.nt 0 4) ((Int.toNat (n : Int)) - 0) (x.s.nt - 0) (ys.take n) := fun {g} fg => by
    have hr := (L.frame fg (λ_ _ => id)).row.sub (cap := x.cl) (l := 0) (u := n) (sz := 4) (Nat.zero_le _) (by have := L.cap; omega)
    rw [mz iC 4 gK, Nat.zero_mul, List.drop_zero] at hr
    have hc : x.ll ≤ x.cl := L.cap
    exact ⟨by rw [List.length_take]; omega, hr, λ_ _ _ => trivial, by show n - 0 ≤ x.cl - 0; omega⟩
  have cc : n ≤ x.s.nt := by have hc : x.ll ≤ x.cl := L.cap; show n ≤ x.cl; omega
  have rt : dF (t.l.take n) ≤ dF t.l := oi _ _
  refine ⟨_, _, _, cK ((f6.tt RM).get Jl id) rfl, ⟨by omega, by omega⟩, Gg U (u.tt UR) (cut UR) ((TS.on UR).take n) (by omega) RJ.1 RJ.2 (λbs hs Vj p14 c14 row lbs nb f14 => ⟨_, _, _, _, rfl, ?_⟩) (λhs Vj f14 => ⟨_, _, _, _, rfl, ?_⟩)⟩
  · rw [if_neg (by decide)]
    rw [hs] at hO
    dsimp only at hO
    refine ⟨_, _, _, cK ((RM.tt f14).get Jv id) rfl, pL row (UQ (RM.tt f14)) rfl lb ⟨_, rfl, ?_⟩⟩
    have Vo := UR.tt f14
    by_cases ce : bs = la.b
    · rw [decide_eq_true ce, if_neg (show ¬ (!true) = true by decide)]
      rw [if_pos ce] at hO
      exact ⟨_, _, _, cK (((f6.tt RM).tt f14).get Jl id) rfl, ⟨by omega, by omega⟩, JW (t.l.take n) (ys.take n) (cut Vo) ((TS.on Vo).take n) rt Vo hO⟩
    · rw [decide_eq_false ce, if_pos (show (!false) = true by decide)]
      rw [if_neg ce] at hO
      exact k2 10 hO (by decide) Vj Vo
  · rw [if_pos (by decide)]
    rw [hs] at hO
    exact k2 3 hO (by decide) Vj (UR.tt f14)

end Bn
end
section
namespace Bn
open Cb
open iY (Ev cV kO)
variable {V:cM→Bool} {h H h':ak} {R:fG}
variable {ts:List Tr} {i:Nat} {t:Tr} {e:Int}
abbrev Prim.s(p:Prim):aG.S:=⟨p.fl,p.sum,p.dest.jT,p.dest.node,p.dest.gr,p.dest.host,p.dest.jv,p.rep.jT,p.rep.node,p.rep.gr,p.rep.host,p.rep.jv,p.id.e.jT,p.id.e.node,p.id.e.gr,p.id.e.host,p.id.e.jv,p.id.tm,p.id.sq,p.fj⟩
def Prim.wf(p:Prim):Prop:=0<=p.dest.gr/\0<=p.rep.gr/\0<=p.id.e.gr
variable {p:Prim}
theorem US{b:Nat}{y:aG.S}(x:Prim){K:aG.S->ak->Prop}(a:aG.gn h b y)(hk: ∀h',Fr (λy=>y=b) h h'->K x.s h'):
  aG.dE h (AA b 0) x.s λg=>aG.cW g (AA b 0) λr=>K r g:=
 aG.iz (x:=x.s) a λg d1 f _=>aG.fY d1 (hk g f)
theorem LG(p:Prim)(hk: iq h R (.bool (jM p))):Cl 202 #[p.s.agg] h R:=by
 refine BC.walk (aG.dv λb d E a f1=>⟨_,aq a,?_⟩);have no: ∀g,Fr No h g->jM p=false->R (.bool false) g:=λg o e=>by have:=hk g o;rw[e]at this;exact this
 change if Ta (p.fl:Int) 409638=true then _ else _
 by_cases c1:Ta (p.fl:Int) 409638=true
 case neg=>rw[af c1];exact no d f1 (by unfold jM;simp[c1])
 rw[ah c1];refine⟨_,aq a,?_⟩;by_cases c:0<=p.sum
 case neg=>rw[af (by simp only[aZ];exact c)];exact no d f1 (by unfold jM;simp[c])
 rw[ah (aw c)];refine⟨_,aq a,?_⟩;by_cases C:p.sum<=2
 case neg=>rw[af (by simp only[aZ];exact C)];exact no d f1 (by unfold jM;simp[C])
 rw[ah (aw C)];refine iX p.dest a rfl rfl rfl rfl rfl (iY.fx p.dest λq f2=>⟨_,rfl,?_⟩);cases f:cV p.dest with
 |false=>exact no q (f1.tt f2) (by unfold jM;simp[f])
 |true=>
 rw[ah rfl];have m:=f2.get a id;refine iX p.rep m rfl rfl rfl rfl rfl (iY.fx p.rep λr f3=>⟨_,rfl,?_⟩);have F:=f1.tt (f2.tt f3);cases j:cV p.rep with
 |false=>exact no r F (by unfold jM;simp[j])
 |true=>
 rw[ah rfl];have n:=f3.get m id;refine AK p.id n rfl rfl rfl rfl rfl rfl rfl (sd p.id λl f4=>⟨_,rfl,?_⟩);cases k:hI p.id with
 |false=>exact no l (F.tt f4) (by unfold jM;simp[k])
 |true=>
 rw[ah rfl];refine⟨_,aq (f4.get n id),?_⟩;have:=hk l (F.tt f4);unfold jM at this;rw[c1,aw c,aw C,f,j,k]at this;rw[show decide ((p.s.f19:Int)<=1099511627776)=decide (p.fj<=1099511627776)from lZ p.fj 1099511627776];exact this
theorem CK(h:jM p=true):0<=p.sum/\p.sum<=2/\cV p.dest=true/\cV p.rep=true/\hI p.id=true/\p.fj<=1099511627776:=by
 unfold jM at h;simp only[aS,aZ]at h;exact⟨h.1.1.1.1.1.2,h.1.1.1.1.2,h.1.1.1.2,h.1.1.2,h.1.2,h.2⟩
theorem AR(h:jM p=true):dF (EZ p)<=1000:=by
 obtain⟨_,_,a,b,c,_⟩:=CK h;have:=mD _ a;have:=mD _ b;have:=mD _ (AL c).1;simp only[EZ,dF,room,bw];omega
theorem AS(h:nJ V ts i=.ok t):room t<=dF ts+30:=by
 unfold nJ at h;split at h
 .split at h
  .split at h
   .split at h
    .cases h
    .rename_i b a;split at h
     .cases h;have:b.length<=4:=by
       unfold sumOf at a;split at a
       .cases a;split<;>simp[Di,Je]
       .cases a
      simp only[room,iH,dF,bw];omega
     .cases h
   .split at h
    .cases h;simp only[room,bw];omega
    .cases h
  .cases h
 .cases h
theorem AT(h:nK V p=.ok t):room t<=1100:=by
 unfold nK at h;split at h
 .rename_i a;have:=AS h;have:=AR a;omega
 .cases h
theorem Oz(p:Prim)(w:p.wf)(U:nk V H)(u:Fr No H h)(K: ∀t,nK V p=.ok t->∀h' z,sX h' (λy=>h.size<=y) t z->Fr No h h'->R (.tuple #[z.agg,.I 0]) h')(k: ∀e,nK V p=.error e->iq h R (.tuple #[zv.agg,.I e])):Cl 177 #[p.s.agg] h R:=by
 refine BD.walk (aG.dv λb h1 eb s f1=>aa.dv λb1 h2 f' v f2=>aG.fY (x:=p.s) (f2.get s id) (LG p λh3 f3=>⟨_,rfl,?_⟩));have a:=(f2.tt f3).get s id;have j:=f3.get v id;have f:=f1.tt (f2.tt f3);have z1:=f1.1;have u':=aE v;have z3:=f3.1;unfold nK at K k;cases c:jM p with
 |false=>exact DL j λQ f4=>k 3 (by rw[c,dz]) Q (f.fresh f4 (λy e=>ae))
 |true=>
 rw[dz];rw[c,ah rfl]at K k;obtain⟨s0,s2,I,J,E,_⟩:=CK c;have hE:=(AL E).1;refine iX p.dest a rfl rfl rfl rfl rfl (xe p.dest w.1 (λ_ h5 Z td f5=>aa.ex Z.s ⟨_,rfl,aa.gB (x:=Z.s) λb2 h7 g' S f7=> ?_⟩) (λe=>by rw[I]at e;cases e));have r:=f5.tt f7;refine iX p.rep (r.get a id) rfl rfl rfl rfl rfl (xe p.rep w.2.1 (λ_ h8 d tr f8=>aa.ex d.s ⟨_,rfl,aa.gB (x:=d.s) λb3 l' i' X f10=> ?_⟩) (λe=>by rw[J]at e;cases e));have o:=r.tt (f8.tt f10);refine AK p.id (o.get a id) rfl rfl rfl rfl rfl rfl rfl (CH p.id w.2.2 (λ_ m' m ti f11=>aa.ex m.s ⟨_,rfl,aa.gB (x:=m.s) λb4 n' j' A f13=> ?_⟩) (λe=>by rw[E]at e;cases e));have q:=o.tt (f11.tt f13);have l:=q.get a id;have W:=(f8.tt (f10.tt (f11.tt f13))).get S id;have a':=(f11.tt f13).get X id;obtain⟨ik,s',ib,il,iv,ys,L,T⟩:=gX.kn (ti.u.on f13);have lI:(MZ p.id).l.length=2:=rfl;have li:m.s.lS=2:=il;obtain⟨a0,y0,M,b',d',_⟩:=elem L T (i:=0) ae;obtain⟨D,Y,N,c',e',_⟩:=elem L T (i:=1) ae;refine⟨_,aq l,_,aq l,aa.fY W ⟨_,_,_,aq A,ae,cA.2 ⟨a0,M,aa.nf (x:=y0.s) b' (aa.fY a' ⟨_,_,_,aq A,ae,cA.2 ⟨D,N,aa.nf (x:=Y.s) c' ⟨_,aq l,?_⟩⟩⟩)⟩⟩⟩;obtain⟨sum,hs⟩:=e8 s0;have es:p.sum.toNat=sum:=ae
 refine fz (n:=7) λo' f14=>aa.ex (nv 7).s ⟨rfl,f14.kp,fz (n:=p.fl) λp' f15=>aa.ex (nv p.fl).s ⟨rfl,f15.kp,?_⟩⟩
 rw[show p.s.f1=(sum:Int)from hs,wrap_u64 (n:=(sum:Int)) ae ae];refine fz (n:=sum) λq' f16=>aa.ex (nv sum).s ⟨rfl,f16.kp,fz (n:=p.fj) λr' f17=>aa.ex (nv p.fj).s ⟨rfl,f17.kp,oV (ys:= [nv 7,nv p.fl,nv sum,Z,y0,d,Y,nv p.fj]) rfl λb5 O k' B f18=>⟨f18.kp,?_⟩⟩⟩
 have G:=f14.tt (f15.tt (f16.tt (f17.tt f18)));have C:BF O (EZ p) [nv 7,nv p.fl,nv sum,Z,y0,d,Y,nv p.fj]:=by
  unfold EZ;rw[es];exact .cons nh (.cons nh (.cons nh (.cons (td.u.on (f7.tt (f8.tt (f10.tt (f11.tt (f13.tt G)))))) (.cons (d'.on G) (.cons (tr.u.on (f10.tt (f11.tt (f13.tt G)))) (.cons (e'.on G) (.cons nh .nil)))))))
 have F:=q.tt G;have rp:=AR c;refine JV (i:=2) U (u.tt (f.tt F)) (B (λ_=>True) trivial) C ae ae (λt ht P z tz f19=>aa.ex z.s ⟨_,rfl,?_⟩) (λe he P f19=>aa.ex zv.s ⟨_,rfl,?_⟩)
 .have t':=F.1;exact fin ((F.tt f19).get j id) tz (λy hy e=>ae) λg t20 f20=>K t ht g z (t20.mono λy hy=>ae) ((f.tt (F.tt f19)).fresh f20 (λy e=>ae))
 .exact DL ((F.tt f19).get j id) λg f20=>k e he g ((f.tt (F.tt f19)).fresh f20 (λy e=>ae))
theorem CL(h:nJ V ts i=.error e):e≠0:=by
 unfold nJ at h;split at h
 .split at h
  .split at h
   .split at h
    .rename_i a;cases h;unfold sumOf at a;split at a
     .cases a
     .cases a;decide
    .split at h
     .cases h
     .cases h;decide
   .split at h
    .cases h
    .cases h;decide
  .cases h;decide
 .cases h;decide
theorem LH(h:nK V p=.error e):e≠0:=by
 unfold nK at h;split at h
 .exact CL h
 .cases h;decide
theorem OA(p:Prim)(w:p.wf)(U:nk V H)(u:Fr No H h)(hk: ∀h' z q,(∀t,nK V p=.ok t->q=0/\FY h' t z)->(∀e,nK V p=.error e->q≠0)->Fr No h h'->R (.tuple #[z.s.agg,.I q]) h'):Cl 177 #[p.s.agg] h R:=
 Oz p w U u (λt b h' z T f=>hk h' z 0 (λc e=>by rw[b]at e;cases e;exact⟨rfl,T.u⟩) (λe a=>by rw[b]at a;cases a) f) (λe a h' f=>hk h' zv e (λt b=>by rw[a]at b;cases b) (λ_ _=>LH a) f)
theorem OB{x:CV}(U:nk V H)(u:Fr No H h)(mx:mO.Mx h)(tx:FY h t x)(hr:room t<=400000)(k1: ∀p,xM V t=.ok p->p.wf->iq h R (.tuple #[p.s.agg,.I 0]))(k2: ∀e,xM V t=.error e->e≠0->iq h R (.tuple #[Prim.zero.s.agg,.I e])):Cl 194 #[x.agg] h R:=by
 have rl:=oj (t:=t);refine DJ.walk (x:=x.s) (aa.dv λb E eb hb f1=>aG.dv λb1 O Vm a' f2=>aa.fY (f2.get hb id) ?_);have v:=f1.tt f2;have E':=f2.get hb id;have zb:=aE hb;have Vk:=aE a';have z1:=f1.1;have z2:=f2.1;have no: ∀g e,Fr No O g->xM V t=.error e->e≠0->aG.dE g (AA b1 0) .z λG=>aG.cW G (AA b1 0) λr=>R (.tuple #[r.agg,.I e]) G:=λg e F K P=>
  US .zero (F.get a' id) λG f=>k2 e K P G ((v.tt F).fresh f (λy e=>ae))
 have l:xM V t=xM V t:=rfl;conv at l=>rhs;unfold xM
 refine nN (i:=2) U (u.tt v) (tx.on v) ae ae (λj m ru A p zs c L TS f3=>⟨_,_,_,_,rfl,?_⟩) (λe K P A f3=>⟨_,_,_,_,rfl,?_⟩)
 case refine_2=>
  rw[ah (cH P)];exact no A e f3 (by rw[l,K]) P
 rw[dz];rw[m]at l;dsimp only at l;have ln:=TS.len;have l9:=gW j;by_cases l8:j.length=8
 case neg=>
  rw[ah (by simp only[eI,fL];omega)];exact no A 3 f3 (by rw[l,af l8]) dt
 rw[af (by simp only[eI,fL];omega)];rw[ah l8]at l;have z3:=f3.1;have it: ∀i,i<8->∃(a:Addr)(y:CV),p=some a/\dM (a.add (i*4)) y.s.l 0 A/\FY A (at_ j i) y/\(∀{g},Fr No A g->aX g ((a.add (i*4)).add 1)=some (.U ((at_ j i).n:Int))):=λi hi=>by
  obtain⟨a,y,ea,hh,ty,_⟩:=elem L TS (i:=i) ae;obtain⟨_,yn,_⟩:=gX.kn ty;exact⟨a,y,ea,hh,ty.u,λF=>F.cell (by have:=hh.2.1;rw[<-yn];exact this) id⟩
 have Y: ∀i,i<8->room (at_ j i)<=dF j:=λi hi=>j1 ae
 obtain⟨a3,y3,q',P',Z',_⟩:=it 3 ae;have r3:=Y 3 ae;have r5:=Y 5 ae;have r4:=Y 4 ae;have r6:=Y 6 ae;have u2:=u.tt v;have m2:=mx.on v;refine⟨ae,cA.2 ⟨a3,q',aa.nf (x:=y3.s) P' (DO U (u2.tt f3) (m2.on f3) Z' ae λd qd ⟨N',O',wd⟩ h6 f6=>ax.ex d.s ⟨_,rfl,ax.gB (x:=d.s) λb2 h8 XB F' f8=> ?_⟩)⟩⟩;obtain⟨a5,y5,s',R',Zg,_⟩:=it 5 ae;have B:=f6.tt f8;refine⟨ae,cA.2 ⟨a5,s',aa.nf (x:=y5.s) (lG B id R') (DO U (u2.tt (f3.tt B)) (m2.on (f3.tt B)) (Zg.on B) ae λr qr ⟨V',W',wr⟩ h9 f9=>ax.ex r.s ⟨_,rfl,ax.gB (x:=r.s) λb3 e' eb3 H' f11=>aI.of λg' hJ=> ?_⟩)⟩⟩;obtain⟨a4,y4,r',Q',Zh,_⟩:=it 4 ae;obtain⟨a6,y6,t',S',Zi,_⟩:=it 6 ae;have o:=B.tt (f9.tt f11);have G':=(f9.tt f11).get F' id;have Z:=u2.tt (f3.tt o);have S:=m2.on (f3.tt o);have rest: ∀g s (X:jh) (q:Int),ai.gn g s X.s->Fr No e' g->IQ V (si [at_ j 4,at_ j 6]) X q->g' (Sa s 0) q g:=by
  intro g s X q Q F ⟨T',U',wq⟩;have C:=o.tt F;obtain⟨k',w1,u',_,_,n'⟩:=it 1 ae;obtain⟨l',w2,v',_,_,o'⟩:=it 2 ae;obtain⟨m',w7,w',_,_,p'⟩:=it 7 ae;subst hJ;dsimp only;refine⟨ae,cA.2 ⟨k',u',_,n' C,ae,cA.2 ⟨l',v',_,o' C,ax.fY (F.get G' id) (ax.fY (F.get H' id) (az.2 (ai.fY Q ⟨ae,cA.2 ⟨m',w',_,p' C,?_⟩⟩)))⟩⟩⟩;have n2:(at_ j 2).n<=2:=by
   have:0<=typeAt j 2:=by
    unfold pS at m;split at m
    .rename_i E;have key: ∀k,2<k->typeAt (t.l.take k) 2=typeAt t.l 2:=λk hk=>by
      unfold typeAt at_;rw[bh,bh,db,ah hk,bC];exact ite_congr (propext (by constructor<;>(rintro⟨a,b⟩;exact⟨ae,b⟩))) (λ_=>rfl) (λ_=>rfl)
     split at m
     .cases m;exact E.2.2
     .split at m
      .rename_i O;split at m
       .cases m
       .split at m
        .cases m;rw[key _ O.1];exact E.2.2
        .cases m
      .cases m
    .cases m
   unfold typeAt at this;split at this
   .rename_i E;exact E.2.1
   .omega
  refine aG.dv λb4 Yq Zj I' f13=>⟨f13.kp,?_⟩
  rw[bB (n:=(((at_ j 2).n:Nat):Int)) ae ae];refine aG.iz (x:=(wu j d r X).s) I' λx' d14 f14 _=>aG.fY d14 ?_
  have zg:=C.1;have b':Fr No O x':=(f3.tt (C.tt f13)).fresh f14 (λy e=>ae);refine OA (wu j d r X) ⟨wd,wr,wq⟩ U (u2.tt b') λYr z qz X' Y' f15=>aa.ex z.s ⟨_,rfl,aa.gB (x:=z.s) λb5 I eb5 J' f17=>aI.of λJ1 f'=> ?_⟩
  have c':=f15.tt f17;have D:=b'.tt c';have bad: ∀g,Fr No I g->xM V t=.error 3->J1 true g:=λg F K=>by
   subst f';try dsimp only
   rw[ah rfl];exact no g 3 (D.tt F) K dt
  by_cases c1:qd=0
  case neg=>rw[ah (cH c1)];exact bad I (Fr.refl _ _) (by rw[l,O' c1])
  rw[af (cH c1)];by_cases M:qr=0
  case neg=>rw[ah (cH M)];exact bad I (Fr.refl _ _) (by rw[l,W' M];cases oG V (at_ j 3)<;>rfl)
  rw[af (cH M)];by_cases N:q=0
  case neg=>rw[ah (cH N)];exact bad I (Fr.refl _ _) (by rw[l,U' N];cases oG V (at_ j 3)<;>cases oG V (at_ j 5)<;>rfl)
  rw[af (cH N)];rw[N' c1,V' M,T' N]at l;dsimp only at l;cases J:nK V (wu j d r X)with
  |error e=>
   rw[J]at l;rw[ah (cH (Y' e J))];exact bad I (Fr.refl _ _) l
  |ok d'=>
   rw[J]at l;dsimp only at l;obtain⟨rfl,T⟩:=X' d' J;rw[dz];have ra:=AT J;refine aa.fY J' (aa.fY (x:=x.s) (D.get E' id) (iI (x:=z) (y:=x) (T.on f17) (tx.on (v.tt D)) ae λy' f21=>⟨_,rfl,?_⟩));cases Q:ot d' t with
   |false=>exact bad y' f21 (by rw[l,af (by rw[Q];decide)])
   |true=>
    rw[Q,ah rfl]at l;subst f';try dsimp only
    rw[dz];exact aG.fY ((c'.tt f21).get d14 id) (US (wu j d r X) ((D.tt f21).get a' id) λG f=>k1 _ l ⟨wd,wr,wq⟩ G ((v.tt (D.tt f21)).fresh f (λy e=>ae)))
 have rI:dF [at_ j 4,at_ j 6]<=2*dF j:=by simp only[dF];omega
 have W:room (si [at_ j 4,at_ j 6])<=900000:=by simp only[room,bw];omega
 refine⟨ae,cA.2 ⟨a4,r',aa.nf (x:=y4.s) (lG o id Q') ⟨ae,cA.2 ⟨a6,t',aa.nf (x:=y6.s) (lG o id S') ?_⟩⟩⟩⟩;have T2:BF e' [at_ j 4,at_ j 6] [y4,y6]:=two (Zh.on o) (Zi.on o);refine⟨oV (ys:= [y4,y6]) rfl λb6 h22 eb6 L6 f22=>⟨?_,?_,trivial⟩,ai.dv λj' h34 Zk D' f34=>⟨f34.kp,oV (ys:= [y4,y6]) rfl λb11 YN Zl i' f35=> ?_⟩,trivial⟩
 .refine jZ (L6 (λ_=>True) trivial) (T2.on f22) ae λXA z T f23=>aa.ex z.s ⟨rfl,?_,?_,trivial⟩
  .exact DP U (Z.tt (f22.tt f23)) (S.on (f22.tt f23)) T.u W λX q w XC f24=>ai.ex X.s ⟨_,rfl,ai.gB (x:=X.s) λb7 z' eb7 K' f26=>rest z' b7 X q K' (f22.tt (f23.tt (f24.tt f26))) w⟩
  .refine ai.dv λb8 XH eb8 L' f27=>DP U (Z.tt (f22.tt (f23.tt f27))) (S.on (f22.tt (f23.tt f27))) (T.u.on f27) W λX q w h28 f28=>ai.ex X.s ⟨_,rfl,ai.iz (x:=X.s) (f28.get L' id) λA' d29 f29 _=>rest A' b8 X q d29 ?_ w⟩
   exact(f22.tt (f23.tt (f27.tt f28))).fresh f29 (λy e=>gv f22.1 f23.1)
 .refine ai.dv λb9 Wj eb9 M' f30=>jZ ((L6 (λ_=>True) trivial).frame f30 cb) (T2.on (f22.tt f30)) ae λXL z T f31=>aa.ex z.s ⟨rfl,DP U (Z.tt (f22.tt (f30.tt f31))) (S.on (f22.tt (f30.tt f31))) T.u W λX q w YJ f32=>ai.ex X.s ⟨_,rfl,ai.iz (x:=X.s) ((f31.tt f32).get M' id) λB' d33 f33 _=>rest B' b9 X q d33 ?_ w⟩⟩
  exact(f22.tt (f30.tt (f31.tt f32))).fresh f33 (λy e=>bR f22.1)
 .refine jZ (i' (λ_=>True) trivial) (T2.on (f34.tt f35)) ae λh36 z T f36=>aa.ex z.s ⟨rfl,DP U (Z.tt (f34.tt (f35.tt f36))) (S.on (f34.tt (f35.tt f36))) T.u W λX q w h37 f37=>ai.ex X.s ⟨_,rfl,ai.iz (x:=X.s) ((f35.tt (f36.tt f37)).get D' id) λC' d38 f38 _=>rest C' j' X q d38 ?_ w⟩⟩
  exact(f34.tt (f35.tt (f36.tt f37))).fresh f38 (λy e=>ae)

end Bn
end
section
variable {h:ak} {R:fG}
variable {c L:bZ} {d D l e:Nat} {b:aK.S}
theorem Iz.walk(m:aT h (.cells aa.S.z.arr 262) λb i=>Cl 193 #[.slice c d D,.I 0] i λv j=>aa.EX λt=> ∃o T,v=.tuple #[t.agg,.I o,.I T]/\aT j (.cells aa.S.z.arr 262) λB k=>aa.dE k (AA B 0) t λH=>aa.cW H (AA B 0) λt13=>if(T==0)then Cl 314 #[.slice c d D] H λV a=> ∃t18,V=.bool t18/\Kp H a [(Sa B 0)]/\aa.dE a (AA b 0) t13 λf=>aa.cW f (AA b 0) λr=>R (.tuple #[r.agg,.bool t18]) f else aa.dE H (AA b 0) t13 λg=>aa.cW g (AA b 0) λn=>R (.tuple #[n.agg,.bool false]) g):Cl 293 #[.slice c d D] h R:=aR (lq (lq (sq (pK 9) lf))) Tryz.func293 m
theorem AU.walk(r:aT h (.cells ax.S.z.arr 29) λb m=>Cl 293 #[.slice c d D] m λv n=>aa.EX λt=> ∃T,v=.tuple #[t.agg,.bool T]/\aT n (.cells aa.S.z.arr 262) λB o=>aa.dE o (AA B 0) t λf=>aa.cW f (AA B 0) λt14=>Cl 245 #[t14.agg] f λV p=>ax.EX λj=> ∃k,V=.tuple #[j.agg,.I k]/\aT p (.cells ax.S.z.arr 29) λa q=>ax.dE q (AA a 0) j λH=>ax.cW H (AA a 0) λt18=>if T then ax.dE H (AA b 0) t18 λg=>ax.cW g (AA b 0) λs=>R (.tuple #[s.agg,.bool (k==0)]) g else ax.dE H (AA b 0) t18 λi=>ax.cW i (AA b 0) λu=>R (.tuple #[u.agg,.bool false]) i):Cl 252 #[.slice c d D] h R:=aR (lq (lq (lq ll))) Tryz.func252 r
theorem LI.walk(j:Cl 293 #[.slice c d D] h λv g=>aa.EX λt=> ∃T,v=.tuple #[t.agg,.bool T]/\aT g (.cells aa.S.z.arr 262) λb i=>aa.dE i (AA b 0) t λH=> ∃t12,Cc H b 1 (.U t12)/\if T then aa.cW H (AA b 0) λt15=>Hu H b 1 λt17=>Cl 205 #[.U t17] H λV f=>aa.EX λt18=>V=t18.agg/\Kp H f [(Sa b 0),(Sa b 1)]/\Cl 248 #[t15.agg,t18.agg] f λk a=> ∃t19,k=.bool t19/\Kp f a [(Sa b 1)]/\if t19 then∃t23,Cc a b 1 (.U t23)/\R (.tuple #[.U t12,.bool (decide (t23<=1099511627776))]) a else R (.tuple #[.U t12,.bool false]) a else R (.tuple #[.U t12,.bool false]) H):Cl 253 #[.slice c d D] h R:=aR (lq (lq (sq (pK 17) lf))) Tryz.func253 j
theorem IA.walk(o:Cl 293 #[.slice c d D] h λv m=>aa.EX λt=> ∃T,v=.tuple #[t.agg,.bool T]/\aT m (.cells aa.S.z.arr 262) λb n=>aa.dE n (AA b 0) t λf=>aI (λ(t26:Bool) (H:ak)=>if t26 then R (.tuple #[.U 0,.U 0,.bool false]) H else Hl H b 3 λs r y=>Bd 0 r/\aO s λa=>ia H ((a.add (toNat 0*4)).add 1) λt31=>Hl H b 3 λw u z=>Bd 1 u/\aO w λA=>ia H ((A.add (toNat 1*4)).add 1) λt36=>aa.cW H (AA b 0) λt39=>aT H (.cells #[.U t31,.U t36] 27) λB i=>Kp H i [(Sa b 0)]/\Cl 209 #[.slice (Sa B 0) 2 2] i λV j=>aa.EX λt43=>V=t43.agg/\Kp i j [(Sa b 0)]/\Cl 248 #[t39.agg,t43.agg] j λx g=> ∃t44,x=.bool t44/\if t44 then if(decide (t31≥1))then if(decide (t31<=255))then R (.tuple #[.U t31,.U t36,.bool (decide (t36<=t31))]) g else R (.tuple #[.U t31,.U t36,.bool false]) g else R (.tuple #[.U t31,.U t36,.bool false]) g else R (.tuple #[.U t31,.U t36,.bool false]) g) (λJ=>if(!T)then J true f else∃t18,Cc f b 0 (.I t18)/\if(t18 !=4)then J true f else∃q k p,Cc f b 3 (.slice q k p)/\J (((k:Nat):Int) !=2) f)):Cl 254 #[.slice c d D] h R:=aR (lq (lq (sq (sq (.join [(26,.one (.bool))] lf) (cq ll lf)) (sq (pK 12) (sq (pK 24) lf))))) Tryz.func254 o
theorem BK.walk(u:aT h (.cells aa.S.z.arr 262) λb o=>Cl 247 #[.Z] o λv p=>aa.EX λt6=>v=t6.agg/\aT p (.cells aa.S.z.arr 262) λB q=>aa.dE q (AA B 0) t6 λr=> ∃(I:Int->ak->Prop)(m:Int->ak->Nat),I 0 r/\∀(t9:Int)(H:ak),I t9 H->if(decide (t9<(l:Int)))then Bd t9 l/\aO L λa=>ia H (a.add (toNat t9*1)) λt12=>Hl H B 3 λz y x=>Cl 205 #[.U t12] H λV f=>aa.EX λt16=>V=t16.agg/\Kp H f [(Sa B 3)]/\aT f (.cells t16.arr 262) λn i=>Kp f i [(Sa B 3)]/\aU Tryz.prog (Builtin.append_ #[260,260] 260 #[.slice z y x,.slice (Sa n 0) 1 1]) i λA s=> ∃k T t,A=.slice k T t/\aQ s (AA B 3) (.slice k T t) λj=>(I (wrap .i64 (t9+1)) j/\m (wrap .i64 (t9+1)) j<m t9 H)else aa.cW H (AA B 0) λt21=>aa.dE H (AA b 0) t21 λg=>aa.cW g (AA b 0) λw=>R (w.agg) g):Cl 209 #[.slice L l e] h R:=aR (lq (lq (sq (lq (bq (.loop [(9,.one (.int .i64))] (lq (sq (cq lf lf) (sq (bq (lq (pK 8))) lf)))))) ll))) Tryz.func209 u
theorem DS.walk{kind:Int} (q:aI (λ(ok:Bool) (H:ak)=>if ok then R (.bool (decide ((d:Int)<=200))) H else R (.bool false) H) (λJ=>aI (λ(O:Bool) (i:ak)=>J O i) (λj=>if(kind==6)then Cl 252 #[.slice c d D] h λv k=>ax.EX λu=> ∃t,v=.tuple #[u.agg,.bool t]/\j t k else aI (λ(r:Bool) (m:ak)=>j r m) (λa=>if(kind==7)then Cl 253 #[.slice c d D] h λV n=> ∃w T,V=.tuple #[.U w,.bool T]/\a T n else aI (λ(s:Bool) (o:ak)=>a s o) (λf=>if(kind==10)then Cl 254 #[.slice c d D] h λz p=> ∃x y g,z=.tuple #[.U x,.U y,.bool g]/\f g p else f true h))))):Cl 201 #[.U kind,.slice c d D] h R:=aR (lq (lq (sq (lq (.join [(5,.one (.bool))] (bq (lq (.join [(5,.one (.bool))] (cq lf (lq (.join [(5,.one (.bool))] (cq lf (lq (.join [(5,.one (.bool))] (cq lf lf)))))))))))) ll))) Tryz.func201 q
theorem DT.walk(a:Cl 250 #[.slice L l e,.func (.func 251) #[] #[]] h λv H=> ∃t4,v=.bool t4/\R (.bool (!t4)) H):Cl 200 #[.slice L l e] h R:=aR (lq ll) Tryz.func200 a
theorem AW.walk{n:Int}(H:if(decide (n<1))then R (.bool true) h else R (.bool (decide (n>255))) h):Cl 251 #[.U n] h R:=aR (lq ll) Tryz.func251 H
theorem Gh.walk(j:aT h (.cells b.arr 201) λB a=>Hu a B 0 λt4=>Hu a B 1 λt6=>aT a (.cells #[.U t4,.U t6] 27) λf g=>Cl 200 #[.slice (Sa f 0) 2 2] g λv H=> ∃t8,v=.bool t8/\if t8 then∃t11,Cc H B 2 (.U t11)/\if((wrap .u64 ((nE t11 &&& ~~~ nE 23).toNat:Int))==0)then∃t17,Cc H B 3 (.I t17)/\if(decide (t17≥0))then∃t22,Cc H B 3 (.I t22)/\if(decide (t22<=2))then Hu H B 0 λt27=>Hl H B 4 λk T t=>Cl 201 #[.U t27,.slice k T t] H λV i=> ∃t30,V=.bool t30/\R (.bool t30) i else R (.bool false) H else R (.bool false) H else R (.bool false) H else R (.bool false) H):Cl 175 #[b.agg] h R:=aR (lq ll) Tryz.func175 j
theorem Gi.walk(C:aT h (.cells b.arr 201) λB u=>aT u (.cells aa.S.z.arr 262) λa g=>aK.cW g (AA B 0) λt5=>Cl 175 #[t5.agg] g λv H=> ∃t6,v=.bool t6/\if(!t6)then aa.dE H (AA a 0) aa.S.z λi=>aa.cW i (AA a 0) λE=>R (.tuple #[E.agg,.I 3]) i else∃t10,Cc H B 0 (.U t10)/\∃t12,Cc H B 1 (.U t12)/\∃t14,Cc H B 2 (.U t14)/\∃t16,Cc H B 3 (.I t16)/\aT H (.cells #[.U t10,.U t12,.U t14,.U (wrap .u64 t16)] 27) λr x=>Cl 209 #[.slice (Sa r 0) 4 4] x λV j=>aa.EX λt19=>V=t19.agg/\∃k T t,Cc j B 4 (.slice k T t)/\Cl 210 #[.slice k T t] j λG y=>aa.EX λt24=>G=t24.agg/\aT y (.cells t24.arr 262) λs z=>aU Tryz.prog (Builtin.append_ #[260,260] 260 #[.slice t19.ou t19.lS t19.nt,.slice (Sa s 0) 1 1]) z λI A=> ∃o n m,I=.slice o n m/\Cl 206 #[.slice o n m,.I 3] A λJ w=>aa.EX λp=> ∃q,J=.tuple #[p.agg,.I q]/\aa.dE w (AA a 0) p λf=>aa.cW f (AA a 0) λF=>R (.tuple #[F.agg,.I q]) f):Cl 179 #[b.agg] h R:=aR (lq (sq (lq (cq ll lf)) (lq ll))) Tryz.func179 C
theorem IB.walk{x:aa.S} (hv:aT h (.cells x.arr 262) λb d'=>aT d' (.cells aK.S.z.arr 201) λB I=>aa.cW I (AA b 0) λt10=>Cl 244 #[t10.agg,.I 3] I λv k=> ∃T t m' p,v=.tuple #[.slice T t m',.I p]/\if(p !=0)then aK.dE k (AA B 0) aK.S.z λK=>aK.cW K (AA B 0) λr0=>R (.tuple #[r0.agg,.I p]) K else aI (λ(t19:Bool) (H:ak)=>if t19 then aK.dE H (AA B 0) aK.S.z λM=>aK.cW M (AA B 0) λj'=>R (.tuple #[j'.agg,.I 3]) M else aI (λ(u:bZ) (N:ak)=>aO u λa=>aK.cW N a λt55=>Cl 179 #[t55.agg] N λn' h'=>aa.EX λZ=> ∃a',n'=.tuple #[Z.agg,.I a']/\aT h' (.cells aa.S.z.arr 262) λw i'=>aa.dE i' (AA w 0) Z λj=>aI (λ(t66:Bool) (m:ak)=>if t66 then aK.dE m (AA B 0) aK.S.z λC=>aK.cW C (AA B 0) λk'=>R (.tuple #[k'.agg,.I 3]) C else aO u λb'=>aK.cW m b' λt68=>aK.dE m (AA B 0) t68 λE=>aK.cW E (AA B 0) λl'=>R (.tuple #[l'.agg,.I 0]) E) (λr=>if(a' !=0)then r true j else aa.cW j (AA w 0) λt62=>aa.cW j (AA b 0) λt63=>Cl 248 #[t62.agg,t63.agg] j λo' e'=> ∃t64,o'=.bool t64/\r (!t64) e')) (λq=>Bd 0 t/\aO T λA=>ia H ((A.add (toNat 0*4)).add 1) λt34=>Bd 1 t/\aO T λf=>ia H ((f.add (toNat 1*4)).add 1) λt38=>Bd 2 t/\aO T λg=>ia H ((g.add (toNat 2*4)).add 1) λt42=>Bd 3 t/\aO T λi=>ia H ((i.add (toNat 3*4)).add 1) λt46=>Bd 4 t/\aO T λs=>oY H ((s.add (toNat 4*4)).add 2) λQ P O=>(Cl 50 #[.slice Q P O] H λp' n=> ∃X V S,p'=.slice X V S/\Kp H n [(some ((i.add (toNat 3*4)).add 1)),(some ((g.add (toNat 2*4)).add 1)),(some ((f.add (toNat 1*4)).add 1)),(some ((A.add (toNat 0*4)).add 1))]/\aT n (.cells aK.S.z.arr 201) λy F=>Kp n F [(some ((i.add (toNat 3*4)).add 1)),(some ((g.add (toNat 2*4)).add 1)),(some ((f.add (toNat 1*4)).add 1)),(some ((A.add (toNat 0*4)).add 1))]/\aK.dE F (AA y 0) ⟨t34,t38,t42,(wrap .i64 t46),X,V,S⟩ λf'=>q (Sa y 0) f')/\(aT H (.cells aK.S.z.arr 201) λz o=>Kp H o [(some ((s.add (toNat 4*4)).add 2)),(some ((i.add (toNat 3*4)).add 1)),(some ((g.add (toNat 2*4)).add 1)),(some ((f.add (toNat 1*4)).add 1)),(some ((A.add (toNat 0*4)).add 1))]/\Cl 50 #[.slice Q P O] o λq' G=> ∃Y W U,q'=.slice Y W U/\Kp o G [(some ((i.add (toNat 3*4)).add 1)),(some ((g.add (toNat 2*4)).add 1)),(some ((f.add (toNat 1*4)).add 1)),(some ((A.add (toNat 0*4)).add 1))]/\aK.dE G (AA z 0) ⟨t34,t38,t42,(wrap .i64 t46),Y,W,U⟩ λg'=>q (Sa z 0) g')/\True)) (λJ=>if(((t:Nat):Int) !=5)then J true k else Bd 4 t/\aO T λc'=> ∃t27,aX k (c'.add (toNat 4*4))=some (.I t27)/\J (t27 !=2) k)):Cl 195 #[x.agg] h R:=aR (lq (lq (sq (bq (lq (cq ll (sq (.join [(19,.one (.bool))] lf) (cq ll lf))))) (sq (.join [(6,.one (.ptr))] (.kC (ga 21 0 (.alts (.fork 21 (ga 3 22 .done) (.fork 23 (.op 21 (.op 22 (.op 24 .done))) .gy)))))) (sq (lq (sq (.join [(66,.one (.bool))] lf) (cq ll lf))) ll))))) Tryz.func195 hv

end
section
namespace Bn
open Cb
open iY (Ev cV kO)
variable {V:cM→Bool} {h h0 h':ak} {R:fG} {D:Nat→Prop}
variable {p:bZ} {l c n i:Nat} {bs:cM} {t:Tr} {m:List Tr}
theorem uz(bs:cM):room (eZ V bs)<=10*bs.length+9:=by
 unfold eZ;split
 .rename_i h;have:=(zK h).1;omega
 .simp[Ja,room,dF]
theorem AX(U:nk V h0)(u:Fr No h0 h)(row:Row h p (bc bs))(g:l=bs.length)(cap:bs.length<=c)(A:bs.length<=80000)(hk: ∀h' z,FY h' (eZ V bs) z->Fr No h h'->R (.tuple #[z.s.agg,.bool (jN V bs)]) h'):Cl 293 #[.slice p l c] h R:=by
 refine Iz.walk (aa.dv λb v s a f1=>AD (U.mono (u.tt f1)) (row.frame f1 cb) g cap ae (λk t x N r T f2=>aa.ex x.s ⟨_,_,rfl,aa.gB (x:=x.s) λb1 o j d f4=>aa.fY d ?_⟩) (λk e f f2=>aa.ex zv.s ⟨_,_,rfl,aa.gB (x:=zv.s) λb1 o j d f4=>aa.fY d ?_⟩))
 .have F:=f1.tt (f2.tt f4);have E:eZ V bs=t:=by unfold eZ;rw[r]
  rw[E]at hk;rw[gh];refine FQ (U.mono (u.tt F)) (row.frame F cb) g cap ae λw f5=>⟨_,rfl,f5.kp,aa.iz (x:=x.s) ((f2.tt (f4.tt f5)).get a id) λH d6 f6 _=>aa.fY d6 (hk H x ?_ ((F.tt f5).fresh f6 (λy e=>ae)))⟩
  have Z:=aE a;exact((T.on f4).on f5).frame f6 (λy B e=>ae)|>.u
 .have F:=f1.tt (f2.tt f4);have E:eZ V bs=Ja:=by unfold eZ;rw[f]
  have es:jN V bs=false:=by unfold jN;rw[f]
  rw[E,es]at hk;rw[af (λq=>rX f (eq_of_beq q))];exact aa.iz (x:=zv.s) ((f2.tt f4).get a id) λH d6 f6 _=>aa.fY d6 (hk H zv (nh (n:=0)) (F.fresh f6 (λy e=>ae)))
theorem Gj(U:nk V h0)(u:Fr No h0 h)(mx:mO.Mx h)(row:Row h p (bc bs))(j:l=bs.length)(cap:bs.length<=c)(k:bs.length<=80000)(hk: ∀h' (e:Ev),Fr No h h'->R (.tuple #[e.s.agg,.bool (jN V bs && (oG V (eZ V bs)).isSome)]) h'):Cl 252 #[.slice p l c] h R:=by
 have G:=uz (V:=V) bs;refine AU.walk (ax.dv λb s E a f1=>AX U (u.tt f1) (row.frame f1 cb) j cap k λv z T f2=>aa.ex z.s ⟨_,rfl,aa.gB (x:=z.s) λb1 w o f f4=>aa.fY f (DO U (u.tt (f1.tt (f2.tt f4))) (mx.on (f1.tt (f2.tt f4))) (T.on f4) ae λe q ⟨Q,q1,_⟩ A f5=>ax.ex e.s ⟨_,rfl,ax.gB (x:=e.s) λB C r g f7=>ax.fY g ?_⟩)⟩);have F:=f2.tt (f4.tt (f5.tt f7));cases d:jN V bs with
 |false=>
  rw[d]at hk;rw[dz];exact Ir (x:=e) (F.get a id) λH f8=>hk H e ((f1.tt F).fresh f8 (λy e=>ae))
 |true=>
  rw[d]at hk;rw[ah rfl];refine Ir (x:=e) (F.get a id) λH f8=> ?_
  have:=hk H e ((f1.tt F).fresh f8 (λy e=>ae));have eq:(true && (oG V (eZ V bs)).isSome)=(q==0):=by
   by_cases c0:q=0
   .rw[Q c0,c0];rfl
   .rw[q1 c0,dL.2 c0];rfl
  rw[eq]at this;exact this
theorem SD(U:nk V h0)(u:Fr No h0 h)(row:Row h p (bc bs))(j:l=bs.length)(cap:bs.length<=c)(k:bs.length<=80000)(hk: iq h R (.tuple #[.U ((eZ V bs).n:Int),.bool (R9 V bs)])):Cl 253 #[.slice p l c] h R:=by
 have r:=uz (V:=V) bs;refine LI.walk (AX U u row j cap k λo z T f2=>aa.ex z.s ⟨_,rfl,aa.gB (x:=z.s) λb1 f E H f4=> ?_⟩);unfold R9 at hk;obtain⟨_,Z,_⟩:=gX.kn T;rw[<-Z]at hk;refine⟨_,aq H,?_⟩;cases e:jN V bs with
 |false=>
  rw[e]at hk;rw[dz];exact hk f (f2.tt f4)
 |true=>
  rw[e]at hk;rw[ah rfl];refine aa.fY H ⟨_,aq H,fz λg f5=>aa.ex (nv z.n).s ⟨rfl,f5.kp,iI (x:=z) (y:=nv z.n) (s:=num z.n) ((T.on f4).on f5) (nh (h:=g) (n:=z.n)) ae λa f6=>⟨_,rfl,f6.kp,?_⟩⟩⟩;have F:=f2.tt (f4.tt (f5.tt f6));cases d:ot (eZ V bs) (num z.n)with
  |false=>
   rw[d]at hk;rw[dz];exact hk a F
  |true=>
   rw[d]at hk;rw[ah rfl];refine⟨_,aq ((f5.tt f6).get H id),?_⟩;rw[show decide ((z.n:Int)<=1099511627776)=decide (z.n<=1099511627776)from lZ z.n 1099511627776];exact hk a F
abbrev nu(l:List Nat):List Value:=l.map λ(n:Nat)=> .int .u64 (n:Int)
theorem Gk{l:List Nat}(row:Row h p (nu l))(X:n=l.length)(hl:l.length<=100000)(hk: ∀h' z,sX h' (λy=>h.size<=y) (E0 l) z->Fr No h h'->R z.s.agg h'):Cl 209 #[.slice p n c] h R:=by
 subst X;refine BK.walk (aa.dv λb d eb s f1=>jZ (ts:= []) (ys:= []) (D:=λ_=>True) ⟨rfl,.inl rfl,λe=>absurd rfl e,bn _⟩ .nil (by simp[dF]) λS z T f2=>aa.ex z.s ⟨rfl,aa.gB (x:=z.s) λb1 U c' u f4=> ?_⟩);have zb:=aE s;have z1:=f1.1;have z2:=f2.1;have z4:=f4.1;have e':=aE u;have F4:=f1.tt (f2.tt f4);have a':sX U (λy=>d.size<=y/\y≠b1) (si []) z:=by
  obtain⟨⟨C,I,J,K⟩,zs,M,A,N,O⟩:=T;refine⟨⟨C,I,J,((FI K).mono λy H=>ae).frame f4 cb⟩,zs,M,A.frame f4 cb,λy H=>⟨N y H,bR (A.dw H)⟩,(dx.mono (λy H=>by have d:=H.1.1;have S:=H.2;exact⟨⟨d,ae⟩,H.1.2⟩) O.lt).on f4⟩
 obtain⟨zs,ez,k⟩:=Ov (g0:=d) a' u ((f2.tt f4).mono λ_ _=>False.elim);have o:z.k=4:=T.1.1;have r:z.n=0:=T.1.2.1;have E:z.v.b= []:=T.1.2.2.1;refine⟨λt g=> ∃(i:Nat)(ys:List CV)(q:bZ)(cl:Nat),t=(i:Int)/\i<=l.length/\ys.length=i/\Lc d g b1 z.k z.n z.v ((l.take i).map num) ys q cl,λt _=>l.length - t.toNat,⟨0,zs,z.q,z.cl,rfl,br _,?_,by rw[eM];exact k⟩,?_⟩
 .have:=k.tr.len;exact this.symm
 rintro _ g ⟨i,ys,q,cl,rfl,hi,H,L⟩;by_cases f:i<l.length
 case neg=>
  rw[af (λe=>f (bR (aP e)))];rw[bk ae]at L;have Y:z.v.ok g (λy=>d.size<=y/\y≠b1):=⟨by rw[E];exact Row.nil,λe=>absurd E e,T.1.2.2.2.cap⟩;have w:=Ow (k':=z.n) L Y;rw[o,r,E]at w;refine aa.fY (x:=CV.s ⟨z.k,z.n,z.v,q,ys.length,cl⟩) L.cX (fin (z:=⟨z.k,z.n,z.v,q,ys.length,cl⟩) (t:=E0 l) (D:=λy=>d.size<=y/\y≠b1) (L.fr.get s ae) (by rw[o,r];exact w) (λy H e=>ae) λG tg Q=>hk G _ (tg.mono λy H=>ae) ((f1.fresh L.fr (λy e=>ae)).fresh Q (λy e=>ae)))
 rw[gh];have F:Fr No h g:=f1.fresh L.fr (λy e=>ae);obtain⟨a,rfl⟩:=row.some (by intro e;have:=bP List.length e;rw[aA,bw]at this;omega);have W:aX g (a.add (i*1))=some (.U ((l[i]:Nat):Int)):=by
  have:=(row.frame F cb).cell (j:=i) (v:=.U ((l[i]:Nat):Int)) (by rw[aF,aj f];rfl);rw[cp];exact this
 refine⟨ae,cA.2 ⟨a,rfl,_,W,_,_,_,aq L.cX,fz λh6 f6=>aa.ex (nv l[i]).s ⟨rfl,f6.kp,?_⟩⟩⟩;refine Ox (L.on f6) ae (Sv (n:=l[i])).Te λG b' Z P B d' _ _=> ?_
 rw[bB (n:=(i:Int)+1) ae ae];refine⟨⟨i+1,b',Z,P,ae,ae,ae,?_⟩,by show l.length - Int.toNat ((i:Int)+1)<l.length - Int.toNat (i:Int);omega⟩;rw[bm,aj f,aV];exact B
theorem IC{l:List Nat}{n:Nat}{K:Nat->ak->Prop}{c:Array Value}(H:c=(nu l).toArray)(hk: ∀b h',Row h' (Sa b 0) (nu l)->Fr No h h'->K b h'):aT h (.cells c 27) K:=by
 refine cI (hk _ _ (by rw[H];exact iS) (Fr.push _ _))
theorem QW(U:nk V h0)(u:Fr No h0 h)(row:Row h p (bc bs))(K:l=bs.length)(cap:bs.length<=c)(M:bs.length<=80000)(hk: ∀h' (a b:Nat),Fr No h h'->R (.tuple #[.U (a:Int),.U (b:Int),.bool (M0 V bs)]) h'):Cl 254 #[.slice p l c] h R:=by
 have ri:=uz (V:=V) bs;have rl:=oj (t:=eZ V bs);refine IA.walk (AX U u row K cap M λh2 z o f2=>aa.ex z.s ⟨_,rfl,aa.gB (x:=z.s) λb1 d a' H f4=>aI.of λJ f=> ?_⟩);have F:=f2.tt f4;unfold M0 at hk;have no: ¬(jN V bs=true/\(eZ V bs).k=4/\(eZ V bs).l.length=2)->J true d:=λN=>by
  subst f;dsimp only;rw[ah rfl];have:=hk d 0 0 F;rw[show(jN V bs && decide ((eZ V bs).k=4/\(eZ V bs).l.length=2) && ot (eZ V bs) (E0 [nZ (eZ V bs),zQ (eZ V bs)]) && decide (1<=nZ (eZ V bs)/\nZ (eZ V bs)<=255/\zQ (eZ V bs)<=nZ (eZ V bs)))=false by
   by_cases a:jN V bs=true
   .rw[aD (λe=>N ⟨a,e⟩)];simp
   .simp[a]]at this
  exact this
 obtain⟨Z,zn,zb,Y,b',ys,L,T⟩:=gX.kn (o.on f4);cases j:jN V bs with
 |false=>rw[gh];exact no (λe=>by rw[j]at e;cases e.1)
 |true=>
 rw[dz];refine⟨_,aq H,?_⟩;rw[show z.s.f0=(eZ V bs).k from Z];by_cases k:(eZ V bs).k=4
 case neg=>rw[ah (cH k)];exact no (λe=>k e.2.1)
 rw[af (cH k)];refine⟨_,_,_,aq H,?_⟩;have S:z.s.lS=(eZ V bs).l.length:=Y;rw[S];by_cases l2:(eZ V bs).l.length=2
 case neg=>rw[show((((eZ V bs).l.length:Nat):Int) !=2)=true by simp only[eI,fL];omega];exact no (λe=>l2 e.2.2)
 rw[show((((eZ V bs).l.length:Nat):Int) !=2)=false by simp only[gI];omega];clear no;rw[j,aw ⟨k,l2⟩]at hk;subst f;dsimp only;rw[dz];obtain⟨a0,y0,E,G,W,_⟩:=elem L T (i:=0) ae;obtain⟨A,y1,r,I,X,_⟩:=elem L T (i:=1) ae;have O:=(gX.kn W).2.1;have n1:=(gX.kn X).2.1;have v:aX d ((a0.add (0*4)).add 1)=some (.U ((nZ (eZ V bs):Nat):Int)):=by have:=G.2.1;unfold nZ;rw[<-O];exact this
 have B:aX d ((A.add (1*4)).add 1)=some (.U ((zQ (eZ V bs):Nat):Int)):=by have:=I.2.1;unfold zQ;rw[<-n1];exact this
 refine⟨_,_,_,aq H,ae,cA.2 ⟨a0,E,_,v,_,_,_,aq H,ae,cA.2 ⟨A,r,_,B,aa.fY H ?_⟩⟩⟩;refine IC (l:= [nZ (eZ V bs),zQ (eZ V bs)]) (n:=2) rfl λb2 h5 P f5=>⟨f5.kp,Gk P rfl (by show 2<=_;omega) λh6 w Q f6=>aa.ex w.s ⟨rfl,f6.kp,iI (x:=z) (y:=w) ((o.on f4).on (f5.tt f6)) Q.u ae λs f7=>⟨_,rfl,?_⟩⟩⟩
 have q:=F.tt (f5.tt (f6.tt f7));have fin:=hk s (nZ (eZ V bs)) (zQ (eZ V bs)) q;cases g:ot (eZ V bs) (E0 [nZ (eZ V bs),zQ (eZ V bs)])with
 |false=>rw[g]at fin;rw[dz];exact fin
 |true=>
 rw[g]at fin;rw[ah rfl];change if(decide (((nZ (eZ V bs):Nat):Int)≥1))=true then(if(decide (((nZ (eZ V bs):Nat):Int)<=255))=true then _ else _)else _
 by_cases c1:1<=nZ (eZ V bs)
 case neg=>rw[aD (λe=>c1 e.1)]at fin;rw[dz];exact fin
 rw[gh];by_cases C:nZ (eZ V bs)<=255
 case neg=>rw[aD (λe=>C e.2.1)]at fin;rw[dz];exact fin
 rw[gh];have:decide (1<=nZ (eZ V bs)/\nZ (eZ V bs)<=255/\zQ (eZ V bs)<=nZ (eZ V bs))=decide (((zQ (eZ V bs):Nat):Int)<=((nZ (eZ V bs):Nat):Int)):=by
  rw[lZ];exact decide_eq_decide.2 ⟨λe=>e.2.2,λe=>⟨c1,C,e⟩⟩
 rw[this]at fin;exact fin
theorem LJ{ty:Nat}(U:nk V h0)(u:Fr No h0 h)(mx:mO.Mx h)(row:Row h p (bc bs))(v:l=bs.length)(cap:bs.length<=c)(j:bs.length<=80000)(hk: iq h R (.bool (xN V ty bs))):Cl 201 #[.U (ty:Int),.slice p l c] h R:=by
 subst v;refine DS.walk (aI.of λJ s=>aI.of λw d=> ?_);unfold xN at hk;have fin: ∀q g,Fr No h g->(xN V ty bs=(q && decide (bs.length<=200)))->J q g:=λq g F e=>by
  subst s;have:=hk g F;unfold xN at e;rw[e]at this;rw[show decide ((bs.length:Int)<=200)=decide (bs.length<=200)from lZ bs.length 200];cases q with
  |false=>exact this
  |true=>exact this
 by_cases k:ty=6
 .subst k;rw[gh];refine Gj U u mx row rfl cap j λH e f1=>ax.ex e.s ⟨_,rfl,?_⟩
  subst d;exact fin _ H f1 rfl
 rw[af (by simp only[dp];omega)];refine aI.of λx f=> ?_
 by_cases o:ty=7
 .subst o;rw[gh];refine SD U u row rfl cap j λH f1=>⟨_,_,rfl,?_⟩
  subst f d;exact fin _ H f1 rfl
 rw[af (by simp only[dp];omega)];refine aI.of λy r=> ?_
 by_cases C:ty=10
 .subst C;rw[gh];refine QW U u row rfl cap j λH a b f1=>⟨_,_,_,rfl,?_⟩
  subst r f d;exact fin _ H f1 rfl
 rw[af (by simp only[dp];omega)];subst r f d;exact fin true h (Fr.refl _ _) (by unfold xN;rw[af k,af o,af C])
theorem xg{p:bZ}{n c:Nat}{l:List Nat}(row:Row h p (nu l))(o:n=l.length)(s:l.length<=100000)(hk:R (.bool (l.all mb)) h):Cl 200 #[.slice p n c] h R:=by
 subst o;refine DT.walk (j0.within.walk (kN.within.walk ?_));refine⟨λt g=> ∃i:Nat,t=(i:Int)/\i<=l.length/\g=h/\(l.take i).all mb=true,λt _=>l.length - t.toNat,⟨0,rfl,br _,rfl,by rw[eM];rfl⟩,?_⟩;rintro _ g ⟨i,rfl,r,rfl,d⟩;by_cases H:i<l.length
 .rw[gh];obtain⟨a,rfl⟩:=row.some (by intro e;have:=bP List.length e;rw[aA,bw]at this;omega);have f:aX g (a.add (i*1))=some (.U ((l[i]:Nat):Int)):=by
   have:=row.cell (j:=i) (v:=.U ((l[i]:Nat):Int)) (by rw[aF,aj H];rfl);rw[cp];exact this
  have key: ∀q,q=(!mb l[i])->(if q=true then∃t7,Value.I (i:Int)=.I t7/\∃t4,Value.bool (decide (t7≥0))=.bool t4/\R (.bool (!t4)) g else((∃k:Nat,IntKind.wrap .i64 ((i:Int)+1)=(k:Int)/\k<=l.length/\g=g/\(l.take k).all mb=true)/\l.length - (IntKind.wrap .i64 ((i:Int)+1)).toNat<l.length - (i:Int).toNat)):=by
   rintro q rfl;cases e:mb l[i]with
   |false=>
    rw[gh];refine⟨_,rfl,_,rfl,?_⟩;rw[aw ae];have:l.all mb=false:=List.all_eq_false.2 ⟨l[i],dQ H,by rw[e];decide⟩;rw[this]at hk;exact hk
   |true=>
    rw[dz,bB (n:=(i:Int)+1) ae ae];refine⟨⟨i+1,ae,ae,rfl,?_⟩,ae⟩;rw[bm,aj H,List.all_append,d];simp[e]
  refine⟨ae,cA.2 ⟨a,rfl,_,f,AW.walk ?_⟩⟩;have eq:mb l[i]=(decide (1<=l[i]) && decide (l[i]<=255)):=by unfold mb;by_cases a:1<=l[i]<;>by_cases b:l[i]<=255<;>simp[a,b]
  by_cases c1:l[i]<1
  .rw[gh];refine⟨_,rfl,key true ?_⟩;rw[eq,aD (show¬1<=l[i] by omega)];rfl
  .rw[dz];refine⟨_,rfl,key _ ?_⟩;rw[eq,aw (show 1<=l[i] by omega)];by_cases C:l[i]<=255
   .rw[aw C,aD (show¬((l[i]:Nat):Int)>255 by omega)];rfl
   .rw[aD C,aw (show((l[i]:Nat):Int)>255 by omega)];rfl
 .rw[af (λe=>H (bR (aP e)))];rw[bk ae]at d;rw[d]at hk;exact⟨_,rfl,_,rfl,hk⟩
abbrev qj.s(b:qj)(p:bZ)(c:Nat):aK.S:=⟨b.ty,b.nr,b.fl,b.sum,p,b.data.length,c⟩
variable {b:qj}
theorem CM(b:qj)(U:nk V h0)(u:Fr No h0 h)(mx:mO.Mx h)(row:Row h p (bc b.data))(cap:b.data.length<=c)(o:b.data.length<=80000)(hk: iq h R (.bool (jE V b))):Cl 175 #[(b.s p c).agg] h R:=by
 refine Gh.walk (aK.dv λbb q E f f1=>⟨_,aq f,_,aq f,IC (l:= [b.ty,b.nr]) (n:=2) rfl λB d r2 f2=>xg r2 rfl (by show 2<=_;omega) ⟨_,rfl,?_⟩⟩);have F:=f1.tt f2;have H:=f2.get f id;have no: ∀g,Fr No h g->jE V b=false->R (.bool false) g:=λg j e=>by have:=hk g j;rw[e]at this;exact this
 have e1: [b.ty,b.nr].all mb=(mb b.ty && mb b.nr):=bQ
 rw[e1];cases c0:(mb b.ty && mb b.nr)with
 |false=>rw[dz];exact no d F (by unfold jE;rw[c0];rfl)
 |true=>
 rw[ah rfl];refine⟨_,aq H,?_⟩;change if Ta (b.fl:Int) 23=true then _ else _
 by_cases c1:Ta (b.fl:Int) 23=true
 case neg=>rw[af c1];exact no d F (by unfold jE;simp[c1])
 rw[ah c1];refine⟨_,aq H,?_⟩;by_cases C:0<=b.sum
 case neg=>rw[af (by simp only[aZ];exact C)];exact no d F (by unfold jE;simp[C])
 rw[ah (aw C)];refine⟨_,aq H,?_⟩;by_cases a:b.sum<=2
 case neg=>rw[af (by simp only[aZ];exact a)];exact no d F (by unfold jE;simp[a])
 rw[ah (aw a)];refine⟨_,aq H,_,_,_,aq H,LJ U (u.tt F) (mx.on F) (row.frame F cb) rfl cap o λk f3=>⟨_,rfl,?_⟩⟩;have:=hk k (F.tt f3);unfold jE at this;rw[c0,c1,aw C,aw a]at this;exact this
theorem ID(H:pS V t i=.ok m):0<=typeAt m i:=by
 unfold pS at H;split at H
 .rename_i d;have key: ∀k,i<k->typeAt (t.l.take k) i=typeAt t.l i:=λk hk=>by
   unfold typeAt at_;rw[bh,bh,db,ah hk,bC];exact ite_congr (propext (by constructor<;>(rintro⟨a,b⟩;exact⟨ae,b⟩))) (λ_=>rfl) (λ_=>rfl)
  split at H
  .cases H;exact d.2.2
  .split at H
   .rename_i e;split at H
    .cases H
    .split at H
     .cases H;rw[key _ e.1];exact d.2.2
     .cases H
   .cases H
 .cases H
theorem LK(a:pS V t i=.ok m):(at_ m i).n<=2:=by
 have:=ID a;unfold typeAt at this;split at this
 .rename_i H;exact H.2.1
 .omega
theorem xh(h:jE V b=true):0<=b.sum/\b.sum<=2/\b.data.length<=200/\1<=b.ty/\b.ty<=255/\1<=b.nr/\b.nr<=255:=by
 unfold jE at h;simp only[aS,aZ]at h;obtain⟨⟨⟨⟨⟨a,A⟩,_⟩,b1⟩,c⟩,d⟩:=h;unfold mb at a A;unfold xN at d;simp only[aS,aZ]at a A d;exact⟨b1,c,d.2,a.1,a.2,A.1,A.2⟩
theorem CN(h:jE V b=true):dF (KI b)<=300:=by
 obtain⟨_,_,d,_⟩:=xh h;simp only[KI,dF,room,bw];omega
theorem CO(h:sk V b=.ok t):room t<=400:=by
 unfold sk at h;split at h
 .rename_i H;have:=AS h;have:=CN H;omega
 .cases h
theorem Gl{e:Int}(h:sk V b=.error e):e≠0:=by
 unfold sk at h;split at h
 .exact CL h
 .cases h;decide
theorem JX (b : qj) {p : Option Addr} {c : Nat} (U : nk V h0) (u : Fr No h0 h) (mx : mO.Mx h) (row : Row h p (bc b.data)) (cap : b.data.length ≤ c) (hlen : b.data.length ≤ 80000)
    (hk : ∀ h' z q, (∀ t, sk V b = .ok t → q = 0 ∧ sX h' (λy => h.size ≤ y) t z) → (∀ e, sk V b = .error e → q = e) → Fr No h h' → R (.tuple #[z.s.agg, .int .i64 q]) h') : Cl 179 #[(b.s p c).agg] h R := by
  refine Gi.walk (aK.dv λbb h1 eb hb f1 => aa.dv λb1 h2 Vm Jv f2 => aK.fY (f2.get hb id) (CM b U (u.tt (f1.tt f2)) (mx.on (f1.tt f2)) (row.frame (f1.tt f2) (λ_ _ => id)) cap hlen λh3 f3 => ⟨_, rfl, ?_⟩))
  have QV := (f2.tt f3).get hb id
  have QX := f3.get Jv id
  have F3 := f1.tt (f2.tt f3)
  have z3 := F3.1
  have z1 := f1.1
  have z23 := f3.1
  have Vk := aE QX
  cases hr : jE V b with
  | false => exact DL QX λh4 f4 => hk h4 zv 3 (λt e => by unfold sk at e; rw [hr, if_neg (by decide)] at e; cases e) (λt e => by unfold sk at e; rw [hr, if_neg (by decide)] at e; cases e; rfl) (F3.fresh f4 (λy e => by omega))
  | true =>
  rw [if_neg (by decide)]
  obtain ⟨s0, s2, d2, _⟩ := xh hr
  have rm := CN hr
  have eW : sk V b = nJ V (KI b) 3 := by unfold sk; rw [hr, if_pos rfl]
  obtain ⟨sum, hs⟩ := Int.eq_ofNat_of_zero_le s0
  have es : b.sum.toNat = sum := by omega
  refine ⟨_, cK QV rfl, _, cK QV rfl, _, cK QV rfl, _, cK QV rfl, ?_⟩
  rw [show (b.s p c).f3 = ((sum : Nat) : Int) from hs, wrap_u64 (n := (sum : Int)) (by omega) (by omega)]
  refine IC (l := [b.ty, b.nr, b.fl, sum]) (n := 4) rfl λb3 h5 r5 f5 => Gk r5 rfl (by show 4 ≤ _; omega) λh6 z tz f6 => aa.ex z.s ⟨rfl, _, _, _, cK ((f5.tt f6).get QV id) rfl, ir (row.frame (F3.tt (f5.tt f6)) (λ_ _ => id)) rfl (by omega) λh7 v ev ov f7 => aa.ex (CV.s ⟨2, 0, v, none, 0, 0⟩) ⟨rfl, aa.dv (x := CV.s ⟨2, 0, v, none, 0, 0⟩) λb4 h8 Zj Jl f8 => ?_⟩⟩
  have F8 := f5.tt (f6.tt (f7.tt f8))
  obtain ⟨_, zs, a5, a6, a7, a8⟩ := tz
  have zl : zs.length = 4 := by have := a8.len; exact this.symm
  have sl : z.s.lS = zs.length := a5
  rw [sl]
  have z6 := f6.1
  have z7 := f7.1
  have z8 := f8.1
  have qs : ∀ y, aL z.q y → y < h6.size := λy hy => a6.dw hy
  refine dD tI uI (a6.frame (f7.tt f8) (λ_ _ => id)) (ds := iC ⟨2, 0, v, none, 0, 0⟩) (.inr ⟨_, rfl, aa.AF (x := CV.s ⟨2, 0, v, none, 0, 0⟩) Jl⟩) rfl (oU _) (by omega) (by omega) λq' Wm h9 o9 _ f9 g9 => ⟨_, _, _, rfl, ?_⟩
  have ef : zs.flatMap iC ++ iC ⟨2, 0, v, none, 0, 0⟩ = (zs ++ [(⟨2, 0, v, none, 0, 0⟩ : CV)]).flatMap iC := by rw [List.flatMap_append, List.flatMap_singleton]
  rw [ef] at o9
  have F9 : Fr No h3 h9 := F8.fresh f9 (λy hy => by have := a7 y hy; have := f5.1; omega)
  have L9 : na h9 (λ_ => True) q' (zs.length + 1) Wm (zs ++ [⟨2, 0, v, none, 0, 0⟩]) := ⟨by simp, o9.iJ, λ_ _ _ => trivial, o9.le⟩
  have T9 : BF h9 (KI b) (zs ++ [⟨2, 0, v, none, 0, 0⟩]) := by
    have t1 := dx.frame f9 (λy hy WZ => hy.2 WZ) (dx.on (dx.on a8 f7) f8)
    have t2 : gX h7 (λy => h6.size ≤ y) (qb v.b) ⟨2, 0, v, none, 0, 0⟩ := CE ov
    have t3 := (t2.on f8).frame f9 (λy hy WZ => by have := qs y WZ; omega)
    have := dx.snoc t1.u t3.u
    rw [ev] at this
    unfold KI
    rw [es]
    exact this
  refine JV (i := 3) U (u.tt (F3.tt F9)) L9 T9 (by omega) (by omega) (λt ht Zm z tz f19 => aa.ex z.s ⟨_, rfl, ?_⟩) (λe he Zm f19 => aa.ex zv.s ⟨_, rfl, ?_⟩)
  · have z9 := F9.1
    exact fin ((F9.tt f19).get QX id) tz (λy hy e => by omega) λUG t20 f20 => hk UG z 0 (λt' e => by rw [eW, ht] at e; cases e; exact ⟨rfl, t20.mono λy hy => by omega⟩) (λe' e => by rw [eW, ht] at e; cases e) ((F3.tt (F9.tt f19)).fresh f20 (λy e => by omega))
  · exact DL ((F9.tt f19).get QX id) λUG f20 => hk UG zv e (λt' e' => by rw [eW, he] at e'; cases e') (λe' e2 => by rw [eW, he] at e2; cases e2; rfl) ((F3.tt (F9.tt f19)).fresh f20 (λy e => by omega))
theorem RN{b:Nat}{y x:aK.S}{K:aK.S->ak->Prop}(H:aK.gn h b y)(hk: ∀h',Fr (λy=>y=b) h h'->K x h'):
  aK.dE h (AA b 0) x λg=>aK.cW g (AA b 0) λr=>K r g:=
 aK.iz (x:=x) H λg d1 f _=>aK.fY d1 (hk g f)
theorem QY{x:CV}(U:nk V h0)(u:Fr No h0 h)(mx:mO.Mx h)(tx:FY h t x)(hr:room t<=50000)(k1: ∀b,zR V t=.ok b->∀h' p c,BV.ok h' (λy=>h.size<=y) ⟨p,c,b.data⟩->Fr No h h'->R (.tuple #[(b.s p c).agg,.I 0]) h')(k2: ∀e,zR V t=.error e->e≠0->iq h R (.tuple #[aK.S.z.agg,.I e])):Cl 195 #[x.agg] h R:=by
 have rl:=oj (t:=t);refine IB.walk (x:=x.s) (aa.dv λb h1 eb J f1=>aK.dv λb1 h2 x' M f2=>aa.fY (f2.get J id) ?_);have F:=f1.tt f2;have r':=f2.get J id;have zb:=aE J;have Q':=aE M;have z1:=f1.1;have z2:=f2.1;have no: ∀g e,Fr No h2 g->zR V t=.error e->e≠0->aK.dE g (AA b1 0) .z λG=>aK.cW G (AA b1 0) λr=>R (.tuple #[r.agg,.I e]) G:=λg e o k v=>
  RN (o.get M id) λG f=>k2 e k v G ((F.tt o).fresh f (λy e=>ae))
 have H:zR V t=zR V t:=rfl;conv at H=>rhs;unfold zR
 refine nN (i:=3) U (u.tt F) (tx.on F) ae ae (λm hu ru j p zs c L T f3=>⟨_,_,_,_,rfl,?_⟩) (λe k v j f3=>⟨_,_,_,_,rfl,?_⟩)
 case refine_2=>
  rw[ah (cH v)];exact no j e f3 (by rw[H,k]) v
 rw[dz];rw[hu]at H;dsimp only at H;have n2:=LK hu;have ln:=T.len;have l9:=gW m;refine aI.of λe' hJ=> ?_
 have bad: ¬(m.length=5/\(at_ m 4).k=2)->e' true j:=λv=>by
  subst hJ;dsimp only;rw[ah rfl];exact no j 3 f3 (by rw[H,af v]) dt
 by_cases l5:m.length=5
 case neg=>rw[ah (by simp only[eI,fL];omega)];exact bad (λe=>l5 e.1)
 rw[af (by simp only[eI,fL];omega)];have z3:=f3.1;have it: ∀i,i<5->∃(a:Addr)(y:CV),p=some a/\dM (a.add (i*4)) y.s.l 0 j/\FY j (at_ m i) y/\aX j ((a.add (i*4)).add 1)=some (.U ((at_ m i).n:Int)):=λi hi=>by
  obtain⟨a,y,ea,hh,ty,_⟩:=elem L T (i:=i) ae;obtain⟨_,yn,_⟩:=gX.kn ty;exact⟨a,y,ea,hh,ty.u,by have:=hh.2.1;rw[<-yn];exact this⟩
 obtain⟨a0,y0,f',E',K',c0⟩:=it 0 ae;obtain⟨a1,y1,g',F',L',c1⟩:=it 1 ae;obtain⟨a2,y2,i',G',M',c2⟩:=it 2 ae;obtain⟨a3,y3,j',H',N',c3⟩:=it 3 ae;obtain⟨S,Y,Z,d',w',c4⟩:=it 4 ae;obtain⟨yk,yn,Q,yl,yv,_⟩:=gX.kn w';have r4:=j1 (ts:=m) (i:=4) ae;have I':=oj (t:=at_ m 4);refine⟨ae,cA.2 ⟨S,Z,_,d'.1,?_⟩⟩;by_cases K:(at_ m 4).k=2
 case neg=>rw[show(Y.s.f0 !=2)=true by have:Y.s.f0=(at_ m 4).k:=yk;rw[this];simpa using K];exact bad (λe=>K e.2)
 rw[show(Y.s.f0 !=2)=false by have:Y.s.f0=(at_ m 4).k:=yk;rw[this];simpa using K];clear bad;rw[ah ⟨l5,K⟩]at H;subst hJ;try dsimp only
 rw[dz];have u3:=u.tt (F.tt f3);have m3:=mx.on (F.tt f3);have E:(qS m).data=Y.v.b:=Q.symm;refine aI.of λJ1 q'=> ?_
 have rest: ∀g B q cl,aK.gn g B ((qS m).s q cl)->h2.size<=B->BV.ok g (λy=>j.size<=y/\y≠B) ⟨q,cl,(qS m).data⟩->Fr No j g->J1 (Sa B 0) g:=by
  intro g B q cl hs z4 N o;subst q';refine az.2 (aK.fY hs (JX (qS m) U (u3.tt o) (m3.on o) N.row N.cap (by rw[E,Q];omega) λh8 w qw w0 w1 f8=>aa.ex w.s ⟨_,rfl,aa.gB (x:=w.s) λb5 b' y' s' f10=>aI.of λJ2 c'=> ?_⟩));have I:=f8.tt f10;have z:=f3.tt (o.tt I);have bad: ∀G,Fr No b' G->zR V t=.error 3->J2 true G:=λG l' k=>by
   subst c';try dsimp only
   rw[ah rfl];exact no G 3 (z.tt l') k dt
  cases s:sk V (qS m)with
  |error e=>
   rw[s]at H;rw[ah (by rw[w1 e s];simpa using Gl s)];exact bad b' (Fr.refl _ _) H
  |ok W=>
   rw[s]at H;dsimp only at H;obtain⟨rfl,tw⟩:=w0 W s;have J':=CO s;rw[dz];refine aa.fY s' (aa.fY (x:=x.s) (z.get r' id) (iI (x:=w) (y:=x) (tw.u.on f10) (tx.on (F.tt z)) ae λn' f14=>⟨_,rfl,?_⟩));cases k:ot W t with
   |false=>exact bad n' f14 (by rw[H,af (by rw[k];decide)])
   |true=>
    rw[k,ah rfl]at H;subst c';try dsimp only
    rw[dz];refine az.2 (aK.fY ((I.tt f14).get hs id) (RN ((z.tt f14).get M id) λG f=>k1 _ H G q cl ?_ ((F.tt (z.tt f14)).fresh f (λy e=>ae))));have:=(N.mono (D':=λy=>j.size<=y) λy d=>d.1).frame (I.tt f14) cb;exact(this.frame f (λy d e=>ae)).mono λy d=>ae
 refine⟨ae,cA.2 ⟨a0,f',_,c0,ae,cA.2 ⟨a1,g',_,c1,ae,cA.2 ⟨a2,i',_,c2,ae,cA.2 ⟨a3,j',_,c3,ae,cA.2 ⟨S,Z,_,_,_,d'.2.2.1,?_⟩⟩⟩⟩⟩⟩;rw[bB (n:=(((at_ m 3).n:Nat):Int)) ae ae];have l4:Y.v.b.length<=50000:=by rw[Q];omega
 have X: ∀P C,(⟨(at_ m 0).n,(at_ m 1).n,(at_ m 2).n,(at_ m 3).n,P,Y.v.b.length,C⟩:aK.S)=(qS m).s P C:=λP C=>by
  show _=(⟨_,_,_,_,P,(qS m).data.length,C⟩:aK.S);rw[E];rfl
 refine⟨?_,?_,trivial⟩
 .refine hM.gQ yv.row rfl ae λP C z' O f15 m'=>⟨_,_,_,rfl,f15.kp,aK.dv λB A' k' A f16=>⟨f16.kp,?_⟩⟩
  rw[X];have O':=f15.1;have z4:=aE A;refine aK.iz (x:=(qS m).s P C) A λo' d17 f17 _=>rest o' B P C d17 ae ?_ ((f15.tt f16).fresh f17 (λy e=>ae))
  have t':=(O.frame f16 cb).frame f17 (λy d e=>bR (O.dw d));rw[E];exact BV.jr t' (λy d=>⟨m' y d,bR (O.dw d)⟩)
 .refine aK.dv λB B' k' A f18=>⟨f18.kp,hM.gQ (yv.row.frame f18 cb) rfl ae λP C C' u' f19 a'=>⟨_,_,_,rfl,f19.kp,?_⟩⟩
  rw[X];have P':=f18.1;have z4:=aE A;refine aK.iz (x:=(qS m).s P C) (f19.get A id) λp' d20 f20 _=>rest p' B P C d20 ae ?_ ((f18.tt f19).fresh f20 (λy e=>ae))
  have v':=u'.frame f20 (λy d e=>bR (a' y d));rw[E];exact BV.jr v' (λy d=>bR (a' y d))

end Bn
end
section
variable {h:ak} {R:fG}
variable {L:bZ} {l c:Nat} {b:ay.S} {r:cF.S}
theorem DU.walk{kind:Int}(H:if(kind==1)then R (.bool true) h else if(kind==6)then R (.bool true) h else if(kind==7)then R (.bool true) h else R (.bool (kind==10)) h):Cl 176 #[.U kind] h R:=aR (lq ll) Tryz.func176 H
theorem IE.walk (F: ∃(I:Bool->ak->Prop)(N:Bool->ak->Nat),(aI (λ(t33:Bool) (k:ak)=>if t33 then R (.bool false) k else I true k) (λJ=>if(decide ((wrap .i64 ((l:Int) - 1))<0))then J true h else if(decide ((wrap .i64 ((l:Int) - 1))≥8))then J true h else Bd (wrap .i64 ((l:Int) - 1)) l/\aO L λa=> ∃t23,aX h (a.add (toNat (wrap .i64 ((l:Int) - 1))*5))=some (.U t23)/\if(t23 !=1)then J true h else Bd (wrap .i64 ((l:Int) - 1)) l/\aO L λA=> ∃t31,aX h ((A.add (toNat (wrap .i64 ((l:Int) - 1))*5)).add 1)=some (.U t31)/\J (t31 !=1) h))/\∀(ok:Bool)(m:ak),I ok m->aI (λ(G:Bool) (C:ak)=>R (.bool G) C) (λg=> ∃(i:Bool->Int->ak->Prop)(M:Bool->Int->ak->Nat),i ok 0 m/\∀(O:Bool)(t36:Int)(e:ak),i O t36 e->if(decide (t36<(l:Int)))then Bd t36 l/\aO L λu=>aK.cW e (u.add (toNat t36*5)) λt40=>aT e (.cells aK.S.z.arr 201) λb D=>aK.dE D (AA b 0) t40 λn=>aK.cW n (AA b 0) λt41=>Cl 175 #[t41.agg] n λv E=>Vb v λt42=>((0:Int)<=t36/\t36<=(c:Int))/\∃(f:Bool->Int->ak->Prop)(q:Bool->Int->ak->Nat),f t42 0 E/\∀(o:Bool)(t47:Int)(d:ak),f o t47 d->if(decide (t47<(((toNat t36) - 0:Nat):Int)))then aI (λ(s:Bool) (p:ak)=>(f s (wrap .i64 (t47+1)) p/\q s (wrap .i64 (t47+1)) p<q o t47 d)) (λt=>((0:Int)<=t47/\t47<(((toNat t36) - 0:Nat):Int))/\aO (cR L c 0 5) λw=>aK.cW d (w.add (toNat t47*5)) λt50=>aT d (.cells aK.S.z.arr 201) λB x=>aK.dE x (AA B 0) t50 λH=>aI (λ(K:Bool) (y:ak)=>t K y) (λj=>if o then Hu H B 1 λt54=> ∃t56,Cc H b 1 (.U t56)/\if(t54 !=t56)then Hu H B 0 λt61=> ∃t63,Cc H b 0 (.U t63)/\if(t61 !=t63)then j true H else Hu H b 0 λt67=>Cl 176 #[.U t67] H λV z=> ∃t68,V=.bool t68/\j (!t68) z else j false H else j false H))else if(!o)then g o d else(i o (wrap .i64 (t36+1)) d/\M o (wrap .i64 (t36+1)) d<M O t36 e)else g O e)):Cl 124 #[.slice L l c] h R:=aR (lq (.scope 0 [(4,.one (.bool))] (lq (sq (sq (.join [(33,.one (.bool))] lf) (cq ll lf)) (lq ll))) (lq (sq (lq (.join [(4,.one (.bool))] (bq (.loop [(4,.one (.bool)),(36,.one (.int .i64))] (lq (sq (cq lf lf) (sq (bq (lq (lq (sq (lq (bq (.loop [(4,.one (.bool)),(47,.one (.int .i64))] (lq (sq (cq lf lf) (sq (.join [(4,.one (.bool))] (bq (lq (.join [(4,.one (.bool))] lf)))) lf)))))) (lq (cq lf lf)))))) lf))))))) ll)))) Tryz.func124 F
theorem DV.walk(S:aT h (.cells b.arr 129) λB m=>aG.cW m (AA B 0) λt16=>Cl 177 #[t16.agg] m λv K=>aa.EX λs=> ∃u,v=.tuple #[s.agg,.I u]/\aT K (.cells aa.S.z.arr 262) λi N=>aa.dE N (AA i 0) s λf=>if(u !=0)then R (.tuple #[.Z,.bool false]) f else aa.cW f (AA i 0) λt23=>Cl 178 #[t23.agg] f λX p=> ∃y x w U,X=.tuple #[.slice y x w,.I U]/\Hl p B 20 λV z b'=> ∃(I:bZ->Nat->Nat->Int->ak->Prop)(M:bZ->Nat->Nat->Int->ak->Nat),I y x w 0 p/\∀(d:bZ)(O o:Nat)(t30:Int)(H:ak),I d O o t30 H->if(decide (t30<(z:Int)))then Bd t30 z/\aO V λa=>aK.cW H (a.add (toNat t30*5)) λt33=>aT H (.cells aK.S.z.arr 201) λj P=>aK.dE P (AA j 0) t33 λq=>aK.cW q (AA j 0) λt35=>Cl 179 #[t35.agg] q λY Q=>aa.EX λA=> ∃C,Y=.tuple #[A.agg,.I C]/\aT Q (.cells aa.S.z.arr 262) λk G=>aa.dE G (AA k 0) A λe=>if(C !=0)then R (.tuple #[.Z,.bool false]) e else aa.cW e (AA k 0) λt42=>Cl 178 #[t42.agg] e λZ J=> ∃F E D W,Z=.tuple #[.slice F E D,.I W]/\aU Tryz.prog (Builtin.append_ #[22,22] 22 #[.slice d O o,.slice F E D]) J λa' n=> ∃g T t,a'=.slice g T t/\(I g T t (wrap .i64 (t30+1)) n/\M g T t (wrap .i64 (t30+1)) n<M d O o t30 H)else R (.tuple #[.slice d O o,.bool true]) H):Cl 125 #[b.agg] h R:=aR (lq (lq (sq (lq (cq ll lf)) (lq (sq (lq (bq (.loop [(6,.one (.slice)),(30,.one (.int .i64))] (lq (sq (cq lf lf) (sq (bq (lq (lq (sq (lq (cq ll lf)) ll)))) lf)))))) ll))))) Tryz.func125 S
theorem DW.walk(d:aT h (.cells b.arr 129) λB H=>ay.cW H (AA B 0) λt6=>Cl 58 #[t6.agg] H λv a=> ∃f e T t,v=.tuple #[.slice f e T,.I t]/\R (.bool (t==0)) a):Cl 196 #[b.agg] h R:=aR (lq (lq ll)) Tryz.func196 d
theorem DX.walk (u:aT h (.cells b.arr 129) λB a=>Hl a B 20 λC A z=>Cl 124 #[.slice C A z] a λv H=> ∃t8,v=.bool t8/\if(!t8)then R (.tuple #[.Z,.I 3]) H else ay.cW H (AA B 0) λt11=>Cl 125 #[t11.agg] H λV d=> ∃f t T g,V=.tuple #[.slice f t T,.bool g]/\aI (λ(t21:Bool) (e:ak)=>if t21 then R (.tuple #[.Z,.I 3]) e else aT e (.cells #[.int .u8 159] 5) λm o=>aU Tryz.prog (Builtin.append_ #[22,22] 22 #[.slice (Sa m 0) 1 1,.slice f t T]) o λD p=>Vl D λy x w=>aT p (.cells #[.int .u8 255] 5) λn q=>aU Tryz.prog (Builtin.append_ #[22,22] 22 #[.slice y x w,.slice (Sa n 0) 1 1]) q λE s=> ∃k j i,E=.slice k j i/\R (.tuple #[.slice k j i,.I 0]) s) (λJ=>if(!g)then J true d else J (decide (((t:Nat):Int)>598)) d)):Cl 58 #[b.agg] h R:=aR (lq (sq (lq (cq ll lf)) (lq (sq (sq (.join [(21,.one (.bool))] lf) (cq ll lf)) ll)))) Tryz.func58 u
theorem Gm.walk{s:bZ}{f q:Nat} (hv:aT h (.cells ay.S.z.arr 129) λb u=>if(decide ((f:Int)>1200))then ay.dE u (AA b 0) ay.S.z λz=>ay.cW z (AA b 0) λr0=>R (.tuple #[r0.agg,.I 2]) z else Cl 193 #[.slice s f q,.I 0] u λv f'=>aa.EX λK=> ∃N t,v=.tuple #[K.agg,.I N,.I t]/\aT f' (.cells aa.S.z.arr 262) λB g'=>aa.dE g' (AA B 0) K λH=>if(t !=0)then ay.dE H (AA b 0) ay.S.z λE=>ay.cW E (AA b 0) λh'=>R (.tuple #[h'.agg,.I t]) E else aI (λ(t27:Bool) (F:ak)=>if t27 then ay.dE F (AA b 0) ay.S.z λG=>ay.cW G (AA b 0) λi'=>R (.tuple #[i'.agg,.I 3]) G else aT F (.cells ay.S.z.arr 129) λe k=>Hl k B 3 λs' r' C'=>Bd 0 r'/\aO s' λa=>aa.cW k (a.add (toNat 0*4)) λt54=>Cl 194 #[t54.agg] k λy' Z=>aG.EX λQ=> ∃T,y'=.tuple #[Q.agg,.I T]/\aG.dE Z (AA e 0) Q λi=>if(T !=0)then ay.dE i (AA b 0) ay.S.z λw=>ay.cW w (AA b 0) λj'=>R (.tuple #[j'.agg,.I T]) w else Hl i B 3 λu' m t'=>((0:Int)<=1/\1<=(m:Int))/\∃(I:Int->ak->Prop)(M:Int->ak->Nat),I 0 i/\∀(t67:Int)(d:ak),I t67 d->if(decide (t67<((m - (toNat 1):Nat):Int)))then((0:Int)<=t67/\t67<((m - (toNat 1):Nat):Int))/\aO (cR u' t' (toNat 1) 4) λX=>aa.cW d (X.add (toNat t67*4)) λt70=>aT d (.cells aa.S.z.arr 262) λo a'=>aa.dE a' (AA o 0) t70 λx=>aa.cW x (AA o 0) λt72=>Cl 195 #[t72.agg] x λz' b'=>aK.EX λS=> ∃n,z'=.tuple #[S.agg,.I n]/\aT b' (.cells aK.S.z.arr 201) λp c'=>aK.dE c' (AA p 0) S λg=>if(n !=0)then ay.dE g (AA b 0) ay.S.z λy=>ay.cW y (AA b 0) λk'=>R (.tuple #[k'.agg,.I n]) y else Hl g e 20 λx' w' v'=>aK.cW g (AA p 0) λt82=>aT g (.cells t82.arr 201) λY d'=>aU Tryz.prog (Builtin.append_ #[127,127] 127 #[.slice x' w' v',.slice (Sa Y 0) 1 1]) d' λA' e'=> ∃W V U,A'=.slice W V U/\aQ e' (AA e 20) (.slice W V U) λA=>(I (wrap .i64 (t67+1)) A/\M (wrap .i64 (t67+1)) A<M t67 d)else ay.cW d (AA e 0) λt87=>Cl 196 #[t87.agg] d λB' j=> ∃t88,B'=.bool t88/\if(!t88)then ay.dE j (AA b 0) ay.S.z λC=>ay.cW C (AA b 0) λl'=>R (.tuple #[l'.agg,.I 3]) C else ay.cW j (AA e 0) λt91=>ay.dE j (AA b 0) t91 λD=>ay.cW D (AA b 0) λm'=>R (.tuple #[m'.agg,.I 0]) D) (λJ=>if(N !=(f:Int))then J true H else∃t34,Cc H B 0 (.I t34)/\if(t34 !=4)then J true H else∃o' O n',Cc H B 3 (.slice o' O n')/\if(decide (((O:Nat):Int)<2))then J true H else∃q' P p',Cc H B 3 (.slice q' P p')/\J (decide (((P:Nat):Int)>9)) H)):Cl 158 #[.slice s f q] h R:=aR (lq (sq (lq (cq ll lf)) (lq (sq (bq (lq (cq ll (sq (.join [(27,.one (.bool))] lf) (cq ll lf))))) (lq (sq (lq (lq (cq ll lf))) (sq (lq (bq (.loop [(67,.one (.int .i64))] (lq (sq (cq lf lf) (sq (bq (lq (lq (sq (lq (cq ll lf)) lf)))) lf)))))) (sq (lq (cq ll lf)) ll)))))))) Tryz.func158 hv
theorem AY.walk (o:aT h (.cells b.arr 129) λB H=> ∃u j s,Cc H B 20 (.slice u j s)/\if(((j:Nat):Int)==0)then R (.Z) H else∃m k w,Cc H B 20 (.slice m k w)/\∃q t p,Cc H B 20 (.slice q t p)/\((0:Int)<=wrap .i64 (((t:Nat):Int) - 1)/\wrap .i64 (((t:Nat):Int) - 1)<((k:Nat):Int))/\aO m λa=> ∃e d T,aX H ((a.add (toNat (wrap .i64 (((t:Nat):Int) - 1))*5)).add 4)=some (.slice e d T)/\Cl 50 #[.slice e d T] H λv n=> ∃i g f,v=.slice i g f/\R (.slice i g f) n):Cl 159 #[b.agg] h R:=aR (lq (sq (lq (cq ll lf)) ll)) Tryz.func159 o
theorem DY.walk(k:aT h (.cells r.arr 287) λb H=> ∃t4,Cc H b 0 (.bool t4)/\if t4 then∃t15,Cc H b 3 (.U t15)/\if(decide (t15<=255))then∃t20,Cc H b 4 (.U t20)/\if(decide (t20<=1099511627776))then ai.cW H (AA b 5) λt25=>Cl 237 #[t25.agg] H λv g=> ∃t26,v=.bool t26/\R (.bool t26) g else R (.bool false) H else R (.bool false) H else∃t7,Cc H b 1 (.bool t7)/\if t7 then∃t,Cc H b 3 (.U t)/\if(decide (t<=255))then∃a,Cc H b 4 (.U a)/\if(decide (a<=1099511627776))then ai.cW H (AA b 5) λm=>Cl 237 #[m.agg] H λV i=> ∃e,V=.bool e/\R (.bool e) i else R (.bool false) H else R (.bool false) H else∃t11,Cc H b 2 (.bool t11)/\if t11 then∃T,Cc H b 3 (.U T)/\if(decide (T<=255))then∃d,Cc H b 4 (.U d)/\if(decide (d<=1099511627776))then ai.cW H (AA b 5) λn=>Cl 237 #[n.agg] H λo j=> ∃f,o=.bool f/\R (.bool f) j else R (.bool false) H else R (.bool false) H else R (.bool false) H):Cl 290 #[r.agg] h R:=aR (lq ll) Tryz.func290 k
theorem IF.walk(w:aT h (.cells aa.S.z.arr 262) λb o=>Cl 247 #[.Z] o λv p=>aa.EX λt7=>v=t7.agg/\aT p (.cells aa.S.z.arr 262) λB q=>aa.dE q (AA B 0) t7 λs=> ∃(I:Int->ak->Prop)(m:Int->ak->Nat),I 0 s/\∀(t10:Int)(H:ak),I t10 H->if(decide (t10<(l:Int)))then Bd t10 l/\aO L λa=>x4 H (a.add (toNat t10*1)) λt13=>aI (λ(n:Int) (d:ak)=>Hl d B 3 λA z y=>Cl 205 #[.U n] d λV e=>aa.EX λt18=>V=t18.agg/\Kp d e [(Sa B 3)]/\aT e (.cells t18.arr 262) λk i=>Kp e i [(Sa B 3)]/\aU Tryz.prog (Builtin.append_ #[260,260] 260 #[.slice A z y,.slice (Sa k 0) 1 1]) i λC u=> ∃j T t,C=.slice j T t/\aQ u (AA B 3) (.slice j T t) λf=>(I (wrap .i64 (t10+1)) f/\m (wrap .i64 (t10+1)) f<m t10 H)) (λJ=>if t13 then J 1 H else J 0 H)else aa.cW H (AA B 0) λt23=>aa.dE H (AA b 0) t23 λg=>aa.cW g (AA b 0) λx=>R (x.agg) g):Cl 291 #[.slice L l c] h R:=aR (lq (lq (sq (lq (bq (.loop [(10,.one (.int .i64))] (lq (sq (cq lf lf) (sq (bq (lq (lq (sq (lq (.join [(6,.one (.int .u64))] (cq lf lf))) (pK 8))))) lf)))))) ll))) Tryz.func291 w
theorem DZ.walk(hv:aT h (.cells r.arr 287) λb n=>ai.cW n (AA b 5) λt8=>Cl 204 #[t8.agg] n λv Y=>aa.EX λG=> ∃I,v=.tuple #[G.agg,.I I]/\aT Y (.cells aa.S.z.arr 262) λB f'=>aa.dE f' (AA B 0) G λg=>aI (λ(t18:Bool) (H:ak)=>if t18 then R (.tuple #[.Z,.I 3]) H else Hb H b 0 λt21=>Hb H b 1 λt23=>Hb H b 2 λt25=>Hu H b 3 λt29=>Hu H b 4 λt32=>aa.cW H (AA B 0) λt34=>(Cl 205 #[.U 1] H λg' i=>aa.EX λt19=>g'=t19.agg/\Kp H i [(Sa B 0),(Sa b 4),(Sa b 3),(Sa b 2),(Sa b 1),(Sa b 0)]/\aT i (.cells #[.bool t21,.bool t23,.bool t25] 4) λK j=>Kp i j [(Sa B 0),(Sa b 4),(Sa b 3)]/\Cl 291 #[.slice (Sa K 0) 3 3] j λn' k=>aa.EX λt27=>n'=t27.agg/\Kp j k [(Sa B 0),(Sa b 4),(Sa b 3)]/\Cl 205 #[.U t29] k λo' m=>aa.EX λt30=>o'=t30.agg/\Kp k m [(Sa B 0),(Sa b 4)]/\Cl 205 #[.U t32] m λp' o=>aa.EX λt33=>p'=t33.agg/\Kp m o [(Sa B 0)]/\aT o (.cells (t27.l++t30.l++t33.l++t34.l).toArray 262) λM S=>Cl 247 #[.slice (Sa M 0) 4 4] S λq' U=>aa.EX λt36=>q'=t36.agg/\aT U (.cells (t19.l++t36.l).toArray 262) λN V=>Cl 247 #[.slice (Sa N 0) 2 2] V λr' W=>aa.EX λt38=>r'=t38.agg/\Cl 178 #[t38.agg] W λs' X=> ∃C z x E,s'=.tuple #[.slice C z x,.I E]/\R (.tuple #[.slice C z x,.I E]) X)/\(aT H (.cells #[.bool t21,.bool t23,.bool t25] 4) λO a=>Kp H a [(Sa B 0),(Sa b 4),(Sa b 3)]/\Cl 205 #[.U 1] a λt' d=>aa.EX λt=>t'=t.agg/\Kp a d [(Sa B 0),(Sa b 4),(Sa b 3)]/\Cl 291 #[.slice (Sa O 0) 3 3] d λu' e=>aa.EX λT=>u'=T.agg/\Kp d e [(Sa B 0),(Sa b 4),(Sa b 3)]/\Cl 205 #[.U t29] e λh' f=>aa.EX λq=>h'=q.agg/\Kp e f [(Sa B 0),(Sa b 4)]/\Cl 205 #[.U t32] f λi' p=>aa.EX λs=>i'=s.agg/\Kp f p [(Sa B 0)]/\aT p (.cells (T.l++q.l++s.l++t34.l).toArray 262) λP Z=>Cl 247 #[.slice (Sa P 0) 4 4] Z λj' a'=>aa.EX λu=>j'=u.agg/\aT a' (.cells (t.l++u.l).toArray 262) λQ b'=>Cl 247 #[.slice (Sa Q 0) 2 2] b' λk' c'=>aa.EX λw=>k'=w.agg/\Cl 178 #[w.agg] c' λl' d'=> ∃D A y F,l'=.tuple #[.slice D A y,.I F]/\R (.tuple #[.slice D A y,.I F]) d')/\True) (λJ=>if(I !=0)then J true g else cF.cW g (AA b 0) λt15=>Cl 290 #[t15.agg] g λm' e'=> ∃t16,m'=.bool t16/\J (!t16) e')):Cl 249 #[r.agg] h R:=aR (lq (lq (sq (sq (.join [(18,.one (.bool))] lf) (cq ll lf)) (sq (.kC (ga 6 1 (.op 9 (.op 10 (.op 12 (.op 13 (.op 15 (.alts (.fork 0 (.op 7 (.op 8 (.op 11 (.op 14 (ga 9 16 .done))))) (.fork 7 (.op 0 (.op 8 (.op 11 (.op 14 (ga 9 16 .done))))) .gy)))))))))) lf)))) Tryz.func249 hv
theorem BM.walk{dest:ax.S}{id:ai.S}{fj:Int}(y:aT h (.cells r.arr 287) λb q=>aT q (.cells dest.arr 29) λn s=>aT s (.cells id.arr 124) λo u=>aT u (.cells ay.S.z.arr 129) λB g=>cF.cW g (AA b 0) λt14=>Cl 249 #[t14.agg] g λv H=> ∃m k T t,v=.tuple #[.slice m k T,.I t]/\if(t !=0)then ay.dE H (AA B 0) ay.S.z λi=>ay.cW i (AA B 0) λz=>R (.tuple #[z.agg,.I t]) i else ax.cW H (AA n 0) λt22=>ai.cW H (AA o 0) λt23=>aT H (.cells #[.U 1,.U 1,.U 0,.I 0,.slice m k T] 201) λp w=>aT w (.cells ay.S.z.arr 129) λa x=>ay.dE x (AA a 0) ⟨2,0,t22.f0,t22.f1,t22.f2,t22.f3,t22.f4,false,0,0,hC,hC,t23.f0,t23.f1,t23.f2,t23.f3,t23.f4,t23.f5,t23.f6,fj,(Sa p 0),1,1⟩ λj=>ay.cW j (AA a 0) λt30=>Cl 196 #[t30.agg] j λV d=> ∃t31,V=.bool t31/\if(!t31)then ay.dE d (AA B 0) ay.S.z λe=>ay.cW e (AA B 0) λA=>R (.tuple #[A.agg,.I 3]) e else ay.cW d (AA a 0) λt34=>ay.dE d (AA B 0) t34 λf=>ay.cW f (AA B 0) λC=>R (.tuple #[C.agg,.I 0]) f):Cl 197 #[r.agg,dest.agg,id.agg,.U fj] h R:=aR (lq (lq (sq (lq (cq ll lf)) (lq (sq (lq (cq ll lf)) ll))))) Tryz.func197 y

end
section
namespace Bn
open Cb
open iY (Ev cV kO)
variable {V:cM→Bool} {h H h' g:ak} {R:fG} {D D':Nat→Prop}
variable {bs:List qj} {q:bZ} {l cl:Nat}
structure BB where
 b:qj
 p:bZ
 c:Nat
abbrev BB.s(x:BB):aK.S:=x.b.s x.p x.c
variable {xs:List BB}
abbrev AZ(x:BB):List Value:=x.s.l
theorem A2(x:BB):(AZ x).length=5:=rfl
theorem OC(x:BB): ∀v∈AZ x,fX v=true:=λv a=>by
 simp only[AZ,aK.S.l,bG,List.not_mem_nil,or_false]at a;rcases a with rfl|rfl|rfl|rfl|rfl<;>rfl
structure jR (h:ak) (D:Nat->Prop) (bs:List qj) (q:bZ) (l cl:Nat) (xs:List BB):Prop where
 eq:xs.map BB.b=bs
 len:l=bs.length
 row:Row h q (xs.flatMap AZ)
 own:xs≠ []->∀y,aL q y->D y
 cap:l<=cl
 ok: ∀x∈xs,BV.ok h D ⟨x.p,x.c,x.b.data⟩
theorem jR.xl(B:jR h D bs q l cl xs):xs.length=bs.length:=by rw[<-B.eq,aA]
theorem jR.frame{Q:Nat->Prop}(B:jR h D bs q l cl xs)(f:Fr Q h h')(c: ∀y,D y->¬Q y):jR h' D bs q l cl xs:=by
 refine⟨B.eq,B.len,?_,B.own,B.cap,λx i=>(B.ok x i).frame f c⟩;by_cases e:xs= []
 .subst e;exact Row.nil
 .exact B.row.frame f (λa d=>c _ (B.own e _ ⟨a,d,rfl⟩))
theorem jR.on(B:jR h D bs q l cl xs)(f:Fr No h h'):jR h' D bs q l cl xs:=B.frame f cb
theorem jR.mono(B:jR h D bs q l cl xs)(hd: ∀y,D y->D' y):jR h D' bs q l cl xs:=
 ⟨B.eq,B.len,B.row,λe y c=>hd y (B.own e y c),B.cap,λx a=>(B.ok x a).mono hd⟩
theorem jR.get(B:jR h D bs q l cl xs){i:Nat}(d:i<bs.length): ∃(a:Addr)(x:BB),q=some a/\dM (a.add (i*5)) x.s.l 0 h/\x.b=bs[i]/\BV.ok h D ⟨x.p,x.c,x.b.data⟩/\xs[i]? =some x:=by
 have xl:=B.xl;have c:xs[i]? =some (xs[i]' ae):=aj _;obtain⟨a,rfl⟩:=B.row.some (by intro e;have:=bP List.length e;rw[eO AZ 5 A2,bw]at this;omega);refine⟨a,_,rfl,B.row.fI A2 c,?_,B.ok _ (aJ c),c⟩;have:=B.eq;subst this;rw[List.getElem_map]
theorem jR.take(B:jR h D bs q l cl xs){n:Nat}(o:n<=bs.length):jR h D (bs.take n) (cR q cl 0 5) (n - 0) (cl - 0) (xs.take n):=by
 have k:=B.cap;have m:=B.len;have d:=B.row.sub (cap:=cl) (l:=0) (u:=n) (sz:=5) (br _) ae;rw[mz AZ 5 A2,Nat.zero_mul,gL]at d;refine⟨by rw[List.map_take,B.eq],by rw[bC];omega,d,λe y j=>B.own (λf=>e (by rw[f,List.take_nil])) y ?_,ae,λx i=>B.ok x (List.mem_of_mem_take i)⟩;obtain⟨a,E,c⟩:=j;unfold cR at E;cases q with
 |none=>split at E<;>cases E
 |some A=>
  split at E
  .cases E;exact⟨_,rfl,c⟩
  .cases E;exact⟨_,rfl,c⟩
theorem OD{k:Nat}(hk:R (.bool (alone k)) h):Cl 176 #[.U (k:Int)] h R:=by
 refine DU.walk ?_;unfold alone at hk;by_cases c1:k=1
 .rw[aw (.inl c1)]at hk;rw[ah (by simp only[dp];omega)];exact hk
 rw[af (by simp only[dp];omega)];by_cases C:k=6
 .rw[aw (.inr (.inl C))]at hk;rw[ah (by simp only[dp];omega)];exact hk
 rw[af (by simp only[dp];omega)];by_cases a:k=7
 .rw[aw (.inr (.inr (.inl a)))]at hk;rw[ah (by simp only[dp];omega)];exact hk
 rw[af (by simp only[dp];omega)];have:((k:Int)==10)=decide (k=1\/k=6\/k=7\/k=10):=by
  by_cases c:k=10
  .rw[aw (.inr (.inr (.inr c)))];simp only[dp];omega
  .rw[aD ae];simp only[dL,fL];omega
 rw[this];exact hk
theorem SE(U:nk V H)(u:Fr No H h)(mx:mO.Mx h)(B:jR h D bs q l cl xs)(hl:bs.length<=1000000)(hd: ∀b∈bs,b.data.length<=80000)(hk: iq h R (.bool (x7 V bs))):Cl 124 #[.slice q l cl] h R:=by
 have el:=B.len;subst el;refine IE.walk ?_;have c:x7 V bs=x7 V bs:=rfl;conv at c=>rhs;unfold x7
 refine⟨λok g=>ok=true/\g=h/\bs.length<=8/\x7 V bs=Dj V [] bs,λ_ _=>0,aI.of λJ A=> ?_,?_⟩
 .have no:x7 V bs=false->J true h:=λe=>by
   subst A;dsimp only;rw[ah rfl];have:=hk h (Fr.refl _ _);rw[e]at this;exact this
  by_cases c0:bs.length=0
  .rw[ah (by rw[c0];decide)];have:bs= []:=gG.1 c0;exact no (by rw[c,this];rfl)
  obtain⟨n,hn⟩: ∃n,bs.length=n+1:=⟨bs.length - 1,ae⟩;have ew:IntKind.wrap .i64 (((bs.length:Nat):Int) - 1)=(n:Int):=by rw[hn,bB ae ae];omega
  have i':bs.getLast? =some bs[n]:=by rw[List.getLast?_eq_getElem?,show bs.length - 1=n by omega,aj ae]
  rw[i']at c;dsimp only at c;rw[ew,dz];by_cases p:bs.length<=8
  case neg=>rw[ah (by simp only[aZ];omega)];exact no (by rw[c,aD p];rfl)
  rw[dz];rw[aw p,dX]at c;obtain⟨a,x,rfl,o,ex,_⟩:=B.get (i:=n) ae;have a':aX h (a.add (n*5))=some (.U ((bs[n].ty:Nat):Int)):=by rw[<-ex];exact o.1
  have b':aX h ((a.add (n*5)).add 1)=some (.U ((bs[n].nr:Nat):Int)):=by rw[<-ex];exact o.2.1
  refine⟨ae,az.2 ⟨_,by rw[aC];exact a',?_⟩⟩;by_cases c1:bs[n].ty=1
  case neg=>rw[ah (by simp only[eI,fL];omega)];exact no (by rw[c,aD (λe=>c1 e.1)];rfl)
  rw[af (by simp only[eI,fL];omega)];refine⟨ae,az.2 ⟨_,by rw[aC];exact b',?_⟩⟩;by_cases C:bs[n].nr=1
  case neg=>rw[show(((bs[n].nr:Nat):Int) !=1)=true by simp only[eI,fL];omega];exact no (by rw[c,aD (λe=>C e.2)];rfl)
  rw[show(((bs[n].nr:Nat):Int) !=1)=false by simp only[gI];omega];subst A;dsimp only;rw[dz];exact⟨rfl,rfl,p,by rw[c,aw ⟨c1,C⟩];rfl⟩
 rintro _ h ⟨rfl,rfl,l8,M⟩;clear c;refine aI.of λJ1 I=> ?_
 refine⟨λok t g=> ∃i:Nat,t=(i:Int)/\i<=bs.length/\ok=true/\Fr No h g/\Dj V [] bs=Dj V (bs.take i) (bs.drop i),λ_ t _=>bs.length - t.toNat,⟨0,rfl,br _,rfl,Fr.refl _ _,rfl⟩,?_⟩;rintro _ _ g ⟨i,rfl,hi,rfl,f,d⟩;by_cases m:i<bs.length
 case neg=>
  rw[af (λe=>m (bR (aP e)))];subst I;have:=hk g f;rw[M,d,eJ ae]at this;exact this
 rw[gh];have S:=B.on f;obtain⟨a,x,rfl,o,ex,P,_⟩:=S.get m;rw[da m]at d;have lx:x.b.data.length<=80000:=by rw[ex];exact hd _ (dQ m)
 refine⟨ae,az.2 (aK.nf (x:=x.s) (by rw[aC];exact o) (aK.gB (x:=x.s) λb h6 eb K f6=>aK.fY K (CM x.b U (u.tt (f.tt f6)) (mx.on (f.tt f6)) (P.frame f6 cb).row P.cap lx λh7 f7=>⟨_,rfl,⟨ae,bR B.cap⟩,?_⟩)))⟩;have z:=f6.tt f7;have e':=f7.get K id;have z7:=f.tt z;rw[ex];have X: ∀r,Dj V (bs.take i) (bs[i]::r)=(jE V bs[i] && (bs.take i).all (apart bs[i]) && Dj V (bs.take i++ [bs[i]]) r):=λr=>rfl
 rw[X]at d;refine⟨λok t G=> ∃k:Nat,t=(k:Int)/\k<=i/\ok=(jE V bs[i] && (bs.take k).all (apart bs[i]))/\Fr No h7 G,λ_ t _=>i - t.toNat,⟨0,rfl,br _,bQ,Fr.refl _ _⟩,?_⟩;rintro ok _ G ⟨k,rfl,k',N,s⟩;have Z:((Int.toNat (i:Int)) - 0:Nat)=i:=ae
 rw[Z];have F:=f.tt (z.tt s);by_cases g':k<i
 case neg=>
  rw[af (λe=>g' (bR (aP e)))];have:k=i:=ae
  subst this;rw[<-N]at d;cases ok with
  |false=>
   rw[gh];subst I;have:=hk G F;rw[M,d]at this;exact this
  |true=>
   rw[dz,bB (n:=(k:Int)+1) ae ae];refine⟨⟨k+1,ae,ae,rfl,F,?_⟩,by show bs.length - Int.toNat ((k:Int)+1)<bs.length - Int.toNat (k:Int);omega⟩;rw[d,dX,bm,aj m];rfl
 rw[gh];refine aI.of λJ2 c'=> ?_
 have Q:=(B.on F).take (n:=i) ae;have lt:(bs.take i).length=i:=by rw[bC];omega
 obtain⟨W,y,Y,f',E,l',_⟩:=Q.get (i:=k) ae;rw[List.getElem_take]at E;have lk:k<bs.length:=ae
 have ek:bs.take (k+1)=bs.take k++ [bs[k]]:=by rw[bm,aj lk];rfl
 refine⟨ae,cA.2 ⟨W,Y,aK.nf (x:=y.s) (by rw[aC];exact f') (aK.gB (x:=y.s) λb1 j j' L f11=>aI.of λT d'=> ?_)⟩⟩;have w:=(s.tt f11).get e' id;have go: ∀r v,Fr No j v->r=(ok && apart bs[i] bs[k])->T r v:=by
  intro r v f2 er;subst d' c';dsimp only;rw[bB (n:=(k:Int)+1) ae ae];refine⟨⟨k+1,ae,ae,?_,s.tt (f11.tt f2)⟩,by show i - Int.toNat ((k:Int)+1)<i - Int.toNat (k:Int);omega⟩;rw[er,N,ek,List.all_append,<-Bool.and_assoc];simp
 cases O:ok with
 |false=>rw[dz];exact go false j (Fr.refl _ _) (by rw[O];rfl)
 |true=>
 rw[ah rfl];refine⟨_,aq L,_,aq w,?_⟩;rw[O]at go;have n1:(((y.s.f1:Int) !=x.s.f1)=decide (bs[k].nr≠bs[i].nr)):=by
  show((y.b.nr:Int) !=(x.b.nr:Int))=_;rw[E,ex];by_cases e:bs[k].nr=bs[i].nr
  .rw[aD (λq=>q e),e];simp
  .rw[aw e];simp only[eI,fL];omega
 have n2:(((y.s.f0:Int) !=x.s.f0)=decide (bs[k].ty≠bs[i].ty)):=by
  show((y.b.ty:Int) !=(x.b.ty:Int))=_;rw[E,ex];by_cases e:bs[k].ty=bs[i].ty
  .rw[aD (λq=>q e),e];simp
  .rw[aw e];simp only[eI,fL];omega
 rw[n1];by_cases c1:bs[k].nr≠bs[i].nr
 case neg=>rw[af (cH c1)];exact go false j (Fr.refl _ _) (by unfold apart;rw[aD c1];rfl)
 rw[ah (aw c1)];refine⟨_,aq L,_,aq w,?_⟩;rw[n2];by_cases C:bs[k].ty≠bs[i].ty
 .rw[ah (aw C)];exact go true j (Fr.refl _ _) (by unfold apart;rw[aw c1,aw C];rfl)
 rw[af (cH C)];refine⟨_,aq w,?_⟩;rw[show x.s.f0=((bs[i].ty:Nat):Int) by rw[<-ex]];exact OD ⟨_,rfl,go _ j (Fr.refl _ _) (by unfold apart;rw[aw c1,aD C];rfl)⟩
theorem Gn(t:Tr):(zS V t).length<=room t:=by
 unfold zS;split
 .exact jI t
 .exact br _
theorem JY{t:Tr}{x:CV}(U:nk V H)(u:Fr No H h)(T:gX h D t x)(d:room t<=1000000)(hk: ∀h' p c (q:Int),fi h' p (zS V t).length c 1 (bc (zS V t))->(∀y,aL p y->h.size<=y)->Fr No h h'->R (.tuple #[.slice p (zS V t).length c,.I q]) h'):Cl 178 #[x.agg] h R:=by
 unfold zS at hk;refine xa U u T d (λe h' p c o n f=> ?_) (λe h' f=> ?_)
 .rw[ah e]at hk;exact hk h' p c 0 o n f
 .rw[e,dz]at hk;exact hk h' none 0 3 (.nil rfl rfl rfl rfl) (λy ⟨a,e,_⟩=>by cases e) f
abbrev oH.s(b:oH)(q:bZ)(cl:Nat):ay.S:=⟨b.p.fl,b.p.sum,b.p.dest.jT,b.p.dest.node,b.p.dest.gr,b.p.dest.host,b.p.dest.jv,b.p.rep.jT,b.p.rep.node,b.p.rep.gr,b.p.rep.host,b.p.rep.jv,b.p.id.e.jT,b.p.id.e.node,b.p.id.e.gr,b.p.id.e.host,b.p.id.e.jv,b.p.id.tm,b.p.id.sq,b.p.fj,q,b.bl.length,cl⟩
variable {b:oH}
theorem XU{b:Nat}{x:oH}{K:aG.S->Prop}(a:ay.gn h b (x.s q cl))(hk:K x.p.s):aG.cW h (AA b 0) K:=
 ⟨_,aq a,_,aq a,_,aq a,_,aq a,_,aq a,_,aq a,_,aq a,_,aq a,_,aq a,_,aq a,_,aq a,_,aq a,_,aq a,_,aq a,_,aq a,_,aq a,_,aq a,_,aq a,_,aq a,_,aq a,hk⟩
theorem OE(b':b.p.wf)(U:nk V H)(u:Fr No H h)(mx:mO.Mx h)(B:jR h D b.bl q b.bl.length cl xs)(hl:b.bl.length<=8)(hd: ∀E∈b.bl,E.data.length<=80000)(Z: ∀out,qT V b=some out->out.length<=5000->∀h' p c,fi h' p out.length c 1 (bc out)->(∀y,aL p y->h.size<=y)->Fr No h h'->R (.tuple #[.slice p out.length c,.bool true]) h')(K:qT V b=none->iq h R (.tuple #[.Z,.bool false])):Cl 125 #[(b.s q cl).agg] h R:=by
 refine DV.walk (ay.dv λb1 h1 e' v f1=>XU v (OA b.p b' U (u.tt f1) λh2 z qz z0 z1 f2=>aa.ex z.s ⟨_,rfl,aa.gB (x:=z.s) λb2 M f' Q f4=> ?_⟩));have F:=f1.tt (f2.tt f4);have k:qT V b=qT V b:=rfl;conv at k=>rhs;unfold qT
 cases m:nK V b.p with
 |error e=>rw[ah (cH (z1 e m))];exact K (by rw[k,m]) M F
 |ok t=>
 obtain⟨rfl,tz⟩:=z0 t m;rw[m]at k;dsimp only at k;rw[dz];have rt:=AT m;have le:=Gn (V:=V) t;refine aa.fY Q (JY U (u.tt F) (tz.on f4) ae λh5 p5 c5 q5 o5 n5 f5=>⟨_,_,_,_,rfl,_,_,_,aq ((f2.tt (f4.tt f5)).get v id),?_⟩);have C:=F.tt f5;have z4:=F.1;refine⟨λp l c t g=> ∃(i:Nat)(out:cM),t=(i:Int)/\i<=b.bl.length/\l=out.length/\fi g p out.length c 1 (bc out)/\(∀y,aL p y->h.size<=y)/\Fr No h g/\qT V b=E6 V (b.bl.drop i) out/\out.length<=1100+400*i,λ_ _ _ t _=>b.bl.length - t.toNat,⟨0,zS V t,rfl,br _,rfl,o5,λy r=>bR (n5 y r),C,k,ae⟩,?_⟩;rintro p _ c _ g ⟨i,out,rfl,hi,rfl,A,N,f,d,l'⟩;have lb:(b.s q cl).MS=b.bl.length:=rfl;by_cases o:i<b.bl.length
 case neg=>
  rw[af (λe=>o (bR (aP e)))];rw[eJ ae]at d;exact Z out d ae g p c A N f
 rw[gh];obtain⟨a,x,rfl,X,ex,w,_⟩:=(B.on f).get o;have lx:x.b.data.length<=80000:=by rw[ex];exact hd _ (dQ o)
 refine⟨ae,az.2 (aK.nf (x:=x.s) (by rw[aC];exact X) (aK.gB (x:=x.s) λb3 h8 g' S f8=>aK.fY S (JX x.b U (u.tt (f.tt f8)) (mx.on (f.tt f8)) (w.frame f8 cb).row w.cap lx λh9 y qy y0 Y f9=>aa.ex y.s ⟨_,rfl,aa.gB (x:=y.s) λb4 J i' W f11=> ?_⟩)))⟩;have s:=f.tt (f8.tt (f9.tt f11));rw[ex]at y0 Y;rw[da o]at d;have P: ∀L,E6 V (b.bl[i]::L) out=(match sk V b.bl[i]with| .error _=>none| .ok t=>E6 V L (out++zS V t)):=λL=>rfl
 rw[P]at d;cases j:sk V b.bl[i]with
 |error e=>rw[ah (by rw[Y e j];simpa using Gl j)];exact K (by rw[d,j]) J s
 |ok T=>
 obtain⟨rfl,ty⟩:=y0 T j;rw[j]at d;dsimp only at d;rw[dz];have r':=CO j;have m':=Gn (V:=V) T;refine aa.fY W (JY U (u.tt s) (ty.u.on f11) ae λj' o' d' q' a' n' f12=>⟨_,_,_,_,rfl,?_⟩);have G:=f8.tt (f9.tt (f11.tt f12));refine dD hM.tU hM.uU (A.frame G cb) a'.iJ (by rw[jq,cp]) (qJ _) ae ae λp' c' k' O _ f13 I=>⟨_,_,_,rfl,?_⟩
 rw[bB (n:=(i:Int)+1) ae ae];rw[<-kh,<-ar]at O;have zG:=(f.tt G).1;refine⟨⟨i+1,out++zS V T,ae,ae,by rw[ar],O,λy r=> ?_,(f.tt G).fresh f13 N,d,by rw[ar];omega⟩,by show b.bl.length - Int.toNat ((i:Int)+1)<b.bl.length - Int.toNat (i:Int);omega⟩;rcases I y r with a|a
 .exact N y a
 .omega
theorem JZ(w:b.p.wf)(U:nk V H)(u:Fr No H h)(mx:mO.Mx h)(B:jR h D b.bl q b.bl.length cl xs)(L:b.bl.length<=1000000)(hd: ∀x∈b.bl,x.data.length<=80000)(Q: ∀out,kJ V b=some out->out.length<=600->∀h' p c,fi h' p out.length c 1 (bc out)->(∀y,aL p y->h.size<=y)->Fr No h h'->R (.tuple #[.slice p out.length c,.I 0]) h')(K:kJ V b=none->iq h R (.tuple #[.Z,.I 3])):Cl 58 #[(b.s q cl).agg] h R:=by
 have f:kJ V b=kJ V b:=rfl;conv at f=>rhs;unfold kJ
 refine DX.walk (ay.dv λb1 h1 a' s f1=>⟨_,_,_,aq s,SE U (u.tt f1) (mx.on f1) (B.on f1) L hd λA f2=>⟨_,rfl,?_⟩⟩);have F:=f1.tt f2;cases i:x7 V b.bl with
 |false=>rw[gh];exact K (by rw[f,i];rfl) A F
 |true=>
 rw[i,ah rfl]at f;rw[dz];have S:b.bl.length<=8:=by
  unfold x7 at i;split at i
  .cases i
  .simp only[aS,aZ]at i;exact i.1.1
 refine ay.fY (f2.get s id) (OE w U (u.tt F) (mx.on F) (B.on F) S hd (λout P lo d p c X nw f3=>⟨_,_,_,_,rfl,aI.of λJ m=> ?_⟩) (λM d f3=>⟨_,_,_,_,rfl,aI.of λJ m=> ?_⟩))
 case refine_2=>
  rw[gh];subst m;dsimp only;rw[ah rfl];exact K (by rw[f,M]) d (F.tt f3)
 rw[P]at f;dsimp only at f;rw[dz];subst m;dsimp only;by_cases c1:out.length<=598
 case neg=>rw[ah (by simp only[aZ];omega)];exact K (by rw[f,af c1]) d (F.tt f3)
 rw[dz];rw[ah c1]at f;have r:=F.tt f3;have z3:=r.1;refine cI ?_;have f5:Fr No d (d.push (.cells #[.int .u8 159] 5)):=Fr.push _ _;have T:fi (d.push (.cells #[.int .u8 159] 5)) (Sa d.size 0) 1 1 1 (bc [159]):=by
  exact .row d.size 0 #[.int .u8 159] 5 rfl bV (bn _) bQ rfl (λj v n=>by
   match j,n with
   |0,n=>exact n)
 refine dD hM.tU hM.uU T ((X.frame f5 cb).iJ) (by rw[jq,cp]) (qJ _) ae ae λY c6 k W _ f6 G=>⟨_,_,_,rfl,cI ?_⟩
 have f7:Fr No k (k.push (.cells #[.int .u8 255] 5)):=Fr.push _ _;have z5:=f5.1;have z6:=f6.1;have z7:=f7.1;refine dD hM.tU hM.uU (W.frame f7 cb) (q:=some (AA k.size 0)) (ds:=bc [255]) iS rfl (qJ _) ae ae λZ C I O _ f8 z=>⟨_,_,_,rfl,?_⟩
 rw[<-kh,<-kh]at O;have el:1+out.length+1=(159::(out++ [255])).length:=by simp;omega
 rw[el]at O⊢;have N: ∀y,aL Y y->d.size<=y:=λy o=>by
  rcases G y o with⟨a,e,E⟩|a
  .cases e;rw[<-E];exact bn _
  .omega
 have t:Fr No d k:=f5.fresh f6 (λy ⟨a,e,E⟩=>by cases e;rw[<-E];exact bn _);refine Q _ f (by simp;omega) I Z C O (λy o=> ?_) (r.tt ((t.tt f7).fresh f8 N));rcases z y o with a|a
 .have:=N y a;omega
 .omega
theorem CP(w:b.p.wf)(U:nk V H)(u:Fr No H h)(mx:mO.Mx h)(B:jR h D b.bl q b.bl.length cl xs)(f:b.bl.length<=1000000)(hd: ∀d∈b.bl,d.data.length<=80000)(hk: iq h R (.bool (kJ V b).isSome)):Cl 196 #[(b.s q cl).agg] h R:=by
 refine DW.walk (ay.dv λb1 k E e f1=>ay.fY e (JZ w U (u.tt f1) (mx.on f1) (B.on f1) f hd (λout j L a p c o n f2=>⟨_,_,_,_,rfl,?_⟩) (λi a f2=>⟨_,_,_,_,rfl,?_⟩)))
 .have:=hk a (f1.tt f2);rw[j]at this;exact this
 .have:=hk a (f1.tt f2);rw[i]at this;exact this
theorem IG {b : oH} {q : Option Addr} {cl : Nat} {xs : List BB} (B : jR h D b.bl q b.bl.length cl xs) (hl : b.bl.length ≤ 1000000) (hd : ∀ b' ∈ b.bl, b'.data.length ≤ 80000)
    (hk : ∀ h' p c, fi h' p (tY b).length c 1 (bc (tY b)) → (∀ y, aL p y → h.size ≤ y) → Fr No h h' → R (.slice p (tY b).length c) h') : Cl 159 #[(b.s q cl).agg] h R := by
  have lb : (b.s q cl).MS = b.bl.length := rfl
  refine AY.walk (ay.dv λb1 h1 Vm Jv f1 => ⟨_, _, _, cK Jv rfl, ?_⟩)
  by_cases c0 : b.bl.length = 0
  · rw [if_pos (by simp only [beq_iff_eq]; omega)]
    have e0 : b.bl = [] := List.length_eq_zero_iff.1 c0
    have : tY b = [] := by unfold tY; rw [e0]; rfl
    rw [this] at hk
    exact hk h1 none 0 (.nil rfl rfl rfl rfl) (λy ⟨a, e, _⟩ => by cases e) f1
  rw [if_neg (by simp only [beq_iff_eq]; omega)]
  obtain ⟨n, hn⟩ : ∃ n, b.bl.length = n + 1 := ⟨b.bl.length - 1, by omega⟩
  have ew : IntKind.wrap .i64 (((b.bl.length : Nat) : Int) - 1) = (n : Int) := by rw [hn, bB (by omega) (by omega)]; omega
  have RL : b.bl.getLast? = some b.bl[n] := by rw [List.getLast?_eq_getElem?, show b.bl.length - 1 = n by omega, List.getElem?_eq_getElem (by omega)]
  have ep : tY b = b.bl[n].data := by unfold tY; rw [RL]
  refine ⟨_, _, _, cK Jv rfl, _, _, _, cK Jv rfl, ?_⟩
  rw [lb, ew]
  obtain ⟨a, x, rfl, hh, ex, Zn, _⟩ := (B.on f1).get (i := n) (by omega)
  refine ⟨⟨by omega, by omega⟩, az.2 ⟨_, _, _, by rw [Int.toNat_natCast]; exact hh.2.2.2.2.1, hM.gQ Zn.row rfl (by have := hd _ (List.getElem_mem (show n < b.bl.length by omega)); rw [← ex] at this; show x.b.data.length ≤ _; omega) λp c h2 o f2 n2 => ⟨_, _, _, rfl, ?_⟩⟩⟩
  rw [ep, ← ex] at hk
  exact hk h2 p c o (λy hy => by have := n2 y hy; have := f1.1; omega) (f1.tt f2)

end Bn
end
section
namespace Ask
open iY (Ev cV)
open eN (SS Good Pt sK Mk)
open Bn (jh hI iX AK DN oH Prim qj jR BB kJ)
variable {V:cM→Bool} {h h' m g:ak} {R:fG} {s k bo id c:Nat} {X j:Ft} {I:sK} {σ:SS} {p:bZ} {ses:Int} {x:Rq} {D:Nat→Prop} {o:Ot}
variable {b:Nat} {K:ak->Prop} {n:Nat×Nat} {d:cM} {P:Prim}
abbrev Rq.as(x:Rq)(p:bZ)(c s:Nat)(ses:Int):cv.S:=⟨x.id,x.kind,x.ep.jT,x.ep.node,x.ep.gr,x.ep.host,x.ep.jv,x.dest.jT,x.dest.node,x.dest.gr,x.dest.host,x.dest.jv,x.jS,x.num,x.iV,p,x.oa.length,c,x.fj,x.token,x.on,some ⟨s,0,none⟩,ses⟩
structure En (V:cM->Bool) (m h:ak) (s:Nat) (X:Ft) (I:sK) (σ:SS) (k:Nat):Prop where
 H:Pt h s X I σ
 G:eN.Good σ k
 hk:k<=30000
 u:MA m X h
 U:Cb.nk V m
 mx:mO.Mx m
theorem En.on(E:En V m h s X I σ k)(f:Fr No h h'):En V m h' s X I σ k:=⟨E.H.on f,E.G,E.hk,E.u.on f,E.U,E.mx⟩
theorem En.W0(E:En V m h s X I σ k):mO.Mx h:=E.mx.on E.u.fr
theorem En.step{a:SS}{k':Nat}(E:En V m h s X I σ k)(H:Pt h' s j I a)(st:bN X h j h')(G:eN.Good a k')(hk:k'<=30000):En V m h' s j I a k':=⟨H,G,hk,E.u.step st,E.U,E.mx⟩
theorem En.nM(E:En V m h s X I σ k)(a:h.size<=b): ¬X.M b:=λH=>by have:=E.H.lt b (.inl H);omega
theorem LL{S:Nat->Prop}{l:List (bZ)}(f:Fr S h h')(N: ¬S b)(a: ∀p∈l,p.map (·.block)=some b):Kp h h' l:=f.Vv λp i x e H=>N (by have:=a p i;rw[e]at this;exact(bp this)▸H)
structure jg (X:Ft) (h:ak) (bo id:Nat) (o:Ot) (j:Ft) (h':ak):Prop where
 fr:Fr (λy=>X.M y\/y=bo) h h'
 jD: ∀c,j.M c->X.M c\/h.size<=c
 lW: ∀c,j.D c->X.D c\/h.size<=c
 wc: ∀c,X.D c->j.D c
 at': ∃y,av.gn h' bo y/\(o.e=0->∃p c,y=⟨id,0,o.num,o.xO,0,p,o.d.length,c⟩/\Row h' p (bc o.d)/\(o.d≠ []->∀z,aL p z->(h.size<=z\/X.D z)/\¬j.M z))
abbrev y0(id:Nat):av.S:=⟨id,0,0,0,0,none,0,0⟩
theorem jg.of{H:ak}(st:bN X h j H)(f:Fr (λy=>y=bo) H h')(at': ∃y,av.gn h' bo y/\(o.e=0->∃p c,y=⟨id,0,o.num,o.xO,0,p,o.d.length,c⟩/\Row h' p (bc o.d)/\(o.d≠ []->∀z,aL p z->(h.size<=z\/X.D z)/\¬j.M z))):jg X h bo id o j h':=
 ⟨st.fr.trans f (λ_ _ a=> .inl a) (λ_ _ e=> .inr e),st.jD,st.lW,st.wc,at'⟩
theorem jg.bad{e:Int}(H:av.gn h bo (y0 id))(N: ¬X.M bo)(st:bN X h j h'){σ:SS}:jg X h bo id (bad σ e) j h':=
 jg.of st (Fr.refl _ _) ⟨_,st.fr.get H N,λ_=>⟨none,0,rfl,Row.nil,λe=>absurd rfl e⟩⟩
theorem om{i:Nat}{y z:av.S}{v:Value}(a:av.gn h b y)(f:i<6)(l:y.arr.setIfInBounds i v=z.arr)(hk: ∀h',av.gn h' b z->Fr (λy=>y=b) h h'->K h'):aQ h (AA b i) v K:=
 bL a f λH d1 d2 d3=>hk H (by unfold av.gn;rw[<-l];exact d1) (Fr.of_eq d2 λc e=>d3 c e)
theorem Pt.lK{t q:Nat}(H:Pt h s X I σ)(M:Mk h' I.k σ.e t q)(f:Fr (λy=>y=I.k) h h'): ∃j,Pt h' s j I { σ with tm:=t,sq:=q } /\bN X h j h':=by
 obtain⟨Z,⟨_,on⟩,r,z,go⟩:=H.use 5;obtain⟨j,a,st,_,_⟩:=go h' Z { σ with tm:=t,sq:=q } ⟨M,on⟩ (bN.uT (f.mono λy _ l=>(on y).1.2 l)) (λi e=>eN.Si σ.e t q e);exact⟨j,a,st⟩
theorem OF(h:oQ σ=some n):σ.tm<n.1\/σ.tm=n.1/\σ.sq<n.2:=by
 unfold oQ at h;split at h
 .cases h;left;assumption
 split at h
 .cases h
 .cases h;right;exact⟨rfl,Nat.lt_succ_self _⟩
theorem II{b:oH}(h:kJ V b=some d):Bn.jM b.p=true:=by
 unfold kJ at h;split at h
 .split at h
  .cases h
  .rename_i H;unfold Bn.qT at H;split at H
   .cases H
   .rename_i a;unfold Bn.nK at a;split at a
    .assumption
    .cases a
 .cases h
theorem LM{b:oH}(h:kJ V b=some d):b.p.fj<=1099511627776:=by
 have:=II h;unfold Bn.jM at this;simp only[aS,aZ]at this;exact this.2
theorem J0{b:oH}{q:bZ}{cl:Nat}{xs:List BB}(E:En V m h s X I σ k)(b':b.p.wf)(B:jR h D b.bl q b.bl.length cl xs)(hl:b.bl.length<=1000000)(hd: ∀L∈b.bl,L.data.length<=80000)(z:oQ σ=some n)(hk: ∀h' j,Pt h' s j I (kP V σ ses b n).σ->bN X h j h'->R (.tuple #[.I (kP V σ ses b n).num,.I (kP V σ ses b n).xO,.I (kP V σ ses b n).e]) h'):
  Cl 151 #[(x.as p c s ses).agg,(b.s q cl).agg,(⟨σ.e,n.1,n.2⟩:jh).s.agg] h R:=by
 refine BG.walk (cv.dv (x:=x.as p c s ses) λb1 h1 d' T f1=>ay.dv (x:=b.s q cl) λb2 h2 e' w f2=>ai.dv (x:=(⟨σ.e,n.1,n.2⟩:jh).s) λN h3 f' Y f3=> ?_);have F:=f1.tt (f2.tt f3);have l:=E.on F;have z1:=f1.1;have z2:=f2.1;have z3:=f3.1;unfold kP at hk;refine ay.fY (x:=b.s q cl) (f3.get w _root_.id) (Bn.JZ b' E.U l.u.fr l.W0 (B.on F) hl hd (λout r lo u p4 c4 o4 g4 f4=>⟨_,_,_,_,rfl,?_⟩) (λr u f4=>⟨_,_,_,_,rfl,?_⟩))
 case refine_2=>
  rw[gh];rw[r]at hk;exact hk u X (l.H.on f4) (bN.iP (F.tt f4))
 rw[dz];rw[r]at hk;dsimp only at hk;have t:=l.on f4;have i:=(f2.tt (f3.tt f4)).get T _root_.id;have W:=(f3.tt f4).get w _root_.id;have y:=f4.get Y _root_.id;have z4:=f4.1;have g':=aE i;have i':=aE y;have n1: ¬X.M b1:=E.nM ae;have n3: ¬X.M N:=E.nM ae;refine⟨_,aq i,_,aq i,_,aq i,az.2 ⟨_,aq t.H.cX,_,aq W,Gd σ.now b.p.fj E.G.n (LM r) ⟨_,rfl,(Fr.refl (λ_=>False) _).kp,eN.wB (lu σ.now b.p.fj) rfl t.H E.G E.hk o4.iJ rfl ae λO G f S=>⟨_,_,rfl,LL S.fr n1 bQ,aI.of λc' v=> ?_⟩⟩⟩⟩;have st:=bN.no (F.tt f4) S;unfold Ay at hk;by_cases H:eN.uv σ ses out (lu σ.now b.p.fj)=0
 .rw[ah H]at hk;rw[ah (by rw[H];rfl)];have U:=S.fr.get i n1;have Z:=S.fr.get y n3;have a:(eN.oh σ ses out (lu σ.now b.p.fj)).e=σ.e/\(eN.oh σ ses out (lu σ.now b.p.fj)).tm=σ.tm/\(eN.oh σ ses out (lu σ.now b.p.fj)).sq=σ.sq:=by unfold eN.oh;rw[ah H];exact⟨rfl,rfl,rfl⟩
  have M:=Pt.mk' f;rw[a.1,a.2.1,a.2.2]at M;have hr:hI ⟨σ.e,n.1,n.2⟩=true:=by have:=Az E.G z;unfold hI;rw[E.G.e.1,aw this.1,aw this.2];rfl
  refine⟨_,aq U,az.2 ⟨_,aq f.cX,ai.fY (x:=(⟨σ.e,n.1,n.2⟩:jh).s) Z (Ge M ⟨σ.e,n.1,n.2⟩ rfl hr (OF z) λQ C f8=>⟨_,rfl,?_,?_⟩)⟩⟩
  .have zk:=aE M;have:b1≠I.k:=λe=>by have:=aE (Pt.mk' E.H);omega
   exact LL f8 this bQ
  .subst v;obtain⟨J,A,a'⟩:=Pt.lK f (by rw[a.1];exact C) f8;exact H.symm▸hk Q J A (st.trans a')
 .rw[af H]at hk;rw[af (cH H)];subst v;have a:eN.oh σ ses out (lu σ.now b.p.fj)=σ:=by unfold eN.oh;rw[af H]
  rw[a]at f;exact hk O G f st
theorem D0(H:Pt h s X I σ)(hk: iq h R (.I (gj.jj σ.G x.ep ses))):Cl 104 #[(x.as p c s ses).agg] h R:=by
 refine AM.walk (cv.dv (x:=x.as p c s ses) λb G O u f1=>aI.of λJ N=> ?_);have w:=H.on f1;have fin: ∀(g:ak)(q:Nat),gj.Rg.at g q ((gj.jA σ.G x.ep).getD .zero)->Fr No G g->J (Sa q 0) (gj.jA σ.G x.ep).isSome g:=by
  intro g q C f;subst N;dsimp only;unfold gj.jj at hk;cases z:gj.jA σ.G x.ep with
  |none=>rw[z]at hk;rw[ah (by rfl)];exact hk g (f1.tt f)
  |some r=>
   rw[z]at hk C;rw[af bQ];refine az.2 ⟨_,aq C,_,aq (f.get u _root_.id),?_⟩;dsimp only at hk;by_cases a:r.own=ses
   .rw[ah a]at hk;rw[af (by show¬(r.own !=ses)=true;simpa using a)];exact hk g (f1.tt f)
   .rw[af a]at hk;rw[ah (by show(r.own !=ses)=true;simpa using a)];exact hk g (f1.tt f)
 obtain⟨Z,E,_⟩:=w.use 1;refine⟨_,aq u,az.2 ⟨_,aq w.cX,iX x.ep u rfl rfl rfl rfl rfl ⟨?_,?_,trivial⟩⟩⟩
 .exact gj.jc E x.ep λL f3=>⟨_,_,_,_,_,_,_,_,rfl,f3.kp,bD.box λB M F v f4=>⟨f4.kp,bD.set v λt A i l=>fin t B A ((f3.tt f4).fresh (Fr.of_eq (S:=λy=>y=B) i l) (λy e=>bR f3.1))⟩⟩
 .refine bD.box λB M F v f4=>⟨f4.kp,gj.jc (gj.Tb.on E f4) x.ep λL f3=>⟨_,_,_,_,_,_,_,_,rfl,f3.kp,bD.set (f3.get v _root_.id) λt A i l=>fin t B A ((f4.tt f3).fresh (Fr.of_eq (S:=λy=>y=B) i l) (λy e=>ae))⟩⟩
theorem W8{b:qj}{B:Nat}(H:aK.gn h B (b.s p c))(r:Row h p (bc b.data))(cap:b.data.length<=c):jR h (λ_=>True) [b] (Sa B 0) 1 1 [⟨b,p,c⟩]:=
 ⟨rfl,rfl,.inr ⟨_,rfl,aK.AF (x:=b.s p c) H⟩,λ_ _ _=>trivial,bn _,λy a=>by rw[bM.1 a];exact⟨r,λ_ _ _=>trivial,cap⟩⟩
theorem SF(n:Nat)(a:aG.gn h b P.s)(hk: ∀h',aG.gn h' b ({ P with fl:=n } :Prim).s->Fr (λy=>y=b) h h'->K h'):aQ h (AA b 0) (.U (n:Int)) K:=
 bL a (by show 0<20;omega) λH d1 d2 d3=>hk H d1 (Fr.of_eq d2 λc e=>d3 c e)
theorem W9(e:Ev)(a:aG.gn h b P.s)(hk: ∀h',aG.gn h' b ({ P with rep:=e } :Prim).s->Fr (λy=>y=b) h h'->K h'):ax.dE h (AA b 7) e.s K:=
 (show eu (AA b 7) e.s.l 0 h K from mA (off:=7) (ws:=({ P with rep:=e } :Prim).s.l) a (by show 7+5<=20;omega) rfl rfl λH d1 d2 d3=>hk H d1 (Fr.of_eq d2 λc f=>d3 c f))
theorem QZ(E:En V m h s X I σ k)(rx:Row h p (bc x.oa))(cap:x.oa.length<=c)(lp:x.oa.length<=1000)(w1:0<=x.ep.gr)(w2:0<=x.dest.gr)(q:av.gn h bo (y0 id))(W: ¬(X.M bo\/X.D bo))(hk: ∀h' j,Pt h' s j I (rE V σ ses x).σ->jg X h bo id (rE V σ ses x) j h'->R (.I (rE V σ ses x).e) h'):
  Cl 101 #[(x.as p c s ses).agg,.P bo 0] h R:=by
 refine AN.walk (cv.dv (x:=x.as p c s ses) λb h1 eb Q f1=>cv.fY (x:=x.as p c s ses) Q (D0 (E.H.on f1) λh2 f2=>⟨_,rfl,?_⟩));have F:=f1.tt f2;have E2:=E.on F;have J:=f2.get Q _root_.id;have nM: ¬X.M bo:=λe=>W (.inl e)
 unfold rE at hk;by_cases t:gj.jj σ.G x.ep ses=0
 case neg=>
  rw[af t]at hk;rw[ah (cH t)];exact hk h2 X E2.H (jg.bad q nM (bN.iP F))
 rw[ah t]at hk;rw[af (cH t)];refine⟨_,aq J,iX x.ep J rfl rfl rfl rfl rfl (vm E2.H E.G x.ep (λn r G f3=>ai.ex _ (ai.ex _ ⟨_,rfl,?_⟩)) (λr G f3=>ai.ex _ (ai.ex _ ⟨_,rfl,?_⟩)))⟩
 case refine_2=>
  rw[r]at hk;refine ai.dv λb1 h4 j' H f4=>ai.dv λA h5 k' L f5=>ai.iz (x:=(⟨x.ep,0,0⟩:jh).s) (f5.get H _root_.id) λh6 d6 f6 _=>ai.iz (x:=jh.zero.s) (f6.get L (bR (aE H))) λf d7 f7 _=> ?_
  rw[gh];have z4:=f4.1;have l:Fr No G f:=((f4.tt f5).fresh f6 (λy e=>ae)).fresh f7 (λy e=>ae);exact hk f X (E2.H.on (f3.tt l)) (jg.bad q nM (bN.iP (F.tt (f3.tt l))))
 rw[r]at hk;dsimp only at hk;refine ai.dv λb1 h4 j' H f4=>ai.dv λA h5 k' L f5=>ai.iz (x:=(⟨x.ep,n.1,n.2⟩:jh).s) (f5.get H _root_.id) λh6 d6 f6 _=>ai.iz (x:=(⟨σ.e,n.1,n.2⟩:jh).s) (f6.get L (bR (aE H))) λf d7 f7 _=> ?_
 rw[dz];have z1:=f1.1;have z2:=f2.1;have z3:=f3.1;have z4:=f4.1;have z5:=f5.1;have q':b1≠A:=by have:=aE H;omega
 have N:Fr No G f:=((f4.tt f5).fresh f6 (λy e=>ae)).fresh f7 (λy e=>ae);have M:=f3.tt N;have l:=F.tt M;have i:=M.get J _root_.id;have d67:=f7.get d6 q';have z':=N.1;refine iX x.dest i rfl rfl rfl rfl rfl (ai.fY (x:=(⟨x.ep,n.1,n.2⟩:jh).s) d67 ⟨_,aq i,aG.gB (x:=(⟨0,0,x.dest,.zero,⟨x.ep,n.1,n.2⟩,x.fj⟩:Prim).s) λB O t' U f9=>⟨_,aq (f9.get i _root_.id),aI.of λd' hJ=> ?_⟩⟩);have S:=f9.get i _root_.id;have d79:=f9.get d7 _root_.id;have z9:=f9.1;have Y:b≠B:=by have:=aE i;omega
 have r':A≠B:=by have:=aE d7;omega
 have fin: ∀g,aG.gn g B (lO x n).p.s->Fr (λy=>y=B) O g->d' g:=by
  intro g hp C;subst hJ;have a':Fr No f g:=f9.fresh C (λy e=>ae);have T:=C.get S Y;refine cv.fY (x:=x.as p c s ses) T (aG.fY (x:=(lO x n).p.s) hp ⟨_,_,_,aq T,aK.dv (x:=(⟨1,1,0,0,x.oa⟩:qj).s p c) λb4 v' u' p' f11=>ai.fY (x:=(⟨σ.e,n.1,n.2⟩:jh).s) (f11.get (C.get d79 r') _root_.id) ?_⟩);have v:=l.tt (a'.tt f11);have Z:=E.on v;refine J0 (b:=lO x n) (x:=x) (p:=p) (c:=c) Z ⟨w2,?_,w1⟩ (W8 (b:=⟨1,1,0,0,x.oa⟩) p' (rx.frame v (λ_ _=>_root_.id)) cap) (by show 1<=_;omega) (λb' n'=>by rw[bM.1 n'];show x.oa.length<=_;omega) r λw' w c' s'=>⟨_,_,_,rfl,?_⟩
  .show 0<=(if x.on=true then x.ep else Ev.zero).gr;split
   .exact w1
   .exact dT 0
  .have st:=bN.no v s';have o':=st.fr.get q nM;refine om (z:=⟨id,0,(kP V σ ses (lO x n) n).num,0,0,none,0,0⟩) o' dt rfl λx' e' f13=>om (z:=⟨id,0,(kP V σ ses (lO x n) n).num,(kP V σ ses (lO x n) n).xO,0,none,0,0⟩) e' dt rfl λl' f' f14=> ?_
   have no: ¬(w.M bo\/w.D bo):=λhm=>by
    have zo:=aE q;rcases hm with a|a
    .rcases st.jD bo a with a|a
     .exact nM a
     .omega
    .rcases st.lW bo a with a|a
     .exact W (.inr a)
     .omega
   refine hk l' w (c'.frame (f13.tt f14) (λy hy e=>no (e▸hy))) (jg.of st (f13.tt f14) ⟨_,f',λhe=>⟨none,0,?_,?_,?_⟩⟩)
   .have:(kP V σ ses (lO x n) n).d= []:=by
     unfold kP;split
     .rfl
     .unfold Ay;split<;>rfl
    rw[this];rfl
   .have:(kP V σ ses (lO x n) n).d= []:=by
     unfold kP;split
     .rfl
     .unfold Ay;split<;>rfl
    rw[this];exact Row.nil
   .intro _ z hz;obtain⟨a,e,_⟩:=hz;cases e
 cases u:x.on with
 |false=>
  rw[af (by show¬x.on=true;rw[u];decide)];refine fin O ?_ (Fr.refl _ _);have:(lO x n).p=⟨0,0,x.dest,.zero,⟨x.ep,n.1,n.2⟩,x.fj⟩:=by unfold lO;rw[u];rfl
  rw[this];exact U
 |true=>
  rw[ah (show x.on=true from u)];refine iX x.ep S rfl rfl rfl rfl rfl (SF 131072 U λy' g' f15=>⟨QT f15 Y bQ,W9 x.ep g' λm' i' f16=>fin m' ?_ (f15.tt f16)⟩);have:(lO x n).p=⟨131072,0,x.dest,x.ep,⟨x.ep,n.1,n.2⟩,x.fj⟩:=by unfold lO;rw[u];rfl
  rw[this];exact i'

end Ask
end
section
namespace Bn
open Cb
open iY (Ev cV kO)
variable {V:cM→Bool} {h H h' g g0:ak} {R:fG} {D':Nat→Prop}
variable {b cl bb l:Nat} {q:bZ} {p:Prim} {bs:List qj} {xs:List BB}
theorem tK:nW Tryz.prog 127 201 5 56 (.agg #[.U 0,.U 0,.U 0,.I 0,.Z]):=⟨cZ,cZ,rfl⟩
theorem uK:Tryz.prog.underlying 127=some (.slice 201):=cZ
theorem OG{x:oH}{K:ak->Prop}(d:ay.gn h b (x.s q cl))(hk: ∀h',ay.gn h' b (oH.s ⟨p,x.bl⟩ q cl)->Fr (λy=>y=b) h h'->K h'):aG.dE h (AA b 0) p.s K:=
 (show eu (AA b 0) p.s.l 0 h K from mA (off:=0) (ws:=(oH.s ⟨p,x.bl⟩ q cl).l) d (by show 0+20<=21;omega) rfl rfl λa d1 d2 d3=>hk a d1 (Fr.of_eq d2 λc e=>d3 c e))
theorem A4{y x:ay.S}{K:ay.S->ak->Prop}(a:ay.gn h b y)(hk: ∀h',Fr (λy=>y=b) h h'->K x h'):
  ay.dE h (AA b 0) x λg=>ay.cW g (AA b 0) λr=>K r g:=
 ay.iz (x:=x) a λg d1 f _=>ay.fY d1 (hk g f)
structure Bc (g0 g:ak) (bb:Nat) (p:Prim) (bs:List qj) (xs:List BB) (q:bZ) (cl:Nat):Prop where
 cX:ay.gn g bb (oH.s ⟨p,bs⟩ q cl)
 own:fi g q xs.length cl 5 (xs.flatMap AZ)
 ge: ∀y,aL q y->g0.size<=y/\y≠bb
 eq:xs.map BB.b=bs
 ok: ∀x∈xs,BV.ok g (λy=>(g0.size<=y/\y≠bb)/\¬aL q y) ⟨x.p,x.c,x.b.data⟩
 fr:Fr (λy=>y=bb) g0 g
theorem Bc.on(L:Bc g0 g bb p bs xs q cl)(f:Fr No g h'):Bc g0 h' bb p bs xs q cl:=
 ⟨f.get L.cX id,L.own.frame f cb,L.ge,L.eq,λx a=>(L.ok x a).frame f cb,L.fr.on f⟩
theorem Bc.len(L:Bc g0 g bb p bs xs q cl):xs.length=bs.length:=by rw[<-L.eq,aA]
theorem Bc.to(L:Bc g0 g bb p bs xs q cl):jR g (λy=>g0.size<=y/\y≠bb) bs q bs.length cl xs:=
 ⟨L.eq,rfl,L.own.iJ,λ_=>L.ge,gv L.own.le L.len,λx a=>(L.ok x a).mono λy c=>c.1⟩
theorem Xa{x:BB}{Φ:ak->Prop}(L:Bc g0 g bb p bs xs q cl)(A:l=xs.length)(ll:xs.length<=1000000)(F:BV.ok g (λy=>(g0.size<=y/\y≠bb)/\¬aL q y) ⟨x.p,x.c,x.b.data⟩)(hk: ∀G X Q C,Bc g0 G bb p (bs++ [x.b]) X Q C->g.size<=G.size->Φ G):
  aT g (.cells x.s.arr 201) λo s=>aU Tryz.prog (Builtin.append_ #[127,127] 127 #[.slice q l cl,.slice (Sa o 0) 1 1]) s λI u=>
   ∃m T t,I=.slice m T t/\aQ u (AA bb 20) (.slice m T t) λv=>Φ v:=by
 subst A;refine aK.dv λJ M K k f7=> ?_
 have Z:=f7.1;have W:=L.fr.1;have S:=aE k;have U:=aE L.cX;have P: ∀y,aL q y->y<g.size:=λy d=>L.own.dw d
 refine dD tK uK (L.own.frame f7 cb) (ds:=AZ x) (.inr ⟨_,rfl,aK.AF (x:=x.s) k⟩) rfl (OC x) ae ae λQ C r O _ f11 j=>⟨_,_,_,rfl,?_⟩
 have B:=f11.get (f7.get L.cX id) (λd=>(L.ge _ d).2 rfl);refine bL B (by show 20<21;omega) λf d1 d2 d3=> ?_
 have f12:Fr (λy=>y=bb) r f:=Fr.of_eq d2 (λc z=>d3 c z);have n: ∀y,aL Q y->g0.size<=y/\y≠bb:=λy d=>by
  rcases j y d with a|a
  .exact L.ge y a
  .omega
 have E:xs.flatMap AZ++AZ x=(xs++ [x]).flatMap AZ:=by rw[bY,List.flatMap_singleton]
 have el:(bs++ [x.b]).length=xs.length+1:=by rw[ar,L.len];rfl
 refine hk f (xs++ [x]) Q C ⟨?_,?_,n,?_,?_,?_⟩ ?_
 .unfold ay.gn oH.s;rw[el];exact d1
 .rw[ar,<-E];exact O.frame f12 (λy d e=>bR (n y d))
 .rw[aV,L.eq];rfl
 .intro y d;have key: ∀w:BB,BV.ok g (λy=>(g0.size<=y/\y≠bb)/\¬aL q y) ⟨w.p,w.c,w.b.data⟩->BV.ok f (λy=>(g0.size<=y/\y≠bb)/\¬aL Q y) ⟨w.p,w.c,w.b.data⟩:=λw D=>by
   have o1:=((FI D).frame f7 cb).frame f11 (λy d i=>d.1.2 i);have o2:=o1.mono (D':=λy=>(g0.size<=y/\y≠bb)/\¬aL Q y) (λy d=>⟨d.1.1,λi=>by
    rcases j y i with a|a
    .exact d.1.2 a
    .have:=d.2;omega⟩)
   exact o2.frame f12 (λy d e=>ae)
  rcases bz.1 d with a|a
  .exact key y (L.ok y a)
  .rw[bM.1 a];exact key x F
 .exact((L.fr.on f7).trans f11 (S'':=λy=>y=bb) cb (λx N d=>bR (L.ge x d))).trans f12 cb cb
 .have:=f11.1;omega
theorem OH{t:Tr}{b:qj}(h:zR V t=.ok b):b.data.length<=200:=by
 unfold zR at h;split at h
 .cases h
 .split at h
  .split at h
   .rename_i a;split at h
    .cases h;unfold sk at a;split at a
     .rename_i c;exact(xh c).2.2.1
     .cases a
    .cases h
   .cases h
  .cases h
theorem OI{b:oH}(h:(kJ V b).isSome=true):b.bl.length<=8/\b.bl≠ []:=by
 unfold kJ at h;split at h
 .rename_i a;unfold x7 at a;split at a
  .cases a
  .rename_i c;simp only[aS,aZ]at a;exact⟨a.1.1,λe=>by rw[e]at c;cases c⟩
 .cases h
def oH.zs:ay.S:=.z
theorem Ka{bs:cM}{p:bZ}{c:Nat}(U:nk V H)(u:Fr No H h)(mx:mO.Mx h)(row:Row h p (bc bs))(hl:l=bs.length)(cap:bs.length<=c)(k1: ∀b,oI V bs=.ok b->b.p.wf->(∀m∈b.bl,m.data.length<=200)->b.bl.length<=8->∀h' q cl xs,jR h' (λy=>h.size<=y) b.bl q b.bl.length cl xs->Fr No h h'->R (.tuple #[(b.s q cl).agg,.I 0]) h')(k2: ∀e,oI V bs=.error e->e≠0->iq h R (.tuple #[ay.S.z.agg,.I e])):Cl 158 #[.slice p l c] h R:=by
 subst hl;have j:oI V bs=oI V bs:=rfl;conv at j=>rhs;unfold oI
 refine Gm.walk (ay.dv λb K eb N f1=> ?_);have zb:=aE N;have z1:=f1.1;have no: ∀g e,Fr No K g->oI V bs=.error e->e≠0->ay.dE g (AA b 0) .z λG=>ay.cW G (AA b 0) λr=>R (.tuple #[r.agg,.I e]) G:=λg e fg d k=>
  A4 (fg.get N id) λG f=>k2 e d k G ((f1.tt fg).fresh f (λy e=>ae))
 by_cases c0:bs.length<=1200
 case neg=>rw[ah (by simp only[aZ];omega)];exact no K 2 (Fr.refl _ _) (by rw[j,af c0]) dt
 rw[dz];rw[ah c0]at j;refine AD (U.mono (u.tt f1)) (row.frame f1 cb) rfl cap ae (λh3 t x nx w tx f3=>aa.ex x.s ⟨_,_,rfl,aa.gB (x:=x.s) λb1 o k' v f5=> ?_⟩) (λh3 e d f3=>aa.ex zv.s ⟨_,_,rfl,aa.gB (x:=zv.s) λb1 o k' v f5=> ?_⟩)
 case refine_2=>
  rw[ah (cH (rX d))];exact no o e (f3.tt f5) (by rw[j,d]) (rX d)
 rw[w]at j;dsimp only at j;obtain⟨rt,C'⟩:=zK w;rw[dz];have s:=f1.tt (f3.tt f5);obtain⟨xk,xn,xb,xl,xv,ys,L,I⟩:=gX.kn (tx.u.on f5);have rl:=oj (t:=t);have ln:=I.len;refine aI.of λf' hJ=> ?_
 have bad: ¬(nx=bs.length/\t.k=4/\2<=t.l.length/\t.l.length<=9)->f' true o:=λk=>by
  subst hJ;dsimp only;rw[ah rfl];exact no o 3 (f3.tt f5) (by rw[j,af k]) dt
 have sl:x.s.lS=t.l.length:=xl;by_cases c1:nx=bs.length
 case neg=>rw[ah (by simp only[eI,fL];omega)];exact bad (λe=>c1 e.1)
 rw[af (by simp only[eI,fL];omega)];refine⟨_,aq v,?_⟩;rw[show x.s.f0=t.k from xk];by_cases C:t.k=4
 case neg=>rw[ah (cH C)];exact bad (λe=>C e.2.1)
 rw[af (cH C)];refine⟨_,_,_,aq v,?_⟩;by_cases Z:2<=t.l.length
 case neg=>rw[ah (by simp only[aZ];omega)];exact bad (λe=>Z e.2.2.1)
 rw[dz];refine⟨_,_,_,aq v,?_⟩;by_cases c4:t.l.length<=9
 case neg=>rw[show decide ((x.s.lS:Int)>9)=true by simp only[aZ];omega];exact bad (λe=>c4 e.2.2.2)
 rw[show decide ((x.s.lS:Int)>9)=false by simp only[fa];omega];clear bad;rw[ah ⟨c1,C,Z,c4⟩]at j;subst hJ;try dsimp only
 rw[dz];have z5:=s.1;have F':=(f3.tt f5).1;refine ay.dv λb2 h9 y' P f9=> ?_
 have z9:=f9.1;have G':=aE P;obtain⟨a0,y0,i',u',w',_⟩:=elem (L.frame f9 cb) (I.on f9) (i:=0) ae;have r0:=j1 (ts:=t.l) (i:=0) ae;have Y:=s.tt f9;refine⟨_,_,_,aq (f9.get v id),ae,cA.2 ⟨a0,i',aa.nf (x:=y0.s) u' ?_⟩⟩;refine OB U (u.tt Y) (mx.on Y) w' ae (λpr hp wp o' f10=>aG.ex pr.s ⟨_,rfl,OG (x:=⟨Prim.zero, []⟩) (p:=pr) (q:=none) (cl:=0) (f10.get P id) λM d11 f11=> ?_⟩) (λe d k o' f10=>aG.ex Prim.zero.s ⟨_,rfl,OG (x:=⟨Prim.zero, []⟩) (p:=Prim.zero) (q:=none) (cl:=0) (f10.get P id) λM d11 f11=> ?_⟩)
 case refine_2=>
  rw[ah (cH k)];exact no M e ((f3.tt (f5.tt (f9.tt f10))).fresh f11 (λy e=>ae)) (by rw[j,d]) k
 rw[dz];rw[hp]at j;dsimp only at j;have e':Fr No o M:=(f9.tt f10).fresh f11 (λy e=>ae);refine⟨_,_,_,aq (e'.get v id),ae,?_⟩;have e1:Int.toNat 1=1:=rfl;rw[e1,sl];refine⟨λT g=> ∃(i:Nat)(out:List qj)(xs:List BB)(q:bZ)(cl:Nat),T=(i:Int)/\i+1<=t.l.length/\out.length=i/\Bc o g b2 pr out xs q cl/\(∀m∈out,m.data.length<=200)/\oI V bs=(match E7 V (t.l.drop (i+1)) out with| .error e=> .error e| .ok l=>if(kJ V ⟨pr,l⟩).isSome=true then .ok ⟨pr,l⟩else .error 3),λT _=>t.l.length - 1 - T.toNat,⟨0, [], [],none,0,rfl,ae,rfl,⟨d11,.nil rfl rfl rfl rfl,(λy ⟨a,e,_⟩=>by cases e),rfl,(λx S=>by cases S),(f9.tt f10).mono (λ_ _=>False.elim)|>.tt f11⟩,(λx S=>by cases S),j⟩,?_⟩;rintro _ g ⟨i,out,xs,q,cl,rfl,hi,ho,B,hd,d⟩;have F:Fr No o g:=(Fr.refl _ _).fresh B.fr (λy e=>ae);have z:Fr No K g:=f3.tt (f5.tt F);by_cases D:i+1<t.l.length
 case neg=>
  rw[af (λe=>D (bR (aP e)))];rw[eJ ae]at d;have d:oI V bs=if(kJ V ⟨pr,out⟩).isSome=true then .ok ⟨pr,out⟩else .error 3:=d
  refine ay.fY B.cX (CP (b:=⟨pr,out⟩) wp U (u.tt (s.tt F)) (mx.on (s.tt F)) B.to (by show out.length<=_;omega) (λm O=>bR (hd m O)) λr' f23=>⟨_,rfl,?_⟩);cases Q:(kJ V ⟨pr,out⟩).isSome with
  |false=>
   rw[gh];exact no r' 3 (z.tt f23) (by rw[d,Q];rfl) dt
  |true=>
   rw[Q,ah rfl]at d;rw[dz];refine ay.fY (f23.get B.cX id) (A4 ((z.tt f23).get N id) λG f=>k1 ⟨pr,out⟩ d wp hd (OI Q).1 G q cl xs ?_ ((f1.tt (z.tt f23)).fresh f (λy e=>ae)));exact((B.to.on f23).frame f (λy E e=>ae)).mono λy E=>ae
 rw[gh];have t':t.l.drop (i+1)=at_ t.l (i+1)::t.l.drop (i+1+1):=by
  rw[da D];unfold at_;rw[bh,aj D];rfl
 rw[t']at d;have hB: ∀T l',E7 V (T::l') out=(match zR V T with| .error e=> .error e| .ok b=>E7 V l' (out++ [b])):=λ_ _=>rfl
 rw[hB]at d;have Lg:=L.frame F cb;have cc:x.ll<=x.cl:=L.cap;have L2:na g (λ_=>True) (cR x.s.ou x.s.nt 1 4) (t.l.length - 1) (x.s.nt - 1) (ys.drop 1):=by
  have w:=Lg.row.sub (cap:=x.cl) (l:=1) (u:=t.l.length) (sz:=4) ae ae;rw[mz iC 4 gK,oD iC 4 gK,bk ae]at w;exact⟨by rw[bX];omega,w,λ_ _ _=>trivial,by show _<=x.cl - 1;omega⟩
 have T2:BF g (t.l.drop 1) (ys.drop 1):=(I.on F).drop 1;obtain⟨a1,y1,j',v',d',_⟩:=elem L2 T2 (i:=i) (by rw[bX];omega);have ei:at_ (t.l.drop 1) i=at_ t.l (i+1):=by unfold at_;rw[bh,bh,fD,Nat.add_comm]
 rw[ei]at d';have r1:=j1 (ts:=t.l) (i:=i+1) D;refine⟨ae,cA.2 ⟨a1,j',aa.nf (x:=y1.s) (by rw[aC];exact v') (aa.gB (x:=y1.s) λb3 A' z' s' f15=>aa.fY s' ?_)⟩⟩;have zg:=F.1;refine QY U (u.tt (s.tt (F.tt f15))) (mx.on (s.tt (F.tt f15))) (d'.on f15) ae (λA c' p' W J ov f16=>aK.ex (A.s W J) ⟨_,rfl,aK.gB (x:=A.s W J) λb4 a' m' b' f18=> ?_⟩) (λe hE k p' f16=>aK.ex .z ⟨_,rfl,aK.gB (x:=.z) λb4 a' m' b' f18=> ?_⟩)
 case refine_2=>
  rw[ah (cH k)];exact no a' e (z.tt (f15.tt (f16.tt f18))) (by rw[d,hE]) k
 rw[dz];rw[c']at d;dsimp only at d;have n':=f15.tt (f16.tt f18);have X:=B.on n';have E':=f15.1;have nq: ∀y,aL q y->y<g.size:=λy E=>B.own.dw E
 have H':=aE B.cX;refine⟨_,_,_,aq X.cX,aK.fY b' (Xa (x:=⟨A,W,J⟩) X (by show out.length=_;exact B.len.symm) (bR B.len) ((ov.frame f18 cb).mono λy E=>⟨ae,λhq=>bR (nq y hq)⟩) λG x' q' g' B' I'=> ?_)⟩;rw[bB (n:=(i:Int)+1) ae ae];refine⟨⟨i+1,out++ [A],x',q',g',ae,ae,by rw[ar,ho];rfl,B',λm O=> ?_,d⟩,by show t.l.length - 1 - Int.toNat ((i:Int)+1)<t.l.length - 1 - Int.toNat (i:Int);omega⟩;rcases bz.1 O with a|a
 .exact hd m a
 .rw[bM.1 a];exact OH c'

end Bn
end
section
namespace Ask
open iY (Ev cV)
open eN (SS Good Pt sK Mk)
open Bn (jh hI iX AK DN oH Prim qj jR BB kJ oI tY)
variable {V:cM→Bool} {h h' j g:ak} {R:fG} {s k bo id c:Nat} {X d:Ft} {I:sK} {σ:SS} {p:bZ} {ses:Int} {x:Rq} {D:Nat→Prop}
theorem bN.box{b:Nat}(st:bN X h d h')(f:Fr (λy=>y=b) h' g)(H:h.size<=b):bN X h d g:=⟨st.fr.trans f (λ_ _ a=>a) (λc i e=>ae),st.jD,st.lW,st.wc⟩
def OJ(σ:SS)(X:Ft)(I:sK)(s:Nat)(ses:Int)(dl:Nat)(x:Ev)(g:ak)(S:aN.S)(e:Int)(h':ak):Prop:=
 ∃d a,Pt h' s d I a/\bN X g d h'/\((¬gx.uq ses dl/\e=1/\a=σ)\/(gx.uq ses dl/\gx.lg σ.C.L x=none/\e=4/\a=σ)\/
  (gx.uq ses dl/\∃z,gx.lg σ.C.L x=some z/\e=0/\a= { σ with C:=gx.rB σ.C z ses dl } /\∃p c,S.f0=(z.num:Int)/\S.Eb=p/\S.Ec=z.d.length/\S.Ed=c/\Row h' p (bc z.d)/\z.d.length<=c/\∀y,aL p y->g.size<=y/\¬d.M y))
theorem A5(H:Pt g s X I σ)(G:eN.Good σ k)(hk:k<=30000)(x:Ev)(dl:Nat){K:aN.S->Int->ak->Prop}(f: ∀S e h',OJ σ X I s ses dl x g S e h'->K S e h'):
  Cl 156 #[pt I.c,x.s.agg,.I ses,.U (dl:Int)] g λv h'=>aN.EX λS=> ∃e,v=.tuple #[S.agg,.I e]/\K S e h':=by
 obtain⟨Z,m,J,F,go⟩:=H.use 2;have B:=G.small H.ord ae;refine gx.K2 m B G.c.ok.bd x ses dl rfl (λa b f1=> ?_) (λa w b f1=> ?_) (λa z m b r P c1 n s1 r1 t n1=> ?_)
 .exact aN.ex .z ⟨_,rfl,f _ _ _ ⟨X,σ,H.on f1,bN.iP f1,.inl ⟨a,rfl,rfl⟩⟩⟩
 .exact aN.ex .z ⟨_,rfl,f _ _ _ ⟨X,σ,H.on f1,bN.iP f1,.inr (.inl ⟨a,w,rfl,rfl⟩)⟩⟩
 .obtain⟨q,o,st1,E,N⟩:=go b r { σ with C:=gx.rB σ.C z ses dl } n s1 (λi u=>eN.wQ _ u);exact aN.ex ⟨(z.num:Int),z.e.jT,z.e.node,z.e.gr,z.e.host,z.e.jv,P,z.d.length,c1,(z.cg:Int),ses,(dl:Int)⟩ ⟨_,rfl,f _ _ _ ⟨q,_,o,st1,.inr (.inr ⟨a,z,m,rfl,rfl,P,c1,rfl,rfl,rfl,rfl,r1,t,λy l=>⟨(n1 y l).1,λA=>(n1 y l).2 (N y (n1 y l).1 (.inl A))⟩⟩)⟩⟩
theorem Q0(E:En V j h s X I σ k)(ht:0<=x.iV/\x.iV<=1000000)(o:av.gn h bo (y0 id))(nb: ¬(X.M bo\/X.D bo))(hk: ∀h' d,Pt h' s d I (xU V σ ses x).σ->jg X h bo id (xU V σ ses x) d h'->R (.I (xU V σ ses x).e) h'):
  Cl 105 #[(x.as p c s ses).agg,.P bo 0] h R:=by
 refine AO.walk (cv.dv (x:=x.as p c s ses) λb h1 eb j' f1=>cv.fY (x:=x.as p c s ses) j' (D0 (E.H.on f1) λZ f2=>⟨_,rfl,?_⟩));have O:=f1.tt f2;have E2:=E.on O;have r:=f2.get j' _root_.id;have nM: ¬X.M bo:=λe=>nb (.inl e)
 have zo:=aE o;have z1:=f1.1;have z2:=f2.1;unfold xU at hk;by_cases N:gj.jj σ.G x.ep ses=0
 case neg=>
  rw[af N]at hk;rw[ah (cH N)];exact hk Z X E2.H (jg.bad o nM (bN.iP O))
 rw[ah N]at hk;rw[af (cH N)];refine aI.of λo' hJ=> ?_
 have fin: ∀(g h' G:ak)(S:aN.S)(e:Int)(l:Nat),OJ σ X I s ses (RB σ x) x.ep g S e h'->Fr No Z g->h.size<=l->(l<g.size\/h'.size<=l)->aN.gn G l S->Fr (λy=>y=l) h' G->o' (Sa l 0) e G:=by
  intro g h' G S e l L fg z' K' hS f;subst hJ;dsimp only;obtain⟨d,P',H',d',c⟩:=L;have zg:=fg.1;have qQ:=bN.no (O.tt fg) d';have st:=bN.box qQ f z';have C': ∀y,d.M y\/d.D y->y≠l:=λy H e=>by
   have:=H'.lt y H;rcases H with a|a
   .rcases d'.jD y a with a|a
    .have:=E.H.lt y (.inl a);omega
    .omega
   .rcases d'.lW y a with a|a
    .have:=E.H.lt y (.inr a);omega
    .omega
  have P:=H'.frame f (λy H e=>C' y H e);rcases c with⟨w,rfl,rfl⟩|⟨w,hn,rfl,rfl⟩|⟨w,z,hz,rfl,rfl,p1,c1,e0,e1,e2,e3,r1,cap,n1⟩
  .rw[af w]at hk;rw[gh];exact hk G d P (jg.bad o nM st)
  .rw[ah w,hn]at hk;rw[gh];exact hk G d P (jg.bad o nM st)
  rw[ah w,hz]at hk;dsimp only at hk;rw[dz];have rg:Row G p1 (bc z.d):=by
   by_cases hd:z.d= []
   .rw[hd];exact Row.nil
   .refine r1.frame f (λa J A=> ?_);have h3:=n1 a.block ⟨a,J,rfl⟩;have h4:=iK r1 (by simpa[bc]using hd) ⟨a,J,rfl⟩;have A:a.block=l:=A;omega
  have ug:=(E.u.step st).fr;have ac: ∀{g2:ak}{i:Nat}{v:Value},Fr No G g2->S.arr[i]? =some v->aX g2 (AA l i)=some v:=λf2 hv=>cK (f2.get hS _root_.id) hv
  have J':=aE hS;have A':=st.fr.get o nM;have bne:bo≠l:=ae
  have rest: ∀(M:ak)(m:oH)(q:bZ)(cl:Nat)(xs:List BB)(D:Nat->Prop),jR M D m.bl q m.bl.length cl xs->m.bl.length<=1000000->(∀y∈m.bl,y.data.length<=80000)->(tY m).length=FE V z.d->Fr No G M->
   aT M (.cells ay.S.z.arr 129) λg' u'=>
   ay.dE u' (AA g' 0) (m.s q cl) λn=>
   aO (some ((AA l 0):Addr)) λf'=>
   ∃t52,aX n f'=some (.I t52)/\
   ay.cW n (AA g' 0) λt53=>
   aO (some ((AA l 0):Addr)) λC=>
   ∃n' m' l',aX n (C.add 6)=some (.slice n' m' l')/\
   Cl 159 #[t53.agg] n λG' a'=>
   ∃F' k' E',G'=.slice F' k' E'/\
   Kp n a' [(some (C.add 6)),(some f')]/\
   aQ a' (AA bo 2) (.I t52) λb'=>
   Kp a' b' [(some (C.add 6))]/\
   aQ b' (AA bo 3) (.I ((k':Nat):Int)) λi'=>
   Kp b' i' [(some (C.add 6))]/\
   aQ i' (AA bo 5) (.slice n' m' l') λt'=>
   R (.I 0) t':=by
   intro M m q cl xs D B hl hd hp f5;refine ay.gB (x:=m.s q cl) λb6 g6 M' y' f6=>az.2 ⟨_,ac (i:=0) (f5.tt f6) rfl,ay.fY (x:=m.s q cl) y' (az.2 ⟨_,_,_,ac (i:=6) (f5.tt f6) rfl,Bn.IG (B.on f6) hl hd λg7 p7 c7 o7 n7 f7=>⟨_,_,_,rfl,f7.kp,?_⟩⟩)⟩
   have F:=f5.tt (f6.tt f7);rw[hp,e0,e1,e2,e3];refine om (z:=⟨id,0,(z.num:Int),0,0,none,0,0⟩) (F.get A' _root_.id) dt rfl λg8 d8 f8=>⟨QT f8 bne.symm (by simp;rfl),om (z:=⟨id,0,(z.num:Int),(FE V z.d:Int),0,none,0,0⟩) d8 dt rfl λg9 d9 f9=>⟨QT f9 bne.symm (by simp;rfl),om (z:=⟨id,0,(z.num:Int),(FE V z.d:Int),0,p1,z.d.length,c1⟩) d9 dt rfl λq' d10 f10=> ?_⟩⟩
   have T:=f8.tt (f9.tt f10);have D': ∀y,d.M y\/d.D y->y≠bo:=λy H e=>by
    rcases H with a|a
    .rcases qQ.jD y a with a|a
     .exact nM (e▸a)
     .omega
    .rcases qQ.lW y a with a|a
     .exact nb (.inr (e▸a))
     .omega
   refine hk q' d ((P.on F).frame T (λy H e=>D' y H e)) (jg.of (st.on F) T ⟨_,d10,λ_=>⟨p1,c1,rfl,?_,λ_ y H=>⟨.inl (bR ((n1 y H).1)),(n1 y H).2⟩⟩⟩);exact(rg.frame F (λ_ _=>_root_.id)).frame T (λa J A=>by have h3:=(n1 a.block ⟨a,J,rfl⟩).1;have A:a.block=bo:=A;omega)
  refine az.2 ⟨_,_,_,ac (i:=6) (Fr.refl _ _) rfl,?_⟩;rw[e1,e2,e3];refine Bn.Ka E.U ug (E.mx.on ug) rg rfl cap (λm v' w' B' O' h5 q cl xs B f5=>ay.ex (m.s q cl) ⟨_,rfl,?_⟩) (λe he hn h5 f5=>ay.ex .z ⟨_,rfl,?_⟩)
  .exact rest h5 m q cl xs _ B ae (λy H=>bR (B' y H)) (by unfold FE;rw[v']) f5
  .exact rest h5 ⟨.zero, []⟩ none 0 [] (λ_=>True) ⟨rfl,rfl,Row.nil,λe=>absurd rfl e,bn _,λy H=>by cases H⟩ (by show 0<=_;omega) (λy H=>by cases H) (by unfold FE;rw[he];rfl) f5
 have c': ¬X.M b:=E.nM ae;have eT:IntKind.wrap .u64 x.iV=(x.iV.toNat:Int):=by rw[wrap_u64 ae ae];omega
 have un: ∀{g:ak}{K:Int->ak->Prop},K (RB σ x:Int) g->Cl 157 #[.U (σ.now:Int),.U (IntKind.wrap .u64 x.iV)] g λv G=> ∃t,v=.U t/\K t G:=λhK=>by
  rw[eT];exact Gd σ.now x.iV.toNat E.G.n ae ⟨_,rfl,hK⟩
 refine⟨_,aq r,az.2 ⟨_,aq E2.H.cX,iX x.ep r rfl rfl rfl rfl rfl ⟨_,aq r,_,aq r,az.2 ⟨_,aq E2.H.cX,_,aq r,⟨?_,?_,trivial⟩⟩⟩⟩⟩
 .refine un ⟨(Fr.refl (λ_=>False) _).kp,?_,?_,trivial⟩
  .exact A5 E2.H E.G E.hk x.ep (RB σ x) λS e r' L=>⟨(by obtain⟨_,_,_,st,_⟩:=_root_.id L;exact LL st.fr c' bQ),aN.dv λb2 N' L' x' f13=>⟨f13.kp,aN.iz (x:=S) x' λs' d14 f14 _=>fin Z r' s' S e b2 L (Fr.refl _ _) (by obtain⟨_,_,_,st,_⟩:=_root_.id L;have:=st.fr.1;omega) (.inr ae) d14 (Fr.no f13 f14)⟩⟩
  .refine aN.dv λQ U p' u f15=>⟨f15.kp,A5 (E2.H.on f15) E.G E.hk x.ep (RB σ x) λS e W L=> ?_⟩
   have I':=f15.1;have e':=aE u;exact⟨(by obtain⟨_,_,_,st,_⟩:=_root_.id L;exact LL st.fr c' bQ),aN.iz (x:=S) (by obtain⟨_,_,_,st,_⟩:=_root_.id L;exact st.fr.get u (E.nM ae)) λY d17 f17 _=>fin U W Y S e Q L f15 ae (.inl e') d17 f17⟩
 .refine aN.dv λQ U p' u f15=>⟨f15.kp,un ⟨(Fr.refl (λ_=>False) _).kp,A5 (E2.H.on f15) E.G E.hk x.ep (RB σ x) λS e W L=> ?_⟩⟩
  have I':=f15.1;have e':=aE u;exact⟨(by obtain⟨_,_,_,st,_⟩:=_root_.id L;exact LL st.fr c' bQ),aN.iz (x:=S) (by obtain⟨_,_,_,st,_⟩:=_root_.id L;exact st.fr.get u (E.nM ae)) λY d17 f17 _=>fin U W Y S e Q L f15 ae (.inl e') d17 f17⟩
theorem Ah(E:En V j h s X I σ k)(o:av.gn h bo (y0 id))(L: ¬(X.M bo\/X.D bo))(hk: ∀h' d,Pt h' s d I (rF σ ses x.on).σ->jg X h bo id (rF σ ses x.on) d h'->R (.I (rF σ ses x.on).e) h'):
  Cl 108 #[(x.as p c s ses).agg,.P bo 0] h R:=by
 refine yA.walk (cv.dv (x:=x.as p c s ses) λb h1 eb f f1=> ?_);have E1:=E.on f1;have nM: ¬X.M bo:=λe=>L (.inl e)
 have zo:=aE o;have N: ¬X.M b:=E.nM ae;obtain⟨Z,t,zm,zd,go⟩:=E1.H.use 0;unfold rF at hk;refine⟨_,aq f,az.2 ⟨_,aq E1.H.cX,_,aq f,_,aq f,eE.Ah t E.G.a λB W T s2=> ?_⟩⟩;obtain⟨v,m,S,f',g'⟩:=go B W { σ with A:=eE.iB σ.A ses x.on } T s2 (λi q=>eN.Ar _ q);refine⟨_,rfl,LL S.fr N bQ,aI.of λe' J=> ?_⟩;have qQ:=bN.no f1 S;by_cases H:eE.uh σ.A ses=0
 case neg=>
  rw[af H]at hk;rw[af (cH H)];subst J;have eA:eE.iB σ.A ses x.on=σ.A:=by
   unfold eE.uh at H;unfold eE.iB;cases hs:eE.jd σ.A ses with
   |none=>rfl
   |some z=>rw[hs]at H;exact absurd rfl H
  rw[eA]at m;exact hk B v m (jg.bad o nM qQ)
 rw[ah H]at hk;rw[ah (by rw[H];rfl)];have K:=S.fr.get f N;have d': ¬v.M b:=λr=>by
  rcases S.jD b r with a|a
  .exact N a
  .have:=aE f;omega
 obtain⟨Z3,c',k',j',a'⟩:=m.use 0;refine⟨_,aq K,az.2 ⟨_,aq m.cX,_,aq K,eE.vj c' (E.G.a.watch ses x.on) λh4 Y P C U s4 O=> ?_⟩⟩;obtain⟨n,u,Q,w,i'⟩:=a' h4 Y { σ with A:=eE.sU (eE.iB σ.A ses x.on) ses } U s4 (λi q=>eN.Ar (σ:= { σ with A:=eE.iB σ.A ses x.on }) _ q);have st:=qQ.trans Q;refine⟨_,_,_,_,_,rfl,LL Q.fr d' bQ,?_⟩;have b':=st.fr.get o nM;refine om (z:=⟨id,0,0,0,0,P,(eE.Ag (eE.iB σ.A ses x.on) ses).length,C⟩) b' dt rfl λh5 d5 f5=>om (z:=⟨id,0,0,eE.Fk (eE.iB σ.A ses x.on) ses,0,P,(eE.Ag (eE.iB σ.A ses x.on) ses).length,C⟩) d5 dt rfl λh6 d6 f6=> ?_
 subst J;have F:=f5.tt f6;have M: ∀y,n.M y\/n.D y->y≠bo:=λy l e=>by
  rcases l with a|a
  .rcases st.jD y a with a|a
   .exact nM (e▸a)
   .omega
  .rcases st.lW y a with a|a
   .exact L (.inr (e▸a))
   .omega
 refine hk h6 n (u.frame F (λy l e=>M y l e)) (jg.of st F ⟨_,d6,λ_=>⟨P,C,rfl,?_,λhd z t=> ?_⟩⟩)
 .have:=BV.ok.frame O F (λy l e=>M y (.inr (w y l)) e);exact this.row
 .have G:=w z (O.own hd z t);exact⟨(st.lW z G).symm,λr=>u.wk z r G⟩

end Ask
end
section
namespace Bn
open Cb
open iY (Ev cV kO)
variable {V:cM→Bool} {h H h' g:ak} {R:fG} {D:Nat→Prop}
abbrev yI.s(r:yI):cF.S:=⟨r.rc,r.dl,r.de,r.reason,r.at',r.of.e.jT,r.of.e.node,r.of.e.gr,r.of.e.host,r.of.e.jv,r.of.tm,r.of.sq⟩
theorem LN(r:yI)(hk: iq h R (.bool (iL r))):Cl 290 #[r.s.agg] h R:=by
 refine DY.walk (cF.dv λb a E d f1=>⟨_,aq d,?_⟩);have rest:(r.rc||r.dl||r.de)=true->∃t15,aX a (AA b 3)=some (.U t15)/\if(decide (t15<=255))=true then∃t20,aX a (AA b 4)=some (.U t20)/\if(decide (t20<=1099511627776))=true then ai.cW a (AA b 5) λt25=>Cl 237 #[t25.agg] a λv f=> ∃t26,v=.bool t26/\R (.bool t26) f else R (.bool false) a else R (.bool false) a:=λi=>by
  refine⟨_,aq d,?_⟩;rw[show decide ((r.s.f3:Int)<=255)=decide (r.reason<=255)from lZ r.reason 255];unfold iL at hk;rw[i]at hk;by_cases c1:r.reason<=255
  case neg=>rw[af (cH c1)];rw[aD c1]at hk;exact hk a f1
  rw[ah (aw c1)];rw[aw c1]at hk;refine⟨_,aq d,?_⟩;rw[show decide ((r.s.f4:Int)<=1099511627776)=decide (r.at'<=1099511627776)from lZ r.at' 1099511627776];by_cases c:r.at'<=1099511627776
  case neg=>rw[af (cH c)];rw[aD c]at hk;exact hk a f1
  rw[ah (aw c)];rw[aw c]at hk;exact AK r.of d rfl rfl rfl rfl rfl rfl rfl (sd r.of λe f2=>⟨_,rfl,hk e (f1.tt f2)⟩)
 cases c1:r.rc with
 |true=>rw[ah (show r.s.f0=true from c1)];exact rest (by rw[c1];rfl)
 |false=>
 rw[af (show¬r.s.f0=true by rw[show r.s.f0=r.rc from rfl,c1];decide)];refine⟨_,aq d,?_⟩;cases c:r.dl with
 |true=>rw[ah (show r.s.f1=true from c)];exact rest (by rw[c1,c];rfl)
 |false=>
 rw[af (show¬r.s.f1=true by rw[show r.s.f1=r.dl from rfl,c];decide)];refine⟨_,aq d,?_⟩;cases C:r.de with
 |true=>rw[ah (show r.s.f2=true from C)];exact rest (by rw[c1,c,C];rfl)
 |false=>
 rw[af (show¬r.s.f2=true by rw[show r.s.f2=r.de from rfl,C];decide)];have:=hk a f1;unfold iL at this;rw[c1,c,C]at this;exact this
abbrev bo(l:List Bool):List Value:=l.map λb=> .bool b
theorem OK{p:bZ}{n c:Nat}{l:List Bool}(row:Row h p (bo l))(hn:n=l.length)(hl:l.length<=100000)(hk: ∀h' z,sX h' (λy=>h.size<=y) (E9 l) z->Fr No h h'->R z.s.agg h'):Cl 291 #[.slice p n c] h R:=by
 subst hn;refine IF.walk (aa.dv λb f eb w f1=>jZ (ts:= []) (ys:= []) (D:=λ_=>True) ⟨rfl,.inl rfl,λe=>absurd rfl e,bn _⟩ .nil (by simp[dF]) λX z T f2=>aa.ex z.s ⟨rfl,aa.gB (x:=z.s) λb1 Y d' B f4=> ?_⟩);have zb:=aE w;have z1:=f1.1;have z2:=f2.1;have z4:=f4.1;have f':=aE B;have F4:=f1.tt (f2.tt f4);have b':sX Y (λy=>f.size<=y/\y≠b1) (si []) z:=by
  obtain⟨⟨I,K,M,N⟩,zs,O,A,P,Q⟩:=T;refine⟨⟨I,K,M,((FI N).mono λy d=>ae).frame f4 cb⟩,zs,O,A.frame f4 cb,λy d=>⟨P y d,bR (A.dw d)⟩,(dx.mono (λy d=>by have f:=d.1.1;have X:=d.2;exact⟨⟨f,ae⟩,d.1.2⟩) Q.lt).on f4⟩
 obtain⟨zs,ez,r⟩:=Ov (g0:=f) b' B ((f2.tt f4).mono λ_ _=>False.elim);have s:z.k=4:=T.1.1;have u:z.n=0:=T.1.2.1;have E:z.v.b= []:=T.1.2.2.1;refine⟨λt g=> ∃(i:Nat)(ys:List CV)(q:bZ)(cl:Nat),t=(i:Int)/\i<=l.length/\ys.length=i/\Lc f g b1 z.k z.n z.v ((l.take i).map λb=>num (if b=true then 1 else 0)) ys q cl,λt _=>l.length - t.toNat,⟨0,zs,z.q,z.cl,rfl,br _,?_,by rw[eM];exact r⟩,?_⟩
 .have:=r.tr.len;exact this.symm
 rintro _ g ⟨i,ys,q,cl,rfl,hi,d,L⟩;by_cases m:i<l.length
 case neg=>
  rw[af (λe=>m (bR (aP e)))];rw[bk ae]at L;have a':z.v.ok g (λy=>f.size<=y/\y≠b1):=⟨by rw[E];exact Row.nil,λe=>absurd E e,T.1.2.2.2.cap⟩;have C:=Ow (k':=z.n) L a';rw[s,u,E]at C;refine aa.fY (x:=CV.s ⟨z.k,z.n,z.v,q,ys.length,cl⟩) L.cX (fin (z:=⟨z.k,z.n,z.v,q,ys.length,cl⟩) (t:=E9 l) (D:=λy=>f.size<=y/\y≠b1) (L.fr.get w ae) (by rw[s,u];exact C) (λy d e=>ae) λG tg W=>hk G _ (tg.mono λy d=>ae) ((f1.fresh L.fr (λy e=>ae)).fresh W (λy e=>ae)))
 rw[gh];have F:Fr No h g:=f1.fresh L.fr (λy e=>ae);obtain⟨a,rfl⟩:=row.some (by intro e;have:=bP List.length e;rw[aA,bw]at this;omega);have hc:aX g (a.add (i*1))=some (.bool l[i]):=by
  have:=(row.frame F cb).cell (j:=i) (v:=.bool l[i]) (by rw[aF,aj m];rfl);rw[cp];exact this
 refine⟨ae,cA.2 ⟨a,rfl,_,hc,aI.of λJ Z=> ?_⟩⟩;have go: ∀k:Nat,k=(if l[i]=true then 1 else 0)->J (k:Int) g:=by
  intro k U;subst Z;dsimp only;refine⟨_,_,_,aq L.cX,fz λh6 f6=>aa.ex (nv k).s ⟨rfl,f6.kp,?_⟩⟩;refine Ox (L.on f6) ae (Sv (n:=k)).Te λG c' q' S o e' _ _=> ?_
  rw[bB (n:=(i:Int)+1) ae ae];refine⟨⟨i+1,c',q',S,ae,ae,ae,?_⟩,by show l.length - Int.toNat ((i:Int)+1)<l.length - Int.toNat (i:Int);omega⟩;rw[bm,aj m,aV];rw[U]at o;exact o
 cases c:l[i]with
 |true=>rw[ah rfl];exact go 1 (by rw[c];rfl)
 |false=>rw[dz];exact go 0 (by rw[c];rfl)
theorem LO{r:yI}(a:iL r=true):room (Dk r)<=1000:=by
 unfold iL at a;simp only[aS,aZ]at a;have:=F1 r.of a.2;simp only[Dk,E9,room,dF,bw,cj,List.map_nil];omega
theorem Q1(r:yI)(w:0<=r.of.e.gr)(U:nk V H)(u:Fr No H h)(k1: ∀bs,KJ V r=some bs->bs.length<=1000->∀h' p c,fi h' p bs.length c 1 (bc bs)->(∀y,aL p y->h.size<=y)->Fr No h h'->R (.tuple #[.slice p bs.length c,.I 0]) h')(M:KJ V r=none->iq h R (.tuple #[.Z,.I 3])):Cl 249 #[r.s.agg] h R:=by
 refine DZ.walk (cF.dv λb h1 eb I f1=>AK r.of I rfl rfl rfl rfl rfl rfl rfl (JC r.of w λh2 z qz z0 z1 f2=>aa.ex z.s ⟨_,rfl,aa.gB (x:=z.s) λb1 h4 p' i' f4=>aI.of λJ A=> ?_⟩));have L:=(f2.tt f4).get I id;have q:=f1.tt (f2.tt f4);have bad: ∀g,Fr No h g->¬(iL r=true)->J true g:=λg f hn=>by
  subst A;dsimp only;rw[ah rfl];exact M (by unfold KJ;rw[af (λe=>hn e.1)]) g f
 by_cases d:qz=0
 case neg=>
  rw[ah (cH d)];exact bad h4 q (λe=>d (z1.2 (by unfold iL at e;simp only[aS]at e;exact e.2)))
 rw[af (cH d)];have tz:=z0 d;refine cF.fY L (LN r λv f5=>⟨_,rfl,?_⟩);have s:=q.tt f5;cases l:iL r with
 |false=>exact bad v s (by rw[l];decide)
 |true=>
 clear bad;subst A;dsimp only;rw[dz];have a:=f5.get L id;have rm:=LO l;refine⟨_,aq a,_,aq a,_,aq a,_,aq a,_,aq a,aa.fY (f5.get i' id) ?_⟩;have rest: ∀g y,FY g (E9 [r.rc,r.dl,r.de]) y->Fr No v g->∀{kl N kl2:List (bZ)},Cl 205 #[.U (r.reason:Int)] g λk' k=>aa.EX λt30=>k'=t30.agg/\Kp g k kl/\Cl 205 #[.U (r.at':Int)] k λl' C=>aa.EX λt33=>l'=t33.agg/\Kp k C N/\
   aT C (.cells (y.s.l++t30.l++t33.l++z.s.l).toArray 262) λY c'=>Cl 247 #[.slice (Sa Y 0) 4 4] c' λm' d'=>aa.EX λt36=>m'=t36.agg/\
   aT d' (.cells ((nv 1).s.l++t36.l).toArray 262) λZ e'=>Cl 247 #[.slice (Sa Z 0) 2 2] e' λn' f'=>aa.EX λt38=>n'=t38.agg/\Cl 178 #[t38.agg] f' λo' g'=>
   ∃P O T Q,o'=.tuple #[.slice P O T,.I Q]/\R (.tuple #[.slice P O T,.I Q]) g':=by
  intro g y ty f kl N kl2;refine fz λh9 f9=>aa.ex (nv r.reason).s ⟨rfl,f9.kp,fz λa' f10=>aa.ex (nv r.at').s ⟨rfl,f10.kp,?_⟩⟩
  have G:=f.tt (f9.tt f10);have W:BF a' [E9 [r.rc,r.dl,r.de],num r.reason,num r.at',MZ r.of] [y,nv r.reason,nv r.at',z]:=.cons (ty.on (f9.tt f10)) (.cons nh (.cons nh (.cons (tz.on (f4.tt (f5.tt G))) .nil)));have e2:room (Dk r)=27+dF [E9 [r.rc,r.dl,r.de],num r.reason,num r.at',MZ r.of]:=by simp only[Dk,room,dF,bw];omega
  refine pM W ae rfl rfl λb' w tw f12=>aa.ex w.s ⟨rfl,?_⟩
  have S:BF b' [num 1,si [E9 [r.rc,r.dl,r.de],num r.reason,num r.at',MZ r.of]] [nv 1,w]:=two nh tw.u;refine pM S (by simp only[dF,room,bw]at e2⊢;omega) rfl rfl λq' w2 j' f14=>aa.ex w2.s ⟨rfl,?_⟩
  have F:=s.tt (G.tt (f12.tt f14));refine xa U (u.tt F) j'.Te (t:=Dk r) ae (λe i p c o n f15=>⟨_,_,_,_,rfl,?_⟩) (λe i f15=>⟨_,_,_,_,rfl,?_⟩)
  .have:=F.1;exact k1 (enc (Dk r)) (by unfold KJ;rw[ah ⟨l,e⟩]) (bR (jI (Dk r))) i p c o (λy hy=>bR (n y hy)) (F.tt f15)
  .exact M (by unfold KJ;rw[af (λE=>by rw[e]at E;cases E.2)]) i (F.tt f15)
 have B: ∀{g}{K:Nat->ak->Prop},(∀b h',Row h' (Sa b 0) (bo [r.rc,r.dl,r.de])->Fr No g h'->K b h')->aT g (.cells #[.bool r.s.f0,.bool r.s.f1,.bool r.s.f2] 4) K:=λhk=>cI (hk _ _ iS (Fr.push _ _))
 refine⟨?_,?_,trivial⟩
 .refine fz (n:=1) λh6 f6=>aa.ex (nv 1).s ⟨rfl,f6.kp,B λX h7 m f7=>⟨f7.kp,OK m rfl (by show 3<=_;omega) λj y ty f8=>aa.ex y.s ⟨rfl,f8.kp,rest j y ty.u (f6.tt (f7.tt f8)) (kl2:= [])⟩⟩⟩
 .refine B λX h7 m f7=>⟨f7.kp,fz (n:=1) λh6 f6=>aa.ex (nv 1).s ⟨rfl,f6.kp,OK (m.frame f6 cb) rfl (by show 3<=_;omega) λj y ty f8=>aa.ex y.s ⟨rfl,f8.kp,rest j y ty.u (f7.tt (f6.tt f8)) (kl2:= [])⟩⟩⟩
theorem LP(r:yI)(dest:Ev)(id:jh)(fj:Nat)(a':0<=r.of.e.gr)(w1:0<=dest.gr)(w2:0<=id.e.gr)(U:nk V H)(u:Fr No H h)(mx:mO.Mx h)(Z: ∀b,kY V r dest id fj=some b->b.bl.length=1->b.p.wf->(∀m∈b.bl,m.data.length<=1000)->∀h' q cl xs,jR h' (λy=>h.size<=y) b.bl q b.bl.length cl xs->Fr No h h'->R (.tuple #[(b.s q cl).agg,.I 0]) h')(M:kY V r dest id fj=none->iq h R (.tuple #[ay.S.z.agg,.I 3])):Cl 197 #[r.s.agg,dest.s.agg,id.s.agg,.U (fj:Int)] h R:=by
 refine BM.walk (cF.dv λb h1 eb T f1=>ax.dv λb1 h2 b' W f2=>ai.dv λb2 h3 c' X f3=>ay.dv λb3 C d' t f4=>cF.fY ((f2.tt (f3.tt f4)).get T _root_.id) ?_);have F:=f1.tt (f2.tt (f3.tt f4));have z4:=F.1;have z1:=f1.1;have z3:=(f1.tt (f2.tt f3)).1;have i':=aE t;refine Q1 r a' U (u.tt F) (λbs v lb E p c o n f5=>⟨_,_,_,_,rfl,?_⟩) (λv E f5=>⟨_,_,_,_,rfl,?_⟩)
 case refine_2=>
  rw[gh];exact A4 (f5.get t _root_.id) λg f=>M (by unfold kY;rw[v]) g ((F.tt f5).fresh f (λy e=>ae))
 rw[dz];have l:=F.tt f5;have z5:=f5.1;refine ax.fY (x:=dest.s) ((f3.tt (f4.tt f5)).get W _root_.id) (ai.fY (x:=id.s) ((f4.tt f5).get X _root_.id) (aK.dv (x:=qj.s ⟨1,1,0,0,bs⟩ p c) λd h7 e' J f7=>ay.dv λA Q f' K f8=> ?_));have k:kY V r dest id fj=if(kJ V ⟨⟨2,0,dest,.zero,id,fj⟩, [⟨1,1,0,0,bs⟩]⟩).isSome=true then some ⟨⟨2,0,dest,.zero,id,fj⟩, [⟨1,1,0,0,bs⟩]⟩else none:=by unfold kY;rw[v]
 generalize s:(⟨⟨2,0,dest,.zero,id,fj⟩, [⟨1,1,0,0,bs⟩]⟩:oH)=B at k;have e1:B.bl= [⟨1,1,0,0,bs⟩]:=by rw[<-s]
 have ep:B.p.wf:=by rw[<-s];exact⟨w1,dT 0,w2⟩
 have j':=aE J;have k':=aE K;have z7:=f7.1;have z8:=f8.1;have N:jR Q (λy=>C.size<=y/\y≠A) B.bl (Sa d 0) B.bl.length 1 [⟨⟨1,1,0,0,bs⟩,p,c⟩]:=by
  rw[e1];refine⟨rfl,rfl,.inr ⟨_,rfl,aK.AF (x:=qj.s ⟨1,1,0,0,bs⟩ p c) (f8.get J _root_.id)⟩,λ_ y ⟨a,e,O⟩=>by cases e;rw[<-O];exact⟨by show C.size<=d;omega,by show d≠A;omega⟩,bn _,λx Y=> ?_⟩;rw[bM.1 Y];exact BV.jr ((o.frame f7 (λ_ _=>_root_.id)).frame f8 (λ_ _=>_root_.id)) (λy i=>⟨n y i,bR (o.dw i)⟩)
 have P:(B.s (Sa d 0) 1)=(⟨2,0,dest.s.f0,dest.s.f1,dest.s.f2,dest.s.f3,dest.s.f4,false,0,0,⟨#[]⟩,⟨#[]⟩,id.s.f0,id.s.f1,id.s.f2,id.s.f3,id.s.f4,id.s.f5,id.s.f6,fj,(Sa d 0),1,1⟩:ay.S):=by rw[<-s];rfl
 rw[<-P];refine ay.iz (x:=B.s (Sa d 0) 1) K λS d9 f9 _=>ay.fY d9 ?_
 have G:Fr No E S:=(f7.tt f8).fresh f9 (λy e=>ae);have w:=N.frame f9 (λy i e=>i.2 e);refine CP ep U (u.tt (l.tt G)) (mx.on (l.tt G)) w (by rw[e1];simp) (λm j=>by rw[e1]at j;rw[bM.1 j];show bs.length<=_;omega) λg' f10=>⟨_,rfl,?_⟩
 have I:=(f5.tt (G.tt f10)).get t _root_.id;have z:=l.tt (G.tt f10);cases L:(kJ V B).isSome with
 |false=>
  rw[gh];exact A4 I λg f=>M (by rw[k,L];rfl) g (z.fresh f (λy e=>ae))
 |true=>
  rw[dz];rw[L,ah rfl]at k;refine ay.fY (f10.get d9 _root_.id) (A4 I λg f=>Z B k (by rw[e1];rfl) ep (λm j=>by rw[e1]at j;rw[bM.1 j];exact lb) g _ 1 [⟨⟨1,1,0,0,bs⟩,p,c⟩] ?_ (z.fresh f (λy e=>ae)));exact((w.on f10).frame f (λy i e=>ae)).mono λy i=>ae

end Bn
end
section
namespace Ask
open iY (Ev cV)
open eN (SS Good Pt sK Mk)
open Bn (jh hI iX AK DN oH Prim qj yI jR BB kJ oI tY kY)
variable {V:cM→Bool} {h h' j g:ak} {R:fG} {s k c:Nat} {X i:Ft} {I:sK} {σ:SS} {p:bZ} {ses:Int} {x:Rq} {D:Nat→Prop}
variable {K:ay.S->Int->ak->Prop} {d:cM} {q:bZ} {C:Nat}
def NX(σ:SS)(a b:jh)(e:Int):Prop:=(e=0/\∃n,oQ σ=some n/\a=⟨σ.e,n.1,n.2⟩/\b=⟨σ.e,n.1,n.2⟩)\/(e=5/\oQ σ=none)
theorem Gp(H:Pt g s X I σ){K:ai.S->ak->Prop}(a: ∀G,Fr No g G->K (⟨σ.e,σ.tm,σ.sq⟩:jh).s G):Cl 74 #[pt I.k] g λv G=>ai.EX λt=>v=t.agg/\K t G:=
 eN.DF (Pt.mk' H) λG f=>ai.ex (⟨σ.e,σ.tm,σ.sq⟩:jh).s ⟨rfl,a G f⟩
theorem rK(H:Pt g s X I σ)(G:eN.Good σ k){K:ai.S->ai.S->Int->ak->Prop}(l: ∀a m o e,NX σ m o e->Fr No g a->K m.s o.s e a):
  Cl 150 #[pt s,σ.e.s.agg] g λv a=>ai.EX λt1=>ai.EX λt2=> ∃e,v=.tuple #[t1.agg,t2.agg,.I e]/\K t1 t2 e a:=
 vm H G σ.e (λn b a f=>ai.ex (⟨σ.e,n.1,n.2⟩:jh).s (ai.ex (⟨σ.e,n.1,n.2⟩:jh).s ⟨_,rfl,l a _ _ 0 (.inl ⟨rfl,n,b,rfl,rfl⟩) f⟩)) (λb a f=>ai.ex (⟨σ.e,0,0⟩:jh).s (ai.ex jh.zero.s ⟨_,rfl,l a _ _ 5 (.inr ⟨rfl,b⟩) f⟩))
theorem UU(E:En V j g s X I σ k)(P:Prim)(n:Nat×Nat)(w:P.wf)(H: ∀G (b:oH) q cl xs e,((e=0/\kY V ⟨false,true,false,0,σ.now,P.id⟩ P.rep ⟨σ.e,n.1,n.2⟩ P.fj=some b/\b.p.wf/\b.bl.length=1/\(∀y∈b.bl,y.data.length<=80000)/\jR G (λy=>g.size<=y) b.bl q b.bl.length cl xs)\/(e=3/\kY V ⟨false,true,false,0,σ.now,P.id⟩ P.rep ⟨σ.e,n.1,n.2⟩ P.fj=none))->Fr No g G->K (b.s q cl) e G):
  Cl 197 #[(⟨false,true,false,0,σ.now,P.id⟩:yI).s.agg,P.rep.s.agg,(⟨σ.e,n.1,n.2⟩:jh).s.agg,.U (P.fj:Int)] g λv G=>ay.EX λt=> ∃e,v=.tuple #[t.agg,.I e]/\K t e G:=
 Bn.LP ⟨false,true,false,0,σ.now,P.id⟩ P.rep ⟨σ.e,n.1,n.2⟩ P.fj w.2.2 w.2.1 E.G.e.2.2 E.U E.u.fr E.W0
  (λb a l W hd G q cl xs B f=>ay.ex (b.s q cl) ⟨_,rfl,H G b q cl xs 0 (.inl ⟨rfl,a,W,l,(λy o=>bR (hd y o)),B⟩) f⟩)
  (λm G f=>ay.ex (oH.s ⟨.zero, []⟩ none 0) ⟨_,rfl,H G ⟨.zero, []⟩ none 0 [] 3 (.inr ⟨rfl,m⟩) f⟩)
theorem UW(E:En V j g s X I σ k)(row:Row g q (bc d))(cap:d.length<=C)(a: ∀G (b:oH) Q cl e,b.p.wf->(xV b.p=false->ks V σ ses d=(σ,0))->(xV b.p=true->oI V d=.ok b)->Fr No g G->K (b.s Q cl) e G):
  Cl 158 #[.slice q d.length C] g λv G=>ay.EX λt=> ∃e,v=.tuple #[t.agg,.I e]/\K t e G:=
 Bn.Ka E.U E.u.fr E.W0 row rfl cap
  (λb l w hd n G Q cl xs B f=>ay.ex (b.s Q cl) ⟨_,rfl,a G b Q cl 0 w (λH=>by unfold ks;rw[l];dsimp only;rw[af (by rw[H];decide)]) (λ_=>l) f⟩)
  (λe m o G f=>ay.ex (oH.s ⟨.zero, []⟩ none 0) ⟨_,rfl,a G ⟨.zero, []⟩ none 0 e ⟨dT 0,dT 0,dT 0⟩ (λ_=>by unfold ks;rw[m]) (λH=>absurd H (by rw[show xV Prim.zero=false by kernel_rfl];decide)) f⟩)
theorem Q2{l:Nat}(E:En V j h s X I σ k)(row:Row h q (bc d))(hl:l=d.length)(cap:d.length<=C)(hk: ∀h' i,Pt h' s i I (ks V σ ses d).1->bN X h i h'->R (.I (ks V σ ses d).2) h'):
  Cl 164 #[(x.as p c s ses).agg,.slice q l C] h R:=by
 subst hl;refine AP.walk (cv.dv (x:=x.as p c s ses) λb h1 eb n' f1=> ?_);refine UW (ses:=ses) (E.on f1) (row.frame f1 cb) cap λh2 F q' cl e0 i' r' s' f2=>ay.gB (x:=F.s q' cl) λb3 h4 t' o' f4=>Bn.XU o' (aG.gB (x:=F.p.s) λb4 W u' b' f6=>aI.of λj' hJ=> ?_)
 have Z:=f1.tt (f2.tt (f4.tt f6));have A:=E.on Z;have a':=(f2.tt (f4.tt f6)).get n' id;have dn: ∀g,Fr No h g->ks V σ ses d=(σ,0)->R (.I 0) g:=λg O e=>by rw[e]at hk;exact hk g X (E.H.on O) (bN.iP O)
 have key: ∀v,v= !xV F.p->j' v W:=by
  intro v hv;subst hv;subst hJ;dsimp only;cases ht:xV F.p with
  |false=>rw[gh];exact dn W Z (r' ht)
  |true=>
  rw[dz];have d':=s' ht;refine aI.of λJ1 l'=> ?_
  have k': ∀(g:ak)(J L:Nat)(o r:jh)(e:Int),NX σ o r e->ai.gn g J o.s->ai.gn g L r.s->Fr No W g->J1 (Sa J 0) (Sa L 0) e g:=by
   intro g J L o r e N hi hw O;subst l';dsimp only;rcases N with⟨rfl,n,hn,rfl,rfl⟩|⟨rfl,hn⟩
   case inr=>
    rw[gh];exact dn g (Z.tt O) (by unfold ks;rw[d'];dsimp only;rw[ah ht,hn])
   rw[dz];have Eg:=A.on O;have f':=O.get a' id;have c':=O.get b' id;refine aI.of λJ2 m'=> ?_
   have e': ∀(T:ak)(m:oH)(q:bZ)(cl:Nat)(xs:List BB)(D:Nat->Prop)(Q:Nat)(e:Int),((e=0/\kY V ⟨false,true,false,0,σ.now,F.p.id⟩ F.p.rep ⟨σ.e,n.1,n.2⟩ F.p.fj=some m/\m.p.wf/\m.bl.length=1/\(∀y∈m.bl,y.data.length<=80000)/\jR T D m.bl q m.bl.length cl xs)\/(e=3/\kY V ⟨false,true,false,0,σ.now,F.p.id⟩ F.p.rep ⟨σ.e,n.1,n.2⟩ F.p.fj=none))->
     ay.gn T Q (m.s q cl)->Fr No g T->J2 e (Sa Q 0) T:=by
    intro T m q cl xs D Q e sp Y f5;subst m';dsimp only;rcases sp with⟨rfl,hs,wb,hl,hd,B⟩|⟨rfl,hs⟩
    case inr=>
     rw[gh];exact dn T (Z.tt (O.tt f5)) (by unfold ks;rw[d'];dsimp only;rw[ah ht,hn];dsimp only;rw[hs])
    rw[dz];refine cv.fY (x:=x.as p c s ses) (f5.get f' id) (az.2 (ay.fY (x:=m.s q cl) Y (az.2 (ai.fY (x:=(⟨σ.e,n.1,n.2⟩:jh).s) (f5.get hw id) (J0 (b:=m) (x:=x) (p:=p) (c:=c) (ses:=ses) (Eg.on f5) wb B ae hd hn λh9 X9 H9 p'=>⟨_,_,_,rfl,?_⟩)))));have eQ:ks V σ ses d=((kP V σ ses m n).σ,if(kP V σ ses m n).e=0 then 1 else 0):=by unfold ks;rw[d'];dsimp only;rw[ah ht,hn];dsimp only;rw[hs]
    rw[eQ]at hk;have hk:=hk h9 X9 H9 (bN.no (Z.tt (O.tt f5)) p');by_cases c0:(kP V σ ses m n).e=0
    .rw[af (cH c0)];rw[ah c0]at hk;exact hk
    .rw[ah (cH c0)];rw[af c0]at hk;exact hk
   refine⟨_,aq f',az.2 ⟨_,aq Eg.H.cX,AK F.p.id c' rfl rfl rfl rfl rfl rfl rfl (iX F.p.rep c' rfl rfl rfl rfl rfl (az.2 (ai.fY (x:=(⟨σ.e,n.1,n.2⟩:jh).s) hi ⟨_,aq c',?_,?_,trivial⟩)))⟩⟩
   .refine UU Eg F.p n i' λG m q cl xs e sp u2=>⟨u2.kp,ay.dv λQ P er Y U=>⟨U.kp,ay.iz (x:=m.s q cl) Y λg4 d4 u _=> ?_⟩⟩
    have U4:Fr No G g4:=U.fresh u (λy e=>ae);refine e' g4 m q cl xs (λy=>g.size<=y) Q e ?_ d4 (u2.tt U4);rcases sp with⟨a1,a2,a3,a4,a5,a6⟩|a
    .exact .inl ⟨a1,a2,a3,a4,a5,a6.on U4⟩
    .exact .inr a
   .refine ay.dv λQ P er Y U=>⟨U.kp,UU (Eg.on U) F.p n i' λG m q cl xs e sp u2=>⟨u2.kp,ay.iz (x:=m.s q cl) (u2.get Y id) λg4 d4 u _=> ?_⟩⟩
    have zr:=aE Y;have U4:Fr No g g4:=(U.tt u2).fresh u (λy e=>ae);refine e' g4 m q cl xs (λy=>P.size<=y) Q e ?_ d4 U4;rcases sp with⟨a1,a2,a3,a4,a5,a6⟩|a
    .exact .inl ⟨a1,a2,a3,a4,a5,a6.frame u (λy hy e=>ae)⟩
    .exact .inr a
  have H: ∀(g:ak)(J L:Nat)(y1 y2:ai.S)(o r:jh)(e:Int),NX σ o r e->ai.gn g J y1->ai.gn g L y2->J≠L->W.size<=J->W.size<=L->Fr No W g->
    ai.dE g (AA J 0) o.s λS=>ai.dE S (AA L 0) r.s λG=>J1 (Sa J 0) (Sa L 0) e G:=by
   intro g J L y1 y2 o r e N hi hw ne zi zw O;exact ai.iz (x:=o.s) hi λS d1 u1 _=>ai.iz (x:=r.s) (u1.get hw ne.symm) λG d2 u2 _=>k' G J L o r e N (u2.get d1 ne) d2 ((O.fresh u1 (λy e=>ae)).fresh u2 (λy e=>ae))
  have lt: ∀{g:ak}{b:Nat}{y:ai.S},ai.gn g b y->b<g.size:=λh=>aE h
  have le: ∀{g g':ak},Fr No g g'->g.size<=g'.size:=λf=>f.1
  refine⟨_,aq a',_,aq a',az.2 ⟨_,aq A.H.cX,?_,?_,?_,trivial⟩⟩
  .refine Gp A.H λS u1=>⟨u1.kp,?_,?_,?_,trivial⟩
   .refine rK (A.H.on u1) E.G λG o r e N u2=>⟨u2.kp,?_,?_,trivial⟩
    .exact ai.dv λm P e5 t U=>⟨U.kp,ai.dv λw g4 M z u=>⟨u.kp,H g4 m w _ _ o r e N (u.get t id) z (bR (lt t)) (gv (le u1) (le u2)) (sY (le u1) (le u2) (le U)) (u1.tt (u2.tt (U.tt u)))⟩⟩
    .exact ai.dv λm P e5 t U=>⟨U.kp,ai.dv λw g4 M z u=>⟨u.kp,H g4 w m _ _ o r e N z (u.get t id) (bR (lt t)) (sY (le u1) (le u2) (le U)) (gv (le u1) (le u2)) (u1.tt (u2.tt (U.tt u)))⟩⟩
   .refine ai.dv λm P e5 t U=>⟨U.kp,?_,?_,trivial⟩
    .exact rK (A.H.on (u1.tt U)) E.G λG o r e N u2=>⟨u2.kp,ai.dv λw g4 M z u=>⟨u.kp,H g4 m w _ _ o r e N ((u2.tt u).get t id) z (gv (lt t) (le u2)) (bR (le u1)) (sY (le u1) (le u2) (le U)) (u1.tt (U.tt (u2.tt u)))⟩⟩
    .exact ai.dv λw g4 M z u=>⟨u.kp,rK (A.H.on (u1.tt (U.tt u))) E.G λG o r e N u2=>⟨u2.kp,H G m w _ _ o r e N ((u.tt u2).get t id) (u2.get z id) (bR (lt t)) (bR (le u1)) (gv (le u1) (le U)) (u1.tt (U.tt (u.tt u2)))⟩⟩
   .refine ai.dv λm P e5 t U=>⟨U.kp,?_,?_,trivial⟩
    .exact rK (A.H.on (u1.tt U)) E.G λG o r e N u2=>⟨u2.kp,ai.dv λw g4 M z u=>⟨u.kp,H g4 w m _ _ o r e N z ((u2.tt u).get t id) (gv (lt t) (le u2)) (sY (le u1) (le u2) (le U)) (bR (le u1)) (u1.tt (U.tt (u2.tt u)))⟩⟩
    .exact ai.dv λw g4 M z u=>⟨u.kp,rK (A.H.on (u1.tt (U.tt u))) E.G λG o r e N u2=>⟨u2.kp,H G w m _ _ o r e N (u2.get z id) ((u.tt u2).get t id) (bR (lt t)) (gv (le u1) (le U)) (bR (le u1)) (u1.tt (U.tt (u.tt u2)))⟩⟩
  .refine ai.dv λm P e5 t U=>⟨U.kp,?_,?_,trivial⟩
   .refine Gp (A.H.on U) λS u1=>⟨u1.kp,?_,?_,trivial⟩
    .exact rK (A.H.on (U.tt u1)) E.G λG o r e N u2=>⟨u2.kp,ai.dv λw g4 M z u=>⟨u.kp,H g4 m w _ _ o r e N ((u1.tt (u2.tt u)).get t id) z (sY (lt t) (le u1) (le u2)) ae (sY (le u1) (le u2) (le U)) (U.tt (u1.tt (u2.tt u)))⟩⟩
    .exact ai.dv λw g4 M z u=>⟨u.kp,rK (A.H.on (U.tt (u1.tt u))) E.G λG o r e N u2=>⟨u2.kp,H G m w _ _ o r e N ((u1.tt (u.tt u2)).get t id) (u2.get z id) (gv (lt t) (le u1)) ae (gv (le u1) (le U)) (U.tt (u1.tt (u.tt u2)))⟩⟩
   .exact ai.dv λw g4 M z u=>⟨u.kp,Gp (A.H.on (U.tt u)) λS u1=>⟨u1.kp,rK (A.H.on (U.tt (u.tt u1))) E.G λG o r e N u2=>⟨u2.kp,H G m w _ _ o r e N ((u.tt (u1.tt u2)).get t id) ((u1.tt u2).get z id) (bR (lt t)) ae (bR (le U)) (U.tt (u.tt (u1.tt u2)))⟩⟩⟩
  .refine ai.dv λm P e5 t U=>⟨U.kp,?_,?_,trivial⟩
   .refine Gp (A.H.on U) λS u1=>⟨u1.kp,?_,?_,trivial⟩
    .exact rK (A.H.on (U.tt u1)) E.G λG o r e N u2=>⟨u2.kp,ai.dv λw g4 M z u=>⟨u.kp,H g4 w m _ _ o r e N z ((u1.tt (u2.tt u)).get t id) (sY (lt t) (le u1) (le u2)) (sY (le u1) (le u2) (le U)) ae (U.tt (u1.tt (u2.tt u)))⟩⟩
    .exact ai.dv λw g4 M z u=>⟨u.kp,rK (A.H.on (U.tt (u1.tt u))) E.G λG o r e N u2=>⟨u2.kp,H G w m _ _ o r e N (u2.get z id) ((u1.tt (u.tt u2)).get t id) (gv (lt t) (le u1)) (gv (le u1) (le U)) ae (U.tt (u1.tt (u.tt u2)))⟩⟩
   .exact ai.dv λw g4 M z u=>⟨u.kp,Gp (A.H.on (U.tt u)) λS u1=>⟨u1.kp,rK (A.H.on (U.tt (u.tt u1))) E.G λG o r e N u2=>⟨u2.kp,H G w m _ _ o r e N ((u1.tt u2).get z id) ((u.tt (u1.tt u2)).get t id) (bR (lt t)) (bR (le U)) ae (U.tt (u.tt (u1.tt u2)))⟩⟩⟩
 refine⟨_,aq b',?_⟩;split
 .rename_i c0;exact key true (by have:NK (F.p.fl:Int) 131072=true:=c0;unfold xV;rw[this];rfl)
 .rename_i c0;refine⟨_,aq b',key _ ?_⟩;have:NK (F.p.fl:Int) 131072=false:=by
   cases hh:NK (F.p.fl:Int) 131072 with
   |true=>exact absurd hh c0
   |false=>rfl
  unfold xV;rw[this];rfl

end Ask
end
section
namespace Ask
open iY (Ev cV)
open eN (SS Good Pt sK Mk)
open gx (CV Dy gA)
variable {V:cM→Bool} {h h' H g:ak} {R:fG} {s k bo r c:Nat} {X l:Ft} {I:sK} {σ:SS} {p:bZ} {ses:Int} {x:Rq} {D:Nat→Prop} {o:Ot}
variable {ys:List CV}
theorem qW{b n m:Nat}{q:bZ}(o:fi h q ys.length m 10 (ys.flatMap Dy))(B:n=ys.length)(C:ys.length<=1000000)(w:cv.gn h b (x.as p c s ses)) (hk: ∀h',Fr No h h'->R (.I (idxOf (λy:CV=>decide ((y.num:Int)=x.num)) ys)) h'):
  Cl 162 #[.slice q n m,.func (.func 163) #[] #[.P b 0]] h R:=by
 refine je.VS.walk (EO (λy:CV=>decide ((y.num:Int)=x.num)) (λt g K=>((0:Int)<=t/\t<(n:Int))/\aO q λa=>aN.cW g (a.add (Int.toNat t*10)) λt15=>
  Cl 163 #[t15.agg,.P b 0] g λv G=> ∃t,v=.bool t/\K t G) B ae (λj g0 y K i f u=> ?_) hk)
 have lt:=(aB.1 i).1;have o1:=o.frame f cb;obtain⟨P,F,rfl⟩:=o1.addr ae;have A:=o1.fI gA i;refine⟨ae,az.2 (aN.nf (x:=⟨(y.num:Int),y.e.jT,y.e.node,y.e.gr,y.e.host,y.e.jv,y.v.p,y.v.b.length,y.v.c,(y.cg:Int),y.ses,(y.dl:Int)⟩) (by rw[aC];exact A) (yz.walk (aN.dv λb1 d E z f1=>⟨_,aq z,_,aq ((f.tt f1).get w id),_,rfl,?_⟩)))⟩;have e:((y.num:Int)==x.num)=decide ((y.num:Int)=x.num):=by by_cases q:(y.num:Int)=x.num<;>simp[q]
 show K ((y.num:Int)==x.num) d;rw[e];exact u d (f.tt f1)
theorem OL{num:Int}{z:gx.Cp}(h:gx.yr (ys.map CV.abs) num=some z): ∃(i:Nat)(y:CV),idxOf (λy:CV=>decide ((y.num:Int)=num)) ys=(i:Int)/\ys[i]? =some y/\y.abs=z:=by
 unfold gx.yr at h;rw[List.find?_map]at h;obtain⟨y,a,rfl⟩:=Option.map_eq_some_iff.1 h;have a:ys.find? (λy:CV=>decide ((y.num:Int)=num))=some y:=a;obtain⟨d,i,b,rfl,e⟩:=List.find?_eq_some_iff_getElem.1 a;refine⟨i,ys[i],?_,aj b,rfl⟩;have:ys.findIdx? (λy:CV=>decide ((y.num:Int)=num))=some i:=cN.2 ⟨b,d,λj f=>cH (e j f)⟩;unfold idxOf;rw[this]
theorem HJ(E:En V H h s X I σ k)(c':k+1<=30000)(F:av.gn h bo (y0 r))(T: ¬(X.M bo\/X.D bo))(hk: ∀h' l,Pt h' s l I (FF V σ ses x.num).σ->jg X h bo r (FF V σ ses x.num) l h'->R (.I (FF V σ ses x.num).e) h'):
  Cl 106 #[(x.as p c s ses).agg,.P bo 0] h R:=by
 refine BH.walk (cv.dv (x:=x.as p c s ses) λb h1 eb O f1=> ?_);have E1:=E.on f1;have nM: ¬X.M bo:=λe=>T (.inl e)
 have zo:=aE F;have U: ¬X.M b:=E.nM ae;obtain⟨Z,n,zm,zd,go⟩:=E1.H.use 2;have sm:=E.G.small E.H.ord (bR E.hk);have z1:=f1.1;refine⟨_,aq O,az.2 ⟨_,aq E1.H.cX,gx.Jt n sm (λz n=>(E.G.c.ok.bd z n).2.2) λh2 q2 K ys o2 J r2 n2 f2=>⟨_,_,_,rfl,?_⟩⟩⟩;have E2:=E1.on f2;have q:=f2.get O id;obtain⟨Z,n,zm,zd,go⟩:=E2.H.use 2;have N:=E.G.c;refine⟨_,aq q,az.2 ⟨_,aq E2.H.cX,_,aq q,_,aq q,gx.HJ n sm (gv N.L E.hk) x.num ses λh3 Z3 C3 s3=> ?_⟩⟩;obtain⟨G,H3,S,g',i'⟩:=go h3 Z3 { σ with C:=gx.sJ σ.C x.num ses } C3 s3 (λi Q=>eN.wQ _ Q);refine⟨_,rfl,LL S.fr U bQ,?_⟩;have new: ∀y,h1.size<=y->¬X.M y:=λy j=>E.nM ae
 have W:=o2.frame S.fr (λy j=>new y (n2 y j));have P:=S.fr.get q U;have F2:=f1.tt f2;have ll:ys.length<=30000:=by
  have e1:=bP List.length J;rw[aA]at e1;have e2:=N.L;have L:=E.hk;omega
 refine qW W rfl ae P λM f4=>⟨_,rfl,?_⟩
 have st:=(bN.no F2 S).on f4;have u:=H3.on f4;refine aI.of λf' A=> ?_
 unfold FF at hk;by_cases f:gx.km σ.C.L x.num ses=0
 case neg=>
  rw[af f]at hk;rw[af (cH f)];subst A;dsimp only;refine aI.of λJ1 B=> ?_
  rw[dz];subst B;have eC:gx.sJ σ.C x.num ses=σ.C:=by unfold gx.sJ;rw[af f]
  rw[eC]at u;exact hk M G u (jg.bad F nM st)
 rw[ah f]at hk;rw[ah (by rw[f];rfl)];cases m:gx.yr σ.C.L x.num with
 |none=>unfold gx.km at f;rw[m]at f;cases f
 |some z=>
  rw[m]at hk;dsimp only at hk;rw[<-J]at m;obtain⟨i,y,e1,e2,L⟩:=OL m;rw[e1]at A⊢;subst A;dsimp only;refine aI.of λJ1 B=> ?_
  rw[gh];have Q:=(aB.1 e2).1;have Y:=W.frame f4 cb;obtain⟨pb,po,rfl⟩:=Y.addr ae;have hh:=Y.fI gA e2;have a':=f4.get P id;have ry:=((r2 y (aJ e2)).frame S.fr (λy j=>new y j)).frame f4 cb;have w:z.d=y.v.b:=by rw[<-L];rfl
  have G4:eN.Good { σ with C:=gx.sJ σ.C x.num ses } (k+1):=Good.Ud E.G E.H.ord E.hk ⟨2,x.num,ses,.zero,none,0, [],0⟩ (dT 0);have K: ∀g,dM (((AA pb po):Addr).add (i*10)) (Dy y) 0 g->aX g ((((AA pb po):Addr).add (Int.toNat (i:Int)*10)).add 6)=some y.v.val:=λg m=>by
   rw[aC];exact m.2.2.2.2.2.2.1
  have E4:En V H M s G I { σ with C:=gx.sJ σ.C x.num ses } (k+1):=E.step u st G4 c';refine cv.fY (x:=x.as p c s ses) a' ⟨ae,az.2 ⟨_,_,_,K _ hh,Q2 (ses:=ses) (x:=x) (p:=p) (c:=c) (d:=z.d) E4 (by rw[w];exact ry.row) (by rw[w]) (by rw[w];exact ry.cap) λh5 v H5 e'=>⟨_,rfl,?_⟩⟩⟩;have t:=st.trans e';have b':=t.fr.get F nM;refine om (z:=⟨r,0,0,(ks V { σ with C:=gx.sJ σ.C x.num ses } ses z.d).2,0,none,0,0⟩) b' dt rfl λh6 d6 f6=> ?_
  subst B;dsimp only;rw[f];have d': ∀y,v.M y\/v.D y->y≠bo:=λy j e=>by
   rcases j with a|a
   .rcases t.jD y a with a|a
    .exact nM (e▸a)
    .omega
   .rcases t.lW y a with a|a
    .exact T (.inr (e▸a))
    .omega
  exact hk h6 v (H5.frame f6 (λy j e=>d' y j e)) (jg.of t f6 ⟨_,d6,λ_=>⟨none,0,rfl,Row.nil,λe=>absurd rfl e⟩⟩)

end Ask
end
section
variable {h:ak} {R:fG}
variable {x X c d f:Int} {j S:bZ} {i g s k:Nat}
theorem IJ.walk{a:Int}{A:Int}{e:Int}{l:Int}{m:Int}{p:bZ}{o n:Nat}{q:Int}{B:Int}{r:Int}{t:Int}{u:Int}{z:bZ}{y w:Nat}(E:aT h (.cells #[.U a,.I A,.I e,.I l,.U m,.slice p o n] 44) λb C=>aT C (.cells #[.U q,.I B,.I r,.I t,.U u,.slice z y w] 44) λB H=>Hu H b 0 λt6=> ∃t8,Cc H B 0 (.U t8)/\if(t6==t8)then Hi H b 1 λt12=> ∃t14,Cc H B 1 (.I t14)/\if(t12==t14)then Hi H b 2 λt19=> ∃t21,Cc H B 2 (.I t21)/\if(t19==t21)then Hi H b 3 λt26=> ∃t28,Cc H B 3 (.I t28)/\if(t26==t28)then Hu H b 4 λt33=> ∃t35,Cc H B 4 (.U t35)/\if(t33==t35)then Hl H b 5 λG F T=>Hl H B 5 λK J I=>Cl 82 #[.slice G F T,.slice K J I] H λv D=> ∃t43,v=.bool t43/\R (.bool t43) D else R (.bool false) H else R (.bool false) H else R (.bool false) H else R (.bool false) H else R (.bool false) H):Cl 30 #[.agg #[.U a,.I A,.I e,.I l,.U m,.slice p o n],.agg #[.U q,.I B,.I r,.I t,.U u,.slice z y w]] h R:=aR (lq ll) Tryz.func30 E
theorem IK.walk{id:Int}{e:Int}(l:aT h (.cells #[.U 0,.I 0,.I 0,.I 0,.U 0,.Z] 44) λb a=>av.ST a (AA b 0) id e 0 0 0 none 0 0 λH=>av.LD H (AA b 0) λr m n o p u t q=>R (.agg #[.U r,.I m,.I n,.I o,.U p,.slice u t q]) H):Cl 41 #[.U id,.I e] h R:=aR (lq ll) Tryz.func41 l
theorem D5.walk{a:bZ}{L l:Nat}(b:Cl 187 #[.slice a L l,.func (.func 188) #[] #[]] h λv H=> ∃t4,v=.bool t4/\R (.bool (!t4)) H):Cl 146 #[.slice a L l] h R:=aR (lq ll) Tryz.func146 b
theorem A6.walk{n:Int}(H:if(decide (n<0))then R (.bool true) h else R (.bool (decide (n>1099511627776))) h):Cl 188 #[.I n] h R:=aR (lq ll) Tryz.func188 H
theorem Gq.walk (K:aT h (.cells #[.U x,.I X,.I c,.I d,.U f,.slice j i g] 44) λb H=>aI (λ(t3:Bool) (a:ak)=>if t3 then R (.bool false) a else∃t39,Cc a b 1 (.I t39)/\if(t39 !=0)then av.LD a (AA b 0) λT m n o p u r q=>Hu a b 0 λt43=>Hi a b 1 λt45=>Cl 41 #[.U t43,.I t45] a λv l=> ∃w y z A B E D C,v=.agg #[.U w,.I y,.I z,.I A,.U B,.slice E D C]/\dM (AA b 0) [.U T,.I m,.I n,.I o,.U p,.slice u r q] 0 l/\Cl 30 #[.agg #[.U T,.I m,.I n,.I o,.U p,.slice u r q],.agg #[.U w,.I y,.I z,.I A,.U B,.slice E D C]] l λV G=> ∃t47,V=.bool t47/\R (.bool t47) G else R (.bool true) a) (λJ=> ∃t5,Cc H b 0 (.U t5)/\if(decide (t5>1099511627776))then J true H else∃t9,Cc H b 1 (.I t9)/\if(decide (t9<0))then J true H else∃t14,Cc H b 1 (.I t14)/\if(decide (t14>99))then J true H else Hi H b 2 λt19=>Hi H b 3 λt21=>aT H (.cells #[.I t19,.I t21] 3) λF I=>Cl 146 #[.slice (Sa F 0) 2 2] I λN e=> ∃t23,N=.bool t23/\if(!t23)then J true e else∃t28,Cc e b 4 (.U t28)/\if(decide (t28>2147483648))then J true e else∃M t L,Cc e b 5 (.slice M t L)/\J (decide (((t:Nat):Int)>600)) e)):Cl 96 #[.agg #[.U x,.I X,.I c,.I d,.U f,.slice j i g]] h R:=aR (lq (sq (bq (sq (.join [(3,.one (.bool))] lf) (cq ll (lq (cq (sq (pN 8) lf) lf))))) ll)) Tryz.func96 K
theorem Gr.walk(A:aT h (.cells #[.U x,.I X,.I c,.I d,.U f,.slice j i g] 44) λb p=>av.LD p (AA b 0) λB C D E F J I G=>Cl 96 #[.agg #[.U B,.I C,.I D,.I E,.U F,.slice J I G]] p λv H=> ∃t5,v=.bool t5/\if(!t5)then R (.tuple #[.Z,.I 3]) H else Hu H b 0 λt9=>Hi H b 1 λt12=>Hi H b 2 λt15=>Hi H b 3 λt18=>Hu H b 4 λt21=>Hl H b 5 λe T t=>Cl 65 #[] H λV a=>Vp V λt7=>Cc a b 5 (.slice e T t)/\Cc a b 4 (.U t21)/\Cc a b 3 (.I t18)/\Cc a b 2 (.I t15)/\Cc a b 1 (.I t12)/\Cc a b 0 (.U t9)/\Cl 72 #[.pointer t7,.U t9] a λK l=>Vp K λt10=>Cc l b 5 (.slice e T t)/\Cc l b 4 (.U t21)/\Cc l b 3 (.I t18)/\Cc l b 2 (.I t15)/\Cc l b 1 (.I t12)/\Cl 66 #[.pointer t10,.I t12] l λL m=>Vp L λt13=>Cc m b 5 (.slice e T t)/\Cc m b 4 (.U t21)/\Cc m b 3 (.I t18)/\Cc m b 2 (.I t15)/\Cl 66 #[.pointer t13,.I t15] m λM n=>Vp M λt16=>Cc n b 5 (.slice e T t)/\Cc n b 4 (.U t21)/\Cc n b 3 (.I t18)/\Cl 66 #[.pointer t16,.I t18] n λN o=>Vp N λt19=>Cc o b 5 (.slice e T t)/\Cc o b 4 (.U t21)/\Cl 72 #[.pointer t19,.U t21] o λO q=>Vp O λt22=>Cc q b 5 (.slice e T t)/\Cl 71 #[.pointer t22,.slice e T t] q λP z=>Vp P λt25=>Cl 67 #[.pointer t25] z λQ y=> ∃w u r,Q=.slice w u r/\R (.tuple #[.slice w u r,.I 0]) y):Cl 45 #[.agg #[.U x,.I X,.I c,.I d,.U f,.slice j i g]] h R:=aR (lq (sq (lq (cq ll lf)) (sq (.gT (.op 1 (.op 2 (.op 4 (.op 5 (.op 7 (.op 8 (.op 10 (.op 11 (.op 13 (.op 14 (.op 16 (.op 17 (.op 0 (.op 3 (.op 6 (.op 9 (.op 12 (.op 15 (.op 18 (.op 19 (.op 20 (.op 21 .done))))))))))))))))))))))) lf))) Tryz.func45 A
theorem IM.walk{m:bZ}{l e:Nat}(E:aT h (.cells #[.U 0,.I 0,.I 0,.I 0,.U 0,.Z] 44) λb p=>Cl 91 #[.slice m l e] p λv t=>Vp v λt7=>Cl 92 #[.pointer t7] t λt' u=>Vu t' λt9=>Cl 93 #[.pointer t7] u λu' w=>Vi u' λt11=>Cl 93 #[.pointer t7] w λv' y=>Vi v' λt13=>Cl 93 #[.pointer t7] y λw' z=>Vi w' λt15=>Cl 92 #[.pointer t7] z λx' A=>Vu x' λt17=>Cl 94 #[.pointer t7] A λy' C=>Vl y' λc' b' a'=>aT C (.cells #[.U 0,.I 0,.I 0,.I 0,.U 0,.Z] 44) λB D=>av.ST D (AA B 0) t9 t11 t13 t15 t17 c' b' a' λq=>aI (λ(t28:Bool) (H:ak)=>if t28 then av.ST H (AA b 0) 0 0 0 0 0 none 0 0 λn=>av.LD n (AA b 0) λF I L N P Y V T=>R (.tuple #[.agg #[.U F,.I I,.I L,.I N,.U P,.slice Y V T],.I 3]) n else av.LD H (AA B 0) λl' m' n' o' p' s' r' q'=>av.ST H (AA b 0) l' m' n' o' p' s' r' q' λo=>av.LD o (AA b 0) λG K M O Q Z W U=>R (.tuple #[.agg #[.U G,.I K,.I M,.I O,.U Q,.slice Z W U],.I 0]) o) (λJ=>Cl 95 #[.pointer t7] q λz' a=> ∃t22,z'=.I t22/\if(t22 !=0)then J true a else av.LD a (AA B 0) λd' e' f' g' h' k' j' i'=>Cl 96 #[.agg #[.U d',.I e',.I f',.I g',.U h',.slice k' j' i']] a λA' r=> ∃t26,A'=.bool t26/\J (!t26) r)):Cl 43 #[.slice m l e] h R:=aR (lq (lq (lq (sq (sq (.join [(28,.one (.bool))] lf) (cq ll lf)) ll)))) Tryz.func43 E
theorem lQ.within.walk(a:Cl 168 #[.slice S s k,.func (.func 188) #[] #[]] h λv H=> ∃t7,v=.I t7/\R (.bool (decide (t7≥0))) H):Cl 187 #[.slice S s k,.func (.func 188) #[] #[]] h R:=aR (lq ll) Tryz.func187 a
theorem iu.within.walk(e: ∃(I:Int->ak->Prop)(m:Int->ak->Nat),I 0 h/\∀(t8:Int)(H:ak),I t8 H->if(decide (t8<(s:Int)))then((0:Int)<=t8/\t8<(s:Int))/\aO S λa=> ∃t15,aX H (a.add (toNat t8*1))=some (.I t15)/\Cl 188 #[.I t15] H λv b=> ∃t16,v=.bool t16/\if t16 then R (.I t8) b else(I (wrap .i64 (t8+1)) b/\m (wrap .i64 (t8+1)) b<m t8 H)else R (.I (-1)) H):Cl 168 #[.slice S s k,.func (.func 188) #[] #[]] h R:=aR (lq (sq (lq (bq (.loop [(8,.one (.int .i64))] (lq (sq (cq lf lf) (sq (bq (lq (lq (cq ll lf)))) lf)))))) ll)) Tryz.func168 e

end
section
open Go.fk
namespace yI
open hM
variable {h h0:ak} {R:fG} {p q:bZ} {c d:Nat}
variable {n:Nat}
abbrev val(x:RD)(p:bZ)(c:Nat):Value:=.agg #[.int .u64 (x.id:Int),.int .i64 x.err,.int .i64 x.num,.int .i64 x.count,.int .u64 (x.token:Int),.slice p x.b.length c]
abbrev At(h:ak)(b:Nat)(x:RD)(p:bZ)(c:Nat):Prop:=av.at h b (x.id:Int) x.err x.num x.count (x.token:Int) p x.b.length c
theorem BN{a b:cM}{m:Nat}(r:Row h p (bc a))(g:Row h q (bc b))(f:n=a.length)(H:m=b.length)(hk:R (.bool (decide (a=b))) h):Cl 82 #[.slice p n c,.slice q m d] h R:=by
 refine xX.walk ⟨_,conv r f,_,conv g H,?_⟩;rw[oC,oC];have:(a==b)=decide (a=b):=by
  by_cases e:a=b<;>simp[e]
 rw[this];exact hk
theorem iI(x y:RD)(r:Row h p (bc x.b))(j:Row h q (bc y.b))(hk: iq h R (.bool (decide (x.same y)))):Cl 30 #[val x p c,val y q d] h R:=by
 refine IJ.walk (av.box λb k _ i f1=>av.box λB g _ H f2=> ?_);have a:=f2.get i id;have f12:=f1.tt f2;have hk:=hk g f12;unfold RD.same at hk;refine⟨_,aq a,_,aq H,?_⟩;by_cases E:x.id=y.id
 .rw[ah (by rw[E];simp)];refine⟨_,aq a,_,aq H,?_⟩;by_cases e1:x.err=y.err
  .rw[ah (by rw[e1];simp)];refine⟨_,aq a,_,aq H,?_⟩;by_cases e2:x.num=y.num
   .rw[ah (by rw[e2];simp)];refine⟨_,aq a,_,aq H,?_⟩;by_cases e:x.count=y.count
    .rw[ah (by rw[e];simp)];refine⟨_,aq a,_,aq H,?_⟩;by_cases f:x.token=y.token
     .rw[ah (by rw[f];simp)];refine⟨_,_,_,aq a,_,_,_,aq H,BN (r.frame f12 cb) (j.frame f12 cb) rfl rfl ⟨_,rfl,?_⟩⟩;simpa[E,e1,e2,e,f]using hk
     .rw[af (by simp;omega)];simpa[f]using hk
    .rw[af (cH e)];simpa[e]using hk
   .rw[af (cH e2)];simpa[e2]using hk
  .rw[af (cH e1)];simpa[e1]using hk
 .rw[af (by simp;omega)];simpa[E]using hk
def Kb(id:Nat)(e:Int):RD:=⟨id,e,0,0,0, []⟩
theorem mi{i:Int}(id:Nat)(f:i=(id:Int))(e:Int)(hk: iq h R (val (Kb id e) none 0)):Cl 41 #[.U i,.I e] h R:=by
 subst f;refine IK.walk (av.new λb H _ a f1=>av.ld a ?_);exact hk H f1
def O7(n:Int):Bool:=decide (0<=n/\n<=1099511627776)
theorem SG(n:Int)(hk:R (.bool (!O7 n)) h):Cl 188 #[.I n] h R:=by
 refine A6.walk ?_;unfold O7 at hk;by_cases H:n<0
 .simpa[H,show¬0<=n by omega]using hk
 .by_cases a:n>1099511627776
  .simpa[H,a,show¬n<=1099511627776 by omega]using hk
  .simpa[H,a,show 0<=n by omega,show n<=1099511627776 by omega]using hk
theorem xg {ns : List Int} {n m : Nat} (hr : Row h p (ns.map (.int .i64 ·))) (hn : n = ns.length) (hl : ns.length ≤ 1000000) (hk : R (.bool (ns.all O7)) h) : Cl 146 #[.slice p n m] h R := by
  subst hn
  refine D5.walk (lQ.within.walk (iu.within.walk ?_))
  refine ⟨λi h' => h' = h ∧ ∃ k : Nat, i = (k : Int) ∧ k ≤ ns.length ∧ ∀ j, j < k → O7 (ns.getD j 0) = true, λi _ => ns.length - i.toNat, ⟨rfl, 0, rfl, by omega, λj hj => by omega⟩, ?_⟩
  rintro _ h1 ⟨rfl, k, rfl, Xs, UX⟩
  by_cases RE : k < ns.length
  · have : (k : Int) < (ns.length : Int) := by omega
    simp only [this, decide_true, if_true, Int.toNat_natCast]
    obtain ⟨a, rfl, ck⟩ := GS hr RE
    refine ⟨⟨by omega, trivial⟩, az.2 ⟨_, ck, SG _ ⟨_, rfl, ?_⟩⟩⟩
    cases hb : O7 (ns.getD k 0) with
    | false =>
      simp only [Bool.not_false, if_true]
      refine ⟨_, rfl, ⟨_, rfl, ?_⟩⟩
      have : ns.all O7 = false := by
        rw [List.all_eq_false]
        exact ⟨_, My RE, by rw [hb]; simp⟩
      rw [this] at hk
      have h0 : (k : Int) ≥ 0 := by omega
      simpa [h0] using hk
    | true =>
      simp only [Bool.not_true, Bool.false_eq_true, if_false]
      rw [bB (by omega) (by omega)]
      refine ⟨⟨trivial, k + 1, by omega, by omega, λj hj => ?_⟩, ?_⟩
      · by_cases q : j = k
        · subst q; exact hb
        · exact UX j (by omega)
      · show ns.length - Int.toNat ((k : Int) + 1) < ns.length - Int.toNat (k : Int); omega
  · have : ¬ (k : Int) < (ns.length : Int) := by omega
    simp only [this, decide_false, Bool.false_eq_true, if_false]
    refine ⟨_, rfl, ⟨_, rfl, ?_⟩⟩
    have : ns.all O7 = true := by
      rw [List.all_eq_true]
      intro n hn
      obtain ⟨j, hj⟩ := List.getElem?_of_mem hn
      have hjl := (List.getElem?_eq_some_iff.1 hj).1
      have := UX j (by omega)
      rwa [List.getD_eq_getElem?_getD, hj] at this
    rw [this] at hk
    simpa using hk
theorem fx(x:RD)(w:Row h p (bc x.b))(hk: iq h R (.bool (decide x.ma))):Cl 96 #[val x p c] h R:=by
 refine Gq.walk (av.box λb l _ f f1=>aI.of λJ m=> ?_);have j: ∀a,Fr No h a->¬x.ma->J true a:=by
  intro a f2 s;subst m;simp only[bg];have:=hk a f2;rwa[aD s]at this
 have t: ∀a,At a b x p c->Fr No h a->x.id<=1099511627776->(0<=x.err/\x.err<=99)->(0<=x.num/\x.num<=1099511627776)->(0<=x.count/\x.count<=1099511627776)->x.token<=2147483648->x.b.length<=600->J false a:=by
  intro a g f2 q1 q2 q3 q4 Q q6;subst m;simp only[au,aM];refine⟨_,aq g,?_⟩;by_cases i:x.err=0
  .rw[af (by simp[i])];have:=hk a f2;rwa[aw (show x.ma from⟨q1,q2,q3,q4,Q,q6,λh=>absurd i h⟩)]at this
  .rw[ah (cH i)];refine av.ld g ⟨_,aq g,_,aq g,mi x.id rfl x.err λy f3=>⟨_,_,_,_,_,_,_,_,rfl,(av.held (f3.get g id)),?_⟩⟩;have f23:=f2.tt f3;refine iI x (Kb x.id x.err) (w.frame f23 cb) (.inl rfl) λr f4=>⟨_,rfl,?_⟩
   have e:decide (x.same (Kb x.id x.err))=decide x.ma:=by
    unfold RD.same RD.ma Kb;simp[q1,q2,q3,q4,Q,q6,i]
   rw[e];exact hk r (f23.tt f4)
 clear m;refine⟨_,aq f,?_⟩;by_cases q1:x.id<=1099511627776
 .rw[af (by simp;omega)];refine⟨_,aq f,?_⟩;by_cases q2:0<=x.err
  .rw[af (by simp;omega)];refine⟨_,aq f,?_⟩;by_cases q3:x.err<=99
   .rw[af (by simp;omega)];refine⟨_,aq f,_,aq f,cI ?_⟩;refine xg (ns:= [x.num,x.count]) iS rfl bQ ⟨_,rfl,?_⟩;have f5:=f1.tt (Fr.push l (.cells #[.I x.num,.I x.count] 3));have o:At _ b x p c:=(Fr.push (S:=λ_=>False) l (.cells #[.I x.num,.I x.count] 3)).get f id;generalize l.push (.cells #[.I x.num,.I x.count] 3)=z at*;cases k: [x.num,x.count].all O7 with
    |false=>
     simp only[eL,bg];refine j _ f5 λH=> ?_
     obtain⟨_,_,u,v,_⟩:=H;simp[O7,u,v]at k
    |true=>
     simp only[dh,au,aM];simp[O7]at k;refine⟨_,aq o,?_⟩;by_cases Q:x.token<=2147483648
     .rw[af (by simp;omega)];refine⟨_,_,_,aq o,?_⟩;by_cases q6:x.b.length<=600
      .have:decide ((x.b.length:Int)>600)=false:=by simp;omega
       rw[this];exact t _ o f5 q1 ⟨q2,q3⟩ k.1 k.2 Q q6
      .have:decide ((x.b.length:Int)>600)=true:=by simp;omega
       rw[this];exact j _ f5 λH=>q6 H.2.2.2.2.2.1
     .rw[ah (by simp;omega)];exact j _ f5 λH=>Q H.2.2.2.2.1
   .rw[ah (by simp;omega)];exact j _ f1 λH=>q3 H.2.1.2
  .rw[ah (by simp;omega)];exact j _ f1 λH=>q2 H.2.1.1
 .rw[ah (by simp;omega)];exact j _ f1 λH=>q1 H.1
theorem OM(x:RD)(r:Row h p (bc x.b))(k1:x.ma->∀h' q d,fi h' q x.enc.length d 1 (bc x.enc)->Fr No h h'->(∀y,aL q y->h.size<=y)->R (.tuple #[.slice q x.enc.length d,.I 0]) h')(k2: ¬x.ma->iq h R (.tuple #[.Z,.I 3])):Cl 45 #[val x p c] h R:=by
 refine Gr.walk (av.box λb h1 eb o f1=>av.ld o ?_);refine fx x (r.frame f1 cb) λk f2=>⟨_,rfl,?_⟩
 by_cases g:x.ma
 .rw[aw g];simp only[dh,au,aM];obtain⟨q1,⟨q2,c'⟩,⟨q3,d'⟩,⟨q4,e'⟩,q5,q6,_⟩:=id g;have H:=f2.get o id;have F:=f1.tt f2;refine⟨_,aq H,_,aq H,_,aq H,_,aq H,_,aq H,_,_,_,aq H,?_⟩;refine gu λY f' P I f3 W=>⟨_,rfl,?_⟩
  have B:=f3.get H id;have U:Up k P Y:=⟨f3,W⟩;have N: ∀{S:Nat->Prop}{h':ak},Up k S h'->¬S b:=λu hx=>by have:=u.ge b hx;have:=aE H;omega
  refine⟨aq B,aq B,aq B,aq B,aq B,aq B,?_⟩;refine fz x.id I bQ rfl ae λh4 S4 J s=>⟨_,rfl,?_⟩
  have a:=s.fr.get B (N U);have A:=U.step s;have l1:=(bO x.id).2;refine⟨aq a,aq a,aq a,aq a,aq a,?_⟩;refine gR J (by simp only[cy];omega) ae λh5 S5 K t=>⟨_,rfl,?_⟩
  have f:=t.fr.get a (N A);have C:=A.step t;have l2:=(bO (fJ x.err)).2;refine⟨aq f,aq f,aq f,aq f,?_⟩;refine gR K (by simp only[cy,ar];omega) ae λh6 S6 L v=>⟨_,rfl,?_⟩
  have i:=v.fr.get f (N C);have D:=C.step v;have l3:=(bO (fJ x.num)).2;refine⟨aq i,aq i,aq i,?_⟩;refine gR L (by simp only[cy,ar];omega) ae λh7 S7 M w=>⟨_,rfl,?_⟩
  have j:=w.fr.get i (N D);have E:=D.step w;have l4:=(bO (fJ x.count)).2;refine⟨aq j,aq j,?_⟩;refine fz x.token M (by simp only[cy,ar];omega) rfl ae λh8 S8 O z=>⟨_,rfl,?_⟩
  have Q:=z.fr.get j (N E);have u8:=E.step z;have l5:=(bO x.token).2;have T:=F.tt u8.fr;refine⟨aq Q,?_⟩;refine mP O (by simp only[cy,ar];omega) (r.frame T cb) rfl ae (λy l a' Z=> ?_) λh9 S9 m s9=>⟨_,rfl,?_⟩
  .have:=iK r (λe=>a' (List.map_eq_nil_iff.1 e)) l;have:=u8.ge y Z;have:=F.1;omega
  have G:=u8.step s9;have he: []++cd x.id++cd (fJ x.err)++cd (fJ x.num)++cd (fJ x.count)++cd x.token++dJ x.b=x.enc:=rfl;rw[he]at m;refine ir m (bR (jI q6)) λq d X b' f10 V=>⟨_,_,_,rfl,?_⟩
  exact k1 g X q d b' (F.tt (G.fr.tt f10)) (λy l=>gv (V y l) ((F.tt G.fr).1))
 .rw[aD g];simp only[eL,bg];exact k2 g k (f1.tt f2)
theorem vj{bs:cM}(rb:Row h p (bc bs))(hn:n=bs.length)(hl:bs.length<=70368744177664)(k1: ∀x,tW bs=some x->∀h' q d,fi h' q x.b.length d 1 (bc x.b)->Fr No h h'->(∀y,aL q y->h.size<=y)->R (.tuple #[val x q d,.I 0]) h')(k2:tW bs=none->iq h R (.tuple #[val RD.zero none 0,.I 3])):Cl 43 #[.slice p n c] h R:=by
 refine IM.walk (av.box (f5l:=0) λb W eb hb f1=> ?_);refine hM.vj (rb.frame f1 cb) hn hl λh2 r T f f2 g2=>⟨_,rfl,?_⟩
 have u2:Up W T h2:=⟨f2,g2⟩;refine yJ f λh3 k f3=>⟨_,rfl,?_⟩
 have u3:=u2.B1 f3 (λy e=>e▸f.self);have la:=qM 0 bs;generalize hA:fc 0 bs=A at k la⊢;obtain⟨a,P,t⟩:=A;dsimp only at k la⊢;refine Dn k λh4 l f4=>⟨_,rfl,?_⟩
 have u4:=u3.B1 f4 (λy e=>e▸f.self);have lb:(lB P t).2.2.length<=t.length:=pE _ P t;generalize Y:lB P t=B at l lb⊢;obtain⟨u,Q,v⟩:=B;dsimp only at l lb⊢;refine Dn l λh5 m f5=>⟨_,rfl,?_⟩
 have u5:=u4.B1 f5 (λy e=>e▸f.self);have lc:(lB Q v).2.2.length<=v.length:=pE _ Q v;generalize Z:lB Q v=C at m lc⊢;obtain⟨w,U,z⟩:=C;dsimp only at m lc⊢;refine Dn m λh6 o f6=>⟨_,rfl,?_⟩
 have u6:=u5.B1 f6 (λy e=>e▸f.self);have ld:(lB U z).2.2.length<=z.length:=pE _ U z;generalize hD:lB U z=D at o ld⊢;obtain⟨E,de,dr⟩:=D;dsimp only at o ld⊢;refine yJ o λh7 s f7=>⟨_,rfl,?_⟩
 have u7:=u6.B1 f7 (λy e=>e▸f.self);have lf:=qM de dr;generalize hF:fc de dr=F at s lf⊢;obtain⟨I,fe,fr⟩:=F;dsimp only at s lf⊢;refine M1 s ae λh8 q d M O g8 f8=>⟨_,_,_,rfl,?_⟩
 have u8:=u7.B1 f8 (λy e=>e▸f.self);generalize hG:jV fe fr=G at M O⊢;obtain⟨J,ge,j⟩:=G;dsimp only at M O⊢;have hX:Tq 1099511627776 iF bs=⟨⟨a,u,w,E,I,J⟩,ge,j⟩:=by
  unfold lB at Y Z hD;unfold Tq;simp only[hA,Y,Z,hD,hF,hG]
 have g':tW bs=xI ⟨⟨a,u,w,E,I,J⟩,ge,j⟩:=by unfold tW;rw[hX]
 clear hX hA Y Z hD hF hG la lb lc ld lf k l m o s f3 f4 f5 f6 f7 f8;generalize g:(⟨a,u,w,E,I,J⟩:RD)=x at*;have e0:a=x.id:=by rw[<-g]
 have e1:(u:Int)=x.err:=by rw[<-g]
 have e2:(w:Int)=x.num:=by rw[<-g]
 have e3:(E:Int)=x.count:=by rw[<-g]
 have e4:I=x.token:=by rw[<-g]
 have V:J=x.b:=by rw[<-g]
 rw[e0,e1,e2,e3,e4,V];rw[V]at O;clear g e0 e1 e2 e3 e4 V;refine av.new λb1 X s' f' f15=> ?_
 have a':At X b RD.zero none 0:=f15.get (u8.fr.get hb id) id;have N:Fr No h X:=f1.tt (u8.fr.tt f15);have i':=O.frame f15 cb;have gq: ∀y,aL q y->W.size<=y:=λy i=>by have:=g8 y i;have:=u7.fr.1;omega
 have bne:b≠b1:=λe=>by have:=aE (u8.fr.get hb id);omega
 have t':b<W.size:=aE hb;refine aI.of λc' hJ=> ?_
 have jt:xI ⟨x,ge,j⟩=none->∀H,At H b RD.zero none 0->Fr No h H->c' true H:=by
  intro hn H b' f16;subst hJ;simp only[bg];refine av.set b' λj' l' q' o'=>av.ld l' ?_
  exact k2 (g'.trans hn) j' (f16.step (Fr.of_eq (S:=λy=>y=b) q' o') (λy i e=>ae))
 have jf:xI ⟨x,ge,j⟩=some x->∀H,At H b RD.zero none 0->At H b1 x q d->fi H q x.b.length d 1 (bc x.b)->Fr No h H->c' false H:=by
  intro hs H b' k' n' f16;subst hJ;simp only[au,aM];refine av.ld k' (av.set b' λd' m' r' p'=>av.ld m' ?_);have f28:Fr (λy=>y=b) H d':=Fr.of_eq r' p';refine k1 x (g'.trans hs) d' q d (n'.frame f28 (λy i e=> ?_)) (f16.step f28 (λy i e=>ae)) (λy i=> ?_)
  .have:=gq y i;omega
  .have:=gq y i;have:=f1.1;omega
 clear hJ;refine Ps (M.frame f15 cb) ⟨_,rfl,?_⟩;by_cases K:uV ge j=0
 .rw[af (cH K)];refine av.ld f' (fx x i'.iJ λe' f30=>⟨_,rfl,?_⟩);by_cases L:x.ma
  .rw[aw L];exact jf (by unfold xI;rw[ah ⟨K,L⟩]) e' (f30.get a' id) (f30.get f' id) (i'.frame f30 cb) (N.tt f30)
  .rw[aD L];exact jt (by unfold xI;rw[af (λhh=>L hh.2)]) e' (f30.get a' id) (N.tt f30)
 .rw[ah (cH K)];exact jt (by unfold xI;rw[af (λhh=>K hh.1)]) X a' N

end yI
end
section
namespace Ask
open iY (Ev cV)
open eN (SS Good Pt sK Mk)
open Bn (iX)
variable {V:cM→Bool} {h h' u H g:ak} {R:fG} {s k bo t c:Nat} {X l:Ft} {I:sK} {σ:SS} {p:bZ} {ses:Int} {x:Rq} {D:Nat→Prop} {o:Ot}
theorem jg.no(f:Fr No h H)(O:jg X H bo t o l h'):jg X h bo t o l h':=by
 have z:=f.1;refine⟨Fr.no f O.fr,λc b=>(O.jD c b).imp _root_.id (λa=>ae),λc b=>(O.lW c b).imp _root_.id (λa=>ae),O.wc,?_⟩;obtain⟨y,m,j⟩:=O.at';refine⟨y,m,λi=> ?_⟩;obtain⟨p,c,e,r,n⟩:=j i;exact⟨p,c,e,r,λhd z d=>⟨(n hd z d).1.imp (λa=>ae) _root_.id,(n hd z d).2⟩⟩
theorem jg.num{st1:bN X h l H}(n c:Int)(f:Fr (λy=>y=bo) H h')(a:av.gn h' bo ⟨t,0,n,c,0,none,0,0⟩){σ:SS}{e:Int}:jg X h bo t ⟨σ,e,n,c, []⟩ l h':=
 jg.of st1 f ⟨_,a,λ_=>⟨none,0,rfl,Row.nil,λe=>absurd rfl e⟩⟩
theorem SH(st:bN X h l H)(n: ¬(X.M bo\/X.D bo))(z:bo<h.size): ∀y,l.M y\/l.D y->y≠bo:=λy b e=>by
 subst e;rcases b with a|a
 .rcases st.jD _ a with a|a
  .exact n (.inl a)
  .omega
 .rcases st.lW _ a with a|a
  .exact n (.inr a)
  .omega
theorem Gs(a:iW x=true):lX x=true:=by unfold iW at a;simp only[aS]at a;exact a.1.2
theorem UY(E:En V u h s X I σ k)(c':k+1<=30000)(hr:iW x=true)(w1:0<=x.ep.gr)(w2:0<=x.dest.gr)(rx:Row h p (bc x.oa))(cap:x.oa.length<=c)(n:av.gn h bo (y0 t))(N: ¬(X.M bo\/X.D bo))(hk: ∀h' l,Pt h' s l I (nT V σ ses x).σ->jg X h bo t (nT V σ ses x) l h'->R (.I (nT V σ ses x).e) h'):
  Cl 44 #[(x.as p c s ses).agg,.P bo 0] h R:=by
 refine DQ.walk (cv.dv (x:=x.as p c s ses) λb H eb d f1=>⟨_,aq d,?_⟩);have E1:=E.on f1;have nM: ¬X.M bo:=λe=>N (.inl e)
 have zo:=aE n;have z1:=f1.1;have A: ¬X.M b:=E.nM ae;have M:=f1.get n id;have sm:=E.G.small E.H.ord (bR E.hk);have cL:=E.G.c.L;have ek:=E.hk;have pr:=Gs hr;unfold nT at hk;unfold lX at pr;by_cases Q:x.kind=1
 .rw[ah Q]at hk;rw[ah (bq.2 Q)];obtain⟨Z,q,L,J,go⟩:=E1.H.use 1;refine⟨_,aq d,az.2 ⟨_,aq E1.H.cX,iX x.ep d rfl rfl rfl rfl rfl ⟨_,aq d,_,aq d,gj.Aj q ⟨x.ep,x.jS,ses⟩ E.G.g.len λf T F=> ?_⟩⟩⟩;obtain⟨m,j,S,_,_⟩:=go f Z { σ with G:=gj.yo σ.G ⟨x.ep,x.jS,ses⟩ } T F (λi r=>eN.HL _ r);exact⟨_,rfl,LL S.fr A bQ,hk f m j (jg.bad n nM (bN.no f1 S))⟩
 rw[af Q]at hk;rw[af (λe=>Q (bq.1 e))];by_cases W:x.kind=2
 .rw[ah W]at hk;rw[ah (bq.2 W)];obtain⟨Z,q,L,J,go⟩:=E1.H.use 1;refine⟨_,aq d,az.2 ⟨_,aq E1.H.cX,iX x.ep d rfl rfl rfl rfl rfl ⟨_,aq d,gj.oL q x.ep ses λh3 T3 s3=> ?_⟩⟩⟩;obtain⟨X3,v,a',_,_⟩:=go h3 Z { σ with G:=gj.Ap σ.G x.ep ses } T3 s3 (λi r=>eN.HL _ r);have qQ:=bN.no f1 a';refine⟨_,rfl,LL a'.fr A bQ,aI.of λe' hJ=> ?_⟩;by_cases w:gj.jj σ.G x.ep ses=0
  case neg=>
   rw[af w]at hk;rw[af (cH w)];subst hJ;have eG:gj.Ap σ.G x.ep ses=σ.G:=by unfold gj.Ap;rw[af w]
   rw[eG]at v;exact hk h3 X3 v (jg.bad n nM qQ)
  rw[ah w]at hk;rw[ah (by rw[w];rfl)];have P:=a'.fr.get d A;obtain⟨Z,q,L,J,go⟩:=v.use 2;have d': ¬X3.M b:=λhm=>by
   rcases a'.jD b hm with a|a
   .exact A a
   .have:=aE d;omega
  refine⟨_,aq P,az.2 ⟨_,aq v.cX,iX x.ep P rfl rfl rfl rfl rfl (gx.pI q sm (by show σ.C.gone<=_;omega) x.ep λh5 Z5 p5 c5 C5 s5 N5 n5=> ?_)⟩⟩;obtain⟨X5,H5,b',_,_⟩:=go h5 Z5 { σ with G:=gj.Ap σ.G x.ep ses,C:=gx.xR σ.C x.ep } C5 s5 (λi r=>eN.wQ (σ:= { σ with G:=gj.Ap σ.G x.ep ses }) _ r);have st:=qQ.trans b';refine⟨_,_,_,rfl,LL b'.fr d' bQ,om (z:=⟨t,0,0,((gx.lC σ.C.L x.ep).length:Int),0,none,0,0⟩) (st.fr.get n nM) dt rfl λh6 d6 f6=> ?_⟩;subst hJ;rw[w];exact hk h6 X5 (H5.frame f6 (λy hy e=>SH st N zo y hy e)) (jg.num (st1:=st) 0 _ f6 d6)
 rw[af W]at hk;rw[af (λe=>W (bq.1 e))];by_cases Y:x.kind=3
 .rw[ah Y]at hk;rw[ah (bq.2 Y)];obtain⟨Z,q,L,J,go⟩:=E1.H.use 1;refine⟨_,aq d,az.2 ⟨_,aq E1.H.cX,iX x.ep d rfl rfl rfl rfl rfl ⟨_,aq d,_,aq d,gj.KV q x.ep ses x.jS λf T F=> ?_⟩⟩⟩;obtain⟨m,j,S,_,_⟩:=go f Z { σ with G:=gj.Fu σ.G x.ep ses x.jS } T F (λi r=>eN.HL _ r);exact⟨_,rfl,LL S.fr A bQ,hk f m j (jg.bad n nM (bN.no f1 S))⟩
 rw[af Y]at hk;rw[af (λe=>Y (bq.1 e))];by_cases K:x.kind=4
 .rw[ah K]at hk;rw[ah (bq.2 K)];rw[dz,dz,ah K]at pr;simp only[aS,aZ]at pr;exact cv.fY (x:=x.as p c s ses) d (QZ E1 (rx.frame f1 cb) cap ae w1 w2 M N λf m j O=>⟨_,rfl,hk f m j (jg.no f1 O)⟩)
 rw[af K]at hk;rw[af (λe=>K (bq.1 e))];by_cases k5:x.kind=5
 .rw[ah k5]at hk;rw[ah (bq.2 k5)];exact⟨_,aq d,_,aq d,_,aq d,eN.wI E1.H E.G E.hk λf m j S=>⟨_,rfl,hk f m j (jg.bad n nM (bN.no f1 S))⟩⟩
 rw[af k5]at hk;rw[af (λe=>k5 (bq.1 e))];by_cases k6:x.kind=6
 .rw[ah k6]at hk;rw[ah (bq.2 k6)];obtain⟨Z,q,L,J,go⟩:=E1.H.use 2;refine⟨_,aq d,az.2 ⟨_,aq E1.H.cX,iX x.ep d rfl rfl rfl rfl rfl (gx.NH q sm x.ep λf f2=>⟨_,rfl,f2.kp,?_⟩)⟩⟩;have F2:=f1.tt f2;refine om (z:=⟨t,0,(gx.Dz σ.C.L x.ep:Int),0,0,none,0,0⟩) (F2.get n id) dt rfl λh3 d3 f3=> ?_
  have P:=f3.get (f2.get d id) (λe=>bR (aE n));have v:=(E.H.on F2).frame f3 (λy hy e=>N (e▸hy));refine cv.fY (x:=x.as p c s ses) P (D0 v λh4 f4=>⟨_,rfl,?_⟩);exact hk h4 X (v.on f4) (jg.num (st1:=bN.iP F2) _ 0 (f3.on f4) (f4.get d3 id))
 rw[af k6]at hk;rw[af (λe=>k6 (bq.1 e))];by_cases B:x.kind=7
 .rw[ah B]at hk;rw[ah (bq.2 B)];rw[dz,dz,af K,dz,ah B]at pr;simp only[aS,aZ]at pr;exact cv.fY (x:=x.as p c s ses) d (Q0 E1 ae M N λf m j O=>⟨_,rfl,hk f m j (jg.no f1 O)⟩)
 rw[af B]at hk;rw[af (λe=>B (bq.1 e))];by_cases k8:x.kind=8
 .rw[ah k8]at hk;rw[ah (bq.2 k8)];exact cv.fY (x:=x.as p c s ses) d (HJ E1 c' M N λf m j O=>⟨_,rfl,hk f m j (jg.no f1 O)⟩)
 rw[af k8]at hk;rw[af (λe=>k8 (bq.1 e))];by_cases k9:x.kind=9
 .rw[ah k9]at hk;rw[ah (bq.2 k9)];obtain⟨Z,q,L,J,go⟩:=E1.H.use 2;refine⟨_,aq d,az.2 ⟨_,aq E1.H.cX,_,aq d,_,aq d,gx.HK q sm x.num ses λf Z2 T F=> ?_⟩⟩;obtain⟨m,j,S,_,_⟩:=go f Z2 { σ with C:=gx.Dv σ.C x.num ses } T F (λi r=>eN.wQ _ r);exact⟨_,rfl,LL S.fr A bQ,hk f m j (jg.bad n nM (bN.no f1 S))⟩
 rw[af k9]at hk;rw[af (λe=>k9 (bq.1 e))];by_cases U:x.kind=10
 .rw[ah U]at hk;rw[ah (bq.2 U)];exact cv.fY (x:=x.as p c s ses) d (Ah E1 M N λf m j O=>⟨_,rfl,hk f m j (jg.no f1 O)⟩)
 rw[af U]at hk;rw[af (λe=>U (bq.1 e))];exact hk H X E1.H (jg.bad n nM (bN.iP f1))
theorem Q3{A:List eE.eE}(ok:eE.ox A){m:Int}{j:Nat}{b:cM}(h:eE.lL A m j=some b):b.length<=1000:=by
 unfold eE.lL at h;split at h
 .cases h
 .rename_i z f;obtain⟨i,_,e⟩:=eE.kZ f;unfold eE.pU at h;obtain⟨a,d,rfl⟩:=Option.map_eq_some_iff.1 h;exact((ok.at_ i z e).kd a (eX d)).2
abbrev rS(y:Go.fk.RD)(p:bZ)(c:Nat):av.S:=⟨(y.id:Int),y.err,y.num,y.count,(y.token:Int),p,y.b.length,c⟩
theorem Gt{b:Nat}{y z:av.S}{K:av.S->ak->Prop}(a:av.gn h b y)(hk: ∀h',Fr (λy=>y=b) h h'->K z h'):
  av.dE h (AA b 0) z λg=>av.cW g (AA b 0) λr=>K r g:=
 av.iz (x:=z) a λg d1 f _=>av.fY d1 (hk g f)
theorem RO(E:En V u h s X I σ k)(B':k+1<=30000)(w1:0<=x.ep.gr)(w2:0<=x.dest.gr)(rx:Row h p (bc x.oa))(cap:x.oa.length<=c)(hk: ∀h' l q d,Pt h' s l I (nj V σ ses x).1->bN X h l h'->Row h' q (bc (nj V σ ses x).2.b)->((nj V σ ses x).2.b≠ []->∀y,aL q y->¬l.M y)->R (yI.val (nj V σ ses x).2 q d) h'):
  Cl 13 #[pt s,.I ses,(x.s p c).agg] h R:=by
 refine Iu.walk (aH.dv (x:=x.s p c) λb H eb hb f1=>av.dv (x:=.z) λb1 h2 M' L f2=>aI.of λq' hJ=> ?_);have Q:=f1.tt f2;have E2:=E.on Q;have b':=f2.get hb _root_.id;have z1:=f1.1;have z2:=f2.1;have B:=E2.H.cX;have fl: ∀(g:ak)(e:Int),Fr No h2 g->nj V σ ses x=(σ,oR x.id e)->Cl 41 #[.U (x.id:Int),.I e] g λv w'=>av.EX λt62=>v=t62.agg/\av.dE w' (AA b1 0) t62 λn'=>av.cW n' (AA b1 0) λr0=>R (r0.agg) n':=by
  intro g e r hq;rw[hq]at hk;refine yI.mi x.id rfl e λh' F=>av.ex (rS (oR x.id e) none 0) ⟨rfl,Gt ((r.tt F).get L _root_.id) λt' s'=> ?_⟩
  have S:=(Q.tt (r.tt F)).fresh s' (λy e=>ae);exact hk t' X none 0 (E.H.on S) (bN.iP S) Row.nil (λe=>absurd rfl e)
 have r': ∀(e:Int),¬(iW x=true/\x.kind<11)->nj V σ ses x=(σ,oR x.id 3):=λe hn=>by unfold nj;rw[af hn]
 have key:q' false h2:=by
  subst hJ;dsimp only;rw[dz];refine aI.of λJ1 i'=>aH.fY (x:=x.s p c) b' (fx x (rx.frame Q (λ_ _=>_root_.id)) λh3 f3=>⟨_,rfl,?_⟩)
  have Y:=f3.get b' _root_.id;have P':J1 true h3->True:=λ_=>trivial
  have bad: ¬(iW x=true/\x.kind<11)->J1 true h3:=by
   intro hn;subst i';try dsimp only
   rw[ah rfl];exact⟨_,aq Y,fl h3 3 f3 (r' 0 hn)⟩
  cases hr:iW x with
  |false=>rw[gh];exact bad (λe=>by rw[hr]at e;cases e.1)
  |true=>
  rw[dz];refine⟨_,aq Y,?_⟩;by_cases e':x.kind<11
  case neg=>
   have:decide ((x.s p c).f1≥11)=true:=aw (by show x.kind≥11;omega);rw[this];exact bad (λe=>e' e.2)
  have:decide ((x.s p c).f1≥11)=false:=aD (by show¬x.kind≥11;omega);rw[this];subst i';dsimp only;rw[dz];have E3:=E2.on f3;obtain⟨Z,n,_⟩:=E3.H.use 0;unfold nj at hk fl;rw[ah ⟨hr,e'⟩]at hk;simp only[ah (show iW x=true/\x.kind<11 from⟨hr,e'⟩)]at fl;refine⟨_,aq E3.H.cX,eE.Fe n E.G.a ⟨_,rfl,?_⟩⟩;cases hu:eE.yi σ.A ses with
  |false=>
   rw[gh];exact⟨_,aq Y,fl h3 16 f3 (by rw[hu];rfl)⟩
  |true=>
  rw[hu,ah rfl]at hk;rw[dz];refine⟨_,aq E3.H.cX,_,aq Y,eE.QJ x.id rfl n E.G.a (λkb c' h4 p4 c4 o4 f4 n4=>⟨_,_,_,_,rfl,?_⟩) (λc' h4 f4=>⟨_,_,_,_,rfl,?_⟩)⟩
  .rw[c']at hk;rw[ah rfl];dsimp only at hk;have F4:=Q.tt (f3.tt f4);have z3:=f3.1;have z4:=f4.1;have fin: ∀(g:ak)(y:Go.fk.RD)(q:bZ)(d:Nat),(Go.fk.tW kb).getD Go.fk.RD.zero=y->Row g q (bc y.b)->(∀z,aL q z->h4.size<=z)->Fr No h4 g->
     aT g (.cells av.S.z.arr 44) λg' v'=>
     av.dE v' (AA g' 0) (rS y q d) λj'=>
     av.cW j' (AA g' 0) λt103=>
     av.dE j' (AA b1 0) t103 λk'=>
     av.cW k' (AA b1 0) λG'=>
     R (G'.agg) k':=by
    intro g y q d j row N r;refine av.gB (x:=rS y q d) λb2 g2 N' b' f5=>av.fY (x:=rS y q d) b' (Gt ((f3.tt (f4.tt (r.tt f5))).get L _root_.id) λg3 f6=> ?_)
    have S:=(F4.tt (r.tt f5)).fresh f6 (λy e=>ae);have rr:=((row.frame f5 (λ_ _=>_root_.id)).frame f6 (λa T C=>by have:=N a.block ⟨a,T,rfl⟩;have C:a.block=b1:=C;have:=aE L;omega));rw[j]at hk;exact hk g3 X q d (E.H.on S) (bN.iP S) rr (λ_ z n m=>gv (N z n) (E.H.lt z (.inl m)))
   refine yI.vj o4.iJ rfl (bR (Q3 E.G.a c')) (λy j K q d o5 f5 n5=>av.ex (rS y q d) ⟨_,rfl,?_⟩) (λj K f5=>av.ex (rS .zero none 0) ⟨_,rfl,?_⟩)
   .exact fin K y q d (by rw[j];rfl) o5.iJ n5 f5
   .exact fin K .zero none 0 (by rw[j];rfl) Row.nil (λz n=>by obtain⟨a,e,_⟩:=n;cases e) f5
  .rw[c']at hk;rw[dz];dsimp only at hk;have F4:=Q.tt (f3.tt f4);have z3:=f3.1;have z4:=f4.1;have a':=f4.get Y _root_.id;refine⟨_,aq a',av.gB (x:=y0 x.id) λw K O' o' f5=>aH.fY (x:=x.s p c) (f5.get a' _root_.id) ?_⟩;have F5:=F4.tt f5;have E5:=E.on F5;have z5:=f5.1;have M: ∀y,h.size<=y->¬(X.M y\/X.D y):=λy j m=>by have:=E.H.lt y m;omega
   refine UY (p:=p) (c:=c) (ses:=ses) E5 B' hr w1 w2 (rx.frame F5 (λ_ _=>_root_.id)) cap o' (M w ae) λU J H6 O=>⟨_,rfl,aI.of λJ2 u'=> ?_⟩
   have sG:=Good.nT (V:=V) (ses:=ses) (q:=x) E.G E.H.ord E.hk w1;generalize nT V σ ses x=o at hk H6 O sG;have p':aH.gn U b (x.s p c):=O.fr.get (f5.get a' _root_.id) (λm=>by
    rcases m with a|a
    .exact M b ae (.inl a)
    .have:=aE a';omega)
   have y':av.gn U b1 .z:=O.fr.get ((f3.tt (f4.tt f5)).get L _root_.id) (λm=>by
    rcases m with a|a
    .exact M b1 ae (.inl a)
    .have:=aE L;omega)
   have zo:=aE o';have st:bN X h J U:=⟨(Fr.no F5 O.fr).trans (Fr.refl (λ_=>False) _) (λc hc m=>by
    rcases m with a|a
    .exact a
    .omega) (λ_ _=>False.elim),λc hc=>(O.jD c hc).imp _root_.id (λa=>ae),λc hc=>(O.lW c hc).imp _root_.id (λa=>ae),O.wc⟩
   have R':=aE a';have Q':=aE L;have d': ∀y,h.size<=y->y<K.size->¬(J.M y\/J.D y):=λy j hl m=>by
    rcases m with a|a
    .rcases O.jD y a with a|a
     .exact M y j (.inl a)
     .omega
    .rcases O.lW y a with a|a
     .exact M y j (.inr a)
     .omega
   have fin: ∀(g:ak)(q:bZ)(d:Nat),av.gn g w (rS (jQ x.id o) q d)->Fr (λy=>y=w) U g->Row g q (bc (jQ x.id o).b)->((jQ x.id o).b≠ []->∀z,aL q z->(K.size<=z\/X.D z)/\¬J.M z)->J2 g:=by
    intro g q d hg r row N;subst u';have Hg:=H6.frame r (λy j e=>d' w ae zo (e▸j));have zg:=r.1;have z6:=O.fr.1;have E':b≠w:=ae
    have F':b1≠w:=ae
    obtain⟨Z,n,zm,zd,go⟩:=Hg.use 0;have wr: ∀(G:ak)(P:bZ)(cw:Nat),Row G P (bc (L8 (jQ x.id o)))->(∀y,aL P y->g.size<=y)->Fr No g G->∀(e:Int),
      ∃t126,aX G (AA s 0)=some (.pointer t126)/\
      ∃t129,aX G (AA b 0)=some (.U t129)/\
      Cl 46 #[.pointer t126,.I ses,.U t129,.slice P (L8 (jQ x.id o)).length cw] G λL' l'=>
      ∃t131,L'=.I t131/\
      av.cW l' (AA w 0) λt132=>
      av.dE l' (AA b1 0) t132 λm'=>
      av.cW m' (AA b1 0) λH'=>
      R (H'.agg) m':=by
     intro G P cw I' nw F _;have f':=Hg.on F;obtain⟨Z,n,zm,zd,go⟩:=f'.use 0;have x':=F.get (r.get p' E') _root_.id;refine⟨_,aq f'.cX,_,aq x',eE.QI x.id rfl n sG.a I' rfl (λ_ y j m=>gv (nw y j) (Hg.lt y (.inl (zm y m)))) λh7 Z7 T7 s7=>⟨_,rfl,?_⟩⟩;obtain⟨X7,H7,Nv,_,_⟩:=go h7 Z7 { o.σ with A:=eE.jz o.σ.A ses x.id (L8 (jQ x.id o)) } T7 s7 (λi hi=>eN.Ar _ hi);have n3: ¬J.M w:=λa=>d' w ae zo (.inl a)
     have n1: ¬J.M b1:=λa=>d' b1 ae ae (.inl a)
     have A':=Nv.fr.get (F.get hg _root_.id) n3;have z':=Nv.fr.get (F.get (r.get y' F') _root_.id) n1;refine av.fY (x:=rS (jQ x.id o) q d) A' (Gt z' λh8 f8=> ?_);have z7:=Nv.fr.1;have zf:=F.1;have qQ:bN X h J G:=(bN.box st r ae).on F;have J':=qQ.trans Nv;have K':=bN.box J' f8 ae;have D': ∀y,X7.M y\/X7.D y->y≠b1:=λy j e=>by
      rcases j with a|a
      .rcases Nv.jD y a with a|a
       .exact n1 (e▸a)
       .omega
      .rcases Nv.lW y a with a|a
       .exact d' b1 ae ae (.inr (e▸a))
       .omega
     refine hk h8 X7 q d (H7.frame f8 (λy j e=>D' y j e)) K' ?_ (λhd z n m=> ?_)
     .by_cases hd:(jQ x.id o).b= []
      .rw[hd];exact Row.nil
      .refine(((row.frame F (λ_ _=>_root_.id)).frame Nv.fr (λa T C=>(N hd a.block ⟨a,T,rfl⟩).2 C)).frame f8 (λa T C=> ?_));have C:a.block=b1:=C;rcases(N hd a.block ⟨a,T,rfl⟩).1 with a1|a1
       .omega
       .exact M b1 ae (.inr (C▸a1))
     .rcases Nv.jD z m with a|a
      .exact(N hd z n).2 a
      .have:=iK row (by simpa[bc]using hd) n;omega
    refine av.fY (x:=rS (jQ x.id o) q d) hg (yI.OM (jQ x.id o) row (λW G P cw ow F nw=>⟨_,_,_,_,rfl,?_⟩) (λW G F=>⟨_,_,_,_,rfl,?_⟩))
    .have:=wr G P cw (by rw[show L8 (jQ x.id o)=(jQ x.id o).enc from ah W];exact ow.iJ) nw F 0;rw[show L8 (jQ x.id o)=(jQ x.id o).enc from ah W]at this;exact this
    .have:=wr G none 0 (by rw[show L8 (jQ x.id o)= []from af W];exact Row.nil) (λy j=>by obtain⟨a,e,_⟩:=j;cases e) F 0;rw[show L8 (jQ x.id o)= []from af W]at this;exact this
   obtain⟨y,j,C'⟩:=O.at';by_cases he:o.e=0
   .rw[af (cH he)];obtain⟨q,d,rfl,row,N⟩:=C' he;have eo:jQ x.id o=⟨x.id,0,o.num,o.xO,0,o.d⟩:=ah he;rw[eo]at fin;exact fin U q d j (Fr.refl _ _) row N
   .rw[ah (cH he)];have eo:jQ x.id o=⟨x.id,o.e,0,0,0, []⟩:=af he;rw[eo]at fin;refine⟨_,aq p',yI.mi x.id rfl o.e λg f=>av.ex (rS ⟨x.id,o.e,0,0,0, []⟩ none 0) ⟨rfl,av.iz (x:=rS ⟨x.id,o.e,0,0,0, []⟩ none 0) (f.get j _root_.id) λg2 d2 f2 _=>fin g2 none 0 d2 (Fr.no f f2) Row.nil (λe=>absurd rfl e)⟩⟩
 refine⟨_,aq B,?_⟩;rw[af bQ];refine⟨_,aq B,?_⟩;rw[af bQ];refine⟨_,aq B,?_⟩;rw[af bQ];refine⟨_,aq B,?_⟩;rw[af bQ];refine⟨_,aq B,?_⟩;rw[af bQ];exact⟨_,aq B,key⟩
theorem ON(hk: iq h R (yI.val (oR x.id 6) none 0)):Cl 13 #[.pointer none,.I ses,(x.s p c).agg] h R:=by
 refine Iu.nil.walk (aH.dv (x:=x.s p c) λb H E i f1=>av.dv (x:=.z) λb1 n m j f2=>aI.of λJ d=> ?_);subst d;try dsimp only
 rw[ah rfl];have z:=f1.1;refine⟨_,aq (f2.get i _root_.id),yI.mi x.id rfl 6 λh' f=>av.ex (rS (oR x.id 6) none 0) ⟨rfl,Gt (f.get j _root_.id) λa F=> ?_⟩⟩;exact hk a ((f1.tt (f2.tt f)).fresh F (λy e=>ae))

end Ask
end
section
namespace Ask
open iY (Ev cV)
open eN (SS Good)
open Go.fk (RD)
variable {V:cM→Bool} {σ:SS} {ses:Int} {q:Rq}
abbrev IN:Ev:=⟨true,7,0,⟨#[]⟩,⟨#[]⟩⟩
abbrev Gu:Ev:=⟨true,7,1,⟨#[]⟩,⟨#[]⟩⟩
theorem D6(H:iW q=true)(hk:q.kind<11)(a:eE.yi σ.A ses=true)(h:eE.lL σ.A ses q.id=none):
  nj V σ ses q=({ (nT V σ ses q).σ with A:=eE.jz (nT V σ ses q).σ.A ses q.id (L8 (jQ q.id (nT V σ ses q))) },jQ q.id (nT V σ ses q)):=by
 unfold nj;rw[ah ⟨H,hk⟩,ah a,h]
def two:List eE.eE:= [⟨1,5,true,false, [], []⟩,⟨2,6,true,false, [], []⟩]
theorem SI:eE.kj (eE.kj [] 5) 6=two:=cZ
def s1:SS:= { eN.DC IN with A:=two }
def q1:Rq:=⟨1,1,Gu,.zero,0,0,0, [],0,0,false⟩
theorem Zo:nT V s1 1 q1=bad { s1 with G:= [⟨Gu,0,1⟩] } 0:=by
 unfold nT;rw[ah (show q1.kind=1 from rfl)];have h:gj.iN s1.G ⟨q1.ep,q1.jS,1⟩=0:=cZ
 have H:gj.yo s1.G ⟨q1.ep,q1.jS,1⟩= [⟨Gu,0,1⟩]:=by unfold gj.yo;rw[ah h];rfl
 rw[h,H]
def q2(n:Nat)(id:Nat):Rq:=⟨id,7,Gu,.zero,0,0,(n:Int), [],0,0,false⟩
def q3(id:Nat)(kind:Int):Rq:=⟨id,kind,.zero,.zero,0,1,0, [],0,0,false⟩
def q4:Rq:=⟨2,4,Gu,Gu,0,0,0, [120],9,0,false⟩
def q6:Rq:=⟨2,6,Gu,.zero,0,0,0, [],0,0,false⟩
def sA:SS:= { s1 with G:= [⟨Gu,0,1⟩],A:= [⟨1,5,true,false, [(1, [1,0,0,0,0,0])], []⟩,⟨2,6,true,false, [], []⟩] }
theorem v1:nj V s1 1 q1=(sA,⟨1,0,0,0,0, []⟩):=by
 rw[D6 cZ dt cZ cZ,Zo];kernel_rfl
def sB:SS:= { sA with A:= [⟨1,5,true,false, [(1, [1,0,0,0,0,0])], []⟩,⟨2,6,true,false, [(1, [1,11,0,0,0,0])], []⟩] }
theorem v2:nj V sA 2 q1=(sB,⟨1,11,0,0,0, []⟩):=by
 rw[D6 cZ dt cZ cZ];kernel_rfl
theorem v3: ∃d,Bn.kJ V (lO q4 (0,1))=some d/\1<=d.length/\d.length<=600:=by
 have h:(match Bn.kJ V (lO q4 (0,1))with|none=>false|some d=>decide (1<=d.length/\d.length<=600))=true:=cZ
 cases H:Bn.kJ V (lO q4 (0,1))with
 |none=>rw[H]at h;cases h
 |some d=>rw[H]at h;exact⟨d,rfl,(aP h).1,(aP h).2⟩
theorem OO{b:cM}(H:iW q=true)(hk:q.kind<11)(a:eE.yi σ.A ses=true)(h:eE.lL σ.A ses q.id=some b):nj V σ ses q=(σ,(Go.fk.tW b).getD RD.zero):=by
 unfold nj;rw[ah ⟨H,hk⟩,ah a,h]
theorem OQ(h:iW q=true)(hk:q.kind<11)(H:eE.yi σ.A ses=false):nj V σ ses q=(σ,oR q.id 16):=by
 unfold nj;rw[ah ⟨h,hk⟩,H];rfl
theorem Xb(hk:q.kind=4):nT V σ ses q=rE V σ ses q:=by
 unfold nT;rw[dz,dz,dz,ah hk]
theorem UZ{d:cM}(l1:1<=d.length)(l2:d.length<=600):eN.uv sB 1 d 9=0:=by
 have h:eN.nR sB.Q 1 d.length=true:=by
  refine me.Fh.2 ?_;have e1:eN.own sB.Q 1=0:=cZ
  have e2:eN.xj sB.Q=0:=cZ
  rw[e1,e2];omega
 have H: ¬(sB.B.items.length≥16\/eN.nR sB.Q 1 d.length=false):=by
  rw[h];rintro(a|a)
  .have:sB.B.items.length=0:=cZ
   omega
  .cases a
 unfold eN.uv;rw[af H];unfold gD.iN;rw[ah (gD.uf.2 ⟨dt,dt,l1,l2,dt⟩),af (by rw[show sB.B.items.length=0 by kernel_rfl];omega)]
theorem v4: ∃c y,nj V sB 1 q4=(c,y)/\y.err=0/\y.num=1/\nj V c 1 q6=(c,y)/\nj V c 3 q6=(c,oR 2 16)/\c.B.items.length=1:=by
 obtain⟨d,hd,l1,l2⟩:=v3 (V:=V);have E:=UZ l1 l2;have j:eN.DD sB 1 d 9=1:=by
  unfold eN.DD eN.uv at*;split at E
  .cases E
  .rename_i u;rw[af u];unfold gD.Ai;rw[ah E];kernel_rfl
 have k:(eN.oh sB 1 d 9).B= { sB.B with items:=sB.B.items++ [⟨sB.B.next,1,d,9⟩],next:=sB.B.next+1 } :=by
  have h:=(eN.CC E).2;unfold eN.oh;rw[ah E];exact ah h
 have i:(eN.oh sB 1 d 9).A=sB.A:=by unfold eN.oh;rw[ah E]
 have n:nT V sB 1 q4=⟨{ eN.oh sB 1 d 9 with tm:=0,sq:=1 },0,1,d.length, []⟩:=by
  have p:nT V sB 1 q4=rE V sB 1 q4:=Xb rfl;have r:gj.jj sB.G q4.ep 1=0:=cZ
  have s:oQ sB=some (0,1):=cZ
  have t:lu sB.now (lO q4 (0,1)).p.fj=9:=cZ
  rw[p];unfold rE;rw[ah r,s];dsimp only;unfold kP;rw[hd];dsimp only;rw[t];unfold Ay;rw[ah E,j]
 have b:=D6 (V:=V) (σ:=sB) (ses:=1) (q:=q4) cZ dt cZ cZ;rw[n]at b;have e1:jQ q4.id ⟨{ eN.oh sB 1 d 9 with tm:=0,sq:=1 },0,1,d.length, []⟩=⟨2,0,1,d.length,0, []⟩:=rfl;rw[e1]at b;dsimp only at b;rw[i]at b;have H:(⟨2,0,1,(d.length:Int),0, []⟩:RD).ma:=⟨by show 2<=1099511627776;omega,⟨by show(0:Int)<=0;omega,by show(0:Int)<=99;omega⟩,⟨by show(0:Int)<=1;omega,by show(1:Int)<=1099511627776;omega⟩,⟨by show(0:Int)<=(d.length:Int);omega,by show(d.length:Int)<=_;omega⟩,by show 0<=2147483648;omega,br _,λe=>absurd rfl e⟩;have o:L8 ⟨2,0,1,(d.length:Int),0, []⟩=(⟨2,0,1,(d.length:Int),0, []⟩:RD).enc:=ah H;rw[o]at b;have v:(⟨2,0,1,(d.length:Int),0, []⟩:RD).enc.length<=1000:=cD (Go.fk.jI (br _)) dt;have l:eE.lL (eE.jz sB.A 1 q4.id (⟨2,0,1,(d.length:Int),0, []⟩:RD).enc) 1 2=some (⟨2,0,1,(d.length:Int),0, []⟩:RD).enc:=by
  generalize (⟨2,0,1,(d.length:Int),0, []⟩:RD).enc=w at v;have g:eE.jd sB.A 1=some ⟨1,5,true,false, [(1, [1,0,0,0,0,0])], []⟩:=cZ
  have e2:eE.jz sB.A 1 q4.id w=eE.ku sB.A 1 ⟨1,5,true,false,eE.gV [(1, [1,0,0,0,0,0])] 2 w, []⟩:=by
   unfold eE.jz;rw[g];dsimp only;rw[af (λh=>h.elim (λa=>absurd a dt) (λa=>ae))];rfl
  rw[e2];unfold eE.lL;rw[FG g,ah rfl];show eE.pU (eE.gV [(1, [1,0,0,0,0,0])] 2 w) 2=some w;kernel_rfl
 have f: ∀m,eE.yi (eE.jz sB.A 1 q4.id (⟨2,0,1,(d.length:Int),0, []⟩:RD).enc) m=eE.yi sB.A m:=λm=>PX
 refine⟨_,_,b,rfl,rfl,?_,?_,?_⟩
 .rw[OO cZ dt ((f 1).trans cZ) l,Go.fk.qO H];rfl
 .exact OQ cZ dt ((f 3).trans cZ)
 .show(eN.oh sB 1 d 9).B.items.length=1;rw[k];kernel_rfl

end Ask
end
section
namespace Ask
open iY (Ev cV)
open eN (SS Good)
open Bn (jh oH Prim qj yI kJ oI tY kY)
open Go.fk (RD)
variable {V:cM→Bool}
theorem IP{b:qj}(h:Bn.jE V b=true):b.data.length<=200:=by
 unfold Bn.jE Bn.xN at h;simp only[aS,aZ]at h;exact h.2.2
theorem Gv: ∀(l pre:List qj),Bn.Dj V pre l=true->∀b∈l,b.data.length<=200
 | [],_,_,b,hb=>by cases hb
 |x::l,pre,h,b,hb=>by
  unfold Bn.Dj at h;simp only[aS]at h;rcases bG.1 hb with rfl|hb
  .exact IP h.1.1
  .exact Gv l _ h.2 b hb
theorem Q4{d:cM}:FE V d<=200:=by
 unfold FE;cases h:oI V d with
 |error e=>exact br _
 |ok b=>
  show(tY b).length<=200;have a:(kJ V b).isSome=true:=by
   unfold oI at h
   repeat' split at h
   all_goals first|(cases h;done)|(cases h;assumption)
  have H:Bn.x7 V b.bl=true:=by
   unfold kJ at a;split at a
   .assumption
   .cases a
  unfold tY;unfold Bn.x7 at H;split
  .exact br _
  .rename_i z c;rw[c]at H;simp only[aS]at H;exact Gv _ _ H.2 z (List.mem_of_getLast? c)

end Ask
end
end Go.Proofs.YtlenamcfacpheaaGreatDoor
