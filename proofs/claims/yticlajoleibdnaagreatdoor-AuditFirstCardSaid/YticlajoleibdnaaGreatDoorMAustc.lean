/-
  IY is proved here: parts of AH proof, one behind AH other (texts of this work, merged by a program; KW AH theorem KX not use is left out). No condition.
-/
import Derived.Test.YticlajoleibdnaaGreatDoorMAustb
set_option linter.defProp false
set_option maxRecDepth 100000
set_option maxHeartbeats 4000000
namespace Go.Den
section
variable {P : Program}
def U7(P:Program)(t:TypeId):Array Field:=match P.underlying t with|some (.struct fs)=>fs|_=> #[]
def yd{h:Heap}{a:Addr}{b:cO}{n:Nat}{F:List Value->Prop}(d:b.length=n)(c:cz a (bc b) 0 h)(H:F (bc b)):sQ h a (List.replicate n (.int .u8)) F:=⟨PV d c H⟩
def Ik{t elem:TypeId}{s bytes:Nat}{z v:Value}{h:Heap}{K:dH}(T:jL P t elem s bytes z)(p:0<s)(q:s<=16777216)(k:v.cells.size=s)(f: ∀b H,b=h.size->H[b]? =some (.C v.cells elem (0,0))->Fr No h H->K (.L (Sa b 0) 1 1) H):bu P (Instr.buildSlice t 1 #[(0,v)]) h K:=by
 obtain⟨i,c,g,rfl,l⟩:=T.i;unfold Instr.buildSlice;refine aZ (s:=underlying t) (bh T.u) ?_;simp only[];refine aZ (s:=sizeOf elem) (fI c) ?_;rw[g];rw[fe];rw[fe];refine aZ (s:=zeroValue elem) (gu c l) ?_;refine aZ (s:=(pure z.cells:Sem (Array Value))) (a:=z.cells) rfl ?_;obtain⟨m,d,D,e,o⟩:=Dj v.cells.toList 0 ((Array.range (1*s)).map λx=>z.cells[x%z.cells.size]!) 0 (by simp;omega);have E:Instr.fill (λi=>some (i*s,s)) ((Array.range (1*s)).map λx=>z.cells[x%z.cells.size]!) [(0,v)]=some v.cells:=by rw[zD (off:=0) (size:=s) bO k (by simp;omega)];show some (Array.foldl (λ(C:Array Value) (x:Value×Nat)=>C.setIfInBounds (0+x.2) x.1) ((Array.range (1*s)).map λx=>z.cells[x%z.cells.size]!) v.cells.zipIdx)=_;rw[<-Array.foldl_toList,Array.toList_zipIdx,d];congr 1;refine Array.ext_getElem? λj=> ?_;by_cases a:j<v.cells.toList.length;have:=e j a;rw[show 0+0+j=j by omega]at this;rw[this];simp;rw[eU (by rw[D];simp at a⊢;omega),eU (dQ a)]
 show bu P (match Instr.fill _ _ [(0,v)]with|some n=>_|_=>_) h K;rw[E];exact f _ _ rfl aU (Fr.push _ _)
def WA{w:Nat×cO}{F:List Value->Prop}{v:List Value}(e:v=.I (w.1:Int)::bc w.2)(H:w.2.length=128)(h:F v):V5 ([.int .i64]++List.replicate 128 (.int .u8)) F:=by subst e;refine⟨(w.1:Int),?_⟩;have:=PW w.2 (λv=>F (.I (w.1:Int)::v)) h;rw[H]at this;exact this
def U9{h:Heap}{c:Array Value}{t:TypeId}{V:List Value}{m:Nat}{K:Nat->cM}(g:V.length=m)(f:V.length=c.size)(i: ∀v∈V,fH v=true)(d: ∀b H,b=h.size->H[b]? =some (.C V.toArray t (0,0))->Fr No h H->K b H):aT h (.C c t) λb a=>V.length=m/\cQ (AA b 0) V 0 a (K b):=λb H e E=>⟨g,fL f (eG.2 i) d b H e E⟩
end
end Go.Den
namespace Go.Proofs.YticlajoleibdnaaGreatDoor
open Go.Den
namespace qM
variable {h H : Heap} {R : Value → Heap → Prop} {d n i : Nat} {X : Ft} {s : DS}
structure V8 (h:Heap) (d:Nat) (X:Ft) (n:Nat) (s:DS) (lp wp:bH) (wc:Nat) (a b:Int):Prop where
 cV:eA.ff h d ⟨lp,n,n,wp,s.W.length,wc,a,b⟩
 l:Own h lp n n 128 (s.L.flatMap wQ)
 w:Own h wp s.W.length wc 129 (s.W.flatMap rV)
 ok:s.ok n
 m: ∀y,X.M y↔y=d\/aN lp y\/aN wp y
 dd: ∀y,¬X.D y
 d1: ¬aN lp d
 d2: ¬aN wp d
 lw: ∀y,aN lp y->¬aN wp y
def Dk(h:Heap)(d:Nat)(X:Ft)(n:Nat)(s:DS):Prop:= ∃l c w a b,V8 h d X n s l c w a b
def Dk.lt(c:Dk h d X n s)(y:Nat)(e:X.M y):y<h.size:=by obtain⟨l,f,w,a,b,A⟩:=c;rcases(A.m y).1 e with rfl|q|q;exact aE A.cV;exact A.l.dW q;exact A.w.dW q
def Dk.frame{Q:fZ}(e:Dk h d X n s)(f:Fr Q h H)(c: ∀y,X.M y->¬Q y):Dk H d X n s:=by obtain⟨l,g,w,a,b,A⟩:=e;exact⟨l,g,w,a,b,f.get A.cV (c d ((A.m d).2 (.inl rfl))),A.l.frame f (λy q=>c y ((A.m y).2 (.inr (.inl q)))),A.w.frame f (λy q=>c y ((A.m y).2 (.inr (.inr q)))),A.ok,A.m,A.dd,A.d1,A.d2,A.lw⟩
def Dk.on(a:Dk h d X n s)(f:Fr No h H):Dk H d X n s:=a.frame f bD
def Dk.ok(a:Dk h d X n s):s.ok n:=by obtain⟨_,_,_,_,_,A⟩:=a;exact A.ok
def Dk.nd(a:Dk h d X n s)(y:Nat): ¬X.D y:=by obtain⟨_,_,_,_,_,A⟩:=a;exact A.dd y
def tS:jL Tryz.prog 140 381 128 128 (.agg (Array.replicate 128 (.int .u8 0))):=⟨zzkr,zzkr,by simp[Value.cells]⟩
def tW:jL Tryz.prog 141 383 129 136 (.agg (((.I 0:Value)::List.replicate 128 (.int .u8 0)).toArray)):=⟨zzkr,zzkr,by simp[Value.cells]⟩
def uW:Tryz.prog.underlying 141=some (.slice 383):=zzkr
def ft(u:4<=n)(v:n<=4096)(l: ∀H d X,Dk H d X n (qG n)->Xt h X H->R (.T #[pt d,.I 0]) H):Cl 42 #[.I (n:Int)] h R:=by
 refine FL (ay.of λJ j=> ?_);rw[af (by simp;omega),aA ae];subst j;dsimp only;rw[fe];refine N0 tS rfl ae n ae ae λt p o f g=>⟨_,_,_,rfl,eA.cE (x:=⟨p,n,n,none,0,0,0,0⟩) λb c E k F=> ?_⟩;have r: ¬aN p b:=λq=>by have:=o.dW q;omega
 refine l c b ⟨λy=>y=b\/aN p y,λ_=>False⟩ ⟨p,none,0,0,0,k,?_,.nil rfl rfl rfl rfl,MI n,λy=>⟨λq=>q.imp id .inl,λq=>q.imp id λq=>q.resolve_right λ⟨a,e,_⟩=>by cases e⟩,λ_=>id,r,(λ⟨a,e,_⟩=>by cases e),(λy _ ⟨a,e,_⟩=>by cases e)⟩ ⟨f.tt F,λy m=> ?_⟩;show Own c p n n 128 ((List.replicate n wu).flatMap wQ);rw[Of];exact o.frame F bD;have z:=f.1;rcases m with(rfl|q)|q;omega;exact g y q;exact q.elim
def jE(c:Dk h d X n s)(e:R (.I (n:Int)) h):Cl 83 #[pt d] h R:=by obtain⟨l,f,w,a,b,A⟩:=c;exact qN ⟨_,_,_,aj A.cV,e⟩
def zP(c:Dk h d X n s)(g:i<n)(f:R (.I 0) h):Cl 408 #[pt d,.I (i:Int)] h R:=by refine wR (jE c ⟨_,rfl,?_⟩);rw[af (by simp;omega)];refine ay.of λJ e=> ?_;rw[af bO];obtain⟨l,j,w,a,b,A⟩:=c;refine⟨_,_,_,aj A.cV,?_⟩;rw[aA (by show¬((i:Int)≥(n:Int));omega)];subst e;dsimp only;rw[fe];exact f
def Va{L:List (cO)}(o: ∀b∈L,b.length=128)(a:i<L.length): ∃b,L[i]? =some b/\L.getD i []=b/\b.length=128/\wQ b=bc b:=by refine⟨L[i],ai a,?_,o _ (cx _),?_⟩;rw[aL,ai a];rfl;unfold wQ;rw[Ii (o _ (cx _))]
def MK{a:List (Nat×cO)}(o: ∀x∈a,x.1<n/\x.2.length=128)(c:i<a.length): ∃w,a[i]? =some w/\w.1<n/\w.2.length=128/\rV w=.I (w.1:Int)::bc w.2:=by have b:=o _ (cx c);exact⟨a[i],ai c,b.1,b.2,by unfold rV;rw[Ii b.2]⟩
def ML{a:Addr}{w:Nat×cO}{F:List Value->Prop}(e:rV w=.I (w.1:Int)::bc w.2)(f:w.2.length=128)(b:cz a (rV w) 0 h)(c:F (rV w)):sQ h a ([.int .i64]++List.replicate 128 (.int .u8)) F:=by rw[e]at b c;refine⟨⟨_,b.1,?_⟩⟩;have:=tR w.2 1 (λv=>F (.I (w.1:Int)::v)) b.2 c;rw[f]at this;exact this
def WB{g:Heap}{b:Nat}{w:Nat×cO}{t:TypeId}(e:rV w=.I (w.1:Int)::bc w.2)(a:g[b]? =some (.C (rV w).toArray t (0,0))):aQ g (AA b 0)=some (.I (w.1:Int))/\cz (AA b 1) (bc w.2) 0 g:=by rw[e]at a;refine⟨aj a,dy a λj v c=> ?_⟩;rw[Nat.add_comm];simpa using c
def Il(q:Dk h d X n s)(z:i<n)(hw:s.W.length<=1000000)(hk: ∀H p,Own H p 128 128 1 (bc (s.get i))->(∀y,aN p y->h.size<=y)->Fr No h H->R (.T #[.L p 128 128,.I 0]) H):
  Cl 347 #[pt d,.I (i:Int)] h R:=by
 refine vH (zP q z ⟨_,rfl,?_⟩);rw[fe];obtain⟨lp,wp,wc,a,d',A⟩:=q;obtain⟨lb,lo,rfl⟩:=A.l.addr ae;obtain⟨S,V,Z,E,e4⟩:=Va A.ok.l (i:=i) (by rw[A.ok.n];exact z);have x:=A.l.gL yc V;rw[e4]at x;refine⟨_,n,n,aj A.cV,ae,av.2 (yd E (by rw[aG];exact x) (U9 (by rw[fO,E]) (by rw[fO,E];simp) (kY _) λB h1 eb hb u=>⟨wp,s.W.length,wc,aj (u.get A.cV id),?_⟩))⟩;refine⟨λt g=> ∃j:Nat,t=(j:Int)/\j<=s.W.length/\(rK i (s.W.take j) S).length=128/\g[B]? =some (.C (bc (rK i (s.W.take j) S)).toArray 381 (0,0))/\Fr No h g,λt _=>s.W.length - t.toNat,⟨0,rfl,bg _,E,hb,u⟩,?_⟩;rintro _ g ⟨j,rfl,hj,b,o,F⟩;by_cases C:j<s.W.length;rw[iE];refine ay.of λJ hJ=>⟨ae,?_⟩;obtain⟨w,I,w2,c,K⟩:=MK A.ok.w C;have O:=A.w.frame F bD;obtain⟨wb,wo,rfl⟩:=O.addr ae;have c':=O.gL lT I;refine av.2 (ML K c (by rw[aG];exact c') (U9 (lT w) (by rw[lT];simp) (DI w) λb2 h2 e' b' l=> ?_));obtain⟨M,P⟩:=WB K b';have v:=l.get o id;have f: ∀G,G[B]? =some (.C (bc (rK i (s.W.take (j+1)) S)).toArray 381 (0,0))->(rK i (s.W.take (j+1)) S).length=128->Fr No h G->J G:=λG q1 q2 q3=>by subst hJ;dsimp only;rw[eY];exact⟨⟨j+1,rfl,ae,q2,q1,q3⟩,by show s.W.length - Int.toNat ((j:Int)+1)<s.W.length - Int.toNat (j:Int);omega⟩
 have el:rK i (s.W.take (j+1)) S=if w.1=i then w.2 else rK i (s.W.take j) S:=by rw[bt,I];exact DH _ _
 rw[el]at f;refine⟨_,M,ay.of λL a'=> ?_⟩;have e:L=J:=a';subst e;by_cases m:w.1=i;rw[ah m]at f;rw[ah (cU.2 ae)];refine yd c P ⟨by rw[fO,c],dM v (by rw[fO,c];simp[fO,b]) (eG.2 (kY _)) λh3 Q T U=> ?_⟩;exact f h3 Q c ((F.tt l).fresh (Fr.of_eq (S:=λy=>y=B) T U) (λy e=>ae));rw[af m]at f;rw[af (λe=>m (cv (cU.1 e)))];exact f h2 v b (F.tt l);rw[af (λe=>C (cv (bj e)))];obtain rfl:j=s.W.length:=ae
 rw[fk]at b o;rw[iV];have r:s.get i=rK i s.W S:=by unfold DS.get;rw[Z]
 refine hk g _ (.row B 0 _ _ rfl o (bf _) (by simp[fO,b]) (by rw[fO,r,b]) (λk f' D=> ?_)) (λy ⟨a,ea,e⟩=> ?_) F;rw[r]at D;rw[aX];simpa using D;cases ea;exact e▸Nat.le_of_eq eb.symm
def ye{b:cO}{p:bH}{c l:Nat}(t:Dk h d X n s)(I:i<n)(K:Row h p (bc b))(hl:l=b.length)(g:b.length=128)(hw:s.W.length<=100000)(S: ∀y,aN p y->¬X.M y)(hk: ∀H w,Dk H d w n (s.put i b)->cW X h w H->R (.I 0) H):Cl 359 #[pt d,.I (i:Int),.L p l c] h R:=by
 subst hl;refine tZ (zP t I ⟨_,rfl,?_⟩);rw[fe,af (by simp[g])];obtain⟨L,O,M,x,y,A⟩:=t;obtain⟨a,rfl⟩:=K.some (by cases b with|nil=>cases g|cons u v=>simp[bc]);have rh:cz a (bc b) 0 h:=by
  rcases K with e|⟨a',e,q⟩;cases b with|nil=>cases g|cons u v=>cases e
  cases e;exact q
 have E:rV (i,b)=.I (i:Int)::bc b:=by unfold rV;rw[Ii g]
 refine⟨O,s.W.length,M,aj A.cV,ae,av.2 (yd g rh (WA (w:=(i,b)) E g ⟨?_,?_⟩))⟩;rw[E];exact Jo (fs:=U7 Tryz.prog 383) (f0:=(((U7 Tryz.prog 383)[0]?).get zzkr)) (f1:=(((U7 Tryz.prog 383)[1]?).get zzkr)) (i0:=(Tryz.prog.info? 3).get zzkr) (i1:=(Tryz.prog.info? 381).get zzkr) (it:=(Tryz.prog.info? 383).get zzkr) (z:=(((Tryz.prog.info? 383).bind (·.zero)).get zzkr)) zzkr zzkr zzkr zzkr zzkr zzkr zzkr (by rw[fO,g];kernel_rfl) zzkr zzkr (by rw[fO,g];kernel_rfl) rfl;refine Ik tW ae ae (by simp[Value.cells,lT]) λb1 h1 eb b' F=>⟨_,_,_,rfl,?_⟩;refine⟨F.kp,du tW uW (A.w.frame F bD) (ds:=rV (i,b)) (.inr ⟨_,rfl,dy b' (λc' v hj=>by rw[aX];simpa[Value.cells]using hj)⟩) (by rw[lT]) (DI _) ae ae λP C z o2 _ j G=>⟨_,_,_,rfl,?_⟩⟩;have z1:=F.1;have z2:=j.1;have nd: ∀y,X.M y->y<h.size:=λy f=>Dk.lt ⟨L,O,M,_,_,A⟩ y f;have hd:=nd d ((A.m d).2 (.inl rfl));have T:=j.get (F.get A.cV id) A.d2;refine⟨j.St (λq m u e hx=> ?_),aY T (by show 1<4;omega) λB D U V=> ?_⟩;rw[bT]at m;subst m;cases e;exact S _ ⟨_,rfl,rfl⟩ ((A.m _).2 (.inr (.inr hx)));have Z:Fr (λy=>y=d) z B:=Fr.of_eq U V;have J: ∀y,aN P y->y≠d:=λy f e=>by rcases G y f with q|q;exact A.d2 (e▸q);omega
 refine Qm (n:=x) (δ:=1) (aj (show B[d]? =some (.C _ _ _)from D)) (aY D (by show 2<4;omega) λk Q r q3=>⟨_,rfl,?_⟩);have o:Fr (λy=>y=d) z k:=Z.tt (Fr.of_eq r q3);have ll: ∀y,aN L y->y<h.size:=λy f=>A.l.dW f;refine hk k ⟨λy=>y=d\/aN L y\/aN P y,λ_=>False⟩ ⟨L,P,C,IntKind.wrap .i64 (x+1),y,?_,?_,?_,A.ok.put I g,λy=>dY,λ_=>id,A.d1,λq=>J d q rfl,λy Q r=> ?_⟩ ⟨?_,?_,λy f=>f.elim,λy f=>(A.dd y f).elim⟩;show k[d]? =some (.C (eA.S.arr ⟨L,n,n,P,(s.W++ [(i,b)]).length,C,IntKind.wrap .i64 (x+1),y⟩) _ _);rw[ak];exact Q;refine((A.l.frame F bD).frame j (λy f m=>A.lw y f m)).frame o (λy f e=>A.d1 (e▸f));show Own k P (s.W++ [(i,b)]).length C 129 ((s.W++ [(i,b)]).flatMap rV);rw[ak,cC];have e: [(i,b)].flatMap rV=rV (i,b):=bO
 rw[e];exact o2.frame o (λy f e=>J y f e);rcases G y r with q|q;exact A.lw y Q q;have:=ll y Q;omega;refine(Fr.no F j).trans o (λy _ f=>(A.m y).2 (.inr (.inr f))) (λy _ f=>(A.m y).2 (.inl f));intro y f;rcases f with q|q|q;exact .inl ((A.m y).2 (.inl q));exact .inl ((A.m y).2 (.inr (.inl q)));rcases G y q with q|q;exact .inl ((A.m y).2 (.inr (.inr q)));exact .inr ae
def V8.fr{Q:fZ}{l e:bH}{w:Nat}{a b:Int}(A:V8 h d X n s l e w a b)(f:Fr Q h H)(c: ∀y,X.M y->¬Q y):V8 H d X n s l e w a b:=
 ⟨f.get A.cV (c d ((A.m d).2 (.inl rfl))),A.l.frame f (λy q=>c y ((A.m y).2 (.inr (.inl q)))),A.w.frame f (λy q=>c y ((A.m y).2 (.inr (.inr q)))),A.ok,A.m,A.dd,A.d1,A.d2,A.lw⟩
def Qn(C:Dk h d X n s)(hn:0<n)(hw:s.W.length<=1000000)(hk: ∀H D,Dk H d D n s.sync->cW X h D H->R (.I 0) H):Cl 297 #[pt d] h R:=by
 refine vI (jE C ⟨_,rfl,?_⟩);rw[af (by simp;omega)];obtain⟨l,m,k,x,y,A⟩:=C;refine⟨m,s.W.length,k,aj A.cV,?_⟩;let f:Nat->List (cO):=λj=>(s.W.take j).foldl (λL w=>L.set w.1 w.2) s.L
 have A0:V8 h d X n ⟨f 0,s.W⟩ l m k x y:=A;refine⟨λt g=> ∃j:Nat,t=(j:Int)/\j<=s.W.length/\V8 g d X n ⟨f j,s.W⟩ l m k x y/\Fr X.M h g,λt _=>s.W.length - t.toNat,⟨0,rfl,bg _,A0,Fr.refl _ _⟩,?_⟩;rintro _ g ⟨j,rfl,hj,B,M⟩;have f': ∀z,X.M z->z<g.size:=λz hz=>Dk.lt ⟨l,m,k,_,_,B⟩ z hz;by_cases S:j<s.W.length;rw[iE];refine⟨ae,?_⟩;obtain⟨w,Z,w2,c,w4⟩:=MK A.ok.w S;have V:Own g m s.W.length k 129 (s.W.flatMap rV):=B.w;obtain⟨wb,wo,rfl⟩:=V.addr ae;have b':=V.gL lT Z;refine av.2 (ML w4 c (by rw[aG];exact b') (U9 (lT w) (by rw[lT];simp) (DI w) λb2 O e' a' J=> ?_));obtain⟨c0,c1⟩:=WB w4 a';have a:=B.fr J bD;have U:Own O l n n 128 ((f j).flatMap wQ):=a.l;have ln:(f j).length=n:=a.ok.n;obtain⟨lb,lo,rfl⟩:=U.addr hn;refine⟨_,n,n,aj a.cV,_,c0,yd c c1 ⟨ae,av.2 ⟨by rw[fO,c],?_⟩⟩⟩;have I:wQ w.2=bc w.2:=by unfold wQ;rw[Ii c]
 rw[<-I,aG];refine U.Dm yc (λc' T=>by rw[I]at T;exact kY _ c' T) ae λo o3 s3 v=> ?_;have F:Fr (aN (Sa lb lo)) O o:=Fr.of_eq s3 v;have E:f (j+1)=(f j).set w.1 w.2:=by show(s.W.take (j+1)).foldl _ _=_;rw[bt,Z,List.foldl_append];rfl
 rw[eY];refine⟨⟨j+1,rfl,ae,⟨F.get a.cV a.d1,?_,a.w.frame F (λz Q u=>a.lw z u Q),⟨?_,λb p=> ?_,A.ok.w⟩,a.m,a.dd,a.d1,a.d2,a.lw⟩,(M.on J).trans F (λz _ q=>q) (λz _ q=>(a.m z).2 (.inr (.inl q)))⟩,by show s.W.length - Int.toNat ((j:Int)+1)<s.W.length - Int.toNat (j:Int);omega⟩;show Own o _ n n 128 ((f (j+1)).flatMap wQ);rw[E];exact o3;show(f (j+1)).length=n;rw[E,fz];exact ln;have p:b∈f (j+1):=p;rw[E]at p;rcases List.mem_or_eq_of_mem_set p with q|q;exact a.ok.l b q;rw[q];exact c;rw[af (λe=>S (cv (bj e)))];obtain rfl:j=s.W.length:=ae
 have e1:f s.W.length=s.sync.L:=by show(s.W.take s.W.length).foldl _ _=_;rw[fk];rfl
 rw[e1]at B;refine aY B.cV (by show 1<4;omega) λo G d2 d3=> ?_;refine Qm (n:=y) (δ:=1) (aj (show o[d]? =some (.C _ _ _)from G)) (aY G (by show 3<4;omega) λP Q u v=>⟨_,rfl,?_⟩);have K:Fr (λy=>y=d) g P:=(Fr.of_eq (S:=λy=>y=d) d2 d3).tt (Fr.of_eq u v);have r: ∀y,¬aN none y:=λy ⟨d',e,_⟩=>by cases e
 refine hk P ⟨λy=>y=d\/aN l y\/aN none y,λ_=>False⟩ ⟨l,none,0,x,IntKind.wrap .i64 (y+1),Q,B.l.frame K (λz q e=>B.d1 (e▸q)),.nil rfl rfl rfl rfl,A.ok.sync,λy=>dY,λ_=>id,B.d1,r d,λy _=>r y⟩ ⟨?_,λz q=> .inl ?_,λz q=>q.elim,λz q=>(A.dd z q).elim⟩;exact M.trans K (λz _ q=>q) (λz _ q=>(A.m z).2 (.inl q));rcases q with q|q|q;exact(A.m z).2 (.inl q);exact(A.m z).2 (.inr (.inl q));exact(r z q).elim
end qM
end Go.Proofs.YticlajoleibdnaaGreatDoor
namespace Go.Proofs.YticlajoleibdnaaGreatDoor
open Go.Den
open IntKind (wrap)
open Int (toNat)
section
namespace Im
variable {h H:Heap} {R:dH} {d n:Nat} {X:Ft} {s:qM.DS}
structure SU where
 gen:Nat
 wS:Nat
 len:Nat
abbrev SU.S(x:SU):au.S:=⟨x.gen,x.wS,x.len⟩
def SU.ok(x:SU):Prop:=1<=x.gen/\x.gen<=2^40/\x.wS<=1/\x.len<=1048576
variable {x:SU}
def Sf(k i n:Nat):cO:=(List.range i).map λj=>UInt8.ofNat (n/2 ^ (8*(k - 1 - j)))
def JI(k n:Nat):cO:=Sf k k n
def MM(k i n:Nat):(Sf k i n).length=i:=by simp[Sf]
def lE(k n:Nat):(JI k n).length=k:=MM k k n
def JJ(k i n:Nat):Sf k (i+1) n=Sf k i n++ [UInt8.ofNat (n/2 ^ (8*(k - 1 - i)))]:=by simp[Sf,List.range_succ]
def zQ(x:SU):cO:= [80,76,70,84]++JI 8 x.gen++ [UInt8.ofNat x.wS]++JI 4 x.len
def yf(x:SU):(zQ x).length=17:=by simp[zQ,lE]
def BC(x:SU):cO:=zQ x++JI 4 (Bt.mq (zQ x))++List.replicate 107 0
def ua(x:SU):(BC x).length=128:=by simp[BC,lE,yf]
def FM(n:Nat):IntKind.wrap .u8 (n:Int)=((UInt8.ofNat n).toNat:Int):=by rw[tP,UInt8.toNat_ofNat']
def wT{p:bH}{l c k m:Nat}{bs:cO}(b:Src h p l c bs)(K:0<k)(B:k<=8)(z:bs.length<=1000000)(u: ∀P C H,Own H P (bs++JI k m).length C 1 (bc (bs++JI k m))->Fr (aN p) h H->(∀y,aN P y->aN p y\/h.size<=y)->R (.slice P (bs++JI k m).length C) H):
  Cl 422 #[.L p l c,.U (m:Int),.I (k:Int)] h R:=by
 refine DC ⟨λq lq cq t g=> ∃i:Nat,t=(i:Int)/\i<=k/\Src g q lq cq (bs++Sf k i m)/\(0<i->Own g q (bs++Sf k i m).length cq 1 (bc (bs++Sf k i m)))/\Fr (aN p) h g/\(∀y,aN q y->aN p y\/h.size<=y),
  λ_ _ _ t _=>k - t.toNat,⟨0,rfl,ae,by rw[show Sf k 0 m= []from rfl,List.append_nil];exact b,λq=>absurd q ae,Fr.refl _ _,λ_=> .inl⟩,?_⟩
 rintro q lq cq _ g ⟨i,rfl,A,S,o,f,G⟩;by_cases j:i<k;rw[iE];rw[df (n:=(k:Int) - 1) ae ae,df (n:=(k:Int) - 1 - i) ae ae,df (n:=8*((k:Int) - 1 - i)) ae ae,fe];have L:lq=bs.length+i:=by rw[S.1,ak,MM]
 have E:min (Int.toNat (8*((k:Int) - 1 - i))) (IntKind.bits .u64)=8*(k - 1 - i):=by rw[show IntKind.bits .u64=64 from rfl];omega
 refine xX (UInt8.ofNat (m/2 ^ (8*(k - 1 - i)))) (by rw[E,Bt.DE,FM]) gD.tU gD.uU S ae λP C w O F r=>⟨_,_,_,rfl,?_⟩;have Z:=f.1;rw[eY];refine⟨⟨i+1,ae,ae,?_,λ_=> ?_,f.trans F bD (λy a v=>(G y v).elim id (λe=>absurd e ae)),λy a=>(r y a).elim (G y) (λe=> .inr ae)⟩,by show k - Int.toNat ((i:Int)+1)<k - Int.toNat (i:Int);omega⟩;rw[JJ,<-cP];exact Src.own O rfl;rw[JJ,<-cP];exact O;rw[af (λe=>j (cv (bj e)))];obtain rfl:i=k:=ae
 have L:=S.1;subst L;exact u q cq g (o K) f G
def fA(o:x.ok)(a: ∀g,Fr No h g->R (.B true) g):Cl 421 #[x.S.agg] h R:=by
 obtain⟨O,i,j,k⟩:=o;refine pD (au.cE λb g e B f=>⟨_,aj B,?_⟩);rw[ah (aq (by show(x.gen:Int)≥1;omega))];refine⟨_,aj B,?_⟩;rw[ah (aq (by show(x.gen:Int)<=1099511627776;omega))];refine⟨_,aj B,?_⟩;have r:=a g f;have E:decide ((x.len:Int)<=1048576)=true:=aq ae;by_cases c:x.wS=0;rw[ah (by show((x.wS:Int)==0)=true;rw[c];rfl)];refine⟨_,aj B,?_⟩;rw[ah (aq (by show(x.len:Int)≥0;omega))];refine⟨_,aj B,?_⟩;show R (.B (decide ((x.len:Int)<=1048576))) g;rw[E];exact r;have C:x.wS=1:=ae
 rw[af (by show¬((x.wS:Int)==0)=true;rw[C];decide)];refine⟨_,aj B,?_⟩;rw[ah (by show((x.wS:Int)==1)=true;rw[C];rfl)];refine⟨_,aj B,?_⟩;rw[ah (aq (by show(x.len:Int)≥0;omega))];refine⟨_,aj B,?_⟩;show R (.B (decide ((x.len:Int)<=1048576))) g;rw[E];exact r
def tI:Tryz.prog.underlying 3=some (.int .i64):=zzkr
theorem ye{x : SU}(E : x.ok)(hk : ∀ p c g, Own g p 128 c 1 (bc (BC x)) → Fr No h g → (∀ y, aN p y → h.size ≤ y) → R (.tuple #[.slice p 128 c, .int .i64 0]) g):
    Cl 358 #[x.S.agg] h R := by
  refine pE (au.cE λb v e1 B l => au.dZ B (fA E λf F => ⟨_, rfl, ?_⟩))
  rw [if_neg (by decide)]
  have z1 := l.1
  have z2 := F.1
  refine gD.U5 (bs := [80, 76, 70, 84]) rfl λh4 r4 i => ?_
  have z4 := i.1
  have I : Fr No v h4 := F.tt i
  have M := I.get B id
  have bl : b < v.size := (Array.getElem?_eq_some_iff.1 B).1
  refine ⟨_, fY M rfl, wT (k := 8) (bs := [80, 76, 70, 84]) ⟨rfl, .inr ⟨r4, rfl⟩⟩ (by omega) (by omega) (by decide) λp5 c5 h5 o5 m Z => ⟨_, _, _, rfl, ?_⟩⟩
  have z5 := m.1
  have z : ∀ y, aN p5 y → f.size ≤ y := λy a => by
    rcases Z y a with ⟨_, e, rfl⟩ | q
    · cases e; exact Nat.le_refl _
    · omega
  have j : Fr No f h5 := i.fresh m λy ⟨_, e, a⟩ => by cases e; subst a; exact Nat.le_refl _
  have Q := j.get (F.get B id) id
  refine ⟨_, fY Q rfl, ?_⟩
  refine xX (UInt8.ofNat x.wS) (FM _) gD.tU gD.uU (Src.own o5 rfl) (by rw [List.length_append, lE]; simp) λp7 c7 h7 o7 r g7 => ⟨_, _, _, rfl, ?_⟩
  have z7 := r.1
  have A : ∀ y, aN p7 y → f.size ≤ y := λy a => (g7 y a).elim (z y) (λq => by omega)
  have k : Fr No f h7 := j.fresh r z
  have S := k.get (F.get B id) id
  refine ⟨_, fY S rfl, ?_⟩
  rw [show IntKind.wrap .u64 (x.S.f2) = (x.len : Int) from wrap_u64 (by show (0 : Int) ≤ x.len; omega) (by have := E.2.2.2; show (x.len : Int) ≤ _; omega)]
  refine wT (k := 4) (m := x.len) (Src.own o7 rfl) (by omega) (by omega) (by simp [lE]) λP T w o t g8 => ⟨_, _, _, rfl, ?_⟩
  have z8 := t.1
  have C : ∀ y, aN P y → f.size ≤ y := λy a => (g8 y a).elim (A y) (λq => by omega)
  have J : Fr No f w := k.fresh t A
  change Own w P (zQ x).length T 1 (bc (zQ x)) at o
  refine Bt.Ig o.iy rfl (by rw [yf]; omega) ⟨_, rfl, ?_⟩
  have hl := Bt.Qk (zQ x)
  rw [show IntKind.wrap .u64 ((Bt.mq (zQ x) : Nat) : Int) = (Bt.mq (zQ x) : Int) from wrap_u64 (by omega) (by omega)]
  refine wT (k := 4) (m := Bt.mq (zQ x)) (Src.own (bs := zQ x) o rfl) (by omega) (by omega) (by rw [yf]; omega) λp9 c9 h9 O u g9 => ⟨_, _, _, rfl, ?_⟩
  have z9 := u.1
  have D : ∀ y, aN p9 y → f.size ≤ y := λy a => (g9 y a).elim (C y) (λq => by omega)
  have K : Fr No f h9 := J.fresh u C
  have L : (zQ x ++ JI 4 (Bt.mq (zQ x))).length = 21 := by simp [yf, lE]
  rw [L] at O ⊢
  rw [show IntKind.wrap .i64 (128 - ((21 : Nat) : Int)) = ((107 : Nat) : Int) from rfl]
  refine NZ gD.tU tI O L.symm (by omega) (by omega) λG U hA oA V gA => ⟨_, _, _, rfl, ?_⟩
  have nA : ∀ y, aN G y → f.size ≤ y := λy a => (gA y a).elim (D y) (λq => by omega)
  exact hk G U hA oA ((l.tt F).tt (K.fresh V D)) λy a => by have := nA y a; omega
def MN(c:x.gen<=2^40)(a: ∀g,Fr No h g->R (.I ((x.gen%2:Nat):Int)) g):Cl 349 #[x.S.agg] h R:=by refine BA (au.cE λb g e B f=>⟨_,aj B,?_⟩);have E:Int.tmod (x.gen:Int) 2=((x.gen%2:Nat):Int):=rfl;show R (.I (IntKind.wrap .i64 (Int.tmod (x.gen:Int) 2))) g;rw[E,eY];exact a g f
def Vc(e:qM.Dk h d X n s)(v:2<=n)(o:x.ok)(l:s.W.length<=100000)(k: ∀H a,qM.Dk H d a n (s.put (x.gen%2) (BC x))->cW X h a H->R (.I 0) H):Cl 296 #[.P d 0,x.S.agg] h R:=by
 refine DD (au.cE λb r E B f=>au.dZ B (ye o λp c t O g G=>⟨_,_,_,_,rfl,?_⟩));rw[fe];refine au.dZ (g.get B id) (MN o.2.1 λu i=>⟨_,rfl,?_⟩);have F:=(f.tt g).tt i;have z:=f.1;refine qM.ye (e.on F) ae (O.iy.frame i bD) (ua x).symm (ua x) l (λy q m=>iI (G y q) (e.lt y m)) λj a D S=>⟨_,rfl,?_⟩;exact k j a D (.no F S)

end Im
end
section
variable {h:Heap} {R:dH}
variable {b d:Nat}
abbrev aO.ff(h:Heap)(b:Nat)(x:aO.S):Prop:=h[b]? =some (.cells x.arr 334 (0,0))
def aO.ex{K:aO.S->Prop}(x:aO.S)(H:K x):aO.EX K:=⟨_,_,H⟩
def aO.gT{a:Addr}{x:aO.S}{K:aO.S->Prop}(H:cz a x.l 0 h)(c:K x):aO.ck h a K:=by obtain⟨q,Q,_⟩:=H;rw[cA]at q;exact⟨_,q,_,Q,c⟩
def aO.im{x:aO.S}(H:aO.ff h b x):cz (AA b 0) x.l 0 h:=
 dy H (λj v c=>by rw[aX];simpa using c)
def aO.dZ{x:aO.S}{K:aO.S->Prop}(H:aO.ff h b x)(c:K x):aO.ck h (AA b 0) K:=gT (im H) c
def aO.cE{x:aO.S}{K:Nat->cM}(e: ∀b H,b=h.size->aO.ff H b x->Fr No h H->K b H):aT h (.C x.arr 334) λb c=>K b c:=
 bn (e _ _ rfl aU (Fr.push _ _))
def aO.fB{y x:aO.S}{K:cM}(A:aO.ff h b y)(j: ∀H,aO.ff H b x->Fr (λy=>y=b) h H->H.size=h.size->K H):aO.cR h (AA b 0) x K:=
 (show cQ (AA b 0) x.l 0 h K from dM A rfl rfl λg e D f=>j g e (Fr.of_eq D λc i=>f c i) D)
variable {K:aO.S->Prop} {a x:aO.S}
def BD (i:aT h (.C a.arr 334) λb g=>Cl 83 #[.P d 0] g λv H=>Vi v λe=> ∃f,Cc H b 0 (.I f)/\ite (decide (f≥2)) (∃t,Cc H b 0 (.I t)/\ite (decide (t<e)) (∃T,Cc H b 1 (.I T)/\ite (decide (T≥1)) (Hi H b 1 λj=> ∃c,Cc H b 0 (.I c)/\R (.B (decide (j<=(wrap .i64 (e - c))))) H) (R (.B false) H)) (R (.B false) H)) (R (.B false) H)):Cl 410 #[.P d 0,a.agg] h R:=aD [] i
def DJ (f:aT h (.C a.arr 334) λb H=>ay (λ(g:Bool) c=>ite g (R (.I 0) c) (∃t,Cc c b 1 (.I t)/\R (.I (wrap .i64 (t*128))) c)) (λJ=> ∃T,Cc H b 1 (.I T)/\ite (decide (T<1)) (J true H) (∃e,Cc H b 1 (.I e)/\J (decide (e>4096)) H))):Cl 295 #[a.agg] h R:=aD [(4,.join [(10,sB)])] f
theorem zR (l:aO.NW h λb f=>aO.NW f λB g=>Cl 83 #[.P d 0] g λv e=> ∃T,v=.I T/\ite (T==0) (aO.cR e (AA b 0) aO.S.z λi=>aO.cR i (AA B 0) aO.S.z λH=>aO.ck H (AA b 0) λr=>aO.ck H (AA B 0) λn=>R (.T #[r.agg,n.agg,.I 6]) H) (Cl 83 #[.P d 0] e λV j=> ∃t,V=.I t/\aO.cR j (AA b 0) ⟨2,(wrap .i64 (Int.tdiv (wrap .i64 (t - 2)) 2))⟩ λk=>aO.cR k (AA B 0) ⟨(wrap .i64 (2+(wrap .i64 (Int.tdiv (wrap .i64 (t - 2)) 2)))),(wrap .i64 (Int.tdiv (wrap .i64 (t - 2)) 2))⟩ λc=>aO.ck c (AA b 0) λm=>aO.ck c (AA B 0) λo=>R (.T #[m.agg,o.agg,.I 0]) c)):Cl 294 #[.P d 0] h R:=aD [] l
def FN{V:Int}{n:Int} (j:aT h (.C a.arr 334) λb e=>aO.ck e (AA b 0) λk=>Cl 410 #[.P d 0,k.agg] e λv H=> ∃t,v=.B t/\ite (!t) (R (.I 3) H) (ay (λ(l:Bool) f=>ite l (R (.I 1) f) (R (.I 0) f)) (λJ=>ite (decide (V<0)) (J true H) (ite (decide (n<0)) (J true H) (aO.ck H (AA b 0) λm=>Cl 295 #[m.agg] H λp c=> ∃T,p=.I T/\ite (decide (V>T)) (J true c) (aO.ck c (AA b 0) λo=>Cl 295 #[o.agg] c λq i=> ∃g,q=.I g/\J (decide (n>(wrap .i64 (g - V)))) i)))))):Cl 350 #[.P d 0,a.agg,.I V,.I n] h R:=aD [(11,.join [(14,sB)])] j

end
section
namespace JK
variable {h:Heap} {R:dH} {d n:Nat} {X:Ft} {s:qM.DS}
structure AR where
 first:Nat
 count:Nat
abbrev AR.S(x:AR):aO.S:=⟨x.first,x.count⟩
def AR.ok(x:AR)(n:Nat):Prop:=2<=x.first/\x.first<n/\1<=x.count/\x.count+x.first<=n
variable {x:AR}
def gM(n:Nat):AR×AR:=(⟨2,(n - 2)/2⟩,⟨2+(n - 2)/2,(n - 2)/2⟩)
def GP(H:4<=n):(gM n).1.ok n/\(gM n).2.ok n:=by unfold gM AR.ok;dsimp only;omega
def fA(H:qM.Dk h d X n s)(o:x.ok n)(c:n<=4096)(a: ∀g,Fr No h g->R (.B true) g):Cl 410 #[.P d 0,x.S.agg] h R:=by obtain⟨O,i,j,k⟩:=o;refine BD (aO.cE λb g e B f=>qM.jE (H.on f) ⟨_,rfl,_,aj B,?_⟩);rw[ah (aq (by show(x.first:Int)≥2;omega))];refine⟨_,aj B,?_⟩;rw[ah (aq (by show(x.first:Int)<n;omega))];refine⟨_,aj B,?_⟩;rw[ah (aq (by show(x.count:Int)≥1;omega))];refine⟨_,aj B,_,aj B,?_⟩;show R (.B (decide ((x.count:Int)<=IntKind.wrap .i64 ((n:Int) - x.first)))) g;rw[eY,aq ae];exact a g f
def vz(c:1<=x.count)(i:x.count<=4096)(a: ∀g,Fr No h g->R (.I ((x.count*128:Nat):Int)) g):Cl 295 #[x.S.agg] h R:=by refine DJ (aO.cE λb g e B f=>ay.of λJ H=>⟨_,aj B,?_⟩);rw[af (by simp;show(1:Int)<=x.count;omega)];refine⟨_,aj B,?_⟩;subst H;dsimp only;rw[af (by simp;show(x.count:Int)<=4096;omega)];refine⟨_,aj B,?_⟩;show R (.I (IntKind.wrap .i64 ((x.count:Int)*128))) g;rw[eY];exact a g f
theorem A6(H : qM.Dk h d X n s)(t : 4 ≤ n)(u : n ≤ 4096)(p : ∀ g, Fr No h g → R (.tuple #[(gM n).1.S.agg, (gM n).2.S.agg, .int .i64 0]) g): Cl 294 #[.pointer (some ⟨d, 0, none⟩)] h R := by
  refine zR (bn (bn ?_))
  have F : Fr No h (h.push (.cells aO.S.z.arr 334)) := Fr.push _ _
  generalize e : h.push (.cells aO.S.z.arr 334) = G at F ⊢
  have A : aO.ff G h.size aO.S.z := e ▸ aU
  have f : Fr No G (G.push (.cells aO.S.z.arr 334)) := Fr.push _ _
  generalize o : G.push (.cells aO.S.z.arr 334) = l at f ⊢
  have i : aO.ff l G.size aO.S.z := o ▸ aU
  have v : h.size < G.size := by rw [← e]; simp
  have a := H.on (F.tt f)
  refine qM.jE a ⟨_, rfl, ?_⟩
  rw [if_neg (by simp; omega)]
  refine qM.jE a ⟨_, rfl, ?_⟩
  have E : IntKind.wrap .i64 (Int.tdiv (IntKind.wrap .i64 ((n : Int) - 2)) 2) = (((n - 2) / 2 : Nat) : Int) := by
    rw [df (n := (n : Int) - 2) (by omega) (by omega), show (n : Int) - 2 = ((n - 2 : Nat) : Int) by omega, show Int.tdiv ((n - 2 : Nat) : Int) 2 = (((n - 2) / 2 : Nat) : Int) from rfl, df (by omega) (by omega)]
  rw [E, df (n := 2 + (((n - 2) / 2 : Nat) : Int)) (by omega) (by omega)]
  refine aO.fB (x := (gM n).1.S) (f.get A id) λr j b z => ?_
  refine aO.fB (x := (gM n).2.S) (b.get i (by omega)) λm k c Z => ?_
  refine aO.dZ (c.get j (by omega)) (aO.dZ k (p m ?_))
  have U := f.1
  exact ((F.tt f).fresh (S := λy => y = h.size) b (λy q => by omega)).fresh c λy q => by omega
def zP{a m:Nat}(H:qM.Dk h d X n s)(i:x.ok n)(q:n<=4096)(v:a+m<=x.count*128)(p: ∀g,Fr No h g->R (.I 0) g):
  Cl 350 #[.P d 0,x.S.agg,.I (a:Int),.I (m:Int)] h R:=by
 have o:=i;obtain⟨w,y,O,z⟩:=o;refine FN (aO.cE λb r E B f=>aO.dZ B (fA (H.on f) i q λt F=>⟨_,rfl,?_⟩));rw[fe];refine ay.of λJ l=> ?_;rw[af bO,af bO];have c:=F.get B id;refine aO.dZ c (vz O ae λu e=>⟨_,rfl,?_⟩);rw[af (by simp;omega)];refine aO.dZ (e.get c id) (vz O ae λk j=>⟨_,rfl,?_⟩);rw[eY,aA ae];subst l;dsimp only;rw[fe];exact p k (((f.tt F).tt e).tt j)

end JK
end
end Go.Proofs.YticlajoleibdnaaGreatDoor
namespace Go.Den
def JL{h:Heap}{B i:Nat}{l:List Value}{t:TypeId}{v:Value}{K:cM}(c:h[B]? =some (.C l.toArray t (0,0)))(e:i<l.length)(f: ∀H,H[B]? =some (.C (l.set i v).toArray t (0,0))->H.size=h.size->(∀x,x≠B->H[x]? =h[x]?)->K H):aI h (AA B i) v K:=
 aY c (dQ e) λH A=>f H (by rwa[List.setIfInBounds_toArray]at A)
end Go.Den
namespace Go.Proofs.YticlajoleibdnaaGreatDoor
open Go.Den
namespace xH
open qM JK Im
variable {h b H : Heap} {R : Value → Heap → Prop} {d n j : Nat} {X a : Ft} {s : DS}
structure JN where
 gen:Nat
 wS:Nat
 len:Nat
 next:cO
 half:Nat
 at_:Nat
 Qo:Nat
 Uk:Nat
 DK:Nat
 all:Nat
 done:Nat
def room(n:Nat):Nat:=(n - 2)/2*128
def hv(n k:Nat):AR:=if k=0 then(gM n).1 else(gM n).2
def JN.tl(x:JN):Nat×Nat:=if x.DK=0 then(x.wS,x.len+x.next.length)else(x.half,x.Qo+x.next.length)
structure JN.ok (x:JN) (n:Nat):Prop where
 n4:4<=n
 n5:n<=4096
 g1:1<=x.gen
 ar:x.wS<=1
 hf:x.half<=1
 le:x.len<=room n
 pl:x.Qo<=room n
 nx:x.tl.2<=room n
 st:x.DK<=3
abbrev JN.S(x:JN)(d n:Nat)(p:bH)(c:Nat):cL.S:=⟨some ⟨d,0,none⟩,((gM n).1.first:Int),((gM n).1.count:Int),((gM n).2.first:Int),((gM n).2.count:Int),x.gen,x.wS,x.len,p,x.next.length,c,x.half,x.at_,x.Qo,x.Uk,x.DK,x.all,x.done⟩
structure Vd (h:Heap) (j d:Nat) (X a:Ft) (n:Nat) (x:JN) (s:DS) (p:bH) (c:Nat):Prop where
 cV:cL.ff h j (x.S d n p c)
 own:Own h p x.next.length c 1 (bc x.next)
 dk:Dk h d a n s
 ok:x.ok n
 m: ∀y,X.M y↔y=j\/aN p y\/a.M y
 dd: ∀y,¬X.D y
 j1: ¬aN p j
 j2: ¬a.M j
 jp: ∀y,aN p y->¬a.M y
def Jn(h:Heap)(j d:Nat)(X:Ft)(n:Nat)(x:JN)(s:DS):Prop:= ∃a p c,Vd h j d X a n x s p c
def Jn.lt{x:JN}(e:Jn h j d X n x s)(y:Nat)(f:X.M y):y<h.size:=by obtain⟨a,p,c,A⟩:=e;rcases(A.m y).1 f with rfl|q|q;exact(bP.1 A.cV).1;exact A.own.dW q;exact A.dk.lt y q
def Jn.frame{x:JN}{Q:fZ}(g:Jn h j d X n x s)(f:Fr Q h H)(e: ∀y,X.M y->¬Q y):Jn H j d X n x s:=by obtain⟨a,p,c,A⟩:=g;exact⟨a,p,c,f.get A.cV (e j ((A.m j).2 (.inl rfl))),A.own.frame f (λy q=>e y ((A.m y).2 (.inr (.inl q)))),A.dk.frame f (λy q=>e y ((A.m y).2 (.inr (.inr q)))),A.ok,A.m,A.dd,A.j1,A.j2,A.jp⟩
def Jn.on{x:JN}(c:Jn h j d X n x s)(f:Fr No h H):Jn H j d X n x s:=c.frame f bD
def Jn.ok{x:JN}(c:Jn h j d X n x s):x.ok n:=by obtain⟨_,_,_,A⟩:=c;exact A.ok
def Jn.nd{x:JN}(c:Jn h j d X n x s)(y:Nat): ¬X.D y:=by obtain⟨_,_,_,A⟩:=c;exact A.dd y
def Vd.put{G:Prop}{x l:JN}{v:DS}{p P:bH}{c C:Nat}{i:Ft}{o k:Heap}(A:Vd h j d X a n x s p c)(D:Dk o d i n v)(S:cW a h i o)(f:Fr (λy=>y=j) o k)(B:cL.ff k j (l.S d n P C))(m:(P=p/\C=c/\l.next=x.next)\/(P=none/\C=0/\l.next= []))(ok:l.ok n)(z: ∀t,Jn k j d t n l v->cW X h t k->G):G:=by
 have J:j<h.size:=(bP.1 A.cV).1;have j2: ¬i.M j:=λq=>S.PQ (Q:=λy=>y=j) (λc r e=>A.j2 (e▸r)) (λc e=>e▸J) j q rfl;have w:=D.frame f (λy g e=>j2 (e▸g));have E: ∀y,aN p y->y<h.size:=λy g=>A.own.dW g;have jp: ∀y,aN p y->¬i.M y:=λy g q=>S.PQ (Q:=λy=>aN p y) (λc r e=>A.jp c e r) E y q g;have O:Own k p x.next.length c 1 (bc x.next):=(A.own.frame S.fr (λy g q=>A.jp y g q)).frame f (λy g e=>A.j1 (e▸g));have F:Fr X.M h k:=S.fr.trans f (λy _ g=>(A.m y).2 (.inr (.inr g))) (λy _ e=>(A.m y).2 (.inl e));refine z ⟨λy=>y=j\/aN P y\/i.M y,λ_=>False⟩ ⟨i,P,C,B,?_,w,ok,λy=>dY,λ_=>id,?_,j2,?_⟩ ⟨F,?_,λy g=>g.elim,λy g=>(A.dd y g).elim⟩;rcases m with⟨rfl,rfl,e⟩|⟨rfl,rfl,e⟩;rw[e];exact O;rw[e];exact .nil rfl rfl rfl rfl;rcases m with⟨rfl,rfl,e⟩|⟨rfl,rfl,e⟩;exact A.j1;rintro⟨u,e,_⟩;cases e;rcases m with⟨rfl,rfl,e⟩|⟨rfl,rfl,e⟩;exact jp;rintro y ⟨u,e,_⟩;cases e;rintro y (q|q|q);exact .inl ((A.m y).2 (.inl q));rcases m with⟨rfl,rfl,e⟩|⟨rfl,rfl,e⟩;exact .inl ((A.m y).2 (.inr (.inl q)));obtain⟨u,e,_⟩:=q;cases e;exact(S.nT y q).imp (λq=>(A.m y).2 (.inr (.inr q))) id
def Pm:JN:=⟨1,0,0, [],0,0,0,0,0,0,0⟩
def Ve(c:4<=n)(e:n<=4096):Pm.ok n:=⟨c,e,bf _,bA,bA,bg _,bg _,bg _,bA⟩
def fJ(i:Dk h d a n s)(v:4<=n)(w:n<=4096)(P: ∀g j X,Vd g j d X a n Pm s none 0->Fr No h g->h.size<=j->R (pt j) g):
  Cl 286 #[.P d 0,.agg #[.U 1,.I 0,.I 0]] h R:=by
 refine x8 (s:=⟨1,0,0⟩) (au.cE λB M S u k=>A6 (i.on k) v w λf l=>aO.ex (gM n).1.S (aO.ex (gM n).2.S ⟨_,rfl,bn (bn ?_)⟩));have m:Fr No f (f.push (.C aO.S.z.arr 334)):=Fr.push _ _;generalize x:f.push (.C aO.S.z.arr 334)=G at m⊢;have z:aO.ff G f.size aO.S.z:=x▸aU;have F:Fr No G (G.push (.C aO.S.z.arr 334)):=Fr.push _ _;generalize O:G.push (.C aO.S.z.arr 334)=L at F⊢;have C:aO.ff L G.size aO.S.z:=O▸aU;have Z:f.size<G.size:=by rw[<-x];simp
 have z1:=k.1;have z2:=l.1;have z4:=F.1;have V:B<M.size:=(bP.1 u).1;refine aO.fB (x:=(gM n).1.S) (F.get z id) λT E o z5=> ?_;refine aO.fB (x:=(gM n).2.S) (o.get C ae) λc I p z6=> ?_;have J:au.ff c B ⟨1,0,0⟩:=p.get (o.get (F.get (m.get (l.get u id) id) id) ae) ae;refine aO.dZ (p.get E ae) (aO.dZ I (au.dZ J (bn ?_)));have r:Fr No h c:=(((((k.tt l).tt m).tt F).fresh (S:=λy=>y=f.size) o (λy Q=>ae)).fresh p λy Q=>ae);have K:Fr No c (c.push (.C ((Pm).S d n none 0).arr 341)):=Fr.push _ _;have U:=r.1;have t:=r.tt K;have D:=i.on t;refine P _ c.size ⟨λy=>y=c.size\/aN none y\/a.M y,λ_=>False⟩ ⟨aU,.nil rfl rfl rfl rfl,D,Ve v w,λy=>dY,λ_=>id,?_,?_,?_⟩ t U;rintro⟨A,e,_⟩;cases e;intro q;have:=i.lt _ q;omega;rintro y ⟨A,e,_⟩;cases e
def zS(f:Dk h d a n s)(m:4<=n)(o:n<=4096)(C:s.W.length<=1000)(p: ∀g j X,Jn g j d X n Pm (s.put 1 (BC ⟨1,0,0⟩)).sync->cW a h X g->R (.T #[pt j,.I 0]) g):Cl 216 #[.P d 0] h R:=by
 refine vF (jE f ⟨_,rfl,?_⟩);rw[af (by simp;omega)];refine fJ f m o λl j X A F L=>⟨_,rfl,av.2 ?_⟩;have E:j<l.size:=(bP.1 A.cV).1;refine au.gT (x:=⟨1,0,0⟩) ⟨aj A.cV,aj A.cV,aj A.cV,trivial⟩ (Vc (x:=⟨1,0,0⟩) A.dk ae ⟨bA,bA,bA,bA⟩ ae λB v D t=>⟨_,rfl,?_⟩);rw[fe];refine Qn D ae (by show(s.W++_).length<=_;simp;omega) λi w k u=>⟨_,rfl,?_⟩;have S:=t.trans u;refine A.put k S (Fr.refl _ i) (S.fr.get A.cV A.j2) (.inl ⟨rfl,rfl,rfl⟩) A.ok λx J r=>p i j x J ?_;have U:=F.1;refine⟨F.no S.fr,λy c=> ?_,λy c=>(J.nd y c).elim,λy c=>(f.nd y c).elim⟩;rcases r.nT y c with q|q;rcases(A.m y).1 q with rfl|⟨z,e,_⟩|q;exact .inr L;cases e;exact .inl q;exact .inr ae
def DL{p:bH}{c:Nat}{x:JN}(A:Vd h j d X a n x s p c)(e:R (.B true) h):Cl 226 #[.P j 0] h R:=
 nU ⟨_,aj A.cV,e⟩
def qO{x:JN}(e:Jn h j d X n x s)(f:R (.I x.done) h):Cl 180 #[.P j 0] h R:=by obtain⟨a,p,c,A⟩:=e;refine nV (DL A ⟨_,rfl,?_⟩);rw[fe];exact⟨_,aj A.cV,f⟩
def SY{p:bH}{c:Nat}{x:JN}(A:Vd h j d X a n x s p c)(e:R (.T #[.I (x.tl.1:Int),.I (x.tl.2:Int)]) h):Cl 301 #[.P j 0] h R:=by have O:=A.ok.le;have f:=A.ok.pl;have o:=A.ok.nx;have g:=A.ok.n5;unfold room at O f o;unfold JN.tl at e o;refine nW ⟨_,aj A.cV,?_⟩;by_cases C:x.DK=0;rw[ah C]at e o;rw[af (by show¬((x.DK:Int) !=0)=true;simp[C])];refine⟨_,aj A.cV,_,aj A.cV,_,_,_,aj A.cV,?_⟩;show R (.T #[.I (x.wS:Int),.I (IntKind.wrap .i64 ((x.len:Int)+(x.next.length:Int)))]) h;dsimp only at o;rw[eY];exact e;rw[af C]at e o;rw[ah (by show((x.DK:Int) !=0)=true;simp[C])];refine⟨_,aj A.cV,_,aj A.cV,_,_,_,aj A.cV,?_⟩;show R (.T #[.I (x.half:Int),.I (IntKind.wrap .i64 ((x.Qo:Int)+(x.next.length:Int)))]) h;dsimp only at o;rw[eY];exact e
def MO{p:bH}{c k:Nat}{x:JN}{K:aO.S->Prop}(A:Vd h j d X a n x s p c)(f:k<=1)(e:K (hv n k).S):aO.ck h (((AA j 1):Addr).add (Int.toNat (k:Int)*2)) K:=by
 unfold hv at e;by_cases C:k=0;subst C;exact aO.gT (x:=(gM n).1.S) ⟨aj A.cV,aj A.cV,trivial⟩ e;obtain rfl:k=1:=ae
 exact aO.gT (x:=(gM n).2.S) ⟨aj A.cV,aj A.cV,trivial⟩ e
def Ul(c:4<=n)(k:Nat):(hv n k).ok n/\(hv n k).count*128=room n:=by unfold hv;have:=GP c;split;exact⟨this.1,rfl⟩;exact⟨this.2,rfl⟩
def JN.ok.Zb{x:JN}(o:x.ok n):x.tl.1<=1:=by unfold JN.tl;split;exact o.ar;exact o.hf
def JN.fits(x:JN)(n m:Nat):Prop:=1<=m/\m<=2000/\m+2+x.tl.2<=room n
def MP{x:JN}{m:Nat}(f:Jn h j d X n x s)(k:x.fits n m)(l: ∀g,Fr No h g->R (.B true) g):Cl 223 #[.P j 0,.I (m:Int)] h R:=by
 obtain⟨a,p,c,A⟩:=f;obtain⟨o,q,r⟩:=k;refine nY (ay.of λJ i=>DL A ⟨_,rfl,?_⟩);rw[fe,af (by simp;omega),aA ae];subst i;dsimp only;rw[fe];have t:=A.ok.Zb;have u:=A.ok.n5;have O:=A.ok.nx;have e:=Ul A.ok.n4 x.tl.1;have v:room n<=300000:=by unfold room;omega
 refine SY A ⟨_,_,rfl,ae,MO A t (vz e.1.2.2.1 (cv e.1.2.2.2) λg F=>⟨_,rfl,?_⟩)⟩;rw[e.2,eY,eY,aq ae];exact l g F
end xH
end Go.Proofs.YticlajoleibdnaaGreatDoor
namespace Go.Proofs.YticlajoleibdnaaGreatDoor
open Go.Den
open IntKind (wrap)
open Int (toNat)
section
namespace xH
open qM JK Im
variable {h:Heap} {R:dH} {d n j:Nat} {X a:Ft} {s:DS}
variable {p:bH} {l c:Nat} {b:cO}
def wV(b:cO):cO:= [UInt8.ofNat (b.length/256),UInt8.ofNat b.length]++b
def DM(b:cO):(wV b).length=b.length+2:=by simp[wV]
def JM(e:1<=l)(f:l<=2000)(H:R (.B true) h):Cl 227 #[.L p l c] h R:=by refine rU ?_;rw[iE,aq ae];exact H
def Qp(u:Row h p (bc b))(t:l=b.length)(k:1<=b.length)(v:b.length<=2000)(m: ∀P C g,Own g P (wV b).length C 1 (bc (wV b))->Fr No h g->(∀y,aN P y->h.size<=y)->R (.slice P (wV b).length C) g):Cl 228 #[.L p l c] h R:=by
 subst t;have E:IntKind.wrap .u8 (Int.fdiv (b.length:Int) (2 ^ min (Int.toNat 8) (IntKind.bits .i64)))=((UInt8.ofNat (b.length/256)).toNat:Int):=by rw[show min (Int.toNat 8) (IntKind.bits .i64)=8 from rfl,Bt.DE,FM]
 refine wP (bn ?_);rw[E,FM];have F:Fr No h (h.push (.C #[.int .u8 ((UInt8.ofNat (b.length/256)).toNat:Int),.int .u8 ((UInt8.ofNat b.length).toNat:Int)] 5)):=Fr.push _ _;have r:Row (h.push (.C #[.int .u8 ((UInt8.ofNat (b.length/256)).toNat:Int),.int .u8 ((UInt8.ofNat b.length).toNat:Int)] 5)) (Sa h.size 0) (bc [UInt8.ofNat (b.length/256),UInt8.ofNat b.length]):=gW (cs:=bc [UInt8.ofNat (b.length/256),UInt8.ofNat b.length]);refine ou gD.tU gD.uU (bs:= [UInt8.ofNat (b.length/256),UInt8.ofNat b.length]) ⟨rfl,.inr ⟨r,rfl⟩⟩ (u.frame F bD) rfl k ae λP C g o f G=>⟨_,_,_,rfl,?_⟩;have i: ∀y,aN (Sa h.size 0) y->h.size<=y:=λy ⟨A,e,H⟩=>by cases e;exact H▸bf _
 have U:=F.1;exact m P C g o (F.fresh f i) λy H=>(G y H).elim (i y) (λq=>ae)
def JN.app(x:JN)(b:cO):JN:= { x with next:=x.next++wV b,all:=x.all+1 }
def JN.ok.app{x:JN}(o:x.ok n)(hf:x.fits n b.length):(x.app b).ok n:=by refine⟨o.n4,o.n5,o.g1,o.ar,o.hf,o.le,o.pl,?_,o.st⟩;have:=hf.2.2;unfold JN.tl JN.app at*;dsimp only;rw[ak,DM];split<;>(rename_i e;first|rw[ah e]at this|rw[af e]at this)<;>dsimp only at this⊢ <;>omega
variable {x:JN}
def Og(H:Jn h j d X n x s)(i:x.fits n b.length)(Z:l=b.length)(a':Row h p (bc b))(ha:x.all<=1000000000)(V: ∀g v,Jn g j d v n (x.app b) s->cW X h v g->R (.T #[.I ((x.all+1:Nat):Int),.I 0]) g):Cl 156 #[.P j 0,.L p l c] h R:=by
 subst Z;have I:=H;obtain⟨a,q,cq,A⟩:=I;refine mE (DL A ⟨_,rfl,?_⟩);rw[fe];refine JM i.1 i.2.1 ⟨_,rfl,?_⟩;rw[fe];refine MP H i λh1 r=>⟨_,rfl,?_⟩;rw[fe];have B:=r.get A.cV id;refine⟨q,x.next.length,cq,aj B,Qp (a'.frame r bD) rfl i.1 i.2.1 λp2 c2 h2 o2 t g2=>⟨_,_,_,rfl,t.kp,?_⟩⟩;have m:=r.tt t;have J:=t.get B id;have o:=A.ok.nx;have n5:=A.ok.n5;have F:=i.2.2;have rl:room n<=300000:=by unfold room;omega
 have nl:x.next.length<=room n:=by unfold JN.tl at o;split at o<;>dsimp only at o<;>omega
 have fl:=DM b;refine ou gD.tU gD.uU (Src.own (A.own.frame m bD) rfl) o2.iy rfl ae ae λP C U o F T=>⟨_,_,_,rfl,?_⟩;have K:=F.get J A.j1;refine JL K (by show 8<16;omega) λh4 D L M=>⟨_,aj D,JL D (by show 14<16;omega) λk Q q2 q3=>⟨_,aj Q,?_⟩⟩;have O:IntKind.wrap .i64 ((x.all:Int)+1)=((x.all+1:Nat):Int):=by rw[eY];omega
 change k[j]? =some (.C (cL.S.arr ⟨some (AA d 0),((gM n).1.first:Int),((gM n).1.count:Int),((gM n).2.first:Int),((gM n).2.count:Int),x.gen,x.wS,x.len,P,(x.next++wV b).length,C,x.half,x.at_,x.Qo,x.Uk,x.DK,IntKind.wrap .i64 ((x.all:Int)+1),x.done⟩) _ _)at Q;show R (.T #[.I (IntKind.wrap .i64 ((x.all:Int)+1)),.I 0]) k;rw[O]at Q⊢;have u:Fr (λy=>y=j) U k:=(Fr.of_eq L M).tt (Fr.of_eq q2 q3);have u2:=m.1;have u3:=F.1;have jl:j<h.size:=(bP.1 A.cV).1;have G: ∀y,aN P y->aN q y\/h.size<=y:=λy f=>(T y f).imp id (λe=>ae);have z: ¬aN P j:=λe=>(G j e).elim A.j1 (λe=>ae);have nd: ∀y,aN P y->¬a.M y:=λy f w=>(G y f).elim (λe=>A.jp y e w) (λe=>cv (A.dk.lt y w));have E:Dk k d a n s:=((A.dk.on m).frame F (λy f e=>A.jp y e f)).frame u (λy f e=>A.j2 (e▸f));have S:Fr X.M h k:=(m.no F).trans u (λy _ f=>(A.m y).2 (.inr (.inl f))) (λy _ e=>(A.m y).2 (.inl e));refine V k ⟨λy=>y=j\/aN P y\/a.M y,λ_=>False⟩ ⟨a,P,C,Q,o.frame u (λy f e=>z (e▸f)),E,A.ok.app i,λy=>dY,λ_=>id,z,A.j2,nd⟩ ⟨S,?_,λy f=>f.elim,λy f=>(A.dd y f).elim⟩;rintro y (e|e|e);exact .inl ((A.m y).2 (.inl e));exact(G y e).imp (λe=>(A.m y).2 (.inr (.inl e))) id;exact .inl ((A.m y).2 (.inr (.inr e)))

end xH
end
section
variable {h:Heap} {R:dH}
variable {b:Nat} {s:bC} {e:Int}
abbrev bk.ff(h:Heap)(b:Nat)(x:bk.S):Prop:=h[b]? =some (.cells x.arr 72 (0,0))
def bk.ex{K:bk.S->Prop}(x:bk.S)(H:K x):bk.EX K:=⟨_,_,_,_,_,_,_,_,_,_,H⟩
def bk.gT{a:Addr}{x:bk.S}{K:bk.S->Prop}(H:cz a x.l 0 h)(c:K x):bk.ck h a K:=by obtain⟨q,Q,d,f,_⟩:=H;rw[cA]at q;exact⟨_,q,_,_,_,Q,_,_,_,d,_,_,_,f,c⟩
def bk.im{x:bk.S}(H:bk.ff h b x):cz (AA b 0) x.l 0 h:=
 dy H (λj v a=>by rw[aX];simpa using a)
def bk.dZ{x:bk.S}{K:bk.S->Prop}(H:bk.ff h b x)(a:K x):bk.ck h (AA b 0) K:=gT (im H) a
def bk.fX{x:bk.S}{K:Nat->cM}(c: ∀b H,b=h.size->bk.ff H b x->Fr No h H->K b H):aT h (.C bk.S.z.arr 72) λb a=>bk.cR a (AA b 0) x (K b):=
 fL (vs:=x.l) rfl rfl c
def bk.cE{x:bk.S}{K:Nat->cM}(c: ∀b H,b=h.size->bk.ff H b x->Fr No h H->K b H):aT h (.C x.arr 72) λb a=>K b a:=
 bn (c _ _ rfl aU (Fr.push _ _))
def bk.fB{y x:bk.S}{K:cM}(a:bk.ff h b y)(j: ∀H,bk.ff H b x->Fr (λy=>y=b) h H->H.size=h.size->K H):bk.cR h (AA b 0) x K:=
 (show cQ (AA b 0) x.l 0 h K from dM a rfl rfl λg D d f=>j g D (Fr.of_eq d λc i=>f c i) d)
variable {K:bk.S->Prop} {x:bk.S}
def DN(c:aw.NW h λb a=>aw.cR a (AA b 0) ⟨true,7,0,(⟨#[]⟩:bC),(⟨#[]⟩:bC)⟩ λH=>aw.ck H (AA b 0) λr=>R (r.agg) H):Cl 30 #[] h R:=aD [] c
def BE{v:bC} (u:ay (λ(z:Bool) a=>ite z (R (.T #[.S (⟨#[]⟩:bC),.B true]) a) (ay (λ(T:Bool) H=>ite T (R (.T #[.S (⟨#[110]⟩:bC),.B true]) H) (ite (v.toList==(⟨#[114,117,110]⟩:bC).toList) (R (.T #[.S (⟨#[110,110]⟩:bC),.B true]) H) (ite (v.toList==(⟨#[102,101,101,100]⟩:bC).toList) (R (.T #[.S (⟨#[110,98]⟩:bC),.B true]) H) (ite (v.toList==(⟨#[97,114,114,105,118,101]⟩:bC).toList) (R (.T #[.S (⟨#[98]⟩:bC),.B true]) H) (ite (v.toList==(⟨#[99,114,97,115,104]⟩:bC).toList) (R (.T #[.S (⟨#[107]⟩:bC),.B true]) H) (R (.T #[.S (⟨#[]⟩:bC),.B false]) H)))))) (λj=>ite (v.toList==(⟨#[99,108,111,115,101]⟩:bC).toList) (j (v.toList==(⟨#[99,108,111,115,101]⟩:bC).toList) a) (ay (λ(w:Bool) m=>j w m) (λc=>ite (v.toList==(⟨#[111,117,116]⟩:bC).toList) (c (v.toList==(⟨#[111,117,116]⟩:bC).toList) a) (ay (λ(y:Bool) n=>c y n) (λd=>ite (v.toList==(⟨#[116,105,99,107]⟩:bC).toList) (d (v.toList==(⟨#[116,105,99,107]⟩:bC).toList) a) (d (v.toList==(⟨#[119,97,105,116,115]⟩:bC).toList) a)))))))) (λJ=>ite (v.toList==(⟨#[99,111,110,110,101,99,116]⟩:bC).toList) (J (v.toList==(⟨#[99,111,110,110,101,99,116]⟩:bC).toList) h) (ay (λ(A:Bool) o=>J A o) (λf=>ite (v.toList==(⟨#[115,116,101,112]⟩:bC).toList) (f (v.toList==(⟨#[115,116,101,112]⟩:bC).toList) h) (ay (λ(B:Bool) p=>f B p) (λg=>ite (v.toList==(⟨#[97,110,115,119,101,114]⟩:bC).toList) (g (v.toList==(⟨#[97,110,115,119,101,114]⟩:bC).toList) h) (ay (λ(C:Bool) q=>g C q) (λi=>ite (v.toList==(⟨#[116,97,107,101]⟩:bC).toList) (i (v.toList==(⟨#[116,97,107,101]⟩:bC).toList) h) (ay (λ(D:Bool) r=>i D r) (λk=>ite (v.toList==(⟨#[110,111,119]⟩:bC).toList) (k (v.toList==(⟨#[110,111,119]⟩:bC).toList) h) (ay (λ(E:Bool) t=>k E t) (λl=>ite (v.toList==(⟨#[108,105,110,101,115]⟩:bC).toList) (l (v.toList==(⟨#[108,105,110,101,115]⟩:bC).toList) h) (l (v.toList==(⟨#[106,117,100,103,101]⟩:bC).toList) h))))))))))))):Cl 45 #[.S v] h R:=aD [(9,.join [(5,sB)]),(13,.join [(5,sB)]),(17,.join [(5,sB)]),(21,.join [(5,sB)]),(25,.join [(5,sB)]),(29,.join [(5,sB)]),(39,.join [(13,sB)]),(43,.join [(13,sB)]),(47,.join [(13,sB)])] u
def zT(d:Cl 93 #[.S s,.I 10,.I 64] h λv H=> ∃t a,v=.T #[.U t,a]/\∃(E:Bool),Lj 54 (a) (.nilIface) E/\ite E (ite (decide (t<=2147483648)) (Cl 94 #[.U t,.I 10] H λV c=> ∃T,V=.S T/\R (.T #[.U t,.B (T.toList==s.toList)]) c) (R (.T #[.U t,.B false]) H)) (R (.T #[.U t,.B false]) H)):Cl 46 #[.S s] h R:=aD [] d
def BF (p:ite (s.toList==(⟨#[45]⟩:bC).toList) (R (.T #[.Z,.B true]) h) (∃(I:bH->Nat->Nat->iT)(m:bH->Nat->Nat->iW),I none 0 0 0 h/\∀a O o i H,I a O o i H->ite (decide ((wrap .i64 (i+1))<(s.size:Int))) (((0:Int)<=i/\i<(s.size:Int))/\((0:Int)<=wrap .i64 (i+1)/\wrap .i64 (i+1)<(s.size:Int))/\Cl 95 #[.S (⟨#[48,49,50,51,52,53,54,55,56,57,97,98,99,100,101,102]⟩:bC),.int .u8 (((s.data.toList.getD (toNat i) 0).toNat:Nat):Int)] H λv l=>Vi v λj=>Cl 95 #[.S (⟨#[48,49,50,51,52,53,54,55,56,57,97,98,99,100,101,102]⟩:bC),.int .u8 (((s.data.toList.getD (toNat (wrap .i64 (i+1))) 0).toNat:Nat):Int)] l λV d=>Vi V λk=>ay (λ(q:Bool) f=>ite q (R (.T #[.Z,.B false]) f) (aT f (.C #[.int .u8 (wrap .u8 (wrap .i64 ((BitVec.ofInt (IntKind.bits .i64) (wrap .i64 (j*2 ^ min (toNat 4) (IntKind.bits .i64)))|||BitVec.ofInt (IntKind.bits .i64) k).toNat:Int)))] 5) λb n=>ij (Builtin.append_ #[69,69] 69 #[.L a O o,.L (Sa b 0) 1 1]) n λr g=> ∃c T t,r=.L c T t/\(I c T t (wrap .i64 (i+2)) g/\m c T t (wrap .i64 (i+2)) g<m a O o i H))) (λJ=>ite (decide (j<0)) (J true d) (J (decide (k<0)) d))) (ite (!(s.toList==(⟨#[]⟩:bC).toList)) (R (.T #[.L a O o,.B ((Int.tmod (s.size:Int) 2)==0)]) H) (R (.T #[.L a O o,.B false]) H)))):Cl 47 #[.S s] h R:=aD [(16,.loop [(4,sS),(5,sI)]),(26,λ_=> .ju (fE 3 0 (fE 4 4 (.op 3 (fE 3 8 .done))))),(29,.join [(31,sB)])] p
def DO (j:ite (s.toList==(⟨#[45]⟩:bC).toList) (R (.T #[.Z,.B true]) h) (∃(I:bH->Nat->Nat->iT)(m:bH->Nat->Nat->iW),I none 0 0 0 h/\∀a O o t H,I a O o t H->ite (decide (t<(s.size:Int))) (ay (λ(k:Bool) f=>ite k (R (.T #[.Z,.B false]) f) (((0:Int)<=t/\t<(s.size:Int))/\aT f (.C #[.B ((((s.data.toList.getD (toNat t) 0).toNat:Nat):Int)==49)] 4) λb i=>ij (Builtin.append_ #[70,70] 70 #[.L a O o,.L (Sa b 0) 1 1]) i λv g=> ∃d c T,v=.L d c T/\(I d c T (wrap .i64 (t+1)) g/\m d c T (wrap .i64 (t+1)) g<m a O o t H))) (λJ=>((0:Int)<=t/\t<(s.size:Int))/\ite ((((s.data.toList.getD (toNat t) 0).toNat:Nat):Int) !=48) (((0:Int)<=t/\t<(s.size:Int))/\J ((((s.data.toList.getD (toNat t) 0).toNat:Nat):Int) !=49) H) (J false H))) (ite (!(s.toList==(⟨#[]⟩:bC).toList)) (R (.T #[.L a O o,.B (decide ((s.size:Int)<=64))]) H) (R (.T #[.L a O o,.B false]) H)))):Cl 48 #[.S s] h R:=aD [(16,.loop [(4,sS),(10,sI)]),(29,.join [(22,sB)])] j
def DP (hv:bk.NW h λb V=>Cl 13 #[.S s,.S (⟨#[32]⟩:bC)] V λv' n=>Vl v' λg T n'=>Bd 0 T/\aJ g λa=>jZ n (a.add (toNat 0*1)) λo'=>Cl 45 #[.S o'] n λw' p=> ∃c r,w'=.T #[.S c,.B r]/\ay (λ(p':Bool) d=>ite p' (bk.cR d (AA b 0) bk.S.z λq=>bk.ck q (AA b 0) λr0=>R (.T #[r0.agg,.B false]) q) (Bd 0 T/\aJ g λQ=>jZ d (Q.add (toNat 0*1)) λq'=>bk.NW d λB h'=>bk.cR h' (AA B 0) ⟨q',none,0,0,none,0,0,none,0,0⟩ λi'=>((0:Int)<=1/\1<=(T:Int))/\∃(I:iT)(M:iW),I 0 i'/\∀t H,I t H->ite (decide (t<((T - (toNat 1):Nat):Int))) (((0:Int)<=t/\t<((T - (toNat 1):Nat):Int))/\aJ (bV g n' (toNat 1) 1) λS=>jZ H (S.add (toNat t*1)) λi=>((0:Int)<=t/\t<((c.size:Nat):Int))/\ay (λ(ok:Bool) f=>ite (!ok) (bk.cR f (AA b 0) bk.S.z λl=>bk.ck l (AA b 0) λl'=>R (.T #[l'.agg,.B false]) l) ((I (wrap .i64 (t+1)) f/\M (wrap .i64 (t+1)) f<M t H))) (λP=>ay (λ(j':Bool) X=>P j' X) (λj=>ite ((((c.data.toList.getD (toNat t) 0).toNat:Nat):Int)==110) (Cl 46 #[.S i] H λx' m=> ∃z A,x'=.T #[.U z,.B A]/\Hl m B 1 λt' s' r'=>aT m (.C #[.U z] 62) λU Z=>ij (Builtin.append_ #[68,68] 68 #[.L t' s' r',.L (Sa U 0) 1 1]) Z λy' a'=> ∃E D C,y'=.L E D C/\aI a' (AA B 1) (.L E D C) λb'=>j A b') (ay (λ(k':Bool) c'=>j k' c') (λk=>ite ((((c.data.toList.getD (toNat t) 0).toNat:Nat):Int)==98) (Cl 47 #[.S i] H λz' d'=> ∃L G F O,z'=.T #[.L L G F,.B O]/\aI d' (AA B 2) (.L L G F) λe'=>k O e') (Cl 48 #[.S i] H λA' f'=> ∃w v u y,A'=.T #[.L w v u,.B y]/\aI f' (AA B 3) (.L w v u) λg'=>k y g')))))) (bk.ck H (AA B 0) λu'=>bk.cR H (AA b 0) u' λo=>bk.ck o (AA b 0) λm'=>R (.T #[m'.agg,.B true]) o))) (λJ=>ite (!r) (J true p) (J ((T:Int) !=(wrap .i64 (((c.size:Nat):Int)+1))) p))):Cl 31 #[.S s] h R:=aD [(8,.join [(29,sB)]),(20,.loop [(38,sI)]),(34,.join [(6,sB)]),(37,.join [(6,sB)]),(45,.join [(6,sB)])] hv
def DQ{a:bH}{L l:Nat}(g:ite (e !=0) (Cl 24 #[.I e] h λv H=> ∃t,v=.S t/\(((⟨#[101,114,114,32]⟩:bC).size+t.size:Nat):Int)<=IntKind.max .i64/\R (.S ((⟨#[101,114,114,32]⟩:bC)++t)) H) (aT h (.C #[.S (⟨#[111,107]⟩:bC)] 9) λb c=>ij (Builtin.append_ #[40,40] 40 #[.L (Sa b 0) 1 1,.L a L l]) c λV d=>Vl V λk j i=>Cl 98 #[.L k j i,.S (⟨#[32]⟩:bC)] d λm f=> ∃T,m=.S T/\R (.S T) f)):Cl 51 #[.I e,.L a L l] h R:=aD [] g
def BG{n:Int}(d:Cl 24 #[.I n] h λv H=> ∃t,v=.S t/\aT H (.C #[.S t] 9) λb a=>Cl 51 #[.I e,.L (Sa b 0) 1 1] a λV c=> ∃T,V=.S T/\R (.S T) c):Cl 49 #[.I n,.I e] h R:=aD [] d
def DR{c:bH}{B g:Nat} (l:ite ((B:Int)==0) (R (.S (⟨#[45]⟩:bC)) h) (aT h (.C #[.Q none,.Z] 203) λb i=> ∃(I:iT)(m:iW),I 0 i/\∀t H,I t H->ite (decide (t<(B:Int))) (Bd t B/\aJ c λa=>Ji H (a.add (toNat t*1)) λT=>((0:Int)<=Int.fdiv T (2 ^ min (toNat 4) (IntKind.bits .u8))/\Int.fdiv T (2 ^ min (toNat 4) (IntKind.bits .u8))<(((⟨#[48,49,50,51,52,53,54,55,56,57,97,98,99,100,101,102]⟩:bC).size:Nat):Int))/\Cl 113 #[.P b 0,.int .u8 ((((⟨#[48,49,50,51,52,53,54,55,56,57,97,98,99,100,101,102]⟩:bC).data.toList.getD (toNat (Int.fdiv T (2 ^ min (toNat 4) (IntKind.bits .u8)))) 0).toNat:Nat):Int)] H λv j=> ∃n,v=n/\((0:Int)<=wrap .u8 ((vq T &&& vq 15).toNat:Int)/\wrap .u8 ((vq T &&& vq 15).toNat:Int)<(((⟨#[48,49,50,51,52,53,54,55,56,57,97,98,99,100,101,102]⟩:bC).size:Nat):Int))/\Cl 113 #[.P b 0,.int .u8 ((((⟨#[48,49,50,51,52,53,54,55,56,57,97,98,99,100,101,102]⟩:bC).data.toList.getD (toNat (wrap .u8 ((vq T &&& vq 15).toNat:Int))) 0).toNat:Nat):Int)] j λV d=> ∃o,V=o/\(I (wrap .i64 (t+1)) d/\m (wrap .i64 (t+1)) d<m t H)) (Cl 114 #[.P b 0] H λp k=> ∃f,p=.S f/\R (.S f) k))):Cl 59 #[.L c B g] h R:=aD [(16,.loop [(11,sI)])] l

end
section
namespace Cb
inductive Tr where
 |mk (k:Int) (n:Nat) (b:cO) (l:List Tr)
namespace Tr
def k:Tr->Int| .mk k _ _ _=>k
def n:Tr->Nat| .mk _ n _ _=>n
def b:Tr->cO| .mk _ _ b _=>b
def l:Tr->List Tr| .mk _ _ _ l=>l
end Tr
abbrev num(n:Nat):Tr:=.mk 0 n [] []
abbrev rW(b:cO):Tr:=.mk 2 0 b []
abbrev wW(l:List Tr):Tr:=.mk 4 0 [] l
def MQ:Tr:=.mk 0 0 [] []
mutual
def pG:Tr->Tr->Bool
 | .mk k n b l,.mk k' n' b' l'=>decide (k=k') && decide (n=n') && decide (b=b') && vJ l l'
def vJ:List Tr->List Tr->Bool
 | [], []=>true
 |t::ts,u::us=>pG t u && vJ ts us
 |_,_=>false
end
mutual
theorem SZ: ∀(a b:Tr),pG a b=true↔a=b
 | .mk k n b l,.mk k' n' b' l'=>by simp only[pG,Bool.and_eq_true,decide_eq_true_eq,DT,Tr.mk.injEq,and_assoc]
theorem DT: ∀(a b:List Tr),vJ a b=true↔a=b
 | [], []=>by simp[vJ]
 |t::ts,u::us=>by simp only[vJ,Bool.and_eq_true,SZ t u,DT ts us,List.cons.injEq]
 | [],u::us=>by simp[vJ]
 |t::ts, []=>by simp[vJ]
end
def Qq(V:mv)(k:Int)(n:Nat)(b:cO)(l:List Tr):Bool:=
 if k=0 then b.isEmpty && l.isEmpty else if k=2 then decide (n=0) && l.isEmpty else if k=3 then decide (n=0) && l.isEmpty && V b else if k=4 then decide (n=0) && b.isEmpty else false
mutual
def oC (V:mv):Tr->Int->Int->Int
 | .mk k n b l,d,left=>if d>6\/left<1 then -1 else if Qq V k n b l=true then ni V l (d+1) (left - 1)else -1
def ni (V:mv):List Tr->Int->Int->Int
 | [],_,left=>left
 |t::ts,d,left=>if oC V t d left<0 then -1 else ni V ts d (oC V t d left)
end
mutual
theorem JO {V:mv} : ∀ {t:Tr} {d left:Int},oC V t d left= -1\/0<=oC V t d left/\oC V t d left<left
 | .mk k n b l,d,left=>by unfold oC;split;exact .inl rfl;split;rcases GQ (V:=V) (ts:=l) (d:=d+1) (left:=left - 1) ae with h|h;exact .inl h;exact .inr ae;exact .inl rfl
theorem GQ {V:mv} : ∀ {ts:List Tr} {d left:Int},0<=left->ni V ts d left= -1\/0<=ni V ts d left/\ni V ts d left<=left
 | [],d,left,hl=>by unfold ni;exact .inr ⟨hl,Int.le_refl _⟩
 |t::ts,d,left,hl=>by unfold ni;split;exact .inl rfl;rcases JO (V:=V) (t:=t) (d:=d) (left:=left)with h1|h1;omega;rcases GQ (V:=V) (ts:=ts) (d:=d) (left:=oC V t d left) ae with h|h;exact .inl h;exact .inr ae
end
def iq(V:mv)(t:Tr):Bool:=decide (oC V t 1 256≥0)
def JP(n:Nat):Nat:=if n<24 then 0 else if n<256 then 1 else if n<65536 then 2 else if n<4294967296 then 4 else 8
def BH(n:Nat):Nat:=if n<24 then n else if n<256 then 24 else if n<65536 then 25 else if n<4294967296 then 26 else 27
def JI(k n:Nat):cO:=(List.range k).map λi=>UInt8.ofNat (n/2 ^ (8*(k - 1 - i)))
def Qr(m:Int)(n:Nat):cO:=if 0<=m/\m<=7 then UInt8.ofNat (32*m.toNat+BH n)::JI (JP n) n else []
def MR(n:Nat):JP n<=8:=by unfold JP;repeat (first|omega|split)
def lE(k n:Nat):(JI k n).length=k:=by simp[JI]
def MS(m:Int)(n:Nat):(Qr m n).length<=9:=by unfold Qr;split;rw[bw,lE];have:=MR n;omega;simp
def Um(l:cO):Nat:=l.foldl (λv b=>v*256+b.toNat) 0
def JQ(l:cO)(b:UInt8):Um (l++ [b])=Um l*256+b.toNat:=by simp[Um]
theorem Qs(l:cO):Um l<256 ^ l.length:=by
 suffices h: ∀(n:Nat)(l:cO),l.length=n->Um l<256 ^ n from h _ l rfl
 intro n;induction n with
 |zero=>intro l H;rw[List.length_eq_zero_iff.1 H];simp[Um]
 |succ n i=>intro l H;obtain⟨a,b,rfl⟩: ∃a b,l=a++ [b]:=⟨l.dropLast,l.getLast (by grind),(List.dropLast_concat_getLast _).symm⟩;have:=i a (by grind);rw[JQ,Nat.pow_succ];have:=b.toNat_lt;omega
def yg(m:Nat):Bool:=decide (2<=m/\m<=5)||decide (m=7)
def IW(b:cO)(pos:Nat):Except Int (Nat×Nat×Bool×Nat):=
 match b[pos]? with
 |none=> .error 8
 |some x=>
  if x.toNat%32<24 then .ok (x.toNat/32,x.toNat%32,false,pos+1)
  else if x.toNat%32=31/\yg (x.toNat/32)=true then .ok (x.toNat/32,0,true,pos+1)
  else if x.toNat%32>27 then .error 3
  else if pos+1+2 ^ (x.toNat%32 - 24)>b.length then .error 8
  else .ok (x.toNat/32,Um ((b.drop (pos+1)).take (2 ^ (x.toNat%32 - 24))),false,pos+1+2 ^ (x.toNat%32 - 24))
theorem DU{b:cO}{pos m n a:Nat}{o:Bool}(h:IW b pos=.ok (m,n,o,a)):pos<a/\a<=b.length/\n<18446744073709551616/\m<8/\pos<b.length:=by
 unfold IW at h;split at h;cases h
 .rename_i x d;have c:=(aS.1 d).1;have:=x.toNat_lt;split at h;cases h;omega
  .split at h
   grind
   .split at h
    cases h
    .split at h
     cases h
     .rename_i H f g i;cases h;have:((b.drop (pos+1)).take (2 ^ (x.toNat%32 - 24))).length<=8:=by
       rw[bM];have:x.toNat%32 - 24=0\/x.toNat%32 - 24=1\/x.toNat%32 - 24=2\/x.toNat%32 - 24=3:=ae
       rcases this with e|e|e|e<;>rw[e]<;>omega
      have:=Nat.pow_le_pow_right (n:=256) ae this;have H:1<=2 ^ (x.toNat%32 - 24):=Nat.one_le_two_pow;refine⟨ae,ae,?_,ae,c⟩
      calc _<_:=(Qs ((b.drop (pos+1)).take (2 ^ (x.toNat%32 - 24))))
       _<=_:=this
       _=18446744073709551616:=bA
def nt(V:mv)(b:cO)(pos m n:Nat):Except Int (cO):=
 if n<=b.length - pos then(if m≠3\/V ((b.drop pos).take n)=true then .ok ((b.drop pos).take n)else .error 3)else .error 8
def yh(b:cO)(pos:Nat):Bool:=match b[pos]? with|some x=>decide (x.toNat=255)|none=>false
def JR(V:mv)(b:cO)(m:Nat):Nat->Nat->cO->Except Int (cO×Nat)
 |0,_,_=> .error 8
 |k+1,pos,a=>if yh b pos=true then .ok (a,pos+1)else match IW b pos with
  | .error e=> .error e
  | .ok (M,n,o,c)=>if M=m/\o=false then(match nt V b c M n with| .error e=> .error e| .ok w=>JR V b m k (c+n) (a++w))else .error 3
def Io(V:mv)(b:cO)(pos m n:Nat)(o:Bool):Except Int (cO×Nat):=
 match o with
 |true=>JR V b m (b.length+1) pos []
 |false=>match nt V b pos m n with| .error e=> .error e| .ok w=> .ok (w,pos+n)
abbrev RF:=Nat->Nat->Except Int (Tr×Nat×Nat)
def A8(b:cO)(f:RF):Nat->Nat->Nat->List Tr->Except Int (List Tr×Nat×Nat)
 |0,_,_,_=> .error 8
 |k+1,pos,left,T=>if yh b pos=true then .ok (T,pos+1,left)else match f pos left with
  | .error e=> .error e
  | .ok (t,n,lf)=>A8 b f k n lf (T++ [t])
def yi(f:RF):Nat->Nat->Nat->List Tr->Except Int (List Tr×Nat×Nat)
 |0,pos,left,T=> .ok (T,pos,left)
 |k+1,pos,left,T=>match f pos left with
  | .error e=> .error e
  | .ok (t,n,lf)=>yi f k n lf (T++ [t])
def oD(b:cO)(f:RF)(pos left n:Nat)(o:Bool):Except Int (List Tr×Nat×Nat):=
 match o with
 |true=>A8 b f (b.length+1) pos left []
 |false=>if n<=b.length - pos then yi f n pos left []else .error 8
def hY(V : cO -> Bool)(b : cO): Nat -> RF
  | lv, pos, left => match IW b pos with
    | .error e => .error e
    | .ok (m, n, o, a) => if m = 0 \/ m = 2 \/ m = 3 \/ m = 4 then (match lv with
      | 0 => .error 9
      | lv + 1 => if left = 0 then .error 2 else if m = 0 then .ok (num n, a, left - 1)
        else if m = 4 then (match oD b (hY V b lv) a (left - 1) n o with | .error e => .error e | .ok (t, p, lf) => .ok (wW t, p, lf))
        else (match Io V b a m n o with | .error e => .error e | .ok (w, p) => .ok (.mk m 0 w [], p, left - 1))) else .error 3
def rL(V:mv)(b:cO):Except Int (Tr×Nat):=match hY V b 6 0 256 with| .error e=> .error e| .ok (t,n,_)=> .ok (t,n)
mutual
def room:Tr->Nat
 | .mk _ _ b l=>9+b.length+dG l
def dG:List Tr->Nat
 | []=>0
 |t::ts=>room t+dG ts
end
-- ZN deep an item is
mutual
def deep:Tr->Nat
 | .mk _ _ _ l=>1+MT l
def MT:List Tr->Nat
 | []=>0
 |t::ts=>max (deep t) (MT ts)
end
def iB{a b:List Tr}:dG (a++b)=dG a+dG b:=by
 induction a with
 |nil=>simp[dG]
 |cons t a i=>simp only[eH,dG,i];omega
theorem vA{t:Tr}{l:List Tr}(h:t∈l):deep t<=MT l:=by
 induction l with
 |nil=>cases h
 |cons u l i=>simp only[MT];rcases bG.1 h with rfl|h;omega;grind
def AY(k:Int)(n:Nat)(b:cO)(l:List Tr):Nat:=if k=2\/k=3 then b.length else if k=4 then l.length else n
mutual
def enc:Tr->cO
 | .mk k n b l=>Qr k (AY k n b l)++b++BI l
def BI:List Tr->cO
 | []=> []
 |t::ts=>enc t++BI ts
end
mutual
theorem mD: ∀(t:Tr),(enc t).length<=room t
 | .mk k n b l=>by simp only[enc,room,List.length_append];have:=MS k (AY k n b l);have:=DV l;omega
theorem DV: ∀(l:List Tr),(BI l).length<=dG l
 | []=>Nat.zero_le _
 |t::ts=>by simp only[BI,dG,List.length_append];have:=mD t;have:=DV ts;omega
end
def Oh(l:List Tr)(t:Tr):BI (l++ [t])=BI l++enc t:=by
 induction l with
 |nil=>simp[BI]
 |cons u l i=>simp only[eH,BI,i,cP]
theorem S0{V:mv}{b:cO}{m:Nat}: ∀(k pos:Nat)(a w:cO)(n:Nat),pos<=b.length->JR V b m k pos a=.ok (w,n)->w.length+pos<=a.length+n/\pos<n/\n<=b.length:=by
 intro k;induction k with
 |zero=>intro pos a w n _ h;cases h
 |succ k i=>
  intro pos a w n f h;unfold JR at h;split at h;rename_i c;cases h;unfold yh at c;split at c;grind;cases c;split at h
  cases h;rename_i M g o j d;have e:=DU d;split at h;split at h
  cases h;rename_i v H;unfold nt at H;split at H;split at H
  cases H;have:=i _ _ _ _ ae h;rw[ak,bM,cj]at this;omega;cases H;cases H;cases h
def Vf(b:cO)(f:RF):Prop:= ∀pos left t n lf,pos<=b.length->f pos left=.ok (t,n,lf)->room t<=10*(n - pos)/\pos<n/\n<=b.length/\lf<=left
theorem Qt{b:cO}{f:RF}(c:Vf b f): ∀(k pos left:Nat)(T u:List Tr)(n lf:Nat),pos<=b.length->A8 b f k pos left T=.ok (u,n,lf)->dG u+10*pos<=dG T+10*n/\pos<=n/\n<=b.length/\lf<=left:=by
 intro k;induction k with
 |zero=>intro pos left T u n lf _ h;cases h
 |succ k i=>
  intro pos left T u n lf e h;unfold A8 at h;split at h;rename_i H;cases h;unfold yh at H;split at H;grind;cases H;split at h
  cases h;rename_i t j l d;have g:=c _ _ _ _ _ e d;have a:=i _ _ _ _ _ _ ae h;rw[iB]at a;simp only[dG]at a;omega
def Qu{b:cO}{f:RF}(a:Vf b f): ∀(k pos left:Nat)(T u:List Tr)(n lf:Nat),pos<=b.length->yi f k pos left T=.ok (u,n,lf)->dG u+10*pos<=dG T+10*n/\pos<=n/\n<=b.length/\lf<=left:=by
 intro k;induction k with
 |zero=>intro pos left T u n lf _ h;cases h;omega
 |succ k i=>intro pos left T u n lf d h;unfold yi at h;split at h;cases h;rename_i t g l c;have e:=a _ _ _ _ _ d c;have H:=i _ _ _ _ _ _ ae h;rw[iB]at H;simp only[dG]at H;omega
theorem JS{V:mv}{B:cO}: ∀l,Vf B (hY V B l):=by
 intro l;induction l with
 |zero=>intro pos left t a lf f h;unfold hY at h;split at h;cases h;grind
 |succ l i=>
  intro pos left t a lf f h;unfold hY at h;split at h;cases h;rename_i m n o c e;have g:=DU e;split at h;dsimp only at h;split at h;cases h;split at h;cases h;simp only[room,dG,bZ];omega;split at h;split at h;cases h;rename_i T p L H;cases h;have:dG T+10*c<=10*a/\c<=a/\a<=B.length/\lf<=left - 1:=by unfold oD at H;split at H;have:=Qt i _ _ _ _ _ _ _ ae H;simpa[dG]using this;split at H;have:=Qu i _ _ _ _ _ _ _ ae H;simpa[dG]using this;cases H
  simp only[room,bZ];omega;split at h;cases h;rename_i w p b;cases h;have:w.length+c<=a/\c<=a/\a<=B.length:=by unfold Io at b;split at b;have:=S0 _ _ _ _ _ ae b;simp only[bZ]at this;omega;split at b;cases b;rename_i v d;cases b;unfold nt at d;split at d;grind;cases d
  simp only[room,dG];omega;cases h
theorem Ip{b:cO}{pos:Nat}{e:Int}(h:IW b pos=.error e):e≠0:=by unfold IW at h;repeat grind
theorem DW{V:mv}{b:cO}{pos m n:Nat}{e:Int}(h:nt V b pos m n=.error e):e≠0:=by unfold nt at h;repeat grind
theorem Qv{V:mv}{b:cO}{m:Nat}{e:Int}: ∀(k pos:Nat)(a:cO),JR V b m k pos a=.error e->e≠0:=by
 intro k;induction k with
 |zero=>intro pos a h;cases h;decide
 |succ k i=>
  intro pos a h;unfold JR at h;split at h;cases h;split at h
  rename_i H;cases h;exact Ip H;split at h
  split at h
  rename_i H;cases h;exact DW H;grind;grind
def YP(f:RF):Prop:= ∀pos left e,f pos left=.error e->e≠0
theorem Oi{b:cO}{f:RF}(a:YP f){pos left n:Nat}{o:Bool}{e:Int}(h:oD b f pos left n o=.error e):e≠0:=by
 have O: ∀(k pos left:Nat)(t:List Tr),A8 b f k pos left t=.error e->e≠0:=by
  intro k;induction k with
  |zero=>intro pos left t h;cases h;decide
  |succ k i=>intro pos left t h;unfold A8 at h;split at h;cases h;split at h;rename_i H;cases h;exact a _ _ _ H;grind
 have m: ∀(k pos left:Nat)(t:List Tr),yi f k pos left t=.error e->e≠0:=by
  intro k;induction k with
  |zero=>intro pos left t h;cases h
  |succ k i=>intro pos left t h;unfold yi at h;split at h;rename_i H;cases h;exact a _ _ _ H;exact i _ _ _ h
 unfold oD at h;split at h;grind;grind
theorem Oj{V:mv}{b:cO}: ∀l,YP (hY V b l):=by
 intro l;induction l with
 |zero=>intro pos left e h;unfold hY at h;split at h;rename_i H;cases h;exact Ip H;grind
 |succ l i=>
  intro pos left e h;unfold hY at h;split at h;rename_i H;cases h;exact Ip H;split at h;dsimp only at h;split at h;grind;split at h;cases h;split at h;split at h
  rename_i H;cases h;exact Oi i H;cases h;split at h;rename_i H;cases h;unfold Io at H;split at H;exact Qv _ _ _ H;split at H;rename_i a;cases H;exact DW a;cases H;cases h;cases h;decide
def vB{V:mv}{b:cO}{e:Int}(h:rL V b=.error e):e≠0:=by unfold rL at h;split at h;rename_i H;cases h;exact Oj 6 _ _ _ H;cases h
def DX{V:mv}{b:cO}{t:Tr}{n:Nat}(h:rL V b=.ok (t,n)):room t<=10*b.length/\n<=b.length:=by unfold rL at h;split at h;cases h;rename_i t a lf H;cases h;have:=JS 6 _ _ _ _ _ (bg _) H;omega
end Cb
end
section
namespace Cb
structure CV where
 k:Int
 n:Nat
 v:BV
 q:bH
 ll:Nat
 cl:Nat
abbrev jr(x:CV):List Value:= [.int .i64 x.k,.int .u64 (x.n:Int),x.v.val,.slice x.q x.ll x.cl]
def gI(x:CV):(jr x).length=4:=rfl
abbrev CV.agg(x:CV):Value:=.agg (jr x).toArray
structure ny (h:Heap) (D:fZ) (q:bH) (l c:Nat) (ys:List CV):Prop where
 len:l=ys.length
 row:Row h q (ys.flatMap jr)
 own:ys≠ []->∀y,aN q y->D y
 cap:l<=c
mutual
def hM (h:Heap) (D:fZ):Tr->CV->Prop
 | .mk k n b l,x=>(x.k=k/\x.n=n/\x.v.b=b/\x.v.ok h D)/\∃ys,ny h D x.q x.ll x.cl ys/\dT h D l ys
def dT (h:Heap) (D:fZ):List Tr->List CV->Prop
 | [], []=>True
 |t::ts,y::ys=>hM h D t y/\dT h D ts ys
 |_,_=>False
end
variable {h a : Heap} {D D' : Nat → Prop}
def ny.frame{Q:fZ}{q:bH}{l c:Nat}{b:List CV}(H:ny h D q l c b)(f:Fr Q h a)(d: ∀y,D y->¬Q y):ny a D q l c b:=by refine⟨H.len,?_,H.own,H.cap⟩;by_cases e:b= [];subst e;exact Row.nil;exact H.row.frame f (λA E=>d _ (H.own e _ ⟨A,E,rfl⟩))
def ny.mono{q:bH}{l c:Nat}{b:List CV}(H:ny h D q l c b)(d: ∀y,D y->D' y):ny h D' q l c b:=⟨H.len,H.row,λe y f=>d y (H.own e y f),H.cap⟩
theorem ny.lt{q:bH}{l c:Nat}{b:List CV}(H:ny h D q l c b):ny h (λy=>D y/\y<h.size) q l c b:=⟨H.len,H.row,λe y d=>⟨H.own e y d,jT H.row (by cases b with|nil=>grind|cons=>simp) d⟩,H.cap⟩
theorem MU{x:BV}(H:x.ok h D):x.ok h (λy=>D y/\y<h.size):=⟨H.row,λe y b=>⟨H.own e y b,jT H.row (by cases c:x.b with|nil=>grind|cons=>simp[bc]) b⟩,H.cap⟩
mutual
theorem hM.frame {Q:fZ} (f:Fr Q h a) (hq: ∀y,D y->¬Q y): ∀ {t:Tr} {x:CV},hM h D t x->hM a D t x
 | .mk k n b l,x,H=>by unfold hM at H⊢;obtain⟨⟨h1,h2,h3,h4⟩,ys,h5,h6⟩:=H;exact⟨⟨h1,h2,h3,h4.frame f hq⟩,ys,h5.frame f hq,dT.frame f hq h6⟩
theorem dT.frame {Q:fZ} (f:Fr Q h a) (hq: ∀y,D y->¬Q y): ∀ {ts:List Tr} {ys:List CV},dT h D ts ys->dT a D ts ys
 | [], [],_=>trivial
 |t::ts,y::ys,H=>by unfold dT at H⊢;exact⟨hM.frame f hq H.1,dT.frame f hq H.2⟩
 | [],_::_,H=>by unfold dT at H;exact H.elim
 |_::_, [],H=>by unfold dT at H;exact H.elim
end
mutual
theorem hM.mono (hd: ∀y,D y->D' y): ∀ {t:Tr} {x:CV},hM h D t x->hM h D' t x
 | .mk k n b l,x,H=>by unfold hM at H⊢;obtain⟨⟨h1,h2,h3,h4⟩,ys,h5,h6⟩:=H;exact⟨⟨h1,h2,h3,h4.mono hd⟩,ys,h5.mono hd,dT.mono hd h6⟩
theorem dT.mono (hd: ∀y,D y->D' y): ∀ {ts:List Tr} {ys:List CV},dT h D ts ys->dT h D' ts ys
 | [], [],_=>trivial
 |t::ts,y::ys,H=>by unfold dT at H⊢;exact⟨hM.mono hd H.1,dT.mono hd H.2⟩
 | [],_::_,H=>by unfold dT at H;exact H.elim
 |_::_, [],H=>by unfold dT at H;exact H.elim
end
mutual
theorem hM.lt: ∀ {t:Tr} {x:CV},hM h D t x->hM h (λy=>D y/\y<h.size) t x
 | .mk k n b l,x,H=>by unfold hM at H⊢;obtain⟨⟨h1,h2,h3,h4⟩,ys,h5,h6⟩:=H;exact⟨⟨h1,h2,h3,MU h4⟩,ys,h5.lt,dT.lt h6⟩
theorem dT.lt: ∀ {ts:List Tr} {ys:List CV},dT h D ts ys->dT h (λy=>D y/\y<h.size) ts ys
 | [], [],_=>trivial
 |t::ts,y::ys,H=>by unfold dT at H⊢;exact⟨hM.lt H.1,dT.lt H.2⟩
 | [],_::_,H=>by unfold dT at H;exact H.elim
 |_::_, [],H=>by unfold dT at H;exact H.elim
end
def hM.on{t:Tr}{x:CV}(H:hM h D t x)(f:Fr No h a):hM a D t x:=hM.frame f bD H
def dT.on{t:List Tr}{y:List CV}(H:dT h D t y)(f:Fr No h a):dT a D t y:=dT.frame f bD H
def dT.len: ∀{T:List Tr}{b:List CV},dT h D T b->T.length=b.length
 | [], [],_=>rfl
 |t::T,y::b,H=>by rw[bw,bw,dT.len H.2]
 | [],_::_,H=>by exact H.elim
 |_::_, [],H=>by exact H.elim
theorem dT.get: ∀{T:List Tr}{c:List CV}{i:Nat}{y:CV},dT h D T c->c[i]? =some y->∃t,T[i]? =some t/\hM h D t y
 | [], [],_,_,_,b=>by simp at b
 |t::T,y::c,0,z,H,b=>by cases b;exact⟨t,rfl,H.1⟩
 |t::T,y::c,i+1,z,H,b=>by have⟨u,e,d⟩:=dT.get H.2 b;exact⟨u,by grind,d⟩
 | [],_::_,_,_,H,_=>by exact H.elim
 |_::_, [],_,_,H,_=>by grind
def dT.snoc: ∀{T:List Tr}{c:List CV}{t:Tr}{y:CV},dT h D T c->hM h D t y->dT h D (T++ [t]) (c++ [y])
 | [], [],_,_,_,b=>by exact⟨b,trivial⟩
 |u::T,z::c,t,y,H,b=>by exact⟨H.1,dT.snoc H.2 b⟩
 | [],_::_,_,_,H,_=>by exact H.elim
 |_::_, [],_,_,H,_=>by exact H.elim
def dT.take: ∀{T:List Tr}{b:List CV}(n:Nat),dT h D T b->dT h D (T.take n) (b.take n)
 | [], [],n,_=>by simp[dT]
 |t::T,y::b,0,_=>by simp[dT]
 |t::T,y::b,n+1,H=>by exact⟨H.1,dT.take n H.2⟩
 | [],_::_,_,H=>by exact H.elim
 |_::_, [],_,H=>by exact H.elim
theorem dT.drop: ∀{T:List Tr}{b:List CV}(n:Nat),dT h D T b->dT h D (T.drop n) (b.drop n)
 | [], [],n,_=>by grind
 |t::T,y::b,0,H=>H
 |t::T,y::b,n+1,H=>by exact dT.drop n H.2
 | [],_::_,_,H=>by exact H.elim
 |_::_, [],_,H=>by exact H.elim
end Cb
end
section
variable {h:Heap} {R:dH}
variable {E:dH} {r C f g b d:Nat} {c H D v n:Int} {a:Bool} {K:Option Value->Heap->Prop} {B:bH}
def DY{i:Bool}{e:Int}(j:ite (!i) (E (.iface 453 (.agg #[.I e])) h) (R (.T #[]) h)):iX Tryz.prog 382 #[.B i,.I e] h R E:=ig (lq (cq lf lf)) Lk Tryz.func382 rfl rfl (Eq.mp zzkr j)
def rX(X:aT h (.C #[.I 0,.U 0,.B false] 531) λl H=>ay (λ(a:bH) (next:Int) (e:Int) P=>Ce 382 #[.B (e==0),.I e] P (λf' Q=>f'=.T #[]/\aI Q (AA r 1) (.I next) λp=>aJ a λL=>bp.LD p L λc' d' e'=>bp.ST p (AA l 0) c' d' e' λq=>bp.LD q (AA l 0) λZ a' b'=>R (.agg #[.I Z,.U a',.B b']) q) E) (λJ=>Hl H r 0 λj T t=>Hi H r 1 λk=>(Cl 454 #[.L j T t,.I k] H λg' S=> ∃s w y A G,g'=.T #[.agg #[.I s,.U w,.B y],.I A,.I G]/\aT S (.C #[.I 0,.U 0,.B false] 531) λm U=>bp.ST U (AA m 0) s w y λV=>([]:List Deferred)= []/\J (Sa m 0) A G V)/\(aT H (.C #[.I 0,.U 0,.B false] 531) λo i=>Cc i r 1 (.I k)/\Cc i r 0 (.L j T t)/\Cl 454 #[.L j T t,.I k] i λh' M=> ∃u x z F I,h'=.T #[.agg #[.I u,.U x,.B z],.I F,.I I]/\bp.ST M (AA o 0) u x z λO=>([]:List Deferred)= []/\J (Sa o 0) F I O)/\True)):iX Tryz.prog 381 #[.P r 0] h R E:=ig (lq (sq (.join [(3,.one (.ptr)),(4,.one (.int .i64)),(5,.one (.int .i64))] (.pn (fE 8 0 (.alts (.fork 8 (fE 8 9 .done) (.fork 13 (.op 8 (.op 9 (.op 10 (.op 11 (.op 12 (.op 14 (.op 15 (.op 16 .done)))))))) .iH)))))) (lq (lq ll)))) Lk Tryz.func381 rfl rfl (Eq.mp zzkr X)
def rY (j:ay (λ(p:Bool) H=>ite p (∃i,Cc H r 1 (.I i)/\aI H (AA r 1) (.I (wrap .i64 (i+1))) λa=>R (.B true) a) (R (.B false) H)) (λJ=>Hi h r 1 λq=> ∃l t k,Cc h r 0 (.L l t k)/\ite (decide (q<((t:Nat):Int))) (Hl h r 0 λo m s=>Hi h r 1 λT=>Bd T m/\aJ o λA=> ∃e,aQ h (A.add (toNat T*1))=some (.int .u8 e)/\J (e==255) h) (J false h))):Cl 455 #[.P r 0] h R:=aD [(4,.join [(25,sB)]),(4,λ_=>pN 23)] j
theorem qP (Q:aT h (.C #[.I c,.U H,.B a] 531) λi H=> ∃w,Cc H i 1 (.U w)/\∃y m x,Cc H r 0 (.L y m x)/\∃o,Cc H r 1 (.I o)/\Ce 382 #[.B (decide (w<=(wrap .u64 (wrap .i64 (((m:Nat):Int) - o))))),.I 8] H (λV a=>V=.T #[]/\Cc a r 1 (.I o)/\Cc a r 0 (.L y m x)/\Cc a i 1 (.U w)/\∃p z k,Cc a r 0 (.L p z k)/\∃t,Cc a r 1 (.I t)/\∃T,Cc a r 1 (.I T)/\∃j,Cc a i 1 (.U j)/\((0:Int)<=wrap .i64 (T+(wrap .i64 j))/\wrap .i64 (T+(wrap .i64 j))<=((k:Nat):Int))/\((0:Int)<=t/\t<=wrap .i64 (T+(wrap .i64 j)))/\Cl 152 #[.slice (bV p k (toNat t) 1) ((toNat (wrap .i64 (T+(wrap .i64 j)))) - (toNat t)) (k - (toNat t))] a λS e=> ∃u s q,S=.L u s q/\Cc e i 1 (.U j)/\Cc e r 1 (.I T)/\Cc e r 1 (.I t)/\Cc e r 0 (.L p z k)/\ay (λl=> ∃G,Cc l r 1 (.I G)/\∃I,Cc l i 1 (.U I)/\aI l (AA r 1) (.I (wrap .i64 (G+(wrap .i64 I)))) λL=>R (.L u s q) L) (λJ=> ∃A,Cc e i 0 (.I A)/\ite (A !=3) (Ce 382 #[.B true,.I 3] e (λU M=>U=.T #[]/\([]:List Deferred)= []/\J M) E) (Cl 513 #[.L u s q] e λX O=> ∃F,X=.B F/\Ce 382 #[.B F,.I 3] O (λZ P=>Z=.T #[]/\([]:List Deferred)= []/\J P) E))) E):iX Tryz.prog 456 #[.P r 0,.agg #[.I c,.U H,.B a]] h R E:=ig (lq (sq (pN 15) (sq (pN 19) (sq (.join [] lf) (sq (pN 11) ll))))) Lk Tryz.func456 rfl rfl (Eq.mp zzkr Q)
def pH (hv:aT h (.C #[.I c,.U H,.B a] 531) λj H=>aT H (.C #[.I 0,.U 0,.Z,.Z] 368) λk a=>Hi a j 0 λt8=>aT a (.C #[.I 0,.U 0,.Z,.Z] 368) λe f'=>aa.ST f' (AA e 0) t8 0 none 0 0 none 0 0 λm=> ∃T,Cc m j 2 (.B T)/\ite (!T) (bp.LD m (AA j 0) λx' y' z'=>Ce 456 #[.P r 0,.agg #[.I x',.U y',.B z']] m (λa1 g'=> ∃A z y,a1=.L A z y/\aI g' (AA e 2) (.L A z y) λw=>aa.LD w (AA e 0) λA' B' E' D' C' H' G' F'=>aa.ST w (AA k 0) A' B' E' D' C' H' G' F' λx=>aa.LD x (AA k 0) λh' j' p' n' l' v' t' r'=>R (.agg #[.I h',.U j',.L p' n' l',.L v' t' r']) x) E) (∃(I:cM)(M:Heap->Nat),I m/\∀p,I p->Cl 455 #[.P r 0] p λa2 q=> ∃F,a2=.B F/\ite (!F) (Ce 381 #[.P r 0] q (λa3 a'=> ∃G L O,a3=.agg #[.I G,.U L,.B O]/\aT a' (.C #[.I 0,.U 0,.B false] 531) λl b'=>bp.ST b' (AA l 0) G L O λi=>ay (λo=>Hl o e 2 λU S Q=>bp.LD o (AA l 0) λK' L' M'=>Ce 456 #[.P r 0,.agg #[.I K',.U L',.B M']] o (λa4 s=>Vl a4 λQ' P' O'=>Cc s e 2 (.L U S Q)/\ij (Builtin.append_ #[69,69] 69 #[.L U S Q,.L Q' P' O']) s λa5 c'=> ∃Z X V,a5=.L Z X V/\aI c' (AA e 2) (.L Z X V) λt=>(([]:List Deferred)= []/\I t/\M t<M p)) E) (λJ=>Hi i l 0 λI'=> ∃P,Cc i j 0 (.I P)/\ite (I'==P) (Hb i l 2 λJ'=>Ce 382 #[.B (!J'),.I 3] i (λa6 d'=>a6=.T #[]/\([]:List Deferred)= []/\J d') E) (Ce 382 #[.B false,.I 3] i (λa7 e'=>a7=.T #[]/\([]:List Deferred)= []/\J e') E))) E) (aa.LD q (AA e 0) λR' S' V' U' T' a0 Z' X'=>aa.ST q (AA k 0) R' S' V' U' T' a0 Z' X' λu=>aa.LD u (AA k 0) λi' k' q' o' m' w' u' s'=>R (.agg #[.I i',.U k',.L q' o' m',.L w' u' s']) u))):iX Tryz.prog 384 #[.P r 0,.agg #[.I c,.U H,.B a]] h R E:=ig (lq (lq (sq (lq (cq (lq ll) lf)) (sq (bq (.loop [] (sq (lq (cq lf lf)) (bq (lq (sq (.join [] lf) (pN 8))))))) ll)))) Lk Tryz.func384 rfl rfl (Eq.mp zzkr hv)
theorem rZ (hv:aT h (.C #[.I c,.U H,.B a] 531) λl H=>aT H (.C #[.I 0,.U 0,.Z,.Z] 368) λm a=>aT a (.C #[.I 0,.U 0,.Z,.Z] 368) λe C'=>aa.ST C' (AA e 0) 4 0 none 0 0 none 0 0 λj=> ∃X,Cc j l 2 (.B X)/\ite X (∃(I:Heap->Prop)(U:Heap->Nat),I j/\∀y,I y->Cl 455 #[.P r 0] y λb3 o=> ∃Z,b3=.B Z/\ite (!Z) (∃q p T,Cc o e 3 (.L q p T)/\Ce 323 #[.P r 0,.I (wrap .i64 (D+1))] o (λb4 Q=> ∃a' b' e' d' c' h' g' f',b4=.agg #[.I a',.U b',.L e' d' c',.L h' g' f']/\Cc Q e 3 (.L q p T)/\aT Q (.C #[.I a',.U b',.L e' d' c',.L h' g' f'] 368) λz' S=>Cc S e 3 (.L q p T)/\ij (Builtin.append_ #[366,366] 366 #[.L q p T,.L (Sa z' 0) 1 1]) S λb5 D'=> ∃k' j' i',b5=.L k' j' i'/\aI D' (AA e 3) (.L k' j' i') λG=>(([]:List Deferred)= []/\I G/\U G<U y)) E) (aa.LD o (AA e 0) λV' X' a1 a0 Z' a4 a3 a2=>aa.ST o (AA m 0) V' X' a1 a0 Z' a4 a3 a2 λJ=>aa.LD J (AA m 0) λE' G' M' K' I' T' R' P'=>R (.agg #[.I E',.U G',.L M' K' I',.L T' R' P']) J)) (∃z,Cc j l 1 (.U z)/\∃m' A l',Cc j r 0 (.L m' A l')/\∃F,Cc j r 1 (.I F)/\Ce 382 #[.B (decide (z<=(wrap .u64 (wrap .i64 (((A:Nat):Int) - F))))),.I 8] j (λb6 k=>b6=.T #[]/\Cc k r 1 (.I F)/\Cc k r 0 (.L m' A l')/\Cc k l 1 (.U z)/\∃n',Cc k l 1 (.U n')/\∃(x:Int->Heap->Prop)(V:Int->Heap->Nat),x 0 k/\∀t i,x t i->ite (decide (t<n')) (∃w u s,Cc i e 3 (.L w u s)/\Ce 323 #[.P r 0,.I (wrap .i64 (D+1))] i (λb7 L=> ∃o' p' s' r' q' v' u' t',b7=.agg #[.I o',.U p',.L s' r' q',.L v' u' t']/\Cc L e 3 (.L w u s)/\aT L (.C #[.I o',.U p',.L s' r' q',.L v' u' t'] 368) λA' M=>Cc M e 3 (.L w u s)/\ij (Builtin.append_ #[366,366] 366 #[.L w u s,.L (Sa A' 0) 1 1]) M λb8 B'=> ∃y' x' w',b8=.L y' x' w'/\aI B' (AA e 3) (.L y' x' w') λO=>(([]:List Deferred)= []/\x (wrap .u64 (t+1)) O/\V (wrap .u64 (t+1)) O<V t i)) E) (aa.LD i (AA e 0) λa5 a6 a9 a8 a7 b2 b1 b0=>aa.ST i (AA m 0) a5 a6 a9 a8 a7 b2 b1 b0 λP=>aa.LD P (AA m 0) λF' H' O' L' J' U' S' Q'=>R (.agg #[.I F',.U H',.L O' L' J',.L U' S' Q']) P)) E)):iX Tryz.prog 383 #[.P r 0,.agg #[.I c,.U H,.B a],.I D] h R E:=ig (lq (lq (sq (lq (cq (sq (bq (.loop [] (sq (lq (cq lf lf)) (bq (pN 10))))) ll) lf)) (sq (pN 15) (sq (lq (bq (.loop [(41,.one (.int .u64))] (lq (sq (cq lf lf) (sq (bq (pN 10)) lf)))))) ll))))) Lk Tryz.func383 rfl rfl (Eq.mp zzkr hv)
def kS (hv:aT h (.C #[.I 0,.U 0,.Z,.Z] 368) λk H=>Ce 381 #[.P r 0] H (λR' a=> ∃X Z a',R'=.agg #[.I X,.U Z,.B a']/\aT a (.C #[.I 0,.U 0,.B false] 531) λe h'=>bp.ST h' (AA e 0) X Z a' λi=>ay (λi'=>Ce 382 #[.B (decide (D<=6)),.I 9] i' (λS' o=>S'=.T #[]/\Hi o r 2 λI'=>Ce 382 #[.B (decide (I'>0)),.I 2] o (λT' p=>T'=.T #[]/\∃u,Cc p r 2 (.I u)/\aI p (AA r 2) (.I (wrap .i64 (u - 1))) λj=> ∃t,Cc j e 0 (.I t)/\ite (t==0) (Hu j e 1 λJ'=>aa.ST j (AA k 0) 0 J' none 0 0 none 0 0 λq=>aa.LD q (AA k 0) λj' m' v' s' p' E' B' y'=>R (.agg #[.I j',.U m',.L v' s' p',.L E' B' y']) q) (ite (t==4) (bp.LD j (AA e 0) λK' L' M'=>Ce 383 #[.P r 0,.agg #[.I K',.U L',.B M'],.I D] j (λU' b'=> ∃w x A z y I G F,U'=.agg #[.I w,.U x,.L A z y,.L I G F]/\aa.ST b' (AA k 0) w x A z y I G F λl=>aa.LD l (AA k 0) λk' n' w' t' q' F' C' z'=>R (.agg #[.I k',.U n',.L w' t' q',.L F' C' z']) l) E) (bp.LD j (AA e 0) λO' P' Q'=>Ce 384 #[.P r 0,.agg #[.I O',.U P',.B Q']] j (λV' c'=> ∃L M Q P O V U S,V'=.agg #[.I L,.U M,.L Q P O,.L V U S]/\aa.ST c' (AA k 0) L M Q P O V U S λm=>aa.LD m (AA k 0) λl' o' x' u' r' G' D' A'=>R (.agg #[.I l',.U o',.L x' u' r',.L G' D' A']) m) E))) E) E) (λJ=> ∃t9,Cc i e 0 (.I t9)/\ite (t9==0) (Ce 382 #[.B true,.I 3] i (λX' d'=>X'=.T #[]/\([]:List Deferred)= []/\J d') E) (∃T,Cc i e 0 (.I T)/\ite (T==2) (Ce 382 #[.B true,.I 3] i (λZ' e'=>Z'=.T #[]/\([]:List Deferred)= []/\J e') E) (∃s,Cc i e 0 (.I s)/\ite (s==3) (Ce 382 #[.B true,.I 3] i (λa0 f'=>a0=.T #[]/\([]:List Deferred)= []/\J f') E) (Hi i e 0 λH'=>Ce 382 #[.B (H'==4),.I 3] i (λa1 g'=>a1=.T #[]/\([]:List Deferred)= []/\J g') E))))) E):iX Tryz.prog 323 #[.P r 0,.I D] h R E:=ig (lq (lq (sq (.join [] lf) (lq (lq (lq (sq (lq (bq (lq (cq ll (lq (cq ll lf)))))) ll))))))) Lk Tryz.func323 rfl rfl (Eq.mp zzkr hv)
def uc(i:aT h (.C #[.I 0] 453) λe H=>aI H (AA e 0) (.I 0) λa=>K none a):tg Tryz.prog 322 #[.P C 0,.P f 0,.P g 0] none h K:=th (lq (lq (cq (pN 6) lf))) Tryz.func322 rfl rfl (Eq.mp zzkr i)
def ud{k:Int}(m:aT h (.C #[.I 0] 453) λe H=>aI H (AA e 0) (.I k) λa=>Hi a e 0 λt=>aa.ST a (AA C 0) 0 0 none 0 0 none 0 0 λi=>Cc i e 0 (.I t)/\aI i (AA f 0) (.I 0) λj=>Cc j e 0 (.I t)/\aI j (AA g 0) (.I t) λl=>K none l):tg Tryz.prog 322 #[.P C 0,.P f 0,.P g 0] (some (.iface 453 (.agg #[.I k]))) h K:=th (lq (lq (cq (pN 6) lf))) Tryz.func322 rfl rfl (Eq.mp zzkr m)
def DZ (X:aT h (.C #[.I 0,.U 0,.Z,.Z] 368) λe H=>aT H (.C #[.I 0] 3) λj a=>aT a (.C #[.I 0] 28) λk q=>ay (λ(z':Bool) s=>ite z' (aa.ST s (AA e 0) 0 0 none 0 0 none 0 0 λP=>aI P (AA j 0) (.I 0) λQ=>aI Q (AA k 0) (.I 1) λl=>aa.LD l (AA e 0) λZ c' l' i' f' u' r' o'=>Hi l j 0 λr1=> ∃t,Cc l k 0 (.I t)/\R (.T #[.agg #[.I Z,.U c',.L l' i' f',.L u' r' o'],.I r1,.I t]) l) (aT s (.C #[.L B b d,.I v,.I 256] 457) λm S=>Ce 323 #[.P m 0,.I 1] S (λI' U=> ∃T x A z y I G F,I'=.agg #[.I T,.U x,.L A z y,.L I G F]/\aa.ST U (AA e 0) T x A z y I G F λo=>aa.LD o (AA e 0) λA' B' E' D' C' H' G' F'=>Hi o m 1 λL=>aa.ST o (AA e 0) A' B' E' D' C' H' G' F' λp=>Cc p m 1 (.I L)/\aI p (AA j 0) (.I L) λM=>aI M (AA k 0) (.I 0) λO=>tg Tryz.prog 322 #[.P e 0,.P j 0,.P k 0] none O (PK (λi=>aa.LD i (AA e 0) λa' d' m' j' g' v' s' p'=>Hi i j 0 λx'=> ∃u,Cc i k 0 (.I u)/\R (.T #[.agg #[.I a',.U d',.L m' j' g',.L v' s' p'],.I x',.I u]) i) E)) (λv_ V=>tg Tryz.prog 322 #[.P e 0,.P j 0,.P k 0] (some v_) V (PK (λi=>aa.LD i (AA e 0) λb' e' n' k' h' w' t' q'=>Hi i j 0 λy'=> ∃w,Cc i k 0 (.I w)/\R (.T #[.agg #[.I b',.U e',.L n' k' h',.L w' t' q'],.I y',.I w]) i) E)))) (λJ=>ite (decide (v<0)) (([]:List Deferred)= []/\J true q) (([]:List Deferred)= []/\J (decide (v>(b:Int))) q))):iX Tryz.prog 253 #[.L B b d,.I v] h R E:=ig (lq (sq (sq (.join [(15,.one (.bool))] lf) (cq ll lf)) (lq (lq (lq (sq (pN 8) lf)))))) Lk Tryz.func253 rfl rfl (Eq.mp zzkr X)
def wX(y:Cl 253 #[.L B b d,.I 0] h λV H=> ∃T j m l k q p o s u,V=.T #[.agg #[.I T,.U j,.L m l k,.L q p o],.I s,.I u]/\aT H (.C #[.I 0,.U 0,.Z,.Z] 368) λi a=>aa.ST a (AA i 0) T j m l k q p o λe=>ite (u==0) (ite (s==(b:Int)) (aa.LD e (AA i 0) λz A I G F M L J=>Cl 402 #[.Z,.agg #[.I z,.U A,.L I G F,.L M L J]] e λS w=>Vl S λQ P O=>Cl 194 #[.L Q P O,.L B b d] w λU x=> ∃t,U=.B t/\R (.B t) x) (R (.B false) e)) (R (.B false) e)):Cl 557 #[.L B b d] h R:=aD [] y
def yj{m:Int}(e:ite (decide (m≥2)) (ite (decide (m<=5)) (R (.B true) h) (R (.B (m==7)) h)) (R (.B (m==7)) h)):Cl 512 #[.I m] h R:=aD [] e
def BJ (l:aT h (.C #[.I c,.U H,.B a] 531) λe H=> ∃k,Cc H e 2 (.B k)/\ite k (bp.LD H (AA e 0) λo p q=>Hi H e 0 λs=> ∃(i:Bool),Lj 531 (.agg #[.I o,.U p,.B q]) (.agg #[.I s,.U 0,.B true]) i/\ite i (Hi H e 0 λm=>Cl 512 #[.I m] H λV a=> ∃t,V=.B t/\R (.B t) a) (R (.B false) H)) (∃T,Cc H e 0 (.I T)/\ite (decide (T≥0)) (∃j,Cc H e 0 (.I j)/\R (.B (decide (j<=7))) H) (R (.B false) H))):Cl 519 #[.agg #[.I c,.U H,.B a]] h R:=aD [] l
def zU (e:ite (decide (n<24)) (R (.I 0) h) (ite (decide (n<256)) (R (.I 1) h) (ite (decide (n<65536)) (R (.I 2) h) (ite (decide (n<4294967296)) (R (.I 4) h) (R (.I 8) h))))):Cl 521 #[.U n] h R:=aD [] e
def D0 (e:Cl 521 #[.U n] h λV H=> ∃t,V=.I t/\ite (t==1) (R (.int .u8 24) H) (ite (t==2) (R (.int .u8 25) H) (ite (t==4) (R (.int .u8 26) H) (ite (t==8) (R (.int .u8 27) H) (R (.int .u8 (wrap .u8 n)) H))))):Cl 520 #[.U n] h R:=aD [] e
def BM (Q:aT h (.C #[.I c,.U H,.B a] 531) λe H=>bp.LD H (AA e 0) λX Z a'=>Cl 519 #[.agg #[.I X,.U Z,.B a']] H λb' a=> ∃z,b'=.B z/\ite (!z) (R (.T #[.Z,.I 3]) a) (∃w,Cc a e 2 (.B w)/\ite w (Hi a e 0 λS=>aT a (.C #[.int .u8 (wrap .u8 ((vq (wrap .u8 ((wrap .u8 S)*2 ^ min (toNat 5) (IntKind.bits .u8)))|||vq 31).toNat:Int))] 5) λA J=>R (.T #[.L (Sa A 0) 1 1,.I 0]) J) (Hi a e 0 λT=>Hu a e 1 λU=>Cl 520 #[.U U] a λc' s=> ∃x,c'=.int .u8 x/\Cc s e 0 (.I T)/\aT s (.C #[.int .u8 (wrap .u8 ((vq (wrap .u8 ((wrap .u8 T)*2 ^ min (toNat 5) (IntKind.bits .u8)))|||vq x).toNat:Int))] 5) λF k=>Cc k e 0 (.I T)/\Hu k e 1 λV=>Cl 521 #[.U V] k λd' L=>Vi d' λl=> ∃(I:bH->Nat->Nat->iT)(M:bH->Nat->Nat->iW),I (Sa F 0) 1 1 0 L/\∀j O o t i,I j O o t i->ite (decide (t<l)) (∃y,Cc i e 1 (.U y)/\if wrap .i64 (8*(wrap .i64 ((wrap .i64 (l - 1)) - t)))<0 then False else aT i (.C #[.int .u8 (wrap .u8 (Int.fdiv y (2 ^ min (toNat (wrap .i64 (8*(wrap .i64 ((wrap .i64 (l - 1)) - t))))) (IntKind.bits .u64))))] 5) λG P=>ij (Builtin.append_ #[69,69] 69 #[.L j O o,.L (Sa G 0) 1 1]) P λe' u=> ∃q p m,e'=.L q p m/\(I q p m (wrap .i64 (t+1)) u/\M q p m (wrap .i64 (t+1)) u<M j O o t i)) (R (.T #[.L j O o,.I 0]) i)))):Cl 469 #[.agg #[.I c,.U H,.B a]] h R:=aD [(18,λ_=>pN 10),(25,.loop [(4,sS),(33,sI)])] Q
def D5 (U:aT h (.C #[.I 0,.U 0,.B false] 531) λe H=>ay (λ(s':Bool) a=>ite s' (bp.ST a (AA e 0) 0 0 false λx=>bp.LD x (AA e 0) λV e' l'=>R (.T #[.agg #[.I V,.U e',.B l'],.I 0,.I 1]) x) (ite (v==(b:Int)) (bp.ST a (AA e 0) 0 0 false λy=>bp.LD y (AA e 0) λX f' m'=>R (.T #[.agg #[.I X,.U f',.B m'],.I 0,.I 8]) y) (Bd v b/\aJ B λL=>Ji a (L.add (toNat v*1)) λt'=>aT a (.C #[.I 0,.U 0,.B false] 531) λi S=>bp.ST S (AA i 0) (wrap .i64 (Int.fdiv t' (2 ^ min (toNat 5) (IntKind.bits .u8)))) 0 false λk=>Bd v b/\aJ B λO=> ∃t,aQ k (O.add (toNat v*1))=some (.int .u8 t)/\ite (decide ((wrap .u8 ((vq t &&& vq 31).toNat:Int))<24)) (aI k (AA i 1) (.U (wrap .u64 (wrap .u8 ((vq t &&& vq 31).toNat:Int)))) λz=>bp.LD z (AA i 0) λu' v' w'=>bp.ST z (AA e 0) u' v' w' λA=>bp.LD A (AA e 0) λZ g' n'=>R (.T #[.agg #[.I Z,.U g',.B n'],.I (wrap .i64 (v+1)),.I 0]) A) (ay (λ(x':Bool) l=>ite x' (aI l (AA i 2) (.B true) λo=>bp.LD o (AA i 0) λz' A' B'=>bp.ST o (AA e 0) z' A' B' λp=>bp.LD p (AA e 0) λa' h' o'=>R (.T #[.agg #[.I a',.U h',.B o'],.I (wrap .i64 (v+1)),.I 0]) p) (ite (decide ((wrap .u8 ((vq t &&& vq 31).toNat:Int))>27)) (bp.ST l (AA e 0) 0 0 false λq=>bp.LD q (AA e 0) λb' i' p'=>R (.T #[.agg #[.I b',.U i',.B p'],.I 0,.I 3]) q) (if wrap .u8 ((wrap .u8 ((vq t &&& vq 31).toNat:Int)) - 24)<0 then False else ite (decide ((wrap .i64 (1*2 ^ min (toNat (wrap .u8 ((wrap .u8 ((vq t &&& vq 31).toNat:Int)) - 24))) (IntKind.bits .i64)))>(wrap .i64 ((b:Int) - (wrap .i64 (v+1)))))) (bp.ST l (AA e 0) 0 0 false λs=>bp.LD s (AA e 0) λc' j' q'=>R (.T #[.agg #[.I c',.U j',.B q'],.I 0,.I 8]) s) (∃(I:iT)(M:iW),I 0 l/\∀T j,I T j->ite (decide (T<(wrap .i64 (1*2 ^ min (toNat (wrap .u8 ((wrap .u8 ((vq t &&& vq 31).toNat:Int)) - 24))) (IntKind.bits .i64))))) (Hu j i 1 λC'=>Bd (wrap .i64 ((wrap .i64 (v+1))+T)) b/\aJ B λP=> ∃G,aQ j (P.add (toNat (wrap .i64 ((wrap .i64 (v+1))+T))*1))=some (.int .u8 G)/\aI j (AA i 1) (.U (wrap .u64 ((ry (wrap .u64 (C'*2 ^ min (toNat 8) (IntKind.bits .u64)))|||ry (wrap .u64 G)).toNat:Int))) λu=>(I (wrap .i64 (T+1)) u/\M (wrap .i64 (T+1)) u<M T j)) (bp.LD j (AA i 0) λD' E' F'=>bp.ST j (AA e 0) D' E' F' λw=>bp.LD w (AA e 0) λd' k' r'=>R (.T #[.agg #[.I d',.U k',.B r'],.I (wrap .i64 ((wrap .i64 (v+1))+(wrap .i64 (1*2 ^ min (toNat (wrap .u8 ((wrap .u8 ((vq t &&& vq 31).toNat:Int)) - 24))) (IntKind.bits .i64))))),.I 0]) w))))) (λm=>ite ((wrap .u8 ((vq t &&& vq 31).toNat:Int))==31) (Hi k i 0 λy'=>Cl 512 #[.I y'] k λG' Q=> ∃F,G'=.B F/\m F Q) (m false k)))))) (λJ=>ite (decide (v<0)) (J true H) (J (decide (v>(b:Int))) H))):Cl 454 #[.L B b d,.I v] h R:=aD [(5,.join [(11,sB)]),(34,.join [(49,sB)]),(62,.loop [(75,sI)]),(73,λ_=>pN 13)] U

end
section
namespace Cb
variable {h H:Heap} {R E:dH} {p:bH} {r l c:Nat} {b:cO}
variable {pos left:Nat}
abbrev S9(e:Int):Value:=.iface 453 (.agg #[.int .i64 e])
structure yZ (h:Heap) (r:Nat) (p:bH) (c:Nat) (b:cO) (pos left:Nat):Prop where
 cV:h[r]? =some (.cells #[.slice p b.length c,.int .i64 (pos:Int),.int .i64 (left:Int)] 457 (0,0))
 row:Row h p (bc b)
 cap:b.length<=c
 pos:pos<=b.length
 ap:b≠ []->¬aN p r
 len:b.length<=1000000
 left:left<=1000000
theorem hN{q:Bool}{e:Int}(k:q=true->R (.T #[]) h)(K:q=false->E (S9 e) h):iX Tryz.prog 382 #[.B q,.I e] h R E:=by
 refine DY ?_;cases q with
 |_=>grind
def yZ.frame{Q:fZ}(d:yZ h r p c b pos left)(f:Fr Q h H)(i: ¬Q r)(j: ∀y,aN p y->b≠ []->¬Q y):yZ H r p c b pos left:=by refine⟨f.get d.cV i,?_,d.cap,d.pos,d.ap,d.len,d.left⟩;by_cases e:b= [];subst e;exact Row.nil;exact d.row.frame f (λa g=>j _ ⟨a,g,rfl⟩ e)
def yZ.on(a:yZ h r p c b pos left)(f:Fr No h H):yZ H r p c b pos left:=a.frame f id (λ_ _ _=>id)
def yZ.set{pos' left':Nat}(d:yZ h r p c b pos left)(o:pos'<=b.length)(n:left'<=1000000)(D:H[r]? =some (.C #[.L p b.length c,.I (pos':Int),.I (left':Int)] 457 (0,0)))(g:H.size=h.size)(i: ∀x,x≠r->H[x]? =h[x]?):
  yZ H r p c b pos' left'/\Fr (λy=>y=r) h H:=by
 have f:=Fr.of_eq g (λc m=>i c m);refine⟨⟨D,?_,d.cap,o,d.ap,d.len,n⟩,f⟩;by_cases e:b= [];subst e;exact Row.nil;exact d.row.frame f (λa k j=>d.ap e ⟨a,k,j⟩)
theorem MV(d:yZ h r p c b pos left)(K: ∀H,yh b pos=true->pos<b.length->yZ H r p c b (pos+1) left->Fr (λy=>y=r) h H->R (.B true) H)(s:yh b pos=false->R (.B false) h):Cl 455 #[.P r 0] h R:=by
 have f:=d.cV;have u:=d.len;refine rY (ay.of λJ i=>⟨_,aj f,_,_,_,aj f,?_⟩);by_cases g:pos<b.length;rw[iE];obtain⟨a,rfl⟩:=d.row.some (by cases b with|nil=>grind|cons=>simp[bc]);have o:(bc b)[pos]? =some (.int .u8 ((b[pos]).toNat)):=by unfold bc;rw[aP,ai g];rfl
 have C:=d.row.cell o;have n:yh b pos=decide ((b[pos]).toNat=255):=by unfold yh;rw[ai g]
 generalize (b[pos]).toNat=x at C n;refine⟨_,_,_,aj f,_,aj f,ae,av.2 ⟨_,by simp;omega,?_⟩⟩;subst i;dsimp only;split;rename_i q;refine⟨_,aj f,aY f bO λm D j k=> ?_⟩;rw[eY]at D;have⟨Q,t⟩:=d.set (pos':=pos+1) ae d.left D j k;exact K m (by grind) g Q t;grind;rw[af (λe=>g (by grind))];subst i;exact s (by unfold yh;rw[List.getElem?_eq_none ae])
theorem LA{m:Nat}(a:R (.B (yg m)) h):Cl 512 #[.I (m:Int)] h R:=by
 refine yj ?_;have e:(((m):Int)==7)=decide (m=7):=by grind
 unfold yg at a;split;grind;grind
def byte_at(e:Row h p (bc b)){i:Nat}(d:i<b.length): ∃a,p=some a/\aQ h (a.add (i*1))=some (.int .u8 ((b[i]).toNat:Int)):=by obtain⟨a,rfl⟩:=e.some (by cases b with|nil=>simp at d|cons=>simp[bc]);exact⟨a,rfl,by rw[bJ];exact e.cell (by unfold bc;rw[aP,ai d];rfl)⟩
def Zc: ∀x:Fin 256,IntKind.wrap .i64 (Int.fdiv (x.val:Int) (2 ^ min (Int.toNat 5) (IntKind.bits .u8)))=((x.val/32:Nat):Int):=bA
def WC: ∀x:Fin 256,IntKind.wrap .u8 ((BitVec.ofInt (IntKind.bits .u8) (x.val:Int) &&& BitVec.ofInt (IntKind.bits .u8) 31).toNat:Int)=((x.val%32:Nat):Int):=bA
def CB{n:Nat}(h:n<18446744073709551616):IntKind.wrap .u64 (n:Int)=(n:Int):=by
 have e:IntKind.wrap .u64 (n)=(n)%18446744073709551616:=by rfl
 omega
def Vg{v y:Nat}(d:v<72057594037927936)(f:y<256):IntKind.wrap .u64 ((BitVec.ofInt (IntKind.bits .u64) (IntKind.wrap .u64 ((v:Int)*2 ^ min (Int.toNat 8) (IntKind.bits .u64)))|||BitVec.ofInt (IntKind.bits .u64) (IntKind.wrap .u64 (y:Int))).toNat:Int)=((v*256+y:Nat):Int):=by
 have e:(v)*2 ^ min (Int.toNat 8) (IntKind.bits .u64)=((v*256:Nat):Int):=by rw[show(2:Int) ^ min (Int.toNat 8) (IntKind.bits .u64)=256 from rfl];omega
 rw[e,CB (n:=v*256) ae,CB (n:=y) ae];have a:((BitVec.ofInt (IntKind.bits .u64) ((v*256:Nat))|||BitVec.ofInt (IntKind.bits .u64) ((y:Nat))).toNat)=v*256+y:=by rw[BitVec.toNat_or,fG,fG,gg,gg,show(2) ^ IntKind.bits .u64=18446744073709551616 from rfl,fo ae,fo ae];have:=Nat.two_pow_add_eq_or_of_lt (i:=8) ae v;rw[Nat.mul_comm v 256];exact this.symm
 rw[a];exact CB ae
theorem JT(hr:Row h p (bc b))(hl:l=b.length)(m':b.length<=1000000)(hp:pos<=b.length)(k1: ∀H (m n next:Nat) (o:Bool),IW b pos=.ok (m,n,o,next)->Fr No h H->R (.T #[.agg #[.I (m:Int),.U (n:Int),.B o],.I (next:Int),.I 0]) H)(k2: ∀H e,IW b pos=.error e->Fr No h H->e≠0->R (.T #[.agg #[.I 0,.U 0,.B false],.I 0,.I e]) H):Cl 454 #[.L p l c,.I (pos:Int)] h R:=by
 subst hl;refine D5 (bp.box λB C eb M z=>ay.of λj' hJ=> ?_);rw[fe,aA ae];subst hJ;dsimp only;rw[fe];have zb:=aE M;have c': ∀g e,Fr No C g->IW b pos=.error e->e≠0->bp.ST g (AA B 0) 0 0 false λu=>bp.LD u (AA B 0) λS T U=>R (.T #[.agg #[.I S,.U T,.B U],.I 0,.I e]) u:=λg e F hx I=>bp.set (F.get M id) λu d k D=>bp.ld d (k2 u e hx ((z.tt F).fresh (Fr.of_eq (S:=λy=>y=B) k (λc s=>D c s)) (λy e=>ae)) I);by_cases I:pos=b.length;rw[ah (by rw[I];simp)];exact c' C 8 (Fr.refl _ _) (by unfold IW;rw[List.getElem?_eq_none ae]) bA;rw[af (λe=>I (cv (eq_of_beq e)))];have b':pos<b.length:=ae
 obtain⟨k',rfl,L⟩:=byte_at hr b';have a:IW b pos=IW b pos:=rfl;conv at a=>rhs;unfold IW;rw[ai b']
 dsimp only at a;have X:=(b[pos]).toNat_lt;generalize (b[pos]).toNat=x at L a X;refine⟨ae,av.2 ⟨_,z.cell (by rw[aG];exact L) id,bp.new λw h2 l' v A=>⟨ae,av.2 ⟨_,(z.tt A).cell (by rw[aG];exact L) id,?_⟩⟩⟩⟩;have n':=aE v;have z2:=A.1;have z1:=z.1;rw[Zc ⟨x,X⟩]at v;rw[WC ⟨x,X⟩];rw[show(⟨x,X⟩:Fin 256).val=x from rfl]at v⊢;have h':x/32<8:=ae
 generalize em:x/32=m at v a h';have d':x%32<32:=ae
 generalize x%32=f at a d'⊢;rw[df (n:=(pos:Int)+1) ae ae];have Q: ∀g (n next:Nat) (o:Bool),bp.at g w (m:Int) (n:Int) o->bp.at g B 0 0 false->Fr No h g->IW b pos=.ok (m,n,o,next)->
   bp.LD g (AA w 0) λt0 t1 t2=>bp.ST g (AA B 0) t0 t1 t2 λG=>bp.LD G (AA B 0) λS T U=>R (.T #[.agg #[.I S,.U T,.B U],.I (next:Int),.I 0]) G:=λg n next o q1 q2 F C=>
  bp.ld q1 (bp.set q2 λG d k D=>bp.ld d (k1 G m n next o C (F.fresh (Fr.of_eq (S:=λy=>y=B) k (λc s=>D c s)) (λy e=>ae))))
 have J:=z.tt A;have O:=A.get M id;by_cases K:f<24;rw[iE];rw[ah K]at a;refine aY v (by show 1<3;omega) λu d k D=> ?_;rw[CB ae]at d;exact Q u f (pos+1) false d ((D B ae).trans O) (J.fresh (Fr.of_eq (S:=λy=>y=w) k (λc s=>D c s)) (λy e=>ae)) a;rw[af (λe=>K (cv (bj e)))];rw[af K]at a;refine ay.of λJ1 e'=> ?_;have i': ∀q,q=decide (f=31/\yg m=true)->J1 q h2:=by
  intro q hq;subst e';dsimp only;cases q with
  |true=>rw[ah rfl];rw[ah (bj hq.symm)]at a;refine aY v (by show 2<3;omega) λu d k D=> ?_;exact Q u 0 (pos+1) true d ((D B ae).trans O) (J.fresh (Fr.of_eq (S:=λy=>y=w) k (λc s=>D c s)) (λy e=>ae)) a
  |false=>
   rw[fe];rw[af (fh hq.symm)]at a;by_cases Z:f>27;grind;rw[af (λe=>Z (cv (bj e)))];rw[af Z]at a;have e5:IntKind.wrap .u8 ((f:Int) - 24)=(f:Int) - 24:=wrap_u8 ae ae;rw[e5,fe];obtain⟨j,eN,lN,gN,eP⟩: ∃j:Nat,IntKind.wrap .i64 (1*2 ^ min (Int.toNat ((f:Int) - 24)) (IntKind.bits .i64))=(j:Int)/\j<=8/\1<=j/\2 ^ (f - 24)=j:=by
    have:f=24\/f=25\/f=26\/f=27:=ae
    rcases this with rfl|rfl|rfl|rfl;exact⟨1,zzkr,ae,ae,rfl⟩;exact⟨2,zzkr,ae,ae,rfl⟩;exact⟨4,zzkr,ae,ae,rfl⟩;exact⟨8,zzkr,ae,ae,rfl⟩
   rw[eP]at a;rw[eN,df (n:=(b.length:Int) - ((pos:Int)+1)) ae ae];by_cases cs:(j:Int)>(b.length:Int) - ((pos:Int)+1);grind;rw[af (λe=>cs (bj e))];rw[fe]at a;refine⟨λt g=> ∃i:Nat,t=(i:Int)/\i<=j/\bp.at g w (m:Int) (Um ((b.drop (pos+1)).take i):Int) false/\Fr (λy=>y=w) h2 g,λt _=>j - t.toNat,⟨0,rfl,bg _,by rw[fy];exact v,Fr.refl _ _⟩,?_⟩;rintro _ g ⟨i,rfl,hi,P,F⟩;have V:Fr No h g:=J.fresh F (λy e=>ae);by_cases f':i<j;rw[iE,df (n:=(pos:Int)+1+(i:Int)) ae ae];obtain⟨a',ea,cy⟩:=byte_at hr (i:=pos+1+i) ae;cases ea;refine⟨_,aj P,ae,av.2 ⟨_,by rw[show Int.toNat ((pos:Int)+1+(i:Int))=pos+1+i by omega];exact V.cell cy id,?_⟩⟩;have hv:=Qs ((b.drop (pos+1)).take i);have g':=Nat.pow_le_pow_right (n:=256) ae (show((b.drop (pos+1)).take i).length<=7 by rw[bM];omega);rw[show(256:Nat) ^ 7=72057594037927936 from rfl]at g';refine aY P (by show 1<3;omega) λg2 d k D=> ?_;rw[Vg ae (b[pos+1+i]).toNat_lt,<-JQ]at d;rw[df (n:=(i:Int)+1) ae ae];refine⟨⟨i+1,ae,ae,?_,F.tt (Fr.of_eq k (λc s=>D c s))⟩,by grind⟩;rw[bt,fj,ai ae];exact d;rw[af (λe=>f' (cv (bj e)))];obtain rfl:i=j:=ae
   rw[df (n:=(pos:Int)+1+(i:Int)) ae ae,show(pos:Int)+1+(i:Int)=((pos+1+i:Nat):Int) by omega];exact Q g _ (pos+1+i) false P (F.get O ae) V a
 split
 rename_i q;have q:f=31:=by have:=eq_of_beq q;omega
 refine⟨_,aj v,LA ⟨_,rfl,i' _ (by rw[q];simp)⟩⟩;grind

end Cb
end
section
namespace Cb
variable {h H:Heap} {R E:dH} {p:bH} {r c:Nat} {b:cO} {pos left:Nat}
theorem D6(a:yZ h r p c b pos left)(V: ∀H (m n next:Nat) (o:Bool),IW b pos=.ok (m,n,o,next)->yZ H r p c b next left->Fr (λy=>y=r) h H->R (.agg #[.I (m:Int),.U (n:Int),.B o]) H)(X: ∀H e,IW b pos=.error e->Fr No h H->E (S9 e) H):iX Tryz.prog 381 #[.P r 0] h R E:=by
 refine rX (bp.box λP x Z L v=>ay.of λJ K=> ?_);have d:=a.on v;have zr:=aE a.cV;have zb:=aE L;have done: ∀g B (m n next:Nat) (o:Bool),bp.at g B (m) (n) o->x.size<=B->Fr No x g->IW b pos=.ok (m,n,o,next)->J (Sa B 0) (next) 0 g:=by
  intro g B m n next o t z1 f q;subst K;have z:=d.on f;refine hN (λ_=>⟨rfl,aY z.cV bO λh5 s k D=> ?_⟩) (λe=>absurd e bA);have⟨O,S⟩:=z.set ((DU q).2.1) a.left s k D;refine av.2 (bp.ld ((D B ae).trans t) (bp.set ((D P ae).trans (f.get L id)) λT u C Q=>bp.ld u ?_));have I:=Fr.of_eq C (λc l=>Q c l);refine V T m n next o q (O.frame I ae (λy U e i=> ?_)) ?_
  have:=jT a.row (by cases b':b with|nil=>grind|cons=>simp[bc]) U;omega;exact(Fr.no (v.tt f) S).trans I bD (λd' j e=>ae)
 have fail: ∀g B e,Fr No x g->IW b pos=.error e->e≠0->J (Sa B 0) 0 e g:=by intro g B e f j i;subst K;exact hN (λc'=>absurd (by grind) i) (λ_=>X g e j (v.tt f))
 refine⟨_,_,_,aj d.cV,_,aj d.cV,?_,?_,trivial⟩
 .refine JT d.row rfl a.len a.pos (λg m n next o q f=>⟨_,_,_,_,_,rfl,bp.new λB G u t w=>⟨rfl,done G B m n next o t (cv f.1) (f.tt w) q⟩⟩) (λg e j f i=>⟨_,_,_,_,_,rfl,bp.new λB G u t w=>⟨rfl,fail G B e (f.tt w) j i⟩⟩)
 .refine bp.box λA a' C M F=>⟨fY (d.on F).cV rfl,fY (d.on F).cV rfl,(JT (d.on F).row rfl a.len a.pos (λg m n next o q f=>⟨_,_,_,_,_,rfl,bp.set (f.get M id) λG s k D=>⟨rfl,done G A m n next o s ae ((F.tt f).fresh (Fr.of_eq k (λc l=>D c l)) (λy e=>ae)) q⟩⟩) (λg e j f i=>⟨_,_,_,_,_,rfl,bp.set (f.get M id) λG s k D=>⟨rfl,fail G A e ((F.tt f).fresh (Fr.of_eq k (λc l=>D c l)) (λy e=>ae)) j i⟩⟩))⟩

end Cb
end
section
namespace Cb
variable {V:cO→Bool} {h a H:Heap} {R E:dH} {p:bH} {r l c:Nat} {b:cO} {pos left:Nat}
def lU(V:mv)(a:Heap):Prop:= ∀(g:Heap)(p:bH)(c:Nat)(b:cO)(R:dH),Fr No a g->Row g p (bc b)->b.length<=1000000->b.length<=c->(∀G,Fr No g G->R (.bool (V b)) G)->Cl 513 #[.slice p b.length c] g R
theorem JU{m n:Nat}{a':Bool}(U:lU V a)(d':Fr No a h)(j:yZ h r p c b pos left)(hn:n<18446744073709551616)(X: ∀H (v:BV),nt V b pos m n=.ok v.b->v.ok H (λy=>h.size<=y)->v.b.length=n->pos+n<=b.length->yZ H r p c b (pos+n) left->Fr (λy=>y=r) h H->R v.val H)(K: ∀H e,nt V b pos m n=.error e->Fr No h H->E (S9 e) H):iX Tryz.prog 456 #[.P r 0,.agg #[.I (m:Int),.U (n:Int),.B a']] h R E:=by
 refine qP (bp.box λe' z eb i k=> ?_);have d:=j.on k;have zr:=aE j.cV;have zb:=aE i;have hp:=j.pos;have g':=j.len;have f':=j.cap;refine⟨_,aj i,_,_,_,aj d.cV,_,aj d.cV,?_⟩;rw[df (n:=(b.length:Int) - (pos:Int)) ae ae,HN];refine hN (λq=> ?_) (λq=>K z 8 (by have:=fh q;unfold nt;rw[fe]) k);have q:pos+n<=b.length:=by grind
 have w:(b.take (pos+n)).drop pos=(b.drop pos).take n:=by rw[List.take_drop]
 have o:IntKind.wrap .i64 ((pos:Int)+(IntKind.wrap .i64 (n:Int)))=((pos+n:Nat):Int):=by rw[df (n:=(n:Int)) ae ae,eY];omega
 refine⟨rfl,aj d.cV,aj d.cV,aj i,_,_,_,aj d.cV,_,aj d.cV,_,aj d.cV,_,aj i,⟨by rw[o];omega,by rw[o];omega⟩,⟨ae,by rw[o];omega⟩,?_⟩;rw[o];have c':Row z (bV p c (Int.toNat (pos:Int)) 1) (bc ((b.take (pos+n)).drop pos)):=by have:=d.row.sub (cap:=c) (l:=pos) (u:=pos+n) (sz:=1) ae ae;rw[bJ,bJ]at this;rw[aG];unfold bc at this⊢;rw[List.map_drop,List.map_take];exact this
 have L:((b.take (pos+n)).drop pos).length=n:=by grind
 refine gD.jC c' (by rw[L];omega) (by rw[L];omega) λP C u O f M=>⟨_,_,_,rfl,aj (f.get i id),fY (d.on f).cV rfl,fY (d.on f).cV rfl,fY (d.on f).cV rfl,ay.of λJ S=>⟨_,aj (f.get i id),?_⟩⟩;have done: ∀g,Fr No u g->(m≠3\/V ((b.drop pos).take n)=true)->J g:=by intro g F s;subst S;have t:=(d.on f).on F;have T:=(f.tt F).get i id;refine⟨_,aj t.cV,_,aj T,aY t.cV (by show 1<3;omega) λQ D G I=> ?_⟩;rw[o]at D;obtain⟨B,x⟩:=t.set (pos':=pos+n) q j.left D G I;have ov:=(O.frame F bD).frame x (λy A e=>by grind);refine X Q ⟨P,C,(b.take (pos+n)).drop pos⟩ (by unfold nt;rw[iE,ah s];exact bY _ w.symm) (BV.kZ ov (λy A=>iI (M y A) k.1)) L q B (Fr.no (k.tt (f.tt F)) x)
 split
 .rename_i b';exact hN (λ_=>⟨rfl,rfl,done u (Fr.refl _ _) (.inl λe=>by grind)⟩) (λe=>absurd e bA)
 .rename_i b';have Z:m=3:=by
   grind
  refine U u P C _ _ (d'.tt (k.tt f)) O.iy (by rw[L];omega) O.le λg F=>⟨_,rfl,?_⟩;rw[w];exact hN (λs=>⟨rfl,rfl,done g F (.inr s)⟩) (λs=>K g 3 (by unfold nt;rw[iE,af (λe=>e.elim (λe=>e Z) (λe=>by grind))]) (k.tt (f.tt F)))

end Cb
end
section
namespace zK
variable {h H:Heap} {n:Nat}
def Ut(h:Heap):Prop:= ∃V,Cb.lU V h
def Ux(n:Nat)(h:Heap):Prop:= ∃V a,Cb.lU V a/\Fr No a h/\a.size<=n
def Ut.on(U:Ut h)(f:Fr No h H):Ut H:=by obtain⟨V,U⟩:=U;exact⟨V,λg p c b R F=>U g p c b R (f.tt F)⟩
def Ux.on(U:Ux n h)(f:Fr No h H):Ux n H:=by obtain⟨V,a,U,u,b⟩:=U;exact⟨V,a,U,u.tt f,b⟩
def Ut.x(U:Ut h)(f:Fr No h H):Ux h.size H:=by obtain⟨V,U⟩:=U;exact⟨V,h,U,f,bf _⟩

end zK
end
section
variable {h:Heap} {R:dH}
variable {K:Nat->Heap->Prop} {L g:bH} {l c b S i w d:Nat} {s E f:bC} {k:Int} {a:Addr}
def fP.ex{K:fP.S->Prop}(x:fP.S)(H:K x):fP.EX K:=⟨_,_,_,_,_,_,_,_,H⟩
def D7(e:aT h (.C #[.B true,.B false,.I 0,.I 0,.I 0,.I 0,.I 0,.I 0] 36) λb H=>R (.P b 0) H):Cl 8 #[] h R:=aD [] e
def BN (D: ∃(I:bH->Nat->Nat->iT)(M:bH->Nat->Nat->iW),I none 0 0 0 h/\∀e O o t H,I e O o t H->ite (decide (t<(l:Int))) (Bd t l/\aJ L λa=>jZ H (a.add (toNat t*1)) λm=>Cl 23 #[.S m] H λv j=> ∃T A,v=.T #[.I T,A]/\ay (λ(F:Bool) u=>ite F (R (.T #[.Z,.B false]) u) (aT u (.C #[.I T] 3) λb C=>ij (Builtin.append_ #[49,49] 49 #[.L e O o,.L (Sa b 0) 1 1]) C λV y=> ∃q p n,V=.L q p n/\(I q p n (wrap .i64 (t+1)) y/\M q p n (wrap .i64 (t+1)) y<M e O o t H))) (λJ=> ∃(r:Bool),Lj 54 (A) (.nilIface) r/\ite (!r) (J true j) (ite (decide (T<0)) (J true j) (Cl 24 #[.I T] j λG z=> ∃B,G=.S B/\ite (!(B.toList==m.toList)) (J true z) (J (decide ((m.size:Int)>18)) z))))) (R (.T #[.L e O o,.B true]) H)):Cl 20 #[.L L l c] h R:=aD [(8,.loop [(4,sS),(11,sI)]),(23,.join [(36,sB)])] D
def ym (e:ite (s.toList==(⟨#[45]⟩:bC).toList) (R (.B true) h) (ite (!(s.toList==(⟨#[]⟩:bC).toList)) (ite ((Int.tmod (s.size:Int) 2)==0) (Cl 39 #[.S s,.S (⟨#[48,49,50,51,52,53,54,55,56,57,97,98,99,100,101,102]⟩:bC)] h λv H=> ∃t,v=.S t/\R (.B (t.toList==(⟨#[]⟩:bC).toList)) H) (R (.B false) h)) (R (.B false) h))):Cl 25 #[.S s] h R:=aD [] e
def yo(j:Cl 17 #[] h λv H=>Vp v λT=>Cl 18 #[.Q T,.S s] H λV e=> ∃m t,V=.T #[.S m,.I t]/\R (.B (t==0)) e):Cl 12 #[.S s] h R:=aD [] j
def BO{v:bC} (q:ay (λ(t:Bool) H=>ite t (R (.B true) H) (R (.B false) H)) (λJ=>ite (v.toList==(⟨#[97,110,115,119,101,114]⟩:bC).toList) (J (v.toList==(⟨#[97,110,115,119,101,114]⟩:bC).toList) h) (ay (λ(T:Bool) n=>J T n) (λj=>ite (v.toList==(⟨#[119,97,105,116,115]⟩:bC).toList) (j (v.toList==(⟨#[119,97,105,116,115]⟩:bC).toList) h) (ay (λ(r:Bool) o=>j r o) (λe=>ite (v.toList==(⟨#[110,111,119]⟩:bC).toList) (e (v.toList==(⟨#[110,111,119]⟩:bC).toList) h) (ay (λ(u:Bool) p=>e u p) (λm=>ite (v.toList==(⟨#[108,105,110,101,115]⟩:bC).toList) (m (v.toList==(⟨#[108,105,110,101,115]⟩:bC).toList) h) (m (v.toList==(⟨#[106,117,100,103,101]⟩:bC).toList) h))))))))):Cl 15 #[.S v] h R:=aD [(9,.join [(4,sB)]),(13,.join [(4,sB)]),(17,.join [(4,sB)]),(21,.join [(4,sB)])] q
def D8{m:Int} (n:Cl 20 #[.L L l c] h λv H=> ∃e t o j,v=.T #[.L e t o,.B j]/\ite j (ite (((t:Nat):Int)==1) (Bd 0 t/\aJ e λa=> ∃T,aQ H (a.add (toNat 0*1))=some (.I T)/\R (.B (decide (T<=m))) H) (R (.B false) H)) (R (.B false) H)):Cl 14 #[.L L l c,.I m] h R:=aD [] n
def pI(n: ∃m,Cc h b 4 (.I m)/\aI h (AA b 4) (.I (wrap .i64 (m+1))) λe=>Hi e b 4 λo=>Cl 14 #[.L L l c,.I o] e λv H=> ∃t,v=.B t/\ite t (Bd 0 l/\aJ L λa=>jZ H (a.add (toNat 0*1)) λp=>Hi H b 4 λq=>Cl 24 #[.I q] H λV j=> ∃T,V=.S T/\Kp H j [(some (a.add (toNat 0*1)))]/\R (.B (p.toList==T.toList)) j) (R (.B false) H)):Cl 21 #[.P b 0,.L L l c] h R:=aD [(5,λ_=>pK 18)] n
def r8(j:aI h (AA b 4) (.I 0) λe=>Cl 20 #[.L L l c] e λv H=> ∃n m T t,v=.T #[.L n m T,.B t]/\ite t (R (.B ((l:Int)==1)) H) (R (.B false) H)):Cl 22 #[.P b 0,.L L l c] h R:=aD [] j
def r9 (G:Cl 20 #[.L L l c] h λv H=> ∃T t X q,v=.T #[.L T t X,.B q]/\ay (λ(Q:Bool) e=>ite Q (R (.B false) e) (3<=t/\aJ T λa=>iw e a λU=>iw e (a.add 1) λV=> ∃p,aQ e (a.add 2)=some (.I p)/\aI e (AA b 5) (.I U) λC=>aI C (AA b 6) (.I V) λD=>aI D (AA b 7) (.I p) λF=>R (.B true) F)) (λJ=>ite (!q) (J true H) (ite (((t:Nat):Int) !=3) (J true H) (Bd 1 t/\aJ T λA=>iw H (A.add (toNat 1*1)) λI=>Bd 0 t/\aJ T λr=> ∃j,aQ H (r.add (toNat 0*1))=some (.I j)/\ite (decide (I>j)) (J true H) (Bd 2 t/\aJ T λu=>iw H (u.add (toNat 2*1)) λM=>Bd 1 t/\aJ T λy=> ∃m,aQ H (y.add (toNat 1*1))=some (.I m)/\ite (decide (M>m)) (J true H) (Bd 0 t/\aJ T λz=>iw H (z.add (toNat 0*1)) λO=>Bd 0 3/\∃n,aQ H (((AA b 5):Addr).add (toNat 0*1))=some (.I n)/\ite (decide (O<n)) (J true H) (Bd 2 t/\aJ T λB=>iw H (B.add (toNat 2*1)) λP=>Bd 2 3/\∃o,aQ H (((AA b 5):Addr).add (toNat 2*1))=some (.I o)/\J (decide (P<o)) H))))))):Cl 27 #[.P b 0,.L L l c] h R:=aD [(6,.join [(58,sB)]),(6,λ_=>pK 47)] G
def wY(H:R (.B (decide (k>0))) h):Cl 40 #[.I k] h R:=aD [] H
def jH (j: ∃(I:iT)(m:iW),I 0 h/\∀t H,I t H->ite (decide (t<(S:Int))) (Bd t S/\aJ g λa=>iw H (a.add (toNat t*1)) λn=>Cl 40 #[.I n] H λv e=> ∃T,v=.B T/\ite T (R (.I t) e) ((I (wrap .i64 (t+1)) e/\m (wrap .i64 (t+1)) e<m t H))) (R (.I (-1)) H)):Cl 82 #[.L g S i,.func (.func 40) #[] #[]] h R:=aD [(6,.loop [(8,sI)])] j
def jt(e:Cl 82 #[.L g S i,.func (.func 40) #[] #[]] h λv H=> ∃t,v=.I t/\R (.B (decide (t≥0))) H):Cl 41 #[.L g S i,.func (.func 40) #[] #[]] h R:=aD [] e
def zV{p:Bool} (M:ay (λ(P:Bool) o=>ite P (R (.B false) o) (((0:Int)<=5/\5<=(c:Int))/\Cl 20 #[.L (bV L c 0 1) ((toNat 5) - 0) (c - 0)] o λv H=> ∃T t n r,v=.T #[.L T t n,.B r]/\ay (λ(Q:Bool) e=>ite Q (R (.B false) e) (Bd 1 t/\aJ T λa=> ∃z,aQ e (a.add (toNat 1*1))=some (.I z)/\ite (z==0) (R (.B true) e) (((0:Int)<=2/\2<=((t:Nat):Int))/\Cl 41 #[.L (bV T n (toNat 2) 1) (t - (toNat 2)) (n - (toNat 2)),.func (.func 40) #[] #[]] e λV m=> ∃A,V=.B A/\ite (!A) (Bd 5 l/\aJ L λC=> ∃B,aQ m (C.add (toNat 5*1))=some (.S B)/\R (.B (B.toList==(⟨#[45]⟩:bC).toList)) m) (R (.B false) m)))) (λj=>ite (!r) (j true H) (Bd 1 t/\aJ T λD=> ∃u,aQ H (D.add (toNat 1*1))=some (.I u)/\ite (decide (u>99)) (j true H) (ite (!p) (Bd 0 t/\aJ T λF=> ∃y,aQ H (F.add (toNat 0*1))=some (.I y)/\j (y !=0) H) (j false H)))))) (λJ=>ite ((l:Int) !=6) (J true h) (Bd 5 l/\aJ L λG=>jZ h (G.add (toNat 5*1)) λO=>Cl 25 #[.S O] h λU I=> ∃q,U=.B q/\J (!q) I))):Cl 26 #[.L L l c,.B p] h R:=aD [(4,.join [(17,sB)]),(14,.join [(41,sB)])] M
def sa (m:Cl 20 #[.L L l c] h λv H=> ∃e t o j,v=.T #[.L e t o,.B j]/\ite j (ite (((t:Nat):Int)==1) (Bd 0 t/\aJ e λa=>iw H (a.add (toNat 0*1)) λn=>Bd 0 3/\∃T,aQ H (((AA b 5):Addr).add (toNat 0*1))=some (.I T)/\R (.B (decide (n≥T))) H) (R (.B false) H)) (R (.B false) H)):Cl 28 #[.P b 0,.L L l c] h R:=aD [(5,λ_=>pK 18)] m
def wZ{e:bH}{T j:Nat} (hv:Bd 0 l/\aJ L λa=> ∃t,aQ h (a.add (toNat 0*1))=some (.S t)/\ite (t.toList==(⟨#[99,111,110,110,101,99,116]⟩:bC).toList) (Cl 21 #[.P b 0,.L e T j] h λn' P=> ∃q,n'=.B q/\R (.B q) P) (ite (t.toList==(⟨#[99,114,97,115,104]⟩:bC).toList) (Cl 22 #[.P b 0,.L e T j] h λo' Z=> ∃r,o'=.B r/\R (.B r) Z) (ite (t.toList==(⟨#[116,105,99,107]⟩:bC).toList) (Bd 1 l/\aJ L λI=>jZ h (I.add (toNat 1*1)) λf'=>Cl 23 #[.S f'] h λq' n=> ∃u g',q'=.T #[.I u,g']/\∃v,Cc n b 3 (.I v)/\aI n (AA b 3) (.I (wrap .i64 (v+u))) λa'=>R (.B ((T:Int)==0)) a') (ite (t.toList==(⟨#[115,116,101,112]⟩:bC).toList) (Cl 14 #[.L e T j,.I 3] h λr' b'=> ∃y,r'=.B y/\R (.B y) b') (ite (t.toList==(⟨#[97,110,115,119,101,114]⟩:bC).toList) (Cl 14 #[.L e T j,.I 64] h λs' c'=> ∃z,s'=.B z/\R (.B z) c') (ite (t.toList==(⟨#[119,97,105,116,115]⟩:bC).toList) (Cl 14 #[.L e T j,.I 8] h λt' d'=> ∃B,t'=.B B/\R (.B B) d') (ite (t.toList==(⟨#[110,111,119]⟩:bC).toList) (ite ((T:Int)==1) (Bd 0 T/\aJ e λA=>jZ h (A.add (toNat 0*1)) λh'=>Hi h b 3 λi'=>Cl 24 #[.I i'] h λu' o=> ∃C,u'=.S C/\Kp h o [(some (A.add (toNat 0*1)))]/\R (.B (h'.toList==C.toList)) o) (R (.B false) h)) (ite (t.toList==(⟨#[111,117,116]⟩:bC).toList) (ite ((T:Int)==1) (Bd 0 T/\aJ e λM=>jZ h (M.add (toNat 0*1)) λj'=>Cl 25 #[.S j'] h λv' e'=> ∃D,v'=.B D/\R (.B D) e') (R (.B false) h)) (ay (λ(k':Bool) H=>ite k' (Bd 0 l/\aJ L λO=>jZ H (O.add (toNat 0*1)) λm'=>Cl 26 #[.L e T j,.B (m'.toList==(⟨#[114,117,110]⟩:bC).toList)] H λw' Q=> ∃F,w'=.B F/\R (.B F) Q) (ite (t.toList==(⟨#[108,105,110,101,115]⟩:bC).toList) (Cl 27 #[.P b 0,.L e T j] H λx' U=> ∃G,x'=.B G/\R (.B G) U) (ite (t.toList==(⟨#[106,117,100,103,101]⟩:bC).toList) (Cl 28 #[.P b 0,.L e T j] H λp' V=> ∃p,p'=.B p/\R (.B p) V) (R (.B ((T:Int)==0)) H)))) (λJ=>ite (t.toList==(⟨#[114,117,110]⟩:bC).toList) (J (t.toList==(⟨#[114,117,110]⟩:bC).toList) h) (ay (λ(l':Bool) X=>J l' X) (λm=>ite (t.toList==(⟨#[97,114,114,105,118,101]⟩:bC).toList) (m (t.toList==(⟨#[97,114,114,105,118,101]⟩:bC).toList) h) (m (t.toList==(⟨#[116,97,107,101]⟩:bC).toList) h))))))))))))):Cl 16 #[.P b 0,.L L l c,.L e T j] h R:=aD [(50,λ_=>pK 15),(61,.join [(81,sB)]),(65,.join [(81,sB)])] hv
def ue (Q:aT h (.C #[.S E,.S f] 32) λB p=>Hs p B 0 λZ=>Cl 12 #[.S Z] p λv H=> ∃G,v=.B G/\ite (!G) (∃r,Cc H B 1 (.S r)/\R (.B (r.toList==(⟨#[98,97,100]⟩:bC).toList)) H) (Hs H B 0 λU=>Hs H B 1 λV=>Cl 13 #[.S U,.S (⟨#[32]⟩:bC)] H λa' q=> ∃o n u,a'=.L o n u/\Kp H q [(Sa B 1)]/\Cl 13 #[.S V,.S (⟨#[32]⟩:bC)] q λb' e=>Vl b' λT t m=>Bd 0 t/\aJ T λa=> ∃y,aQ e (a.add (toNat 0*1))=some (.S y)/\ite (y.toList==(⟨#[101,114,114]⟩:bC).toList) (((0:Int)<=1/\1<=(t:Int))/\Cl 14 #[.L (bV T m (toNat 1) 1) (t - (toNat 1)) (m - (toNat 1)),.I 99] e λc' j=> ∃z,c'=.B z/\ite z (Bd 1 t/\aJ T λI=> ∃A,aQ j (I.add (toNat 1*1))=some (.S A)/\ite (!(A.toList==(⟨#[48]⟩:bC).toList)) (Bd 0 n/\aJ o λJ=>jZ j (J.add (toNat 0*1)) λX=>Cl 15 #[.S X] j λd' O=> ∃C,d'=.B C/\R (.B (!C)) O) (R (.B false) j)) (R (.B false) j)) (Bd 0 t/\aJ T λM=> ∃D,aQ e (M.add (toNat 0*1))=some (.S D)/\ite (!(D.toList==(⟨#[111,107]⟩:bC).toList)) (R (.B false) e) (((0:Int)<=1/\1<=(t:Int))/\Cl 16 #[.P b 0,.L o n u,.L (bV T m (toNat 1) 1) (t - (toNat 1)) (m - (toNat 1))] e λe' P=> ∃F,e'=.B F/\R (.B F) P)))):Cl 11 #[.P b 0,.agg #[.S E,.S f]] h R:=aD [(11,λ_=> .ju (mL [0,1,3,4,2] (fE 3 5 .done)))] Q
def uf (r:aT h (.C #[.S E,.S f] 32) λB j=>ay (λ(z:Bool) H=>ite z (R (.T #[.B false,.I 6]) H) (∃T,Cc H b 1 (.B T)/\ite T (R (.T #[.B false,.I 7]) H) (∃n,Cc H b 2 (.I n)/\aI H (AA b 2) (.I (wrap .i64 (n+1))) λe=>Hs e B 0 λu=>Hs e B 1 λy=>Cl 11 #[.P b 0,.agg #[.S u,.S y]] e λv q=> ∃o,v=.B o/\aI q (AA b 1) (.B (!o)) λm=> ∃p,Cc m b 1 (.B p)/\R (.T #[.B (!p),.I 0]) m))) (λJ=> ∃t,Cc j b 0 (.B t)/\J (!t) j)):Cl 9 #[.P b 0,.agg #[.S E,.S f]] h R:=aD [(5,.join [(6,sB)])] r
def zW (q:Cl 8 #[] h λv n=>Vp v λB=> ∃(I:iT)(m:iW),I 0 n/\∀t H,I t H->ite (decide (t<(l:Int))) (Bd t l/\aJ L λa=>jZ H (a.add (toNat t*2)) λr=>jZ H ((a.add (toNat t*2)).add 1) λu=>aT H (.C #[.S (⟨#[]⟩:bC),.S (⟨#[]⟩:bC)] 32) λb o=>aI o (AA b 0) (.S r) λp=>aI p (AA b 1) (.S u) λe=>Hs e b 0 λy=>Hs e b 1 λz=>Cl 9 #[.Q B,.agg #[.S y,.S z]] e λV j=> ∃T A,V=.T #[.B T,.I A]/\ite (!T) (R (.I t) j) ((I (wrap .i64 (t+1)) j/\m (wrap .i64 (t+1)) j<m t H))) (R (.I (l:Int)) H)):Cl 7 #[.L L l c] h R:=aD [(8,.loop [(11,sI)])] q
def zX (C: ∃(I:Int->iT)(m:Int->iW),I 0 0 h/\∀all e H,I all e H->ite (decide (e<(l:Int))) (ay (λ(D:Bool) j=>ite D (R (.B true) j) (Bd e l/\aJ L λa=> ∃t,aQ j (a.add (toNat e*2))=some (.S t)/\(I (wrap .i64 (all+((t.size:Nat):Int))) (wrap .i64 (e+1)) j/\m (wrap .i64 (all+((t.size:Nat):Int))) (wrap .i64 (e+1)) j<m all e H))) (λJ=>ite (decide ((l:Int)>40)) (J true H) (Bd e l/\aJ L λA=> ∃T,aQ H (A.add (toNat e*2))=some (.S T)/\ite (decide (((T.size:Nat):Int)>1000)) (Bd e l/\aJ L λu=> ∃n,aQ H (u.add (toNat e*2))=some (.S n)/\ite (decide (((n.size:Nat):Int)<=4096)) (J true H) (Bd e l/\aJ L λv=> ∃o,aQ H (v.add (toNat e*2))=some (.S o)/\ite (decide (((o.size:Nat):Int)>4200)) (J true H) (Bd e l/\aJ L λy=> ∃q,aQ H ((y.add (toNat e*2)).add 1)=some (.S q)/\J (decide (((q.size:Nat):Int)>3000)) H))) (Bd e l/\aJ L λz=> ∃p,aQ H (z.add (toNat e*2))=some (.S p)/\ite (decide (((p.size:Nat):Int)>4200)) (J true H) (Bd e l/\aJ L λB=> ∃r,aQ H ((B.add (toNat e*2)).add 1)=some (.S r)/\J (decide (((r.size:Nat):Int)>3000)) H))))) (R (.B (decide (all>12000))) H)):Cl 5 #[.L L l c] h R:=aD [(8,.loop [(3,sI),(4,sI)]),(19,.join [(49,sB)])] C
def zY (hv:aT h (.C #[.S (⟨#[]⟩:bC),.S (⟨#[]⟩:bC)] 32) λb z=>aI z (AA b 0) (.S (⟨#[99,111,110,110,101,99,116]⟩:bC)) λM=>aI M (AA b 1) (.S (⟨#[111,107,32,49]⟩:bC)) λQ=>aT Q (.C #[.S (⟨#[]⟩:bC),.S (⟨#[]⟩:bC)] 32) λj U=>aI U (AA j 0) (.S (⟨#[116,105,99,107,32,53]⟩:bC)) λV=>aI V (AA j 1) (.S (⟨#[111,107]⟩:bC)) λX=>aT X (.C #[.S (⟨#[]⟩:bC),.S (⟨#[]⟩:bC)] 32) λB Z=>aI Z (AA B 0) (.S (⟨#[110,111,119]⟩:bC)) λa'=>aI a' (AA B 1) (.S (⟨#[111,107,32,53]⟩:bC)) λb'=>aT b' (.C #[.S (⟨#[]⟩:bC),.S (⟨#[]⟩:bC)] 32) λm A=>aI A (AA m 0) (.S (⟨#[119,104,97,116]⟩:bC)) λC=>aI C (AA m 1) (.S (⟨#[98,97,100]⟩:bC)) λD=>aT D (.C #[.S (⟨#[]⟩:bC),.S (⟨#[]⟩:bC)] 32) λn F=>aI F (AA n 0) (.S (⟨#[114,117,110,32,49,32,55]⟩:bC)) λG=>aI G (AA n 1) (.S (⟨#[111,107,32,51,32,52,32,49,32,48,32,48,32,45]⟩:bC)) λH=>Hs H b 0 λc'=>Hs H b 1 λd'=>Hs H j 0 λe'=>Hs H j 1 λf'=>Hs H m 0 λg'=>Hs H m 1 λh'=>Hs H B 0 λi'=>Hs H B 1 λj'=>Hs H n 0 λk'=>Hs H n 1 λl'=>aT H (.C #[.S c',.S d',.S e',.S f',.S g',.S h',.S i',.S j',.S k',.S l'] 32) λu I=>Cl 7 #[.L (Sa u 0) 5 5] I λs' e=> ∃t,s'=.I t/\ite (t==4) (Hs e b 0 λm'=>Hs e b 1 λn'=>Hs e b 0 λo'=>Hs e b 1 λp'=>aT e (.C #[.S m',.S n',.S o',.S p'] 32) λv J=>Cl 7 #[.L (Sa v 0) 2 2] J λt' o=> ∃T,t'=.I T/\ite (T==1) (Hs o B 0 λq'=>Hs o B 1 λr'=>aT o (.C #[.S q',.S r'] 32) λy O=>Cl 7 #[.L (Sa y 0) 1 1] O λu' p=> ∃q,u'=.I q/\ite (q==0) (Cl 7 #[.Z] p λv' P=> ∃r,v'=.I r/\R (.B (r==0)) P) (R (.B false) p)) (R (.B false) o)) (R (.B false) e)):Cl 6 #[] h R:=aD [] hv
def dE.ex{K:dE.S->Prop}(x:dE.S)(H:K x):dE.EX K:=⟨_,_,_,_,_,H⟩
abbrev ao.ff(h:Heap)(b:Nat)(x:ao.S):Prop:=h[b]? =some (.cells x.arr 189 (0,0))
def ao.ex{K:ao.S->Prop}(x:ao.S)(H:K x):ao.EX K:=⟨_,_,_,_,_,_,_,_,_,_,_,_,_,_,_,_,_,_,_,_,_,_,_,_,_,_,_,_,_,_,_,_,_,_,_,_,_,_,_,_,_,_,_,_,_,_,_,_,_,_,_,_,_,_,_,_,_,_,_,H⟩
def ao.gT{x:ao.S}{K:ao.S->Prop}(H:cz a x.l 0 h)(e:K x):ao.ck h a K:=by obtain⟨q,Q,z,P,q4,q5,q6,q7,q8,q9,j,m,n,o,p,r,t,u,v,y,A,B,C,D,F,G,I,J,M,O,T,U,V,X,Z,a',b',c',d',e',f',g',h',i',j',k',l',m',n',o',p',_⟩:=H;rw[cA]at q;exact⟨_,q,_,Q,_,z,_,P,_,q4,_,q5,_,q6,_,q7,_,q8,_,q9,_,j,_,m,_,n,_,o,_,p,_,r,_,_,_,t,_,u,_,v,_,y,_,A,_,B,_,C,_,D,_,F,_,G,_,I,_,J,_,M,_,O,_,T,_,U,_,V,_,X,_,Z,_,a',_,b',_,c',_,d',_,_,_,e',_,f',_,g',_,h',_,_,_,i',_,j',_,k',_,l',_,m',_,n',_,_,_,o',_,p',e⟩
def ao.im{x:ao.S}(H:ao.ff h b x):cz (AA b 0) x.l 0 h:=
 dy H (λj v e=>by rw[aX];simpa using e)
def ao.dZ{x:ao.S}{K:ao.S->Prop}(H:ao.ff h b x)(e:K x):ao.ck h (AA b 0) K:=gT (im H) e
def ao.fX{x:ao.S}(j: ∀b H,b=h.size->ao.ff H b x->Fr No h H->K b H):aT h (.C ao.S.z.arr 189) λb e=>ao.cR e (AA b 0) x (K b):=
 fL (vs:=x.l) rfl rfl j
def ao.cE{x:ao.S}(j: ∀b H,b=h.size->ao.ff H b x->Fr No h H->K b H):aT h (.C x.arr 189) λb e=>K b e:=
 bn (j _ _ rfl aU (Fr.push _ _))
def ao.fB{y x:ao.S}{K:cM}(A:ao.ff h b y)(o: ∀H,ao.ff H b x->Fr (λy=>y=b) h H->H.size=h.size->K H):ao.cR h (AA b 0) x K:=
 (show cQ (AA b 0) x.l 0 h K from dM A rfl rfl λm e D j=>o m e (Fr.of_eq D λC n=>j C n) D)
variable {x:ao.S}
def zZ(e:aT h (.C #[.B true,.Z,.I 0] 181) λb H=>R (.P b 0) H):Cl 44 #[] h R:=aD [] e
def pJ(H: ∃t,Cc h w 0 (.Q t)/\R (.Q t) h):Cl 96 #[.P w 0] h R:=aD [] H
def oO(j:Cl 96 #[.P w 0] h λv H=>Vp v λm=>Cl 97 #[.Q m] H λV e=> ∃t T,V=.T #[.I t,.I T]/\R (.T #[.I t,.I T]) e):Cl 50 #[.P w 0] h R:=aD [] j
def sc(j:Cl 96 #[.P w 0] h λv H=>Vp v λT=>Cl 118 #[.Q T,.U k] H λV e=> ∃t,V=.I t/\R (.I t) e):Cl 62 #[.P w 0,.U k] h R:=aD [] j
def ug{n:Int}{D:Int} (I:ag.NW h λb z=>Cl 96 #[.P w 0] z λd' C=>Vp d' λP=>Cl 102 #[.Q P,.I n,.U D] C λe' F=>ao.EX λT=> ∃t,e'=.T #[T.agg,.I t]/\ao.NW F λB G=>ao.cR G (AA B 0) T λj=>ite (t !=0) (ag.cR j (AA b 0) ag.S.z λo=>ag.ck o (AA b 0) λM=>R (.T #[M.agg,.I t]) o) (ao.ck j (AA B 0) λQ=>Cl 100 #[.P w 0,Q.agg] j λf' H=>Vi f' λU=>Hl H w 9 λi' V h'=>ay (λp=>ag.ck p (AA B 44) λc'=>ag.cR p (AA b 0) c' λq=>ag.ck q (AA b 0) λO=>R (.T #[O.agg,.I 0]) q) (λJ=>ite (decide ((V:Int)<64)) (Hl H w 9 λa' Z X=>Hi H B 50 λb'=>aT H (.C #[.I n,.I U,.I b'] 196) λy e=>Kp H e [(Sa B 50),(Sa w 9)]/\ij (Builtin.append_ #[92,92] 92 #[.L a' Z X,.L (Sa y 0) 1 1]) e λg' m=> ∃v u r,g'=.L v u r/\Kp e m [(Sa B 50)]/\aI m (AA w 9) (.L v u r) λA=>J A) (J H)))):Cl 54 #[.P w 0,.I n,.U D] h R:=aD [(17,.join []),(18,λ_=>pK 15)] I
def ke(e:Cl 96 #[.P w 0] h λv H=> ∃t,v=.Q t/\R (.Q t) H):Cl 126 #[.P w 0] h R:=aD [] e
def Ea{p:Int}{self:aw.S}(y:aT h (.C self.arr 64) λb u=>Cl 42 #[.I p] u λv e=> ∃T m,v=.T #[.Q T,.I m]/\ite (m !=0) (R (.T #[.Q none,.I m]) e) (aw.ck e (AA b 0) λz=>Cl 43 #[.Q T,z.agg,.U 0] e λV H=> ∃q n,V=.T #[.Q q,.I n]/\ite (n !=0) (R (.T #[.Q none,.I n]) H) (aw.ck H (AA b 0) λt=>Cl 44 #[] H λA j=> ∃r,A=.Q r/\Kp H j [(Sa b 0)]/\aT j (.C #[.Q q,.Q T,.B t.f0,.U t.f1,.U t.f2,.S t.f3,.S t.f4,.Q r,.I 0,.Z] 94) λB o=>Kp j o [(Sa b 0)]/\R (.T #[.P B 0,.I 0]) o))):Cl 29 #[.I p,self.agg] h R:=aD [(23,λ_=>pK 9)] y
def FO(m:Cl 30 #[] h λv H=>aw.EX λt=>v=t.agg/\Cl 29 #[.I 100,t.agg] H λV e=> ∃T n,V=.T #[.Q T,.I n]/\aT e (.C #[.Q T] 67) λb j=>R (.P b 0) j):Cl 17 #[] h R:=aD [] m
def Eb{r:ag.S}{e:Int}(G:aT h (.C r.arr 110) λb H=>Hu H b 0 λV=>Hi H b 1 λI=>Hi H b 2 λJ=>Hi H b 3 λM=>Hu H b 4 λO=>Hl H b 5 λU Q P=>Cl 94 #[.U V,.I 10] H λv j=> ∃A,v=.S A/\Kp H j [(Sa b 5),(Sa b 4),(Sa b 3),(Sa b 2),(Sa b 1)]/\Cl 24 #[.I I] j λX m=> ∃t,X=.S t/\Kp j m [(Sa b 5),(Sa b 4),(Sa b 3),(Sa b 2)]/\Cl 24 #[.I J] m λZ n=> ∃T,Z=.S T/\Kp m n [(Sa b 5),(Sa b 4),(Sa b 3)]/\Cl 24 #[.I M] n λa' o=> ∃q,a'=.S q/\Kp n o [(Sa b 5),(Sa b 4)]/\Cl 94 #[.U O,.I 10] o λb' p=> ∃u,b'=.S u/\Kp o p [(Sa b 5)]/\Cl 59 #[.L U Q P] p λc' C=> ∃y,c'=.S y/\aT C (.C #[.S A,.S t,.S T,.S q,.S u,.S y] 9) λB D=>Cl 51 #[.I e,.L (Sa B 0) 6 6] D λd' F=> ∃z,d'=.S z/\R (.S z) F):Cl 53 #[r.agg,.I e] h R:=aD [(3,λ_=> .ju (fE 3 0 (mL [4,5,7,8,10,11,13,14,16,17,3,6,9,12,15] (fE 4 18 .done))))] G
def iK{a:bk.S}(V:aT h (.C a.arr 72) λb H=> ∃t,Cc H b 0 (.S t)/\ite (t.toList==(⟨#[119,97,105,116,115]⟩:bC).toList) (Hp H d 0 λX=>Hl H b 1 λa' Z x'=>Bd 0 Z/\aJ a' λA=>fM H (A.add (toNat 0*1)) λb'=>Cl 126 #[.Q X] H λk' e=> ∃T,k'=.Q T/\Kp H e [(some (A.add (toNat 0*1))),(Sa b 1)]/\Cl 127 #[.Q T,.I (wrap .i64 b')] e λl' j=> ∃o,l'=.I o/\Kp e j [(some (A.add (toNat 0*1))),(Sa b 1)]/\Cl 49 #[.I o,.I 0] j λp' n=> ∃p,p'=.S p/\Kp j n [(some (A.add (toNat 0*1))),(Sa b 1)]/\R (.S p) n) (ite (t.toList==(⟨#[110,111,119]⟩:bC).toList) (Hp H d 0 λc'=>Cl 126 #[.Q c'] H λq' M=>Vp q' λd'=>Cl 128 #[.Q d'] M λr' O=>Vu r' λe'=>Cl 94 #[.U e',.I 10] O λs' P=> ∃q,s'=.S q/\aT P (.C #[.S q] 9) λC Q=>Cl 51 #[.I 0,.L (Sa C 0) 1 1] Q λt' U=> ∃r,t'=.S r/\R (.S r) U) (ite (t.toList==(⟨#[108,105,110,101,115]⟩:bC).toList) (Cl 129 #[.P d 0] H λu' D=> ∃u,u'=.S u/\R (.S u) D) (Hp H d 0 λf'=>Cl 30 #[] H λv' m=>aw.EX λv=>v'=v.agg/\Kp H m [(Sa d 0)]/\Cl 131 #[.Q f'] m λw' F=>Vp w' λg'=>Cl 132 #[.Q g'] F λm' G=>Vl m' λj' i' h'=>Cl 130 #[v.agg,.L j' i' h'] G λn' I=> ∃y z,n'=.T #[.I y,.I z]/\Cl 49 #[.I y,.I z] I λo' J=> ∃B,o'=.S B/\R (.S B) J)))):Cl 64 #[.P d 0,a.agg] h R:=aD [(10,λ_=> .ju (fE 4 0 (fE 5 5 (.op 4 (fE 3 10 .done))))),(26,λ_=> .ju (fE 4 1 (.op 0 (fE 7 5 .done))))] V
def dv{a:bk.S} (hv:aT h (.C a.arr 72) λb H=> ∃t,Cc H b 0 (.S t)/\ite (t.toList==(⟨#[99,111,110,110,101,99,116]⟩:bC).toList) (Hp H d 0 λV'=>Cl 50 #[.Q V'] H λc7 E'=> ∃X Z,c7=.T #[.I X,.I Z]/\Cl 49 #[.I X,.I Z] E' λc8 K'=> ∃a',c8=.S a'/\R (.S a') K') (ite (t.toList==(⟨#[102,101,101,100]⟩:bC).toList) (Hp H d 0 λa3=>Hl H b 1 λa5 a4 f2=>Bd 0 a4/\aJ a5 λA=>fM H (A.add (toNat 0*1)) λa6=>Hl H b 2 λa9 a8 a7=>Cl 52 #[.Q a3,.I (wrap .i64 a6),.L a9 a8 a7] H λd9 n=> ∃b',d9=.I b'/\Kp H n [(some (A.add (toNat 0*1))),(Sa b 1)]/\Cl 51 #[.I b',.Z] n λe4 v=> ∃c',e4=.S c'/\Kp n v [(some (A.add (toNat 0*1))),(Sa b 1)]/\R (.S c') v) (ite (t.toList==(⟨#[114,117,110]⟩:bC).toList) (Hp H d 0 λb0=>Hl H b 1 λb2 b1 f3=>Bd 0 b1/\aJ b2 λe=>fM H (e.add (toNat 0*1)) λb3=>Hl H b 1 λb5 b4 f4=>Bd 1 b4/\aJ b5 λs'=>fM H (s'.add (toNat 1*1)) λb6=>Cl 54 #[.Q b0,.I (wrap .i64 b3),.U b6] H λe5 o=>ag.EX λd'=> ∃e',e5=.T #[d'.agg,.I e']/\Kp H o [(Sa b 1),(some (e.add (toNat 0*1))),(Sa b 1)]/\Cl 53 #[d'.agg,.I e'] o λe6 y=> ∃f',e6=.S f'/\Kp o y [(Sa b 1),(some (e.add (toNat 0*1))),(Sa b 1)]/\R (.S f') y) (ite (t.toList==(⟨#[99,108,111,115,101]⟩:bC).toList) (Hp H d 0 λb7=>Hl H b 1 λb9 b8 f5=>Bd 0 b8/\aJ b9 λj=>fM H (j.add (toNat 0*1)) λc0=>Cl 55 #[.Q b7,.I (wrap .i64 c0)] H λe7 p=> ∃g',e7=.I g'/\Kp H p [(some (j.add (toNat 0*1))),(Sa b 1)]/\Cl 51 #[.I g',.Z] p λe8 z=> ∃h',e8=.S h'/\Kp p z [(some (j.add (toNat 0*1))),(Sa b 1)]/\R (.S h') z) (ite (t.toList==(⟨#[115,116,101,112]⟩:bC).toList) (Hp H d 0 λc1=>Cl 56 #[.Q c1] H λe9 v'=> ∃i' j',e9=.T #[.I i',.I j']/\Cl 49 #[.I i',.I j'] v' λf0 w'=> ∃k',f0=.S k'/\R (.S k') w') (ite (t.toList==(⟨#[97,110,115,119,101,114]⟩:bC).toList) (Hp H d 0 λc2=>Cl 57 #[.Q c2] H λc9 x'=> ∃l' m',c9=.T #[.I l',.I m']/\Cl 49 #[.I l',.I m'] x' λd0 y'=> ∃n',d0=.S n'/\R (.S n') y') (ite (t.toList==(⟨#[111,117,116]⟩:bC).toList) (Hp H d 0 λc3=>Hl H b 1 λc5 c4 f6=>Bd 0 c4/\aJ c5 λq=>fM H (q.add (toNat 0*1)) λc6=>Cl 58 #[.Q c3,.I (wrap .i64 c6)] H λd1 r=> ∃q' p' o' r',d1=.T #[.L q' p' o',.I r']/\Kp H r [(some (q.add (toNat 0*1))),(Sa b 1)]/\Cl 59 #[.L q' p' o'] r λd2 z'=> ∃T,d2=.S T/\aT z' (.C #[.S T] 9) λu' A'=>Cl 51 #[.I r',.L (Sa u' 0) 1 1] A' λd3 B'=> ∃B,d3=.S B/\R (.S B) B') (ite (t.toList==(⟨#[97,114,114,105,118,101]⟩:bC).toList) (Hp H d 0 λL'=>Hl H b 2 λP' O' M'=>Cl 60 #[.Q L',.L P' O' M'] H λd4 C'=>ag.EX λC=> ∃D,d4=.T #[C.agg,.I D]/\Cl 53 #[C.agg,.I D] C' λd5 D'=> ∃F,d5=.S F/\R (.S F) D') (ite (t.toList==(⟨#[116,97,107,101]⟩:bC).toList) (Hp H d 0 λQ'=>Cl 61 #[.Q Q'] H λd6 F'=>ag.EX λG=> ∃I,d6=.T #[G.agg,.I I]/\Cl 53 #[G.agg,.I I] F' λd7 G'=> ∃J,d7=.S J/\R (.S J) G') (ite (t.toList==(⟨#[116,105,99,107]⟩:bC).toList) (Hp H d 0 λR'=>Hl H b 1 λT' S' f1=>Bd 0 S'/\aJ T' λt'=>fM H (t'.add (toNat 0*1)) λU'=>Cl 62 #[.Q R',.U U'] H λd8 m=> ∃M,d8=.I M/\Kp H m [(Sa b 1)]/\Cl 51 #[.I M,.Z] m λe0 u=> ∃O,e0=.S O/\Kp m u [(Sa b 1)]/\R (.S O) u) (ite (t.toList==(⟨#[99,114,97,115,104]⟩:bC).toList) (Hp H d 0 λX'=>Hl H b 3 λa1 a0 Z'=>Cl 63 #[.Q X',.L a1 a0 Z'] H λe1 H'=> ∃P Q,e1=.T #[.I P,.I Q]/\Cl 49 #[.I P,.I Q] H' λe2 I'=> ∃U,e2=.S U/\R (.S U) I') (bk.ck H (AA b 0) λa2=>Cl 64 #[.P d 0,a2.agg] H λe3 J'=> ∃V,e3=.S V/\R (.S V) J')))))))))))):Cl 32 #[.P d 0,a.agg] h R:=aD [(16,λ_=>pK 14),(22,λ_=>pK 18),(28,λ_=>pK 12),(46,λ_=>pK 15),(54,λ_=>pK 11),(66,λ_=>pK 11),(72,λ_=>pK 11)] hv
def vK (q:ay (λ(u:Bool) H=>ite u (R (.T #[.S (⟨#[]⟩:bC),.I 6]) H) (ite (decide ((s.size:Int)>4096)) (R (.T #[.S (⟨#[]⟩:bC),.I 2]) H) (Cl 31 #[.S s] H λv n=>bk.EX λT=> ∃j,v=.T #[T.agg,.B j]/\bk.NW n λb o=>bk.cR o (AA b 0) T λe=>ite (!j) (R (.T #[.S (⟨#[]⟩:bC),.I 17]) e) (bk.ck e (AA b 0) λr=>Cl 32 #[.P d 0,r.agg] e λV p=> ∃m,V=.S m/\R (.T #[.S m,.I 0]) p)))) (λJ=> ∃t,Cc h d 0 (.Q t)/\J t.isNone h)):Cl 18 #[.P d 0,.S s] h R:=aD [(5,.join [(8,sB)])] q
abbrev aa.ff(h:Heap)(b:Nat)(x:aa.S):Prop:=h[b]? =some (.cells x.arr 368 (0,0))
def aa.ex{K:aa.S->Prop}(x:aa.S)(H:K x):aa.EX K:=⟨_,_,_,_,_,_,_,_,H⟩
def aa.gT{x:aa.S}{K:aa.S->Prop}(H:cz a x.l 0 h)(e:K x):aa.ck h a K:=by obtain⟨q,Q,j,m,_⟩:=H;rw[cA]at q;exact⟨_,q,_,Q,_,_,_,j,_,_,_,m,e⟩
def aa.im{x:aa.S}(H:aa.ff h b x):cz (AA b 0) x.l 0 h:=
 dy H (λj v e=>by rw[aX];simpa using e)
def aa.dZ{x:aa.S}{K:aa.S->Prop}(H:aa.ff h b x)(e:K x):aa.ck h (AA b 0) K:=gT (im H) e
def aa.fX{x:aa.S}(j: ∀b H,b=h.size->aa.ff H b x->Fr No h H->K b H):aT h (.C aa.S.z.arr 368) λb e=>aa.cR e (AA b 0) x (K b):=
 fL (vs:=x.l) rfl rfl j
def aa.cE{x:aa.S}(j: ∀b H,b=h.size->aa.ff H b x->Fr No h H->K b H):aT h (.C x.arr 368) λb e=>K b e:=
 bn (j _ _ rfl aU (Fr.push _ _))
def aa.fB{y x:aa.S}{K:cM}(A:aa.ff h b y)(o: ∀H,aa.ff H b x->Fr (λy=>y=b) h H->H.size=h.size->K H):aa.cR h (AA b 0) x K:=
 (show cQ (AA b 0) x.l 0 h K from dM A rfl rfl λm e D j=>o m e (Fr.of_eq D λC n=>j C n) D)
abbrev aw.ff(h:Heap)(b:Nat)(x:aw.S):Prop:=h[b]? =some (.cells x.arr 64 (0,0))
def aw.ex{K:aw.S->Prop}(x:aw.S)(H:K x):aw.EX K:=⟨_,_,_,_,_,H⟩
def aw.gT{x:aw.S}{K:aw.S->Prop}(H:cz a x.l 0 h)(e:K x):aw.ck h a K:=by obtain⟨q,Q,j,m,n,_⟩:=H;rw[cA]at q;exact⟨_,q,_,Q,_,j,_,m,_,n,e⟩
def aw.im{x:aw.S}(H:aw.ff h b x):cz (AA b 0) x.l 0 h:=
 dy H (λj v e=>by rw[aX];simpa using e)
def aw.dZ{x:aw.S}{K:aw.S->Prop}(H:aw.ff h b x)(e:K x):aw.ck h (AA b 0) K:=gT (im H) e
def aw.fX{x:aw.S}(j: ∀b H,b=h.size->aw.ff H b x->Fr No h H->K b H):aT h (.C aw.S.z.arr 64) λb e=>aw.cR e (AA b 0) x (K b):=
 fL (vs:=x.l) rfl rfl j
def aw.cE{x:aw.S}(j: ∀b H,b=h.size->aw.ff H b x->Fr No h H->K b H):aT h (.C x.arr 64) λb e=>K b e:=
 bn (j _ _ rfl aU (Fr.push _ _))
def aw.fB{y x:aw.S}{K:cM}(A:aw.ff h b y)(o: ∀H,aw.ff H b x->Fr (λy=>y=b) h H->H.size=h.size->K H):aw.cR h (AA b 0) x K:=
 (show cQ (AA b 0) x.l 0 h K from dM A rfl rfl λm e D j=>o m e (Fr.of_eq D λC n=>j C n) D)
abbrev aB.ff(h:Heap)(b:Nat)(x:aB.S):Prop:=h[b]? =some (.cells x.arr 272 (0,0))
def aB.ex{K:aB.S->Prop}(x:aB.S)(H:K x):aB.EX K:=⟨_,_,_,_,_,_,_,H⟩
def aB.gT{x:aB.S}{K:aB.S->Prop}(H:cz a x.l 0 h)(e:K x):aB.ck h a K:=by obtain⟨q,Q,j,m,n,o,p,_⟩:=H;rw[cA]at q;exact⟨_,q,_,Q,_,j,_,m,_,n,_,o,_,p,e⟩
def aB.im{x:aB.S}(H:aB.ff h b x):cz (AA b 0) x.l 0 h:=
 dy H (λj v e=>by rw[aX];simpa using e)
def aB.dZ{x:aB.S}{K:aB.S->Prop}(H:aB.ff h b x)(e:K x):aB.ck h (AA b 0) K:=gT (im H) e
def aB.fX{x:aB.S}(j: ∀b H,b=h.size->aB.ff H b x->Fr No h H->K b H):aT h (.C aB.S.z.arr 272) λb e=>aB.cR e (AA b 0) x (K b):=
 fL (vs:=x.l) rfl rfl j
def aB.cE{x:aB.S}(j: ∀b H,b=h.size->aB.ff H b x->Fr No h H->K b H):aT h (.C x.arr 272) λb e=>K b e:=
 bn (j _ _ rfl aU (Fr.push _ _))
def aB.fB{y x:aB.S}{K:cM}(A:aB.ff h b y)(o: ∀H,aB.ff H b x->Fr (λy=>y=b) h H->H.size=h.size->K H):aB.cR h (AA b 0) x K:=
 (show cQ (AA b 0) x.l 0 h K from dM A rfl rfl λm e D j=>o m e (Fr.of_eq D λC n=>j C n) D)
abbrev aH.ff(h:Heap)(b:Nat)(x:aH.S):Prop:=h[b]? =some (.cells x.arr 274 (0,0))
def aH.ex{K:aH.S->Prop}(x:aH.S)(H:K x):aH.EX K:=⟨_,_,_,_,_,_,_,_,_,_,_,_,_,_,_,_,_,_,_,_,H⟩
def aH.gT{x:aH.S}{K:aH.S->Prop}(H:cz a x.l 0 h)(e:K x):aH.ck h a K:=by obtain⟨q,Q,z,A,B,C,D,F,G,I,j,m,n,o,p,r,t,u,v,y,_⟩:=H;rw[cA]at q;exact⟨_,q,_,Q,_,z,_,A,_,B,_,C,_,D,_,F,_,G,_,I,_,j,_,m,_,n,_,o,_,p,_,r,_,t,_,u,_,v,_,y,e⟩
def aH.im{x:aH.S}(H:aH.ff h b x):cz (AA b 0) x.l 0 h:=
 dy H (λj v e=>by rw[aX];simpa using e)
def aH.dZ{x:aH.S}{K:aH.S->Prop}(H:aH.ff h b x)(e:K x):aH.ck h (AA b 0) K:=gT (im H) e
def aH.cE{x:aH.S}(j: ∀b H,b=h.size->aH.ff H b x->Fr No h H->K b H):aT h (.C x.arr 274) λb e=>K b e:=
 bn (j _ _ rfl aU (Fr.push _ _))
def aH.fB{y x:aH.S}{K:cM}(A:aH.ff h b y)(o: ∀H,aH.ff H b x->Fr (λy=>y=b) h H->H.size=h.size->K H):aH.cR h (AA b 0) x K:=
 (show cQ (AA b 0) x.l 0 h K from dM A rfl rfl λm e D j=>o m e (Fr.of_eq D λC n=>j C n) D)
abbrev aK.ff(h:Heap)(b:Nat)(x:aK.S):Prop:=h[b]? =some (.cells x.arr 374 (0,0))
def aK.ex{K:aK.S->Prop}(x:aK.S)(H:K x):aK.EX K:=⟨_,_,_,_,_,_,_,H⟩
def aK.gT{x:aK.S}{K:aK.S->Prop}(H:cz a x.l 0 h)(e:K x):aK.ck h a K:=by obtain⟨q,Q,j,m,n,_⟩:=H;rw[cA]at q;exact⟨_,q,_,Q,_,j,_,m,_,_,_,n,e⟩
def aK.im{x:aK.S}(H:aK.ff h b x):cz (AA b 0) x.l 0 h:=
 dy H (λj v e=>by rw[aX];simpa using e)
def aK.dZ{x:aK.S}{K:aK.S->Prop}(H:aK.ff h b x)(e:K x):aK.ck h (AA b 0) K:=gT (im H) e
def aK.fX{x:aK.S}(j: ∀b H,b=h.size->aK.ff H b x->Fr No h H->K b H):aT h (.C aK.S.z.arr 374) λb e=>aK.cR e (AA b 0) x (K b):=
 fL (vs:=x.l) rfl rfl j
def aK.cE{x:aK.S}(j: ∀b H,b=h.size->aK.ff H b x->Fr No h H->K b H):aT h (.C x.arr 374) λb e=>K b e:=
 bn (j _ _ rfl aU (Fr.push _ _))
def aK.fB{y x:aK.S}{K:cM}(A:aK.ff h b y)(o: ∀H,aK.ff H b x->Fr (λy=>y=b) h H->H.size=h.size->K H):aK.cR h (AA b 0) x K:=
 (show cQ (AA b 0) x.l 0 h K from dM A rfl rfl λm e D j=>o m e (Fr.of_eq D λC n=>j C n) D)
abbrev az.ff(h:Heap)(b:Nat)(x:az.S):Prop:=h[b]? =some (.cells x.arr 277 (0,0))
def az.ex{K:az.S->Prop}(x:az.S)(H:K x):az.EX K:=⟨_,_,_,_,_,_,_,_,_,_,_,_,_,_,_,_,_,_,_,_,_,_,_,H⟩
def az.gT{x:az.S}{K:az.S->Prop}(H:cz a x.l 0 h)(e:K x):az.ck h a K:=by obtain⟨q,Q,z,B,C,D,F,G,I,J,j,m,n,o,p,r,t,u,v,y,A,_⟩:=H;rw[cA]at q;exact⟨_,q,_,Q,_,z,_,B,_,C,_,D,_,F,_,G,_,I,_,J,_,j,_,m,_,n,_,o,_,p,_,r,_,t,_,u,_,v,_,y,_,_,_,A,e⟩
def az.im{x:az.S}(H:az.ff h b x):cz (AA b 0) x.l 0 h:=
 dy H (λj v e=>by rw[aX];simpa using e)
def az.dZ{x:az.S}{K:az.S->Prop}(H:az.ff h b x)(e:K x):az.ck h (AA b 0) K:=gT (im H) e
def az.fX{x:az.S}(j: ∀b H,b=h.size->az.ff H b x->Fr No h H->K b H):aT h (.C az.S.z.arr 277) λb e=>az.cR e (AA b 0) x (K b):=
 fL (vs:=x.l) rfl rfl j
def az.cE{x:az.S}(j: ∀b H,b=h.size->az.ff H b x->Fr No h H->K b H):aT h (.C x.arr 277) λb e=>K b e:=
 bn (j _ _ rfl aU (Fr.push _ _))
def az.fB{y x:az.S}{K:cM}(A:az.ff h b y)(o: ∀H,az.ff H b x->Fr (λy=>y=b) h H->H.size=h.size->K H):az.cR h (AA b 0) x K:=
 (show cQ (AA b 0) x.l 0 h K from dM A rfl rfl λm e D j=>o m e (Fr.of_eq D λC n=>j C n) D)
def dj.ex{K:dj.S->Prop}(x:dj.S)(H:K x):dj.EX K:=⟨_,_,_,_,_,_,_,_,_,_,_,_,H⟩
abbrev aC.ff(h:Heap)(b:Nat)(x:aC.S):Prop:=h[b]? =some (.cells x.arr 174 (0,0))
def aC.ex{K:aC.S->Prop}(x:aC.S)(H:K x):aC.EX K:=⟨_,_,_,_,_,_,_,_,_,_,_,_,_,_,_,_,_,_,_,_,_,H⟩
def aC.gT{x:aC.S}{K:aC.S->Prop}(H:cz a x.l 0 h)(e:K x):aC.ck h a K:=by obtain⟨q,Q,y,z,A,B,C,D,F,G,j,m,n,o,p,r,t,u,v,_⟩:=H;rw[cA]at q;exact⟨_,q,_,Q,_,y,_,z,_,A,_,B,_,C,_,D,_,F,_,G,_,j,_,m,_,n,_,o,_,p,_,_,_,r,_,t,_,u,_,v,e⟩
def aC.im{x:aC.S}(H:aC.ff h b x):cz (AA b 0) x.l 0 h:=
 dy H (λj v e=>by rw[aX];simpa using e)
def aC.dZ{x:aC.S}{K:aC.S->Prop}(H:aC.ff h b x)(e:K x):aC.ck h (AA b 0) K:=gT (im H) e
def aC.fX{x:aC.S}(j: ∀b H,b=h.size->aC.ff H b x->Fr No h H->K b H):aT h (.C aC.S.z.arr 174) λb e=>aC.cR e (AA b 0) x (K b):=
 fL (vs:=x.l) rfl rfl j
def aC.cE{x:aC.S}(j: ∀b H,b=h.size->aC.ff H b x->Fr No h H->K b H):aT h (.C x.arr 174) λb e=>K b e:=
 bn (j _ _ rfl aU (Fr.push _ _))
def aC.fB{y x:aC.S}{K:cM}(A:aC.ff h b y)(o: ∀H,aC.ff H b x->Fr (λy=>y=b) h H->H.size=h.size->K H):aC.cR h (AA b 0) x K:=
 (show cQ (AA b 0) x.l 0 h K from dM A rfl rfl λm e D j=>o m e (Fr.of_eq D λC n=>j C n) D)
abbrev ag.ff(h:Heap)(b:Nat)(x:ag.S):Prop:=h[b]? =some (.cells x.arr 110 (0,0))
def ag.ex{K:ag.S->Prop}(x:ag.S)(H:K x):ag.EX K:=⟨_,_,_,_,_,_,_,_,H⟩
def ag.gT{x:ag.S}{K:ag.S->Prop}(H:cz a x.l 0 h)(e:K x):ag.ck h a K:=by obtain⟨q,Q,j,m,n,o,_⟩:=H;rw[cA]at q;exact⟨_,q,_,Q,_,j,_,m,_,n,_,_,_,o,e⟩
def ag.im{x:ag.S}(H:ag.ff h b x):cz (AA b 0) x.l 0 h:=
 dy H (λj v e=>by rw[aX];simpa using e)
def ag.dZ{x:ag.S}{K:ag.S->Prop}(H:ag.ff h b x)(e:K x):ag.ck h (AA b 0) K:=gT (im H) e
def ag.fX{x:ag.S}(j: ∀b H,b=h.size->ag.ff H b x->Fr No h H->K b H):aT h (.C ag.S.z.arr 110) λb e=>ag.cR e (AA b 0) x (K b):=
 fL (vs:=x.l) rfl rfl j
def ag.cE{x:ag.S}(j: ∀b H,b=h.size->ag.ff H b x->Fr No h H->K b H):aT h (.C x.arr 110) λb e=>K b e:=
 bn (j _ _ rfl aU (Fr.push _ _))
def ag.fB{y x:ag.S}{K:cM}(A:ag.ff h b y)(o: ∀H,ag.ff H b x->Fr (λy=>y=b) h H->H.size=h.size->K H):ag.cR h (AA b 0) x K:=
 (show cQ (AA b 0) x.l 0 h K from dM A rfl rfl λm e D j=>o m e (Fr.of_eq D λC n=>j C n) D)
abbrev ax.ff(h:Heap)(b:Nat)(x:ax.S):Prop:=h[b]? =some (.cells x.arr 176 (0,0))
def ax.ex{K:ax.S->Prop}(x:ax.S)(H:K x):ax.EX K:=⟨_,_,_,_,_,_,_,_,_,_,_,_,_,_,_,_,_,_,_,_,_,_,_,_,_,_,_,_,H⟩
def ax.gT{x:ax.S}{K:ax.S->Prop}(H:cz a x.l 0 h)(e:K x):ax.ck h a K:=by obtain⟨q,Q,z,F,G,I,J,M,O,P,j,m,n,o,p,r,t,u,v,y,A,B,C,D,_⟩:=H;rw[cA]at q;exact⟨_,q,_,Q,_,z,_,F,_,G,_,I,_,J,_,M,_,O,_,P,_,j,_,m,_,n,_,o,_,p,_,r,_,t,_,u,_,v,_,_,_,y,_,A,_,B,_,C,_,_,_,D,e⟩
def ax.im{x:ax.S}(H:ax.ff h b x):cz (AA b 0) x.l 0 h:=
 dy H (λj v e=>by rw[aX];simpa using e)
def ax.dZ{x:ax.S}{K:ax.S->Prop}(H:ax.ff h b x)(e:K x):ax.ck h (AA b 0) K:=gT (im H) e
def ax.fX{x:ax.S}(j: ∀b H,b=h.size->ax.ff H b x->Fr No h H->K b H):aT h (.C ax.S.z.arr 176) λb e=>ax.cR e (AA b 0) x (K b):=
 fL (vs:=x.l) rfl rfl j
def ax.cE{x:ax.S}(j: ∀b H,b=h.size->ax.ff H b x->Fr No h H->K b H):aT h (.C x.arr 176) λb e=>K b e:=
 bn (j _ _ rfl aU (Fr.push _ _))
def ax.fB{y x:ax.S}{K:cM}(A:ax.ff h b y)(o: ∀H,ax.ff H b x->Fr (λy=>y=b) h H->H.size=h.size->K H):ax.cR h (AA b 0) x K:=
 (show cQ (AA b 0) x.l 0 h K from dM A rfl rfl λm e D j=>o m e (Fr.of_eq D λC n=>j C n) D)
def eL.ex{K:eL.S->Prop}(x:eL.S)(H:K x):eL.EX K:=⟨_,_,_,_,_,_,_,_,_,_,_,_,H⟩
def aR.ex{K:aR.S->Prop}(x:aR.S)(H:K x):aR.EX K:=⟨_,_,_,_,_,_,H⟩
def gz.ex{K:gz.S->Prop}(x:gz.S)(H:K x):gz.EX K:=⟨_,_,_,_,_,_,_,_,_,_,_,_,_,_,_,_,_,_,_,_,_,_,_,H⟩
abbrev cJ.ff(h:Heap)(b:Nat)(x:cJ.S):Prop:=h[b]? =some (.cells x.arr 526 (0,0))
def cJ.ex{K:cJ.S->Prop}(x:cJ.S)(H:K x):cJ.EX K:=⟨_,_,_,_,_,_,_,_,_,_,_,_,_,_,_,_,_,_,_,_,_,_,_,_,_,_,_,H⟩
def cJ.cE{x:cJ.S}(j: ∀b H,b=h.size->cJ.ff H b x->Fr No h H->K b H):aT h (.C x.arr 526) λb e=>K b e:=
 bn (j _ _ rfl aU (Fr.push _ _))

end
section
namespace Bn
open Cb
open iZ (Ev dD)
def jK(s q:Nat):Nat:=if s%2=1 then(s/2) ^^^ q else s/2
def jU(q:Nat):Nat->Nat->Nat
 |0,s=>s
 |k+1,s=>jU q k (jK s q)
def JH(s c q:Nat):Nat:=jU q 8 (s ^^^ c)
def runN(s:Nat)(b:cO)(q:Nat):Nat:=b.foldl (λs c=>JH s c.toNat q) s
def Ec(b:cO):Nat:=65535 ^^^ (runN 65535 b 33800%65536)
def mq(b:cO):Nat:=4294967295 ^^^ runN 4294967295 b 2197175160
def Iq(b:cO):cO:= [UInt8.ofNat (Ec b/256),UInt8.ofNat (Ec b)]
def MW(b:cO):cO:= [UInt8.ofNat (mq b/16777216),UInt8.ofNat (mq b/65536),UInt8.ofNat (mq b/256),UInt8.ofNat (mq b)]
def JV(x:Ev):cO:= [47,47]++x.host.data.toList++ [47]++x.kj.data.toList
def FP(x:Ev):Tr:=if x=.zero then wW [num 1,num 0]else if x.lS=true then wW [num 2,wW [num x.node.toNat,num x.iA.toNat]]else wW [num 1,.mk 3 0 (JV x) []]
def Ba(s:cO):Ev:=⟨false,0,0,⟨(Lib.cut (Lib.trimPrefix s [47,47]) [47]).1.toArray⟩,⟨(Lib.cut (Lib.trimPrefix s [47,47]) [47]).2.1.toArray⟩⟩
def yq(s:cO):Bool:=Lib.hasPrefix s [47,47] && (Lib.cut (Lib.trimPrefix s [47,47]) [47]).2.2 && !(Lib.cut (Lib.trimPrefix s [47,47]) [47]).1.isEmpty && dD (Ba s)
def at_(l:List Tr)(i:Nat):Tr:=l.getD i MQ
def Ed(l:List Tr):Bool:=l.all λt=>pG t (num t.n)
def Qw(t:Tr):Ev:=⟨true,((at_ t.l 0).n:Int),((at_ t.l 1).n:Int),⟨#[]⟩,⟨#[]⟩⟩
def pL(V:mv)(t:Tr):Option Ev:=
 if iq V t=true/\t.k=4/\t.l.length=2 then
  if pG (at_ t.l 0) (num 1)=true/\pG (at_ t.l 1) (num 0)=true then some .zero
  else if pG (at_ t.l 0) (num 1)=true/\(at_ t.l 1).k=3 then(if yq (at_ t.l 1).b=true then some (Ba (at_ t.l 1).b)else none)
  else if pG (at_ t.l 0) (num 2)=true then(if(at_ t.l 1).k=4/\(at_ t.l 1).l.length=2/\Ed (at_ t.l 1).l=true/\dD (Qw (at_ t.l 1))=true then some (Qw (at_ t.l 1))else none)
  else none
 else none
structure CC where
 e:Ev
 tm:Nat
 sq:Nat
deriving DecidableEq
def CC.zero:CC:=⟨.zero,0,0⟩
def kF(x:CC):Bool:=dD x.e && decide (x.tm<=1099511627776) && decide (x.sq<=1099511627776)
def Vh(x:CC):Tr:=wW [FP x.e,wW [num x.tm,num x.sq]]
def lu(V:mv)(t:Tr):Option CC:=
 if t.k=4/\t.l.length=2/\(at_ t.l 1).k=4/\(at_ t.l 1).l.length=2 then
  match pL V (at_ t.l 0)with
  |none=>none
  |some e=>if kF ⟨e,(at_ (at_ t.l 1).l 0).n,(at_ (at_ t.l 1).l 1).n⟩=true/\pG (Vh ⟨e,(at_ (at_ t.l 1).l 0).n,(at_ (at_ t.l 1).l 1).n⟩) t=true then some ⟨e,(at_ (at_ t.l 1).l 0).n,(at_ (at_ t.l 1).l 1).n⟩else none
 else none
def typeAt(l:List Tr)(i:Nat):Int:=if i<l.length/\(at_ l i).n<=2/\pG (at_ l i) (num (at_ l i).n)=true then((at_ l i).n:Int)else -1
def sumOf(V:mv)(l:List Tr)(sum:Nat):Except Int (cO):=
 if iq V (wW (l++ [rW (List.replicate (2*sum) 0)]))=true then .ok (if sum=1 then Iq (enc (wW (l++ [rW (List.replicate (2*sum) 0)])))else MW (enc (wW (l++ [rW (List.replicate (2*sum) 0)]))))else .error 3
def oE(V:mv)(l:List Tr)(i:Nat):Except Int Tr:=
 if i<l.length then
  if l.all (iq V)=true/\0<=typeAt l i then
   if 0<typeAt l i then(match sumOf V l (typeAt l i).toNat with
    | .error e=> .error e
    | .ok b=>if iq V (wW (l++ [rW b]))=true then .ok (wW (l++ [rW b]))else .error 3)
   else if iq V (wW l)=true then .ok (wW l)else .error 3
  else .error 3
 else .error 1
def rM(V:mv)(t:Tr)(i:Nat):Except Int (List Tr):=
 if iq V t=true/\t.k=4/\0<=typeAt t.l i then
  if typeAt t.l i=0 then .ok t.l
  else if i<t.l.length - 1/\pG (at_ t.l (t.l.length - 1)) (rW (at_ t.l (t.l.length - 1)).b)=true/\(at_ t.l (t.l.length - 1)).b.length=2*(typeAt t.l i).toNat then
   (match sumOf V (t.l.take (t.l.length - 1)) (typeAt t.l i).toNat with
   | .error e=> .error e
   | .ok b=>if b=(at_ t.l (t.l.length - 1)).b then .ok (t.l.take (t.l.length - 1))else .error 10)
  else .error 3
 else .error 3
structure Prim where
 fl:Nat
 sum:Int
 dest:Ev
 rep:Ev
 id:CC
 kG:Nat
deriving DecidableEq
def Prim.zero:Prim:=⟨0,0,.zero,.zero,.zero,0⟩
def X9(n all:Int):Bool:=IntKind.wrap .u64 ((BitVec.ofInt (IntKind.bits .u64) n &&& ~~~ BitVec.ofInt (IntKind.bits .u64) all).toNat:Int)==0
def xa(p:Prim):Bool:=X9 (p.fl:Int) 409638 && decide (0<=p.sum) && decide (p.sum<=2) && dD p.dest && dD p.rep && kF p.id && decide (p.kG<=1099511627776)
def JW(p:Prim):List Tr:= [num 7,num p.fl,num p.sum.toNat,FP p.dest,FP p.id.e,FP p.rep,wW [num p.id.tm,num p.id.sq],num p.kG]
def pM(V:mv)(p:Prim):Except Int Tr:=if xa p=true then oE V (JW p) 2 else .error 3
def Aa(l:List Tr)(d r:Ev)(i:CC):Prim:=⟨(at_ l 1).n,((at_ l 2).n:Int),d,r,i,(at_ l 7).n⟩
def Bb(V:mv)(t:Tr):Except Int Prim:=
 match rM V t 2 with
 | .error e=> .error e
 | .ok l=>if l.length=8 then(match pL V (at_ l 3),pL V (at_ l 5),lu V (wW [at_ l 4,at_ l 6])with
  |some d,some r,some i=>(match pM V (Aa l d r i)with
   | .ok a=>if pG a t=true then .ok (Aa l d r i)else .error 3
   | .error _=> .error 3)
  |_,_,_=> .error 3)else .error 3
structure BP where
 ty:Nat
 nr:Nat
 fl:Nat
 sum:Int
 data:cO
deriving DecidableEq
def Qx(l:List Nat):Tr:=wW (l.map num)
def kH(V:mv)(b:cO):Bool:=match rL V b with| .ok (t,n)=>decide (n=b.length) && decide (enc t=b)| .error _=>false
def fv(V:mv)(b:cO):Tr:=match rL V b with| .ok (t,_)=>t| .error _=>MQ
def Vj(V:mv)(d:cO):Bool:=kH V d && pG (fv V d) (num (fv V d).n) && decide ((fv V d).n<=1099511627776)
def uh(t:Tr):Nat:=(at_ t.l 0).n
def Ir(t:Tr):Nat:=(at_ t.l 1).n
def Qy(V:mv)(d:cO):Bool:=kH V d && decide ((fv V d).k=4/\(fv V d).l.length=2) && pG (fv V d) (Qx [uh (fv V d),Ir (fv V d)]) && decide (1<=uh (fv V d)/\uh (fv V d)<=255/\Ir (fv V d)<=uh (fv V d))
def Be(V:mv)(t:Nat)(d:cO):Bool:=(if t=6 then kH V d && (pL V (fv V d)).isSome else if t=7 then Vj V d else if t=10 then Qy V d else true) && decide (d.length<=200)
def mr(n:Nat):Bool:=decide (1<=n/\n<=255)
def oP(V:mv)(b:BP):Bool:=mr b.ty && mr b.nr && X9 (b.fl:Int) 23 && decide (0<=b.sum) && decide (b.sum<=2) && Be V b.ty b.data
def Ol(b:BP):List Tr:= [num b.ty,num b.nr,num b.fl,num b.sum.toNat,rW b.data]
def vL(V:mv)(b:BP):Except Int Tr:=if oP V b=true then oE V (Ol b) 3 else .error 3
def ui(l:List Tr):BP:=⟨(at_ l 0).n,(at_ l 1).n,(at_ l 2).n,((at_ l 3).n:Int),(at_ l 4).b⟩
def Ee(V:mv)(t:Tr):Except Int BP:=
 match rM V t 3 with
 | .error e=> .error e
 | .ok l=>if l.length=5/\(at_ l 4).k=2 then(match vL V (ui l)with
  | .ok a=>if pG a t=true then .ok (ui l)else .error 3
  | .error _=> .error 3)else .error 3
structure JX where
 p:Prim
 bl:List BP
deriving DecidableEq
def alone(k:Nat):Bool:=decide (k=1\/k=6\/k=7\/k=10)
def apart(b c:BP):Bool:=decide (c.nr≠b.nr) && (decide (c.ty≠b.ty)|| !alone b.ty)
def LB(V:mv):List BP->List BP->Bool
 |_, []=>true
 |pre,b::l=>oP V b && pre.all (apart b) && LB V (pre++ [b]) l
def FQ(V:mv)(l:List BP):Bool:=match l.getLast? with
 |none=>false
 |some z=>decide (l.length<=8) && decide (z.ty=1/\z.nr=1) && LB V [] l
def Ef(V:mv)(t:Tr):cO:=if iq V t=true then enc t else []
def JY(V:mv):List BP->cO->Option (cO)
 | [],o=>some o
 |b::l,o=>match vL V b with
  | .error _=>none
  | .ok t=>JY V l (o++Ef V t)
def xc(V:mv)(b:JX):Option (cO):=match pM V b.p with
 | .error _=>none
 | .ok t=>JY V b.bl (Ef V t)
def xd(V:mv)(b:JX):Option (cO):=
 if FQ V b.bl=true then(match xc V b with
  |none=>none
  |some l=>if l.length<=598 then some (159::(l++ [255]))else none)
 else none
def JZ(V:mv):List Tr->List BP->Except Int (List BP)
 | [],o=> .ok o
 |t::l,o=>match Ee V t with
  | .error e=> .error e
  | .ok b=>JZ V l (o++ [b])
def BQ(V:mv)(b:cO):Except Int JX:=
 if b.length<=1200 then(match rL V b with
  | .error e=> .error e
  | .ok (t,n)=>if n=b.length/\t.k=4/\2<=t.l.length/\t.l.length<=9 then(match Bb V (at_ t.l 0)with
   | .error e=> .error e
   | .ok p=>(match JZ V (t.l.drop 1) []with
    | .error e=> .error e
    | .ok l=>if(xd V ⟨p,l⟩).isSome=true then .ok ⟨p,l⟩else .error 3))else .error 3)
 else .error 2
def jP(V:mv)(B:cO):Bool:=match BQ V B with
 | .error _=>false
 | .ok b=>decide (xd V b=some B)
structure WD where
 rc:Bool
 dl:Bool
 de:Bool
 reason:Nat
 at':Nat
 of:CC
deriving DecidableEq
def Is(r:WD):Bool:=(r.rc||r.dl||r.de) && decide (r.reason<=255) && decide (r.at'<=1099511627776) && kF r.of

end Bn
end
section
namespace Cb
variable {V:cO→Bool} {h d H:Heap} {R E:dH} {p:bH} {r l c:Nat} {b:cO} {pos left:Nat}
variable {m n a i C f:Nat} {o:Bool} {deep:Int} {K:Option Value->Heap->Prop}
def yr(g:Heap)(r:Nat):Nat:=match aQ g ⟨r,1,none⟩with
 |some (.int _ z)=>z.toNat
 |_=>0
def yZ.yr(e:yZ h r p c b pos left):yr h r=pos:=by unfold Cb.yr;rw[show aQ h (AA r 1)=some (.I (pos))from aj e.cV];exact aG _
def GR{D:fZ}{v:BV}{m:Int}(g:v.ok h D):hM h D (.mk m 0 v.b []) ⟨m,0,v,none,0,0⟩:=by exact⟨⟨rfl,rfl,rfl,g⟩, [],⟨rfl,Row.nil,λe=>absurd rfl e,bf _⟩,by trivial⟩
theorem Om(U:lU V d)(D':Fr No d h)(hr:d.size<=r)(a':yZ h r p c b pos left)(hn:n<18446744073709551616)(k1: ∀H (x:CV) (e':cO) (next:Nat),Io V b pos m n o=.ok (e',next)->hM H (λy=>h.size<=y) (.mk m 0 e' []) x->yZ H r p c b next left->Fr (λy=>y=r) h H->R x.agg H)(X: ∀H e,Io V b pos m n o=.error e->Fr (λy=>y=r) h H->E (S9 e) H):iX Tryz.prog 384 #[.P r 0,.agg #[.I (m:Int),.U (n:Int),.B o]] h R E:=by
 refine pH (bp.box λe' h1 eb hb f1=>aa.box λb1 h2 b4 x' P=>⟨_,aj (P.get hb id),aa.new λB t b5 j' Q=>⟨_,aj ((P.tt Q).get hb id),?_⟩⟩);have zr:=aE a'.cV;have zb:=aE hb;have c7:=aE x';have c8:=aE j';have z1:=f1.1;have z2:=P.1;have z4:=Q.1;have A:=f1.tt (P.tt Q);have H4:=a'.on A;have z':=(P.tt Q).get hb id;have y':=Q.get x' id;have b9:=a'.len;have M: ∀y,aN p y->b≠ []->y<h.size:=λy j e=>jT a'.row (by cases O':b with|nil=>exact absurd O' e|cons=>simp[bc]) j;have u': ∀g (v:BV) (next:Nat),aa.at g B m 0 v.p v.b.length v.c none 0 0->aa.at g b1 0 0 none 0 0 none 0 0->v.ok g (λy=>t.size<=y)->Io V b pos m n o=.ok (v.b,next)->yZ g r p c b next left->Fr (λy=>y=r\/y=B) t g->
   aa.LD g (AA B 0) λt0 t1 a7 a6 a5 b0 a9 a8=>aa.ST g (AA b1 0) t0 t1 a7 a6 a5 b0 a9 a8 λT=>aa.LD T (AA b1 0) λr0 r1 Z' X' V' a4 a3 a0=>R (.agg #[.I r0,.U r1,.L Z' X' V',.L a4 a3 a0]) T:=by
  intro g v next q2 q1 qv ql qr qf;refine aa.ld q2 (aa.set q1 λT O D G=>aa.ld O ?_);have f7:Fr (λy=>y=b1) g T:=Fr.of_eq D (λc z=>G c z);refine k1 T ⟨m,0,v,none,0,0⟩ v.b next ql (GR ((qv.frame f7 (λy j e=>ae)).mono (λy j=>ae))) (qr.frame f7 ae (λy j e L=>cv (M y j e))) ?_;exact((Fr.no A qf).trans f7 (S'':=λy=>y=r) (λx hx e=>ae) (λx hx e=>ae))
 cases o with
 |false=>rw[iE];refine bp.ld z' (JU U (D'.tt A) H4 hn (λh5 v pv T' a le H5 S=>⟨_,_,_,rfl,?_⟩) (λh5 e pe S=>X h5 e (by simp only[Io,pe]) ((A.tt S).mono λ_ _=>False.elim)));have L':=S.get j' ae;refine aY L' (by show 2<4;omega) λh6 O D G=> ?_;have f6:Fr (λy=>y=B) h5 h6:=Fr.of_eq D (λc z=>G c z);refine u' h6 v (pos+n) O (f6.get (S.get y' ae) ae) (T'.frame f6 (λy j e=>ae)) (by simp only[Io,pv]) (H5.frame f6 ae (λy j e L=>cv (M y j e))) (S.trans f6 (λ_ _=> .inl) (λ_ _=> .inr))
 |true=>
  rw[fe];refine⟨λg=> ∃(k next:Nat)(v:BV),(b.length+1<=k+next/\JR V b m k next v.b=Io V b pos m n true)/\aa.at g B m 0 v.p v.b.length v.c none 0 0/\Own g v.p v.b.length v.c 1 (bc v.b)/\(∀y,aN v.p y->t.size<=y)/\yZ g r p c b next left/\Fr (λy=>y=r\/y=B) t g/\v.b.length<=next,λg=>b.length+1 - yr g r,
   ⟨b.length+1,pos,⟨none,0, []⟩,⟨ae,rfl⟩,j',.nil rfl rfl rfl rfl,(λy ⟨b2,e,_⟩=>by cases e),H4,Fr.refl _ _,bg _⟩,?_⟩
  rintro g ⟨k,next,v,⟨b8,q⟩,g2,ov,nv,Hg,J,hv⟩;have c1:=Hg.pos;have K':=J.get y' ae;have M':=J.get z' ae;obtain⟨k,rfl⟩: ∃k',k=k'+1:=⟨k - 1,ae⟩;refine MV Hg (λh9 L c0 H9 f9=>⟨_,rfl,?_⟩) (λL=>⟨_,rfl,?_⟩);all_goals unfold JR at q;simp only[L,cI,aV,bQ]at q
  .rw[fe];exact u' h9 v (next+1) (f9.get g2 ae) (f9.get K' ae) (BV.kZ (ov.frame f9 (λy j e=>cv (nv y j))) nv) q.symm H9 (J.trans f9 bD (λ_ _=> .inl))
  .rw[iE];refine D6 Hg (λv' m' n' B' o' hh F' u=>⟨_,_,_,rfl,bp.new λb3 s b6 l' I=>ay.of λH' hJ=>⟨_,aj l',_,aj (I.get (u.get M' ae) id),?_⟩⟩) (λv' e hh u=>X v' e (by rw[<-q,hh]) ?_)
   .obtain⟨c3,c2,Q',_⟩:=DU hh;rw[hh]at q;dsimp only at q;have G':=F'.on I;have t':Fr (λy=>y=r\/y=B) t s:=(J.trans u bD (λ_ _=> .inl)).on I;have zg:=J.1;have c4:=u.1;have g':aa.at s B m 0 v.p v.b.length v.c none 0 0:=I.get (u.get g2 ae) id;have R':=(ov.frame u (λy j e=>cv (nv y j))).frame I bD;have Z:Fr (λy=>y=r) h s:=(Fr.no A t').mono (λx hx e=>ae);have I':Fr No d s:=D'.fresh Z (λy e=>ae);have done: ∀g3,Fr No s g3->(m'=m/\o'=false)->H' g3:=by
     intro g3 F P';rw[ah P']at q;subst hJ;refine⟨_,_,_,aj (F.get g' id),bp.ld (F.get l' id) (JU U (I'.tt F) (G'.on F) Q' (λh' E' pw U' lw le s' w=>⟨_,_,_,rfl,aj (w.get (F.get g' id) ae),?_⟩) (λh' e pe w=>X h' e (by rw[<-q,pe]) (Z.on (F.tt w))))⟩;have S':=(R'.frame F bD).frame w (λy j e=>cv (nv y j));have a:v.b.length<=1000000:=ae
     refine du gD.tU gD.uU S' U'.row (by rw[fO,bJ]) (kY E'.b) ae ae ?_;intro p' c' w' C' _ b' b7;rw[<-hZ]at C';have c5:=I.1;have z3:=F.1;have c6:=w.1;refine⟨_,_,_,rfl,aY (b'.get (w.get (F.get g' id) ae) (λj=>cv (nv _ j))) (by show 2<4;omega) λi' O D G=>⟨rfl,?_,?_⟩⟩;have f':Fr (λy=>y=B) w' i':=Fr.of_eq D (λc z=>G c z);have A': ∀y,aN p' y->t.size<=y:=λy j=>by grind
     have d':=s'.frame b' (λj=>cv (nv _ j)) (λy j e q'=>iI (nv _ q') (M y j e));rw[pw]at q;refine⟨k,B'+n',⟨p',c',v.b++E'.b⟩,⟨ae,q⟩,by rw[ak];exact O,by rw[ak];exact C'.frame f' (λy j e=>cv (A' y j)),A',d'.frame f' ae (λy j e L=>cv (M y j e)),?_,by rw[ak];omega⟩;have a1:Fr (λy=>y=r\/y=B) t h':=(t'.on F).trans w bD (λ_ _=> .inl);have a2:Fr (λy=>y=r\/y=B) t w':=a1.trans b' bD (λx hx j=>cv (nv x j));exact a2.trans f' bD (λ_ _=> .inr);have J':yr i' r=B'+n':=by have d':=s'.frame b' (λj=>cv (nv _ j)) (λy j e q'=>iI (nv _ q') (M y j e));exact(d'.frame (Fr.of_eq (S:=λy=>y=B) D (λc z=>G c z)) ae (λy j e L=>cv (M y j e))).yr
     show b.length+1 - yr i' r<b.length+1 - yr g r;rw[J',Hg.yr];omega
    split
    .rename_i r';have em:m'=m:=by have:=eq_of_beq r';omega
     refine⟨_,aj l',hN (λho=>⟨rfl,rfl,done s (Fr.refl _ _) ⟨em,by cases o' with|true=>cases ho|false=>rfl⟩⟩) (λho=>X s 3 (by grind) Z)⟩
    rename_i r';exact hN (λe=>absurd e bA) (λ_=>X s 3 (by rw[<-q,af (λe=>r' (by rw[e.1];simp))]) Z)
   exact((Fr.no A J).on u).mono (λx hx e=>ae)
def tI:jL Tryz.prog 366 368 4 64 (.agg #[.I 0,.U 0,.Z,.Z]):=⟨zzkr,zzkr,rfl⟩
def uI:Tryz.prog.underlying 366=some (.slice 368):=zzkr
def pO(x:CV): ∀v∈jr x,fH v=true:=by intro v e;simp only[bG,dU,or_false]at e;rcases e with rfl|rfl|rfl|rfl<;>rfl
def ia: ∀(t:List Tr),9*t.length<=dG t
 | []=>bg _
 | .mk k n B l::t=>by have:=ia t;simp only[dG,room,bw];omega
def LC(V:mv)(d:Heap)(r:Nat)(p:bH)(c:Nat)(b:cO)(a:Nat):Prop:= ∀(h:Heap)(pos left:Nat)(R E:dH),Fr No d h->yZ h r p c b pos left->
 (∀H (t:Tr) (x:CV) (next L:Nat),hY V b a pos left=.ok (t,next,L)->hM H (λy=>h.size<=y) t x->yZ H r p c b next L->Fr (λy=>y=r) h H->R x.agg H)->
 (∀H e,hY V b a pos left=.error e->Fr (λy=>y=r) h H->E (S9 e) H)->iX Tryz.prog 323 #[.pointer (some ⟨r,0,none⟩),.int .i64 (7 - (a:Int))] h R E
structure Vk (h4 g:Heap) (r b2:Nat) (p:bH) (c:Nat) (b:cO) (pos next left:Nat) (ts:List Tr) (ys:List CV) (q:bH) (cl:Nat):Prop where
 cV:aa.at g b2 4 0 none 0 0 q ys.length cl
 own:Own g q ys.length cl 4 (ys.flatMap jr)
 ge: ∀y,aN q y->h4.size<=y
 tr:dT g (λy=>h4.size<=y/\¬aN q y) ts ys
 room:dG ts<=10*(next - pos)
 le:pos<=next
 rd:yZ g r p c b next left
 fr:Fr (λy=>y=r\/y=b2) h4 g
theorem Qz{k g:Heap}{B next:Nat}{U:List Tr}{w:List CV}{q:bH}{cl:Nat}{Φ:cM}(IH:LC V d r p c b a)(u4:Fr No d k)(D':d.size<=r)(r4:r<k.size)(b4:B<k.size)(rb:r≠B)(b0:d.size<=B)(hd:deep=6 - (a:Int))(C':a<=6)(v': ∀y,aN p y->b≠ []->y<k.size/\y≠B)(L:Vk k g r B p c b pos next left U w q cl)(hk: ∀X P c' t y' Q O,hY V b a next left=.ok (t,P,c')->Vk k X r B p c b pos P c' (U++ [t]) y' Q O->next<P->Φ X)(kE: ∀H e,hY V b a next left=.error e->Fr (λy=>y=r\/y=B) k H->E (S9 e) H):
  ∃(J:bH)(I G:Nat),aQ g (AA B 3)=some (.L J I G)/\
  Ce 323 #[.P r 0,.I (IntKind.wrap .i64 (deep+1))] g (λw' a'=>
  ∃(e' f':Int)(i':bH)(h' g':Nat)(l':bH)(k' j':Nat),w'=.agg #[.I e',.U f',.L i' h' g',.L l' k' j']/\
  aQ a' (AA B 3)=some (.L J I G)/\
  aT a' (.C #[.I e',.U f',.L i' h' g',.L l' k' j'] 368) λp' b'=>
  aQ b' (AA B 3)=some (.L J I G)/\
  bu Tryz.prog (Builtin.append_ #[366,366] 366 #[.L J I G,.L (Sa p' 0) 1 1]) b' λx' r'=>
  ∃(o':bH)(n' m':Nat),x'=.L o' n' m'/\
  aI r' (AA B 3) (.L o' n' m') λq'=>Φ q') E:=by
 have zg:=L.fr.1;have B':=L.rd.len;have hp:=L.rd.pos;have A':=L.le;have ll:w.length<=2000000:=by have h1:=ia U;have h2:=L.room;have h3:=L.tr.len;omega
 refine⟨_,_,_,aj L.cV,?_⟩;rw[df (n:=deep+1) ae ae];rw[show deep+1=7 - (a:Int) by omega];refine IH g next left _ E (u4.fresh L.fr (λy e=>ae)) L.rd (λA t x u' t' D tx H7 s=> ?_) (λA e D s=>kE A e D (L.fr.trans s bD (λ_ _=> .inl)));obtain⟨rx,lx,_,_⟩:=JS a _ _ _ _ _ L.rd.pos D;have z7:=s.1;have M:=s.get L.cV ae;refine⟨_,_,_,_,_,_,_,_,rfl,aj M,aa.box λb3 h8 z' s' F=>⟨aj (F.get M id),?_⟩⟩;have z8:=F.1;have o8:=(L.own.frame s (λy j e=>cv (L.ge y j))).frame F bD;have q7: ∀y,aN q y->y<g.size:=λy j=>L.own.dW j
 refine du tI uI o8 (ds:=jr x) (.inr ⟨_,rfl,aa.held s'⟩) rfl (pO x) ae ae λQ O h9 o9 _ u g9=>⟨_,_,_,rfl,?_⟩;have z9:=u.1;have S: ∀y,aN q y->k.size<=y:=L.ge;have b9:=u.get (F.get M id) (λj=>cv (S _ j));refine aY b9 (by show 3<4;omega) λZ d1 d2 d3=> ?_;have z:Fr (λy=>y=B) h9 Z:=Fr.of_eq d2 (λc hc=>d3 c hc);have d': ∀y,aN Q y->k.size<=y:=λy j=>by grind
 have ef:w.flatMap jr++jr x=(w++ [x]).flatMap jr:=bO
 have H9:=(H7.on F).frame u (λj=>cv (S _ j)) (λy j e v=>by grind);refine hk Z u' t' t (w++ [x]) Q O D ⟨?_,?_,d',?_,?_,ae,H9.frame z ae (λy j e he=>(v' y j e).2 he),?_⟩ lx;rw[ak];exact d1;rw[ak,<-ef];exact o9.frame z (λy j e=>cv (d' y j));have t1:=((L.tr.lt.frame s (λy j e=>ae)).frame F bD).frame u (λy j v=>j.1.2 v);have T:=tx.lt.mono (D':=λy=>g.size<=y/\y<A.size) (λ_=>id);have T:=(T.on F).mono (D':=λy=>g.size<=y/\y<A.size) (λ_=>id);have T:=hM.frame u (λy j v=>cv (q7 y v)) T;have m1:=dT.mono (D':=λy=>k.size<=y/\¬aN Q y) (λy j=>⟨j.1.1,λv=>by grind⟩) t1;have m2:=hM.mono (D':=λy=>k.size<=y/\¬aN Q y) (λy j=>⟨ae,λv=>by grind⟩) T;exact dT.frame z (λy j e=>ae) (m1.snoc m2);rw[iB];have:=L.room;simp only[dG];omega;have a1:=(L.fr.trans s (S'':=λy=>y=r\/y=B) bD (λ_ _=> .inl)).on F;have a2:=a1.trans u (S'':=λy=>y=r\/y=B) bD (λx hx j=>cv (S x j));exact a2.trans z bD (λ_ _=> .inr)
theorem Ta(IH:LC V d r p c b a)(j':Fr No d h)(hr:d.size<=r)(D:yZ h r p c b pos left)(hd:deep=6 - (a:Int))(o':a<=6)(hn:n<18446744073709551616)(k1: ∀H (T:List Tr) (x:CV) (next j:Nat),oD b (hY V b a) pos left n o=.ok (T,next,j)->hM H (λy=>h.size<=y) (.mk 4 0 [] T) x->yZ H r p c b next j->Fr (λy=>y=r) h H->R x.agg H)(kE: ∀H e,oD b (hY V b a) pos left n o=.error e->Fr (λy=>y=r) h H->E (S9 e) H):iX Tryz.prog 383 #[.P r 0,.agg #[.I (m:Int),.U (n:Int),.B o],.I deep] h R E:=by
 refine rZ (bp.box λI' h1 eb hb f1=>aa.box λX h2 J' e' P=>aa.new λB z K' f' J=>⟨_,aj ((P.tt J).get hb id),?_⟩);have zr:=aE D.cV;have zb:=aE hb;have Q':=aE e';have G':=aE f';have z0:=j'.1;have z1:=f1.1;have z2:=P.1;have z4:=J.1;have O:=f1.tt (P.tt J);have F:=D.on O;have a':=(P.tt J).get hb id;have m':=J.get e' id;have M':=D.len;have P':=D.pos;have y': ∀y,aN p y->b≠ []->y<z.size/\y≠B:=λy w e=>by have:=jT D.row (by cases b':b with|nil=>exact absurd b' e|cons=>simp[bc]) w;omega
 have i': ∀g e,oD b (hY V b a) pos left n o=.error e->Fr (λy=>y=r\/y=B) z g->E (S9 e) g:=λg e A Z=>kE g e A ((Fr.no O Z).mono (λx A q=>ae));have d': ∀g next j T u q v,Vk z g r B p c b pos next j T u q v->oD b (hY V b a) pos left n o=.ok (T,next,j)->
   aa.LD g (AA B 0) λt0 t1 B' A' z' E' D' C'=>aa.ST g (AA X 0) t0 t1 B' A' z' E' D' C' λM=>aa.LD M (AA X 0) λr0 r1 u' t' s' x' w' v'=>R (.agg #[.I r0,.U r1,.L u' t' s',.L x' w' v']) M:=by
  intro g next j T u q v L A;refine aa.ld L.cV (aa.set (L.fr.get m' ae) λM d1 d2 d3=>aa.ld d1 ?_);have S:Fr (λy=>y=X) g M:=Fr.of_eq d2 (λc hc=>d3 c hc);have o7:=L.own.frame S (λy w e=>cv (L.ge y w));have t7:=dT.frame S (λy w e=>ae) L.tr;refine k1 M T ⟨4,0,⟨none,0, []⟩,q,u.length,v⟩ next j A ?_ (L.rd.frame S ae (λy w e he=>cv (jT D.row (by cases b':b with|nil=>exact absurd b' e|cons=>simp[bc]) w))) ?_
  unfold hM;exact⟨⟨rfl,rfl,rfl,⟨Row.nil,λe=>absurd rfl e,bf _⟩⟩,u,⟨rfl,o7.iy,λ_ y w=>cv (L.ge y w),o7.le⟩,dT.mono (λy w=>ae) t7⟩;exact((Fr.no O L.fr).trans S (S'':=λy=>y=r) (λx A e=>ae) (λx A e=>ae))
 have L0:Vk z z r B p c b pos pos left [] [] none 0:=⟨f',.nil rfl rfl rfl rfl,(λy ⟨H',e,_⟩=>by cases e),by unfold dT;trivial,by simp[dG],bf _,F,Fr.refl _ _⟩;have step:=fun {g next j T u q v} {Φ:cM} (L:Vk z g r B p c b pos next j T u q v) hk (hE: ∀e,hY V b a next j=.error e->oD b (hY V b a) pos left n o=.error e)=>Qz (V:=V) (Φ:=Φ) (E:=E) (deep:=deep) IH (j'.tt O) hr ae G' ae ae hd o' y' L hk (λg e A Z=>i' g e (hE e A) Z);cases o with
 |true=>
  rw[ah rfl];refine⟨λg=> ∃k next j T u q v,(b.length+1<=k+next/\A8 b (hY V b a) k next j T=oD b (hY V b a) pos left n true)/\Vk z g r B p c b pos next j T u q v,λg=>b.length+1 - yr g r,⟨_,_,_,_,_,_,_,⟨ae,rfl⟩,L0⟩,?_⟩;rintro g ⟨k,next,j,T,u,q,v,⟨L',s⟩,L⟩;have O':=L.rd.pos;obtain⟨k,rfl⟩: ∃k',k=k'+1:=⟨k - 1,ae⟩;refine MV L.rd (λh6 he h' H6 Q=>⟨_,rfl,?_⟩) (λhe=>⟨_,rfl,?_⟩);all_goals unfold A8 at s;simp only[he,cI,aV,bQ]at s
  .rw[fe];have t6:=dT.frame Q (λy w e=>ae) L.tr;refine d' h6 (next+1) j T u q v ⟨Q.get L.cV ae,L.own.frame Q (λy w e=>cv (L.ge y w)),L.ge,t6,iI L.room L.le,cv L.le,H6,L.fr.trans Q bD (λ_ _=> .inl)⟩ s.symm
  rw[iE];refine step L (λg' r' p' t F' q' l' U G h'=>⟨rfl,⟨k,_,_,_,_,_,_,⟨ae,by rw[U]at s;exact s⟩,G⟩,?_⟩) (λe U=>by rw[<-s,U]);show b.length+1 - yr g' r<b.length+1 - yr g r;rw[G.rd.yr,L.rd.yr];have:=G.rd.pos;omega
 |false=>
  rw[fe];refine⟨_,aj a',_,_,_,aj F.cV,_,aj F.cV,?_⟩;rw[df (n:=(b.length:Int) - (pos:Int)) ae ae,HN];refine hN (λhq=> ?_) (λhq=>i' z 8 (by have:=fh hq;unfold oD;dsimp only;rw[fe]) (Fr.refl _ _));have hq:pos+n<=b.length:=by grind
  refine⟨rfl,aj F.cV,aj F.cV,aj a',_,aj a',?_⟩;have e0:oD b (hY V b a) pos left n false=yi (hY V b a) n pos left []:=by unfold oD;dsimp only;rw[iE]
  refine⟨λt g=> ∃I next j T u q v,t=((I:Nat):Int)/\I<=n/\yi (hY V b a) (n - I) next j T=oD b (hY V b a) pos left n false/\Vk z g r B p c b pos next j T u q v,λt _=>n - t.toNat,⟨0,_,_,_,_,_,_,rfl,bg _,e0.symm,L0⟩,?_⟩;rintro _ g ⟨I,next,j,T,u,q,v,rfl,U,s,L⟩;by_cases n':I<n;rw[iE];rw[show n - I=(n - (I+1))+1 by omega]at s;unfold yi at s;refine step L (λg' r' p' t F' q' l' c' G h'=>⟨rfl,?_,?_⟩) (λe c'=>by rw[<-s,c']);rw[wrap_u64 (n:=(I:Int)+1) ae ae];exact⟨I+1,_,_,_,_,_,_,ae,ae,by rw[c']at s;exact s,G⟩;rw[wrap_u64 (n:=(I:Int)+1) ae ae];show n - Int.toNat ((I:Int)+1)<n - Int.toNat (I:Int);omega
  .rw[af (λe=>n' (cv (bj e)))];rw[show n - I=0 by omega]at s;exact d' g next j T u q v L s.symm
theorem QA(U:lU V d)(hr:d.size<=r): ∀a,a<=6->LC V d r p c b a:=by
 intro a;induction a with
 |zero=>
  intro _ h pos left R E i' A k1 v;refine kS (aa.box λI h1 eb hb F=>D6 (A.on F) (λJ m n next o u O t=>⟨_,_,_,rfl,bp.new λb1 s l' k G=>ay.of λc' hJ=> ?_⟩) (λJ e u t=>v J e (by unfold hY;rw[u]) ((F.tt t).mono λ_ _=>False.elim)));have z1:=F.1;have zr:=aE A.cV;have z:Fr (λy=>y=r) h s:=(Fr.no F t).on G;have done:(m=0\/m=2\/m=3\/m=4)->c' s:=by intro hm;subst hJ;exact hN (λg'=>absurd g' bA) (λ_=>v s 9 (by unfold hY;rw[u];dsimp only;rw[ah hm]) z)
  refine⟨_,aj k,?_⟩;split
  .rename_i q;exact hN (λ_=>⟨rfl,rfl,done (.inl (by grind))⟩) (λe=>absurd e bA)
  rename_i q0;refine⟨_,aj k,?_⟩;split
  .rename_i q;exact hN (λ_=>⟨rfl,rfl,done (.inr (.inl (cv (eq_of_beq q))))⟩) (λe=>absurd e bA)
  rename_i q2;refine⟨_,aj k,?_⟩;split
  .rename_i q;exact hN (λ_=>⟨rfl,rfl,done (.inr (.inr (.inl (cv (eq_of_beq q)))))⟩) (λe=>absurd e bA)
  rename_i q3;refine⟨_,aj k,?_⟩;refine hN (λq=>⟨rfl,rfl,done (.inr (.inr (.inr (cv (eq_of_beq q)))))⟩) (λq=>v s 3 (by unfold hY;rw[u];dsimp only;rw[af];rintro(rfl|rfl|rfl|rfl)<;>first|exact q0 rfl|exact q2 rfl|exact q3 rfl|grind) z)
 |succ a IH=>
  intro y' h pos left R E i' A k1 v;have IH:=IH ae;have zr:=aE A.cV;refine kS (aa.box λI h1 eb hb F=>D6 (A.on F) (λJ m n next o u O t=>⟨_,_,_,rfl,bp.new λb1 s l' k G=>ay.of λc' hJ=> ?_⟩) (λJ e u t=>v J e (by unfold hY;rw[u]) ((F.tt t).mono λ_ _=>False.elim)));obtain⟨x',_,hn,_⟩:=DU u;have j:hY V b (a+1) pos left=hY V b (a+1) pos left:=rfl;conv at j=>rhs;unfold hY;rw[u]
  dsimp only at j;have zb:=aE hb;have z':=aE k;have z1:=F.1;have z2:=t.1;have z4:=G.1;have hp:=A.pos;have o':=O.pos;have w':=O.left;have z:Fr (λy=>y=r) h s:=(Fr.no F t).on G;have U4:Fr No d s:=i'.fresh z (λy e=>ae);have P:=O.on G;have m':=G.get (t.get hb ae) id;have p': ∀y,aN p y->b≠ []->y<h.size:=λy B e=>jT A.row (by cases n':b with|nil=>exact absurd n' e|cons=>simp[bc]) B;have h': ∀g (b':Tr) (x:CV) w L,aa.at g I 0 0 none 0 0 none 0 0->hM g (λy=>h1.size<=y) b' x->hY V b (a+1) pos left=.ok (b',w,L)->yZ g r p c b w L->Fr (λy=>y=r) h g->
    aa.ST g (AA I 0) x.k (x.n:Int) x.v.p x.v.b.length x.v.c x.q x.ll x.cl λM=>aa.LD M (AA I 0) λr0 r1 s' r' q' v' u' t'=>R (.agg #[.I r0,.U r1,.L s' r' q',.L v' u' t']) M:=by
   intro g b' x w L gb T rx Hg fg;refine aa.set gb λM Q d2 d3=>aa.ld Q ?_;have f9:Fr (λy=>y=I) g M:=Fr.of_eq d2 (λc hc=>d3 c hc);exact k1 M b' x w L rx (hM.mono (λy B=>ae) (hM.frame f9 (λy B e=>ae) T)) (Hg.frame f9 ae (λy B e he=>cv (p' y B e))) (fg.trans f9 bD (λx hx e=>ae))
  have done:(m=0\/m=2\/m=3\/m=4)->c' s:=by
   intro hm;rw[ah hm]at j;subst hJ;refine hN (λ_=>⟨rfl,_,aj P.cV,hN (λhl=>⟨rfl,_,aj P.cV,aY P.cV (by show 2<3;omega) λh8 Q d2 d3=> ?_⟩) (λhl=>v s 2 (by grind) z)⟩) (λg'=>absurd (fh g') ae);have hl:=bj hl;rw[fe]at j;rw[df (n:=(left:Int) - 1) ae ae,show(left:Int) - 1=((left - 1:Nat):Int) by omega]at Q;obtain⟨H8,Z⟩:=P.set (pos':=next) (left':=left - 1) o' ae Q d2 d3;have a':=Z.get k ae;have f':=Z.get m' ae;have D:Fr (λy=>y=r) h h8:=z.tt Z;have U8:Fr No d h8:=i'.fresh D (λy e=>ae);have z8:=Z.1;refine⟨_,aj a',?_⟩;split
   .rename_i q;rw[ah (cv (eq_of_beq q))]at j;refine⟨_,aj a',?_⟩;refine h' h8 (.mk 0 n [] []) ⟨0,n,⟨none,0, []⟩,none,0,0⟩ next (left - 1) f' ?_ j H8 D;unfold hM;exact⟨⟨rfl,rfl,rfl,⟨Row.nil,λe=>absurd rfl e,bf _⟩⟩, [],⟨rfl,Row.nil,λe=>absurd rfl e,bf _⟩,by unfold dT;trivial⟩
   rename_i q0;rw[af (λe=>q0 (by rw[e];rfl))]at j;split;rename_i q;have m4:m=4:=by have:=eq_of_beq q;omega
   rw[ah m4]at j;refine bp.ld a' (Ta IH U8 hr H8 ae ae hn (λd' ts x w L hL T j' S=>⟨_,_,_,_,_,_,_,_,rfl,?_⟩) (λd' e hL S=>v d' e (by rw[j,hL]) (D.tt S)));exact h' d' (.mk 4 0 [] ts) x w L (S.get f' ae) (hM.mono (λy B=>ae) T) (by rw[j,hL]) j' (D.tt S);rename_i q;rw[af (λe=>q (by rw[e];rfl))]at j;refine bp.ld a' (Om U U8 hr H8 hn (λe' x sb w hS T k' X=>⟨_,_,_,_,_,_,_,_,rfl,?_⟩) (λe' e hS X=>v e' e (by rw[j,hS]) (D.tt X)));exact h' e' (.mk m 0 sb []) x w (left - 1) (X.get f' ae) (hM.mono (λy B=>ae) T) (by rw[j,hS]) k' (D.tt X)
  refine⟨_,aj k,?_⟩;split
  .rename_i q;exact hN (λ_=>⟨rfl,rfl,done (.inl (cv (eq_of_beq q)))⟩) (λe=>absurd e bA)
  rename_i q0;refine⟨_,aj k,?_⟩;split
  .rename_i q;exact hN (λ_=>⟨rfl,rfl,done (.inr (.inl (cv (eq_of_beq q))))⟩) (λe=>absurd e bA)
  rename_i q2;refine⟨_,aj k,?_⟩;split
  .rename_i q;exact hN (λ_=>⟨rfl,rfl,done (.inr (.inr (.inl (cv (eq_of_beq q)))))⟩) (λe=>absurd e bA)
  rename_i q3;refine⟨_,aj k,?_⟩;refine hN (λq=>⟨rfl,rfl,done (.inr (.inr (.inr (cv (eq_of_beq q)))))⟩) (λq=>v s 3 (by grind) z)
def On(e: ∀H,Fr No h H->K none H):tg Tryz.prog 322 #[.P i 0,.P C 0,.P f 0] none h K:=by refine uc (bn (lQ bA (e _ (Fr.push _ _))))
def Oo{e M G:Int}{Q X:bH}{P O U T:Nat}{n0 L:Int}(d:aa.at h i M G Q P O X U T)(u:h[C]? =some (.C #[.I n0] 3 (0,0)))(Z:h[f]? =some (.C #[.I L] 28 (0,0)))(b':i≠C)(c':i≠f)(d':C≠f)(hk: ∀H,aa.at H i 0 0 none 0 0 none 0 0->H[C]? =some (.C #[.I 0] 3 (0,0))->H[f]? =some (.C #[.I e] 28 (0,0))->Fr (λy=>y=i\/y=C\/y=f) h H->K none H):
  tg Tryz.prog 322 #[.P i 0,.P C 0,.P f 0] (some (S9 e)) h K:=by
 refine ud (bn (lQ bA ?_));have g:Fr No h (h.push (.C (#[Value.I 0].setIfInBounds 0 (.I e)) 453 (0,0))):=Fr.push _ _;have s:(h.push (.C (#[Value.I 0].setIfInBounds 0 (.I e)) 453 (0,0)))[h.size]? =some (.C #[.I e] 453 (0,0)):=aU;have z0:=aE d;have z1:=aE u;generalize h.push (.C (#[Value.I 0].setIfInBounds 0 (.I e)) 453 (0,0))=a' at g s⊢;refine⟨_,aj s,aa.set (g.get d id) λG D I J=> ?_⟩;have F:=Fr.of_eq I (λc j=>J c j);refine⟨aj (F.get s ae),aY (F.get (g.get u id) ae) bO λg2 A v w=> ?_⟩;have k:=Fr.of_eq v (λc j=>w c j);refine⟨aj (k.get (F.get s ae) ae),aY (k.get (F.get (g.get Z id) ae) ae) (by show 0<1;omega) λS B x z=> ?_⟩;have t:=Fr.of_eq x (λc j=>z c j);exact hk S (t.get (k.get D ae) ae) (t.get A ae) B (((Fr.no g F).trans k (S'':=λy=>y=i\/y=C) (λ_ _=> .inl) (λ_ _=> .inr)).trans t (λe' _ q=>q.imp id .inl) (λ_ _ q=> .inr (.inr q)))
theorem Eg(U:lU V h)(f':Row h p (bc b))(hl:l=b.length)(cap:b.length<=c)(h':b.length<=1000000)(k1: ∀H (t:Tr) (x:CV) (next:Nat),rL V b=.ok (t,next)->hM H (λy=>h.size<=y) t x->Fr No h H->R (.T #[x.agg,.I (next:Int),.I 0]) H)(k2: ∀H e,rL V b=.error e->Fr No h H->R (.T #[CV.agg ⟨0,0,⟨none,0, []⟩,none,0,0⟩,.I 0,.I e]) H):
  Cl 253 #[.L p l c,.I 0] h R:=by
 subst hl;refine iX.Y2 (DZ (aa.box λj' k eb hb f1=>bn (bn ?_)));have zb:=aE hb;have z1:=f1.1;have f2:Fr No k (k.push (.C #[.I 0] 3)):=Fr.push _ _;have A:(k.push (.C #[.I 0] 3))[k.size]? =some (.C #[.I 0] 3 (0,0)):=aU;generalize k.push (.C #[.I 0] 3)=q at f2 A⊢;have M:Fr No q (q.push (.C #[.I 0] 28)):=Fr.push _ _;have B:(q.push (.C #[.I 0] 28))[q.size]? =some (.C #[.I 0] 28 (0,0)):=aU;have z2:=aE A;generalize q.push (.C #[.I 0] 28)=s at M B⊢;have z3:=aE B;have⟨X,a'⟩: ∃X,X=k.size:=⟨_,rfl⟩;have⟨Z,b'⟩: ∃Z,Z=q.size:=⟨_,rfl⟩;rw[<-a']at A;rw[<-b']at B;rw[<-a',<-b'];refine ay.of λi' hJ=>⟨rfl,?_⟩;subst hJ;dsimp only;refine bn ?_;have v:Fr No s (s.push (.C #[.L p b.length c,.I 0,.I 256] 457)):=Fr.push _ _;have J:(s.push (.C #[.L p b.length c,.I 0,.I 256] 457))[s.size]? =some (.C #[.L p b.length c,.I 0,.I 256] 457 (0,0)):=aU;generalize s.push (.C #[.L p b.length c,.I 0,.I 256] 457)=h4 at v J⊢;have⟨L,c'⟩: ∃L,L=s.size:=⟨_,rfl⟩;rw[<-c']at J;rw[<-c'];have P:=(f2.tt M).tt v;have z:=f1.tt P;have o': ∀y,aN p y->b≠ []->y<h.size:=λy g e=>jT f' (by cases n':b with|nil=>grind|cons=>simp[bc]) g;have H4:yZ h4 L p c b 0 256:=⟨J,f'.frame z bD,cap,bg _,λe g=>by grind,h',ae⟩;have e':=P.get hb id;have S:=(M.tt v).get A id;have T:=v.get B id;refine QA U ae 6 (bf _) h4 0 256 _ _ z H4 (λh9 t x next p' O tx H9 F=> ?_) (λh9 e O F=> ?_)
 .refine⟨_,_,_,_,_,_,_,_,rfl,aa.set (F.get e' ae) λd' d1 d2 d3=>aa.ld d1 ?_⟩;have G:=Fr.of_eq d2 (λc j=>d3 c j);have Q:=H9.frame G ae (λy g e he=>by grind);refine⟨_,aj Q.cV,aa.set d1 λk' e1 e2 e3=> ?_⟩;have w:=Fr.of_eq e2 (λc j=>e3 c j);refine⟨aj (w.get Q.cV ae),aY (w.get (G.get (F.get S ae) ae) ae) (by show 0<1;omega) λl' C f c3=> ?_⟩;have D:=Fr.of_eq f (λc j=>c3 c j);refine aY (D.get (w.get (G.get (F.get T ae) ae) ae) ae) bO λm' m1 m2 m3=> ?_;have I:=Fr.of_eq m2 (λc j=>m3 c j);refine On λg' u=>aa.ld (u.get (I.get (D.get e1 ae) ae) id) ⟨_,aj (u.get (I.get C ae) id),_,aj (u.get m1 id),?_⟩;have z4:=v.1;refine k1 g' t x next (by unfold rL;rw[O]) (hM.mono (λy g=>ae) (hM.frame u bD (hM.frame I (λy g e=>ae) (hM.frame D (λy g e=>ae) (hM.frame w (λy g e=>ae) (hM.frame G (λy g e=>ae) tx)))))) (((((((z.fresh F (λy e=>ae)).fresh G (λy e=>ae)).fresh w (λy e=>ae)).fresh D (λy e=>ae)).fresh I (λy e=>ae)).tt u))
 refine Oo (F.get e' ae) (F.get S ae) (F.get T ae) ae ae ae λd' q1 q2 q3 G=>aa.ld q1 ⟨_,aj q2,_,aj q3,(k2 d' e (by unfold rL;rw[O]) ((z.fresh F (λy e=>ae)).fresh G (λy e=>ae)))⟩

end Cb
end
section
namespace Cb
variable {h H:Heap} {R:dH} {p:bH} {l c:Nat} {bs:cO}
variable {D:Nat->Prop} {t:Tr} {x:CV} {G:Heap} {b C:Nat} {k n:Int} {v:BV} {ts:List Tr} {ys:List CV} {q:bH}
def wv(h:Heap)(D:fZ)(t:Tr)(x:CV):Prop:=(x.k=t.k/\x.n=t.n/\x.v.b=t.b/\x.v.ok h D)/\∃ys:List CV,x.ll=ys.length/\Own h x.q ys.length x.cl 4 (ys.flatMap jr)/\(∀y,aN x.q y->D y)/\dT h (λy=>D y/\¬aN x.q y) t.l ys
def wv.Xy(e:wv h D t x):hM h D t x:=by
 have⟨f,ys,a,d,g,i⟩:=e;cases t with
 |mk k n B l=>exact⟨f,ys,⟨a,d.iy,λ_=>g,by rw[a];exact d.le⟩,dT.mono (λ_ j=>j.1) i⟩
structure Un (G g:Heap) (b:Nat) (k n:Int) (v:BV) (ts:List Tr) (ys:List CV) (q:bH) (C:Nat):Prop where
 cV:aa.at g b k n v.p v.b.length v.c q ys.length C
 own:Own g q ys.length C 4 (ys.flatMap jr)
 ge: ∀y,aN q y->G.size<=y
 tr:dT g (λy=>G.size<=y/\¬aN q y) ts ys
 fr:Fr (λy=>y=b) G g
theorem J0{g:Heap}{y:CV}{Φ:cM}(L:Un G g b k n v ts ys q C)(F':b<G.size)(ll:ys.length<=100000000)(IH: ∀(r:Heap)(R:dH),Fr No g r->(∀H z,wv H (λc=>r.size<=c) t z->Fr No r H->R z.agg H)->Cl 394 #[y.agg] r R)(hk: ∀J g' Q w,Un G J b k n v (ts++ [t]) g' Q w->g'.length=ys.length+1->Φ J):
  aT g (.C #[.I 0,.U 0,.Z,.Z] 368) λI o'=>
  aa.ST o' (AA I 0) y.k (y.n:Int) y.v.p y.v.b.length y.v.c y.q y.ll y.cl λB=>
  ∃(u:bH)(s T:Nat),aQ B (AA b 3)=some (.L u s T)/\
  aa.LD B (AA I 0) λt' u' x' w' v' A' z' y'=>
  Cl 394 #[.agg #[.I t',.U u',.L x' w' v',.L A' z' y']] B λB' O=>
  ∃(S U:Int)(Z:bH)(X V:Nat)(c':bH)(b' a':Nat),B'=.agg #[.I S,.U U,.L Z X V,.L c' b' a']/\
  aQ O (AA b 3)=some (.L u s T)/\
  aT O (.C #[.I S,.U U,.L Z X V,.L c' b' a'] 368) λi' M=>
  aQ M (AA b 3)=some (.L u s T)/\
  bu Tryz.prog (Builtin.append_ #[366,366] 366 #[.L u s T,.L (Sa i' 0) 1 1]) M λC' m'=>
  ∃(f':bH)(e' d':Nat),C'=.L f' e' d'/\
  aI m' (AA b 3) (.L f' e' d') λn'=>Φ n':=by
 have zg:=L.fr.1;refine aa.new λb2 h8 D' p' f=>⟨_,_,_,aj (f.get L.cV id),aa.ld p' (IH h8 _ f λh9 z tz o=>⟨_,_,_,_,_,_,_,_,rfl,aj ((f.tt o).get L.cV id),aa.box λb3 k' E' q' m=>⟨aj (((f.tt o).tt m).get L.cV id),?_⟩⟩)⟩;have j:=(f.tt o).tt m;have z8:=f.1;have z9:=o.1;have G':=m.1;have r':=L.own.frame j bD;have qg: ∀y,aN q y->y<g.size:=λy d=>L.own.dW d;refine du tI uI r' (ds:=jr z) (.inr ⟨_,rfl,aa.held q'⟩) rfl (pO z) ae ae λQ w l' s' _ F j'=>⟨_,_,_,rfl,?_⟩;have H':=F.1;have h':=F.get (j.get L.cV id) (λd=>cv (L.ge _ d));refine aY h' (by show 3<4;omega) λK d1 d2 d3=> ?_;have A:Fr (λy=>y=b) l' K:=Fr.of_eq d2 (λc hc=>d3 c hc);have P: ∀y,aN Q y->G.size<=y:=λy d=>by rcases j' y d with a|a;exact L.ge y a;omega
 have ef:ys.flatMap jr++jr z=(ys++ [z]).flatMap jr:=bO
 refine hk K (ys++ [z]) Q w ⟨?_,?_,P,?_,?_⟩ bO;rw[ak];exact d1;rw[ak,<-ef];exact s'.frame A (λy d e=>cv (P y d));have t1:=(dT.on L.tr.lt j).frame F (λy d i=>d.1.2 i);have E:=hM.mono (D':=λy=>g.size<=y/\y<k'.size) (λy d=>ae) (tz.Xy.lt.on m);have E:=hM.frame F (λy d i=>cv (qg y i)) E;have m1:=dT.mono (D':=λy=>G.size<=y/\¬aN Q y) (λy d=>⟨d.1.1,λi=>by grind⟩) t1;have m2:=hM.mono (D':=λy=>G.size<=y/\¬aN Q y) (λy d=>⟨ae,λi=>by grind⟩) E;exact dT.frame A (λy d e=>ae) (m1.snoc m2);exact((L.fr.on j).trans F (S'':=λy=>y=b) bD (λx hx d=>cv (L.ge x d))).trans A bD bD
def fD{n:Nat}(e: jA h R (CV.agg ⟨0,n,⟨none,0, []⟩,none,0,0⟩)):Cl 390 #[.U (n:Int)] h R:=
 FH (aa.new λB a E d f=>aa.ld d (e a f))
def WE{n:Nat}:wv h D (num n) ⟨0,n,⟨none,0, []⟩,none,0,0⟩:=
 ⟨⟨rfl,rfl,rfl,⟨Row.nil,λe=>absurd rfl e,bf _⟩⟩, [],rfl,.nil rfl rfl rfl rfl,(λy ⟨a,e,_⟩=>by cases e),by trivial⟩
theorem gJ(A:Row h p (bc bs))(z:l=bs.length)(K:bs.length<=1000000)(w: ∀H (v:BV),v.b=bs->v.ok H (λy=>h.size<=y)->Fr No h H->R (CV.agg ⟨2,0,v,none,0,0⟩) H):Cl 387 #[.L p l c] h R:=by refine Bw (aa.box λB I E d f=>gD.jC (A.frame f bD) z ae λP i J O F r=>⟨_,_,_,rfl,aa.set (F.get d id) λs j m o=>aa.ld j ?_⟩);have Z:=f.1;have a:=Fr.of_eq m (λc u=>o c u);refine w s ⟨P,i,bs⟩ rfl (BV.kZ (O.frame a (λy g e=>iI (r y g) (aE d))) (λy g=>by grind)) ((f.tt F).fresh a (λy e=>ae))
theorem mN{l:List Tr}(h:t∈l):room t<=dG l:=by
 induction l with
 |nil=>cases h
 |cons u l i=>simp only[dG];rcases bG.1 h with rfl|h;omega;grind
def Un.zero(d:aa.at G b k n v.p v.b.length v.c none 0 0):Un G G b k n v [] [] none 0:=
 ⟨d,.nil rfl rfl rfl rfl,(λy ⟨a,e,_⟩=>by cases e),by trivial,Fr.refl _ _⟩
theorem Eh: ∀(w:Nat)(t:Tr),deep t<=w->room t<=100000000->∀(h:Heap)(D:fZ)(x:CV)(R:dH),hM h D t x->(∀H z,wv H (λy=>h.size<=y) t z->Fr No h H->R z.agg H)->Cl 394 #[x.agg] h R
 |0,.mk k n a' l,J,_,_,_,_,_,_,_=>by simp only[deep]at J;omega
 |w+1,.mk k n a' l,J,h',h,D,x,R,tx,hk=>by simp only[deep]at J;simp only[room]at h';obtain⟨⟨rfl,rfl,rfl,i'⟩,ys,u,T⟩:=tx;have lt:=T.len;have l9:=ia l;have e0:=u.len;refine zM (aa.box λb h1 m' I E=>aa.box λb1 h2 l' M F=>⟨_,_,_,aj (F.get I id),gD.jC ((i'.row.frame E bD).frame F bD) rfl ae λP A h3 o3 o r=>⟨_,_,_,rfl,aY (o.get (F.get I id) id) bO λh4 B d2 d3=>⟨_,_,_,aj B,aY B bO λh5 e1 e2 e3=> ?_⟩⟩⟩);have p':=aE I;have o':=aE M;have z1:=E.1;have z2:=F.1;have z3:=o.1;have f:=Fr.of_eq d2 (λc j=>d3 c j);have d:=Fr.of_eq e2 (λc j=>e3 c j);have V:=E.tt (F.tt o);have X:=(V.fresh f (λy e=>ae)).fresh d (λy e=>ae);have e':=d.get (f.get (o.get M id) ae) ae;have o5:=(o3.frame f (λy a e=>cv (r y a))).frame d (λy a e=>cv (r y a));have C0:=Un.zero (v:=⟨P,A,x.v.b⟩) e1;refine⟨λt g=> ∃(i:Nat)(Z:List CV)(q:bH)(C:Nat),t=(i)/\i<=ys.length/\Un h5 g b x.k (x.n) ⟨P,A,x.v.b⟩ (l.take i) Z q C/\Z.length=i,λt _=>ys.length - t.toNat,⟨0, [],none,0,rfl,bg _,by grind,rfl⟩,?_⟩;rintro _ g ⟨i,Z,q,C,rfl,hi,L,lz⟩;have s:=X.fresh L.fr (λy e=>ae);by_cases O:i<ys.length;rw[iE];have a:=ai O;generalize ys[i]=y at a;have⟨t,Q,ty⟩:=T.get a;have U:=aW Q;have B:=vA U;have r1:=mN U;have⟨k',K⟩:=u.row.any gI;rw[K];have S:=u.row.frame s bD;rw[K]at S;refine⟨ae,av.2 (aa.vy (by rw[aG];exact S.gL gI a) (J0 L ae ae (λg1 R1 c' f'=>Eh w t ae ae g1 D y R1 (ty.on (s.tt c')) f') λg' j' q' b' L' n'=> ?_))⟩;rw[eY];refine⟨⟨i+1,j',q',b',ae,ae,?_,ae⟩,by grind⟩;rw[bt,Q];exact L';rw[af (λe=>O (by grind))];rw[bz (show l.length<=i by omega)]at L;refine aa.ld L.cV (aa.set (L.fr.get e' ae) λd' k1 k2 k3=>aa.ld k1 ?_);have m:=Fr.of_eq k2 (λc j=>k3 c j);have og:=o5.frame L.fr (λy a e=>cv (r y a));refine hk d' ⟨x.k,x.n,⟨P,A,x.v.b⟩,q,Z.length,C⟩ ⟨⟨rfl,rfl,rfl,BV.kZ (og.frame m (λy a e=>cv (r y a))) (λy a=>by grind)⟩,Z,rfl,L.own.frame m (λy a e=>Pv (L.ge y a) f.1 d.1),(λy a=>Pv (L.ge y a) f.1 d.1),?_⟩ (s.fresh m (λy e=>ae));exact dT.mono (λy a=>⟨iI a.1 f.1,a.2⟩) (dT.frame m (λy a e=>ae) L.tr)
def Ab(T:hM h D t x)(d:room t<=100000000)(a: ∀H z,wv H (λy=>h.size<=y) t z->Fr No h H->R z.agg H):Cl 394 #[x.agg] h R:=
 Eh (deep t) t (bf _) d h D x R T a
theorem kI(d:ny h D q l C ys)(T:dT h D ts ys)(hr:dG ts<=100000000)(M: ∀H z,wv H (λy=>h.size<=y) (wW ts) z->Fr No h H->R z.agg H):Cl 327 #[.L q l C] h R:=by have lt:=T.len;have l9:=ia ts;have e0:=d.len;refine Ds (aa.box λb1 h1 c' m B=>aa.new λb J d' o j=> ?_);have h':=aE o;have f':=aE m;have C0:=Un.zero (v:=⟨none,0, []⟩) o;refine⟨λt g=> ∃(i:Nat)(Z:List CV)(q:bH)(C:Nat),t=(i)/\i<=ys.length/\Un J g b 4 0 ⟨none,0, []⟩ (ts.take i) Z q C/\Z.length=i,λt _=>ys.length - t.toNat,⟨0, [],none,0,rfl,bg _,by grind,rfl⟩,?_⟩;rintro _ g ⟨i,Z,V,A,rfl,hi,L,lz⟩;have F:=(B.tt j).fresh L.fr (λy e=>ae);by_cases r:i<ys.length;rw[iE];have a:=ai r;generalize ys[i]=y at a;have⟨t,s,X⟩:=T.get a;have r1:=mN (aW s);obtain⟨b',rfl⟩:=d.row.any gI;refine⟨ae,av.2 (aa.vy (by exact(d.row.frame F bD).gL gI a) (J0 L ae ae (λg1 R1 E O=>Ab (X.on (F.tt E)) ae O) λg' a' U w u e'=> ?_))⟩;rw[eY];refine⟨⟨i+1,a',U,w,ae,ae,?_,ae⟩,by grind⟩;rw[bt,s];exact u;rw[af (λe=>r (by grind))];rw[bz (show ts.length<=i by omega)]at L;refine aa.ld L.cV (aa.set (L.fr.get (j.get m id) ae) λI P Q S=>aa.ld P ?_);have f:=Fr.of_eq Q (λc K=>S c K);refine M I ⟨4,0,⟨none,0, []⟩,V,Z.length,A⟩ ⟨⟨rfl,rfl,rfl,⟨Row.nil,λe=>absurd rfl e,bf _⟩⟩,Z,rfl,L.own.frame f (λy a e=>cv (L.ge y a)),(λy a=>cv (L.ge y a)),(dT.mono (λy a=>⟨ae,a.2⟩) (dT.frame f (λy a e=>ae) L.tr))⟩ (F.fresh f (λy e=>ae))

end Cb
end
section
namespace Cb
variable {V:cO→Bool} {h H a:Heap} {R:dH} {D:Nat→Prop}
variable {t:Tr} {x:CV}
theorem LF{c:Type}(b:List c):(((b.length:Int))==0)=b.isEmpty:=by
 cases b with
 |nil=>rfl
 |cons A b=>grind
theorem LG(U:lU V H)(u:Fr No H h)(T:hM h D t x)(v:room t<=1000000)(c: jA h R (.B (Qq V t.k t.n t.b t.l))):Cl 514 #[x.agg] h R:=by
 cases t with
 |mk k n b l=>
  simp only[room]at v;unfold hM at T;obtain⟨⟨rfl,rfl,rfl,O⟩,y,L,r⟩:=T;have ll:x.ll=l.length:=by rw[L.len,r.len]
  have c: ∀a o,o=Qq V x.k x.n x.v.b l->Fr No h a->R (.B o) a:=λa o e f=>by rw[e];exact c a f
  unfold Qq at c;have q:((x.n:Int)==0)=decide (x.n=0):=by grind
  refine FI (aa.box λB i w d F=>⟨_,aj d,?_⟩);by_cases K:x.k=0;rw[ah (dQ K)];simp only[K,cI]at c;refine⟨_,_,_,aj d,?_⟩;rw[LF];by_cases e:x.v.b.isEmpty=true;rw[ah e];refine⟨_,_,_,aj d,c i _ ?_ F⟩;rw[ll,LF,e];rfl;grind;rw[af (dQ K)];simp only[K,bQ]at c;by_cases j:x.k=2;rw[ah (dQ j)];simp only[j,cI]at c;refine⟨_,aj d,?_⟩;rw[q];by_cases e:x.n=0;rw[ah (aq e)];refine⟨_,_,_,aj d,c i _ ?_ F⟩;rw[ll,LF,aq e];rfl;grind;rw[af (dQ j)];simp only[j,bQ]at c;by_cases m:x.k=3;rw[ah (dQ m)];simp only[m,cI]at c;refine⟨_,aj d,?_⟩;rw[q];by_cases e:x.n=0;rw[ah (aq e)];refine⟨_,_,_,aj d,?_⟩;rw[ll,LF];by_cases E:l.isEmpty=true;rw[ah E];exact⟨_,_,_,aj d,U i _ _ x.v.b _ (u.tt F) (O.row.frame F bD) ae O.cap λg s=>⟨_,rfl,c g _ (by grind) (F.tt s)⟩⟩;grind;rw[af (by rw[aA e];decide)];refine c i _ ?_ F;rw[aA e];rfl;rw[af (dQ m)];simp only[m,bQ]at c;by_cases p:x.k=4;rw[ah (dQ p)];simp only[p,cI]at c;refine⟨_,aj d,?_⟩;rw[q];by_cases e:x.n=0;rw[ah (aq e)];refine⟨_,_,_,aj d,c i _ ?_ F⟩;rw[LF,aq e];rfl;rw[af (by rw[aA e];decide)];refine c i _ ?_ F;rw[aA e];rfl;rw[af (dQ p)];simp only[p,bQ]at c;exact c i _ rfl F
theorem Ka(U:lU V H): ∀(n:Nat)(t:Tr),deep t<=n->room t<=1000000->∀(h:Heap)(D:fZ)(x:CV)(d left:Int)(R:dH),Fr No H h->hM h D t x->0<=d->d<=7->left<=1000->
  (jA h R (.I (oC V t d left)))->Cl 457 #[x.agg,.I d,.I left] h R
 |0,.mk k e' b l,q,_,_,_,_,_,_,_,_,_,_,_,_,_=>by simp only[deep]at q;omega
 |n+1,.mk k e' b l,q,z,h,D,x,d,left,R,u,T,d0,d7,hl,j=>by
  have h':=T;simp only[deep]at q;have c':=z;simp only[room]at z;unfold hM at T;obtain⟨⟨rfl,rfl,rfl,n'⟩,y,L,r⟩:=T;have lt:=r.len;have l9:=ia l;have e0:=L.len;refine Du (aa.box λbb s l' v f=>ay.of λJ hJ=> ?_);have B: ∀g,Fr No h g->oC V (.mk x.k x.n x.v.b l) d left= -1->J true g:=λg F c=>by grind
  by_cases C:d>6;rw[ah (aq C)];exact B s f (by unfold oC;rw[ah (.inl C)]);rw[af (λe=>C (bj e))];by_cases m:left<1;rw[ah (aq m)];exact B s f (by unfold oC;rw[ah (.inr m)]);rw[af (λe=>m (bj e))];have O: ¬(d>6\/left<1):=λe=>e.elim C m;unfold oC at j B;rw[af O]at j B;refine aa.ld v (LG U (u.tt f) (h'.on f) c' λX o=>⟨_,rfl,?_⟩);simp only[Tr.k,Tr.n,Tr.b,Tr.l];generalize Qq V x.k x.n x.v.b l=f' at j B⊢;cases f' with
  |false=>exact B X (f.tt o) (by rw[fe])
  |true=>
   rw[ah rfl]at j;subst hJ;rw[fe];have b':=o.get v id;refine⟨_,_,_,aj b',?_⟩;rw[df (n:=left - 1) ae ae];refine⟨λlf t g=> ∃i:Nat,t=(i:Int)/\i<=y.length/\Fr No h g/\lf<=1000/\0<=lf/\ni V (l.drop i) (d+1) lf=ni V l (d+1) (left - 1),λ_ t _=>y.length - t.toNat,⟨0,rfl,bg _,f.tt o,ae,ae,rfl⟩,?_⟩;rintro lf _ g ⟨i,rfl,hi,F,d',m',c⟩;by_cases w:i<y.length
   .rw[iE];have⟨i',G⟩:=tL w;obtain⟨t,A,ty⟩:=r.get G;have K:=aW A;have dm:=vA K;have rm:=mN K;have P:l.drop i=t::l.drop (i+1):=by
     obtain⟨q1,q2⟩:=aS.1 A;rw[cK q1,q2]
    rw[P]at c;obtain⟨j',E⟩:=L.row.any gI;rw[E];have I:=L.row.frame F bD;rw[E]at I;refine⟨ae,av.2 (aa.vy (by rw[aG];exact I.gL gI G) (aa.new λb1 Z k' a' p=>aa.ld a' ?_))⟩;rw[df (n:=d+1) ae ae];refine Ka U n t ae ae Z D i' (d+1) lf _ (u.tt (F.tt p)) (ty.on (F.tt p)) ae ae d' λh6 S=>⟨_,rfl,?_⟩;have M:=F.tt (p.tt S);have ql:=JO (V:=V) (t:=t) (d:=d+1) (left:=lf);conv at c=>lhs;unfold ni
    generalize oC V t (d+1) lf=g' at c ql⊢;by_cases Q:g'<0;grind;rw[af (λe=>Q (bj e)),df (n:=(i:Int)+1) ae ae];rw[af Q]at c;exact⟨⟨i+1,ae,ae,M,ae,ae,c⟩,by grind⟩
   rw[af (λe=>w (by grind))];rw[dR (show l.length<=i by omega)]at c;have:=j g F;rw[<-c]at this;unfold ni at this;exact this
def fA(U:lU V H)(u:Fr No H h)(T:hM h D t x)(g:room t<=1000000)(e: jA h R (.B (iq V t))):Cl 385 #[x.agg] h R:=
 By (aa.box λB b E d f=>aa.ld d (Ka U (deep t) t (bf _) g b D x 1 256 _ (u.tt f) (T.on f) bA bA bA λc F=>⟨_,rfl,e c (f.tt F)⟩))

end Cb
end
section
namespace Cb
variable {h:Heap} {R:dH} {D d:Nat→Prop}
theorem ja{p q:bH}{n m c e:Nat}{a b:cO}(r:Row h p (bc a))(i:Row h q (bc b))(g:n=a.length)(f:m=b.length)(H:R (.B (decide (a=b))) h):Cl 194 #[.L p n c,.L q m e] h R:=by
 refine la ⟨_,gD.conv r g,_,gD.conv i f,?_⟩;rw[ps,ps];have:(a==b)=decide (a=b):=by grind
 rw[this];exact H
theorem Kb: ∀(u:Nat)(t s:Tr),deep t<=u->room t<=100000000->∀(h:Heap)(D d:fZ)(x y:CV)(R:dH),hM h D t x->hM h d s y->(jA h R (.B (pG t s)))->Cl 329 #[x.agg,y.agg] h R
 |0,.mk k j' d' l,_,v,_,_,_,_,_,_,_,_,_,_=>by simp only[deep]at v;omega
 |u+1,.mk k j' d' l,.mk k' n' b' L,v,i',h,D,d,x,y,R,tx,ty,w=>by
  simp only[deep]at v;simp only[room]at i';unfold hM at tx ty;obtain⟨⟨rfl,rfl,rfl,l'⟩,X,p,T⟩:=tx;obtain⟨⟨rfl,rfl,rfl,m'⟩,o,r,G⟩:=ty;have lx:=T.len;have ly:=G.len;have l9:=ia l;have ex:=p.len;have ey:=r.len;refine Dt (aa.box λb1 h1 r' f' f1=>aa.box λb2 j s' n K=> ?_);have F:=f1.tt K;have m:=K.get f' id;have B: ∀g,Fr No h g->pG (.mk x.k x.n x.v.b l) (.mk y.k y.n y.v.b L)=false->R (.B false) g:=λg f e=>by have:=w g f;rw[e]at this;exact this
  refine⟨_,aj m,_,aj n,?_⟩;by_cases c:x.k=y.k
  case neg=>rw[af (dQ c)];exact B j F (by unfold pG;rw[aA c];rfl)
  rw[ah (dQ c)];refine⟨_,aj m,_,aj n,?_⟩;by_cases C:x.n=y.n
  case neg=>rw[af (λe=>C (cv (eq_of_beq e)))];exact B j F (by unfold pG;rw[aA C,Bool.and_false];rfl)
  rw[ah (by rw[C];simp)];refine⟨_,_,_,aj m,_,_,_,aj n,ja (l'.row.frame F bD) (m'.row.frame F bD) rfl rfl ⟨_,rfl,?_⟩⟩;by_cases b:x.v.b=y.v.b
  case neg=>rw[af (dQ b)];exact B j F (by unfold pG;rw[aA b,Bool.and_false];rfl)
  rw[ah (dQ b)];have e0:pG (.mk x.k x.n x.v.b l) (.mk y.k y.n y.v.b L)=vJ l L:=by unfold pG;rw[aq c,aq C,aq b];simp
  rw[e0]at w;refine⟨_,_,_,aj m,_,_,_,aj n,?_⟩;rw[ex,ey];have done: ∀g,Fr No h g->∀q,q=vJ l L->∃c':Bool,Value.bool q=.B c'/\R (.B c') g:=λg f q e=>⟨q,rfl,by rw[e];exact w g f⟩;refine fS ?_;by_cases cl:X.length=o.length
  case neg=>
   rw[ah (by simp only[fp,ne_eq];omega)];refine done j F false ?_;cases hq:vJ l L with
   |false=>rfl
   |true=>exact absurd (bY List.length ((DT l L).1 hq)) ae
  rw[af (by simp only[fp,ne_eq];omega)];refine⟨λt g=> ∃i:Nat,t=(i:Int)/\i<=X.length/\Fr No h g/\vJ l L=vJ (l.drop i) (L.drop i),λt _=>X.length - t.toNat,⟨0,rfl,bg _,F,rfl⟩,?_⟩;rintro _ g ⟨i,rfl,hi,f,H⟩;by_cases S:i<X.length
  .rw[iE];have z:X[i]? =some X[i]:=ai S;have A:o[i]? =some (o[i]' ae):=ai _;generalize X[i]=o' at z;generalize o[i]' ae=p' at A;obtain⟨t,U,tu⟩:=T.get z;obtain⟨s,hs,tv⟩:=G.get A;have tm:=aW U;have dm:=vA tm;have rm:=mN tm;have ed:l.drop i=t::l.drop (i+1):=by
    obtain⟨Q,E⟩:=aS.1 U;rw[cK Q,E]
   have e':L.drop i=s::L.drop (i+1):=by obtain⟨Q,E⟩:=aS.1 hs;rw[cK Q,E]
   rw[ed,e']at H;have H:vJ l L=(pG t s && vJ (l.drop (i+1)) (L.drop (i+1))):=by rw[H];simp only[vJ]
   obtain⟨q',I⟩:=p.row.any gI;obtain⟨a',J⟩:=r.row.any gI;rw[I,J];have V:=p.row;have Z:=r.row;rw[I]at V;rw[J]at Z;refine⟨ae,av.2 (aa.vy (by rw[aG];exact(V.frame f bD).gL gI z) (aa.new λb3 h3 t' g' M=>⟨ae,av.2 (aa.vy (by rw[aG];exact(Z.frame (f.tt M) bD).gL gI A) (aa.new λb4 h5 u' h' O=>aa.ld (O.get g' id) (aa.ld h' ?_)))⟩))⟩;have a:=f.tt (M.tt O);refine Kb u t s ae ae h5 D d o' p' _ (tu.on a) (tv.on a) λh6 P=>⟨_,rfl,?_⟩;cases q:pG t s with
   |false=>rw[iE];exact done h6 (a.tt P) false (by rw[H,q];rfl)
   |true=>rw[fe,df (n:=(i:Int)+1) ae ae];exact⟨⟨i+1,ae,ae,a.tt P,by rw[H,q];rfl⟩,by grind⟩
  .rw[af (λe=>S (cv (bj e)))];rw[dR (show l.length<=i by omega),dR (show L.length<=i by omega)]at H;exact done g f true (by rw[H];simp only[vJ])
def jx{t s:Tr}{x y:CV}(T:hM h D t x)(b:hM h d s y)(a:room t<=100000000)(H: jA h R (.B (pG t s))):Cl 329 #[x.agg,y.agg] h R:=
 Kb (deep t) t s (bf _) a h D d x y R T b H

end Cb
end
section
namespace Cb
variable {h H:Heap} {R:dH}
variable {m:Int} {n:Nat}
def FM(n:Nat):IntKind.wrap .u8 (n:Int)=((UInt8.ofNat n).toNat:Int):=by
 have e:IntKind.wrap .u8 (n)=(n)%256:=by rfl
 rw[e,UInt8.toNat_ofNat'];omega
theorem Oq{n:Int}(a: jA h R (.B (decide (0<=m/\m<=7)))):Cl 519 #[.agg #[.I m,.U n,.B false]] h R:=by refine BJ (bp.box λb d e c f=>⟨_,aj c,?_⟩);have a:=a d f;refine⟨_,aj c,?_⟩;by_cases C:m≥0;rw[ah (aq C)];refine⟨_,aj c,?_⟩;rw[show decide (0<=m/\m<=7)=decide (m<=7) by grind]at a;exact a;grind
theorem GS(a:R (.I (JP n:Int)) h):Cl 521 #[.U (n:Int)] h R:=by
 have⟨z,b⟩: ∃z:Int,z=(n):=⟨_,rfl⟩;rw[<-b];refine zU ?_;unfold JP at a
 repeat' split
 all_goals simp_all
 grind;grind;grind;grind;grind
theorem Tc(a:R (.int .u8 (BH n:Int)) h):Cl 520 #[.U (n:Int)] h R:=by refine D0 (GS ⟨_,rfl,?_⟩);unfold BH at a;unfold JP;by_cases c:n<24;rw[ah c]at a⊢;rw[fe,fe,fe,fe,FM,UInt8.toNat_ofNat',fo ae];exact a;rw[af c]at a⊢;by_cases C:n<256;grind;rw[af C]at a⊢;by_cases b:n<65536;grind;rw[af b]at a⊢;by_cases d:n<4294967296;grind;rw[af d]at a⊢;exact a
def Td(n:Nat):BH n<32:=by unfold BH;repeat (first|omega|split)
def Vm: ∀(m:Fin 8)(z:Fin 32),IntKind.wrap .u8 ((BitVec.ofInt (IntKind.bits .u8) (IntKind.wrap .u8 ((IntKind.wrap .u8 (m.val:Int))*2 ^ min (Int.toNat 5) (IntKind.bits .u8)))|||BitVec.ofInt (IntKind.bits .u8) (z.val:Int)).toNat:Int)=((32*m.val+z.val:Nat):Int):=bA
theorem DE(n k:Nat):Int.fdiv (n:Int) (2 ^ k)=((n/2 ^ k:Nat):Int):=by grind
theorem Ot(f: ∀H (p:bH) (C:Nat) (e:Int),Row H p (bc (Qr m n))->(Qr m n).length<=C->Fr No h H->R (.T #[.slice p (Qr m n).length C,.I e]) H):Cl 469 #[.agg #[.I m,.U (n:Int),.B false]] h R:=by
 refine BM (bp.box λb Z X s r=>bp.ld s (Oq λc F=>⟨_,rfl,?_⟩));by_cases l:0<=m/\m<=7
 case neg=>
  rw[aA l,iE];have E:Qr m n= []:=by unfold Qr;rw[af l]
  rw[E]at f;exact f c none 0 3 Row.nil bO (r.tt F)
 rw[aq l,fe];obtain⟨m,rfl⟩:=fi l.1;have d:=F.get s id;refine⟨_,aj d,?_⟩;rw[fe];refine⟨_,aj d,_,aj d,Tc ⟨_,rfl,aj d,bn ?_⟩⟩;have D:=r.tt F;have I:=Td n;rw[Vm ⟨m,ae⟩ ⟨BH n,I⟩];rw[show(32*(⟨m,ae⟩:Fin 8).val+(⟨BH n,I⟩:Fin 32).val)=32*m+BH n from rfl];have K:((32*m+BH n:Nat):Int)=((UInt8.ofNat (32*m+BH n)).toNat:Int):=by simp;omega
 rw[K];have E:Qr (m:Int) n=UInt8.ofNat (32*m+BH n)::JI (JP n) n:=by unfold Qr;rw[ah l,aG]
 rw[E]at f;generalize UInt8.ofNat (32*m+BH n)=w at f⊢;have o:Fr No c (c.push (.C #[.int .u8 (w.toNat:Int)] 5)):=Fr.push _ _;have B:Own (c.push (.C #[.int .u8 (w.toNat:Int)] 5)) (Sa c.size 0) 1 1 1 (bc [w]):=.row c.size 0 #[.int .u8 (w.toNat:Int)] 5 rfl aU ae bO rfl (λj v x=>by
  cases j with
  |zero=>simpa[bc]using x
  |succ j=>simp[bc]at x)
 generalize c.push (.C #[.int .u8 (w.toNat:Int)] 5)=h5 at o B⊢;have z1:=r.1;have z2:=F.1;have zb:=aE s;refine⟨aj (o.get d id),_,aj (o.get d id),GS ⟨_,rfl,?_⟩⟩;have Q:=MR n;generalize JP n=k at f Q⊢;refine⟨λp S C t g=> ∃(i:Nat),t=(i:Int)/\i<=k/\S=1+i/\Own g p (1+i) C 1 (bc (w::(JI k n).take i))/\(∀y,aN p y->c.size<=y)/\Fr No c g,λ_ _ _ t _=>k - t.toNat,⟨0,rfl,bg _,rfl,by rw[fy];exact B,(λy ⟨a,e,V⟩=>by grind),o⟩,?_⟩;rintro p _ C _ g ⟨i,rfl,hi,rfl,O,A,q⟩;by_cases u:i<k;rw[iE];refine⟨_,aj (q.get d id),?_⟩;rw[df (n:=(k:Int) - 1) ae ae,df (n:=(k:Int) - 1 - (i:Int)) ae ae,df (n:=8*((k:Int) - 1 - (i:Int))) ae ae,fe];have G:min (Int.toNat (8*((k:Int) - 1 - (i:Int)))) (IntKind.bits .u64)=8*(k - 1 - i):=by rw[show IntKind.bits .u64=64 from rfl];omega
 rw[G,DE,FM];refine hX gD.tU gD.uU O rfl (λv z=>by simp at z;rw[z];rfl) ae ae λp2 U h9 T L M=>⟨_,_,_,rfl,?_⟩;rw[df (n:=(i:Int)+1) ae ae];refine⟨⟨i+1,ae,ae,ae,?_,λy P=> ?_,q.fresh L A⟩,by grind⟩;have J:(JI k n).take (i+1)=(JI k n).take i++ [UInt8.ofNat (n/2 ^ (8*(k - 1 - i)))]:=by rw[bt];unfold JI;rw[aP,List.getElem?_range u];rfl
 rw[J,<-eH,hZ];exact T;rcases M y P with a|a;exact A y a;have:=q.1;omega;rw[af (λe=>u (by grind))];obtain rfl:i=k:=ae
 rw[bz (by rw[lE];omega)]at O;have:=f g p C 0 O.iy (by rw[bw,lE,Nat.add_comm];exact O.le) (D.tt q);rw[bw,lE,Nat.add_comm]at this;exact this
def LH{l:List Tr}{i:Nat}{t:Tr}(a:l[i]? =some t):dG (l.take (i+1))=dG (l.take i)+room t:=by rw[bt,a,iB];simp[dG]
def oQ(l:List Tr)(i:Nat):dG (l.take i)<=dG l:=by
 conv=>rhs;rw[<-List.take_append_drop i l]
 rw[iB];omega
theorem MX: ∀(A:Nat)(t:Tr),deep t<=A->∀(h:Heap)(D:fZ)(x:CV)(p:bH)(l c:Nat)(a:cO)(R:dH),l=a.length->a.length+room t<=20000000->Own h p a.length c 1 (bc a)->hM h D t x->(∀y,aN p y->¬D y)->
  (∀H P C,Own H P (a++enc t).length C 1 (bc (a++enc t))->Fr (λy=>aN p y) h H->(∀y,aN P y->aN p y\/h.size<=y)->R (.slice P (a++enc t).length C) H)->Cl 402 #[.L p l c,x.agg] h R
 |0,.mk k n f' l,I,_,_,_,_,_,_,_,_,_,_,_,_,_,_=>by simp only[deep]at I;omega
 |A+1,.mk k n f' l,I,h,D,x,p,_,c,a,R,rfl,ha,ow,T,s,hk=>by
  simp only[deep]at I;simp only[room]at ha;unfold enc at hk;have T:=T.lt;unfold hM at T;obtain⟨⟨rfl,rfl,rfl,b'⟩,u,L,U⟩:=T;have lt:=U.len;have l9:=ia l;have e0:=L.len;refine FJ (aa.box λbb h1 t' d Z=>⟨_,aj d,_,aj d,ay.of λe' hJ=> ?_⟩);have u':=aE d;have z1:=Z.1;have O: ∀y,aN p y->y<h.size:=λy b=>ow.dW b;have done:e' (AY x.k x.n x.v.b l:Int) h1:=by
   subst hJ;refine⟨_,aj d,Ot λh3 q3 c3 e3 c' g' f=>⟨_,_,_,_,rfl,_,_,_,aj (f.get d id),?_⟩⟩;have o':=MS x.k (AY x.k x.n x.v.b l);generalize Qr x.k (AY x.k x.n x.v.b l)=B at c' g' o' hk⊢;have z3:=f.1;have v:=Z.tt f;refine du gD.tU gD.uU (ow.frame v bD) c' (by rw[fO,bJ]) (kY B) ae ae λp4 c4 h4 o4 _ F g4=>⟨_,_,_,rfl,aj (F.get (f.get d id) (λb=>cv (O _ b))),?_⟩;have z4:=F.1;have n4: ∀y,aN p4 y->aN p y\/h3.size<=y:=g4;have q':Row h4 x.v.p (bc x.v.b):=by by_cases e:x.v.b= [];rw[e];exact Row.nil;exact((b'.row.frame v bD).frame F (λV E b=>s _ b (b'.own e _ ⟨V,E,rfl⟩).1))
   refine du gD.tU gD.uU o4 q' (by rw[fO,bJ]) (kY x.v.b) ae ae λp5 c5 h5 Q _ G g5=> ?_;have p': ¬aN p4 bb:=λb=>by rcases n4 _ b with q|q;have:=O _ q;omega;omega
   have k':=G.get (F.get (f.get d id) (λb=>cv (O _ b))) p';refine⟨_,_,_,rfl,_,_,_,aj k',?_⟩;have z5:=G.1;rw[<-hZ,<-hZ,cP]at Q;have Fp:Fr (λy=>aN p y) h h5:=(Fr.no v F).trans G bD (λy b q=>by rcases n4 y q with q|q;exact q;omega);have n5: ∀y,aN p5 y->aN p y\/h.size<=y:=λy b=>by grind
   have el:a.length+B.length+x.v.b.length=(a++(B++x.v.b)).length:=by simp only[ak];omega
   rw[el]at Q⊢;refine⟨λP l' C t g=> ∃(i:Nat)(w:cO),t=(i:Int)/\i<=u.length/\l'=(a++w).length/\Own g P (a++w).length C 1 (bc (a++w))/\w=B++x.v.b++BI (l.take i)/\Fr (λy=>aN p y) h g/\∀y,aN P y->aN p y\/h.size<=y,λ_ _ _ t _=>u.length - t.toNat,
    ⟨0,B++x.v.b,rfl,bg _,rfl,Q,by rw[fy];simp[BI],Fp,n5⟩,?_⟩
   rintro P _ C _ g ⟨i,w,rfl,hi,rfl,og,X,r,ng⟩;have rl:=oQ l i;have lw:w.length<=9+x.v.b.length+dG (l.take i):=by rw[X,ak,ak];have:=DV (l.take i);omega
   by_cases J:i<u.length;rw[iE];have⟨y,b⟩:=tL J;obtain⟨t,K,ty⟩:=U.get b;have tm:=aW K;have dm:=vA tm;have rm:=mN tm;have rt:=LH K;have m':u≠ []:=by intro e;rw[e]at J;simp at J
   obtain⟨V,E⟩:=L.row.any gI;have d':=L.row.frame r (λa2 e2 n'=>s _ n' (L.own m' _ ⟨a2,e2,rfl⟩).1);rw[E]at d'⊢;refine⟨ae,av.2 (aa.vy (by rw[aG];exact d'.gL gI b) (aa.new λb1 h8 s' j' o=>aa.ld j' ?_))⟩;have r':hM h8 (λy=>D y/\y<h.size) t y:=(hM.frame r (λz j M=>s z M j.1) ty).on o;have zg:=r.1;have z8:=o.1;refine MX A t ae h8 (λy=>D y/\y<h.size) y P _ C (a++w) _ rfl (by rw[ak];have:=oQ l (i+1);omega) (og.frame o bD) r' (λz j M=>by rcases ng z j with q|q;exact s z q M.1;omega) λh9 p9 c9 o9 f9 n9=>⟨_,_,_,rfl,?_⟩;rw[df (n:=(i:Int)+1) ae ae];rw[cP]at o9⊢;refine⟨⟨i+1,w++enc t,ae,ae,rfl,o9,by rw[bt,K];show _=_++BI (l.take i++ [t]);rw[Oh,X,cP _ (BI (l.take i))],(r.on o).trans f9 bD (λz j q=> ?_),λz j=> ?_⟩,by grind⟩;rcases ng z q with q|q;exact q;omega;grind;grind
  have ub:IntKind.wrap .u64 (x.v.b.length:Int)=(x.v.b.length:Int):=HN;have ul:IntKind.wrap .u64 (x.ll:Int)=(l.length:Int):=by rw[e0,<-lt];exact HN
  unfold AY at done;refine ay.of λJ1 h'=> ?_;have j1: ∀q,q=decide (x.k=2\/x.k=3)->J1 q h1:=by
   intro q hq;subst h';refine ay.of λJ2 a'=> ?_;split
   .rename_i S;rw[ah (bj (hq.symm.trans S))]at done;exact⟨_,_,_,aj d,by subst a';rw[ub];exact done⟩
   .rename_i S;rw[af (λe=>S (hq.trans (aq e)))]at done;refine ay.of λJ3 i'=> ?_;split
    .rename_i q2;rw[ah (dQ q2)]at done;exact⟨_,_,_,aj d,by subst i';subst a';rw[ul];exact done⟩
    grind
  split
  rename_i q;exact j1 _ (by simp only[cU]at q;rw[q];decide);grind

end Cb
end
section
namespace Cb
variable {V:cO→Bool} {h a H:Heap} {R:dH} {D:Nat→Prop}
variable {t:Tr} {x:CV}
theorem MY(T:hM h D t x)(g:room t<=1000000)(b: ∀H p c,Own H p (enc t).length c 1 (bc (enc t))->(∀y,aN p y->h.size<=y)->Fr No h H->R (.slice p (enc t).length c) H):Cl 402 #[.Z,x.agg] h R:=
 MX (deep t) t (bf _) h D x none 0 0 [] R rfl (by grind) (.nil rfl rfl rfl rfl) T (λy ⟨A,e,_⟩=>by cases e) λH P C o f n=>b H P C o (λy d=>(n y d).resolve_left (λ⟨A,e,_⟩=>by cases e)) (f.mono λy _ ⟨A,e,_⟩=>by cases e)
theorem GU(U:lU V a)(u:Fr No a h)(T:hM h D t x)(e:room t<=1000000)(k:iq V t=true->∀H p c,Own H p (enc t).length c 1 (bc (enc t))->(∀y,aN p y->h.size<=y)->Fr No h H->R (.T #[.slice p (enc t).length c,.I 0]) H)(K:iq V t=false->jA h R (.T #[.Z,.I 3])):Cl 333 #[x.agg] h R:=by
 refine Bz (aa.box λB l E b f=>aa.ld b (fA U (u.tt f) (T.on f) e λi F=>⟨_,rfl,?_⟩));have z:=f.1;have Z:=F.1;cases d:iq V t with
 |false=>exact K d i (f.tt F)
 |true=>exact aa.ld (F.get b id) (MY ((T.on f).on F) e λj p c o n g=>⟨_,_,_,rfl,k d j p c o (λy m=>by grind) ((f.tt F).tt g)⟩)
def lU.mono{b:Heap}(U:lU V a)(f:Fr No a b):lU V b:=λg p c B R F=>U g p c B R (f.tt F)
def kH(V:mv)(b:cO):Bool:=match rL V b with| .ok (t,n)=>decide (n=b.length) && decide (enc t=b)| .error _=>false
theorem Kc{p:bH}{l c:Nat}{b:cO}(U:lU V h)(r:Row h p (bc b))(v:l=b.length)(cap:b.length<=c)(w:b.length<=90000)(g: jA h R (.B (kH V b))):Cl 557 #[.L p l c] h R:=by
 subst v;unfold kH at g;refine wX (Eg U r rfl cap ae (λs t x next o T F=>⟨_,_,_,_,_,_,_,_,_,_,rfl,aa.new λB k E m f=> ?_⟩) (λs e n F=>⟨_,_,_,_,_,_,_,_,_,_,rfl,aa.new λB k E m f=> ?_⟩))
 .have i:=F.tt f;rw[o]at g;have⟨A,z⟩:=DX o;rw[iE];by_cases C:next=b.length
  rw[ah (by grind)];refine aa.ld m (MY (T.on f) ae λu q d O y j=>⟨_,_,_,rfl,ja O.iy (r.frame (i.tt j) bD) rfl rfl ⟨_,rfl,?_⟩⟩);have:=g u (i.tt j);simp only[C,di,Bool.true_and]at this;exact this;grind
 have:=g k (F.tt f);rw[n]at this;rw[af (λq=>vB n (eq_of_beq q))];exact this

end Cb
end
end Go.Proofs.YticlajoleibdnaaGreatDoor
