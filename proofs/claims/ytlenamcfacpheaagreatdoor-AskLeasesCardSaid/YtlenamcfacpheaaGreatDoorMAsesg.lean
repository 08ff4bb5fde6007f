/-
  EI is proved here: parts of w5 proof, one behind w5 other (texts of this work, merged by a program; Iy w5 theorem Iz not use is left out). No condition.
-/
import Derived.Handed
import Derived.Shelf.Vars
import Derived.Lib.LaidU8
import Derived.Lib.LaidTab
import Derived.Test.YtlenamcfacpheaaGreatDoorMAsesf
set_option maxRecDepth 100000
set_option maxHeartbeats 4000000
namespace Go.Proofs.YtlenamcfacpheaaGreatDoor
open Go.Den
open IntKind (wrap)
open Int (toNat)
section
namespace Bn
open Cb
open jc (Ev cK ku)
variable {V:List UInt8→Bool} {h H h' g g0:ai} {R:fx} {D':Nat→Prop}
variable {b cl bb l:Nat} {q:cj} {p:Prim} {bs:List qH} {xs:List BB}
theorem tK:nP Tryz.prog 127 201 5 56 (.agg #[.U 0,.U 0,.U 0,.I 0,.Z]):=⟨db,db,rfl⟩
theorem uK:Tryz.prog.underlying 127=some (.slice 201):=db
theorem MP{x:qm}{K:ai->Prop}(d:av.fN h b (x.s q cl))(hk: ∀h',av.fN h' b (qm.s ⟨p,x.bl⟩ q cl)->Fr (λy=>y=b) h h'->K h'):aD.cY h (AA b 0) p.s K:=
 (show eS (AA b 0) p.s.l 0 h K from k7 (off:=0) (ws:=(qm.s ⟨p,x.bl⟩ q cl).l) d (by show 0+20<=21;omega) rfl rfl λa d1 d2 d3=>hk a d1 (Fr.of_eq d2 λc e=>d3 c e))
theorem yV{y x:av.S}{K:av.S->ai->Prop}(a:av.fN h b y)(hk: ∀h',Fr (λy=>y=b) h h'->K x h'):
  av.cY h (AA b 0) x λg=>av.cG g (AA b 0) λr=>K r g:=
 av.gO (x:=x) a λg d1 f _=>av.fK d1 (hk g f)
structure Bc (g0 g:ai) (bb:Nat) (p:Prim) (bs:List qH) (xs:List BB) (q:cj) (cl:Nat):Prop where
 cR:av.fN g bb (qm.s ⟨p,bs⟩ q cl)
 own:fy g q xs.length cl 5 (xs.flatMap yT)
 ge: ∀y,aP q y->g0.size<=y/\y≠bb
 eq:xs.map BB.b=bs
 ok: ∀x∈xs,BV.ok g (λy=>(g0.size<=y/\y≠bb)/\¬aP q y) ⟨x.p,x.c,x.b.data⟩
 fr:Fr (λy=>y=bb) g0 g
theorem Bc.on(L:Bc g0 g bb p bs xs q cl)(f:Fr No g h'):Bc g0 h' bb p bs xs q cl:=
 ⟨f.get L.cR id,L.own.frame f (λ_ _=>id),L.ge,L.eq,λx a=>(L.ok x a).frame f (λ_ _=>id),L.fr.on f⟩
theorem Bc.len(L:Bc g0 g bb p bs xs q cl):xs.length=bs.length:=by rw[<-L.eq,aJ]
theorem Bc.to(L:Bc g0 g bb p bs xs q cl):ji g (λy=>g0.size<=y/\y≠bb) bs q bs.length cl xs:=
 ⟨L.eq,rfl,L.own.iT,λ_=>L.ge,ig L.own.le L.len,λx a=>(L.ok x a).mono λy c=>c.1⟩
theorem UU{x:BB}{Φ:ai->Prop}(L:Bc g0 g bb p bs xs q cl)(A:l=xs.length)(ll:xs.length<=1000000)(F:BV.ok g (λy=>(g0.size<=y/\y≠bb)/\¬aP q y) ⟨x.p,x.c,x.b.data⟩)(hk: ∀G X Q C,Bc g0 G bb p (bs++ [x.b]) X Q C->g.size<=G.size->Φ G):
  aS g (.cells x.s.arr 201) λo s=>aV Tryz.prog (Builtin.append_ #[127,127] 127 #[.slice q l cl,.slice (some (AA o 0)) 1 1]) s λI u=>
   ∃m T t,I=.slice m T t/\aE u (AA bb 20) (.slice m T t) λv=>Φ v:=by
 subst A;refine aG.cT λJ M K k f7=> ?_
 have Z:=f7.1;have W:=L.fr.1;have S:=aF k;have U:=aF L.cR;have P: ∀y,aP q y->y<g.size:=λy d=>L.own.eg d
 refine dO tK uK (L.own.frame f7 (λ_ _=>id)) (ds:=yT x) (.inr ⟨_,rfl,aG.yA (x:=x.s) k⟩) rfl (ML x) ae ae λQ C r O _ f11 j=>⟨_,_,_,rfl,?_⟩
 have B:=f11.get (f7.get L.cR id) (λd=>(L.ge _ d).2 rfl);refine bB B (by show 20<21;omega) λf d1 d2 d3=> ?_
 have f12:Fr (λy=>y=bb) r f:=Fr.of_eq d2 (λc z=>d3 c z);have n: ∀y,aP Q y->g0.size<=y/\y≠bb:=λy d=>by
  rcases j y d with a|a
  .exact L.ge y a
  .omega
 have E:xs.flatMap yT++yT x=(xs++ [x]).flatMap yT:=by rw[cU,List.flatMap_singleton]
 have el:(bs++ [x.b]).length=xs.length+1:=by rw[aA,L.len];rfl
 refine hk f (xs++ [x]) Q C ⟨?_,?_,n,?_,?_,?_⟩ ?_
 .unfold av.fN qm.s;rw[el];exact d1
 .rw[aA,<-E];exact O.frame f12 (λy d e=>cf (n y d))
 .rw[bf,L.eq];rfl
 .intro y d;have key: ∀w:BB,BV.ok g (λy=>(g0.size<=y/\y≠bb)/\¬aP q y) ⟨w.p,w.c,w.b.data⟩->BV.ok f (λy=>(g0.size<=y/\y≠bb)/\¬aP Q y) ⟨w.p,w.c,w.b.data⟩:=λw D=>by
   have o1:=((DR D).frame f7 (λ_ _=>id)).frame f11 (λy d i=>d.1.2 i);have o2:=o1.mono (D':=λy=>(g0.size<=y/\y≠bb)/\¬aP Q y) (λy d=>⟨d.1.1,λi=>by
    rcases j y i with a|a
    .exact d.1.2 a
    .have:=d.2;omega⟩)
   exact o2.frame f12 (λy d e=>ae)
  rcases bJ.1 d with a|a
  .exact key y (L.ok y a)
  .rw[bH.1 a];exact key x F
 .exact((L.fr.on f7).trans f11 (S'':=λy=>y=bb) (λ_ _=>id) (λx N d=>cf (L.ge x d))).trans f12 (λ_ _=>id) (λ_ _=>id)
 .have:=f11.1;omega
theorem MQ{t:Tr}{b:qH}(h:xM V t=.ok b):b.data.length<=200:=by
 unfold xM at h;split at h
 .cases h
 .split at h
  .split at h
   .rename_i a;split at h
    .cases h;unfold qI at a;split at a
     .rename_i c;exact(vq c).2.2.1
     .cases a
    .cases h
   .cases h
  .cases h
theorem MR{b:qm}(h:(kj V b).isSome=true):b.bl.length<=8/\b.bl≠ []:=by
 unfold kj at h;split at h
 .rename_i a;unfold zC at a;split at a
  .cases a
  .rename_i c;simp only[aT,aY]at a;exact⟨a.1.1,λe=>by rw[e]at c;cases c⟩
 .cases h
def qm.zs:av.S:=.z
theorem Ir{bs:List UInt8}{p:cj}{c:Nat}(U:lW V H)(u:Fr No H h)(mx:tR.Mx h)(row:Row h p (bc bs))(hl:l=bs.length)(cap:bs.length<=c)(k1: ∀b,sJ V bs=.ok b->b.p.wf->(∀m∈b.bl,m.data.length<=200)->b.bl.length<=8->∀h' q cl xs,ji h' (λy=>h.size<=y) b.bl q b.bl.length cl xs->Fr No h h'->R (.tuple #[(b.s q cl).agg,.I 0]) h')(k2: ∀e,sJ V bs=.error e->e≠0->gW h R (.tuple #[av.S.z.agg,.I e])):ar Tryz.prog 158 #[.slice p l c] h R:=by
 subst hl;have j:sJ V bs=sJ V bs:=rfl;conv at j=>rhs;unfold sJ
 refine Et.walk (av.cT λb K eb N f1=> ?_);have zb:=aF N;have z1:=f1.1;have no: ∀g e,Fr No K g->sJ V bs=.error e->e≠0->av.cY g (AA b 0) .z λG=>av.cG G (AA b 0) λr=>R (.tuple #[r.agg,.I e]) G:=λg e fg d k=>
  yV (fg.get N id) λG f=>k2 e d k G ((f1.tt fg).fresh f (λy e=>ae))
 by_cases c0:bs.length<=1200
 case neg=>rw[af (by simp only[aY];omega)];exact no K 2 (Fr.refl _ _) (by rw[j,ag c0]) cM
 rw[cW];rw[af c0]at j;refine yy (U.mono (u.tt f1)) (row.frame f1 (λ_ _=>id)) rfl cap ae (λh3 t x nx w tx f3=>aa.ex x.s ⟨_,_,rfl,aa.gh (x:=x.s) λb1 o k' v f5=> ?_⟩) (λh3 e d f3=>aa.ex zv.s ⟨_,_,rfl,aa.gh (x:=zv.s) λb1 o k' v f5=> ?_⟩)
 case refine_2=>
  rw[af (cD (qi d))];exact no o e (f3.tt f5) (by rw[j,d]) (qi d)
 rw[w]at j;dsimp only at j;obtain⟨rt,C'⟩:=xy w;rw[cW];have s:=f1.tt (f3.tt f5);obtain⟨xk,xn,xb,xl,xv,ys,L,I⟩:=gn.kn (tx.u.on f5);have rl:=mJ (t:=t);have ln:=I.len;refine aK.of λf' hJ=> ?_
 have bad: ¬(nx=bs.length/\t.k=4/\2<=t.l.length/\t.l.length<=9)->f' true o:=λk=>by
  subst hJ;dsimp only;rw[af rfl];exact no o 3 (f3.tt f5) (by rw[j,ag k]) cM
 have sl:x.s.nC=t.l.length:=xl;by_cases c1:nx=bs.length
 case neg=>rw[af (by simp only[dJ,fa];omega)];exact bad (λe=>c1 e.1)
 rw[ag (by simp only[dJ,fa];omega)];refine⟨_,aw v,?_⟩;rw[show x.s.f0=t.k from xk];by_cases C:t.k=4
 case neg=>rw[af (cD C)];exact bad (λe=>C e.2.1)
 rw[ag (cD C)];refine⟨_,_,_,aw v,?_⟩;by_cases Z:2<=t.l.length
 case neg=>rw[af (by simp only[aY];omega)];exact bad (λe=>Z e.2.2.1)
 rw[cW];refine⟨_,_,_,aw v,?_⟩;by_cases c4:t.l.length<=9
 case neg=>rw[show decide ((x.s.nC:Int)>9)=true by simp only[aY];omega];exact bad (λe=>c4 e.2.2.2)
 rw[show decide ((x.s.nC:Int)>9)=false by simp only[ee];omega];clear bad;rw[af ⟨c1,C,Z,c4⟩]at j;subst hJ;try dsimp only
 rw[cW];have z5:=s.1;have F':=(f3.tt f5).1;refine av.cT λb2 h9 y' P f9=> ?_
 have z9:=f9.1;have G':=aF P;obtain⟨a0,y0,i',u',w',_⟩:=elem (L.frame f9 (λ_ _=>id)) (I.on f9) (i:=0) ae;have r0:=ju (ts:=t.l) (i:=0) ae;have Y:=s.tt f9;refine⟨_,_,_,aw (f9.get v id),⟨ae,ae⟩,bZ.2 ⟨a0,i',aa.mI (x:=y0.s) u' ?_⟩⟩;refine MK U (u.tt Y) (mx.on Y) w' ae (λpr hp wp o' f10=>aD.ex pr.s ⟨_,rfl,MP (x:=⟨Prim.zero, []⟩) (p:=pr) (q:=none) (cl:=0) (f10.get P id) λM d11 f11=> ?_⟩) (λe d k o' f10=>aD.ex Prim.zero.s ⟨_,rfl,MP (x:=⟨Prim.zero, []⟩) (p:=Prim.zero) (q:=none) (cl:=0) (f10.get P id) λM d11 f11=> ?_⟩)
 case refine_2=>
  rw[af (cD k)];exact no M e ((f3.tt (f5.tt (f9.tt f10))).fresh f11 (λy e=>ae)) (by rw[j,d]) k
 rw[cW];rw[hp]at j;dsimp only at j;have e':Fr No o M:=(f9.tt f10).fresh f11 (λy e=>ae);refine⟨_,_,_,aw (e'.get v id),⟨ae,ae⟩,?_⟩;have e1:Int.toNat 1=1:=rfl;rw[e1,sl];refine⟨λT g=> ∃(i:Nat)(out:List qH)(xs:List BB)(q:cj)(cl:Nat),T=(i:Int)/\i+1<=t.l.length/\out.length=i/\Bc o g b2 pr out xs q cl/\(∀m∈out,m.data.length<=200)/\sJ V bs=(match Dq V (t.l.drop (i+1)) out with| .error e=> .error e| .ok l=>if(kj V ⟨pr,l⟩).isSome=true then .ok ⟨pr,l⟩else .error 3),λT _=>t.l.length - 1 - T.toNat,⟨0, [], [],none,0,rfl,ae,rfl,⟨d11,.nil rfl rfl rfl rfl,(λy ⟨a,e,_⟩=>by cases e),rfl,(λx S=>by cases S),(f9.tt f10).mono (λ_ _=>False.elim)|>.tt f11⟩,(λx S=>by cases S),j⟩,?_⟩;rintro _ g ⟨i,out,xs,q,cl,rfl,hi,ho,B,hd,d⟩;have F:Fr No o g:=(Fr.refl _ _).fresh B.fr (λy e=>ae);have z:Fr No K g:=f3.tt (f5.tt F);by_cases D:i+1<t.l.length
 case neg=>
  rw[ag (λe=>D (cf (aQ e)))];rw[dK ae]at d;have d:sJ V bs=if(kj V ⟨pr,out⟩).isSome=true then .ok ⟨pr,out⟩else .error 3:=d
  refine av.fK B.cR (Ba (b:=⟨pr,out⟩) wp U (u.tt (s.tt F)) (mx.on (s.tt F)) B.to (by show out.length<=_;omega) (λm O=>cf (hd m O)) λr' f23=>⟨_,rfl,?_⟩);cases Q:(kj V ⟨pr,out⟩).isSome with
  |false=>
   rw[fO];exact no r' 3 (z.tt f23) (by rw[d,Q];rfl) cM
  |true=>
   rw[Q,af rfl]at d;rw[cW];refine av.fK (f23.get B.cR id) (yV ((z.tt f23).get N id) λG f=>k1 ⟨pr,out⟩ d wp hd (MR Q).1 G q cl xs ?_ ((f1.tt (z.tt f23)).fresh f (λy e=>ae)));exact((B.to.on f23).frame f (λy E e=>ae)).mono λy E=>ae
 rw[fO];have t':t.l.drop (i+1)=at_ t.l (i+1)::t.l.drop (i+1+1):=by
  rw[cF D];unfold at_;rw[aX,aj D];rfl
 rw[t']at d;have hB: ∀T l',Dq V (T::l') out=(match xM V T with| .error e=> .error e| .ok b=>Dq V l' (out++ [b])):=λ_ _=>rfl
 rw[hB]at d;have Lg:=L.frame F (λ_ _=>id);have cc:x.ll<=x.cl:=L.cap;have L2:lS g (λ_=>True) (cE x.s.sg x.s.qF 1 4) (t.l.length - 1) (x.s.qF - 1) (ys.drop 1):=by
  have w:=Lg.row.sub (cap:=x.cl) (l:=1) (u:=t.l.length) (sz:=4) ae ae;rw[kW gV 4 fX,mR gV 4 fX,bG ae]at w;exact⟨by rw[bN];omega,w,λ_ _ _=>trivial,by show _<=x.cl - 1;omega⟩
 have T2:zR g (t.l.drop 1) (ys.drop 1):=(I.on F).drop 1;obtain⟨a1,y1,j',v',d',_⟩:=elem L2 T2 (i:=i) (by rw[bN];omega);have ei:at_ (t.l.drop 1) i=at_ t.l (i+1):=by unfold at_;rw[aX,aX,ft,Nat.add_comm]
 rw[ei]at d';have r1:=ju (ts:=t.l) (i:=i+1) D;refine⟨⟨ae,ae⟩,bZ.2 ⟨a1,j',aa.mI (x:=y1.s) (by rw[aI];exact v') (aa.gh (x:=y1.s) λb3 A' z' s' f15=>aa.fK s' ?_)⟩⟩;have zg:=F.1;refine OH U (u.tt (s.tt (F.tt f15))) (mx.on (s.tt (F.tt f15))) (d'.on f15) ae (λA c' p' W J ov f16=>aG.ex (A.s W J) ⟨_,rfl,aG.gh (x:=A.s W J) λb4 a' m' b' f18=> ?_⟩) (λe hE k p' f16=>aG.ex .z ⟨_,rfl,aG.gh (x:=.z) λb4 a' m' b' f18=> ?_⟩)
 case refine_2=>
  rw[af (cD k)];exact no a' e (z.tt (f15.tt (f16.tt f18))) (by rw[d,hE]) k
 rw[cW];rw[c']at d;dsimp only at d;have n':=f15.tt (f16.tt f18);have X:=B.on n';have E':=f15.1;have nq: ∀y,aP q y->y<g.size:=λy E=>B.own.eg E
 have H':=aF B.cR;refine⟨_,_,_,aw X.cR,aG.fK b' (UU (x:=⟨A,W,J⟩) X (by show out.length=_;exact B.len.symm) (cf B.len) ((ov.frame f18 (λ_ _=>id)).mono λy E=>⟨ae,λhq=>cf (nq y hq)⟩) λG x' q' g' B' I'=> ?_)⟩;rw[bz (n:=(i:Int)+1) ae ae];refine⟨⟨i+1,out++ [A],x',q',g',ae,ae,by rw[aA,ho];rfl,B',λm O=> ?_,d⟩,by show t.l.length - 1 - Int.toNat ((i:Int)+1)<t.l.length - 1 - Int.toNat (i:Int);omega⟩;rcases bJ.1 O with a|a
 .exact hd m a
 .rw[bH.1 a];exact MQ c'

end Bn
end
section
namespace Ask
open jc (Ev cK)
open eI (SS Good Pt uW Mk)
open Bn (iz gx ic yF Cf qm Prim qH ji BB kj sJ wk)
variable {V:List UInt8→Bool} {h h' j g:ai} {R:fx} {s k bo id c:Nat} {X d:Ft} {I:uW} {σ:SS} {p:cj} {ses:Int} {x:Rq} {D:Nat→Prop}
theorem bC.box{b:Nat}(st:bC X h d h')(f:Fr (λy=>y=b) h' g)(H:h.size<=b):bC X h d g:=⟨st.fr.trans f (λ_ _ a=>a) (λc i e=>ae),st.jl,st.lB,st.wg⟩
def MS(σ:SS)(X:Ft)(I:uW)(s:Nat)(ses:Int)(dl:Nat)(x:Ev)(g:ai)(S:aL.S)(e:Int)(h':ai):Prop:=
 ∃d a,Pt h' s d I a/\bC X g d h'/\((¬eZ.qT ses dl/\e=1/\a=σ)\/(eZ.qT ses dl/\eZ.jP σ.C.L x=none/\e=4/\a=σ)\/
  (eZ.qT ses dl/\∃z,eZ.jP σ.C.L x=some z/\e=0/\a= { σ with C:=eZ.lL σ.C z ses dl } /\∃p c,S.f0=(z.num:Int)/\S.zt=p/\S.zu=z.d.length/\S.zx=c/\Row h' p (bc z.d)/\z.d.length<=c/\∀y,aP p y->g.size<=y/\¬d.M y))
theorem yW(H:Pt g s X I σ)(G:eI.Good σ k)(hk:k<=30000)(x:Ev)(dl:Nat){K:aL.S->Int->ai->Prop}(f: ∀S e h',MS σ X I s ses dl x g S e h'->K S e h'):
  ar Tryz.prog 156 #[pt I.c,x.s.agg,.I ses,.U (dl:Int)] g λv h'=>aL.EX λS=> ∃e,v=.tuple #[S.agg,.I e]/\K S e h':=by
 obtain⟨Z,m,L,J,go⟩:=H.use 2;have E:=G.small H.ord ae;refine eZ.Js m E G.c.ok.bd x ses dl rfl (λa b f1=> ?_) (λa w b f1=> ?_) (λa z m b r P c1 n s1 B t n1=> ?_)
 .exact aL.ex .z ⟨_,rfl,f _ _ _ ⟨X,σ,H.on f1,bC.hM f1,.inl ⟨a,rfl,rfl⟩⟩⟩
 .exact aL.ex .z ⟨_,rfl,f _ _ _ ⟨X,σ,H.on f1,bC.hM f1,.inr (.inl ⟨a,w,rfl,rfl⟩)⟩⟩
 .obtain⟨q,o,st1,F,N⟩:=go b r { σ with C:=eZ.lL σ.C z ses dl } n s1 (λi u=>eI.uX _ u);exact aL.ex ⟨(z.num:Int),z.e.kH,z.e.node,z.e.gH,z.e.host,z.e.jD,P,z.d.length,c1,(z.bX:Int),ses,(dl:Int)⟩ ⟨_,rfl,f _ _ _ ⟨q,_,o,st1,.inr (.inr ⟨a,z,m,rfl,rfl,P,c1,rfl,rfl,rfl,rfl,B,t,λy l=>⟨(n1 y l).1,λA=>(n1 y l).2 (N y (n1 y l).1 (.inl A))⟩⟩)⟩⟩
theorem OJ(E:En V j h s X I σ k)(ht:0<=x.gk/\x.gk<=1000000)(o:ak.fN h bo (y0 id))(nb: ¬(X.M bo\/X.D bo))(hk: ∀h' d,Pt h' s d I (q8 V σ ses x).σ->iy X h bo id (q8 V σ ses x) d h'->R (.I (q8 V σ ses x).e) h'):
  ar Tryz.prog 105 #[(x.as p c s ses).agg,.P bo 0] h R:=by
 refine yJ.walk (bW.cT (x:=x.as p c s ses) λb h1 eb j' f1=>bW.fK (x:=x.as p c s ses) j' (Cw (E.H.on f1) λZ f2=>⟨_,rfl,?_⟩));have O:=f1.tt f2;have E2:=E.on O;have r:=f2.get j' _root_.id;have nM: ¬X.M bo:=λe=>nb (.inl e)
 have zo:=aF o;have z1:=f1.1;have z2:=f2.1;unfold q8 at hk;by_cases N:gg.iu σ.G x.ep ses=0
 case neg=>
  rw[ag N]at hk;rw[af (cD N)];exact hk Z X E2.H (iy.bad o nM (bC.hM O))
 rw[af N]at hk;rw[ag (cD N)];refine aK.of λo' hJ=> ?_
 have fin: ∀(g h' G:ai)(S:aL.S)(e:Int)(l:Nat),MS σ X I s ses (Nf σ x) x.ep g S e h'->Fr No Z g->h.size<=l->(l<g.size\/h'.size<=l)->aL.fN G l S->Fr (λy=>y=l) h' G->o' (some (AA l 0)) e G:=by
  intro g h' G S e l L fg z' K' hS f;subst hJ;dsimp only;obtain⟨d,P',H',d',c⟩:=L;have zg:=fg.1;have qG:=bC.no (O.tt fg) d';have st:=bC.box qG f z';have C': ∀y,d.M y\/d.D y->y≠l:=λy H e=>by
   have:=H'.lt y H;rcases H with a|a
   .rcases d'.jl y a with a|a
    .have:=E.H.lt y (.inl a);omega
    .omega
   .rcases d'.lB y a with a|a
    .have:=E.H.lt y (.inr a);omega
    .omega
  have P:=H'.frame f (λy H e=>C' y H e);rcases c with⟨w,rfl,rfl⟩|⟨w,hn,rfl,rfl⟩|⟨w,z,hz,rfl,rfl,p1,c1,e0,e1,e2,e3,r1,cap,n1⟩
  .rw[ag w]at hk;rw[fO];exact hk G d P (iy.bad o nM st)
  .rw[af w,hn]at hk;rw[fO];exact hk G d P (iy.bad o nM st)
  rw[af w,hz]at hk;dsimp only at hk;rw[cW];have rg:Row G p1 (bc z.d):=by
   by_cases hd:z.d= []
   .rw[hd];exact Row.nil
   .refine r1.frame f (λa J A=> ?_);have h3:=n1 a.block ⟨a,J,rfl⟩;have h4:=ja r1 (by simpa[bc]using hd) ⟨a,J,rfl⟩;have A:a.block=l:=A;omega
  have ug:=(E.u.step st).fr;have ac: ∀{g2:ai}{i:Nat}{v:Value},Fr No G g2->S.arr[i]? =some v->aB g2 (AA l i)=some v:=λf2 hv=>cz (f2.get hS _root_.id) hv
  have J':=aF hS;have A':=st.fr.get o nM;have bne:bo≠l:=ae
  have rest: ∀(M:ai)(m:qm)(q:cj)(cl:Nat)(xs:List BB)(D:Nat->Prop),ji M D m.bl q m.bl.length cl xs->m.bl.length<=1000000->(∀y∈m.bl,y.data.length<=80000)->(wk m).length=FW V z.d->Fr No G M->
   aS M (.cells av.S.z.arr 129) λg' u'=>
   av.cY u' (AA g' 0) (m.s q cl) λn=>
   aO (some ((AA l 0):Addr)) λf'=>
   ∃t52,aB n f'=some (.I t52)/\
   av.cG n (AA g' 0) λt53=>
   aO (some ((AA l 0):Addr)) λC=>
   ∃n' m' l',aB n (C.add 6)=some (.slice n' m' l')/\
   Cl 159 #[t53.agg] n λG' a'=>
   ∃F' k' E',G'=.slice F' k' E'/\
   Kp n a' [(some (C.add 6)),(some f')]/\
   aE a' (AA bo 2) (.I t52) λb'=>
   Kp a' b' [(some (C.add 6))]/\
   aE b' (AA bo 3) (.I ((k':Nat):Int)) λi'=>
   Kp b' i' [(some (C.add 6))]/\
   aE i' (AA bo 5) (.slice n' m' l') λt'=>
   R (.I 0) t':=by
   intro M m q cl xs D B hl hd hp f5;refine av.gh (x:=m.s q cl) λb6 g6 M' y' f6=>ay.2 ⟨_,ac (i:=0) (f5.tt f6) rfl,av.fK (x:=m.s q cl) y' (ay.2 ⟨_,_,_,ac (i:=6) (f5.tt f6) rfl,Bn.GA (B.on f6) hl hd λg7 p7 c7 o7 n7 f7=>⟨_,_,_,rfl,f7.kp,?_⟩⟩)⟩
   have F:=f5.tt (f6.tt f7);rw[hp,e0,e1,e2,e3];refine mK (z:=⟨id,0,(z.num:Int),0,0,none,0,0⟩) (F.get A' _root_.id) cM rfl λg8 d8 f8=>⟨OC f8 bne.symm (by simp;rfl),mK (z:=⟨id,0,(z.num:Int),(FW V z.d:Int),0,none,0,0⟩) d8 cM rfl λg9 d9 f9=>⟨OC f9 bne.symm (by simp;rfl),mK (z:=⟨id,0,(z.num:Int),(FW V z.d:Int),0,p1,z.d.length,c1⟩) d9 cM rfl λq' d10 f10=> ?_⟩⟩
   have T:=f8.tt (f9.tt f10);have D': ∀y,d.M y\/d.D y->y≠bo:=λy H e=>by
    rcases H with a|a
    .rcases qG.jl y a with a|a
     .exact nM (e▸a)
     .omega
    .rcases qG.lB y a with a|a
     .exact nb (.inr (e▸a))
     .omega
   refine hk q' d ((P.on F).frame T (λy H e=>D' y H e)) (iy.of (st.on F) T ⟨_,d10,λ_=>⟨p1,c1,rfl,?_,λ_ y H=>⟨.inl (cf ((n1 y H).1)),(n1 y H).2⟩⟩⟩);exact(rg.frame F (λ_ _=>_root_.id)).frame T (λa J A=>by have h3:=(n1 a.block ⟨a,J,rfl⟩).1;have A:a.block=bo:=A;omega)
  refine ay.2 ⟨_,_,_,ac (i:=6) (Fr.refl _ _) rfl,?_⟩;rw[e1,e2,e3];refine Bn.Ir E.U ug (E.mx.on ug) rg rfl cap (λm v' w' B' O' h5 q cl xs B f5=>av.ex (m.s q cl) ⟨_,rfl,?_⟩) (λe he hn h5 f5=>av.ex .z ⟨_,rfl,?_⟩)
  .exact rest h5 m q cl xs _ B ae (λy H=>cf (B' y H)) (by unfold FW;rw[v']) f5
  .exact rest h5 ⟨.zero, []⟩ none 0 [] (λ_=>True) ⟨rfl,rfl,Row.nil,λe=>absurd rfl e,aZ _,λy H=>by cases H⟩ (by show 0<=_;omega) (λy H=>by cases H) (by unfold FW;rw[he];rfl) f5
 have c': ¬X.M b:=E.nM ae;have eT:IntKind.wrap .u64 x.gk=(x.gk.toNat:Int):=by rw[wrap_u64 ae ae];omega
 have un: ∀{g:ai}{K:Int->ai->Prop},K (Nf σ x:Int) g->Cl 157 #[.U (σ.now:Int),.U (IntKind.wrap .u64 x.gk)] g λv G=> ∃t,v=.U t/\K t G:=λhK=>by
  rw[eT];exact Eh σ.now x.gk.toNat E.G.n ae ⟨_,rfl,hK⟩
 refine⟨_,aw r,ay.2 ⟨_,aw E2.H.cR,ic x.ep r rfl rfl rfl rfl rfl ⟨_,aw r,_,aw r,ay.2 ⟨_,aw E2.H.cR,_,aw r,⟨?_,?_,trivial⟩⟩⟩⟩⟩
 .refine un ⟨(Fr.refl (λ_=>False) _).kp,?_,?_,trivial⟩
  .exact yW E2.H E.G E.hk x.ep (Nf σ x) λS e r' L=>⟨(by obtain⟨_,_,_,st,_⟩:=_root_.id L;exact Kc st.fr c' bM),aL.cT λb2 N' L' x' f13=>⟨f13.kp,aL.gO (x:=S) x' λs' d14 f14 _=>fin Z r' s' S e b2 L (Fr.refl _ _) (by obtain⟨_,_,_,st,_⟩:=_root_.id L;have:=st.fr.1;omega) (.inr ae) d14 (Fr.no f13 f14)⟩⟩
  .refine aL.cT λQ U p' u f15=>⟨f15.kp,yW (E2.H.on f15) E.G E.hk x.ep (Nf σ x) λS e W L=> ?_⟩
   have I':=f15.1;have e':=aF u;exact⟨(by obtain⟨_,_,_,st,_⟩:=_root_.id L;exact Kc st.fr c' bM),aL.gO (x:=S) (by obtain⟨_,_,_,st,_⟩:=_root_.id L;exact st.fr.get u (E.nM ae)) λY d17 f17 _=>fin U W Y S e Q L f15 ae (.inl e') d17 f17⟩
 .refine aL.cT λQ U p' u f15=>⟨f15.kp,un ⟨(Fr.refl (λ_=>False) _).kp,yW (E2.H.on f15) E.G E.hk x.ep (Nf σ x) λS e W L=> ?_⟩⟩
  have I':=f15.1;have e':=aF u;exact⟨(by obtain⟨_,_,_,st,_⟩:=_root_.id L;exact Kc st.fr c' bM),aL.gO (x:=S) (by obtain⟨_,_,_,st,_⟩:=_root_.id L;exact st.fr.get u (E.nM ae)) λY d17 f17 _=>fin U W Y S e Q L f15 ae (.inl e') d17 f17⟩
theorem x7(E:En V j h s X I σ k)(o:ak.fN h bo (y0 id))(L: ¬(X.M bo\/X.D bo))(hk: ∀h' d,Pt h' s d I (u9 σ ses x.on).σ->iy X h bo id (u9 σ ses x.on) d h'->R (.I (u9 σ ses x.on).e) h'):
  ar Tryz.prog 108 #[(x.as p c s ses).agg,.P bo 0] h R:=by
 refine wN.walk (bW.cT (x:=x.as p c s ses) λb h1 eb f f1=> ?_);have E1:=E.on f1;have nM: ¬X.M bo:=λe=>L (.inl e)
 have zo:=aF o;have N: ¬X.M b:=E.nM ae;obtain⟨Z,t,zm,zd,go⟩:=E1.H.use 0;unfold u9 at hk;refine⟨_,aw f,ay.2 ⟨_,aw E1.H.cR,_,aw f,_,aw f,eY.x7 t E.G.a λB W T s2=> ?_⟩⟩;obtain⟨v,m,S,f',g'⟩:=go B W { σ with A:=eY.jh σ.A ses x.on } T s2 (λi q=>eI.BR _ q);refine⟨_,rfl,Kc S.fr N bM,aK.of λe' J=> ?_⟩;have qG:=bC.no f1 S;by_cases H:eY.uH σ.A ses=0
 case neg=>
  rw[ag H]at hk;rw[ag (cD H)];subst J;have eA:eY.jh σ.A ses x.on=σ.A:=by
   unfold eY.uH at H;unfold eY.jh;cases hs:eY.km σ.A ses with
   |none=>rfl
   |some z=>rw[hs]at H;exact absurd rfl H
  rw[eA]at m;exact hk B v m (iy.bad o nM qG)
 rw[af H]at hk;rw[af (by rw[H];rfl)];have K:=S.fr.get f N;have d': ¬v.M b:=λr=>by
  rcases S.jl b r with a|a
  .exact N a
  .have:=aF f;omega
 obtain⟨Z3,c',k',j',a'⟩:=m.use 0;refine⟨_,aw K,ay.2 ⟨_,aw m.cR,_,aw K,eY.sR c' (E.G.a.watch ses x.on) λh4 Y P C U s4 O=> ?_⟩⟩;obtain⟨n,u,Q,w,i'⟩:=a' h4 Y { σ with A:=eY.AE (eY.jh σ.A ses x.on) ses } U s4 (λi q=>eI.BR (σ:= { σ with A:=eY.jh σ.A ses x.on }) _ q);have st:=qG.trans Q;refine⟨_,_,_,_,_,rfl,Kc Q.fr d' bM,?_⟩;have b':=st.fr.get o nM;refine mK (z:=⟨id,0,0,0,0,P,(eY.AD (eY.jh σ.A ses x.on) ses).length,C⟩) b' cM rfl λh5 d5 f5=>mK (z:=⟨id,0,0,eY.G5 (eY.jh σ.A ses x.on) ses,0,P,(eY.AD (eY.jh σ.A ses x.on) ses).length,C⟩) d5 cM rfl λh6 d6 f6=> ?_
 subst J;have F:=f5.tt f6;have M: ∀y,n.M y\/n.D y->y≠bo:=λy l e=>by
  rcases l with a|a
  .rcases st.jl y a with a|a
   .exact nM (e▸a)
   .omega
  .rcases st.lB y a with a|a
   .exact L (.inr (e▸a))
   .omega
 refine hk h6 n (u.frame F (λy l e=>M y l e)) (iy.of st F ⟨_,d6,λ_=>⟨P,C,rfl,?_,λhd z t=> ?_⟩⟩)
 .have:=BV.ok.frame O F (λy l e=>M y (.inr (w y l)) e);exact this.row
 .have G:=w z (O.own hd z t);exact⟨(st.lB z G).symm,λr=>u.uy z r G⟩

end Ask
end
section
namespace Bn
open Cb
open jc (Ev cK ku)
variable {V:List UInt8→Bool} {h H h' g:ai} {R:fx} {D:Nat→Prop}
abbrev y9.s(r:y9):cd.S:=⟨r.rc,r.dl,r.de,r.reason,r.at',r.of.e.kH,r.of.e.node,r.of.e.gH,r.of.e.host,r.of.e.jD,r.of.tm,r.of.sq⟩
theorem Ke(r:y9)(hk: gW h R (.bool (hC r))):ar Tryz.prog 290 #[r.s.agg] h R:=by
 refine Cu.walk (cd.cT λb a E d f1=>⟨_,aw d,?_⟩);have rest:(r.rc||r.dl||r.de)=true->∃t15,aB a (AA b 3)=some (.U t15)/\if(decide (t15<=255))=true then∃t20,aB a (AA b 4)=some (.U t20)/\if(decide (t20<=1099511627776))=true then ah.cG a (AA b 5) λt25=>Cl 237 #[t25.agg] a λv f=> ∃t26,v=.bool t26/\R (.bool t26) f else R (.bool false) a else R (.bool false) a:=λi=>by
  refine⟨_,aw d,?_⟩;rw[show decide ((r.s.f3:Int)<=255)=decide (r.reason<=255)from kG r.reason 255];unfold hC at hk;rw[i]at hk;by_cases c1:r.reason<=255
  case neg=>rw[ag (cD c1)];rw[az c1]at hk;exact hk a f1
  rw[af (aq c1)];rw[aq c1]at hk;refine⟨_,aw d,?_⟩;rw[show decide ((r.s.f4:Int)<=1099511627776)=decide (r.at'<=1099511627776)from kG r.at' 1099511627776];by_cases c:r.at'<=1099511627776
  case neg=>rw[ag (cD c)];rw[az c]at hk;exact hk a f1
  rw[af (aq c)];rw[aq c]at hk;exact yF r.of d rfl rfl rfl rfl rfl rfl rfl (qA r.of λe f2=>⟨_,rfl,hk e (f1.tt f2)⟩)
 cases c1:r.rc with
 |true=>rw[af (show r.s.f0=true from c1)];exact rest (by rw[c1];rfl)
 |false=>
 rw[ag (show¬r.s.f0=true by rw[show r.s.f0=r.rc from rfl,c1];decide)];refine⟨_,aw d,?_⟩;cases c:r.dl with
 |true=>rw[af (show r.s.f1=true from c)];exact rest (by rw[c1,c];rfl)
 |false=>
 rw[ag (show¬r.s.f1=true by rw[show r.s.f1=r.dl from rfl,c];decide)];refine⟨_,aw d,?_⟩;cases C:r.de with
 |true=>rw[af (show r.s.f2=true from C)];exact rest (by rw[c1,c,C];rfl)
 |false=>
 rw[ag (show¬r.s.f2=true by rw[show r.s.f2=r.de from rfl,C];decide)];have:=hk a f1;unfold hC at this;rw[c1,c,C]at this;exact this
abbrev bo(l:List Bool):List Value:=l.map λb=> .bool b
theorem MT{p:cj}{n c:Nat}{l:List Bool}(row:Row h p (bo l))(hn:n=l.length)(hl:l.length<=100000)(hk: ∀h' z,re h' (λy=>h.size<=y) (Dr l) z->Fr No h h'->R z.s.agg h'):ar Tryz.prog 291 #[.slice p n c] h R:=by
 subst hn;refine Gz.walk (aa.cT λb f eb w f1=>jn (ts:= []) (ys:= []) (D:=λ_=>True) ⟨rfl,.inl rfl,λe=>absurd rfl e,aZ _⟩ .nil (by simp[da]) λX z T f2=>aa.ex z.s ⟨rfl,aa.gh (x:=z.s) λb1 Y d' B f4=> ?_⟩);have zb:=aF w;have z1:=f1.1;have z2:=f2.1;have z4:=f4.1;have f':=aF B;have F4:=f1.tt (f2.tt f4);have b':re Y (λy=>f.size<=y/\y≠b1) (qC []) z:=by
  obtain⟨⟨I,K,M,N⟩,zs,O,A,P,Q⟩:=T;refine⟨⟨I,K,M,((DR N).mono λy d=>ae).frame f4 (λ_ _=>id)⟩,zs,O,A.frame f4 (λ_ _=>id),λy d=>⟨P y d,cf (A.eg d)⟩,(cS.mono (λy d=>by have f:=d.1.1;have X:=d.2;exact⟨⟨f,ae⟩,d.1.2⟩) Q.lt).on f4⟩
 obtain⟨zs,ez,r⟩:=MD (g0:=f) b' B ((f2.tt f4).mono λ_ _=>False.elim);have s:z.k=4:=T.1.1;have u:z.n=0:=T.1.2.1;have E:z.v.b= []:=T.1.2.2.1;refine⟨λt g=> ∃(i:Nat)(ys:List CV)(q:cj)(cl:Nat),t=(i:Int)/\i<=l.length/\ys.length=i/\Lc f g b1 z.k z.n z.v ((l.take i).map λb=>num (if b=true then 1 else 0)) ys q cl,λt _=>l.length - t.toNat,⟨0,zs,z.q,z.cl,rfl,bP _,?_,by rw[dM];exact r⟩,?_⟩
 .have:=r.tr.len;exact this.symm
 rintro _ g ⟨i,ys,q,cl,rfl,hi,d,L⟩;by_cases m:i<l.length
 case neg=>
  rw[ag (λe=>m (cf (aQ e)))];rw[bG ae]at L;have a':z.v.ok g (λy=>f.size<=y/\y≠b1):=⟨by rw[E];exact Row.nil,λe=>absurd E e,T.1.2.2.2.cap⟩;have C:=ME (k':=z.n) L a';rw[s,u,E]at C;refine aa.fK (x:=CV.s ⟨z.k,z.n,z.v,q,ys.length,cl⟩) L.cR (fin (z:=⟨z.k,z.n,z.v,q,ys.length,cl⟩) (t:=Dr l) (D:=λy=>f.size<=y/\y≠b1) (L.fr.get w ae) (by rw[s,u];exact C) (λy d e=>ae) λG tg W=>hk G _ (tg.mono λy d=>ae) ((f1.fresh L.fr (λy e=>ae)).fresh W (λy e=>ae)))
 rw[fO];have F:Fr No h g:=f1.fresh L.fr (λy e=>ae);obtain⟨a,rfl⟩:=row.some (by intro e;have:=bY List.length e;rw[aJ,bt]at this;omega);have hc:aB g (a.add (i*1))=some (.bool l[i]):=by
  have:=(row.frame F (λ_ _=>id)).cell (j:=i) (v:=.bool l[i]) (by rw[aM,aj m];rfl);rw[cr];exact this
 refine⟨⟨ae,ae⟩,bZ.2 ⟨a,rfl,_,hc,aK.of λJ Z=> ?_⟩⟩;have go: ∀k:Nat,k=(if l[i]=true then 1 else 0)->J (k:Int) g:=by
  intro k U;subst Z;dsimp only;refine⟨_,_,_,aw L.cR,fM λh6 f6=>aa.ex (nv k).s ⟨rfl,f6.kp,?_⟩⟩;refine MF (L.on f6) ae (QX (n:=k)).Rp λG c' q' S o e' _ _=> ?_
  rw[bz (n:=(i:Int)+1) ae ae];refine⟨⟨i+1,c',q',S,ae,ae,ae,?_⟩,by show l.length - Int.toNat ((i:Int)+1)<l.length - Int.toNat (i:Int);omega⟩;rw[bL,aj m,bf];rw[U]at o;exact o
 cases c:l[i]with
 |true=>rw[af rfl];exact go 1 (by rw[c];rfl)
 |false=>rw[cW];exact go 0 (by rw[c];rfl)
theorem Kf{r:y9}(a:hC r=true):room (BE r)<=1000:=by
 unfold hC at a;simp only[aT,aY]at a;have:=Ec r.of a.2;simp only[BE,Dr,room,da,bt,bV,List.map_nil];omega
theorem OK(r:y9)(w:0<=r.of.e.gH)(U:lW V H)(u:Fr No H h)(k1: ∀bs,I3 V r=some bs->bs.length<=1000->∀h' p c,fy h' p bs.length c 1 (bc bs)->(∀y,aP p y->h.size<=y)->Fr No h h'->R (.tuple #[.slice p bs.length c,.I 0]) h')(M:I3 V r=none->gW h R (.tuple #[.Z,.I 3])):ar Tryz.prog 249 #[r.s.agg] h R:=by
 refine Cv.walk (cd.cT λb h1 eb I f1=>yF r.of I rfl rfl rfl rfl rfl rfl rfl (HO r.of w λh2 z qz z0 z1 f2=>aa.ex z.s ⟨_,rfl,aa.gh (x:=z.s) λb1 h4 p' i' f4=>aK.of λJ A=> ?_⟩));have L:=(f2.tt f4).get I id;have q:=f1.tt (f2.tt f4);have bad: ∀g,Fr No h g->¬(hC r=true)->J true g:=λg f hn=>by
  subst A;dsimp only;rw[af rfl];exact M (by unfold I3;rw[ag (λe=>hn e.1)]) g f
 by_cases d:qz=0
 case neg=>
  rw[af (cD d)];exact bad h4 q (λe=>d (z1.2 (by unfold hC at e;simp only[aT]at e;exact e.2)))
 rw[ag (cD d)];have tz:=z0 d;refine cd.fK L (Ke r λv f5=>⟨_,rfl,?_⟩);have s:=q.tt f5;cases l:hC r with
 |false=>exact bad v s (by rw[l];decide)
 |true=>
 clear bad;subst A;dsimp only;rw[cW];have a:=f5.get L id;have rm:=Kf l;refine⟨_,aw a,_,aw a,_,aw a,_,aw a,_,aw a,aa.fK (f5.get i' id) ?_⟩;have rest: ∀g y,D9 g (Dr [r.rc,r.dl,r.de]) y->Fr No v g->∀{kl N kl2:List (cj)},Cl 205 #[.U (r.reason:Int)] g λk' k=>aa.EX λt30=>k'=t30.agg/\Kp g k kl/\Cl 205 #[.U (r.at':Int)] k λl' C=>aa.EX λt33=>l'=t33.agg/\Kp k C N/\
   aS C (.cells (y.s.l++t30.l++t33.l++z.s.l).toArray 262) λY c'=>Cl 247 #[.slice (some (AA Y 0)) 4 4] c' λm' d'=>aa.EX λt36=>m'=t36.agg/\
   aS d' (.cells ((nv 1).s.l++t36.l).toArray 262) λZ e'=>Cl 247 #[.slice (some (AA Z 0)) 2 2] e' λn' f'=>aa.EX λt38=>n'=t38.agg/\Cl 178 #[t38.agg] f' λo' g'=>
   ∃P O T Q,o'=.tuple #[.slice P O T,.I Q]/\R (.tuple #[.slice P O T,.I Q]) g':=by
  intro g y ty f kl N kl2;refine fM λh9 f9=>aa.ex (nv r.reason).s ⟨rfl,f9.kp,fM λa' f10=>aa.ex (nv r.at').s ⟨rfl,f10.kp,?_⟩⟩
  have G:=f.tt (f9.tt f10);have W:zR a' [Dr [r.rc,r.dl,r.de],num r.reason,num r.at',KZ r.of] [y,nv r.reason,nv r.at',z]:=.cons (ty.on (f9.tt f10)) (.cons lT (.cons lT (.cons (tz.on (f4.tt (f5.tt G))) .nil)));have e2:room (BE r)=27+da [Dr [r.rc,r.dl,r.de],num r.reason,num r.at',KZ r.of]:=by simp only[BE,room,da,bt];omega
  refine ou W ae rfl rfl λb' w tw f12=>aa.ex w.s ⟨rfl,?_⟩
  have S:zR b' [num 1,qC [Dr [r.rc,r.dl,r.de],num r.reason,num r.at',KZ r.of]] [nv 1,w]:=two lT tw.u;refine ou S (by simp only[da,room,bt]at e2⊢;omega) rfl rfl λq' w2 j' f14=>aa.ex w2.s ⟨rfl,?_⟩
  have F:=s.tt (G.tt (f12.tt f14));refine vi U (u.tt F) j'.Rp (t:=BE r) ae (λe i p c o n f15=>⟨_,_,_,_,rfl,?_⟩) (λe i f15=>⟨_,_,_,_,rfl,?_⟩)
  .have:=F.1;exact k1 (enc (BE r)) (by unfold I3;rw[af ⟨l,e⟩]) (cf (jr (BE r))) i p c o (λy hy=>cf (n y hy)) (F.tt f15)
  .exact M (by unfold I3;rw[ag (λE=>by rw[e]at E;cases E.2)]) i (F.tt f15)
 have B: ∀{g}{K:Nat->ai->Prop},(∀b h',Row h' (some (AA b 0)) (bo [r.rc,r.dl,r.de])->Fr No g h'->K b h')->aS g (.cells #[.bool r.s.f0,.bool r.s.f1,.bool r.s.f2] 4) K:=λhk=>cC (hk _ _ jq (Fr.push _ _))
 refine⟨?_,?_,trivial⟩
 .refine fM (n:=1) λh6 f6=>aa.ex (nv 1).s ⟨rfl,f6.kp,B λX h7 m f7=>⟨f7.kp,MT m rfl (by show 3<=_;omega) λj y ty f8=>aa.ex y.s ⟨rfl,f8.kp,rest j y ty.u (f6.tt (f7.tt f8)) (kl2:= [])⟩⟩⟩
 .refine B λX h7 m f7=>⟨f7.kp,fM (n:=1) λh6 f6=>aa.ex (nv 1).s ⟨rfl,f6.kp,MT (m.frame f6 (λ_ _=>id)) rfl (by show 3<=_;omega) λj y ty f8=>aa.ex y.s ⟨rfl,f8.kp,rest j y ty.u (f7.tt (f6.tt f8)) (kl2:= [])⟩⟩⟩
theorem Kg(r:y9)(dest:Ev)(id:iz)(eH:Nat)(a':0<=r.of.e.gH)(w1:0<=dest.gH)(w2:0<=id.e.gH)(U:lW V H)(u:Fr No H h)(mx:tR.Mx h)(Z: ∀b,kA V r dest id eH=some b->b.bl.length=1->b.p.wf->(∀m∈b.bl,m.data.length<=1000)->∀h' q cl xs,ji h' (λy=>h.size<=y) b.bl q b.bl.length cl xs->Fr No h h'->R (.tuple #[(b.s q cl).agg,.I 0]) h')(M:kA V r dest id eH=none->gW h R (.tuple #[av.S.z.agg,.I 3])):ar Tryz.prog 197 #[r.s.agg,dest.s.agg,id.s.agg,.U (eH:Int)] h R:=by
 refine zX.walk (cd.cT λb h1 eb T f1=>ax.cT λb1 h2 b' W f2=>ah.cT λb2 h3 c' X f3=>av.cT λb3 C d' t f4=>cd.fK ((f2.tt (f3.tt f4)).get T _root_.id) ?_);have F:=f1.tt (f2.tt (f3.tt f4));have z4:=F.1;have z1:=f1.1;have z3:=(f1.tt (f2.tt f3)).1;have i':=aF t;refine OK r a' U (u.tt F) (λbs v lb E p c o n f5=>⟨_,_,_,_,rfl,?_⟩) (λv E f5=>⟨_,_,_,_,rfl,?_⟩)
 case refine_2=>
  rw[fO];exact yV (f5.get t _root_.id) λg f=>M (by unfold kA;rw[v]) g ((F.tt f5).fresh f (λy e=>ae))
 rw[cW];have l:=F.tt f5;have z5:=f5.1;refine ax.fK (x:=dest.s) ((f3.tt (f4.tt f5)).get W _root_.id) (ah.fK (x:=id.s) ((f4.tt f5).get X _root_.id) (aG.cT (x:=qH.s ⟨1,1,0,0,bs⟩ p c) λd h7 e' J f7=>av.cT λA Q f' K f8=> ?_));have k:kA V r dest id eH=if(kj V ⟨⟨2,0,dest,.zero,id,eH⟩, [⟨1,1,0,0,bs⟩]⟩).isSome=true then some ⟨⟨2,0,dest,.zero,id,eH⟩, [⟨1,1,0,0,bs⟩]⟩else none:=by unfold kA;rw[v]
 generalize s:(⟨⟨2,0,dest,.zero,id,eH⟩, [⟨1,1,0,0,bs⟩]⟩:qm)=B at k;have e1:B.bl= [⟨1,1,0,0,bs⟩]:=by rw[<-s]
 have ep:B.p.wf:=by rw[<-s];exact⟨w1,dW 0,w2⟩
 have j':=aF J;have k':=aF K;have z7:=f7.1;have z8:=f8.1;have N:ji Q (λy=>C.size<=y/\y≠A) B.bl (some (AA d 0)) B.bl.length 1 [⟨⟨1,1,0,0,bs⟩,p,c⟩]:=by
  rw[e1];refine⟨rfl,rfl,.inr ⟨_,rfl,aG.yA (x:=qH.s ⟨1,1,0,0,bs⟩ p c) (f8.get J _root_.id)⟩,λ_ y ⟨a,e,O⟩=>by cases e;rw[<-O];exact⟨by show C.size<=d;omega,by show d≠A;omega⟩,aZ _,λx Y=> ?_⟩;rw[bH.1 Y];exact BV.lC ((o.frame f7 (λ_ _=>_root_.id)).frame f8 (λ_ _=>_root_.id)) (λy i=>⟨n y i,cf (o.eg i)⟩)
 have P:(B.s (some (AA d 0)) 1)=(⟨2,0,dest.s.f0,dest.s.f1,dest.s.f2,dest.s.f3,dest.s.f4,false,0,0,⟨#[]⟩,⟨#[]⟩,id.s.f0,id.s.f1,id.s.f2,id.s.f3,id.s.f4,id.s.f5,id.s.f6,eH,(some (AA d 0)),1,1⟩:av.S):=by rw[<-s];rfl
 rw[<-P];refine av.gO (x:=B.s (some (AA d 0)) 1) K λS d9 f9 _=>av.fK d9 ?_
 have G:Fr No E S:=(f7.tt f8).fresh f9 (λy e=>ae);have w:=N.frame f9 (λy i e=>i.2 e);refine Ba ep U (u.tt (l.tt G)) (mx.on (l.tt G)) w (by rw[e1];simp) (λm j=>by rw[e1]at j;rw[bH.1 j];show bs.length<=_;omega) λg' f10=>⟨_,rfl,?_⟩
 have I:=(f5.tt (G.tt f10)).get t _root_.id;have z:=l.tt (G.tt f10);cases L:(kj V B).isSome with
 |false=>
  rw[fO];exact yV I λg f=>M (by rw[k,L];rfl) g (z.fresh f (λy e=>ae))
 |true=>
  rw[cW];rw[L,af rfl]at k;refine av.fK (f10.get d9 _root_.id) (yV I λg f=>Z B k (by rw[e1];rfl) ep (λm j=>by rw[e1]at j;rw[bH.1 j];exact lb) g _ 1 [⟨⟨1,1,0,0,bs⟩,p,c⟩] ?_ (z.fresh f (λy e=>ae)));exact((w.on f10).frame f (λy i e=>ae)).mono λy i=>ae

end Bn
end
section
namespace Ask
open jc (Ev cK)
open eI (SS Good Pt uW Mk)
open Bn (iz gx ic yF Cf qm Prim qH y9 ji BB kj sJ wk kA)
variable {V:List UInt8→Bool} {h h' j g:ai} {R:fx} {s k c:Nat} {X i:Ft} {I:uW} {σ:SS} {p:cj} {ses:Int} {x:Rq} {D:Nat→Prop}
variable {K:av.S->Int->ai->Prop} {d:List UInt8} {q:cj} {C:Nat}
def NX(σ:SS)(a b:iz)(e:Int):Prop:=(e=0/\∃n,nm σ=some n/\a=⟨σ.e,n.1,n.2⟩/\b=⟨σ.e,n.1,n.2⟩)\/(e=5/\nm σ=none)
theorem Ew(H:Pt g s X I σ){K:ah.S->ai->Prop}(a: ∀G,Fr No g G->K (⟨σ.e,σ.tm,σ.sq⟩:iz).s G):ar Tryz.prog 74 #[pt I.k] g λv G=>ah.EX λt=>v=t.agg/\K t G:=
 eI.Hj (Pt.mk' H) λG f=>ah.ex (⟨σ.e,σ.tm,σ.sq⟩:iz).s ⟨rfl,a G f⟩
theorem qa(H:Pt g s X I σ)(G:eI.Good σ k){K:ah.S->ah.S->Int->ai->Prop}(l: ∀a m o e,NX σ m o e->Fr No g a->K m.s o.s e a):
  ar Tryz.prog 150 #[pt s,σ.e.s.agg] g λv a=>ah.EX λt1=>ah.EX λt2=> ∃e,v=.tuple #[t1.agg,t2.agg,.I e]/\K t1 t2 e a:=
 sW H G σ.e (λn b a f=>ah.ex (⟨σ.e,n.1,n.2⟩:iz).s (ah.ex (⟨σ.e,n.1,n.2⟩:iz).s ⟨_,rfl,l a _ _ 0 (.inl ⟨rfl,n,b,rfl,rfl⟩) f⟩)) (λb a f=>ah.ex (⟨σ.e,0,0⟩:iz).s (ah.ex iz.zero.s ⟨_,rfl,l a _ _ 5 (.inr ⟨rfl,b⟩) f⟩))
theorem SY(E:En V j g s X I σ k)(P:Prim)(n:Nat×Nat)(w:P.wf)(H: ∀G (b:qm) q cl xs e,((e=0/\kA V ⟨false,true,false,0,σ.now,P.id⟩ P.rep ⟨σ.e,n.1,n.2⟩ P.eH=some b/\b.p.wf/\b.bl.length=1/\(∀y∈b.bl,y.data.length<=80000)/\ji G (λy=>g.size<=y) b.bl q b.bl.length cl xs)\/(e=3/\kA V ⟨false,true,false,0,σ.now,P.id⟩ P.rep ⟨σ.e,n.1,n.2⟩ P.eH=none))->Fr No g G->K (b.s q cl) e G):
  ar Tryz.prog 197 #[(⟨false,true,false,0,σ.now,P.id⟩:y9).s.agg,P.rep.s.agg,(⟨σ.e,n.1,n.2⟩:iz).s.agg,.U (P.eH:Int)] g λv G=>av.EX λt=> ∃e,v=.tuple #[t.agg,.I e]/\K t e G:=
 Bn.Kg ⟨false,true,false,0,σ.now,P.id⟩ P.rep ⟨σ.e,n.1,n.2⟩ P.eH w.2.2 w.2.1 E.G.e.2.2 E.U E.u.fr E.UQ
  (λb a l W hd G q cl xs B f=>av.ex (b.s q cl) ⟨_,rfl,H G b q cl xs 0 (.inl ⟨rfl,a,W,l,(λy o=>cf (hd y o)),B⟩) f⟩)
  (λm G f=>av.ex (qm.s ⟨.zero, []⟩ none 0) ⟨_,rfl,H G ⟨.zero, []⟩ none 0 [] 3 (.inr ⟨rfl,m⟩) f⟩)
theorem SZ(E:En V j g s X I σ k)(row:Row g q (bc d))(cap:d.length<=C)(a: ∀G (b:qm) Q cl e,b.p.wf->(vY b.p=false->iZ V σ ses d=(σ,0))->(vY b.p=true->sJ V d=.ok b)->Fr No g G->K (b.s Q cl) e G):
  ar Tryz.prog 158 #[.slice q d.length C] g λv G=>av.EX λt=> ∃e,v=.tuple #[t.agg,.I e]/\K t e G:=
 Bn.Ir E.U E.u.fr E.UQ row rfl cap
  (λb l w hd n G Q cl xs B f=>av.ex (b.s Q cl) ⟨_,rfl,a G b Q cl 0 w (λH=>by unfold iZ;rw[l];dsimp only;rw[ag (by rw[H];decide)]) (λ_=>l) f⟩)
  (λe m o G f=>av.ex (qm.s ⟨.zero, []⟩ none 0) ⟨_,rfl,a G ⟨.zero, []⟩ none 0 e ⟨dW 0,dW 0,dW 0⟩ (λ_=>by unfold iZ;rw[m]) (λH=>absurd H (by rw[show vY Prim.zero=false by kernel_rfl];decide)) f⟩)
theorem OL{l:Nat}(E:En V j h s X I σ k)(row:Row h q (bc d))(hl:l=d.length)(cap:d.length<=C)(hk: ∀h' i,Pt h' s i I (iZ V σ ses d).1->bC X h i h'->R (.I (iZ V σ ses d).2) h'):
  ar Tryz.prog 164 #[(x.as p c s ses).agg,.slice q l C] h R:=by
 subst hl;refine yK.walk (bW.cT (x:=x.as p c s ses) λb h1 eb n' f1=> ?_);refine SZ (ses:=ses) (E.on f1) (row.frame f1 (λ_ _=>id)) cap λh2 H q' cl e0 i' r' s' f2=>av.gh (x:=H.s q' cl) λb3 h4 t' o' f4=>Bn.Vk o' (aD.gh (x:=H.p.s) λb4 Y u' b' f6=>aK.of λj' hJ=> ?_)
 have F6:=f1.tt (f2.tt (f4.tt f6));have F:=E.on F6;have a':=(f2.tt (f4.tt f6)).get n' id;have dn: ∀g,Fr No h g->iZ V σ ses d=(σ,0)->R (.I 0) g:=λg P e=>by rw[e]at hk;exact hk g X (E.H.on P) (bC.hM P)
 have key: ∀v,v= !vY H.p->j' v Y:=by
  intro v hv;subst hv;subst hJ;dsimp only;cases ht:vY H.p with
  |false=>rw[fO];exact dn Y F6 (r' ht)
  |true=>
  rw[cW];have d':=s' ht;refine aK.of λJ1 l'=> ?_
  have k': ∀(g:ai)(L M:Nat)(o r:iz)(e:Int),NX σ o r e->ah.fN g L o.s->ah.fN g M r.s->Fr No Y g->J1 (some (AA L 0)) (some (AA M 0)) e g:=by
   intro g L M o r e N hi hw P;subst l';dsimp only;rcases N with⟨rfl,n,hn,rfl,rfl⟩|⟨rfl,hn⟩
   case inr=>
    rw[fO];exact dn g (F6.tt P) (by unfold iZ;rw[d'];dsimp only;rw[af ht,hn])
   rw[cW];have Eg:=F.on P;have f':=P.get a' id;have c':=P.get b' id;refine aK.of λJ2 m'=> ?_
   have e': ∀(W:ai)(m:qm)(q:cj)(cl:Nat)(xs:List BB)(D:Nat->Prop)(S:Nat)(e:Int),((e=0/\kA V ⟨false,true,false,0,σ.now,H.p.id⟩ H.p.rep ⟨σ.e,n.1,n.2⟩ H.p.eH=some m/\m.p.wf/\m.bl.length=1/\(∀y∈m.bl,y.data.length<=80000)/\ji W D m.bl q m.bl.length cl xs)\/(e=3/\kA V ⟨false,true,false,0,σ.now,H.p.id⟩ H.p.rep ⟨σ.e,n.1,n.2⟩ H.p.eH=none))->
     av.fN W S (m.s q cl)->Fr No g W->J2 e (some (AA S 0)) W:=by
    intro W m q cl xs D S e sp Z f5;subst m';dsimp only;rcases sp with⟨rfl,hs,wb,hl,hd,B⟩|⟨rfl,hs⟩
    case inr=>
     rw[fO];exact dn W (F6.tt (P.tt f5)) (by unfold iZ;rw[d'];dsimp only;rw[af ht,hn];dsimp only;rw[hs])
    rw[cW];refine bW.fK (x:=x.as p c s ses) (f5.get f' id) (ay.2 (av.fK (x:=m.s q cl) Z (ay.2 (ah.fK (x:=(⟨σ.e,n.1,n.2⟩:iz).s) (f5.get hw id) (Iq (b:=m) (x:=x) (p:=p) (c:=c) (ses:=ses) (Eg.on f5) wb B ae hd hn λh9 X9 H9 p'=>⟨_,_,_,rfl,?_⟩)))));have eQ:iZ V σ ses d=((kC V σ ses m n).σ,if(kC V σ ses m n).e=0 then 1 else 0):=by unfold iZ;rw[d'];dsimp only;rw[af ht,hn];dsimp only;rw[hs]
    rw[eQ]at hk;have hk:=hk h9 X9 H9 (bC.no (F6.tt (P.tt f5)) p');by_cases c0:(kC V σ ses m n).e=0
    .rw[ag (cD c0)];rw[af c0]at hk;exact hk
    .rw[af (cD c0)];rw[ag c0]at hk;exact hk
   refine⟨_,aw f',ay.2 ⟨_,aw Eg.H.cR,yF H.p.id c' rfl rfl rfl rfl rfl rfl rfl (ic H.p.rep c' rfl rfl rfl rfl rfl (ay.2 (ah.fK (x:=(⟨σ.e,n.1,n.2⟩:iz).s) hi ⟨_,aw c',?_,?_,trivial⟩)))⟩⟩
   .refine SY Eg H.p n i' λG m q cl xs e sp u2=>⟨u2.kp,av.cT λS Q er Z U=>⟨U.kp,av.gO (x:=m.s q cl) Z λA d4 u _=> ?_⟩⟩
    have U4:Fr No G A:=U.fresh u (λy e=>ae);refine e' A m q cl xs (λy=>g.size<=y) S e ?_ d4 (u2.tt U4);rcases sp with⟨a1,a2,a3,a4,a5,a6⟩|a
    .exact .inl ⟨a1,a2,a3,a4,a5,a6.on U4⟩
    .exact .inr a
   .refine av.cT λS Q er Z U=>⟨U.kp,SY (Eg.on U) H.p n i' λG m q cl xs e sp u2=>⟨u2.kp,av.gO (x:=m.s q cl) (u2.get Z id) λA d4 u _=> ?_⟩⟩
    have zr:=aF Z;have U4:Fr No g A:=(U.tt u2).fresh u (λy e=>ae);refine e' A m q cl xs (λy=>Q.size<=y) S e ?_ d4 U4;rcases sp with⟨a1,a2,a3,a4,a5,a6⟩|a
    .exact .inl ⟨a1,a2,a3,a4,a5,a6.frame u (λy hy e=>ae)⟩
    .exact .inr a
  have J: ∀(g:ai)(L M:Nat)(y1 y2:ah.S)(o r:iz)(e:Int),NX σ o r e->ah.fN g L y1->ah.fN g M y2->L≠M->Y.size<=L->Y.size<=M->Fr No Y g->
    ah.cY g (AA L 0) o.s λT=>ah.cY T (AA M 0) r.s λG=>J1 (some (AA L 0)) (some (AA M 0)) e G:=by
   intro g L M y1 y2 o r e N hi hw ne zi zw P;exact ah.gO (x:=o.s) hi λT d1 u1 _=>ah.gO (x:=r.s) (u1.get hw ne.symm) λG d2 u2 _=>k' G L M o r e N (u2.get d1 ne) d2 ((P.fresh u1 (λy e=>ae)).fresh u2 (λy e=>ae))
  have lt: ∀{g:ai}{b:Nat}{y:ah.S},ah.fN g b y->b<g.size:=λh=>aF h
  have le: ∀{g g':ai},Fr No g g'->g.size<=g'.size:=λf=>f.1
  refine⟨_,aw a',_,aw a',ay.2 ⟨_,aw F.H.cR,?_,?_,?_,trivial⟩⟩
  .refine Ew F.H λT u1=>⟨u1.kp,?_,?_,?_,trivial⟩
   .refine qa (F.H.on u1) E.G λG o r e N u2=>⟨u2.kp,?_,?_,trivial⟩
    .exact ah.cT λm Q e5 t U=>⟨U.kp,ah.cT λw A O z u=>⟨u.kp,J A m w _ _ o r e N (u.get t id) z (cf (lt t)) (ig (le u1) (le u2)) (rh (le u1) (le u2) (le U)) (u1.tt (u2.tt (U.tt u)))⟩⟩
    .exact ah.cT λm Q e5 t U=>⟨U.kp,ah.cT λw A O z u=>⟨u.kp,J A w m _ _ o r e N z (u.get t id) (cf (lt t)) (rh (le u1) (le u2) (le U)) (ig (le u1) (le u2)) (u1.tt (u2.tt (U.tt u)))⟩⟩
   .refine ah.cT λm Q e5 t U=>⟨U.kp,?_,?_,trivial⟩
    .exact qa (F.H.on (u1.tt U)) E.G λG o r e N u2=>⟨u2.kp,ah.cT λw A O z u=>⟨u.kp,J A m w _ _ o r e N ((u2.tt u).get t id) z (ig (lt t) (le u2)) (cf (le u1)) (rh (le u1) (le u2) (le U)) (u1.tt (U.tt (u2.tt u)))⟩⟩
    .exact ah.cT λw A O z u=>⟨u.kp,qa (F.H.on (u1.tt (U.tt u))) E.G λG o r e N u2=>⟨u2.kp,J G m w _ _ o r e N ((u.tt u2).get t id) (u2.get z id) (cf (lt t)) (cf (le u1)) (ig (le u1) (le U)) (u1.tt (U.tt (u.tt u2)))⟩⟩
   .refine ah.cT λm Q e5 t U=>⟨U.kp,?_,?_,trivial⟩
    .exact qa (F.H.on (u1.tt U)) E.G λG o r e N u2=>⟨u2.kp,ah.cT λw A O z u=>⟨u.kp,J A w m _ _ o r e N z ((u2.tt u).get t id) (ig (lt t) (le u2)) (rh (le u1) (le u2) (le U)) (cf (le u1)) (u1.tt (U.tt (u2.tt u)))⟩⟩
    .exact ah.cT λw A O z u=>⟨u.kp,qa (F.H.on (u1.tt (U.tt u))) E.G λG o r e N u2=>⟨u2.kp,J G w m _ _ o r e N (u2.get z id) ((u.tt u2).get t id) (cf (lt t)) (ig (le u1) (le U)) (cf (le u1)) (u1.tt (U.tt (u.tt u2)))⟩⟩
  .refine ah.cT λm Q e5 t U=>⟨U.kp,?_,?_,trivial⟩
   .refine Ew (F.H.on U) λT u1=>⟨u1.kp,?_,?_,trivial⟩
    .exact qa (F.H.on (U.tt u1)) E.G λG o r e N u2=>⟨u2.kp,ah.cT λw A O z u=>⟨u.kp,J A m w _ _ o r e N ((u1.tt (u2.tt u)).get t id) z (rh (lt t) (le u1) (le u2)) ae (rh (le u1) (le u2) (le U)) (U.tt (u1.tt (u2.tt u)))⟩⟩
    .exact ah.cT λw A O z u=>⟨u.kp,qa (F.H.on (U.tt (u1.tt u))) E.G λG o r e N u2=>⟨u2.kp,J G m w _ _ o r e N ((u1.tt (u.tt u2)).get t id) (u2.get z id) (ig (lt t) (le u1)) ae (ig (le u1) (le U)) (U.tt (u1.tt (u.tt u2)))⟩⟩
   .exact ah.cT λw A O z u=>⟨u.kp,Ew (F.H.on (U.tt u)) λT u1=>⟨u1.kp,qa (F.H.on (U.tt (u.tt u1))) E.G λG o r e N u2=>⟨u2.kp,J G m w _ _ o r e N ((u.tt (u1.tt u2)).get t id) ((u1.tt u2).get z id) (cf (lt t)) ae (cf (le U)) (U.tt (u.tt (u1.tt u2)))⟩⟩⟩
  .refine ah.cT λm Q e5 t U=>⟨U.kp,?_,?_,trivial⟩
   .refine Ew (F.H.on U) λT u1=>⟨u1.kp,?_,?_,trivial⟩
    .exact qa (F.H.on (U.tt u1)) E.G λG o r e N u2=>⟨u2.kp,ah.cT λw A O z u=>⟨u.kp,J A w m _ _ o r e N z ((u1.tt (u2.tt u)).get t id) (rh (lt t) (le u1) (le u2)) (rh (le u1) (le u2) (le U)) ae (U.tt (u1.tt (u2.tt u)))⟩⟩
    .exact ah.cT λw A O z u=>⟨u.kp,qa (F.H.on (U.tt (u1.tt u))) E.G λG o r e N u2=>⟨u2.kp,J G w m _ _ o r e N (u2.get z id) ((u1.tt (u.tt u2)).get t id) (ig (lt t) (le u1)) (ig (le u1) (le U)) ae (U.tt (u1.tt (u.tt u2)))⟩⟩
   .exact ah.cT λw A O z u=>⟨u.kp,Ew (F.H.on (U.tt u)) λT u1=>⟨u1.kp,qa (F.H.on (U.tt (u.tt u1))) E.G λG o r e N u2=>⟨u2.kp,J G w m _ _ o r e N ((u1.tt u2).get z id) ((u.tt (u1.tt u2)).get t id) (cf (lt t)) (cf (le U)) ae (U.tt (u.tt (u1.tt u2)))⟩⟩⟩
 refine⟨_,aw b',?_⟩;split
 .rename_i c0;exact key true (by have:LR (H.p.fl:Int) 131072=true:=c0;unfold vY;rw[this];rfl)
 .rename_i c0;refine⟨_,aw b',key _ ?_⟩;have:LR (H.p.fl:Int) 131072=false:=by
   cases hh:LR (H.p.fl:Int) 131072 with
   |true=>exact absurd hh c0
   |false=>rfl
  unfold vY;rw[this];rfl

end Ask
end
section
namespace Ask
open jc (Ev cK)
open eI (SS Good Pt uW Mk)
open eZ (CV BU gu)
variable {V:List UInt8→Bool} {h h' H g:ai} {R:fx} {s k bo r c:Nat} {X l:Ft} {I:uW} {σ:SS} {p:cj} {ses:Int} {x:Rq} {D:Nat→Prop} {o:Ot}
variable {ys:List CV}
theorem pE{b n m:Nat}{q:cj}(o:fy h q ys.length m 10 (ys.flatMap BU))(B:n=ys.length)(C:ys.length<=1000000)(w:bW.fN h b (x.as p c s ses)) (hk: ∀h',Fr No h h'->R (.I (idxOf (λy:CV=>decide ((y.num:Int)=x.num)) ys)) h'):
  ar Tryz.prog 162 #[.slice q n m,.func (.func 163) #[] #[.P b 0]] h R:=by
 refine iw.TL.walk (Ek (λy:CV=>decide ((y.num:Int)=x.num)) (λt g K=>((0:Int)<=t/\t<(n:Int))/\aO q λa=>aL.cG g (a.add (Int.toNat t*10)) λt15=>
  Cl 163 #[t15.agg,.P b 0] g λv G=> ∃t,v=.bool t/\K t G) B ae (λj g0 y K i f u=> ?_) hk)
 have lt:=(aC.1 i).1;have o1:=o.frame f (λ_ _=>id);obtain⟨P,F,rfl⟩:=o1.addr ae;have A:=o1.gv gu i;refine⟨⟨ae,ae⟩,ay.2 (aL.mI (x:=⟨(y.num:Int),y.e.kH,y.e.node,y.e.gH,y.e.host,y.e.jD,y.v.p,y.v.b.length,y.v.c,(y.bX:Int),y.ses,(y.dl:Int)⟩) (by rw[aI];exact A) (wM.walk (aL.cT λb1 d E z f1=>⟨_,aw z,_,aw ((f.tt f1).get w id),_,rfl,?_⟩)))⟩;have e:((y.num:Int)==x.num)=decide ((y.num:Int)=x.num):=by by_cases q:(y.num:Int)=x.num<;>simp[q]
 show K ((y.num:Int)==x.num) d;rw[e];exact u d (f.tt f1)
theorem MU{num:Int}{z:eZ.Cp}(h:eZ.uT (ys.map CV.abs) num=some z): ∃(i:Nat)(y:CV),idxOf (λy:CV=>decide ((y.num:Int)=num)) ys=(i:Int)/\ys[i]? =some y/\y.abs=z:=by
 unfold eZ.uT at h;rw[List.find?_map]at h;obtain⟨y,a,rfl⟩:=Option.map_eq_some_iff.1 h;have a:ys.find? (λy:CV=>decide ((y.num:Int)=num))=some y:=a;obtain⟨d,i,b,rfl,e⟩:=List.find?_eq_some_iff_getElem.1 a;refine⟨i,ys[i],?_,aj b,rfl⟩;have:ys.findIdx? (λy:CV=>decide ((y.num:Int)=num))=some i:=cv.2 ⟨b,d,λj f=>cD (e j f)⟩;unfold idxOf;rw[this]
theorem FJ(E:En V H h s X I σ k)(c':k+1<=30000)(F:ak.fN h bo (y0 r))(T: ¬(X.M bo\/X.D bo))(hk: ∀h' l,Pt h' s l I (zK V σ ses x.num).σ->iy X h bo r (zK V σ ses x.num) l h'->R (.I (zK V σ ses x.num).e) h'):
  ar Tryz.prog 106 #[(x.as p c s ses).agg,.P bo 0] h R:=by
 refine zT.walk (bW.cT (x:=x.as p c s ses) λb h1 eb O f1=> ?_);have E1:=E.on f1;have nM: ¬X.M bo:=λe=>T (.inl e)
 have zo:=aF F;have U: ¬X.M b:=E.nM ae;obtain⟨Z,n,zm,zd,go⟩:=E1.H.use 2;have sm:=E.G.small E.H.ord (cf E.hk);have z1:=f1.1;refine⟨_,aw O,ay.2 ⟨_,aw E1.H.cR,eZ.Hf n sm (λz n=>(E.G.c.ok.bd z n).2.2) λh2 q2 K ys o2 J r2 n2 f2=>⟨_,_,_,rfl,?_⟩⟩⟩;have E2:=E1.on f2;have q:=f2.get O id;obtain⟨Z,n,zm,zd,go⟩:=E2.H.use 2;have N:=E.G.c;refine⟨_,aw q,ay.2 ⟨_,aw E2.H.cR,_,aw q,_,aw q,eZ.FJ n sm (ig N.L E.hk) x.num ses λh3 Z3 C3 s3=> ?_⟩⟩;obtain⟨G,H3,S,g',i'⟩:=go h3 Z3 { σ with C:=eZ.kR σ.C x.num ses } C3 s3 (λi Q=>eI.uX _ Q);refine⟨_,rfl,Kc S.fr U bM,?_⟩;have new: ∀y,h1.size<=y->¬X.M y:=λy j=>E.nM ae
 have W:=o2.frame S.fr (λy j=>new y (n2 y j));have P:=S.fr.get q U;have F2:=f1.tt f2;have ll:ys.length<=30000:=by
  have e1:=bY List.length J;rw[aJ]at e1;have e2:=N.L;have L:=E.hk;omega
 refine pE W rfl ae P λM f4=>⟨_,rfl,?_⟩
 have st:=(bC.no F2 S).on f4;have u:=H3.on f4;refine aK.of λf' A=> ?_
 unfold zK at hk;by_cases f:eZ.iP σ.C.L x.num ses=0
 case neg=>
  rw[ag f]at hk;rw[ag (cD f)];subst A;dsimp only;refine aK.of λJ1 B=> ?_
  rw[cW];subst B;have eC:eZ.kR σ.C x.num ses=σ.C:=by unfold eZ.kR;rw[ag f]
  rw[eC]at u;exact hk M G u (iy.bad F nM st)
 rw[af f]at hk;rw[af (by rw[f];rfl)];cases m:eZ.uT σ.C.L x.num with
 |none=>unfold eZ.iP at f;rw[m]at f;cases f
 |some z=>
  rw[m]at hk;dsimp only at hk;rw[<-J]at m;obtain⟨i,y,e1,e2,L⟩:=MU m;rw[e1]at A⊢;subst A;dsimp only;refine aK.of λJ1 B=> ?_
  rw[fO];have Q:=(aC.1 e2).1;have Y:=W.frame f4 (λ_ _=>id);obtain⟨pb,po,rfl⟩:=Y.addr ae;have hh:=Y.gv gu e2;have a':=f4.get P id;have ry:=((r2 y (bj e2)).frame S.fr (λy j=>new y j)).frame f4 (λ_ _=>id);have w:z.d=y.v.b:=by rw[<-L];rfl
  have G4:eI.Good { σ with C:=eZ.kR σ.C x.num ses } (k+1):=Good.Sp E.G E.H.ord E.hk ⟨2,x.num,ses,.zero,none,0, [],0⟩ (dW 0);have K: ∀g,dF (((AA pb po):Addr).add (i*10)) (BU y) 0 g->aB g ((((AA pb po):Addr).add (Int.toNat (i:Int)*10)).add 6)=some y.v.val:=λg m=>by
   rw[aI];exact m.2.2.2.2.2.2.1
  have E4:En V H M s G I { σ with C:=eZ.kR σ.C x.num ses } (k+1):=E.step u st G4 c';refine bW.fK (x:=x.as p c s ses) a' ⟨⟨ae,ae⟩,ay.2 ⟨_,_,_,K _ hh,OL (ses:=ses) (x:=x) (p:=p) (c:=c) (d:=z.d) E4 (by rw[w];exact ry.row) (by rw[w]) (by rw[w];exact ry.cap) λh5 v H5 e'=>⟨_,rfl,?_⟩⟩⟩;have t:=st.trans e';have b':=t.fr.get F nM;refine mK (z:=⟨r,0,0,(iZ V { σ with C:=eZ.kR σ.C x.num ses } ses z.d).2,0,none,0,0⟩) b' cM rfl λh6 d6 f6=> ?_
  subst B;dsimp only;rw[f];have d': ∀y,v.M y\/v.D y->y≠bo:=λy j e=>by
   rcases j with a|a
   .rcases t.jl y a with a|a
    .exact nM (e▸a)
    .omega
   .rcases t.lB y a with a|a
    .exact T (.inr (e▸a))
    .omega
  exact hk h6 v (H5.frame f6 (λy j e=>d' y j e)) (iy.of t f6 ⟨_,d6,λ_=>⟨none,0,rfl,Row.nil,λe=>absurd rfl e⟩⟩)

end Ask
end
section
variable {h:ai} {R:fx}
variable {x X c d f:Int} {j:cj} {i g:Nat}
theorem GD.walk{a:Int}{A:Int}{e:Int}{k:Int}{l:Int}{o:cj}{n m:Nat}{p:Int}{B:Int}{q:Int}{r:Int}{s:Int}{w:cj}{u t:Nat}(C:aS h (.cells #[.U a,.I A,.I e,.I k,.U l,.slice o n m] 44) λb y=>aS y (.cells #[.U p,.I B,.I q,.I r,.U s,.slice w u t] 44) λB H=>Hu H b 0 λt6=> ∃t8,Cc H B 0 (.U t8)/\if(t6==t8)then Hi H b 1 λt12=> ∃t14,Cc H B 1 (.I t14)/\if(t12==t14)then Hi H b 2 λt19=> ∃t21,Cc H B 2 (.I t21)/\if(t19==t21)then Hi H b 3 λt26=> ∃t28,Cc H B 3 (.I t28)/\if(t26==t28)then Hu H b 4 λt33=> ∃t35,Cc H B 4 (.U t35)/\if(t33==t35)then Hl H b 5 λE D T=>Hl H B 5 λI G F=>Cl 82 #[.slice E D T,.slice I G F] H λv z=> ∃t43,v=.bool t43/\R (.bool t43) z else R (.bool false) H else R (.bool false) H else R (.bool false) H else R (.bool false) H else R (.bool false) H):ar Tryz.prog 30 #[.agg #[.U a,.I A,.I e,.I k,.U l,.slice o n m],.agg #[.U p,.I B,.I q,.I r,.U s,.slice w u t]] h R:=aR (lq ll) Tryz.func30 C
theorem GF.walk{id:Int}{e:Int}(k:aS h (.cells #[.U 0,.I 0,.I 0,.I 0,.U 0,.Z] 44) λb a=>ak.ST a (AA b 0) id e 0 0 0 none 0 0 λH=>ak.LD H (AA b 0) λr l m n o s q p=>R (.agg #[.U r,.I l,.I m,.I n,.U o,.slice s q p]) H):ar Tryz.prog 41 #[.U id,.I e] h R:=aR (lq ll) Tryz.func41 k
theorem Cx.walk {Vm : Option Addr} {Vn Vo : Nat} (hv :
 Cl 187 #[.slice Vm Vn Vo, .func (.func 188) #[] #[]] h λv gU =>
 ∃ t4, v = .bool t4 ∧
 R (.bool (!t4)) gU) : ar Tryz.prog 146 #[.slice Vm Vn Vo] h R :=
 aR (.seq .leaf (.seq .leaf .leaf)) Tryz.func146 hv
theorem yX.walk{n:Int}(H:if(decide (n<0))then R (.bool true) h else R (.bool (decide (n>1099511627776))) h):ar Tryz.prog 188 #[.I n] h R:=aR (lq ll) Tryz.func188 H
theorem Ex.walk (G:aS h (.cells #[.U x,.I X,.I c,.I d,.U f,.slice j i g] 44) λb H=>aK (λ(t3:Bool) (a:ai)=>if t3 then R (.bool false) a else∃t39,Cc a b 1 (.I t39)/\if(t39 !=0)then ak.LD a (AA b 0) λT l m n o r q p=>Hu a b 0 λt43=>Hi a b 1 λt45=>Cl 41 #[.U t43,.I t45] a λv k=> ∃s u w y z C B A,v=.agg #[.U s,.I u,.I w,.I y,.U z,.slice C B A]/\dF (AA b 0) [.U T,.I l,.I m,.I n,.U o,.slice r q p] 0 k/\Cl 30 #[.agg #[.U T,.I l,.I m,.I n,.U o,.slice r q p],.agg #[.U s,.I u,.I w,.I y,.U z,.slice C B A]] k λV E=> ∃t47,V=.bool t47/\R (.bool t47) E else R (.bool true) a) (λJ=> ∃t5,Cc H b 0 (.U t5)/\if(decide (t5>1099511627776))then J true H else∃t9,Cc H b 1 (.I t9)/\if(decide (t9<0))then J true H else∃t14,Cc H b 1 (.I t14)/\if(decide (t14>99))then J true H else Hi H b 2 λt19=>Hi H b 3 λt21=>aS H (.cells #[.I t19,.I t21] 3) λD F=>Cl 146 #[.slice (some (AA D 0)) 2 2] F λL e=> ∃t23,L=.bool t23/\if(!t23)then J true e else∃t28,Cc e b 4 (.U t28)/\if(decide (t28>2147483648))then J true e else∃K t I,Cc e b 5 (.slice K t I)/\J (decide (((t:Nat):Int)>600)) e)):ar Tryz.prog 96 #[.agg #[.U x,.I X,.I c,.I d,.U f,.slice j i g]] h R:=aR (lq (sq (bq (sq (.join [(3,.one (.bool))] lf) (cq ll (lq (cq (sq (pN 8) lf) lf))))) ll)) Tryz.func96 G
theorem Ey.walk(y:aS h (.cells #[.U x,.I X,.I c,.I d,.U f,.slice j i g] 44) λb o=>ak.LD o (AA b 0) λz A B C D G F E=>Cl 96 #[.agg #[.U z,.I A,.I B,.I C,.U D,.slice G F E]] o λv H=> ∃t5,v=.bool t5/\if(!t5)then R (.tuple #[.Z,.I 3]) H else Hu H b 0 λt9=>Hi H b 1 λt12=>Hi H b 2 λt15=>Hi H b 3 λt18=>Hu H b 4 λt21=>Hl H b 5 λe T t=>Cl 65 #[] H λV a=>Vp V λt7=>Cc a b 5 (.slice e T t)/\Cc a b 4 (.U t21)/\Cc a b 3 (.I t18)/\Cc a b 2 (.I t15)/\Cc a b 1 (.I t12)/\Cc a b 0 (.U t9)/\Cl 72 #[.pointer t7,.U t9] a λI k=>Vp I λt10=>Cc k b 5 (.slice e T t)/\Cc k b 4 (.U t21)/\Cc k b 3 (.I t18)/\Cc k b 2 (.I t15)/\Cc k b 1 (.I t12)/\Cl 66 #[.pointer t10,.I t12] k λJ l=>Vp J λt13=>Cc l b 5 (.slice e T t)/\Cc l b 4 (.U t21)/\Cc l b 3 (.I t18)/\Cc l b 2 (.I t15)/\Cl 66 #[.pointer t13,.I t15] l λK m=>Vp K λt16=>Cc m b 5 (.slice e T t)/\Cc m b 4 (.U t21)/\Cc m b 3 (.I t18)/\Cl 66 #[.pointer t16,.I t18] m λL n=>Vp L λt19=>Cc n b 5 (.slice e T t)/\Cc n b 4 (.U t21)/\Cl 72 #[.pointer t19,.U t21] n λM p=>Vp M λt22=>Cc p b 5 (.slice e T t)/\Cl 71 #[.pointer t22,.slice e T t] p λN w=>Vp N λt25=>Cl 67 #[.pointer t25] w λO u=> ∃s r q,O=.slice s r q/\R (.tuple #[.slice s r q,.I 0]) u):ar Tryz.prog 45 #[.agg #[.U x,.I X,.I c,.I d,.U f,.slice j i g]] h R:=aR (lq (sq (lq (cq ll lf)) (sq (.gS (.op 1 (.op 2 (.op 4 (.op 5 (.op 7 (.op 8 (.op 10 (.op 11 (.op 13 (.op 14 (.op 16 (.op 17 (.op 0 (.op 3 (.op 6 (.op 9 (.op 12 (.op 15 (.op 18 (.op 19 (.op 20 (.op 21 .done))))))))))))))))))))))) lf))) Tryz.func45 y
theorem GG.walk{l:cj}{k e:Nat}(C:aS h (.cells #[.U 0,.I 0,.I 0,.I 0,.U 0,.Z] 44) λb o=>Cl 91 #[.slice l k e] o λv r=>Vp v λt7=>Cl 92 #[.pointer t7] r λq' s=>Vu q' λt9=>Cl 93 #[.pointer t7] s λr' t=>Vi r' λt11=>Cl 93 #[.pointer t7] t λs' u=>Vi s' λt13=>Cl 93 #[.pointer t7] u λt' w=>Vi t' λt15=>Cl 92 #[.pointer t7] w λu' y=>Vu u' λt17=>Cl 94 #[.pointer t7] y λv' z=>Vl v' λZ Y W=>aS z (.cells #[.U 0,.I 0,.I 0,.I 0,.U 0,.Z] 44) λB A=>ak.ST A (AA B 0) t9 t11 t13 t15 t17 Z Y W λp=>aK (λ(t28:Bool) (H:ai)=>if t28 then ak.ST H (AA b 0) 0 0 0 0 0 none 0 0 λm=>ak.LD m (AA b 0) λD F I L N U S P=>R (.tuple #[.agg #[.U D,.I F,.I I,.I L,.U N,.slice U S P],.I 3]) m else ak.LD H (AA B 0) λi' j' k' l' m' p' o' n'=>ak.ST H (AA b 0) i' j' k' l' m' p' o' n' λn=>ak.LD n (AA b 0) λE G K M O V T Q=>R (.tuple #[.agg #[.U E,.I G,.I K,.I M,.U O,.slice V T Q],.I 0]) n) (λJ=>Cl 95 #[.pointer t7] p λw' a=> ∃t22,w'=.I t22/\if(t22 !=0)then J true a else ak.LD a (AA B 0) λa' b' c' d' e' h' g' f'=>Cl 96 #[.agg #[.U a',.I b',.I c',.I d',.U e',.slice h' g' f']] a λx' q=> ∃t26,x'=.bool t26/\J (!t26) q)):ar Tryz.prog 43 #[.slice l k e] h R:=aR (lq (lq (lq (sq (sq (.join [(28,.one (.bool))] lf) (cq ll lf)) ll)))) Tryz.func43 C
theorem ks.within.walk {S0 : Option Addr} {Rr To : Nat} (hv :
 Cl 168 #[.slice S0 Rr To, .func (.func 188) #[] #[]] h λv gU =>
 ∃ t7, v = .int .i64 t7 ∧
 R (.bool (decide (t7 ≥ 0))) gU) : ar Tryz.prog 187 #[.slice S0 Rr To, .func (.func 188) #[] #[]] h R :=
 aR (.seq .leaf (.seq .leaf .leaf)) Tryz.func187 hv
theorem gM.within.walk {S0 : Option Addr} {Rr To : Nat} (hv :
 ∃ (I : Int → ai → Prop) (mu : Int → ai → Nat), I 0 h ∧ ∀ (t8 : Int) (gU : ai), I t8 gU →
 if (decide (t8 < ((Rr : Nat) : Int))) = true then
 ((0 : Int) ≤ t8 ∧ t8 < ((Rr : Nat) : Int)) ∧
 aO S0 λa =>
 ∃ t15, aB gU (a.add (Int.toNat t8 * 1)) = some (.int .i64 t15) ∧
 Cl 188 #[.int .i64 t15] gU λv iN =>
 ∃ t16, v = .bool t16 ∧
 if t16 = true then
 R (.int .i64 t8) iN
 else
 (I (IntKind.wrap .i64 (t8 + 1)) iN ∧ mu (IntKind.wrap .i64 (t8 + 1)) iN < mu t8 gU)
 else
 R (.int .i64 (-1)) gU) : ar Tryz.prog 168 #[.slice S0 Rr To, .func (.func 188) #[] #[]] h R :=
 aR (.seq .leaf (.seq (.seq .leaf (.block (.loop [(8, .one (.int .i64))] (.seq .leaf (.seq (.cond .leaf .leaf) (.seq (.block (.seq .leaf (.seq .leaf (.cond (.seq .leaf .leaf) .leaf)))) .leaf)))))) (.seq .leaf .leaf))) Tryz.func168 hv

end
section
open Go.fQ
namespace y9
open kk
variable {h h0:ai} {R:fx} {p q:cj} {c d:Nat}
variable {n:Nat}
abbrev val(x:RD)(p:cj)(c:Nat):Value:=.agg #[.int .u64 (x.id:Int),.int .i64 x.err,.int .i64 x.num,.int .i64 x.count,.int .u64 (x.token:Int),.slice p x.b.length c]
abbrev At(h:ai)(b:Nat)(x:RD)(p:cj)(c:Nat):Prop:=ak.at h b (x.id:Int) x.err x.num x.count (x.token:Int) p x.b.length c
theorem zY{a b:List UInt8}{m:Nat}(r:Row h p (bc a))(g:Row h q (bc b))(f:n=a.length)(H:m=b.length)(hk:R (.bool (decide (a=b))) h):ar Tryz.prog 82 #[.slice p n c,.slice q m d] h R:=by
 refine v7.walk ⟨_,conv r f,_,conv g H,?_⟩;rw[sy,sy];have:(a==b)=decide (a=b):=by
  by_cases e:a=b<;>simp[e]
 rw[this];exact hk
theorem iQ(x y:RD)(r:Row h p (bc x.b))(j:Row h q (bc y.b))(hk: gW h R (.bool (decide (x.same y)))):ar Tryz.prog 30 #[val x p c,val y q d] h R:=by
 refine GD.walk (ak.box λb k _ i f1=>ak.box λB g _ H f2=> ?_);have a:=f2.get i id;have f12:=f1.tt f2;have hk:=hk g f12;unfold RD.same at hk;refine⟨_,aw a,_,aw H,?_⟩;by_cases E:x.id=y.id
 .rw[af (by rw[E];simp)];refine⟨_,aw a,_,aw H,?_⟩;by_cases e1:x.err=y.err
  .rw[af (by rw[e1];simp)];refine⟨_,aw a,_,aw H,?_⟩;by_cases e2:x.num=y.num
   .rw[af (by rw[e2];simp)];refine⟨_,aw a,_,aw H,?_⟩;by_cases e:x.count=y.count
    .rw[af (by rw[e];simp)];refine⟨_,aw a,_,aw H,?_⟩;by_cases f:x.token=y.token
     .rw[af (by rw[f];simp)];refine⟨_,_,_,aw a,_,_,_,aw H,zY (r.frame f12 (λ_ _=>id)) (j.frame f12 (λ_ _=>id)) rfl rfl ⟨_,rfl,?_⟩⟩;simpa[E,e1,e2,e,f]using hk
     .rw[ag (by simp;omega)];simpa[f]using hk
    .rw[ag (cD e)];simpa[e]using hk
   .rw[ag (cD e2)];simpa[e2]using hk
  .rw[ag (cD e1)];simpa[e1]using hk
 .rw[ag (by simp;omega)];simpa[E]using hk
def Is(id:Nat)(e:Int):RD:=⟨id,e,0,0,0, []⟩
theorem kL{i:Int}(id:Nat)(f:i=(id:Int))(e:Int)(hk: gW h R (val (Is id e) none 0)):ar Tryz.prog 41 #[.U i,.I e] h R:=by
 subst f;refine GF.walk (ak.new λb H _ a f1=>ak.ld a ?_);exact hk H f1
def Ni(n:Int):Bool:=decide (0<=n/\n<=1099511627776)
theorem Ra(n:Int)(hk:R (.bool (!Ni n)) h):ar Tryz.prog 188 #[.I n] h R:=by
 refine yX.walk ?_;unfold Ni at hk;by_cases H:n<0
 .simpa[H,show¬0<=n by omega]using hk
 .by_cases a:n>1099511627776
  .simpa[H,a,show¬n<=1099511627776 by omega]using hk
  .simpa[H,a,show 0<=n by omega,show n<=1099511627776 by omega]using hk
theorem vp {ns : List Int} {n m : Nat} (hr : Row h p (ns.map (.int .i64 ·))) (hn : n = ns.length) (hl : ns.length ≤ 1000000) (hk : R (.bool (ns.all Ni)) h) : ar Tryz.prog 146 #[.slice p n m] h R := by
  subst hn
  refine Cx.walk (ks.within.walk (gM.within.walk ?_))
  refine ⟨λi h' => h' = h ∧ ∃ k : Nat, i = (k : Int) ∧ k ≤ ns.length ∧ ∀ j, j < k → Ni (ns.getD j 0) = true, λi _ => ns.length - i.toNat, ⟨rfl, 0, rfl, by omega, λj hj => by omega⟩, ?_⟩
  rintro _ h1 ⟨rfl, k, rfl, V2, S1⟩
  by_cases Ro : k < ns.length
  · have : (k : Int) < (ns.length : Int) := by omega
    simp only [this, decide_true, if_true, Int.toNat_natCast]
    obtain ⟨a, rfl, ck⟩ := ER hr Ro
    refine ⟨⟨by omega, trivial⟩, ay.2 ⟨_, ck, Ra _ ⟨_, rfl, ?_⟩⟩⟩
    cases hb : Ni (ns.getD k 0) with
    | false =>
      simp only [Bool.not_false, if_true]
      refine ⟨_, rfl, ⟨_, rfl, ?_⟩⟩
      have : ns.all Ni = false := by
        rw [List.all_eq_false]
        exact ⟨_, KE Ro, by rw [hb]; simp⟩
      rw [this] at hk
      have h0 : (k : Int) ≥ 0 := by omega
      simpa [h0] using hk
    | true =>
      simp only [Bool.not_true, Bool.false_eq_true, if_false]
      rw [bz (by omega) (by omega)]
      refine ⟨⟨trivial, k + 1, by omega, by omega, λj hj => ?_⟩, ?_⟩
      · by_cases q : j = k
        · subst q; exact hb
        · exact S1 j (by omega)
      · show ns.length - Int.toNat ((k : Int) + 1) < ns.length - Int.toNat (k : Int); omega
  · have : ¬ (k : Int) < (ns.length : Int) := by omega
    simp only [this, decide_false, Bool.false_eq_true, if_false]
    refine ⟨_, rfl, ⟨_, rfl, ?_⟩⟩
    have : ns.all Ni = true := by
      rw [List.all_eq_true]
      intro n hn
      obtain ⟨j, hj⟩ := List.getElem?_of_mem hn
      have Xx := (List.getElem?_eq_some_iff.1 hj).1
      have := S1 j (by omega)
      rwa [List.getD_eq_getElem?_getD, hj] at this
    rw [this] at hk
    simpa using hk
theorem eX(x:RD)(w:Row h p (bc x.b))(hk: gW h R (.bool (decide x.lR))):ar Tryz.prog 96 #[val x p c] h R:=by
 refine Ex.walk (ak.box λb l _ f f1=>aK.of λJ m=> ?_);have j: ∀a,Fr No h a->¬x.lR->J true a:=by
  intro a f2 s;subst m;simp only[bh];have:=hk a f2;rwa[az s]at this
 have t: ∀a,At a b x p c->Fr No h a->x.id<=1099511627776->(0<=x.err/\x.err<=99)->(0<=x.num/\x.num<=1099511627776)->(0<=x.count/\x.count<=1099511627776)->x.token<=2147483648->x.b.length<=600->J false a:=by
  intro a g f2 q1 q2 q3 q4 Q q6;subst m;simp only[au,aN];refine⟨_,aw g,?_⟩;by_cases i:x.err=0
  .rw[ag (by simp[i])];have:=hk a f2;rwa[aq (show x.lR from⟨q1,q2,q3,q4,Q,q6,λh=>absurd i h⟩)]at this
  .rw[af (cD i)];refine ak.ld g ⟨_,aw g,_,aw g,kL x.id rfl x.err λy f3=>⟨_,_,_,_,_,_,_,_,rfl,(ak.held (f3.get g id)),?_⟩⟩;have f23:=f2.tt f3;refine iQ x (Is x.id x.err) (w.frame f23 (λ_ _=>id)) (.inl rfl) λr f4=>⟨_,rfl,?_⟩
   have e:decide (x.same (Is x.id x.err))=decide x.lR:=by
    unfold RD.same RD.lR Is;simp[q1,q2,q3,q4,Q,q6,i]
   rw[e];exact hk r (f23.tt f4)
 clear m;refine⟨_,aw f,?_⟩;by_cases q1:x.id<=1099511627776
 .rw[ag (by simp;omega)];refine⟨_,aw f,?_⟩;by_cases q2:0<=x.err
  .rw[ag (by simp;omega)];refine⟨_,aw f,?_⟩;by_cases q3:x.err<=99
   .rw[ag (by simp;omega)];refine⟨_,aw f,_,aw f,cC ?_⟩;refine vp (ns:= [x.num,x.count]) jq rfl bM ⟨_,rfl,?_⟩;have f5:=f1.tt (Fr.push l (.cells #[.I x.num,.I x.count] 3));have o:At _ b x p c:=(Fr.push (S:=λ_=>False) l (.cells #[.I x.num,.I x.count] 3)).get f id;generalize l.push (.cells #[.I x.num,.I x.count] 3)=z at*;cases k: [x.num,x.count].all Ni with
    |false=>
     simp only[eh,bh];refine j _ f5 λH=> ?_
     obtain⟨_,_,u,v,_⟩:=H;simp[Ni,u,v]at k
    |true=>
     simp only[cQ,au,aN];simp[Ni]at k;refine⟨_,aw o,?_⟩;by_cases Q:x.token<=2147483648
     .rw[ag (by simp;omega)];refine⟨_,_,_,aw o,?_⟩;by_cases q6:x.b.length<=600
      .have:decide ((x.b.length:Int)>600)=false:=by simp;omega
       rw[this];exact t _ o f5 q1 ⟨q2,q3⟩ k.1 k.2 Q q6
      .have:decide ((x.b.length:Int)>600)=true:=by simp;omega
       rw[this];exact j _ f5 λH=>q6 H.2.2.2.2.2.1
     .rw[af (by simp;omega)];exact j _ f5 λH=>Q H.2.2.2.2.1
   .rw[af (by simp;omega)];exact j _ f1 λH=>q3 H.2.1.2
  .rw[af (by simp;omega)];exact j _ f1 λH=>q2 H.2.1.1
 .rw[af (by simp;omega)];exact j _ f1 λH=>q1 H.1
theorem MV(x:RD)(r:Row h p (bc x.b))(k1:x.lR->∀h' q d,fy h' q x.enc.length d 1 (bc x.enc)->Fr No h h'->(∀y,aP q y->h.size<=y)->R (.tuple #[.slice q x.enc.length d,.I 0]) h')(k2: ¬x.lR->gW h R (.tuple #[.Z,.I 3])):ar Tryz.prog 45 #[val x p c] h R:=by
 refine Ey.walk (ak.box λb h1 eb o f1=>ak.ld o ?_);refine eX x (r.frame f1 (λ_ _=>id)) λk f2=>⟨_,rfl,?_⟩
 by_cases g:x.lR
 .rw[aq g];simp only[cQ,au,aN];obtain⟨q1,⟨q2,c'⟩,⟨q3,d'⟩,⟨q4,e'⟩,q5,q6,_⟩:=id g;have H:=f2.get o id;have F:=f1.tt f2;refine⟨_,aw H,_,aw H,_,aw H,_,aw H,_,aw H,_,_,_,aw H,?_⟩;refine iH λY f' P I f3 W=>⟨_,rfl,?_⟩
  have B:=f3.get H id;have U:Up k P Y:=⟨f3,W⟩;have N: ∀{S:Nat->Prop}{h':ai},Up k S h'->¬S b:=λu hx=>by have:=u.ge b hx;have:=aF H;omega
  refine⟨aw B,aw B,aw B,aw B,aw B,aw B,?_⟩;refine fM x.id I bM rfl ae λh4 S4 J s=>⟨_,rfl,?_⟩
  have a:=s.fr.get B (N U);have A:=U.step s;have l1:=(ga x.id).2;refine⟨aw a,aw a,aw a,aw a,aw a,?_⟩;refine Fe J (by simp only[dz];omega) ae λh5 S5 K t=>⟨_,rfl,?_⟩
  have f:=t.fr.get a (N A);have C:=A.step t;have l2:=(ga (iL x.err)).2;refine⟨aw f,aw f,aw f,aw f,?_⟩;refine Fe K (by simp only[dz,aA];omega) ae λh6 S6 L v=>⟨_,rfl,?_⟩
  have i:=v.fr.get f (N C);have D:=C.step v;have l3:=(ga (iL x.num)).2;refine⟨aw i,aw i,aw i,?_⟩;refine Fe L (by simp only[dz,aA];omega) ae λh7 S7 M w=>⟨_,rfl,?_⟩
  have j:=w.fr.get i (N D);have E:=D.step w;have l4:=(ga (iL x.count)).2;refine⟨aw j,aw j,?_⟩;refine fM x.token M (by simp only[dz,aA];omega) rfl ae λh8 S8 O z=>⟨_,rfl,?_⟩
  have Q:=z.fr.get j (N E);have u8:=E.step z;have l5:=(ga x.token).2;have T:=F.tt u8.fr;refine⟨aw Q,?_⟩;refine K3 O (by simp only[dz,aA];omega) (r.frame T (λ_ _=>id)) rfl ae (λy l a' Z=> ?_) λh9 S9 m s9=>⟨_,rfl,?_⟩
  .have:=ja r (λe=>a' (List.map_eq_nil_iff.1 e)) l;have:=u8.ge y Z;have:=F.1;omega
  have G:=u8.step s9;have he: []++gy x.id++gy (iL x.err)++gy (iL x.num)++gy (iL x.count)++gy x.token++nZ x.b=x.enc:=rfl;rw[he]at m;refine mV m (cf (jr q6)) λq d X b' f10 V=>⟨_,_,_,rfl,?_⟩
  exact k1 g X q d b' (F.tt (G.fr.tt f10)) (λy l=>ig (V y l) ((F.tt G.fr).1))
 .rw[az g];simp only[eh,bh];exact k2 g k (f1.tt f2)
theorem sR{bs:List UInt8}(rb:Row h p (bc bs))(hn:n=bs.length)(hl:bs.length<=70368744177664)(k1: ∀x,BY bs=some x->∀h' q d,fy h' q x.b.length d 1 (bc x.b)->Fr No h h'->(∀y,aP q y->h.size<=y)->R (.tuple #[val x q d,.I 0]) h')(k2:BY bs=none->gW h R (.tuple #[val RD.zero none 0,.I 3])):ar Tryz.prog 43 #[.slice p n c] h R:=by
 refine GG.walk (ak.box (f5l:=0) λb W eb hb f1=> ?_);refine kk.sR (rb.frame f1 (λ_ _=>id)) hn hl λh2 r T f f2 g2=>⟨_,rfl,?_⟩
 have u2:Up W T h2:=⟨f2,g2⟩;refine wV f λh3 k f3=>⟨_,rfl,?_⟩
 have u3:=u2.Ai f3 (λy e=>e▸f.self);have la:=pB 0 bs;generalize hA:et 0 bs=A at k la⊢;obtain⟨a,P,t⟩:=A;dsimp only at k la⊢;refine BI k λh4 l f4=>⟨_,rfl,?_⟩
 have u4:=u3.Ai f4 (λy e=>e▸f.self);have lb:(j8 P t).2.2.length<=t.length:=ob _ P t;generalize Y:j8 P t=B at l lb⊢;obtain⟨u,Q,v⟩:=B;dsimp only at l lb⊢;refine BI l λh5 m f5=>⟨_,rfl,?_⟩
 have u5:=u4.Ai f5 (λy e=>e▸f.self);have lc:(j8 Q v).2.2.length<=v.length:=ob _ Q v;generalize Z:j8 Q v=C at m lc⊢;obtain⟨w,U,z⟩:=C;dsimp only at m lc⊢;refine BI m λh6 o f6=>⟨_,rfl,?_⟩
 have u6:=u5.Ai f6 (λy e=>e▸f.self);have ld:(j8 U z).2.2.length<=z.length:=ob _ U z;generalize hD:j8 U z=D at o ld⊢;obtain⟨E,de,dr⟩:=D;dsimp only at o ld⊢;refine wV o λh7 s f7=>⟨_,rfl,?_⟩
 have u7:=u6.Ai f7 (λy e=>e▸f.self);have lf:=pB de dr;generalize hF:et de dr=F at s lf⊢;obtain⟨I,fe,fr⟩:=F;dsimp only at s lf⊢;refine K4 s ae λh8 q d M O g8 f8=>⟨_,_,_,rfl,?_⟩
 have u8:=u7.Ai f8 (λy e=>e▸f.self);generalize hG:jm fe fr=G at M O⊢;obtain⟨J,ge,j⟩:=G;dsimp only at M O⊢;have hX:Sn 1099511627776 gY bs=⟨⟨a,u,w,E,I,J⟩,ge,j⟩:=by
  unfold j8 at Y Z hD;unfold Sn;simp only[hA,Y,Z,hD,hF,hG]
 have g':BY bs=vX ⟨⟨a,u,w,E,I,J⟩,ge,j⟩:=by unfold BY;rw[hX]
 clear hX hA Y Z hD hF hG la lb lc ld lf k l m o s f3 f4 f5 f6 f7 f8;generalize g:(⟨a,u,w,E,I,J⟩:RD)=x at*;have e0:a=x.id:=by rw[<-g]
 have e1:(u:Int)=x.err:=by rw[<-g]
 have e2:(w:Int)=x.num:=by rw[<-g]
 have e3:(E:Int)=x.count:=by rw[<-g]
 have e4:I=x.token:=by rw[<-g]
 have V:J=x.b:=by rw[<-g]
 rw[e0,e1,e2,e3,e4,V];rw[V]at O;clear g e0 e1 e2 e3 e4 V;refine ak.new λb1 X s' f' f15=> ?_
 have a':At X b RD.zero none 0:=f15.get (u8.fr.get hb id) id;have N:Fr No h X:=f1.tt (u8.fr.tt f15);have i':=O.frame f15 (λ_ _=>id);have gq: ∀y,aP q y->W.size<=y:=λy i=>by have:=g8 y i;have:=u7.fr.1;omega
 have bne:b≠b1:=λe=>by have:=aF (u8.fr.get hb id);omega
 have t':b<W.size:=aF hb;refine aK.of λc' hJ=> ?_
 have jt:vX ⟨x,ge,j⟩=none->∀H,At H b RD.zero none 0->Fr No h H->c' true H:=by
  intro hn H b' f16;subst hJ;simp only[bh];refine ak.set b' λj' l' q' o'=>ak.ld l' ?_
  exact k2 (g'.trans hn) j' (f16.step (Fr.of_eq (S:=λy=>y=b) q' o') (λy i e=>ae))
 have jf:vX ⟨x,ge,j⟩=some x->∀H,At H b RD.zero none 0->At H b1 x q d->fy H q x.b.length d 1 (bc x.b)->Fr No h H->c' false H:=by
  intro hs H b' k' n' f16;subst hJ;simp only[au,aN];refine ak.ld k' (ak.set b' λd' m' r' p'=>ak.ld m' ?_);have f28:Fr (λy=>y=b) H d':=Fr.of_eq r' p';refine k1 x (g'.trans hs) d' q d (n'.frame f28 (λy i e=> ?_)) (f16.step f28 (λy i e=>ae)) (λy i=> ?_)
  .have:=gq y i;omega
  .have:=gq y i;have:=f1.1;omega
 clear hJ;refine ND (M.frame f15 (λ_ _=>id)) ⟨_,rfl,?_⟩;by_cases K:sQ ge j=0
 .rw[ag (cD K)];refine ak.ld f' (eX x i'.iT λe' f30=>⟨_,rfl,?_⟩);by_cases L:x.lR
  .rw[aq L];exact jf (by unfold vX;rw[af ⟨K,L⟩]) e' (f30.get a' id) (f30.get f' id) (i'.frame f30 (λ_ _=>id)) (N.tt f30)
  .rw[az L];exact jt (by unfold vX;rw[ag (λhh=>L hh.2)]) e' (f30.get a' id) (N.tt f30)
 .rw[af (cD K)];exact jt (by unfold vX;rw[ag (λhh=>K hh.1)]) X a' N

end y9
end
section
namespace Ask
open jc (Ev cK)
open eI (SS Good Pt uW Mk)
open Bn (ic)
variable {V:List UInt8→Bool} {h h' u H g:ai} {R:fx} {s k bo t c:Nat} {X l:Ft} {I:uW} {σ:SS} {p:cj} {ses:Int} {x:Rq} {D:Nat→Prop} {o:Ot}
theorem iy.no(f:Fr No h H)(O:iy X H bo t o l h'):iy X h bo t o l h':=by
 have z:=f.1;refine⟨Fr.no f O.fr,λc b=>(O.jl c b).imp _root_.id (λa=>ae),λc b=>(O.lB c b).imp _root_.id (λa=>ae),O.wg,?_⟩;obtain⟨y,m,j⟩:=O.at';refine⟨y,m,λi=> ?_⟩;obtain⟨p,c,e,r,n⟩:=j i;exact⟨p,c,e,r,λhd z d=>⟨(n hd z d).1.imp (λa=>ae) _root_.id,(n hd z d).2⟩⟩
theorem iy.num{st1:bC X h l H}(n c:Int)(f:Fr (λy=>y=bo) H h')(a:ak.fN h' bo ⟨t,0,n,c,0,none,0,0⟩){σ:SS}{e:Int}:iy X h bo t ⟨σ,e,n,c, []⟩ l h':=
 iy.of st1 f ⟨_,a,λ_=>⟨none,0,rfl,Row.nil,λe=>absurd rfl e⟩⟩
theorem Rb(st:bC X h l H)(n: ¬(X.M bo\/X.D bo))(z:bo<h.size): ∀y,l.M y\/l.D y->y≠bo:=λy b e=>by
 subst e;rcases b with a|a
 .rcases st.jl _ a with a|a
  .exact n (.inl a)
  .omega
 .rcases st.lB _ a with a|a
  .exact n (.inr a)
  .omega
theorem Ez(a:iG x=true):jL x=true:=by unfold iG at a;simp only[aT]at a;exact a.1.2
theorem S2(E:En V u h s X I σ k)(c':k+1<=30000)(hr:iG x=true)(w1:0<=x.ep.gH)(w2:0<=x.dest.gH)(rx:Row h p (bc x.oD))(cap:x.oD.length<=c)(n:ak.fN h bo (y0 t))(N: ¬(X.M bo\/X.D bo))(hk: ∀h' l,Pt h' s l I (pU V σ ses x).σ->iy X h bo t (pU V σ ses x) l h'->R (.I (pU V σ ses x).e) h'):
  ar Tryz.prog 44 #[(x.as p c s ses).agg,.P bo 0] h R:=by
 refine Ci.walk (bW.cT (x:=x.as p c s ses) λb H eb d f1=>⟨_,aw d,?_⟩);have E1:=E.on f1;have nM: ¬X.M bo:=λe=>N (.inl e)
 have zo:=aF n;have z1:=f1.1;have A: ¬X.M b:=E.nM ae;have M:=f1.get n id;have sm:=E.G.small E.H.ord (cf E.hk);have cL:=E.G.c.L;have ek:=E.hk;have pr:=Ez hr;unfold pU at hk;unfold jL at pr;by_cases Q:x.kind=1
 .rw[af Q]at hk;rw[af (bq.2 Q)];obtain⟨Z,q,L,J,go⟩:=E1.H.use 1;refine⟨_,aw d,ay.2 ⟨_,aw E1.H.cR,ic x.ep d rfl rfl rfl rfl rfl ⟨_,aw d,_,aw d,gg.x8 q ⟨x.ep,x.j1,ses⟩ E.G.g.len λf T F=> ?_⟩⟩⟩;obtain⟨m,j,S,_,_⟩:=go f Z { σ with G:=gg.wH σ.G ⟨x.ep,x.j1,ses⟩ } T F (λi r=>eI.FL _ r);exact⟨_,rfl,Kc S.fr A bM,hk f m j (iy.bad n nM (bC.no f1 S))⟩
 rw[ag Q]at hk;rw[ag (λe=>Q (bq.1 e))];by_cases W:x.kind=2
 .rw[af W]at hk;rw[af (bq.2 W)];obtain⟨Z,q,L,J,go⟩:=E1.H.use 1;refine⟨_,aw d,ay.2 ⟨_,aw E1.H.cR,ic x.ep d rfl rfl rfl rfl rfl ⟨_,aw d,gg.na q x.ep ses λh3 T3 s3=> ?_⟩⟩⟩;obtain⟨X3,v,a',_,_⟩:=go h3 Z { σ with G:=gg.yd σ.G x.ep ses } T3 s3 (λi r=>eI.FL _ r);have qG:=bC.no f1 a';refine⟨_,rfl,Kc a'.fr A bM,aK.of λe' hJ=> ?_⟩;by_cases w:gg.iu σ.G x.ep ses=0
  case neg=>
   rw[ag w]at hk;rw[ag (cD w)];subst hJ;have eG:gg.yd σ.G x.ep ses=σ.G:=by unfold gg.yd;rw[ag w]
   rw[eG]at v;exact hk h3 X3 v (iy.bad n nM qG)
  rw[af w]at hk;rw[af (by rw[w];rfl)];have P:=a'.fr.get d A;obtain⟨Z,q,L,J,go⟩:=v.use 2;have d': ¬X3.M b:=λhm=>by
   rcases a'.jl b hm with a|a
   .exact A a
   .have:=aF d;omega
  refine⟨_,aw P,ay.2 ⟨_,aw v.cR,ic x.ep P rfl rfl rfl rfl rfl (eZ.oi q sm (by show σ.C.gone<=_;omega) x.ep λh5 Z5 p5 c5 C5 s5 N5 n5=> ?_)⟩⟩;obtain⟨X5,H5,b',_,_⟩:=go h5 Z5 { σ with G:=gg.yd σ.G x.ep ses,C:=eZ.vW σ.C x.ep } C5 s5 (λi r=>eI.uX (σ:= { σ with G:=gg.yd σ.G x.ep ses }) _ r);have st:=qG.trans b';refine⟨_,_,_,rfl,Kc b'.fr d' bM,mK (z:=⟨t,0,0,((eZ.kq σ.C.L x.ep).length:Int),0,none,0,0⟩) (st.fr.get n nM) cM rfl λh6 d6 f6=> ?_⟩;subst hJ;rw[w];exact hk h6 X5 (H5.frame f6 (λy hy e=>Rb st N zo y hy e)) (iy.num (st1:=st) 0 _ f6 d6)
 rw[ag W]at hk;rw[ag (λe=>W (bq.1 e))];by_cases Y:x.kind=3
 .rw[af Y]at hk;rw[af (bq.2 Y)];obtain⟨Z,q,L,J,go⟩:=E1.H.use 1;refine⟨_,aw d,ay.2 ⟨_,aw E1.H.cR,ic x.ep d rfl rfl rfl rfl rfl ⟨_,aw d,_,aw d,gg.Jl q x.ep ses x.j1 λf T F=> ?_⟩⟩⟩;obtain⟨m,j,S,_,_⟩:=go f Z { σ with G:=gg.DI σ.G x.ep ses x.j1 } T F (λi r=>eI.FL _ r);exact⟨_,rfl,Kc S.fr A bM,hk f m j (iy.bad n nM (bC.no f1 S))⟩
 rw[ag Y]at hk;rw[ag (λe=>Y (bq.1 e))];by_cases K:x.kind=4
 .rw[af K]at hk;rw[af (bq.2 K)];rw[cW,cW,af K]at pr;simp only[aT,aY]at pr;exact bW.fK (x:=x.as p c s ses) d (OI E1 (rx.frame f1 (λ_ _=>id)) cap ae w1 w2 M N λf m j O=>⟨_,rfl,hk f m j (iy.no f1 O)⟩)
 rw[ag K]at hk;rw[ag (λe=>K (bq.1 e))];by_cases k5:x.kind=5
 .rw[af k5]at hk;rw[af (bq.2 k5)];exact⟨_,aw d,_,aw d,_,aw d,eI.uJ E1.H E.G E.hk λf m j S=>⟨_,rfl,hk f m j (iy.bad n nM (bC.no f1 S))⟩⟩
 rw[ag k5]at hk;rw[ag (λe=>k5 (bq.1 e))];by_cases k6:x.kind=6
 .rw[af k6]at hk;rw[af (bq.2 k6)];obtain⟨Z,q,L,J,go⟩:=E1.H.use 2;refine⟨_,aw d,ay.2 ⟨_,aw E1.H.cR,ic x.ep d rfl rfl rfl rfl rfl (eZ.LO q sm x.ep λf f2=>⟨_,rfl,f2.kp,?_⟩)⟩⟩;have F2:=f1.tt f2;refine mK (z:=⟨t,0,(eZ.FR σ.C.L x.ep:Int),0,0,none,0,0⟩) (F2.get n id) cM rfl λh3 d3 f3=> ?_
  have P:=f3.get (f2.get d id) (λe=>cf (aF n));have v:=(E.H.on F2).frame f3 (λy hy e=>N (e▸hy));refine bW.fK (x:=x.as p c s ses) P (Cw v λh4 f4=>⟨_,rfl,?_⟩);exact hk h4 X (v.on f4) (iy.num (st1:=bC.hM F2) _ 0 (f3.on f4) (f4.get d3 id))
 rw[ag k6]at hk;rw[ag (λe=>k6 (bq.1 e))];by_cases B:x.kind=7
 .rw[af B]at hk;rw[af (bq.2 B)];rw[cW,cW,ag K,cW,af B]at pr;simp only[aT,aY]at pr;exact bW.fK (x:=x.as p c s ses) d (OJ E1 ae M N λf m j O=>⟨_,rfl,hk f m j (iy.no f1 O)⟩)
 rw[ag B]at hk;rw[ag (λe=>B (bq.1 e))];by_cases k8:x.kind=8
 .rw[af k8]at hk;rw[af (bq.2 k8)];exact bW.fK (x:=x.as p c s ses) d (FJ E1 c' M N λf m j O=>⟨_,rfl,hk f m j (iy.no f1 O)⟩)
 rw[ag k8]at hk;rw[ag (λe=>k8 (bq.1 e))];by_cases k9:x.kind=9
 .rw[af k9]at hk;rw[af (bq.2 k9)];obtain⟨Z,q,L,J,go⟩:=E1.H.use 2;refine⟨_,aw d,ay.2 ⟨_,aw E1.H.cR,_,aw d,_,aw d,eZ.FK q sm x.num ses λf Z2 T F=> ?_⟩⟩;obtain⟨m,j,S,_,_⟩:=go f Z2 { σ with C:=eZ.wJ σ.C x.num ses } T F (λi r=>eI.uX _ r);exact⟨_,rfl,Kc S.fr A bM,hk f m j (iy.bad n nM (bC.no f1 S))⟩
 rw[ag k9]at hk;rw[ag (λe=>k9 (bq.1 e))];by_cases U:x.kind=10
 .rw[af U]at hk;rw[af (bq.2 U)];exact bW.fK (x:=x.as p c s ses) d (x7 E1 M N λf m j O=>⟨_,rfl,hk f m j (iy.no f1 O)⟩)
 rw[ag U]at hk;rw[ag (λe=>U (bq.1 e))];exact hk H X E1.H (iy.bad n nM (bC.hM f1))
theorem OM{A:List eY.eY}(ok:eY.qp A){m:Int}{j:Nat}{b:List UInt8}(h:eY.lJ A m j=some b):b.length<=1000:=by
 unfold eY.lJ at h;split at h
 .cases h
 .rename_i z f;obtain⟨i,_,e⟩:=eY.uG f;unfold eY.vU at h;obtain⟨a,d,rfl⟩:=Option.map_eq_some_iff.1 h;exact((ok.at_ i z e).kd a (List.mem_of_find?_eq_some d)).2
abbrev rS(y:Go.fQ.RD)(p:cj)(c:Nat):ak.S:=⟨(y.id:Int),y.err,y.num,y.count,(y.token:Int),p,y.b.length,c⟩
theorem Iu{b:Nat}{y z:ak.S}{K:ak.S->ai->Prop}(a:ak.fN h b y)(hk: ∀h',Fr (λy=>y=b) h h'->K z h'):
  ak.cY h (AA b 0) z λg=>ak.cG g (AA b 0) λr=>K r g:=
 ak.gO (x:=z) a λg d1 f _=>ak.fK d1 (hk g f)
theorem Ta(E:En V u h s X I σ k)(B':k+1<=30000)(w1:0<=x.ep.gH)(w2:0<=x.dest.gH)(rx:Row h p (bc x.oD))(cap:x.oD.length<=c)(hk: ∀h' l q d,Pt h' s l I (oq V σ ses x).1->bC X h l h'->Row h' q (bc (oq V σ ses x).2.b)->((oq V σ ses x).2.b≠ []->∀y,aP q y->¬l.M y)->R (y9.val (oq V σ ses x).2 q d) h'):
  ar Tryz.prog 13 #[pt s,.I ses,(x.s p c).agg] h R:=by
 refine Gn.walk (aH.cT (x:=x.s p c) λb H eb hb f1=>ak.cT (x:=.z) λb1 h2 M' L f2=>aK.of λq' hJ=> ?_);have Q:=f1.tt f2;have E2:=E.on Q;have b':=f2.get hb _root_.id;have z1:=f1.1;have z2:=f2.1;have B:=E2.H.cR;have fl: ∀(g:ai)(e:Int),Fr No h2 g->oq V σ ses x=(σ,pV x.id e)->Cl 41 #[.U (x.id:Int),.I e] g λv w'=>ak.EX λt62=>v=t62.agg/\ak.cY w' (AA b1 0) t62 λn'=>ak.cG n' (AA b1 0) λr0=>R (r0.agg) n':=by
  intro g e r hq;rw[hq]at hk;refine y9.kL x.id rfl e λh' F=>ak.ex (rS (pV x.id e) none 0) ⟨rfl,Iu ((r.tt F).get L _root_.id) λt' s'=> ?_⟩
  have S:=(Q.tt (r.tt F)).fresh s' (λy e=>ae);exact hk t' X none 0 (E.H.on S) (bC.hM S) Row.nil (λe=>absurd rfl e)
 have r': ∀(e:Int),¬(iG x=true/\x.kind<11)->oq V σ ses x=(σ,pV x.id 3):=λe hn=>by unfold oq;rw[ag hn]
 have key:q' false h2:=by
  subst hJ;dsimp only;rw[cW];refine aK.of λJ1 i'=>aH.fK (x:=x.s p c) b' (eX x (rx.frame Q (λ_ _=>_root_.id)) λh3 f3=>⟨_,rfl,?_⟩)
  have Y:=f3.get b' _root_.id;have P':J1 true h3->True:=λ_=>trivial
  have bad: ¬(iG x=true/\x.kind<11)->J1 true h3:=by
   intro hn;subst i';try dsimp only
   rw[af rfl];exact⟨_,aw Y,fl h3 3 f3 (r' 0 hn)⟩
  cases hr:iG x with
  |false=>rw[fO];exact bad (λe=>by rw[hr]at e;cases e.1)
  |true=>
  rw[cW];refine⟨_,aw Y,?_⟩;by_cases e':x.kind<11
  case neg=>
   have:decide ((x.s p c).f1≥11)=true:=aq (by show x.kind≥11;omega);rw[this];exact bad (λe=>e' e.2)
  have:decide ((x.s p c).f1≥11)=false:=az (by show¬x.kind≥11;omega);rw[this];subst i';dsimp only;rw[cW];have E3:=E2.on f3;obtain⟨Z,n,_⟩:=E3.H.use 0;unfold oq at hk fl;rw[af ⟨hr,e'⟩]at hk;simp only[af (show iG x=true/\x.kind<11 from⟨hr,e'⟩)]at fl;refine⟨_,aw E3.H.cR,eY.G1 n E.G.a ⟨_,rfl,?_⟩⟩;cases hu:eY.Fy σ.A ses with
  |false=>
   rw[fO];exact⟨_,aw Y,fl h3 16 f3 (by rw[hu];rfl)⟩
  |true=>
  rw[hu,af rfl]at hk;rw[cW];refine⟨_,aw E3.H.cR,_,aw Y,eY.Oa x.id rfl n E.G.a (λkb c' h4 p4 c4 o4 f4 n4=>⟨_,_,_,_,rfl,?_⟩) (λc' h4 f4=>⟨_,_,_,_,rfl,?_⟩)⟩
  .rw[c']at hk;rw[af rfl];dsimp only at hk;have F4:=Q.tt (f3.tt f4);have z3:=f3.1;have z4:=f4.1;have fin: ∀(g:ai)(y:Go.fQ.RD)(q:cj)(d:Nat),(Go.fQ.BY kb).getD Go.fQ.RD.zero=y->Row g q (bc y.b)->(∀z,aP q z->h4.size<=z)->Fr No h4 g->
     aS g (.cells ak.S.z.arr 44) λg' v'=>
     ak.cY v' (AA g' 0) (rS y q d) λj'=>
     ak.cG j' (AA g' 0) λt103=>
     ak.cY j' (AA b1 0) t103 λk'=>
     ak.cG k' (AA b1 0) λG'=>
     R (G'.agg) k':=by
    intro g y q d j row N r;refine ak.gh (x:=rS y q d) λb2 g2 N' b' f5=>ak.fK (x:=rS y q d) b' (Iu ((f3.tt (f4.tt (r.tt f5))).get L _root_.id) λg3 f6=> ?_)
    have S:=(F4.tt (r.tt f5)).fresh f6 (λy e=>ae);have rr:=((row.frame f5 (λ_ _=>_root_.id)).frame f6 (λa T C=>by have:=N a.block ⟨a,T,rfl⟩;have C:a.block=b1:=C;have:=aF L;omega));rw[j]at hk;exact hk g3 X q d (E.H.on S) (bC.hM S) rr (λ_ z n m=>ig (N z n) (E.H.lt z (.inl m)))
   refine y9.sR o4.iT rfl (cf (OM E.G.a c')) (λy j K q d o5 f5 n5=>ak.ex (rS y q d) ⟨_,rfl,?_⟩) (λj K f5=>ak.ex (rS .zero none 0) ⟨_,rfl,?_⟩)
   .exact fin K y q d (by rw[j];rfl) o5.iT n5 f5
   .exact fin K .zero none 0 (by rw[j];rfl) Row.nil (λz n=>by obtain⟨a,e,_⟩:=n;cases e) f5
  .rw[c']at hk;rw[cW];dsimp only at hk;have F4:=Q.tt (f3.tt f4);have z3:=f3.1;have z4:=f4.1;have a':=f4.get Y _root_.id;refine⟨_,aw a',ak.gh (x:=y0 x.id) λw K O' o' f5=>aH.fK (x:=x.s p c) (f5.get a' _root_.id) ?_⟩;have F5:=F4.tt f5;have E5:=E.on F5;have z5:=f5.1;have M: ∀y,h.size<=y->¬(X.M y\/X.D y):=λy j m=>by have:=E.H.lt y m;omega
   refine S2 (p:=p) (c:=c) (ses:=ses) E5 B' hr w1 w2 (rx.frame F5 (λ_ _=>_root_.id)) cap o' (M w ae) λU J H6 O=>⟨_,rfl,aK.of λJ2 u'=> ?_⟩
   have sG:=Good.pU (V:=V) (ses:=ses) (q:=x) E.G E.H.ord E.hk w1;generalize pU V σ ses x=o at hk H6 O sG;have p':aH.fN U b (x.s p c):=O.fr.get (f5.get a' _root_.id) (λm=>by
    rcases m with a|a
    .exact M b ae (.inl a)
    .have:=aF a';omega)
   have y':ak.fN U b1 .z:=O.fr.get ((f3.tt (f4.tt f5)).get L _root_.id) (λm=>by
    rcases m with a|a
    .exact M b1 ae (.inl a)
    .have:=aF L;omega)
   have zo:=aF o';have st:bC X h J U:=⟨(Fr.no F5 O.fr).trans (Fr.refl (λ_=>False) _) (λc hc m=>by
    rcases m with a|a
    .exact a
    .omega) (λ_ _=>False.elim),λc hc=>(O.jl c hc).imp _root_.id (λa=>ae),λc hc=>(O.lB c hc).imp _root_.id (λa=>ae),O.wg⟩
   have R':=aF a';have Q':=aF L;have d': ∀y,h.size<=y->y<K.size->¬(J.M y\/J.D y):=λy j hl m=>by
    rcases m with a|a
    .rcases O.jl y a with a|a
     .exact M y j (.inl a)
     .omega
    .rcases O.lB y a with a|a
     .exact M y j (.inr a)
     .omega
   have fin: ∀(g:ai)(q:cj)(d:Nat),ak.fN g w (rS (kF x.id o) q d)->Fr (λy=>y=w) U g->Row g q (bc (kF x.id o).b)->((kF x.id o).b≠ []->∀z,aP q z->(K.size<=z\/X.D z)/\¬J.M z)->J2 g:=by
    intro g q d hg r row N;subst u';have Hg:=H6.frame r (λy j e=>d' w ae zo (e▸j));have zg:=r.1;have z6:=O.fr.1;have E':b≠w:=ae
    have F':b1≠w:=ae
    obtain⟨Z,n,zm,zd,go⟩:=Hg.use 0;have wr: ∀(G:ai)(P:cj)(cw:Nat),Row G P (bc (Ng (kF x.id o)))->(∀y,aP P y->g.size<=y)->Fr No g G->∀(e:Int),
      ∃t126,aB G (AA s 0)=some (.pointer t126)/\
      ∃t129,aB G (AA b 0)=some (.U t129)/\
      Cl 46 #[.pointer t126,.I ses,.U t129,.slice P (Ng (kF x.id o)).length cw] G λL' l'=>
      ∃t131,L'=.I t131/\
      ak.cG l' (AA w 0) λt132=>
      ak.cY l' (AA b1 0) t132 λm'=>
      ak.cG m' (AA b1 0) λH'=>
      R (H'.agg) m':=by
     intro G P cw I' nw F _;have f':=Hg.on F;obtain⟨Z,n,zm,zd,go⟩:=f'.use 0;have x':=F.get (r.get p' E') _root_.id;refine⟨_,aw f'.cR,_,aw x',eY.N9 x.id rfl n sG.a I' rfl (λ_ y j m=>ig (nw y j) (Hg.lt y (.inl (zm y m)))) λh7 Z7 T7 s7=>⟨_,rfl,?_⟩⟩;obtain⟨X7,H7,LG,_,_⟩:=go h7 Z7 { o.σ with A:=eY.jM o.σ.A ses x.id (Ng (kF x.id o)) } T7 s7 (λi hi=>eI.BR _ hi);have n3: ¬J.M w:=λa=>d' w ae zo (.inl a)
     have n1: ¬J.M b1:=λa=>d' b1 ae ae (.inl a)
     have A':=LG.fr.get (F.get hg _root_.id) n3;have z':=LG.fr.get (F.get (r.get y' F') _root_.id) n1;refine ak.fK (x:=rS (kF x.id o) q d) A' (Iu z' λh8 f8=> ?_);have z7:=LG.fr.1;have zf:=F.1;have qG:bC X h J G:=(bC.box st r ae).on F;have J':=qG.trans LG;have K':=bC.box J' f8 ae;have D': ∀y,X7.M y\/X7.D y->y≠b1:=λy j e=>by
      rcases j with a|a
      .rcases LG.jl y a with a|a
       .exact n1 (e▸a)
       .omega
      .rcases LG.lB y a with a|a
       .exact d' b1 ae ae (.inr (e▸a))
       .omega
     refine hk h8 X7 q d (H7.frame f8 (λy j e=>D' y j e)) K' ?_ (λhd z n m=> ?_)
     .by_cases hd:(kF x.id o).b= []
      .rw[hd];exact Row.nil
      .refine(((row.frame F (λ_ _=>_root_.id)).frame LG.fr (λa T C=>(N hd a.block ⟨a,T,rfl⟩).2 C)).frame f8 (λa T C=> ?_));have C:a.block=b1:=C;rcases(N hd a.block ⟨a,T,rfl⟩).1 with a1|a1
       .omega
       .exact M b1 ae (.inr (C▸a1))
     .rcases LG.jl z m with a|a
      .exact(N hd z n).2 a
      .have:=ja row (by simpa[bc]using hd) n;omega
    refine ak.fK (x:=rS (kF x.id o) q d) hg (y9.MV (kF x.id o) row (λW G P cw ow F nw=>⟨_,_,_,_,rfl,?_⟩) (λW G F=>⟨_,_,_,_,rfl,?_⟩))
    .have:=wr G P cw (by rw[show Ng (kF x.id o)=(kF x.id o).enc from af W];exact ow.iT) nw F 0;rw[show Ng (kF x.id o)=(kF x.id o).enc from af W]at this;exact this
    .have:=wr G none 0 (by rw[show Ng (kF x.id o)= []from ag W];exact Row.nil) (λy j=>by obtain⟨a,e,_⟩:=j;cases e) F 0;rw[show Ng (kF x.id o)= []from ag W]at this;exact this
   obtain⟨y,j,C'⟩:=O.at';by_cases he:o.e=0
   .rw[ag (cD he)];obtain⟨q,d,rfl,row,N⟩:=C' he;have eo:kF x.id o=⟨x.id,0,o.num,o.xX,0,o.d⟩:=af he;rw[eo]at fin;exact fin U q d j (Fr.refl _ _) row N
   .rw[af (cD he)];have eo:kF x.id o=⟨x.id,o.e,0,0,0, []⟩:=ag he;rw[eo]at fin;refine⟨_,aw p',y9.kL x.id rfl o.e λg f=>ak.ex (rS ⟨x.id,o.e,0,0,0, []⟩ none 0) ⟨rfl,ak.gO (x:=rS ⟨x.id,o.e,0,0,0, []⟩ none 0) (f.get j _root_.id) λg2 d2 f2 _=>fin g2 none 0 d2 (Fr.no f f2) Row.nil (λe=>absurd rfl e)⟩⟩
 refine⟨_,aw B,?_⟩;rw[ag bM];refine⟨_,aw B,?_⟩;rw[ag bM];refine⟨_,aw B,?_⟩;rw[ag bM];refine⟨_,aw B,?_⟩;rw[ag bM];refine⟨_,aw B,?_⟩;rw[ag bM];exact⟨_,aw B,key⟩
theorem MW(hk: gW h R (y9.val (pV x.id 6) none 0)):ar Tryz.prog 13 #[.pointer none,.I ses,(x.s p c).agg] h R:=by
 refine Gn.nil.walk (aH.cT (x:=x.s p c) λb H E i f1=>ak.cT (x:=.z) λb1 n m j f2=>aK.of λJ d=> ?_);subst d;try dsimp only
 rw[af rfl];have z:=f1.1;refine⟨_,aw (f2.get i _root_.id),y9.kL x.id rfl 6 λh' f=>ak.ex (rS (pV x.id 6) none 0) ⟨rfl,Iu (f.get j _root_.id) λa F=> ?_⟩⟩;exact hk a ((f1.tt (f2.tt f)).fresh F (λy e=>ae))

end Ask
end
section
namespace Ask
open jc (Ev cK)
open eI (SS Good)
open Go.fQ (RD)
variable {V:List UInt8→Bool} {σ:SS} {k:Nat} {ses:Int} {q:Rq}
variable {i id now n dl:Nat} {data:List UInt8} {e:Int} {C:eZ.CF}
abbrev Cy:Ev:=⟨true,7,0,⟨#[]⟩,⟨#[]⟩⟩
abbrev nA:Ev:=⟨true,7,1,⟨#[]⟩,⟨#[]⟩⟩
structure Au (A:List eY.eY) (i:Nat):Prop where
 u1:eY.Fy A 1=true
 u2:eY.Fy A 2=true
 k: ∀m j,i<j->eY.lJ A m j=none
theorem w4(H:iG q=true)(hk:q.kind<11)(a:eY.Fy σ.A ses=true)(h:eY.lJ σ.A ses q.id=none):
  oq V σ ses q=({ (pU V σ ses q).σ with A:=eY.jM (pU V σ ses q).σ.A ses q.id (Ng (kF q.id (pU V σ ses q))) },kF q.id (pU V σ ses q)):=by
 unfold oq;rw[af ⟨H,hk⟩,af a,h]
theorem Au.kO{A:List eY.eY}(a:Au A i)(h:id=i+1)(d:List UInt8):Au (eY.jM A ses id d) (i+1):=
 ⟨by rw[BZ];exact a.u1,by rw[BZ];exact a.u2,λm j H=>Jx (.inr ae) (a.k m j ae)⟩
structure Li (σ:SS) (i now:Nat):Prop where
 a:Au σ.A i
 g:σ.G= [⟨nA,0,1⟩]
 n:σ.now=now
theorem Li.do(L:Li σ i now)(g:ses=1\/ses=2)(a:id=i+1)(d:q.id=id)(f:iG q=true)(hk:q.kind<11){o:Ot}(c:pU V σ ses q=o)(h:o.σ.A=σ.A)(H:o.σ.G=σ.G)(b:o.σ.now=σ.now):
  (oq V σ ses q).2=kF id o/\Li (oq V σ ses q).1 (i+1) now/\(oq V σ ses q).1.C=o.σ.C:=by
 subst d;have j:eY.Fy σ.A ses=true:=by rcases g with rfl|rfl;exact L.a.u1;exact L.a.u2
 rw[w4 f hk j (L.a.k ses q.id ae),c];refine⟨rfl,⟨?_,H.trans L.g,b.trans L.n⟩,rfl⟩;show Au (eY.jM o.σ.A ses q.id _) (i+1);rw[h];exact L.a.kO a _
def two:List eY.eY:= [⟨1,5,true,false, [], []⟩,⟨2,6,true,false, [], []⟩]
theorem MX:eY.ko (eY.ko [] 5) 6=two:=db
theorem Rc:Au two 0:=⟨db,db,λm j _=>by
 unfold eY.lJ eY.km;split
 .rfl
 .rename_i s h;split at h
  .generalize (m - 1).toNat=x at h
   match x with
   |0=>cases h;rfl
   |1=>cases h;rfl
   |x+2=>cases h
  .cases h⟩
def s1:SS:= { eI.u0 Cy with A:=two }
def q1:Rq:=⟨1,1,nA,.zero,0,0,0, [],0,0,false⟩
theorem Wl:pU V s1 1 q1=bad { s1 with G:= [⟨nA,0,1⟩] } 0:=by
 unfold pU;rw[af (show q1.kind=1 from rfl)];have h:gg.ia s1.G ⟨q1.ep,q1.j1,1⟩=0:=db
 have H:gg.wH s1.G ⟨q1.ep,q1.j1,1⟩= [⟨nA,0,1⟩]:=by unfold gg.wH;rw[af h];rfl
 rw[h,H]
abbrev Cz(data:List UInt8)(ses:Int)(dl:Nat):eZ.Cp:=⟨1,nA,data,5000,ses,dl⟩
theorem QI(C:eZ.CF)(H:C=⟨[],1,0,0,0, [], []⟩)(data:List UInt8)(h:1<=data.length)(c:data.length<=300):eZ.jx C nA data 5000=⟨[Cz data 0 0],2,0,0,0, [(1,5000)], []⟩:=by
 subst H;have b:eZ.tF nA data.length ((5000:Nat):Int)=true:=by
  unfold eZ.tF;rw[show cK nA=true by kernel_rfl,az (show¬nA=Ev.zero from λe=>by cases bY Ev.kH e),aq h,aq (show data.length<=600 by omega)];rfl
 have a:eZ.ia ⟨[],1,0,0,0, [], []⟩ nA data 5000=0:=by
  unfold eZ.ia;rw[af b];rfl
 unfold eZ.jx;rw[af a];rfl
theorem Jh(h:σ.G= [⟨nA,0,1⟩]):gg.iu σ.G nA 1=0/\gg.iu σ.G nA 2=13:=by rw[h];exact⟨db,db⟩
def q2(n:Nat)(id:Nat):Rq:=⟨id,7,nA,.zero,0,0,(n:Int), [],0,0,false⟩
def q3(id:Nat)(kind:Int):Rq:=⟨id,kind,.zero,.zero,0,1,0, [],0,0,false⟩
theorem MY(c:1<=n)(d:n<=1000)(h:1<=id)(f:id<=100):iG (q2 n id)=true:=by
 have H:jT nA=true:=db
 have a:q2 n id=oN (q2 n id):=rfl;have b:jL (q2 n id)=true:=by
  show(jT nA && decide ((n:Int)≥1) && decide ((n:Int)<=1000))=true;rw[H,aq ae,aq ae];rfl
 unfold iG;rw[b,aq a,aq (show(q2 n id).id≥1 from h),aq (show(q2 n id).id<=1099511627776 by show id<=_;omega)];rfl
theorem vr{kind:Int}(hk:kind=8\/kind=9)(h:1<=id)(b:id<=100):iG (q3 id kind)=true:=by
 have H:q3 id kind=oN (q3 id kind):=by rcases hk with rfl|rfl<;>rfl
 have a:jL (q3 id kind)=true:=by rcases hk with rfl|rfl<;>rfl
 unfold iG;rw[a,aq H,aq (show(q3 id kind).id≥1 from h),aq (show(q3 id kind).id<=1099511627776 by show id<=_;omega)];rfl
theorem Wm(h:σ.C.L= [Cz data 0 0])(H:σ.G= [⟨nA,0,1⟩])(c:σ.now=0)(d:n<=1000):
  pU V σ 1 (q2 n id)=⟨{ σ with C:=eZ.lL σ.C (Cz data 0 0) 1 n },0,1,(FW V data:Int),data⟩:=by
 have e:pU V σ 1 (q2 n id)=q8 V σ 1 (q2 n id):=rfl;have hd:Nf σ (q2 n id)=n:=by unfold Nf jZ;show min (σ.now+(n:Int).toNat) _=n;rw[c];omega
 have b:eZ.qT 1 n:=⟨cM,cM,ae⟩;have a:eZ.jP σ.C.L nA=some (Cz data 0 0):=by
  rw[h];unfold eZ.jP eZ.kq;rw[bU,af (aq rfl),List.filter_nil,List.find?_cons];rfl
 rw[e];unfold q8;rw[af (show gg.iu σ.G (q2 n id).ep 1=0 from(Jh H).1),hd,af b,show(q2 n id).ep=nA from rfl,a];rfl
theorem UW(H:σ.G= [⟨nA,0,1⟩]):pU V σ 2 (q2 n id)=bad σ 13:=by
 have e:pU V σ 2 (q2 n id)=q8 V σ 2 (q2 n id):=rfl;have h:=(Jh H).2;rw[e];unfold q8;rw[show(q2 n id).ep=nA from rfl,h,cW]
theorem CA{a s:Int}{b:Nat}:eZ.iP [Cz data a b] 1 s=if a=0\/a≠s then 14 else 0:=rfl
theorem ON(H:eZ.iP σ.C.L 1 ses=e)(h:e≠0):pU V σ ses (q3 id 8)=bad σ e:=by
 have e:pU V σ ses (q3 id 8)=zK V σ ses 1:=rfl;rw[e];unfold zK;rw[H,ag h]
theorem UX(h:eZ.iP σ.C.L 1 ses=e)(H:e≠0):pU V σ ses (q3 id 9)=bad σ e:=by
 have E:pU V σ ses (q3 id 9)=bad { σ with C:=eZ.wJ σ.C 1 ses } (eZ.iP σ.C.L 1 ses):=rfl;rw[E,h];have:eZ.wJ σ.C 1 ses=σ.C:=by unfold eZ.wJ;rw[h,ag H]
 rw[this]
theorem GH(d:List UInt8):(iZ V σ ses d).1.A=σ.A/\(iZ V σ ses d).1.G=σ.G/\(iZ V σ ses d).1.C=σ.C/\(iZ V σ ses d).1.now=σ.now/\(iZ V σ ses d).1.e=σ.e/\(iZ V σ ses d).1.rf=σ.rf:=by
 have oQ: ∀D t n,(oQ σ ses D t n).σ.A=σ.A/\(oQ σ ses D t n).σ.G=σ.G/\(oQ σ ses D t n).σ.C=σ.C/\(oQ σ ses D t n).σ.now=σ.now/\(oQ σ ses D t n).σ.e=σ.e/\(oQ σ ses D t n).σ.rf=σ.rf:=λD t n=>by
  unfold oQ eI.nk;split<;>exact⟨rfl,rfl,rfl,rfl,rfl,rfl⟩
 unfold iZ;split
 .exact⟨rfl,rfl,rfl,rfl,rfl,rfl⟩
 split
 .split
  .exact⟨rfl,rfl,rfl,rfl,rfl,rfl⟩
  .split
   .exact⟨rfl,rfl,rfl,rfl,rfl,rfl⟩
   .unfold kC;split
    .exact⟨rfl,rfl,rfl,rfl,rfl,rfl⟩
    .exact oQ _ _ _
 .exact⟨rfl,rfl,rfl,rfl,rfl,rfl⟩
theorem Wn(h:σ.C.L= [Cz data 1 dl]): ∃o,pU V σ 1 (q3 id 8)=o/\o.e=0/\o.σ.A=σ.A/\o.σ.G=σ.G/\o.σ.now=σ.now/\o.σ.C=eZ.kR σ.C 1 1:=by
 have e:pU V σ 1 (q3 id 8)=zK V σ 1 1:=rfl;have H:eZ.iP σ.C.L 1 1=0:=by rw[h];rfl
 have a:eZ.uT σ.C.L 1=some (Cz data 1 dl):=by rw[h];rfl
 have t:=GH (V:=V) (σ:= { σ with C:=eZ.kR σ.C 1 1 }) (ses:=1) data;rw[e];unfold zK;rw[af H,a];exact⟨_,rfl,rfl,t.1,t.2.1,t.2.2.2.1,t.2.2.1⟩
theorem UY(h:C.L= [Cz data 1 dl]):(eZ.kR C 1 1).L= []/\(eZ.kR C 1 1).fw=C.fw+1/\(eZ.kR C 1 1).next=C.next/\(eZ.kR C 1 1).over=C.over/\(eZ.kR C 1 1).gone=C.gone:=by
 have H:eZ.iP C.L 1 1=0:=by rw[h];rfl
 unfold eZ.kR;rw[af H];refine⟨?_,rfl,rfl,rfl,rfl⟩;show eZ.yg C.L 1= [];rw[h];rfl
theorem Tc(ok:eZ.oS C)(O:eZ.Ord C)(b:C.L= [Cz data 1 dl])(o:now<5000):
  (eZ.ie C (now:Int)).L= [if dl<=now then Cz data 0 0 else Cz data 1 dl]/\(eZ.ie C (now:Int)).next=C.next/\(eZ.ie C (now:Int)).fw=C.fw/\(eZ.ie C (now:Int)).over=C.over/\(eZ.ie C (now:Int)).gone=C.gone:=by
 obtain⟨H,_,d,_,_,f,g,j,l⟩:=eZ.AP ok O (now:Int);refine⟨?_,d,g,?_,l⟩
 .rw[f,b,bU,af (aq (show(now:Int)<((5000:Nat):Int) by omega)),List.filter_nil,List.map_singleton];congr 1
  unfold eZ.jU;by_cases h:dl<=now
  .rw[af ⟨(by show(1:Int)≠0;decide),(by show(dl:Int)<=now;omega)⟩,af h]
  .rw[ag (λe=>h (by have:(dl:Int)<=now:=e.2;omega)),ag h]
 .rw[j];have hd:bR.due C.E1 (now:Int)= []:=by
   refine List.eq_nil_iff_forall_not_mem.2 λe m=> ?_
   obtain⟨H,a⟩:=(eZ.wY O).1 m;obtain⟨z,c,rfl⟩:=(ok.e1 e).1 H;rw[b]at c;rw[bH.1 c]at a;have:((5000:Nat):Int)<=now:=a;omega
  rw[hd];rfl
theorem OO(ok:eZ.oS C)(O:eZ.Ord C)(H:C.L= []\/∃data,C.L= [Cz data 0 0]):C.E2.length=0:=by
 rw[eZ.ym ok O];rcases H with h|⟨d,h⟩<;>rw[h]<;>rfl
def q4:Rq:=⟨2,4,nA,nA,0,0,0, [120],9,0,false⟩
def q6:Rq:=⟨2,6,nA,.zero,0,0,0, [],0,0,false⟩
def sA:SS:= { s1 with G:= [⟨nA,0,1⟩],A:= [⟨1,5,true,false, [(1, [1,0,0,0,0,0])], []⟩,⟨2,6,true,false, [], []⟩] }
theorem v1:oq V s1 1 q1=(sA,⟨1,0,0,0,0, []⟩):=by
 rw[w4 db cM db db,Wl];kernel_rfl
def sB:SS:= { sA with A:= [⟨1,5,true,false, [(1, [1,0,0,0,0,0])], []⟩,⟨2,6,true,false, [(1, [1,11,0,0,0,0])], []⟩] }
theorem v2:oq V sA 2 q1=(sB,⟨1,11,0,0,0, []⟩):=by
 rw[w4 db cM db db];kernel_rfl
theorem v3: ∃d,Bn.kj V (kr q4 (0,1))=some d/\1<=d.length/\d.length<=600:=by
 have h:(match Bn.kj V (kr q4 (0,1))with|none=>false|some d=>decide (1<=d.length/\d.length<=600))=true:=db
 cases H:Bn.kj V (kr q4 (0,1))with
 |none=>rw[H]at h;cases h
 |some d=>rw[H]at h;exact⟨d,rfl,(aQ h).1,(aQ h).2⟩
theorem MZ{b:List UInt8}(H:iG q=true)(hk:q.kind<11)(a:eY.Fy σ.A ses=true)(h:eY.lJ σ.A ses q.id=some b):oq V σ ses q=(σ,(Go.fQ.BY b).getD RD.zero):=by
 unfold oq;rw[af ⟨H,hk⟩,af a,h]
theorem M0(h:iG q=true)(hk:q.kind<11)(H:eY.Fy σ.A ses=false):oq V σ ses q=(σ,pV q.id 16):=by
 unfold oq;rw[af ⟨h,hk⟩,H];rfl
theorem UZ(hk:q.kind=4):pU V σ ses q=tJ V σ ses q:=by
 unfold pU;rw[cW,cW,cW,af hk]
theorem Td{d:List UInt8}(l1:1<=d.length)(l2:d.length<=600):eI.wK sB 1 d 9=0:=by
 have h:eI.mw sB.Q 1 d.length=true:=by
  refine kJ.DB.2 ?_;have e1:eI.own sB.Q 1=0:=db
  have e2:eI.vu sB.Q=0:=db
  rw[e1,e2];omega
 have H: ¬(sB.B.items.length≥16\/eI.mw sB.Q 1 d.length=false):=by
  rw[h];rintro(a|a)
  .have:sB.B.items.length=0:=db
   omega
  .cases a
 unfold eI.wK;rw[ag H];unfold gC.ia;rw[af (gC.xV.2 ⟨cM,cM,l1,l2,cM⟩),ag (by rw[show sB.B.items.length=0 by kernel_rfl];omega)]
theorem v4: ∃c y,oq V sB 1 q4=(c,y)/\y.err=0/\y.num=1/\oq V c 1 q6=(c,y)/\oq V c 3 q6=(c,pV 2 16)/\c.B.items.length=1:=by
 obtain⟨d,hd,l1,l2⟩:=v3 (V:=V);have E:=Td l1 l2;have l:eI.FU sB 1 d 9=1:=by
  unfold eI.FU eI.wK at*;split at E
  .cases E
  .rename_i z;rw[ag z];unfold gC.zF;rw[af E];kernel_rfl
 have o:(eI.nk sB 1 d 9).B= { sB.B with items:=sB.B.items++ [⟨sB.B.next,1,d,9⟩],next:=sB.B.next+1 } :=by
  have h:=(eI.AS E).2;unfold eI.nk;rw[af E];exact af h
 have j:(eI.nk sB 1 d 9).A=sB.A:=by unfold eI.nk;rw[af E]
 have r:pU V sB 1 q4=⟨{ eI.nk sB 1 d 9 with tm:=0,sq:=1 },0,1,d.length, []⟩:=by
  have t:pU V sB 1 q4=tJ V sB 1 q4:=UZ rfl;have u:gg.iu sB.G q4.ep 1=0:=db
  have v:nm sB=some (0,1):=db
  have x:jZ sB.now (kr q4 (0,1)).p.eH=9:=db
  rw[t];unfold tJ;rw[af u,v];dsimp only;unfold kC;rw[hd];dsimp only;rw[x];unfold oQ;rw[af E,l]
 have b:=w4 (V:=V) (σ:=sB) (ses:=1) (q:=q4) db cM db db;rw[r]at b;have e1:kF q4.id ⟨{ eI.nk sB 1 d 9 with tm:=0,sq:=1 },0,1,d.length, []⟩=⟨2,0,1,d.length,0, []⟩:=rfl;rw[e1]at b;dsimp only at b;rw[j]at b;have H:(⟨2,0,1,(d.length:Int),0, []⟩:RD).lR:=⟨by show 2<=1099511627776;omega,⟨by show(0:Int)<=0;omega,by show(0:Int)<=99;omega⟩,⟨by show(0:Int)<=1;omega,by show(1:Int)<=1099511627776;omega⟩,⟨by show(0:Int)<=(d.length:Int);omega,by show(d.length:Int)<=_;omega⟩,by show 0<=2147483648;omega,bP _,λe=>absurd rfl e⟩;have s:Ng ⟨2,0,1,(d.length:Int),0, []⟩=(⟨2,0,1,(d.length:Int),0, []⟩:RD).enc:=af H;rw[s]at b;have A:(⟨2,0,1,(d.length:Int),0, []⟩:RD).enc.length<=1000:=cJ (Go.fQ.jr (bP _)) cM;have p:eY.lJ (eY.jM sB.A 1 q4.id (⟨2,0,1,(d.length:Int),0, []⟩:RD).enc) 1 2=some (⟨2,0,1,(d.length:Int),0, []⟩:RD).enc:=by
  generalize (⟨2,0,1,(d.length:Int),0, []⟩:RD).enc=w at A;have g:eY.km sB.A 1=some ⟨1,5,true,false, [(1, [1,0,0,0,0,0])], []⟩:=db
  have e2:eY.jM sB.A 1 q4.id w=eY.mF sB.A 1 ⟨1,5,true,false,eY.hN [(1, [1,0,0,0,0,0])] 2 w, []⟩:=by
   unfold eY.jM;rw[g];dsimp only;rw[ag (λh=>h.elim (λa=>absurd a cM) (λa=>ae))];rfl
  rw[e2];unfold eY.lJ;rw[yq g,af rfl];show eY.vU (eY.hN [(1, [1,0,0,0,0,0])] 2 w) 2=some w;kernel_rfl
 have f: ∀m,eY.Fy (eY.jM sB.A 1 q4.id (⟨2,0,1,(d.length:Int),0, []⟩:RD).enc) m=eY.Fy sB.A m:=λm=>BZ
 refine⟨_,_,b,rfl,rfl,?_,?_,?_⟩
 .rw[MZ db cM ((f 1).trans db) p,Go.fQ.LQ H];rfl
 .exact M0 db cM ((f 3).trans db)
 .show(eI.nk sB 1 d 9).B.items.length=1;rw[o];kernel_rfl

end Ask
end
section
namespace Ask
open jc (Ev cK ku)
open eI (SS Good Pt uW Mk Bk)
open Go.fQ (RD)
variable {V:List UInt8→Bool} {h h' l m g:ai} {R:fx} {s k c:Nat} {X j:Ft} {I:uW} {σ:SS} {p:cj} {ses:Int} {x:Rq} {L:List (Nat × ak.S)}
variable {n:Nat} {d:List UInt8}
theorem Iv(hk: gW h R (ku Cy)):ar Tryz.prog 9 #[] h R:=Gp.walk (ax.gh (x:=Cy.s) λ_ m _ H f1=>ax.fK (x:=Cy.s) H (hk m f1))
theorem j9(hk: gW h R (ku nA)):ar Tryz.prog 14 #[] h R:=Gq.walk (ax.gh (x:=nA.s) λ_ m _ H f1=>ax.fK (x:=nA.s) H (hk m f1))
theorem Iw:eI.F0 Cy:=⟨db,λe=>by cases bY Ev.kH e⟩
theorem EA{r:Nat}(B:Bk h s I n r)(hk:R (.bool true) h):ar Tryz.prog 10 #[pt s] h R:=by
 refine Ee.walk ?_;repeat (first|exact hk|refine⟨_,aw B,?_⟩|rw[af rfl])
def Bx(h:ai)(X:Ft)(L:List (Nat×ak.S)):Prop:= ∀e∈L,ak.fN h e.1 e.2/\¬X.M e.1
theorem Bx.step(B:Bx h X L)(st:bC X h j h'):Bx h' j L:=λe H=>⟨st.fr.get (B e H).1 (B e H).2,λb=>by
 rcases st.jl _ b with a|a
 .exact(B e H).2 a
 .have:=aF (B e H).1;omega⟩
theorem Bx.on(B:Bx h X L)(f:Fr No h h'):Bx h' X L:=λe H=>⟨f.get (B e H).1 id,(B e H).2⟩
def Rw(h:ai)(X:Ft)(p:cj)(d:List UInt8):Prop:=Row h p (bc d)/\(d≠ []->∀z,aP p z->¬X.M z)
theorem Rw.step(B:Rw h X p d)(st:bC X h j h'):Rw h' j p d:=by
 by_cases hd:d= []
 .subst hd;exact⟨Row.nil,λe=>absurd rfl e⟩
 .refine⟨B.1.frame st.fr (λa E f=>B.2 hd a.block ⟨a,E,rfl⟩ f),λ_ z H b=> ?_⟩;rcases st.jl z b with a|a
  .exact B.2 hd z H a
  .have:=ja B.1 (by simpa[bc]using hd) H;omega
theorem Rw.on(B:Rw h X p d)(f:Fr No h h'):Rw h' X p d:=⟨B.1.frame f (λ_ _=>id),B.2⟩
theorem my{K:Nat->ai->Prop}(E:En V l h s X I σ k)(z:k+2<=30000)(w:0<=x.ep.gH)(W:0<=x.dest.gH)(C:Row h p (bc x.oD))(cap:x.oD.length<=c)(B:Bx h X L)(u: ∀h' j b q d,En V l h' s j I (oq V σ ses x).1 (k+2)->Bx h' j ((b,rS (oq V σ ses x).2 q d)::L)->Rw h' j q (oq V σ ses x).2.b->bC X h j h'->K b h'):
  ar Tryz.prog 13 #[pt s,.I ses,(x.s p c).agg] h λv g=>ak.EX λt=>v=t.agg/\aS g (.cells ak.S.z.arr 44) λb f=>ak.cY f (AA b 0) t λi=>K b i:=by
 refine Ta E ae w W C cap λo a q d H S row nM=>ak.ex (rS (oq V σ ses x).2 q d) ⟨rfl,ak.gh (x:=rS (oq V σ ses x).2 q d) λb r D y f3=> ?_⟩
 have G:=Good.oq (V:=V) (ses:=ses) (q:=x) E.G E.H.ord E.hk w;have st:=S.on f3;refine u r a b q d (E.step (H.on f3) st G z) (λe he=> ?_) ((show Rw o a q _ from⟨row,nM⟩).on f3) st;rcases bD.1 he with rfl|he
 .exact⟨y,λA=>cf (H.lt b (.inl A))⟩
 .exact(B.step st) e he
theorem Bx.nth{b:Nat}{y:ak.S}(B:Bx h X L)(i:Nat)(H:L[i]? =some (b,y)):ak.fN h b y:=(B _ (bj H)).1
theorem En.M1(U:Cb.lW V l)(mx:tR.Mx l)(f:Fr No l m)(H:Pt h s X I (eI.u0 Cy))(u:KH m X h):En V l h s X I (eI.u0 Cy) 0:=
 ⟨H,eI.Good.new Iw.1 Iw.2 cM,ae,⟨f.tt u.fr,λc a=>cJ f.1 (u.ge c a)⟩,U,mx⟩
theorem kP(E:En V l h s X I σ k)(q:k+1<=30000)(token:Nat)(hk: ∀h' j a b,En V l h' s j I { σ with A:=eY.ko σ.A token } (k+1)->bC X h j h'->R (.tuple #[.I a,.I b]) h'):
  ar Tryz.prog 12 #[pt I.t,.U (token:Int)] h R:=by
 obtain⟨Z,r,v,u,go⟩:=E.H.use 0;refine eY.kP token rfl r E.G.a λH z T t=> ?_
 obtain⟨f,e,S,_,_⟩:=go H z { σ with A:=eY.ko σ.A token } T t (λi o=>eI.BR _ o);exact hk H f _ _ (E.step e S (eI.Good.ko E.G token) q) S
theorem yY(U:Cb.lW V l)(mx:tR.Mx l)(u:Fr No l h)(hk: gW h R (.bool true)):ar Tryz.prog 11 #[] h R:=by
 refine Ef.walk (Iv λm f1=>ax.ex Cy.s ⟨rfl,eI.iH Cy (λ_ h2 s X I H u2=>⟨_,_,rfl,aK.of λa' Q=> ?_⟩) (λn=>absurd Iw n)⟩);have E2:=En.M1 (U.mono u) (mx.on u) f1 H u2;rw[cW,ag bM];refine ay.2 ⟨_,aw H.cR,?_⟩;rw[ag bM];refine ay.2 ⟨_,aw H.cR,?_⟩;subst Q;dsimp only;rw[ag bM];refine ay.2 ⟨_,aw H.cR,kP E2 ae 5 λh3 X3 _ _ z v'=>⟨_,_,rfl,ay.2 ⟨_,aw z.H.cR,kP z ae 6 λP J _ _ C w'=>⟨_,_,rfl,?_⟩⟩⟩⟩;have M:({ ({ eI.u0 Cy with A:=eY.ko (eI.u0 Cy).A 5 } :SS)with A:=eY.ko ({ eI.u0 Cy with A:=eY.ko (eI.u0 Cy).A 5 } :SS).A 6 } :SS)=s1:=by unfold s1;rw[<-MX];rfl
 rw[M]at C;have F:Bx P J []:=λe T=>by cases T
 refine j9 λh5 f5=>ax.ex nA.s ⟨rfl,my (x:=q1) (p:=none) (c:=0) (C.on f5) ae cM cM Row.nil (aZ _) (F.on f5) λh6 X6 b6 _ _ v i _ _=> ?_⟩
 rw[v1]at v i;dsimp only at v i;refine j9 λh7 f7=>ax.ex nA.s ⟨rfl,my (x:=q1) (p:=none) (c:=0) (v.on f7) ae cM cM Row.nil (aZ _) (i.on f7) λh8 X8 b8 _ _ w o _ _=> ?_⟩
 rw[v2]at w o;dsimp only at w o;obtain⟨x',y,e1,N,D,e2,K,el⟩:=v4 (V:=V);refine j9 λh9 f9=>ax.ex nA.s ⟨rfl,j9 λl' f10=>ax.ex nA.s ⟨rfl,kk.Qy (bs:= [120]) rfl λm' row f11=>my (x:=q4) (w.on (f9.tt (f10.tt f11))) ae cM cM row (aZ _) (o.on (f9.tt (f10.tt f11))) λn' b' e' _ _ E b _ _=> ?_⟩⟩
 rw[e1]at E b;dsimp only at E b;refine j9 λo' f13=>ax.ex nA.s ⟨rfl,my (x:=q6) (p:=none) (c:=0) (E.on f13) ae cM cM Row.nil (aZ _) (b.on f13) λp' c' f' _ _ q a _ _=> ?_⟩
 rw[e2]at q a;dsimp only at q a;refine j9 λq' f15=>ax.ex nA.s ⟨rfl,my (x:=q6) (p:=none) (c:=0) (q.on f15) ae cM cM Row.nil (aZ _) (a.on f15) λr' d' g' _ _ r f _ _=> ?_⟩
 rw[K]at r f;dsimp only at r f;refine MW (x:=⟨2,0,.zero,.zero,0,0,0, [],0,0,false⟩) (p:=none) (c:=0) λs' f17=>ak.ex (rS (pV 2 6) none 0) ⟨rfl,ak.gh (x:=rS (pV 2 6) none 0) λi' t' k' S f18=> ?_⟩
 have B:=f.on (f17.tt f18);have t:=r.on (f17.tt f18);refine⟨_,aw (B.nth 4 rfl),?_⟩;rw[af (by rfl)];refine⟨_,aw (B.nth 4 rfl),?_⟩;rw[af (by rfl)];refine⟨_,aw (B.nth 3 rfl),?_⟩;rw[af (by rfl)];refine⟨_,aw (B.nth 2 rfl),?_⟩;rw[af (by show(y.err==0)=true;rw[N];rfl)];refine⟨_,aw (B.nth 2 rfl),?_⟩;rw[af (by show(y.num==1)=true;rw[D];rfl)];refine⟨_,aw (B.nth 1 rfl),?_⟩;rw[af (by show(y.num==1)=true;rw[D];rfl)];refine⟨_,aw (B.nth 1 rfl),_,aw (B.nth 2 rfl),?_⟩;rw[af (by show(y.count==y.count)=true;simp)];refine⟨_,aw (B.nth 0 rfl),?_⟩;rw[af (by rfl)];refine⟨_,aw S,?_⟩;rw[af (by rfl)];obtain⟨Z,W⟩:=t.H.box;refine ay.2 ⟨_,aw t.H.cR,gC.BW W λO u' Y j' G f19=>⟨_,_,_,rfl,?_⟩⟩;have ll:Y=1:=by rw[G.len];exact el
 rw[ll];exact hk O (t.u.fr.tt f19)
theorem OQ{C:eZ.CF}{data:List UInt8}(h:C=eZ.lL ⟨[Cz data 0 0],2,0,0,0, [(1,5000)], []⟩ (Cz data 0 0) 1 n):C.L= [Cz data 1 n]/\C.next=2/\C.fw=0/\C.over=0/\C.gone=0:=by subst h;exact⟨rfl,rfl,rfl,rfl,rfl⟩
theorem Vq(a b c d e f:Int):vw Tryz.prog 50 (.agg #[.I a,.I b,.I c,.I d,.I e,.I f]) (.agg #[.I a,.I b,.I c,.I d,.I e,.I f]) true:=by
 have q:(a==a && (b==b && (c==c && (d==d && (e==e && (f==f && true))))))=true:=bM
 rw[<-q];exact vw.of db
theorem oj(E:En V l h s X I σ k)(i:k+1<=30000)(r:Nat)(o:eI.pT σ r=0)(hk: ∀h' j e,En V l h' s j I (eI.AQ σ r) (k+1)->bC X h j h'->R (.I e) h'):ar Tryz.prog 16 #[pt s,.U (r:Int)] h R:=by
 obtain⟨L,ok⟩:=E.H.okB;have G:=eI.Good.pass E.G E.H.ord L ok E.hk r;have a:eI.DP σ r=eI.AQ σ r:=af o;rw[a]at G;exact eI.oj r rfl E.H E.G E.hk λf b H S=>by rw[a]at H;exact hk f b _ (E.step H S G i) S
theorem Qa(h:n<=100000):IntKind.wrap .i64 (n:Int)=(n:Int):=bz ae ae
theorem _root_.Go.Proofs.YtlenamcfacpheaaGreatDoor.askLeases_ok(gk s':Int)(dp:cj)(dl dc:Nat)(wt:(Lit.int .u8 gk).wf=true)(wl:(Lit.int .u8 s').wf=true)(hv:rL Tryz.prog h 22 (.slice dp dl dc))(ut: ∃V,Cb.lW V h)(mx:tR.Mx h):KD Tryz.prog 3 #[.int .u8 gk,.int .u8 s',.slice dp dl dc] h:=by
 obtain⟨data,rfl,row⟩:=rL.bytes db kk.u8 kk.uU hv;obtain⟨V,U⟩:=ut;obtain⟨t,rfl⟩: ∃t:Nat,gk=(t:Int):=⟨gk.toNat,cf (wf_u8 wt)⟩;obtain⟨r,rfl⟩: ∃r:Nat,s'=(r:Int):=⟨s'.toNat,cf (wf_u8 wl)⟩;have ht:t<=255:=by have:=wf_u8 wt;omega
 have hr:r<=255:=by have:=wf_u8 wl;omega
 clear hv wt wl;unfold KD;generalize hR:(λ(v:Value) h'=>v=.bool true/\Fr No h h')=R;have hk: ∀h',Fr No h h'->R (.bool true) h':=λh' hf=>by rw[<-hR];exact⟨rfl,hf⟩
 clear hR;refine wO.walk (Iv λm f1=>ax.ex Cy.s ⟨rfl,eI.iH Cy (λ_ h2 s X I H2 u2=>⟨_,_,rfl,aK.of λJ hJ=> ?_⟩) (λn=>absurd Iw n)⟩);have E2:=En.M1 U mx f1 H2 u2;rw[cW];refine EA H2.cR ⟨_,rfl,?_⟩;rw[cW];have jt:J true h2:=by
  subst hJ;dsimp only;rw[af rfl,fO];refine EA H2.cR ⟨_,rfl,?_⟩;rw[af rfl];exact yY U mx E2.u.fr λh3 f3=>⟨_,rfl,hk h3 (E2.u.fr.tt f3)⟩
 by_cases g1:data.length<1
 .rw[fO];exact jt
 rw[cW];by_cases g2:data.length>300
 .rw[aq ae];exact jt
 rw[az ae];clear jt;subst hJ;dsimp only;rw[cW];have eT:IntKind.wrap .i64 (1+IntKind.wrap .i64 (t:Int))=((1+t:Nat):Int):=by rw[Qa ae,bz ae ae];omega
 have eR:IntKind.wrap .i64 (r:Int)=(r:Int):=Qa ae;have Y':IntKind.wrap .u64 (r:Int)=(r:Int):=wrap_u64 ae ae;rw[eT,eR,Y'];clear eT eR Y';refine ay.2 ⟨_,aw H2.cR,kP E2 ae 5 λh3 X3 _ _ E3 Wo=>⟨_,_,rfl,ay.2 ⟨_,aw E3.H.cR,kP E3 ae 6 λh4 X4 _ _ E4 Wp=>⟨_,_,rfl,?_⟩⟩⟩⟩;have e4:({ ({ eI.u0 Cy with A:=eY.ko (eI.u0 Cy).A 5 } :SS)with A:=eY.ko ({ eI.u0 Cy with A:=eY.ko (eI.u0 Cy).A 5 } :SS).A 6 } :SS)=s1:=by unfold s1;rw[<-MX];rfl
 rw[e4]at E4;have B0:Bx h4 X4 []:=λe he=>by cases he
 clear E2 E3 Wo Wp H2 u2 f1;have n1:1<=1+t:=ae
 have n2:1+t<=256:=ae
 generalize hn:1+t=n at n1 n2⊢;refine j9 λh5 f5=>ax.ex nA.s ⟨rfl,my (x:=q1) (p:=none) (c:=0) (E4.on f5) ae cM cM Row.nil (aZ _) (B0.on f5) λh6 X6 b6 _ _ E6 B6 _ _=> ?_⟩
 rw[v1]at E6 B6;dsimp only at E6 B6;refine ay.2 ⟨_,aw E6.H.cR,j9 λh7 f7=>ax.ex nA.s ⟨rfl,f7.kp,?_⟩⟩;have u:=E6.on f7;have B7:=B6.on f7;obtain⟨Z,y,zm,zd,go⟩:=u.H.use 2;refine eZ.x8 y (u.G.small u.H.ord ae) (λz y=>(u.G.c.ok.bd z y).2.1) cM nA (d:=data) 5000 rfl (row.frame u.u.fr (λ_ _=>id)) rfl (λhd a ea hm=>by
  have:=ja row (by simpa[bc]using hd) ⟨a,ea,rfl⟩;have:=u.u.ge a.block (.inl (zm _ hm));omega) λh8 Z8 T s8=>⟨_,_,rfl,?_⟩
 obtain⟨X8,H8,O',_,_⟩:=go h8 Z8 { sA with C:=eZ.jx sA.C nA data 5000 } T s8 (λi hi=>eI.uX _ hi);have E8:=u.step H8 O' (eI.Good.QI u.G u.H.ord ae nA cM data 5000) ae;have B8:=B7.step O';rw[QI sA.C rfl data ae ae]at E8;clear u B7 E6 B6 E4 B0 go y zm zd T s8 H8 O';have L8:Li { sA with C:=⟨[Cz data 0 0],2,0,0,0, [(1,5000)], []⟩ } 1 0:=by
  refine⟨?_,rfl,rfl⟩;have h:=Au.kO (ses:=1) (id:=1) Rc rfl [1,0,0,0,0,0];have e:eY.jM two 1 1 [1,0,0,0,0,0]=sA.A:=db
  rw[e]at h;exact h
 generalize Z':({ sA with C:=⟨[Cz data 0 0],2,0,0,0, [(1,5000)], []⟩ } :SS)=U' at E8 L8;have T:U'.C=⟨[Cz data 0 0],2,0,0,0, [(1,5000)], []⟩:=by rw[<-Z']
 clear Z';have D:=Li.do (V:=V) (id:=2) L8 (.inl rfl) rfl rfl (MY n1 ae ae ae) (show(7:Int)<11 by decide) (Wm (n:=n) (id:=2) (data:=data) (by rw[T]) L8.g L8.n ae) rfl rfl rfl;refine j9 λh9 f9=>ax.ex nA.s ⟨rfl,my (x:=q2 n 2) (p:=none) (c:=0) (E8.on f9) ae (show(0:Int)<=1 by decide) (show(0:Int)<=0 by decide) Row.nil (aZ _) (B8.on f9) λTJ Xy Xz XA d10 C' x' I' _=> ?_⟩
 rw[D.1]at x' I';obtain⟨_,F',S⟩:=D;obtain⟨P',H⟩: ∃z,(oq V U' 1 (q2 n 2)).1=z:=⟨_,rfl⟩;rw[H]at C' F' S;clear H;have S:P'.C=eZ.lL U'.C (Cz data 0 0) 1 n:=S;rw[T]at S;obtain⟨O,n',j',m',k'⟩:=OQ S;clear S L8 E8 B8 T;have D:=Li.do (V:=V) (id:=3) F' (.inr rfl) rfl rfl (vr (.inl rfl) ae ae) cM (ON (id:=3) (e:=14) (by rw[O,CA];exact af (.inr cM)) cM) rfl rfl rfl;refine my (x:=q3 3 8) (p:=none) (c:=0) C' ae cM cM Row.nil (aZ _) x' λV9 XB Wh _ _ D' y' _ N4=> ?_
 have V':=I'.step N4;rw[D.1]at y';obtain⟨_,G',b'⟩:=D;obtain⟨Q',H⟩: ∃z,(oq V P' 2 (q3 3 8)).1=z:=⟨_,rfl⟩;rw[H]at D' G' b';clear H;have b':Q'.C=P'.C:=b';rw[<-b']at O n' j' m' k';clear b' F' C' x' I' N4;have D:=Li.do (V:=V) (id:=4) G' (.inr rfl) rfl rfl (vr (.inr rfl) ae ae) cM (UX (id:=4) (e:=14) (by rw[O,CA];exact af (.inr cM)) cM) rfl rfl rfl;refine my (x:=q3 4 9) (p:=none) (c:=0) D' ae cM cM Row.nil (aZ _) y' λUK XC XD _ _ E' z' _ Te=> ?_
 have W':=V'.step Te;rw[D.1]at z';obtain⟨_,p',c'⟩:=D;obtain⟨R',H⟩: ∃z,(oq V Q' 2 (q3 4 9)).1=z:=⟨_,rfl⟩;rw[H]at E' p' c';clear H;have c':R'.C=Q'.C:=c';rw[<-c']at O n' j' m' k';clear c' G' D' y' V' Te;have D:=Li.do (V:=V) (id:=5) p' (.inr rfl) rfl rfl (MY (n:=1) ae ae ae ae) cM (UW (n:=1) (id:=5) p'.g) rfl rfl rfl;refine j9 λWd f13=>ax.ex nA.s ⟨rfl,my (x:=q2 1 5) (p:=none) (c:=0) (E'.on f13) ae cM cM Row.nil (aZ _) (z'.on f13) λTm XE XF _ _ e' A' _ Tf=> ?_⟩
 have X':=(W'.on f13).step Tf;rw[D.1]at A';obtain⟨_,g',d'⟩:=D;obtain⟨W,H⟩: ∃z,(oq V R' 2 (q2 1 5)).1=z:=⟨_,rfl⟩;rw[H]at e' g' d';clear H;have d':W.C=R'.C:=d';rw[<-d']at O n' j' m' k';clear d' p' E' z' W' Tf;have hp:eI.pT W r=0:=by unfold eI.pT;rw[cW,g'.n,cW]
 refine oj e' ae r hp λWf XG XH f' N'=>⟨_,rfl,?_⟩
 have J':=X'.step N';have o':=A'.step N';obtain⟨b,Q,M,P,N⟩:=Tc e'.G.c.ok e'.H.ord O (show r<5000 by omega);have i':Li (eI.AQ W r) 5 r:=⟨g'.a,g'.g,rfl⟩;have B':(eI.AQ W r).C=eZ.ie W.C (r:Int):=rfl;generalize eI.AQ W r=S' at f' i' B';rw[<-B']at b Q M P N;rw[n']at Q;rw[j']at M;rw[m']at P;rw[k']at N;clear B' g' e' A' X' N' hp O n' j' m' k';by_cases c:n<=r
 .rw[af c]at b;have D:=Li.do (V:=V) (id:=6) i' (.inl rfl) rfl rfl (vr (.inl rfl) ae ae) cM (ON (id:=6) (e:=14) (by rw[b,CA];exact af (.inl rfl)) cM) rfl rfl rfl;refine my (x:=q3 6 8) (p:=none) (c:=0) f' ae cM cM Row.nil (aZ _) o' λWq Ws Wt _ _ J G _ u'=> ?_
  rw[D.1]at G;obtain⟨_,K,q⟩:=D;obtain⟨Y,H⟩: ∃z,(oq V S' 1 (q3 6 8)).1=z:=⟨_,rfl⟩;rw[H]at J K q;clear H;have q:Y.C=S'.C:=q;rw[<-q]at b Q M P N;clear q i' f' o' J' u';have D:=Li.do (V:=V) (id:=7) K (.inl rfl) rfl rfl (vr (.inl rfl) ae ae) cM (ON (id:=7) (e:=14) (by rw[b,CA];exact af (.inl rfl)) cM) rfl rfl rfl;refine my (x:=q3 7 8) (p:=none) (c:=0) J ae cM cM Row.nil (aZ _) G λWu Wv Ww _ _ E a' _ v'=> ?_
  rw[D.1]at a';obtain⟨_,H',f⟩:=D;obtain⟨T',H⟩: ∃z,(oq V Y 1 (q3 7 8)).1=z:=⟨_,rfl⟩;rw[H]at E H' f;clear H;have f:T'.C=Y.C:=f;rw[<-f]at b Q M P N;clear f K J G v';have ln:=OO E.G.c.ok E.H.ord (.inr ⟨data,b⟩);obtain⟨Z,y,_⟩:=E.H.use 2;refine ay.2 ⟨_,aw E.H.cR,eZ.AI y (E.G.small E.H.ord ae) λWx f18=>⟨_,_,_,_,_,_,rfl,fC.new λK' L' U0 w f19=> ?_⟩⟩;rw[Q,b,ln,M,P,N]at w;have w:fC.at L' K' 1 1 0 0 0 0:=w;rw[fO];refine yY U mx (E.u.fr.tt (f18.tt f19)) λM' f20=>⟨_,rfl,?_⟩
  rw[af rfl];have F:=f18.tt (f19.tt f20);have B:=a'.on F;refine⟨_,aw (B.nth 6 rfl),?_⟩;rw[af (by rfl)];refine⟨_,aw (B.nth 5 rfl),?_⟩;rw[af (by rfl)];refine⟨_,aw (B.nth 4 rfl),?_⟩;rw[af (by rfl)];refine⟨_,aw (B.nth 3 rfl),?_⟩;rw[af (by rfl)];refine⟨_,aw (B.nth 2 rfl),?_⟩;rw[af (by rfl)];refine⟨_,aw (B.nth 1 rfl),?_⟩;rw[af (by rfl)];refine⟨_,aw (B.nth 0 rfl),?_⟩;rw[af (by rfl)];exact fC.ld (f20.get w id) ⟨_,Vq 1 1 0 0 0 0,hk M' (E.u.fr.tt F)⟩
 .rw[ag c]at b;obtain⟨o,ho,oe,oA,oG,on,oC⟩:=Wn (V:=V) (id:=6) b;have D:=Li.do (V:=V) (id:=6) i' (.inl rfl) rfl rfl (vr (.inl rfl) ae ae) cM ho oA oG on;refine my (x:=q3 6 8) (p:=none) (c:=0) f' ae cM cM Row.nil (aZ _) o' λWq Ws Wt _ _ J G _ u'=> ?_
  have Wy:=J'.step u';have eo:kF 6 o=⟨6,0,o.num,o.xX,0,o.d⟩:=af oe;rw[D.1,eo]at G;obtain⟨_,K,q⟩:=D;obtain⟨Y,H⟩: ∃z,(oq V S' 1 (q3 6 8)).1=z:=⟨_,rfl⟩;rw[H]at J K q;clear H;rw[oC]at q;obtain⟨l',q',w',t',r'⟩:=UY b;rw[<-q]at l' q' w' t' r';rw[Q]at w';rw[M]at q';rw[P]at t';rw[N]at r';clear q i' f' o' J' u' b Q M P N oA oG on oC ho;have D:=Li.do (V:=V) (id:=7) K (.inl rfl) rfl rfl (vr (.inl rfl) ae ae) cM (ON (id:=7) (e:=4) (by rw[l'];rfl) cM) rfl rfl rfl;refine my (x:=q3 7 8) (p:=none) (c:=0) J ae cM cM Row.nil (aZ _) G λWu Wv Ww _ _ E a' _ v'=> ?_
  have Wz:=Wy.step v';rw[D.1]at a';obtain⟨_,H',f⟩:=D;obtain⟨T',H⟩: ∃z,(oq V Y 1 (q3 7 8)).1=z:=⟨_,rfl⟩;rw[H]at E H' f;clear H;have f:T'.C=Y.C:=f;rw[<-f]at l' w' q' t' r';clear f K J G v';have ln:=OO E.G.c.ok E.H.ord (.inl l');obtain⟨Z,y,_⟩:=E.H.use 2;refine ay.2 ⟨_,aw E.H.cR,eZ.AI y (E.G.small E.H.ord ae) λWx f18=>⟨_,_,_,_,_,_,rfl,fC.new λK' L' U0 w f19=> ?_⟩⟩;rw[w',l',ln,q',t',r']at w;have w:fC.at L' K' 1 0 0 1 0 0:=w;rw[cW];refine yY U mx (E.u.fr.tt (f18.tt f19)) λM' f20=>⟨_,rfl,?_⟩
  rw[af rfl];have F:=f18.tt (f19.tt f20);have B:=a'.on F;refine⟨_,aw (B.nth 6 rfl),?_⟩;rw[af (by rfl)];refine⟨_,aw (B.nth 5 rfl),?_⟩;rw[af (by rfl)];refine⟨_,_,_,aw (B.nth 5 rfl),_,kk.conv (Wz.on F).1 rfl,_,kk.conv (row.frame (E.u.fr.tt F) (λ_ _=>id)) rfl,?_⟩;rw[af (by show((str data).toList==(str data).toList)=true;simp)];refine⟨_,aw (B.nth 4 rfl),?_⟩;rw[af (by rfl)];refine⟨_,aw (B.nth 3 rfl),?_⟩;rw[af (by rfl)];refine⟨_,aw (B.nth 2 rfl),?_⟩;rw[af (by rfl)];refine⟨_,aw (B.nth 1 rfl),?_⟩;rw[af (by rfl)];refine⟨_,aw (B.nth 0 rfl),?_⟩;rw[af (by rfl)];exact fC.ld (f20.get w id) ⟨_,Vq 1 0 0 1 0 0,hk M' (E.u.fr.tt F)⟩

end Ask
end
theorem zZ{H:Type}{enc:TypeId×Value->H}{C:Checked}{o:Os}{f:FuncId}{F:Func}{s:ChangeSpec}{d:List PathCond}{apart fresh k A:Bool}{a:Assume}{X:World->Array Value->Prop}(m: ∀(w w':World)(args:Array Value),w.heap=w'.heap->X w args->X w' args)(own:ownKnob C.prog.godebug=none)(u:o.Started)(N:C.prog.inits.idxOf? f=none)(n:C.prog.funcs[f]? =some F)(x: ∃(w:World)(T:Tape)(i:Input),w.os=o/\(w.forCall T i).Shaped C.prog/\i.vars= []/\Input.okWide C.prog (w.forCall T i) .any w.heap.size f i/\
   ((s.pre enc C.prog F d apart (w.forCall T i).memory i.args/\X (w.forCall T i).memory i.args)/\sizedMet enc C.prog F (OpenSpec.ofChange s) apart (w.forCall T i).memory i.args)/\a.holds C.prog (lone (Frame.enter C.prog f i.args .normal) [] (w.forCall T i)))(l: ∀(W:World)(B:Nat)(args:Array Value)(ds G:List (DataW H))(b:List MemPlace),W.ShapedOpen C.prog->(∀(j:Nat) t v,F.params[j]? =some t->args[j]? =some v->Value.okWide C.prog W .any B t v)->
   DataW.Whole enc C.prog F.params.toList s.vars apart W args.toList ds G b->X W args->Calls C.prog f args W λe c=> ∃v,e=.returned v/\s.post enc C.prog F apart fresh k A W args v c):
  ReturnsInHanded a C o f .any (λw args=>(s.pre enc C.prog F d apart w args/\X w args)/\sizedMet enc C.prog F (OpenSpec.ofChange s) apart w args) (s.post enc C.prog F apart fresh k A):=
 returnsInHanded_of_calls own u N x λw T i _ S _ ok pre _=>by
  obtain⟨_,_,_,g,p,_,_,_,_,val⟩:=ok;cases bn (p.symm.trans n);obtain⟨⟨⟨ds,G,b,q,_⟩,r⟩,_⟩:=pre;refine(l (w.forCall T i) w.heap.size i.args ds G b S val (DataW.Whole.of_heap (w':=w.forCall T i) (by rfl) q) (m _ _ _ (by rfl) r)).mono λe c h=> ?_
  obtain⟨v,rfl,h⟩:=h;exact ChangeSpec.post_blind h
theorem tR.Mx.Kh{W:World}(h:W.ShapedOpen Tryz.prog):tR.Mx W.heap:=by
 obtain⟨m,H⟩:=cell_of_shapedOpen_int (g:=5) (t:=3) (zero:= #[.I 0]) (k:=.i64) h (aQ db) db rfl db db db;rw[j0]at H;exact⟨m,H⟩

section
variable {h:ai} {R:fx}
theorem mL.walk{S:cj}{s i:Nat} (H:Bd 0 s/\aO S λa=>GO h (a.add (toNat 0*1)) λt27=>Bd 1 s/\aO S λA=>GO h (A.add (toNat 1*1)) λt31=>Bd 2 s/\aO S λb=>GO h (b.add (toNat 2*1)) λt37=>Bd 3 s/\aO S λc=>GO h (c.add (toNat 3*1)) λt43=>Bd 4 s/\aO S λd=>GO h (d.add (toNat 4*1)) λt49=>Bd 5 s/\aO S λe=>GO h (e.add (toNat 5*1)) λt55=>Bd 6 s/\aO S λf=>GO h (f.add (toNat 6*1)) λt61=>Bd 7 s/\aO S λg=> ∃t67,aB h (g.add (toNat 7*1))=some (.int .u8 t67)/\R (.U (wrap .u64 ((mf (wrap .u64 ((mf (wrap .u64 ((mf (wrap .u64 ((mf (wrap .u64 ((mf (wrap .u64 ((mf (wrap .u64 ((mf (wrap .u64 t27)|||mf (wrap .u64 ((wrap .u64 t31)*2 ^ min (toNat 8) (IntKind.bits .u64)))).toNat:Int))|||mf (wrap .u64 ((wrap .u64 t37)*2 ^ min (toNat 16) (IntKind.bits .u64)))).toNat:Int))|||mf (wrap .u64 ((wrap .u64 t43)*2 ^ min (toNat 24) (IntKind.bits .u64)))).toNat:Int))|||mf (wrap .u64 ((wrap .u64 t49)*2 ^ min (toNat 32) (IntKind.bits .u64)))).toNat:Int))|||mf (wrap .u64 ((wrap .u64 t55)*2 ^ min (toNat 40) (IntKind.bits .u64)))).toNat:Int))|||mf (wrap .u64 ((wrap .u64 t61)*2 ^ min (toNat 48) (IntKind.bits .u64)))).toNat:Int))|||mf (wrap .u64 ((wrap .u64 t67)*2 ^ min (toNat 56) (IntKind.bits .u64)))).toNat:Int))) h):ar Tryz.prog 324 #[.slice S s i] h R:=aR (lq (sq (cq (sq (pN 23) lf) lf) (sq (pN 47) lf))) Tryz.func324 H
theorem sc.walk{L:cj}{g F:Nat} (hv:((0:Int)<=(g:Int)/\(g:Int)<=(F:Int))/\((0:Int)<=(g:Int)/\(g:Int)<=(g:Int))/\∃(I:cj->Nat->Nat->ai->Prop)(M:cj->Nat->Nat->ai->Nat),I (cE L (toNat (g:Int)) 0 1) (toNat (g:Int)) (toNat (g:Int)) h/\∀(c:cj)(p P:Nat)(f:ai),I c p P f->if(decide ((p:Int)>0))then aK (λ(N:cj) (K G:Nat) (z:ai)=>(I N K G z/\M N K G z<M c p P f)) (λJ=>Bd 0 p/\aO c λa=> ∃t18,aB f (a.add (toNat 0*1))=some (.int .u8 t18)/\if(decide (t18<128))then((0:Int)<=1/\1<=(p:Int))/\aK (λ(t31:Bool) (o:ai)=>aK (λ(D':cj) (y' t':Nat) (q':ai)=>J D' y' t' q') (λs=>if t31 then((0:Int)<=8/\8<=((p - (toNat 1):Nat):Int))/\aK (λ(t46:Bool) (D:ai)=>aK (λ(E':cj) (z' u':Nat) (r':ai)=>s E' z' u' r') (λu=>if t46 then((0:Int)<=16/\16<=(((p - (toNat 1)) - (toNat 8):Nat):Int))/\∃(m:cj->Nat->Nat->ai->Prop)(E:cj->Nat->Nat->ai->Nat),m (cE (cE (cE c P (toNat 1) 1) (P - (toNat 1)) (toNat 8) 1) ((P - (toNat 1)) - (toNat 8)) (toNat 16) 1) (((p - (toNat 1)) - (toNat 8)) - (toNat 16)) (((P - (toNat 1)) - (toNat 8)) - (toNat 16)) D/\∀(i:cj)(e d:Nat)(l:ai),m i e d l->aK (λ(t69:Bool) (q:ai)=>if t69 then((0:Int)<=32/\32<=(e:Int))/\(m (cE i d (toNat 32) 1) (e - (toNat 32)) (d - (toNat 32)) q/\E (cE i d (toNat 32) 1) (e - (toNat 32)) (d - (toNat 32)) q<E i e d l)else u i e d q) (λw=>if(decide ((e:Int)>32))then((0:Int)<=8/\8<=(e:Int))/\((0:Int)<=16/\16<=(e:Int))/\((0:Int)<=24/\24<=(e:Int))/\Cl 324 #[.slice i e d] l λv s'=>Vu v λt54=>Cl 324 #[.slice (cE i d (toNat 8) 1) (e - (toNat 8)) (d - (toNat 8))] s' λI' f'=>Vu I' λt57=>Cl 324 #[.slice (cE i d (toNat 16) 1) (e - (toNat 16)) (d - (toNat 16))] f' λJ' g'=>Vu J' λt61=>Cl 324 #[.slice (cE i d (toNat 24) 1) (e - (toNat 24)) (d - (toNat 24))] g' λK' h'=> ∃t64,K'=.U t64/\w ((wrap .u64 ((mf (wrap .u64 ((mf (wrap .u64 ((mf t54|||mf t57).toNat:Int))|||mf (wrap .u64 ((mf t61|||mf t64).toNat:Int))).toNat:Int)) &&& mf 9259542123273814144).toNat:Int))==0) h' else w false l)else u (cE (cE c P (toNat 1) 1) (P - (toNat 1)) (toNat 8) 1) ((p - (toNat 1)) - (toNat 8)) ((P - (toNat 1)) - (toNat 8)) D)) (λt=>if(decide ((((p - (toNat 1)) - (toNat 8):Nat):Int)>16))then((0:Int)<=8/\8<=(((p - (toNat 1)) - (toNat 8):Nat):Int))/\Cl 324 #[.slice (cE (cE c P (toNat 1) 1) (P - (toNat 1)) (toNat 8) 1) ((p - (toNat 1)) - (toNat 8)) ((P - (toNat 1)) - (toNat 8))] o λL' i'=>Vu L' λt39=>Cl 324 #[.slice (cE (cE (cE c P (toNat 1) 1) (P - (toNat 1)) (toNat 8) 1) ((P - (toNat 1)) - (toNat 8)) (toNat 8) 1) (((p - (toNat 1)) - (toNat 8)) - (toNat 8)) (((P - (toNat 1)) - (toNat 8)) - (toNat 8))] i' λM' j'=> ∃t42,M'=.U t42/\t ((wrap .u64 ((mf (wrap .u64 ((mf t39|||mf t42).toNat:Int)) &&& mf 9259542123273814144).toNat:Int))==0) j' else t false o)else s (cE c P (toNat 1) 1) (p - (toNat 1)) (P - (toNat 1)) o)) (λr=>if(decide (((p - (toNat 1):Nat):Int)>8))then Cl 324 #[.slice (cE c P (toNat 1) 1) (p - (toNat 1)) (P - (toNat 1))] f λN' k'=> ∃t28,N'=.U t28/\r ((wrap .u64 ((mf t28 &&& mf 9259542123273814144).toNat:Int))==0) k' else r false f)else Bd t18 256/\GO f (((AA 3 0):Addr).add (toNat t18*1)) λt74=>Bd (Int.fdiv t74 (2 ^ min (toNat 4) (IntKind.bits .u8))) 16/\∃T,aB f (((AA 4 0):Addr).add (toNat (Int.fdiv t74 (2 ^ min (toNat 4) (IntKind.bits .u8)))*2))=some (.int .u8 T)/\∃O,aB f ((((AA 4 0):Addr).add (toNat (Int.fdiv t74 (2 ^ min (toNat 4) (IntKind.bits .u8)))*2)).add 1)=some (.int .u8 O)/\aS f (.cells #[.int .u8 0,.int .u8 0] 421) λb l'=>aE l' (AA b 0) (.int .u8 T) λm'=>aE m' (AA b 1) (.int .u8 O) λH=>aK (λ(F':cj) (A' v':Nat) (n':ai)=>J F' A' v' n') (λQ=>aK (λ(G':cj) (B' w':Nat) (o':ai)=>Q G' B' w' o') (λx=>if((wrap .i64 (wrap .u8 ((oR t74 &&& oR 7).toNat:Int)))==2)then aK (λ(t103:Bool) (A:ai)=>if t103 then R (.bool false) A else((0:Int)<=2/\2<=(p:Int))/\x (cE c P (toNat 2) 1) (p - (toNat 2)) (P - (toNat 2)) A) (λn=>if(decide ((p:Int)<2))then n true H else Bd 1 p/\aO c λS=>GO H (S.add (toNat 1*1)) λt91=> ∃t93,Cc H b 0 (.int .u8 t93)/\if(decide (t91<t93))then n true H else Hy H b 1 λt98=>Bd 1 p/\aO c λX=> ∃t101,aB H (X.add (toNat 1*1))=some (.int .u8 t101)/\n (decide (t98<t101)) H)else aK (λ(H':cj) (C' x':Nat) (p':ai)=>x H' C' x' p') (λy=>if((wrap .i64 (wrap .u8 ((oR t74 &&& oR 7).toNat:Int)))==3)then aK (λ(t138:Bool) (B:ai)=>if t138 then R (.bool false) B else((0:Int)<=3/\3<=(p:Int))/\y (cE c P (toNat 3) 1) (p - (toNat 3)) (P - (toNat 3)) B) (λk=>if(decide ((p:Int)<3))then k true H else Bd 1 p/\aO c λY=>GO H (Y.add (toNat 1*1)) λt114=> ∃t116,Cc H b 0 (.int .u8 t116)/\if(decide (t114<t116))then k true H else Hy H b 1 λt121=>Bd 1 p/\aO c λZ=> ∃t124,aB H (Z.add (toNat 1*1))=some (.int .u8 t124)/\if(decide (t121<t124))then k true H else Bd 2 p/\aO c λa'=> ∃t130,aB H (a'.add (toNat 2*1))=some (.int .u8 t130)/\if(decide (t130<128))then k true H else Bd 2 p/\aO c λb'=> ∃t136,aB H (b'.add (toNat 2*1))=some (.int .u8 t136)/\k (decide (191<t136)) H)else if((wrap .i64 (wrap .u8 ((oR t74 &&& oR 7).toNat:Int)))==4)then aK (λ(t185:Bool) (C:ai)=>if t185 then R (.bool false) C else((0:Int)<=4/\4<=(p:Int))/\y (cE c P (toNat 4) 1) (p - (toNat 4)) (P - (toNat 4)) C) (λj=>if(decide ((p:Int)<4))then j true H else Bd 1 p/\aO c λc'=>GO H (c'.add (toNat 1*1)) λt149=> ∃t151,Cc H b 0 (.int .u8 t151)/\if(decide (t149<t151))then j true H else Hy H b 1 λt156=>Bd 1 p/\aO c λd'=> ∃t159,aB H (d'.add (toNat 1*1))=some (.int .u8 t159)/\if(decide (t156<t159))then j true H else Bd 2 p/\aO c λe'=> ∃t165,aB H (e'.add (toNat 2*1))=some (.int .u8 t165)/\if(decide (t165<128))then j true H else Bd 2 p/\aO c λU=> ∃t171,aB H (U.add (toNat 2*1))=some (.int .u8 t171)/\if(decide (191<t171))then j true H else Bd 3 p/\aO c λV=> ∃t177,aB H (V.add (toNat 3*1))=some (.int .u8 t177)/\if(decide (t177<128))then j true H else Bd 3 p/\aO c λW=> ∃t183,aB H (W.add (toNat 3*1))=some (.int .u8 t183)/\j (decide (191<t183)) H)else R (.bool false) H))))else R (.bool true) f):ar Tryz.prog 316 #[.slice L g F] h R:=aR (lq (lq (sq (bq (.loop [(0,.one (.slice))] (sq (lq (cq lf lf)) (.join [(0,.one (.slice))] (bq (lq (sq (lq (cq (lq (sq (sq (.join [(31,.one (.bool))] lf) (.join [(0,.one (.slice))] (cq (lq (sq (.join [(46,.one (.bool))] (.gS (.op 0 (.op 1 (.op 2 (.op 3 (.op 4 (.op 6 (.op 7 (.op 5 (.op 8 (.op 9 (.op 10 (.op 11 (.op 12 .done))))))))))))))) (.join [(0,.one (.slice))] (cq (lq (bq (.loop [(0,.one (.slice))] (sq (sq (.join [(69,.one (.bool))] (.gS (.op 0 (.op 1 (.op 2 (.op 3 (.op 4 (.op 6 (.op 7 (.op 10 (.op 11 (.op 13 (.op 14 (.op 5 (.op 8 (.op 9 (.op 12 (.op 15 (.op 16 (.op 17 (.op 18 (.op 19 (.op 20 .done))))))))))))))))))))))) (cq lf lf)) (bq lf))))) lf)))) lf))) lf)) lf)) (lq (lq (lq (lq (.join [(0,.one (.slice))] (bq (lq (.join [(0,.one (.slice))] (cq (sq (sq (.join [(103,.one (.bool))] (pN 19)) (cq ll lf)) lf) (lq (.join [(0,.one (.slice))] (cq (sq (sq (.join [(138,.one (.bool))] (pN 31)) (cq ll lf)) lf) (lq (cq (sq (sq (.join [(185,.one (.bool))] (pN 43)) (cq ll lf)) lf) ll))))))))))))))))))))) ll))) Tryz.func316 hv

end
section
namespace Cb
variable {h H h' g:ai} {R:fx} {p:cj} {l c:Nat} {b bs:List UInt8} {FT A0 A1:Nat→Int}
variable {A B:Prop}
def bI(b:List UInt8)(i:Nat):Int:=((b.getD i 0).toNat:Int)
def U1(a0 a d e f i j k:Int):Int:=(IntKind.wrap .u64 ((BitVec.ofInt (IntKind.bits .u64) (IntKind.wrap .u64 ((BitVec.ofInt (IntKind.bits .u64) (IntKind.wrap .u64 ((BitVec.ofInt (IntKind.bits .u64) (IntKind.wrap .u64 ((BitVec.ofInt (IntKind.bits .u64) (IntKind.wrap .u64 ((BitVec.ofInt (IntKind.bits .u64) (IntKind.wrap .u64 ((BitVec.ofInt (IntKind.bits .u64) (IntKind.wrap .u64 ((BitVec.ofInt (IntKind.bits .u64) (IntKind.wrap .u64 a0)|||BitVec.ofInt (IntKind.bits .u64) (IntKind.wrap .u64 ((IntKind.wrap .u64 a)*2 ^ min (Int.toNat 8) (IntKind.bits .u64)))).toNat:Int))|||BitVec.ofInt (IntKind.bits .u64) (IntKind.wrap .u64 ((IntKind.wrap .u64 d)*2 ^ min (Int.toNat 16) (IntKind.bits .u64)))).toNat:Int))|||BitVec.ofInt (IntKind.bits .u64) (IntKind.wrap .u64 ((IntKind.wrap .u64 e)*2 ^ min (Int.toNat 24) (IntKind.bits .u64)))).toNat:Int))|||BitVec.ofInt (IntKind.bits .u64) (IntKind.wrap .u64 ((IntKind.wrap .u64 f)*2 ^ min (Int.toNat 32) (IntKind.bits .u64)))).toNat:Int))|||BitVec.ofInt (IntKind.bits .u64) (IntKind.wrap .u64 ((IntKind.wrap .u64 i)*2 ^ min (Int.toNat 40) (IntKind.bits .u64)))).toNat:Int))|||BitVec.ofInt (IntKind.bits .u64) (IntKind.wrap .u64 ((IntKind.wrap .u64 j)*2 ^ min (Int.toNat 48) (IntKind.bits .u64)))).toNat:Int))|||BitVec.ofInt (IntKind.bits .u64) (IntKind.wrap .u64 ((IntKind.wrap .u64 k)*2 ^ min (Int.toNat 56) (IntKind.bits .u64)))).toNat:Int))
def v8(b:List UInt8):Int:=U1 (bI b 0) (bI b 1) (bI b 2) (bI b 3) (bI b 4) (bI b 5) (bI b 6) (bI b 7)
def U2(n:Int):Bool:=(IntKind.wrap .u64 ((BitVec.ofInt (IntKind.bits .u64) n &&& BitVec.ofInt (IntKind.bits .u64) 9259542123273814144).toNat:Int))==0
def Tp(a b:Int):Int:=IntKind.wrap .u64 ((BitVec.ofInt (IntKind.bits .u64) a|||BitVec.ofInt (IntKind.bits .u64) b).toNat:Int)
def yZ(b:List UInt8):Bool:=decide (b.length>32) && U2 (Tp (Tp (v8 b) (v8 (b.drop 8))) (Tp (v8 (b.drop 16)) (v8 (b.drop 24))))
def Bb(b:List UInt8):Bool:=decide (b.length>16) && U2 (Tp (v8 b) (v8 (b.drop 8)))
def Ki(b:List UInt8):Bool:=decide (b.length>8) && U2 (v8 b)
def tQ:Nat->List UInt8->List UInt8
 |0,b=>b
 |f+1,b=>if yZ b=true then tQ f (b.drop 32)else b
def EB(b:List UInt8):List UInt8:=if Ki b=true then(if Bb (b.drop 8)=true then tQ (b.length+1) ((b.drop 8).drop 16)else b.drop 8)else b
def oI(x:Int):Int:=IntKind.wrap .i64 (IntKind.wrap .u8 ((BitVec.ofInt (IntKind.bits .u8) x &&& BitVec.ofInt (IntKind.bits .u8) 7).toNat:Int))
def wP(x:Int):Int:=Int.fdiv x (2 ^ min (Int.toNat 4) (IntKind.bits .u8))
def nB(n:Nat)(L a:Int)(b:List UInt8):Bool:=decide (b.length<n)||(decide (bI b 1<L)||decide (a<bI b 1))
def oJ(b:List UInt8)(i:Nat):Bool:=decide (bI b i<128)||decide (191<bI b i)
def wa(FT A0 A1:Nat->Int)(b:List UInt8):Option (List UInt8):=
 if bI b 0<128 then some (EB (b.drop 1))
 else if oI (FT (bI b 0).toNat)=2 then(if nB 2 (A0 (wP (FT (bI b 0).toNat)).toNat) (A1 (wP (FT (bI b 0).toNat)).toNat) b=true then none else some (b.drop 2))
 else if oI (FT (bI b 0).toNat)=3 then(if(nB 3 (A0 (wP (FT (bI b 0).toNat)).toNat) (A1 (wP (FT (bI b 0).toNat)).toNat) b||oJ b 2)=true then none else some (b.drop 3))
 else if oI (FT (bI b 0).toNat)=4 then(if(nB 4 (A0 (wP (FT (bI b 0).toNat)).toNat) (A1 (wP (FT (bI b 0).toNat)).toNat) b||(oJ b 2||oJ b 3))=true then none else some (b.drop 4))
 else none
def Ix(n:List UInt8->Option (List UInt8)):Nat->List UInt8->Bool
 |0,_=>true
 |f+1,b=>if b.length=0 then true else match n b with|none=>false|some r=>Ix n f r
theorem OR(n:List UInt8->Option (List UInt8))(f:Nat):Ix n (f+1) b=if b.length=0 then true else match n b with|none=>false|some r=>Ix n f r:=rfl
def sd(FT A0 A1:Nat->Int)(f:Nat)(b:List UInt8):Bool:=Ix (wa FT A0 A1) f b
theorem OS(f:Nat):tQ (f+1) b=if yZ b=true then tQ f (b.drop 32)else b:=rfl
theorem EC(f:Nat):sd FT A0 A1 (f+1) b=if b.length=0 then true else match wa FT A0 A1 b with|none=>false|some r=>sd FT A0 A1 f r:=by unfold sd;exact OR _ _
theorem Be: ∀(f:Nat)(b:List UInt8),(tQ f b).length<=b.length
 |0,b=>aZ _
 |f+1,b=>by
  unfold tQ;split
  .exact cJ (Be f _) (by rw[bN];omega)
  .exact aZ _
theorem M4(b:List UInt8):(EB b).length<=b.length:=by
 unfold EB;split
 .split
  .exact cJ (Be _ _) (by rw[bN,bN];omega)
  .rw[bN];omega
 .exact aZ _
theorem Kj{r:List UInt8}(e:b.length≠0)(a:wa FT A0 A1 b=some r):r.length<b.length:=by
 have d: ∀k,1<=k->(b.drop k).length<b.length:=λk hk=>by rw[bN];omega
 unfold wa at a
 repeat' split at a
 all_goals first|(cases a;done)|(cases a;first|exact d _ cM|exact Nat.lt_of_le_of_lt (M4 _) (d 1 cM))
structure CB (h:ai) (FT A0 A1:Nat->Int):Prop where
 f: ∀i,i<256->aB h ⟨3,i,none⟩=some (.int .u8 (FT i))/\0<=FT i/\FT i<256
 a: ∀i,i<16->aB h ⟨4,i*2,none⟩=some (.int .u8 (A0 i))/\aB h ⟨4,i*2+1,none⟩=some (.int .u8 (A1 i))
theorem CB.on(U:CB h FT A0 A1)(f:Fr No h h'):CB h' FT A0 A1:=⟨λi a=>⟨f.cell (U.f i a).1 id,(U.f i a).2⟩,λi a=>⟨f.cell (U.a i a).1 id,f.cell (U.a i a).2 id⟩⟩
structure Sl (h:ai) (p:cj) (l c:Nat) (b:List UInt8):Prop where
 row:Row h p (bc b)
 len:l=b.length
 cap:l<=c
theorem Sl.drop(S:Sl h p l c b){k:Nat}(hk:k<=b.length):Sl h (cE p c k 1) (l - k) (c - k) (b.drop k):=by
 have d:=S.len;have a:=S.cap;refine⟨?_,by rw[bN];omega,ae⟩;have:=S.row.sub (cap:=c) (l:=k) (u:=b.length) (sz:=1) hk ae;rw[cr,cr]at this;unfold bc at this⊢;rw[bG (by rw[aJ];omega)]at this;rw[List.map_drop];exact this
theorem Sl.on(S:Sl h p l c b)(f:Fr No h h'):Sl h' p l c b:=⟨S.row.frame f (λ_ _=>id),S.len,S.cap⟩
theorem Sl.at{i:Nat}(S:Sl h p l c b)(d:i<b.length): ∃a,p=some a/\aB h (a.add (i*1))=some (.int .u8 (bI b i)):=by
 obtain⟨a,e,f⟩:=byte_at S.row d;refine⟨a,e,?_⟩;unfold bI;rw[aX,aj d];exact f
theorem Tg(b:List UInt8)(i:Nat):0<=bI b i/\bI b i<256:=by
 unfold bI;have:=(b.getD i 0).toNat_lt;omega
theorem Re{x:Int}(H:0<=x)(a:x<256):0<=wP x/\wP x<16:=by
 have e:wP x=x/16:=Int.fdiv_eq_ediv_of_nonneg x cM;rw[e];omega
theorem Kk{c:Prop}[Decidable c](d:c)(a:A):if c then A else B:=by rw[af d];exact a
theorem Kl{c:Prop}[Decidable c](d: ¬c)(a:B):if c then A else B:=by rw[ag d];exact a
theorem ox(S:Sl h p l c b)(j:8<=b.length)(hk:R (.U (v8 b)) h):ar Tryz.prog 324 #[.slice p l c] h R:=by
 have k:=S.len;obtain⟨a,rfl,c0⟩:=S.at (i:=0) ae;have C: ∀i,i<b.length->aB h (a.add (i*1))=some (.int .u8 (bI b i)):=λi d=>by
  obtain⟨f,e,c⟩:=S.at (i:=i) d;cases e;exact c
 refine mL.walk ?_;refine⟨⟨ae,ae⟩,ay.2 ⟨_,C 0 ae,⟨ae,ae⟩,ay.2 ⟨_,C 1 ae,⟨ae,ae⟩,ay.2 ⟨_,C 2 ae,⟨ae,ae⟩,ay.2 ⟨_,C 3 ae,⟨ae,ae⟩,ay.2 ⟨_,C 4 ae,⟨ae,ae⟩,ay.2 ⟨_,C 5 ae,⟨ae,ae⟩,ay.2 ⟨_,C 6 ae,⟨ae,ae⟩,ay.2 ⟨_,C 7 ae,?_⟩⟩⟩⟩⟩⟩⟩⟩⟩;exact hk
theorem M6{vv:Bool}(hV:sd FT A0 A1 (bs.length+1) bs=vv)(UT:CB h FT A0 A1)(row:Row h p (bc bs))(hl:bs.length<=1000000)(cap:bs.length<=c)(hk: ∀g,Fr No h g->R (.bool vv) g):ar Tryz.prog 316 #[.slice p bs.length c] h R:=by
 refine sc.walk ⟨⟨ae,ae⟩,⟨ae,ae⟩,λp l c g=>Fr No h g/\∃b f,Sl g p l c b/\b.length<f/\b.length<=1000000/\sd FT A0 A1 f b=vv,λ_ l _ _=>l,⟨Fr.refl _ _,bs,bs.length+1,⟨by rw[jB];exact row,aI _,aZ _⟩,Nat.lt_succ_self _,hl,hV⟩,?_⟩;clear hV;rintro p l c g ⟨N,b,f,S,hf,hb,w⟩;have z':=S.len;by_cases c0:b.length=0
 case pos=>
  rw[cW];have:sd FT A0 A1 f b=true:=by
   cases f with
   |zero=>rfl
   |succ f=>rw[EC,af c0]
  rw[w.symm.trans this]at hk;exact hk g N
 rw[af (by simp only[aY];omega)];refine aK.of λr' hJ=> ?_
 obtain⟨f,rfl⟩: ∃F,f=F+1:=⟨f - 1,ae⟩;rw[EC,ag c0]at w;have m: ∀(G:ai)(p':cj)(V c':Nat)(s:List UInt8),Fr No g G->Sl G p' V c' s->wa FT A0 A1 b=some s->r' p' V c' G:=by
  intro G p' V c' s F S' U;subst hJ;have A':=Kj c0 U;rw[U]at w;exact⟨⟨N.tt F,s,f,S',ae,ae,w⟩,by have:=S'.len;show V<l;omega⟩
 have stop: ∀G,Fr No g G->wa FT A0 A1 b=none->R (.bool false) G:=by
  intro G F U;rw[U]at w;rw[<-w]at hk;exact hk G (N.tt F)
 clear hJ w hk;obtain⟨a,rfl,ca⟩:=S.at (i:=0) ae;have n0:=Tg b 0;refine⟨⟨ae,ae⟩,ay.2 ⟨_,ca,?_⟩⟩;by_cases c1:bI b 0<128
 .have E:wa FT A0 A1 b=some (EB (b.drop 1)):=af c1;rw[E]at m;clear stop E;rw[af (aq c1)];refine⟨⟨ae,ae⟩,aK.of λJ1 s'=> ?_⟩;have I:=S.drop (k:=1) ae;generalize hr:b.drop 1=r at m I;have n': ∀v,v=Ki r->J1 v g:=by
   intro v d;subst s';refine aK.of λJ2 b'=> ?_
   cases t:Ki r with
   |false=>
    rw[d,t,cW];subst b';exact m g _ _ _ _ (Fr.refl _ _) I (by unfold EB;rw[t];rfl)
   |true=>
   rw[d,t,af rfl];have l8:r.length>8:=by unfold Ki at t;simp only[aT,aY]at t;exact t.1
   have J:=I.drop (k:=8) ae;have f':=I.len;refine⟨⟨ae,by show(8:Int)<=((l - 1:Nat):Int);omega⟩,aK.of λJ3 t'=> ?_⟩;have o': ∀v,v=Bb (r.drop 8)->J3 v g:=by
    intro v d;subst t';refine aK.of λJ4 l'=> ?_
    cases D:Bb (r.drop 8)with
    |false=>
     rw[d,D,cW];subst l';subst b';exact m g _ _ _ _ (Fr.refl _ _) J (by unfold EB;rw[t,af rfl,D];rfl)
    |true=>
    rw[d,D,af rfl];have B':(r.drop 8).length>16:=by unfold Bb at D;simp only[aT,aY]at D;exact D.1
    have S3:=J.drop (k:=16) ae;have T:=J.len;have eF:EB r=tQ (r.length+1) ((r.drop 8).drop 16):=by unfold EB;rw[t,af rfl,D,af rfl]
    rw[eF]at m;refine⟨⟨ae,by show(16:Int)<=((l - 1 - 8:Nat):Int);omega⟩,λp l c G=>G=g/\∃s F,Sl g p l c s/\s.length<F/\tQ F s=tQ (r.length+1) ((r.drop 8).drop 16),λ_ l _ _=>l,⟨rfl,_,_,S3,by rw[bN,bN];omega,rfl⟩,?_⟩;rintro p5 l5 c5 G ⟨rfl,P,f5,u,x',M⟩;have y':=u.len;obtain⟨f5,rfl⟩: ∃F,f5=F+1:=⟨f5 - 1,ae⟩;rw[OS]at M;refine aK.of λJ5 u'=> ?_
    have q': ∀v,v=yZ P->J5 v G:=by
     intro v d;subst u';dsimp only;cases z:yZ P with
     |false=>
      rw[d,z,cW];rw[z,cW]at M;subst l';subst b';exact m G _ _ _ _ (Fr.refl _ _) u (by rw[M])
     |true=>
      rw[d,z,af rfl];rw[z,af rfl]at M;have C':P.length>32:=by unfold yZ at z;simp only[aT,aY]at z;exact z.1
      exact⟨⟨ae,ae⟩,⟨rfl,_,f5,u.drop (k:=32) ae,by rw[bN];omega,M⟩,by show l5 - 32<l5;omega⟩
    by_cases q:P.length>32
    .rw[fO];refine⟨⟨ae,ae⟩,⟨ae,ae⟩,⟨ae,ae⟩,ox u ae ⟨_,rfl,ox (u.drop (k:=8) ae) (by rw[bN];omega) ⟨_,rfl,ox (u.drop (k:=16) ae) (by rw[bN];omega) ⟨_,rfl,ox (u.drop (k:=24) ae) (by rw[bN];omega) ⟨_,rfl,q' _ ?_⟩⟩⟩⟩⟩;unfold yZ;rw[aq q];rfl
    .rw[cW];exact q' false (by unfold yZ;rw[az q];rfl)
   have T:=J.len;by_cases q:(r.drop 8).length>16
   .rw[af (aq (by show((l - 1 - 8:Nat):Int)>16;have:l - 1 - 8=(r.drop 8).length:=T;omega))];refine⟨⟨ae,by show(8:Int)<=((l - 1 - 8:Nat):Int);have:l - 1 - 8=(r.drop 8).length:=T;omega⟩,ox J ae ⟨_,rfl,ox (J.drop (k:=8) ae) (by rw[bN];omega) ⟨_,rfl,o' _ ?_⟩⟩⟩;unfold Bb;rw[aq q];rfl
   .rw[ag (by simp only[aY];show¬((l - 1 - 8:Nat):Int)>16;have:l - 1 - 8=(r.drop 8).length:=T;omega)];exact o' false (by unfold Bb;rw[az q];rfl)
  have f':=I.len;by_cases q:r.length>8
  .rw[af (aq (by show((l - 1:Nat):Int)>8;have:l - 1=r.length:=f';omega))];refine ox I ae ⟨_,rfl,n' _ ?_⟩;unfold Ki;rw[aq q];rfl
  .rw[ag (by simp only[aY];show¬((l - 1:Nat):Int)>8;have:l - 1=r.length:=f';omega)];exact n' false (by unfold Ki;rw[az q];rfl)
 obtain⟨x0,x1,x2⟩:=(UT.on N).f (bI b 0).toNat ae;have E:wa FT A0 A1 b=_:=ag c1;generalize FT (bI b 0).toNat=x at x0 x1 x2 E;have rr:=Re x1 x2;obtain⟨y0,y1⟩:=(UT.on N).a (wP x).toNat ae;generalize A0 (wP x).toNat=L at y0 E;generalize A1 (wP x).toNat=n at y1 E;rw[cW];refine⟨⟨ae,ae⟩,x,by rw[gl,bE,cr];exact x0,rr,L,by rw[gl,bE];exact y0,n,by rw[gl,gl,bE];exact y1,cC ?_⟩;have j':Fr No g (g.push (.cells #[.int .u8 0,.int .u8 0] 421)):=Fr.push _ _;have g':(g.push (.cells #[.int .u8 0,.int .u8 0] 421))[g.size]? =_:=bT;generalize g.push (.cells #[.int .u8 0,.int .u8 0] 421)=v' at j' g'⊢;refine bB g' bM λw' a1 a2 a3=>bB a1 bM λj i' b2 b3=> ?_
 have o:Fr No g j:=(j'.fresh (Fr.of_eq (S:=λy=>y=g.size) a2 a3) (λy e=>ae)).fresh (Fr.of_eq (S:=λy=>y=g.size) b2 b3) (λy e=>ae);have k':=S.on o;have C: ∀i,i<b.length->aB j (a.add (i*1))=some (.int .u8 (bI b i)):=λi n=>by
  obtain⟨a',e,c⟩:=k'.at (i:=i) n;cases e;exact c
 have cl:aB j (AA g.size 0)=some (.int .u8 L):=aw i';have ch:aB j (AA g.size 1)=some (.int .u8 n):=aw i';have dr: ∀k,k<=b.length->Sl j (cE (some a) c k 1) (l - k) (c - k) (b.drop k):=λk hk=>k'.drop hk
 refine aK.of λJ6 d'=>aK.of λJ7 e'=> ?_
 by_cases X:oI x=2
 .replace E:=E.trans (af X);refine Kk (show(oI x==2)=true from cP.2 X) (aK.of λK O=> ?_);have key: ∀v,v=nB 2 L n b->K v j:=by
   intro v d;subst O;rw[<-d]at E;cases v with
   |true=>exact Kk rfl (stop j o (E.trans (af rfl)))
   |false=>
    have l2:2<=b.length:=by simp[nB]at d;omega
    refine Kl cM ⟨⟨ae,ae⟩,?_⟩;subst e';subst d';exact m j _ _ _ _ o (dr 2 l2) (E.trans (cW))
  by_cases Q:b.length<2
  .rw[fO];exact key true (by simp[nB,Q])
  rw[cW];refine⟨⟨ae,ae⟩,ay.2 ⟨_,C 1 ae,_,cl,?_⟩⟩;by_cases q1:bI b 1<L
  .rw[af (aq q1)];exact key true (by simp[nB,q1])
  rw[ag (cD q1)];exact⟨_,ch,⟨ae,ae⟩,ay.2 ⟨_,C 1 ae,key _ (by simp[nB,Q,q1])⟩⟩
 replace E:=E.trans (ag X);refine Kl (show¬(oI x==2)=true from λe=>X (cP.1 e)) (aK.of λJ9 m'=> ?_);by_cases Y:oI x=3
 .replace E:=E.trans (af Y);refine Kk (show(oI x==3)=true from cP.2 Y) (aK.of λK O=> ?_);have key: ∀v,v=(nB 3 L n b||oJ b 2)->K v j:=by
   intro v d;subst O;rw[<-d]at E;cases v with
   |true=>exact Kk rfl (stop j o (E.trans (af rfl)))
   |false=>
    have l2:3<=b.length:=by simp[nB]at d;omega
    refine Kl cM ⟨⟨ae,ae⟩,?_⟩;subst m';subst e';subst d';exact m j _ _ _ _ o (dr 3 l2) (E.trans (cW))
  by_cases Q:b.length<3
  .rw[fO];exact key true (by simp[nB,Q])
  rw[cW];refine⟨⟨ae,ae⟩,ay.2 ⟨_,C 1 ae,_,cl,?_⟩⟩;by_cases q1:bI b 1<L
  .rw[af (aq q1)];exact key true (by simp[nB,q1])
  rw[ag (cD q1)];refine⟨_,ch,⟨ae,ae⟩,ay.2 ⟨_,C 1 ae,?_⟩⟩;by_cases q2:n<bI b 1
  .rw[af (aq q2)];exact key true (by simp[nB,q2])
  rw[ag (cD q2)];refine⟨⟨ae,ae⟩,ay.2 ⟨_,C 2 ae,?_⟩⟩;by_cases q3:bI b 2<128
  .rw[af (aq q3)];exact key true (by simp[oJ,q3])
  rw[ag (cD q3)];exact⟨⟨ae,ae⟩,ay.2 ⟨_,C 2 ae,key _ (by simp[nB,oJ,Q,q1,q2,q3])⟩⟩
 replace E:=E.trans (ag Y);refine Kl (show¬(oI x==3)=true from λe=>Y (cP.1 e)) ?_;by_cases Z:oI x=4
 .replace E:=E.trans (af Z);refine Kk (show(oI x==4)=true from cP.2 Z) (aK.of λK O=> ?_);have key: ∀v,v=(nB 4 L n b||(oJ b 2||oJ b 3))->K v j:=by
   intro v d;subst O;rw[<-d]at E;cases v with
   |true=>exact Kk rfl (stop j o (E.trans (af rfl)))
   |false=>
    have l2:4<=b.length:=by simp[nB]at d;omega
    refine Kl cM ⟨⟨ae,ae⟩,?_⟩;subst m';subst e';subst d';exact m j _ _ _ _ o (dr 4 l2) (E.trans (cW))
  by_cases Q:b.length<4
  .rw[fO];exact key true (by simp[nB,Q])
  rw[cW];refine⟨⟨ae,ae⟩,ay.2 ⟨_,C 1 ae,_,cl,?_⟩⟩;by_cases q1:bI b 1<L
  .rw[af (aq q1)];exact key true (by simp[nB,q1])
  rw[ag (cD q1)];refine⟨_,ch,⟨ae,ae⟩,ay.2 ⟨_,C 1 ae,?_⟩⟩;by_cases q2:n<bI b 1
  .rw[af (aq q2)];exact key true (by simp[nB,q2])
  rw[ag (cD q2)];refine⟨⟨ae,ae⟩,ay.2 ⟨_,C 2 ae,?_⟩⟩;by_cases q3:bI b 2<128
  .rw[af (aq q3)];exact key true (by simp[oJ,q3])
  rw[ag (cD q3)];refine⟨⟨ae,ae⟩,ay.2 ⟨_,C 2 ae,?_⟩⟩;by_cases q4:191<bI b 2
  .rw[af (aq q4)];exact key true (by simp[oJ,q4])
  rw[ag (cD q4)];refine⟨⟨ae,ae⟩,ay.2 ⟨_,C 3 ae,?_⟩⟩;by_cases W:bI b 3<128
  .rw[af (aq W)];exact key true (by simp[oJ,W])
  rw[ag (cD W)];exact⟨⟨ae,ae⟩,ay.2 ⟨_,C 3 ae,key _ (by simp[nB,oJ,Q,q1,q2,q3,q4,W])⟩⟩
 refine Kl (show¬(oI x==4)=true from λe=>Z (cP.1 e)) ?_;exact stop j o (E.trans (ag Z))
theorem CB.WA(U:CB h FT A0 A1):lW (λbs=>sd FT A0 A1 (bs.length+1) bs) h:=λg p c bs R f row a cap hk=>M6 rfl (U.on f) row a cap hk

end Cb
end
section
namespace Cb
theorem Km: ∀i:Fin 256,Lib.firstT i.val<256:=cM
theorem CB.OT{W:World}{l:List (String×DataW Unit)}{s1 S:String}(w:Tryz.prog.globalNamed s1=some 3)(x:Tryz.prog.globalNamed S=some 4)(h:laidMet Tryz.prog l W)(M:(s1,Lib.firstData)∈l)(y:(S,Lib.acceptData)∈l): ∃V,lW V W.heap:=by
 refine⟨_,CB.WA (FT:=λi=>(Lib.firstT i:Int)) (A0:=λi=>(Lib.accLo i:Int)) (A1:=λi=>(Lib.accHi i:Int)) ⟨λc r=> ?_,λi v=> ?_⟩⟩
 .obtain⟨g,t,cs,F,p,a,o,m,hd⟩:=Lib.laidMet.reads h M;obtain rfl:3=g:=bn (w.symm.trans a);obtain rfl:419=t:=by
   have e:(Tryz.prog.globals[(3:Nat)]?).map (·.type)=some 419:=db
   exact bn (e.symm.trans o)
  have b:=Lib.cells_of_tab (n:=256) (e:=5) db db db db hd;have:=World.var?_cell a m c;rw[j0,<-df,b]at this;refine⟨?_,Int.natCast_nonneg _,by have:Lib.firstT c<256:=Km ⟨c,r⟩;show((Lib.firstT c:Nat):Int)<256;omega⟩;rw[this];simp[Lib.firstTab,r]
 .obtain⟨g,t,cs,F,p,a,o,m,hd⟩:=Lib.laidMet.reads h y;obtain rfl:4=g:=bn (x.symm.trans a);obtain rfl:422=t:=by
   have e:(Tryz.prog.globals[(4:Nat)]?).map (·.type)=some 422:=db
   exact bn (e.symm.trans o)
  obtain⟨z,d,q,s,u⟩:=Lib.array_elem (n:=16) (e:=421) db hd i v;simp only[aM,List.getElem?_range v,cO,bw]at s;subst s;have C:Tryz.prog.cellsOf 421=2:=db
  rw[C]at u;have b:=Lib.ints_of_struct (t:=421) (k:=.u8) (fs:= #[Go.Field.mk "lo" 5 0 false "" "unicode/utf8" 0,Go.Field.mk "hi" 5 1 false "" "unicode/utf8" 1]) db (λj f H=>by
   match j,H with
   |0,H=>simp at H;subst H;exact⟨db,rfl,db⟩
   |1,H=>simp at H;subst H;exact⟨db,rfl,db⟩
   |j+2,H=>simp at H) (by rw[C];rfl) u
  have E:=bY (·[0]?) b;have e1:=bY (·[1]?) b;simp only[cI,ft]at E e1;constructor
  .have:=World.var?_cell a m (i*2);rw[j0,<-df]at this;rw[this];simpa using E
  .have:=World.var?_cell a m (i*2+1);rw[j0,<-df]at this;rw[this];simpa using e1

end Cb
end
end Go.Proofs.YtlenamcfacpheaaGreatDoor
