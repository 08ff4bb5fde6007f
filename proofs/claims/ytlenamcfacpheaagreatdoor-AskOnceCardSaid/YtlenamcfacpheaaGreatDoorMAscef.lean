/-
  Ei is proved here: parts of xi proof, one behind xi other (texts of this work, merged by a program; GH xi theorem GI not use is left out). No condition.
-/
import Derived.Test.YtlenamcfacpheaaGreatDoorMAscee
set_option maxRecDepth 100000
set_option maxHeartbeats 4000000
namespace Go.Proofs.YtlenamcfacpheaaGreatDoor
open Go.Den
open IntKind (wrap)
open Int (toNat)
section
variable {h:ak} {R:fG}
variable {k e i:bZ} {j B d c g f:Nat} {x X:Int}
theorem N8.walk{n:Int}(l:aT h (.cells #[.I 0,.U 0,.Z,.Z] 262) λb a=>aa.ST a (AA b 0) 0 n none 0 0 none 0 0 λH=>aa.LD H (AA b 0) λr m q p o u t s=>R (.agg #[.I r,.U m,.slice q p o,.slice u t s]) H):Cl 205 #[.U n] h R:=aR (lq ll) Tryz.func205 l
theorem Ih.walk(m:aT h (.cells #[.I 0,.U 0,.Z,.Z] 262) λb a=>Cl 50 #[.slice k j B] a λv l=>Vl v λy w T=>aa.ST l (AA b 0) 2 0 y w T none 0 0 λH=>aa.LD H (AA b 0) λr n q p o u t s=>R (.agg #[.I r,.U n,.slice q p o,.slice u t s]) H):Cl 210 #[.slice k j B] h R:=aR (lq ll) Tryz.func210 m
theorem Lq.walk{s:ByteArray}(m:aT h (.cells #[.I 0,.U 0,.Z,.Z] 262) λb a=>aU Tryz.prog (convert 9 22 (.string s)) a λv l=>Vl v λz y T=>aa.ST l (AA b 0) 3 0 z y T none 0 0 λH=>aa.LD H (AA b 0) λr n q p o w u t=>R (.agg #[.I r,.U n,.slice q p o,.slice w u t]) H):Cl 255 #[.string s] h R:=aR (lq ll) Tryz.func255 m
theorem FM.walk(hv:aT h (.cells #[.I x,.U X,.slice e d c,.slice i g f] 262) λb V=>aT V (.cells #[.I 0,.U 0,.Z,.Z] 262) λo u=>Hl u b 2 λK' J' I'=>Cl 50 #[.slice K' J' I'] u λv Y=> ∃S Q P,v=.slice S Q P/\aQ Y (AA b 2) (.slice S Q P) λw=> ∃z t j',Cc w b 3 (.slice z t j')/\aQ w (AA b 3) (.Z) λZ=> ∃(I:Int->ak->Prop)(M:Int->ak->Nat),I 0 Z/\∀(t15:Int)(H:ak),I t15 H->if(decide (t15<((t:Nat):Int)))then Bd t15 t/\aO z λa=>aa.LD H (a.add (toNat t15*4)) λk' l' o' n' m' r' q' p'=>aT H (.cells #[.I 0,.U 0,.Z,.Z] 262) λp a'=>aa.ST a' (AA p 0) k' l' o' n' m' r' q' p' λl=>Hl l b 3 λn m T=>aa.LD l (AA p 0) λs' t' w' v' u' z' y' x'=>Cl 288 #[.agg #[.I s',.U t',.slice w' v' u',.slice z' y' x']] l λL' y=> ∃A C F E D K J G,L'=.agg #[.I A,.U C,.slice F E D,.slice K J G]/\Cc y b 3 (.slice n m T)/\aT y (.cells #[.I A,.U C,.slice F E D,.slice K J G] 262) λU q=>Cc q b 3 (.slice n m T)/\aU Tryz.prog (Builtin.append_ #[260,260] 260 #[.slice n m T,.slice (Sa U 0) 1 1]) q λM' W=> ∃O N L,M'=.slice O N L/\aQ W (AA b 3) (.slice O N L) λr=>(I (wrap .i64 (t15+1)) r/\M (wrap .i64 (t15+1)) r<M t15 H)else aa.LD H (AA b 0) λA' B' E' D' C' H' G' F'=>aa.ST H (AA o 0) A' B' E' D' C' H' G' F' λs=>aa.LD s (AA o 0) λb' c' f' e' d' i' h' g'=>R (.agg #[.I b',.U c',.slice f' e' d',.slice i' h' g']) s):Cl 288 #[.agg #[.I x,.U X,.slice e d c,.slice i g f]] h R:=aR (lq (lq (lq (lq (sq (lq (bq (.loop [(15,.one (.int .i64))] (lq (sq (cq lf lf) (sq (bq (lq (pN 8))) lf)))))) ll))))) Tryz.func288 hv
theorem Lr.walk{u:bZ}{L W:Nat}(V:aT h (.cells #[.I 0,.U 0,.Z,.Z] 262) λb O=>aT O (.cells #[.I 0,.U 0,.Z,.Z] 262) λl P=>aa.ST P (AA l 0) 4 0 none 0 0 none 0 0 λQ=> ∃(I:Int->ak->Prop)(M:Int->ak->Nat),I 0 Q/\∀(t9:Int)(H:ak),I t9 H->if(decide (t9<(L:Int)))then Bd t9 L/\aO u λa=>aa.LD H (a.add (toNat t9*4)) λg' h' k' j' i' n' m' l'=>aT H (.cells #[.I 0,.U 0,.Z,.Z] 262) λo S=>aa.ST S (AA o 0) g' h' k' j' i' n' m' l' λm=>Hl m l 3 λn T t=>aa.LD m (AA o 0) λo' p' s' r' q' v' u' t'=>Cl 288 #[.agg #[.I o',.U p',.slice s' r' q',.slice v' u' t']] m λv r=> ∃w y C A z F E D,v=.agg #[.I w,.U y,.slice C A z,.slice F E D]/\Cc r l 3 (.slice n T t)/\aT r (.cells #[.I w,.U y,.slice C A z,.slice F E D] 262) λN s=>Cc s l 3 (.slice n T t)/\aU Tryz.prog (Builtin.append_ #[260,260] 260 #[.slice n T t,.slice (Sa N 0) 1 1]) s λE' U=> ∃K J G,E'=.slice K J G/\aQ U (AA l 3) (.slice K J G) λp=>(I (wrap .i64 (t9+1)) p/\M (wrap .i64 (t9+1)) p<M t9 H)else aa.LD H (AA l 0) λw' x' A' z' y' D' C' B'=>aa.ST H (AA b 0) w' x' A' z' y' D' C' B' λq=>aa.LD q (AA b 0) λY Z c' b' a' f' e' d'=>R (.agg #[.I Y,.U Z,.slice c' b' a',.slice f' e' d']) q):Cl 247 #[.slice u L W] h R:=aR (lq (lq (sq (lq (bq (.loop [(9,.one (.int .i64))] (lq (sq (cq lf lf) (sq (bq (lq (pN 8))) lf)))))) ll))) Tryz.func247 V
theorem xX.walk{b:bZ}{A a:Nat}(H: ∃(t6:ByteArray),qq Tryz.prog 22 9 (.slice b A a) h t6/\∃(t8:ByteArray),qq Tryz.prog 22 9 (.slice k j B) h t8/\R (.bool (t6.toList==t8.toList)) h):Cl 82 #[.slice b A a,.slice k j B] h R:=aR (lq ll) Tryz.func82 H
theorem Ls.walk{A:Int}{m:Int}{p:bZ}{o n:Nat}{s:bZ}{r q:Nat}{t:Int}{a:Int}{y:bZ}{w u:Nat}{D:bZ}{C z:Nat}(G:aT h (.cells #[.I A,.U m,.slice p o n,.slice s r q] 262) λb E=>aT E (.cells #[.I t,.U a,.slice y w u,.slice D C z] 262) λa H=>Hi H b 0 λt6=> ∃t8,Cc H a 0 (.I t8)/\if(t6==t8)then Hu H b 1 λt12=> ∃t14,Cc H a 1 (.U t14)/\if(t12==t14)then Hl H b 2 λJ I T=>Hl H a 2 λM L K=>Cl 82 #[.slice J I T,.slice M L K] H λv l=> ∃t22,v=.bool t22/\if t22 then Hl l b 3 λP O N=>Hl l a 3 λU S Q=>Cl 289 #[.slice P O N,.slice U S Q,.func (.func 248) #[] #[]] l λV F=> ∃t29,V=.bool t29/\R (.bool t29) F else R (.bool false) l else R (.bool false) H else R (.bool false) H):Cl 248 #[.agg #[.I A,.U m,.slice p o n,.slice s r q],.agg #[.I t,.U a,.slice y w u,.slice D C z]] h R:=aR (lq ll) Tryz.func248 G
theorem gF.same.walk{p:bZ}{s w:Nat}{q:bZ}{S y:Nat}(u:if((s:Int) !=(S:Int))then R (.bool false) h else∃(I:Int->ak->Prop)(M:Int->ak->Nat),I 0 h/\∀(t17:Int)(H:ak),I t17 H->if(decide (t17<(s:Int)))then Bd t17 s/\aO p λa=>aa.LD H (a.add (toNat t17*4)) λT z E D C J G F=>aT H (.cells #[.I 0,.U 0,.Z,.Z] 262) λb r=>aa.ST r (AA b 0) T z E D C J G F λo=>Bd t17 S/\aO q λA=>aa.LD o (A.add (toNat t17*4)) λK L P O N V U Q=>aT o (.cells #[.I 0,.U 0,.Z,.Z] 262) λn t=>aa.ST t (AA n 0) K L P O N V U Q λl=>aa.LD l (AA b 0) λW Y b' a' Z e' d' c'=>aa.LD l (AA n 0) λf' g' j' i' h' m' l' k'=>Cl 248 #[.agg #[.I W,.U Y,.slice b' a' Z,.slice e' d' c'],.agg #[.I f',.U g',.slice j' i' h',.slice m' l' k']] l λv m=> ∃t29,v=.bool t29/\if(!t29)then R (.bool false) m else(I (wrap .i64 (t17+1)) m/\M (wrap .i64 (t17+1)) m<M t17 H)else R (.bool true) H):Cl 289 #[.slice p s w,.slice q S y,.func (.func 248) #[] #[]] h R:=aR (lq (sq (lq (cq ll lf)) (sq (lq (bq (.loop [(17,.one (.int .i64))] (lq (sq (cq lf lf) (sq (bq (lq (lq (lq (cq ll lf))))) lf)))))) ll))) Tryz.func289 u
theorem N9.walk(o:aT h (.cells #[.I x,.U X,.slice e d c,.slice i g f] 262) λb H=> ∃t4,Cc H b 0 (.I t4)/\if(t4==0)then∃F m E,Cc H b 2 (.slice F m E)/\if(((m:Nat):Int)==0)then∃q t p,Cc H b 3 (.slice q t p)/\R (.bool (((t:Nat):Int)==0)) H else R (.bool false) H else if(t4==2)then∃t20,Cc H b 1 (.U t20)/\if(t20==0)then∃s T r,Cc H b 3 (.slice s T r)/\R (.bool (((T:Nat):Int)==0)) H else R (.bool false) H else if(t4==3)then∃t31,Cc H b 1 (.U t31)/\if(t31==0)then∃w a u,Cc H b 3 (.slice w a u)/\if(((a:Nat):Int)==0)then Hl H b 2 λA z y=>Cl 316 #[.slice A z y] H λv n=> ∃t42,v=.bool t42/\R (.bool t42) n else R (.bool false) H else R (.bool false) H else if(t4==4)then∃t47,Cc H b 1 (.U t47)/\if(t47==0)then∃D l C,Cc H b 2 (.slice D l C)/\R (.bool (((l:Nat):Int)==0)) H else R (.bool false) H else R (.bool false) H):Cl 298 #[.agg #[.I x,.U X,.slice e d c,.slice i g f]] h R:=aR (lq (sq (lq (bq (lq (cq ll (lq (cq ll (lq (cq ll (lq (cq ll lf)))))))))) ll)) Tryz.func298 o
theorem Lt.walk{deep:Int}{left:Int}(s:aT h (.cells #[.I x,.U X,.slice e d c,.slice i g f] 262) λb l=>aI (λ(t19:Bool) (m:ak)=>if t19 then R (.I (-1)) m else Hl m b 3 λE t e'=> ∃(I:Int->Int->ak->Prop)(M:Int->Int->ak->Nat),I (wrap .i64 (left - 1)) 0 m/\∀(L:Int)(t25:Int)(H:ak),I L t25 H->if(decide (t25<(t:Int)))then Bd t25 t/\aO E λa=>aa.LD H (a.add (toNat t25*4)) λF G O N K S Q P=>aT H (.cells #[.I 0,.U 0,.Z,.Z] 262) λo q=>aa.ST q (AA o 0) F G O N K S Q P λp=>aa.LD p (AA o 0) λU V Z Y W c' b' a'=>Cl 260 #[.agg #[.I U,.U V,.slice Z Y W,.slice c' b' a'],.I (wrap .i64 (deep+1)),.I L] p λv n=> ∃t33,v=.I t33/\if(decide (t33<0))then R (.I (-1)) n else(I t33 (wrap .i64 (t25+1)) n/\M t33 (wrap .i64 (t25+1)) n<M L t25 H)else R (.I L) H) (λJ=>if(decide (deep>6))then J true l else if(decide (left<1))then J true l else aa.LD l (AA b 0) λT u z y w D C A=>Cl 298 #[.agg #[.I T,.U u,.slice z y w,.slice D C A]] l λd' r=> ∃t17,d'=.bool t17/\J (!t17) r)):Cl 260 #[.agg #[.I x,.U X,.slice e d c,.slice i g f],.I deep,.I left] h R:=aR (lq (sq (sq (.join [(19,.one (.bool))] lf) (cq ll lf)) (lq (sq (lq (bq (.loop [(2,.one (.int .i64)),(25,.one (.int .i64))] (lq (sq (cq lf lf) (sq (bq (lq (lq (lq (cq ll lf))))) lf)))))) ll)))) Tryz.func260 s
theorem Ii.walk(l:aT h (.cells #[.I x,.U X,.slice e d c,.slice i g f] 262) λb H=>aa.LD H (AA b 0) λt T o n m r q p=>Cl 260 #[.agg #[.I t,.U T,.slice o n m,.slice r q p],.I 1,.I 256] H λv a=> ∃t4,v=.I t4/\R (.bool (decide (t4≥0))) a):Cl 207 #[.agg #[.I x,.U X,.slice e d c,.slice i g f]] h R:=aR (lq ll) Tryz.func207 l
theorem Oa.walk{K:bZ}{G F:Nat} (hv:aT h (.cells #[.I x,.U X,.slice e d c,.slice i g f] 262) λb m=>Hu m b 1 λt11=>Hi m b 0 λt13=>aI (λ(n:Int) (y:ak)=>Hi y b 0 λt29=>Cl 261 #[.agg #[.I t29,.U n,.bool false]] y λv z=> ∃S Q P i',v=.tuple #[.slice S Q P,.I i']/\Hl z b 2 λW V U=>aU Tryz.prog (Builtin.append_ #[22,22] 22 #[.slice K G F,.slice S Q P]) z λG' A=>Vl G' λl' k' j'=>Cc A b 2 (.slice W V U)/\aU Tryz.prog (Builtin.append_ #[22,22] 22 #[.slice l' k' j',.slice W V U]) A λH' C=>Vl H' λo' n' m'=>Hl C b 3 λp' Y J'=> ∃(I:bZ->Nat->Nat->Int->ak->Prop)(M:bZ->Nat->Nat->Int->ak->Nat),I o' n' m' 0 C/\∀(p:bZ)(O o:Nat)(t44:Int)(l:ak),I p O o t44 l->if(decide (t44<(Y:Int)))then Bd t44 Y/\aO p' λa=>aa.LD l (a.add (toNat t44*4)) λq' r' u' t' s' x' w' v'=>aT l (.cells #[.I 0,.U 0,.Z,.Z] 262) λw b'=>aa.ST b' (AA w 0) q' r' u' t' s' x' w' v' λD=>aa.LD D (AA w 0) λy' z' C' B' A' F' E' D'=>Cl 208 #[.slice p O o,.agg #[.I y',.U z',.slice C' B' A',.slice F' E' D']] D λI' E=> ∃q T t,I'=.slice q T t/\(I q T t (wrap .i64 (t44+1)) E/\M q T t (wrap .i64 (t44+1)) E<M p O o t44 l)else R (.slice p O o) l) (λJ=>aI (λ(t14:Bool) (H:ak)=>aI (λ(c':Int) (Z:ak)=>J c' Z) (λs=>if t14 then∃f' L e',Cc H b 2 (.slice f' L e')/\s (wrap .u64 ((L:Nat):Int)) H else aI (λ(d':Int) (a':ak)=>s d' a') (λu=>if(t13==4)then∃h' N g',Cc H b 3 (.slice h' N g')/\u (wrap .u64 ((N:Nat):Int)) H else u t11 H))) (λr=>if(t13==2)then r (t13==2) m else r (t13==3) m))):Cl 208 #[.slice K G F,.agg #[.I x,.U X,.slice e d c,.slice i g f]] h R:=aR (lq (lq (sq (lq (.join [(5,.one (.int .u64))] (bq (sq (lq (.join [(14,.one (.bool))] (cq lf lf))) (.join [(5,.one (.int .u64))] (cq lf (lq (.join [(5,.one (.int .u64))] (cq lf lf))))))))) (lq (sq (.gT (.op 0 (.op 1 (.op 3 (.op 4 (.op 2 (.op 5 (.op 6 .done)))))))) (sq (lq (bq (.loop [(0,.one (.slice)),(44,.one (.int .i64))] (lq (sq (cq lf lf) (sq (bq ll) lf)))))) ll)))))) Tryz.func208 hv
theorem Ij.walk(n:aT h (.cells #[.I x,.U X,.slice e d c,.slice i g f] 262) λb a=>aa.LD a (AA b 0) λo p s r q y w u=>Cl 207 #[.agg #[.I o,.U p,.slice s r q,.slice y w u]] a λv H=> ∃t5,v=.bool t5/\if(!t5)then R (.tuple #[.Z,.I 3]) H else aa.LD H (AA b 0) λz A E D C I G F=>Cl 208 #[.Z,.agg #[.I z,.U A,.slice E D C,.slice I G F]] H λV m=> ∃l T t,V=.slice l T t/\R (.tuple #[.slice l T t,.I 0]) m):Cl 178 #[.agg #[.I x,.U X,.slice e d c,.slice i g f]] h R:=aR (lq (sq (lq (cq ll lf)) ll)) Tryz.func178 n

end
section
namespace Cb
variable {h h':ak} {R:fG} {p:bZ} {l c:Nat} {bs:cM}
variable {D:Nat->Prop} {t:Tr} {x:CV} {g0:ak} {bb cl:Nat} {k n:Int} {v:BV} {ts:List Tr} {ys:List CV} {q:bZ}
def sX(h:ak)(D:Nat->Prop)(t:Tr)(x:CV):Prop:=(x.k=t.k/\x.n=t.n/\x.v.b=t.b/\x.v.ok h D)/\∃ys:List CV,x.ll=ys.length/\fi h x.q ys.length x.cl 4 (ys.flatMap iC)/\(∀y,aL x.q y->D y)/\dx h (λy=>D y/\¬aL x.q y) t.l ys
theorem sX.Te(H:sX h D t x):gX h D t x:=by
 obtain⟨e,ys,a,d,f,g⟩:=H;cases t with
 |mk k n b l=>
  unfold gX;exact⟨e,ys,⟨a,d.iJ,λ_=>f,by rw[a];exact d.le⟩,dx.mono (λ_ i=>i.1) g⟩
structure RG (g0 g:ak) (bb:Nat) (k n:Int) (v:BV) (ts:List Tr) (ys:List CV) (q:bZ) (cl:Nat):Prop where
 cX:aa.at g bb k n v.p v.b.length v.c q ys.length cl
 own:fi g q ys.length cl 4 (ys.flatMap iC)
 ge: ∀y,aL q y->g0.size<=y
 tr:dx g (λy=>g0.size<=y/\¬aL q y) ts ys
 fr:Fr (λy=>y=bb) g0 g
theorem FN{g:ak}{y:CV}{Φ:ak->Prop}(L:RG g0 g bb k n v ts ys q cl)(w':bb<g0.size)(ll:ys.length<=100000000)(V: ∀(G:ak)(R:fG),Fr No g G->(∀h' z,sX h' (λc=>G.size<=c) t z->Fr No G h'->R z.agg h')->Cl 288 #[y.agg] G R)(hk: ∀m Y Q C,RG g0 m bb k n v (ts++ [t]) Y Q C->Y.length=ys.length+1->Φ m):
  aT g (.cells #[.I 0,.U 0,.Z,.Z] 262) λB e'=>
  aa.ST e' (AA B 0) y.k (y.n:Int) y.v.p y.v.b.length y.v.c y.q y.ll y.cl λj=>
  ∃(f:bZ)(d T:Nat),aX j (AA bb 3)=some (.slice f d T)/\
  aa.LD j (AA B 0) λk' l' o' n' m' r' q' p'=>
  Cl 288 #[.agg #[.I k',.U l',.slice o' n' m',.slice r' q' p']] j λs' s=>
  ∃(w A:Int)(J:bZ)(I E:Nat)(O:bZ)(M K:Nat),s'=.agg #[.I w,.U A,.slice J I E,.slice O M K]/\
  aX s (AA bb 3)=some (.slice f d T)/\
  aT s (.cells #[.I w,.U A,.slice J I E,.slice O M K] 262) λX r=>
  aX r (AA bb 3)=some (.slice f d T)/\
  aU Tryz.prog (Builtin.append_ #[260,260] 260 #[.slice f d T,.slice (Sa X 0) 1 1]) r λt' c'=>
  ∃(U:bZ)(S P:Nat),t'=.slice U S P/\
  aQ c' (AA bb 3) (.slice U S P) λd'=>Φ d':=by
 have zg:=L.fr.1;refine aa.new λb2 h8 u' f' f8=>⟨_,_,_,aq (f8.get L.cX id),aa.ld f' (V h8 _ f8 λh9 z tz f9=>⟨_,_,_,_,_,_,_,_,rfl,aq ((f8.tt f9).get L.cX id),aa.box λb3 a' v' g' f10=>⟨aq (((f8.tt f9).tt f10).get L.cX id),?_⟩⟩)⟩
 have F:=(f8.tt f9).tt f10;have z8:=f8.1;have z9:=f9.1;have x':=f10.1;have i':=L.own.frame F cb;have u: ∀y,aL q y->y<g.size:=λy H=>L.own.dw H
 refine dD tI uI i' (ds:=iC z) (.inr ⟨_,rfl,aa.held g'⟩) rfl (oU z) ae ae λQ C b' j' _ f11 i=>⟨_,_,_,rfl,?_⟩
 have y':=f11.1;have W:=f11.get (F.get L.cX id) (λH=>bR (L.ge _ H));refine bL W (by show 3<4;omega) λo d1 d2 d3=> ?_
 have f12:Fr (λy=>y=bb) b' o:=Fr.of_eq d2 (λc hc=>d3 c hc);have N: ∀y,aL Q y->g0.size<=y:=λy H=>by
  rcases i y H with a|a
  .exact L.ge y a
  .omega
 have Z:ys.flatMap iC++iC z=(ys++ [z]).flatMap iC:=by rw[bY];simp
 refine hk o (ys++ [z]) Q C ⟨?_,?_,N,?_,?_⟩ bQ
 .rw[ar];exact d1
 .rw[ar,<-Z];exact j'.frame f12 (λy H e=>bR (N y H))
 .have t1:=(dx.on L.tr.lt F).frame f11 (λy H b=>H.1.2 b);have t2:=gX.mono (D':=λy=>g.size<=y/\y<a'.size) (λy H=>ae) (tz.Te.lt.on f10);have t2:=gX.frame f11 (λy H b=>bR (u y b)) t2;have m1:=dx.mono (D':=λy=>g0.size<=y/\¬aL Q y) (λy H=>⟨H.1.1,λb=>by
   rcases i y b with a|a
   .exact H.1.2 a
   .have:=H.2;omega⟩) t1
  have m2:=gX.mono (D':=λy=>g0.size<=y/\¬aL Q y) (λy H=>⟨ae,λb=>by
   rcases i y b with a|a
   .have:=u y a;omega
   .omega⟩) t2
  exact dx.frame f12 (λy H e=>ae) (m1.snoc m2)
 .exact((L.fr.on F).trans f11 (S'':=λy=>y=bb) cb (λx hx H=>bR (L.ge x H))).trans f12 cb cb
theorem fz{n:Nat}(hk: iq h R (CV.agg ⟨0,n,⟨none,0, []⟩,none,0,0⟩)):Cl 205 #[.U (n:Int)] h R:=
 N8.walk (aa.new λb H e a f2=>aa.ld a (hk H f2))
theorem Sv{n:Nat}:sX h D (num n) ⟨0,n,⟨none,0, []⟩,none,0,0⟩:=
 ⟨⟨rfl,rfl,rfl,⟨Row.nil,λe=>absurd rfl e,bn _⟩⟩, [],rfl,.nil rfl rfl rfl rfl,(λy ⟨a,e,_⟩=>by cases e),by show dx h _ [] [];unfold dx;trivial⟩
theorem ir(row:Row h p (bc bs))(j:l=bs.length)(o:bs.length<=1000000)(hk: ∀h' (v:BV),v.b=bs->v.ok h' (λy=>h.size<=y)->Fr No h h'->R (CV.agg ⟨2,0,v,none,0,0⟩) h'):Cl 210 #[.slice p l c] h R:=by
 refine Ih.walk (aa.box λb m E d f1=>hM.gQ (row.frame f1 cb) j ae λP C f o2 f2 g=>⟨_,_,_,rfl,aa.set (f2.get d id) λa d1 d2 d3=>aa.ld d1 ?_⟩);have z:=f1.1;have f3:Fr (λy=>y=b) f a:=Fr.of_eq d2 (λc i=>d3 c i);refine hk a ⟨P,C,bs⟩ rfl (BV.jr (o2.frame f3 (λy H e=>gv (g y H) (aE d))) (λy H=>bR (g y H))) ((f1.tt f2).fresh f3 (λy e=>ae))
theorem mC{l:List Tr}(h:t∈l):room t<=dF l:=by
 induction l with
 |nil=>cases h
 |cons u l i=>
  simp only[dF];rcases bG.1 h with rfl|h
  .omega
  .have:=i h;omega
theorem RG.zero(H:aa.at g0 bb k n v.p v.b.length v.c none 0 0):RG g0 g0 bb k n v [] [] none 0:=
 ⟨H,.nil rfl rfl rfl rfl,(λy ⟨a,e,_⟩=>by cases e),by unfold dx;trivial,Fr.refl _ _⟩
theorem AE: ∀(N:Nat)(t:Tr),deep t<=N->room t<=100000000->∀(h:ak)(D:Nat->Prop)(x:CV)(R:fG),gX h D t x->(∀h' z,sX h' (λy=>h.size<=y) t z->Fr No h h'->R z.agg h')->Cl 288 #[x.agg] h R
 |0,.mk k n b l,hd,_,_,_,_,_,_,_=>by simp only[deep]at hd;omega
 |N+1,.mk k n b l,hd,Z,h,D,x,R,B,hk=>by
  simp only[deep]at hd;simp only[room]at Z;unfold gX at B;obtain⟨⟨rfl,rfl,rfl,a'⟩,ys,j,T⟩:=B;have lt:=T.len;have l9:=gW l;have e0:=j.len;refine FM.walk (aa.box λbb h1 d' m f1=>aa.box λb1 h2 c' s f2=>⟨_,_,_,aq (f2.get m id),hM.gQ ((a'.row.frame f1 cb).frame f2 cb) rfl ae λP C W o3 f3 G=>⟨_,_,_,rfl,bL (f3.get (f2.get m id) id) (by show 2<4;omega) λr d1 d2 d3=>⟨_,_,_,aq d1,bL d1 (by show 3<4;omega) λf e1 e2 S=> ?_⟩⟩⟩);have i':=aE m;have f':=aE s;have z1:=f1.1;have z2:=f2.1;have z3:=f3.1;have f4:Fr (λy=>y=bb) W r:=Fr.of_eq d2 (λc d=>d3 c d);have f5:Fr (λy=>y=bb) r f:=Fr.of_eq e2 (λc d=>S c d);have J:=f1.tt (f2.tt f3);have K:Fr No h f:=(J.fresh f4 (λy e=>ae)).fresh f5 (λy e=>ae);have X:=f5.get (f4.get (f3.get s id) ae) ae;have o5:=(o3.frame f4 (λy H e=>bR (G y H))).frame f5 (λy H e=>bR (G y H));have I:=RG.zero (g0:=f) (bb:=bb) (k:=x.k) (n:=(x.n:Int)) (v:=⟨P,C,x.v.b⟩) e1;refine⟨λt g=> ∃(i:Nat)(zs:List CV)(q:bZ)(cl:Nat),t=(i:Int)/\i<=ys.length/\RG f g bb x.k (x.n:Int) ⟨P,C,x.v.b⟩ (l.take i) zs q cl/\zs.length=i,λt _=>ys.length - t.toNat,⟨0, [],none,0,rfl,br _,by rw[eM];exact I,rfl⟩,?_⟩;rintro _ g ⟨i,zs,q,cl,rfl,hi,L,lz⟩;have F:Fr No h g:=K.fresh L.fr (λy e=>ae);by_cases u:i<ys.length
  .rw[gh];have H:ys[i]? =some ys[i]:=aj u;generalize ys[i]=y at H;obtain⟨t,w,ty⟩:=T.get H;have tm:=aJ w;have d1:=rW tm;have r1:=mC tm;obtain⟨a,E⟩:=j.row.some (by intro e;have:=bP List.length e;rw[eO iC 4 gK,bw]at this;omega);rw[E];have A:=j.row.frame F cb;rw[E]at A;refine⟨ae,az.2 (aa.wm (by rw[aC];exact A.fI gK H) (FN (t:=t) L ae ae (λV O U Y=>AE N t ae ae V D y O (ty.on (F.tt U)) Y) λg' b' q' Q M e'=> ?_))⟩;rw[bB (n:=(i:Int)+1) ae ae];refine⟨⟨i+1,b',q',Q,ae,ae,?_,ae⟩,by show ys.length - Int.toNat ((i:Int)+1)<ys.length - Int.toNat (i:Int);omega⟩;rw[bm,w];exact M
  .rw[af (λe=>u (bR (aP e)))];rw[bk (show l.length<=i by omega)]at L;refine aa.ld L.cX (aa.set (L.fr.get X ae) λo k1 k2 k3=>aa.ld k1 ?_);have f13:Fr (λy=>y=b1) g o:=Fr.of_eq k2 (λc d=>k3 c d);have og:=o5.frame L.fr (λy H e=>bR (G y H));refine hk o ⟨x.k,x.n,⟨P,C,x.v.b⟩,q,zs.length,cl⟩ ⟨⟨rfl,rfl,rfl,BV.jr (og.frame f13 (λy H e=>bR (G y H))) (λy H=>bR (G y H))⟩,zs,rfl,L.own.frame f13 (λy H e=>sY (L.ge y H) f4.1 f5.1),(λy H=>sY (L.ge y H) f4.1 f5.1),?_⟩ (F.fresh f13 (λy e=>ae));exact dx.mono (λy H=>⟨sY H.1 f4.1 f5.1,H.2⟩) (dx.frame f13 (λy H e=>sY H.1 f4.1 f5.1) L.tr)
theorem rY(T:gX h D t x)(H:room t<=100000000)(hk: ∀h' z,sX h' (λy=>h.size<=y) t z->Fr No h h'->R z.agg h'):Cl 288 #[x.agg] h R:=
 AE (deep t) t (bn _) H h D x R T hk
theorem jZ(b:na h D q l cl ys)(T:dx h D ts ys)(hr:dF ts<=100000000)(hk: ∀h' z,sX h' (λy=>h.size<=y) (si ts) z->Fr No h h'->R z.agg h'):Cl 247 #[.slice q l cl] h R:=by
 have lt:=T.len;have l9:=gW ts;have P:=b.len;refine Lr.walk (aa.box λb1 X S j f1=>aa.new λbb f U m f2=> ?_);have c':=aE m;have b':=aE j;have z1:=f1.1;have z2:=f2.1;have s:=f1.tt f2;have E:=f2.get j id;have C:=RG.zero (g0:=f) (bb:=bb) (k:=4) (n:=0) (v:=⟨none,0, []⟩) m;refine⟨λt g=> ∃(i:Nat)(zs:List CV)(q:bZ)(cl:Nat),t=(i:Int)/\i<=ys.length/\RG f g bb 4 0 ⟨none,0, []⟩ (ts.take i) zs q cl/\zs.length=i,λt _=>ys.length - t.toNat,⟨0, [],none,0,rfl,br _,by rw[eM];exact C,rfl⟩,?_⟩;rintro _ g ⟨i,zs,q2,A,rfl,Y,L,lz⟩;have F:Fr No h g:=s.fresh L.fr (λy e=>ae);by_cases o:i<ys.length
 .rw[gh];have H:ys[i]? =some ys[i]:=aj o;generalize ys[i]=y at H;obtain⟨t,r,ty⟩:=T.get H;have r1:=mC (aJ r);obtain⟨a,rfl⟩:=b.row.some (by intro e;have:=bP List.length e;rw[eO iC 4 gK,bw]at this;omega);have N:=b.row.frame F cb;refine⟨ae,az.2 (aa.wm (by rw[aC];exact N.fI gK H) (FN (t:=t) L ae ae (λW O B I=>rY (ty.on (F.tt B)) ae I) λV Z Q w u a'=> ?_))⟩;rw[bB (n:=(i:Int)+1) ae ae];refine⟨⟨i+1,Z,Q,w,ae,ae,?_,ae⟩,by show ys.length - Int.toNat ((i:Int)+1)<ys.length - Int.toNat (i:Int);omega⟩;rw[bm,r];exact u
 .rw[af (λe=>o (bR (aP e)))];rw[bk (show ts.length<=i by omega)]at L;refine aa.ld L.cX (aa.set (L.fr.get E ae) λd K J M=>aa.ld K ?_);have f13:Fr (λy=>y=b1) g d:=Fr.of_eq J (λc G=>M c G);refine hk d ⟨4,0,⟨none,0, []⟩,q2,zs.length,A⟩ ⟨⟨rfl,rfl,rfl,⟨Row.nil,λe=>absurd rfl e,bn _⟩⟩,zs,rfl,L.own.frame f13 (λy H e=>bR (L.ge y H)),(λy H=>bR (L.ge y H)),?_⟩ (F.fresh f13 (λy e=>ae));exact dx.mono (λy H=>⟨bR H.1,H.2⟩) (dx.frame f13 (λy H e=>bR H.1) L.tr)

end Cb
end
section
namespace Cb
variable {V:cM→Bool} {h H h':ak} {R:fG} {D:Nat→Prop}
variable {t:Tr} {x:CV}
theorem Ik{α:Type}(b:List α):(((b.length:Int))==0)=b.isEmpty:=by
 cases b with
 |nil=>rfl
 |cons a b=>simp only[aW,List.isEmpty_cons,dL,fL];omega
theorem Il(U:nk V H)(u:Fr No H h)(T:gX h D t x)(q:room t<=1000000)(hk: iq h R (.bool (MM V t.k t.n t.b t.l))):Cl 298 #[x.agg] h R:=by
 cases t with
 |mk k n b l=>
  simp only[room]at q;unfold gX at T;obtain⟨⟨rfl,rfl,rfl,O⟩,ys,L,p⟩:=T;have ll:x.ll=l.length:=by rw[L.len,p.len]
  have hk: ∀h' o,o=MM V x.k x.n x.v.b l->Fr No h h'->R (.bool o) h':=λh' o e f=>by rw[e];exact hk h' f
  unfold MM at hk;have N:((x.n:Int)==0)=decide (x.n=0):=by by_cases e:x.n=0<;>simp[e]
  refine N9.walk (aa.box λbb a E c f1=>⟨_,aq c,?_⟩);by_cases K:x.k=0
  .rw[ah (cH K)];simp only[K,bg]at hk;refine⟨_,_,_,aq c,?_⟩;rw[Ik];by_cases e:x.v.b.isEmpty=true
   .rw[ah e];refine⟨_,_,_,aq c,hk a _ ?_ f1⟩;rw[ll,Ik,e];rfl
   .rw[af e];refine hk a _ ?_ f1;rw[show x.v.b.isEmpty=false by cases m:x.v.b.isEmpty with|false=>rfl|true=>exact absurd m e];rfl
  rw[af (cH K)];simp only[K,aM]at hk;by_cases d:x.k=2
  .rw[ah (cH d)];simp only[d,bg]at hk;refine⟨_,aq c,?_⟩;rw[N];by_cases e:x.n=0
   .rw[ah (aw e)];refine⟨_,_,_,aq c,hk a _ ?_ f1⟩;rw[ll,Ik,aw e];rfl
   .rw[af (by rw[aD e];decide)];refine hk a _ ?_ f1;rw[aD e];rfl
  rw[af (cH d)];simp only[d,aM]at hk;by_cases i:x.k=3
  .rw[ah (cH i)];simp only[i,bg]at hk;refine⟨_,aq c,?_⟩;rw[N];by_cases e:x.n=0
   .rw[ah (aw e)];refine⟨_,_,_,aq c,?_⟩;rw[ll,Ik];by_cases e2:l.isEmpty=true
    .rw[ah e2];exact⟨_,_,_,aq c,U a _ _ x.v.b _ (u.tt f1) (O.row.frame f1 cb) ae O.cap λg F=>⟨_,rfl,hk g _ (by rw[aw e,e2];rfl) (f1.tt F)⟩⟩
    .rw[af e2];refine hk a _ ?_ f1;rw[show l.isEmpty=false by cases m:l.isEmpty with|false=>rfl|true=>exact absurd m e2,Bool.and_false];rfl
   .rw[af (by rw[aD e];decide)];refine hk a _ ?_ f1;rw[aD e];rfl
  rw[af (cH i)];simp only[i,aM]at hk;by_cases j:x.k=4
  .rw[ah (cH j)];simp only[j,bg]at hk;refine⟨_,aq c,?_⟩;rw[N];by_cases e:x.n=0
   .rw[ah (aw e)];refine⟨_,_,_,aq c,hk a _ ?_ f1⟩;rw[Ik,aw e];rfl
   .rw[af (by rw[aD e];decide)];refine hk a _ ?_ f1;rw[aD e];rfl
  rw[af (cH j)];simp only[j,aM]at hk;exact hk a _ rfl f1
theorem FO(U:nk V H): ∀(N:Nat)(t:Tr),deep t<=N->room t<=1000000->∀(h:ak)(D:Nat->Prop)(x:CV)(d left:Int)(R:fG),Fr No H h->gX h D t x->0<=d->d<=7->left<=1000->
  (iq h R (.I (nG V t d left)))->Cl 260 #[x.agg,.I d,.I left] h R
 |0,.mk k n b l,hd,_,_,_,_,_,_,_,_,_,_,_,_,_=>by simp only[deep]at hd;omega
 |N+1,.mk k n b l,hd,w,h,D,x,d,left,R,u,T,d0,d7,hl,hk=>by
  have Y:=T;simp only[deep]at hd;have S:=w;simp only[room]at w;unfold gX at T;obtain⟨⟨rfl,rfl,rfl,d'⟩,ys,L,m⟩:=T;have lt:=m.len;have l9:=gW l;have e0:=L.len;refine Lt.walk (aa.box λbb p b' s f1=>aI.of λJ r=> ?_);have bad: ∀g,Fr No h g->nG V (.mk x.k x.n x.v.b l) d left= -1->J true g:=λg f c=>by
   subst r;dsimp only;rw[ah rfl];have:=hk g f;rw[c]at this;exact this
  by_cases c1:d>6
  .rw[ah (aw c1)];exact bad p f1 (by unfold nG;rw[ah (.inl c1)])
  rw[af (λe=>c1 (aP e))];by_cases C:left<1
  .rw[ah (aw C)];exact bad p f1 (by unfold nG;rw[ah (.inr C)])
  rw[af (λe=>C (aP e))];have B: ¬(d>6\/left<1):=λe=>e.elim c1 C
  unfold nG at hk bad;rw[af B]at hk bad;refine aa.ld s (Il U (u.tt f1) (Y.on f1) S λI f2=>⟨_,rfl,?_⟩);simp only[Tr.k,Tr.n,Tr.b,Tr.l];generalize MM V x.k x.n x.v.b l=o at hk bad⊢;cases o with
  |false=>exact bad I (f1.tt f2) (by rw[dz])
  |true=>
   rw[ah rfl]at hk;subst r;rw[dz];have P:=f2.get s id;refine⟨_,_,_,aq P,?_⟩;rw[bB (n:=left - 1) ae ae];refine⟨λlf t g=> ∃i:Nat,t=(i:Int)/\i<=ys.length/\Fr No h g/\lf<=1000/\0<=lf/\mL V (l.drop i) (d+1) lf=mL V l (d+1) (left - 1),λ_ t _=>ys.length - t.toNat,⟨0,rfl,br _,f1.tt f2,ae,ae,rfl⟩,?_⟩;rintro lf _ g ⟨i,rfl,hi,f,W,c',c⟩;by_cases v:i<ys.length
   .rw[gh];have j:ys[i]? =some ys[i]:=aj v;generalize ys[i]=y at j;obtain⟨t,z,ty⟩:=m.get j;have tm:=aJ z;have Z:=rW tm;have rm:=mC tm;have G:l.drop i=t::l.drop (i+1):=by
     obtain⟨q1,q2⟩:=aB.1 z;rw[da q1,q2]
    rw[G]at c;obtain⟨a,E⟩:=L.row.some (by intro e;have:=bP List.length e;rw[eO iC 4 gK,bw]at this;omega);rw[E];have A:=L.row.frame f cb;rw[E]at A;refine⟨ae,az.2 (aa.wm (by rw[aC];exact A.fI gK j) (aa.new λb1 K a' O f5=>aa.ld O ?_))⟩;rw[bB (n:=d+1) ae ae];refine FO U N t ae ae K D y (d+1) lf _ (u.tt (f.tt f5)) (ty.on (f.tt f5)) ae ae W λM f6=>⟨_,rfl,?_⟩
    have F:=f.tt (f5.tt f6);have X:=EP (V:=V) (t:=t) (d:=d+1) (left:=lf);conv at c=>lhs;unfold mL
    generalize nG V t (d+1) lf=q at c X⊢;by_cases Q:q<0
    .rw[ah (aw Q)];rw[ah Q]at c;have:=hk M F;rw[<-c]at this;exact this
    .rw[af (λe=>Q (aP e)),bB (n:=(i:Int)+1) ae ae];rw[af Q]at c;exact⟨⟨i+1,ae,ae,F,ae,ae,c⟩,by show ys.length - Int.toNat ((i:Int)+1)<ys.length - Int.toNat (i:Int);omega⟩
   .rw[af (λe=>v (bR (aP e)))];rw[eJ (show l.length<=i by omega)]at c;have:=hk g f;rw[<-c]at this;unfold mL at this;exact this
theorem fx(U:nk V H)(u:Fr No H h)(T:gX h D t x)(d:room t<=1000000)(hk: iq h R (.bool (hH V t))):Cl 207 #[x.agg] h R:=
 Ii.walk (aa.box λbb a e c f1=>aa.ld c (FO U (deep t) t (bn _) d a D x 1 256 _ (u.tt f1) (T.on f1) dt dt dt λb f2=>⟨_,rfl,hk b (f1.tt f2)⟩))

end Cb
end
section
namespace Cb
variable {h:ak} {R:fG} {D D':Nat→Prop}
theorem pL{p q:bZ}{n m c d:Nat}{a b:cM}(r:Row h p (bc a))(g:Row h q (bc b))(f:n=a.length)(H:m=b.length)(hk:R (.bool (decide (a=b))) h):Cl 82 #[.slice p n c,.slice q m d] h R:=by
 refine xX.walk ⟨_,hM.conv r f,_,hM.conv g H,?_⟩;rw[oC,oC];have:(a==b)=decide (a=b):=by by_cases e:a=b<;>simp[e]
 rw[this];exact hk
theorem FP: ∀(N:Nat)(t s:Tr),deep t<=N->room t<=100000000->∀(h:ak)(D D':Nat->Prop)(x y:CV)(R:fG),gX h D t x->gX h D' s y->(iq h R (.bool (ot t s)))->Cl 248 #[x.agg,y.agg] h R
 |0,.mk k n b l,_,hd,_,_,_,_,_,_,_,_,_,_=>by simp only[deep]at hd;omega
 |N+1,.mk k n b l,.mk k' n' b' L,hd,c',h,D,D',x,y,R,M,ty,hk=>by
  simp only[deep]at hd;simp only[room]at c';unfold gX at M ty;obtain⟨⟨rfl,rfl,rfl,d'⟩,xs,p,T⟩:=M;obtain⟨⟨rfl,rfl,rfl,e'⟩,ys,r,A⟩:=ty;have lx:=T.len;have ly:=A.len;have l9:=gW l;have ex:=p.len;have S:=r.len;refine Ls.walk (aa.box λb1 h1 f' W f1=>aa.box λb2 j g' o f2=> ?_);have F:=f1.tt f2;have m:=f2.get W id;have no: ∀g,Fr No h g->ot (.mk x.k x.n x.v.b l) (.mk y.k y.n y.v.b L)=false->R (.bool false) g:=λg f e=>by have:=hk g f;rw[e]at this;exact this
  refine⟨_,aq m,_,aq o,?_⟩;by_cases c1:x.k=y.k
  case neg=>
   rw[af (cH c1)];exact no j F (by unfold ot;rw[aD c1];rfl)
  rw[ah (cH c1)];refine⟨_,aq m,_,aq o,?_⟩;by_cases C:x.n=y.n
  case neg=>
   rw[af (λe=>C (bR (eq_of_beq e)))];exact no j F (by unfold ot;rw[aD C,Bool.and_false];rfl)
  rw[ah (by rw[C];simp)];refine⟨_,_,_,aq m,_,_,_,aq o,pL (d'.row.frame F cb) (e'.row.frame F cb) rfl rfl ⟨_,rfl,?_⟩⟩;by_cases d:x.v.b=y.v.b
  case neg=>
   rw[af (cH d)];exact no j F (by unfold ot;rw[aD d,Bool.and_false];rfl)
  rw[ah (cH d)];have O:ot (.mk x.k x.n x.v.b l) (.mk y.k y.n y.v.b L)=sj l L:=by unfold ot;rw[aw c1,aw C,aw d];simp
  rw[O]at hk;refine⟨_,_,_,aq m,_,_,_,aq o,?_⟩;rw[ex,S];have done: ∀g,Fr No h g->∀q,q=sj l L->∃t29:Bool,Value.bool q=.bool t29/\R (.bool t29) g:=λg f q e=>⟨q,rfl,by rw[e];exact hk g f⟩
  refine gF.same.walk ?_;by_cases cl:xs.length=ys.length
  case neg=>
   rw[ah (by simp only[eI,fL];omega)];refine done j F false ?_;cases Z:sj l L with
   |false=>rfl
   |true=>exact absurd (bP List.length ((zE l L).1 Z)) ae
  rw[af (by simp only[eI,fL];omega)];refine⟨λt g=> ∃i:Nat,t=(i:Int)/\i<=xs.length/\Fr No h g/\sj l L=sj (l.drop i) (L.drop i),λt _=>xs.length - t.toNat,⟨0,rfl,br _,F,rfl⟩,?_⟩;rintro _ g ⟨i,rfl,hi,f,H⟩;by_cases G:i<xs.length
  .rw[gh];have w:xs[i]? =some xs[i]:=aj G;have z:ys[i]? =some (ys[i]' ae):=aj _;generalize xs[i]=u at w;generalize ys[i]' ae=v at z;obtain⟨t,I,tu⟩:=T.get w;obtain⟨s,hs,tv⟩:=A.get z;have tm:=aJ I;have dm:=rW tm;have rm:=mC tm;have P:l.drop i=t::l.drop (i+1):=by
    obtain⟨q1,q2⟩:=aB.1 I;rw[da q1,q2]
   have Q:L.drop i=s::L.drop (i+1):=by
    obtain⟨q1,q2⟩:=aB.1 hs;rw[da q1,q2]
   rw[P,Q]at H;have H:sj l L=(ot t s && sj (l.drop (i+1)) (L.drop (i+1))):=by rw[H];simp only[sj]
   obtain⟨a,E⟩:=p.row.some (by intro e;have:=bP List.length e;rw[eO iC 4 gK,bw]at this;omega);obtain⟨a',B⟩:=r.row.some (by intro e;have:=bP List.length e;rw[eO iC 4 gK,bw]at this;omega);rw[E,B];have J:=p.row;have K:=r.row;rw[E]at J;rw[B]at K;refine⟨ae,az.2 (aa.wm (by rw[aC];exact(J.frame f cb).fI gK w) (aa.new λb3 h3 h' X f3=>⟨ae,az.2 (aa.wm (by rw[aC];exact(K.frame (f.tt f3) cb).fI gK z) (aa.new λb4 U i' Y f4=>aa.ld (f4.get X id) (aa.ld Y ?_)))⟩))⟩;have c:=f.tt (f3.tt f4);refine FP N t s ae ae U D D' u v _ (tu.on c) (tv.on c) λV f6=>⟨_,rfl,?_⟩
   cases q:ot t s with
   |false=>
    rw[gh];exact done V (c.tt f6) false (by rw[H,q];rfl)
   |true=>
    rw[dz,bB (n:=(i:Int)+1) ae ae];exact⟨⟨i+1,ae,ae,c.tt f6,by rw[H,q];rfl⟩,by show xs.length - Int.toNat ((i:Int)+1)<xs.length - Int.toNat (i:Int);omega⟩
  .rw[af (λe=>G (bR (aP e)))];rw[eJ (show l.length<=i by omega),eJ (show L.length<=i by omega)]at H;exact done g f true (by rw[H];simp only[sj])
theorem iI{t s:Tr}{x y:CV}(T:gX h D t x)(ty:gX h D' s y)(H:room t<=100000000)(hk: iq h R (.bool (ot t s))):Cl 248 #[x.agg,y.agg] h R:=
 FP (deep t) t s (bn _) H h D D' x y R T ty hk

end Cb
end
section
namespace Cb
variable {h h':ak} {R:fG}
variable {m:Int} {n:Nat}
theorem Ob(n:Nat):IntKind.wrap .u8 (n:Int)=((UInt8.ofNat n).toNat:Int):=by
 have e:IntKind.wrap .u8 (n:Int)=(n:Int)%256:=by simp[IntKind.wrap,IntKind.bits,IntKind.signed]
 rw[e,fC];omega
theorem Lu{n:Int}(hk: iq h R (.bool (decide (0<=m/\m<=7)))):Cl 299 #[.agg #[.I m,.U n,.bool false]] h R:=by
 refine Ib.walk (bF.box λb a E H f1=>⟨_,aq H,?_⟩);rw[dz];have hk:=hk a f1;refine⟨_,aq H,?_⟩;by_cases c1:m≥0
 .rw[ah (aw c1)];refine⟨_,aq H,?_⟩;rw[show decide (0<=m/\m<=7)=decide (m<=7) by simp[show 0<=m from c1]]at hk;exact hk
 .rw[af (λe=>c1 (aP e))];rw[aD (λe=>c1 e.1)]at hk;exact hk
theorem CG(hk:R (.I (ER n:Int)) h):Cl 301 #[.U (n:Int)] h R:=by
 obtain⟨z,H⟩: ∃z:Int,z=(n:Int):=⟨_,rfl⟩;rw[<-H];refine FJ.walk ?_;unfold ER at hk
 repeat' split
 all_goals simp only[aZ]at*
 .rw[gh]at hk;exact hk
 .rw[dz,gh]at hk;exact hk
 .rw[dz,dz,gh]at hk;exact hk
 .rw[dz,dz,dz,gh]at hk;exact hk
 .rw[dz,dz,dz,dz]at hk;exact hk
theorem QO(hk:R (.int .u8 (x5 n:Int)) h):Cl 300 #[.U (n:Int)] h R:=by
 refine Ll.walk (CG ⟨_,rfl,?_⟩);unfold x5 at hk;unfold ER;by_cases c1:n<24
 .rw[ah c1]at hk⊢;rw[dz,dz,dz,dz];rw[Ob,fC,gp ae];exact hk
 rw[af c1]at hk⊢;by_cases c:n<256
 .rw[ah c]at hk⊢;rw[gh];exact hk
 rw[af c]at hk⊢;by_cases C:n<65536
 .rw[ah C]at hk⊢;rw[dz,gh];exact hk
 rw[af C]at hk⊢;by_cases a:n<4294967296
 .rw[ah a]at hk⊢;rw[dz,dz,gh];exact hk
 rw[af a]at hk⊢;rw[dz,dz,dz,gh];exact hk
theorem QP(n:Nat):x5 n<32:=by unfold x5;repeat (first|omega|split)
theorem Sw: ∀(m:Fin 8)(z:Fin 32),IntKind.wrap .u8 ((BitVec.ofInt (IntKind.bits .u8) (IntKind.wrap .u8 ((IntKind.wrap .u8 (m.val:Int))*2 ^ min (Int.toNat 5) (IntKind.bits .u8)))|||BitVec.ofInt (IntKind.bits .u8) (z.val:Int)).toNat:Int)=((32*m.val+z.val:Nat):Int):=dt
theorem Oc(n k:Nat):Int.fdiv (n:Int) (2 ^ k)=((n/2 ^ k:Nat):Int):=by
 rw[Int.fdiv_eq_ediv_of_nonneg _ (by exact_mod_cast br (2 ^ k))]
 exact_mod_cast rfl
theorem Lv(hk: ∀h' (p:bZ) (C:Nat) (e:Int),Row h' p (bc (MN m n))->(MN m n).length<=C->Fr No h h'->R (.tuple #[.slice p (MN m n).length C,.I e]) h'):Cl 261 #[.agg #[.I m,.U (n:Int),.bool false]] h R:=by
 refine Ic.walk (bF.box λb J I d f1=>bF.ld d (Lu λH f2=>⟨_,rfl,?_⟩));by_cases cm:0<=m/\m<=7
 case neg=>
  rw[aD cm,gh];have E:MN m n= []:=by unfold MN;rw[af cm]
  rw[E]at hk;exact hk H none 0 3 Row.nil bQ (f1.tt f2)
 rw[aw cm,dz];obtain⟨m,rfl⟩:=e8 cm.1;have c:=f2.get d id;refine⟨_,aq c,?_⟩;rw[dz];refine⟨_,aq c,_,aq c,QO ⟨_,rfl,aq c,cI ?_⟩⟩;have F:=f1.tt f2;have i32:=QP n;rw[Sw ⟨m,ae⟩ ⟨x5 n,i32⟩];rw[show(32*(⟨m,ae⟩:Fin 8).val+(⟨x5 n,i32⟩:Fin 32).val)=32*m+x5 n from rfl];have z:((32*m+x5 n:Nat):Int)=((UInt8.ofNat (32*m+x5 n)).toNat:Int):=by rw[fC,gp ae]
 rw[z];have E:MN (m:Int) n=UInt8.ofNat (32*m+x5 n)::Rl (ER n) n:=by unfold MN;rw[ah cm,aC]
 rw[E]at hk;generalize UInt8.ofNat (32*m+x5 n)=w at hk⊢;have f3:Fr No H (H.push (.cells #[.int .u8 (w.toNat:Int)] 5)):=Fr.push _ _;have O:fi (H.push (.cells #[.int .u8 (w.toNat:Int)] 5)) (Sa H.size 0) 1 1 1 (bc [w]):=.row H.size 0 #[.int .u8 (w.toNat:Int)] 5 rfl bV ae bQ rfl (λj v q=>by
  cases j with
  |zero=>simpa[bc]using q
  |succ j=>simp[bc]at q)
 generalize H.push (.cells #[.int .u8 (w.toNat:Int)] 5)=M at f3 O⊢;have Z:=f1.1;have T:=f2.1;have U:=aE d;refine⟨aq (f3.get c id),_,aq (f3.get c id),CG ⟨_,rfl,?_⟩⟩;have K:=Jb n;generalize ER n=k at hk K⊢;refine⟨λp L C t g=> ∃(i:Nat),t=(i:Int)/\i<=k/\L=1+i/\fi g p (1+i) C 1 (bc (w::(Rl k n).take i))/\(∀y,aL p y->H.size<=y)/\Fr No H g,λ_ _ _ t _=>k - t.toNat,⟨0,rfl,br _,rfl,by rw[eM];exact O,(λy ⟨a,e,s⟩=>by cases e;rw[<-s];exact bn _),f3⟩,?_⟩;rintro p _ C _ g ⟨i,rfl,Q,rfl,o,N,f⟩;by_cases l:i<k
 .rw[gh];refine⟨_,aq (f.get c id),?_⟩;rw[bB (n:=(k:Int) - 1) ae ae,bB (n:=(k:Int) - 1 - (i:Int)) ae ae,bB (n:=8*((k:Int) - 1 - (i:Int))) ae ae,dz];have u:min (Int.toNat (8*((k:Int) - 1 - (i:Int)))) (IntKind.bits .u64)=8*(k - 1 - i):=by
   rw[show IntKind.bits .u64=64 from rfl];omega
  rw[u,Oc,Ob];refine iD hM.tU hM.uU o rfl (λv r=>by simp at r;rw[r];rfl) ae ae λS D P B f9 G=>⟨_,_,_,rfl,?_⟩
  rw[bB (n:=(i:Int)+1) ae ae];refine⟨⟨i+1,ae,ae,ae,?_,λy A=> ?_,f.fresh f9 N⟩,by show k - Int.toNat ((i:Int)+1)<k - Int.toNat (i:Int);omega⟩
  .have x:(Rl k n).take (i+1)=(Rl k n).take i++ [UInt8.ofNat (n/2 ^ (8*(k - 1 - i)))]:=by
    rw[bm];unfold Rl;rw[aF,List.getElem?_range l];rfl
   rw[x,<-dC,kh];exact B
  .rcases G y A with a|a
   .exact N y a
   .have:=f.1;omega
 .rw[af (λe=>l (bR (aP e)))];obtain rfl:i=k:=ae
  rw[bk (by rw[yH];omega)]at o;have:=hk g p C 0 o.iJ (by rw[aW,yH,Nat.add_comm];exact o.le) (F.tt f);rw[aW,yH,Nat.add_comm]at this;exact this
theorem Im{l:List Tr}{i:Nat}{t:Tr}(H:l[i]? =some t):dF (l.take (i+1))=dF (l.take i)+room t:=by
 rw[bm,H,iH];show _+dF [t]=_;simp[dF]
theorem oi(l:List Tr)(i:Nat):dF (l.take i)<=dF l:=by
 conv=>rhs;rw[<-List.take_append_drop i l]
 rw[iH];omega
theorem JA: ∀(N:Nat)(t:Tr),deep t<=N->∀(h:ak)(D:Nat->Prop)(x:CV)(p:bZ)(l c:Nat)(a:cM)(R:fG),l=a.length->a.length+room t<=20000000->fi h p a.length c 1 (bc a)->gX h D t x->(∀y,aL p y->¬D y)->
  (∀h' P C,fi h' P (a++enc t).length C 1 (bc (a++enc t))->Fr (λy=>aL p y) h h'->(∀y,aL P y->aL p y\/h.size<=y)->R (.slice P (a++enc t).length C) h')->Cl 208 #[.slice p l c,x.agg] h R
 |0,.mk k n b l,hd,_,_,_,_,_,_,_,_,_,_,_,_,_,_=>by simp only[deep]at hd;omega
 |N+1,.mk k n b l,hd,h,D,x,p,_,c,a,R,rfl,ha,Y,T,j,hk=>by
  simp only[deep]at hd;simp only[room]at ha;unfold enc at hk;have T:=T.lt;unfold gX at T;obtain⟨⟨rfl,rfl,rfl,X⟩,ys,L,I⟩:=T;have lt:=I.len;have l9:=gW l;have e0:=L.len;refine Oa.walk (aa.box λbb K q' d f1=>⟨_,aq d,_,aq d,aI.of λc' hJ=> ?_⟩);have r':=aE d;have z1:=f1.1;have np: ∀y,aL p y->y<h.size:=λy H=>Y.dw H
  have done:c' (xG x.k x.n x.v.b l:Int) K:=by
   subst hJ;refine⟨_,aq d,Lv λh3 q3 c3 e3 a' d' f3=>⟨_,_,_,_,rfl,_,_,_,aq (f3.get d id),?_⟩⟩;have k':=Jc x.k (xG x.k x.n x.v.b l);generalize MN x.k (xG x.k x.n x.v.b l)=B at a' d' k' hk⊢;have z3:=f3.1;have r:=f1.tt f3;refine dD hM.tU hM.uU (Y.frame r cb) a' (by rw[jq,cp]) (qJ B) ae ae λZ c4 h4 o4 _ f4 g4=>⟨_,_,_,rfl,aq (f4.get (f3.get d id) (λH=>bR (np _ H))),?_⟩
   have z4:=f4.1;have G: ∀y,aL Z y->aL p y\/h3.size<=y:=g4;have n':Row h4 x.v.p (bc x.v.b):=by
    by_cases e:x.v.b= []
    .rw[e];exact Row.nil
    .exact((X.row.frame r cb).frame f4 (λJ s H=>j _ H (X.own e _ ⟨J,s,rfl⟩).1))
   refine dD hM.tU hM.uU o4 n' (by rw[jq,cp]) (qJ x.v.b) ae ae λp5 c5 h5 O _ f5 g5=> ?_
   have m': ¬aL Z bb:=λH=>by
    rcases G _ H with q|q
    .have:=np _ q;omega
    .omega
   have g':=f5.get (f4.get (f3.get d id) (λH=>bR (np _ H))) m';refine⟨_,_,_,rfl,_,_,_,aq g',?_⟩;have z5:=f5.1;rw[<-kh,<-kh,cT]at O;have Fp:Fr (λy=>aL p y) h h5:=(Fr.no r f4).trans f5 cb (λy H q=>by
    rcases G y q with q|q
    .exact q
    .omega)
   have n5: ∀y,aL p5 y->aL p y\/h.size<=y:=λy H=>by
    rcases g5 y H with q|q
    .rcases G y q with q|q
     .exact .inl q
     .exact .inr ae
    .exact .inr ae
   have el:a.length+B.length+x.v.b.length=(a++(B++x.v.b)).length:=by simp only[ar];omega
   rw[el]at O⊢;refine⟨λP l' C t g=> ∃(i:Nat)(w:cM),t=(i:Int)/\i<=ys.length/\l'=(a++w).length/\fi g P (a++w).length C 1 (bc (a++w))/\w=B++x.v.b++x6 (l.take i)/\Fr (λy=>aL p y) h g/\∀y,aL P y->aL p y\/h.size<=y,λ_ _ _ t _=>ys.length - t.toNat,
    ⟨0,B++x.v.b,rfl,br _,rfl,O,by rw[eM];simp[x6],Fp,n5⟩,?_⟩
   rintro P _ C _ g ⟨i,w,rfl,hi,rfl,W,E,F,ng⟩;have rl:=oi l i;have lw:w.length<=9+x.v.b.length+dF (l.take i):=by
    rw[E,ar,ar];have:=zI (l.take i);omega
   by_cases o:i<ys.length
   .rw[gh];have H:ys[i]? =some ys[i]:=aj o;generalize ys[i]=y at H;obtain⟨t,v,ty⟩:=I.get H;have tm:=aJ v;have dm:=rW tm;have rm:=mC tm;have rt:=Im v;have i':ys≠ []:=by intro e;rw[e]at o;simp at o
    obtain⟨J,s⟩:=L.row.some (by intro e;have:=bP List.length e;rw[eO iC 4 gK,bw]at this;omega);have b':=L.row.frame F (λa2 e2 j'=>j _ j' (L.own i' _ ⟨a2,e2,rfl⟩).1);rw[s]at b'⊢;refine⟨ae,az.2 (aa.wm (by rw[aC];exact b'.fI gK H) (aa.new λb1 M p' f' f8=>aa.ld f' ?_))⟩;have o':gX M (λy=>D y/\y<h.size) t y:=(gX.frame F (λz f A=>j z A f.1) ty).on f8;have zg:=F.1;have z8:=f8.1;refine JA N t ae M (λy=>D y/\y<h.size) y P _ C (a++w) _ rfl (by rw[ar];have:=oi l (i+1);omega) (W.frame f8 cb) o' (λz f A=>by
     rcases ng z f with q|q
     .exact j z q A.1
     .omega) λh9 p9 c9 V f9 n9=>⟨_,_,_,rfl,?_⟩
    rw[bB (n:=(i:Int)+1) ae ae];rw[cT]at V⊢;refine⟨⟨i+1,w++enc t,ae,ae,rfl,V,by rw[bm,v];show _=_++x6 (l.take i++ [t]);rw[KC,E,cT _ (x6 (l.take i))],(F.on f8).trans f9 cb (λz f q=> ?_),λz f=> ?_⟩,by show ys.length - Int.toNat ((i:Int)+1)<ys.length - Int.toNat (i:Int);omega⟩
    .rcases ng z q with q|q
     .exact q
     .omega
    .rcases n9 z f with q|q
     .exact ng z q
     .exact .inr ae
   .rw[af (λe=>o (bR (aP e)))];rw[bk (show l.length<=i by omega)]at E;subst E;exact hk g P C W F ng
  have ub:IntKind.wrap .u64 (x.v.b.length:Int)=(x.v.b.length:Int):=wrap_u64 ae ae;have ul:IntKind.wrap .u64 (x.ll:Int)=(l.length:Int):=by rw[e0,<-lt];exact wrap_u64 ae ae
  unfold xG at done;refine aI.of λJ1 e'=> ?_
  have U: ∀q,q=decide (x.k=2\/x.k=3)->J1 q K:=by
   intro q S;subst e';refine aI.of λJ2 u=> ?_
   split
   .rename_i q1;rw[ah (aP (S.symm.trans q1))]at done;exact⟨_,_,_,aq d,by subst u;rw[ub];exact done⟩
   .rename_i q1;rw[af (λe=>q1 (S.trans (aw e)))]at done;refine aI.of λJ3 Q=> ?_
    split
    .rename_i q2;rw[ah (cH q2)]at done;exact⟨_,_,_,aq d,by subst Q;subst u;rw[ul];exact done⟩
    .rename_i q2;rw[af (cH q2)]at done;subst Q;subst u;exact done
  split
  .rename_i q;exact U _ (by simp only[dp]at q;rw[q];decide)
  .rename_i q;refine U _ ?_;by_cases e:x.k=3
   .rw[e];decide
   .simp only[dp]at q;simp[q,e]

end Cb
end
section
namespace Cb
variable {V:cM→Bool} {h H h':ak} {R:fG} {D:Nat→Prop}
variable {t:Tr} {x:CV}
theorem JB(T:gX h D t x)(d:room t<=1000000)(hk: ∀h' p c,fi h' p (enc t).length c 1 (bc (enc t))->(∀y,aL p y->h.size<=y)->Fr No h h'->R (.slice p (enc t).length c) h'):Cl 208 #[.Z,x.agg] h R:=
 JA (deep t) t (bn _) h D x none 0 0 [] R rfl (by simp only[bw];omega) (.nil rfl rfl rfl rfl) T (λy ⟨a,e,_⟩=>by cases e) λh' P C o f n=>hk h' P C o (λy b=>(n y b).resolve_left (λ⟨a,e,_⟩=>by cases e)) (f.mono λy _ ⟨a,e,_⟩=>by cases e)
theorem xa(U:nk V H)(u:Fr No H h)(T:gX h D t x)(d:room t<=1000000)(k:hH V t=true->∀h' p c,fi h' p (enc t).length c 1 (bc (enc t))->(∀y,aL p y->h.size<=y)->Fr No h h'->R (.tuple #[.slice p (enc t).length c,.I 0]) h')(K:hH V t=false->iq h R (.tuple #[.Z,.I 3])):Cl 178 #[x.agg] h R:=by
 refine Ij.walk (aa.box λbb i E a f1=>aa.ld a (fx U (u.tt f1) (T.on f1) d λe f2=>⟨_,rfl,?_⟩));have z:=f1.1;have Z:=f2.1;cases b:hH V t with
 |false=>
  rw[gh];exact K b e (f1.tt f2)
 |true=>
  rw[dz];exact aa.ld (f2.get a id) (JB ((T.on f1).on f2) d λf p c o n f3=>⟨_,_,_,rfl,k b f p c o (λy g=>bR (n y g)) ((f1.tt f2).tt f3)⟩)
theorem nk.mono{a:ak}(U:nk V H)(f:Fr No H a):nk V a:=λg p c bs R F=>U g p c bs R (f.tt F)
def jN(V:cM->Bool)(bs:cM):Bool:=match pR V bs with| .ok (t,n)=>decide (n=bs.length) && decide (enc t=bs)| .error _=>false
theorem FQ{p:bZ}{l c:Nat}{bs:cM}(U:nk V h)(row:Row h p (bc bs))(k:l=bs.length)(cap:bs.length<=c)(m:bs.length<=90000)(hk: iq h R (.bool (jN V bs))):Cl 314 #[.slice p l c] h R:=by
 subst k;unfold jN at hk;refine Bz.walk (AD U row rfl cap ae (λi t x next g T f1=>⟨_,_,_,_,_,_,_,_,_,_,rfl,aa.new λbb a E b f3=> ?_⟩) (λi e f f1=>⟨_,_,_,_,_,_,_,_,_,_,rfl,aa.new λbb a E b f3=> ?_⟩))
 .have F:=f1.tt f3;rw[g]at hk;obtain⟨rt,N⟩:=zK g;rw[gh];by_cases c1:next=bs.length
  .rw[ah (by rw[c1];simp)];refine aa.ld b (JB (T.on f3) ae λj q d o n f4=>⟨_,_,_,rfl,pL o.iJ (row.frame (F.tt f4) cb) rfl rfl ⟨_,rfl,?_⟩⟩);have:=hk j (F.tt f4);simp only[c1,bt,dX]at this;exact this
  .rw[af (λe=>c1 (bR (eq_of_beq e)))];have:=hk a F;simp only[c1,bf,ft]at this;exact this
 .have F:=f1.tt f3;have:=hk a F;rw[f]at this;rw[af (λq=>rX f (eq_of_beq q))];exact this

end Cb
end
section
variable {h:ak} {R:fG}
variable {K:Nat->ak->Prop} {b l d B f m:Nat} {a:Addr} {sum V s P:Int} {L e:bZ}
abbrev aa.gn(h:ak)(b:Nat)(x:aa.S):Prop:=h[b]? =some (.cells x.arr 262 (0,0))
theorem aa.ex{K:aa.S->Prop}(x:aa.S)(hk:K x):aa.EX K:=⟨_,_,_,_,_,_,_,_,hk⟩
theorem aa.fY{x:aa.S}{K:aa.S->Prop}(H:aa.gn h b x)(hk:K x):aa.cW h (AA b 0) K:=
 ⟨_,aq H,_,aq H,_,_,_,aq H,_,_,_,aq H,hk⟩
theorem aa.nf{x:aa.S}{K:aa.S->Prop}(H:dM a x.l 0 h)(hk:K x):aa.cW h a K:=by
 obtain⟨q,q1,q2,q3,_⟩:=H;rw[eK]at q;exact⟨_,q,_,q1,_,_,_,q2,_,_,_,q3,hk⟩
theorem aa.AF{x:aa.S}(H:aa.gn h b x):dM (AA b 0) x.l 0 h:=
 gO H (λj v c=>by rw[bH];simpa using c)
theorem aa.gB{x:aa.S}(hk: ∀b h',b=h.size->aa.gn h' b x->Fr No h h'->K b h'):aT h (.cells aa.S.z.arr 262) λb H=>aa.dE H (AA b 0) x (K b):=
 gz (vs:=x.l) rfl rfl hk
theorem aa.dv{x:aa.S}(hk: ∀b h',b=h.size->aa.gn h' b x->Fr No h h'->K b h'):aT h (.cells x.arr 262) λb H=>K b H:=
 cI (hk _ _ rfl bV (Fr.push _ _))
theorem aa.iz{y x:aa.S}{K:ak->Prop}(a0:aa.gn h b y)(hk: ∀h',aa.gn h' b x->Fr (λy=>y=b) h h'->h'.size=h.size->K h'):aa.dE h (AA b 0) x K:=
 (show eu (AA b 0) x.l 0 h K from fo a0 rfl rfl λH d1 d2 d3=>hk H d1 (Fr.of_eq d2 λc g=>d3 c g) d2)
variable {x:aa.S}
abbrev ax.gn(h:ak)(b:Nat)(x:ax.S):Prop:=h[b]? =some (.cells x.arr 29 (0,0))
theorem ax.ex{K:ax.S->Prop}(x:ax.S)(hk:K x):ax.EX K:=⟨_,_,_,_,_,hk⟩
theorem ax.fY{x:ax.S}{K:ax.S->Prop}(H:ax.gn h b x)(hk:K x):ax.cW h (AA b 0) K:=
 ⟨_,aq H,_,aq H,_,aq H,_,aq H,_,aq H,hk⟩
theorem ax.gB{x:ax.S}(hk: ∀b h',b=h.size->ax.gn h' b x->Fr No h h'->K b h'):aT h (.cells ax.S.z.arr 29) λb H=>ax.dE H (AA b 0) x (K b):=
 gz (vs:=x.l) rfl rfl hk
theorem ax.dv{x:ax.S}(hk: ∀b h',b=h.size->ax.gn h' b x->Fr No h h'->K b h'):aT h (.cells x.arr 29) λb H=>K b H:=
 cI (hk _ _ rfl bV (Fr.push _ _))
theorem ax.iz{y x:ax.S}{K:ak->Prop}(a0:ax.gn h b y)(hk: ∀h',ax.gn h' b x->Fr (λy=>y=b) h h'->h'.size=h.size->K h'):ax.dE h (AA b 0) x K:=
 (show eu (AA b 0) x.l 0 h K from fo a0 rfl rfl λH d1 d2 d3=>hk H d1 (Fr.of_eq d2 λc g=>d3 c g) d2)
abbrev ai.gn(h:ak)(b:Nat)(x:ai.S):Prop:=h[b]? =some (.cells x.arr 124 (0,0))
theorem ai.ex{K:ai.S->Prop}(x:ai.S)(hk:K x):ai.EX K:=⟨_,_,_,_,_,_,_,hk⟩
theorem ai.fY{x:ai.S}{K:ai.S->Prop}(H:ai.gn h b x)(hk:K x):ai.cW h (AA b 0) K:=
 ⟨_,aq H,_,aq H,_,aq H,_,aq H,_,aq H,_,aq H,_,aq H,hk⟩
theorem ai.gB{x:ai.S}(hk: ∀b h',b=h.size->ai.gn h' b x->Fr No h h'->K b h'):aT h (.cells ai.S.z.arr 124) λb H=>ai.dE H (AA b 0) x (K b):=
 gz (vs:=x.l) rfl rfl hk
theorem ai.dv{x:ai.S}(hk: ∀b h',b=h.size->ai.gn h' b x->Fr No h h'->K b h'):aT h (.cells x.arr 124) λb H=>K b H:=
 cI (hk _ _ rfl bV (Fr.push _ _))
theorem ai.iz{y x:ai.S}{K:ak->Prop}(a0:ai.gn h b y)(hk: ∀h',ai.gn h' b x->Fr (λy=>y=b) h h'->h'.size=h.size->K h'):ai.dE h (AA b 0) x K:=
 (show eu (AA b 0) x.l 0 h K from fo a0 rfl rfl λH d1 d2 d3=>hk H d1 (Fr.of_eq d2 λc g=>d3 c g) d2)
abbrev aG.gn(h:ak)(b:Nat)(x:aG.S):Prop:=h[b]? =some (.cells x.arr 126 (0,0))
theorem aG.ex{K:aG.S->Prop}(x:aG.S)(hk:K x):aG.EX K:=⟨_,_,_,_,_,_,_,_,_,_,_,_,_,_,_,_,_,_,_,_,hk⟩
theorem aG.fY{x:aG.S}{K:aG.S->Prop}(H:aG.gn h b x)(hk:K x):aG.cW h (AA b 0) K:=
 ⟨_,aq H,_,aq H,_,aq H,_,aq H,_,aq H,_,aq H,_,aq H,_,aq H,_,aq H,_,aq H,_,aq H,_,aq H,_,aq H,_,aq H,_,aq H,_,aq H,_,aq H,_,aq H,_,aq H,_,aq H,hk⟩
theorem aG.gB{x:aG.S}(hk: ∀b h',b=h.size->aG.gn h' b x->Fr No h h'->K b h'):aT h (.cells aG.S.z.arr 126) λb H=>aG.dE H (AA b 0) x (K b):=
 gz (vs:=x.l) rfl rfl hk
theorem aG.dv{x:aG.S}(hk: ∀b h',b=h.size->aG.gn h' b x->Fr No h h'->K b h'):aT h (.cells x.arr 126) λb H=>K b H:=
 cI (hk _ _ rfl bV (Fr.push _ _))
theorem aG.iz{y x:aG.S}{K:ak->Prop}(a0:aG.gn h b y)(hk: ∀h',aG.gn h' b x->Fr (λy=>y=b) h h'->h'.size=h.size->K h'):aG.dE h (AA b 0) x K:=
 (show eu (AA b 0) x.l 0 h K from fo a0 rfl rfl λH d1 d2 d3=>hk H d1 (Fr.of_eq d2 λc g=>d3 c g) d2)
variable {p:aG.S}
abbrev aK.gn(h:ak)(b:Nat)(x:aK.S):Prop:=h[b]? =some (.cells x.arr 201 (0,0))
theorem aK.ex{K:aK.S->Prop}(x:aK.S)(hk:K x):aK.EX K:=⟨_,_,_,_,_,_,_,hk⟩
theorem aK.fY{x:aK.S}{K:aK.S->Prop}(H:aK.gn h b x)(hk:K x):aK.cW h (AA b 0) K:=
 ⟨_,aq H,_,aq H,_,aq H,_,aq H,_,_,_,aq H,hk⟩
theorem aK.nf{x:aK.S}{K:aK.S->Prop}(H:dM a x.l 0 h)(hk:K x):aK.cW h a K:=by
 obtain⟨q,q1,q2,q3,q4,_⟩:=H;rw[eK]at q;exact⟨_,q,_,q1,_,q2,_,q3,_,_,_,q4,hk⟩
theorem aK.AF{x:aK.S}(H:aK.gn h b x):dM (AA b 0) x.l 0 h:=
 gO H (λj v c=>by rw[bH];simpa using c)
theorem aK.gB{x:aK.S}(hk: ∀b h',b=h.size->aK.gn h' b x->Fr No h h'->K b h'):aT h (.cells aK.S.z.arr 201) λb H=>aK.dE H (AA b 0) x (K b):=
 gz (vs:=x.l) rfl rfl hk
theorem aK.dv{x:aK.S}(hk: ∀b h',b=h.size->aK.gn h' b x->Fr No h h'->K b h'):aT h (.cells x.arr 201) λb H=>K b H:=
 cI (hk _ _ rfl bV (Fr.push _ _))
theorem aK.iz{y x:aK.S}{K:ak->Prop}(a0:aK.gn h b y)(hk: ∀h',aK.gn h' b x->Fr (λy=>y=b) h h'->h'.size=h.size->K h'):aK.dE h (AA b 0) x K:=
 (show eu (AA b 0) x.l 0 h K from fo a0 rfl rfl λH d1 d2 d3=>hk H d1 (Fr.of_eq d2 λc g=>d3 c g) d2)
abbrev ay.gn(h:ak)(b:Nat)(x:ay.S):Prop:=h[b]? =some (.cells x.arr 129 (0,0))
theorem ay.ex{K:ay.S->Prop}(x:ay.S)(hk:K x):ay.EX K:=⟨_,_,_,_,_,_,_,_,_,_,_,_,_,_,_,_,_,_,_,_,_,_,_,hk⟩
theorem ay.fY{x:ay.S}{K:ay.S->Prop}(H:ay.gn h b x)(hk:K x):ay.cW h (AA b 0) K:=
 ⟨_,aq H,_,aq H,_,aq H,_,aq H,_,aq H,_,aq H,_,aq H,_,aq H,_,aq H,_,aq H,_,aq H,_,aq H,_,aq H,_,aq H,_,aq H,_,aq H,_,aq H,_,aq H,_,aq H,_,aq H,_,_,_,aq H,hk⟩
theorem ay.gB{x:ay.S}(hk: ∀b h',b=h.size->ay.gn h' b x->Fr No h h'->K b h'):aT h (.cells ay.S.z.arr 129) λb H=>ay.dE H (AA b 0) x (K b):=
 gz (vs:=x.l) rfl rfl hk
theorem ay.dv{x:ay.S}(hk: ∀b h',b=h.size->ay.gn h' b x->Fr No h h'->K b h'):aT h (.cells x.arr 129) λb H=>K b H:=
 cI (hk _ _ rfl bV (Fr.push _ _))
theorem ay.iz{y x:ay.S}{K:ak->Prop}(a0:ay.gn h b y)(hk: ∀h',ay.gn h' b x->Fr (λy=>y=b) h h'->h'.size=h.size->K h'):ay.dE h (AA b 0) x K:=
 (show eu (AA b 0) x.l 0 h K from fo a0 rfl rfl λH d1 d2 d3=>hk H d1 (Fr.of_eq d2 λc g=>d3 c g) d2)
abbrev cF.gn(h:ak)(b:Nat)(x:cF.S):Prop:=h[b]? =some (.cells x.arr 287 (0,0))
theorem cF.ex{K:cF.S->Prop}(x:cF.S)(hk:K x):cF.EX K:=⟨_,_,_,_,_,_,_,_,_,_,_,_,hk⟩
theorem cF.fY{x:cF.S}{K:cF.S->Prop}(H:cF.gn h b x)(hk:K x):cF.cW h (AA b 0) K:=
 ⟨_,aq H,_,aq H,_,aq H,_,aq H,_,aq H,_,aq H,_,aq H,_,aq H,_,aq H,_,aq H,_,aq H,_,aq H,hk⟩
theorem cF.dv{x:cF.S}(hk: ∀b h',b=h.size->cF.gn h' b x->Fr No h h'->K b h'):aT h (.cells x.arr 287) λb H=>K b H:=
 cI (hk _ _ rfl bV (Fr.push _ _))
abbrev aH.gn(h:ak)(b:Nat)(x:aH.S):Prop:=h[b]? =some (.cells x.arr 47 (0,0))
theorem aH.ex{K:aH.S->Prop}(x:aH.S)(hk:K x):aH.EX K:=⟨_,_,_,_,_,_,_,_,_,_,_,_,_,_,_,_,_,_,_,_,_,hk⟩
theorem aH.fY{x:aH.S}{K:aH.S->Prop}(H:aH.gn h b x)(hk:K x):aH.cW h (AA b 0) K:=
 ⟨_,aq H,_,aq H,_,aq H,_,aq H,_,aq H,_,aq H,_,aq H,_,aq H,_,aq H,_,aq H,_,aq H,_,aq H,_,aq H,_,aq H,_,aq H,_,_,_,aq H,_,aq H,_,aq H,_,aq H,hk⟩
theorem aH.gB{x:aH.S}(hk: ∀b h',b=h.size->aH.gn h' b x->Fr No h h'->K b h'):aT h (.cells aH.S.z.arr 47) λb H=>aH.dE H (AA b 0) x (K b):=
 gz (vs:=x.l) rfl rfl hk
theorem aH.dv{x:aH.S}(hk: ∀b h',b=h.size->aH.gn h' b x->Fr No h h'->K b h'):aT h (.cells x.arr 47) λb H=>K b H:=
 cI (hk _ _ rfl bV (Fr.push _ _))
theorem aH.iz{y x:aH.S}{K:ak->Prop}(a0:aH.gn h b y)(hk: ∀h',aH.gn h' b x->Fr (λy=>y=b) h h'->h'.size=h.size->K h'):aH.dE h (AA b 0) x K:=
 (show eu (AA b 0) x.l 0 h K from fo a0 rfl rfl λH d1 d2 d3=>hk H d1 (Fr.of_eq d2 λc g=>d3 c g) d2)
abbrev av.gn(h:ak)(b:Nat)(x:av.S):Prop:=h[b]? =some (.cells x.arr 44 (0,0))
theorem av.ex{K:av.S->Prop}(x:av.S)(hk:K x):av.EX K:=⟨_,_,_,_,_,_,_,_,hk⟩
theorem av.fY{x:av.S}{K:av.S->Prop}(H:av.gn h b x)(hk:K x):av.cW h (AA b 0) K:=
 ⟨_,aq H,_,aq H,_,aq H,_,aq H,_,aq H,_,_,_,aq H,hk⟩
theorem av.gB{x:av.S}(hk: ∀b h',b=h.size->av.gn h' b x->Fr No h h'->K b h'):aT h (.cells av.S.z.arr 44) λb H=>av.dE H (AA b 0) x (K b):=
 gz (vs:=x.l) rfl rfl hk
theorem av.dv{x:av.S}(hk: ∀b h',b=h.size->av.gn h' b x->Fr No h h'->K b h'):aT h (.cells x.arr 44) λb H=>K b H:=
 cI (hk _ _ rfl bV (Fr.push _ _))
theorem av.iz{y x:av.S}{K:ak->Prop}(a0:av.gn h b y)(hk: ∀h',av.gn h' b x->Fr (λy=>y=b) h h'->h'.size=h.size->K h'):av.dE h (AA b 0) x K:=
 (show eu (AA b 0) x.l 0 h K from fo a0 rfl rfl λH d1 d2 d3=>hk H d1 (Fr.of_eq d2 λc g=>d3 c g) d2)
theorem fZ.ex{K:fZ.S->Prop}(x:fZ.S)(hk:K x):fZ.EX K:=⟨_,_,_,_,_,_,_,_,_,_,_,_,_,_,_,_,_,_,_,_,_,_,_,_,_,_,_,_,hk⟩
abbrev aN.gn(h:ak)(b:Nat)(x:aN.S):Prop:=h[b]? =some (.cells x.arr 114 (0,0))
theorem aN.ex{K:aN.S->Prop}(x:aN.S)(hk:K x):aN.EX K:=⟨_,_,_,_,_,_,_,_,_,_,_,_,hk⟩
theorem aN.nf{x:aN.S}{K:aN.S->Prop}(H:dM a x.l 0 h)(hk:K x):aN.cW h a K:=by
 obtain⟨q,q1,q2,q3,q4,Q,q6,c,g,i,_⟩:=H;rw[eK]at q;exact⟨_,q,_,q1,_,q2,_,q3,_,q4,_,Q,_,_,_,q6,_,c,_,g,_,i,hk⟩
theorem aN.dv{x:aN.S}(hk: ∀b h',b=h.size->aN.gn h' b x->Fr No h h'->K b h'):aT h (.cells x.arr 114) λb H=>K b H:=
 cI (hk _ _ rfl bV (Fr.push _ _))
theorem aN.iz{y x:aN.S}{K:ak->Prop}(a0:aN.gn h b y)(hk: ∀h',aN.gn h' b x->Fr (λy=>y=b) h h'->h'.size=h.size->K h'):aN.dE h (AA b 0) x K:=
 (show eu (AA b 0) x.l 0 h K from fo a0 rfl rfl λH d1 d2 d3=>hk H d1 (Fr.of_eq d2 λc g=>d3 c g) d2)
theorem aY.ex{K:aY.S->Prop}(x:aY.S)(hk:K x):aY.EX K:=⟨_,_,_,_,_,_,hk⟩
abbrev cv.gn(h:ak)(b:Nat)(x:cv.S):Prop:=h[b]? =some (.cells x.arr 98 (0,0))
theorem cv.ex{K:cv.S->Prop}(x:cv.S)(hk:K x):cv.EX K:=⟨_,_,_,_,_,_,_,_,_,_,_,_,_,_,_,_,_,_,_,_,_,_,_,hk⟩
theorem cv.fY{x:cv.S}{K:cv.S->Prop}(H:cv.gn h b x)(hk:K x):cv.cW h (AA b 0) K:=
 ⟨_,aq H,_,aq H,_,aq H,_,aq H,_,aq H,_,aq H,_,aq H,_,aq H,_,aq H,_,aq H,_,aq H,_,aq H,_,aq H,_,aq H,_,aq H,_,_,_,aq H,_,aq H,_,aq H,_,aq H,_,aq H,_,aq H,hk⟩
theorem cv.dv{x:cv.S}(hk: ∀b h',b=h.size->cv.gn h' b x->Fr No h h'->K b h'):aT h (.cells x.arr 98) λb H=>K b H:=
 cI (hk _ _ rfl bV (Fr.push _ _))
theorem fy.ex{K:fy.S->Prop}(x:fy.S)(hk:K x):fy.EX K:=⟨_,_,_,_,_,_,_,_,_,_,_,_,_,_,_,_,_,_,_,_,_,_,_,_,_,_,_,hk⟩
theorem pW.walk(H:R (.I (wrap .i64 (2*sum))) h):Cl 285 #[.I sum] h R:=aR (lq ll) Tryz.func285 H
theorem AG.walk (k:aI (λ(t34:Bool) (H:ak)=>if t34 then R (.I (-1)) H else Bd V l/\aO L λa=> ∃t39,aX H ((a.add (toNat V*4)).add 1)=some (.U t39)/\R (.I (wrap .i64 t39)) H) (λJ=>if(decide (V<0))then J true h else if(decide (V≥(l:Int)))then J true h else Bd V l/\aO L λA=> ∃t18,aX h ((A.add (toNat V*4)).add 1)=some (.U t18)/\if(decide (t18>2))then J true h else Bd V l/\aO L λg=>aa.cW h (g.add (toNat V*4)) λt25=>Bd V l/\aO L λj=>ia h ((j.add (toNat V*4)).add 1) λt30=>Cl 205 #[.U t30] h λv c=>aa.EX λt31=>v=t31.agg/\Kp h c [(some (g.add (toNat V*4))),(some ((A.add (toNat V*4)).add 1))]/\Cl 248 #[t25.agg,t31.agg] c λn i=> ∃t32,n=.bool t32/\Kp c i [(some ((A.add (toNat V*4)).add 1))]/\J (!t32) i)):Cl 257 #[.slice L l d,.I V] h R:=aR (lq (sq (sq (.join [(34,.one (.bool))] (pK 30)) (cq ll lf)) ll)) Tryz.func257 k
theorem BA.walk (D:Cl 295 #[.slice L l d] h λv k=>Vl v λG F E=>Cl 285 #[.I sum] k λS r=>Vi S λt14=>aU Tryz.prog (Instr.makeSlice 22 (.I t14) (.I t14)) r λU u=>Vl U λM J I=>Cl 210 #[.slice M J I] u λW w=>aa.EX λt16=>W=t16.agg/\aT w (.cells t16.arr 262) λb y=>aU Tryz.prog (Builtin.append_ #[260,260] 260 #[.slice G F E,.slice (Sa b 0) 1 1]) y λX z=>Vl X λQ O N=>Cl 247 #[.slice Q O N] z λY A=>aa.EX λt19=>Y=t19.agg/\Cl 178 #[t19.agg] A λZ H=> ∃c T t g,Z=.tuple #[.slice c T t,.I g]/\if(g !=0)then R (.tuple #[.Z,.I 3]) H else if(sum==1)then Cl 296 #[.slice c T t] H λa' C=> ∃t28,a'=.int .u16 t28/\aT C (.cells #[.int .u8 (wrap .u8 (Int.fdiv t28 (2 ^ min (toNat 8) (IntKind.bits .u16)))),.int .u8 (wrap .u8 t28)] 5) λi n=>R (.tuple #[.slice (Sa i 0) 2 2,.I 0]) n else Cl 297 #[.slice c T t] H λb' o=> ∃t36,b'=.int .u32 t36/\aT o (.cells #[.int .u8 (wrap .u8 (Int.fdiv t36 (2 ^ min (toNat 24) (IntKind.bits .u32)))),.int .u8 (wrap .u8 (Int.fdiv t36 (2 ^ min (toNat 16) (IntKind.bits .u32)))),.int .u8 (wrap .u8 (Int.fdiv t36 (2 ^ min (toNat 8) (IntKind.bits .u32)))),.int .u8 (wrap .u8 t36)] 5) λj q=>R (.tuple #[.slice (Sa j 0) 4 4,.I 0]) q):Cl 259 #[.slice L l d,.I sum] h R:=aR (lq (lq (sq (lq (cq ll lf)) (sq (lq (cq (lq ll) lf)) (lq ll))))) Tryz.func259 D
theorem DH.walk (Y:aT h (.cells aa.S.z.arr 262) λb n=>aI (λ(t18:Bool) (y:ak)=>if t18 then aa.dE y (AA b 0) aa.S.z λA=>aa.cW A (AA b 0) λZ=>R (.tuple #[Z.agg,.I 1]) A else Cl 257 #[.slice L l d,.I V] y λv U=>Vi v λt22=>aI (λ(t29:Bool) (C:ak)=>if t29 then aa.dE C (AA b 0) aa.S.z λD=>aa.cW D (AA b 0) λa'=>R (.tuple #[a'.agg,.I 3]) D else Cl 247 #[.slice L l d] C λh' W=>aa.EX λt32=>h'=t32.agg/\aT W (.cells aa.S.z.arr 262) λc X=>aa.dE X (AA c 0) t32 λE=>aI (λ(o:ak)=>aa.cW o (AA c 0) λt52=>Cl 207 #[t52.agg] o λi' g=> ∃t53,i'=.bool t53/\if(!t53)then aa.dE g (AA b 0) aa.S.z λq=>aa.cW q (AA b 0) λb'=>R (.tuple #[b'.agg,.I 3]) q else aa.cW g (AA c 0) λt56=>aa.dE g (AA b 0) t56 λr=>aa.cW r (AA b 0) λc'=>R (.tuple #[c'.agg,.I 0]) r) (λk=>if(decide (t22>0))then Cl 259 #[.slice L l d,.I t22] E λj' H=> ∃G F T t,j'=.tuple #[.slice G F T,.I t]/\if(t !=0)then aa.dE H (AA b 0) aa.S.z λu=>aa.cW u (AA b 0) λd'=>R (.tuple #[d'.agg,.I t]) u else Hl H c 3 λg' f' e'=>Cl 210 #[.slice G F T] H λk' i=>aa.EX λt48=>k'=t48.agg/\Kp H i [(Sa c 3)]/\aT i (.cells t48.arr 262) λO w=>Kp i w [(Sa c 3)]/\aU Tryz.prog (Builtin.append_ #[260,260] 260 #[.slice g' f' e',.slice (Sa O 0) 1 1]) w λl' Q=> ∃N M I,l'=.slice N M I/\aQ Q (AA c 3) (.slice N M I) λS=>k S else k E)) (λj=>Cl 258 #[.slice L l d,.func (.func 256) #[] #[]] U λm' z=> ∃t25,m'=.bool t25/\if t25 then j true z else j (decide (t22<0)) z)) (λJ=>if(decide (V<0))then J true n else J (decide (V≥(l:Int))) n)):Cl 206 #[.slice L l d,.I V] h R:=aR (lq (sq (sq (.join [(18,.one (.bool))] lf) (cq ll lf)) (lq (lq (sq (sq (.join [(29,.one (.bool))] lf) (cq ll lf)) (lq (sq (lq (.join [] (cq (lq (sq (lq (cq ll lf)) (pK 8))) lf))) (sq (lq (cq ll lf)) ll)))))))) Tryz.func206 Y
theorem AH.walk(g:aT h (.cells x.arr 262) λb H=>aa.cW H (AA b 0) λt3=>Cl 207 #[t3.agg] H λv c=> ∃t4,v=.bool t4/\R (.bool (!t4)) c):Cl 256 #[x.agg] h R:=aR (lq ll) Tryz.func256 g
theorem DI.walk (hv:aT h (.cells x.arr 262) λb y=>aI (λ(t18:Bool) (o:ak)=>if t18 then R (.tuple #[.Z,.I 3]) o else∃E D C,Cc o b 3 (.slice E D C)/\Cl 257 #[.slice E D C,.I V] o λv H=> ∃t22,v=.I t22/\if(decide (t22<0))then R (.tuple #[.Z,.I 3]) H else if(t22==0)then∃I G F,Cc H b 3 (.slice I G F)/\Cl 247 #[.slice I G F] H λo' f'=>aa.EX λt31=>o'=t31.agg/\R (.tuple #[.slice t31.ou t31.lS t31.nt,.I 0]) f' else∃i' t h',Cc H b 3 (.slice i' t h')/\∃N M j',Cc H b 3 (.slice N M j')/\((0:Int)<=wrap .i64 (((t:Nat):Int) - 1)/\wrap .i64 (((t:Nat):Int) - 1)<((M:Nat):Int))/\aO N λa=>aa.cW H (a.add (toNat (wrap .i64 (((t:Nat):Int) - 1))*4)) λt41=>aT H (.cells aa.S.z.arr 262) λc g'=>aa.dE g' (AA c 0) t41 λg=>aI (λ(t60:Bool) (q:ak)=>if t60 then R (.tuple #[.Z,.I 3]) q else∃W m' T,Cc q b 3 (.slice W m' T)/\((0:Int)<=wrap .i64 (((t:Nat):Int) - 1)/\wrap .i64 (((t:Nat):Int) - 1)<=((T:Nat):Int))/\Cl 259 #[.slice (cR W T 0 4) ((toNat (wrap .i64 (((t:Nat):Int) - 1))) - 0) (T - 0),.I t22] q λp' r=> ∃Z Y X w,p'=.tuple #[.slice Z Y X,.I w]/\if(w !=0)then R (.tuple #[.Z,.I w]) r else∃c' b' a',Cc r c 2 (.slice c' b' a')/\Cl 82 #[.slice Z Y X,.slice c' b' a'] r λq' u=> ∃t78,q'=.bool t78/\if(!t78)then R (.tuple #[.Z,.I 10]) u else∃d' n' j,Cc u b 3 (.slice d' n' j)/\((0:Int)<=wrap .i64 (((t:Nat):Int) - 1)/\wrap .i64 (((t:Nat):Int) - 1)<=((j:Nat):Int))/\Cl 247 #[.slice (cR d' j 0 4) ((toNat (wrap .i64 (((t:Nat):Int) - 1))) - 0) (j - 0)] u λr' e'=>aa.EX λt84=>r'=t84.agg/\R (.tuple #[.slice t84.ou t84.lS t84.nt,.I 0]) e') (λk=>if(decide ((wrap .i64 (((t:Nat):Int) - 1))<=V))then k true g else aa.cW g (AA c 0) λt46=> ∃S Q O,Cc g c 2 (.slice S Q O)/\Cl 210 #[.slice S Q O] g λs' z=>aa.EX λt49=>s'=t49.agg/\Kp g z [(Sa c 0)]/\Cl 248 #[t46.agg,t49.agg] z λt' i=> ∃t50,t'=.bool t50/\if(!t50)then k true i else∃l' U k',Cc i c 2 (.slice l' U k')/\Cl 285 #[.I t22] i λu' A=> ∃t58,u'=.I t58/\Kp i A [(Sa c 2)]/\k (((U:Nat):Int) !=t58) A)) (λJ=>aa.cW y (AA b 0) λt11=>Cl 207 #[t11.agg] y λv' n=> ∃t12,v'=.bool t12/\if(!t12)then J true n else∃t16,Cc n b 0 (.I t16)/\J (t16 !=4) n)):Cl 244 #[x.agg,.I V] h R:=aR (lq (sq (sq (.join [(18,.one (.bool))] lf) (cq ll lf)) (lq (sq (bq (lq (cq ll (lq (cq ll lf))))) (lq (lq (sq (sq (.join [(60,.one (.bool))] (pK 19)) (cq ll lf)) (lq (sq (bq (lq (cq ll (lq (cq ll lf))))) ll))))))))) Tryz.func244 hv
theorem BC.walk(j:aT h (.cells p.arr 126) λb H=> ∃t4,Cc H b 0 (.U t4)/\if((wrap .u64 ((nE t4 &&& ~~~ nE 409638).toNat:Int))==0)then∃t9,Cc H b 1 (.I t9)/\if(decide (t9≥0))then∃t14,Cc H b 1 (.I t14)/\if(decide (t14<=2))then ax.cW H (AA b 2) λt19=>Cl 86 #[t19.agg] H λv c=> ∃t20,v=.bool t20/\if t20 then ax.cW c (AA b 7) λt24=>Cl 86 #[t24.agg] c λk g=> ∃t25,k=.bool t25/\if t25 then ai.cW g (AA b 12) λt29=>Cl 237 #[t29.agg] g λn i=> ∃t30,n=.bool t30/\if t30 then∃t34,Cc i b 19 (.U t34)/\R (.bool (decide (t34<=1099511627776))) i else R (.bool false) i else R (.bool false) g else R (.bool false) c else R (.bool false) H else R (.bool false) H else R (.bool false) H):Cl 202 #[p.agg] h R:=aR (lq ll) Tryz.func202 j
theorem BD.walk(X:aT h (.cells p.arr 126) λb J=>aT J (.cells aa.S.z.arr 262) λj w=>aG.cW w (AA b 0) λt11=>Cl 202 #[t11.agg] w λv r=> ∃t12,v=.bool t12/\if(!t12)then aa.dE r (AA j 0) aa.S.z λz=>aa.cW z (AA j 0) λY=>R (.tuple #[Y.agg,.I 3]) z else ax.cW r (AA b 2) λt17=>Cl 203 #[t17.agg] r λh' Q=>aa.EX λT=> ∃a',h'=.tuple #[T.agg,.I a']/\aT Q (.cells aa.S.z.arr 262) λg S=>aa.dE S (AA g 0) T λC=>ax.cW C (AA b 7) λt23=>Cl 203 #[t23.agg] C λi' U=>aa.EX λD=> ∃b',i'=.tuple #[D.agg,.I b']/\aT U (.cells aa.S.z.arr 262) λi W=>aa.dE W (AA i 0) D λt=>ai.cW t (AA b 12) λt29=>Cl 204 #[t29.agg] t λj' M=>aa.EX λE=> ∃c',j'=.tuple #[E.agg,.I c']/\aT M (.cells aa.S.z.arr 262) λc N=>aa.dE N (AA c 0) E λH=>Hu H b 0 λt35=>Hi H b 1 λt38=>aa.cW H (AA g 0) λt41=>Hl H c 3 λe' d' p'=>Bd 0 d'/\aO e' λa=>aa.cW H (a.add (toNat 0*4)) λt45=>aa.cW H (AA i 0) λt46=>Hl H c 3 λg' f' q'=>Bd 1 f'/\aO g' λA=>aa.cW H (A.add (toNat 1*4)) λt50=>Hu H b 19 λt52=>Cl 205 #[.U 7] H λk' k=>aa.EX λt33=>k'=t33.agg/\Kp H k [(Sa b 19),(some (A.add (toNat 1*4))),(Sa c 3),(Sa i 0),(some (a.add (toNat 0*4))),(Sa c 3),(Sa g 0),(Sa b 1),(Sa b 0)]/\Cl 205 #[.U t35] k λl' n=>aa.EX λt36=>l'=t36.agg/\Kp k n [(Sa b 19),(some (A.add (toNat 1*4))),(Sa c 3),(Sa i 0),(some (a.add (toNat 0*4))),(Sa c 3),(Sa g 0),(Sa b 1)]/\Cl 205 #[.U (wrap .u64 t38)] n λm' o=>aa.EX λt40=>m'=t40.agg/\Kp n o [(Sa b 19),(some (A.add (toNat 1*4))),(Sa c 3),(Sa i 0),(some (a.add (toNat 0*4))),(Sa c 3),(Sa g 0),(Sa b 1)]/\Cl 205 #[.U t52] o λn' q=>aa.EX λt53=>n'=t53.agg/\Kp o q [(some (A.add (toNat 1*4))),(Sa c 3),(Sa i 0),(some (a.add (toNat 0*4))),(Sa c 3),(Sa g 0),(Sa b 1)]/\aT q (.cells (t33.l++t36.l++t40.l++t41.l++t45.l++t46.l++t50.l++t53.l).toArray 262) λI u=>Kp q u [(Sa c 3),(Sa c 3),(Sa b 1)]/\Cl 206 #[.slice (Sa I 0) 8 8,.I 2] u λo' O=>aa.EX λF=> ∃G,o'=.tuple #[F.agg,.I G]/\aa.dE O (AA j 0) F λy=>aa.cW y (AA j 0) λZ=>R (.tuple #[Z.agg,.I G]) y):Cl 177 #[p.agg] h R:=aR (lq (sq (lq (cq ll lf)) (lq (lq (lq (sq (.kC (.op 1 (.op 2 (ga 3 4 (ga 12 8 (.op 0 (.op 3 (.op 7 (ga 3 20 .done))))))))) ll)))))) Tryz.func177 X
theorem DJ.walk (hv:aT h (.cells x.arr 262) λb w'=>aT w' (.cells aG.S.z.arr 126) λc U=>aa.cW U (AA b 0) λt15=>Cl 244 #[t15.agg,.I 2] U λv n=> ∃T t V' w,v=.tuple #[.slice T t V',.I w]/\if(w !=0)then aG.dE n (AA c 0) aG.S.z λa'=>aG.cW a' (AA c 0) λr0=>R (.tuple #[r0.agg,.I w]) a' else if(((t:Nat):Int) !=8)then aG.dE n (AA c 0) aG.S.z λb'=>aG.cW b' (AA c 0) λS'=>R (.tuple #[S'.agg,.I 3]) b' else Bd 3 t/\aO T λa=>aa.cW n (a.add (toNat 3*4)) λt32=>Cl 245 #[t32.agg] n λW' P'=>ax.EX λd'=> ∃e',W'=.tuple #[d'.agg,.I e']/\aT P' (.cells ax.S.z.arr 29) λo Q'=>ax.dE Q' (AA o 0) d' λc'=>Bd 5 t/\aO T λt'=>aa.cW c' (t'.add (toNat 5*4)) λt39=>Cl 245 #[t39.agg] c' λZ' R'=>ax.EX λf'=> ∃g',Z'=.tuple #[f'.agg,.I g']/\aT R' (.cells ax.S.z.arr 29) λq x'=>ax.dE x' (AA q 0) f' λk=>aI (λ(id:bZ) (g:Int) (H:ak)=>Bd 1 t/\aO T λA=>ia H ((A.add (toNat 1*4)).add 1) λt58=>Bd 2 t/\aO T λy=>ia H ((y.add (toNat 2*4)).add 1) λt62=>ax.cW H (AA o 0) λt64=>ax.cW H (AA q 0) λt65=>aO id λu'=>ai.cW H u' λt66=>Bd 7 t/\aO T λz=>ia H ((z.add (toNat 7*4)).add 1) λt70=>aT H (.cells aG.S.z.arr 126) λr O=>Kp H O [(some ((z.add (toNat 7*4)).add 1)),id,(Sa q 0),(Sa o 0),(some ((y.add (toNat 2*4)).add 1)),(some ((A.add (toNat 1*4)).add 1))]/\aG.dE O (AA r 0) ⟨t58,(wrap .i64 t62),t64.f0,t64.f1,t64.f2,t64.f3,t64.f4,t65.f0,t65.f1,t65.f2,t65.f3,t65.f4,t66.f0,t66.f1,t66.f2,t66.f3,t66.f4,t66.f5,t66.f6,t70⟩ λQ=>aG.cW Q (AA r 0) λt73=>Cl 177 #[t73.agg] Q λKW y'=>aa.EX λr'=> ∃s',KW=.tuple #[r'.agg,.I s']/\aT y' (.cells aa.S.z.arr 262) λF z'=>aa.dE z' (AA F 0) r' λi=>aI (λ(t96:Bool) (u:ak)=>if t96 then aG.dE u (AA c 0) aG.S.z λS=>aG.cW S (AA c 0) λT'=>R (.tuple #[T'.agg,.I 3]) S else aG.cW u (AA r 0) λt98=>aG.dE u (AA c 0) t98 λW=>aG.cW W (AA c 0) λU'=>R (.tuple #[U'.agg,.I 0]) W) (λj=>if(e' !=0)then j true i else if(g' !=0)then j true i else if(g !=0)then j true i else if(s' !=0)then j true i else aa.cW i (AA F 0) λt92=>aa.cW i (AA b 0) λt93=>Cl 248 #[t92.agg,t93.agg] i λHD A'=> ∃t94,HD=.bool t94/\j (!t94) A')) (λJ=>Bd 4 t/\aO T λC=>aa.cW k (C.add (toNat 4*4)) λt46=>Bd 6 t/\aO T λD=>aa.cW k (D.add (toNat 6*4)) λt49=>(aT k (.cells (t46.l++t49.l).toArray 262) λG X=>(Cl 247 #[.slice (Sa G 0) 2 2] X λNN Y=>aa.EX λt51=>NN=t51.agg/\(Cl 246 #[t51.agg] Y λP2 B'=>ai.EX λj'=> ∃n',P2=.tuple #[j'.agg,.I n']/\aT B' (.cells ai.S.z.arr 124) λI C'=>ai.dE C' (AA I 0) j' λD'=>J (Sa I 0) n' D')/\(aT Y (.cells ai.S.z.arr 124) λM E'=>Cl 246 #[t51.agg] E' λP3 F'=>ai.EX λk'=> ∃o',P3=.tuple #[k'.agg,.I o']/\ai.dE F' (AA M 0) k' λG'=>J (Sa M 0) o' G')/\True)/\(aT X (.cells ai.S.z.arr 124) λN H'=>Cl 247 #[.slice (Sa G 0) 2 2] H' λP4 I'=>aa.EX λh'=>P4=h'.agg/\Cl 246 #[h'.agg] I' λP5 J'=>ai.EX λl'=> ∃p',P5=.tuple #[l'.agg,.I p']/\ai.dE J' (AA N 0) l' λK'=>J (Sa N 0) p' K')/\True)/\(aT k (.cells ai.S.z.arr 124) λE Z=>Kp k Z [(some (D.add (toNat 6*4))),(some (C.add (toNat 4*4)))]/\aT Z (.cells (t46.l++t49.l).toArray 262) λv' L'=>Cl 247 #[.slice (Sa v' 0) 2 2] L' λX' M'=>aa.EX λi'=>X'=i'.agg/\Cl 246 #[i'.agg] M' λY' N'=>ai.EX λm'=> ∃q',Y'=.tuple #[m'.agg,.I q']/\ai.dE N' (AA E 0) m' λO'=>J (Sa E 0) q' O')/\True)):Cl 194 #[x.agg] h R:=aR (lq (lq (sq (bq (lq (cq ll (lq (cq ll lf))))) (lq (lq (sq (.join [(9,.one (.ptr)),(10,.one (.int .i64))] (.kC (ga 6 0 (.alts (.fork 6 (.alts (.fork 7 (.alts (.fork 8 (ga 6 9 .done) (.fork 12 (ga 4 8 (.op 13 (.op 14 .done))) .gy))) (.fork 12 (ga 5 7 (.op 13 (.op 14 .done))) .gy))) (.fork 12 (ga 6 6 (.op 13 (.op 14 .done))) .gy)))))) (sq (pK 19) (lq (sq (sq (.join [(96,.one (.bool))] lf) (cq ll lf)) ll))))))))) Tryz.func194 hv
theorem Io.walk (H:if((wrap .u32 ((BitVec.ofInt (IntKind.bits .u32) s &&& BitVec.ofInt (IntKind.bits .u32) 1).toNat:Int))==1)then R (.int .u32 (wrap .u32 ((BitVec.ofInt (IntKind.bits .u32) (Int.fdiv s (2 ^ min (toNat 1) (IntKind.bits .u32))) ^^^ BitVec.ofInt (IntKind.bits .u32) P).toNat:Int))) h else R (.int .u32 (Int.fdiv s (2 ^ min (toNat 1) (IntKind.bits .u32)))) h):Cl 327 #[.int .u32 s,.int .u32 P] h R:=aR (lq (sq (lq (cq ll lf)) ll)) Tryz.func327 H
theorem FR.walk{c:Int}(i: ∃(I:Int->Int->ak->Prop)(M:Int->Int->ak->Nat),I (wrap .u32 ((BitVec.ofInt (IntKind.bits .u32) s ^^^ BitVec.ofInt (IntKind.bits .u32) (wrap .u32 c)).toNat:Int)) 0 h/\∀(S:Int)(t11:Int)(H:ak),I S t11 H->if(decide (t11<8))then Cl 327 #[.int .u32 S,.int .u32 P] H λv g=> ∃t15,v=.int .u32 t15/\(I t15 (wrap .i64 (t11+1)) g/\M t15 (wrap .i64 (t11+1)) g<M S t11 H)else R (.int .u32 S) H):Cl 323 #[.int .u32 s,.int .u8 c,.int .u32 P] h R:=aR (lq (lq (sq (lq (bq (.loop [(0,.one (.int .u32)),(11,.one (.int .i64))] (lq (sq (cq lf lf) (sq (bq lf) lf)))))) ll))) Tryz.func323 i
theorem Od.walk(g: ∃(I:Int->Int->ak->Prop)(M:Int->Int->ak->Nat),I s 0 h/\∀(S:Int)(t11:Int)(H:ak),I S t11 H->if(decide (t11<(B:Int)))then Bd t11 B/\aO e λa=>I6 H (a.add (toNat t11*1)) λt14=>Cl 323 #[.int .u32 S,.int .u8 t14,.int .u32 P] H λv c=> ∃t18,v=.int .u32 t18/\(I t18 (wrap .i64 (t11+1)) c/\M t18 (wrap .i64 (t11+1)) c<M S t11 H)else R (.int .u32 S) H):Cl 315 #[.int .u32 s,.slice e B f,.int .u32 P] h R:=aR (lq (sq (lq (bq (.loop [(0,.one (.int .u32)),(11,.one (.int .i64))] (lq (sq (cq lf lf) (sq (bq ll) lf)))))) ll)) Tryz.func315 g
theorem Ip.walk (c:Cl 315 #[.int .u32 65535,.slice e B f,.int .u32 33800] h λv H=> ∃t4,v=.int .u32 t4/\R (.int .u16 (wrap .u16 ((BitVec.ofInt (IntKind.bits .u16) (IntKind.max .u16) ^^^ BitVec.ofInt (IntKind.bits .u16) (wrap .u16 t4)).toNat:Int))) H):Cl 296 #[.slice e B f] h R:=aR (lq ll) Tryz.func296 c
theorem Lw.walk (c:Cl 315 #[.int .u32 4294967295,.slice e B f,.int .u32 2197175160] h λv H=> ∃t4,v=.int .u32 t4/\R (.int .u32 (wrap .u32 ((BitVec.ofInt (IntKind.bits .u32) (IntKind.max .u32) ^^^ BitVec.ofInt (IntKind.bits .u32) t4).toNat:Int))) H):Cl 297 #[.slice e B f] h R:=aR (lq ll) Tryz.func297 c
theorem FU.walk{x:ai.S}(g:aT h (.cells x.arr 124) λb c=>ax.cW c (AA b 0) λt4=>Cl 86 #[t4.agg] c λv H=> ∃t5,v=.bool t5/\if t5 then∃t8,Cc H b 5 (.U t8)/\if(decide (t8<=1099511627776))then∃t13,Cc H b 6 (.U t13)/\R (.bool (decide (t13<=1099511627776))) H else R (.bool false) H else R (.bool false) H):Cl 237 #[x.agg] h R:=aR (lq ll) Tryz.func237 g
theorem FV.walk{a:ai.S}{b:ai.S}(k:aT h (.cells a.arr 124) λc i=>aT i (.cells b.arr 124) λg H=>Hu H c 5 λt7=> ∃t9,Cc H g 5 (.U t9)/\if(t7 !=t9)then Hu H c 5 λt12=> ∃t14,Cc H g 5 (.U t14)/\R (.bool (decide (t12<t14))) H else Hu H c 6 λt18=> ∃t20,Cc H g 6 (.U t20)/\if(t18 !=t20)then Hu H c 6 λt23=> ∃t25,Cc H g 6 (.U t25)/\R (.bool (decide (t23<t25))) H else ax.cW H (AA c 0) λt28=>ax.cW H (AA g 0) λt30=>Cl 133 #[t28.agg,t30.agg] H λv j=> ∃t31,v=.bool t31/\R (.bool t31) j):Cl 238 #[a.agg,b.agg] h R:=aR (lq (sq (bq (lq (cq ll (lq (cq ll lf))))) ll)) Tryz.func238 k
theorem FW.walk{x:ai.S}(F:aT h (.cells x.arr 124) λb z=>aT z (.cells aa.S.z.arr 262) λg r=>ai.cW r (AA b 0) λt6=>Cl 237 #[t6.agg] r λv j=> ∃t7,v=.bool t7/\if(!t7)then aa.dE j (AA g 0) aa.S.z λt=>aa.cW t (AA g 0) λG=>R (.tuple #[G.agg,.I 3]) t else ax.cW j (AA b 0) λt12=>Cl 203 #[t12.agg] j λJ D=>aa.EX λT=> ∃u,J=.tuple #[T.agg,.I u]/\aT D (.cells aa.S.z.arr 262) λc E=>aa.dE E (AA c 0) T λH=>aa.cW H (AA c 0) λt16=>Hu H b 5 λt18=>Hu H b 6 λt21=>Cl 205 #[.U t18] H λM k=>aa.EX λt19=>M=t19.agg/\Kp H k [(Sa b 6),(Sa c 0)]/\Cl 205 #[.U t21] k λN n=>aa.EX λt22=>N=t22.agg/\Kp k n [(Sa c 0)]/\aT n (.cells (t19.l++t22.l).toArray 262) λw i=>Kp n i [(Sa c 0)]/\Cl 247 #[.slice (Sa w 0) 2 2] i λO o=>aa.EX λt24=>O=t24.agg/\Kp i o [(Sa c 0)]/\aT o (.cells (t16.l++t24.l).toArray 262) λy A=>Cl 247 #[.slice (Sa y 0) 2 2] A λQ C=>aa.EX λt26=>Q=t26.agg/\aa.dE C (AA g 0) t26 λq=>aa.cW q (AA g 0) λI=>R (.tuple #[I.agg,.I u]) q):Cl 204 #[x.agg] h R:=aR (lq (sq (lq (cq ll lf)) (lq (sq (.kC (ga 3 0 (.op 4 (.op 5 (.op 11 (.op 3 (ga 5 6 (.op 12 (.op 13 .done))))))))) lf)))) Tryz.func204 F
theorem Iq.walk (hv:aT h (.cells x.arr 262) λb S=>aT S (.cells ai.S.z.arr 124) λg H=>aI (λ(t34:Bool) (j:ak)=>if t34 then ai.dE j (AA g 0) ai.S.z λC=>ai.cW C (AA g 0) λr0=>R (.tuple #[r0.agg,.I 3]) C else Hl j b 3 λl' k' y'=>Bd 0 k'/\aO l' λa=>aa.cW j (a.add (toNat 0*4)) λt40=>Cl 245 #[t40.agg] j λv Y=>ax.EX λG=> ∃I,v=.tuple #[G.agg,.I I]/\aT Y (.cells ax.S.z.arr 29) λn Z=>ax.dE Z (AA n 0) G λc=>ax.cW c (AA n 0) λt44=>Hl c b 3 λn' m' z'=>Bd 1 m'/\aO n' λA=>oY c ((A.add (toNat 1*4)).add 3) λp' o' A'=>Bd 0 o'/\aO p' λr=>ia c ((r.add (toNat 0*4)).add 1) λt52=>Hl c b 3 λr' q' B'=>Bd 1 q'/\aO r' λt=>oY c ((t.add (toNat 1*4)).add 3) λt' s' C'=>Bd 1 s'/\aO t' λu=>ia c ((u.add (toNat 1*4)).add 1) λt60=>aT c (.cells ai.S.z.arr 124) λo D=>Kp c D [(some ((u.add (toNat 1*4)).add 1)),(some ((t.add (toNat 1*4)).add 3)),(Sa b 3),(some ((r.add (toNat 0*4)).add 1)),(some ((A.add (toNat 1*4)).add 3)),(Sa b 3),(Sa n 0)]/\ai.dE D (AA o 0) ⟨t44.f0,t44.f1,t44.f2,t44.f3,t44.f4,t52,t60⟩ λE=>ai.cW E (AA o 0) λt63=>Cl 204 #[t63.agg] E λu' U=>aa.EX λM=> ∃N,u'=.tuple #[M.agg,.I N]/\aT U (.cells aa.S.z.arr 262) λw W=>aa.dE W (AA w 0) M λi=>aI (λ(t78:Bool) (q:ak)=>if t78 then ai.dE q (AA g 0) ai.S.z λy=>ai.cW y (AA g 0) λa'=>R (.tuple #[a'.agg,.I 3]) y else ai.cW q (AA o 0) λt80=>ai.dE q (AA g 0) t80 λz=>ai.cW z (AA g 0) λb'=>R (.tuple #[b'.agg,.I 0]) z) (λk=>if(I !=0)then k true i else if(N !=0)then k true i else aa.cW i (AA w 0) λt74=>aa.cW i (AA b 0) λt75=>Cl 248 #[t74.agg,t75.agg] i λv' X=> ∃t76,v'=.bool t76/\k (!t76) X)) (λJ=> ∃t10,Cc H b 0 (.I t10)/\if(t10 !=4)then J true H else∃d' T c',Cc H b 3 (.slice d' T c')/\if(((T:Nat):Int) !=2)then J true H else Hl H b 3 λf' e' w'=>Bd 1 e'/\aO f' λO=> ∃t23,aX H (O.add (toNat 1*4))=some (.I t23)/\if(t23 !=4)then J true H else Hl H b 3 λh' g' x'=>Bd 1 g'/\aO h' λQ=> ∃j' F i',aX H ((Q.add (toNat 1*4)).add 3)=some (.slice j' F i')/\J (((F:Nat):Int) !=2) H)):Cl 246 #[x.agg] h R:=aR (lq (sq (sq (.join [(34,.one (.bool))] lf) (cq ll lf)) (lq (sq (pK 20) (sq (lq (sq (.join [(78,.one (.bool))] lf) (cq ll lf))) ll))))) Tryz.func246 hv
theorem xc.walk{now:Int} (C:aT h (.cells ai.S.z.arr 124) λb c=>aI (λ(i:ak)=>ai.cW i (AA m 0) λt58=>ai.dE i (AA b 0) t58 λk=>ai.cW k (AA b 0) λD=>R (.tuple #[D.agg,.I 0]) k) (λJ=>aI (λ(t15:Bool) (H:ak)=>aI (λ(y:ak)=>J y) (λr=>if t15 then ai.dE H (AA b 0) ai.S.z λn=>ai.cW n (AA b 0) λE=>R (.tuple #[E.agg,.I 6]) n else aI (λ(z:ak)=>r z) (λt=>if(decide (now>1099511627776))then ai.dE H (AA b 0) ai.S.z λo=>ai.cW o (AA b 0) λF=>R (.tuple #[F.agg,.I 1]) o else Hu H m 5 λt36=>aI (λ(A:ak)=>t A) (λj=>if(decide (now>t36))then aQ H (AA m 5) (.U now) λu=>aQ u (AA m 6) (.U 0) λv=>j v else∃t52,Cc H m 6 (.U t52)/\if(decide (t52≥1099511627776))then ai.dE H (AA b 0) ai.S.z λg=>ai.cW g (AA b 0) λG=>R (.tuple #[G.agg,.I 5]) g else∃t10,Cc H m 6 (.U t10)/\aQ H (AA m 6) (.U (wrap .u64 (t10+1))) λw=>j w)))) (λq=> ∃t22,Cc c m 7 (.bool t22)/\q (!t22) c))):Cl 190 #[.P m 0,.U now] h R:=aR (lq (sq (.join [] (bq (sq (.join [(15,.one (.bool))] lf) (.join [] (cq ll (lq (.join [] (cq ll (lq (.join [] (cq lf (lq (cq ll lf))))))))))))) ll)) Tryz.func190 C
theorem xd.walk{x:ai.S}(o:aT h (.cells x.arr 124) λb k=>aI (λ(t5:Bool) (g:ak)=>if t5 then R (.I 6) g else aI (λ(t15:Bool) (H:ak)=>if t15 then R (.I 1) H else ai.cW H (AA m 0) λt33=>ai.cW H (AA b 0) λt34=>Cl 238 #[t33.agg,t34.agg] H λv i=> ∃t35,v=.bool t35/\if(!t35)then R (.I 7) i else ai.cW i (AA b 0) λt38=>ai.dE i (AA m 0) t38 λn=>R (.I 0) n) (λj=>ai.cW g (AA b 0) λt16=>Cl 237 #[t16.agg] g λq c=> ∃t17,q=.bool t17/\if(!t17)then j true c else ax.cW c (AA b 0) λt21=>ax.cW c (AA m 0) λt26=> ∃(eq:Bool),yD Tryz.prog 29 (t21.agg) (t26.agg) eq/\j (!eq) c)) (λJ=> ∃t12,Cc k m 7 (.bool t12)/\J (!t12) k)):Cl 189 #[.P m 0,x.agg] h R:=aR (lq (sq (bq (sq (.join [(5,.one (.bool))] lf) (cq ll (sq (.join [(15,.one (.bool))] (pK 14)) (cq ll (sq (pK 8) (cq ll lf))))))) (lq ll))) Tryz.func189 o
theorem Lx.walk{x:ax.S}(T:aT h (.cells x.arr 29) λb z=>aT z (.cells aa.S.z.arr 262) λc n=>ax.cW n (AA b 0) λt5=>Cl 86 #[t5.agg] n λv H=> ∃t6,v=.bool t6/\if(!t6)then aa.dE H (AA c 0) aa.S.z λq=>aa.cW q (AA c 0) λU=>R (.tuple #[U.agg,.I 3]) q else ax.cW H (AA b 0) λt10=> ∃(eq:Bool),yD Tryz.prog 29 (t10.agg) (ax.S.z.agg) eq/\if eq then Cl 205 #[.U 1] H λZ N=>aa.EX λt13=>Z=t13.agg/\Cl 205 #[.U 0] N λd' O=>aa.EX λt14=>d'=t14.agg/\aT O (.cells (t13.l++t14.l).toArray 262) λt Q=>Cl 247 #[.slice (Sa t 0) 2 2] Q λe' S=>aa.EX λt16=>e'=t16.agg/\aa.dE S (AA c 0) t16 λr=>aa.cW r (AA c 0) λW=>R (.tuple #[W.agg,.I 0]) r else∃t19,Cc H b 0 (.bool t19)/\if t19 then Hu H b 1 λt22=>Hu H b 2 λt25=>Cl 205 #[.U 2] H λf' g=>aa.EX λt20=>f'=t20.agg/\Kp H g [(Sa b 2),(Sa b 1)]/\Cl 205 #[.U t22] g λg' i=>aa.EX λt23=>g'=t23.agg/\Kp g i [(Sa b 2)]/\Cl 205 #[.U t25] i λh' A=>aa.EX λt26=>h'=t26.agg/\aT A (.cells (t23.l++t26.l).toArray 262) λu C=>Cl 247 #[.slice (Sa u 0) 2 2] C λi' D=>aa.EX λt28=>i'=t28.agg/\aT D (.cells (t20.l++t28.l).toArray 262) λw E=>Cl 247 #[.slice (Sa w 0) 2 2] E λj' F=>aa.EX λt30=>j'=t30.agg/\aa.dE F (AA c 0) t30 λj=>aa.cW j (AA c 0) λX=>R (.tuple #[X.agg,.I 0]) j else ax.cW H (AA b 0) λt32=>Cl 205 #[.U 1] H λk' k=>aa.EX λt31=>k'=t31.agg/\Kp H k [(Sa b 0)]/\Cl 136 #[t32.agg] k λa' G=> ∃t33,a'=.string t33/\Cl 255 #[.string t33] G λb' I=>aa.EX λt34=>b'=t34.agg/\aT I (.cells (t31.l++t34.l).toArray 262) λy J=>Cl 247 #[.slice (Sa y 0) 2 2] J λc' M=>aa.EX λt36=>c'=t36.agg/\aa.dE M (AA c 0) t36 λo=>aa.cW o (AA c 0) λY=>R (.tuple #[Y.agg,.I 0]) o):Cl 203 #[x.agg] h R:=aR (lq (sq (bq (lq (cq ll (lq (cq ll (lq (cq (sq (.kC (.op 1 (.op 2 (.op 4 (.op 5 (.op 0 (.op 3 (ga 7 6 .done)))))))) lf) lf))))))) (sq (.kC (.op 1 (.op 0 (ga 6 2 .done)))) lf))) Tryz.func203 T
theorem BE.walk{s:ByteArray}(A:aT h (.cells ax.S.z.arr 29) λb u=>Cl 312 #[.string s,.string (⟨#[47,47]⟩:ByteArray)] u λv w=> ∃T o,v=.tuple #[.string T,.bool o]/\Cl 313 #[.string T,.string (⟨#[47]⟩:ByteArray)] w λG y=> ∃t q r,G=.tuple #[.string t,.string q,.bool r]/\aT y (.cells ax.S.z.arr 29) λc z=>ax.dE z (AA c 0) ⟨false,0,0,t,q⟩ λH=>ax.cW H (AA c 0) λt24=>if o then if r then if(!(t.toList==hC.toList))then ax.cW H (AA c 0) λt34=>Cl 86 #[t34.agg] H λI i=> ∃t35,I=.bool t35/\Kp H i [(Sa c 0)]/\ax.dE i (AA b 0) t24 λj=>ax.cW j (AA b 0) λC=>R (.tuple #[C.agg,.bool t35]) j else ax.dE H (AA b 0) t24 λk=>ax.cW k (AA b 0) λD=>R (.tuple #[D.agg,.bool false]) k else ax.dE H (AA b 0) t24 λn=>ax.cW n (AA b 0) λE=>R (.tuple #[E.agg,.bool false]) n else ax.dE H (AA b 0) t24 λg=>ax.cW g (AA b 0) λF=>R (.tuple #[F.agg,.bool false]) g):Cl 286 #[.string s] h R:=aR (lq (lq (lq (lq (sq (pK 15) lf))))) Tryz.func286 A
theorem FX.walk{n:Int}(E:aT h (.cells x.arr 262) λb g=>aI (λ(t18:Bool) (k:ak)=>if t18 then R (.tuple #[.Z,.bool false]) k else Hl k b 3 λN z U=> ∃(I:bZ->Nat->Nat->Int->ak->Prop)(M:bZ->Nat->Nat->Int->ak->Nat),I none 0 0 0 k/\∀(j:bZ)(O o:Nat)(t22:Int)(H:ak),I j O o t22 H->if(decide (t22<(z:Int)))then Bd t22 z/\aO N λa=>aa.cW H (a.add (toNat t22*4)) λt25=>aT H (.cells aa.S.z.arr 262) λc C=>aa.dE C (AA c 0) t25 λi=>aa.cW i (AA c 0) λt26=>Hu i c 1 λt28=>Cl 205 #[.U t28] i λv u=>aa.EX λt29=>v=t29.agg/\Kp i u [(Sa c 0)]/\Cl 248 #[t26.agg,t29.agg] u λQ q=> ∃t30,Q=.bool t30/\if(!t30)then R (.tuple #[.Z,.bool false]) q else Hu q c 1 λt34=>aT q (.cells #[.U t34] 27) λA D=>aU Tryz.prog (Builtin.append_ #[345,345] 345 #[.slice j O o,.slice (Sa A 0) 1 1]) D λS w=> ∃r T t,S=.slice r T t/\(I r T t (wrap .i64 (t22+1)) w/\M r T t (wrap .i64 (t22+1)) w<M j O o t22 H)else R (.tuple #[.slice j O o,.bool true]) H) (λJ=> ∃t10,Cc g b 0 (.I t10)/\if(t10 !=4)then J true g else∃G y F,Cc g b 3 (.slice G y F)/\J (((y:Nat):Int) !=n) g)):Cl 287 #[x.agg,.I n] h R:=aR (lq (sq (sq (.join [(18,.one (.bool))] lf) (cq ll lf)) (lq (sq (lq (bq (.loop [(6,.one (.slice)),(22,.one (.int .i64))] (lq (sq (cq lf lf) (sq (bq (lq (sq (sq (pK 6) (cq ll lf)) lf))) lf)))))) ll)))) Tryz.func287 E
theorem Oe.walk (hv:aT h (.cells x.arr 262) λb y'=>aT y' (.cells ax.S.z.arr 29) λc b'=>aI (λ(t22:Bool) (H:ak)=>if t22 then ax.dE H (AA c 0) ax.S.z λi'=>ax.cW i' (AA c 0) λr0=>R (.tuple #[r0.agg,.I 3]) i' else aI (λ(S:bZ) (rest:bZ) (J':ak)=>aT J' (.cells ax.S.z.arr 29) λk C=>aI (λ(ok:Bool) (D:ak)=>if(!ok)then ax.dE D (AA c 0) ax.S.z λj'=>ax.cW j' (AA c 0) λO'=>R (.tuple #[O'.agg,.I 3]) j' else ax.cW D (AA k 0) λt80=>ax.dE D (AA c 0) t80 λk'=>ax.cW k' (AA c 0) λP'=>R (.tuple #[P'.agg,.I 0]) k') (λo'=>aI (λ(t32:Bool) (n:ak)=>aI (λ(K':Bool) (z':ak)=>o' K' z') (λp'=>if t32 then ax.dE n (AA c 0) ax.S.z λZ=>ax.cW Z (AA c 0) λQ'=>R (.tuple #[Q'.agg,.I 0]) Z else aI (λ(t42:Bool) (g:ak)=>aI (λ(L':Bool) (A':ak)=>p' L' A') (λN=>if t42 then aO rest λa=>oY g (a.add 2) λZ' Y' X'=> ∃(t54:ByteArray),qq Tryz.prog 22 9 (.slice Z' Y' X') g t54/\Cl 286 #[.string t54] g λv B'=>ax.EX λm'=> ∃n',v=.tuple #[m'.agg,.bool n']/\ax.dE B' (AA k 0) m' λC'=>N n' C' else aO S λq'=>aa.cW g q' λt59=>Cl 205 #[.U 2] g λPI a'=>aa.EX λt60=>PI=t60.agg/\Kp g a' [S]/\Cl 248 #[t59.agg,t60.agg] a' λNq r=>Vb Nq λt61=>aI (λ(M':Bool) (D':ak)=>N M' D') (λO=>if t61 then aO rest λr'=>aa.cW r r' λt63=>Cl 287 #[t63.agg,.I 2] r λKW o=> ∃E T QQ F,KW=.tuple #[.slice E T QQ,.bool F]/\aI (λ(N':Bool) (E':ak)=>O N' E') (λQ=>if F then Bd 0 T/\aO E λs'=>ia o (s'.add (toNat 0*1)) λt70=>Bd 1 T/\aO E λt'=>ia o (t'.add (toNat 1*1)) λt73=>ax.dE o (AA k 0) ⟨true,t70,t73,hC,hC⟩ λc'=>ax.cW c' (AA k 0) λt75=>Cl 86 #[t75.agg] c' λHD F'=> ∃t76,HD=.bool t76/\Q t76 F' else Q F o)else O false r))) (λM=>aO S λu'=>aa.cW n u' λt43=>Cl 205 #[.U 1] n λNN d'=>aa.EX λt44=>NN=t44.agg/\Kp n d' [S]/\Cl 248 #[t43.agg,t44.agg] d' λP2 t=> ∃t45,P2=.bool t45/\if t45 then aO rest λv'=> ∃t48,aX t v'=some (.I t48)/\M (t48==3) t else M false t))) (λI=>aO S λw'=>aa.cW C w' λt33=>Cl 205 #[.U 1] C λP3 e'=>aa.EX λt34=>P3=t34.agg/\Kp C e' [S]/\Cl 248 #[t33.agg,t34.agg] e' λP4 q=> ∃t35,P4=.bool t35/\if t35 then aO rest λx'=>aa.cW q x' λt37=>Cl 205 #[.U 0] q λP5 f'=>aa.EX λt38=>P5=t38.agg/\Kp q f' [rest]/\Cl 248 #[t37.agg,t38.agg] f' λHV G'=> ∃t39,HV=.bool t39/\I t39 G' else I false q))) (λG=>Hl H b 3 λU' T' XR=>Bd 0 T'/\aO U' λi=>aa.cW H (i.add (toNat 0*4)) λt27=>Hl H b 3 λW' V' XS=>Bd 1 V'/\aO W' λA=>aa.cW H (A.add (toNat 1*4)) λt31=>(aT H (.cells aa.S.z.arr 262) λU u=>Kp H u [(some (A.add (toNat 1*4))),(Sa b 3),(some (i.add (toNat 0*4))),(Sa b 3)]/\aT u (.cells aa.S.z.arr 262) λW w=>Kp u w [(some (A.add (toNat 1*4))),(Sa b 3),(some (i.add (toNat 0*4))),(Sa b 3)]/\aa.dE w (AA U 0) t27 λg'=>Kp w g' [(some (A.add (toNat 1*4))),(Sa b 3)]/\aa.dE g' (AA W 0) t31 λH'=>G (Sa U 0) (Sa W 0) H')/\(aT H (.cells aa.S.z.arr 262) λX y=>Kp H y [(some (A.add (toNat 1*4))),(Sa b 3),(some (i.add (toNat 0*4))),(Sa b 3)]/\aT y (.cells aa.S.z.arr 262) λY z=>Kp y z [(some (A.add (toNat 1*4))),(Sa b 3),(some (i.add (toNat 0*4))),(Sa b 3)]/\aa.dE z (AA Y 0) t27 λh'=>Kp z h' [(some (A.add (toNat 1*4))),(Sa b 3)]/\aa.dE h' (AA X 0) t31 λI'=>G (Sa Y 0) (Sa X 0) I')/\True)) (λJ=>aa.cW b' (AA b 0) λt9=>Cl 207 #[t9.agg] b' λHW j=> ∃t10,HW=.bool t10/\if(!t10)then J true j else∃t14,Cc j b 0 (.I t14)/\if(t14 !=4)then J true j else∃S' l' R',Cc j b 3 (.slice S' l' R')/\J (((l':Nat):Int) !=2) j)):Cl 245 #[x.agg] h R:=aR (lq (sq (sq (.join [(22,.one (.bool))] lf) (cq ll lf)) (sq (.join [(4,.one (.ptr)),(5,.one (.ptr))] (.kC (ga 8 0 (.alts (.fork 8 (ga 3 9 .done) (.fork 9 (.op 8 (.op 10 (.op 11 .done))) .gy)))))) (lq (lq (sq (.join [(7,.one (.bool))] (bq (sq (.join [(32,.one (.bool))] (pK 9)) (.join [(7,.one (.bool))] (cq ll (sq (.join [(42,.one (.bool))] (pK 9)) (.join [(7,.one (.bool))] (cq lf (sq (pK 4) (.join [(7,.one (.bool))] (cq (lq (lq (lq (.join [(7,.one (.bool))] (cq (sq (pK 8) lf) lf))))) lf))))))))))) (sq (lq (cq ll lf)) ll))))))) Tryz.func245 hv

end
section
namespace Bn
open Cb
open iY (Ev cV kO)
variable {h:ak} {R:fG}
variable {n s q c l:Nat} {p:bZ} {bs:cM}
theorem Sx(H:n<4294967296):IntKind.wrap .u32 (n:Int)=(n:Int):=by
 have e:IntKind.wrap .u32 (n:Int)=(n:Int)%4294967296:=by simp[IntKind.wrap,IntKind.bits,IntKind.signed]
 rw[e];omega
theorem Wo(H:n<4294967296):(BitVec.ofInt (IntKind.bits .u32) (n:Int)).toNat=n:=by
 rw[BitVec.ofInt_natCast,BitVec.toNat_ofNat];exact gp H
theorem Of{a b:Nat}(H:a<4294967296)(d:b<4294967296):IntKind.wrap .u32 ((BitVec.ofInt (IntKind.bits .u32) (a:Int) ^^^ BitVec.ofInt (IntKind.bits .u32) (b:Int)).toNat:Int)=((a ^^^ b:Nat):Int):=by
 rw[BitVec.toNat_xor,Wo H,Wo d];exact Sx (Nat.xor_lt_two_pow (n:=32) H d)
theorem UK(H:s<4294967296):IntKind.wrap .u32 ((BitVec.ofInt (IntKind.bits .u32) (s:Int) &&& BitVec.ofInt (IntKind.bits .u32) 1).toNat:Int)=((s%2:Nat):Int):=by
 rw[BitVec.toNat_and,Wo H,show(BitVec.ofInt (IntKind.bits .u32) 1).toNat=1 from rfl,Nat.and_one_is_mod];exact Sx ae
theorem Sy(s:Nat):Int.fdiv (s:Int) (2 ^ min (Int.toNat 1) (IntKind.bits .u32))=((s/2:Nat):Int):=Oc s 1
theorem Ly(a:s<4294967296)(H:q<4294967296):pH s q<4294967296:=by
 unfold pH;split
 .exact Nat.xor_lt_two_pow (n:=32) (show s/2<2 ^ 32 by omega) H
 .omega
theorem Og(a:s<4294967296)(H:q<4294967296)(hk:R (.int .u32 (pH s q:Int)) h):Cl 327 #[.int .u32 (s:Int),.int .u32 (q:Int)] h R:=by
 refine Io.walk ?_;unfold pH at hk;rw[UK a,Sy,Of ae H];by_cases c:s%2=1
 .rw[ah (by rw[c];rfl)];rw[ah c]at hk;exact hk
 .rw[af (λe=>c (bR (eq_of_beq e)))];rw[af c]at hk;exact hk
theorem AI(q:Nat): ∀(k s:Nat),qR q (k+1) s=pH (qR q k s) q
 |0,_=>rfl
 |k+1,s=>by
  show qR q (k+1) (pH s q)=pH (qR q k (pH s q)) q;exact AI q k _
theorem AJ(a:q<4294967296): ∀(k s:Nat),s<4294967296->qR q k s<4294967296
 |0,_,H=>H
 |k+1,s,H=>AJ a k _ (Ly H a)
theorem LA(a:s<4294967296)(f:c<256)(H:q<4294967296)(hk:R (.int .u32 (Ro s c q:Int)) h):Cl 323 #[.int .u32 (s:Int),.int .u8 (c:Int),.int .u32 (q:Int)] h R:=by
 have d:=Nat.xor_lt_two_pow (n:=32) (x:=s) (y:=c) a ae;refine FR.walk ⟨λz t g=>g=h/\∃i:Nat,t=(i:Int)/\i<=8/\z=(qR q i (s ^^^ c):Int),λ_ t _=>8 - t.toNat,⟨rfl,0,rfl,ae,?_⟩,?_⟩
 .rw[Sx (n:=c) ae,Of a ae];rfl
 rintro _ _ _ ⟨rfl,i,rfl,j,rfl⟩;have b:=AJ H i (s ^^^ c) d;by_cases c1:i<8
 .rw[gh];refine Og b H ⟨_,rfl,?_⟩;rw[bB ae ae,<-AI];exact⟨⟨rfl,i+1,ae,ae,rfl⟩,by show 8 - Int.toNat ((i:Int)+1)<8 - Int.toNat (i:Int);omega⟩
 .rw[af (λe=>c1 (bR (aP e)))];obtain rfl:i=8:=ae
  exact hk
theorem DK(a:q<4294967296): ∀(b:cM)(s:Nat),s<4294967296->runN s b q<4294967296
 | [],_,H=>H
 |c::b,s,H=>DK a b _ (AJ a 8 _ (Nat.xor_lt_two_pow (n:=32) H (bR c.toNat_lt)))
theorem Oh(d:s<4294967296)(H:q<4294967296)(row:Row h p (bc bs))(b:l=bs.length)(j:bs.length<=100000000)(hk:R (.int .u32 (runN s bs q:Int)) h):Cl 315 #[.int .u32 (s:Int),.slice p l c,.int .u32 (q:Int)] h R:=by
 subst b;refine Od.walk ⟨λz t g=>g=h/\∃i:Nat,t=(i:Int)/\i<=bs.length/\z=(runN s (bs.take i) q:Int),λ_ t _=>bs.length - t.toNat,⟨rfl,0,rfl,ae,by rw[eM];rfl⟩,?_⟩;rintro _ _ _ ⟨rfl,i,rfl,f,rfl⟩;by_cases c1:i<bs.length
 .rw[gh];obtain⟨a,rfl,C⟩:=Cb.byte_at row c1;refine⟨ae,az.2 ⟨_,by rw[aC];exact C,LA (DK H _ _ d) (bs[i]).toNat_lt H ⟨_,rfl,?_⟩⟩⟩;rw[bB ae ae];refine⟨⟨rfl,i+1,ae,ae,?_⟩,by show bs.length - Int.toNat ((i:Int)+1)<bs.length - Int.toNat (i:Int);omega⟩;rw[bm,aj c1];unfold runN;rw[List.foldl_append];rfl
 .rw[af (λe=>c1 (bR (aP e)))];rw[bk ae];exact hk
theorem Oi(row:Row h p (bc bs))(a:l=bs.length)(b:bs.length<=100000000)(hk:R (.int .u16 (zO bs:Int)) h):Cl 296 #[.slice p l c] h R:=by
 refine Ip.walk (Oh (s:=65535) (q:=33800) dt dt row a b ⟨_,rfl,?_⟩);unfold zO at hk;generalize runN 65535 bs 33800=z at hk⊢;have e:IntKind.wrap .u16 (z:Int)=((z%65536:Nat):Int):=by
  have e:IntKind.wrap .u16 (z:Int)=(z:Int)%65536:=by simp[IntKind.wrap,IntKind.bits,IntKind.signed]
  rw[e];omega
 rw[e];have H:z%65536<65536:=ae
 generalize z%65536=y at hk H⊢;have e2:(BitVec.ofInt (IntKind.bits .u16) (IntKind.max .u16) ^^^ BitVec.ofInt (IntKind.bits .u16) (y:Int)).toNat=65535 ^^^ y:=by
  rw[BitVec.toNat_xor,BitVec.ofInt_natCast,BitVec.toNat_ofNat,show(BitVec.ofInt (IntKind.bits .u16) (IntKind.max .u16)).toNat=65535 from rfl,show(2:Nat) ^ IntKind.bits .u16=65536 from rfl,gp H]
 rw[e2];have E:IntKind.wrap .u16 ((65535 ^^^ y:Nat):Int)=((65535 ^^^ y:Nat):Int):=by
  have d:=Nat.xor_lt_two_pow (n:=16) (x:=65535) (y:=y) dt ae;have e:IntKind.wrap .u16 ((65535 ^^^ y:Nat):Int)=((65535 ^^^ y:Nat):Int)%65536:=by simp[IntKind.wrap,IntKind.bits,IntKind.signed]
  rw[e];omega
 rw[E];exact hk
theorem QR(row:Row h p (bc bs))(H:l=bs.length)(d:bs.length<=100000000)(hk:R (.int .u32 (xK bs:Int)) h):Cl 297 #[.slice p l c] h R:=by
 refine Lw.walk (Oh (s:=4294967295) (q:=2197175160) dt dt row H d ⟨_,rfl,?_⟩);have:=Of (a:=4294967295) (b:=runN 4294967295 bs 2197175160) dt (DK dt _ _ dt);rw[show(IntKind.max .u32)=((4294967295:Nat):Int)from rfl,this];exact hk

end Bn
end
section
namespace Cb
variable {h i h':ak} {R:fG} {D D':Nat→Prop}
abbrev CV.s(x:CV):aa.S:=⟨x.k,x.n,x.v.p,x.v.b.length,x.v.c,x.q,x.ll,x.cl⟩
abbrev nv(n:Nat):CV:=⟨0,n,⟨none,0, []⟩,none,0,0⟩
theorem sX.frame{Q:Nat->Prop}{t:Tr}{x:CV}(H:sX h D t x)(f:Fr Q h h')(e: ∀y,D y->¬Q y):sX h' D t x:=by
 obtain⟨⟨a,b,c,d⟩,ys,k,l,j,m⟩:=H;exact⟨⟨a,b,c,d.frame f e⟩,ys,k,l.frame f (λy g=>e y (j y g)),j,dx.frame f (λy g=>e y g.1) m⟩
theorem sX.mono{t:Tr}{x:CV}(H:sX h D t x)(hd: ∀y,D y->D' y):sX h D' t x:=by
 obtain⟨⟨a,b,c,d⟩,ys,f,g,j,k⟩:=H;exact⟨⟨a,b,c,d.mono hd⟩,ys,f,g,λy e=>hd y (j y e),dx.mono (λy e=>⟨hd y e.1,e.2⟩) k⟩
abbrev FY(h:ak)(t:Tr)(x:CV):Prop:=gX h (λ_=>True) t x
abbrev BF(h:ak)(ts:List Tr)(xs:List CV):Prop:=dx h (λ_=>True) ts xs
theorem gX.u{t:Tr}{x:CV}(H:gX h D t x):FY h t x:=H.mono λ_ _=>trivial
theorem dx.u{t:List Tr}{x:List CV}(H:dx h D t x):BF h t x:=H.mono λ_ _=>trivial
theorem sX.u{t:Tr}{x:CV}(H:sX h D t x):FY h t x:=H.Te.u
theorem dx.nil:dx h D [] []:=by unfold dx;trivial
theorem dx.cons{t:Tr}{y:CV}{ts:List Tr}{ys:List CV}(a:gX h D t y)(b:dx h D ts ys):dx h D (t::ts) (y::ys):=by unfold dx;exact⟨a,b⟩
theorem nh{n:Nat}:FY h (num n) (nv n):=Sv.Te
theorem two{t u:Tr}{x y:CV}(a:gX h D t x)(b:gX h D u y):dx h D [t,u] [x,y]:=.cons a (.cons b .nil)
theorem oV{ys:List CV}{K:Nat->ak->Prop}{c:Array Value}(d:c=(ys.flatMap iC).toArray)(hk: ∀b h',b=h.size->(∀D,D b->na h' D (Sa b 0) ys.length ys.length ys)->Fr No h h'->K b h'):aT h (.cells c 262) K:=by
 refine cI (hk _ _ rfl (λD H=>⟨rfl,by rw[d];exact iS,λ_ y ⟨a,e,E⟩=>by cases e;rw[<-E];exact H,bn _⟩) (Fr.push _ _))
theorem pM{ts:List Tr}{ys:List CV}{c:Array Value}{l:Nat}(T:BF h ts ys)(e:dF ts<=100000000)(a:c=(ys.flatMap iC).toArray)(d:l=ys.length)(hk: ∀h' z,sX h' (λy=>h.size<=y) (si ts) z->Fr No h h'->R z.agg h'):
  aT h (.cells c 262) λb g=>Cl 247 #[.slice (Sa b 0) l l] g R:=by
 subst d;refine oV a λb f E L f1=>jZ (L (λ_=>True) trivial) (T.on f1) e λH z t f2=>hk H z (t.mono λy j=>bR f1.1) (f1.tt f2)
theorem nL{s:ByteArray}(hk: ∀h' (v:BV),v.b=s.data.toList->v.ok h' (λy=>h.size<=y)->Fr No h h'->R (CV.agg ⟨3,0,v,none,0,0⟩) h'):Cl 255 #[.string s] h R:=by
 refine Lq.walk (aa.box λb m k d f1=>hM.Rp λp c g row f f2 n=>⟨_,_,_,rfl,aa.set (f2.get d id) λH d1 d2 d3=>aa.ld d1 ?_⟩);have f3:Fr (λy=>y=b) g H:=Fr.of_eq d2 (λc f=>d3 c f);have z:=f1.1;have Z:=aE d;have e:s.size=s.data.toList.length:=(iY.kM s).symm;have ok:BV.ok H (λy=>h.size<=y) ⟨p,c,s.data.toList⟩:=by
  refine⟨?_,λ_ y j=>bR (n y j),by show s.data.toList.length<=c;omega⟩;by_cases q:s.data.toList= []
  .show Row H p (bc s.data.toList);rw[q];exact Row.nil
  .exact row.frame f3 (λa E l=>bR (n a.block ⟨a,E,rfl⟩))
 have:=hk H ⟨p,c,s.data.toList⟩ rfl ok ((f1.tt f2).fresh f3 (λy e=>ae));unfold CV.agg iC BV.val at this;rw[e];exact this
end Cb
namespace Bn
open Cb
open iY (Ev cV kO)
variable {V : List UInt8 → Bool} {h i h' : ak} {R : Value → ak → Prop} {D : Nat → Prop}
abbrev _root_.Go.Proofs.YtlenamcfacpheaaGreatDoor.iY.Ev.s(x:Ev):ax.S:=⟨x.jT,x.node,x.gr,x.host,x.jv⟩
theorem fin{b:Nat}{y:aa.S}{z:CV}{t:Tr}{K:aa.S->ak->Prop}(a:aa.gn h b y)(T:sX h D t z)(H: ∀y,D y->y≠b)(hk: ∀h',sX h' D t z->Fr (λy=>y=b) h h'->K z.s h'):
  aa.dE h (AA b 0) z.s λg=>aa.cW g (AA b 0) λr=>K r g:=
 aa.iz (x:=z.s) a λg d1 f _=>aa.fY d1 (hk g (T.frame f H) f)
theorem DL{b:Nat}{y:aa.S}{K:aa.S->ak->Prop}(H:aa.gn h b y)(hk: ∀h',Fr (λy=>y=b) h h'->K .z h'):
  aa.dE h (AA b 0) .z λg=>aa.cW g (AA b 0) λr=>K r g:=
 aa.iz H λg d1 f _=>aa.fY d1 (hk g f)
theorem mD(x:Ev)(H:cV x=true):room (Bo x)<=200:=by
 unfold Bo;split
 .simp[room,dF]
 .rename_i z;split
  .simp[room,dF]
  .rename_i a;unfold cV at H;rw[af z,af a]at H;simp only[aS,aZ]at H;have:=iY.kM x.host;have:=iY.kM x.jv;simp only[room,dF,EY,ar,aW,bw];omega
abbrev zv:CV:=⟨0,0,⟨none,0, []⟩,none,0,0⟩
theorem xe(x:Ev)(w1:0<=x.gr)(K:cV x=true->∀h' z,sX h' (λy=>h.size<=y) (Bo x) z->Fr No h h'->R (.tuple #[z.agg,.I 0]) h')(s:cV x=false->iq h R (.tuple #[zv.agg,.I 3])):Cl 203 #[kO x] h R:=by
 refine Lx.walk (x:=x.s) (ax.dv λb C A l f1=>aa.dv λb1 P B m f2=>ax.fY (f2.get l id) (iY.fx x λk f3=>⟨_,rfl,?_⟩));have c:=(f2.tt f3).get l id;have o:=f3.get m id;have F:=f1.tt (f2.tt f3);have Z:=f1.1;have X:=aE m;have W:=f3.1;have done: ∀g z,cV x=true->sX g (λy=>k.size<=y) (Bo x) z->Fr No k g->aa.dE g (AA b1 0) z.s λa=>aa.cW a (AA b1 0) λw=>R (.tuple #[w.agg,.I 0]) a:=λg z H T j=>
  fin (j.get o id) T (λy f e=>ae) λa t4 f4=>K H a z (t4.mono λy f=>ae) ((F.tt j).fresh f4 (λy e=>ae))
 cases H:cV x with
 |false=>exact DL o λa f4=>s H a (F.fresh f4 (λy e=>ae))
 |true=>
  have done:=λg z=>done g z H
  rw[dz];refine ax.fY c ⟨_,iY.u0 (y:=.zero) (x:=x) rfl rfl,?_⟩;have E:room (Bo x)<=200:=mD x H;unfold Bo at done E;unfold cV at H;by_cases z:x=.zero
  .rw[ah (aw z)];simp only[ah z]at done;exact fz (n:=1) λS f5=>aa.ex (nv 1).s ⟨rfl,fz (n:=0) λU f6=>aa.ex (nv 0).s ⟨rfl,pM (two nh nh) (by simp[room,dF]) rfl rfl λr y ty f7=>aa.ex y.s ⟨rfl,done r y (ty.mono λy f=>gv f5.1 f6.1) (f5.tt (f6.tt f7))⟩⟩⟩
  rw[af (cH z)];rw[af z]at H;simp only[af z]at done E;refine⟨_,aq c,?_⟩;by_cases d:x.jT=true
  .rw[ah d]at H⊢;simp only[ah d]at done;have H:=aP H;have n1:x.node=(x.node.toNat:Int):=ae
   have n2:x.gr=(x.gr.toNat:Int):=ae
   refine⟨_,aq c,_,aq c,fz (n:=2) λG f10=>aa.ex (nv 2).s ⟨rfl,f10.kp,?_⟩⟩;dsimp only;rw[n1];refine fz λI f11=>aa.ex (nv x.node.toNat).s ⟨rfl,f11.kp,?_⟩
   rw[n2];refine fz λJ f12=>aa.ex (nv x.gr.toNat).s ⟨rfl,pM (two nh nh) (by simp[room,dF]) rfl rfl λL y ty f14=>aa.ex y.s ⟨rfl,pM (ys:= [nv 2,y]) (two nh ty.u) (by simp[room,dF]) rfl rfl λp u t f16=>aa.ex u.s ⟨rfl,?_⟩⟩⟩
   exact done p u (t.mono λy f=>by have:=f10.1;have:=f11.1;have:=f12.1;have:=f14.1;omega) (f10.tt (f11.tt (f12.tt (f14.tt f16))))
  .rw[af d]at H⊢;simp only[af d]at done E;simp only[aS,aZ]at H;refine ax.fY c (fz (n:=1) λM f18=>aa.ex (nv 1).s ⟨rfl,f18.kp,iY.Jr x ae ae λN f19=>⟨_,rfl,nL λQ v ev O f20=>aa.ex (CV.s ⟨3,0,v,none,0,0⟩) ⟨rfl,?_⟩⟩⟩);have ev:v.b=EY x:=by rw[ev];unfold str;simp[EY]
   refine pM (ts:= [num 1,.mk 3 0 (EY x) []]) (ys:= [nv 1,⟨3,0,v,none,0,0⟩]) (two nh (ev▸CE O).u) (by simp only[room,bw]at E⊢;omega) rfl rfl λq u t f22=>aa.ex u.s ⟨rfl,?_⟩
   exact done q u (t.mono λy f=>sY f18.1 f19.1 f20.1) (f18.tt (f19.tt (f20.tt f22)))
end Bn
end
section
namespace Bn
open Cb
open iY (Ev cV kO)
variable {V:cM→Bool} {h d h':ak} {R:fG} {D:Nat→Prop}
variable {b i off:Nat} {x:CV} {c:Array Value} {ts:List Tr} {t:Tr} {ty:TypeId}
theorem Wp{l:List (bZ)}(f:Fr (λy=>y=b) h h')(a: ∀p∈l,p.map (·.block)≠some b):Kp h h' l:=f.Vv λp g x e H=>a p g (by rw[e];exact bP some H)
theorem Ir{y:ax.S}{x:Ev}{K:ax.S->ak->Prop}(H:ax.gn h b y)(hk: ∀h',Fr (λy=>y=b) h h'->K x.s h'):
  ax.dE h (AA b 0) x.s λg=>ax.cW g (AA b 0) λr=>K r g:=
 ax.iz (x:=x.s) H λg d1 f _=>ax.fY d1 (hk g f)
theorem Sz(l:cM):(!((⟨l.toArray⟩:ByteArray).toList==hC.toList))= !l.isEmpty:=by
 rw[toList_data,toList_data];cases l<;>simp
theorem DM{s:ByteArray}(mx:mO.Mx h)(z:s.size<1000000)(hk: iq h R (.tuple #[kO (xL s.data.toList),.bool (vc s.data.toList)])):Cl 286 #[.string s] h R:=by
 refine BE.walk (ax.dv λb w u m f1=>mO.KH ⟨_,_,rfl,mO.Dh (mx.on f1) ?_ ⟨_,_,_,rfl,ax.gB λb1 a v H f5=>ax.fY H ?_⟩⟩)
 .show(Lib.trimPrefix s.data.toList _).length<_;have:=iY.kM s;unfold Lib.trimPrefix;split
  .rw[bX];omega
  .omega
 have E:(⟨(Lib.trimPrefix s.data.toList (⟨#[47,47]⟩:ByteArray).data.toList).toArray⟩:ByteArray).data.toList=Lib.trimPrefix s.data.toList [47,47]:=bQ
 rw[E]at H⊢;rw[show(⟨#[47]⟩:ByteArray).data.toList= [47]from rfl]at H⊢;rw[show(⟨#[47,47]⟩:ByteArray).data.toList= [47,47]from rfl];have ex:(⟨false,0,0,⟨(Lib.cut (Lib.trimPrefix s.data.toList [47,47]) [47]).1.toArray⟩,⟨(Lib.cut (Lib.trimPrefix s.data.toList [47,47]) [47]).2.1.toArray⟩⟩:ax.S)=(xL s.data.toList).s:=rfl;rw[ex]at H⊢;have Z:=f1.1;have n:=f1.tt f5;have A:=aE m;have p:=f5.get m id;have done: ∀g q,Fr No a g->q=vc s.data.toList->ax.dE g (AA b 0) (xL s.data.toList).s λG=>ax.cW G (AA b 0) λr=>R (.tuple #[r.agg,.bool q]) G:=λg q F e=>
  Ir (F.get p id) λG f=>by rw[e];exact hk G ((n.tt F).fresh f (λy e=>ae))
 rw[Sz];cases j:Lib.hasPrefix s.data.toList [47,47]with
 |false=>exact done a _ (Fr.refl _ _) (by unfold vc;rw[j];rfl)
 |true=>
  rw[ah rfl];cases k:(Lib.cut (Lib.trimPrefix s.data.toList [47,47]) [47]).2.2 with
  |false=>exact done a _ (Fr.refl _ _) (by unfold vc;rw[j,k];rfl)
  |true=>
   rw[ah rfl];cases l:(Lib.cut (Lib.trimPrefix s.data.toList [47,47]) [47]).1.isEmpty with
   |true=>exact done a _ (Fr.refl _ _) (by unfold vc;rw[j,k,l];rfl)
   |false=>
    rw[ah (show(!false)=true from rfl)];exact ax.fY H (iY.fx (xL s.data.toList) λo f6=>⟨_,rfl,f6.kp,done o _ f6 (by unfold vc;rw[j,k,l];rfl)⟩)
theorem t64:nW Tryz.prog 345 27 1 8 (.U 0):=⟨cZ,cZ,rfl⟩
theorem u64:Tryz.prog.underlying 345=some (.slice 27):=cZ
abbrev nc(l:List Tr):List Value:=l.map λt=> .int .u64 (t.n:Int)
theorem elem{D:Nat->Prop}{q:bZ}{l c:Nat}{ys:List CV}(L:na h D q l c ys)(T:dx h D ts ys)(g:i<ts.length): ∃(a:Addr)(y:CV),q=some a/\dM (a.add (i*4)) y.s.l 0 h/\gX h D (at_ ts i) y/\ys[i]? =some y:=by
 have j:=T.len;have H:ys[i]? =some (ys[i]' ae):=aj _;obtain⟨t,f,ty⟩:=T.get H;obtain⟨a,rfl⟩:=L.row.some (by intro e;have:=bP List.length e;rw[eO iC 4 gK,bw]at this;omega);refine⟨a,_,rfl,L.row.fI gK H,?_,H⟩;unfold at_;rw[bh,f];exact ty
theorem j1(H:i<ts.length):room (at_ ts i)<=dF ts:=by
 unfold at_;rw[bh,aj H];exact mC (dQ H)
theorem FZ(T:FY h t x)(S:room t<=1000000)(z:t.k=4->t.l.length=2->zP t.l=true->∀h' p c,Row h' p (nc t.l)->Fr No h h'->R (.tuple #[.slice p 2 c,.bool true]) h')(K: ¬(t.k=4/\t.l.length=2/\zP t.l=true)->iq h R (.tuple #[.Z,.bool false])):Cl 287 #[x.agg,.I 2] h R:=by
 have b':=T;cases t with
 |mk k n b l=>
  simp only[room]at S;have z:k=4->l.length=2->zP l=true->∀h' p c,Row h' p (nc l)->Fr No h h'->R (.tuple #[.slice p 2 c,.bool true]) h':=z;have K: ¬(k=4/\l.length=2/\zP l=true)->∀h',Fr No h h'->R (.tuple #[.Z,.bool false]) h':=K;unfold gX at T;obtain⟨⟨rfl,rfl,rfl,a'⟩,ys,L,A⟩:=T;have ln:=A.len;have W:=L.len;refine FX.walk (x:=x.s) (aa.dv λbb j X u f1=>aI.of λJ B=>⟨_,aq u,?_⟩);have no: ¬(x.k=4/\l.length=2)->J true j:=λH=>by
   subst B;exact K (λe=>H ⟨e.1,e.2.1⟩) j f1
  by_cases o:x.k=4
  case neg=>rw[ah (cH o)];exact no (λe=>o e.1)
  rw[af (cH o)];refine⟨_,_,_,aq u,?_⟩;by_cases l2:l.length=2
  case neg=>rw[show((x.ll:Int) !=2)=true by simp only[eI,fL];omega];exact no (λe=>l2 e.2)
  rw[show((x.ll:Int) !=2)=false by simp only[gI];omega];subst B;rw[dz];have sl:x.s.lS=2:=by show x.ll=2;omega
  refine⟨_,_,_,aq u,?_⟩;refine⟨λp len c t g=> ∃i:Nat,t=(i:Int)/\i<=2/\i=len/\fi g p i c 1 (nc (l.take i))/\(∀y,aL p y->j.size<=y)/\Fr No j g/\zP (l.take i)=true,λ_ _ _ t _=>2 - t.toNat,⟨0,rfl,ae,rfl,by rw[eM];exact .nil rfl rfl rfl rfl,(λy ⟨a,e,_⟩=>by cases e),Fr.refl _ _,by rw[eM];rfl⟩,?_⟩;rintro p _ c _ g ⟨i,rfl,hi,rfl,O,N,f,H⟩;by_cases Q:i<2
  .rw[gh];have r:=f1.tt f;obtain⟨a,y,G,P,ty,m⟩:=elem (L.frame r cb) (A.on r) (i:=i) ae;refine⟨⟨ae,by show _<(x.ll:Int);omega⟩,cA.2 ⟨a,G,(aa.nf (x:=y.s) (by rw[aC];exact P) (aa.gB (x:=y.s) λb1 h5 Z w f5=>aa.fY w ⟨_,aq w,fz λh6 f6=>aa.ex (nv y.n).s ⟨rfl,f6.kp,?_⟩⟩))⟩⟩;have ra:=j1 (ts:=l) (i:=i) ae;have eq:l.take (i+1)=l.take i++ [at_ l i]:=by
    rw[bm];unfold at_;rw[bh,aj ae];rfl
   have Y:y.n=(at_ l i).n:=by
    revert ty;generalize at_ l i=s;intro ty;cases s;unfold gX at ty;exact ty.1.2.1
   refine iI (t:=at_ l i) (s:=num y.n) (x:=y) (y:=nv y.n) (ty.on (f5.tt f6)) nh ae λM f7=>⟨_,rfl,?_⟩
   rw[Y];cases q:ot (at_ l i) (num (at_ l i).n)with
   |false=>
    rw[gh];refine K (λe=> ?_) M (r.tt (f5.tt (f6.tt f7)));have:=List.all_eq_true.1 e.2.2 (at_ l i) (by unfold at_;rw[bh,aj ae];exact dQ _);rw[q]at this;cases this
   |true=>
    rw[dz];have F:=f5.tt (f6.tt f7);refine⟨_,aq ((f6.tt f7).get w id),iD t64 u64 (O.frame F cb) rfl (λv C=>by simp at C;rw[C];rfl) ae ae λp2 U h9 E f9 I=>⟨_,_,_,rfl,?_⟩⟩;rw[bB (n:=(i:Int)+1) ae ae];refine⟨⟨i+1,ae,ae,ae,?_,λy m=> ?_,(f.tt F).fresh f9 (λy m=>N y m),?_⟩,by show 2 - Int.toNat ((i:Int)+1)<2 - Int.toNat (i:Int);omega⟩
    .rw[eq,nc,aV];rw[show y.s.f1=((at_ l i).n:Int) by show(y.n:Int)=_;rw[Y]]at E;exact E
    .rcases I y m with a|a
     .exact N y a
     .have:=f.1;have:=F.1;omega
    .rw[eq];unfold zP at H⊢;rw[List.all_append,H];simp[q]
  .rw[af (λe=>Q (bR (aP e)))];obtain rfl:i=2:=ae
   rw[bk ae]at H O;exact z o l2 H g p c O.iJ (f1.tt f)
theorem gX.kn(H:gX h D t x):x.k=t.k/\x.n=t.n/\x.v.b=t.b/\x.ll=t.l.length/\x.v.ok h D/\∃ys,na h D x.q x.ll x.cl ys/\dx h D t.l ys:=by
 cases t with
 |mk k n b l=>
  unfold gX at H;obtain⟨⟨a,A,e,f⟩,ys,L,T⟩:=H;exact⟨a,A,e,by rw[L.len,<-T.len];rfl,f,ys,L,T⟩
theorem oj :dF t.l+t.b.length+9=room t:=by cases t;simp only[room,Tr.l,Tr.b];omega
theorem UL{p:Addr}{n:Nat}(h:p.block≠b):(some (p.add n)).map Addr.block≠some b:=by
 simp only[dk,my];exact λe=>h (bp e)
theorem Oj(U:nk V d)(u:Fr No d h)(mx:mO.Mx h)(tx:FY h t x)(hr:room t<=900000)(K: ∀e,oG V t=some e->iq h R (.tuple #[kO e,.I 0]))(k:oG V t=none->iq h R (.tuple #[kO .zero,.I 3])):Cl 245 #[x.agg] h R:=by
 obtain⟨xk,xn,xb,xl,xv,ys,L,TS⟩:=gX.kn tx;have rl:=oj (t:=t);refine Oe.walk (x:=x.s) (aa.dv λb h1 eb hb f1=>ax.dv λb1 h2 P' m' f2=>aI.of λs' hJ=>aa.fY (f2.get hb id) (fx U (u.tt (f1.tt f2)) ((tx.on f1).on f2) ae λE f3=>⟨_,rfl,?_⟩));have o:=f1.tt (f2.tt f3);have I:=(f2.tt f3).get hb id;have n':=f3.get m' id;have zb:=aE hb;have Vk:=aE m';have z1:=f1.1;have z2:=f2.1;have z3:=f3.1;have bad:oG V t=none->s' true E:=λhn=>by
  subst hJ;dsimp only;rw[ah rfl];exact Ir (x:=.zero) n' λg f=>k hn g (o.fresh f (λy e=>ae))
 cases hR:hH V t with
 |false=>exact bad (by unfold oG;rw[af (λe=>by rw[hR]at e;cases e.1)])
 |true=>
 rw[af (show¬(!true)=true by decide)];refine⟨_,aq I,?_⟩;have e4:x.s.f0=t.k:=xk;rw[e4];by_cases M:t.k=4
 case neg=>rw[ah (cH M)];exact bad (by unfold oG;rw[af (λe=>M e.2.1)])
 rw[af (cH M)];refine⟨_,_,_,aq I,?_⟩;have el:x.s.lS=t.l.length:=xl;rw[el];by_cases l2:t.l.length=2
 case neg=>rw[show((t.l.length:Int) !=2)=true by simp only[eI,fL];omega];exact bad (by unfold oG;rw[af (λe=>l2 e.2.2)])
 rw[show((t.l.length:Int) !=2)=false by simp only[gI];omega];clear bad;subst hJ;dsimp only;rw[af (show¬false=true by decide)];unfold oG at K k;rw[ah ⟨hR,M,l2⟩]at K k;obtain⟨a0,y0,t',o',T,_⟩:=elem (L.frame o cb) (TS.on o) (i:=0) ae;obtain⟨a1,Y,u',p',O,_⟩:=elem (L.frame o cb) (TS.on o) (i:=1) ae;have r0:=j1 (ts:=t.l) (i:=0) ae;have r1:=j1 (ts:=t.l) (i:=1) ae;generalize at_ t.l 0=t0 at T r0 K k;generalize at_ t.l 1=t1 at O r1 K k;refine aI.of λJ1 B'=>⟨_,_,_,aq I,ae,cA.2 ⟨a0,t',aa.nf (x:=y0.s) o' ⟨_,_,_,aq I,ae,cA.2 ⟨a1,u',aa.nf (x:=Y.s) p' ?_⟩⟩⟩⟩
 have q': ∀g s r,aa.gn g s y0.s->aa.gn g r Y.s->Fr No E g->J1 (Sa s 0) (Sa r 0) g:=by
  intro g s r hs H' F;subst B';have Fg:=o.tt F;have zg:=F.1;refine ax.dv λB l Q' b' f6=>aI.of λJ l'=>aI.of λJ3 C'=> ?_
  have e':=f6.get hs id;have z:=f6.get H' id;have d':=(F.tt f6).get n' id;have Ua:=aE b';have C:=Fg.tt f6;have z6:=f6.1;have UM: ∀G e,ax.gn G B e.s->Fr (λy=>y=B) l G->(iq h R (.tuple #[kO e,.I 0]))->J true G:=λG e he f hk=>by
   subst l';rw[dz];exact ax.fY he (Ir (f.get d' ae) λj f7=>hk j ((C.fresh f (λy e=>ae)).fresh f7 (λy e=>ae)))
  have N: ∀G,Fr (λy=>y=B) l G->(iq h R (.tuple #[kO .zero,.I 3]))->J false G:=λG f hk=>by
   subst l';rw[gh];exact Ir (x:=.zero) (f.get d' ae) λj f7=>hk j ((C.fresh f (λy e=>ae)).fresh f7 (λy e=>ae))
  have r': ∀{G},Fr No l G->Fr (λy=>y=B) l G:=λf=>f.mono λ_ _=>False.elim
  obtain⟨M',y1n,L',y1l,N',ys1,L1,O'⟩:=gX.kn O;have rl1:=oj (t:=t1);have j3: ∀q G,Fr No l G->q=decide (ot t0 (num 1)=true/\ot t1 (num 0)=true)->J3 q G:=by
   intro q G f w;subst C';refine aI.of λJ4 D'=> ?_
   cases q with
   |true=>
    rw[ah rfl];have c:=aP w.symm;exact Ir (x:=.zero) (f.get d' id) λj f7=>K _ (by rw[ah c]) j ((C.tt f).fresh f7 (λy e=>ae))
   |false=>
    rw[dz];have c:=fR w.symm;rw[af c]at K k;have J':=f.get e' id;have hr7:=f.get z id;refine aI.of λJ5 E'=>az.2 (aa.fY J' (fz (n:=1) λU' f24=>aa.ex (nv 1).s ⟨rfl,f24.kp,iI (x:=y0) (y:=nv 1) (T.on (F.tt (f6.tt (f.tt f24)))) nh ae λV' f25=>⟨_,rfl,?_⟩⟩))
    have j5: ∀q j,Fr No l j->q=decide (ot t0 (num 1)=true/\t1.k=3)->J5 q j:=by
     intro q j f7 w;have K':=f7.get e' id;have I':=f7.get z id;have G7:=F.tt (f6.tt f7);subst E';refine aI.of λJ6 F'=> ?_
     have j6: ∀q g,J q g->J6 q g:=λq g hh=>by subst F';subst D';exact hh
     cases q with
     |true=>
      rw[ah rfl];have W:=aP w.symm;rw[ah W]at K k;have ev:Y.v.b=t1.b:=L';refine az.2 ⟨_,_,_,aq I',str t1.b,hM.conv (by rw[<-ev];exact(N'.frame G7 cb).row) (by show Y.v.b.length=_;rw[ev]),DM (mx.on (C.tt f7)) (by rw[iY.iw];omega) λR' f15=> ?_⟩;have ed:(str t1.b).data.toList=t1.b:=by unfold str;simp
      rw[ed];refine ax.ex (xL t1.b).s ⟨_,rfl,ax.iz (x:=(xL t1.b).s) ((f7.tt f15).get b' id) λj' d16 f16 _=>j6 _ _ ?_⟩;have f':=Fr.no (f7.tt f15) f16;cases H:vc t1.b with
      |true=>exact UM j' _ d16 f' (K _ (by rw[ah H]))
      |false=>exact N j' f' (k (by rw[af (by rw[H];decide)]))
     |false=>
      rw[dz];have W:=fR w.symm;rw[af W]at K k;refine az.2 (aa.fY K' (fz (n:=2) λS' f17=>aa.ex (nv 2).s ⟨rfl,f17.kp,iI (x:=y0) (y:=nv 2) (T.on (G7.tt f17)) nh ae λx' f18=>⟨_,rfl,aI.of λJ7 G'=> ?_⟩⟩));have j7: ∀q g,J q g->J7 q g:=λq g hh=>by subst G';exact j6 _ _ hh
      have v:=f7.tt (f17.tt f18);cases e2:ot t0 (num 2)with
      |false=>
       rw[dz];exact j7 _ _ (N x' (r' v) (k (by rw[af (by rw[e2];decide)])))
      |true=>
       rw[ah rfl];rw[ah e2]at K k;refine az.2 (aa.fY (v.get z id) (FZ (O.on (F.tt (f6.tt v))) ae (λq4 q2 qn k' p c row f20=>⟨_,_,_,_,rfl,aI.of λJ8 a'=> ?_⟩) (λqn k' f20=>⟨_,_,_,_,rfl,aI.of λJ8 a'=> ?_⟩)))
       .rw[ah rfl];have n0:(nc t1.l)[0]? =some (.U ((at_ t1.l 0).n:Int)):=by unfold nc at_;rw[aF,bh,aj ae];rfl
        have n1:(nc t1.l)[1]? =some (.U ((at_ t1.l 1).n:Int)):=by unfold nc at_;rw[aF,bh,aj ae];rfl
        obtain⟨a,rfl⟩:=row.some (by intro e;rw[e]at n0;cases n0);have c0:=row.cell n0;have c1:=row.cell n1;have g':=v.tt f20;refine⟨ae,az.2 ⟨_,by rw[show Int.toNat 0*1=0 from rfl];exact c0,ae,az.2 ⟨_,by rw[show Int.toNat 1*1=1 from rfl];exact c1,ax.iz (x:=(MY t1).s) (g'.get b' id) λT' d22 f22 _=>ax.fY d22 (iY.fx (MY t1) λX f23=>⟨_,rfl,?_⟩)⟩⟩⟩;have i':Fr (λy=>y=B) l X:=(Fr.no g' f22).on f23;subst a';refine j7 _ _ ?_;cases H:cV (MY t1)with
        |true=>exact UM X _ (f23.get d22 id) i' (K _ (by rw[ah ⟨q4,q2,qn,H⟩]))
        |false=>exact N X i' (k (by rw[af (λe=>by rw[H]at e;cases e.2.2.2)]))
       .rw[dz];subst a';exact j7 _ _ (N k' (r' (v.tt f20)) (k (by rw[af (λe=>qn ⟨e.1,e.2.1,e.2.2.1⟩)])))
    have P:=f.tt (f24.tt f25);cases e1:ot t0 (num 1)with
    |false=>
     rw[dz];exact j5 _ _ P (by rw[e1];simp)
    |true=>
     rw[ah rfl];refine az.2 ⟨_,aq (P.get z id),j5 _ _ P ?_⟩;rw[show Y.s.f0=t1.k from M',e1];by_cases q:t1.k=3<;>simp[q]
  refine az.2 (aa.fY e' (fz (n:=1) λW' f26=>aa.ex (nv 1).s ⟨rfl,f26.kp,iI (x:=y0) (y:=nv 1) (T.on (F.tt (f6.tt f26))) nh ae λX' f27=>⟨_,rfl,?_⟩⟩));have A:=f26.tt f27;cases e1:ot t0 (num 1)with
  |false=>
   rw[dz];exact j3 _ _ A (by rw[e1];simp)
  |true=>
   rw[ah rfl];refine az.2 (aa.fY (A.get z id) (fz (n:=0) λY' f28=>aa.ex (nv 0).s ⟨rfl,f28.kp,iI (x:=Y) (y:=nv 0) (O.on (F.tt (f6.tt (A.tt f28)))) nh ae λZ' f29=>⟨_,rfl,?_⟩⟩));exact j3 _ _ (A.tt (f28.tt f29)) (by rw[e1];simp)
 have la0:a0.block<E.size:=by
  have:=o'.1;have:=qu this;rwa[my,my]at this
 have la1:a1.block<E.size:=by
  have:=p'.1;have:=qu this;rwa[my,my]at this
 refine⟨aa.dv λQ y' v' m f30=>⟨f30.kp,aa.dv λS z' w' c' f31=>⟨f31.kp,aa.iz (x:=y0.s) (f31.get m id) λA' d32 f32 _=>⟨Wp f32 ?_,aa.iz (x:=Y.s) (f32.get c' (bR (aE m))) λZ d33 f33 _=> ?_⟩⟩⟩,
  aa.dv λQ y' v' m f30=>⟨f30.kp,aa.dv λS z' w' c' f31=>⟨f31.kp,aa.iz (x:=y0.s) c' λA' d32 f32 _=>⟨Wp f32 ?_,aa.iz (x:=Y.s) (f32.get (f31.get m id) (bR (aE m))) λZ d33 f33 _=> ?_⟩⟩⟩,trivial⟩
 .intro p H;simp only[bG,List.not_mem_nil,or_false]at H;rcases H with rfl|rfl
  .exact UL ae
  .simp only[dk];intro e;have:=bp e;omega
 .have:=aE m;have:=f30.1;exact q' Z Q S (f33.get d32 ae) d33 (((f30.tt f31).fresh f32 (λy e=>ae)).fresh f33 (λy e=>ae))
 .intro p H;simp only[bG,List.not_mem_nil,or_false]at H;have:=f30.1;rcases H with rfl|rfl
  .exact UL ae
  .simp only[dk];intro e;have:=bp e;omega
 .have:=aE m;have:=f30.1;exact q' Z S Q (f33.get d32 ae) d33 (((f30.tt f31).fresh f32 (λy e=>ae)).fresh f33 (λy e=>ae))
abbrev jh.s(x:jh):ai.S:=⟨x.e.jT,x.e.node,x.e.gr,x.e.host,x.e.jv,x.tm,x.sq⟩
theorem iX(x:Ev){K:ax.S->Prop}(H:h[b]? =some (.cells c ty (0,0)))(d:c[off]? =some (.bool x.jT))(a:c[off+1]? =some (.U x.node))(e:c[off+2]? =some (.U x.gr))(f:c[off+3]? =some (.string x.host))(g:c[off+4]? =some (.string x.jv))(hk:K x.s):ax.cW h (AA b off) K:=
 ⟨_,cK H d,_,cK H a,_,cK H e,_,cK H f,_,cK H g,hk⟩
theorem AK(x:jh){K:ai.S->Prop}(H:h[b]? =some (.cells c ty (0,0)))(d:c[off]? =some (.bool x.e.jT))(a:c[off+1]? =some (.U x.e.node))(e:c[off+2]? =some (.U x.e.gr))(f:c[off+3]? =some (.string x.e.host))(g:c[off+4]? =some (.string x.e.jv))(j:c[off+5]? =some (.U (x.tm:Int)))(k:c[off+6]? =some (.U (x.sq:Int)))(hk:K x.s):ai.cW h (AA b off) K:=
 ⟨_,cK H d,_,cK H a,_,cK H e,_,cK H f,_,cK H g,_,cK H j,_,cK H k,hk⟩
theorem DN{y:ai.S}(x:jh){K:ai.S->ak->Prop}(H:ai.gn h b y)(hk: ∀h',Fr (λy=>y=b) h h'->K x.s h'):
  ai.dE h (AA b 0) x.s λg=>ai.cW g (AA b 0) λr=>K r g:=
 ai.iz (x:=x.s) H λg d1 f _=>ai.fY d1 (hk g f)
theorem lZ(n m:Nat):decide ((n:Int)<=(m:Int))=decide (n<=m):=by by_cases e:n<=m<;>simp[e]<;>omega
theorem sd(x:jh)(hk: iq h R (.bool (hI x))):Cl 237 #[x.s.agg] h R:=by
 refine FU.walk (ai.dv λb j E H f1=>iX x.e H rfl rfl rfl rfl rfl (iY.fx x.e λg f2=>⟨_,rfl,?_⟩));have a:=f2.get H id;have hk:=hk g (f1.tt f2);unfold hI at hk;cases e:cV x.e with
 |false=>rw[e]at hk;exact hk
 |true=>
  rw[e]at hk;rw[ah rfl];refine⟨_,aq a,?_⟩;have e1:decide ((x.s.f5:Int)<=1099511627776)=decide (x.tm<=1099511627776):=lZ x.tm 1099511627776;have e2:decide ((x.s.f6:Int)<=1099511627776)=decide (x.sq<=1099511627776):=lZ x.sq 1099511627776;rw[e1];cases f:decide (x.tm<=1099511627776)with
  |false=>rw[f]at hk;exact hk
  |true=>
   rw[f]at hk;rw[ah rfl];refine⟨_,aq a,?_⟩;rw[e2];exact hk
theorem CH(x:jh)(w1:0<=x.e.gr)(K:hI x=true->∀h' z,sX h' (λy=>h.size<=y) (MZ x) z->Fr No h h'->R (.tuple #[z.agg,.I 0]) h')(q:hI x=false->iq h R (.tuple #[zv.agg,.I 3])):Cl 204 #[x.s.agg] h R:=by
 refine FW.walk (ai.dv λb G E j f1=>aa.dv λb1 N u k f2=>ai.fY (x:=x.s) (f2.get j id) (sd x λO f3=>⟨_,rfl,?_⟩));have a:=(f2.tt f3).get j id;have l:=f3.get k id;have f:=f1.tt (f2.tt f3);have Z:=f1.1;have a':=aE k;have X:=f3.1;cases H:hI x with
 |false=>exact DL l λn f4=>q H n (f.fresh f4 (λy e=>ae))
 |true=>
  have g:cV x.e=true:=by unfold hI at H;simp only[aS]at H;exact H.1.1
  rw[dz];refine iX x.e a rfl rfl rfl rfl rfl (xe x.e w1 (λ_ P z r f5=>aa.ex z.s ⟨_,rfl,aa.gB (x:=z.s) λB Q v o f7=>aa.fY o ⟨_,aq ((f5.tt f7).get a id),_,aq ((f5.tt f7).get a id),?_⟩⟩) (λe=>by rw[g]at e;cases e));refine fz λS f8=>aa.ex (nv x.tm).s ⟨rfl,f8.kp,fz λU f9=>aa.ex (nv x.sq).s ⟨rfl,f9.kp,oV (ys:= [nv x.tm,nv x.sq]) rfl λs I A L f10=>⟨f10.kp,jZ (L (λ_=>True) trivial) (two nh nh) (by simp[room,dF]) λJ y ty f11=>aa.ex y.s ⟨rfl,f11.kp,?_⟩⟩⟩⟩
  have F:=f7.tt (f8.tt (f9.tt (f10.tt f11)));have C:=mD x.e g;refine pM (ys:= [z,y]) (two (r.u.on F) ty.u) (by simp only[room,dF,bw];omega) rfl rfl λM w T f13=>aa.ex w.s ⟨rfl,?_⟩
  have Y:=f5.1;have W:=F.1;exact fin ((f5.tt (F.tt f13)).get l id) T (λy p e=>ae) λm t14 f14=>K H m w (t14.mono λy p=>ae) ((f.tt (f5.tt (F.tt f13))).fresh f14 (λy e=>ae))
theorem AL{x:jh}(h:hI x=true):cV x.e=true/\x.tm<=1099511627776/\x.sq<=1099511627776:=by
 unfold hI at h;simp only[aS,aZ]at h;exact⟨h.1.1,h.1.2,h.2⟩
theorem F0{e:Ev}(h:oG V t=some e):0<=e.gr/\cV e=true:=by
 unfold oG at h;split at h
 .split at h
  .cases h;decide
  .split at h
   .split at h
    .rename_i H;cases h;unfold vc at H;simp only[aS]at H;exact⟨by show(0:Int)<=0;omega,H.2⟩
    .cases h
   .split at h
    .split at h
     .rename_i H;cases h;exact⟨by show(0:Int)<=((_:Nat):Int);omega,H.2.2.2⟩
     .cases h
    .cases h
 .cases h
theorem F1(x:jh)(h:hI x=true):room (MZ x)<=300:=by
 have:=mD x.e (AL h).1;simp only[MZ,room,dF,bw];omega
def EQ(V:cM->Bool)(t:Tr)(e:Ev)(q:Int):Prop:=(q=0->oG V t=some e)/\(q≠0->oG V t=none)/\0<=e.gr
theorem DO(U:nk V d)(u:Fr No d h)(mx:mO.Mx h)(T:FY h t x)(a:room t<=900000)(hk: ∀e q,EQ V t e q->iq h R (.tuple #[e.s.agg,.I q])):Cl 245 #[x.agg] h R:=
 Oj U u mx T a (λe H h' f=>hk e 0 ⟨λ_=>H,λq=>absurd rfl q,(F0 H).1⟩ h' f) (λH h' f=>hk .zero 3 ⟨λq=>absurd q dt,λ_=>H,dt⟩ h' f)
theorem JC(x:jh)(w1:0<=x.e.gr)(hk: ∀h' z q,(q=0->FY h' (MZ x) z)->(q=0↔hI x=true)->Fr No h h'->R (.tuple #[z.s.agg,.I q]) h'):Cl 204 #[x.s.agg] h R:=
 CH x w1 (λH h' z T f=>hk h' z 0 (λ_=>T.u) ⟨λ_=>H,λ_=>rfl⟩ f) (λH h' f=>hk h' zv 3 (λe=>absurd e dt) ⟨λe=>absurd e dt,λe=>by rw[H]at e;cases e⟩ f)
theorem Ol(U:nk V d)(u:Fr No d h)(mx:mO.Mx h)(tx:FY h t x)(hr:room t<=900000)(K: ∀e,kX V t=some e->iq h R (.tuple #[e.s.agg,.I 0]))(k:kX V t=none->iq h R (.tuple #[jh.zero.s.agg,.I 3])):Cl 246 #[x.agg] h R:=by
 obtain⟨xk,xn,xb,xl,xv,ys,L,N⟩:=gX.kn tx;have rl:=oj (t:=t);refine Iq.walk (x:=x.s) (aa.dv λb h1 eb X f1=>ai.dv λb1 l z' B f2=>aI.of λJ o=> ?_);have F:=f1.tt f2;have H:=f2.get X id;have zb:=aE X;have H':=aE B;have z1:=f1.1;have z2:=f2.1;have bad:kX V t=none->J true l:=λhn=>by
  subst o;dsimp only;rw[ah rfl];exact DN .zero B λg f=>k hn g (F.fresh f (λy e=>ae))
 have e4:x.s.f0=t.k:=xk;have el:x.s.lS=t.l.length:=xl;refine⟨_,aq H,?_⟩;rw[e4];by_cases v:t.k=4
 case neg=>rw[ah (cH v)];exact bad (by unfold kX;rw[af (λe=>v e.1)])
 rw[af (cH v)];refine⟨_,_,_,aq H,?_⟩;rw[el];by_cases l2:t.l.length=2
 case neg=>rw[ah (by simp only[eI,fL];omega)];exact bad (by unfold kX;rw[af (λe=>l2 e.2.1)])
 rw[af (by simp only[eI,fL];omega)];obtain⟨a0,y0,g',n',c',_⟩:=elem (L.frame F cb) (N.on F) (i:=0) ae;obtain⟨A,Y,E,b',d',_⟩:=elem (L.frame F cb) (N.on F) (i:=1) ae;obtain⟨e',x',w',f',F',G',M,T⟩:=gX.kn d';have c0:aX l (A.add (Int.toNat 1*4))=some (.I Y.k):=by have:=b'.1;rwa[eK]at this
 have C:aX l ((A.add (Int.toNat 1*4)).add 3)=some (.slice Y.q Y.ll Y.cl):=b'.2.2.2.1;have r0:=j1 (ts:=t.l) (i:=0) ae;have r1:=j1 (ts:=t.l) (i:=1) ae;refine⟨_,_,_,aq H,ae,cA.2 ⟨A,E,_,c0,?_⟩⟩;rw[e'];by_cases s:(at_ t.l 1).k=4
 case neg=>rw[ah (cH s)];exact bad (by unfold kX;rw[af (λe=>s e.2.2.1)])
 rw[af (cH s)];refine⟨_,_,_,aq H,ae,cA.2 ⟨A,E,_,_,_,C,?_⟩⟩;rw[f'];by_cases l3:(at_ t.l 1).l.length=2
 case neg=>rw[show(((((at_ t.l 1).l.length:Nat):Int)) !=2)=true by simp only[eI,fL];omega];exact bad (by unfold kX;rw[af (λe=>l3 e.2.2.2)])
 rw[show(((((at_ t.l 1).l.length:Nat):Int)) !=2)=false by simp only[gI];omega];clear bad;subst o;dsimp only;rw[af (show¬false=true by decide)];unfold kX at K k;rw[ah ⟨v,l2,s,l3⟩]at K k;generalize D':at_ t.l 0=t0 at c' r0 K k;generalize E':at_ t.l 1=t1 at d' r1 K k e' x' w' f' T s l3;refine⟨_,_,_,aq H,ae,cA.2 ⟨a0,g',aa.nf (x:=y0.s) n' (DO U (u.tt F) (mx.on F) c' ae λe q ⟨q',r',we⟩ g O=>ax.ex e.s ⟨_,rfl,?_⟩)⟩⟩;obtain⟨p0,w0,i',p,s',_⟩:=elem M T (i:=0) ae;obtain⟨p1,w1,j',r,t',_⟩:=elem M T (i:=1) ae;obtain⟨_,u',_⟩:=gX.kn s';obtain⟨_,v',_⟩:=gX.kn t';have p:aX l ((p0.add (Int.toNat 0*4)).add 1)=some (.U (w0.n:Int)):=p.2.1;have r:aX l ((p1.add (Int.toNat 1*4)).add 1)=some (.U (w1.n:Int)):=r.2.1;rw[u']at p;rw[v']at r;obtain⟨n,o'⟩: ∃n,(at_ t1.l 0).n=n:=⟨_,rfl⟩;obtain⟨n1,p'⟩: ∃n1,(at_ t1.l 1).n=n1:=⟨_,rfl⟩;rw[o']at p K k;rw[p']at r K k;refine ax.gB (x:=e.s) λb2 h7 A' l' f7=>ax.fY l' ?_
 have G:=O.tt f7;refine⟨_,_,_,aq (G.get H id),ae,cA.2 ⟨A,E,_,_,_,G.cell C id,ae,cA.2 ⟨p0,i',_,G.cell p id,_,_,_,aq (G.get H id),ae,cA.2 ⟨A,E,_,_,_,G.cell C id,ae,cA.2 ⟨p1,j',_,G.cell r id,?_⟩⟩⟩⟩⟩;refine ai.dv λb3 h8 B' a' f8=>⟨f8.kp,ai.iz (x:=(⟨e,n,n1⟩:jh).s) a' λS d9 f9 _=>ai.fY d9 ?_⟩
 have z7:=f7.1;have z8:=f8.1;have zg:=O.1;have I':=aE a';have z9:=f9.1;have I:Fr (λy=>y=b3) l S:=Fr.no (G.tt f8) f9;have z:Fr No h S:=(F.tt (G.tt f8)).fresh f9 (λy e=>ae);refine JC ⟨e,n,n1⟩ we λg2 w q2 hw hq k'=>aa.ex w.s ⟨_,rfl,?_⟩
 refine aa.gB (x:=w.s) λb4 m C' m' f12=>aI.of λJ o=> ?_
 have j:=k'.tt f12;have Z: ∀{g},Fr No m g->ai.gn g b1 .z:=λfq=>fq.get (j.get (I.get B ae) id) id
 have no: ∀a,Fr No m a->(iq h R (.tuple #[jh.zero.s.agg,.I 3]))->J true a:=λa f3 hk=>by
  subst o;try dsimp only
  rw[ah rfl];exact DN .zero (Z f3) λg f=>hk g ((z.tt (j.tt f3)).fresh f (λy e=>ae))
 have y': ∀a,Fr No m a->(iq h R (.tuple #[(⟨e,n,n1⟩:jh).s.agg,.I 0]))->J false a:=λa f3 hk=>by
  subst o;try dsimp only
  rw[dz];exact ai.fY ((j.tt f3).get d9 id) (DN ⟨e,n,n1⟩ (Z f3) λg f=>hk g ((z.tt (j.tt f3)).fresh f (λy e=>ae)))
 by_cases Q:q=0
 case neg=>rw[ah (cH Q)];exact no m (Fr.refl _ _) (k (by rw[r' Q]))
 rw[af (cH Q)];rw[q' Q]at K k;dsimp only at K k;by_cases q1:q2=0
 case neg=>rw[ah (cH q1)];exact no m (Fr.refl _ _) (k (by rw[af (λe=>q1 (hq.2 e.1))]))
 rw[af (cH q1)];have W:=hq.1 q1;have rI:=F1 _ W;refine aa.fY m' (aa.fY (x:=x.s) (j.get (I.get H ae) id) (iI (x:=w) (y:=x) ((hw q1).on f12) (tx.on (z.tt j)) ae λP f16=>⟨_,rfl,?_⟩));cases hs:ot (MZ ⟨e,n,n1⟩) t with
 |true=>exact y' P f16 (K _ (by rw[ah ⟨W,hs⟩]))
 |false=>exact no P f16 (k (by rw[af (λe=>by rw[hs]at e;cases e.2)]))
theorem Is{x:jh}(h:kX V t=some x):0<=x.e.gr:=by
 unfold kX at h;split at h
 .split at h
  .cases h
  .rename_i e H;split at h
   .cases h;exact(F0 H).1
   .cases h
 .cases h
def IQ(V:cM->Bool)(t:Tr)(x:jh)(q:Int):Prop:=(q=0->kX V t=some x)/\(q≠0->kX V t=none)/\0<=x.e.gr
theorem DP(U:nk V d)(u:Fr No d h)(mx:mO.Mx h)(T:FY h t x)(a:room t<=900000)(hk: ∀e q,IQ V t e q->iq h R (.tuple #[e.s.agg,.I q])):Cl 246 #[x.agg] h R:=
 Ol U u mx T a (λe H h' f=>hk e 0 ⟨λ_=>H,λq=>absurd rfl q,Is H⟩ h' f) (λH h' f=>hk .zero 3 ⟨λq=>absurd q dt,λ_=>H,dt⟩ h' f)

end Bn
end
section
variable {h:ak} {R:fG}
variable {s out:Nat} {a:cv.S} {S:Int} {r:aH.S}
theorem LB.walk{now:Int}{fj:Int}(H:R (.U (if 1099511627776<wrap .u64 (now+fj)then 1099511627776 else wrap .u64 (now+fj))) h):Cl 157 #[.U now,.U fj] h R:=aR (lq ll) Tryz.func157 H
theorem Om.walk{w:ax.S}(L:aT h (.cells w.arr 29) λb z=>aT z (.cells ai.S.z.arr 124) λc E=>aT E (.cells ai.S.z.arr 124) λd q=>Hp q s 5 λt15=>Cl 74 #[.pointer t15] q λv G=>ai.EX λt16=>v=t16.agg/\aT G (.cells ai.S.z.arr 124) λB I=>ai.dE I (AA B 0) t16 λu=>ax.cW u (AA B 0) λt19=>Cl 33 #[t19.agg] u λV H=> ∃t T,V=.tuple #[.pointer t,.I T]/\if(T !=0)then ai.dE H (AA c 0) ai.S.z λK=>ai.dE K (AA d 0) ai.S.z λk=>ai.cW k (AA c 0) λM=>ai.cW k (AA d 0) λr1=>R (.tuple #[M.agg,r1.agg,.I T]) k else aI (λ(t35:Bool) (i:ak)=>aI (λ(m:ak)=>Hu m s 6 λt44=>Cl 190 #[.pointer t,.U t44] m λP A=>ai.EX λx=> ∃y,P=.tuple #[x.agg,.I y]/\aT A (.cells ai.S.z.arr 124) λe C=>ai.dE C (AA e 0) x λn=>ai.cW n (AA e 0) λt48=>aT n (.cells ai.S.z.arr 124) λg D=>ai.dE D (AA g 0) t48 λo=>ax.cW o (AA b 0) λt49=>ax.dE o (AA g 0) t49 λf=>ai.cW f (AA g 0) λt51=>ai.cW f (AA e 0) λt52=>ai.dE f (AA c 0) t51 λp=>Kp f p [(Sa e 0)]/\ai.dE p (AA d 0) t52 λj=>ai.cW j (AA c 0) λN=>ai.cW j (AA d 0) λO=>R (.tuple #[N.agg,O.agg,.I y]) j) (λl=>if t35 then ai.cW i (AA B 0) λt37=>Cl 189 #[.pointer t,t37.agg] i λQ F=> ∃t38,Q=.I t38/\l F else l i)) (λJ=> ∃t29,Cc H B 5 (.U t29)/\if(decide (t29>0))then J true H else∃t33,Cc H B 6 (.U t33)/\J (decide (t33>0)) H)):Cl 150 #[.P s 0,w.agg] h R:=aR (lq (lq (lq (sq (lq (cq ll lf)) (sq (sq (.join [(35,.one (.bool))] lf) (.join [] (cq lf lf))) (lq (lq (lq (sq (pK 6) lf))))))))) Tryz.func150 L
theorem BG.walk{b:ay.S}{own:ai.S}(u:aT h (.cells a.arr 98) λB o=>aT o (.cells b.arr 129) λf p=>aT p (.cells own.arr 124) λn g=>ay.cW g (AA f 0) λt13=>Cl 58 #[t13.agg] g λv H=> ∃k t j T,v=.tuple #[.slice k t j,.I T]/\if(T !=0)then R (.tuple #[.I 0,.I 0,.I T]) H else Hp H B 19 λt22=>Hi H B 20 λt24=>Hp H B 19 λt27=>aO t27 λA=>ia H (A.add 6) λt30=>Hu H f 19 λt33=>Cl 157 #[.U t30,.U t33] H λV d=> ∃t34,V=.U t34/\Kp H d [(Sa B 19),(Sa B 20),(Sa B 19)]/\Cl 191 #[.pointer t22,.I t24,.slice k t j,.U t34] d λw c=> ∃l e,w=.tuple #[.I l,.I e]/\Kp d c [(Sa B 19)]/\aI (λ(q:ak)=>R (.tuple #[.I l,.I ((t:Nat):Int),.I e]) q) (λJ=>if(e==0)then Hp c B 19 λt41=>aO t41 λm=>Bm c (m.add 5) λt44=>ai.cW c (AA n 0) λt45=>Cl 189 #[.pointer t44,t45.agg] c λx i=> ∃t46,x=.I t46/\Kp c i [(Sa B 19)]/\J i else J c)):Cl 151 #[a.agg,b.agg,own.agg] h R:=aR (lq (lq (sq (lq (cq ll lf)) (sq (pK 20) (sq (lq (.join [] (cq (pK 7) lf))) ll))))) Tryz.func151 u
theorem AM.walk(G:aT h (.cells a.arr 98) λb H=>aI (λ(r:bZ) (is:Bool) (c:ak)=>if(!is)then R (.I 4) c else aO r λD=>lR c (D.add 6) λt22=> ∃t24,Cc c b 20 (.I t24)/\if(t22 !=t24)then R (.I 13) c else R (.I 0) c) (λJ=>Hp H b 19 λt7=>aO t7 λA=>Bm H (A.add 1) λt10=>ax.cW H (AA b 2) λt13=>(Cl 155 #[.pointer t10,t13.agg] H λv d=> ∃t j l n p u x z,v=.tuple #[.agg #[.bool t,.U j,.U l,.string n,.string p,.I u,.I x],.bool z]/\Kp H d [(Sa b 19)]/\aT d (.cells #[.bool false,.U 0,.U 0,.string hC,.string hC,.I 0,.I 0] 136) λB g=>Kp d g [(Sa b 19)]/\bD.ST g (AA B 0) t j l n p u x λE=>J (Sa B 0) z E)/\(aT H (.cells #[.bool false,.U 0,.U 0,.string hC,.string hC,.I 0,.I 0] 136) λf e=>Kp H e [(Sa b 2),(some (A.add 1)),(Sa b 19)]/\Cl 155 #[.pointer t10,t13.agg] e λV i=> ∃T k m o q w y C,V=.tuple #[.agg #[.bool T,.U k,.U m,.string o,.string q,.I w,.I y],.bool C]/\Kp e i [(Sa b 19)]/\bD.ST i (AA f 0) T k m o q w y λF=>J (Sa f 0) C F)/\True)):Cl 104 #[a.agg] h R:=aR (lq (sq (.join [(3,.one (.ptr)),(4,.one (.bool))] (.kC (ga 8 0 (.alts (.fork 8 (ga 6 9 .done) (.fork 12 (ga 4 8 (.op 13 (.op 14 .done))) .gy)))))) (sq (bq (lq (cq ll (lq (cq ll lf))))) ll))) Tryz.func104 G
theorem AN.walk(E:aT h (.cells a.arr 98) λb i=>cv.cW i (AA b 0) λt10=>Cl 104 #[t10.agg] i λv e=> ∃t11,v=.I t11/\if(t11 !=0)then R (.I t11) e else Hp e b 19 λt17=>ax.cW e (AA b 2) λt20=>Cl 150 #[.pointer t17,t20.agg] e λV y=>ai.EX λT=>ai.EX λl=> ∃t,V=.tuple #[T.agg,l.agg,.I t]/\aT y (.cells ai.S.z.arr 124) λf z=>aT z (.cells ai.S.z.arr 124) λg A=>ai.dE A (AA f 0) T λC=>ai.dE C (AA g 0) l λH=>if(t !=0)then R (.I t) H else ax.cW H (AA b 7) λt30=>ai.cW H (AA f 0) λt31=>Hu H b 16 λt34=>aT H (.cells aG.S.z.arr 126) λB D=>aG.dE D (AA B 0) ⟨0,0,t30.f0,t30.f1,t30.f2,t30.f3,t30.f4,false,0,0,hC,hC,t31.f0,t31.f1,t31.f2,t31.f3,t31.f4,t31.f5,t31.f6,t34⟩ λc=>Hb c b 18 λt38=>aI (λ(d:ak)=>cv.cW d (AA b 0) λt47=>aG.cW d (AA B 0) λt48=>Hl d b 15 λI G F=>aT d (.cells #[.U 1,.U 1,.U 0,.I 0,.slice I G F] 201) λp j=>ai.cW j (AA g 0) λt55=>Cl 151 #[t47.agg,.agg #[.U t48.f0,.I t48.f1,.bool t48.f2,.U t48.f3,.U t48.f4,.string t48.f5,.string t48.f6,.bool t48.f7,.U t48.f8,.U t48.f9,.string t48.f10,.string t48.f11,.bool t48.f12,.U t48.f13,.U t48.f14,.string t48.f15,.string t48.f16,.U t48.f17,.U t48.f18,.U t48.f19,.slice (Sa p 0) 1 1],t55.agg] j λK q=> ∃m n o,K=.tuple #[.I m,.I n,.I o]/\aQ q (AA out 2) (.I m) λu=>aQ u (AA out 3) (.I n) λw=>R (.I o) w) (λJ=>if t38 then ax.cW c (AA b 2) λt41=>aQ c (AA B 0) (.U 131072) λk=>Kp c k [(Sa b 2)]/\ax.dE k (AA B 7) t41 λx=>J x else J c)):Cl 101 #[a.agg,.P out 0] h R:=aR (lq (sq (lq (lq (cq ll lf))) (lq (sq (lq (cq ll lf)) (lq (sq (lq (.join [] (cq (pK 7) lf))) (lq ll))))))) Tryz.func101 E
theorem AO.walk (Y:aT h (.cells a.arr 98) λb x=>cv.cW x (AA b 0) λt10=>Cl 104 #[t10.agg] x λv H=> ∃t11,v=.I t11/\if(t11 !=0)then R (.I t11) H else aI (λ(c:bZ) (e:Int) (m:ak)=>if(e !=0)then R (.I e) m else aO c λO=>oY m (O.add 6) λb' a' Z=>Cl 158 #[.slice b' a' Z] m λi' W=>ay.EX λM=> ∃c',i'=.tuple #[M.agg,.I c']/\aT W (.cells ay.S.z.arr 129) λB X=>ay.dE X (AA B 0) M λf=>aO c λp=>lR f p λt52=>ay.cW f (AA B 0) λt53=>aO c λg=>oY f (g.add 6) λh' g' f'=>Cl 159 #[t53.agg] f λj' n=> ∃e' N d',j'=.slice e' N d'/\Kp f n [(some (g.add 6)),(some p)]/\aQ n (AA out 2) (.I t52) λo=>Kp n o [(some (g.add 6))]/\aQ o (AA out 3) (.I ((N:Nat):Int)) λD=>Kp o D [(some (g.add 6))]/\aQ D (AA out 5) (.slice h' g' f') λP=>R (.I 0) P) (λJ=>Hp H b 19 λt17=>aO t17 λA=>Bm H (A.add 2) λt20=>ax.cW H (AA b 2) λt23=>Hi H b 20 λt25=>Hp H b 19 λt27=>aO t27 λq=>ia H (q.add 6) λt30=>Hi H b 14 λt33=>(Cl 157 #[.U t30,.U (wrap .u64 t33)] H λk' d=> ∃t35,k'=.U t35/\Kp H d [(Sa b 14),(Sa b 19),(Sa b 20),(Sa b 2),(some (A.add 2)),(Sa b 19)]/\(Cl 156 #[.pointer t20,t23.agg,.I t25,.U t35] d λl' i=>aN.EX λE=> ∃I,l'=.tuple #[E.agg,.I I]/\Kp d i [(Sa b 14),(Sa b 19),(Sa b 19)]/\aT i (.cells aN.S.z.arr 114) λt y=>Kp i y [(Sa b 14),(Sa b 19),(Sa b 19)]/\aN.dE y (AA t 0) E λQ=>J (Sa t 0) I Q)/\(aT d (.cells aN.S.z.arr 114) λu j=>Kp d j [(Sa b 14),(Sa b 19),(Sa b 20),(Sa b 2),(some (A.add 2)),(Sa b 19)]/\Cl 156 #[.pointer t20,t23.agg,.I t25,.U t35] j λm' z=>aN.EX λF=> ∃K,m'=.tuple #[F.agg,.I K]/\Kp j z [(Sa b 14),(Sa b 19),(Sa b 19)]/\aN.dE z (AA u 0) F λU=>J (Sa u 0) K U)/\True)/\(aT H (.cells aN.S.z.arr 114) λw k=>Kp H k [(Sa b 14),(some (q.add 6)),(Sa b 19),(Sa b 20),(Sa b 2),(some (A.add 2)),(Sa b 19)]/\Cl 157 #[.U t30,.U (wrap .u64 t33)] k λn' l=> ∃T,n'=.U T/\Kp k l [(Sa b 14),(Sa b 19),(Sa b 20),(Sa b 2),(some (A.add 2)),(Sa b 19)]/\Cl 156 #[.pointer t20,t23.agg,.I t25,.U T] l λo' C=>aN.EX λG=> ∃L,o'=.tuple #[G.agg,.I L]/\Kp l C [(Sa b 14),(Sa b 19),(Sa b 19)]/\aN.dE C (AA w 0) G λV=>J (Sa w 0) L V)/\True)):Cl 105 #[a.agg,.P out 0] h R:=aR (lq (sq (lq (lq (cq ll lf))) (sq (.join [(6,.one (.ptr)),(7,.one (.int .i64))] (.kC (ga 19 0 (.alts (.fork 19 (.alts (.fork 20 (ga 6 21 .done) (.fork 24 (ga 4 20 (.op 25 (.op 26 .done))) .gy))) (.fork 24 (ga 5 19 (.op 25 (.op 26 .done))) .gy)))))) (sq (lq (cq ll lf)) (lq (sq (.kC (ga 6 0 (.op 8 (.op 9 (.op 6 (.op 7 (ga 9 10 .done))))))) ll)))))) Tryz.func105 Y
theorem AP.walk{v':bZ}{u' t':Nat} (hv:aT h (.cells a.arr 98) λb Y8=>Cl 158 #[.slice v' u' t'] Y8 λv Y9=>ay.EX λM'=> ∃UN,v=.tuple #[M'.agg,.I UN]/\aT Y9 (.cells ay.S.z.arr 129) λc' Za=>ay.dE Za (AA c' 0) M' λE'=>aG.cW E' (AA c' 0) λt21=>aT E' (.cells aG.S.z.arr 126) λB Zb=>aG.dE Zb (AA B 0) t21 λz=>aI (λ(t31:Bool) (c:ak)=>if t31 then R (.I 0) c else aI (λ(id:bZ) (own:bZ) (e:Int) (H:ak)=>if(e !=0)then R (.I 0) H else aI (λ(Zc:Int) (r:bZ) (w:ak)=>if(Zc !=0)then R (.I 0) w else cv.cW w (AA b 0) λt68=>aO r λZd=>ay.cW w Zd λt69=>aO own λZe=>ai.cW w Ze λt70=>Cl 151 #[t68.agg,t69.agg,t70.agg] w λPI w'=> ∃Nr Ns Jo,PI=.tuple #[.I Nr,.I Ns,.I Jo]/\if(Jo !=0)then R (.I 0) w' else R (.I 1) w') (λb'=>Hp H b 19 λt50=>aO t50 λA=>ia H (A.add 6) λt53=>ai.cW H (AA B 12) λt55=>ax.cW H (AA B 7) λt58=>aO id λZf=>ai.cW H Zf λt59=>Hu H B 19 λt61=>(Cl 197 #[.agg #[.bool false,.bool true,.bool false,.U 0,.U t53,.bool t55.f0,.U t55.f1,.U t55.f2,.string t55.f3,.string t55.f4,.U t55.f5,.U t55.f6],t58.agg,t59.agg,.U t61] H λNq C=>ay.EX λRH=> ∃RI,Nq=.tuple #[RH.agg,.I RI]/\Kp H C [(Sa B 12),(some (A.add 6)),(Sa b 19)]/\aT C (.cells ay.S.z.arr 129) λn' x'=>Kp C x' [(Sa B 12),(some (A.add 6)),(Sa b 19)]/\ay.dE x' (AA n' 0) RH λWq=>b' RI (Sa n' 0) Wq)/\(aT H (.cells ay.S.z.arr 129) λo' D=>Kp H D [(Sa B 19),id,(Sa B 7),(Sa B 12),(some (A.add 6)),(Sa b 19)]/\Cl 197 #[.agg #[.bool false,.bool true,.bool false,.U 0,.U t53,.bool t55.f0,.U t55.f1,.U t55.f2,.string t55.f3,.string t55.f4,.U t55.f5,.U t55.f6],t58.agg,t59.agg,.U t61] D λKW y'=>ay.EX λJD=> ∃JE,KW=.tuple #[JD.agg,.I JE]/\Kp D y' [(Sa B 12),(some (A.add 6)),(Sa b 19)]/\ay.dE y' (AA o' 0) JD λWs=>b' JE (Sa o' 0) Ws)/\True)) (λJ=>Hp c b 19 λt34=>Hp c b 19 λt36=>aO t36 λk=>Bm c (k.add 5) λt39=>(Cl 74 #[.pointer t39] c λHD d=>ai.EX λt40=>HD=t40.agg/\Kp c d [(Sa b 19),(Sa b 19)]/\(Cl 150 #[.pointer t34,.agg #[.bool t40.f0,.U t40.f1,.U t40.f2,.string t40.f3,.string t40.f4]] d λNN l=>ai.EX λX=>ai.EX λY=> ∃Z,NN=.tuple #[X.agg,Y.agg,.I Z]/\Kp d l [(Sa b 19)]/\(aT l (.cells ai.S.z.arr 124) λp' E=>Kp l E [(Sa b 19)]/\aT E (.cells ai.S.z.arr 124) λq' z'=>Kp E z' [(Sa b 19)]/\ai.dE z' (AA p' 0) X λWt=>ai.dE Wt (AA q' 0) Y λWu=>J (Sa p' 0) (Sa q' 0) Z Wu)/\(aT l (.cells ai.S.z.arr 124) λr' F=>Kp l F [(Sa b 19)]/\aT F (.cells ai.S.z.arr 124) λs' A'=>Kp F A' [(Sa b 19)]/\ai.dE A' (AA s' 0) X λWv=>ai.dE Wv (AA r' 0) Y λWw=>J (Sa s' 0) (Sa r' 0) Z Ww)/\True)/\(aT d (.cells ai.S.z.arr 124) λy m=>Kp d m [(Sa b 19),(Sa b 19)]/\(Cl 150 #[.pointer t34,.agg #[.bool t40.f0,.U t40.f1,.U t40.f2,.string t40.f3,.string t40.f4]] m λP2 G=>ai.EX λN'=>ai.EX λX'=> ∃JF,P2=.tuple #[N'.agg,X'.agg,.I JF]/\Kp m G [(Sa b 19)]/\aT G (.cells ai.S.z.arr 124) λd' B'=>Kp G B' [(Sa b 19)]/\ai.dE B' (AA y 0) N' λWx=>ai.dE Wx (AA d' 0) X' λWy=>J (Sa y 0) (Sa d' 0) JF Wy)/\(aT m (.cells ai.S.z.arr 124) λe' I=>Kp m I [(Sa b 19),(Sa b 19)]/\Cl 150 #[.pointer t34,.agg #[.bool t40.f0,.U t40.f1,.U t40.f2,.string t40.f3,.string t40.f4]] I λP3 C'=>ai.EX λP'=>ai.EX λZ'=> ∃JG,P3=.tuple #[P'.agg,Z'.agg,.I JG]/\Kp I C' [(Sa b 19)]/\ai.dE C' (AA y 0) P' λWz=>ai.dE Wz (AA e' 0) Z' λWA=>J (Sa y 0) (Sa e' 0) JG WA)/\True)/\(aT d (.cells ai.S.z.arr 124) λx n=>Kp d n [(Sa b 19),(Sa b 19)]/\(Cl 150 #[.pointer t34,.agg #[.bool t40.f0,.U t40.f1,.U t40.f2,.string t40.f3,.string t40.f4]] n λP4 K=>ai.EX λQ'=>ai.EX λJH=> ∃JI,P4=.tuple #[Q'.agg,JH.agg,.I JI]/\Kp n K [(Sa b 19)]/\aT K (.cells ai.S.z.arr 124) λf' D'=>Kp K D' [(Sa b 19)]/\ai.dE D' (AA f' 0) Q' λWB=>ai.dE WB (AA x 0) JH λWC=>J (Sa f' 0) (Sa x 0) JI WC)/\(aT n (.cells ai.S.z.arr 124) λg' L=>Kp n L [(Sa b 19),(Sa b 19)]/\Cl 150 #[.pointer t34,.agg #[.bool t40.f0,.U t40.f1,.U t40.f2,.string t40.f3,.string t40.f4]] L λP5 F'=>ai.EX λR'=>ai.EX λJJ=> ∃JK,P5=.tuple #[R'.agg,JJ.agg,.I JK]/\Kp L F' [(Sa b 19)]/\ai.dE F' (AA g' 0) R' λWD=>ai.dE WD (AA x 0) JJ λWE=>J (Sa g' 0) (Sa x 0) JK WE)/\True)/\True)/\(aT c (.cells ai.S.z.arr 124) λf o=>Kp c o [(some (k.add 5)),(Sa b 19),(Sa b 19)]/\(Cl 74 #[.pointer t39] o λHV p=>ai.EX λt=>HV=t.agg/\Kp o p [(Sa b 19),(Sa b 19)]/\(Cl 150 #[.pointer t34,.agg #[.bool t.f0,.U t.f1,.U t.f2,.string t.f3,.string t.f4]] p λHW M=>ai.EX λS'=>ai.EX λJL=> ∃JM,HW=.tuple #[S'.agg,JL.agg,.I JM]/\Kp p M [(Sa b 19)]/\aT M (.cells ai.S.z.arr 124) λh' G'=>Kp M G' [(Sa b 19)]/\ai.dE G' (AA f 0) S' λWG=>ai.dE WG (AA h' 0) JL λWH=>J (Sa f 0) (Sa h' 0) JM WH)/\(aT p (.cells ai.S.z.arr 124) λi' N=>Kp p N [(Sa b 19),(Sa b 19)]/\Cl 150 #[.pointer t34,.agg #[.bool t.f0,.U t.f1,.U t.f2,.string t.f3,.string t.f4]] N λNO H'=>ai.EX λT'=>ai.EX λJN=> ∃JO,NO=.tuple #[T'.agg,JN.agg,.I JO]/\Kp N H' [(Sa b 19)]/\ai.dE H' (AA f 0) T' λWI=>ai.dE WI (AA i' 0) JN λWJ=>J (Sa f 0) (Sa i' 0) JO WJ)/\True)/\(aT o (.cells ai.S.z.arr 124) λj' O=>Kp o O [(some (k.add 5)),(Sa b 19),(Sa b 19)]/\Cl 74 #[.pointer t39] O λNP P=>ai.EX λi=>NP=i.agg/\Kp O P [(Sa b 19),(Sa b 19)]/\Cl 150 #[.pointer t34,.agg #[.bool i.f0,.U i.f1,.U i.f2,.string i.f3,.string i.f4]] P λNQ I'=>ai.EX λU'=>ai.EX λJP=> ∃JQ,NQ=.tuple #[U'.agg,JP.agg,.I JQ]/\Kp P I' [(Sa b 19)]/\ai.dE I' (AA f 0) U' λWK=>ai.dE WK (AA j' 0) JP λWL=>J (Sa f 0) (Sa j' 0) JQ WL)/\True)/\(aT c (.cells ai.S.z.arr 124) λg q=>Kp c q [(some (k.add 5)),(Sa b 19),(Sa b 19)]/\(Cl 74 #[.pointer t39] q λNR u=>ai.EX λT=>NR=T.agg/\Kp q u [(Sa b 19),(Sa b 19)]/\(Cl 150 #[.pointer t34,.agg #[.bool T.f0,.U T.f1,.U T.f2,.string T.f3,.string T.f4]] u λNS Q=>ai.EX λV'=>ai.EX λJR=> ∃JS,NS=.tuple #[V'.agg,JR.agg,.I JS]/\Kp u Q [(Sa b 19)]/\aT Q (.cells ai.S.z.arr 124) λk' J'=>Kp Q J' [(Sa b 19)]/\ai.dE J' (AA k' 0) V' λWM=>ai.dE WM (AA g 0) JR λWN=>J (Sa k' 0) (Sa g 0) JS WN)/\(aT u (.cells ai.S.z.arr 124) λl' U=>Kp u U [(Sa b 19),(Sa b 19)]/\Cl 150 #[.pointer t34,.agg #[.bool T.f0,.U T.f1,.U T.f2,.string T.f3,.string T.f4]] U λNT K'=>ai.EX λW'=>ai.EX λJT=> ∃JU,NT=.tuple #[W'.agg,JT.agg,.I JU]/\Kp U K' [(Sa b 19)]/\ai.dE K' (AA l' 0) W' λWO=>ai.dE WO (AA g 0) JT λWQ=>J (Sa l' 0) (Sa g 0) JU WQ)/\True)/\(aT q (.cells ai.S.z.arr 124) λm' V=>Kp q V [(some (k.add 5)),(Sa b 19),(Sa b 19)]/\Cl 74 #[.pointer t39] V λNU W=>ai.EX λj=>NU=j.agg/\Kp V W [(Sa b 19),(Sa b 19)]/\Cl 150 #[.pointer t34,.agg #[.bool j.f0,.U j.f1,.U j.f2,.string j.f3,.string j.f4]] W λSs L'=>ai.EX λO'=>ai.EX λY'=> ∃Ga,Ss=.tuple #[O'.agg,Y'.agg,.I Ga]/\Kp W L' [(Sa b 19)]/\ai.dE L' (AA m' 0) O' λWR=>ai.dE WR (AA g 0) Y' λWS=>J (Sa m' 0) (Sa g 0) Ga WS)/\True)/\True)) (λa'=> ∃t23,Cc z B 0 (.U t23)/\if((wrap .u64 ((nE t23 &&& nE 131072).toNat:Int))==0)then a' true z else∃t28,Cc z B 0 (.U t28)/\a' ((wrap .u64 ((nE t28 &&& nE 2).toNat:Int)) !=0) z)):Cl 164 #[a.agg,.slice v' u' t'] h R:=aR (lq (lq (lq (sq (sq (.join [(31,.one (.bool))] lf) (cq ll lf)) (sq (.join [(8,.one (.ptr)),(9,.one (.ptr)),(10,.one (.int .i64))] (.kC (ga 7 0 (.alts (.fork 7 (.op 8 (.alts (.fork 9 (ga 4 10 (.alts (.fork 14 (ga 4 15 .done) (.fork 15 (.op 14 (ga 3 16 .done)) .gy)))) (.fork 14 (.alts (.fork 9 (ga 4 10 (ga 4 15 .done)) (.fork 15 (ga 5 9 (ga 3 16 .done)) .gy))) (.fork 15 (.alts (.fork 9 (ga 5 10 (ga 3 16 .done)) (.fork 14 (ga 5 9 (ga 3 16 .done)) .gy))) .gy))))) (.fork 14 (.alts (.fork 7 (.op 8 (.alts (.fork 9 (ga 4 10 (ga 4 15 .done)) (.fork 15 (ga 5 9 (ga 3 16 .done)) .gy)))) (.fork 15 (ga 7 7 (ga 3 16 .done)) .gy))) (.fork 15 (.alts (.fork 7 (.op 8 (.alts (.fork 9 (ga 5 10 (ga 3 16 .done)) (.fork 14 (ga 5 9 (ga 3 16 .done)) .gy)))) (.fork 14 (ga 7 7 (ga 3 16 .done)) .gy))) .gy))))))) (sq (lq (cq ll lf)) (sq (.join [(10,.one (.int .i64)),(11,.one (.ptr))] (.kC (ga 13 0 (.alts (.fork 13 (ga 6 14 .done) (.fork 17 (ga 4 13 (.op 18 (.op 19 .done))) .gy)))))) (sq (lq (cq ll lf)) (sq (lq (lq (cq ll lf))) ll))))))))) Tryz.func164 hv
theorem je.VS.walk{d:bZ}{c g:Nat}{f:Nat}(e: ∃(I:Int->ak->Prop)(m:Int->ak->Nat),I 0 h/\∀(t8:Int)(H:ak),I t8 H->if(decide (t8<(c:Int)))then Bd t8 c/\aO d λa=>aN.cW H (a.add (toNat t8*10)) λt15=>Cl 163 #[t15.agg,.P f 0] H λv b=> ∃t16,v=.bool t16/\if t16 then R (.I t8) b else(I (wrap .i64 (t8+1)) b/\m (wrap .i64 (t8+1)) b<m t8 H)else R (.I (-1)) H):Cl 162 #[.slice d c g,.func (.func 163) #[] #[.P f 0]] h R:=aR (lq (sq (lq (bq (.loop [(8,.one (.int .i64))] (lq (sq (cq lf lf) (sq (bq (lq (lq (cq ll lf)))) lf)))))) ll)) Tryz.func162 e
theorem BH.walk (n:aT h (.cells a.arr 98) λb d=>Hp d b 19 λt9=>aO t9 λA=>Bm d (A.add 2) λt12=>Cl 160 #[.pointer t12] d λv H=>Vl v λT t o=>Hp H b 19 λt15=>aO t15 λg=>Bm H (g.add 2) λt18=>Hi H b 13 λt21=>Hi H b 20 λt23=>Cl 161 #[.pointer t18,.I t21,.I t23] H λV e=> ∃t24,V=.I t24/\Kp H e [(Sa b 19)]/\Cl 162 #[.slice T t o,.func (.func 163) #[] #[.P b 0]] e λw f=>Vi w λt27=>aI (λ(t33:Bool) (c:ak)=>aI (λ(k:ak)=>R (.I t24) k) (λj=>if t33 then cv.cW c (AA b 0) λt35=>Bd t27 t/\aO T λi=>oY c ((i.add (toNat t27*10)).add 6) λu q p=>Cl 164 #[t35.agg,.slice u q p] c λx l=> ∃t41,x=.I t41/\aQ l (AA out 3) (.I t41) λm=>j m else j c)) (λJ=>if(t24==0)then J (decide (t27≥0)) f else J false f)):Cl 106 #[a.agg,.P out 0] h R:=aR (lq (lq (sq (pK 12) (lq (sq (sq (.join [(33,.one (.bool))] lf) (.join [] (cq (pK 11) lf))) ll))))) Tryz.func106 n
theorem yz.walk{c:aN.S}{c0:Nat}(d:aT h (.cells c.arr 114) λb H=>Hi H b 0 λt5=> ∃t8,Cc H c0 13 (.I t8)/\R (.bool (t5==t8)) H):Cl 163 #[c.agg,.P c0 0] h R:=aR (lq ll) Tryz.func163 d
theorem yA.walk(n:aT h (.cells a.arr 98) λb c=>Hp c b 19 λt7=>aO t7 λA=>Bm c A λt10=>Hi c b 20 λt12=>Hb c b 18 λt15=>Cl 166 #[.pointer t10,.I t12,.bool t15] c λv H=> ∃t16,v=.I t16/\Kp c H [(Sa b 19)]/\aI (λ(e:Int) (k:ak)=>R (.I e) k) (λJ=>if(t16==0)then Hp H b 19 λt23=>aO t23 λj=>Bm H j λt26=>Hi H b 20 λt28=>Cl 167 #[.pointer t26,.I t28] H λV d=> ∃f T t g i,V=.tuple #[.slice f T t,.I g,.I i]/\Kp H d [(Sa b 19)]/\aQ d (AA out 5) (.slice f T t) λl=>aQ l (AA out 3) (.I g) λm=>J i m else J t16 H)):Cl 108 #[a.agg,.P out 0] h R:=aR (lq (sq (pK 12) (sq (lq (.join [(5,.one (.int .i64))] (cq (pK 21) lf))) ll))) Tryz.func108 n
theorem DQ.walk(C:aT h (.cells a.arr 98) λb H=> ∃t8,Cc H b 1 (.I t8)/\if(t8==1)then Hp H b 19 λt12=>aO t12 λA=>Bm H (A.add 1) λt15=>ax.cW H (AA b 2) λt18=>Hi H b 12 λt21=>Hi H b 20 λt23=>Cl 97 #[.pointer t15,.agg #[.bool t18.f0,.U t18.f1,.U t18.f2,.string t18.f3,.string t18.f4,.I t21,.I t23]] H λv g=> ∃t25,v=.I t25/\Kp H g [(Sa b 20),(Sa b 12),(Sa b 2),(Sa b 19)]/\R (.I t25) g else if(t8==2)then Hp H b 19 λt29=>aO t29 λk=>Bm H (k.add 1) λt32=>ax.cW H (AA b 2) λt35=>Hi H b 20 λt37=>Cl 98 #[.pointer t32,t35.agg,.I t37] H λV c=> ∃t38,V=.I t38/\Kp H c [(Sa b 19)]/\aI (λ(x:ak)=>R (.I t38) x) (λJ=>if(t38==0)then Hp c b 19 λt43=>aO t43 λl=>Bm c (l.add 2) λt46=>ax.cW c (AA b 2) λt49=>Cl 99 #[.pointer t46,t49.agg] c λG i=> ∃D t T,G=.slice D t T/\Kp c i [(Sa b 19)]/\aQ i (AA out 3) (.I ((t:Nat):Int)) λy=>J y else J c)else if(t8==3)then Hp H b 19 λt58=>aO t58 λm=>Bm H (m.add 1) λt61=>ax.cW H (AA b 2) λt64=>Hi H b 20 λt66=>Hi H b 12 λt69=>Cl 100 #[.pointer t61,t64.agg,.I t66,.I t69] H λI j=> ∃t70,I=.I t70/\Kp H j [(Sa b 19)]/\R (.I t70) j else if(t8==4)then cv.cW H (AA b 0) λt73=>Cl 101 #[t73.agg,.P out 0] H λK z=> ∃t75,K=.I t75/\R (.I t75) z else if(t8==5)then Hp H b 19 λt79=>Hi H b 13 λt82=>Hi H b 20 λt84=>Cl 102 #[.pointer t79,.I t82,.I t84] H λL B=> ∃t85,L=.I t85/\R (.I t85) B else if(t8==6)then Hp H b 19 λt90=>aO t90 λn=>Bm H (n.add 2) λt93=>ax.cW H (AA b 2) λt96=>Cl 103 #[.pointer t93,t96.agg] H λM d=> ∃t97,M=.I t97/\Kp H d [(Sa b 19)]/\aQ d (AA out 2) (.I t97) λe=>cv.cW e (AA b 0) λt100=>Cl 104 #[t100.agg] e λN p=> ∃t101,N=.I t101/\R (.I t101) p else if(t8==7)then cv.cW H (AA b 0) λt104=>Cl 105 #[t104.agg,.P out 0] H λO q=> ∃t106,O=.I t106/\R (.I t106) q else if(t8==8)then cv.cW H (AA b 0) λt109=>Cl 106 #[t109.agg,.P out 0] H λP u=> ∃t111,P=.I t111/\R (.I t111) u else if(t8==9)then Hp H b 19 λt115=>aO t115 λo=>Bm H (o.add 2) λt118=>Hi H b 13 λt121=>Hi H b 20 λt123=>Cl 107 #[.pointer t118,.I t121,.I t123] H λE f=> ∃t124,E=.I t124/\Kp H f [(Sa b 19)]/\R (.I t124) f else if(t8==10)then cv.cW H (AA b 0) λt127=>Cl 108 #[t127.agg,.P out 0] H λF w=> ∃t129,F=.I t129/\R (.I t129) w else R (.I 3) H):Cl 44 #[a.agg,.P out 0] h R:=aR (lq (sq (lq (bq (lq (cq (sq (pK 16) lf) (lq (cq (sq (pK 12) (sq (lq (.join [] (cq (pK 14) lf))) ll)) (lq (cq (sq (pK 15) lf) (lq (cq ll (lq (cq ll (lq (cq (sq (pK 13) ll) (lq (cq ll (lq (cq ll (lq (cq (sq (pK 12) lf) (lq (cq ll lf)))))))))))))))))))))) ll)) Tryz.func44 C
theorem Iu.walk(W:aT h (.cells r.arr 47) λb K=>aT K (.cells av.S.z.arr 44) λB H=>aI (λ(t15:Bool) (e:ak)=>if t15 then Hu e b 0 λt61=>Cl 41 #[.U t61,.I 6] e λv U=>av.EX λt62=>v=t62.agg/\av.dE U (AA B 0) t62 λy=>av.cW y (AA B 0) λX=>R (X.agg) y else aI (λ(t63:Bool) (f:ak)=>if t63 then Hu f b 0 λt73=>Cl 41 #[.U t73,.I 3] f λe' V=>av.EX λt74=>e'=t74.agg/\av.dE V (AA B 0) t74 λz=>av.cW z (AA B 0) λY=>R (Y.agg) z else Hp f s 0 λt79=>Cl 28 #[.pointer t79,.I S] f λg' d=> ∃t81,g'=.bool t81/\if(!t81)then Hu d b 0 λt84=>Cl 41 #[.U t84,.I 16] d λh' L=>av.EX λt85=>h'=t85.agg/\av.dE L (AA B 0) t85 λo=>av.cW o (AA B 0) λZ=>R (Z.agg) o else Hp d s 0 λt90=>Hu d b 0 λt93=>Cl 42 #[.pointer t90,.I S,.U t93] d λi' g=> ∃G F E I,i'=.tuple #[.slice G F E,.bool I]/\if I then Cl 43 #[.slice G F E] g λj' M=>av.EX λT=> ∃c',j'=.tuple #[T.agg,.I c']/\aT M (.cells av.S.z.arr 44) λn N=>av.dE N (AA n 0) T λp=>av.cW p (AA n 0) λt103=>av.dE p (AA B 0) t103 λq=>av.cW q (AA B 0) λa'=>R (a'.agg) q else Hu g b 0 λt105=>aT g (.cells av.S.z.arr 44) λc O=>av.dE O (AA c 0) ⟨t105,0,0,0,0,none,0,0⟩ λt=>aH.cW t (AA b 0) λt107=>Cl 44 #[.agg #[.U t107.f0,.I t107.f1,.bool t107.f2,.U t107.f3,.U t107.f4,.string t107.f5,.string t107.f6,.bool t107.f7,.U t107.f8,.U t107.f9,.string t107.f10,.string t107.f11,.I t107.f12,.I t107.f13,.I t107.f14,.slice t107.Pm t107.MT t107.Pn,.U t107.f16,.U t107.f17,.bool t107.f18,.P s 0,.I S],.P c 0] t λk' i=>Vi k' λt111=>aI (λ(u:ak)=>av.cW u (AA c 0) λt119=>Cl 45 #[t119.agg] u λl' j=> ∃D C A d',l'=.tuple #[.slice D C A,.I d']/\Hp j s 0 λt126=>Hu j b 0 λt129=>Cl 46 #[.pointer t126,.I S,.U t129,.slice D C A] j λm' w=>Vi m' λt131=>av.cW w (AA c 0) λt132=>av.dE w (AA B 0) t132 λx=>av.cW x (AA B 0) λb'=>R (b'.agg) x) (λm=>if(t111 !=0)then Hu i b 0 λt115=>Cl 41 #[.U t115,.I t111] i λn' P=>av.EX λt117=>n'=t117.agg/\av.dE P (AA c 0) t117 λQ=>m Q else m i)) (λl=>aH.cW e (AA b 0) λt64=>Cl 29 #[t64.agg] e λf' k=> ∃t65,f'=.bool t65/\if(!t65)then l true k else∃t69,Cc k b 1 (.I t69)/\l (decide (t69≥11)) k)) (λJ=> ∃t22,Cc H s 0 (.pointer t22)/\if t22.isNone then J true H else∃t29,Cc H s 1 (.pointer t29)/\if t29.isNone then J true H else∃t36,Cc H s 2 (.pointer t36)/\if t36.isNone then J true H else∃t43,Cc H s 3 (.pointer t43)/\if t43.isNone then J true H else∃t50,Cc H s 4 (.pointer t50)/\if t50.isNone then J true H else∃t57,Cc H s 5 (.pointer t57)/\J t57.isNone H)):Cl 13 #[.P s 0,.I S,r.agg] h R:=aR (lq (sq (bq (sq (.join [(15,.one (.bool))] lf) (cq ll (sq (.join [(63,.one (.bool))] lf) (cq ll (lq (cq ll lf))))))) (sq (sq (pK 13) (lq (cq (lq ll) lf))) (lq (sq (lq (lq (.join [] (cq lf lf)))) (lq (sq (pK 9) ll))))))) Tryz.func13 W
theorem Iu.nil.walk(m:aT h (.cells r.arr 47) λb g=>aT g (.cells av.S.z.arr 44) λB i=>aI (λ(t15:Bool) (H:ak)=>if t15 then Hu H b 0 λt61=>Cl 41 #[.U t61,.I 6] H λv k=>av.EX λt62=>v=t62.agg/\av.dE k (AA B 0) t62 λd=>av.cW d (AA B 0) λn=>R (n.agg) d else aI (λ(t63:Bool) (e:ak)=>if t63 then Hu e b 0 λt73=>Cl 41 #[.U t73,.I 3] e λV l=>av.EX λt74=>V=t74.agg/\av.dE l (AA B 0) t74 λf=>av.cW f (AA B 0) λo=>R (o.agg) f else False) (λj=>aH.cW H (AA b 0) λt64=>Cl 29 #[t64.agg] H λp c=> ∃t65,p=.bool t65/\if(!t65)then j true c else∃t69,Cc c b 1 (.I t69)/\j (decide (t69≥11)) c)) (λJ=>J true i)):Cl 13 #[.pointer none,.I S,r.agg] h R:=aR (lq (sq (bq (sq (.join [(15,.one (.bool))] lf) (cq ll (sq (.join [(63,.one (.bool))] lf) (cq ll (lq (cq ll lf))))))) (sq (sq (pK 13) (lq (cq (lq ll) lf))) (lq (sq (lq (lq (.join [] (cq lf lf)))) (lq (sq (pK 9) ll))))))) Tryz.func13 m
theorem Iv.walk(d:aT h (.cells ax.S.z.arr 29) λb c=>ax.dE c (AA b 0) ⟨true,7,0,hC,hC⟩ λH=>ax.cW H (AA b 0) λe=>R (e.agg) H):Cl 9 #[] h R:=aR (lq ll) Tryz.func9 d
theorem Iw.walk(d:aT h (.cells ax.S.z.arr 29) λb c=>ax.dE c (AA b 0) ⟨true,7,1,hC,hC⟩ λH=>ax.cW H (AA b 0) λe=>R (e.agg) H):Cl 14 #[] h R:=aR (lq ll) Tryz.func14 d
theorem Gb.walk(H: ∃t9,Cc h s 0 (.pointer t9)/\if(!t9.isNone)then∃t16,Cc h s 1 (.pointer t16)/\if(!t16.isNone)then∃t23,Cc h s 2 (.pointer t23)/\if(!t23.isNone)then∃t30,Cc h s 3 (.pointer t30)/\if(!t30.isNone)then∃t37,Cc h s 4 (.pointer t37)/\if(!t37.isNone)then∃t44,Cc h s 5 (.pointer t44)/\R (.bool (!t44.isNone)) h else R (.bool false) h else R (.bool false) h else R (.bool false) h else R (.bool false) h else R (.bool false) h):Cl 10 #[.P s 0] h R:=aR (lq ll) Tryz.func10 H
theorem Gc.walk (hv:Cl 9 #[] h λv p=>ax.EX λt10=>v=t10.agg/\Cl 8 #[t10.agg] p λl' c=> ∃t k,l'=.tuple #[.pointer t,.I k]/\aI (λ(t33:Bool) (e:ak)=>if t33 then R (.bool false) e else aO t λa=>Bm e a λt37=>Cl 12 #[.pointer t37,.U 5] e λu' j=> ∃e' f',u'=.tuple #[.I e',.I f']/\aO t λA=>Bm j A λt42=>Cl 12 #[.pointer t42,.U 6] j λv' X=> ∃g' h',v'=.tuple #[.I g',.I h']/\Cl 14 #[] X λw' Y=>ax.EX λt45=>w'=t45.agg/\Cl 13 #[.pointer t,.I 1,.agg #[.U 1,.I 1,.bool t45.f0,.U t45.f1,.U t45.f2,.string t45.f3,.string t45.f4,.bool false,.U 0,.U 0,.string hC,.string hC,.I 0,.I 0,.I 0,.Z,.U 0,.U 0,.bool false]] Y λx' Z=>av.EX λt47=>x'=t47.agg/\aT Z (.cells av.S.z.arr 44) λb a'=>av.dE a' (AA b 0) t47 λb'=>Cl 14 #[] b' λy' q=>ax.EX λt49=>y'=t49.agg/\Cl 13 #[.pointer t,.I 2,.agg #[.U 1,.I 1,.bool t49.f0,.U t49.f1,.U t49.f2,.string t49.f3,.string t49.f4,.bool false,.U 0,.U 0,.string hC,.string hC,.I 0,.I 0,.I 0,.Z,.U 0,.U 0,.bool false]] q λz' u=>av.EX λt51=>z'=t51.agg/\aT u (.cells av.S.z.arr 44) λf w=>av.dE w (AA f 0) t51 λx=>Cl 14 #[] x λA' y=>ax.EX λt53=>A'=t53.agg/\Cl 14 #[] y λB' z=>ax.EX λt54=>B'=t54.agg/\aT z (.cells #[.int .u8 120] 5) λo C=>aU Tryz.prog (convert 22 22 (.slice (Sa o 0) 1 1)) C λm' D=>Vl m' λk' j' i'=>Cl 13 #[.pointer t,.I 1,.agg #[.U 2,.I 4,.bool t53.f0,.U t53.f1,.U t53.f2,.string t53.f3,.string t53.f4,.bool t54.f0,.U t54.f1,.U t54.f2,.string t54.f3,.string t54.f4,.I 0,.I 0,.I 0,.slice k' j' i',.U 9,.U 0,.bool false]] D λn' E=>av.EX λt58=>n'=t58.agg/\aT E (.cells av.S.z.arr 44) λB F=>av.dE F (AA B 0) t58 λG=>Cl 14 #[] G λo' I=>ax.EX λt60=>o'=t60.agg/\Cl 13 #[.pointer t,.I 1,.agg #[.U 2,.I 6,.bool t60.f0,.U t60.f1,.U t60.f2,.string t60.f3,.string t60.f4,.bool false,.U 0,.U 0,.string hC,.string hC,.I 0,.I 0,.I 0,.Z,.U 0,.U 0,.bool false]] I λp' K=>av.EX λt62=>p'=t62.agg/\aT K (.cells av.S.z.arr 44) λd L=>av.dE L (AA d 0) t62 λM=>Cl 14 #[] M λq' N=>ax.EX λt64=>q'=t64.agg/\Cl 13 #[.pointer t,.I 3,.agg #[.U 2,.I 6,.bool t64.f0,.U t64.f1,.U t64.f2,.string t64.f3,.string t64.f4,.bool false,.U 0,.U 0,.string hC,.string hC,.I 0,.I 0,.I 0,.Z,.U 0,.U 0,.bool false]] N λr' O=>av.EX λt66=>r'=t66.agg/\aT O (.cells av.S.z.arr 44) λg P=>av.dE P (AA g 0) t66 λQ=>Cl 13 #[.pointer none,.I 1,.agg #[.U 2,.I 0,.bool false,.U 0,.U 0,.string hC,.string hC,.bool false,.U 0,.U 0,.string hC,.string hC,.I 0,.I 0,.I 0,.Z,.U 0,.U 0,.bool false]] Q λs' U=>av.EX λt68=>s'=t68.agg/\aT U (.cells av.S.z.arr 44) λi V=>av.dE V (AA i 0) t68 λH=> ∃t70,Cc H b 1 (.I t70)/\if(t70==0)then∃t74,Cc H b 0 (.U t74)/\if(t74==1)then∃t79,Cc H f 1 (.I t79)/\if(t79==11)then∃t84,Cc H B 1 (.I t84)/\if(t84==0)then∃t89,Cc H B 2 (.I t89)/\if(t89==1)then∃t94,Cc H d 2 (.I t94)/\if(t94==1)then Hi H d 3 λt99=> ∃t101,Cc H B 3 (.I t101)/\if(t99==t101)then∃t106,Cc H g 1 (.I t106)/\if(t106==16)then∃t111,Cc H i 1 (.I t111)/\if(t111==6)then aO t λl=>Bm H (l.add 3) λt118=>Cl 39 #[.pointer t118] H λt' W=> ∃d' T c',t'=.slice d' T c'/\R (.bool (((T:Nat):Int)==1)) W else R (.bool false) H else R (.bool false) H else R (.bool false) H else R (.bool false) H else R (.bool false) H else R (.bool false) H else R (.bool false) H else R (.bool false) H else R (.bool false) H) (λJ=>if(k !=0)then J true c else if t.isNone then J true c else aO t λm=> ∃t24,aX c m=some (.pointer t24)/\if t24.isNone then J true c else aO t λn=> ∃t31,aX c (n.add 3)=some (.pointer t31)/\J t31.isNone c)):Cl 11 #[] h R:=aR (lq (lq (sq (sq (.join [(33,.one (.bool))] lf) (cq ll lf)) (lq (lq (lq (lq (lq (lq (lq (lq ll))))))))))) Tryz.func11 hv

end
section
namespace Ask
open iY (Ev cV)
open eN (SS Good Pt sK Mk)
open Bn (jh hI iX AK DN)
variable {h h':ak} {R:fG} {s k m:Nat} {X:Ft} {I:sK} {σ:SS} {e:Ev} {tm sq:Nat}
variable {K:ak->Prop}
theorem Gd(now fj:Nat)(H:now<=1099511627776)(a:fj<=1099511627776)(hk:R (.U (lu now fj:Int)) h):Cl 157 #[.U (now:Int),.U (fj:Int)] h R:=by
 refine LB.walk ?_;rw[wrap_u64 ae ae];have:(if(1099511627776:Int)<(now:Int)+(fj:Int)then 1099511627776 else(now:Int)+(fj:Int))=(lu now fj:Int):=by unfold lu;split<;>omega
 rw[this];exact hk
theorem On(M:Mk h m e tm sq)(now:Nat)(V:now<=1099511627776)(W:sq<=1099511627776)(G:tm<now->∀h',Mk h' m e now 0->Fr (λy=>y=m) h h'->R (.tuple #[(⟨e,now,0⟩:jh).s.agg,.I 0]) h')(L: ¬tm<now->sq<1099511627776->∀h',Mk h' m e tm (sq+1)->Fr (λy=>y=m) h h'->R (.tuple #[(⟨e,tm,sq+1⟩:jh).s.agg,.I 0]) h')(N: ¬tm<now->1099511627776<=sq->iq h R (.tuple #[jh.zero.s.agg,.I 5])):Cl 190 #[pt m,.U (now:Int)] h R:=by
 refine xc.walk (ai.dv λb u T l f1=>aI.of λJ w=>aI.of λO x=> ?_);have a:=f1.get M id;have Z:=aE M;have n:b≠m:=ae
 refine⟨_,aq a,?_⟩;subst x;dsimp only;refine aI.of λP z=> ?_
 rw[dz];refine aI.of λQ D=> ?_
 rw[dz];refine⟨_,aq a,aI.of λo E=> ?_⟩;have fin: ∀g (t q:Nat),Mk g m e t q->Fr (λy=>y=m) u g->(∀h',Mk h' m e t q->Fr (λy=>y=m) h h'->R (.tuple #[(⟨e,t,q⟩:jh).s.agg,.I 0]) h')->o g:=by
  intro g t q j F hk;subst E;subst D;subst z;subst w;refine AK ⟨e,t,q⟩ j rfl rfl rfl rfl rfl rfl rfl (DN ⟨e,t,q⟩ (F.get l n) λi f4=>hk i (f4.get j (λe=>n e.symm)) ?_);exact(Fr.no f1 F).trans f4 cb (λc U e=>ae)
 by_cases c1:tm<now
 .rw[gh];refine bL a bQ λH A d f=>bL A bQ λv b1 B r=> ?_
  exact fin v now 0 b1 ((Fr.of_eq (S:=λy=>y=m) d f).tt (Fr.of_eq B r)) (G c1)
 rw[dz];refine⟨_,aq a,?_⟩;by_cases C:1099511627776<=sq
 .rw[ah (by simp only[aZ];omega)];exact DN .zero l λi f4=>N c1 C i (f1.fresh f4 (λy e=>ae))
 rw[dz];refine⟨_,aq a,?_⟩;rw[wrap_u64 ae ae];refine bL a bQ λH A d f=> ?_
 have p:Mk H m e tm (sq+1):=by unfold Mk;rw[Int.natCast_add];exact A
 exact fin H tm (sq+1) p (Fr.of_eq d f) (L c1 ae)
theorem vk(a b:jh)(j:a.tm<b.tm\/a.tm=b.tm/\a.sq<b.sq)(hk: iq h R (.bool true)):Cl 238 #[a.s.agg,b.s.agg] h R:=by
 refine FV.walk (ai.dv λb1 i E d f1=>ai.dv λB f g H f2=>⟨_,aq (f2.get d id),_,aq H,?_⟩);have c:=f2.get d id;have hk:=hk f (f1.tt f2);by_cases c1:a.tm=b.tm
 .rw[af (by show¬(((a.tm:Int)) !=(b.tm:Int))=true;rw[c1];simp)];refine⟨_,aq c,_,aq H,?_⟩;have C:a.sq<b.sq:=ae
  rw[ah (by show(((a.sq:Int)) !=(b.sq:Int))=true;simp;omega)];refine⟨_,aq c,_,aq H,?_⟩;rw[aw (by show(a.sq:Int)<(b.sq:Int);omega)];exact hk
 .rw[ah (by show(((a.tm:Int)) !=(b.tm:Int))=true;simp;omega)];refine⟨_,aq c,_,aq H,?_⟩;rw[aw (by show(a.tm:Int)<(b.tm:Int);omega)];exact hk
theorem WT(M:Mk h m e tm sq)(x:jh)(b:x.e=e)(hk: ∀h',Mk h' m e x.tm x.sq->Fr (λy=>y=m) h h'->K h'):ai.dE h (AA m 0) x.s K:=by
 subst b;exact(show eu (AA m 0) x.s.l 0 h K from mA (off:=0) (ws:= [.bool x.e.jT,.U x.e.node,.U x.e.gr,.string x.e.host,.string x.e.jv,.U (x.tm:Int),.U (x.sq:Int),.bool true]) M (by show 0+7<=8;omega) rfl rfl λH d1 d2 d3=>hk H d1 (Fr.of_eq d2 λc a=>d3 c a))
theorem Ge(M:Mk h m e tm sq)(x:jh)(f:x.e=e)(o:hI x=true)(n:tm<x.tm\/tm=x.tm/\sq<x.sq)(hk: ∀h',Mk h' m e x.tm x.sq->Fr (λy=>y=m) h h'->R (.I 0) h'):Cl 189 #[pt m,x.s.agg] h R:=by
 refine xd.walk (ai.dv λb q E d f1=>aI.of λJ j=> ?_);have c:=f1.get M id;have z:=aE M;refine⟨_,aq c,?_⟩;subst j;dsimp only;rw[dz];refine aI.of λp l=>ai.fY (x:=x.s) d (Bn.sd x λr f2=>⟨_,rfl,?_⟩)
 have a:=f2.get c id;have H:=f2.get d id;rw[o,dz];refine iX x.e H rfl rfl rfl rfl rfl (iX e a rfl rfl rfl rfl rfl ⟨_,iY.u0 (x:=x.e) (y:=e) rfl rfl,?_⟩);subst l;dsimp only;rw[aw f,dz];refine AK ⟨e,tm,sq⟩ a rfl rfl rfl rfl rfl rfl rfl (ai.fY (x:=x.s) H (vk ⟨e,tm,sq⟩ x n λt f3=>⟨_,rfl,?_⟩));rw[dz];exact ai.fY (x:=x.s) (f3.get H id) (WT (f3.get a id) x f λi g f4=>hk i g (Fr.no (f1.tt (f2.tt f3)) f4))
theorem Pt.mk'(H:Pt h s X I σ):Mk h I.k σ.e σ.tm σ.sq:=by obtain⟨Y,a,_⟩:=H;exact(a 5).1
theorem UO{b:Nat}{y:jh}(x:Ev)(a:ai.gn h b y.s)(hk: ∀h',ai.gn h' b (⟨x,y.tm,y.sq⟩:jh).s->Fr (λy=>y=b) h h'->K h'):ax.dE h (AA b 0) x.s K:=
 (show eu (AA b 0) x.s.l 0 h K from mA (off:=0) (ws:=(⟨x,y.tm,y.sq⟩:jh).s.l) a (by show 0+5<=7;omega) rfl rfl λH d1 d2 d3=>hk H d1 (Fr.of_eq d2 λc d=>d3 c d))
theorem vm(H:Pt h s X I σ)(G:eN.Good σ k)(src:Ev)(A: ∀n,oQ σ=some n->iq h R (.tuple #[(⟨src,n.1,n.2⟩:jh).s.agg,(⟨σ.e,n.1,n.2⟩:jh).s.agg,.I 0]))(V:oQ σ=none->iq h R (.tuple #[(⟨src,0,0⟩:jh).s.agg,jh.zero.s.agg,.I 5])):Cl 150 #[pt s,src.s.agg] h R:=by
 refine Om.walk (ax.dv λb h1 eb hb f1=>ai.dv λb1 h2 o' i f2=>ai.dv λo r p' j' f3=> ?_);have D:=f1.tt (f2.tt f3);have l:=H.on D;have z1:=f1.1;have z2:=f2.1;have z3:=f3.1;refine⟨_,aq l.cX,eN.DF (Pt.mk' l) λh4 f4=>ai.ex (⟨σ.e,σ.tm,σ.sq⟩:jh).s ⟨rfl,ai.gB (x:=(⟨σ.e,σ.tm,σ.sq⟩:jh).s) λb3 h6 q' Q f6=> ?_⟩⟩;have z4:=f4.1;refine iX σ.e Q rfl rfl rfl rfl rfl (eN.xW σ.e (λS t m M g7 f7=>⟨_,_,rfl,?_⟩) (λS=>absurd ⟨G.e.1,G.e.2.1⟩ S));rw[dz];have Y:=f4.tt (f6.tt f7);have w:=f7.get Q id;have z6:=f6.1;have z7:=f7.1;have T: ∀(g:ak)(x:jh)(q:Int),Fr No r g->(∀L,Fr No h L->R (.tuple #[(⟨src,x.tm,x.sq⟩:jh).s.agg,x.s.agg,.I q]) L)->
   aT g (.cells ai.S.z.arr 124) λB g'=>
   ai.dE g' (AA B 0) x.s λN=>
   ai.cW N (AA B 0) λt48=>
   aT N (.cells ai.S.z.arr 124) λp i'=>
   ai.dE i' (AA p 0) t48 λO=>
   ax.cW O (AA b 0) λt49=>
   ax.dE O (AA p 0) t49 λd=>
   ai.cW d (AA p 0) λt51=>
   ai.cW d (AA B 0) λt52=>
   ai.dE d (AA b1 0) t51 λP=>
   Kp d P [(Sa B 0)]/\
   ai.dE P (AA o 0) t52 λu=>
   ai.cW u (AA b1 0) λm'=>
   ai.cW u (AA o 0) λn'=>
   R (.tuple #[m'.agg,n'.agg,.I q]) u:=by
  intro g x q f hk;refine ai.gB (x:=x.s) λb4 t' r' z f14=>ai.fY z (ai.gB (x:=x.s) λb5 u' s' k' f16=> ?_)
  have C:=f.tt (f14.tt f16);have zg:=f.1;have y':=f14.1;have w':b1≠b4:=by have:=aE i;omega
  have x':b1≠b5:=by have:=aE i;omega
  have W:o≠b1:=by have:=aE i;omega
  refine iX src (C.get ((f2.tt f3).get hb id) id) rfl rfl rfl rfl rfl (UO src k' λc' l' f17=>ai.fY (x:=(⟨src,x.tm,x.sq⟩:jh).s) l' (ai.fY (x:=x.s) (f17.get (f16.get z id) (bR (aE z))) ?_));have j:Fr No r c':=C.fresh f17 (λy e=>ae);refine ai.iz (x:=(⟨src,x.tm,x.sq⟩:jh).s) (j.get (f3.get i id) id) λv' d18 f18 _=>⟨Bn.Wp f18 (by simp;omega),ai.iz (x:=x.s) (f18.get (j.get j' id) W) λd' d19 f19 _=>ai.fY (x:=(⟨src,x.tm,x.sq⟩:jh).s) (f19.get d18 W.symm) (ai.fY (x:=x.s) d19 (hk d' ?_))⟩
  exact((D.tt j).fresh f18 (λy e=>ae)).fresh f19 (λy e=>ae)
 refine aI.of λJ hJ=> ?_
 have key: ∀v,(v=true↔0<σ.tm\/0<σ.sq)->J v t:=by
  intro v U;subst hJ;dsimp only;refine aI.of λJ1 f'=> ?_
  have fin: ∀g,Mk g m σ.e σ.tm σ.sq->Fr (λy=>y=m) t g->J1 g:=by
   intro g Mg f;subst f';have F:Fr No r g:=Y.fresh f (λy e=>ae);have Z:=l.on F;unfold oQ at A V;refine⟨_,aq Z.cX,On Mg σ.now G.n G.t.2 (λc1 a a' f12=> ?_) (λc1 E a a' f12=> ?_) (λc1 E a f12=> ?_)⟩
   .exact ai.ex (⟨σ.e,σ.now,0⟩:jh).s ⟨_,rfl,T a ⟨σ.e,σ.now,0⟩ 0 (F.fresh f12 (λy e=>ae)) (A (σ.now,0) (ah c1))⟩
   .exact ai.ex (⟨σ.e,σ.tm,σ.sq+1⟩:jh).s ⟨_,rfl,T a ⟨σ.e,σ.tm,σ.sq+1⟩ 0 (F.fresh f12 (λy e=>ae)) (A (σ.tm,σ.sq+1) ((af c1).trans (dz)))⟩
   .exact ai.ex jh.zero.s ⟨_,rfl,T a .zero 5 (F.tt f12) (V ((af c1).trans (ah E)))⟩
  cases v with
  |true=>
   rw[ah rfl];have hr:hI ⟨σ.e,σ.tm,σ.sq⟩=true:=by unfold hI;rw[G.e.1,aw G.t.1,aw G.t.2];rfl
   exact ai.fY (x:=(⟨σ.e,σ.tm,σ.sq⟩:jh).s) w (Ge M ⟨σ.e,σ.tm,σ.sq⟩ rfl hr (by have:=U.1 rfl;show 0<σ.tm\/0=σ.tm/\0<σ.sq;omega) λe' b' f20=>⟨_,rfl,fin e' b' f20⟩)
  |false=>
   rw[dz];have c: ¬(0<σ.tm\/0<σ.sq):=λc=>by have:=U.2 c;cases this
   have e1:σ.tm=0:=ae
   have e2:σ.sq=0:=ae
   exact fin t (by rw[e1,e2];exact M) (Fr.refl _ _)
 refine⟨_,aq w,?_⟩;by_cases c:0<σ.tm
 .rw[ah (aw (by show((σ.tm:Nat):Int)>0;omega))];exact key true ⟨λ_=> .inl c,λ_=>rfl⟩
 .rw[af (by simp only[aZ];show¬((σ.tm:Nat):Int)>0;omega)];refine⟨_,aq w,key _ ⟨λe=> .inr (by have e:((σ.sq:Nat):Int)>0:=aP e;omega),λe=>aw (by show((σ.sq:Nat):Int)>0;omega)⟩⟩

end Ask
end
section
variable {h:ak} {R:fG}
variable {x:aH.S}
theorem DR.walk{a:aH.S}{b:aH.S}(f:aT h (.cells a.arr 47) λB e=>aT e (.cells b.arr 47) λc H=>Hu H B 0 λt6=> ∃t8,Cc H c 0 (.U t8)/\if(t6==t8)then Hi H B 1 λt12=> ∃t14,Cc H c 1 (.I t14)/\if(t12==t14)then ax.cW H (AA B 2) λt19=>ax.cW H (AA c 2) λt21=> ∃(eq:Bool),yD Tryz.prog 29 (t19.agg) (t21.agg) eq/\if eq then ax.cW H (AA B 7) λt26=>ax.cW H (AA c 7) λt28=> ∃(eq_1:Bool),yD Tryz.prog 29 (t26.agg) (t28.agg) eq_1/\if eq_1 then Hi H B 12 λt33=> ∃t35,Cc H c 12 (.I t35)/\if(t33==t35)then Hi H B 13 λt40=> ∃t42,Cc H c 13 (.I t42)/\if(t40==t42)then Hi H B 14 λt47=> ∃t49,Cc H c 14 (.I t49)/\if(t47==t49)then Hl H B 15 λg T t=>Hl H c 15 λk j i=>Cl 82 #[.slice g T t,.slice k j i] H λv d=> ∃t57,v=.bool t57/\if t57 then Hu d B 16 λt61=> ∃t63,Cc d c 16 (.U t63)/\if(t61==t63)then Hu d B 17 λt68=> ∃t70,Cc d c 17 (.U t70)/\if(t68==t70)then Hb d B 18 λt75=> ∃t77,Cc d c 18 (.bool t77)/\R (.bool (t75==t77)) d else R (.bool false) d else R (.bool false) d else R (.bool false) d else R (.bool false) H else R (.bool false) H else R (.bool false) H else R (.bool false) H else R (.bool false) H else R (.bool false) H else R (.bool false) H):Cl 80 #[a.agg,b.agg] h R:=aR (lq ll) Tryz.func80 f
theorem Gf.walk (W:aT h (.cells x.arr 47) λb C=>aT C (.cells aH.S.z.arr 47) λu g=>Hu g b 0 λt5=>Hi g b 1 λt7=>aT g (.cells aH.S.z.arr 47) λB T=>aH.dE T (AA B 0) ⟨t5,t7,false,0,0,hC,hC,false,0,0,hC,hC,0,0,0,none,0,0,0,0,false⟩ λi=>Hi i b 1 λt10=>aI (λ(y:ak)=>aH.cW y (AA B 0) λt68=>aH.dE y (AA u 0) t68 λz=>aH.cW z (AA u 0) λX=>R (X.agg) z) (λJ=>aI (λ(t11:Bool) (c:ak)=>aI (λ(V:ak)=>J V) (λm=>if t11 then ax.cW c (AA b 2) λt15=>Hi c b 12 λt17=>ax.dE c (AA B 2) t15 λA=>Kp c A [(Sa b 12)]/\aQ A (AA B 12) (.I t17) λD=>m D else aI (λ(t20:Bool) (H:ak)=>aI (λ(E:ak)=>m E) (λo=>if t20 then ax.cW H (AA b 2) λt24=>ax.dE H (AA B 2) t24 λF=>o F else aI (λ(G:ak)=>o G) (λp=>if(t10==4)then ax.cW H (AA b 2) λt29=>ax.cW H (AA b 7) λt31=>Hl H b 15 λa' Z Y=>Hu H b 16 λt35=>Hb H b 18 λt37=>ax.dE H (AA B 2) t29 λd=>Kp H d [(Sa b 18),(Sa b 16),(Sa b 15),(Sa b 7)]/\ax.dE d (AA B 7) t31 λe=>Kp d e [(Sa b 18),(Sa b 16),(Sa b 15)]/\aQ e (AA B 15) (.slice a' Z Y) λf=>Kp e f [(Sa b 18),(Sa b 16)]/\aQ f (AA B 16) (.U t35) λv=>Kp f v [(Sa b 18)]/\aQ v (AA B 18) (.bool t37) λI=>p I else aI (λ(t43:Bool) (a:ak)=>aI (λ(K:ak)=>p K) (λr=>if t43 then∃t48,Cc a b 13 (.I t48)/\aQ a (AA B 13) (.I t48) λL=>r L else aI (λ(M:ak)=>r M) (λs=>if(t10==7)then ax.cW a (AA b 2) λt53=>Hi a b 14 λt55=>ax.dE a (AA B 2) t53 λw=>Kp a w [(Sa b 14)]/\aQ w (AA B 14) (.I t55) λN=>s N else aI (λ(O:ak)=>s O) (λt=>if(t10==10)then∃t61,Cc a b 18 (.bool t61)/\aQ a (AA B 18) (.bool t61) λP=>t P else aI (λ(Q:ak)=>t Q) (λk=>if(t10==12)then∃t66,Cc a b 17 (.U t66)/\aQ a (AA B 17) (.U t66) λS=>k S else k a))))) (λq=>if(t10==5)then q (t10==5) H else aI (λ(b':Bool) (U:ak)=>q b' U) (λl=>if(t10==8)then l (t10==8) H else l (t10==9) H))))) (λn=>if(t10==2)then n (t10==2) c else n (t10==6) c))) (λj=>if(t10==1)then j (t10==1) i else j (t10==3) i))):Cl 81 #[x.agg] h R:=aR (lq (lq (sq (lq (.join [] (bq (sq (lq (.join [(11,.one (.bool))] (cq lf lf))) (.join [] (cq (pK 8) (sq (lq (.join [(20,.one (.bool))] (cq lf lf))) (.join [] (cq lf (lq (.join [] (cq (pK 20) (sq (lq (.join [(43,.one (.bool))] (cq lf (lq (.join [(43,.one (.bool))] (cq lf lf)))))) (.join [] (cq lf (lq (.join [] (cq (pK 8) (lq (.join [] (cq lf (lq (.join [] (cq lf lf)))))))))))))))))))))))) ll))) Tryz.func81 W
theorem AQ.walk{x:ax.S}(c:aT h (.cells x.arr 29) λb a=>ax.cW a (AA b 0) λt3=>Cl 86 #[t3.agg] a λv H=> ∃t4,v=.bool t4/\if t4 then ax.cW H (AA b 0) λt6=> ∃(eq:Bool),yD Tryz.prog 29 (t6.agg) (ax.S.z.agg) eq/\R (.bool (!eq)) H else R (.bool false) H):Cl 139 #[x.agg] h R:=aR (lq ll) Tryz.func139 c
theorem BI.walk (o:aT h (.cells x.arr 47) λb g=>Hi g b 1 λt4=>aI (λ(t5:Bool) (f:ak)=>if t5 then ax.cW f (AA b 2) λt9=>Cl 139 #[t9.agg] f λv d=> ∃t10,v=.bool t10/\if t10 then∃t13,Cc d b 12 (.I t13)/\if(decide (t13≥0))then∃t18,Cc d b 12 (.I t18)/\R (.bool (decide (t18<=2))) d else R (.bool false) d else R (.bool false) d else aI (λ(t21:Bool) (a:ak)=>if t21 then ax.cW a (AA b 2) λt25=>Cl 139 #[t25.agg] a λV n=> ∃t26,V=.bool t26/\R (.bool t26) n else if(t4==4)then ax.cW a (AA b 2) λt30=>Cl 139 #[t30.agg] a λr i=> ∃t31,r=.bool t31/\if t31 then ax.cW i (AA b 7) λt34=>Cl 139 #[t34.agg] i λs c=> ∃t35,s=.bool t35/\if t35 then∃p t T,Cc c b 15 (.slice p t T)/\if(decide (((t:Nat):Int)<=200))then∃t45,Cc c b 16 (.U t45)/\if(decide (t45≥1))then∃t50,Cc c b 16 (.U t50)/\R (.bool (decide (t50<=1099511627776))) c else R (.bool false) c else R (.bool false) c else R (.bool false) c else R (.bool false) i else aI (λ(t53:Bool) (H:ak)=>if t53 then∃t58,Cc H b 13 (.I t58)/\if(decide (t58≥1))then∃t62,Cc H b 13 (.I t62)/\R (.bool (decide (t62<=1099511627776))) H else R (.bool false) H else if(t4==7)then ax.cW H (AA b 2) λt68=>Cl 139 #[t68.agg] H λu e=> ∃t69,u=.bool t69/\if t69 then∃t72,Cc e b 14 (.I t72)/\if(decide (t72≥1))then∃t77,Cc e b 14 (.I t77)/\R (.bool (decide (t77<=1000))) e else R (.bool false) e else R (.bool false) e else if(t4==12)then∃t83,Cc H b 17 (.U t83)/\if(decide (t83≥1))then∃t87,Cc H b 17 (.U t87)/\R (.bool (decide (t87<=2147483648))) H else R (.bool false) H else∃t91,Cc H b 1 (.I t91)/\if(t91==10)then R (.bool true) H else∃t95,Cc H b 1 (.I t95)/\R (.bool (t95==11)) H) (λk=>if(t4==5)then k (t4==5) a else aI (λ(q:Bool) (m:ak)=>k q m) (λl=>if(t4==8)then l (t4==8) a else l (t4==9) a))) (λj=>if(t4==2)then j (t4==2) f else j (t4==6) f)) (λJ=>if(t4==1)then J (t4==1) g else J (t4==3) g)):Cl 79 #[x.agg] h R:=aR (lq (sq (lq (bq (sq (lq (.join [(5,.one (.bool))] (cq lf lf))) (cq ll (sq (lq (.join [(21,.one (.bool))] (cq lf lf))) (cq ll (lq (cq ll (sq (lq (.join [(53,.one (.bool))] (cq lf (lq (.join [(53,.one (.bool))] (cq lf lf)))))) (cq ll (lq (cq ll (lq (cq ll lf)))))))))))))) ll)) Tryz.func79 o
theorem BJ.walk(e:aT h (.cells x.arr 47) λb H=> ∃t4,Cc H b 0 (.U t4)/\if(decide (t4≥1))then∃t8,Cc H b 0 (.U t8)/\if(decide (t8<=1099511627776))then aH.cW H (AA b 0) λt12=>Cl 79 #[t12.agg] H λv a=> ∃t13,v=.bool t13/\Kp H a [(Sa b 0),(Sa b 0)]/\if t13 then aH.cW a (AA b 0) λt16=>aH.cW a (AA b 0) λt17=>Cl 81 #[t17.agg] a λV c=>aH.EX λt18=>V=t18.agg/\Kp a c [(Sa b 0),(Sa b 0),(Sa b 0)]/\Cl 80 #[t16.agg,t18.agg] c λf d=> ∃t19,f=.bool t19/\Kp c d [(Sa b 0),(Sa b 0)]/\R (.bool t19) d else R (.bool false) a else R (.bool false) H else R (.bool false) H):Cl 29 #[x.agg] h R:=aR (lq (sq (pK 19) lf)) Tryz.func29 e

end
section
namespace Ask
open iY (Ev cV kO)
open Bn (iX)
variable {h h' g:ak} {R:fG} {p q:bZ} {c d:Nat}
variable {b:Nat} {y:aH.S} {x:ax.S} {K:ak->Prop}
abbrev Rq.s(x:Rq)(p:bZ)(c:Nat):aH.S:=⟨x.id,x.kind,x.ep.jT,x.ep.node,x.ep.gr,x.ep.host,x.ep.jv,x.dest.jT,x.dest.node,x.dest.gr,x.dest.host,x.dest.jv,x.jS,x.num,x.iV,p,x.oa.length,c,x.fj,x.token,x.on⟩
theorem xf{P:Prop}{b:Bool}(H:b=true->P)(a:b=false->P):P:=by cases b;exact a rfl;exact H rfl
theorem Oo(x y:Rq)(A:Row h p (bc x.oa))(B:Row h q (bc y.oa))(hk: iq h R (.bool (decide (x=y)))):Cl 80 #[(x.s p c).agg,(y.s q d).agg] h R:=by
 refine DR.walk (aH.dv λb G E z f1=>aH.dv λb1 H D f f2=> ?_);have i:=f2.get z id;have F:=f1.tt f2;have no: ∀g,Fr No h g->x≠y->R (.bool false) g:=λg w e=>by have:=hk g w;rw[aD e]at this;exact this
 have I: ∀(a b:Int)(m n:Nat),a=m->b=n->m≠n->¬(a==b)=true:=λa b m n e1 e2 e=>by rw[e1,e2];simp only[dp];omega
 refine⟨_,aq i,_,aq f,?_⟩;by_cases c1:x.id=y.id
 case neg=>rw[af (I _ _ _ _ rfl rfl c1)];exact no H F (λe=>c1 (by rw[e]))
 rw[ah (by show((x.id:Int)==(y.id:Int))=true;rw[c1];simp)];refine⟨_,aq i,_,aq f,?_⟩;by_cases k:x.kind=y.kind
 case neg=>rw[af (by show¬(x.kind==y.kind)=true;simpa using k)];exact no H F (λe=>k (by rw[e]))
 rw[ah (by show(x.kind==y.kind)=true;simpa using k)];refine iX x.ep i rfl rfl rfl rfl rfl (iX y.ep f rfl rfl rfl rfl rfl ⟨_,iY.u0 (x:=x.ep) (y:=y.ep) rfl rfl,?_⟩);by_cases l:x.ep=y.ep
 case neg=>rw[af (cH l)];exact no H F (λe=>l (by rw[e]))
 rw[ah (cH l)];refine iX x.dest i rfl rfl rfl rfl rfl (iX y.dest f rfl rfl rfl rfl rfl ⟨_,iY.u0 (x:=x.dest) (y:=y.dest) rfl rfl,?_⟩);by_cases o:x.dest=y.dest
 case neg=>rw[af (cH o)];exact no H F (λe=>o (by rw[e]))
 rw[ah (cH o)];refine⟨_,aq i,_,aq f,?_⟩;by_cases r:x.jS=y.jS
 case neg=>rw[af (by show¬(x.jS==y.jS)=true;simpa using r)];exact no H F (λe=>r (by rw[e]))
 rw[ah (by show(x.jS==y.jS)=true;simpa using r)];refine⟨_,aq i,_,aq f,?_⟩;by_cases s:x.num=y.num
 case neg=>rw[af (by show¬(x.num==y.num)=true;simpa using s)];exact no H F (λe=>s (by rw[e]))
 rw[ah (by show(x.num==y.num)=true;simpa using s)];refine⟨_,aq i,_,aq f,?_⟩;by_cases t:x.iV=y.iV
 case neg=>rw[af (by show¬(x.iV==y.iV)=true;simpa using t)];exact no H F (λe=>t (by rw[e]))
 rw[ah (by show(x.iV==y.iV)=true;simpa using t)];refine⟨_,_,_,aq i,_,_,_,aq f,Cb.pL (A.frame F cb) (B.frame F cb) rfl rfl ⟨_,rfl,?_⟩⟩;by_cases u:x.oa=y.oa
 case neg=>rw[af (cH u)];exact no H F (λe=>u (by rw[e]))
 rw[ah (cH u)];refine⟨_,aq i,_,aq f,?_⟩;by_cases v:x.fj=y.fj
 case neg=>rw[af (I _ _ _ _ rfl rfl v)];exact no H F (λe=>v (by rw[e]))
 rw[ah (by show((x.fj:Int)==(y.fj:Int))=true;rw[v];simp)];refine⟨_,aq i,_,aq f,?_⟩;by_cases C:x.token=y.token
 case neg=>rw[af (I _ _ _ _ rfl rfl C)];exact no H F (λe=>C (by rw[e]))
 rw[ah (by show((x.token:Int)==(y.token:Int))=true;rw[C];simp)];refine⟨_,aq i,_,aq f,?_⟩;have:=hk H F;have e:decide (x=y)=(x.on==y.on):=by
  by_cases j:x.on=y.on
  .have:x=y:=by cases x;cases y;simp only at c1 k l o r s t u v C j;simp[c1,k,l,o,r,s,t,u,v,C,j]
   rw[aw this,j];simp
  .rw[aD (λe=>j (by rw[e]))];simpa using j
 rw[e]at this;exact this
theorem oW(e:Ev)(hk: iq h R (.bool (mc e))):Cl 139 #[e.s.agg] h R:=by
 refine AQ.walk (ax.dv λb f E a f1=>ax.fY (x:=e.s) a (iY.fx e λH f2=>⟨_,rfl,?_⟩));unfold mc at hk;cases c1:cV e with
 |false=>rw[c1]at hk;rw[dz];exact hk H (f1.tt f2)
 |true=>rw[c1]at hk;rw[ah rfl];exact ax.fY (x:=e.s) (f2.get a id) ⟨_,iY.u0 (x:=e) (y:=.zero) rfl rfl,hk H (f1.tt f2)⟩
theorem QS(a:aH.gn h b y)(hk: ∀h',aH.gn h' b { y with f2:=x.f0,f3:=x.f1,f4:=x.f2,f5:=x.f3,f6:=x.f4 } ->Fr (λy=>y=b) h h'->K h'):ax.dE h (AA b 2) x K:=
 (show eu (AA b 2) x.l 0 h K from mA (off:=2) (ws:=aH.S.l { y with f2:=x.f0,f3:=x.f1,f4:=x.f2,f5:=x.f3,f6:=x.f4 }) a (by show 2+5<=19;omega) rfl rfl λH d1 d2 d3=>hk H d1 (Fr.of_eq d2 λc e=>d3 c e))
theorem SA(a:aH.gn h b y)(hk: ∀h',aH.gn h' b { y with f7:=x.f0,f8:=x.f1,f9:=x.f2,f10:=x.f3,f11:=x.f4 } ->Fr (λy=>y=b) h h'->K h'):ax.dE h (AA b 7) x K:=
 (show eu (AA b 7) x.l 0 h K from mA (off:=7) (ws:=aH.S.l { y with f7:=x.f0,f8:=x.f1,f9:=x.f2,f10:=x.f3,f11:=x.f4 }) a (by show 7+5<=19;omega) rfl rfl λH d1 d2 d3=>hk H d1 (Fr.of_eq d2 λc e=>d3 c e))
theorem rJ{i:Nat}{z:aH.S}{v:Value}(a:aH.gn h b y)(f:i<19)(j:y.arr.setIfInBounds i v=z.arr)(hk: ∀h',aH.gn h' b z->Fr (λy=>y=b) h h'->K h'):aQ h (AA b i) v K:=
 bL a f λH d1 d2 d3=>hk H (by unfold aH.gn;rw[<-j];exact d1) (Fr.of_eq d2 λc e=>d3 c e)
theorem QT{B:Nat}{l:List (bZ)}(f:Fr (λy=>y=B) h h')(ne:b≠B)(a: ∀p∈l,p.map (·.block)=some b):Kp h h' l:=f.Vv λp i x e H=>ne (by have:=a p i;rw[e]at this;exact(bp this).symm.trans H)
theorem bq{n k:Int}:((n==k)=true↔n=k):=dp
theorem Il(x:Rq)(rx:Row h p (bc x.oa))(hk: ∀h' P C,Row h' P (bc (sr x).oa)->Fr No h h'->R ((sr x).s P C).agg h'):Cl 81 #[(x.s p c).agg] h R:=by
 refine Gf.walk (aH.dv λb h1 eb I f1=>aH.dv λb1 h2 g' U f2=>⟨_,aq (f2.get I id),_,aq (f2.get I id),aH.gB (x:=(ji x).s none 0) λB t i' l f4=> ?_⟩);have H:=(f2.tt f4).get I id;have F4:=f1.tt (f2.tt f4);have zb:=aE I;have k':=aE U;have z1:=f1.1;have z2:=f2.1;have ne:b≠B:=ae
 have j':b1≠B:=ae
 refine⟨_,aq H,aI.of λJ hJ=>aI.of λW a'=> ?_⟩;have fin: ∀g P C,aH.gn g B ((sr x).s P C)->Row h P (bc (sr x).oa)->Fr (λy=>y=B) t g->J g:=by
  intro g P C hg hr fg;have Q:Fr No h2 g:=f4.fresh fg (λy e=>ae);have G:=(f1.tt f2).tt Q;subst hJ;refine aH.fY hg (aH.iz (x:=(sr x).s P C) (Q.get U id) λh6 d6 f6 _=>aH.fY d6 ?_);have S:=G.fresh f6 (λy e=>ae);exact hk h6 P C (hr.frame S cb) S
 have N:Row h none (bc []):=Row.nil;have key: ∀v,(v=true↔x.kind=1\/x.kind=3)->W v t:=by
  intro v m;subst a';dsimp only;refine aI.of λJ2 j=> ?_
  by_cases k:x.kind=1\/x.kind=3
  .have E:sr x= { ji x with ep:=x.ep,jS:=x.jS } :=ah k;rw[E]at fin;rw[ah (m.2 k)];exact iX x.ep H rfl rfl rfl rfl rfl ⟨_,aq H,QS l λi e1 f5=>⟨QT f5 ne bQ,rJ (z:=({ ji x with ep:=x.ep,jS:=x.jS } :Rq).s none 0) e1 dt rfl λD e2 f6=>by subst j;exact fin D none 0 e2 N (f5.tt f6)⟩⟩
  rw[af (λe=>k (m.1 e))];refine aI.of λX c'=> ?_
  have V: ∀v,(v=true↔x.kind=2\/x.kind=6)->X v t:=by
   intro v m;subst c';dsimp only;refine aI.of λJ4 o=> ?_
   by_cases a:x.kind=2\/x.kind=6
   .have E:sr x= { ji x with ep:=x.ep } :=(af k).trans (ah a);rw[E]at fin;rw[ah (m.2 a)];exact iX x.ep H rfl rfl rfl rfl rfl (QS l λi e1 f5=>by subst o;subst j;exact fin i none 0 e1 N f5)
   rw[af (λe=>a (m.1 e))];refine aI.of λJ5 r=> ?_
   by_cases n:x.kind=4
   .have E:sr x= { ji x with ep:=x.ep,dest:=x.dest,oa:=x.oa,fj:=x.fj,on:=x.on } :=(af k).trans ((af a).trans (ah n));rw[E]at fin;rw[ah (bq.2 n)];refine iX x.ep H rfl rfl rfl rfl rfl (iX x.dest H rfl rfl rfl rfl rfl ⟨_,_,_,aq H,_,aq H,_,aq H,QS l λi e1 f5=>⟨QT f5 ne bQ,SA e1 λD e2 f6=>⟨QT f6 ne bQ,?_⟩⟩⟩);refine rJ (z:=({ ji x with ep:=x.ep,dest:=x.dest,oa:=x.oa } :Rq).s p c) e2 dt rfl λg3 Z f7=>⟨QT f7 ne bQ,?_⟩
    refine rJ (z:=({ ji x with ep:=x.ep,dest:=x.dest,oa:=x.oa,fj:=x.fj } :Rq).s p c) Z dt rfl λg4 e4 f8=>⟨QT f8 ne bQ,?_⟩
    refine rJ (z:=({ ji x with ep:=x.ep,dest:=x.dest,oa:=x.oa,fj:=x.fj,on:=x.on } :Rq).s p c) e4 dt rfl λg5 e5 f9=> ?_
    subst r;subst o;subst j;exact fin g5 p c e5 rx (f5.tt (f6.tt (f7.tt (f8.tt f9))))
   rw[af (λe=>n (bq.1 e))];refine aI.of λY d'=> ?_
   have O: ∀v,(v=true↔x.kind=5\/x.kind=8\/x.kind=9)->Y v t:=by
    intro v m;subst d';dsimp only;refine aI.of λJ7 u=> ?_
    by_cases f:x.kind=5\/x.kind=8\/x.kind=9
    .have E:sr x= { ji x with num:=x.num } :=(af k).trans ((af a).trans ((af n).trans (ah f)));rw[E]at fin;rw[ah (m.2 f)];exact⟨_,aq H,rJ (z:=({ ji x with num:=x.num } :Rq).s none 0) l dt rfl λi e1 f5=>by subst u;subst r;subst o;subst j;exact fin i none 0 e1 N f5⟩
    rw[af (λe=>f (m.1 e))];refine aI.of λJ8 F=> ?_
    by_cases s:x.kind=7
    .have E:sr x= { ji x with ep:=x.ep,iV:=x.iV } :=(af k).trans ((af a).trans ((af n).trans ((af f).trans (ah s))));rw[E]at fin;rw[ah (bq.2 s)];exact iX x.ep H rfl rfl rfl rfl rfl ⟨_,aq H,QS l λi e1 f5=>⟨QT f5 ne bQ,rJ (z:=({ ji x with ep:=x.ep,iV:=x.iV } :Rq).s none 0) e1 dt rfl λD e2 f6=>by subst F;subst u;subst r;subst o;subst j;exact fin D none 0 e2 N (f5.tt f6)⟩⟩
    rw[af (λe=>s (bq.1 e))];refine aI.of λJ9 M=> ?_
    by_cases w:x.kind=10
    .have E:sr x= { ji x with on:=x.on } :=(af k).trans ((af a).trans ((af n).trans ((af f).trans ((af s).trans (ah w)))));rw[E]at fin;rw[ah (bq.2 w)];exact⟨_,aq H,rJ (z:=({ ji x with on:=x.on } :Rq).s none 0) l dt rfl λi e1 f5=>by subst M;subst F;subst u;subst r;subst o;subst j;exact fin i none 0 e1 N f5⟩
    rw[af (λe=>w (bq.1 e))];refine aI.of λe' T=> ?_
    by_cases L:x.kind=12
    .have E:sr x= { ji x with token:=x.token } :=(af k).trans ((af a).trans ((af n).trans ((af f).trans ((af s).trans ((af w).trans (ah L))))));rw[E]at fin;rw[ah (bq.2 L)];exact⟨_,aq H,rJ (z:=({ ji x with token:=x.token } :Rq).s none 0) l dt rfl λi e1 f5=>by subst T;subst M;subst F;subst u;subst r;subst o;subst j;exact fin i none 0 e1 N f5⟩
    rw[af (λe=>L (bq.1 e))];have E:sr x=ji x:=(af k).trans ((af a).trans ((af n).trans ((af f).trans ((af s).trans ((af w).trans (af L))))));rw[E]at fin;subst T;subst M;subst F;subst u;subst r;subst o;subst j;exact fin t none 0 l N (Fr.refl _ _)
   by_cases f:x.kind=5
   .rw[ah (bq.2 f)];exact O _ ⟨λ_=> .inl f,λ_=>bq.2 f⟩
   rw[af (λe=>f (bq.1 e))];refine aI.of λf' b'=> ?_
   subst b';dsimp only;by_cases A:x.kind=8
   .rw[ah (bq.2 A)];exact O _ ⟨λ_=> .inr (.inl A),λ_=>bq.2 A⟩
   rw[af (λe=>A (bq.1 e))];exact O _ ⟨λe=> .inr (.inr (bq.1 e)),λe=>bq.2 ((e.resolve_left f).resolve_left A)⟩
  by_cases a:x.kind=2
  .rw[ah (bq.2 a)];exact V _ ⟨λ_=> .inl a,λ_=>bq.2 a⟩
  rw[af (λe=>a (bq.1 e))];exact V _ ⟨λe=> .inr (bq.1 e),λe=>bq.2 (e.resolve_left a)⟩
 by_cases k:x.kind=1
 .rw[ah (bq.2 k)];exact key _ ⟨λ_=> .inl k,λ_=>bq.2 k⟩
 rw[af (λe=>k (bq.1 e))];exact key _ ⟨λe=> .inr (bq.1 e),λe=>bq.2 (e.resolve_left k)⟩
theorem Ix(n k:Nat):decide ((n:Int)≥(k:Int))=decide (n≥k):=by by_cases e:n≥k<;>simp[e]<;>omega
theorem Oq(x:Rq)(hk: iq h R (.bool (lX x))):Cl 79 #[(x.s p c).agg] h R:=by
 refine BI.walk (aH.dv λb t V H f1=>⟨_,aq H,aI.of λJ O=> ?_⟩);have key: ∀v,(v=true↔x.kind=1\/x.kind=3)->J v t:=by
  intro v j;subst O;dsimp only;by_cases k:x.kind=1\/x.kind=3
  .have E:lX x=(mc x.ep && decide (x.jS≥0) && decide (x.jS<=2)):=ah k;rw[E]at hk;rw[ah (j.2 k)];refine iX x.ep H rfl rfl rfl rfl rfl (oW x.ep λm f3=>⟨_,rfl,?_⟩);have i:=f3.get H id;have hk:=hk m (f1.tt f3);refine xf (λc1=> ?_) (λc1=> ?_) (b:=mc x.ep)
   .rw[c1]at hk⊢;rw[ah rfl];refine⟨_,aq i,?_⟩;refine xf (λC=> ?_) (λC=> ?_) (b:=decide (x.jS≥0))
    .rw[ah C];rw[C]at hk;exact⟨_,aq i,hk⟩
    .rw[af (by rw[C];decide)];rw[C]at hk;exact hk
   .rw[c1]at hk⊢;rw[dz];exact hk
  rw[af (λe=>k (j.1 e))];refine aI.of λI Q=> ?_
  have G: ∀v,(v=true↔x.kind=2\/x.kind=6)->I v t:=by
   intro v j;subst Q;dsimp only;by_cases a:x.kind=2\/x.kind=6
   .have E:lX x=mc x.ep:=(af k).trans (ah a);rw[E]at hk;rw[ah (j.2 a)];exact iX x.ep H rfl rfl rfl rfl rfl (oW x.ep λm f3=>⟨_,rfl,hk m (f1.tt f3)⟩)
   rw[af (λe=>a (j.1 e))];by_cases n:x.kind=4
   .have E:lX x=(mc x.ep && mc x.dest && decide (x.oa.length<=200) && decide (x.fj≥1) && decide (x.fj<=1099511627776)):=(af k).trans ((af a).trans (ah n));rw[E]at hk;rw[ah (bq.2 n)];refine iX x.ep H rfl rfl rfl rfl rfl (oW x.ep λm f3=>⟨_,rfl,?_⟩);have i:=f3.get H id;refine xf (λc1=> ?_) (λc1=> ?_) (b:=mc x.ep)
    .rw[c1]at hk⊢;rw[ah rfl];refine iX x.dest i rfl rfl rfl rfl rfl (oW x.dest λN f4=>⟨_,rfl,?_⟩);have B:=f4.get i id;have hk:=hk N (f1.tt (f3.tt f4));refine xf (λC=> ?_) (λC=> ?_) (b:=mc x.dest)
     .rw[C]at hk⊢;rw[ah rfl];refine⟨_,_,_,aq B,?_⟩;have M:decide (((x.s p c).MT:Int)<=200)=decide (x.oa.length<=200):=Bn.lZ x.oa.length 200;rw[M];refine xf (λz=> ?_) (λz=> ?_) (b:=decide (x.oa.length<=200))
      .rw[z]at hk⊢;rw[ah rfl];refine⟨_,aq B,?_⟩;have A:decide (((x.s p c).f16:Int)≥1)=decide (x.fj≥1):=Ix x.fj 1;rw[A];refine xf (λl=> ?_) (λl=> ?_) (b:=decide (x.fj≥1))
       .rw[l]at hk⊢;rw[ah rfl];refine⟨_,aq B,?_⟩;have o:decide (((x.s p c).f16:Int)<=1099511627776)=decide (x.fj<=1099511627776):=Bn.lZ x.fj 1099511627776;rw[o];exact hk
       .rw[l]at hk⊢;rw[dz];exact hk
      .rw[z]at hk⊢;rw[dz];exact hk
     .rw[C]at hk⊢;rw[dz];exact hk
    .rw[c1]at hk⊢;rw[dz];exact hk m (f1.tt f3)
   rw[af (λe=>n (bq.1 e))];refine aI.of λL S=> ?_
   have F:=hk;have hk:=hk t f1;have D: ∀v,(v=true↔x.kind=5\/x.kind=8\/x.kind=9)->L v t:=by
    intro v j;subst S;dsimp only;by_cases f:x.kind=5\/x.kind=8\/x.kind=9
    .have E:lX x=(decide (x.num≥1) && decide (x.num<=1099511627776)):=(af k).trans ((af a).trans ((af n).trans (ah f)));rw[E]at hk;rw[ah (j.2 f)];refine⟨_,aq H,?_⟩;refine xf (λC=> ?_) (λC=> ?_) (b:=decide (x.num≥1))
     .rw[ah C];rw[C]at hk;exact⟨_,aq H,hk⟩
     .rw[af (by rw[C];decide)];rw[C]at hk;exact hk
    rw[af (λe=>f (j.1 e))];by_cases r:x.kind=7
    .have E:lX x=(mc x.ep && decide (x.iV≥1) && decide (x.iV<=1000)):=(af k).trans ((af a).trans ((af n).trans ((af f).trans (ah r))));rw[E]at F;rw[ah (bq.2 r)];refine iX x.ep H rfl rfl rfl rfl rfl (oW x.ep λm f3=>⟨_,rfl,?_⟩);have i:=f3.get H id;have hk:=F m (f1.tt f3);refine xf (λc1=> ?_) (λc1=> ?_) (b:=mc x.ep)
     .rw[c1]at hk⊢;rw[ah rfl];refine⟨_,aq i,?_⟩;refine xf (λC=> ?_) (λC=> ?_) (b:=decide (x.iV≥1))
      .rw[ah C];rw[C]at hk;exact⟨_,aq i,hk⟩
      .rw[af (by rw[C];decide)];rw[C]at hk;exact hk
     .rw[c1]at hk⊢;rw[dz];exact hk
    rw[af (λe=>r (bq.1 e))];by_cases w:x.kind=12
    .have E:lX x=(decide (x.token≥1) && decide (x.token<=2147483648)):=(af k).trans ((af a).trans ((af n).trans ((af f).trans ((af r).trans (ah w)))));rw[E]at hk;rw[ah (bq.2 w)];refine⟨_,aq H,?_⟩;have A:decide (((x.s p c).f17:Int)≥1)=decide (x.token≥1):=Ix x.token 1;rw[A];refine xf (λl=> ?_) (λl=> ?_) (b:=decide (x.token≥1))
     .rw[l]at hk⊢;rw[ah rfl];refine⟨_,aq H,?_⟩;have o:decide (((x.s p c).f17:Int)<=2147483648)=decide (x.token<=2147483648):=Bn.lZ x.token 2147483648;rw[o];exact hk
     .rw[l]at hk⊢;rw[dz];exact hk
    rw[af (λe=>w (bq.1 e))];have E:lX x=decide (x.kind=10\/x.kind=11):=(af k).trans ((af a).trans ((af n).trans ((af f).trans ((af r).trans (af w)))));rw[E]at hk;refine⟨_,aq H,?_⟩;by_cases u:x.kind=10
    .rw[ah (bq.2 u)];rw[aw (.inl u)]at hk;exact hk
    .rw[af (λe=>u (bq.1 e))];refine⟨_,aq H,?_⟩;have o:decide (x.kind=10\/x.kind=11)=(x.kind==11):=by by_cases T:x.kind=11<;>simp[u,T]
     rw[o]at hk;exact hk
   by_cases f:x.kind=5
   .rw[ah (bq.2 f)];exact D _ ⟨λ_=> .inl f,λ_=>bq.2 f⟩
   rw[af (λe=>f (bq.1 e))];refine aI.of λU P=> ?_
   subst P;dsimp only;by_cases s:x.kind=8
   .rw[ah (bq.2 s)];exact D _ ⟨λ_=> .inr (.inl s),λ_=>bq.2 s⟩
   rw[af (λe=>s (bq.1 e))];exact D _ ⟨λe=> .inr (.inr (bq.1 e)),λe=>bq.2 ((e.resolve_left f).resolve_left s)⟩
  by_cases a:x.kind=2
  .rw[ah (bq.2 a)];exact G _ ⟨λ_=> .inl a,λ_=>bq.2 a⟩
  rw[af (λe=>a (bq.1 e))];exact G _ ⟨λe=> .inr (bq.1 e),λe=>bq.2 (e.resolve_left a)⟩
 by_cases k:x.kind=1
 .rw[ah (bq.2 k)];exact key _ ⟨λ_=> .inl k,λ_=>bq.2 k⟩
 rw[af (λe=>k (bq.1 e))];exact key _ ⟨λe=> .inr (bq.1 e),λe=>bq.2 (e.resolve_left k)⟩
theorem fx(x:Rq)(r:Row h p (bc x.oa))(hk: iq h R (.bool (iW x))):Cl 29 #[(x.s p c).agg] h R:=by
 refine BJ.walk (aH.dv λb e n H f1=>⟨_,aq H,?_⟩);unfold iW at hk;have E:decide (((x.s p c).f0:Int)≥1)=decide (x.id≥1):=Ix x.id 1;have j:decide (((x.s p c).f0:Int)<=1099511627776)=decide (x.id<=1099511627776):=Bn.lZ x.id 1099511627776;rw[E];refine xf (λc1=> ?_) (λc1=> ?_) (b:=decide (x.id≥1))
 case refine_2=>rw[c1]at hk⊢;rw[dz];exact hk e f1
 rw[c1]at hk⊢;rw[ah rfl];refine⟨_,aq H,?_⟩;rw[j];refine xf (λC=> ?_) (λC=> ?_) (b:=decide (x.id<=1099511627776))
 case refine_2=>rw[C]at hk⊢;rw[dz];exact hk e f1
 rw[C]at hk⊢;rw[ah rfl];refine aH.fY (x:=x.s p c) H (Oq x λk f2=>⟨_,rfl,f2.kp,?_⟩);refine xf (λa=> ?_) (λa=> ?_) (b:=lX x)
 case refine_2=>rw[a]at hk⊢;rw[dz];exact hk k (f1.tt f2)
 rw[a]at hk⊢;rw[ah rfl];have f:=f2.get H _root_.id;have F:=f1.tt f2;refine aH.fY (x:=x.s p c) f (aH.fY (x:=x.s p c) f (Il x (r.frame F (λ_ _=>_root_.id)) λo P i m f3=>aH.ex ((sr x).s P i) ⟨rfl,f3.kp,?_⟩));refine Oo x (sr x) (r.frame (F.tt f3) (λ_ _=>_root_.id)) m λl f4=>⟨_,rfl,f4.kp,?_⟩
 exact hk l (F.tt (f3.tt f4))

end Ask
end
section
namespace eN
open gD (It IV gw gZ)
open iY (Ev cV kO)
variable {h h':ak} {R:fG} {s k:Nat} {X:Ft} {I:sK} {σ:SS} {p:bZ}
variable {n owner num:Int} {x:It} {b:Nat}
theorem Pt.UP{o:Int}(H:Pt h s X I σ)(ok:sS σ.Q)(d:nR σ.Q x.owner x.d.length=true)(j:n=(x.d.length:Int))(l:o=x.owner)(hk: ∀h' a,Pt h' s a I { σ with Q:=σ.Q++ [x] } ->bN X h a h'->R (.I 0) h'):Cl 241 #[pt I.p,.I o,.I n] h R:=by
 subst l;subst j;obtain⟨Z,⟨m,P,on⟩,r,z,go⟩:=H.use 4;refine me.Pz P ok _ _ (λ_ h' c F=> ?_) (λe=>by unfold nR at d;rw[d]at e;cases e);rw[Jj,show xj σ.Q+(x.d.length:Int)=xj (x::σ.Q) by rw[jF];omega]at c;obtain⟨a,f,st,_,_⟩:=go h' Z { σ with Q:=σ.Q++ [x] } ⟨m,Pu.perm c (dY _ _).symm,on⟩ (bN.uT (F.mono λy _ q=>(on y).1.2 q)) (λi g=>HN _ g);exact hk h' a f st
theorem wB{bs:cM}{l c:Nat}(cg:Nat)(T:n=(cg:Int))(H:Pt h s X I σ)(G:Good σ k)(b':k<=30000)(U:Row h p (bc bs))(S:l=bs.length)(N:bs.length<=1000000)(hk: ∀h' t,Pt h' s t I (oh σ owner bs cg)->bN X h t h'->R (.tuple #[.I (DD σ owner bs cg),.I (uv σ owner bs cg)]) h'):
  Cl 191 #[pt s,.I owner,.slice p l c,.U n] h R:=by
 subst T;subst S;refine yy.walk (fO H.cX ⟨_,rfl,?_⟩);rw[dz];obtain⟨Z,r⟩:=H.box;refine aI.of λa' z=>⟨_,aq H.cX,gD.rD r λv p2 l2 c2 L f2=>⟨_,_,_,rfl,?_⟩⟩
 have ln:=L.len;have m:=H.on f2;have no:σ.B.items.length≥16\/nR σ.Q owner bs.length=false->∀g,Fr No h g->R (.tuple #[.I 0,.I 15]) g:=λc g f=>by
  have e1:uv σ owner bs cg=15:=ah c;have e2:DD σ owner bs cg=0:=ah c;have K:oh σ owner bs cg=σ:=af (by rw[e1];decide);rw[e1,e2,K]at hk;exact hk g X (H.on f) (bN.iP f)
 by_cases q:σ.B.items.length≥16
 .rw[gh];subst z;dsimp only;rw[ah rfl];exact no (.inl q) v f2
 rw[af (λe=>q (bR (aP e)))];obtain⟨Z4,⟨m4,P,c'⟩,_⟩:=m.use 4;refine⟨_,aq m.cX,me.PA P G.ok owner _ ⟨_,rfl,?_⟩⟩;subst z;dsimp only;cases j:nR σ.Q owner bs.length with
 |false=>
  rw[ah (show(!nR σ.Q owner bs.length)=true by rw[j];rfl)];exact no (.inr j) v f2
 |true=>
  rw[af (show¬(!nR σ.Q owner bs.length)=true by rw[j];decide)];have C: ¬(σ.B.items.length≥16\/nR σ.Q owner bs.length=false):=λc=>c.elim q (λe=>by rw[j]at e;cases e)
  have E:uv σ owner bs cg=gD.iN σ.B owner bs cg:=af C;have M:DD σ owner bs cg=gD.Ai σ.B owner bs cg:=af C;obtain⟨Z,r,zm,zd,go⟩:=m.use 3;refine⟨_,aq m.cX,gD.Aj cg rfl r (U.frame f2 cb) rfl N (bR G.b) λw J D V=>⟨_,_,rfl,?_⟩⟩;obtain⟨F,o,W,_,_⟩:=go w J { σ with B:=gD.Fm σ.B owner bs cg } D V (λi O=>HM _ O);have st:=bN.no f2 W;refine aI.of λJ2 A=> ?_
  rw[E,M]at hk;unfold oh at hk;rw[E]at hk;by_cases a:gD.iN σ.B owner bs cg=0
  .rw[ah a]at hk;rw[ah (by rw[a];rfl)];refine⟨_,aq o.cX,o.UP (x:=⟨σ.B.next,owner,bs,cg⟩) G.ok j rfl rfl λy u d Y=>⟨_,rfl,?_⟩⟩;subst A;refine hk y u ?_ (st.trans Y);have e:gD.Fm σ.B owner bs cg= { σ.B with items:=σ.B.items++ [⟨σ.B.next,owner,bs,cg⟩],next:=σ.B.next+1 } :=ah a;rw[e]at d⊢;have d:Pt y s u I { σ with B:= { σ.B with items:=σ.B.items++ [⟨σ.B.next,owner,bs,cg⟩],next:=σ.B.next+1 },Q:=σ.Q++ [⟨σ.B.next,owner,bs,cg⟩] } :=d;rw[G.q]at d;exact d
  .rw[af a]at hk;rw[af (cH a)];subst A;refine hk w F ?_ st;have e:gD.Fm σ.B owner bs cg=σ.B:=af a;rw[e]at o;exact o
theorem Iy(x:IV)(hid:gD.Aa h b num)(hk: iq h R (.bool (decide ((x.num:Int)=num)))):Cl 154 #[x.agg,.P b 0] h R:=by
 refine rG.walk (aY.box λb1 H e a f1=>⟨_,aq a,_,aq (f1.get hid id),?_⟩);rw[show((x.num:Int)==num)=decide ((x.num:Int)=num) by by_cases q:(x.num:Int)=num<;>simp[q]];exact hk H f1
theorem LC(xs:List IV)(num:Int):idxOf (λx:IV=>decide ((x.num:Int)=num)) xs=gD.qV (xs.map IV.abs) num:=by
 unfold idxOf gD.qV gD.yf;rw[List.findIdx?_map];rfl
theorem qW{xs:List IV}{n m:Nat}(o:Row h p (xs.flatMap gw))(l:n=xs.length)(j:xs.length<=1000000000)(hid:gD.Aa h b num)(hk: iq h R (.I (gD.qV (xs.map IV.abs) num))):
  Cl 153 #[.slice p n m,.func (.func 154) #[] #[.P b 0]] h R:=by
 refine fE.cancel.walk (EO (λx:IV=>decide ((x.num:Int)=num)) (λt g K=>((0:Int)<=t/\t<(n:Int))/\aO p λa=>aY.LD g (a.add (Int.toNat t*4)) λt0 t1 t2 t3 t4 t5=>
  Cl 154 #[.agg #[.I t0,.I t1,.slice t2 t3 t4,.U t5],.P b 0] g λv G=> ∃q,v=.bool q/\K q G) l j (λk g x K c f i=> ?_) (λg f=>by rw[LC];exact hk g f))
 have lt:=(aB.1 c).1;have H:=o.frame f cb;obtain⟨a,rfl⟩:=H.some (λe=>by have:=bP List.length e;rw[eO gw 4 gZ,bw]at this;omega);exact⟨ae,az.2 (aY.wm (by rw[aC];exact H.fI gZ c) (Iy x (f.get hid id) λd f2=>⟨_,rfl,i d (f.tt f2)⟩))⟩
theorem Ab{l:List It}{i:Nat}(d:(l.map It.num).Pairwise (· < ·))(H:l[i]? =some x):l.Perm (x::gD.qX l (x.num:Int)):=by
 rw[<-gD.qY d H];unfold gD.Bq;obtain⟨a,c⟩:=aB.1 H;have e:l=l.take i++x::l.drop (i+1):=by rw[<-c,<-da a,List.take_append_drop]
 exact(List.Perm.of_eq e).trans List.perm_middle
theorem wI(H:Pt h s X I σ)(G:Good σ k)(g':k<=30000)(hk: ∀h' z,Pt h' s z I (CB σ num owner)->bN X h z h'->R (.I (gD.mS σ.B num owner)) h'):Cl 102 #[pt s,.I num,.I owner] h R:=by
 refine uw.walk (cI ?_);have f1:Fr No h (h.push (.cells #[.I num] 3)):=Fr.push _ _;have M:gD.Aa (h.push (.cells #[.I num] 3)) h.size num:=bV;generalize h.push (.cells #[.I num] 3)=h1 at f1 M⊢;have q:=H.on f1;obtain⟨Z0,e'⟩:=q.box;obtain⟨L,ok⟩:=H.okB;refine fO q.cX ⟨_,rfl,?_⟩;rw[dz];refine⟨_,aq q.cX,gD.rD e' λh2 p2 l2 C L2 f2=>⟨_,_,_,rfl,?_⟩⟩;have v:=q.on f2;have N:=f2.get M id;obtain⟨xs,D,rfl,U,A,i',hD,Q⟩:=L2;obtain⟨Z,hz,zm,zd,go⟩:=v.use 3;refine⟨_,aq v.cX,_,aq N,gD.wI hz (bR G.b) λF Z3 B3 S=>⟨_,rfl,?_⟩⟩;obtain⟨E,H3,Y,_,_⟩:=go F Z3 { σ with B:=gD.mT σ.B num owner } B3 S (λi P=>HM _ P);have z1:=f1.1;have z2:=f2.1;have zl: ∀y,Z.M y->y<h.size:=λy j=>H.lt y (.inl (zm y j))
 have ln:xs.length=σ.B.items.length:=by rw[<-A,aA]
 have b':gD.Aa F h.size num:=S.fr.get N (λo=>bR (zl _ o));have T:=U.frame S.fr (λy j o=>gv (zl y o) (Q y j));have le:=ok.le;refine qW T.iJ rfl ae b' λK f4=> ?_
 have st:=bN.no (f1.tt f2) (Y.on f4);have d:=H3.on f4;have O:=T.frame f4 cb;rw[A];refine⟨_,rfl,aI.of λf' c=> ?_⟩;cases r:gD.yf σ.B.items num with
 |none=>
  have e:gD.mS σ.B num owner=4:=by unfold gD.mS;rw[r]
  have es:gD.mT σ.B num owner=σ.B:=af (by rw[e];decide);unfold CB at hk;rw[e,es,<-G.q]at hk;rw[e]at c⊢;rw[dz];subst c;refine aI.of λJ m=> ?_
  rw[dz];subst m;rw[es]at d;exact hk K E d st
 |some i=>
  obtain⟨x,f,c'⟩:=gD.Ac r;have ev:gD.qV σ.B.items num=(i:Int):=by unfold gD.qV;rw[r]
  rw[ev]at c⊢;have e:gD.mS σ.B num owner=if x.owner=owner then 0 else 13:=by unfold gD.mS;rw[r];dsimp only;rw[f]
  by_cases t:x.owner=owner
  .rw[ah t]at e;have es:gD.mT σ.B num owner= { σ.B with items:=gD.qX σ.B.items num,qc:=σ.B.qc+1 } :=ah e;unfold CB at hk;rw[e]at hk;rw[e]at c⊢;rw[gh,aw ae];subst c;refine aI.of λJ m=> ?_
   rw[ah rfl];have P:=(aB.1 f).1;have u:xs[i]? =some xs[i]:=aj ae;have d':xs[i].abs=x:=by
    rw[<-A,aF,u]at f;exact bp f
   obtain⟨V,W,rfl⟩:=O.addr ae;have hh:=O.fI gZ u;have C: ∀g,dM (((AA V W):Addr).add (i*4)) (gw xs[i]) 0 g->aX g ((((AA V W):Addr).add (Int.toNat (i:Int)*4)).add 2)=some xs[i].v.val:=λg hg=>by
    rw[aC];exact hg.2.2.1
   refine⟨_,aq d.cX,ae,az.2 ⟨_,_,_,C _ hh,?_⟩⟩;have vl:xs[i].v.b=x.d:=by rw[<-d'];rfl
   rw[vl];refine d.UB (x:=x) (l:=gD.qX σ.B.items num) (by show σ.Q.Perm _;rw[G.q,<-c'];exact Ab ok.inc f) (show sS σ.Q from G.ok) (NV ok (aJ f)) rfl t.symm λh5 X5 w a'=>⟨_,rfl,?_,?_⟩
   .have o5:=O.frame a'.fr (λy j o=>by
     rcases Y.jD y o with a|a
     .have:=H.lt y (.inl a);have:=Q y j;omega
     .have:=U.dw j;omega)
    rw[<-vl];exact C _ (o5.fI gZ u)
   .subst m;refine hk h5 X5 ?_ (st.trans a');rw[es]at w⊢;exact w
  .rw[af t]at e;have es:gD.mT σ.B num owner=σ.B:=af (by rw[e];decide);unfold CB at hk;rw[e,es,<-G.q]at hk;rw[e]at c⊢;rw[dz];subst c;refine aI.of λJ m=> ?_
   rw[dz];subst m;rw[es]at d;exact hk K E d st

end eN
end
section
variable {h:ak} {R:fG}
variable {S:bZ} {s c:Nat}
theorem j9.walk(e:if S.isNone then R (.Z) h else aT h (.cells #[] 262) λb H=>aU Tryz.prog (Builtin.append_ #[260,260] 260 #[.slice (Sa b 0) 0 0,.slice S s c]) H λv d=> ∃a T t,v=.slice a T t/\R (.slice a T t) d):Cl 295 #[.slice S s c] h R:=aR (lq (sq (lq (cq ll lf)) ll)) Tryz.func295 e
theorem jk.WU.walk(a:Cl 294 #[.slice S s c,.func (.func 256) #[] #[]] h λv H=> ∃t7,v=.I t7/\R (.bool (decide (t7≥0))) H):Cl 258 #[.slice S s c,.func (.func 256) #[] #[]] h R:=aR (lq ll) Tryz.func258 a
theorem jG.WU.walk(d: ∃(I:Int->ak->Prop)(m:Int->ak->Nat),I 0 h/\∀(t8:Int)(H:ak),I t8 H->if(decide (t8<(s:Int)))then Bd t8 s/\aO S λa=>aa.cW H (a.add (toNat t8*4)) λt15=>Cl 256 #[t15.agg] H λv b=> ∃t16,v=.bool t16/\if t16 then R (.I t8) b else(I (wrap .i64 (t8+1)) b/\m (wrap .i64 (t8+1)) b<m t8 H)else R (.I (-1)) H):Cl 294 #[.slice S s c,.func (.func 256) #[] #[]] h R:=aR (lq (sq (lq (bq (.loop [(8,.one (.int .i64))] (lq (sq (cq lf lf) (sq (bq (lq (lq (cq ll lf)))) lf)))))) ll)) Tryz.func294 d
theorem j0.within.walk(a:Cl 292 #[.slice S s c,.func (.func 251) #[] #[]] h λv H=> ∃t7,v=.I t7/\R (.bool (decide (t7≥0))) H):Cl 250 #[.slice S s c,.func (.func 251) #[] #[]] h R:=aR (lq ll) Tryz.func250 a
theorem kN.within.walk(d: ∃(I:Int->ak->Prop)(m:Int->ak->Nat),I 0 h/\∀(t8:Int)(H:ak),I t8 H->if(decide (t8<(s:Int)))then Bd t8 s/\aO S λa=>ia H (a.add (toNat t8*1)) λt15=>Cl 251 #[.U t15] H λv b=> ∃t16,v=.bool t16/\if t16 then R (.I t8) b else(I (wrap .i64 (t8+1)) b/\m (wrap .i64 (t8+1)) b<m t8 H)else R (.I (-1)) H):Cl 292 #[.slice S s c,.func (.func 251) #[] #[]] h R:=aR (lq (sq (lq (bq (.loop [(8,.one (.int .i64))] (lq (sq (cq lf lf) (sq (bq (lq (lq (cq ll lf)))) lf)))))) ll)) Tryz.func292 d

end
end Go.Proofs.YtlenamcfacpheaaGreatDoor
