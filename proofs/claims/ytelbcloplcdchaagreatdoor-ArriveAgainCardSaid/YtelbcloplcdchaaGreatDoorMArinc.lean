/-
  IF is proved here: parts of zp proof, one behind zp other (texts of this work, merged by a program; JW zp theorem JX not use is left out). No condition.
-/
import Derived.Test.YtelbcloplcdchaaGreatDoorMArinb
set_option linter.defProp false
set_option maxRecDepth 100000
set_option maxHeartbeats 4000000
namespace Go.Proofs.YtelbcloplcdchaaGreatDoor
open Go.Den
open IntKind (wrap)
open Int (toNat)
section
variable {h:aA} {R:fp}
variable {i c f:bZ} {g B b a e d:Nat} {x X:Int}
def GF{n:Int}(l:aW h (.C #[.I 0,.U 0,.Z,.Z] 201) λj k=>aa.ST k (AA j 0) 0 n none 0 0 none 0 0 λH=>aa.LD H (AA j 0) λr m q p o u t s=>R (.agg #[.I r,.U m,.L q p o,.L u t s]) H):Cl 144 #[.U n] h R:=aP [] l
def Da(m:aW h (.C #[.I 0,.U 0,.Z,.Z] 201) λj k=>Cl 57 #[.L i g B] k λv l=>Vl v λy w T=>aa.ST l (AA j 0) 2 0 y w T none 0 0 λH=>aa.LD H (AA j 0) λr n q p o u t s=>R (.agg #[.I r,.U n,.L q p o,.L u t s]) H):Cl 149 #[.L i g B] h R:=aP [] m
def EK{s:cF}(m:aW h (.C #[.I 0,.U 0,.Z,.Z] 201) λj k=>jE (convert 9 32 (.S s)) k λv l=>Vl v λz y T=>aa.ST l (AA j 0) 3 0 z y T none 0 0 λH=>aa.LD H (AA j 0) λr n q p o w u t=>R (.agg #[.I r,.U n,.L q p o,.L w u t]) H):Cl 211 #[.S s] h R:=aP [] m
def Bh(hv:aW h (.C #[.I x,.U X,.L c b a,.L f e d] 201) λj Z=>aW Z (.C #[.I 0,.U 0,.Z,.Z] 201) λo u=>Hl u j 2 λO' M' L'=>Cl 57 #[.L O' M' L'] u λP' b'=> ∃S Q P,P'=.L S Q P/\aO b' (AA j 2) (.L S Q P) λv=> ∃y T m',Cc v j 3 (.L y T m')/\aO v (AA j 3) (.Z) λc'=> ∃(I:kj)(M:kG),I 0 c'/\∀t H,I t H->ite (decide (t<((T:Nat):Int))) (Bd t T/\aH y λU=>aa.LD H (U.add (toNat t*4)) λn' o' r' q' p' u' t' s'=>aW H (.C #[.I 0,.U 0,.Z,.Z] 201) λp d'=>aa.ST d' (AA p 0) n' o' r' q' p' u' t' s' λk=>Hl k j 3 λn m l=>aa.LD k (AA p 0) λv' w' z' y' x' C' B' A'=>Cl 286 #[.agg #[.I v',.U w',.L z' y' x',.L C' B' A']] k λQ' w=> ∃z A E D C J G F,Q'=.agg #[.I z,.U A,.L E D C,.L J G F]/\Cc w j 3 (.L n m l)/\aW w (.C #[.I z,.U A,.L E D C,.L J G F] 201) λV q=>Cc q j 3 (.L n m l)/\jE (Builtin.append_ #[199,199] 199 #[.L n m l,.L (Sa V 0) 1 1]) q λR' a'=> ∃O L K,R'=.L O L K/\aO a' (AA j 3) (.L O L K) λr=>(I (wrap .i64 (t+1)) r/\M (wrap .i64 (t+1)) r<M t H)) (aa.LD H (AA j 0) λD' E' H' G' F' K' J' I'=>aa.ST H (AA o 0) D' E' H' G' F' K' J' I' λs=>aa.LD s (AA o 0) λe' f' i' h' g' l' k' j'=>R (.agg #[.I e',.U f',.L i' h' g',.L l' k' j']) s)):Cl 286 #[.agg #[.I x,.U X,.L c b a,.L f e d]] h R:=aP [(12,.loop [(15,sI)]),(23,λ_=>pN 8)] hv
def EL{L:bZ}{l a':Nat}(Z:aW h (.C #[.I 0,.U 0,.Z,.Z] 201) λo P=>aW P (.C #[.I 0,.U 0,.Z,.Z] 201) λj Q=>aa.ST Q (AA j 0) 4 0 none 0 0 none 0 0 λS=> ∃(I:kj)(M:kG),I 0 S/\∀t H,I t H->ite (decide (t<(l:Int))) (Bd t l/\aH L λK=>aa.LD H (K.add (toNat t*4)) λj' k' n' m' l' q' p' o'=>aW H (.C #[.I 0,.U 0,.Z,.Z] 201) λp U=>aa.ST U (AA p 0) j' k' n' m' l' q' p' o' λk=>Hl k j 3 λn m T=>aa.LD k (AA p 0) λr' s' v' u' t' y' x' w'=>Cl 286 #[.agg #[.I r',.U s',.L v' u' t',.L y' x' w']] k λH' s=> ∃v w A z y E D C,H'=.agg #[.I v,.U w,.L A z y,.L E D C]/\Cc s j 3 (.L n m T)/\aW s (.C #[.I v,.U w,.L A z y,.L E D C] 201) λO u=>Cc u j 3 (.L n m T)/\jE (Builtin.append_ #[199,199] 199 #[.L n m T,.L (Sa O 0) 1 1]) u λI' V=> ∃J G F,I'=.L J G F/\aO V (AA j 3) (.L J G F) λq=>(I (wrap .i64 (t+1)) q/\M (wrap .i64 (t+1)) q<M t H)) (aa.LD H (AA j 0) λz' A' D' C' B' G' F' E'=>aa.ST H (AA o 0) z' A' D' C' B' G' F' E' λr=>aa.LD r (AA o 0) λb' c' f' e' d' i' h' g'=>R (.agg #[.I b',.U c',.L f' e' d',.L i' h' g']) r)):Cl 210 #[.L L l a'] h R:=aP [(8,.loop [(9,sI)]),(19,λ_=>pN 8)] Z
def qY{k:bZ}{j A:Nat}(H: ∃(t:cF),pV Tryz.prog 32 9 (.L k j A) h t/\∃(T:cF),pV Tryz.prog 32 9 (.L i g B) h T/\R (.B (t.toList==T.toList)) h):Cl 35 #[.L k j A,.L i g B] h R:=aP [] H
def EM{A:Int}{m:Int}{p:bZ}{o n:Nat}{s:bZ}{r q:Nat}{t:Int}{j:Int}{w:bZ}{v u:Nat}{C:bZ}{z y:Nat}(J:aW h (.C #[.I A,.U m,.L p o n,.L s r q] 201) λk G=>aW G (.C #[.I t,.U j,.L w v u,.L C z y] 201) λj H=>Hi H k 0 λt6=> ∃F,Cc H j 0 (.I F)/\ite (t6==F) (Hu H k 1 λK=> ∃T,Cc H j 1 (.U T)/\ite (K==T) (Hl H k 2 λO M L=>Hl H j 2 λS Q P=>Cl 35 #[.L O M L,.L S Q P] H λd' l=> ∃D,d'=.B D/\ite D (Hl l k 3 λZ V U=>Hl l j 3 λc' b' a'=>Cl 327 #[.L Z V U,.L c' b' a',.func (.func 278) #[] #[]] l λe' I=> ∃E,e'=.B E/\R (.B E) I) (R (.B false) l)) (R (.B false) H)) (R (.B false) H)):Cl 278 #[.agg #[.I A,.U m,.L p o n,.L s r q],.agg #[.I t,.U j,.L w v u,.L C z y]] h R:=aP [] J
def gR{o:bZ}{s w:Nat}{p:bZ}{S y:Nat} (v:ite ((s:Int) !=(S:Int)) (R (.B false) h) (∃(I:kj)(M:kG),I 0 h/\∀t H,I t H->ite (decide (t<(s:Int))) (Bd t s/\aH o λA=>aa.LD H (A.add (toNat t*4)) λz C F E D K J G=>aW H (.C #[.I 0,.U 0,.Z,.Z] 201) λl r=>aa.ST r (AA l 0) z C F E D K J G λn=>Bd t S/\aH p λq=>aa.LD n (q.add (toNat t*4)) λL O U Q P a' Z V=>aW n (.C #[.I 0,.U 0,.Z,.Z] 201) λm u=>aa.ST u (AA m 0) L O U Q P a' Z V λj=>aa.LD j (AA l 0) λb' c' f' e' d' i' h' g'=>aa.LD j (AA m 0) λj' k' n' m' l' q' p' o'=>Cl 278 #[.agg #[.I b',.U c',.L f' e' d',.L i' h' g'],.agg #[.I j',.U k',.L n' m' l',.L q' p' o']] j λr' k=> ∃T,r'=.B T/\ite (!T) (R (.B false) k) ((I (wrap .i64 (t+1)) k/\M (wrap .i64 (t+1)) k<M t H))) (R (.B true) H))):Cl 327 #[.L o s w,.L p S y,.func (.func 278) #[] #[]] h R:=aP [(14,.loop [(17,sI)])] v
def GG (u:aW h (.C #[.I x,.U X,.L c b a,.L f e d] 201) λj H=> ∃t,Cc H j 0 (.I t)/\ite (t==0) (∃L r K,Cc H j 2 (.L L r K)/\ite (((r:Nat):Int)==0) (∃y T w,Cc H j 3 (.L y T w)/\R (.B (((T:Nat):Int)==0)) H) (R (.B false) H)) (ite (t==2) (∃k,Cc H j 1 (.U k)/\ite (k==0) (∃A l z,Cc H j 3 (.L A l z)/\R (.B (((l:Nat):Int)==0)) H) (R (.B false) H)) (ite (t==3) (∃m,Cc H j 1 (.U m)/\ite (m==0) (∃D n C,Cc H j 3 (.L D n C)/\ite (((n:Nat):Int)==0) (Hl H j 2 λG F E=>Cl 333 #[.L G F E] H λv s=> ∃o,v=.B o/\R (.B o) s) (R (.B false) H)) (R (.B false) H)) (ite (t==4) (∃p,Cc H j 1 (.U p)/\ite (p==0) (∃J q I,Cc H j 2 (.L J q I)/\R (.B (((q:Nat):Int)==0)) H) (R (.B false) H)) (R (.B false) H))))):Cl 292 #[.agg #[.I x,.U X,.L c b a,.L f e d]] h R:=aP [] u
def EN{D:Int}{left:Int} (v:aW h (.C #[.I x,.U X,.L c b a,.L f e d] 201) λn j=>aB (λ(L:Bool) k=>ite L (R (.I (-1)) k) (Hl k n 3 λO r _=> ∃(I:Int->kj)(M:Int->kG),I (wrap .i64 (left - 1)) 0 k/\∀l t H,I l t H->ite (decide (t<(r:Int))) (Bd t r/\aH O λA=>aa.LD H (A.add (toNat t*4)) λP Q V U S b' a' Z=>aW H (.C #[.I 0,.U 0,.Z,.Z] 201) λo s=>aa.ST s (AA o 0) P Q V U S b' a' Z λp=>aa.LD p (AA o 0) λc' d' g' f' e' j' i' h'=>Cl 216 #[.agg #[.I c',.U d',.L g' f' e',.L j' i' h'],.I (wrap .i64 (D+1)),.I l] p λk' m=> ∃T,k'=.I T/\ite (decide (T<0)) (R (.I (-1)) m) ((I T (wrap .i64 (t+1)) m/\M T (wrap .i64 (t+1)) m<M l t H))) (R (.I l) H))) (λJ=>ite (decide (D>6)) (J true j) (ite (decide (left<1)) (J true j) (aa.LD j (AA n 0) λw y E C z K G F=>Cl 292 #[.agg #[.I w,.U y,.L E C z,.L K G F]] j λl' u=> ∃q,l'=.B q/\J (!q) u)))):Cl 216 #[.agg #[.I x,.U X,.L c b a,.L f e d],.I D,.I left] h R:=aP [(4,.join [(19,sB)]),(16,.loop [(2,sI),(25,sI)])] v
def Db(l:aW h (.C #[.I x,.U X,.L c b a,.L f e d] 201) λj H=>aa.LD H (AA j 0) λT m p o n s r q=>Cl 216 #[.agg #[.I T,.U m,.L p o n,.L s r q],.I 1,.I 256] H λv k=> ∃t,v=.I t/\R (.B (decide (t≥0))) k):Cl 146 #[.agg #[.I x,.U X,.L c b a,.L f e d]] h R:=aP [] l
def GH{F:bZ}{E D:Nat} (hv:aW h (.C #[.I x,.U X,.L c b a,.L f e d] 201) λj l=>Hu l j 1 λi'=>Hi l j 0 λT=>aB (λ(f':Int) v=>Hi v j 0 λo'=>Cl 217 #[.agg #[.I o',.U f',.B false]] v λO' w=> ∃Q P L p',O'=.T #[.L Q P L,.I p']/\Hl w j 2 λV U S=>jE (Builtin.append_ #[32,32] 32 #[.L F E D,.L Q P L]) w λP' y=>Vl P' λs' r' q'=>Cc y j 2 (.L V U S)/\jE (Builtin.append_ #[32,32] 32 #[.L s' r' q',.L V U S]) y λQ' z=>Vl Q' λv' u' t'=>Hl z j 3 λw' Z _=> ∃(I:bZ->Nat->Nat->kj)(M:bZ->Nat->Nat->kG),I v' u' t' 0 z/\∀m O o t k,I m O o t k->ite (decide (t<(Z:Int))) (Bd t Z/\aH w' λb'=>aa.LD k (b'.add (toNat t*4)) λx' y' B' A' z' E' D' C'=>aW k (.C #[.I 0,.U 0,.Z,.Z] 201) λu e'=>aa.ST e' (AA u 0) x' y' B' A' z' E' D' C' λA=>aa.LD A (AA u 0) λF' G' J' I' H' M' L' K'=>Cl 147 #[.L m O o,.agg #[.I F',.U G',.L J' I' H',.L M' L' K']] A λR' C=> ∃q p n,R'=.L q p n/\(I q p n (wrap .i64 (t+1)) C/\M q p n (wrap .i64 (t+1)) C<M m O o t k)) (R (.L m O o) k)) (λa'=>aB (λ(j':Bool) H=>aB (λ(g':Int) c'=>a' g' c') (λr=>ite j' (∃l' G k',Cc H j 2 (.L l' G k')/\r (wrap .u64 ((G:Nat):Int)) H) (aB (λ(h':Int) d'=>r h' d') (λs=>ite (T==4) (∃n' K m',Cc H j 3 (.L n' K m')/\s (wrap .u64 ((K:Nat):Int)) H) (s i' H))))) (λJ=>ite (T==2) (J (T==2) l) (J (T==3) l)))):Cl 147 #[.L F E D,.agg #[.I x,.U X,.L c b a,.L f e d]] h R:=aP [(7,.join [(5,sU)]),(11,.join [(14,sB)]),(14,.join [(5,sU)]),(18,.join [(5,sU)]),(24,λ_=> .ni (lO [0,1,3,4,2,5,6] .done)),(29,.loop [(0,sS),(44,sI)])] hv
def Dc(o:aW h (.C #[.I x,.U X,.L c b a,.L f e d] 201) λj k=>aa.LD k (AA j 0) λp q u s r z y w=>Cl 146 #[.agg #[.I p,.U q,.L u s r,.L z y w]] k λv H=> ∃t,v=.B t/\ite (!t) (R (.T #[.Z,.I 3]) H) (aa.LD H (AA j 0) λA C F E D J I G=>Cl 147 #[.Z,.agg #[.I A,.U C,.L F E D,.L J I G]] H λV n=> ∃m l T,V=.L m l T/\R (.T #[.L m l T,.I 0]) n)):Cl 101 #[.agg #[.I x,.U X,.L c b a,.L f e d]] h R:=aP [] o

end
section
namespace Cb
variable {h H:aA} {R:fp} {p:bZ} {l c:Nat} {bs:cQ}
variable {D:Nat->Prop} {t:Tr} {x:CV} {G:aA} {b C:Nat} {k n:Int} {v:BV} {ts:List Tr} {ys:List CV} {q:bZ}
def xx(h:aA)(D:gF)(t:Tr)(x:CV):Prop:=(x.k=t.k/\x.n=t.n/\x.v.b=t.b/\x.v.ok h D)/\∃ys:List CV,x.ll=ys.length/\Own h x.q ys.length x.cl 4 (ys.flatMap kx)/\(∀y,aL x.q y->D y)/\eZ h (λy=>D y/\¬aL x.q y) t.l ys
def xx.Wp(e:xx h D t x):iD h D t x:=by
 have⟨f,ys,a,d,g,i⟩:=e;cases t with
 |mk k n B l=>exact⟨f,ys,⟨a,d.hT,λ_=>g,by rw[a];exact d.le⟩,eZ.mono (λ_ j=>j.1) i⟩
structure UW (G g:aA) (b:Nat) (k n:Int) (v:BV) (ts:List Tr) (ys:List CV) (q:bZ) (C:Nat):Prop where
 cN:aa.at g b k n v.p v.b.length v.c q ys.length C
 own:Own g q ys.length C 4 (ys.flatMap kx)
 ge: ∀y,aL q y->G.size<=y
 tr:eZ g (λy=>G.size<=y/\¬aL q y) ts ys
 fr:Fr (λy=>y=b) G g
theorem KR{g:aA}{y:CV}{Φ:dw}(L:UW G g b k n v ts ys q C)(F':b<G.size)(ll:ys.length<=100000000)(IH: ∀(r:aA)(R:fp),Fr No g r->(∀H z,xx H (λc=>r.size<=c) t z->Fr No r H->R z.agg H)->Cl 286 #[y.agg] r R)(hk: ∀J g' Q w,UW G J b k n v (ts++ [t]) g' Q w->g'.length=ys.length+1->Φ J):
  aW g (.C #[.I 0,.U 0,.Z,.Z] 201) λI o'=>
  aa.ST o' (AA I 0) y.k (y.n:Int) y.v.p y.v.b.length y.v.c y.q y.ll y.cl λB=>
  ∃(u:bZ)(s T:Nat),aU B (AA b 3)=some (.L u s T)/\
  aa.LD B (AA I 0) λt' u' x' w' v' A' z' y'=>
  Cl 286 #[.agg #[.I t',.U u',.L x' w' v',.L A' z' y']] B λB' O=>
  ∃(S U:Int)(Z:bZ)(X V:Nat)(c':bZ)(b' a':Nat),B'=.agg #[.I S,.U U,.L Z X V,.L c' b' a']/\
  aU O (AA b 3)=some (.L u s T)/\
  aW O (.C #[.I S,.U U,.L Z X V,.L c' b' a'] 201) λi' M=>
  aU M (AA b 3)=some (.L u s T)/\
  bM Tryz.prog (Builtin.append_ #[199,199] 199 #[.L u s T,.L (Sa i' 0) 1 1]) M λC' m'=>
  ∃(f':bZ)(e' d':Nat),C'=.L f' e' d'/\
  aO m' (AA b 3) (.L f' e' d') λn'=>Φ n':=by
 have zg:=L.fr.1;refine aa.new λb2 h8 D' p' f=>⟨_,_,_,ai (f.get L.cN id),aa.ld p' (IH h8 _ f λh9 z tz o=>⟨_,_,_,_,_,_,_,_,rfl,ai ((f.tt o).get L.cN id),aa.box λb3 k' E' q' m=>⟨ai (((f.tt o).tt m).get L.cN id),?_⟩⟩)⟩;have j:=(f.tt o).tt m;have z8:=f.1;have z9:=o.1;have G':=m.1;have r':=L.own.frame j bC;have qg: ∀y,aL q y->y<g.size:=λy d=>L.own.dk d;refine dI tI uI r' (ds:=kx z) (.inr ⟨_,rfl,aa.held q'⟩) rfl (qX z) ae ae λQ w l' s' _ F j'=>⟨_,_,_,rfl,?_⟩;have H':=F.1;have h':=F.get (j.get L.cN id) (λd=>bN (L.ge _ d));refine bf h' (by show 3<4;omega) λK d1 d2 d3=> ?_;have A:Fr (λy=>y=b) l' K:=Fr.of_eq d2 (λc hc=>d3 c hc);have P: ∀y,aL Q y->G.size<=y:=λy d=>by rcases j' y d with a|a;exact L.ge y a;omega
 have ef:ys.flatMap kx++kx z=(ys++ [z]).flatMap kx:=bt
 refine hk K (ys++ [z]) Q w ⟨?_,?_,P,?_,?_⟩ bt;rw[aq];exact d1;rw[aq,<-ef];exact s'.frame A (λy d e=>bN (P y d));have t1:=(eZ.on L.tr.lt j).frame F (λy d i=>d.1.2 i);have E:=iD.mono (D':=λy=>g.size<=y/\y<k'.size) (λy d=>ae) (tz.Wp.lt.on m);have E:=iD.frame F (λy d i=>bN (qg y i)) E;have m1:=eZ.mono (D':=λy=>G.size<=y/\¬aL Q y) (λy d=>⟨d.1.1,λi=>by grind⟩) t1;have m2:=iD.mono (D':=λy=>G.size<=y/\¬aL Q y) (λy d=>⟨ae,λi=>by grind⟩) E;exact eZ.frame A (λy d e=>ae) (m1.snoc m2);exact((L.fr.on j).trans F (S'':=λy=>y=b) bC (λx hx d=>bN (L.ge x d))).trans A bC bC
def fT{n:Nat}(e: iG h R (CV.agg ⟨0,n,⟨none,0, []⟩,none,0,0⟩)):Cl 144 #[.U (n:Int)] h R:=
 GF (aa.new λ_ a _ d f=>aa.ld d (e a f))
def VJ{n:Nat}:xx h D (num n) ⟨0,n,⟨none,0, []⟩,none,0,0⟩:=
 ⟨⟨rfl,rfl,rfl,⟨Row.nil,λe=>absurd rfl e,bu _⟩⟩, [],rfl,.nil rfl rfl rfl rfl,(λy ⟨a,e,_⟩=>by cases e),by trivial⟩
theorem je(A:Row h p (bc bs))(z:l=bs.length)(K:bs.length<=1000000)(w: ∀H (v:BV),v.b=bs->v.ok H (λy=>h.size<=y)->Fr No h H->R (CV.agg ⟨2,0,v,none,0,0⟩) H):Cl 149 #[.L p l c] h R:=by refine Da (aa.box λB I E d f=>gg.hY (A.frame f bC) z ae λP i J O F r=>⟨_,_,_,rfl,aa.set (F.get d id) λs j m o=>aa.ld j ?_⟩);have Z:=f.1;have a:=Fr.of_eq m (λc u=>o c u);refine w s ⟨P,i,bs⟩ rfl (BV.jK (O.frame a (λy g e=>gM (r y g) (aD d))) (λy g=>by grind)) ((f.tt F).fresh a (λy e=>ae))
theorem oK{l:List Tr}(h:t∈l):room t<=dS l:=by
 induction l with
 |nil=>cases h
 |cons u l i=>simp only[dS];rcases bG.1 h with rfl|h;omega;grind
def UW.zero(d:aa.at G b k n v.p v.b.length v.c none 0 0):UW G G b k n v [] [] none 0:=
 ⟨d,.nil rfl rfl rfl rfl,(λy ⟨a,e,_⟩=>by cases e),by trivial,Fr.refl _ _⟩
theorem EO: ∀(w:Nat)(t:Tr),deep t<=w->room t<=100000000->∀(h:aA)(D:gF)(x:CV)(R:fp),iD h D t x->(∀H z,xx H (λy=>h.size<=y) t z->Fr No h H->R z.agg H)->Cl 286 #[x.agg] h R
 |0,.mk k n a' l,J,_,_,_,_,_,_,_=>by simp only[deep]at J;omega
 |w+1,.mk k n a' l,J,h',h,D,x,R,tx,hk=>by simp only[deep]at J;simp only[room]at h';obtain⟨⟨rfl,rfl,rfl,i'⟩,ys,u,T⟩:=tx;have lt:=T.len;have l9:=iZ l;have e0:=u.len;refine Bh (aa.box λb h1 m' I E=>aa.box λb1 h2 l' M F=>⟨_,_,_,ai (F.get I id),gg.hY ((i'.row.frame E bC).frame F bC) rfl ae λP A h3 o3 o r=>⟨_,_,_,rfl,bf (o.get (F.get I id) id) bt λh4 B d2 d3=>⟨_,_,_,ai B,bf B bt λh5 e1 e2 e3=> ?_⟩⟩⟩);have p':=aD I;have o':=aD M;have z1:=E.1;have z2:=F.1;have z3:=o.1;have f:=Fr.of_eq d2 (λc j=>d3 c j);have d:=Fr.of_eq e2 (λc j=>e3 c j);have V:=E.tt (F.tt o);have X:=(V.fresh f (λy e=>ae)).fresh d (λy e=>ae);have e':=d.get (f.get (o.get M id) ae) ae;have o5:=(o3.frame f (λy a e=>bN (r y a))).frame d (λy a e=>bN (r y a));have C0:=UW.zero (v:=⟨P,A,x.v.b⟩) e1;refine⟨λt g=> ∃(i:Nat)(Z:List CV)(q:bZ)(C:Nat),t=(i)/\i<=ys.length/\UW h5 g b x.k (x.n) ⟨P,A,x.v.b⟩ (l.take i) Z q C/\Z.length=i,λt _=>ys.length - t.toNat,⟨0, [],none,0,rfl,bK _,by grind,rfl⟩,?_⟩;rintro _ g ⟨i,Z,q,C,rfl,hi,L,lz⟩;have s:=X.fresh L.fr (λy e=>ae);by_cases O:i<ys.length;rw[gH];have a:=au O;generalize ys[i]=y at a;have⟨t,Q,ty⟩:=T.get a;have U:=aG Q;have B:=xd U;have r1:=oK U;have⟨k',K⟩:=u.row.any iy;rw[K];have S:=u.row.frame s bC;rw[K]at S;refine⟨ae,ar.2 (aa.qq (by rw[aK];exact S.fa iy a) (KR L ae ae (λg1 R1 c' f'=>EO w t ae ae g1 D y R1 (ty.on (s.tt c')) f') λg' j' q' b' L' n'=> ?_))⟩;rw[fc];refine⟨⟨i+1,j',q',b',ae,ae,?_,ae⟩,by grind⟩;rw[aV,Q];exact L';rw[af (λe=>O (by grind))];rw[aX (show l.length<=i by omega)]at L;refine aa.ld L.cN (aa.set (L.fr.get e' ae) λd' k1 k2 k3=>aa.ld k1 ?_);have m:=Fr.of_eq k2 (λc j=>k3 c j);have og:=o5.frame L.fr (λy a e=>bN (r y a));refine hk d' ⟨x.k,x.n,⟨P,A,x.v.b⟩,q,Z.length,C⟩ ⟨⟨rfl,rfl,rfl,BV.jK (og.frame m (λy a e=>bN (r y a))) (λy a=>by grind)⟩,Z,rfl,L.own.frame m (λy a e=>zq (L.ge y a) f.1 d.1),(λy a=>zq (L.ge y a) f.1 d.1),?_⟩ (s.fresh m (λy e=>ae));exact eZ.mono (λy a=>⟨gM a.1 f.1,a.2⟩) (eZ.frame m (λy a e=>ae) L.tr)
def xe(T:iD h D t x)(d:room t<=100000000)(a: ∀H z,xx H (λy=>h.size<=y) t z->Fr No h H->R z.agg H):Cl 286 #[x.agg] h R:=
 EO (deep t) t (bu _) d h D x R T a
theorem lu(d:nV h D q l C ys)(T:eZ h D ts ys)(hr:dS ts<=100000000)(M: ∀H z,xx H (λy=>h.size<=y) (vG ts) z->Fr No h H->R z.agg H):Cl 210 #[.L q l C] h R:=by have lt:=T.len;have l9:=iZ ts;have e0:=d.len;refine EL (aa.box λb1 h1 c' m B=>aa.new λb J d' o j=> ?_);have h':=aD o;have f':=aD m;have C0:=UW.zero (v:=⟨none,0, []⟩) o;refine⟨λt g=> ∃(i:Nat)(Z:List CV)(q:bZ)(C:Nat),t=(i)/\i<=ys.length/\UW J g b 4 0 ⟨none,0, []⟩ (ts.take i) Z q C/\Z.length=i,λt _=>ys.length - t.toNat,⟨0, [],none,0,rfl,bK _,by grind,rfl⟩,?_⟩;rintro _ g ⟨i,Z,V,A,rfl,hi,L,lz⟩;have F:=(B.tt j).fresh L.fr (λy e=>ae);by_cases r:i<ys.length;rw[gH];have a:=au r;generalize ys[i]=y at a;have⟨t,s,X⟩:=T.get a;have r1:=oK (aG s);obtain⟨b',rfl⟩:=d.row.any iy;refine⟨ae,ar.2 (aa.qq (by exact(d.row.frame F bC).fa iy a) (KR L ae ae (λg1 R1 E O=>xe (X.on (F.tt E)) ae O) λg' a' U w u e'=> ?_))⟩;rw[fc];refine⟨⟨i+1,a',U,w,ae,ae,?_,ae⟩,by grind⟩;rw[aV,s];exact u;rw[af (λe=>r (by grind))];rw[aX (show ts.length<=i by omega)]at L;refine aa.ld L.cN (aa.set (L.fr.get (j.get m id) ae) λI P Q S=>aa.ld P ?_);have f:=Fr.of_eq Q (λc K=>S c K);refine M I ⟨4,0,⟨none,0, []⟩,V,Z.length,A⟩ ⟨⟨rfl,rfl,rfl,⟨Row.nil,λe=>absurd rfl e,bu _⟩⟩,Z,rfl,L.own.frame f (λy a e=>bN (L.ge y a)),(λy a=>bN (L.ge y a)),(eZ.mono (λy a=>⟨ae,a.2⟩) (eZ.frame f (λy a e=>ae) L.tr))⟩ (F.fresh f (λy e=>ae))

end Cb
end
section
namespace Cb
variable {V:cQ→Bool} {h H a:aA} {R:fp} {D:Nat→Prop}
variable {t:Tr} {x:CV}
theorem MD{c:Type}(b:List c):(((b.length:Int))==0)=b.isEmpty:=by
 cases b with
 |nil=>rfl
 |cons A b=>grind
theorem ME(U:mG V H)(u:Fr No H h)(T:iD h D t x)(v:room t<=1000000)(c: iG h R (.B (Q0 V t.k t.n t.b t.l))):Cl 292 #[x.agg] h R:=by
 cases t with
 |mk k n b l=>
  simp only[room]at v;unfold iD at T;obtain⟨⟨rfl,rfl,rfl,O⟩,y,L,r⟩:=T;have ll:x.ll=l.length:=by rw[L.len,r.len]
  have c: ∀a o,o=Q0 V x.k x.n x.v.b l->Fr No h a->R (.B o) a:=λa o e f=>by rw[e];exact c a f
  unfold Q0 at c;have q:((x.n:Int)==0)=decide (x.n=0):=by grind
  refine GG (aa.box λB i w d F=>⟨_,ai d,?_⟩);by_cases K:x.k=0;rw[ag (dH K)];simp only[K,bJ]at c;refine⟨_,_,_,ai d,?_⟩;rw[MD];by_cases e:x.v.b.isEmpty=true;rw[ag e];refine⟨_,_,_,ai d,c i _ ?_ F⟩;rw[ll,MD,e];rfl;grind;rw[af (dH K)];simp only[K,aY]at c;by_cases j:x.k=2;rw[ag (dH j)];simp only[j,bJ]at c;refine⟨_,ai d,?_⟩;rw[q];by_cases e:x.n=0;rw[ag (aC e)];refine⟨_,_,_,ai d,c i _ ?_ F⟩;rw[ll,MD,aC e];rfl;grind;rw[af (dH j)];simp only[j,aY]at c;by_cases m:x.k=3;rw[ag (dH m)];simp only[m,bJ]at c;refine⟨_,ai d,?_⟩;rw[q];by_cases e:x.n=0;rw[ag (aC e)];refine⟨_,_,_,ai d,?_⟩;rw[ll,MD];by_cases E:l.isEmpty=true;rw[ag E];exact⟨_,_,_,ai d,U i _ _ x.v.b _ (u.tt F) (O.row.frame F bC) ae O.cap λg s=>⟨_,rfl,c g _ (by grind) (F.tt s)⟩⟩;grind;rw[af (by rw[aT e];decide)];refine c i _ ?_ F;rw[aT e];rfl;rw[af (dH m)];simp only[m,aY]at c;by_cases p:x.k=4;rw[ag (dH p)];simp only[p,bJ]at c;refine⟨_,ai d,?_⟩;rw[q];by_cases e:x.n=0;rw[ag (aC e)];refine⟨_,_,_,ai d,c i _ ?_ F⟩;rw[MD,aC e];rfl;rw[af (by rw[aT e];decide)];refine c i _ ?_ F;rw[aT e];rfl;rw[af (dH p)];simp only[p,aY]at c;exact c i _ rfl F
theorem KS(U:mG V H): ∀(n:Nat)(t:Tr),deep t<=n->room t<=1000000->∀(h:aA)(D:gF)(x:CV)(d left:Int)(R:fp),Fr No H h->iD h D t x->0<=d->d<=7->left<=1000->
  (iG h R (.I (qb V t d left)))->Cl 216 #[x.agg,.I d,.I left] h R
 |0,.mk k e' b l,q,_,_,_,_,_,_,_,_,_,_,_,_,_=>by simp only[deep]at q;omega
 |n+1,.mk k e' b l,q,z,h,D,x,d,left,R,u,T,d0,d7,hl,j=>by
  have h':=T;simp only[deep]at q;have c':=z;simp only[room]at z;unfold iD at T;obtain⟨⟨rfl,rfl,rfl,n'⟩,y,L,r⟩:=T;have lt:=r.len;have l9:=iZ l;have e0:=L.len;refine EN (aa.box λbb s l' v f=>aB.of λJ hJ=> ?_);have B: ∀g,Fr No h g->qb V (.mk x.k x.n x.v.b l) d left= -1->J true g:=λg F c=>by grind
  by_cases C:d>6;rw[ag (aC C)];exact B s f (by unfold qb;rw[ag (.inl C)]);rw[af (λe=>C (bk e))];by_cases m:left<1;rw[ag (aC m)];exact B s f (by unfold qb;rw[ag (.inr m)]);rw[af (λe=>m (bk e))];have O: ¬(d>6\/left<1):=λe=>e.elim C m;unfold qb at j B;rw[af O]at j B;refine aa.ld v (ME U (u.tt f) (h'.on f) c' λX o=>⟨_,rfl,?_⟩);simp only[Tr.k,Tr.n,Tr.b,Tr.l];generalize Q0 V x.k x.n x.v.b l=f' at j B⊢;cases f' with
  |false=>exact B X (f.tt o) (by rw[dz])
  |true=>
   rw[ag rfl]at j;subst hJ;rw[dz];have b':=o.get v id;refine⟨_,_,_,ai b',?_⟩;rw[dJ (n:=left - 1) ae ae];refine⟨λlf t g=> ∃i:Nat,t=(i:Int)/\i<=y.length/\Fr No h g/\lf<=1000/\0<=lf/\oU V (l.drop i) (d+1) lf=oU V l (d+1) (left - 1),λ_ t _=>y.length - t.toNat,⟨0,rfl,bK _,f.tt o,ae,ae,rfl⟩,?_⟩;rintro lf _ g ⟨i,rfl,hi,F,d',m',c⟩;by_cases w:i<y.length
   .rw[gH];have⟨i',G⟩:=lP w;obtain⟨t,A,ty⟩:=r.get G;have K:=aG A;have dm:=xd K;have rm:=oK K;have P:l.drop i=t::l.drop (i+1):=by
     obtain⟨q1,q2⟩:=aJ.1 A;rw[cG q1,q2]
    rw[P]at c;obtain⟨j',E⟩:=L.row.any iy;rw[E];have I:=L.row.frame F bC;rw[E]at I;refine⟨ae,ar.2 (aa.qq (by rw[aK];exact I.fa iy G) (aa.new λb1 Z k' a' p=>aa.ld a' ?_))⟩;rw[dJ (n:=d+1) ae ae];refine KS U n t ae ae Z D i' (d+1) lf _ (u.tt (F.tt p)) (ty.on (F.tt p)) ae ae d' λh6 S=>⟨_,rfl,?_⟩;have M:=F.tt (p.tt S);have ql:=KE (V:=V) (t:=t) (d:=d+1) (left:=lf);conv at c=>lhs;unfold oU
    generalize qb V t (d+1) lf=g' at c ql⊢;by_cases Q:g'<0;grind;rw[af (λe=>Q (bk e)),dJ (n:=(i:Int)+1) ae ae];rw[af Q]at c;exact⟨⟨i+1,ae,ae,M,ae,ae,c⟩,by grind⟩
   rw[af (λe=>w (by grind))];rw[dW (show l.length<=i by omega)]at c;have:=j g F;rw[<-c]at this;unfold oU at this;exact this
def fD(U:mG V H)(u:Fr No H h)(T:iD h D t x)(g:room t<=1000000)(e: iG h R (.B (iQ V t))):Cl 146 #[x.agg] h R:=
 Db (aa.box λB b E d f=>aa.ld d (KS U (deep t) t (bu _) g b D x 1 256 _ (u.tt f) (T.on f) cW cW cW λc F=>⟨_,rfl,e c (f.tt F)⟩))

end Cb
end
section
namespace Cb
variable {h:aA} {R:fp} {D d:Nat→Prop}
theorem jg{p q:bZ}{n m c e:Nat}{a b:cQ}(r:Row h p (bc a))(i:Row h q (bc b))(g:n=a.length)(f:m=b.length)(H:R (.B (decide (a=b))) h):Cl 35 #[.L p n c,.L q m e] h R:=by
 refine qY ⟨_,gg.conv r g,_,gg.conv i f,?_⟩;rw[oS,oS];have:(a==b)=decide (a=b):=by grind
 rw[this];exact H
theorem KT: ∀(u:Nat)(t s:Tr),deep t<=u->room t<=100000000->∀(h:aA)(D d:gF)(x y:CV)(R:fp),iD h D t x->iD h d s y->(iG h R (.B (qO t s)))->Cl 278 #[x.agg,y.agg] h R
 |0,.mk k j' d' l,_,v,_,_,_,_,_,_,_,_,_,_=>by simp only[deep]at v;omega
 |u+1,.mk k j' d' l,.mk k' n' b' L,v,i',h,D,d,x,y,R,tx,ty,w=>by
  simp only[deep]at v;simp only[room]at i';unfold iD at tx ty;obtain⟨⟨rfl,rfl,rfl,l'⟩,X,p,T⟩:=tx;obtain⟨⟨rfl,rfl,rfl,m'⟩,o,r,G⟩:=ty;have lx:=T.len;have ly:=G.len;have l9:=iZ l;have ex:=p.len;have ey:=r.len;refine EM (aa.box λb1 h1 r' f' f1=>aa.box λb2 j s' n K=> ?_);have F:=f1.tt K;have m:=K.get f' id;have B: ∀g,Fr No h g->qO (.mk x.k x.n x.v.b l) (.mk y.k y.n y.v.b L)=false->R (.B false) g:=λg f e=>by have:=w g f;rw[e]at this;exact this
  refine⟨_,ai m,_,ai n,?_⟩;by_cases c:x.k=y.k
  case neg=>rw[af (dH c)];exact B j F (by unfold qO;rw[aT c];rfl)
  rw[ag (dH c)];refine⟨_,ai m,_,ai n,?_⟩;by_cases C:x.n=y.n
  case neg=>rw[af (λe=>C (bN (eq_of_beq e)))];exact B j F (by unfold qO;rw[aT C,Bool.and_false];rfl)
  rw[ag (by rw[C];simp)];refine⟨_,_,_,ai m,_,_,_,ai n,jg (l'.row.frame F bC) (m'.row.frame F bC) rfl rfl ⟨_,rfl,?_⟩⟩;by_cases b:x.v.b=y.v.b
  case neg=>rw[af (dH b)];exact B j F (by unfold qO;rw[aT b,Bool.and_false];rfl)
  rw[ag (dH b)];have e0:qO (.mk x.k x.n x.v.b l) (.mk y.k y.n y.v.b L)=xq l L:=by unfold qO;rw[aC c,aC C,aC b];simp
  rw[e0]at w;refine⟨_,_,_,ai m,_,_,_,ai n,?_⟩;rw[ex,ey];have done: ∀g,Fr No h g->∀q,q=xq l L->∃c':Bool,Value.bool q=.B c'/\R (.B c') g:=λg f q e=>⟨q,rfl,by rw[e];exact w g f⟩;refine gR ?_;by_cases cl:X.length=o.length
  case neg=>
   rw[ag (by simp only[fi,ne_eq];omega)];refine done j F false ?_;cases hq:xq l L with
   |false=>rfl
   |true=>exact absurd (bV List.length ((Et l L).1 hq)) ae
  rw[af (by simp only[fi,ne_eq];omega)];refine⟨λt g=> ∃i:Nat,t=(i:Int)/\i<=X.length/\Fr No h g/\xq l L=xq (l.drop i) (L.drop i),λt _=>X.length - t.toNat,⟨0,rfl,bK _,F,rfl⟩,?_⟩;rintro _ g ⟨i,rfl,hi,f,H⟩;by_cases S:i<X.length
  .rw[gH];have z:X[i]? =some X[i]:=au S;have A:o[i]? =some (o[i]' ae):=au _;generalize X[i]=o' at z;generalize o[i]' ae=p' at A;obtain⟨t,U,tu⟩:=T.get z;obtain⟨s,hs,tv⟩:=G.get A;have tm:=aG U;have dm:=xd tm;have rm:=oK tm;have ed:l.drop i=t::l.drop (i+1):=by
    obtain⟨Q,E⟩:=aJ.1 U;rw[cG Q,E]
   have e':L.drop i=s::L.drop (i+1):=by obtain⟨Q,E⟩:=aJ.1 hs;rw[cG Q,E]
   rw[ed,e']at H;have H:xq l L=(qO t s && xq (l.drop (i+1)) (L.drop (i+1))):=by rw[H];simp only[xq]
   obtain⟨q',I⟩:=p.row.any iy;obtain⟨a',J⟩:=r.row.any iy;rw[I,J];have V:=p.row;have Z:=r.row;rw[I]at V;rw[J]at Z;refine⟨ae,ar.2 (aa.qq (by rw[aK];exact(V.frame f bC).fa iy z) (aa.new λb3 h3 t' g' M=>⟨ae,ar.2 (aa.qq (by rw[aK];exact(Z.frame (f.tt M) bC).fa iy A) (aa.new λb4 h5 u' h' O=>aa.ld (O.get g' id) (aa.ld h' ?_)))⟩))⟩;have a:=f.tt (M.tt O);refine KT u t s ae ae h5 D d o' p' _ (tu.on a) (tv.on a) λh6 P=>⟨_,rfl,?_⟩;cases q:qO t s with
   |false=>rw[gH];exact done h6 (a.tt P) false (by rw[H,q];rfl)
   |true=>rw[dz,dJ (n:=(i:Int)+1) ae ae];exact⟨⟨i+1,ae,ae,a.tt P,by rw[H,q];rfl⟩,by grind⟩
  .rw[af (λe=>S (bN (bk e)))];rw[dW (show l.length<=i by omega),dW (show L.length<=i by omega)]at H;exact done g f true (by rw[H];simp only[xq])
def jv{t s:Tr}{x y:CV}(T:iD h D t x)(b:iD h d s y)(a:room t<=100000000)(H: iG h R (.B (qO t s))):Cl 278 #[x.agg,y.agg] h R:=
 KT (deep t) t s (bu _) a h D d x y R T b H

end Cb
end
section
namespace Cb
variable {h H:aA} {R:fp}
variable {m:Int} {n:Nat}
def Rk(n:Nat):IntKind.wrap .u8 (n:Int)=((UInt8.ofNat n).toNat:Int):=by
 have e:IntKind.wrap .u8 (n)=(n)%256:=by rfl
 rw[e,fU];omega
theorem Pa{n:Int}(a: iG h R (.B (decide (0<=m/\m<=7)))):Cl 293 #[.agg #[.I m,.U n,.B false]] h R:=by refine C6 (bB.box λb d e c f=>⟨_,ai c,?_⟩);have a:=a d f;refine⟨_,ai c,?_⟩;by_cases C:m≥0;rw[ag (aC C)];refine⟨_,ai c,?_⟩;rw[show decide (0<=m/\m<=7)=decide (m<=7) by grind]at a;exact a;grind
theorem HL(a:R (.I (KF n:Int)) h):Cl 295 #[.U (n:Int)] h R:=by
 have⟨z,b⟩: ∃z:Int,z=(n):=⟨_,rfl⟩;rw[<-b];refine Be ?_;unfold KF at a
 repeat' split
 all_goals simp_all
 grind;grind;grind;grind;grind
theorem TL(a:R (.int .u8 (C1 n:Int)) h):Cl 294 #[.U (n:Int)] h R:=by refine EH (HL ⟨_,rfl,?_⟩);unfold C1 at a;unfold KF;by_cases c:n<24;rw[ag c]at a⊢;rw[dz,dz,dz,dz,Rk,fU,Nat.mod_eq_of_lt ae];exact a;rw[af c]at a⊢;by_cases C:n<256;grind;rw[af C]at a⊢;by_cases b:n<65536;grind;rw[af b]at a⊢;by_cases d:n<4294967296;grind;rw[af d]at a⊢;exact a
def TM(n:Nat):C1 n<32:=by unfold C1;repeat (first|omega|split)
def VK: ∀(m:Fin 8)(z:Fin 32),IntKind.wrap .u8 ((BitVec.ofInt (IntKind.bits .u8) (IntKind.wrap .u8 ((IntKind.wrap .u8 (m.val:Int))*2 ^ min (Int.toNat 5) (IntKind.bits .u8)))|||BitVec.ofInt (IntKind.bits .u8) (z.val:Int)).toNat:Int)=((32*m.val+z.val:Nat):Int):=cW
theorem Rl(n k:Nat):Int.fdiv (n:Int) (2 ^ k)=((n/2 ^ k:Nat):Int):=by grind
theorem Pb(f: ∀H (p:bZ) (C:Nat) (e:Int),Row H p (bc (Q1 m n))->(Q1 m n).length<=C->Fr No h H->R (.T #[.slice p (Q1 m n).length C,.I e]) H):Cl 217 #[.agg #[.I m,.U (n:Int),.B false]] h R:=by
 refine C7 (bB.box λb Z X s r=>bB.ld s (Pa λc F=>⟨_,rfl,?_⟩));by_cases l:0<=m/\m<=7
 case neg=>
  rw[aT l,gH];have E:Q1 m n= []:=by unfold Q1;rw[af l]
  rw[E]at f;exact f c none 0 3 Row.nil bt (r.tt F)
 rw[aC l,dz];obtain⟨m,rfl⟩:=dE l.1;have d:=F.get s id;refine⟨_,ai d,?_⟩;rw[dz];refine⟨_,ai d,_,ai d,TL ⟨_,rfl,ai d,cg ?_⟩⟩;have D:=r.tt F;have I:=TM n;rw[VK ⟨m,ae⟩ ⟨C1 n,I⟩];rw[show(32*(⟨m,ae⟩:Fin 8).val+(⟨C1 n,I⟩:Fin 32).val)=32*m+C1 n from rfl];have K:((32*m+C1 n:Nat):Int)=((UInt8.ofNat (32*m+C1 n)).toNat:Int):=by simp;omega
 rw[K];have E:Q1 (m:Int) n=UInt8.ofNat (32*m+C1 n)::UQ (KF n) n:=by unfold Q1;rw[ag l,aK]
 rw[E]at f;generalize UInt8.ofNat (32*m+C1 n)=w at f⊢;have o:Fr No c (c.push (.C #[.int .u8 (w.toNat:Int)] 5)):=Fr.push _ _;have B:Own (c.push (.C #[.int .u8 (w.toNat:Int)] 5)) (Sa c.size 0) 1 1 1 (bc [w]):=.row c.size 0 #[.int .u8 (w.toNat:Int)] 5 rfl bR ae bt rfl (λj v x=>by
  cases j with
  |zero=>simpa[bc]using x
  |succ j=>simp[bc]at x)
 generalize c.push (.C #[.int .u8 (w.toNat:Int)] 5)=h5 at o B⊢;have z1:=r.1;have z2:=F.1;have zb:=aD s;refine⟨ai (o.get d id),_,ai (o.get d id),HL ⟨_,rfl,?_⟩⟩;have Q:=NI n;generalize KF n=k at f Q⊢;refine⟨λp S C t g=> ∃(i:Nat),t=(i:Int)/\i<=k/\S=1+i/\Own g p (1+i) C 1 (bc (w::(UQ k n).take i))/\(∀y,aL p y->c.size<=y)/\Fr No c g,λ_ _ _ t _=>k - t.toNat,⟨0,rfl,bK _,rfl,by rw[fN];exact B,(λy ⟨a,e,V⟩=>by grind),o⟩,?_⟩;rintro p _ C _ g ⟨i,rfl,hi,rfl,O,A,q⟩;by_cases u:i<k;rw[gH];refine⟨_,ai (q.get d id),?_⟩;rw[dJ (n:=(k:Int) - 1) ae ae,dJ (n:=(k:Int) - 1 - (i:Int)) ae ae,dJ (n:=8*((k:Int) - 1 - (i:Int))) ae ae,dz];have G:min (Int.toNat (8*((k:Int) - 1 - (i:Int)))) (IntKind.bits .u64)=8*(k - 1 - i):=by rw[show IntKind.bits .u64=64 from rfl];omega
 rw[G,Rl,Rk];refine iV gg.tU gg.uU O rfl (λv z=>by simp at z;rw[z];rfl) ae ae λp2 U h9 T L M=>⟨_,_,_,rfl,?_⟩;rw[dJ (n:=(i:Int)+1) ae ae];refine⟨⟨i+1,ae,ae,ae,?_,λy P=> ?_,q.fresh L A⟩,by grind⟩;have J:(UQ k n).take (i+1)=(UQ k n).take i++ [UInt8.ofNat (n/2 ^ (8*(k - 1 - i)))]:=by rw[aV];unfold UQ;rw[aN,List.getElem?_range u];rfl
 rw[J,<-dC,lQ];exact T;rcases M y P with a|a;exact A y a;have:=q.1;omega;rw[af (λe=>u (by grind))];obtain rfl:i=k:=ae
 rw[aX (by rw[DG];omega)]at O;have:=f g p C 0 O.hT (by rw[ba,DG,Nat.add_comm];exact O.le) (D.tt q);rw[ba,DG,Nat.add_comm]at this;exact this
def MF{l:List Tr}{i:Nat}{t:Tr}(a:l[i]? =some t):dS (l.take (i+1))=dS (l.take i)+room t:=by rw[aV,a,jr];simp[dS]
def qu(l:List Tr)(i:Nat):dS (l.take i)<=dS l:=by
 conv=>rhs;rw[<-fM i l]
 rw[jr];omega
theorem NP: ∀(A:Nat)(t:Tr),deep t<=A->∀(h:aA)(D:gF)(x:CV)(p:bZ)(l c:Nat)(a:cQ)(R:fp),l=a.length->a.length+room t<=20000000->Own h p a.length c 1 (bc a)->iD h D t x->(∀y,aL p y->¬D y)->
  (∀H P C,Own H P (a++enc t).length C 1 (bc (a++enc t))->Fr (λy=>aL p y) h H->(∀y,aL P y->aL p y\/h.size<=y)->R (.slice P (a++enc t).length C) H)->Cl 147 #[.L p l c,x.agg] h R
 |0,.mk k n f' l,I,_,_,_,_,_,_,_,_,_,_,_,_,_,_=>by simp only[deep]at I;omega
 |A+1,.mk k n f' l,I,h,D,x,p,_,c,a,R,rfl,ha,ow,T,s,hk=>by
  simp only[deep]at I;simp only[room]at ha;unfold enc at hk;have T:=T.lt;unfold iD at T;obtain⟨⟨rfl,rfl,rfl,b'⟩,u,L,U⟩:=T;have lt:=U.len;have l9:=iZ l;have e0:=L.len;refine GH (aa.box λbb h1 t' d Z=>⟨_,ai d,_,ai d,aB.of λe' hJ=> ?_⟩);have u':=aD d;have z1:=Z.1;have O: ∀y,aL p y->y<h.size:=λy b=>ow.dk b;have done:e' (CJ x.k x.n x.v.b l:Int) h1:=by
   subst hJ;refine⟨_,ai d,Pb λh3 q3 c3 e3 c' g' f=>⟨_,_,_,_,rfl,_,_,_,ai (f.get d id),?_⟩⟩;have o':=NJ x.k (CJ x.k x.n x.v.b l);generalize Q1 x.k (CJ x.k x.n x.v.b l)=B at c' g' o' hk⊢;have z3:=f.1;have v:=Z.tt f;refine dI gg.tU gg.uU (ow.frame v bC) c' (by rw[ks,cC]) (vA B) ae ae λp4 c4 h4 o4 _ F g4=>⟨_,_,_,rfl,ai (F.get (f.get d id) (λb=>bN (O _ b))),?_⟩;have z4:=F.1;have n4: ∀y,aL p4 y->aL p y\/h3.size<=y:=g4;have q':Row h4 x.v.p (bc x.v.b):=by by_cases e:x.v.b= [];rw[e];exact Row.nil;exact((b'.row.frame v bC).frame F (λV E b=>s _ b (b'.own e _ ⟨V,E,rfl⟩).1))
   refine dI gg.tU gg.uU o4 q' (by rw[ks,cC]) (vA x.v.b) ae ae λp5 c5 h5 Q _ G g5=> ?_;have p': ¬aL p4 bb:=λb=>by rcases n4 _ b with q|q;have:=O _ q;omega;omega
   have k':=G.get (F.get (f.get d id) (λb=>bN (O _ b))) p';refine⟨_,_,_,rfl,_,_,_,ai k',?_⟩;have z5:=G.1;rw[<-lQ,<-lQ,cu]at Q;have Fp:Fr (λy=>aL p y) h h5:=(Fr.no v F).trans G bC (λy b q=>by rcases n4 y q with q|q;exact q;omega);have n5: ∀y,aL p5 y->aL p y\/h.size<=y:=λy b=>by grind
   have el:a.length+B.length+x.v.b.length=(a++(B++x.v.b)).length:=by simp only[aq];omega
   rw[el]at Q⊢;refine⟨λP l' C t g=> ∃(i:Nat)(w:cQ),t=(i:Int)/\i<=u.length/\l'=(a++w).length/\Own g P (a++w).length C 1 (bc (a++w))/\w=B++x.v.b++C2 (l.take i)/\Fr (λy=>aL p y) h g/\∀y,aL P y->aL p y\/h.size<=y,λ_ _ _ t _=>u.length - t.toNat,
    ⟨0,B++x.v.b,rfl,bK _,rfl,Q,by rw[fN];simp[C2],Fp,n5⟩,?_⟩
   rintro P _ C _ g ⟨i,w,rfl,hi,rfl,og,X,r,ng⟩;have rl:=qu l i;have lw:w.length<=9+x.v.b.length+dS (l.take i):=by rw[X,aq,aq];have:=Eu (l.take i);omega
   by_cases J:i<u.length;rw[gH];have⟨y,b⟩:=lP J;obtain⟨t,K,ty⟩:=U.get b;have tm:=aG K;have dm:=xd tm;have rm:=oK tm;have rt:=MF K;have m':u≠ []:=by intro e;rw[e]at J;simp at J
   obtain⟨V,E⟩:=L.row.any iy;have d':=L.row.frame r (λa2 e2 n'=>s _ n' (L.own m' _ ⟨a2,e2,rfl⟩).1);rw[E]at d'⊢;refine⟨ae,ar.2 (aa.qq (by rw[aK];exact d'.fa iy b) (aa.new λb1 h8 s' j' o=>aa.ld j' ?_))⟩;have r':iD h8 (λy=>D y/\y<h.size) t y:=(iD.frame r (λz j M=>s z M j.1) ty).on o;have zg:=r.1;have z8:=o.1;refine NP A t ae h8 (λy=>D y/\y<h.size) y P _ C (a++w) _ rfl (by rw[aq];have:=qu l (i+1);omega) (og.frame o bC) r' (λz j M=>by rcases ng z j with q|q;exact s z q M.1;omega) λh9 p9 c9 o9 f9 n9=>⟨_,_,_,rfl,?_⟩;rw[dJ (n:=(i:Int)+1) ae ae];rw[cu]at o9⊢;refine⟨⟨i+1,w++enc t,ae,ae,rfl,o9,by rw[aV,K];show _=_++C2 (l.take i++ [t]);rw[OX,X,cu _ (C2 (l.take i))],(r.on o).trans f9 bC (λz j q=> ?_),λz j=> ?_⟩,by grind⟩;rcases ng z q with q|q;exact q;omega;grind;grind
  have ub:IntKind.wrap .u64 (x.v.b.length:Int)=(x.v.b.length:Int):=vx;have ul:IntKind.wrap .u64 (x.ll:Int)=(l.length:Int):=by rw[e0,<-lt];exact vx
  unfold CJ at done;refine aB.of λJ1 h'=> ?_;have j1: ∀q,q=decide (x.k=2\/x.k=3)->J1 q h1:=by
   intro q hq;subst h';refine aB.of λJ2 a'=> ?_;split
   .rename_i S;rw[ag (bk (hq.symm.trans S))]at done;exact⟨_,_,_,ai d,by subst a';rw[ub];exact done⟩
   .rename_i S;rw[af (λe=>S (hq.trans (aC e)))]at done;refine aB.of λJ3 i'=> ?_;split
    .rename_i q2;rw[ag (dH q2)]at done;exact⟨_,_,_,ai d,by subst i';subst a';rw[ul];exact done⟩
    grind
  split
  rename_i q;exact j1 _ (by simp only[dQ]at q;rw[q];decide);grind

end Cb
end
section
namespace Cb
variable {V:cQ→Bool} {h a H:aA} {R:fp} {D:Nat→Prop}
variable {t:Tr} {x:CV}
theorem NQ(T:iD h D t x)(g:room t<=1000000)(b: ∀H p c,Own H p (enc t).length c 1 (bc (enc t))->(∀y,aL p y->h.size<=y)->Fr No h H->R (.slice p (enc t).length c) H):Cl 147 #[.Z,x.agg] h R:=
 NP (deep t) t (bu _) h D x none 0 0 [] R rfl (by grind) (.nil rfl rfl rfl rfl) T (λy ⟨A,e,_⟩=>by cases e) λH P C o f n=>b H P C o (λy d=>(n y d).resolve_left (λ⟨A,e,_⟩=>by cases e)) (f.mono λy _ ⟨A,e,_⟩=>by cases e)
theorem Bi(U:mG V a)(u:Fr No a h)(T:iD h D t x)(e:room t<=1000000)(k:iQ V t=true->∀H p c,Own H p (enc t).length c 1 (bc (enc t))->(∀y,aL p y->h.size<=y)->Fr No h H->R (.T #[.slice p (enc t).length c,.I 0]) H)(K:iQ V t=false->iG h R (.T #[.Z,.I 3])):Cl 101 #[x.agg] h R:=by
 refine Dc (aa.box λB l E b f=>aa.ld b (fD U (u.tt f) (T.on f) e λi F=>⟨_,rfl,?_⟩));have z:=f.1;have Z:=F.1;cases d:iQ V t with
 |false=>exact K d i (f.tt F)
 |true=>exact aa.ld (F.get b id) (NQ ((T.on f).on F) e λj p c o n g=>⟨_,_,_,rfl,k d j p c o (λy m=>by grind) ((f.tt F).tt g)⟩)
def mG.mono{b:aA}(U:mG V a)(f:Fr No a b):mG V b:=λg p c B R F=>U g p c B R (f.tt F)
def mi(V:kF)(b:cQ):Bool:=match od V b with| .ok (t,n)=>decide (n=b.length) && decide (enc t=b)| .error _=>false
theorem KU{p:bZ}{l c:Nat}{b:cQ}(U:mG V h)(r:Row h p (bc b))(v:l=b.length)(cap:b.length<=c)(w:b.length<=90000)(g: iG h R (.B (mi V b))):Cl 331 #[.L p l c] h R:=by
 subst v;unfold mi at g;refine yt (zU U r rfl cap ae (λs t x next o T F=>⟨_,_,_,_,_,_,_,_,_,_,rfl,aa.new λB k E m f=> ?_⟩) (λs e n F=>⟨_,_,_,_,_,_,_,_,_,_,rfl,aa.new λB k E m f=> ?_⟩))
 .have i:=F.tt f;rw[o]at g;have⟨A,z⟩:=vH o;rw[gH];by_cases C:next=b.length
  rw[ag (by grind)];refine aa.ld m (NQ (T.on f) ae λu q d O y j=>⟨_,_,_,rfl,jg O.hT (r.frame (i.tt j) bC) rfl rfl ⟨_,rfl,?_⟩⟩);have:=g u (i.tt j);simp only[C,ct,gU]at this;exact this;grind
 have:=g k (F.tt f);rw[n]at this;rw[af (λq=>oJ n (eq_of_beq q))];exact this

end Cb
end
section
namespace ju
variable {h H:aA} {R:fp}
variable {s:cF} {pos:Nat} {m:UInt8}
theorem byte_at(a:pos<s.size):s.data.toList[pos]? =some (s.data.toList.getD pos 0):=by simp_all
def WE{b:UInt8}(d:m.toNat<128)(h:pl m b=true):b<128:=by by_cases c:b.toNat<128;exact c;have a:=Ra (more:=(m.toNat)) (c:=(b.toNat)) ae ae;rw[Rb,h]at a;cases a
theorem Rm(e:m.toNat<128)(c:pos<s.size)(h:np (m.toNat:Int) ((Utf8.decode s pos).1:Int)=false):
  pl m (s.data.toList.getD pos 0)=true/\(Utf8.decode s pos).2=1:=by
 have⟨a,d⟩:=decode_at s pos c;by_cases b:s.data.toList.getD pos 0<128;rw[a b]at h⊢;rw[Rb]at h;exact⟨by grind,rfl⟩;have:=Ra (more:=(m.toNat)) (c:=((Utf8.decode s pos).1)) ae (by grind);rw[this]at h;cases h
def TN(e:m.toNat<128)(a:pos<s.size)(h:np (m.toNat:Int) ((Utf8.decode s pos).1:Int)=true):nQ m s=false:=by
 cases d:nQ m s with
 |false=>rfl
 |true=>have b:=List.all_eq_true.1 d _ (aG (byte_at a));have⟨c,_⟩:=decode_at s pos a;rw[c (WE e b),Rb,b]at h;cases h
def EP{i:Nat}{ty:TypeId}{d f:aA}(t:m.toNat<128)(y:f[i]? =some (.stringIter s 0))(A:d.size<=i)(u:Fr No d f)(r: ∀H,Fr No d H->R (.B (nQ m s)) H):
  ∃(I:dw)(M:aA->Nat),I f/\∀g,I g->bM Tryz.prog (Instr.next (.P i 0) true ty) g λv G=>(v=.T #[.B false]/\R (.B true) G)\/∃(a b:Value),v=.T #[.B true,a,b]/\∃(c:Int),b=.int .i32 c/\if np (m.toNat:Int) c=true then R (.B false) G else(I G/\M G<M g):=by
 refine⟨λg=> ∃pos,g[i]? =some (.stringIter s pos)/\Fr No d g/\pos<=s.size/\(s.data.toList.take pos).all (pl m)=true,λg=>(match g[i]? with|some (.stringIter _ p)=>s.size - p|_=>0),⟨0,y,u,bK _,bt⟩,?_⟩;rintro g ⟨pos,q,F,B,l⟩;refine OS q (λx=> .inl ⟨rfl,?_⟩) (λj G n C z=> .inr ⟨_,_,rfl,_,rfl,?_⟩);have:nQ m s=true:=by unfold nQ;rw[aX (by show s.data.toList.length<=pos;exact x)]at l;exact l
 rw[<-this];exact r g F;have o:Fr No d G:=F.fresh (S:=λc=>c=i) ⟨ae,λc _ k=>z c k⟩ (λc e=>ae);cases k:np (m.toNat:Int) ((Utf8.decode s pos).1:Int)with
 |true=>rw[ag rfl,<-TN t j k];exact r G o
 |false=>rw[af bt];obtain⟨f,w⟩:=Rm t j k;rw[w]at n;refine⟨⟨pos+1,n,o,j,?_⟩,?_⟩;rw[aV,byte_at j,List.all_append,l];show(true && (pl m (s.data.toList.getD pos 0) && true))=true;rw[f];rfl;simp only[q,n];omega
theorem MG(q: iG h R (.B (nQ 45 s))):Cl 97 #[.S s,.int .i32 45] h R:=by
 refine xu (Eo cZ λr t w p F=>⟨_,rfl,?_⟩);have⟨I,M,l,n⟩:=EP (ty:=0) cW p ae F q;refine⟨I,M,l,λg o=>lK _ _ (λv G d=> ?_) (n g o)⟩;rcases d with d|⟨a,b,e,c,E,d⟩;grind;refine .inr ⟨a,b,e,c,E,aB.of λJ u=> ?_⟩;have key:J (np 45 c) G:=by grind
 unfold np at key;revert key;generalize decide (c<97)=B;generalize decide (c>122)=f;generalize decide (c<48)=i;generalize decide (c>57)=j;generalize (c !=45)=k;intro key;cases B<;>cases f<;>cases i<;>cases j<;>cases k<;>exact key
theorem KV(t: iG h R (.B (nQ 47 s))):Cl 97 #[.S s,.int .i32 47] h R:=by
 refine vI (Eo cZ λr u x q F=>⟨_,rfl,?_⟩);have⟨I,M,n,o⟩:=EP (ty:=0) cW q ae F t;refine⟨I,M,n,λg p=>lK _ _ (λv G d=> ?_) (o g p)⟩;rcases d with d|⟨a,b,e,c,E,d⟩;grind;refine .inr ⟨a,b,e,c,E,aB.of λJ w=> ?_⟩;have key:J (np 47 c) G:=by grind
 unfold np at key;revert key;generalize decide (c<97)=B;generalize decide (c>122)=f;generalize decide (c<48)=i;generalize decide (c>57)=j;generalize (c !=45)=k;generalize (c !=47)=l;intro key;cases B<;>cases f<;>cases i<;>cases j<;>cases k<;>cases l<;>exact key
abbrev Ev.at(h:aA)(b:Nat)(x:Ev):Prop:=av.at h b x.jY x.node x.fK x.host x.jl
theorem fD(x:Ev)(k: iG h R (.B (cY x))):Cl 53 #[.agg #[.B x.jY,.U x.node,.U x.fK,.S x.host,.S x.jl]] h R:=by
 refine Ex (av.box λb o w c F=>av.ld c ⟨_,zQ (y:=.zero) (x:=x) rfl rfl,?_⟩);have K:=k o F;unfold cY at K;by_cases f:x=.zero;rw[ag (aC f)];rw[ag f]at K;exact K;rw[af (dH f)];rw[af f]at K;refine⟨_,ai c,?_⟩;by_cases e:x.jY=true;rw[ag e];rw[ag e]at K;refine av.ld c ⟨_,ai c,_,ai c,_,zQ (y:=⟨true,x.node,x.fK,⟨#[]⟩,⟨#[]⟩⟩) (x:=x) rfl rfl,?_⟩;by_cases d:x=⟨true,x.node,x.fK,⟨#[]⟩,⟨#[]⟩⟩;have E:x.host=⟨#[]⟩:=bV Ev.host d;have i:x.jl=⟨#[]⟩:=bV Ev.jl d;rw[ag (aC d)];refine⟨_,ai c,?_⟩;by_cases Q:x.node≥1;rw[ag (aC Q)];refine⟨_,ai c,?_⟩;by_cases g:x.node<=4294967295;rw[ag (aC g)];refine⟨_,ai c,?_⟩;have v:1<=x.node:=Q;simp only[E,i,v,g,true_and]at K;exact K;grind;grind;rw[af (dH d)];have: ¬(x.host=⟨#[]⟩/\x.jl=⟨#[]⟩/\1<=x.node/\x.node<=4294967295/\x.fK<=4294967295):=λ⟨a,b,_⟩=>d (Ev.ext' e rfl rfl a b);rw[aT this]at K;exact K;have u:x.jY=false:=by simpa using e
 rw[af e];rw[af e]at K;refine av.ld c ⟨_,ai c,_,ai c,_,zQ (y:=⟨false,0,0,x.host,x.jl⟩) (x:=x) rfl rfl,?_⟩;by_cases d:x=⟨false,0,0,x.host,x.jl⟩;have E:x.node=0:=bV Ev.node d;have i:x.fK=0:=bV Ev.fK d;rw[ag (aC d)];refine⟨_,ai c,?_⟩;simp only[E,i,true_and]at K;by_cases Q:1<=x.host.size;rw[gH];refine⟨_,ai c,?_⟩;by_cases g:x.host.size<=16;rw[gH];refine⟨_,ai c,?_⟩;by_cases l:x.jl.size<=24;rw[gH];simp only[Q,g,l,and_self,ct,gU]at K;refine⟨_,ai c,MG λp j=>⟨_,rfl,?_⟩⟩;have t:=j.get c id;by_cases q:nQ 45 x.host=true;rw[ag q];refine⟨_,ai t,KV λr n=>⟨_,rfl,?_⟩⟩;have:=k r (F.tt (j.tt n));unfold cY at this;rw[af f,af e,q]at this;simp only[E,i,Q,g,l,and_self,ct,gU]at this;exact this;rw[af q];have:=k p (F.tt j);unfold cY at this;have q:nQ 45 x.host=false:=by simpa using q
 rw[af f,af e,q]at this;simp only[Bool.false_and,Bool.and_false]at this;exact this;grind;grind;grind;rw[af (dH d)];have: ¬(x.node=0/\x.fK=0/\1<=x.host.size/\x.host.size<=16/\x.jl.size<=24):=λ⟨a,b,_⟩=>d (Ev.ext' u a b rfl rfl);rw[aT this,Bool.false_and]at K;exact K
theorem zV(x:Ev)(d: iG h R (.I (kK x))):Cl 154 #[.agg #[.B x.jY,.U x.node,.U x.fK,.S x.host,.S x.jl]] h R:=by refine Ey (av.box λb c e a f=>av.ld a ⟨_,zQ (y:=.zero) rfl rfl,?_⟩);have K:=d c f;unfold kK at K;by_cases g:x=.zero;grind;rw[af (by grind)];refine⟨_,ai a,?_⟩;by_cases i:x.jY=true;grind;grind
theorem Rn{a b:cF}:(a.toList==b.toList)=true↔a=b:=by rw[dQ,toList_data,toList_data];constructor;intro e;cases a;cases b;simp only[ByteArray.mk.injEq];exact Array.ext' e;grind
theorem TO(x y:Ev)(o: iG h R (.B (lR x y))):Cl 106 #[.agg #[.B x.jY,.U x.node,.U x.fK,.S x.host,.S x.jl],.agg #[.B y.jY,.U y.node,.U y.fK,.S y.host,.S y.jl]] h R:=by
 refine GA (av.box λb A E w j=>av.box λc B z g f=> ?_);have n:=f.get w id;refine av.ld n (av.ld g (zV x λC k=>⟨_,rfl,av.held (k.get g id),zV y λu r=>⟨_,rfl,?_⟩⟩));have F:=k.tt r;have d:=F.get n id;have a:=F.get g id;have K:=o u (j.tt (f.tt F));unfold lR at K;by_cases Q:kK x=kK y;rw[af (dH Q)];rw[af (dH Q)]at K;refine⟨_,ai d,_,ai a,?_⟩;by_cases i:x.node=y.node;rw[af (dH i)];rw[dz]at K;refine⟨_,ai d,_,ai a,?_⟩;by_cases q:x.fK=y.fK;rw[af (dH q)];rw[af (dH q)]at K;refine⟨_,ai d,_,ai a,?_⟩;by_cases p:x.host=y.host;rw[af (by grind)];rw[af (by grind)]at K;exact⟨_,ai d,_,ai a,K⟩;have:(x.host.toList==y.host.toList)=false:=by cases e:x.host.toList==y.host.toList;rfl;exact absurd (Rn.1 e) p
 rw[ag (by simp[this])];rw[ag p]at K;exact⟨_,ai d,_,ai a,K⟩;rw[ag (dH q)];rw[ag q]at K;exact⟨_,ai d,_,ai a,K⟩;rw[ag (dH i)];rw[ag i]at K;exact⟨_,ai d,_,ai a,K⟩;rw[ag (by grind)];refine av.ld d (av.ld a (zV x λD l=>⟨_,rfl,av.held (l.get a id),zV y λv t=>⟨_,rfl,?_⟩⟩));have K:=o v (j.tt (f.tt (F.tt (l.tt t))));unfold lR at K;rw[ag Q]at K;exact K

end ju
end
section
variable {h:aA} {R:fp}
variable {K:Nat->aA->Prop} {a:Addr} {b l c B e m:Nat} {sum v s P:Int} {L d:bZ}
abbrev aa.fR(h:aA)(b:Nat)(x:aa.S):Prop:=h[b]? =some (.cells x.arr 201 (0,0))
def aa.ex{K:aa.S->Prop}(x:aa.S)(H:K x):aa.EX K:=⟨_,_,_,_,_,_,_,_,H⟩
def aa.iR{x:aa.S}{K:aa.S->Prop}(H:cH a x.l 0 h)(f:K x):aa.cJ h a K:=by obtain⟨q,Q,g,i,_⟩:=H;rw[cj]at q;exact⟨_,q,_,Q,_,_,_,g,_,_,_,i,f⟩
def aa.jw{x:aa.S}(H:aa.fR h b x):cH (AA b 0) x.l 0 h:=
 dO H (λj V f=>by rw[bj];simpa using f)
def aa.fX{x:aa.S}{K:aa.S->Prop}(H:aa.fR h b x)(f:K x):aa.cJ h (AA b 0) K:=iR (jw H) f
def aa.gw{x:aa.S}(g: ∀b H,b=h.size->aa.fR H b x->Fr No h H->K b H):aW h (.C aa.S.z.arr 201) λb f=>aa.dv f (AA b 0) x (K b):=
 gQ (vs:=x.l) rfl rfl g
def aa.cV{x:aa.S}(g: ∀b H,b=h.size->aa.fR H b x->Fr No h H->K b H):aW h (.C x.arr 201) λb f=>K b f:=
 cg (g _ _ rfl bR (Fr.push _ _))
def aa.iB{y x:aa.S}{K:dw}(A:aa.fR h b y)(k: ∀H,aa.fR H b x->Fr (λy=>y=b) h H->H.size=h.size->K H):aa.dv h (AA b 0) x K:=
 (show dG (AA b 0) x.l 0 h K from eX A rfl rfl λi f D g=>k i f (Fr.of_eq D λC j=>g C j) D)
variable {x:aa.S}
abbrev av.fR(h:aA)(b:Nat)(x:av.S):Prop:=h[b]? =some (.cells x.arr 29 (0,0))
def av.ex{K:av.S->Prop}(x:av.S)(H:K x):av.EX K:=⟨_,_,_,_,_,H⟩
def av.iR{x:av.S}{K:av.S->Prop}(H:cH a x.l 0 h)(f:K x):av.cJ h a K:=by obtain⟨q,Q,g,i,j,_⟩:=H;rw[cj]at q;exact⟨_,q,_,Q,_,g,_,i,_,j,f⟩
def av.jw{x:av.S}(H:av.fR h b x):cH (AA b 0) x.l 0 h:=
 dO H (λj V f=>by rw[bj];simpa using f)
def av.fX{x:av.S}{K:av.S->Prop}(H:av.fR h b x)(f:K x):av.cJ h (AA b 0) K:=iR (jw H) f
def av.gw{x:av.S}(g: ∀b H,b=h.size->av.fR H b x->Fr No h H->K b H):aW h (.C av.S.z.arr 29) λb f=>av.dv f (AA b 0) x (K b):=
 gQ (vs:=x.l) rfl rfl g
def av.cV{x:av.S}(g: ∀b H,b=h.size->av.fR H b x->Fr No h H->K b H):aW h (.C x.arr 29) λb f=>K b f:=
 cg (g _ _ rfl bR (Fr.push _ _))
def av.iB{y x:av.S}{K:dw}(A:av.fR h b y)(k: ∀H,av.fR H b x->Fr (λy=>y=b) h H->H.size=h.size->K H):av.dv h (AA b 0) x K:=
 (show dG (AA b 0) x.l 0 h K from eX A rfl rfl λi f D g=>k i f (Fr.of_eq D λC j=>g C j) D)
abbrev ah.fR(h:aA)(b:Nat)(x:ah.S):Prop:=h[b]? =some (.cells x.arr 68 (0,0))
def ah.ex{K:ah.S->Prop}(x:ah.S)(H:K x):ah.EX K:=⟨_,_,_,_,_,_,_,H⟩
def ah.iR{x:ah.S}{K:ah.S->Prop}(H:cH a x.l 0 h)(f:K x):ah.cJ h a K:=by obtain⟨q,Q,g,i,j,k,n,_⟩:=H;rw[cj]at q;exact⟨_,q,_,Q,_,g,_,i,_,j,_,k,_,n,f⟩
def ah.jw{x:ah.S}(H:ah.fR h b x):cH (AA b 0) x.l 0 h:=
 dO H (λj V f=>by rw[bj];simpa using f)
def ah.fX{x:ah.S}{K:ah.S->Prop}(H:ah.fR h b x)(f:K x):ah.cJ h (AA b 0) K:=iR (jw H) f
def ah.gw{x:ah.S}(g: ∀b H,b=h.size->ah.fR H b x->Fr No h H->K b H):aW h (.C ah.S.z.arr 68) λb f=>ah.dv f (AA b 0) x (K b):=
 gQ (vs:=x.l) rfl rfl g
def ah.cV{x:ah.S}(g: ∀b H,b=h.size->ah.fR H b x->Fr No h H->K b H):aW h (.C x.arr 68) λb f=>K b f:=
 cg (g _ _ rfl bR (Fr.push _ _))
def ah.iB{y x:ah.S}{K:dw}(A:ah.fR h b y)(k: ∀H,ah.fR H b x->Fr (λy=>y=b) h H->H.size=h.size->K H):ah.dv h (AA b 0) x K:=
 (show dG (AA b 0) x.l 0 h K from eX A rfl rfl λi f D g=>k i f (Fr.of_eq D λC j=>g C j) D)
abbrev aE.fR(h:aA)(b:Nat)(x:aE.S):Prop:=h[b]? =some (.cells x.arr 70 (0,0))
def aE.ex{K:aE.S->Prop}(x:aE.S)(H:K x):aE.EX K:=⟨_,_,_,_,_,_,_,_,_,_,_,_,_,_,_,_,_,_,_,_,H⟩
def aE.iR{x:aE.S}{K:aE.S->Prop}(H:cH a x.l 0 h)(f:K x):aE.cJ h a K:=by obtain⟨q,Q,y,z,A,C,D,E,F,G,g,i,j,k,n,o,r,t,u,w,_⟩:=H;rw[cj]at q;exact⟨_,q,_,Q,_,y,_,z,_,A,_,C,_,D,_,E,_,F,_,G,_,g,_,i,_,j,_,k,_,n,_,o,_,r,_,t,_,u,_,w,f⟩
def aE.jw{x:aE.S}(H:aE.fR h b x):cH (AA b 0) x.l 0 h:=
 dO H (λj V f=>by rw[bj];simpa using f)
def aE.fX{x:aE.S}{K:aE.S->Prop}(H:aE.fR h b x)(f:K x):aE.cJ h (AA b 0) K:=iR (jw H) f
def aE.gw{x:aE.S}(g: ∀b H,b=h.size->aE.fR H b x->Fr No h H->K b H):aW h (.C aE.S.z.arr 70) λb f=>aE.dv f (AA b 0) x (K b):=
 gQ (vs:=x.l) rfl rfl g
def aE.cV{x:aE.S}(g: ∀b H,b=h.size->aE.fR H b x->Fr No h H->K b H):aW h (.C x.arr 70) λb f=>K b f:=
 cg (g _ _ rfl bR (Fr.push _ _))
def aE.iB{y x:aE.S}{K:dw}(A:aE.fR h b y)(k: ∀H,aE.fR H b x->Fr (λy=>y=b) h H->H.size=h.size->K H):aE.dv h (AA b 0) x K:=
 (show dG (AA b 0) x.l 0 h K from eX A rfl rfl λi f D g=>k i f (Fr.of_eq D λC j=>g C j) D)
variable {p:aE.S}
abbrev ay.fR(h:aA)(b:Nat)(x:ay.S):Prop:=h[b]? =some (.cells x.arr 134 (0,0))
def ay.ex{K:ay.S->Prop}(x:ay.S)(H:K x):ay.EX K:=⟨_,_,_,_,_,_,_,H⟩
def ay.iR{x:ay.S}{K:ay.S->Prop}(H:cH a x.l 0 h)(f:K x):ay.cJ h a K:=by obtain⟨q,Q,g,i,j,_⟩:=H;rw[cj]at q;exact⟨_,q,_,Q,_,g,_,i,_,_,_,j,f⟩
def ay.jw{x:ay.S}(H:ay.fR h b x):cH (AA b 0) x.l 0 h:=
 dO H (λj V f=>by rw[bj];simpa using f)
def ay.fX{x:ay.S}{K:ay.S->Prop}(H:ay.fR h b x)(f:K x):ay.cJ h (AA b 0) K:=iR (jw H) f
def ay.gw{x:ay.S}(g: ∀b H,b=h.size->ay.fR H b x->Fr No h H->K b H):aW h (.C ay.S.z.arr 134) λb f=>ay.dv f (AA b 0) x (K b):=
 gQ (vs:=x.l) rfl rfl g
def ay.cV{x:ay.S}(g: ∀b H,b=h.size->ay.fR H b x->Fr No h H->K b H):aW h (.C x.arr 134) λb f=>K b f:=
 cg (g _ _ rfl bR (Fr.push _ _))
def ay.iB{y x:ay.S}{K:dw}(A:ay.fR h b y)(k: ∀H,ay.fR H b x->Fr (λy=>y=b) h H->H.size=h.size->K H):ay.dv h (AA b 0) x K:=
 (show dG (AA b 0) x.l 0 h K from eX A rfl rfl λi f D g=>k i f (Fr.of_eq D λC j=>g C j) D)
abbrev ak.fR(h:aA)(b:Nat)(x:ak.S):Prop:=h[b]? =some (.cells x.arr 73 (0,0))
def ak.ex{K:ak.S->Prop}(x:ak.S)(H:K x):ak.EX K:=⟨_,_,_,_,_,_,_,_,_,_,_,_,_,_,_,_,_,_,_,_,_,_,_,H⟩
def ak.iR{x:ak.S}{K:ak.S->Prop}(H:cH a x.l 0 h)(f:K x):ak.cJ h a K:=by obtain⟨q,Q,y,A,C,D,E,F,G,I,g,i,j,k,n,o,r,t,u,w,z,_⟩:=H;rw[cj]at q;exact⟨_,q,_,Q,_,y,_,A,_,C,_,D,_,E,_,F,_,G,_,I,_,g,_,i,_,j,_,k,_,n,_,o,_,r,_,t,_,u,_,w,_,_,_,z,f⟩
def ak.jw{x:ak.S}(H:ak.fR h b x):cH (AA b 0) x.l 0 h:=
 dO H (λj V f=>by rw[bj];simpa using f)
def ak.fX{x:ak.S}{K:ak.S->Prop}(H:ak.fR h b x)(f:K x):ak.cJ h (AA b 0) K:=iR (jw H) f
def ak.gw{x:ak.S}(g: ∀b H,b=h.size->ak.fR H b x->Fr No h H->K b H):aW h (.C ak.S.z.arr 73) λb f=>ak.dv f (AA b 0) x (K b):=
 gQ (vs:=x.l) rfl rfl g
def ak.cV{x:ak.S}(g: ∀b H,b=h.size->ak.fR H b x->Fr No h H->K b H):aW h (.C x.arr 73) λb f=>K b f:=
 cg (g _ _ rfl bR (Fr.push _ _))
def ak.iB{y x:ak.S}{K:dw}(A:ak.fR h b y)(k: ∀H,ak.fR H b x->Fr (λy=>y=b) h H->H.size=h.size->K H):ak.dv h (AA b 0) x K:=
 (show dG (AA b 0) x.l 0 h K from eX A rfl rfl λi f D g=>k i f (Fr.of_eq D λC j=>g C j) D)
abbrev aM.fR(h:aA)(b:Nat)(x:aM.S):Prop:=h[b]? =some (.cells x.arr 303 (0,0))
def aM.ex{K:aM.S->Prop}(x:aM.S)(H:K x):aM.EX K:=⟨_,_,_,_,_,_,_,_,_,_,_,_,H⟩
def aM.iR{x:aM.S}{K:aM.S->Prop}(H:cH a x.l 0 h)(f:K x):aM.cJ h a K:=by obtain⟨q,Q,j,k,n,o,r,t,u,w,g,i,_⟩:=H;rw[cj]at q;exact⟨_,q,_,Q,_,j,_,k,_,n,_,o,_,r,_,t,_,u,_,w,_,g,_,i,f⟩
def aM.jw{x:aM.S}(H:aM.fR h b x):cH (AA b 0) x.l 0 h:=
 dO H (λj V f=>by rw[bj];simpa using f)
def aM.fX{x:aM.S}{K:aM.S->Prop}(H:aM.fR h b x)(f:K x):aM.cJ h (AA b 0) K:=iR (jw H) f
def aM.gw{x:aM.S}(g: ∀b H,b=h.size->aM.fR H b x->Fr No h H->K b H):aW h (.C aM.S.z.arr 303) λb f=>aM.dv f (AA b 0) x (K b):=
 gQ (vs:=x.l) rfl rfl g
def aM.cV{x:aM.S}(g: ∀b H,b=h.size->aM.fR H b x->Fr No h H->K b H):aW h (.C x.arr 303) λb f=>K b f:=
 cg (g _ _ rfl bR (Fr.push _ _))
def aM.iB{y x:aM.S}{K:dw}(A:aM.fR h b y)(k: ∀H,aM.fR H b x->Fr (λy=>y=b) h H->H.size=h.size->K H):aM.dv h (AA b 0) x K:=
 (show dG (AA b 0) x.l 0 h K from eX A rfl rfl λi f D g=>k i f (Fr.of_eq D λC j=>g C j) D)
abbrev aI.fR(h:aA)(b:Nat)(x:aI.S):Prop:=h[b]? =some (.cells x.arr 34 (0,0))
def aI.ex{K:aI.S->Prop}(x:aI.S)(H:K x):aI.EX K:=⟨_,_,_,_,_,_,_,_,_,_,_,_,_,_,_,_,_,_,_,_,_,H⟩
def aI.iR{x:aI.S}{K:aI.S->Prop}(H:cH a x.l 0 h)(f:K x):aI.cJ h a K:=by obtain⟨q,Q,w,y,z,A,C,D,E,F,g,i,j,k,n,o,r,t,u,_⟩:=H;rw[cj]at q;exact⟨_,q,_,Q,_,w,_,y,_,z,_,A,_,C,_,D,_,E,_,F,_,g,_,i,_,j,_,k,_,n,_,_,_,o,_,r,_,t,_,u,f⟩
def aI.jw{x:aI.S}(H:aI.fR h b x):cH (AA b 0) x.l 0 h:=
 dO H (λj V f=>by rw[bj];simpa using f)
def aI.fX{x:aI.S}{K:aI.S->Prop}(H:aI.fR h b x)(f:K x):aI.cJ h (AA b 0) K:=iR (jw H) f
def aI.gw{x:aI.S}(g: ∀b H,b=h.size->aI.fR H b x->Fr No h H->K b H):aW h (.C aI.S.z.arr 34) λb f=>aI.dv f (AA b 0) x (K b):=
 gQ (vs:=x.l) rfl rfl g
def aI.cV{x:aI.S}(g: ∀b H,b=h.size->aI.fR H b x->Fr No h H->K b H):aW h (.C x.arr 34) λb f=>K b f:=
 cg (g _ _ rfl bR (Fr.push _ _))
def aI.iB{y x:aI.S}{K:dw}(A:aI.fR h b y)(k: ∀H,aI.fR H b x->Fr (λy=>y=b) h H->H.size=h.size->K H):aI.dv h (AA b 0) x K:=
 (show dG (AA b 0) x.l 0 h K from eX A rfl rfl λi f D g=>k i f (Fr.of_eq D λC j=>g C j) D)
abbrev aj.fR(h:aA)(b:Nat)(x:aj.S):Prop:=h[b]? =some (.cells x.arr 42 (0,0))
def aj.ex{K:aj.S->Prop}(x:aj.S)(H:K x):aj.EX K:=⟨_,_,_,_,_,_,_,_,H⟩
def aj.iR{x:aj.S}{K:aj.S->Prop}(H:cH a x.l 0 h)(f:K x):aj.cJ h a K:=by obtain⟨q,Q,g,i,j,k,_⟩:=H;rw[cj]at q;exact⟨_,q,_,Q,_,g,_,i,_,j,_,_,_,k,f⟩
def aj.jw{x:aj.S}(H:aj.fR h b x):cH (AA b 0) x.l 0 h:=
 dO H (λj V f=>by rw[bj];simpa using f)
def aj.fX{x:aj.S}{K:aj.S->Prop}(H:aj.fR h b x)(f:K x):aj.cJ h (AA b 0) K:=iR (jw H) f
def aj.gw{x:aj.S}(g: ∀b H,b=h.size->aj.fR H b x->Fr No h H->K b H):aW h (.C aj.S.z.arr 42) λb f=>aj.dv f (AA b 0) x (K b):=
 gQ (vs:=x.l) rfl rfl g
def aj.cV{x:aj.S}(g: ∀b H,b=h.size->aj.fR H b x->Fr No h H->K b H):aW h (.C x.arr 42) λb f=>K b f:=
 cg (g _ _ rfl bR (Fr.push _ _))
def aj.iB{y x:aj.S}{K:dw}(A:aj.fR h b y)(k: ∀H,aj.fR H b x->Fr (λy=>y=b) h H->H.size=h.size->K H):aj.dv h (AA b 0) x K:=
 (show dG (AA b 0) x.l 0 h K from eX A rfl rfl λi f D g=>k i f (Fr.of_eq D λC j=>g C j) D)
abbrev aR.fR(h:aA)(b:Nat)(x:aR.S):Prop:=h[b]? =some (.cells x.arr 36 (0,0))
def aR.ex{K:aR.S->Prop}(x:aR.S)(H:K x):aR.EX K:=⟨_,_,_,_,_,_,_,_,_,_,_,_,_,_,_,_,_,_,_,_,_,_,_,_,_,_,_,_,H⟩
def aR.iR{x:aR.S}{K:aR.S->Prop}(H:cH a x.l 0 h)(f:K x):aR.cJ h a K:=by obtain⟨q,Q,y,E,F,G,I,J,M,O,g,i,j,k,n,o,r,t,u,w,z,A,C,D,_⟩:=H;rw[cj]at q;exact⟨_,q,_,Q,_,y,_,E,_,F,_,G,_,I,_,J,_,M,_,O,_,g,_,i,_,j,_,k,_,n,_,o,_,r,_,t,_,u,_,_,_,w,_,z,_,A,_,C,_,_,_,D,f⟩
def aR.jw{x:aR.S}(H:aR.fR h b x):cH (AA b 0) x.l 0 h:=
 dO H (λj V f=>by rw[bj];simpa using f)
def aR.fX{x:aR.S}{K:aR.S->Prop}(H:aR.fR h b x)(f:K x):aR.cJ h (AA b 0) K:=iR (jw H) f
def aR.gw{x:aR.S}(g: ∀b H,b=h.size->aR.fR H b x->Fr No h H->K b H):aW h (.C aR.S.z.arr 36) λb f=>aR.dv f (AA b 0) x (K b):=
 gQ (vs:=x.l) rfl rfl g
def aR.cV{x:aR.S}(g: ∀b H,b=h.size->aR.fR H b x->Fr No h H->K b H):aW h (.C x.arr 36) λb f=>K b f:=
 cg (g _ _ rfl bR (Fr.push _ _))
def aR.iB{y x:aR.S}{K:dw}(A:aR.fR h b y)(k: ∀H,aR.fR H b x->Fr (λy=>y=b) h H->H.size=h.size->K H):aR.dv h (AA b 0) x K:=
 (show dG (AA b 0) x.l 0 h K from eX A rfl rfl λi f D g=>k i f (Fr.of_eq D λC j=>g C j) D)
abbrev aQ.fR(h:aA)(b:Nat)(x:aQ.S):Prop:=h[b]? =some (.cells x.arr 229 (0,0))
def aQ.ex{K:aQ.S->Prop}(x:aQ.S)(H:K x):aQ.EX K:=⟨_,_,_,_,_,_,_,_,_,_,_,_,H⟩
def aQ.iR{x:aQ.S}{K:aQ.S->Prop}(H:cH a x.l 0 h)(f:K x):aQ.cJ h a K:=by obtain⟨q,Q,g,i,j,k,n,o,r,t,_⟩:=H;rw[cj]at q;exact⟨_,q,_,Q,_,g,_,i,_,j,_,k,_,_,_,n,_,o,_,r,_,t,f⟩
def aQ.cV{x:aQ.S}(g: ∀b H,b=h.size->aQ.fR H b x->Fr No h H->K b H):aW h (.C x.arr 229) λb f=>K b f:=
 cg (g _ _ rfl bR (Fr.push _ _))
def aQ.iB{y x:aQ.S}{K:dw}(A:aQ.fR h b y)(k: ∀H,aQ.fR H b x->Fr (λy=>y=b) h H->H.size=h.size->K H):aQ.dv h (AA b 0) x K:=
 (show dG (AA b 0) x.l 0 h K from eX A rfl rfl λi f D g=>k i f (Fr.of_eq D λC j=>g C j) D)
abbrev aF.fR(h:aA)(b:Nat)(x:aF.S):Prop:=h[b]? =some (.cells x.arr 92 (0,0))
def aF.ex{K:aF.S->Prop}(x:aF.S)(H:K x):aF.EX K:=⟨_,_,_,_,_,_,H⟩
def aF.gw{x:aF.S}(g: ∀b H,b=h.size->aF.fR H b x->Fr No h H->K b H):aW h (.C aF.S.z.arr 92) λb f=>aF.dv f (AA b 0) x (K b):=
 gQ (vs:=x.l) rfl rfl g
abbrev cf.fR(h:aA)(b:Nat)(x:cf.S):Prop:=h[b]? =some (.cells x.arr 242 (0,0))
def cf.ex{K:cf.S->Prop}(x:cf.S)(H:K x):cf.EX K:=⟨_,_,_,_,_,_,_,_,_,_,_,_,_,_,_,_,_,_,_,_,_,_,_,H⟩
def cf.iR{x:cf.S}{K:cf.S->Prop}(H:cH a x.l 0 h)(f:K x):cf.cJ h a K:=by obtain⟨q,Q,y,A,C,D,E,F,G,I,g,i,j,k,n,o,r,t,u,w,z,_⟩:=H;rw[cj]at q;exact⟨_,q,_,Q,_,y,_,A,_,C,_,D,_,E,_,F,_,G,_,I,_,g,_,i,_,j,_,k,_,n,_,_,_,o,_,r,_,t,_,u,_,w,_,z,f⟩
def cf.jw{x:cf.S}(H:cf.fR h b x):cH (AA b 0) x.l 0 h:=
 dO H (λj V f=>by rw[bj];simpa using f)
def cf.fX{x:cf.S}{K:cf.S->Prop}(H:cf.fR h b x)(f:K x):cf.cJ h (AA b 0) K:=iR (jw H) f
def cf.cV{x:cf.S}(g: ∀b H,b=h.size->cf.fR H b x->Fr No h H->K b H):aW h (.C x.arr 242) λb f=>K b f:=
 cg (g _ _ rfl bR (Fr.push _ _))
abbrev cb.fR(h:aA)(b:Nat)(x:cb.S):Prop:=h[b]? =some (.cells x.arr 249 (0,0))
def cb.ex{K:cb.S->Prop}(x:cb.S)(H:K x):cb.EX K:=⟨_,_,_,_,_,_,_,_,_,_,_,_,_,_,_,_,_,_,_,_,_,_,_,_,_,_,_,H⟩
def cb.iR{x:cb.S}{K:cb.S->Prop}(H:cH a x.l 0 h)(f:K x):cb.cJ h a K:=by obtain⟨q,Q,y,D,E,F,G,I,J,M,g,i,j,k,n,o,r,t,u,w,z,A,C,_⟩:=H;rw[cj]at q;exact⟨_,q,_,Q,_,y,_,D,_,E,_,F,_,G,_,I,_,J,_,M,_,g,_,i,_,j,_,k,_,n,_,o,_,r,_,t,_,u,_,w,_,_,_,z,_,A,_,_,_,C,f⟩
def cb.jw{x:cb.S}(H:cb.fR h b x):cH (AA b 0) x.l 0 h:=
 dO H (λj V f=>by rw[bj];simpa using f)
def cb.fX{x:cb.S}{K:cb.S->Prop}(H:cb.fR h b x)(f:K x):cb.cJ h (AA b 0) K:=iR (jw H) f
def cb.cV{x:cb.S}(g: ∀b H,b=h.size->cb.fR H b x->Fr No h H->K b H):aW h (.C x.arr 249) λb f=>K b f:=
 cg (g _ _ rfl bR (Fr.push _ _))
def nA(H:R (.I (wrap .i64 (2*sum))) h):Cl 289 #[.I sum] h R:=aP [] H
def xy (o:aB (λ(u:Bool) H=>ite u (R (.I (-1)) H) (Bd v l/\aH L λa=> ∃k,aU H ((a.add (toNat v*4)).add 1)=some (.U k)/\R (.I (wrap .i64 k)) H)) (λJ=>ite (decide (v<0)) (J true h) (ite (decide (v≥(l:Int))) (J true h) (Bd v l/\aH L λA=> ∃t,aU h ((A.add (toNat v*4)).add 1)=some (.U t)/\ite (decide (t>2)) (J true h) (Bd v l/\aH L λg=>aa.cJ h (g.add (toNat v*4)) λq=>Bd v l/\aH L λn=>gZ h ((n.add (toNat v*4)).add 1) λr=>Cl 144 #[.U r] h λV f=>aa.EX λT=>V=T.agg/\Kp h f [(some (g.add (toNat v*4))),(some ((A.add (toNat v*4)).add 1))]/\Cl 278 #[q.agg,T.agg] f λw i=> ∃j,w=.B j/\Kp f i [(some ((A.add (toNat v*4)).add 1))]/\J (!j) i))))):Cl 213 #[.L L l c,.I v] h R:=aP [(4,.join [(34,sB)]),(4,λ_=>pK 30)] o
def yu (J:Cl 288 #[.L L l c] h λb' u=>Vl b' λQ O M=>Cl 289 #[.I sum] u λc' A=>Vi c' λj=>jE (Instr.makeSlice 32 (.I j) (.I j)) A λd' C=>Vl d' λV U S=>Cl 149 #[.L V U S] C λe' D=>aa.EX λk=>e'=k.agg/\aW D (.C k.arr 201) λb E=>jE (Builtin.append_ #[199,199] 199 #[.L Q O M,.L (Sa b 0) 1 1]) E λf' F=>Vl f' λa' Z X=>Cl 210 #[.L a' Z X] F λg' G=>aa.EX λn=>g'=n.agg/\Cl 101 #[n.agg] G λh' H=> ∃g f T o,h'=.T #[.L g f T,.I o]/\ite (o !=0) (R (.T #[.Z,.I 3]) H) (ite (sum==1) (Cl 290 #[.L g f T] H λi' I=> ∃i,i'=.int .u16 i/\aW I (.C #[.int .u8 (wrap .u8 (Int.fdiv i (2 ^ min (toNat 8) (IntKind.bits .u16)))),.int .u8 (wrap .u8 i)] 5) λq w=>R (.T #[.L (Sa q 0) 2 2,.I 0]) w) (Cl 291 #[.L g f T] H λj' y=> ∃t,j'=.int .u32 t/\aW y (.C #[.int .u8 (wrap .u8 (Int.fdiv t (2 ^ min (toNat 24) (IntKind.bits .u32)))),.int .u8 (wrap .u8 (Int.fdiv t (2 ^ min (toNat 16) (IntKind.bits .u32)))),.int .u8 (wrap .u8 (Int.fdiv t (2 ^ min (toNat 8) (IntKind.bits .u32)))),.int .u8 (wrap .u8 t)] 5) λr z=>R (.T #[.L (Sa r 0) 4 4,.I 0]) z))):Cl 215 #[.L L l c,.I sum] h R:=aP [] J
def zW (hv:aa.NW h λb n=>aB (λ(j':Bool) y=>ite j' (aa.dv y (AA b 0) aa.S.z λA=>aa.cJ A (AA b 0) λr0=>R (.T #[r0.agg,.I 1]) A) (Cl 213 #[.L L l c,.I v] y λq' c'=>Vi q' λt=>aB (λ(k':Bool) C=>ite k' (aa.dv C (AA b 0) aa.S.z λD=>aa.cJ D (AA b 0) λf'=>R (.T #[f'.agg,.I 3]) D) (Cl 210 #[.L L l c] C λr' d'=>aa.EX λG=>r'=G.agg/\aa.NW d' λf e'=>aa.dv e' (AA f 0) G λE=>aB (λo=>aa.cJ o (AA f 0) λo'=>Cl 146 #[o'.agg] o λs' g=> ∃X,s'=.B X/\ite (!X) (aa.dv g (AA b 0) aa.S.z λq=>aa.cJ q (AA b 0) λg'=>R (.T #[g'.agg,.I 3]) q) (aa.cJ g (AA f 0) λp'=>aa.dv g (AA b 0) p' λr=>aa.cJ r (AA b 0) λh'=>R (.T #[h'.agg,.I 0]) r)) (λk=>ite (decide (t>0)) (Cl 215 #[.L L l c,.I t] E λt' H=> ∃O M I T,t'=.T #[.L O M I,.I T]/\ite (T !=0) (aa.dv H (AA b 0) aa.S.z λu=>aa.cJ u (AA b 0) λi'=>R (.T #[i'.agg,.I T]) u) (Hl H f 3 λn' m' l'=>Cl 149 #[.L O M I] H λu' i=>aa.EX λQ=>u'=Q.agg/\Kp H i [(Sa f 3)]/\aW i (.C Q.arr 201) λZ w=>Kp i w [(Sa f 3)]/\jE (Builtin.append_ #[199,199] 199 #[.L n' m' l',.L (Sa Z 0) 1 1]) w λv' a'=> ∃V U S,v'=.L V U S/\aO a' (AA f 3) (.L V U S) λb'=>k b')) (k E)))) (λj=>Cl 214 #[.L L l c,.func (.func 212) #[] #[]] c' λw' z=> ∃F,w'=.B F/\ite F (j true z) (j (decide (t<0)) z)))) (λJ=>ite (decide (v<0)) (J true n) (J (decide (v≥(l:Int))) n))):Cl 145 #[.L L l c,.I v] h R:=aP [(4,.join [(18,sB)]),(16,.join [(29,sB)]),(27,.join []),(38,λ_=>pK 8)] hv
def xz(g:aW h (.C x.arr 201) λb H=>aa.cJ H (AA b 0) λT=>Cl 146 #[T.agg] H λV f=> ∃t,V=.B t/\R (.B (!t)) f):Cl 212 #[x.agg] h R:=aP [] g
theorem zX (hv:aW h (.C x.arr 201) λb C=>aB (λ(t':Bool) u=>ite t' (R (.T #[.Z,.I 3]) u) (∃O M I,Cc u b 3 (.L O M I)/\Cl 213 #[.L O M I,.I v] u λE' H=> ∃T,E'=.I T/\ite (decide (T<0)) (R (.T #[.Z,.I 3]) H) (ite (T==0) (∃U S Q,Cc H b 3 (.L U S Q)/\Cl 210 #[.L U S Q] H λF' q'=>aa.EX λj=>F'=j.agg/\R (.T #[.L j.VE j.JT j.Ti,.I 0]) q') (∃v' t u',Cc H b 3 (.L v' t u')/\∃X V w',Cc H b 3 (.L X V w')/\((0:Int)<=wrap .i64 (((t:Nat):Int) - 1)/\wrap .i64 (((t:Nat):Int) - 1)<((V:Nat):Int))/\aH X λa=>aa.cJ H (a.add (toNat (wrap .i64 (((t:Nat):Int) - 1))*4)) λx'=>aa.NW H λf r'=>aa.dv r' (AA f 0) x' λg=>aB (λ(B':Bool) w=>ite B' (R (.T #[.Z,.I 3]) w) (∃g' C' k,Cc w b 3 (.L g' C' k)/\((0:Int)<=wrap .i64 (((t:Nat):Int) - 1)/\wrap .i64 (((t:Nat):Int) - 1)<=((k:Nat):Int))/\Cl 215 #[.slice (cE g' k 0 4) ((toNat (wrap .i64 (((t:Nat):Int) - 1))) - 0) (k - 0),.I T] w λG' y=> ∃j' i' h' A,G'=.T #[.L j' i' h',.I A]/\ite (A !=0) (R (.T #[.Z,.I A]) y) (∃m' l' k',Cc y f 2 (.L m' l' k')/\Cl 35 #[.L j' i' h',.L m' l' k'] y λH' z=> ∃n',H'=.B n'/\ite (!n') (R (.T #[.Z,.I 10]) z) (∃o' D' n,Cc z b 3 (.L o' D' n)/\((0:Int)<=wrap .i64 (((t:Nat):Int) - 1)/\wrap .i64 (((t:Nat):Int) - 1)<=((n:Nat):Int))/\Cl 210 #[.slice (cE o' n 0 4) ((toNat (wrap .i64 (((t:Nat):Int) - 1))) - 0) (n - 0)] z λI' p'=>aa.EX λo=>I'=o.agg/\R (.T #[.L o.VE o.JT o.Ti,.I 0]) p')))) (λq=>ite (decide ((wrap .i64 (((t:Nat):Int) - 1))<=v)) (q true g) (aa.cJ g (AA f 0) λy'=> ∃b' a' Z,Cc g f 2 (.L b' a' Z)/\Cl 149 #[.L b' a' Z] g λJ' D=>aa.EX λc'=>J'=c'.agg/\Kp g D [(Sa f 0)]/\Cl 278 #[y'.agg,c'.agg] D λK' i=> ∃d',K'=.B d'/\ite (!d') (q true i) (∃A' e' z',Cc i f 2 (.L A' e' z')/\Cl 289 #[.I T] i λL' E=> ∃f',L'=.I f'/\Kp i E [(Sa f 2)]/\q (((e':Nat):Int) !=f') E))))))) (λJ=>aa.cJ C (AA b 0) λs'=>Cl 146 #[s'.agg] C λM' r=> ∃F,M'=.B F/\ite (!F) (J true r) (∃G,Cc r b 0 (.I G)/\J (G !=4) r))):Cl 275 #[x.agg,.I v] h R:=aP [(4,.join [(18,sB)]),(33,.join [(60,sB)]),(33,λ_=>pK 19)] hv
def yw (r:aW h (.C p.arr 70) λb H=> ∃o,Cc H b 0 (.U o)/\ite ((wrap .u64 ((pG o &&& ~~~ pG 409638).toNat:Int))==0) (∃q,Cc H b 1 (.I q)/\ite (decide (q≥0)) (∃t,Cc H b 1 (.I t)/\ite (decide (t<=2)) (av.cJ H (AA b 2) λu=>Cl 53 #[u.agg] H λV f=> ∃T,V=.B T/\ite T (av.cJ f (AA b 7) λw=>Cl 53 #[w.agg] f λz g=> ∃j,z=.B j/\ite j (ah.cJ g (AA b 12) λy=>Cl 64 #[y.agg] g λA i=> ∃k,A=.B k/\ite k (∃n,Cc i b 19 (.U n)/\R (.B (decide (n<=1099511627776))) i) (R (.B false) i)) (R (.B false) g)) (R (.B false) f)) (R (.B false) H)) (R (.B false) H)) (R (.B false) H)):Cl 141 #[p.agg] h R:=aP [] r
def yx(hv:aW h (.C p.arr 70) λb U=>aa.NW U λj w=>aE.cJ w (AA b 0) λf'=>Cl 141 #[f'.agg] w λx' r=> ∃T,x'=.B T/\ite (!T) (aa.dv r (AA j 0) aa.S.z λz=>aa.cJ z (AA j 0) λr0=>R (.T #[r0.agg,.I 3]) z) (av.cJ r (AA b 2) λg'=>Cl 142 #[g'.agg] r λy' a'=>aa.EX λD=> ∃h',y'=.T #[D.agg,.I h']/\aa.NW a' λg b'=>aa.dv b' (AA g 0) D λC=>av.cJ C (AA b 7) λi'=>Cl 142 #[i'.agg] C λz' c'=>aa.EX λE=> ∃j',z'=.T #[E.agg,.I j']/\aa.NW c' λi d'=>aa.dv d' (AA i 0) E λt=>ah.cJ t (AA b 12) λk'=>Cl 143 #[k'.agg] t λA' V=>aa.EX λF=> ∃l',A'=.T #[F.agg,.I l']/\aa.NW V λf X=>aa.dv X (AA f 0) F λH=>Hu H b 0 λm'=>Hi H b 1 λn'=>aa.cJ H (AA g 0) λo'=>Hl H f 3 λq' p' _=>Bd 0 p'/\aH q' λa=>aa.cJ H (a.add (toNat 0*4)) λr'=>aa.cJ H (AA i 0) λs'=>Hl H f 3 λu' t' _=>Bd 1 t'/\aH u' λA=>aa.cJ H (A.add (toNat 1*4)) λv'=>Hu H b 19 λw'=>Cl 144 #[.U 7] H λB' k=>aa.EX λG=>B'=G.agg/\Kp H k [(Sa b 19),(some (A.add (toNat 1*4))),(Sa f 3),(Sa i 0),(some (a.add (toNat 0*4))),(Sa f 3),(Sa g 0),(Sa b 1),(Sa b 0)]/\Cl 144 #[.U m'] k λC' n=>aa.EX λI=>C'=I.agg/\Kp k n [(Sa b 19),(some (A.add (toNat 1*4))),(Sa f 3),(Sa i 0),(some (a.add (toNat 0*4))),(Sa f 3),(Sa g 0),(Sa b 1)]/\Cl 144 #[.U (wrap .u64 n')] n λD' o=>aa.EX λJ=>D'=J.agg/\Kp n o [(Sa b 19),(some (A.add (toNat 1*4))),(Sa f 3),(Sa i 0),(some (a.add (toNat 0*4))),(Sa f 3),(Sa g 0),(Sa b 1)]/\Cl 144 #[.U w'] o λE' q=>aa.EX λM=>E'=M.agg/\Kp o q [(some (A.add (toNat 1*4))),(Sa f 3),(Sa i 0),(some (a.add (toNat 0*4))),(Sa f 3),(Sa g 0),(Sa b 1)]/\aW q (.C (G.l++I.l++J.l++o'.l++r'.l++s'.l++v'.l++M.l).toArray 201) λS u=>Kp q u [(Sa f 3),(Sa f 3),(Sa b 1)]/\Cl 145 #[.L (Sa S 0) 8 8,.I 2] u λF' Z=>aa.EX λO=> ∃Q,F'=.T #[O.agg,.I Q]/\aa.dv Z (AA j 0) O λy=>aa.cJ y (AA j 0) λe'=>R (.T #[e'.agg,.I Q]) y)):Cl 100 #[p.agg] h R:=aP [(17,λ_=> .ob (lO [1,2] (gB 3 4 (gB 12 8 (lO [0,3,7] (gB 3 20 .done))))))] hv
def zY (hv:aW h (.C x.arr 201) λb F'=>aE.NW F' λf a'=>aa.cJ a' (AA b 0) λa7=>Cl 275 #[a7.agg,.I 2] a' λb9 q=> ∃T t a8 z,b9=.T #[.L T t a8,.I z]/\ite (z !=0) (aE.dv q (AA f 0) aE.S.z λf'=>aE.cJ f' (AA f 0) λr0=>R (.T #[r0.agg,.I z]) f') (ite (((t:Nat):Int) !=8) (aE.dv q (AA f 0) aE.S.z λg'=>aE.cJ g' (AA f 0) λa4=>R (.T #[a4.agg,.I 3]) g') (Bd 3 t/\aH T λa=>aa.cJ q (a.add (toNat 3*4)) λa9=>Cl 276 #[a9.agg] q λc0 a1=>av.EX λi'=> ∃j',c0=.T #[i'.agg,.I j']/\av.NW a1 λr a2=>av.dv a2 (AA r 0) i' λh'=>Bd 5 t/\aH T λB'=>aa.cJ h' (B'.add (toNat 5*4)) λb0=>Cl 276 #[b0.agg] h' λc3 a3=>av.EX λk'=> ∃l',c3=.T #[k'.agg,.I l']/\av.NW a3 λu G'=>av.dv G' (AA u 0) k' λk=>aB (λ(id:bZ) (E':Int) H=>Bd 1 t/\aH T λC=>gZ H ((C.add (toNat 1*4)).add 1) λb1=>Bd 2 t/\aH T λD=>gZ H ((D.add (toNat 2*4)).add 1) λb2=>av.cJ H (AA r 0) λn=>av.cJ H (AA u 0) λo=>aH id λC'=>ah.cJ H C' λi=>Bd 7 t/\aH T λE=>gZ H ((E.add (toNat 7*4)).add 1) λb3=>aE.NW H λw V=>Kp H V [(some ((E.add (toNat 7*4)).add 1)),id,(Sa u 0),(Sa r 0),(some ((D.add (toNat 2*4)).add 1)),(some ((C.add (toNat 1*4)).add 1))]/\aE.dv V (AA w 0) ⟨b1,(wrap .i64 b2),n.f0,n.f1,n.f2,n.f3,n.f4,o.f0,o.f1,o.f2,o.f3,o.f4,i.f0,i.f1,i.f2,i.f3,i.f4,i.f5,i.f6,b3⟩ λX=>aE.cJ X (AA w 0) λb4=>Cl 100 #[b4.agg] X λc4 H'=>aa.EX λy'=> ∃z',c4=.T #[y'.agg,.I z']/\aa.NW H' λM I'=>aa.dv I' (AA M 0) y' λg=>aB (λ(b7:Bool) y=>ite b7 (aE.dv y (AA f 0) aE.S.z λZ=>aE.cJ Z (AA f 0) λa5=>R (.T #[a5.agg,.I 3]) Z) (aE.cJ y (AA w 0) λb8=>aE.dv y (AA f 0) b8 λb'=>aE.cJ b' (AA f 0) λa6=>R (.T #[a6.agg,.I 0]) b')) (λj=>ite (j' !=0) (j true g) (ite (l' !=0) (j true g) (ite (E' !=0) (j true g) (ite (z' !=0) (j true g) (aa.cJ g (AA M 0) λb5=>aa.cJ g (AA b 0) λb6=>Cl 278 #[b5.agg,b6.agg] g λc5 J'=> ∃A',c5=.B A'/\j (!A') J')))))) (λJ=>Bd 4 t/\aH T λF=>aa.cJ k (F.add (toNat 4*4)) λm'=>Bd 6 t/\aH T λG=>aa.cJ k (G.add (toNat 6*4)) λn'=>(aW k (.C (m'.l++n'.l).toArray 201) λO c'=>(Cl 210 #[.L (Sa O 0) 2 2] c' λc6 d'=>aa.EX λA=>c6=A.agg/\(Cl 277 #[A.agg] d' λc7 K'=>ah.EX λq'=> ∃u',c7=.T #[q'.agg,.I u']/\ah.NW K' λQ L'=>ah.dv L' (AA Q 0) q' λM'=>J (Sa Q 0) u' M')/\(ah.NW d' λS O'=>Cl 277 #[A.agg] O' λc8 P'=>ah.EX λr'=> ∃v',c8=.T #[r'.agg,.I v']/\ah.dv P' (AA S 0) r' λQ'=>J (Sa S 0) v' Q')/\True)/\(ah.NW c' λU R'=>Cl 210 #[.L (Sa O 0) 2 2] R' λc9 S'=>aa.EX λo'=>c9=o'.agg/\Cl 277 #[o'.agg] S' λd0 T'=>ah.EX λs'=> ∃w',d0=.T #[s'.agg,.I w']/\ah.dv T' (AA U 0) s' λU'=>J (Sa U 0) w' U')/\True)/\(ah.NW k λI e'=>Kp k e' [(some (G.add (toNat 6*4))),(some (F.add (toNat 4*4)))]/\aW e' (.C (m'.l++n'.l).toArray 201) λD' V'=>Cl 210 #[.L (Sa D' 0) 2 2] V' λc1 X'=>aa.EX λp'=>c1=p'.agg/\Cl 277 #[p'.agg] X' λc2 Z'=>ah.EX λt'=> ∃x',c2=.T #[t'.agg,.I x']/\ah.dv Z' (AA I 0) t' λa0=>J (Sa I 0) x' a0)/\True)))):Cl 197 #[x.agg] h R:=aP [(24,.join [(9,sP),(10,sI)]),(24,λ_=> .ob (gB 6 0 (.alts (.fork 6 (.alts (.fork 7 (.alts (.fork 8 (gB 6 9 .done) (.fork 12 (gB 4 8 (lO [13,14] .done)) .hO))) (.fork 12 (gB 5 7 (lO [13,14] .done)) .hO))) (.fork 12 (gB 6 6 (lO [13,14] .done)) .hO))))),(26,λ_=>pK 19),(31,.join [(96,sB)])] hv
def Dd (H:ite ((wrap .u32 ((BitVec.ofInt (IntKind.bits .u32) s &&& BitVec.ofInt (IntKind.bits .u32) 1).toNat:Int))==1) (R (.int .u32 (wrap .u32 ((BitVec.ofInt (IntKind.bits .u32) (Int.fdiv s (2 ^ min (toNat 1) (IntKind.bits .u32))) ^^^ BitVec.ofInt (IntKind.bits .u32) P).toNat:Int))) h) (R (.int .u32 (Int.fdiv s (2 ^ min (toNat 1) (IntKind.bits .u32)))) h)):Cl 353 #[.int .u32 s,.int .u32 P] h R:=aP [] H
def Bj{C:Int}(g: ∃(I:Int->kj)(M:Int->kG),I (wrap .u32 ((BitVec.ofInt (IntKind.bits .u32) s ^^^ BitVec.ofInt (IntKind.bits .u32) (wrap .u32 C)).toNat:Int)) 0 h/\∀S t H,I S t H->ite (decide (t<8)) (Cl 353 #[.int .u32 S,.int .u32 P] H λV f=> ∃T,V=.int .u32 T/\(I T (wrap .i64 (t+1)) f/\M T (wrap .i64 (t+1)) f<M S t H)) (R (.int .u32 S) H)):Cl 350 #[.int .u32 s,.int .u8 C,.int .u32 P] h R:=aP [(8,.loop [(0,.one (.int .u32)),(11,sI)])] g
def GI(g: ∃(I:Int->kj)(M:Int->kG),I s 0 h/\∀S t H,I S t H->ite (decide (t<(B:Int))) (Bd t B/\aH d λa=>NC H (a.add (toNat t*1)) λi=>Cl 350 #[.int .u32 S,.int .u8 i,.int .u32 P] H λV f=> ∃T,V=.int .u32 T/\(I T (wrap .i64 (t+1)) f/\M T (wrap .i64 (t+1)) f<M S t H)) (R (.int .u32 S) H)):Cl 332 #[.int .u32 s,.L d B e,.int .u32 P] h R:=aP [(6,.loop [(0,.one (.int .u32)),(11,sI)])] g
def De (f:Cl 332 #[.int .u32 65535,.L d B e,.int .u32 33800] h λV H=> ∃t,V=.int .u32 t/\R (.int .u16 (wrap .u16 ((BitVec.ofInt (IntKind.bits .u16) (IntKind.max .u16) ^^^ BitVec.ofInt (IntKind.bits .u16) (wrap .u16 t)).toNat:Int))) H):Cl 290 #[.L d B e] h R:=aP [] f
def ER (f:Cl 332 #[.int .u32 4294967295,.L d B e,.int .u32 2197175160] h λV H=> ∃t,V=.int .u32 t/\R (.int .u32 (wrap .u32 ((BitVec.ofInt (IntKind.bits .u32) (IntKind.max .u32) ^^^ BitVec.ofInt (IntKind.bits .u32) t).toNat:Int))) H):Cl 291 #[.L d B e] h R:=aP [] f
def Bl{x:ah.S} (i:aW h (.C x.arr 68) λb f=>av.cJ f (AA b 0) λj=>Cl 53 #[j.agg] f λV H=> ∃T,V=.B T/\ite T (∃g,Cc H b 5 (.U g)/\ite (decide (g<=1099511627776)) (∃t,Cc H b 6 (.U t)/\R (.B (decide (t<=1099511627776))) H) (R (.B false) H)) (R (.B false) H)):Cl 64 #[x.agg] h R:=aP [] i
def Bm{a:ah.S}{b:ah.S} (q:aW h (.C a.arr 68) λf n=>aW n (.C b.arr 68) λg H=>Hu H f 5 λA=> ∃k,Cc H g 5 (.U k)/\ite (A !=k) (Hu H f 5 λr=> ∃t,Cc H g 5 (.U t)/\R (.B (decide (r<t))) H) (Hu H f 6 λu=> ∃T,Cc H g 6 (.U T)/\ite (u !=T) (Hu H f 6 λw=> ∃i,Cc H g 6 (.U i)/\R (.B (decide (w<i))) H) (av.cJ H (AA f 0) λy=>av.cJ H (AA g 0) λz=>Cl 106 #[y.agg,z.agg] H λV o=> ∃j,V=.B j/\R (.B j) o))):Cl 65 #[a.agg,b.agg] h R:=aP [] q
def Bo{x:ah.S}(O:aW h (.C x.arr 68) λb F=>aa.NW F λg r=>ah.cJ r (AA b 0) λt6=>Cl 64 #[t6.agg] r λa' j=> ∃C,a'=.B C/\ite (!C) (aa.dv j (AA g 0) aa.S.z λt=>aa.cJ t (AA g 0) λQ=>R (.T #[Q.agg,.I 3]) t) (av.cJ j (AA b 0) λU=>Cl 142 #[U.agg] j λb' J=>aa.EX λT=> ∃u,b'=.T #[T.agg,.I u]/\aa.NW J λf M=>aa.dv M (AA f 0) T λH=>aa.cJ H (AA f 0) λV=>Hu H b 5 λX=>Hu H b 6 λZ=>Cl 144 #[.U X] H λc' k=>aa.EX λw=>c'=w.agg/\Kp H k [(Sa b 6),(Sa f 0)]/\Cl 144 #[.U Z] k λd' n=>aa.EX λy=>d'=y.agg/\Kp k n [(Sa f 0)]/\aW n (.C (w.l++y.l).toArray 201) λD i=>Kp n i [(Sa f 0)]/\Cl 210 #[.L (Sa D 0) 2 2] i λe' o=>aa.EX λz=>e'=z.agg/\Kp i o [(Sa f 0)]/\aW o (.C (V.l++z.l).toArray 201) λE G=>Cl 210 #[.L (Sa E 0) 2 2] G λf' I=>aa.EX λA=>f'=A.agg/\aa.dv I (AA g 0) A λq=>aa.cJ q (AA g 0) λS=>R (.T #[S.agg,.I u]) q)):Cl 143 #[x.agg] h R:=aP [(13,λ_=> .ob (gB 3 0 (lO [4,5,11,3] (gB 5 6 (lO [12,13] .done)))))] O
def Df (hv:aW h (.C x.arr 201) λb a'=>ah.NW a' λg H=>aB (λ(q':Bool) j=>ite q' (ah.dv j (AA g 0) ah.S.z λD=>ah.cJ D (AA g 0) λr0=>R (.T #[r0.agg,.I 3]) D) (Hl j b 3 λs' r' _=>Bd 0 r'/\aH s' λa=>aa.cJ j (a.add (toNat 0*4)) λt'=>Cl 276 #[t'.agg] j λJ' e'=>av.EX λO=> ∃Q,J'=.T #[O.agg,.I Q]/\av.NW e' λn f'=>av.dv f' (AA n 0) O λf=>av.cJ f (AA n 0) λt=>Hl f b 3 λv' u' _=>Bd 1 u'/\aH v' λA=>lW f ((A.add (toNat 1*4)).add 3) λx' w' _=>Bd 0 w'/\aH x' λr=>gZ f ((r.add (toNat 0*4)).add 1) λy'=>Hl f b 3 λA' z' _=>Bd 1 z'/\aH A' λu=>lW f ((u.add (toNat 1*4)).add 3) λC' B' _=>Bd 1 B'/\aH C' λw=>gZ f ((w.add (toNat 1*4)).add 1) λD'=>ah.NW f λo E=>Kp f E [(some ((w.add (toNat 1*4)).add 1)),(some ((u.add (toNat 1*4)).add 3)),(Sa b 3),(some ((r.add (toNat 0*4)).add 1)),(some ((A.add (toNat 1*4)).add 3)),(Sa b 3),(Sa n 0)]/\ah.dv E (AA o 0) ⟨t.f0,t.f1,t.f2,t.f3,t.f4,y',D'⟩ λF=>ah.cJ F (AA o 0) λE'=>Cl 143 #[E'.agg] F λK' b'=>aa.EX λS=> ∃U,K'=.T #[S.agg,.I U]/\aa.NW b' λy c'=>aa.dv c' (AA y 0) S λi=>aB (λ(H':Bool) q=>ite H' (ah.dv q (AA g 0) ah.S.z λz=>ah.cJ z (AA g 0) λg'=>R (.T #[g'.agg,.I 3]) z) (ah.cJ q (AA o 0) λI'=>ah.dv q (AA g 0) I' λC=>ah.cJ C (AA g 0) λh'=>R (.T #[h'.agg,.I 0]) C)) (λk=>ite (Q !=0) (k true i) (ite (U !=0) (k true i) (aa.cJ i (AA y 0) λF'=>aa.cJ i (AA b 0) λG'=>Cl 278 #[F'.agg,G'.agg] i λL' d'=> ∃V,L'=.B V/\k (!V) d'))))) (λJ=> ∃T,Cc H b 0 (.I T)/\ite (T !=4) (J true H) (∃j' G i',Cc H b 3 (.L j' G i')/\ite (((G:Nat):Int) !=2) (J true H) (Hl H b 3 λl' k' _=>Bd 1 k'/\aH l' λX=> ∃I,aU H (X.add (toNat 1*4))=some (.I I)/\ite (I !=4) (J true H) (Hl H b 3 λn' m' _=>Bd 1 m'/\aH n' λZ=> ∃p' M o',aU H ((Z.add (toNat 1*4)).add 3)=some (.L p' M o')/\J (((M:Nat):Int) !=2) H))))):Cl 277 #[x.agg] h R:=aP [(4,.join [(34,sB)]),(13,λ_=>pK 20),(18,.join [(78,sB)])] hv
def ur{n:Int} (G:ah.NW h λb f=>aB (λi=>ah.cJ i (AA m 0) λV=>ah.dv i (AA b 0) V λk=>ah.cJ k (AA b 0) λI=>R (.T #[I.agg,.I 0]) k) (λJ=>aB (λ(S:Bool) H=>aB (λD=>J D) (λw=>ite S (ah.dv H (AA b 0) ah.S.z λo=>ah.cJ o (AA b 0) λM=>R (.T #[M.agg,.I 6]) o) (aB (λE=>w E) (λy=>ite (decide (n>1099511627776)) (ah.dv H (AA b 0) ah.S.z λq=>ah.cJ q (AA b 0) λO=>R (.T #[O.agg,.I 1]) q) (Hu H m 5 λU=>aB (λF=>y F) (λj=>ite (decide (n>U)) (aO H (AA m 5) (.U n) λz=>aO z (AA m 6) (.U 0) λA=>j A) (∃r,Cc H m 6 (.U r)/\ite (decide (r≥1099511627776)) (ah.dv H (AA b 0) ah.S.z λg=>ah.cJ g (AA b 0) λQ=>R (.T #[Q.agg,.I 5]) g) (∃t,Cc H m 6 (.U t)/\aO H (AA m 6) (.U (wrap .u64 (t+1))) λC=>j C)))))))) (λu=> ∃T,Cc f m 7 (.B T)/\u (!T) f))):Cl 317 #[.P m 0,.U n] h R:=aP [(3,.join []),(5,.join [(15,sB)]),(6,.join []),(12,.join []),(18,.join [])] G
def uu{x:ah.S} (q:aW h (.C x.arr 68) λb k=>aB (λ(D:Bool) g=>ite D (R (.I 6) g) (aB (λ(r:Bool) H=>ite r (R (.I 1) H) (ah.cJ H (AA m 0) λz=>ah.cJ H (AA b 0) λA=>Cl 65 #[z.agg,A.agg] H λV i=> ∃n,V=.B n/\ite (!n) (R (.I 7) i) (ah.cJ i (AA b 0) λC=>ah.dv i (AA m 0) C λo=>R (.I 0) o))) (λj=>ah.cJ g (AA b 0) λu=>Cl 64 #[u.agg] g λF f=> ∃T,F=.B T/\ite (!T) (j true f) (av.cJ f (AA b 0) λw=>av.cJ f (AA m 0) λy=> ∃(E:Bool),JS 29 (w.agg) (y.agg) E/\j (!E) f)))) (λJ=> ∃t,Cc k m 7 (.B t)/\J (!t) k)):Cl 29 #[.P m 0,x.agg] h R:=aP [(5,.join [(5,sB)]),(11,.join [(15,sB)]),(11,λ_=>pK 14),(17,λ_=>pK 8)] q
def ES{x:av.S} (hv:aW h (.C x.arr 29) λb V=>aa.NW V λf n=>av.cJ n (AA b 0) λt5=>Cl 53 #[t5.agg] n λs' H=> ∃M,s'=.B M/\ite (!M) (aa.dv H (AA f 0) aa.S.z λq=>aa.cJ q (AA f 0) λr0=>R (.T #[r0.agg,.I 3]) q) (av.cJ H (AA b 0) λo'=> ∃(E:Bool),JS 29 (o'.agg) (av.S.z.agg) E/\ite E (Cl 144 #[.U 1] H λt' h'=>aa.EX λt=>t'=t.agg/\Cl 144 #[.U 0] h' λx' i'=>aa.EX λT=>x'=T.agg/\aW i' (.C (t.l++T.l).toArray 201) λO j'=>Cl 210 #[.L (Sa O 0) 2 2] j' λy' k'=>aa.EX λu=>y'=u.agg/\aa.dv k' (AA f 0) u λr=>aa.cJ r (AA f 0) λl'=>R (.T #[l'.agg,.I 0]) r) (∃w,Cc H b 0 (.B w)/\ite w (Hu H b 1 λp'=>Hu H b 2 λq'=>Cl 144 #[.U 2] H λz' g=>aa.EX λy=>z'=y.agg/\Kp H g [(Sa b 2),(Sa b 1)]/\Cl 144 #[.U p'] g λA' i=>aa.EX λz=>A'=z.agg/\Kp g i [(Sa b 2)]/\Cl 144 #[.U q'] i λB' X=>aa.EX λA=>B'=A.agg/\aW X (.C (z.l++A.l).toArray 201) λQ Z=>Cl 210 #[.L (Sa Q 0) 2 2] Z λC' a'=>aa.EX λC=>C'=C.agg/\aW a' (.C (y.l++C.l).toArray 201) λS b'=>Cl 210 #[.L (Sa S 0) 2 2] b' λD' c'=>aa.EX λD=>D'=D.agg/\aa.dv c' (AA f 0) D λj=>aa.cJ j (AA f 0) λm'=>R (.T #[m'.agg,.I 0]) j) (av.cJ H (AA b 0) λr'=>Cl 144 #[.U 1] H λE' k=>aa.EX λF=>E'=F.agg/\Kp H k [(Sa b 0)]/\Cl 75 #[r'.agg] k λu' d'=> ∃G,u'=.S G/\Cl 211 #[.S G] d' λv' e'=>aa.EX λI=>v'=I.agg/\aW e' (.C (F.l++I.l).toArray 201) λU f'=>Cl 210 #[.L (Sa U 0) 2 2] f' λw' g'=>aa.EX λJ=>w'=J.agg/\aa.dv g' (AA f 0) J λo=>aa.cJ o (AA f 0) λn'=>R (.T #[n'.agg,.I 0]) o)))):Cl 142 #[x.agg] h R:=aP [(20,λ_=> .ob (lO [1,2,4,5,0,3] (gB 7 6 .done))),(24,λ_=> .ob (lO [1,0] (gB 6 2 .done)))] hv
def yy{s:cF} (D:av.NW h λb y=>Cl 58 #[.S s,.S (⟨#[47,47]⟩:cF)] y λV z=> ∃o q,V=.T #[.S o,.B q]/\Cl 104 #[.S o,.S (⟨#[47]⟩:cF)] z λM A=> ∃T r u,M=.T #[.S T,.S r,.B u]/\av.NW A λf C=>av.dv C (AA f 0) ⟨false,0,0,T,r⟩ λH=>av.cJ H (AA f 0) λt=>ite q (ite u (ite (!(T.toList==(⟨#[]⟩:cF).toList)) (av.cJ H (AA f 0) λJ=>Cl 53 #[J.agg] H λO i=> ∃w,O=.B w/\Kp H i [(Sa f 0)]/\av.dv i (AA b 0) t λj=>av.cJ j (AA b 0) λE=>R (.T #[E.agg,.B w]) j) (av.dv H (AA b 0) t λk=>av.cJ k (AA b 0) λF=>R (.T #[F.agg,.B false]) k)) (av.dv H (AA b 0) t λn=>av.cJ n (AA b 0) λG=>R (.T #[G.agg,.B false]) n)) (av.dv H (AA b 0) t λg=>av.cJ g (AA b 0) λI=>R (.T #[I.agg,.B false]) g)):Cl 60 #[.S s] h R:=aP [(9,λ_=>pK 15)] D
def Bp{n:Int} (S:aW h (.C x.arr 201) λb g=>aB (λ(X:Bool) k=>ite X (R (.T #[.Z,.B false]) k) (Hl k b 3 λZ C _=> ∃(I:bZ->Nat->Nat->kj)(M:bZ->Nat->Nat->kG),I none 0 0 0 k/\∀j O o t H,I j O o t H->ite (decide (t<(C:Int))) (Bd t C/\aH Z λa=>aa.cJ H (a.add (toNat t*4)) λa'=>aa.NW H λf G=>aa.dv G (AA f 0) a' λi=>aa.cJ i (AA f 0) λb'=>Hu i f 1 λc'=>Cl 144 #[.U c'] i λe' w=>aa.EX λD=>e'=D.agg/\Kp i w [(Sa f 0)]/\Cl 278 #[b'.agg,D.agg] w λf' q=> ∃E,f'=.B E/\ite (!E) (R (.T #[.Z,.B false]) q) (Hu q f 1 λd'=>aW q (.C #[.U d'] 27) λF Q=>jE (Builtin.append_ #[309,309] 309 #[.L j O o,.L (Sa F 0) 1 1]) Q λg' y=> ∃u r T,g'=.L u r T/\(I u r T (wrap .i64 (t+1)) y/\M u r T (wrap .i64 (t+1)) y<M j O o t H))) (R (.T #[.L j O o,.B true]) H))) (λJ=> ∃z,Cc g b 0 (.I z)/\ite (z !=4) (J true g) (∃V A U,Cc g b 3 (.L V A U)/\J (((A:Nat):Int) !=n) g))):Cl 326 #[x.agg,.I n] h R:=aP [(4,.join [(18,sB)]),(16,.loop [(6,sS),(22,sI)]),(29,λ_=>pK 6)] S
def GJ (hv:aW h (.C x.arr 201) λb Q'=>av.NW Q' λf e'=>aB (λ(b3:Bool) H=>ite b3 (av.dv H (AA f 0) av.S.z λl'=>av.cJ l' (AA f 0) λr0=>R (.T #[r0.agg,.I 3]) l') (aB (λ(S:bZ) (r:bZ) a3=>av.NW a3 λk D=>aB (λ(ok:Bool) E=>ite (!ok) (av.dv E (AA f 0) av.S.z λm'=>av.cJ m' (AA f 0) λa8=>R (.T #[a8.agg,.I 3]) m') (av.cJ E (AA k 0) λd3=>av.dv E (AA f 0) d3 λn'=>av.cJ n' (AA f 0) λa9=>R (.T #[a9.agg,.I 0]) n')) (λF'=>aB (λ(b8:Bool) n=>aB (λ(a4:Bool) R'=>F' a4 R') (λG'=>ite b8 (av.dv n (AA f 0) av.S.z λc'=>av.cJ c' (AA f 0) λb0=>R (.T #[b0.agg,.I 0]) c') (aB (λ(c1:Bool) g=>aB (λ(a5:Bool) S'=>G' a5 S') (λQ=>ite c1 (aH r λa=>lW g (a.add 2) λc5 c4 c3=> ∃(A':cF),pV Tryz.prog 32 9 (.L c5 c4 c3) g A'/\Cl 60 #[.S A'] g λd4 T'=>av.EX λB'=> ∃C',d4=.T #[B'.agg,.B C']/\av.dv T' (AA k 0) B' λU'=>Q C' U') (aH S λH'=>aa.cJ g H' λc6=>Cl 144 #[.U 2] g λd5 d'=>aa.EX λD'=>d5=D'.agg/\Kp g d' [S]/\Cl 278 #[c6.agg,D'.agg] d' λd8 t=>Vb d8 λc7=>aB (λ(a6:Bool) V'=>Q a6 V') (λU=>ite c7 (aH r λI'=>aa.cJ t I' λc8=>Cl 326 #[c8.agg,.I 2] t λd9 o=> ∃F T c9 G,d9=.T #[.L F T c9,.B G]/\aB (λ(a7:Bool) X'=>U a7 X') (λV=>ite G (Bd 0 T/\aH F λJ'=>gZ o (J'.add (toNat 0*1)) λd0=>Bd 1 T/\aH F λK'=>gZ o (K'.add (toNat 1*1)) λd1=>av.dv o (AA k 0) ⟨true,d0,d1,(⟨#[]⟩:cF),(⟨#[]⟩:cF)⟩ λf'=>av.cJ f' (AA k 0) λd2=>Cl 53 #[d2.agg] f' λe0 Z'=> ∃E',e0=.B E'/\V E' Z') (V G o))) (U false t))))) (λO=>aH S λL'=>aa.cJ n L' λc2=>Cl 144 #[.U 1] n λe1 g'=>aa.EX λx'=>e1=x'.agg/\Kp n g' [S]/\Cl 278 #[c2.agg,x'.agg] g' λe2 u=> ∃y',e2=.B y'/\ite y' (aH r λM'=> ∃z',aU u M'=some (.I z')/\O (z'==3) u) (O false u))))) (λM=>aH S λO'=>aa.cJ D O' λb9=>Cl 144 #[.U 1] D λe3 h'=>aa.EX λt'=>e3=t'.agg/\Kp D h' [S]/\Cl 278 #[b9.agg,t'.agg] h' λe4 q=> ∃u',e4=.B u'/\ite u' (aH r λP'=>aa.cJ q P' λc0=>Cl 144 #[.U 0] q λe5 i'=>aa.EX λv'=>e5=v'.agg/\Kp q i' [r]/\Cl 278 #[c0.agg,v'.agg] i' λd6 a0=> ∃w',d6=.B w'/\M w' a0) (M false q)))) (λI=>Hl H b 3 λb5 b4 _=>Bd 0 b4/\aH b5 λi=>aa.cJ H (i.add (toNat 0*4)) λr'=>Hl H b 3 λb7 b6 _=>Bd 1 b6/\aH b7 λA=>aa.cJ H (A.add (toNat 1*4)) λs'=>(aa.NW H λX w=>Kp H w [(some (A.add (toNat 1*4))),(Sa b 3),(some (i.add (toNat 0*4))),(Sa b 3)]/\aa.NW w λZ y=>Kp w y [(some (A.add (toNat 1*4))),(Sa b 3),(some (i.add (toNat 0*4))),(Sa b 3)]/\aa.dv y (AA X 0) r' λj'=>Kp y j' [(some (A.add (toNat 1*4))),(Sa b 3)]/\aa.dv j' (AA Z 0) s' λa1=>I (Sa X 0) (Sa Z 0) a1)/\(aa.NW H λa' z=>Kp H z [(some (A.add (toNat 1*4))),(Sa b 3),(some (i.add (toNat 0*4))),(Sa b 3)]/\aa.NW z λb' C=>Kp z C [(some (A.add (toNat 1*4))),(Sa b 3),(some (i.add (toNat 0*4))),(Sa b 3)]/\aa.dv C (AA b' 0) r' λk'=>Kp C k' [(some (A.add (toNat 1*4))),(Sa b 3)]/\aa.dv k' (AA a' 0) s' λa2=>I (Sa b' 0) (Sa a' 0) a2)/\True))) (λJ=>aa.cJ e' (AA b 0) λt9=>Cl 146 #[t9.agg] e' λd7 j=> ∃o',d7=.B o'/\ite (!o') (J true j) (∃p',Cc j b 0 (.I p')/\ite (p' !=4) (J true j) (∃b2 q' b1,Cc j b 3 (.L b2 q' b1)/\J (((q':Nat):Int) !=2) j)))):Cl 276 #[x.agg] h R:=aP [(4,.join [(22,sB)]),(11,.join [(4,sP),(5,sP)]),(11,λ_=> .ob (gB 8 0 (.alts (.fork 8 (gB 3 9 .done) (.fork 9 (lO [8,10,11] .done) .hO))))),(17,.join [(7,sB)]),(19,.join [(32,sB)]),(19,λ_=>pK 9),(20,.join [(7,sB)]),(25,.join [(42,sB)]),(25,λ_=>pK 9),(26,.join [(7,sB)]),(29,λ_=>pK 4),(30,.join [(7,sB)]),(37,.join [(7,sB)]),(39,λ_=>pK 8)] hv

end
section
namespace Bn
open Cb
open ju (Ev cY mh)
variable {h:aA} {R:fp}
variable {n s q c l:Nat} {p:bZ} {B:cQ}
def VL(H:n<4294967296):IntKind.wrap .u32 (n:Int)=(n:Int):=by
 have e:IntKind.wrap .u32 (n)=(n)%4294967296:=by rfl
 omega
def XW(H:n<4294967296):(BitVec.ofInt (IntKind.bits .u32) (n:Int)).toNat=n:=by exact Nat.mod_eq_of_lt H
def Ro{a b:Nat}(H:a<4294967296)(d:b<4294967296):IntKind.wrap .u32 ((BitVec.ofInt (IntKind.bits .u32) (a:Int) ^^^ BitVec.ofInt (IntKind.bits .u32) (b:Int)).toNat:Int)=((a ^^^ b:Nat):Int):=by rw[BitVec.toNat_xor,XW H,XW d];exact VL (Nat.xor_lt_two_pow (n:=32) H d)
def WG(H:s<4294967296):IntKind.wrap .u32 ((BitVec.ofInt (IntKind.bits .u32) (s:Int) &&& BitVec.ofInt (IntKind.bits .u32) 1).toNat:Int)=((s%2:Nat):Int):=by rw[BitVec.toNat_and,XW H,show(BitVec.ofInt (IntKind.bits .u32) 1).toNat=1 from rfl,Nat.and_one_is_mod];exact VL ae
def VM(s:Nat):Int.fdiv (s:Int) (2 ^ min (Int.toNat 1) (IntKind.bits .u32))=((s/2:Nat):Int):=Rl s 1
def Pc(a:s<4294967296)(H:q<4294967296):A8 s q<4294967296:=by unfold A8;split;exact Nat.xor_lt_two_pow (show s/2<2 ^ 32 by omega) H;omega
theorem Rp(b:s<4294967296)(a:q<4294967296)(H:R (.int .u32 (A8 s q:Int)) h):Cl 353 #[.int .u32 (s:Int),.int .u32 (q:Int)] h R:=by refine Dd ?_;unfold A8 at H;rw[WG b,VM,Ro ae a];by_cases c:s%2=1;grind;grind
def ET(q:Nat): ∀(k s:Nat),Ba q (k+1) s=A8 (Ba q k s) q
 |0,_=>rfl
 |k+1,s=>by exact ET q k _
def EU(a:q<4294967296): ∀(k s:Nat),s<4294967296->Ba q k s<4294967296
 |0,_,H=>H
 |k+1,s,H=>EU a k _ (Pc H a)
theorem Pd(a:s<4294967296)(d:c<256)(H:q<4294967296)(b:R (.int .u32 (UU s c q:Int)) h):Cl 350 #[.int .u32 (s:Int),.int .u8 (c:Int),.int .u32 (q:Int)] h R:=by
 refine Bj ⟨λz t g=>g=h/\∃i:Nat,t=(i)/\i<=8/\z=(Ba q i (s ^^^ c)),λ_ t _=>8 - t.toNat,⟨rfl,0,rfl,ae,?_⟩,?_⟩;rw[VL (n:=c) ae,Ro a ae];rfl;rintro _ _ _ ⟨rfl,i,rfl,e,rfl⟩;by_cases C:i<8;rw[gH];refine Rp (EU H i (s ^^^ c) (Nat.xor_lt_two_pow (n:=32) (y:=c) a ae)) H ⟨_,rfl,?_⟩;rw[fc,<-ET];exact⟨⟨rfl,i+1,ae,ae,rfl⟩,by grind⟩;obtain rfl:i=8:=ae
 exact b
def Jc(a:q<4294967296): ∀(b:cQ)(s:Nat),s<4294967296->runN s b q<4294967296
 | [],_,H=>H
 |c::b,s,H=>Jc a b _ (EU a 8 _ (Nat.xor_lt_two_pow (n:=32) H (bN c.toNat_lt)))
theorem Rr(b:s<4294967296)(H:q<4294967296)(r:Row h p (bc B))(j:l=B.length)(k:B.length<=100000000)(f:R (.int .u32 (runN s B q:Int)) h):Cl 332 #[.int .u32 (s:Int),.L p l c,.int .u32 (q:Int)] h R:=by refine GI ⟨λz t g=>g=h/\∃i:Nat,t=(i)/\i<=B.length/\z=(runN s (B.take i) q),λ_ t _=>B.length - t.toNat,⟨rfl,0,rfl,ae,by rfl⟩,?_⟩;rintro _ _ _ ⟨rfl,i,rfl,e,rfl⟩;by_cases C:i<B.length;rw[gH];obtain⟨a,rfl,d⟩:=Cb.byte_at r C;refine⟨ae,ar.2 ⟨_,by grind,Pd (Jc H _ _ b) (B[i]).toNat_lt H ⟨_,rfl,?_⟩⟩⟩;rw[fc];refine⟨⟨rfl,i+1,ae,ae,?_⟩,by grind⟩;rw[aV,au C];unfold runN;rw[List.foldl_append];rfl;grind
def Rs(r:Row h p (bc B))(d:l=B.length)(f:B.length<=100000000)(H:R (.int .u16 (EB B:Int)) h):Cl 290 #[.L p l c] h R:=by
 refine De (Rr cW cW r d f ⟨_,rfl,?_⟩);unfold EB at H;generalize runN 65535 B 33800=z at H⊢;have e:IntKind.wrap .u16 (z)=((z%65536:Nat)):=by
  have e:IntKind.wrap .u16 (z)=(z)%65536:=by simp[IntKind.wrap,IntKind.bits,IntKind.signed]
  omega
 rw[e];have a:z%65536<65536:=ae
 generalize z%65536=y at H a⊢;have E:(BitVec.ofInt (IntKind.bits .u16) (IntKind.max .u16) ^^^ BitVec.ofInt (IntKind.bits .u16) (y)).toNat=65535 ^^^ y:=by rw[BitVec.toNat_xor,BitVec.ofInt_natCast,BitVec.toNat_ofNat,show(BitVec.ofInt (IntKind.bits .u16) (IntKind.max .u16)).toNat=65535 from rfl,show(2) ^ IntKind.bits .u16=65536 from rfl,Nat.mod_eq_of_lt a]
 rw[E];have b:IntKind.wrap .u16 ((65535 ^^^ y:Nat))=((65535 ^^^ y:Nat)):=by
  have g:=Nat.xor_lt_two_pow (n:=16) (x:=65535) cW ae;have e:IntKind.wrap .u16 ((65535 ^^^ y:Nat))=((65535 ^^^ y:Nat))%65536:=by rfl
  omega
 rw[b];exact H
def TP(r:Row h p (bc B))(a:l=B.length)(b:B.length<=100000000)(H:R (.int .u32 (CM B:Int)) h):Cl 291 #[.L p l c] h R:=by refine ER (Rr cW cW r a b ⟨_,rfl,?_⟩);have:=Ro (a:=4294967295) (b:=runN 4294967295 B 2197175160) cW (Jc cW _ _ cW);rw[show(IntKind.max .u32)=((4294967295:Nat))from rfl,this];exact H

end Bn
end
end Go.Proofs.YtelbcloplcdchaaGreatDoor
namespace Go.Den
def TQ{P:Program}{S d e:TypeId}{h:aA}{s:cF}{K:fp}(t:P.underlying S=some .string)(l:P.underlying d=some (.slice e))(m:P.underlying e=some (.int .u8))(o: ∀p c H,Row H p (bc s.data.toList)->s.size<=c->Fr No h H->(∀y,aL p y->h.size<=y)->K (.L p s.size c) H):bM P (convert S d (.S s)) h K:=by
 unfold convert;refine bY (s:=underlying S) (bH t) ?_;refine bY (s:=underlying d) (bH l) ?_;show bM P (underlying e>>=_) h K;refine bY (s:=underlying e) (bH m) ?_;show bM P (Conv.stringToBytes e s) h K;unfold Conv.stringToBytes;rw[fu];unfold choose;simp only[bM,Question.forced,az,aY,Question.cut];intro T;generalize x:s.size+T%(2 ^ 63 - s.size)=cap;have q:s.size<=cap:=ae
 generalize k:(s.data.map λb=>Value.int .u8 (b.toNat:Int))++Array.replicate (cap - s.size) (Value.int .u8 0)=C;have r: ∀j v,(bc s.data.toList)[j]? =some v->C[0+j]? =some v:=λj v f=>by have g:=(aJ.1 f).1;rw[ks,Array.length_toList]at g;rw[<-k,bj,dU (dH g),Array.getElem?_map,<-f];unfold bc;rw[aN,dP]
 show bM P (newRow e C>>=_) h K;rw[fu];show bM P (markStringish (AA h.size 0)>>=λ_=>pure (.L (Sa h.size 0) s.size cap)) (h.push (.C C e)) K;rw[fu];unfold markStringish shape;have u:rR (h.push (.C C e)) h.size=some (e,C.size):=by simp[rR]
 show bM P (match rR (h.push (.C C e)) h.size with|some (_,n)=>freeze { block:=h.size,off:=n } 1|_=>pure ()) (h.push (.C C e)) _;rw[u];show K (.L (Sa h.size 0) s.size cap) (pU (h.push (.C C e)) { block:=h.size,off:=C.size } 1);unfold pU;rw[dz];refine o _ _ _ (.inr ⟨_,rfl,dO (c:=C) (t:=e) (f:=if(0:Nat)==0 then(C.size,C.size+1)else(min 0 C.size,max 0 (C.size+1))) ?_ r⟩) q ⟨bt,λc w _=> ?_⟩ (λy ⟨A,E,i⟩=>by cases E;exact Nat.le_of_eq i);rw[dD,ag rfl,bR];rfl;rw[dD,af (by simp;omega),dh,dz]
end Go.Den
namespace Go.Proofs.YtelbcloplcdchaaGreatDoor
open Go.Den
namespace gg
variable {h H a : aA} {R : Value → aA → Prop}
def UX{s:cF}{K:fp}(b: ∀p c H,Row H p (bc s.data.toList)->s.size<=c->Fr No h H->(∀y,aL p y->h.size<=y)->K (.L p s.size c) H):bM Tryz.prog (convert 9 32 (.S s)) h K:=TQ uS uU u8 b
end gg
end Go.Proofs.YtelbcloplcdchaaGreatDoor
namespace Go.Proofs.YtelbcloplcdchaaGreatDoor
open Go.Den
open IntKind (wrap)
open Int (toNat)
section
variable {h:aA} {R:fp}
variable {x:Bool} {X a:Int} {b c:cF}
def GK (n:aW h (.C #[.B x,.U X,.U a,.S b,.S c] 29) λB f=>av.LD f (AA B 0) λw y z A C=>Cl 53 #[.agg #[.B w,.U y,.U z,.S A,.S C]] f λv H=> ∃k,v=.B k/\ite (!k) (R (.T #[.S (⟨#[]⟩:cF),.I 3]) H) (av.LD H (AA B 0) λD E F G I=> ∃(e:Bool),JS 29 (.agg #[.B D,.U E,.U F,.S G,.S I]) (.agg #[.B false,.U 0,.U 0,.S (⟨#[]⟩:cF),.S (⟨#[]⟩:cF)]) e/\ite e (R (.T #[.S (⟨#[100,116,110,58,110,111,110,101]⟩:cF),.I 0]) H) (∃i,Cc H B 0 (.B i)/\ite i (Hu H B 1 λo=>Hu H B 2 λj=>Cl 74 #[.U o,.I 10] H λV g=> ∃t,V=.S t/\Cc g B 2 (.U j)/\(((⟨#[105,112,110,58]⟩:cF).size+t.size:Nat):Int)<=IntKind.max .i64/\((((⟨#[105,112,110,58]⟩:cF)++t).size+(⟨#[46]⟩:cF).size:Nat):Int)<=IntKind.max .i64/\Cl 74 #[.U j,.I 10] g λJ l=> ∃T,J=.S T/\(((((⟨#[105,112,110,58]⟩:cF)++t)++(⟨#[46]⟩:cF)).size+T.size:Nat):Int)<=IntKind.max .i64/\R (.T #[.S ((((⟨#[105,112,110,58]⟩:cF)++t)++(⟨#[46]⟩:cF))++T),.I 0]) l) (av.LD H (AA B 0) λp q r s u=>Cl 75 #[.agg #[.B p,.U q,.U r,.S s,.S u]] H λK m=> ∃d,K=.S d/\(((⟨#[100,116,110,58]⟩:cF).size+d.size:Nat):Int)<=IntKind.max .i64/\R (.T #[.S ((⟨#[100,116,110,58]⟩:cF)++d),.I 0]) m)))):Cl 37 #[.agg #[.B x,.U X,.U a,.S b,.S c]] h R:=aP [(20,λ_=> .ni (lO [0,1,5,6,2,3,4,7,8,9,10] .done))] n
def GM (d:aW h (.C #[.B x,.U X,.U a,.S b,.S c] 29) λB H=>Hs H B 3 λt=>(((⟨#[47,47]⟩:cF).size+t.size:Nat):Int)<=IntKind.max .i64/\((((⟨#[47,47]⟩:cF)++t).size+(⟨#[47]⟩:cF).size:Nat):Int)<=IntKind.max .i64/\Hs H B 4 λT=>(((((⟨#[47,47]⟩:cF)++t)++(⟨#[47]⟩:cF)).size+T.size:Nat):Int)<=IntKind.max .i64/\R (.S ((((⟨#[47,47]⟩:cF)++t)++(⟨#[47]⟩:cF))++T)) H):Cl 75 #[.agg #[.B x,.U X,.U a,.S b,.S c]] h R:=aP [] d

end
section
namespace ju
variable {h:aA} {R:fp}
def mW(a b:cQ):str a++str b=str (a++b):=by rfl
def hZ(a:cQ):(str a).size=a.length:=by unfold str;rfl
def KW(s:cF):s=str s.data.toList:=(QO s).symm
def ml(s:cF):s.data.toList.length=s.size:=by rfl
def VN:IntKind.max .i64=9223372036854775807:=rfl
def NR(x:Ev)(g:x.host.size<=1000)(i:x.jl.size<=1000)(c: iG h R (.S (str ([47,47]++x.host.data.toList++ [47]++x.jl.data.toList)))):Cl 75 #[mh x] h R:=by refine GM (av.box λb a d H f=>⟨_,ai H,?_⟩);have e:(⟨#[47,47]⟩)=str [47,47]:=rfl;have E:(⟨#[47]⟩)=str [47]:=rfl;have l:=ml x.jl;rw[e,E,VN];refine⟨?_,?_,_,ai H,?_,?_⟩;rw[hZ];simp;omega;rw[KW x.host,mW,hZ,hZ];simp;omega;rw[KW x.host,mW,mW,hZ];simp;omega;exact(c a f)

end ju
end
section
namespace Cb
variable {h a H:aA} {R:fp} {D D':Nat→Prop}
abbrev CV.s(x:CV):aa.S:=⟨x.k,x.n,x.v.p,x.v.b.length,x.v.c,x.q,x.ll,x.cl⟩
abbrev nv(n:Nat):CV:=⟨0,n,⟨none,0, []⟩,none,0,0⟩
def xx.frame{Q:gF}{t:Tr}{x:CV}(j:xx h D t x)(f:Fr Q h H)(e: ∀y,D y->¬Q y):xx H D t x:=by have⟨⟨A,b,c,d⟩,n,k,l,i,m⟩:=j;exact⟨⟨A,b,c,d.frame f e⟩,n,k,l.frame f (λy g=>e y (i y g)),i,eZ.frame f (λy g=>e y g.1) m⟩
def xx.mono{t:Tr}{x:CV}(g:xx h D t x)(f: ∀y,D y->D' y):xx h D' t x:=by have⟨⟨A,b,c,d⟩,m,i,j,k,l⟩:=g;exact⟨⟨A,b,c,d.mono f⟩,m,i,j,λy e=>f y (k y e),eZ.mono (λy e=>⟨f y e.1,e.2⟩) l⟩
abbrev Jd(h:aA)(t:Tr)(x:CV):Prop:=iD h (λ_=>True) t x
abbrev GN(h:aA)(t:List Tr)(x:List CV):Prop:=eZ h (λ_=>True) t x
def iD.u{t:Tr}{x:CV}(b:iD h D t x):Jd h t x:=b.mono λ_ _=>trivial
def eZ.u{t:List Tr}{x:List CV}(b:eZ h D t x):GN h t x:=b.mono λ_ _=>trivial
def xx.u{t:Tr}{x:CV}(b:xx h D t x):Jd h t x:=b.Wp.u
def eZ.nil:eZ h D [] []:=by unfold eZ;trivial
def eZ.cons{t:Tr}{y:CV}{T:List Tr}{c:List CV}(A:iD h D t y)(b:eZ h D T c):eZ h D (t::T) (y::c):=by exact⟨A,b⟩
def oZ{n:Nat}:Jd h (num n) (nv n):=VJ.Wp
def two{t u:Tr}{x y:CV}(A:iD h D t x)(b:iD h D u y):eZ h D [t,u] [x,y]:=.cons A (.cons b .nil)
def qZ{ys:List CV}{K:Nat->dw}{c:Array Value}(f:c=(ys.flatMap kx).toArray)(g: ∀b H,b=h.size->(∀D,D b->nV H D (Sa b 0) ys.length ys.length ys)->Fr No h H->K b H):aW h (.C c 201) K:=by refine cg (g _ _ rfl (λD d=>⟨rfl,by rw[f];exact jj,λ_ y ⟨A,e,E⟩=>by cases e;rw[<-E];exact d,bu _⟩) (Fr.push _ _))
def sH{ts:List Tr}{ys:List CV}{c:Array Value}{l:Nat}(T:GN h ts ys)(k:dS ts<=100000000)(e:c=(ys.flatMap kx).toArray)(j:l=ys.length)(i: ∀H z,xx H (λy=>h.size<=y) (vG ts) z->Fr No h H->R z.agg H):
  aW h (.C c 201) λb g=>Cl 210 #[.L (Sa b 0) l l] g R:=by
 subst j;refine qZ e λb m E L f=>lu (L (λ_=>True) trivial) (T.on f) k λd z t F=>i d z (t.mono λy n=>bN f.1) (f.tt F)
theorem qi{s:cF}(n: ∀H (v:BV),v.b=s.data.toList->v.ok H (λy=>h.size<=y)->Fr No h H->R (CV.agg ⟨3,0,v,none,0,0⟩) H):Cl 211 #[.S s] h R:=by
 refine EK (aa.box λb w t g m=>gg.UX λp c x r i f o=>⟨_,_,_,rfl,aa.set (f.get g id) λd j k l=>aa.ld j ?_⟩);have F:=Fr.of_eq k (λc i=>l c i);have Z:=aD g;have e:=(ju.ml s).symm;have O:BV.ok d (λy=>h.size<=y) ⟨p,c,s.data.toList⟩:=by refine⟨?_,λ_ y z=>by grind,by grind⟩;by_cases q:s.data.toList= [];rw[q];exact Row.nil;exact r.frame F (λA E u=>bN (o A.block ⟨A,E,rfl⟩))
 have:=n d ⟨p,c,s.data.toList⟩ rfl O ((m.tt f).fresh F (λy e=>ae));exact this
end Cb
namespace Bn
open Cb
open ju (Ev cY mh)
variable {V : List UInt8 → Bool} {h a H : aA} {R : Value → aA → Prop} {D : Nat → Prop}
abbrev _root_.Go.Proofs.YtelbcloplcdchaaGreatDoor.ju.Ev.s(x:Ev):av.S:=⟨x.jY,x.node,x.fK,x.host,x.jl⟩
def fin{b:Nat}{y:aa.S}{z:CV}{t:Tr}{K:aa.S->dw}(e:aa.fR h b y)(T:xx h D t z)(c: ∀y,D y->y≠b)(i: ∀H,xx H D t z->Fr (λy=>y=b) h H->K z.s H):
  aa.dv h (AA b 0) z.s λg=>aa.cJ g (AA b 0) λr=>K r g:=
 aa.iB (x:=z.s) e λg d f _=>aa.fX d (i g (T.frame f c) f)
def Je{b:Nat}{y:aa.S}{K:aa.S->dw}(c:aa.fR h b y)(e: ∀H,Fr (λy=>y=b) h H->K .z H):
  aa.dv h (AA b 0) .z λg=>aa.cJ g (AA b 0) λr=>K r g:=
 aa.iB c λg d f _=>aa.fX d (e g f)
def oL(x:Ev)(b:cY x=true):room (GC x)<=200:=by unfold GC;split;decide;rename_i z;split;simp[room,dS];rename_i c;unfold cY at b;rw[af z,af c]at b;simp only[aZ,bn]at b;have:=ju.ml x.host;have:=ju.ml x.jl;simp only[room,dS,KL,aq,ba,cA];omega
abbrev zv:CV:=⟨0,0,⟨none,0, []⟩,none,0,0⟩
theorem Bq(x:Ev)(w1:0<=x.fK)(Z:cY x=true->∀H z,xx H (λy=>h.size<=y) (GC x) z->Fr No h H->R (.T #[z.agg,.I 0]) H)(k2:cY x=false->iG h R (.T #[zv.agg,.I 3])):Cl 142 #[mh x] h R:=by
 refine ES (x:=x.s) (av.cV λa' h1 eb K q=>aa.cV λB h2 b' L n=>av.fX (n.get K id) (ju.fD x λJ f=>⟨_,rfl,?_⟩));have d:=(n.tt f).get K id;have M:=f.get L id;have p:=q.tt (n.tt f);have z1:=q.1;have j':=aD L;have z3:=f.1;have done: ∀g z,cY x=true->xx g (λy=>J.size<=y) (GC x) z->Fr No J g->aa.dv g (AA B 0) z.s λc=>aa.cJ c (AA B 0) λr0=>R (.T #[r0.agg,.I 0]) c:=λg z b tz I=>fin (I.get M id) tz (λy j e=>ae) λc t4 o=>Z b c z (t4.mono λy j=>ae) ((p.tt I).fresh o (λy e=>ae));cases b:cY x with
 |false=>exact Je M λc o=>k2 b c (p.fresh o (λy e=>ae))
 |true=>
  have done:=λg z=>done g z b;rw[dz];refine av.fX d ⟨_,ju.zQ (y:=.zero) (x:=x) rfl rfl,?_⟩;have E:room (GC x)<=200:=oL x b;unfold GC at done E;unfold cY at b;by_cases z:x=.zero
  .rw[ag (aC z)];simp only[ag z]at done;exact fT (n:=1) λh5 C=>aa.ex (nv 1).s ⟨rfl,fT (n:=0) λh6 G=>aa.ex (nv 0).s ⟨rfl,sH (two oZ oZ) (by simp[room,dS]) rfl rfl λX y T Q=>aa.ex y.s ⟨rfl,done X y (T.mono λy j=>gM C.1 G.1) (C.tt (G.tt Q))⟩⟩⟩
  rw[af (by grind)];rw[af z]at b;simp only[af z]at done E;refine⟨_,ai d,?_⟩;by_cases i:x.jY=true
  .rw[ag i]at b⊢;simp only[ag i]at done;have b:=bk b;have n1:x.node=(x.node.toNat:Int):=ae
   have n2:x.fK=(x.fK.toNat:Int):=ae
   refine⟨_,ai d,_,ai d,fT (n:=2) λc' F=>aa.ex (nv 2).s ⟨rfl,F.kp,?_⟩⟩;dsimp only;rw[n1];refine fT λd' l=>aa.ex (nv x.node.toNat).s ⟨rfl,l.kp,?_⟩;rw[n2];refine fT λe' r=>aa.ex (nv x.fK.toNat).s ⟨rfl,sH (two oZ oZ) (by simp[room,dS]) rfl rfl λf' y T s=>aa.ex y.s ⟨rfl,sH (ys:= [nv 2,y]) (two oZ T.u) (by simp[room,dS]) rfl rfl λS u t O=>aa.ex u.s ⟨rfl,?_⟩⟩⟩;exact done S u (t.mono λy j=>by have:=F.1;have:=l.1;have:=r.1;have:=s.1;omega) (F.tt (l.tt (r.tt (s.tt O))))
  .rw[af i]at b⊢;simp only[af i]at done E;simp only[aZ,bn]at b;refine av.fX d (fT (n:=1) λg' m=>aa.ex (nv 1).s ⟨rfl,m.kp,ju.NR x ae ae λh' w=>⟨_,rfl,qi λi' v k ov A=>aa.ex (CV.s ⟨3,0,v,none,0,0⟩) ⟨rfl,?_⟩⟩⟩);have k:v.b=KL x:=by rw[k];unfold str;simp[KL]
   refine sH (ts:= [num 1,.mk 3 0 (KL x) []]) (ys:= [nv 1,⟨3,0,v,none,0,0⟩]) (two oZ (k▸HK ov).u) (by simp only[room,cA]at E⊢;omega) rfl rfl λU u t P=>aa.ex u.s ⟨rfl,?_⟩;exact done U u (t.mono λy j=>zq m.1 w.1 A.1) (m.tt (w.tt (A.tt P)))
end Bn
end
section
namespace Bn
open Cb
open ju (Ev cY mh)
variable {V:cQ→Bool} {h a H:aA} {R:fp} {D:Nat→Prop}
variable {b i o:Nat} {x:CV} {c:Array Value} {ts:List Tr} {t:Tr} {T:TypeId}
theorem XX{l:List (bZ)}(f:Fr (λy=>y=b) h H)(d: ∀p∈l,p.map (·.block)≠some b):Kp h H l:=f.XE λp g x e j=>d p g (by grind)
def MH{y:av.S}{x:Ev}{K:av.S->dw}(e:av.fR h b y)(j: ∀H,Fr (λy=>y=b) h H->K x.s H):
  av.dv h (AA b 0) x.s λg=>av.cJ g (AA b 0) λr=>K r g:=
 av.iB (x:=x.s) e λg d f _=>av.fX d (j g f)
def VO(l:cQ):(!((⟨l.toArray⟩:cF).toList==(⟨#[]⟩:cF).toList))= !l.isEmpty:=bt
theorem zZ{s:cF}(M:jS.Mx h)(O:s.size<1000000)(C: iG h R (.T #[mh (vJ s.data.toList),.B (vK s.data.toList)])):Cl 60 #[.S s] h R:=by
 refine yy (av.cV λb L J v F=>jS.A7 ⟨_,_,rfl,jS.A6 (M.on F) ?_ ⟨_,_,_,rfl,av.gw λI j K d m=>av.fX d ?_⟩⟩);show(Lib.trimPrefix s.data.toList _).length<_;have:=ju.ml s;unfold Lib.trimPrefix;split;grind;omega;have E:(⟨(Lib.trimPrefix s.data.toList (⟨#[47,47]⟩:cF).data.toList).toArray⟩:cF).data.toList=Lib.trimPrefix s.data.toList [47,47]:=bt
 rw[E]at d⊢;rw[show(⟨#[47]⟩:cF).data.toList= [47]from rfl]at d⊢;rw[show(⟨#[47,47]⟩:cF).data.toList= [47,47]from rfl];have z:(⟨false,0,0,⟨(Lib.cut (Lib.trimPrefix s.data.toList [47,47]) [47]).1.toArray⟩,⟨(Lib.cut (Lib.trimPrefix s.data.toList [47,47]) [47]).2.1.toArray⟩⟩:av.S)=(vJ s.data.toList).s:=rfl;rw[z]at d⊢;have Z:=F.1;have w:=F.tt m;have P:=aD v;have B:=m.get v id;have done: ∀g q,Fr No j g->q=vK s.data.toList->av.dv g (AA b 0) (vJ s.data.toList).s λG=>av.cJ G (AA b 0) λr=>R (.T #[r.agg,.B q]) G:=λg q p e=>MH (p.get B id) λG f=>by rw[e];exact C G ((w.tt p).fresh f (λy e=>ae))
 rw[VO];cases k:Lib.hasPrefix s.data.toList [47,47]with
 |false=>exact done j _ (Fr.refl _ _) (by unfold vK;rw[k];rfl)
 |true=>
  rw[ag rfl];cases l:(Lib.cut (Lib.trimPrefix s.data.toList [47,47]) [47]).2.2 with
  |false=>exact done j _ (Fr.refl _ _) (by unfold vK;rw[k,l];rfl)
  |true=>
   rw[ag rfl];cases u:(Lib.cut (Lib.trimPrefix s.data.toList [47,47]) [47]).1.isEmpty with
   |true=>exact done j _ (Fr.refl _ _) (by unfold vK;rw[k,l,u];rfl)
   |false=>rw[ag (show(!false)=true from rfl)];exact av.fX d (ju.fD (vJ s.data.toList) λA n=>⟨_,rfl,n.kp,done A _ n (by unfold vK;rw[k,l,u];rfl)⟩)
def t64:pJ Tryz.prog 309 27 1 8 (.U 0):=⟨cZ,cZ,rfl⟩
def u64:Tryz.prog.underlying 309=some (.slice 27):=cZ
abbrev nc(l:List Tr):List Value:=l.map λt=> .int .u64 (t.n:Int)
def elem{D:gF}{q:bZ}{l c:Nat}{d:List CV}(L:nV h D q l c d)(f:eZ h D ts d)(j:i<ts.length): ∃(A:Addr)(y:CV),q=some A/\cH (A.add (i*4)) y.s.l 0 h/\iD h D (at_ ts i) y/\d[i]? =some y:=by have k:=f.len;have e:d[i]? =some (d[i]' ae):=au _;obtain⟨t,g,T⟩:=f.get e;obtain⟨A,rfl⟩:=L.row.any iy;refine⟨A,_,rfl,L.row.fa iy e,?_,e⟩;unfold at_;rw[bx,g];exact T
def jH(d:i<ts.length):room (at_ ts i)<=dS ts:=by unfold at_;rw[bx,au d];exact oK (fZ d)
theorem KX(B:Jd h t x)(hr:room t<=1000000)(K:t.k=4->t.l.length=2->EC t.l=true->∀H p c,Row H p (nc t.l)->Fr No h H->R (.T #[.L p 2 c,.B true]) H)(z: ¬(t.k=4/\t.l.length=2/\EC t.l=true)->iG h R (.T #[.Z,.B false])):Cl 326 #[x.agg,.I 2] h R:=by
 have f':=B;cases t with
 |mk k d' b l=>
  simp only[room]at hr;have K:k=4->l.length=2->EC l=true->∀H p c,Row H p (nc l)->Fr No h H->R (.T #[.L p 2 c,.B true]) H:=K;have z: ¬(k=4/\l.length=2/\EC l=true)->∀H,Fr No h H->R (.T #[.Z,.B false]) H:=z;unfold iD at B;obtain⟨⟨rfl,rfl,rfl,e'⟩,ys,L,C⟩:=B;have ln:=C.len;have e0:=L.len;refine Bp (x:=x.s) (aa.cV λbb u eb v E=>aB.of λJ Z=>⟨_,ai v,?_⟩);have no: ¬(x.k=4/\l.length=2)->J true u:=λd=>by grind
  by_cases I:x.k=4
  case neg=>grind
  rw[af (dH I)];refine⟨_,_,_,ai v,?_⟩;by_cases l2:l.length=2
  case neg=>grind
  rw[show((x.ll:Int) !=2)=false by grind];subst Z;rw[dz];have sl:x.s.JT=2:=by show x.ll=2;omega
  refine⟨_,_,_,ai v,?_⟩;refine⟨λp len c t g=> ∃i:Nat,t=(i:Int)/\i<=2/\i=len/\Own g p i c 1 (nc (l.take i))/\(∀y,aL p y->u.size<=y)/\Fr No u g/\EC (l.take i)=true,λ_ _ _ t _=>2 - t.toNat,⟨0,rfl,ae,rfl,by rw[fN];exact .nil rfl rfl rfl rfl,(λy ⟨A,e,_⟩=>by cases e),Fr.refl _ _,by rw[fN];rfl⟩,?_⟩;rintro p _ c _ g ⟨i,rfl,hi,rfl,O,M,F,d⟩;by_cases a':i<2;rw[gH];have n:=E.tt F;obtain⟨A,y,P,hh,T,j⟩:=elem (L.frame n bC) (C.on n) (i:=i) ae;refine⟨ae,bU.2 ⟨A,P,(aa.iR (x:=y.s) (by rw[aK];exact hh) (aa.gw (x:=y.s) λb1 h5 c' w r=>aa.fX w ⟨_,ai w,fT λh6 f=>aa.ex (nv y.n).s ⟨rfl,f.kp,?_⟩⟩))⟩⟩;have ra:=jH (ts:=l) (i:=i) ae;have Q:l.take (i+1)=l.take i++ [at_ l i]:=by rw[aV];unfold at_;rw[bx,au ae];rfl
  have yn:y.n=(at_ l i).n:=by revert T;generalize at_ l i=b';intro T;cases b';unfold iD at T;exact T.1.2.1
  refine jv (t:=at_ l i) (s:=num y.n) (x:=y) (y:=nv y.n) (T.on (r.tt f)) oZ ae λX s=>⟨_,rfl,?_⟩;rw[yn];cases q:qO (at_ l i) (num (at_ l i).n)with
  |false=>rw[gH];refine z (λe=> ?_) X (n.tt (r.tt (f.tt s)));have:=List.all_eq_true.1 e.2.2 (at_ l i) (by unfold at_;rw[bx,au ae];exact fZ _);rw[q]at this;cases this
  |true=>rw[dz];have m:=r.tt (f.tt s);refine⟨_,ai ((f.tt s).get w id),iV t64 u64 (O.frame m bC) rfl (λg' G=>by simp at G;rw[G];rfl) ae ae λp2 c2 h9 o9 S U=>⟨_,_,_,rfl,?_⟩⟩;rw[dJ (n:=(i:Int)+1) ae ae];refine⟨⟨i+1,ae,ae,ae,?_,λy j=> ?_,(F.tt m).fresh S (λy j=>M y j),?_⟩,by grind⟩;grind;rcases U y j with A|A;exact M y A;have:=F.1;have:=m.1;omega;rw[Q];unfold EC at d⊢;rw[List.all_append,d];simp[q]
  rw[af (λe=>a' (bN (bk e)))];obtain rfl:i=2:=ae
  rw[aX ae]at d O;exact K I l2 d g p c O.hT (E.tt F)
def iD.kn(e:iD h D t x):x.k=t.k/\x.n=t.n/\x.v.b=t.b/\x.ll=t.l.length/\x.v.ok h D/\∃y,nV h D x.q x.ll x.cl y/\eZ h D t.l y:=by
 cases t with
 |mk k n b l=>have⟨⟨A,f,g,j⟩,y,L,d⟩:=e;exact⟨A,f,g,by rw[L.len,<-d.len];rfl,j,y,L,d⟩
def mn :dS t.l+t.b.length+9=room t:=by cases t;simp only[room,Tr.l,Tr.b];omega
def WH{p:Addr}{n:Nat}(h:p.block≠b):(some (p.add n)).map Addr.block≠some b:=by simp only[eu,oI];exact λe=>h (bF e)
def Rt(U:mG V a)(c3:Fr No a h)(mx:jS.Mx h)(tx:Jd h t x)(hr:room t<=900000)(K: ∀e,qQ V t=some e->iG h R (.T #[mh e,.I 0]))(k:qQ V t=none->iG h R (.T #[mh .zero,.I 3])):Cl 276 #[x.agg] h R:=by
 obtain⟨xk,xn,xb,xl,xv,ys,L,TS⟩:=iD.kn tx;have rl:=mn (t:=t);refine GJ (x:=x.s) (aa.cV λb h1 eb hb f1=>av.cV λb1 h2 d0 G' B=>aB.of λO' hJ=>aa.fX (B.get hb id) (fD U (c3.tt (f1.tt B)) ((tx.on f1).on B) ae λh3 f3=>⟨_,rfl,?_⟩));have A:=f1.tt (B.tt f3);have a':=(B.tt f3).get hb id;have H':=f3.get G' id;have zb:=aD hb;have f0:=aD G';have z1:=f1.1;have z2:=B.1;have z3:=f3.1;have Z:qQ V t=none->O' true h3:=λhn=>by subst hJ;dsimp only;rw[ag rfl];exact MH (x:=.zero) H' λg f=>k hn g (A.fresh f (λy e=>ae))
 cases hR:iQ V t with
 |false=>exact Z (by unfold qQ;rw[af (λe=>by rw[hR]at e;cases e.1)])
 |true=>
 rw[af (show¬(!true)=true by decide)];refine⟨_,ai a',?_⟩;have e4:x.s.f0=t.k:=xk;rw[e4];by_cases k4:t.k=4
 case neg=>rw[ag (dH k4)];exact Z (by unfold qQ;rw[af (λe=>k4 e.2.1)])
 rw[af (dH k4)];refine⟨_,_,_,ai a',?_⟩;have el:x.s.JT=t.l.length:=xl;rw[el];by_cases l2:t.l.length=2
 case neg=>rw[show((t.l.length:Int) !=2)=true by simp only[fi,ne_eq];omega];exact Z (by unfold qQ;rw[af (λe=>l2 e.2.2)])
 rw[show((t.l.length:Int) !=2)=false by simp only[gy];omega];clear Z;subst hJ;dsimp only;rw[af (show¬false=true by decide)];unfold qQ at K k;rw[ag ⟨hR,k4,l2⟩]at K k;obtain⟨a0,z,Q',I',c',_⟩:=elem (L.frame A bC) (TS.on A) (i:=0) ae;obtain⟨a1,r,R',J',d',_⟩:=elem (L.frame A bC) (TS.on A) (i:=1) ae;have r0:=jH (ts:=t.l) (i:=0) ae;have r1:=jH (ts:=t.l) (i:=1) ae;generalize at_ t.l 0=P at c' r0 K k;generalize at_ t.l 1=d at d' r1 K k;refine aB.of λJ1 a8=>⟨_,_,_,ai a',ae,bU.2 ⟨a0,Q',aa.iR (x:=z.s) I' ⟨_,_,_,ai a',ae,bU.2 ⟨a1,R',aa.iR (x:=r.s) J' ?_⟩⟩⟩⟩;have K': ∀g v' t',aa.fR g v' z.s->aa.fR g t' r.s->Fr No h3 g->J1 (Sa v' 0) (Sa t' 0) g:=by
  intro g v' t' hs b7 p;subst a8;have Fg:=A.tt p;have zg:=p.1;refine av.cV λE v d1 p' l=>aB.of λX F'=>aB.of λJ3 a9=> ?_;have s':=l.get hs id;have O:=l.get b7 id;have r':=(p.tt l).get H' id;have f2:=aD p';have S:=Fg.tt l;have z6:=l.1;have C': ∀G e,av.fR G E e.s->Fr (λy=>y=E) v G->(iG h R (.T #[mh e,.I 0]))->X true G:=λG e he f hk=>by subst F';rw[dz];exact av.fX he (MH (f.get r' ae) λm F=>hk m ((S.fresh f (λy e=>ae)).fresh F (λy e=>ae)))
  have b': ∀G,Fr (λy=>y=E) v G->(iG h R (.T #[mh .zero,.I 3]))->X false G:=λG f hk=>by subst F';rw[gH];exact MH (x:=.zero) (f.get r' ae) λm F=>hk m ((S.fresh f (λy e=>ae)).fresh F (λy e=>ae))
  have L': ∀{G},Fr No v G->Fr (λy=>y=E) v G:=λf=>f.mono λ_ _=>False.elim;obtain⟨c6,e8,c4,e7,c7,e9,L1,c8⟩:=iD.kn d';have e6:=mn (t:=d);have j3: ∀q G,Fr No v G->q=decide (qO P (num 1)=true/\qO d (num 0)=true)->J3 q G:=by
   intro q G f M;subst a9;refine aB.of λJ4 b0=> ?_;cases q with
   |true=>rw[ag rfl];have c:=bk M.symm;exact MH (x:=.zero) (f.get r' id) λm F=>K _ (by rw[ag c]) m ((S.tt f).fresh F (λy e=>ae))
   |false=>
    rw[dz];have c:=fV M.symm;rw[af c]at K k;have b9:=f.get s' id;have e1:=f.get O id;refine aB.of λJ5 b2=>ar.2 (aa.fX b9 (fT (n:=1) λd5 j'=>aa.ex (nv 1).s ⟨rfl,j'.kp,jv (x:=z) (y:=nv 1) (c'.on (p.tt (l.tt (f.tt j')))) oZ ae λd6 Z'=>⟨_,rfl,?_⟩⟩));have j5: ∀q m,Fr No v m->q=decide (qO P (num 1)=true/\d.k=3)->J5 q m:=by
     intro q m F M;have c2:=F.get s' id;have b8:=F.get O id;have G7:=p.tt (l.tt F);subst b2;refine aB.of λJ6 b5=> ?_;have j6: ∀q g,X q g->J6 q g:=λq g hh=>by subst b5;subst b0;exact hh
     cases q with
     |true=>
      rw[ag rfl];have c5:=bk M.symm;rw[ag c5]at K k;have ev:r.v.b=d.b:=c4;refine ar.2 ⟨_,_,_,ai b8,str d.b,gg.conv (by rw[<-ev];exact(c7.frame G7 bC).row) (by show r.v.b.length=_;rw[ev]),zZ (mx.on (S.tt F)) (by rw[ju.hZ];omega) λd2 A'=> ?_⟩;have ed:(str d.b).data.toList=d.b:=by unfold str;simp
      rw[ed];refine av.ex (vJ d.b).s ⟨_,rfl,av.iB (x:=(vJ d.b).s) ((F.tt A').get p' id) λD' P' U' _=>j6 _ _ ?_⟩;have w':=Fr.no (F.tt A') U';cases j:vK d.b with
      |true=>exact C' D' _ P' w' (K _ (by rw[ag j]))
      |false=>exact b' D' w' (k (by rw[af (by rw[j];decide)]))
     |false=>
      rw[dz];have c5:=fV M.symm;rw[af c5]at K k;refine ar.2 (aa.fX c2 (fT (n:=2) λd3 h'=>aa.ex (nv 2).s ⟨rfl,h'.kp,jv (x:=z) (y:=nv 2) (c'.on (G7.tt h')) oZ ae λa4 V'=>⟨_,rfl,aB.of λJ7 b6=> ?_⟩⟩));have j7: ∀q g,X q g->J7 q g:=λq g hh=>by subst b6;exact j6 _ _ hh
      have C:=F.tt (h'.tt V');cases e2:qO P (num 2)with
      |false=>rw[dz];exact j7 _ _ (b' a4 (L' C) (k (by rw[af (by rw[e2];decide)])))
      |true=>
       rw[ag rfl];rw[ag e2]at K k;refine ar.2 (aa.fX (C.get O id) (KX (d'.on (p.tt (l.tt C))) ae (λq4 q2 qn E' M' c u' i'=>⟨_,_,_,_,rfl,aB.of λJ8 o'=> ?_⟩) (λqn E' i'=>⟨_,_,_,_,rfl,aB.of λJ8 o'=> ?_⟩)));rw[ag rfl];have n0:(nc d.l)[0]? =some (.U ((at_ d.l 0).n:Int)):=by unfold nc at_;rw[aN,bx,au ae];rfl
       have n1:(nc d.l)[1]? =some (.U ((at_ d.l 1).n:Int)):=by unfold nc at_;rw[aN,bx,au ae];rfl
       obtain⟨c9,rfl⟩:=u'.some (by intro e;rw[e]at n0;cases n0);have c0:=u'.cell n0;have c1:=u'.cell n1;have x':=C.tt i';refine⟨ae,ar.2 ⟨_,by rw[show Int.toNat 0*1=0 from rfl];exact c0,ae,ar.2 ⟨_,by rw[show Int.toNat 1*1=1 from rfl];exact c1,av.iB (x:=(Rc d).s) (x'.get p' id) λd4 z' X' _=>av.fX z' (ju.fD (Rc d) λm' B'=>⟨_,rfl,?_⟩)⟩⟩⟩;have y':Fr (λy=>y=E) v m':=(Fr.no x' X').on B';subst o';refine j7 _ _ ?_;cases j:cY (Rc d)with
       |true=>exact C' m' _ (B'.get z' id) y' (K _ (by rw[ag ⟨q4,q2,qn,j⟩]))
       |false=>exact b' m' y' (k (by rw[af (λe=>by rw[j]at e;cases e.2.2.2)]))
       rw[dz];subst o';exact j7 _ _ (b' E' (L' (C.tt i')) (k (by rw[af (λe=>qn ⟨e.1,e.2.1,e.2.2.1⟩)])))
    have e':=f.tt (j'.tt Z');cases I:qO P (num 1)with
    |false=>rw[dz];exact j5 _ _ e' (by rw[I];simp)
    |true=>rw[ag rfl];refine ar.2 ⟨_,ai (e'.get O id),j5 _ _ e' ?_⟩;rw[show r.s.f0=d.k from c6,I];by_cases q:d.k=3<;>simp[q]
  refine ar.2 (aa.fX s' (fT (n:=1) λd7 k'=>aa.ex (nv 1).s ⟨rfl,k'.kp,jv (x:=z) (y:=nv 1) (c'.on (p.tt (l.tt k'))) oZ ae λd8 a2=>⟨_,rfl,?_⟩⟩));have Q:=k'.tt a2;cases I:qO P (num 1)with
  |false=>rw[dz];exact j3 _ _ Q (by rw[I];simp)
  |true=>rw[ag rfl];refine ar.2 (aa.fX (Q.get O id) (fT (n:=0) λd9 l'=>aa.ex (nv 0).s ⟨rfl,l'.kp,jv (x:=r) (y:=nv 0) (d'.on (p.tt (l.tt (Q.tt l')))) oZ ae λe0 a3=>⟨_,rfl,?_⟩⟩));exact j3 _ _ (Q.tt (l'.tt a3)) (by rw[I];simp)
 have e3:a0.block<h3.size:=by have:=I'.1;have:=vf this;rwa[oI,oI]at this
 have e5:a1.block<h3.size:=by have:=J'.1;have:=vf this;rwa[oI,oI]at this
 refine⟨aa.cV λb3 a5 S' w n=>⟨n.kp,aa.cV λb4 a6 T' q' s=>⟨s.kp,aa.iB (x:=z.s) (s.get w id) λa7 f' u _=>⟨XX u ?_,aa.iB (x:=r.s) (u.get q' (bN (aD w))) λn' g' J _=> ?_⟩⟩⟩,
  aa.cV λb3 a5 S' w n=>⟨n.kp,aa.cV λb4 a6 T' q' s=>⟨s.kp,aa.iB (x:=z.s) q' λa7 f' u _=>⟨XX u ?_,aa.iB (x:=r.s) (u.get (s.get w id) (bN (aD w))) λn' g' J _=> ?_⟩⟩⟩,trivial⟩
 intro M' j;simp only[bG,gX,or_false]at j;rcases j with rfl|rfl;exact WH ae;simp only[eu];intro e;have:=bF e;omega;have:=aD w;have:=n.1;exact K' n' b3 b4 (J.get f' ae) g' (((n.tt s).fresh u (λy e=>ae)).fresh J (λy e=>ae));intro M' j;simp only[bG,gX,or_false]at j;have:=n.1;rcases j with rfl|rfl;exact WH ae;simp only[eu];intro e;have:=bF e;omega;have:=aD w;have:=n.1;exact K' n' b4 b3 (J.get f' ae) g' (((n.tt s).fresh u (λy e=>ae)).fresh J (λy e=>ae))
abbrev jP.s(x:jP):ah.S:=⟨x.e.jY,x.e.node,x.e.fK,x.e.host,x.e.jl,x.tm,x.sq⟩
def jx(x:Ev){K:av.S->Prop}(d:h[b]? =some (.C c T (0,0)))(a:c[o]? =some (.B x.jY))(e:c[o+1]? =some (.U x.node))(f:c[o+2]? =some (.U x.fK))(g:c[o+3]? =some (.S x.host))(j:c[o+4]? =some (.S x.jl))(k:K x.s):av.cJ h (AA b o) K:=
 ⟨_,gm d a,_,gm d e,_,gm d f,_,gm d g,_,gm d j,k⟩
def EW(x:jP){K:ah.S->Prop}(d:h[b]? =some (.C c T (0,0)))(a:c[o]? =some (.B x.e.jY))(e:c[o+1]? =some (.U x.e.node))(f:c[o+2]? =some (.U x.e.fK))(g:c[o+3]? =some (.S x.e.host))(j:c[o+4]? =some (.S x.e.jl))(k:c[o+5]? =some (.U (x.tm:Int)))(l:c[o+6]? =some (.U (x.sq:Int)))(m:K x.s):ah.cJ h (AA b o) K:=
 ⟨_,gm d a,_,gm d e,_,gm d f,_,gm d g,_,gm d j,_,gm d k,_,gm d l,m⟩
def Jf{y:ah.S}(x:jP){K:ah.S->dw}(e:ah.fR h b y)(j: ∀H,Fr (λy=>y=b) h H->K x.s H):
  ah.dv h (AA b 0) x.s λg=>ah.cJ g (AA b 0) λr=>K r g:=
 ah.iB e λg d f _=>ah.fX d (j g f)
def mQ(n m:Nat):decide ((n:Int)<=(m:Int))=decide (n<=m):=bt
def xf(x:jP)(d: iG h R (.B (iJ x))):Cl 64 #[x.s.agg] h R:=by refine Bl (ah.cV λb k E e F=>jx x.e e rfl rfl rfl rfl rfl (ju.fD x.e λj f=>⟨_,rfl,?_⟩));have g:=f.get e id;have d:=d j (F.tt f);unfold iJ at d;rw[gu]at d;exact zK d λd=>⟨_,ai g,zK d (λd=>⟨_,ai g,by rw[show decide ((x.s.f6)<=1099511627776)=_ from mQ x.sq 1099511627776];exact d⟩) (mQ x.tm 1099511627776)⟩
theorem HM(x:jP)(X:0<=x.e.fK)(O:iJ x=true->∀H z,xx H (λy=>h.size<=y) (Re x) z->Fr No h H->R (.T #[z.agg,.I 0]) H)(P:iJ x=false->iG h R (.T #[zv.agg,.I 3])):Cl 143 #[x.s.agg] h R:=by
 refine Bo (ah.cV λb h1 eb v n=>aa.cV λZ h2 a' A j=>ah.fX (j.get v id) (xf x λh3 g=>⟨_,rfl,?_⟩));have l:=(j.tt g).get v id;have B:=g.get A id;have m:=n.tt (j.tt g);have z1:=n.1;have h':=aD A;have z3:=g.1;cases d:iJ x with
 |false=>exact Je B λI E=>P d I (m.fresh E (λy e=>ae))
 |true=>
  have J:=by unfold iJ at d;simp only[aZ]at d;exact d.1.1
  rw[dz];refine jx x.e l rfl rfl rfl rfl rfl (Bq x.e X (λ_ h5 z U f=>aa.ex z.s ⟨_,rfl,aa.gw λb2 h7 b' K k=>aa.fX K ⟨_,ai ((f.tt k).get l id),_,ai ((f.tt k).get l id),(fT λh8 s=>aa.ex (nv x.tm).s ⟨rfl,s.kp,fT λh9 u=>aa.ex (nv x.sq).s ⟨rfl,u.kp,qZ (ys:= [nv x.tm,nv x.sq]) rfl λb3 d' c' L p=>⟨p.kp,lu (L (λ_=>True) trivial) (two oZ oZ) (by simp[room,dS]) λe' y T q=>aa.ex y.s ⟨rfl,q.kp,?_⟩⟩⟩⟩)⟩⟩) (λe=>by grind));have F:=k.tt (s.tt (u.tt (p.tt q)));have er:=oL x.e J;refine sH (two (U.u.on F) T.u) (by simp only[room,dS,cA];omega) rfl rfl λf' w S r=>aa.ex w.s ⟨rfl,?_⟩;have z5:=f.1;have g':=F.1;exact fin ((f.tt (F.tt r)).get B id) S (λy M e=>ae) λG Q C=>O d G w (Q.mono λy M=>ae) ((m.tt (f.tt (F.tt r))).fresh C (λy e=>ae))
def EY{x:jP}(h:iJ x=true):cY x.e=true/\x.tm<=1099511627776/\x.sq<=1099511627776:=by unfold iJ at h;simp only[aZ,bn]at h;exact⟨h.1.1,h.1.2,h.2⟩
def Aa{e:Ev}(h:qQ V t=some e):0<=e.fK/\cY e=true:=by
 unfold qQ at h;split at h
 .split at h
  .cases h;decide
  .split at h
   .split at h
    .rename_i d;cases h;unfold vK at d;simp only[aZ]at d;exact⟨by show(0)<=0;omega,d.2⟩
    .cases h
   .split at h
    .split at h
     .rename_i d;cases h;exact⟨by show(0)<=((_:Nat):Int);omega,d.2.2.2⟩
     .cases h
    .cases h
 .cases h
def KY(x:jP)(h:iJ x=true):room (Re x)<=300:=by have:=oL x.e (EY h).1;simp only[Re,room,dS,cA];omega
def EQ(V:kF)(t:Tr)(e:Ev)(q:Int):Prop:=(q=0->qQ V t=some e)/\(q≠0->qQ V t=none)/\0<=e.fK
def Jg(U:mG V a)(u:Fr No a h)(m:jS.Mx h)(k:Jd h t x)(j:room t<=900000)(g: ∀e q,EQ V t e q->iG h R (.T #[e.s.agg,.I q])):Cl 276 #[x.agg] h R:=
 Rt U u m k j (λe d H f=>g e 0 ⟨λ_=>d,λq=>absurd rfl q,(Aa d).1⟩ H f) (λd H f=>g .zero 3 ⟨λq=>absurd q cW,λ_=>d,cW⟩ H f)
theorem NS(x:jP)(w:0<=x.e.fK)(d: ∀H z q,(q=0->Jd H (Re x) z)->(q=0↔iJ x=true)->Fr No h H->R (.T #[z.s.agg,.I q]) H):Cl 143 #[x.s.agg] h R:=
 HM x w (λg H z j f=>d H z 0 (λ_=>j.u) ⟨λ_=>g,λ_=>rfl⟩ f) (λg H f=>d H zv 3 (λe=>absurd e cW) ⟨λe=>absurd e cW,λe=>by grind⟩ f)
theorem KZ(U:mG V a)(A':Fr No a h)(mx:jS.Mx h)(tx:Jd h t x)(hr:room t<=900000)(K: ∀e,kX V t=some e->iG h R (.T #[e.s.agg,.I 0]))(k:kX V t=none->iG h R (.T #[jP.zero.s.agg,.I 3])):Cl 277 #[x.agg] h R:=by
 obtain⟨xk,xn,xb,xl,xv,ys,L,TS⟩:=iD.kn tx;have rl:=mn (t:=t);refine Df (x:=x.s) (aa.cV λb h1 eb hb f1=>ah.cV λb1 q G' a' X=>aB.of λJ s=> ?_);have F:=f1.tt X;have d:=X.get hb id;have zb:=aD hb;have P':=aD a';have z1:=f1.1;have z2:=X.1;have B:kX V t=none->J true q:=λhn=>by subst s;dsimp only;rw[ag rfl];exact Jf .zero a' λg f=>k hn g (F.fresh f (λy e=>ae))
 have e4:x.s.f0=t.k:=xk;have el:x.s.JT=t.l.length:=xl;refine⟨_,ai d,?_⟩;rw[e4];by_cases C:t.k=4
 case neg=>rw[ag (dH C)];exact B (by unfold kX;rw[af (λe=>C e.1)])
 rw[af (dH C)];refine⟨_,_,_,ai d,?_⟩;rw[el];by_cases l2:t.l.length=2
 case neg=>rw[ag (by simp only[fi,ne_eq];omega)];exact B (by unfold kX;rw[af (λe=>l2 e.2.1)])
 rw[af (by simp only[fi,ne_eq];omega)];obtain⟨a0,y0,k',s',g',_⟩:=elem (L.frame F bC) (TS.on F) (i:=0) ae;obtain⟨A,M,E,f',h',_⟩:=elem (L.frame F bC) (TS.on F) (i:=1) ae;obtain⟨i',E',D',j',M',O',L1,P⟩:=iD.kn h';have c0:aU q (A.add (Int.toNat 1*4))=some (.I M.k):=by have:=f'.1;rwa[cj]at this
 have S:aU q ((A.add (Int.toNat 1*4)).add 3)=some (.L M.q M.ll M.cl):=f'.2.2.2.1;have r0:=jH (ts:=t.l) (i:=0) ae;have r1:=jH (ts:=t.l) (i:=1) ae;refine⟨_,_,_,ai d,ae,bU.2 ⟨A,E,_,c0,?_⟩⟩;rw[i'];by_cases w:(at_ t.l 1).k=4
 case neg=>rw[ag (dH w)];exact B (by unfold kX;rw[af (λe=>w e.2.2.1)])
 rw[af (dH w)];refine⟨_,_,_,ai d,ae,bU.2 ⟨A,E,_,_,_,S,?_⟩⟩;rw[j'];by_cases l3:(at_ t.l 1).l.length=2
 case neg=>rw[show(((((at_ t.l 1).l.length:Nat):Int)) !=2)=true by simp only[fi,ne_eq];omega];exact B (by unfold kX;rw[af (λe=>l3 e.2.2.2)])
 rw[show(((((at_ t.l 1).l.length:Nat):Int)) !=2)=false by simp only[gy];omega];clear B;subst s;dsimp only;rw[af (show¬false=true by decide)];unfold kX at K k;rw[ag ⟨C,l2,w,l3⟩]at K k;generalize K':at_ t.l 0=t0 at g' r0 K k;generalize L':at_ t.l 1=t1 at h' r1 K k i' E' D' j' P w l3;refine⟨_,_,_,ai d,ae,bU.2 ⟨a0,k',aa.iR (x:=y0.s) s' (Jg U (A'.tt F) (mx.on F) g' ae λe x' ⟨v',w',we⟩ g fg=>av.ex e.s ⟨_,rfl,?_⟩)⟩⟩;obtain⟨p0,w0,l',u,y',_⟩:=elem L1 P (i:=0) ae;obtain⟨p1,w1,m',v,z',_⟩:=elem L1 P (i:=1) ae;obtain⟨_,B',_⟩:=iD.kn y';obtain⟨_,C',_⟩:=iD.kn z';have u:aU q ((p0.add (Int.toNat 0*4)).add 1)=some (.U (w0.n:Int)):=u.2.1;have v:aU q ((p1.add (Int.toNat 1*4)).add 1)=some (.U (w1.n:Int)):=v.2.1;rw[B']at u;rw[C']at v;obtain⟨n,t'⟩: ∃n,(at_ t1.l 0).n=n:=⟨_,rfl⟩;obtain⟨l,u'⟩: ∃l,(at_ t1.l 1).n=l:=⟨_,rfl⟩;rw[t']at u K k;rw[u']at v K k;refine av.gw (x:=e.s) λb2 h7 H' q' f7=>av.fX q' ?_;have G:=fg.tt f7;refine⟨_,_,_,ai (G.get d id),ae,bU.2 ⟨A,E,_,_,_,G.cell S id,ae,bU.2 ⟨p0,l',_,G.cell u id,_,_,_,ai (G.get d id),ae,bU.2 ⟨A,E,_,_,_,G.cell S id,ae,bU.2 ⟨p1,m',_,G.cell v id,?_⟩⟩⟩⟩⟩;refine ah.cV λb3 h8 I' e' z=>⟨z.kp,ah.iB (x:=(⟨e,n,l⟩:jP).s) e' λh9 d9 Z _=>ah.fX d9 ?_⟩;have z7:=f7.1;have z8:=z.1;have zg:=fg.1;have Q':=aD e';have z9:=Z.1;have G9:Fr (λy=>y=b3) q h9:=Fr.no (G.tt z) Z;have O:Fr No h h9:=(F.tt (G.tt z)).fresh Z (λy e=>ae);refine NS ⟨e,n,l⟩ we λg2 b' q2 hw hq o'=>aa.ex b'.s ⟨_,rfl,?_⟩;refine aa.gw (x:=b'.s) λb4 r J' r' c'=>aB.of λJ s=> ?_;have m:=o'.tt c';have d': ∀{g},Fr No r g->ah.fR g b1 .z:=λfq=>fq.get (m.get (G9.get a' ae) id) id;have no: ∀j,Fr No r j->(iG h R (.T #[jP.zero.s.agg,.I 3]))->J true j:=λj p hk=>by
  subst s;try dsimp only
  rw[ag rfl];exact Jf .zero (d' p) λg f=>hk g ((O.tt (m.tt p)).fresh f (λy e=>ae))
 have F': ∀j,Fr No r j->(iG h R (.T #[(⟨e,n,l⟩:jP).s.agg,.I 0]))->J false j:=λj p hk=>by
  subst s;try dsimp only
  rw[dz];exact ah.fX ((m.tt p).get d9 id) (Jf ⟨e,n,l⟩ (d' p) λg f=>hk g ((O.tt (m.tt p)).fresh f (λy e=>ae)))
 by_cases I:x'=0
 case neg=>rw[ag (dH I)];exact no r (Fr.refl _ _) (k (by rw[w' I]))
 rw[af (dH I)];rw[v' I]at K k;dsimp only at K k;by_cases Q:q2=0
 case neg=>rw[ag (dH Q)];exact no r (Fr.refl _ _) (k (by rw[af (λe=>Q (hq.2 e.1))]))
 rw[af (dH Q)];have hI:=hq.1 Q;have rI:=KY _ hI;refine aa.fX r' (aa.fX (x:=x.s) (m.get (G9.get d ae) id) (jv (x:=b') (y:=x) ((hw Q).on c') (tx.on (O.tt m)) ae λp' n'=>⟨_,rfl,?_⟩));cases hs:qO (Re ⟨e,n,l⟩) t with
 |true=>exact F' p' n' (K _ (by rw[ag ⟨hI,hs⟩]))
 |false=>grind
def yz{x:jP}(h:kX V t=some x):0<=x.e.fK:=by
 unfold kX at h;split at h;split at h
 cases h;rename_i e d;split at h;cases h;exact(Aa d).1;cases h;cases h
def IQ(V:kF)(t:Tr)(x:jP)(q:Int):Prop:=(q=0->kX V t=some x)/\(q≠0->kX V t=none)/\0<=x.e.fK
def Jh(U:mG V a)(u:Fr No a h)(m:jS.Mx h)(k:Jd h t x)(j:room t<=900000)(g: ∀e q,IQ V t e q->iG h R (.T #[e.s.agg,.I q])):Cl 277 #[x.agg] h R:=
 KZ U u m k j (λe d H f=>g e 0 ⟨λ_=>d,λq=>absurd rfl q,yz d⟩ H f) (λd H f=>g .zero 3 ⟨λq=>absurd q cW,λ_=>d,cW⟩ H f)

end Bn
end
section
variable {h:aA} {R:fp}
variable {x:aI.S}
def Ab{a:aI.S}{b:aI.S} (o:aW h (.C a.arr 34) λB n=>aW n (.C b.arr 34) λc H=>Hu H B 0 λI=> ∃m,Cc H c 0 (.U m)/\ite (I==m) (Hi H B 1 λp=> ∃t,Cc H c 1 (.I t)/\ite (p==t) (av.cJ H (AA B 2) λq=>av.cJ H (AA c 2) λr=> ∃(e:Bool),JS 29 (q.agg) (r.agg) e/\ite e (av.cJ H (AA B 7) λs=>av.cJ H (AA c 7) λu=> ∃(eq_1:Bool),JS 29 (s.agg) (u.agg) eq_1/\ite eq_1 (Hi H B 12 λw=> ∃T,Cc H c 12 (.I T)/\ite (w==T) (Hi H B 13 λy=> ∃f,Cc H c 13 (.I f)/\ite (y==f) (Hi H B 14 λz=> ∃g,Cc H c 14 (.I g)/\ite (z==g) (Hl H B 15 λD C A=>Hl H c 15 λG F E=>Cl 35 #[.L D C A,.L G F E] H λv d=> ∃i,v=.B i/\ite i (Hu d B 16 λJ=> ∃j,Cc d c 16 (.U j)/\ite (J==j) (Hu d B 17 λK=> ∃k,Cc d c 17 (.U k)/\ite (K==k) (Hb d B 18 λL=> ∃l,Cc d c 18 (.B l)/\R (.B (L==l)) d) (R (.B false) d)) (R (.B false) d)) (R (.B false) d)) (R (.B false) H)) (R (.B false) H)) (R (.B false) H)) (R (.B false) H)) (R (.B false) H)) (R (.B false) H)) (R (.B false) H)):Cl 119 #[a.agg,b.agg] h R:=aP [] o
def Br (hv:aW h (.C x.arr 34) λb F=>aI.NW F λv g=>Hu g b 0 λt5=>Hi g b 1 λt7=>aI.NW g λB a'=>aI.dv a' (AA B 0) ⟨t5,t7,false,0,0,(⟨#[]⟩:cF),(⟨#[]⟩:cF),false,0,0,(⟨#[]⟩:cF),(⟨#[]⟩:cF),0,0,0,none,0,0,0,0,false⟩ λi=>Hi i b 1 λt=>aB (λz=>aI.cJ z (AA B 0) λt'=>aI.dv z (AA v 0) t' λA=>aI.cJ A (AA v 0) λr0=>R (r0.agg) A) (λJ=>aB (λ(d':Bool) c=>aB (λc'=>J c') (λm=>ite d' (av.cJ c (AA b 2) λe'=>Hi c b 12 λf'=>av.dv c (AA B 2) e' λC=>Kp c C [(Sa b 12)]/\aO C (AA B 12) (.I f') λG=>m G) (aB (λ(g':Bool) H=>aB (λI=>m I) (λo=>ite g' (av.cJ H (AA b 2) λh'=>av.dv H (AA B 2) h' λK=>o K) (aB (λL=>o L) (λp=>ite (t==4) (av.cJ H (AA b 2) λi'=>av.cJ H (AA b 7) λj'=>Hl H b 15 λm' l' k'=>Hu H b 16 λn'=>Hb H b 18 λo'=>av.dv H (AA B 2) i' λd=>Kp H d [(Sa b 18),(Sa b 16),(Sa b 15),(Sa b 7)]/\av.dv d (AA B 7) j' λe=>Kp d e [(Sa b 18),(Sa b 16),(Sa b 15)]/\aO e (AA B 15) (.L m' l' k') λf=>Kp e f [(Sa b 18),(Sa b 16)]/\aO f (AA B 16) (.U n') λw=>Kp f w [(Sa b 18)]/\aO w (AA B 18) (.B o') λM=>p M) (aB (λ(p':Bool) a=>aB (λO=>p O) (λr=>ite p' (∃T,Cc a b 13 (.I T)/\aO a (AA B 13) (.I T) λP=>r P) (aB (λQ=>r Q) (λs=>ite (t==7) (av.cJ a (AA b 2) λr'=>Hi a b 14 λs'=>av.dv a (AA B 2) r' λy=>Kp a y [(Sa b 14)]/\aO y (AA B 14) (.I s') λS=>s S) (aB (λU=>s U) (λu=>ite (t==10) (∃D,Cc a b 18 (.B D)/\aO a (AA B 18) (.B D) λV=>u V) (aB (λX=>u X) (λk=>ite (t==12) (∃E,Cc a b 17 (.U E)/\aO a (AA B 17) (.U E) λZ=>k Z) (k a))))))))) (λq=>ite (t==5) (q (t==5) H) (aB (λ(q':Bool) b'=>q q' b') (λl=>ite (t==8) (l (t==8) H) (l (t==9) H))))))))) (λn=>ite (t==2) (n (t==2) c) (n (t==6) c))))) (λj=>ite (t==1) (j (t==1) i) (j (t==3) i)))):Cl 174 #[x.agg] h R:=aP [(7,.join []),(11,.join [(11,sB)]),(14,.join []),(15,λ_=>pK 8),(19,.join [(20,sB)]),(22,.join []),(26,.join []),(27,λ_=>pK 20),(31,.join [(43,sB)]),(35,.join [(43,sB)]),(38,.join []),(42,.join []),(43,λ_=>pK 8),(46,.join []),(50,.join [])] hv
def xA{x:av.S}(c:aW h (.C x.arr 29) λb a=>av.cJ a (AA b 0) λT=>Cl 53 #[T.agg] a λv H=> ∃t,v=.B t/\ite t (av.cJ H (AA b 0) λd=> ∃(e:Bool),JS 29 (d.agg) (av.S.z.agg) e/\R (.B (!e)) H) (R (.B false) H)):Cl 253 #[x.agg] h R:=aP [] c
def yA (I:aW h (.C x.arr 34) λb g=>Hi g b 1 λt=>aB (λ(S:Bool) f=>ite S (av.cJ f (AA b 2) λZ=>Cl 253 #[Z.agg] f λa' d=> ∃T,a'=.B T/\ite T (∃m,Cc d b 12 (.I m)/\ite (decide (m≥0)) (∃n,Cc d b 12 (.I n)/\R (.B (decide (n<=2))) d) (R (.B false) d)) (R (.B false) d)) (aB (λ(K:Bool) a=>ite K (av.cJ a (AA b 2) λL=>Cl 253 #[L.agg] a λb' G=> ∃o,b'=.B o/\R (.B o) G) (ite (t==4) (av.cJ a (AA b 2) λM=>Cl 253 #[M.agg] a λc' i=> ∃p,c'=.B p/\ite p (av.cJ i (AA b 7) λO=>Cl 253 #[O.agg] i λd' c=> ∃q,d'=.B q/\ite q (∃Q r P,Cc c b 15 (.L Q r P)/\ite (decide (((r:Nat):Int)<=200)) (∃s,Cc c b 16 (.U s)/\ite (decide (s≥1)) (∃u,Cc c b 16 (.U u)/\R (.B (decide (u<=1099511627776))) c) (R (.B false) c)) (R (.B false) c)) (R (.B false) c)) (R (.B false) i)) (aB (λ(U:Bool) H=>ite U (∃v,Cc H b 13 (.I v)/\ite (decide (v≥1)) (∃w,Cc H b 13 (.I w)/\R (.B (decide (w<=1099511627776))) H) (R (.B false) H)) (ite (t==7) (av.cJ H (AA b 2) λX=>Cl 253 #[X.agg] H λe' e=> ∃y,e'=.B y/\ite y (∃z,Cc e b 14 (.I z)/\ite (decide (z≥1)) (∃A,Cc e b 14 (.I A)/\R (.B (decide (A<=1000))) e) (R (.B false) e)) (R (.B false) e)) (ite (t==12) (∃B,Cc H b 17 (.U B)/\ite (decide (B≥1)) (∃C,Cc H b 17 (.U C)/\R (.B (decide (C<=2147483648))) H) (R (.B false) H)) (∃D,Cc H b 1 (.I D)/\ite (D==10) (R (.B true) H) (∃E,Cc H b 1 (.I E)/\R (.B (E==11)) H))))) (λk=>ite (t==5) (k (t==5) a) (aB (λ(V:Bool) F=>k V F) (λl=>ite (t==8) (l (t==8) a) (l (t==9) a))))))) (λj=>ite (t==2) (j (t==2) f) (j (t==6) f)))) (λJ=>ite (t==1) (J (t==1) g) (J (t==3) g))):Cl 173 #[x.agg] h R:=aP [(9,.join [(5,sB)]),(19,.join [(21,sB)]),(35,.join [(53,sB)]),(39,.join [(53,sB)])] I
def yB(i:aW h (.C x.arr 34) λb H=> ∃f,Cc H b 0 (.U f)/\ite (decide (f≥1)) (∃g,Cc H b 0 (.U g)/\ite (decide (g<=1099511627776)) (aI.cJ H (AA b 0) λj=>Cl 173 #[j.agg] H λv a=> ∃t,v=.B t/\Kp H a [(Sa b 0),(Sa b 0)]/\ite t (aI.cJ a (AA b 0) λk=>aI.cJ a (AA b 0) λl=>Cl 174 #[l.agg] a λV c=>aI.EX λT=>V=T.agg/\Kp a c [(Sa b 0),(Sa b 0),(Sa b 0)]/\Cl 119 #[k.agg,T.agg] c λm d=> ∃e,m=.B e/\Kp c d [(Sa b 0),(Sa b 0)]/\R (.B e) d) (R (.B false) a)) (R (.B false) H)) (R (.B false) H)):Cl 121 #[x.agg] h R:=aP [(3,λ_=>pK 19)] i

end
section
namespace Ask
open ju (Ev cY mh)
open Bn (jx)
variable {h H g:aA} {R:fp} {p q:bZ} {c d:Nat}
variable {b:Nat} {y:aI.S} {x:av.S} {K:aA->Prop}
abbrev Rq.s(x:Rq)(p:bZ)(c:Nat):aI.S:=⟨x.id,x.kind,x.ep.jY,x.ep.node,x.ep.fK,x.ep.host,x.ep.jl,x.dest.jY,x.dest.node,x.dest.fK,x.dest.host,x.dest.jl,x.lS,x.num,x.kV,p,x.nL.length,c,x.gT,x.token,x.on⟩
def XY(x y:Rq):decide (x=y)=(((x.id:Int)==(y.id:Int)) && ((x.kind==y.kind) && (decide (x.ep=y.ep) && (decide (x.dest=y.dest) && ((x.lS==y.lS) && ((x.num==y.num) && ((x.kV==y.kV) && (decide (x.nL=y.nL) && (((x.gT:Int)==(y.gT:Int)) && (((x.token:Int)==(y.token:Int)) && (x.on==y.on))))))))))):=by rw[Bool.eq_iff_iff];cases x;cases y;simp[Int.ofNat_inj]
def K0(x y:Rq)(r:Row h p (bc x.nL))(m:Row h q (bc y.nL))(a: iG h R (.B (decide (x=y)))):Cl 119 #[(x.s p c).agg,(y.s q d).agg] h R:=by refine Ab (aI.cV λb o E l j=>aI.cV λB k n e i=> ?_);have f:=i.get l id;have F:=j.tt i;simp only[XY]at a;exact⟨_,ai f,_,ai e,kZ a F λa=>⟨_,ai f,_,ai e,kZ a F λa=>jx x.ep f rfl rfl rfl rfl rfl (jx y.ep e rfl rfl rfl rfl rfl ⟨_,ju.zQ (x:=x.ep) (y:=y.ep) rfl rfl,kZ a F λa=>jx x.dest f rfl rfl rfl rfl rfl (jx y.dest e rfl rfl rfl rfl rfl ⟨_,ju.zQ (x:=x.dest) (y:=y.dest) rfl rfl,kZ a F λa=>⟨_,ai f,_,ai e,kZ a F λa=>⟨_,ai f,_,ai e,kZ a F λa=>⟨_,ai f,_,ai e,kZ a F λa=>⟨_,_,_,ai f,_,_,_,ai e,Cb.jg (r.frame F bC) (m.frame F bC) rfl rfl ⟨_,rfl,kZ a F λa=>⟨_,ai f,_,ai e,kZ a F λa=>⟨_,ai f,_,ai e,kZ a F λa=>⟨_,ai f,_,ai e,a k F⟩⟩⟩⟩⟩⟩⟩⟩⟩)⟩)⟩⟩
def re(e:Ev)(a: iG h R (.B (tW e))):Cl 253 #[e.s.agg] h R:=by
 refine xA (av.cV λb k E j F=>av.fX j (ju.fD e λi f=>⟨_,rfl,?_⟩));unfold tW at a;cases C:cY e with
 |false=>rw[C]at a;exact a i (F.tt f)
 |true=>rw[C]at a;rw[ag rfl];exact av.fX (f.get j id) ⟨_,ju.zQ rfl rfl,a i (F.tt f)⟩
def TR(i:aI.fR h b y)(k: ∀H,aI.fR H b { y with f2:=x.f0,f3:=x.f1,f4:=x.f2,f5:=x.f3,f6:=x.f4 } ->Fr (λy=>y=b) h H->K H):av.dv h (AA b 2) x K:=
 (show dG (AA b 2) x.l 0 h K from mN i bt rfl rfl λf D a e=>k f D (Fr.of_eq a λc j=>e c j))
def VP(i:aI.fR h b y)(k: ∀H,aI.fR H b { y with f7:=x.f0,f8:=x.f1,f9:=x.f2,f10:=x.f3,f11:=x.f4 } ->Fr (λy=>y=b) h H->K H):av.dv h (AA b 7) x K:=
 (show dG (AA b 7) x.l 0 h K from mN i bt rfl rfl λf D a e=>k f D (Fr.of_eq a λc j=>e c j))
theorem vT{i:Nat}{z:aI.S}{v:Value}(f:aI.fR h b y)(k:i<19)(n:y.arr.setIfInBounds i v=z.arr)(l: ∀H,aI.fR H b z->Fr (λy=>y=b) h H->K H):aO h (AA b i) v K:=
 bf f k λe m D a=>l e (by grind) (Fr.of_eq D λc j=>a c j)
theorem Ru{B:Nat}{l:List (bZ)}(f:Fr (λy=>y=B) h H)(n:b≠B)(i: ∀p∈l,p.map (·.block)=some b):Kp h H l:=f.XE λp j x e a=>n (by grind)
def bq{n k:Int}:((n==k)=true↔n=k):=dQ
theorem ME(x:Rq)(rx:Row h p (bc x.nL))(hk: ∀H P C,Row H P (bc (vQ x).nL)->Fr No h H->R ((vQ x).s P C).agg H):Cl 174 #[(x.s p c).agg] h R:=by
 refine Br (aI.cV λb h1 eb Q T=>aI.cV λb1 h2 m' b' u=>⟨_,ai (u.get Q id),_,ai (u.get Q id),aI.gw (x:=(jZ x).s none 0) λL D n' n U=> ?_⟩);have a:=(u.tt U).get Q id;have F4:=T.tt (u.tt U);have zb:=aD Q;have p':=aD b';have z1:=T.1;have z2:=u.1;have A:b≠L:=ae
 have o':b1≠L:=ae
 refine⟨_,ai a,aB.of λd' hJ=>aB.of λJ1 e'=> ?_⟩;have fin: ∀g P C,aI.fR g L ((vQ x).s P C)->Row h P (bc (vQ x).nL)->Fr (λy=>y=L) D g->d' g:=by intro g P C hg hr fg;have X:Fr No h2 g:=U.fresh fg (λy e=>ae);have c':=(T.tt u).tt X;subst hJ;refine aI.fX hg (aI.iB (x:=(vQ x).s P C) (X.get b' id) λh6 d6 F _=>aI.fX d6 ?_);have Z:=c'.fresh F (λy e=>ae);exact hk h6 P C (hr.frame Z bC) Z
 have t:Row h none (bc []):=Row.nil;have key: ∀v,(v=true↔x.kind=1\/x.kind=3)->J1 v D:=by
  intro v o;subst e';dsimp only;refine aB.of λJ2 m=> ?_;by_cases k:x.kind=1\/x.kind=3;have E:vQ x= { jZ x with ep:=x.ep,lS:=x.lS } :=ag k;rw[E]at fin;rw[ag (o.2 k)];exact jx x.ep a rfl rfl rfl rfl rfl ⟨_,ai a,TR n λG i f=>⟨Ru f A bt,vT (z:=({ jZ x with ep:=x.ep,lS:=x.lS } :Rq).s none 0) i cW rfl λM B F=>by subst m;exact fin M none 0 B t (f.tt F)⟩⟩;rw[af (λe=>k (o.1 e))];refine aB.of λJ3 g'=> ?_;have i': ∀v,(v=true↔x.kind=2\/x.kind=6)->J3 v D:=by
   intro v o;subst g';dsimp only;refine aB.of λJ4 s=> ?_;by_cases j:x.kind=2\/x.kind=6;have E:vQ x= { jZ x with ep:=x.ep } :=(af k).trans (ag j);rw[E]at fin;rw[ag (o.2 j)];exact jx x.ep a rfl rfl rfl rfl rfl (TR n λG i f=>by subst s;subst m;exact fin G none 0 i t f);rw[af (λe=>j (o.1 e))];refine aB.of λJ5 w=> ?_;by_cases r:x.kind=4;have E:vQ x= { jZ x with ep:=x.ep,dest:=x.dest,nL:=x.nL,gT:=x.gT,on:=x.on } :=(af k).trans ((af j).trans (ag r));rw[E]at fin;rw[ag (bq.2 r)];refine jx x.ep a rfl rfl rfl rfl rfl (jx x.dest a rfl rfl rfl rfl rfl ⟨_,_,_,ai a,_,ai a,_,ai a,TR n λG i f=>⟨Ru f A bt,VP i λM B F=>⟨Ru F A bt,?_⟩⟩⟩);refine vT (z:=({ jZ x with ep:=x.ep,dest:=x.dest,nL:=x.nL } :Rq).s p c) B cW rfl λg3 e3 f7=>⟨Ru f7 A bt,?_⟩;refine vT (z:=({ jZ x with ep:=x.ep,dest:=x.dest,nL:=x.nL,gT:=x.gT } :Rq).s p c) e3 cW rfl λg4 e4 f8=>⟨Ru f8 A bt,?_⟩;refine vT (z:=({ jZ x with ep:=x.ep,dest:=x.dest,nL:=x.nL,gT:=x.gT,on:=x.on } :Rq).s p c) e4 cW rfl λg5 e5 f9=> ?_;subst w;subst s;subst m;exact fin g5 p c e5 rx (f.tt (F.tt (f7.tt (f8.tt f9))));rw[af (λe=>r (bq.1 e))];refine aB.of λJ6 h'=> ?_;have j': ∀v,(v=true↔x.kind=5\/x.kind=8\/x.kind=9)->J6 v D:=by intro v o;subst h';dsimp only;refine aB.of λJ7 I=> ?_;by_cases l:x.kind=5\/x.kind=8\/x.kind=9;have E:vQ x= { jZ x with num:=x.num } :=(af k).trans ((af j).trans ((af r).trans (ag l)));rw[E]at fin;rw[ag (o.2 l)];exact⟨_,ai a,vT (z:=({ jZ x with num:=x.num } :Rq).s none 0) n cW rfl λG i f=>by subst I;subst w;subst s;subst m;exact fin G none 0 i t f⟩;rw[af (λe=>l (o.1 e))];refine aB.of λJ8 O=> ?_;by_cases z:x.kind=7;have E:vQ x= { jZ x with ep:=x.ep,kV:=x.kV } :=(af k).trans ((af j).trans ((af r).trans ((af l).trans (ag z))));rw[E]at fin;rw[ag (bq.2 z)];exact jx x.ep a rfl rfl rfl rfl rfl ⟨_,ai a,TR n λG i f=>⟨Ru f A bt,vT (z:=({ jZ x with ep:=x.ep,kV:=x.kV } :Rq).s none 0) i cW rfl λM B F=>by subst O;subst I;subst w;subst s;subst m;exact fin M none 0 B t (f.tt F)⟩⟩;rw[af (λe=>z (bq.1 e))];refine aB.of λJ9 V=> ?_;by_cases J:x.kind=10;have E:vQ x= { jZ x with on:=x.on } :=(af k).trans ((af j).trans ((af r).trans ((af l).trans ((af z).trans (ag J)))));rw[E]at fin;rw[ag (bq.2 J)];exact⟨_,ai a,vT (z:=({ jZ x with on:=x.on } :Rq).s none 0) n cW rfl λG i f=>by subst V;subst O;subst I;subst w;subst s;subst m;exact fin G none 0 i t f⟩;rw[af (λe=>J (bq.1 e))];refine aB.of λk' a'=> ?_;by_cases S:x.kind=12;have E:vQ x= { jZ x with token:=x.token } :=(af k).trans ((af j).trans ((af r).trans ((af l).trans ((af z).trans ((af J).trans (ag S))))));rw[E]at fin;rw[ag (bq.2 S)];exact⟨_,ai a,vT (z:=({ jZ x with token:=x.token } :Rq).s none 0) n cW rfl λG i f=>by subst a';subst V;subst O;subst I;subst w;subst s;subst m;exact fin G none 0 i t f⟩;rw[af (λe=>S (bq.1 e))];have E:vQ x=jZ x:=(af k).trans ((af j).trans ((af r).trans ((af l).trans ((af z).trans ((af J).trans (af S))))));rw[E]at fin;subst a';subst V;subst O;subst I;subst w;subst s;subst m;exact fin D none 0 n t (Fr.refl _ _)
   by_cases l:x.kind=5;grind;rw[af (λe=>l (bq.1 e))];refine aB.of λl' f'=> ?_;subst f';dsimp only;by_cases k8:x.kind=8;grind;rw[af (λe=>k8 (bq.1 e))];exact j' _ ⟨λe=> .inr (.inr (bq.1 e)),λe=>bq.2 ((e.resolve_left l).resolve_left k8)⟩
  by_cases j:x.kind=2;grind;rw[af (λe=>j (bq.1 e))];exact i' _ ⟨λe=> .inr (bq.1 e),λe=>bq.2 (e.resolve_left j)⟩
 by_cases k:x.kind=1;rw[ag (bq.2 k)];exact key _ ⟨λ_=> .inl k,λ_=>bq.2 k⟩;rw[af (λe=>k (bq.1 e))];exact key _ ⟨λe=> .inr (bq.1 e),λe=>bq.2 (e.resolve_left k)⟩
def Ji(n k:Nat):decide ((n:Int)≥(k:Int))=decide (n≥k):=bt
theorem Rv(x:Rq)(a: iG h R (.B (oY x))):Cl 173 #[(x.s p c).agg] h R:=by
 refine yA (aI.cV λb s V f n=>⟨_,ai f,aB.of λJ L=> ?_⟩);have key: ∀v,(v=true↔x.kind=1\/x.kind=3)->J v s:=by
  intro v l;subst L;dsimp only;by_cases k:x.kind=1\/x.kind=3;rw[show oY x=(tW x.ep && (decide (x.lS≥0) && decide (x.lS<=2)))from(ag k).trans (gu ..)]at a;rw[ag (l.2 k)];exact jx x.ep f rfl rfl rfl rfl rfl (re x.ep λo F=>⟨_,rfl,zK (a o (n.tt F)) λa=>⟨_,ai (F.get f id),zK a λa=>⟨_,ai (F.get f id),a⟩⟩⟩);rw[af (λe=>k (l.1 e))];refine aB.of λC O=> ?_;have S: ∀v,(v=true↔x.kind=2\/x.kind=6)->C v s:=by
   intro v l;subst O;dsimp only;by_cases i:x.kind=2\/x.kind=6;have E:oY x=tW x.ep:=(af k).trans (ag i);rw[E]at a;rw[ag (l.2 i)];exact jx x.ep f rfl rfl rfl rfl rfl (re x.ep λo F=>⟨_,rfl,a o (n.tt F)⟩);rw[af (λe=>i (l.1 e))];by_cases m:x.kind=4;have E:oY x=(tW x.ep && tW x.dest && decide (x.nL.length<=200) && decide (x.gT≥1) && decide (x.gT<=1099511627776)):=(af k).trans ((af i).trans (ag m));simp only[gu]at E;rw[E]at a;rw[ag (bq.2 m)];refine jx x.ep f rfl rfl rfl rfl rfl (re x.ep λo F=>⟨_,rfl,kZ a (n.tt F) λa=>jx x.dest (F.get f id) rfl rfl rfl rfl rfl (re x.dest λI z=>⟨_,rfl,?_⟩)⟩);have w:=(F.tt z).get f id;exact zK (a I (n.tt (F.tt z))) λa=>⟨_,_,_,ai w,zK a (λa=>⟨_,ai w,zK a (λa=>⟨_,ai w,by rw[show decide (((x.s p c).f16:Int)<=1099511627776)=_ from Bn.mQ x.gT 1099511627776];exact a⟩) (Ji x.gT 1)⟩) (Bn.mQ x.nL.length 200)⟩;rw[af (λe=>m (bq.1 e))];refine aB.of λD P=> ?_;have A:=a;have a:=a s n;have T: ∀v,(v=true↔x.kind=5\/x.kind=8\/x.kind=9)->D v s:=by
    intro v l;subst P;dsimp only;by_cases j:x.kind=5\/x.kind=8\/x.kind=9;have E:oY x=(decide (x.num≥1) && decide (x.num<=1099511627776)):=(af k).trans ((af i).trans ((af m).trans (ag j)));rw[E]at a;rw[ag (l.2 j)];exact⟨_,ai f,zK a λa=>⟨_,ai f,a⟩⟩;rw[af (λe=>j (l.1 e))];by_cases r:x.kind=7;have E:oY x=(tW x.ep && decide (x.kV≥1) && decide (x.kV<=1000)):=(af k).trans ((af i).trans ((af m).trans ((af j).trans (ag r))));rw[E,gu]at A;rw[ag (bq.2 r)];exact jx x.ep f rfl rfl rfl rfl rfl (re x.ep λo F=>⟨_,rfl,zK (A o (n.tt F)) λa=>⟨_,ai (F.get f id),zK a λa=>⟨_,ai (F.get f id),a⟩⟩⟩);rw[af (λe=>r (bq.1 e))];by_cases u:x.kind=12;have E:oY x=(decide (x.token≥1) && decide (x.token<=2147483648)):=(af k).trans ((af i).trans ((af m).trans ((af j).trans ((af r).trans (ag u)))));rw[E]at a;rw[ag (bq.2 u)];exact⟨_,ai f,zK a (λa=>⟨_,ai f,by rw[show decide (((x.s p c).f17:Int)<=2147483648)=_ from Bn.mQ x.token 2147483648];exact a⟩) (Ji x.token 1)⟩;rw[af (λe=>u (bq.1 e))];have E:oY x=decide (x.kind=10\/x.kind=11):=(af k).trans ((af i).trans ((af m).trans ((af j).trans ((af r).trans (af u)))));rw[E]at a;refine⟨_,ai f,?_⟩;by_cases t:x.kind=10;rw[ag (bq.2 t)];rw[aC (.inl t)]at a;exact a;rw[af (λe=>t (bq.1 e))];refine⟨_,ai f,?_⟩;have G:decide (x.kind=10\/x.kind=11)=(x.kind==11):=by by_cases Q:x.kind=11<;>simp[t,Q]
    rw[G]at a;exact a
   by_cases j:x.kind=5;grind;rw[af (λe=>j (bq.1 e))];refine aB.of λU M=> ?_;subst M;dsimp only;by_cases B:x.kind=8;grind;rw[af (λe=>B (bq.1 e))];exact T _ ⟨λe=> .inr (.inr (bq.1 e)),λe=>bq.2 ((e.resolve_left j).resolve_left B)⟩
  by_cases i:x.kind=2;simp_all;rw[af (λe=>i (bq.1 e))];exact S _ ⟨λe=> .inr (bq.1 e),λe=>bq.2 (e.resolve_left i)⟩
 by_cases k:x.kind=1;rw[ag (bq.2 k)];exact key _ ⟨λ_=> .inl k,λ_=>bq.2 k⟩;rw[af (λe=>k (bq.1 e))];exact key _ ⟨λe=> .inr (bq.1 e),λe=>bq.2 (e.resolve_left k)⟩
def fD(x:Rq)(r:Row h p (bc x.nL))(a: iG h R (.B (mP x))):Cl 121 #[(x.s p c).agg] h R:=by refine yB (aI.cV λb o E e f=>⟨_,ai e,?_⟩);unfold mP at a;simp only[gu]at a;rw[show decide (((x.s p c).f0:Int)≥1)=_ from Ji x.id 1];refine kZ a f λa=>⟨_,ai e,?_⟩;rw[show decide (((x.s p c).f0:Int)<=1099511627776)=_ from Bn.mQ x.id 1099511627776];refine kZ a f λa=>aI.fX e (Rv x λs F=>⟨_,rfl,F.kp,kZ a (f.tt F) λa=> ?_⟩);have l:=F.get e _root_.id;have i:=f.tt F;refine aI.fX l (aI.fX l (ME x (r.frame i (λ_ _=>_root_.id)) λt P C n j=>aI.ex ((vQ x).s P C) ⟨rfl,j.kp,(K0 x (vQ x) (r.frame (i.tt j) (λ_ _=>_root_.id)) n λm k=>⟨_,rfl,k.kp,(a m (i.tt (j.tt k)))⟩)⟩))

end Ask
end
section
variable {h:aA} {R:fp}
variable {S:bZ} {s a:Nat}
def kA(e:ite S.isNone (R (.Z) h) (aW h (.C #[] 201) λb H=>jE (Builtin.append_ #[199,199] 199 #[.L (Sa b 0) 0 0,.L S s a]) H λv d=> ∃c T t,v=.L c T t/\R (.L c T t) d)):Cl 288 #[.L S s a] h R:=aP [] e
def jh(b:Cl 287 #[.L S s a,.func (.func 212) #[] #[]] h λv H=> ∃t,v=.I t/\R (.B (decide (t≥0))) H):Cl 214 #[.L S s a,.func (.func 212) #[] #[]] h R:=aP [] b
def jy (c: ∃(I:kj)(m:kG),I 0 h/\∀t H,I t H->ite (decide (t<(s:Int))) (Bd t s/\aH S λA=>aa.cJ H (A.add (toNat t*4)) λd=>Cl 212 #[d.agg] H λv b=> ∃T,v=.B T/\ite T (R (.I t) b) ((I (wrap .i64 (t+1)) b/\m (wrap .i64 (t+1)) b<m t H))) (R (.I (-1)) H)):Cl 287 #[.L S s a,.func (.func 212) #[] #[]] h R:=aP [(6,.loop [(8,sI)])] c
def jz(b:Cl 284 #[.L S s a,.func (.func 206) #[] #[]] h λv H=> ∃t,v=.I t/\R (.B (decide (t≥0))) H):Cl 205 #[.L S s a,.func (.func 206) #[] #[]] h R:=aP [] b
def jM (c: ∃(I:kj)(m:kG),I 0 h/\∀t H,I t H->ite (decide (t<(s:Int))) (Bd t s/\aH S λA=>gZ H (A.add (toNat t*1)) λd=>Cl 206 #[.U d] H λv b=> ∃T,v=.B T/\ite T (R (.I t) b) ((I (wrap .i64 (t+1)) b/\m (wrap .i64 (t+1)) b<m t H))) (R (.I (-1)) H)):Cl 284 #[.L S s a,.func (.func 206) #[] #[]] h R:=aP [(6,.loop [(8,sI)])] c

end
section
namespace Bn
open Cb
open ju (Ev cY mh)
variable {V:cQ→Bool} {h f d g0 g:aA} {R:fp} {D:Nat→Prop}
variable {a:List CV} {n k:Int} {b c B:Nat} {v:BV} {T:List Tr} {q:bZ} {t:Tr} {z:CV} {H:aA}
def Rx(a:List CV): ∀v∈a.flatMap kx,gk v=true:=λv i=>by have⟨A,_,e⟩:=List.mem_flatMap.1 i;exact qX A v e
def Pe{p:bZ}{n m:Nat}(j:Row h p (a.flatMap kx))(i:n=a.length)(l:a.length<=1000000)(e: ∀P C d,Own d P a.length C 4 (a.flatMap kx)->Fr No h d->(∀x,aL P x->h.size<=x)->R (.L P a.length C) d):Cl 288 #[.L p n m] h R:=by
 subst i;exact kA (w9 tI uI cW j (iH kx 4 iy a) (Rx a) ae ae e)
structure Lc (g0 g:aA) (b:Nat) (k n:Int) (v:BV) (T:List Tr) (a:List CV) (q:bZ) (c:Nat):Prop where
 cN:aa.at g b k n v.p v.b.length v.c q a.length c
 own:Own g q a.length c 4 (a.flatMap kx)
 ge: ∀y,aL q y->g0.size<=y/\y≠b
 tr:eZ g (λy=>(g0.size<=y/\y≠b)/\¬aL q y) T a
 fr:Fr (λy=>y=b) g0 g
def Lc.on(L:Lc g0 g b k n v T a q c)(F:Fr No g d):Lc g0 d b k n v T a q c:=
 ⟨F.get L.cN id,L.own.frame F bC,L.ge,L.tr.on F,L.fr.on F⟩
def UY(o:xx g (λy=>g0.size<=y/\y≠b) t z)(m:aa.fR g b z.s)(F:Fr (λy=>y=b) g0 g): ∃a,a.length=z.ll/\Lc g0 g b z.k z.n z.v t.l a z.q z.cl:=by have⟨H,a,e,i,j,l⟩:=o;refine⟨a,e.symm,?_,i,j,l,F⟩;rw[<-e];exact m
def UZ{k':Nat}(L:Lc g0 g b k (k':Int) v T a q c)(o:v.ok g (λy=>g0.size<=y/\y≠b)):xx g (λy=>g0.size<=y/\y≠b) (.mk k k' v.b T) ⟨k,k',v,q,a.length,c⟩:=
 ⟨⟨rfl,rfl,rfl,o⟩,a,rfl,L.own,L.ge,L.tr⟩
theorem Ry{e i:aA}(C:xx e (λy=>H.size<=y) (vG []) z)(r:Fr No H e)(F:Fr No e i)(x:aa.fR i B z.s)(G:B=e.size):
  ∃Z,Z.length=0/\Lc H i B z.k z.n z.v [] Z z.q z.cl/\z.k=4/\z.n=0/\z.v.b= []/\z.v.b.length<=z.v.c:=by
 have I:=r.1;obtain⟨⟨A,l,m,o⟩,Z,s,p,u,w⟩:=C;have E:xx i (λy=>H.size<=y/\y≠B) (vG []) z:=
  ⟨⟨A,l,m,((NN o).mono λy j=>ae).frame F bC⟩,Z,s,p.frame F bC,λy j=>⟨u y j,bN (p.dk j)⟩,(eZ.mono (λy j=>by grind) w.lt).on F⟩
 obtain⟨Z,_,L⟩:=UY (g0:=H) E x ((r.tt F).mono λ_ _=>False.elim);exact⟨Z,L.tr.len.symm,L,A,l,m,o.cap⟩
def WI{i n:Nat}{y:aa.S}(L:Lc H g B k (n:Int) v T a q c)(m:k=4)(o:n=0)(E:v.b= [])(cap:v.b.length<=v.c)(F:Fr No h H)(j:aa.fR H i y)(w:i≠B)(A:h.size<=i)(C:h.size<=B)(s: ∀d z,xx d (λy=>h.size<=y) (vG T) z->Fr No h d->R z.s.agg d):aa.cJ g (AA B 0) λr=>aa.dv g (AA i 0) r λG=>aa.cJ G (AA i 0) λr=>R r.agg G:=by
 subst m;subst o;have I:=aD j;have Z:=F.1;have l:=UZ (k':=0) L ⟨by rw[E];exact Row.nil,λe=>absurd E e,cap⟩;rw[E]at l;exact aa.fX (x:=CV.s ⟨4,0,v,q,a.length,c⟩) L.cN (fin (z:=⟨4,0,v,q,a.length,c⟩) (t:=vG T) (D:=λy=>H.size<=y/\y≠B) (L.fr.get j w) l (λy u e=>ae) λG x p=>s G _ (x.mono λy u=>ae) ((F.fresh L.fr (λy e=>ae)).fresh p (λy e=>ae)))
def XZ{M:dw}(L:Lc g0 g b k n v T a q c)(ll:a.length<=1000000)(tz:iD g (λy=>(g0.size<=y/\y≠b)/\¬aL q y) t z)(hk: ∀G K Q C,Lc g0 G b k n v (T++ [t]) K Q C->K.length=a.length+1->g.size<=G.size->(∀x,x≠b->¬aL q x->x<g.size->G[x]? =g[x]?)->M G):
  aW g (.C z.s.arr 201) λP b'=>bM Tryz.prog (Builtin.append_ #[199,199] 199 #[.L q a.length c,.L (Sa P 0) 1 1]) b' λf' c'=>∃J I E,f'=.L J I E/\aO c' (AA b 3) (.L J I E) λd'=>M d':=by
 refine aa.cV λb2 h7 g' s F=> ?_;have z7:=F.1;have zg:=L.fr.1;have h':=aD s;have i':=aD L.cN;have nq: ∀y,aL q y->y<g.size:=λy i=>L.own.dk i;refine dI tI uI (L.own.frame F bC) (ds:=kx z) (.inr ⟨_,rfl,aa.jw (x:=z.s) s⟩) rfl (qX z) ae ae λQ C a' e' _ j p=>⟨_,_,_,rfl,?_⟩;have O:=j.get (F.get L.cN id) (λi=>(L.ge _ i).2 rfl);refine bf O (by show 3<4;omega) λr U X o=> ?_;have l:Fr (λy=>y=b) a' r:=Fr.of_eq X (λS hc=>o S hc);have w: ∀y,aL Q y->g0.size<=y/\y≠b:=λy i=>by rcases p y i with A|A;exact L.ge y A;omega
 have Z:a.flatMap kx++kx z=(a++ [z]).flatMap kx:=by rw[cO];simp
 refine hk r (a++ [z]) Q C ⟨?_,?_,w,?_,?_⟩ bt ?_ ?_;rw[aq];exact U;rw[aq,<-Z];exact e'.frame l (λy i e=>bN (w y i));have t1:=((L.tr.snoc tz).lt.on F).frame j (λy i m=>i.1.2 m);have m1:=eZ.mono (D':=λy=>(g0.size<=y/\y≠b)/\¬aL Q y) (λy i=>⟨i.1.1,λm=>by rcases p y m with A|A;exact i.1.2 A;have:=i.2;omega⟩) t1;exact eZ.frame l (λy i e=>ae) m1;exact((L.fr.on F).trans j (S'':=λy=>y=b) bC (λx u i=>bN (L.ge x i))).trans l bC bC;have:=j.1;omega;intro x u hq hl;rw[o x u,j.2 x ae hq,F.2 x hl id]
def Rz{p:dw}{K:List (bZ)}(L:Lc g0 g b k n v T a q c)(ll:a.length<=1000000)(I:iD g (λy=>(g0.size<=y/\y≠b)/\¬aL q y) t z)(F: ∀G o Q C,Lc g0 G b k n v (T++ [t]) o Q C->o.length=a.length+1->g.size<=G.size->(∀x,x≠b->¬aL q x->x<g.size->G[x]? =g[x]?)->p G):
  aW g (.C z.s.arr 201) λs i=>Kp g i K/\bM Tryz.prog (Builtin.append_ #[199,199] 199 #[.L q a.length c,.L (Sa s 0) 1 1]) i λJ w=>∃m l j,J=.L m l j/\aO w (AA b 3) (.L m l j) λA=>p A:=by
 intro r u E e;refine⟨?_,XZ L ll I F r u E e⟩;subst e;exact(Fr.push _ _).kp
def RA{l C:Nat}(U:mG V f)(u:Fr No f h)(L:nV h D q l C a)(r:eZ h D T a)(X:dS T<=1000000)(s: iG h R (.B (!T.all (iQ V)))):Cl 214 #[.L q l C,.func (.func 212) #[] #[]] h R:=by
 have ln:=r.len;have Q:=L.len;have l9:=iZ T;refine jh (jy ?_);refine⟨λt g=> ∃i:Nat,t=(i:Int)/\i<=T.length/\Fr No h g/\(T.take i).all (iQ V)=true,λt _=>T.length - t.toNat,⟨0,rfl,bK _,Fr.refl _ _,by rw[fN];rfl⟩,?_⟩;rintro _ g ⟨i,rfl,S,F,o⟩;by_cases j:i<T.length;rw[gH];obtain⟨A,y,E,J,M,Z⟩:=elem (L.frame F bC) (r.on F) j;have ra:=jH j;have w:T.take (i+1)=T.take i++ [at_ T i]:=by rw[aV];unfold at_;rw[bx,au j];rfl
 have K:at_ T i∈T:=by unfold at_;rw[bx,au j];exact fZ j
 refine⟨ae,bU.2 ⟨A,E,aa.iR (x:=y.s) (by rw[aK];exact J) (xz (x:=y.s) (aa.cV λO H P I m=>aa.fX I (fD U (u.tt (F.tt m)) (M.on m) ae λG x=>⟨_,rfl,_,rfl,?_⟩)))⟩⟩;have p:=F.tt (m.tt x);cases q:iQ V (at_ T i)with
 |false=>rw[gH];refine⟨_,rfl,?_⟩;have:=s G p;rw[show T.all (iQ V)=false by rw[List.all_eq_false];exact⟨_,K,by rw[q];decide⟩]at this;rw[aC ae];exact this
 |true=>rw[dz,dJ (n:=(i:Int)+1) ae ae];exact⟨⟨i+1,ae,ae,p,by rw[w,List.all_append,o];simp[q]⟩,by show T.length - Int.toNat ((i:Int)+1)<T.length - Int.toNat (i:Int);omega⟩
 rw[af (λe=>j (bN (bk e)))];rw[aX ae]at o;have:=s g F;rw[o]at this;exact⟨_,rfl,this⟩

end Bn
end
section
namespace Bn
open Cb
open ju (Ev cY mh)
variable {V:cQ→Bool} {h a H:aA} {R:fp} {D:Nat→Prop} {t:List Tr} {y:List CV} {q:bZ} {l c:Nat}
variable {i:Nat}
theorem HN(L:nV h D q l c y)(T:eZ h D t y)(G:dS t<=1000000)(B:i<100)(n: iG h R (.I (typeAt t i))):Cl 213 #[.L q l c,.I (i:Int)] h R:=by
 have I:=T.len;have w:=L.len;refine xy (aB.of λJ k=> ?_);have o: ∀g,Fr No h g->¬(i<t.length/\(at_ t i).n<=2/\qO (at_ t i) (num (at_ t i).n)=true)->J true g:=λg r d=>by subst k;dsimp only;have:=n g r;unfold typeAt at this;rw[af d]at this;exact this
 rw[dz];by_cases b:i<t.length
 case neg=>rw[gH];exact o h (Fr.refl _ _) (λe=>b e.1)
 rw[dz];have⟨A,u,E,z,p,_⟩:=elem L T b;have K:=jH b;have⟨_,v,_⟩:=iD.kn p;have m:cH (A.add (Int.toNat (i)*4)) u.s.l 0 h:=by grind
 have C:aU h ((A.add (Int.toNat (i)*4)).add 1)=some (.U ((at_ t i).n)):=by rw[<-v];exact m.2.1
 refine⟨ae,bU.2 ⟨A,E,_,C,?_⟩⟩;by_cases d:(at_ t i).n<=2
 case neg=>rw[gH];exact o h (Fr.refl _ _) (λe=>d e.2.1)
 rw[af (by grind)];refine⟨ae,bU.2 ⟨A,E,aa.iR m ⟨ae,bU.2 ⟨A,E,_,C,fT λx f=>aa.ex (nv (at_ t i).n).s ⟨rfl,f.kp,jv (p.on f) oZ ae λs j=>⟨_,rfl,j.kp,?_⟩⟩⟩⟩⟩⟩;have F:=f.tt j;cases e:qO (at_ t i) (num (at_ t i).n)with
 |false=>grind
 |true=>subst k;dsimp only;refine⟨ae,bU.2 ⟨A,E,_,F.cell C id,?_⟩⟩;have:=n s F;unfold typeAt at this;rw[ag ⟨b,d,e⟩]at this;rw[fc];exact this
def HO(t:List Tr)(i:Nat): -1<=typeAt t i/\typeAt t i<=2:=by unfold typeAt;split<;>omega
def TT(n:Nat):List.replicate n (Value.int .u8 0)=bc (List.replicate n 0):=by unfold bc;rw[List.map_replicate];rfl
def Xt(n k:Nat)(m:Nat)(b:m=k):IntKind.wrap .u8 (Int.fdiv (n:Int) (2 ^ m))=((UInt8.ofNat (n/2 ^ k)).toNat:Int):=by subst b;rw[Rl,Rk]
theorem K1{sum:Nat}(U:mG V a)(c':Fr No a h)(L:nV h D q l c y)(T:eZ h D t y)(hr:dS t<=900000)(s1:1<=sum)(s2:sum<=2)(Z: ∀b,sumOf V t sum=.ok b->∀H p c,Row H p (bc b)->b.length=2*sum->(∀d,aL p d->h.size<=d)->Fr No h H->R (.T #[.L p b.length c,.I 0]) H)(k2:sumOf V t sum=.error 3->iG h R (.T #[.Z,.I 3])):Cl 215 #[.L q l c,.I (sum:Int)] h R:=by
 have ln:=T.len;have el:=L.len;have l9:=iZ t;refine yu (Pe L.row L.len ae λp1 c1 h1 o1 n X=>⟨_,_,_,rfl,nA ⟨_,rfl,?_⟩⟩);rw[dJ (n:=2*(sum:Int)) ae ae,show 2*(sum:Int)=((2*sum:Nat):Int) by omega];refine QP gg.tU rfl (2*sum) ae ae λh3 p3 o3 P g3=>⟨_,_,_,rfl,?_⟩;rw[TT]at o3;have C:(List.replicate (2*sum) (0:UInt8)).length=2*sum:=List.length_replicate;refine je o3.hT C.symm ae λh4 v K ov Q=>aa.ex (CV.s ⟨2,0,v,none,0,0⟩) ⟨rfl,aa.cV λb h5 eb hb o=> ?_⟩;have F:=P.tt (Q.tt o);have z1:=n.1;have z3:=P.1;have z4:=Q.1;have z5:=o.1;have n1: ∀d,aL p1 d->d<h1.size:=λd j=>o1.dk j;have vl:v.b.length=2*sum:=by rw[K,C]
 refine dI tI uI (o1.frame F bC) (ds:=kx ⟨2,0,v,none,0,0⟩) (.inr ⟨_,rfl,aa.jw (x:=CV.s ⟨2,0,v,none,0,0⟩) hb⟩) rfl (qX _) ae ae λp6 c6 w O _ s g6=>⟨_,_,_,rfl,?_⟩;have ef:y.flatMap kx++kx ⟨2,0,v,none,0,0⟩=(y++ [(⟨2,0,v,none,0,0⟩:CV)]).flatMap kx:=bt
 rw[ef]at O;have T6:GN w (t++ [uk (List.replicate (2*sum) 0)]) (y++ [⟨2,0,v,none,0,0⟩]):=by have A:=(T.lt.on (n.tt F)).frame s (λd j z=>bN (X d z));have b:iD w (λd=>h3.size<=d) (.mk 2 0 v.b []) ⟨2,0,v,none,0,0⟩:=HK ((ov.frame o bC).frame s (λd j z=>bN (n1 d z)));rw[K]at b;exact A.u.snoc b.u
 have lA:(y++ [(⟨2,0,v,none,0,0⟩:CV)]).length=y.length+1:=bt
 have rA:dS (t++ [uk (List.replicate (2*sum) 0)])<=900100:=by rw[jr];simp only[dS,room,C];omega
 refine lu (D:=λ_=>True) ⟨lA.symm,O.hT,λ_ _ _=>trivial,O.le⟩ T6 ae λh7 a' tz S=>aa.ex a'.s ⟨rfl,?_⟩;have I:Fr No h w:=(n.tt F).fresh s (λd j=>X d j);have k:=I.tt S;have z6:=I.1;have z7:=S.1;have f:sumOf V t sum=sumOf V t sum:=rfl;conv at f=>rhs;unfold sumOf
 refine Bi (x:=a') U (c'.tt k) tz.u (by simp only[room,cA];omega) (λx g p8 c8 G n8 u=>⟨_,_,_,_,rfl,?_⟩) (λx g u=>⟨_,_,_,_,rfl,?_⟩);rw[dz];rw[ag x]at f;have m:=k.tt u;have b':(enc (vG (t++ [uk (List.replicate (2*sum) 0)]))).length<=900200:=by have:=mf (vG (t++ [uk (List.replicate (2*sum) 0)]));simp only[room,cA]at this;omega
 generalize enc (vG (t++ [uk (List.replicate (2*sum) 0)]))=B at f G b'⊢;have z8:=m.1;by_cases E:sum=1;rw[ag (by rw[E];rfl)];rw[ag E]at f;refine Rs G.hT rfl ae ⟨_,rfl,cg ?_⟩;rw[Xt (EB B) 8 (min (Int.toNat 8) (IntKind.bits .u16)) rfl,Rk];have r:Row (g.push (.C (bc (I7 B)).toArray 5)) (Sa g.size 0) (bc (I7 B)):=jj;exact Z _ f _ _ _ r (by rw[E];rfl) (λd ⟨A,J,M⟩=>by cases J;rw[<-M];exact z8) (m.tt (Fr.push _ _));rw[af (λe=>E (by grind))];rw[af E]at f;refine TP G.hT rfl ae ⟨_,rfl,cg ?_⟩;rw[Xt (CM B) 24 (min (Int.toNat 24) (IntKind.bits .u32)) rfl,Xt (CM B) 16 (min (Int.toNat 16) (IntKind.bits .u32)) rfl,Xt (CM B) 8 (min (Int.toNat 8) (IntKind.bits .u32)) rfl,Rk];have r:Row (g.push (.C (bc (NM B)).toArray 5)) (Sa g.size 0) (bc (NM B)):=jj;exact Z _ f _ _ _ r (by rw[show sum=2 by omega];rfl) (λd ⟨A,J,M⟩=>by grind) (m.tt (Fr.push _ _));rw[gH];rw[af (by rw[x];decide)]at f;exact k2 f g (k.tt u)
theorem NT(U:mG V a)(c':Fr No a h)(L:nV h D q l c y)(v:eZ h D t y)(hr:dS t<=800000)(hi:i<100)(k1: ∀T,qe V t i=.ok T->∀H z,xx H (λb=>h.size<=b) T z->Fr No h H->R (.T #[z.agg,.I 0]) H)(k2: ∀e,qe V t i=.error e->iG h R (.T #[zv.agg,.I e])):Cl 145 #[.L q l c,.I (i:Int)] h R:=by
 have ln:=v.len;have el:=L.len;have l9:=iZ t;refine zW (aa.cV λa' h1 eb K F=>aB.of λy' hJ=> ?_);have zb:=aD K;have no: ∀g e,Fr No h1 g->qe V t i=.error e->aa.dv g (AA a' 0) .z λG=>aa.cJ G (AA a' 0) λt'=>R (.T #[t'.agg,.I e]) G:=λg e A s=>Je (A.get K id) λG f=>k2 e s G ((F.tt A).fresh f (λb e=>ae));rw[af bt];have d:qe V t i=qe V t i:=rfl;conv at d=>rhs;unfold qe
 by_cases f':i<t.length
 case neg=>rw[aC ae];rw[af f']at d;subst hJ;dsimp only;rw[ag rfl];exact no h1 1 (Fr.refl _ _) d
 rw[ag f']at d;rw[aT ae];subst hJ;dsimp only;rw[af (show¬false=true by decide)];refine HN (L.frame F bC) (v.on F) ae hi λh4 m=>⟨_,rfl,aB.of λJ1 d'=>RA U (c'.tt (F.tt m)) (L.frame (F.tt m) bC) (v.on (F.tt m)) ae λn x=>⟨_,rfl,?_⟩⟩;have F':=HO t i;have I:=F.tt (m.tt x);have r': ¬(t.all (iQ V)=true/\0<=typeAt t i)->J1 true n:=λhn=>by subst d';dsimp only;rw[ag rfl];exact no n 3 (m.tt x) (by rw[d,af hn])
 cases ha:t.all (iQ V)with
 |false=>grind
 |true=>
 rw[dz];by_cases ht:0<=typeAt t i
 case neg=>grind
 rw[aT ae];clear r';rw[ag ⟨ha,ht⟩]at d;subst d';dsimp only;rw[af (show¬false=true by decide)];refine lu (L.frame I bC) (v.on I) ae λh7 z tz r=>aa.ex z.s ⟨rfl,aa.gw (x:=z.s) λB C A' M k=>aB.of λJ2 o'=> ?_⟩;have z1:=F.1;have z4:=m.1;have I':=x.1;have z5:=I.1;have z7:=r.1;have z9:=k.1;have J':=aD M;have u:=I.tt (r.tt k);have done: ∀g (w:CV) T,xx g (λb=>n.size<=b/\b≠B) T w->room T<=900000->aa.fR g B w.s->Fr (λb=>n.size<=b) C g->(qe V t i=if iQ V T=true then .ok T else .error 3)->J2 g:=by
  intro g w T E rt hw A s;subst o';try dsimp only
  have Q:Fr No h g:=u.fresh A (λb e=>ae);have e': ∀{g2},Fr No g g2->aa.fR g2 a' .z:=λf=>f.get (A.get ((m.tt (x.tt (r.tt k))).get K id) ae) id;refine aa.fX hw (fD U (c'.tt Q) E.u ae λB' o=>⟨_,rfl,?_⟩);cases O:iQ V T with
  |false=>rw[gH];rw[O]at s;exact Je (e' o) λG f=>k2 3 s G ((Q.tt o).fresh f (λb e=>ae))
  |true=>rw[dz];rw[O,ag rfl]at s;refine aa.fX (o.get hw id) (fin (e' o) (E.frame o bC) (λb j e=>bN F.1) λm' v' l'=>k1 T s m' w (v'.mono λb j=>ae) ((Q.tt o).fresh l' (λb e=>ae)))
 have P:xx C (λb=>n.size<=b/\b≠B) (vG t) z:=by obtain⟨⟨a1,a2,a3,a4⟩,Z,a5,a6,a7,a8⟩:=tz;refine⟨⟨a1,a2,a3,((NN a4).mono λb j=>ae).frame k bC⟩,Z,a5,a6.frame k bC,λb j=>⟨a7 b j,bN (a6.dk j)⟩,(eZ.mono (λb j=>by grind) a8.lt).on k⟩
 by_cases hp:0<typeAt t i
 case neg=>rw[dz];rw[af hp]at d;exact done C z (vG t) P (by simp only[room,cA];omega) M (Fr.refl _ _) d
 rw[ag (aC hp)];rw[ag hp]at d;obtain⟨sum,p'⟩:=dE ht;rw[p']at d⊢;rw[aK]at d;refine K1 U (c'.tt u) (L.frame u bC) (v.on u) ae ae ae (λbs hs n' E' z' u' lb nb p=>⟨_,_,_,_,rfl,?_⟩) (λhs n' p=>⟨_,_,_,_,rfl,?_⟩)
 .rw[dz];rw[hs]at d;refine⟨_,_,_,ai (p.get M id),je u' rfl ae λC' w' ev ov b'=>aa.ex (CV.s ⟨2,0,w',none,0,0⟩) ⟨rfl,b'.kp,?_⟩⟩;have h':=p.tt b';have g0:Fr (λb=>b=B) n C:=(r.tt k).mono λ_ _=>False.elim;obtain⟨Z,ez,X⟩:=UY (g0:=n) P M g0;have k':z.s.JT=Z.length:=ez.symm;have zl:Z.length=t.length:=by have:=X.tr.len;exact this.symm
  have q9: ∀b,aL z.q b->b<C.size:=λb j=>X.own.dk j;have G':=p.1;have H':=b'.1;have i':=X.on h';rw[k'];obtain⟨zk,zn,g',_⟩:=P.1;refine Rz i' ae (iD.mono (λb j=>⟨ae,λO=>bN (q9 b O)⟩) (HK ov)) λG x' q' j' S hl D' ho=> ?_;have s':z.v.ok G (λb=>n.size<=b/\b≠B):=by have J:z.v.b= []:=g';exact⟨by rw[J];exact Row.nil,λe=>absurd J e,P.1.2.2.2.cap⟩
  have E:=UZ (k':=z.n) S s';have ek:z.k=4:=zk;have en:z.n=0:=zn;have J:z.v.b= []:=g';rw[ek,en,J,ev]at E;have lr:=jr (a:=t) (b:= [uk bs]);simp only[dS,room]at lr;refine done G ⟨z.k,z.n,z.v,q',x'.length,j'⟩ (vG (t++ [uk bs])) (by rw[ek,en];exact E) (by simp only[room,cA];omega) S.cN ?_ d;refine⟨ae,λb j hn=> ?_⟩;rw[S.fr.2 b ae ae,(r.tt k).2 b ae id]
 rw[gH];rw[hs]at d;exact Je (p.get ((m.tt (x.tt (r.tt k))).get K id) id) λG f=>k2 3 d G ((u.tt p).fresh f (λb e=>bN F.1))
theorem Ac{T:Tr}{x:CV}(U:mG V a)(g':Fr No a h)(tx:Jd h T x)(P:room T<=800000)(hi:i<100)(k1: ∀u,tV V T i=.ok u->dS u<=dS T.l->∀H p z c,nV H (λd=>h.size<=d) p z.length c z->eZ H (λd=>h.size<=d) u z->Fr No h H->R (.T #[.L p z.length c,.I 0]) H)(Z: ∀e,tV V T i=.error e->e≠0->iG h R (.T #[.Z,.I e])):Cl 275 #[x.agg,.I (i:Int)] h R:=by
 obtain⟨xk,xn,xb,xl,xv,y,L,o⟩:=iD.kn tx;have rl:=mn (t:=T);have ln:=o.len;have el:=L.len;have l9:=iZ T.l;have e4:x.s.f0=T.k:=xk;have l':x.s.JT=T.l.length:=xl;refine zX (x:=x.s) (aa.cV λt' h1 eb hb J=>aB.of λj' hJ=>aa.fX hb (fD U (g'.tt J) (tx.on J) ae λh3 f3=>⟨_,rfl,?_⟩));have w:=J.tt f3;have O:=f3.get hb id;have b:tV V T i=tV V T i:=rfl;conv at b=>rhs;unfold tV
 have B: ¬(iQ V T=true/\T.k=4/\0<=typeAt T.l i)->∀g,Fr No h g->R (.T #[.Z,.I 3]) g:=λk g F=>Z 3 (by rw[b,af k]) cW g F;have I: ¬(iQ V T=true/\T.k=4/\0<=typeAt T.l i)->j' true h3:=λk=>by subst hJ;dsimp only;rw[ag rfl];exact B k h3 w
 cases hR:iQ V T with
 |false=>exact I (λe=>by rw[hR]at e;cases e.1)
 |true=>
 rw[af (show¬(!true)=true by decide)];refine⟨_,ai O,?_⟩;rw[e4];by_cases K:T.k=4
 case neg=>rw[show(T.k !=4)=true by simpa using K];exact I (λe=>K e.2.1)
 rw[show(T.k !=4)=false by simpa using K];clear I;subst hJ;dsimp only;rw[af (show¬false=true by decide)];refine⟨_,_,_,ai O,HN (L.frame w bC) (o.on w) ae hi λh4 f4=>⟨_,rfl,?_⟩⟩;have j:=w.tt f4;have v:=f4.get O id;by_cases S:0<=typeAt T.l i
 case neg=>rw[gH];exact B (λe=>S e.2.2) h4 j
 rw[dz];rw[ag ⟨hR,K,S⟩]at b;clear B;have f': ∀{g}(u:List Tr)(z:List CV){n c:Nat}{p:bZ},nV g (λ_=>True) p n c z->GN g u z->dS u<=dS T.l->Fr No h g->tV V T i=.ok u->Cl 210 #[.L p n c] g λs' p'=>aa.EX λC=>s'=C.agg/\R (.T #[.L C.VE C.JT C.Ti,.I 0]) p':=by intro g u z n c p Lz Tz rz F hu;refine lu Lz Tz ae λo' a' tz m'=>aa.ex a'.s ⟨rfl,?_⟩;obtain⟨_,ws,a5,a6,a7,a8⟩:=tz;have zg:=F.1;have:=k1 u hu rz o' a'.q ws a'.cl ⟨rfl,a6.hT,λ_ d X=>bN (a7 d X),a6.le⟩ (eZ.mono (λd X=>bN X.1) a8) (F.tt m');rw[<-a5]at this;exact this
 by_cases a:typeAt T.l i=0;rw[ag (by rw[a];rfl)];rw[ag a]at b;exact⟨_,_,_,ai v,f' T.l y (L.frame j bC) (o.on j) (bu _) j b⟩;rw[af (dH a)];rw[af a]at b;have y':i<T.l.length:=by
  rcases Nat.lt_or_ge i T.l.length with hq|hq;exact hq;have:typeAt T.l i= -1:=by unfold typeAt;rw[af (λe=>ae)]
  omega
 have D':=HO T.l i;obtain⟨sum,q'⟩:=dE S;rw[q']at b⊢;rw[aK]at b;have e':1<=sum/\sum<=2:=ae
 obtain⟨n,k⟩: ∃n,T.l.length=n+1:=⟨T.l.length - 1,ae⟩;rw[show T.l.length - 1=n by omega]at b;have ew:IntKind.wrap .i64 ((x.s.JT:Int) - 1)=(n:Int):=by rw[l',k,fc];omega
 refine⟨_,_,_,ai v,?_⟩;rw[ew];obtain⟨k',d,ea,hh,ty,_⟩:=elem (L.frame j bC) (o.on j) (i:=n) ae;have rn:=jH (ts:=T.l) (i:=n) ae;obtain⟨yk,yn,yb,yl,yv,_⟩:=iD.kn ty;generalize z':at_ T.l n=f at ty rn yk yn yb yl b;have C':=mn (t:=f);refine⟨_,_,_,ai v,ae,bU.2 ⟨k',ea,aa.iR (x:=d.s) (by rw[aK];exact hh) (aa.gw (x:=d.s) λb1 h6 v' A s=>aB.of λJ1 d'=> ?_)⟩⟩;have F6:=j.tt s;have lb:d.s.Xn=f.b.length:=by show d.v.b.length=_;rw[yb]
 have B: ∀g,Fr No h6 g->¬(i<n/\qO f (uk f.b)=true/\f.b.length=2*sum)->J1 true g:=λg F k=>by
  subst d';try dsimp only
  rw[ag rfl];exact Z 3 (by rw[b,af k]) cW g (F6.tt F)
 by_cases c1:i<n
 case neg=>grind
 rw[dz];have i': ∀{g},Fr No h6 g->Row g d.v.p (bc f.b):=λF=>by rw[<-yb];exact((yv.frame s bC).frame F bC).row
 refine aa.fX A ⟨_,_,_,ai A,je (i' (Fr.refl _ _)) lb ae λw' h' ev ov M=>aa.ex (CV.s ⟨2,0,h',none,0,0⟩) ⟨rfl,M.kp,?_⟩⟩;refine jv (x:=d) (y:=⟨2,0,h',none,0,0⟩) (s:=uk f.b) (ty.on (s.tt M)) (ev▸HK ov) ae λx' n'=>⟨_,rfl,?_⟩;have m:=M.tt n';cases c2:qO f (uk f.b)with
 |false=>grind
 |true=>
 rw[af (show¬(!true)=true by decide)];refine⟨_,_,_,ai (m.get A id),nA ⟨_,rfl,(Fr.refl _ _).kp,?_⟩⟩;rw[lb,dJ (n:=2*(sum:Int)) ae ae];by_cases c3:f.b.length=2*sum
 case neg=>grind
 rw[show((f.b.length:Int) !=2*(sum:Int))=false by simp only[gy];omega];clear B;rw[ag ⟨c1,c2,c3⟩]at b;subst d';try dsimp only
 rw[af (show¬false=true by decide)];have G:=F6.tt m;have b': ∀{g},Fr No h g->nV g (λ_=>True) (cE x.s.VE x.s.Ti 0 4) ((Int.toNat (n:Int)) - 0) (x.s.Ti - 0) (y.take n):=fun {g} F=>by have P:=(L.frame F bC).row.sub (cap:=x.cl) (l:=0) (u:=n) (sz:=4) (bK _) (bN L.cap);rw[kQ kx 4 iy,Nat.zero_mul,gK]at P;have hc:x.ll<=x.cl:=L.cap;exact⟨by rw[bT];omega,P,λ_ _ _=>trivial,by show n - 0<=x.cl - 0;omega⟩
 have cc:n<=x.s.Ti:=by have hc:x.ll<=x.cl:=L.cap;show n<=x.cl;omega
 have rt:dS (T.l.take n)<=dS T.l:=qu _ _;refine⟨_,_,_,ai ((s.tt m).get v id),ae,K1 U (g'.tt G) (b' G) ((o.on G).take n) ae e'.1 e'.2 (λbs Q c' B' u' r' A' nb r=>⟨_,_,_,_,rfl,?_⟩) (λQ c' r=>⟨_,_,_,_,rfl,?_⟩)⟩;rw[dz];rw[Q]at b;dsimp only at b;refine⟨_,_,_,ai ((m.tt r).get A id),jg r' (i' (m.tt r)) rfl lb ⟨_,rfl,?_⟩⟩;have E:=G.tt r;by_cases ce:bs=f.b;rw[aC ce,af (show¬(!true)=true by decide)];rw[ag ce]at b;exact⟨_,_,_,ai (((s.tt m).tt r).get v id),ae,f' (T.l.take n) (y.take n) (b' E) ((o.on E).take n) rt E b⟩;grind;rw[gH];rw[Q]at b;exact Z 3 b cW c' (G.tt r)

end Bn
end
section
namespace Bn
open Cb
open ju (Ev cY mh)
variable {V:cQ→Bool} {h a H:aA} {R:fp}
variable {T:List Tr} {i:Nat} {t:Tr} {e:Int}
abbrev Prim.s(p:Prim):aE.S:=⟨p.fl,p.sum,p.dest.jY,p.dest.node,p.dest.fK,p.dest.host,p.dest.jl,p.rep.jY,p.rep.node,p.rep.fK,p.rep.host,p.rep.jl,p.id.e.jY,p.id.e.node,p.id.e.fK,p.id.e.host,p.id.e.jl,p.id.tm,p.id.sq,p.gT⟩
def Prim.wf(p:Prim):Prop:=0<=p.dest.fK/\0<=p.rep.fK/\0<=p.id.e.fK
variable {p:Prim}
def WJ{b:Nat}{y:aE.S}(x:Prim){K:aE.S->dw}(c:aE.fR h b y)(j: ∀H,Fr (λy=>y=b) h H->K x.s H):
  aE.dv h (AA b 0) x.s λg=>aE.cJ g (AA b 0) λr=>K r g:=
 aE.iB c λg d f _=>aE.fX d (j g f)
def Pf(p:Prim)(c: iG h R (.B (nR p))):Cl 141 #[p.s.agg] h R:=by refine yw (aE.cV λb l E d f=>⟨_,ai d,?_⟩);unfold nR at c;simp only[gu]at c;refine kZ c f λc=>⟨_,ai d,kZ c f λc=>⟨_,ai d,kZ c f λc=>jx p.dest d rfl rfl rfl rfl rfl (ju.fD p.dest λm F=>⟨_,rfl,kZ c (f.tt F) λc=>jx p.rep (F.get d id) rfl rfl rfl rfl rfl (ju.fD p.rep λn g=>⟨_,rfl,kZ c (f.tt (F.tt g)) λc=>EW p.id ((F.tt g).get d id) rfl rfl rfl rfl rfl rfl rfl (xf p.id λk j=>⟨_,rfl,kZ c (f.tt (F.tt (g.tt j))) λc=>⟨_,ai ((F.tt (g.tt j)).get d id),?_⟩⟩)⟩)⟩)⟩⟩;rw[show decide ((p.s.f19:Int)<=1099511627776)=_ from mQ p.gT 1099511627776];exact c k (f.tt (F.tt (g.tt j)))
def HP(h:nR p=true):0<=p.sum/\p.sum<=2/\cY p.dest=true/\cY p.rep=true/\iJ p.id=true/\p.gT<=1099511627776:=by unfold nR at h;simp only[aZ,bn]at h;exact⟨h.1.1.1.1.1.2,h.1.1.1.1.2,h.1.1.1.2,h.1.1.2,h.1.2,h.2⟩
def EZ(h:nR p=true):dS (KM p)<=1000:=by have⟨_,_,A,b,c,_⟩:=HP h;have:=oL _ A;have:=oL _ b;have:=oL _ (EY c).1;simp only[KM,dS,room,cA];omega
def E0(h:qe V T i=.ok t):room t<=dS T+30:=by
 unfold qe at h;split at h;split at h;split at h
 split at h
 cases h;rename_i b c;split at h;cases h;have:b.length<=4:=by unfold sumOf at c;split at c;cases c;split<;>simp[I7,NM];cases c
 simp only[room,jr,dS,cA];omega;cases h;split at h;cases h;simp only[room,cA];omega;cases h;cases h;cases h
def E6(h:qh V p=.ok t):room t<=1100:=by unfold qh at h;split at h;rename_i b;have:=E0 h;have:=EZ b;omega;cases h
theorem RB(p:Prim)(w:p.wf)(U:mG V a)(n':Fr No a h)(u: ∀t,qh V p=.ok t->∀H z,xx H (λy=>h.size<=y) t z->Fr No h H->R (.T #[z.agg,.I 0]) H)(K: ∀e,qh V p=.error e->iG h R (.T #[zv.agg,.I e])):Cl 100 #[p.s.agg] h R:=by
 refine yx (aE.cV λo' h1 eb Q D=>aa.cV λb1 h2 p' S l=>aE.fX (l.get Q id) (Pf p λh3 j=>⟨_,rfl,?_⟩));have k:=(l.tt j).get Q id;have q:=j.get S id;have d:=D.tt (l.tt j);have z1:=D.1;have D':=aD S;have z3:=j.1;unfold qh at u K;cases s:nR p with
 |false=>exact Je q λh4 f4=>K 3 (by grind) h4 (d.fresh f4 (λy e=>ae))
 |true=>
 rw[dz];rw[s,ag rfl]at u K;have⟨s0,s2,eD,eR,eI,_⟩:=HP s;have hE:=(EY eI).1;refine jx p.dest k rfl rfl rfl rfl rfl (Bq p.dest w.1 (λ_ h5 Z td f5=>aa.ex Z.s ⟨_,rfl,aa.gw λb2 h7 q' e' P=> ?_⟩) (λe=>by grind));have B:=f5.tt P;refine jx p.rep (B.get k id) rfl rfl rfl rfl rfl (Bq p.rep w.2.1 (λ_ h8 v tr n=>aa.ex v.s ⟨_,rfl,aa.gw λb3 u' r' g' g=> ?_⟩) (λe=>by grind));have x:=B.tt (n.tt g);refine EW p.id (x.get k id) rfl rfl rfl rfl rfl rfl rfl (HM p.id w.2.2 (λ_ v' zi ti b=>aa.ex zi.s ⟨_,rfl,aa.gw λb4 w' s' X f=> ?_⟩) (λe=>by grind));have A:=x.tt (b.tt f);have r:=A.get k id;have f':=(n.tt (g.tt (b.tt f))).get e' id;have h':=(b.tt f).get g' id;have⟨ik,B',ib,il,iv,ys,L,C⟩:=iD.kn (ti.u.on f);have lI:(Re p.id).l.length=2:=rfl;have li:zi.s.JT=2:=il;have⟨a0,y0,a',i',l',_⟩:=elem L C (i:=0) ae;have⟨a1,y1,b',j',m',_⟩:=elem L C (i:=1) ae;refine⟨_,ai r,_,ai r,aa.fX f' ⟨_,_,_,ai X,ae,bU.2 ⟨a0,a',aa.iR i' (aa.fX h' ⟨_,_,_,ai X,ae,bU.2 ⟨a1,b',aa.iR j' ⟨_,ai r,?_⟩⟩⟩)⟩⟩⟩;have⟨sum,hs⟩:=dE s0;have es:=ae
 refine fT λx' E=>aa.ex (nv 7).s ⟨rfl,E.kp,fT λy' I=>aa.ex (nv p.fl).s ⟨rfl,I.kp,?_⟩⟩;rw[show p.s.f1=((sum:Nat))from hs,vx];refine fT λz' J=>aa.ex (nv sum).s ⟨rfl,J.kp,fT λA' M=>aa.ex (nv p.gT).s ⟨rfl,M.kp,qZ (ys:= [nv 7,nv p.fl,nv sum,Z,y0,v,y1,nv p.gT]) rfl λb5 c' t' L5 O=>⟨O.kp,?_⟩⟩⟩;have G:=E.tt (I.tt (J.tt (M.tt O)));have T5:GN c' (KM p) [nv 7,nv p.fl,nv sum,Z,y0,v,y1,nv p.gT]:=by unfold KM;rw[es];exact .cons oZ (.cons oZ (.cons oZ (.cons (td.u.on (P.tt (n.tt (g.tt (b.tt (f.tt G)))))) (.cons (l'.on G) (.cons (tr.u.on (g.tt (b.tt (f.tt G)))) (.cons (m'.on G) (.cons oZ .nil)))))))
 have F:=A.tt G;have rp:=EZ s;refine NT (i:=2) U (n'.tt (d.tt F)) (L5 (λ_=>True) trivial) T5 ae ae (λt ht d' z tz c=>aa.ex z.s ⟨_,rfl,?_⟩) (λe he d' c=>aa.ex zv.s ⟨_,rfl,?_⟩);have C':=F.1;exact fin ((F.tt c).get q id) tz (λy hy e=>ae) λo k' m=>u t ht o z (k'.mono λy hy=>ae) ((d.tt (F.tt c)).fresh m (λy e=>ae));exact Je ((F.tt c).get q id) λo m=>K e he o ((d.tt (F.tt c)).fresh m (λy e=>ae))
theorem HQ(h:qe V T i=.error e):e≠0:=by
 unfold qe at h;split at h;split at h
 split at h
 split at h
 rename_i b;cases h;unfold sumOf at b;split at b;cases b;grind;grind;grind;cases h;decide;grind
theorem Ph(h:qh V p=.error e):e≠0:=by unfold qh at h;split at h;exact HQ h;grind
theorem RC(p:Prim)(w:p.wf)(U:mG V a)(u:Fr No a h)(c: ∀H z q,(∀t,qh V p=.ok t->q=0/\Jd H t z)->(∀e,qh V p=.error e->q≠0)->Fr No h H->R (.T #[z.s.agg,.I q]) H):Cl 100 #[p.s.agg] h R:=
 RB p w U u (λt d H z g f=>c H z 0 (λj e=>by rw[d]at e;cases e;exact⟨rfl,g.u⟩) (λe b=>by grind) f) (λe b H f=>c H zv e (λt d=>by grind) (λ_ _=>Ph b) f)
def RE{x:CV}(U:mG V a)(z':Fr No a h)(mx:jS.Mx h)(tx:Jd h t x)(hr:room t<=400000)(k1: ∀p,xZ V t=.ok p->p.wf->iG h R (.T #[p.s.agg,.I 0]))(k2: ∀e,xZ V t=.error e->e≠0->iG h R (.T #[Prim.zero.s.agg,.I e])):Cl 197 #[x.agg] h R:=by
 have rl:=mn (t:=t);refine zY (x:=x.s) (aa.cV λp' M eb hb f1=>aE.cV λb1 h2 f3 k' f2=>aa.fX (f2.get hb id) ?_);have n:=f1.tt f2;have c4:=f2.get hb id;have zb:=aD hb;have i5:=aD k';have z1:=f1.1;have z2:=f2.1;have no: ∀g e,Fr No h2 g->xZ V t=.error e->e≠0->aE.dv g (AA b1 0) .z λG=>aE.cJ G (AA b1 0) λr=>R (.T #[r.agg,.I e]) G:=λg e j Q hn=>WJ .zero (j.get k' id) λG j'=>k2 e Q hn G ((n.tt j).fresh j' (λy e=>ae));have b:xZ V t=xZ V t:=rfl;conv at b=>rhs;unfold xZ
 refine Ac (i:=2) U (z'.tt n) (tx.on n) ae ae (λu c ru v p zs f0 L TS F=>⟨_,_,_,_,rfl,?_⟩) (λe Q hn v F=>⟨_,_,_,_,rfl,?_⟩)
 case refine_2=>rw[ag (dH hn)];exact no v e F (by rw[b,Q]) hn
 rw[dz];rw[c]at b;dsimp only at b;have ln:=TS.len;have l9:=iZ u;by_cases l8:u.length=8
 case neg=>rw[ag (by simp only[fi,ne_eq];omega)];exact no v 3 F (by rw[b,af l8]) cW
 rw[af (by simp only[fi,ne_eq];omega)];rw[ag l8]at b;have z3:=F.1;have I: ∀i,i<8->∃(A:Addr)(y:CV),p=some A/\cH (A.add (i*4)) y.s.l 0 v/\Jd v (at_ u i) y/\(∀{g},Fr No v g->aU g ((A.add (i*4)).add 1)=some (.U ((at_ u i).n:Int))):=λi hi=>by obtain⟨A,y,ea,hh,ty,_⟩:=elem L TS (i:=i) ae;obtain⟨_,yn,_⟩:=iD.kn ty;exact⟨A,y,ea,hh,ty.u,λj=>j.cell (by have:=hh.2.1;rw[<-yn];exact this) id⟩
 have g': ∀i,i<8->room (at_ u i)<=dS u:=λi hi=>jH ae;obtain⟨a3,y3,M',d5,e5,_⟩:=I 3 ae;have r3:=g' 3 ae;have r5:=g' 5 ae;have r4:=g' 4 ae;have r6:=g' 6 ae;have u2:=z'.tt n;have m2:=mx.on n;refine⟨ae,bU.2 ⟨a3,M',aa.iR (x:=y3.s) d5 (Jg U (u2.tt F) (m2.on F) e5 ae λd qd ⟨d3,d4,wd⟩ h6 f6=>av.ex d.s ⟨_,rfl,av.gw (x:=d.s) λb2 h8 f7 c5 f8=> ?_⟩)⟩⟩;obtain⟨a5,y5,P',d7,e7,_⟩:=I 5 ae;have w:=f6.tt f8;refine⟨ae,bU.2 ⟨a5,P',aa.iR (x:=y5.s) (nk w id d7) (Jg U (u2.tt (F.tt w)) (m2.on (F.tt w)) (e7.on w) ae λr qr ⟨e1,e2,wr⟩ h9 f9=>av.ex r.s ⟨_,rfl,av.gw (x:=r.s) λb3 x' g0 c7 r'=>aB.of λA' hJ=> ?_⟩)⟩⟩;obtain⟨a4,y4,O',d6,e6,_⟩:=I 4 ae;obtain⟨a6,y6,Q',d8,e8,_⟩:=I 6 ae;have m:=w.tt (f9.tt r');have c6:=(f9.tt r').get c5 id;have i':=u2.tt (F.tt m);have e':=m2.on (F.tt m);have h': ∀g l' (X:jP) (q:Int),ah.fR g l' X.s->Fr No x' g->IQ V (vG [at_ u 4,at_ u 6]) X q->A' (Sa l' 0) q g:=by
  intro g l' X q hs j ⟨d9,e0,wq⟩;have B:=m.tt j;obtain⟨D',w1,R',_,_,G'⟩:=I 1 ae;obtain⟨E',w2,S',_,_,H'⟩:=I 2 ae;obtain⟨F',w7,T',_,_,I'⟩:=I 7 ae;subst hJ;dsimp only;refine⟨ae,bU.2 ⟨D',R',_,G' B,ae,bU.2 ⟨E',S',_,H' B,av.fX (j.get c6 id) (av.fX (j.get c7 id) (ar.2 (ah.fX hs ⟨ae,bU.2 ⟨F',T',_,I' B,?_⟩⟩)))⟩⟩⟩;have n2:(at_ u 2).n<=2:=by
   have:0<=typeAt u 2:=by
    unfold tV at c;split at c;rename_i M;have key: ∀k,2<k->typeAt (t.l.take k) 2=typeAt t.l 2:=λk hk=>by unfold typeAt at_;rw[bx,bx,db,ag hk,bT];exact ite_congr (propext (by constructor<;>(rintro⟨A,p'⟩;exact⟨ae,p'⟩))) (λ_=>rfl) (λ_=>rfl)
    split at c
    cases c;exact M.2.2;split at c;rename_i h2;split at c;cases c;split at c;cases c;rw[key _ h2.1];exact M.2.2;cases c;cases c;cases c
   unfold typeAt at this;split at this;rename_i M;exact M.2.1;omega
  refine aE.cV λb4 g7 g1 c8 s'=>⟨s'.kp,?_⟩;rw[dJ (n:=(((at_ u 2).n:Nat):Int)) ae ae];refine aE.iB (x:=(Bb u d r X).s) c8 λa7 q' U' _=>aE.fX q' ?_;have zg:=B.1;have m':Fr No h2 a7:=(F.tt (B.tt s')).fresh U' (λy e=>ae);refine RC (Bb u d r X) ⟨wd,wr,wq⟩ U (u2.tt m') λg8 z qz e3 e4 V'=>aa.ex z.s ⟨_,rfl,aa.gw (x:=z.s) λb5 O g2 c9 t'=>aB.of λJ1 y'=> ?_⟩;have n':=V'.tt t';have C:=m'.tt n';have D: ∀g,Fr No O g->xZ V t=.error 3->J1 true g:=λg j Q=>by
   subst y';try dsimp only
   rw[ag rfl];exact no g 3 (C.tt j) Q cW
  by_cases S:qd=0
  case neg=>rw[ag (dH S)];exact D O (Fr.refl _ _) (by rw[b,d4 S])
  rw[af (dH S)];by_cases Z:qr=0
  case neg=>rw[ag (dH Z)];exact D O (Fr.refl _ _) (by rw[b,e2 Z];cases qQ V (at_ u 3)<;>rfl)
  rw[af (dH Z)];by_cases c3:q=0
  case neg=>rw[ag (dH c3)];exact D O (Fr.refl _ _) (by rw[b,e0 c3];cases qQ V (at_ u 3)<;>cases qQ V (at_ u 5)<;>rfl)
  rw[af (dH c3)];rw[d3 S,e1 Z,d9 c3]at b;dsimp only at b;cases P:qh V (Bb u d r X)with
  |error e=>rw[P]at b;rw[ag (dH (e4 e P))];exact D O (Fr.refl _ _) b
  |ok o'=>
   rw[P]at b;dsimp only at b;obtain⟨rfl,l⟩:=e3 o' P;rw[dz];have ra:=E6 P;refine aa.fX c9 (aa.fX (x:=x.s) (C.get c4 id) (jv (x:=z) (y:=x) (l.on t') (tx.on (n.tt C)) ae λa8 a'=>⟨_,rfl,?_⟩));cases hs:qO o' t with
   |false=>exact D a8 a' (by rw[b,af (by rw[hs];decide)])
   |true=>
    rw[hs,ag rfl]at b;subst y';try dsimp only
    rw[dz];exact aE.fX ((n'.tt a').get q' id) (WJ (Bb u d r X) ((C.tt a').get k' id) λG j'=>k1 _ b ⟨wd,wr,wq⟩ G ((n.tt (C.tt a')).fresh j' (λy e=>ae)))
 have rI:dS [at_ u 4,at_ u 6]<=2*dS u:=by simp only[dS];omega
 have f':room (vG [at_ u 4,at_ u 6])<=900000:=by simp only[room,cA];omega
 refine⟨ae,bU.2 ⟨a4,O',aa.iR (x:=y4.s) (nk m id d6) ⟨ae,bU.2 ⟨a6,Q',aa.iR (x:=y6.s) (nk m id d8) ?_⟩⟩⟩⟩;have T2:GN x' [at_ u 4,at_ u 6] [y4,y6]:=two (e6.on m) (e8.on m);refine⟨qZ (ys:= [y4,y6]) rfl λb6 g9 g3 L6 f=>⟨?_,?_,trivial⟩,ah.cV λC' i1 f4 c2 J=>⟨J.kp,qZ (ys:= [y4,y6]) rfl λe9 i2 f5 B' K=> ?_⟩,trivial⟩;refine lu (L6 (λ_=>True) trivial) (T2.on f) ae λh0 z l o=>aa.ex z.s ⟨rfl,?_,?_,trivial⟩;exact Jh U (i'.tt (f.tt o)) (e'.on (f.tt o)) l.u f' λX q s h1 X'=>ah.ex X.s ⟨_,rfl,ah.gw (x:=X.s) λb7 a9 g4 d0 Z'=>h' a9 b7 X q d0 (f.tt (o.tt (X'.tt Z'))) s⟩;refine ah.cV λb8 h3 g5 d1 b'=>Jh U (i'.tt (f.tt (o.tt b'))) (e'.on (f.tt (o.tt b'))) (l.u.on b') f' λX q s h4 u'=>ah.ex X.s ⟨_,rfl,ah.iB (x:=X.s) (u'.get d1 id) λb0 J' a0 _=>h' b0 b8 X q J' ?_ s⟩;exact(f.tt (o.tt (b'.tt u'))).fresh a0 (λy e=>gM f.1 o.1);refine ah.cV λb9 h5 g6 d2 E=>lu ((L6 (λ_=>True) trivial).frame E bC) (T2.on (f.tt E)) ae λh7 z l c'=>aa.ex z.s ⟨rfl,Jh U (i'.tt (f.tt (E.tt c'))) (e'.on (f.tt (E.tt c'))) l.u f' λX q s i0 v'=>ah.ex X.s ⟨_,rfl,ah.iB (x:=X.s) ((c'.tt v').get d2 id) λc0 K' a1 _=>h' c0 b9 X q K' ?_ s⟩⟩;exact(f.tt (E.tt (c'.tt v'))).fresh a1 (λy e=>bN f.1);refine lu (B' (λ_=>True) trivial) (T2.on (J.tt K)) ae λi3 z l d'=>aa.ex z.s ⟨rfl,Jh U (i'.tt (J.tt (K.tt d'))) (e'.on (J.tt (K.tt d'))) l.u f' λX q s i4 w'=>ah.ex X.s ⟨_,rfl,ah.iB (x:=X.s) ((K.tt (d'.tt w')).get c2 id) λc1 L' a2 _=>h' c1 C' X q L' ?_ s⟩⟩;exact(J.tt (K.tt (d'.tt w'))).fresh a2 (λy e=>ae)

end Bn
end
section
variable {h:aA} {R:fp}
variable {a L:bZ} {d D l c:Nat} {b:ay.S}
def Dh(o:aa.NW h λb k=>Cl 196 #[.L a d D,.I 0] k λv m=>aa.EX λi=> ∃q j,v=.T #[i.agg,.I q,.I j]/\aa.NW m λB n=>aa.dv n (AA B 0) i λH=>aa.cJ H (AA B 0) λt=>ite (j==0) (Cl 331 #[.L a d D] H λV e=> ∃T,V=.B T/\Kp H e [(Sa B 0)]/\aa.dv e (AA b 0) t λf=>aa.cJ f (AA b 0) λr=>R (.T #[r.agg,.B T]) f) (aa.dv H (AA b 0) t λg=>aa.cJ g (AA b 0) λp=>R (.T #[p.agg,.B false]) g)):Cl 285 #[.L a d D] h R:=aP [(5,λ_=>pK 9)] o
def xB(s:av.NW h λb n=>Cl 285 #[.L a d D] n λv o=>aa.EX λt=> ∃T,v=.T #[t.agg,.B T]/\aa.NW o λB p=>aa.dv p (AA B 0) t λf=>aa.cJ f (AA B 0) λx=>Cl 276 #[x.agg] f λV q=>av.EX λj=> ∃k,V=.T #[j.agg,.I k]/\av.NW q λe r=>av.dv r (AA e 0) j λH=>av.cJ H (AA e 0) λm=>ite T (av.dv H (AA b 0) m λg=>av.cJ g (AA b 0) λu=>R (.T #[u.agg,.B (k==0)]) g) (av.dv H (AA b 0) m λi=>av.cJ i (AA b 0) λw=>R (.T #[w.agg,.B false]) i)):Cl 207 #[.L a d D] h R:=aP [] s
def E7 (o:Cl 285 #[.L a d D] h λv m=>aa.EX λj=> ∃k,v=.T #[j.agg,.B k]/\aa.NW m λb n=>aa.dv n (AA b 0) j λH=> ∃t,Cc H b 1 (.U t)/\ite k (aa.cJ H (AA b 0) λp=>Hu H b 1 λq=>Cl 144 #[.U q] H λV f=>aa.EX λT=>V=T.agg/\Kp H f [(Sa b 0),(Sa b 1)]/\Cl 278 #[p.agg,T.agg] f λr e=> ∃g,r=.B g/\Kp f e [(Sa b 1)]/\ite g (∃i,Cc e b 1 (.U i)/\R (.T #[.U t,.B (decide (i<=1099511627776))]) e) (R (.T #[.U t,.B false]) e)) (R (.T #[.U t,.B false]) H)):Cl 208 #[.L a d D] h R:=aP [(5,λ_=>pK 17)] o
def Di (u:Cl 285 #[.L a d D] h λv r=>aa.EX λj=> ∃k,v=.T #[j.agg,.B k]/\aa.NW r λb s=>aa.dv s (AA b 0) j λe=>aB (λ(y:Bool) H=>ite y (R (.T #[.U 0,.U 0,.B false]) H) (Hl H b 3 λC z _=>Bd 0 z/\aH C λA=>gZ H ((A.add (toNat 0*4)).add 1) λt=>Hl H b 3 λF E _=>Bd 1 E/\aH F λq=>gZ H ((q.add (toNat 1*4)).add 1) λT=>aa.cJ H (AA b 0) λG=>aW H (.C #[.U t,.U T] 27) λB g=>Kp H g [(Sa b 0)]/\Cl 148 #[.L (Sa B 0) 2 2] g λV i=>aa.EX λo=>V=o.agg/\Kp g i [(Sa b 0)]/\Cl 278 #[G.agg,o.agg] i λI f=> ∃p,I=.B p/\ite p (ite (decide (t≥1)) (ite (decide (t<=255)) (R (.T #[.U t,.U T,.B (decide (T<=t))]) f) (R (.T #[.U t,.U T,.B false]) f)) (R (.T #[.U t,.U T,.B false]) f)) (R (.T #[.U t,.U T,.B false]) f))) (λJ=>ite (!k) (J true e) (∃m,Cc e b 0 (.I m)/\ite (m !=4) (J true e) (∃x n w,Cc e b 3 (.L x n w)/\J (((n:Nat):Int) !=2) e)))):Cl 209 #[.L a d D] h R:=aP [(6,.join [(26,sB)]),(13,λ_=>pK 12),(15,λ_=>pK 24)] u
def yC(x:aa.NW h λb q=>Cl 210 #[.Z] q λv r=>aa.EX λo=>v=o.agg/\aa.NW r λB s=>aa.dv s (AA B 0) o λu=> ∃(I:kj)(m:kG),I 0 u/\∀t H,I t H->ite (decide (t<(l:Int))) (Bd t l/\aH L λA=>gZ H (A.add (toNat t*1)) λz=>Hl H B 3 λF E C=>Cl 144 #[.U z] H λV e=>aa.EX λT=>V=T.agg/\Kp H e [(Sa B 3)]/\aW e (.C T.arr 201) λp g=>Kp e g [(Sa B 3)]/\jE (Builtin.append_ #[199,199] 199 #[.L F E C,.L (Sa p 0) 1 1]) g λJ w=> ∃n k j,J=.L n k j/\aO w (AA B 3) (.L n k j) λi=>(I (wrap .i64 (t+1)) i/\m (wrap .i64 (t+1)) i<m t H)) (aa.cJ H (AA B 0) λG=>aa.dv H (AA b 0) G λf=>aa.cJ f (AA b 0) λy=>R (y.agg) f)):Cl 148 #[.L L l c] h R:=aP [(8,.loop [(9,sI)]),(19,λ_=>pK 8)] x
def Ad{k:Int} (r:aB (λ(O:Bool) H=>ite O (R (.B (decide ((d:Int)<=200))) H) (R (.B false) H)) (λJ=>aB (λ(s:Bool) i=>J s i) (λj=>ite (k==6) (Cl 207 #[.L a d D] h λv m=>av.EX λx=> ∃t,v=.T #[x.agg,.B t]/\j t m) (aB (λ(u:Bool) n=>j u n) (λe=>ite (k==7) (Cl 208 #[.L a d D] h λV o=> ∃y T,V=.T #[.U y,.B T]/\e T o) (aB (λ(w:Bool) p=>e w p) (λf=>ite (k==10) (Cl 209 #[.L a d D] h λB q=> ∃z A g,B=.T #[.U z,.U A,.B g]/\f g q) (f true h)))))))):Cl 140 #[.U k,.L a d D] h R:=aP [(7,.join [(5,sB)]),(10,.join [(5,sB)]),(14,.join [(5,sB)]),(18,.join [(5,sB)])] r
def Ae(e:Cl 205 #[.L L l c,.func (.func 206) #[] #[]] h λv H=> ∃t,v=.B t/\R (.B (!t)) H):Cl 139 #[.L L l c] h R:=aP [] e
def xC{n:Int}(H:ite (decide (n<1)) (R (.B true) h) (R (.B (decide (n>255))) h)):Cl 206 #[.U n] h R:=aP [] H
def Bs (n:aW h (.C b.arr 134) λB e=>Hu e B 0 λs=>Hu e B 1 λu=>aW e (.C #[.U s,.U u] 27) λj k=>Cl 139 #[.L (Sa j 0) 2 2] k λv H=> ∃i,v=.B i/\ite i (∃t,Cc H B 2 (.U t)/\ite ((wrap .u64 ((pG t &&& ~~~ pG 23).toNat:Int))==0) (∃T,Cc H B 3 (.I T)/\ite (decide (T≥0)) (∃f,Cc H B 3 (.I f)/\ite (decide (f<=2)) (Hu H B 0 λo=>Hl H B 4 λr q p=>Cl 140 #[.U o,.L r q p] H λV m=> ∃g,V=.B g/\R (.B g) m) (R (.B false) H)) (R (.B false) H)) (R (.B false) H)) (R (.B false) H)):Cl 98 #[b.agg] h R:=aP [] n
theorem Bt(M:aW h (.C b.arr 134) λB E=>aa.NW E λe g=>ay.cJ g (AA B 0) λQ=>Cl 98 #[Q.agg] g λv H=> ∃z,v=.B z/\ite (!z) (aa.dv H (AA e 0) aa.S.z λi=>aa.cJ i (AA e 0) λO=>R (.T #[O.agg,.I 3]) i) (∃T,Cc H B 0 (.U T)/\∃k,Cc H B 1 (.U k)/\∃m,Cc H B 2 (.U m)/\∃n,Cc H B 3 (.I n)/\aW H (.C #[.U T,.U k,.U m,.U (wrap .u64 n)] 27) λA G=>Cl 148 #[.L (Sa A 0) 4 4] G λV j=>aa.EX λt=>V=t.agg/\∃q p o,Cc j B 4 (.L q p o)/\Cl 149 #[.L q p o] j λS I=>aa.EX λr=>S=r.agg/\aW I (.C r.arr 201) λC J=>jE (Builtin.append_ #[199,199] 199 #[.L t.VE t.JT t.Ti,.L (Sa C 0) 1 1]) J λU K=> ∃w u s,U=.L w u s/\Cl 145 #[.L w u s,.I 3] K λX F=>aa.EX λx=> ∃y,X=.T #[x.agg,.I y]/\aa.dv F (AA e 0) x λf=>aa.cJ f (AA e 0) λP=>R (.T #[P.agg,.I y]) f)):Cl 102 #[b.agg] h R:=aP [] M
def Dj{x:aa.S} (hv:aW h (.C x.arr 201) λb l'=>ay.NW l' λB F=>aa.cJ F (AA b 0) λu'=>Cl 275 #[u'.agg,.I 3] F λC' j=> ∃T t v' o,C'=.T #[.L T t v',.I o]/\ite (o !=0) (ay.dv j (AA B 0) ay.S.z λG=>ay.cJ G (AA B 0) λr0=>R (.T #[r0.agg,.I o]) G) (aB (λ(w':Bool) H=>ite w' (ay.dv H (AA B 0) ay.S.z λI=>ay.cJ I (AA B 0) λr'=>R (.T #[r'.agg,.I 3]) I) (aB (λ(s:bZ) K=>aH s λi'=>ay.cJ K i' λx'=>Cl 102 #[x'.agg] K λD' p'=>aa.EX λf'=> ∃g',D'=.T #[f'.agg,.I g']/\aa.NW p' λu q'=>aa.dv q' (AA u 0) f' λi=>aB (λ(A':Bool) k=>ite A' (ay.dv k (AA B 0) ay.S.z λy=>ay.cJ y (AA B 0) λs'=>R (.T #[s'.agg,.I 3]) y) (aH s λj'=>ay.cJ k j' λB'=>ay.dv k (AA B 0) B' λz=>ay.cJ z (AA B 0) λt'=>R (.T #[t'.agg,.I 0]) z)) (λq=>ite (g' !=0) (q true i) (aa.cJ i (AA u 0) λy'=>aa.cJ i (AA b 0) λz'=>Cl 278 #[y'.agg,z'.agg] i λE' m'=> ∃h',E'=.B h'/\q (!h') m'))) (λp=>Bd 0 t/\aH T λA=>gZ H ((A.add (toNat 0*4)).add 1) λO=>Bd 1 t/\aH T λe=>gZ H ((e.add (toNat 1*4)).add 1) λP=>Bd 2 t/\aH T λf=>gZ H ((f.add (toNat 2*4)).add 1) λQ=>Bd 3 t/\aH T λg=>gZ H ((g.add (toNat 3*4)).add 1) λS=>Bd 4 t/\aH T λr=>lW H ((r.add (toNat 4*4)).add 2) λX V U=>(Cl 57 #[.L X V U] H λF' m=> ∃d' b' Z,F'=.L d' b' Z/\Kp H m [(some ((g.add (toNat 3*4)).add 1)),(some ((f.add (toNat 2*4)).add 1)),(some ((e.add (toNat 1*4)).add 1)),(some ((A.add (toNat 0*4)).add 1))]/\ay.NW m λv C=>Kp m C [(some ((g.add (toNat 3*4)).add 1)),(some ((f.add (toNat 2*4)).add 1)),(some ((e.add (toNat 1*4)).add 1)),(some ((A.add (toNat 0*4)).add 1))]/\ay.dv C (AA v 0) ⟨O,P,Q,(wrap .i64 S),d',b',Z⟩ λn'=>p (Sa v 0) n')/\(ay.NW H λw n=>Kp H n [(some ((r.add (toNat 4*4)).add 2)),(some ((g.add (toNat 3*4)).add 1)),(some ((f.add (toNat 2*4)).add 1)),(some ((e.add (toNat 1*4)).add 1)),(some ((A.add (toNat 0*4)).add 1))]/\Cl 57 #[.L X V U] n λG' E=> ∃e' c' a',G'=.L e' c' a'/\Kp n E [(some ((g.add (toNat 3*4)).add 1)),(some ((f.add (toNat 2*4)).add 1)),(some ((e.add (toNat 1*4)).add 1)),(some ((A.add (toNat 0*4)).add 1))]/\ay.dv E (AA w 0) ⟨O,P,Q,(wrap .i64 S),e',c',a'⟩ λo'=>p (Sa w 0) o')/\True))) (λJ=>ite (((t:Nat):Int) !=5) (J true j) (Bd 4 t/\aH T λk'=> ∃M,aU j (k'.add (toNat 4*4))=some (.I M)/\J (M !=2) j)))):Cl 198 #[x.agg] h R:=aP [(13,.join [(19,sB)]),(20,.join [(6,sP)]),(20,λ_=> .ob (gB 21 0 (.alts (.fork 21 (gB 3 22 .done) (.fork 23 (lO [21,22,24] .done) .hO))))),(25,.join [(66,sB)])] hv

end
section
namespace Bn
open Cb
open ju (Ev cY mh)
variable {V:cQ→Bool} {h a H:aA} {R:fp} {D:Nat→Prop}
variable {p:bZ} {l c:Nat} {b:cQ}
def yD(b:cQ):room (fP V b)<=10*b.length+9:=by unfold fP;split;rename_i h;have:=(vH h).1;omega;simp[HD,room,dS]
def E8(U:mG V a)(u:Fr No a h)(w:Row h p (bc b))(v:l=b.length)(cap:b.length<=c)(P:b.length<=80000)(j: ∀H z,Jd H (fP V b) z->Fr No h H->R (.T #[z.s.agg,.B (mi V b)]) H):Cl 285 #[.L p l c] h R:=by
 refine Dh (aa.cV λK M L o d=>zU (U.mono (u.tt d)) (w.frame d bC) v cap ae (λG t x S J T F=>aa.ex x.s ⟨_,_,rfl,aa.gw λB I A r f=>aa.fX r ?_⟩) (λG e s F=>aa.ex zv.s ⟨_,_,rfl,aa.gw λB I A r f=>aa.fX r ?_⟩));have k:=d.tt (F.tt f);have E:fP V b=t:=by unfold fP;rw[J]
 rw[E]at j;rw[gH];refine KU (U.mono (u.tt k)) (w.frame k bC) v cap ae λO g=>⟨_,rfl,g.kp,aa.iB ((F.tt (f.tt g)).get o id) λn m i _=>aa.fX m (j n x ?_ ((k.tt g).fresh i (λy e=>ae)))⟩;have Z:=aD o;exact((T.on f).on g).frame i (λy Q e=>ae)|>.u;have E:fP V b=HD:=by unfold fP;rw[s]
 have C:mi V b=false:=by unfold mi;rw[s]
 rw[E,C]at j;rw[af (λq=>oJ s (eq_of_beq q))];exact aa.iB ((F.tt f).get o id) λn m i _=>aa.fX m (j n zv (oZ) ((d.tt (F.tt f)).fresh i (λy e=>ae)))
theorem K2(U:mG V a)(u:Fr No a h)(M:jS.Mx h)(x:Row h p (bc b))(v:l=b.length)(cap:b.length<=c)(w:b.length<=80000)(g: ∀H (e:Ev),Fr No h H->R (.T #[e.s.agg,.B (mi V b && (qQ V (fP V b)).isSome)]) H):Cl 207 #[.L p l c] h R:=by
 have Z:=yD (V:=V) b;refine xB (av.cV λB K G m f=>E8 U (u.tt f) (x.frame f bC) v cap w λL z T i=>aa.ex z.s ⟨_,rfl,aa.gw λA O I s d=>aa.fX s (Jg U (u.tt (f.tt (i.tt d))) (M.on (f.tt (i.tt d))) (T.on d) ae λe q ⟨S,X,_⟩ P o=>av.ex e.s ⟨_,rfl,av.gw λC Q J t r=>av.fX t ?_⟩)⟩);have F:=i.tt (d.tt (o.tt r));cases n:mi V b with
 |false=>rw[n]at g;exact MH (F.get m id) λk j=>g k e ((f.tt F).fresh j (λy e=>ae))
 |true=>
  rw[n]at g;refine MH (F.get m id) λk j=> ?_;have:=g k e ((f.tt F).fresh j (λy e=>ae));have E:(true && (qQ V (fP V b)).isSome)=(q==0):=by grind
  rw[E]at this;exact this
theorem Jj(U:mG V a)(u:Fr No a h)(s:Row h p (bc b))(q:l=b.length)(cap:b.length<=c)(r:b.length<=80000)(d: iG h R (.T #[.U ((fP V b).n:Int),.B (TI V b)])):Cl 208 #[.L p l c] h R:=by
 have x:=yD (V:=V) b;refine E7 (E8 U u s q cap r λv z t i=>aa.ex z.s ⟨_,rfl,aa.gw λB m E e F=> ?_⟩);unfold TI at d;have⟨_,Z,_⟩:=iD.kn t;rw[<-Z]at d;refine⟨_,ai e,?_⟩;cases j:mi V b with
 |false=>rw[j]at d;exact d m (i.tt F)
 |true=>
  rw[j]at d;rw[ag rfl];refine aa.fX e ⟨_,ai e,fT λw f=>aa.ex (nv z.n).s ⟨rfl,f.kp,jv ((t.on F).on f) (oZ) ae λn g=>⟨_,rfl,g.kp,?_⟩⟩⟩;have k:=i.tt (F.tt (f.tt g));cases o:qO (fP V b) (num z.n)with
  |false=>grind
  |true=>rw[o]at d;refine⟨_,ai ((f.tt g).get e id),?_⟩;rw[show decide ((z.n:Int)<=1099511627776)=decide (z.n<=1099511627776)from mQ z.n 1099511627776];exact d n k
abbrev nu(l:List Nat):List Value:=l.map λ(n:Nat)=> .int .u64 (n:Int)
theorem K3{n:Nat}{l:List Nat}(s:Row h p (nu l))(S:n=l.length)(hl:l.length<=100000)(Q: ∀H z,xx H (λy=>h.size<=y) (Rf l) z->Fr No h H->R z.s.agg H):Cl 148 #[.L p n c] h R:=by
 subst S;refine yC (aa.cV λa' O eb m f=>lu (ts:= []) (ys:= []) (D:=λ_=>True) ⟨rfl,.inl rfl,λe=>absurd rfl e,bu _⟩ .nil (by simp[dS]) λh2 z U F=>aa.ex z.s ⟨rfl,aa.gw (x:=z.s) λB h4 J o d=> ?_⟩);have zb:=aD m;have z1:=f.1;have z2:=F.1;have z4:=d.1;have c':=aD o;have F4:=f.tt (F.tt d);obtain⟨Z,M,w,I,K,G,E⟩:=Ry U F d o J;refine⟨λt g=> ∃(i:Nat)(j:List CV)(q:bZ)(C:Nat),t=(i:Int)/\i<=l.length/\j.length=i/\Lc O g B z.k z.n z.v ((l.take i).map num) j q C,λt _=>l.length - t.toNat,⟨0,Z,z.q,z.cl,rfl,bK _,M,by rw[fN];exact w⟩,?_⟩;rintro _ g ⟨i,j,q,C,rfl,hi,hy,L⟩;by_cases r:i<l.length
 case neg=>rw[af (λe=>r (by grind))];rw[aX ae]at L;exact WI L I K G E f m ae ae ae Q
 rw[gH];have u:Fr No h g:=f.fresh L.fr (λy e=>ae);obtain⟨A,rfl⟩:=s.some (by intro e;have:=bV List.length e;rw[aw,cA]at this;omega);have P:aU g (A.add (i*1))=some (.U ((l[i]:Nat):Int)):=by have:=(s.frame u bC).cell (j:=i) (v:=.U ((l[i]:Nat):Int)) (by grind);rw[cC];exact this
 refine⟨ae,bU.2 ⟨A,rfl,_,P,_,_,_,ai L.cN,fT λh6 k=>aa.ex (nv l[i]).s ⟨rfl,k.kp,?_⟩⟩⟩;refine Rz (L.on k) ae (VJ (n:=l[i])).Wp λg' X T x v b' _ _=> ?_;rw[dJ (n:=(i:Int)+1) ae ae];refine⟨⟨i+1,X,T,x,ae,ae,ae,?_⟩,by grind⟩;rw[aV,au r,aS];exact v

end Bn
end
end Go.Proofs.YtelbcloplcdchaaGreatDoor
