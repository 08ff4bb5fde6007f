/-
  IY is proved here: parts of AH proof, one behind AH other (texts of this work, merged by a program; KW AH theorem KX not use is left out). No condition.
-/
import Derived.Test.YticlajoleibdnaaGreatDoorMAustd
set_option linter.defProp false
set_option maxRecDepth 100000
set_option maxHeartbeats 4000000
namespace Go.Proofs.YticlajoleibdnaaGreatDoor
open Go.Den
open IntKind (wrap)
open Int (toNat)
section
variable {h:Heap} {R:dH}
def xm{c:Nat}(Z:aw.LD h (AA c 1) λD' E' F' G' H'=>Cl 263 #[.agg #[.B D',.U E',.U F',.S G',.S H']] h λI' H=> ∃w a',I'=.T #[.S w,.I a']/\Hi H c 0 λg=>Hl H c 6 λe d b=>Hu H c 7 λa=>Hi H c 8 λT=>Hu H c 9 λt=>(Cl 217 #[] H λJ' f=>Vp J' λD=>Cc f c 9 (.U t)/\Cc f c 8 (.I T)/\Cc f c 7 (.U a)/\Cc f c 6 (.L e d b)/\Cc f c 0 (.I g)/\(Cl 219 #[.Q D,.I g] f λV' p=>Vp V' λc'=>Cc p c 9 (.U t)/\Cc p c 8 (.I T)/\Cc p c 7 (.U a)/\Cc p c 6 (.L e d b)/\ij (convert 9 69 (.S w)) p λa5 q=>Vl a5 λl' i' f'=>Cc q c 9 (.U t)/\Cc q c 8 (.I T)/\Cc q c 7 (.U a)/\Cc q c 6 (.L e d b)/\Cl 221 #[.Q c',.L l' i' f'] q λa6 r=>Vp a6 λo'=>Cc r c 9 (.U t)/\Cc r c 8 (.I T)/\Cc r c 7 (.U a)/\Cc r c 6 (.L e d b)/\Cl 221 #[.Q o',.L e d b] r λa7 v=>Vp a7 λr'=>Cc v c 9 (.U t)/\Cc v c 8 (.I T)/\Cc v c 7 (.U a)/\Cl 218 #[.Q r',.U a] v λa8 z=>Vp a8 λu'=>Cc z c 9 (.U t)/\Cc z c 8 (.I T)/\Cl 219 #[.Q u',.I T] z λa9 C=>Vp a9 λx'=>Cc C c 9 (.U t)/\Cl 218 #[.Q x',.U t] C λb0 X=>Vp b0 λA'=>Cl 222 #[.Q A'] X λb1 P=> ∃L I E,b1=.L L I E/\R (.L L I E) P)/\(ij (convert 9 69 (.S w)) f λK' i=>Vl K' λm' j' g'=>Cc i c 9 (.U t)/\Cc i c 8 (.I T)/\Cc i c 7 (.U a)/\Cc i c 6 (.L e d b)/\Cc i c 0 (.I g)/\Cl 219 #[.Q D,.I g] i λL' l=>Vp L' λd'=>Cc l c 9 (.U t)/\Cc l c 8 (.I T)/\Cc l c 7 (.U a)/\Cc l c 6 (.L e d b)/\Cl 221 #[.Q d',.L m' j' g'] l λM' m=>Vp M' λp'=>Cc m c 9 (.U t)/\Cc m c 8 (.I T)/\Cc m c 7 (.U a)/\Cc m c 6 (.L e d b)/\Cl 221 #[.Q p',.L e d b] m λO' s=>Vp O' λs'=>Cc s c 9 (.U t)/\Cc s c 8 (.I T)/\Cc s c 7 (.U a)/\Cl 218 #[.Q s',.U a] s λP' x=>Vp P' λv'=>Cc x c 9 (.U t)/\Cc x c 8 (.I T)/\Cl 219 #[.Q v',.I T] x λQ' A=>Vp Q' λy'=>Cc A c 9 (.U t)/\Cl 218 #[.Q y',.U t] A λR' Q=>Vp R' λB'=>Cl 222 #[.Q B'] Q λS' S=> ∃M J F,S'=.L M J F/\R (.L M J F) S)/\True)/\(ij (convert 9 69 (.S w)) H λT' j=>Vl T' λn' k' h'=>Cc j c 9 (.U t)/\Cc j c 8 (.I T)/\Cc j c 7 (.U a)/\Cc j c 6 (.L e d b)/\Cc j c 0 (.I g)/\Cl 217 #[] j λU' k=>Vp U' λb'=>Cc k c 9 (.U t)/\Cc k c 8 (.I T)/\Cc k c 7 (.U a)/\Cc k c 6 (.L e d b)/\Cc k c 0 (.I g)/\Cl 219 #[.Q b',.I g] k λX' n=>Vp X' λe'=>Cc n c 9 (.U t)/\Cc n c 8 (.I T)/\Cc n c 7 (.U a)/\Cc n c 6 (.L e d b)/\Cl 221 #[.Q e',.L n' k' h'] n λZ' o=>Vp Z' λq'=>Cc o c 9 (.U t)/\Cc o c 8 (.I T)/\Cc o c 7 (.U a)/\Cc o c 6 (.L e d b)/\Cl 221 #[.Q q',.L e d b] o λa0 u=>Vp a0 λt'=>Cc u c 9 (.U t)/\Cc u c 8 (.I T)/\Cc u c 7 (.U a)/\Cl 218 #[.Q t',.U a] u λa1 y=>Vp a1 λw'=>Cc y c 9 (.U t)/\Cc y c 8 (.I T)/\Cl 219 #[.Q w',.I T] y λa2 B=>Vp a2 λz'=>Cc B c 9 (.U t)/\Cl 218 #[.Q z',.U t] B λa3 U=>Vp a3 λC'=>Cl 222 #[.Q C'] U λa4 V=> ∃O K G,a4=.L O K G/\R (.L O K G) V)/\True):Cl 339 #[.P c 0] h R:=aD [(5,λ_=> .pn (mL [1,2,3,4,6,9,10,11,12,14,15,16,17,19,20,21,22,24,25,26,27] (.alts (.fork 0 (.alts (.fork 5 (mL [7,8,13,18,23,28,29,30] .done) (.fork 7 (mL [5,8,13,18,23,28,29,30] .done) .iH))) (.fork 7 (mL [0,5,8,13,18,23,28,29,30] .done) .iH)))))] Z
def qU{t:Nat} (J:Cl 337 #[.P t 0] h λe' H=> ∃C,e'=.B C/\ite (!C) (R (.Z) H) (Hi H t 1 λx=>Hi H t 2 λn=>Hi H t 3 λk=>Hi H t 4 λg=> ∃T,Cc H t 0 (.map T)/\Cl 217 #[] H λf' e=>Vp f' λt9=>Cc e t 0 (.map T)/\Cc e t 4 (.I g)/\Cc e t 3 (.I k)/\Cc e t 2 (.I n)/\Cc e t 1 (.I x)/\Cl 219 #[.Q t9,.I x] e λh' f=>Vp h' λK=>Cc f t 0 (.map T)/\Cc f t 4 (.I g)/\Cc f t 3 (.I k)/\Cc f t 2 (.I n)/\Cl 219 #[.Q K,.I n] f λi' i=>Vp i' λL=>Cc i t 0 (.map T)/\Cc i t 4 (.I g)/\Cc i t 3 (.I k)/\Cl 219 #[.Q L,.I k] i λj' l=>Vp j' λP=>Cc l t 0 (.map T)/\Cc l t 4 (.I g)/\Cl 219 #[.Q P,.I g] l λk' m=>Vp k' λQ=>Cc m t 0 (.map T)/\∃y:Int,Sm Tryz.prog #[481] 3 (.map T) m (.I y)/\Cl 219 #[.Q Q,.I y] m λl' u=>Vp l' λS=>Cc u t 0 (.map T)/\Cl 222 #[.Q S] u λm' v=>Vl m' λX V U=>Cc v t 0 (.map T)/\aT v (.C #[.L X V U] 69) λb w=>Cc w t 0 (.map T)/\Cl 338 #[.P t 0] w λn' E=>Vl n' λZ z p'=> ∃(I:bH->Nat->Nat->iT)(M:bH->Nat->Nat->iW),I (Sa b 0) 1 1 0 E/\∀j O o d c,I j O o d c->ite (decide (d<(z:Int))) (Bd d z/\aJ Z λa=>iw c (a.add (toNat d*1)) λa'=> ∃A,Cc c t 0 (.map A)/\∃B,Pk 481 (.map A) (.I a') false c (.Q B)/\Cl 339 #[.Q B] c λo' F=>Vl o' λd' c' b'=>aT F (.C #[.L d' c' b'] 69) λD G=>ij (Builtin.append_ #[164,164] 164 #[.L j O o,.L (Sa D 0) 1 1]) G λg' s=> ∃r q p,g'=.L r q p/\(I r q p (wrap .i64 (d+1)) s/\M r q p (wrap .i64 (d+1)) s<M j O o d c)) (R (.L j O o) c))):Cl 266 #[.P t 0] h R:=aD [(11,λ_=> .pn (mL [1,2,3,4,6,7,8,9,11,12,13,14,16,17,18,19,21,22,23,24,0,5,10,15,20,25,26,27,28,29] .done)),(16,.loop [(3,sS),(41,sI)])] J

end
section
open Go.Fields Go.mj
namespace oF
open iZ cB gD
variable {h H:Heap} {R:dH} {t:Nat} {X:Ft} {s:CF} {m A i:Nat} {x:List CV} {f a:Nat→Prop} {L:Nat→Option Nat} {p:bH} {n c:Nat}
variable {z:CV} {g:Heap} {b:Nat}
def recC(z:Cp):cO:=bU z.num++dF (gP z.e)++dF z.d++bU z.gZ++bU (gv z.kQ)++bU z.dl
structure W8 (z:Cp):Prop where
 r:dD z.e=true
 v:0<=z.e.iA
 d:z.d.length<=600
 n:z.num<=1000000
 t:z.gZ<=2^40
 s0:0<=z.kQ
 s1:z.kQ<=2^40
 l:z.dl<=2^40
def oG(t:cO):(dF t).length<=t.length+10:=by have:=(bF t.length).2;unfold dF;rw[ak];omega
def Q1{z:Cp}(k:W8 z):(recC z).length<=1000:=by have l:=pU k.r k.v;have o:=oG (gP z.e);have q:=oG z.d;have r:=k.d;have e:=(bF z.num).2;have E:=(bF z.gZ).2;have d:=(bF (gv z.kQ)).2;have j:=(bF z.dl).2;unfold recC;simp only[ak];omega
def QQ{d:CV}{K:Bool->Int->Int->bC->bC->Prop}(e:d.at g b)(j:K d.e.lS d.e.node d.e.iA d.e.host d.e.kj):aw.LD g (AA b 1) K:=
 ⟨_,aj e,_,aj e,_,aj e,_,aj e,_,aj e,j⟩
def Ey{d:Heap}{n':Nat}{S:fZ}{q:bH}{dq:Nat}(k:W8 z.abs)(l:z.at d b)(a':Row d z.v.p (bc z.v.b))(E:Fr No d g)(W:Wr g n' S (bU z.num))(T: ∀y,S y->d.size<=y)(s':Row g q (bc (gP z.e)))(hq: ∀y,aN q y->¬S y)(hk: ∀P Q H,Own H P (recC z.abs).length Q 1 (bc (recC z.abs))->Fr No d H->(∀y,aN P y->d.size<=y)->R (.slice P (recC z.abs).length Q) H):
  aQ g (AA b 9)=some (.U (z.dl:Int))/\aQ g (AA b 8)=some (.I z.kQ)/\aQ g (AA b 7)=some (.U (z.gZ:Int))/\aQ g (AA b 6)=some (.L z.v.p z.v.b.length z.v.c)/\
  Cl 221 #[.P n' 0,.slice q (str (gP z.e)).size dq] g λu' o=>
  ∃(f':bH),u'=.Q f'/\
  aQ o (AA b 9)=some (.U (z.dl:Int))/\
  aQ o (AA b 8)=some (.I z.kQ)/\
  aQ o (AA b 7)=some (.U (z.gZ:Int))/\
  aQ o (AA b 6)=some (.L z.v.p z.v.b.length z.v.c)/\
  Cl 221 #[.Q f',.L z.v.p z.v.b.length z.v.c] o λv' r=>
  ∃(g':bH),v'=.Q g'/\
  aQ r (AA b 9)=some (.U (z.dl:Int))/\
  aQ r (AA b 8)=some (.I z.kQ)/\
  aQ r (AA b 7)=some (.U (z.gZ:Int))/\
  Cl 218 #[.Q g',.U (z.gZ:Int)] r λw' I=>
  ∃(h':bH),w'=.Q h'/\
  aQ I (AA b 9)=some (.U (z.dl:Int))/\
  aQ I (AA b 8)=some (.I z.kQ)/\
  Cl 219 #[.Q h',.I z.kQ] I λx' Z=>
  ∃(i':bH),x'=.Q i'/\
  aQ Z (AA b 9)=some (.U (z.dl:Int))/\
  Cl 218 #[.Q i',.U (z.dl:Int)] Z λy' q'=>
  ∃(j':bH),y'=.Q j'/\
  Cl 222 #[.Q j'] q' λz' p'=>
  ∃(m':bH)(l' k':Nat),z'=.L m' l' k'/\
  R (.L m' l' k') p':=by
 have kr:dD z.e=true:=k.r;have kv:0<=z.e.iA:=k.v;have kd:z.v.b.length<=600:=k.d;have kt:z.gZ<=2^40:=k.t;have k0:0<=z.kQ:=k.s0;have k1:z.kQ<=2^40:=k.s1;have kl:z.dl<=2^40:=k.l;have lb:=aE l;have bS: ∀{K:fZ},(∀y,K y->d.size<=y)->¬K b:=λhh hn=>by have:=hh b hn;omega
 have l0:=pU kr kv;have A':=oG (gP z.e);have B':=oG z.v.b;have e1:=(bF z.num).2;have e2:=(bF z.gZ).2;have e3:=(bF (gv z.kQ)).2;have u:z.at g b:=E.get l id;have zg:=E.1;refine⟨aj u,aj u,aj u,aj u,gD.mF W ae s' (ir _) ae hq λg1 f W1 b'=> ?_⟩;have G: ∀y,f y->d.size<=y:=λy j=>(b'.new y j).elim (T y) (λd=>ae);have F:=E.fresh b'.fr T;have B:z.at g1 b:=F.get l id;have z1:=F.1;refine⟨_,rfl,aj B,aj B,aj B,aj B,gD.pR W1 (by simp only[ak];omega) (a'.frame F bD) rfl ae (λy j r' hs=>iI (jT a' (by intro e;apply r';have:=bY List.length e;rw[fO]at this;exact List.length_eq_zero_iff.1 this) j) (G y hs)) λg2 a W2 c'=> ?_⟩;have U: ∀y,a y->d.size<=y:=λy j=>(c'.new y j).elim (G y) (λd=>ae);have v:=F.fresh c'.fr G;have D:z.at g2 b:=v.get l id;have z2:=v.1;refine⟨_,rfl,aj D,aj D,aj D,gD.fD z.gZ W2 (by simp only[ak];omega) rfl ae λg3 S3 W3 d'=> ?_⟩;have V: ∀y,S3 y->d.size<=y:=λy j=>(d'.new y j).elim (U y) (λd=>ae);have w:=v.fresh d'.fr U;have O:z.at g3 b:=w.get l id;have z3:=w.1;refine⟨_,rfl,aj O,aj O,gD.gY W3 (by simp only[ak];omega) ae λg4 S4 W4 e'=> ?_⟩;have o': ∀y,S4 y->d.size<=y:=λy j=>(e'.new y j).elim (V y) (λd=>ae);have C:=w.fresh e'.fr V;have b4:z.at g4 b:=C.get l id;have z4:=C.1;refine⟨_,rfl,aj b4,gD.fD z.dl W4 (by simp only[ak];omega) rfl ae λg5 S5 M t'=> ?_⟩;have J:=C.fresh t'.fr o';have er:bU z.num++dF (gP z.e)++dF z.v.b++bU z.gZ++bU (gv z.kQ)++bU z.dl=recC z.abs:=rfl;rw[er]at M;have lr:=Q1 k;refine⟨_,rfl,gD.gJ M ae λp6 c6 g6 o6 f6 n6=>⟨_,_,_,rfl,?_⟩⟩;have z5:=J.1;exact hk p6 c6 g6 o6 (J.tt f6) (λy j=>cv (n6 y j))
theorem Ai(hb:z.at h b)(e':Row h z.v.p (bc z.v.b))(k:W8 z.abs)(tb:jk.vx h)(hk: ∀P C H,Own H P (recC z.abs).length C 1 (bc (recC z.abs))->Fr No h H->(∀y,aN P y->h.size<=y)->R (.slice P (recC z.abs).length C) H):Cl 339 #[.P b 0] h R:=by
 have kr:dD z.e=true:=k.r;have kn:z.num<=1000000:=k.n;refine xm (QQ hb (iZ.mF z.e tb k.v λw J=> ?_));simp only[kr,cI];have l:=J.get hb id;have z0:=J.1;have U:=e'.frame J bD;have T: ∀P C H,Own H P (recC z.abs).length C 1 (bc (recC z.abs))->Fr No w H->(∀y,aN P y->w.size<=y)->R (.slice P (recC z.abs).length C) H:=λP C H f' d' g=>hk P C H f' (J.tt d') (λy j=>by grind);have c':bc (gP z.e)≠ []:=by intro e;have:=bY List.length e;rw[fO]at this;revert this;unfold gP;split<;>(try split)<;>simp
 refine⟨_,_,rfl,_,aj l,_,_,_,aj l,_,aj l,_,aj l,_,aj l,?_,?_,trivial⟩;refine gD.ft λQ g' S E F I=> ?_;have o:=F.get l id;refine⟨_,rfl,aj o,aj o,aj o,aj o,aj o,?_,?_,trivial⟩;refine gD.gY E bO ae λh3 S3 Z b'=> ?_;have z2:=F.1;have V:=F.fresh b'.fr I;have B:=V.get l id;refine⟨_,rfl,aj B,aj B,aj B,aj B,Uo λq d h4 D cq f4 n4=>⟨_,_,_,rfl,(Ey k l U (V.tt f4) (Z.frame f4 bD) (λy j=>(b'.new y j).elim (I y) (λw=>ae)) D (λy j u=>iI (n4 y j) (Z.lt y u)) T)⟩⟩;refine Uo λq d h3 D cq r K=>⟨_,_,_,rfl,?_⟩;have B:=(F.tt r).get l id;refine⟨aj B,aj B,aj B,aj B,aj B,gD.gY (E.frame r bD) bO ae λh4 S4 M v=>⟨_,rfl,?_⟩⟩;have z2:=(F.tt r).1;refine Ey k l U ((F.tt r).fresh v.fr I) M (λy j=>(v.new y j).elim (I y) (λw=>ae)) (D.frame v.fr (λG O u=>iI (K G.block ⟨G,O,rfl⟩) (E.lt _ u))) (λy j u=> ?_) T;have w:=jT D c' j;have Q:=K y j;rcases v.new y u with h3|h3;have:=E.lt y h3;omega;omega;refine Uo λq d Q D cq F I=>⟨_,_,_,rfl,?_⟩;have o:=F.get l id;refine⟨aj o,aj o,aj o,aj o,aj o,gD.ft λh3 g' S E r K=> ?_⟩;have B:=(F.tt r).get l id;have z2:=F.1;have z3:=r.1;refine⟨_,rfl,aj B,aj B,aj B,aj B,aj B,gD.gY E bO ae λh4 S4 M v=>⟨_,rfl,?_⟩⟩;have a': ∀y,aN q y->y<Q.size:=λy j=>jT D c' j;refine Ey k l U ((F.tt r).fresh v.fr (λy j=>by grind)) M (λy j=>(v.new y j).elim (λw=>by grind) (λw=>ae)) ((D.frame r bD).frame v.fr (λG O u=>iI (a' G.block ⟨G,O,rfl⟩) (K _ u))) (λy j u=> ?_) T;have w:=a' y j;rcases v.new y u with h3|h3;grind;omega
def uD(s:CF):cO:=bU s.next++bU s.kK++bU s.over++bU s.gone++bU s.L.length
def Ez(s:CF):List (cO):=uD s::s.L.map recC
theorem lG(j:Ct h t X s)(sm:Small s)(hc:s.kK<=50000/\s.over<=50000/\s.gone<=50000)(ok: ∀z∈s.L,W8 z)(tb:jk.vx h)(hk: ∀H p' l' c',BL h H p' l' c' (Ez s)->Fr No h H->R (.L p' l' c') H):Cl 266 #[.P t 0] h R:=by
 obtain⟨m,x,A,f,i,a,L,j⟩:=j;have sn:=sm.n;have sl:=sm.l;have xl:=j.len;refine qU (fJ j ⟨_,rfl,?_⟩);rw[fe];refine⟨_,aj j.cV,_,aj j.cV,_,aj j.cV,_,aj j.cV,_,aj j.cV,gD.ft λo E' S W f1 n1=> ?_⟩;have u: ∀k:Nat,gv (k:Int)=k:=λk=>by rfl
 have l1:=(bF s.next).2;have l2:=(bF s.kK).2;have l3:=(bF s.over).2;have l4:=(bF s.gone).2;have l5:=(bF s.L.length).2;have G:=j.on f1;refine⟨_,rfl,aj G.cV,aj G.cV,aj G.cV,aj G.cV,aj G.cV,gD.gY W bO ae λh2 a W2 g'=> ?_⟩;rw[u,dJ]at W2;have z1:=f1.1;have K:=f1.fresh g'.fr n1;have n2: ∀y,a y->h.size<=y:=λy d=>(g'.new y d).elim (n1 y) (λo=>ae);have D:=j.on K;have z2:=K.1;refine⟨_,rfl,aj D.cV,aj D.cV,aj D.cV,aj D.cV,gD.gY W2 ae ae λh3 S3 W3 h'=> ?_⟩;rw[u]at W3;have M:=K.fresh h'.fr n2;have n3: ∀y,S3 y->h.size<=y:=λy d=>(h'.new y d).elim (n2 y) (λo=>ae);have G3:=j.on M;have z3:=M.1;refine⟨_,rfl,aj G3.cV,aj G3.cV,aj G3.cV,gD.gY W3 (by grind) ae λh4 S4 W4 i'=> ?_⟩;rw[u]at W4;have Q:=M.fresh i'.fr n3;have n4: ∀y,S4 y->h.size<=y:=λy d=>(i'.new y d).elim (n3 y) (λo=>ae);have G4:=j.on Q;have z4:=Q.1;refine⟨_,rfl,aj G4.cV,aj G4.cV,gD.gY W4 (by grind) ae λh5 S5 W5 j'=> ?_⟩;rw[u]at W5;have T:=Q.fresh j'.fr n4;have n5: ∀y,S5 y->h.size<=y:=λy d=>(j'.new y d).elim (n4 y) (λo=>ae);have G5:=j.on T;have z5:=T.1;refine⟨_,rfl,aj G5.cV,_,PS uB G5.map,?_⟩;rw[aM,xl];refine gD.gY W5 (by simp only[ak];omega) ae λh6 S6 W6 u'=> ?_;rw[u]at W6;have U:=T.fresh u'.fr n5;have G6:=j.on U;have z6:=U.1;have er:bU s.next++bU s.kK++bU s.over++bU s.gone++bU s.L.length=uD s:=rfl;rw[er]at W6;have lh:(uD s).length<=50:=by grind
 refine⟨_,rfl,aj G6.cV,gD.gJ W6 ae λP C l o7 f7 n7=>⟨_,_,_,rfl,?_⟩⟩;have V:=U.tt f7;have z7:=V.1;have B7:BL h l none 0 0 []:=BL.nil;refine⟨fY (j.on V).cV rfl,bn ?_⟩;have f8:Fr No l (l.push (.C #[.slice P (uD s).length C] 69)):=Fr.push _ _;have o8:Own (l.push (.C #[.slice P (uD s).length C] 69)) (Sa l.size 0) 1 1 1 (kR ⟨P,C,uD s⟩):=.row l.size 0 _ _ rfl aU (bf _) bO rfl (λB' v hj=>by grind);have w:BL h (l.push (.C #[.slice P (uD s).length C] 69)) (Sa l.size 0) 1 1 [uD s]:=by refine⟨[⟨P,C,uD s⟩],aN P,rfl,dQ o8,rfl,?_,?_,λy ⟨k',e,e2⟩=>by grind⟩;intro v r;obtain rfl:=bT.1 r;exact BV.kZ (o7.frame f8 bD) (λ_=>id);intro y d;have o:=n7 y d;have h2:=o7.dW d;exact⟨ae,by rw[bK];omega,λ⟨k',e,e2⟩=>by grind⟩
 generalize l.push (.C #[.slice P (uD s).length C] 69)=h8 at f8 w⊢;generalize (some (AA l.size 0):bH)=p8 at w⊢;clear o8;have Z:=V.tt f8;have G8:=j.on Z;refine⟨aj G8.cV,LL G8 ae λh9 p9 c9 o9 n9 f9=>⟨_,_,_,rfl,?_⟩⟩;have F9:=Z.tt f9;have z8:=Z.1;refine⟨λO ol oc a' g=> ∃k:Nat,a'=(k:Int)/\k<=x.length/\BL h g O ol oc (uD s::(s.L.take k).map recC)/\Fr No h g/\Own g p9 x.length c9 1 ((QW x).map jc)/\(∀y,aN O y->¬aN p9 y),λ_ _ _ a' _=>x.length - a'.toNat,⟨0,rfl,ae,dQ (w.on f9),F9,o9,λy d q=>iI (w.lt d) (n9 y q)⟩,?_⟩;rintro O ol oc _ g ⟨k,rfl,A',B,F,J,f'⟩;by_cases q':k<x.length
 .have q1:(k:Int)<(x.length:Int):=ae
  simp only[q1,di,cI,aG];have⟨v,hx⟩:=tL q';have e':s.L[k]? =some v.abs:=by rw[<-j.abs,aP,hx];rfl
  have r:=aW hx;have E:=j.on F;obtain⟨ab,m',rfl⟩:=J.addr ae;have cn:=J.cell (j:=k) (v:=jc (v.num:Int)) (by unfold QW;rw[fu,aP,hx];rfl);refine⟨⟨by first|trivial|omega,by first|trivial|omega⟩,av.2 ⟨_,by rw[bJ];exact cn,_,aj E.cV,_,look E r,Ai (E.QR v r) (E.Kk v r).row (ok v.abs (aW e')) (tb.on F) λC' w' y' s' I r'=>⟨_,_,_,rfl,?_⟩⟩⟩;have zg:=F.1;have bl:=B.len;rw[bw,aM,bM]at bl;have t': ∀y,aN (some ((AA ab m'):Addr)) y->y<g.size:=λy d=>J.dW d;have v': ∀y,aN O y->y<g.size:=λy d=>B.lt d;have F':=I.1;refine(B.on I).push ae s' (λy d=>⟨cv (r' y d),λho=>by grind⟩) ae λD' x' z' b' d' n'=>⟨_,_,_,rfl,?_⟩;rw[eY];refine⟨⟨k+1,ae,ae,?_,?_,(J.frame I bD).frame d' (λy d q=>f' y q d),λy d q=>(n' y d).elim (λo=>f' y o q) (λo=>cv (t' y q))⟩,ae⟩;rw[bt,e',bB];rw[eH]at b';exact b';obtain⟨_,_,_,_,_,_,_,o'⟩:=B;exact(F.tt I).fresh d' o'
 have q1: ¬(k:Int)<(x.length:Int):=ae
 simp only[q1,fC,aV,bQ];rw[bz ae]at B;exact hk g O ol oc B F

end oF
end
section
open Go.Fields Go.mj
namespace oF
open iZ cB gD
variable {s:CF} {k:Nat}
theorem Nd {α : Type} [DecidableEq α] : ∀ {l1 l2 : List α}, l1.Nodup → (∀ a ∈ l1, a ∈ l2) → l1.length ≤ l2.length
  | [], _, _, _ => Nat.zero_le _
  | a :: l, l2, h, hs => by
    have ⟨h1, h2⟩ := List.nodup_cons.1 h
    have := Nd (l2 := l2.erase a) h2 (λb hb => (List.mem_erase_of_ne (λe => h1 (by grind))).2 (hs b (List.mem_cons_of_mem _ hb)))
    have h3 := List.length_erase_of_mem (hs a (by simp))
    have h4  := List.length_pos_of_mem (hs a (by simp))
    rw [List.length_cons]; omega
def VA{b:Type}[DecidableEq b]{l L:List b}(c:l.Nodup)(d:L.Nodup)(H: ∀a,a∈l↔a∈L):l.length=L.length:=
 Nat.le_antisymm (Nd c (λa h=>(H a).1 h)) (Nd d (λa h=>(H a).2 h))
theorem LM(o:WZ s)(O:Ord s):s.E2.length=(s.L.filter (λz=>decide (z.kQ≠0))).length:=by have e:((s.L.filter (λz=>decide (z.kQ≠0))).map (λz=>(((z.num:Int),(z.dl:Int))))).length=(s.L.filter (λz=>decide (z.kQ≠0))).length:=aM ..;rw[<-e];refine VA ?_ ?_ λa=> ?_;have:=O.n2;exact(ec.1 this).imp (λh e=>h (bY _ e));have H:((s.L.filter (λz=>decide (z.kQ≠0))).map Cp.num).Nodup:=List.Pairwise.sublist (List.Sublist.map _ dX) O.nd;exact ec.2 ((ec.1 H).imp (λh e=>h (Int.ofNat.inj (bY Prod.fst e))));rw[o.e2,bR];constructor;grind;grind
structure Good (s:CF) (k:Nat):Prop where
 ok:WZ s
 all: ∀z∈s.L,W8 z
 may: ∀z∈s.L,WV z.e z.d.length (z.gZ:Int)=true
 fr: ∀z∈s.L,z.kQ=0->z.dl=0
 full: ∀e,(Wa s.L e).length<=16
 len:s.next<=k+1
def Good.nil:Good ⟨[],1,0,0,0, [], []⟩ 0:=⟨⟨(λz h=>by cases h),(λz h=>by cases h),(λe=>bO),(λe=>bO),rfl⟩,(λz h=>by cases h),(λz h=>by cases h),(λz h=>by cases h),λ_=>bg _,bf _⟩
def Good.L(G:Good s k):s.L.length<=k/\s.kK<=k/\s.over<=k/\s.gone<=k:=by have:=G.ok.Vs;have:=G.len;omega
def Good.small(G:Good s k)(O:Ord s)(i:k<=40000):Small s:=by
 have f:=G.L;have g:=G.len;have n: ∀{l:List E},(keys l).Nodup->l.Nodup:=fun {l} a=>(ec.1 a).imp (λh e=>h (bY _ e));have c:=by have:=Nd (n O.n1) (λe H=>by obtain⟨z,b,rfl⟩:=(G.ok.e1 e).1 H;exact bR.2 ⟨z,b,rfl⟩);rwa[aM]at this
 have d:s.E2.length<=s.L.length:=by rw[LM G.ok O];exact gi _ _
 exact⟨ae,ae,ae,ae⟩
def Good.held(G:Good s k):Kn s:=λj H=>by obtain⟨e,h,rfl⟩:=bR.1 H;obtain⟨z,a,_,rfl⟩:=(G.ok.e2 e).1 h;exact⟨z,a,rfl⟩
theorem Good.more (G : Good s k) : Good s (k + 1) := ⟨G.ok, G.all, G.may, G.fr, G.full, by have := G.len; omega⟩
instance (kQ : Int) (dl : Nat) : Decidable (WY kQ dl) := by unfold WY; infer_instance

end oF
end
section
variable {h:Heap} {R:dH}
variable {x:Int}
def xp(a:Cl 207 #[.U x] h λv H=> ∃t,v=.I t/\R (.I t) H):Cl 471 #[.U x] h R:=aD [] a
def uE (g:ay (λ(X:Int) (n:Int) H=>ay (λ(a:Int) (e:Int) d=>ay (λ(b:Int) (i:Int) f=>((0:Int)<=wrap .u8 b/\wrap .u8 b<(((⟨#[0,1,2,2,3,3,3,3,4,4,4,4,4,4,4,4,5,5,5,5,5,5,5,5,5,5,5,5,5,5,5,5,6,6,6,6,6,6,6,6,6,6,6,6,6,6,6,6,6,6,6,6,6,6,6,6,6,6,6,6,6,6,6,6,7,7,7,7,7,7,7,7,7,7,7,7,7,7,7,7,7,7,7,7,7,7,7,7,7,7,7,7,7,7,7,7,7,7,7,7,7,7,7,7,7,7,7,7,7,7,7,7,7,7,7,7,7,7,7,7,7,7,7,7,7,7,7,7,8,8,8,8,8,8,8,8,8,8,8,8,8,8,8,8,8,8,8,8,8,8,8,8,8,8,8,8,8,8,8,8,8,8,8,8,8,8,8,8,8,8,8,8,8,8,8,8,8,8,8,8,8,8,8,8,8,8,8,8,8,8,8,8,8,8,8,8,8,8,8,8,8,8,8,8,8,8,8,8,8,8,8,8,8,8,8,8,8,8,8,8,8,8,8,8,8,8,8,8,8,8,8,8,8,8,8,8,8,8,8,8,8,8,8,8,8,8,8,8,8,8,8,8,8,8,8,8]⟩:bC).size:Nat):Int))/\R (.I (wrap .i64 (i+(wrap .i64 ((((⟨#[0,1,2,2,3,3,3,3,4,4,4,4,4,4,4,4,5,5,5,5,5,5,5,5,5,5,5,5,5,5,5,5,6,6,6,6,6,6,6,6,6,6,6,6,6,6,6,6,6,6,6,6,6,6,6,6,6,6,6,6,6,6,6,6,7,7,7,7,7,7,7,7,7,7,7,7,7,7,7,7,7,7,7,7,7,7,7,7,7,7,7,7,7,7,7,7,7,7,7,7,7,7,7,7,7,7,7,7,7,7,7,7,7,7,7,7,7,7,7,7,7,7,7,7,7,7,7,7,8,8,8,8,8,8,8,8,8,8,8,8,8,8,8,8,8,8,8,8,8,8,8,8,8,8,8,8,8,8,8,8,8,8,8,8,8,8,8,8,8,8,8,8,8,8,8,8,8,8,8,8,8,8,8,8,8,8,8,8,8,8,8,8,8,8,8,8,8,8,8,8,8,8,8,8,8,8,8,8,8,8,8,8,8,8,8,8,8,8,8,8,8,8,8,8,8,8,8,8,8,8,8,8,8,8,8,8,8,8,8,8,8,8,8,8,8,8,8,8,8,8,8,8,8,8,8,8]⟩:bC).data.toList.getD (toNat (wrap .u8 b)) 0).toNat:Nat):Int))))) f) (λc=>ite (decide (a≥256)) (c (Int.fdiv a (2 ^ min (toNat 8) (IntKind.bits .u64))) (wrap .i64 (e+8)) d) (c a e d))) (λj=>ite (decide (X≥65536)) (j (Int.fdiv X (2 ^ min (toNat 16) (IntKind.bits .u64))) (wrap .i64 (n+16)) H) (j X n H))) (λJ=>ite (decide (x≥4294967296)) (J (Int.fdiv x (2 ^ min (toNat 32) (IntKind.bits .u64))) 32 h) (J x 0 h))):Cl 207 #[.U x] h R:=aD [(5,.join [(0,sU),(2,sI)]),(13,.join [(0,sU),(2,sI)]),(21,.join [(0,sU),(2,sI)])] g

end
section
namespace nB
open iZ
variable {h H:Heap} {R:dH} {b:Nat} {X:Ft} {L x:List Rg} {m n c:Nat} {p:bH}
def EA(r:Rg): ∀v∈Ep r,fH v=true:=by intro v a;simp only[bG,dU,or_false]at a;rcases a with rfl|rfl|rfl|rfl|rfl|rfl|rfl<;>rfl
theorem VB(a y:Rg)(j: jA h R (.I (if mn a.e y.e=true then -1 else 1))):Cl 405 #[a.val,y.val] h R:=by refine su (bX.box λB o E g F=>bX.box λk r l i f=>QQ (f.get g id) (QQ i (SX a.e y.e λe d=>⟨_,rfl,?_⟩)));have K:=j e (F.tt (f.tt d));by_cases q:mn a.e y.e=true;grind;grind
def tG:jL Tryz.prog 476 479 7 72 (Rg.zero).val:=⟨zzkr,zzkr,rfl⟩
def uG:Tryz.prog.underlying 476=some (.slice 479):=zzkr
def YS(d:Ev×Value):Rg:=
 match d.2 with
 | .agg ⟨[_,_,_,_,_,.int _ a,.int _ b]⟩=>⟨d.1,a,b⟩
 |_=> .zero
abbrev EB(x:List Rg):Prop:=(x.map Rg.e).Nodup
theorem EB.ne{i j:Nat}{a y:Rg}(f:EB x)(g:x[i]? =some a)(k:x[j]? =some y)(d:i≠j):a.e≠y.e:=λe=>by apply d;exact(eK (by grind) f).1 (by grind)
theorem Iz(c':Own h p n c 7 (x.flatMap Ep))(l:n=x.length)(k:x.length<=1000)(nd:EB x)(hk: ∀H (a:List Rg),Own H p n c 7 (a.flatMap Ep)->a.Perm x->a.Pairwise yF->Fr (aN p) h H->R (.T #[]) H):
  Cl 522 #[.L p n c,.I 0,.I (n:Int),.func (.func 405) #[] #[]] h R:=by
 subst l;refine iJ ?_;have K: ∀{a:List Rg},a.Perm x->a.length=x.length:=λhp=>hp.length_eq;refine⟨λt g=> ∃(i:Nat)(a:List Rg),t=(i:Int)/\1<=i/\(i<=x.length\/i=1)/\Own g p x.length c 7 (a.flatMap Ep)/\a.Perm x/\jO yF a 0 i/\Fr (aN p) h g,λt _=>x.length - t.toNat,⟨1,x,by rfl,ae,.inr rfl,c',.refl _,jO.small ae,Fr.refl _ _⟩,?_⟩;rintro _ g ⟨i,a,rfl,h1,h2,E,P,sy,s⟩;have ly:=K P;by_cases hi:i<x.length;rw[iE];refine⟨λt v=> ∃(j:Nat)(Z:List Rg),t=(j:Int)/\j<=i/\Own v p x.length c 7 (Z.flatMap Ep)/\HW yF a Z 0 i j/\Fr (aN p) h v,λt _=>t.toNat,⟨i,a,rfl,bf _,E,HW.start sy,s⟩,?_⟩;rintro _ w ⟨j,Z,rfl,A,o,I,u⟩;have r:=I.perm.trans P;have lz:=K r;have b':EB Z:=(r.map Rg.e).nodup_iff.2 nd;obtain⟨M,Q,rfl⟩:=o.addr ae;refine ay.of λJ q=> ?_;have stop:(j=0\/∀f y,Z[j]? =some f->Z[j - 1]? =some y->yF y f)->∀G,Fr No w G->J false G:=by intro he G F;subst q;simp only[aV,bQ];rw[eY];refine⟨⟨i+1,Z,ae,ae,.inl ae,o.frame F bD,r,I.stop Dz (bg _) A ae he,u.on F⟩,ae⟩
 by_cases a':0<j;have q2:(j:Int)>0:=ae
 have S:IntKind.wrap .i64 ((j:Int) - 1)=((j - 1:Nat):Int):=by rw[eY];omega
 have d:Z[j]? =some (Z[j]' ae):=ai _;have e:Z[j - 1]? =some (Z[j - 1]' ae):=ai _;generalize Z[j]' ae=f at d;generalize Z[j - 1]' ae=y at e;simp only[q2,di,cI,S,aG]at q⊢;refine⟨ae,av.2 (bX.vy (o.gL nC d) ⟨ae,av.2 (bX.vy (o.gL nC e) (VB f y λG F=>⟨_,rfl,?_⟩))⟩)⟩;by_cases k:mn f.e y.e=true;rw[ah k,aq ae];have O:=o.frame F bD;subst q;simp only[cI];refine⟨ae,av.2 (bX.vy (O.gL nC e) ⟨ae,av.2 (bX.vy (O.gL nC d) ⟨ae,av.2 (bX.Oe (O.Dm nC (EA y) ae λg4 o4 s4 q4=>⟨ae,av.2 (bX.Oe (o4.Dm nC (EA f) (by rw[fz];omega) λV D s5 q5=> ?_))⟩))⟩)⟩)⟩;have T:(Z.set j y).set (j - 1) f=swp Z j (j - 1):=UZ d e;rw[T]at D;have U:Fr (aN (Sa M Q)) G V:=⟨ae,λz _ l=>by rw[q5 z l,q4 z l]⟩;exact⟨⟨j - 1,_,rfl,ae,D,I.swap a' A ae d e k,(u.on F).tt U⟩,ae⟩;rw[af k,aA ae];refine stop (.inr λx' y' B C=> ?_) G F;rw[d]at B;rw[e]at C;cases B;cases C;exact(Lv (b'.ne d e ae)).resolve_left k;rw[fe];exact stop (.inl ae) w (Fr.refl _ _);rw[fe];have:jO yF a 0 a.length:=by rcases h2 with h2|h2;grind;exact jO.small ae
 exact hk g a E P this.pair s
theorem LI{f:Int}(d: ∀n:Int,R (.I n) h):Cl 471 #[.U f] h R:=by
 refine xp (uE (ay.of λJ a=> ?_));have w: ∀n,0<=IntKind.wrap .u8 n/\IntKind.wrap .u8 n<256:=λn=>by rw[IntKind.wrap_u8];omega
 have k: ∀y n,J y n h:=by
  intro y n;subst a;refine ay.of λJ a=> ?_;have K: ∀y n,J y n h:=by
   intro y n;subst a;refine ay.of λJ a=> ?_;have e: ∀y n,J y n h:=by intro y n;subst a;exact⟨w y,_,rfl,d _⟩
   split
   grind;exact e _ _
  split
  grind;exact K _ _
 split
 exact k _ _;grind
theorem Ix(o:Own h p n c 7 (x.flatMap Ep))(e:n=x.length)(q:x.length<=12)(j:EB x)(d: ∀H (y:List Rg),Own H p n c 7 (y.flatMap Ep)->y.Perm x->y.Pairwise yF->Fr (aN p) h H->R (.T #[]) H):
  Cl 404 #[.L p n c,.func (.func 405) #[] #[]] h R:=by
 subst e;refine iQ (LI λi=>⟨_,rfl,jy ⟨λa b l _ _ g=>a=0/\b=((x.length:Nat))/\l=i/\g=h,λ_ _ _ _ _ _=>0,⟨rfl,rfl,rfl,rfl⟩,?_⟩⟩);rintro _ _ _ w r _ ⟨rfl,rfl,rfl,rfl⟩;refine ay.of λJ k=> ?_;rw[eY,ah (by grind)];exact Iz o rfl ae j λH y O P s f=>⟨rfl,rfl,d H y O P s f⟩
theorem EC(f:Tb h b X L)(hl:L.length<=12)(hk: ∀H P C,Own H P L.length C 7 (L.flatMap Ep)->(∀y,aN P y->h.size<=y)->Fr No h H->R (.L P L.length C) H):
  Cl 335 #[.P b 0] h R:=by
 have⟨m,f⟩:=f;refine vS (fJ f ⟨_,rfl,ay.of λf' hJ=> ?_⟩);rw[ah rfl];refine⟨_,aj f.cV,De uB f.map λj B e1 I U=>⟨_,rfl,?_⟩⟩;refine⟨λO o u g=> ∃i:List Rg,o=i.length/\Own g O o u 7 (i.flatMap Ep)/\(∀y,aN O y->h.size<=y/\y≠j)/\Iter g j m jQ (L.map Rg.pair) (i.map Rg.pair)/\Fr No h g,λ_ o _ _=>L.length - o,
  ⟨[],rfl,.nil rfl rfl rfl rfl,(λy ⟨a,e,_⟩=>by cases e),I,U⟩,?_⟩
 rintro O o u g ⟨i,rfl,J,k,v,s⟩;have zy:=s.1;have b':=v.le;rw[aM,aM]at b';refine GG v (λhp=> .inl ⟨rfl,?_⟩) (λa k' A hm h' I s1 o1=> .inr ⟨_,_,rfl,?_⟩)
 .subst hJ;have t:=by
   have e: ∀l:List Rg,(l.map Rg.pair).map YS=l:=λl=>by
    rw[fu];conv=>rhs;rw[<-List.map_id l]
    exact List.map_congr_left (λr _=>rfl)
   have:=hp.map YS;rwa[e,e]at this
  have nd:=(t.map Rg.e).nodup_iff.2 (LK f.so);have c':=t.length_eq;refine Ix J rfl ae nd λZ zs E p3 s3 F=>⟨rfl,?_⟩;have:=(List.Perm.eq_of_pairwise (λa b _ _ B V=>by have:=Dz B V;rw[A5]at this;cases this) s3 f.so (p3.trans t));subst this;rw[c']at E⊢;exact hk Z O u E (λy d=>(k y d).1) (s.fresh F (λy d=>(k y d).1))
 have⟨r,D,e⟩:=bR.1 hm;have S:=(bY Prod.fst e).symm;have T:=(bY Prod.snd e).symm;subst S T;refine Dh I ⟨_,_,rfl,_,_,_,_,_,_,_,rfl,bX.new λb2 G e2 a' q=>bX.ld a' (bn ?_)⟩;have F:Fr No G (G.push (.C #[.B r.e.lS,.U r.e.node,.U r.e.iA,.S r.e.host,.S r.e.kj,.I r.wy,.I r.own] 479)):=Fr.push _ _;have K:Row (G.push (.C #[.B r.e.lS,.U r.e.node,.U r.e.iA,.S r.e.host,.S r.e.kj,.I r.wy,.I r.own] 479)) (Sa G.size 0) (Ep r):=gW;generalize G.push (.C #[.B r.e.lS,.U r.e.node,.U r.e.iA,.S r.e.host,.S r.e.kj,.I r.wy,.I r.own] 479)=g3 at F K⊢;have z:Fr (λy=>y=j) g A:=⟨ae,λy _ hn=>o1 y hn⟩;have e':=(J.frame z (λy d e=>(k y d).2 e)).frame (q.tt F) bD;have M:=s.fresh z (λy e=>ae);have Q:=M.tt (q.tt F);have i':=(q.tt F).1;have j':j<A.size:=by have⟨_,_,_,_,_,_,D,_⟩:=I;exact aE D
 refine du tG uG e' K rfl (EA r) ae ae λp4 c4 g4 o4 _ w k4=>⟨_,_,_,rfl,?_⟩;have d': ∀y,aN p4 y->h.size<=y/\y≠j:=by grind
 refine⟨⟨i++ [r],bO,?_,d',?_,Q.fresh w (λy d=>(k y d).1)⟩,?_⟩;grind;rw[bB];have g':m<h.size:=f.map.lt;exact(I.frame (q.tt F) id id).frame w (λd=>(k j d).2 rfl) (λd=>by grind);have:=I.le;rw[ak,aM,aM,List.length_singleton]at this;show L.length - (i.length+1)<L.length - i.length;omega

end nB
end
section
variable {h:Heap} {R:dH}
def uF{t:Nat}(q:Cl 335 #[.P t 0] h λv k=>Vl v λP j S=> ∃(I:bH->Nat->Nat->iT)(m:bH->Nat->Nat->iW),I none 0 0 0 k/\∀c O o T H,I c O o T H->ite (decide (T<(j:Int))) (Bd T j/\aJ P λa=>bX.LD H (a.add (toNat T*7)) λr s u w x y z=>aT H (.C #[.B false,.U 0,.U 0,.S (⟨#[]⟩:bC),.S (⟨#[]⟩:bC),.I 0,.I 0] 479) λb l=>bX.ST l (AA b 0) r s u w x y z λg=>bX.LD g (AA b 0) λA C D E F G J=>Cl 336 #[.agg #[.B A,.U C,.U D,.S E,.S F,.I G,.I J]] g λV n=>Vl V λM L K=>aT n (.C #[.L M L K] 69) λB p=>ij (Builtin.append_ #[164,164] 164 #[.L c O o,.L (Sa B 0) 1 1]) p λQ i=> ∃f e d,Q=.L f e d/\(I f e d (wrap .i64 (T+1)) i/\m f e d (wrap .i64 (T+1)) i<m c O o T H)) (R (.L c O o) H)):Cl 265 #[.P t 0] h R:=aD [(8,.loop [(3,sS),(9,sI)])] q
def Aj{r:Bool}{m:Int}{n:Int}{o:bC}{p:bC}{q:Int}{s:Int}(E:aT h (.C #[.B r,.U m,.U n,.S o,.S p,.I q,.I s] 479) λb j=>aw.LD j (AA b 0) λZ a' b' c' d'=>Cl 263 #[.agg #[.B Z,.U a',.U b',.S c',.S d']] j λf' H=> ∃i e',f'=.T #[.S i,.I e']/\Hi H b 5 λT=>Hi H b 6 λt=>(Cl 217 #[] H λg' d=>Vp g' λF=>Cc d b 6 (.I t)/\Cc d b 5 (.I T)/\ij (convert 9 69 (.S i)) d λk' e=>Vl k' λM K I=>Cc e b 6 (.I t)/\Cc e b 5 (.I T)/\Cl 221 #[.Q F,.L M K I] e λl' f=>Vp l' λP=>Cc f b 6 (.I t)/\Cc f b 5 (.I T)/\Cl 219 #[.Q P,.I T] f λm' l=>Vp m' λS=>Cc l b 6 (.I t)/\Cl 219 #[.Q S,.I t] l λn' C=>Vp n' λV=>Cl 222 #[.Q V] C λo' D=> ∃y w u,o'=.L y w u/\R (.L y w u) D)/\(ij (convert 9 69 (.S i)) H λp' g=>Vl p' λO L J=>Cc g b 6 (.I t)/\Cc g b 5 (.I T)/\Cl 217 #[] g λq' a=>Vp q' λG=>Cc a b 6 (.I t)/\Cc a b 5 (.I T)/\Cl 221 #[.Q G,.L O L J] a λr' c=>Vp r' λQ=>Cc c b 6 (.I t)/\Cc c b 5 (.I T)/\Cl 219 #[.Q Q,.I T] c λh' k=>Vp h' λU=>Cc k b 6 (.I t)/\Cl 219 #[.Q U,.I t] k λi' A=>Vp i' λX=>Cl 222 #[.Q X] A λj' B=> ∃z x v,j'=.L z x v/\R (.L z x v) B)/\True):Cl 336 #[.agg #[.B r,.U m,.U n,.S o,.S p,.I q,.I s]] h R:=aD [(5,λ_=> .pn (mL [1,4,5,7,8] (.alts (.fork 0 (mL [2,3,6,9,10,11] .done) (.fork 2 (mL [0,3,6,9,10,11] .done) .iH)))))] E

end
section
open Go.Fields
namespace nB
open iZ gD
variable {h H:Heap} {R:dH} {b:Nat} {X:Ft} {L:List Rg} {r:Rg}
def B0(r:Rg):cO:=dF (gP r.e)++bU (gv r.wy)++bU (gv r.own)
structure Wb (r:Rg):Prop where
 rt:Is r=true
 sv:0<=r.e.iA
def Wb.e(k:Wb r):dD r.e=true/\0<=r.wy/\r.wy<=2/\1<=r.own/\r.own<=1099511627776:=by have:=k.rt;unfold Is at this;simp only[bE,Bool.not_eq_true',bN,decide_eq_false_iff_not]at this;exact⟨this.1,this.2.2.1.1,this.2.2.1.2,this.2.2.2.1,this.2.2.2.2⟩
def Q3(k:Wb r):(B0 r).length<=200:=by have l:=pU k.e.1 k.sv;have a:=(bF (gP r.e).length).2;have c:=(bF (gv r.wy)).2;have d:=(bF (gv r.own)).2;unfold B0 dF;simp only[ak];omega
theorem Ai(k:Wb r)(tb:jk.vx h)(hk: ∀P J H,Own H P (B0 r).length J 1 (bc (B0 r))->Fr No h H->(∀y,aN P y->h.size<=y)->R (.slice P (B0 r).length J) H):Cl 336 #[r.val] h R:=by
 have K:=k.e;refine Aj (bX.box λb l eb U M=>QQ U (iZ.mF r.e (tb.on M) k.sv λm O=> ?_));simp only[K.1,cI];refine⟨_,_,rfl,?_⟩;have c:=O.get U id;have C:=M.tt O;have l0:=pU K.1 k.sv;have sz:(str (gP r.e)).size=(gP r.e).length:=ir _;have dt:(str (gP r.e)).data.toList=gP r.e:=by rfl
 have tail: ∀g (w:Nat) (S:fZ) q d,Fr No m g->Wr g w S []->(∀y,S y->m.size<=y)->Row g q (bc (gP r.e))->(∀y,aN q y->¬S y)->aQ g (AA b 6)=some (.I r.own)/\aQ g (AA b 5)=some (.I r.wy)/\Cl 221 #[.P w 0,.slice q (str (gP r.e)).size d] g λj' x=>
   ∃(a':bH),j'=.Q a'/\
   aQ x (AA b 6)=some (.I r.own)/\
   aQ x (AA b 5)=some (.I r.wy)/\
   Cl 219 #[.Q a',.I r.wy] x λk' T=>
   ∃(b':bH),k'=.Q b'/\
   aQ T (AA b 6)=some (.I r.own)/\
   Cl 219 #[.Q b',.I r.own] T λl' g'=>
   ∃(c':bH),l'=.Q c'/\
   Cl 222 #[.Q c'] g' λm' h'=>
   ∃(f':bH)(e' d':Nat),m'=.L f' e' d'/\
   R (.L f' e' d') h':=by
  intro g w S q d p j u i hq;have I: ∀{E:fZ},(∀y,E y->m.size<=y)->¬E b:=λhh hn=>by have:=hh b hn;have:=aE c;omega
  have A:=p.get c id;have zg:=p.1;refine⟨aj A,aj A,gD.mF j bO i sz ae hq λg1 S1 W1 s=> ?_⟩;have v:=λy a=>(s.new y a).elim (u y) (λl=>ae);have z:=s.fr.get A (I u);have z1:=s.fr.1;have lt:=pU K.1 k.sv;have l1:=(bF (gP r.e).length).2;have l2:=(bF (gv r.wy)).2;have l3:=(bF (gv r.own)).2;have el:(dF (gP r.e)).length=(bU (gP r.e).length).length+(gP r.e).length:=by unfold dF;rw[ak]
  refine⟨_,rfl,aj z,aj z,gY W1 (by grind) ae λg2 S2 W2 o=>⟨_,rfl,?_⟩⟩;have Q:=λy a=>(o.new y a).elim (v y) (λl=>ae);have i':=o.fr.get z (I v);have z2:=o.fr.1;refine⟨aj i',gY W2 (by grind) ae λg3 S3 G Z=>⟨_,rfl,?_⟩⟩;have n':=λy a=>(Z.new y a).elim (Q y) (λl=>ae);have er: []++dF (gP r.e)++bU (gv r.wy)++bU (gv r.own)=B0 r:=by rfl
  rw[er]at G;have lr:=Q3 k;refine gJ G ae λp4 c4 g4 o4 F n=>⟨_,_,_,rfl,?_⟩;have D:=((p.fresh s.fr u).fresh o.fr v).fresh Z.fr Q;have z3:=D.1;have zz:=C.1;exact hk p4 c4 g4 o4 (C.tt (D.tt F)) (λy a=>cv (n y a))
 refine⟨_,aj c,_,aj c,gD.ft λh3 w S j f V=>⟨_,rfl,aj (f.get c id),aj (f.get c id),Uo λq d t i cq F n=>⟨_,_,_,rfl,?_⟩⟩,Uo λq d h3 i cq f V=>⟨_,_,_,rfl,aj (f.get c id),aj (f.get c id),gD.ft λt w S j F n=>⟨_,rfl,?_⟩⟩,trivial⟩;exact tail t w S q d (f.tt F) (j.frame F bD) V i (λy a B=>iI (n y a) (j.lt y B))
 .rw[dt]at i;have z3:=f.1;refine tail t w S q d (f.tt F) j (λy a=>by grind) (i.frame F bD) (λy a B=> ?_);have l:=n y B;have m:=jT i (by unfold gP;intro e;have:=bY List.length e;rw[fO]at this;revert this;split<;>(try split)<;>simp) a;omega
theorem lG(s:Tb h b X L)(D:L.length<=12)(P: ∀r∈L,Wb r)(T:jk.vx h)(A: ∀H p l C,BL h H p l C (L.map B0)->Fr No h H->R (.L p l C) H):Cl 265 #[.P b 0] h R:=by
 refine uF (EC s D λi p1 V K n1 c=>⟨_,_,_,rfl,?_⟩);refine⟨λe O o t g=> ∃k:Nat,t=(k)/\k<=L.length/\BL i g e O o ((L.take k).map B0)/\Fr No i g,λ_ _ _ t _=>L.length - t.toNat,⟨0,rfl,ae,dQ BL.nil,Fr.refl _ _⟩,?_⟩;rintro e O o _ g ⟨k,rfl,a',B,f⟩;by_cases E:k<L.length
 .have q:(k:Int)<((L.length:Nat):Int):=ae
  simp only[q,di,cI,aG];have a:=ai E;generalize L[k]=v at a;have j:=K.frame f bD;obtain⟨Q,S,rfl⟩:=j.addr ae;refine⟨⟨ae,by first|trivial|omega⟩,av.2 (bX.vy (j.gL nC a) (bX.new λU h2 e2 z d=>bX.ld z ?_))⟩;have n:=c.tt (f.tt d);refine Ai (r:=v) (P v (aW a)) (T.on n) λp3 Z h3 M u J=>⟨_,_,_,rfl,?_⟩;have z1:=f.1;have z2:=d.1;have bl:=B.len;rw[aM,bM]at bl;have F:=d.tt u;refine(B.on F).push (cv F.1) M (λy I=>⟨by grind,λG=>iI (B.lt G) (J y I)⟩) ae λp4 c4 h4 m w g4=>⟨_,_,_,rfl,?_⟩;rw[eY];refine⟨⟨k+1,ae,ae,?_,?_⟩,ae⟩;rw[bt,a,bB];exact m;obtain⟨_,_,_,_,_,_,_,x⟩:=B;exact(f.tt F).fresh w x
 have q: ¬(k:Int)<((L.length:Nat):Int):=ae
 simp only[q,fC,aV,bQ];rw[bz ae]at B;exact A g e O o (B.mono c.1) (c.tt f)

end nB
end
section
open Go.Fields
namespace nB
open iZ gD
variable {L:List Rg}
structure WQ (L:List Rg):Prop where
 len:L.length<=8
 all: ∀r∈L,Wb r

end nB
end
section
namespace pg
open nz (It)
open iZ (Ev dD)
variable {σ:SS} {k:Nat}
structure Good (σ:SS) (k:Nat):Prop where
 a:me.Pn σ.A
 g:nB.WQ σ.G
 c:oF.Good σ.C k
 b:σ.B.next<=k+1
 v:σ.B.over<=k
 q:σ.Q=σ.B.items
 ok:yY σ.Q
 n:σ.now<=2^40
 e:dD σ.e=true/\σ.e≠Ev.zero/\0<=σ.e.iA
 t:σ.tm<=2^40/\σ.sq<=2^40
 r:σ.rf<=k
def kL(e:Ev):SS:=⟨[], [],⟨[],1,0,0,0, [], []⟩,⟨[],1,0,0,0⟩, [],e,0,0,0,0⟩
def Good.new{e:Ev}(H:dD e=true)(a:e≠Ev.zero)(b:0<=e.iA):Good (kL e) 0:=
 ⟨me.Pn.nil,⟨bg _,λ_ h=>(by cases h)⟩,oF.Good.nil,bf _,bf _,rfl,yY.nil,bg _,⟨H,a,b⟩,⟨bg _,bg _⟩,bf _⟩
def wB(s:nz.BS)(n:Nat):nz.BS:= { s with items:=s.items.filter (λx=>decide ((n:Int)<(x.gZ:Int))),over:=s.over+(s.items.filter (λx=>decide ((x.gZ:Int)<=(n:Int)))).length }
def yG(σ:SS)(n:Nat):Int:=if n>1099511627776 then 1 else if n<σ.now then 18 else 0
def Q4(σ:SS)(n:Nat):SS:= { σ with C:=oF.Ex σ.C (n:Int),B:=wB σ.B n,Q:=(wB σ.B n).items,now:=n }
def Ks(σ:SS)(n:Nat):SS:=if yG σ n=0 then Q4 σ n else σ
theorem Good.more (G : Good σ k) : Good σ (k + 1) := ⟨G.a, G.g, G.c.more, by have := G.b; omega, by have := G.v; omega, G.q, G.ok, G.n, G.e, G.t, by have := G.r; omega⟩
abbrev pA(l:List It)(o:Int)(n:Nat):Bool:=wx.fits 4800 1600 (IS l) (own l) o (n:Int)

end pg
end
section
variable {h:Heap} {R:dH}
def uH{b:Nat} (hv:Cl 340 #[.P b 0] h λz' H=> ∃S,z'=.B S/\ite (!S) (R (.Z) H) (Hi H b 1 λL=>Hi H b 2 λy=>Hi H b 3 λq=>Hi H b 4 λk=>Hl H b 0 λc t T=>Cl 217 #[] H λA' e=>Vp A' λt9=>Cc e b 0 (.L c t T)/\Cc e b 4 (.I k)/\Cc e b 3 (.I q)/\Cc e b 2 (.I y)/\Cc e b 1 (.I L)/\Cl 219 #[.Q t9,.I L] e λG' j=>Vp G' λc'=>Cc j b 0 (.L c t T)/\Cc j b 4 (.I k)/\Cc j b 3 (.I q)/\Cc j b 2 (.I y)/\Cl 219 #[.Q c',.I y] j λH' n=>Vp H' λd'=>Cc n b 0 (.L c t T)/\Cc n b 4 (.I k)/\Cc n b 3 (.I q)/\Cl 219 #[.Q d',.I q] n λI' w=>Vp I' λe'=>Cc w b 0 (.L c t T)/\Cc w b 4 (.I k)/\Cl 219 #[.Q e',.I k] w λJ' G=>Vp J' λf'=>Cc G b 0 (.L c t T)/\Cl 219 #[.Q f',.I (t:Int)] G λK' J=>Vp K' λg'=>Cc J b 0 (.L c t T)/\Cl 222 #[.Q g'] J λL' K=>Vl L' λj' i' h'=>Cc K b 0 (.L c t T)/\aT K (.C #[.L j' i' h'] 69) λU x=>Cc x b 0 (.L c t T)/\Hl x b 0 λk' P P'=> ∃(I:bH->Nat->Nat->iT)(M:bH->Nat->Nat->iW),I (Sa U 0) 1 1 0 x/\∀p O o d f,I p O o d f->ite (decide (d<(P:Int))) (Bd d P/\aJ k' λa=>aR.LD f (a.add (toNat d*4)) λl' m' p' o' n' q'=>aT f (.C #[.I 0,.I 0,.Z,.U 0] 434) λB X=>aR.ST X (AA B 0) l' m' p' o' n' q' λg=>Hi g B 0 λQ=>Hi g B 1 λz=>Hl g B 2 λu s r=>Hu g B 3 λl=>Cl 217 #[] g λM' i=>Vp M' λr'=>Cc i B 3 (.U l)/\Cc i B 2 (.L u s r)/\Cc i B 1 (.I z)/\Cc i B 0 (.I Q)/\Cl 219 #[.Q r',.I Q] i λO' m=>Vp O' λs'=>Cc m B 3 (.U l)/\Cc m B 2 (.L u s r)/\Cc m B 1 (.I z)/\Cl 219 #[.Q s',.I z] m λB' v=>Vp B' λt'=>Cc v B 3 (.U l)/\Cc v B 2 (.L u s r)/\Cl 221 #[.Q t',.L u s r] v λC' E=>Vp C' λu'=>Cc E B 3 (.U l)/\Cl 218 #[.Q u',.U l] E λD' Z=>Vp D' λv'=>Cl 222 #[.Q v'] Z λE' a'=>Vl E' λy' x' w'=>aT a' (.C #[.L y' x' w'] 69) λV b'=>ij (Builtin.append_ #[164,164] 164 #[.L p O o,.L (Sa V 0) 1 1]) b' λF' F=> ∃D C A,F'=.L D C A/\(I D C A (wrap .i64 (d+1)) F/\M D C A (wrap .i64 (d+1)) F<M p O o d f)) (R (.L p O o) f))):Cl 267 #[.P b 0] h R:=aD [(11,λ_=> .pn (mL [1,2,3,4,6,7,8,9,11,12,13,14,16,17,18,19,21,22,23,24,25,0,5,10,15,20,26,27,28,29] .done)),(16,.loop [(3,sS),(43,sI)]),(27,λ_=> .pn (mL [0,2,3,5,6,8,9,11,12,1,4,7,10,13,14,15,16,17] .done))] hv

end
section
open Go.Fields Go.mj
namespace nz
open gD
variable {h H:Heap} {b:Nat} {X:Ft} {R:dH} {d:Nat} {L:List E} {s:BS}
def pV(s:BS):cO:=bU s.next++bU s.taken++bU s.FW++bU s.over++bU s.items.length
def Q5(x:It):cO:=bU x.num++bU x.owner.toNat++dF x.d++bU x.gZ
def ED(s:BS):List (cO):=pV s::s.items.map Q5
def OG(s:BS):(pV s).length<=60:=by unfold pV;simp only[ak];have a:=(bF s.next).2;have A:=(bF s.taken).2;have c:=(bF s.FW).2;have e:=(bF s.over).2;have f:=(bF s.items.length).2;omega
def Q6{x:It}(h:x.d.length<=600):(Q5 x).length<=700:=by unfold Q5 dF;simp only[ak];have a:=(bF x.num).2;have A:=(bF x.owner.toNat).2;have c:=(bF x.d.length).2;have e:=(bF x.gZ).2;omega
theorem lG(a:GX h b X s)(a7:s.next<=1000000000)(hk: ∀H p' l' c',BL h H p' l' c' (ED s)->Fr No h H->R (.L p' l' c') H):Cl 267 #[.P b 0] h R:=by
 obtain⟨L,⟨lp,lc,v,e',S,a⟩,Q⟩:=a;obtain⟨hL,a8⟩:=a.WQ Q;have a5:=Q.Vs;have C':=a.len;have m: ∀(n:Nat),gv (n:Int)=n:=λn=>by unfold gv;omega
 refine uH (fJ a ⟨_,rfl,?_⟩);simp only[Bool.not_true,aV,bQ];refine⟨_,aj a.cV,_,aj a.cV,_,aj a.cV,_,aj a.cV,_,_,_,aj a.cV,?_⟩;refine gD.ft λh2 J' S2 W2 f2 g2=>⟨_,rfl,?_⟩;have u2:Up h S2 h2:=⟨f2,g2⟩;have lb:=aE a.cV;have r: ∀{S:fZ}{H:Heap},Up h S H->¬S b:=λu f=>by have:=u.ge b f;omega
 have j:=f2.get a.cV id;refine⟨aj j,aj j,aj j,aj j,aj j,?_⟩;refine gY W2 bO ae λh3 S3 W3 s3=>⟨_,rfl,?_⟩;have o:=s3.fr.get j (r u2);have u3:=u2.step s3;rw[m,dJ]at W3;have l1:=(bF s.next).2;refine⟨aj o,aj o,aj o,aj o,?_⟩;refine gY W3 ae ae λh4 S4 W4 s4=>⟨_,rfl,?_⟩;have w:=s4.fr.get o (r u3);have u4:=u3.step s4;rw[m]at W4;have l2:=(bF s.taken).2;refine⟨aj w,aj w,aj w,?_⟩;refine gY W4 (by simp only[ak];omega) ae λh5 S5 W5 s5=>⟨_,rfl,?_⟩;have J:=s5.fr.get w (r u4);have u5:=u4.step s5;rw[m]at W5;have l3:=(bF s.FW).2;refine⟨aj J,aj J,?_⟩;refine gY W5 (by simp only[ak];omega) ae λh6 S6 W6 s6=>⟨_,rfl,?_⟩;have b6:=s6.fr.get J (r u5);have u6:=u5.step s6;rw[m]at W6;have l4:=(bF s.over).2;refine⟨aj b6,?_⟩;refine gY W6 (by simp only[ak];omega) ae λh7 S7 W7 s7=>⟨_,rfl,?_⟩;have b7:=s7.fr.get b6 (r u6);have u7:=u6.step s7;rw[m,C']at W7;refine⟨aj b7,?_⟩;have hh:=OG s;refine gJ (bs:=pV s) W7 ae λq D c o8 f8 g8=>⟨_,_,_,rfl,?_⟩;have b8:=f8.get b7 id;refine⟨aj b8,bn ?_⟩;have f9:Fr No c (c.push (.C #[.slice q (pV s).length D] 69)):=Fr.push _ _;have o9:Own (c.push (.C #[.slice q (pV s).length D] 69)) (Sa c.size 0) 1 1 1 (kR ⟨q,D,pV s⟩):=.row c.size 0 _ _ rfl aU (bf _) bO rfl (λa9 b4 hj=>by rw[aX];simpa using hj);have F8:Fr No h c:=u7.fr.tt f8;have z8:=F8.1;have z7:=u7.fr.1;have E:BL h (c.push (.C #[.slice q (pV s).length D] 69)) (Sa c.size 0) 1 1 [pV s]:=by refine⟨[⟨q,D,pV s⟩],aN q,rfl,dQ o9,rfl,?_,?_,λy ⟨e',e,e2⟩=>by cases e;rw[<-e2];exact z8⟩;intro x f;obtain rfl:=bT.1 f;exact BV.kZ (o8.frame f9 bD) (λ_=>id);intro y i;have h1:=g8 y i;have h2:=o8.dW i;exact⟨ae,by rw[bK];omega,λ⟨e',e,e2⟩=>by grind⟩
 have I:Fr No h (c.push (.C #[.slice q (pV s).length D] 69)):=F8.tt f9;generalize c.push (.C #[.slice q (pV s).length D] 69)=h9 at E I⊢;generalize (some (AA c.size 0):bH)=p9 at E⊢;have M9:=a.on I;refine⟨aj M9.cV,_,_,_,aj M9.cV,?_⟩;refine⟨λV T P t g=> ∃k:Nat,t=(k:Int)/\k<=v.length/\BL h g V T P (pV s::(s.items.take k).map Q5)/\Fr No h g,λ_ _ _ t _=>v.length - t.toNat,⟨0,rfl,ae,dQ E,I⟩,?_⟩;rintro V T P _ g ⟨k,rfl,a6,B,A⟩;have M:=a.on A;by_cases D':k<v.length
 .have Z:(k:Int)<(v.length:Int):=ae
  simp only[Z,di,cI,aG];have⟨x,f⟩:=tL D';obtain⟨ab,P',rfl⟩:=M.own.addr ae;refine⟨⟨by first|trivial|omega,by first|trivial|omega⟩,av.2 (aR.vy (M.own.gL kJ f) (aR.new λb1 h' S' l F=> ?_))⟩;have q':s.items[k]? =some x.abs:=by rw[<-a.abs,aP,f];rfl
  have p:=Q.it x.abs (aW q');have dl:x.v.b.length<=600:=p.2.2.2.1;have xo:1<=x.owner/\x.owner<=1099511627776:=⟨p.2.2.2.2.1,p.2.2.2.2.2.1⟩;have xt:x.gZ<=1099511627776:=p.2.2.2.2.2.2;have xn:x.num<s.next:=p.2.1;refine⟨_,aj l,_,aj l,_,_,_,aj l,_,aj l,?_⟩;refine gD.ft λz' J' r' s' f' y'=>⟨_,rfl,?_⟩;have m':Up h' r' z':=⟨f',y'⟩;have b0:=aE l;have O: ∀{S:fZ}{H:Heap},Up h' S H->¬S b1:=λu f=>by have:=u.ge b1 f;omega
  have C:=f'.get l id;refine⟨aj C,aj C,aj C,aj C,?_⟩;refine gY s' bO ae λU' K' b' i'=>⟨_,rfl,?_⟩;have z:=i'.fr.get C (O m');have n':=m'.step i';rw[m,dJ]at b';have l5:=(bF x.num).2;refine⟨aj z,aj z,aj z,?_⟩;refine gY b' ae ae λV' L' d' j'=>⟨_,rfl,?_⟩;have K:=j'.fr.get z (O n');have U:=n'.step j';have eo:gv x.owner=x.owner.toNat:=by unfold gv;omega
  rw[eo]at d';have l6:=(bF x.owner.toNat).2;refine⟨aj K,aj K,?_⟩;have G':=((M.Kk x (aW f)).row).frame (F.tt U.fr) bD;refine pR d' (by simp only[ak];omega) G' rfl ae (λy i E' hS=> ?_) λX' M' t' k'=>⟨_,rfl,?_⟩;have a1:=(M.Kk x (aW f)).own E' y i;have a2:=M.Sg y a1;have a3:=U.ge y hS;have a4:=F.1;omega;have v':=k'.fr.get K (O U);have I':=U.step k';have el:(dF x.v.b).length=(bU x.v.b.length).length+x.v.b.length:=by unfold dF;rw[ak]
  have l7:=(bF x.v.b.length).2;refine⟨aj v',?_⟩;refine fD x.gZ t' (by simp only[ak];omega) rfl ae λZ' O' u' H'=>⟨_,rfl,?_⟩;have o':=I'.step H';have rl:=Q6 (x:=x.abs) dl;refine gJ (bs:=Q5 x.abs) u' ae λb3 R' A' F' w' g'=>⟨_,_,_,rfl,?_⟩;have G:Fr No g A':=F.tt (o'.fr.tt w');have b9:=G.1;have zg:=A.1;have b5:=(F.tt o'.fr).1;have bl:=B.len;rw[bw,aM,bM]at bl;refine(B.on G).push ae F' (λy i=>⟨cv (g' y i),λho=>iI (B.lt ho) (g' y i)⟩) ae ?_;intro b2 Q' a0 a' x' T';refine⟨_,_,_,rfl,?_⟩;rw[eY];refine⟨⟨k+1,ae,ae,?_,?_⟩,ae⟩;rw[bt,q',bB];rw[eH]at a';exact a';obtain⟨_,_,_,_,_,_,_,B'⟩:=B;exact(A.tt G).fresh x' B'
 have Z: ¬(k:Int)<(v.length:Int):=ae
 simp only[Z,fC,aV,bQ];rw[bz ae]at B;exact hk g V T P B A

end nz
end
section
variable {h:Heap} {R:dH}
variable {s:Nat}
def EE{S:Bool}{d:Int}{e:Int}{f:bC}{g:bC}(p:aT h (.C #[.B S,.U d,.U e,.S f,.S g] 64) λb H=>aw.LD H (AA b 0) λx y z A C=>Cl 273 #[.agg #[.B x,.U y,.U z,.S A,.S C]] H λv a=> ∃j T,v=.T #[.Q j,.I T]/\ite (T !=0) (R (.T #[.Q none,.I T]) a) (Cl 274 #[.I 4800,.I 1600] a λV c=> ∃i t,V=.T #[.Q i,.I t]/\ite (t !=0) (R (.T #[.Q none,.I t]) c) (Cl 275 #[] c λD k=>Vp D λq=>Cl 276 #[] k λE l=>Vp E λr=>Cl 277 #[] l λF m=>Vp F λu=>Cl 278 #[] m λG n=>Vp G λw=>aT n (.C #[.Q q,.Q r,.Q u,.Q w,.Q i,.Q j,.U 0,.I 0] 160) λB o=>R (.T #[.P B 0,.I 0]) o))):Cl 198 #[.agg #[.B S,.U d,.U e,.S f,.S g]] h R:=aD [] p
def sA (H: ∃d,Cc h s 0 (.Q d)/\ite (!d.isNone) (∃t,Cc h s 1 (.Q t)/\ite (!t.isNone) (∃T,Cc h s 2 (.Q T)/\ite (!T.isNone) (∃a,Cc h s 3 (.Q a)/\ite (!a.isNone) (∃b,Cc h s 4 (.Q b)/\ite (!b.isNone) (∃c,Cc h s 5 (.Q c)/\R (.B (!c.isNone)) h) (R (.B false) h)) (R (.B false) h)) (R (.B false) h)) (R (.B false) h)) (R (.B false) h)):Cl 261 #[.P s 0] h R:=aD [] H
def sC{n:Int} (p:Cl 261 #[.P s 0] h λv H=> ∃k,v=.B k/\ite (!k) (R (.I 6) H) (ite (decide (n>1099511627776)) (R (.I 1) H) (∃T,Cc H s 6 (.U T)/\ite (decide (n<T)) (R (.I 18) H) (aI H (AA s 6) (.U n) λf=>Hp f s 2 λq=>Cl 303 #[.Q q,.U n] f λV g=>Vl V λM L K=>Hp g s 3 λr=>Cl 304 #[.Q r,.U n] g λG l=>Vl G λu i O=> ∃(I:iT)(m:iW),I 0 l/\∀t c,I t c->ite (decide (t<(i:Int))) (Bd t i/\aJ u λa=>aR.LD c (a.add (toNat t*4)) λw x A z y B=>aT c (.C #[.I 0,.I 0,.Z,.U 0] 434) λb o=>aR.ST o (AA b 0) w x A z y B λd=>Hp d s 4 λC=>Hi d b 1 λD=>Hl d b 2 λF j E=>Cl 305 #[.Q C,.I D,.I (j:Int)] d λJ e=>Vi J λP=>Cc e b 2 (.L F j E)/\(I (wrap .i64 (t+1)) e/\m (wrap .i64 (t+1)) e<m t c)) (R (.I 0) c))))):Cl 230 #[.P s 0,.U n] h R:=aD [(31,.loop [(38,sI)]),(42,λ_=>pN 10)] p
def sD(r:aT h (.C #[.I 0,.I 0,.Z,.U 0] 434) λb o=>Cl 261 #[.P s 0] o λv a=> ∃n,v=.B n/\ite (!n) (aR.ST a (AA b 0) 0 0 none 0 0 0 λc=>aR.LD c (AA b 0) λu x E C z G=>R (.T #[.agg #[.I u,.I x,.L E C z,.U G],.I 6]) c) (Hp a s 3 λK=>Cl 377 #[.Q K] a λa' p=> ∃T g k j i l t,a'=.T #[.agg #[.I T,.I g,.L k j i,.U l],.I t]/\aT p (.C #[.I 0,.I 0,.Z,.U 0] 434) λB q=>aR.ST q (AA B 0) T g k j i l λH=>ay (λd=>aR.LD d (AA B 0) λQ S X V U Z=>aR.ST d (AA b 0) Q S X V U Z λe=>aR.LD e (AA b 0) λw y F D A I=>R (.T #[.agg #[.I w,.I y,.L F D A,.U I],.I t]) e) (λJ=>ite (t==0) (Hp H s 4 λL=>Hi H B 1 λM=>Hl H B 2 λP m O=>Cl 305 #[.Q L,.I M,.I (m:Int)] H λb' f=>Vi b' λc'=>Cc f B 2 (.L P m O)/\J f) (J H)))):Cl 311 #[.P s 0] h R:=aD [(15,.join []),(16,λ_=>pN 10)] r
def sE (hv:Cl 261 #[.P s 0] h λi6 E=> ∃t',i6=.B t'/\ite (!t') (R (.Z) E) (Hp E s 5 λb6=>Cl 262 #[.Q b6] E λi7 a1=> ∃u' v' w' x' y' z' A',i7=.agg #[.B u',.U v',.U w',.S x',.S y',.U z',.U A']/\aT a1 (.C #[.B false,.U 0,.U 0,.S (⟨#[]⟩:bC),.S (⟨#[]⟩:bC),.U 0,.U 0] 272) λb a3=>aB.ST a3 (AA b 0) u' v' w' x' y' z' A' λl'=>aw.LD l' (AA b 0) λb7 b8 b9 c0 c1=>Cl 263 #[.agg #[.B b7,.U b8,.U b9,.S c0,.S c1]] l' λj8 i=> ∃P c2,j8=.T #[.S P,.I c2]/\ay (λ(s':bH) j=>ay (λ(w:bH) q'=>aJ s' λQ'=>cu.LD q' Q' λm7 h2 m6 m9 h3 m8 n1 h4 n0 n3 h5 n2=> ∃(I:iT)(m:iW),I 0 q'/\∀t H,I t H->ite (decide (t<4)) (Bd t 4/\(t=((0:Nat):Int)->Cl 219 #[.Q w,.I (h2:Int)] H λk9 r'=> ∃h6,k9=.Q h6/\(I (wrap .i64 (t+1)) r'/\m (wrap .i64 (t+1)) r'<m t H))/\(t=((1:Nat):Int)->Cl 219 #[.Q w,.I (h3:Int)] H λm0 f'=> ∃h7,m0=.Q h7/\(I (wrap .i64 (t+1)) f'/\m (wrap .i64 (t+1)) f'<m t H))/\(t=((2:Nat):Int)->Cl 219 #[.Q w,.I (h4:Int)] H λm1 g'=> ∃h8,m1=.Q h8/\(I (wrap .i64 (t+1)) g'/\m (wrap .i64 (t+1)) g'<m t H))/\(t=((3:Nat):Int)->Cl 219 #[.Q w,.I (h5:Int)] H λm2 h'=> ∃h9,m2=.Q h9/\(I (wrap .i64 (t+1)) h'/\m (wrap .i64 (t+1)) h'<m t H))/\True) (aJ s' λZ=>Cl 222 #[.Q w] H λm3 i'=>Vl m3 λI' H' G'=>(aT i' (.C #[.L I' H' G'] 69) λR' T'=>Cl 268 #[.L (bV (some Z) 4 0 1) (4 - 0) (4 - 0)] T' λm4 U'=>Vl m4 λi4 i2 i0=>ij (Builtin.append_ #[164,164] 164 #[.L (Sa R' 0) 1 1,.L i4 i2 i0]) U' λm5 V'=> ∃O' L' J',m5=.L O' L' J'/\R (.L O' L' J') V')/\(Cl 268 #[.L (bV (some Z) 4 0 1) (4 - 0) (4 - 0)] i' λi8 X'=>Vl i8 λi5 i3 i1=>aT X' (.C #[.L I' H' G'] 69) λS' Z'=>ij (Builtin.append_ #[164,164] 164 #[.L (Sa S' 0) 1 1,.L i5 i3 i1]) Z' λi9 a0=> ∃P' M' K',i9=.L P' M' K'/\R (.L P' M' K') a0)/\True)) (λX=>Hu j s 6 λf=>Hi j s 7 λe=>Hu j b 5 λd=>Hu j b 6 λa=>(Cl 217 #[] j λj0 k=>Vp j0 λf6=>Cc k b 6 (.U a)/\Cc k b 5 (.U d)/\Cc k s 7 (.I e)/\Cc k s 6 (.U f)/\ij (convert 9 69 (.S P)) k λj1 l=>Vl j1 λg2 g0 f8=>Cc l b 6 (.U a)/\Cc l b 5 (.U d)/\Cc l s 7 (.I e)/\Cc l s 6 (.U f)/\Cl 221 #[.Q f6,.L g2 g0 f8] l λj2 n=>Vp j2 λg4=>Cc n b 6 (.U a)/\Cc n b 5 (.U d)/\Cc n s 7 (.I e)/\Cc n s 6 (.U f)/\Cl 218 #[.Q g4,.U f] n λj3 v=>Vp j3 λg6=>Cc v b 6 (.U a)/\Cc v b 5 (.U d)/\Cc v s 7 (.I e)/\Cl 219 #[.Q g6,.I e] v λj4 F=>Vp j4 λg8=>Cc F b 6 (.U a)/\Cc F b 5 (.U d)/\Cl 218 #[.Q g8,.U d] F λj5 j'=>Vp j5 λh0=>Cc j' b 6 (.U a)/\Cl 218 #[.Q h0,.U a] j' λj6 a2=> ∃E',j6=.Q E'/\X E' a2)/\(ij (convert 9 69 (.S P)) j λj7 o=>Vl j7 λg3 g1 f9=>Cc o b 6 (.U a)/\Cc o b 5 (.U d)/\Cc o s 7 (.I e)/\Cc o s 6 (.U f)/\Cl 217 #[] o λj9 p=>Vp j9 λf7=>Cc p b 6 (.U a)/\Cc p b 5 (.U d)/\Cc p s 7 (.I e)/\Cc p s 6 (.U f)/\Cl 221 #[.Q f7,.L g3 g1 f9] p λk0 q=>Vp k0 λg5=>Cc q b 6 (.U a)/\Cc q b 5 (.U d)/\Cc q s 7 (.I e)/\Cc q s 6 (.U f)/\Cl 218 #[.Q g5,.U f] q λk1 x=>Vp k1 λg7=>Cc x b 6 (.U a)/\Cc x b 5 (.U d)/\Cc x s 7 (.I e)/\Cl 219 #[.Q g7,.I e] x λk2 G=>Vp k2 λg9=>Cc G b 6 (.U a)/\Cc G b 5 (.U d)/\Cl 218 #[.Q g9,.U d] G λk3 k'=>Vp k3 λh1=>Cc k' b 6 (.U a)/\Cl 218 #[.Q h1,.U a] k' λk4 a4=> ∃F',k4=.Q F'/\X F' a4)/\True)) (λJ=>Hp i s 0 λQ=>Hp i s 1 λg=>Hp i s 2 λc=>Hp i s 3 λT=>(Cl 264 #[.Q Q] i λk5 r=>Vl k5 λD C B=>Cc r s 3 (.Q T)/\Cc r s 2 (.Q c)/\Cc r s 1 (.Q g)/\(Cl 265 #[.Q g] r λk6 y=>Vl k6 λV U S=>Cc y s 3 (.Q T)/\Cc y s 2 (.Q c)/\(Cl 266 #[.Q c] y λk7 K=>Vl k7 λD' C' B'=>Cc K s 3 (.Q T)/\(Cl 267 #[.Q T] K λk8 a5=>Vl k8 λf1 e6 e1=>aT a5 (.C #[.Z,.Z,.Z,.Z] 386) λa' a6=>cu.ST a6 (AA a' 0) D C B V U S D' C' B' f1 e6 e1 λa7=>J (Sa a' 0) a7)/\(aT K (.C #[.Z,.Z,.Z,.Z] 386) λb' m'=>Cc m' s 3 (.Q T)/\Cl 267 #[.Q T] m' λl0 a8=>Vl l0 λf2 e7 e2=>cu.ST a8 (AA b' 0) D C B V U S D' C' B' f2 e7 e2 λa9=>J (Sa b' 0) a9)/\True)/\(aT y (.C #[.Z,.Z,.Z,.Z] 386) λc' L=>Cc L s 3 (.Q T)/\Cc L s 2 (.Q c)/\Cl 266 #[.Q c] L λl1 n'=>Vl l1 λd8 d5 d2=>Cc n' s 3 (.Q T)/\Cl 267 #[.Q T] n' λl2 b0=>Vl l2 λf3 e8 e3=>cu.ST b0 (AA c' 0) D C B V U S d8 d5 d2 f3 e8 e3 λb1=>J (Sa c' 0) b1)/\True)/\(aT r (.C #[.Z,.Z,.Z,.Z] 386) λd' z=>Cc z s 3 (.Q T)/\Cc z s 2 (.Q c)/\Cc z s 1 (.Q g)/\Cl 265 #[.Q g] z λl3 M=>Vl l3 λd0 c8 c6=>Cc M s 3 (.Q T)/\Cc M s 2 (.Q c)/\Cl 266 #[.Q c] M λl4 o'=>Vl l4 λd9 d6 d3=>Cc o' s 3 (.Q T)/\Cl 267 #[.Q T] o' λl5 b2=>Vl l5 λf4 e9 e4=>cu.ST b2 (AA d' 0) D C B d0 c8 c6 d9 d6 d3 f4 e9 e4 λb3=>J (Sa d' 0) b3)/\True)/\(aT i (.C #[.Z,.Z,.Z,.Z] 386) λe' u=>Cc u s 3 (.Q T)/\Cc u s 2 (.Q c)/\Cc u s 1 (.Q g)/\Cc u s 0 (.Q Q)/\Cl 264 #[.Q Q] u λl6 A=>Vl l6 λc5 c4 c3=>Cc A s 3 (.Q T)/\Cc A s 2 (.Q c)/\Cc A s 1 (.Q g)/\Cl 265 #[.Q g] A λl7 O=>Vl l7 λd1 c9 c7=>Cc O s 3 (.Q T)/\Cc O s 2 (.Q c)/\Cl 266 #[.Q c] O λl8 p'=>Vl l8 λe0 d7 d4=>Cc p' s 3 (.Q T)/\Cl 267 #[.Q T] p' λl9 b4=>Vl l9 λf5 f0 e5=>cu.ST b4 (AA e' 0) c5 c4 c3 d1 c9 c7 e0 d7 d4 f5 f0 e5 λb5=>J (Sa e' 0) b5)/\True))):Cl 193 #[.P s 0] h R:=aD [(15,.join [(6,sP)]),(15,λ_=> .pn (mL [0,1,2,3,5,6,7,8,10,11,12,13,15,16,17,18] (.alts (.fork 4 (.alts (.fork 9 (.alts (.fork 14 (.alts (.fork 19 (fE 3 20 .done) (.fork 21 (mL [19,20,22] .done) .iH))) (.fork 21 (mL [14,19,20,22] .done) .iH))) (.fork 21 (mL [9,14,19,20,22] .done) .iH))) (.fork 21 (mL [4,9,14,19,20,22] .done) .iH))))),(17,.join [(7,sP)]),(17,λ_=> .pn (mL [1,4,5,6,7,9,10,11,12,14,15,17,18] (.alts (.fork 0 (mL [2,3,8,13,16,19,20] .done) (.fork 2 (mL [0,3,8,13,16,19,20] .done) .iH))))),(22,.loop [(66,sI)]),(36,λ_=> .pn (mL [0,3,1] (.alts (.fork 2 (fE 3 4 .done) (.fork 4 (mL [2,5,6] .done) .iH)))))] hv
def EF{S:Bool}{d:Int}{f:Int}{g:bC}{i:bC}(k:aT h (.C #[.B S,.U d,.U f,.S g,.S i] 64) λb c=>ay (λ(T:Bool) H=>ite T (R (.T #[.Q none,.I 3]) H) (aw.LD H (AA b 0) λl m n o p=>aT H (.C #[.B l,.U m,.U n,.S o,.S p,.U 0,.U 0,.B true] 474) λB j=>R (.T #[.P B 0,.I 0]) j)) (λJ=>aw.LD c (AA b 0) λq r u w x=>Cl 84 #[.agg #[.B q,.U r,.U u,.S w,.S x]] c λv a=> ∃t,v=.B t/\ite (!t) (J true a) (aw.LD a (AA b 0) λy z A C D=> ∃(e:Bool),Lj 64 (.agg #[.B y,.U z,.U A,.S C,.S D]) (.agg #[.B false,.U 0,.U 0,.S (⟨#[]⟩:bC),.S (⟨#[]⟩:bC)]) e/\J e a))):Cl 273 #[.agg #[.B S,.U d,.U f,.S g,.S i]] h R:=aD [(4,.join [(11,sB)])] k
def sF{m:Nat}(e:aT h (.C #[.B false,.U 0,.U 0,.S (⟨#[]⟩:bC),.S (⟨#[]⟩:bC),.U 0,.U 0] 272) λb a=>ay (λ(T:Bool) H=>ite T (aB.ST H (AA b 0) false 0 0 (⟨#[]⟩:bC) (⟨#[]⟩:bC) 0 0 λc=>aB.LD c (AA b 0) λr g j l o q v=>R (.agg #[.B r,.U g,.U j,.S l,.S o,.U q,.U v]) c) (aB.LD H (AA m 0) λx y z A B C D=>aB.ST H (AA b 0) x y z A B C D λd=>aB.LD d (AA b 0) λf i k n p u w=>R (.agg #[.B f,.U i,.U k,.S n,.S p,.U u,.U w]) d)) (λJ=> ∃t,Cc a m 7 (.B t)/\J (!t) a)):Cl 262 #[.P m 0] h R:=aD [(4,.join [(11,sB)])] e
def jV{e:bH}{S x:Nat} (w: ∃(I:Int->iT)(m:Int->iW),I 0 0 h/\∀size t H,I size t H->ite (decide (t<(S:Int))) (ay (λ(o:Int) k=>(I o (wrap .i64 (t+1)) k/\m o (wrap .i64 (t+1)) k<m size t H)) (λJ=>Bd t S/\aJ e λa=>oM H (a.add (toNat t*1)) λG p F=>ay (λr=>J (wrap .i64 (size+(p:Int))) r) (λq=>ite (decide ((wrap .i64 (size+(p:Int)))<0)) (False) (q H)))) (Cl 341 #[.Z,.I size] H λv u=>Vl v λB z y=> ∃(i:bH->Nat->Nat->iT)(M:bH->Nat->Nat->iW),i B z y 0 u/\∀d c n T b,i d c n T b->ite (decide (T<(S:Int))) (Bd T S/\aJ e λA=>oM b (A.add (toNat T*1)) λE D C=>ij (Builtin.append_ #[164,164] 164 #[.L d c n,.L E D C]) b λV l=> ∃j g f,V=.L j g f/\(i j g f (wrap .i64 (T+1)) l/\M j g f (wrap .i64 (T+1)) l<M d c n T b)) (R (.L d c n) b))):Cl 268 #[.L e S x] h R:=aD [(8,.loop [(3,sI),(11,sI)]),(16,.join [(3,sI)]),(23,.join []),(33,.loop [(6,sS),(27,sI)])] w
def kM{b:bH}{a S:Nat}{n:Int} (e:ay (λH=>ay (λ(i:bH) (g f:Nat) c=>R (.L i g f) c) (λj=>ite (decide ((wrap .i64 (n - (wrap .i64 ((S:Int) - (a:Int)))))>0)) (((0:Int)<=(S:Int)/\(S:Int)<=(S:Int))/\ij (Builtin.append_ #[164,3] 164 #[.L (bV b S 0 1) ((toNat (S:Int)) - 0) (S - 0),.I (wrap .i64 (n - (wrap .i64 ((S:Int) - (a:Int)))))]) H λv d=>Vl v λT k t=>((0:Int)<=(a:Int)/\(a:Int)<=(t:Int))/\j (bV T t 0 1) ((toNat (a:Int)) - 0) (t - 0) d) (j b a S H))) (λJ=>ite (decide (n<0)) (False) (J h))):Cl 341 #[.L b a S,.I n] h R:=aD [(5,.join []),(13,.join [(0,sS)])] e

end
section
namespace pg
open nz (It)
open iZ (Ev dD jQ)
variable {h H:Heap} {R:dH} {s k:Nat} {X:Ft} {I:GY} {a:SS}
variable {n r:Nat} {x:It} {l:List It} {L:List Go.mj.E} {B:nz.BS}
def fJ(B:Bk h s I n r)(b:R (.B true) h):Cl 261 #[pt s] h R:=by refine sA ?_;repeat (first|exact b|refine⟨_,aj B,?_⟩|rfl)
def Pt.put(f:Pt h s X I a)(b:Bk H s I n r)(p:H.size=h.size)(o: ∀x,x≠s->H[x]? =h[x]?): ∃d,Pt H s d I { a with now:=n,rf:=r } /\cW X h d H:=by obtain⟨Z,⟨q,on⟩,t,z,go⟩:=f.use 6;obtain⟨d,g,S,_,_⟩:=go H Z { a with now:=n,rf:=r } ⟨b,on⟩ (cW.Gx (Fr.of_eq p λc j=>o c (λe=>j ((on c).1.2 e)))) (λi m=>Vz _ _ m);exact⟨d,g,S⟩
def Pt.Yj{n o:Int}(c:Pt h s X I a)(e:a.Q.Perm (x::l))(O:yY a.Q)(K:Yf x)(q:n=(x.d.length:Int))(t:o=x.owner)(j: ∀H b,Pt H s b I { a with Q:=l } ->cW X h b H->R (.I 0) H):Cl 305 #[pt I.p,.I o,.I n] h R:=by
 subst t;obtain⟨Z,⟨m,P,on⟩,v,z,go⟩:=c.use 4;refine WJ (P.perm e) (yY.perm O e) K q λH p f=> ?_;obtain⟨b,d,S,_,_⟩:=go H Z { a with Q:=l } ⟨m,p,on⟩ (cW.Gx (f.mono λy _ u=>(on y).1.2 u)) (λi g=>QY _ g);exact j H b d S
def Pt.perm(d:Pt h s X I a)(e:a.Q.Perm l):Pt h s X I { a with Q:=l } :=by have⟨y,c,r⟩:=d;refine⟨y,λi=> ?_,r⟩;by_cases b:i=4;subst b;have⟨m,P,on⟩:=c 4;exact⟨m,P.perm e,on⟩;rw[QY _ b];exact c i
def Kt{r:List It}(o:yY (l++r)): ∀j,yY (l.drop j++r)
 |0=>o
 |j+1=>by have h:=Kt o j;rcases Nat.lt_or_ge j l.length with q|q;rw[cK q]at h;exact yY.sub h;rw[List.drop_eq_nil_of_le q]at h;rw[List.drop_eq_nil_of_le ae];exact h
def Pt.okB(b:Pt h s X I a): ∃L,nz.okB a.B L:=by have⟨Z,L,B,o⟩:=b.box;exact⟨L,o⟩
def Pt.ord(b:Pt h s X I a):oF.Ord a.C:=by have⟨y,c,_⟩:=b;exact oF.Ct.ord (c 2)
def VC(o:nz.okB B L)(b:x∈B.items):Yf x:=by have:=o.it x b;exact⟨this.2.2.1,this.2.2.2.1,this.2.2.2.2.1,this.2.2.2.2.2.1⟩
def Good.small(G:Good a k)(O:oF.Ord a.C)(b:k<=40000):oF.Small a.C:=G.c.small O b
def OH(o:nz.okB B L){P:It->Bool}{d:List It}(i: ∀y∈d,y∈B.items)(g:(d.map It.kv).Perm ((B.items.filter P).map It.kv)):d.Perm (B.items.filter P):=by
 have m: ∀{l:List It},l.Sublist B.items->(l.map It.num).Nodup:=λp=>((o.inc.sublist (p.map It.num))).imp λh=>Nat.ne_of_lt h;have f:((d.map It.kv).map (λe=>e.1)).Nodup:=by refine(g.map _).nodup_iff.2 ?_;rw[fu];have:=m (dX (l:=B.items) (p:=P));unfold List.Nodup at this⊢;rw[ec]at this⊢;exact this.imp λh e=>h (by have e:(_:Int)=(_:Int):=e;exact Int.ofNat.inj e)
 have q:d.Nodup:=by rw[fu]at f;unfold List.Nodup at f⊢;rw[ec]at f;exact f.imp λh e=>h (by rw[e])
 have t:(B.items.filter P).Nodup:=by have:=m (dX (l:=B.items) (p:=P));unfold List.Nodup at this⊢;rw[ec]at this;exact this.imp λh e=>h (by rw[e])
 rw[List.perm_ext_iff_of_nodup q t];have j: ∀x∈B.items,∀y∈B.items,x.kv=y.kv->x=y:=λx b y c e=>nz.uniq o.inc b c (by have e:((x.num:Nat):Int)=((y.num:Nat):Int):=bY Prod.fst e;exact Int.ofNat.inj e);intro x;constructor;intro b;obtain⟨y,c,e⟩:=bR.1 (g.mem_iff.1 (bR.2 ⟨x,b,rfl⟩));rw[j x (i x b) y (bW.1 c).1 e.symm];exact c;intro b;obtain⟨y,c,e⟩:=bR.1 (g.mem_iff.2 (bR.2 ⟨x,b,rfl⟩));rw[j x (bW.1 b).1 y (i y c) e.symm];exact c
theorem LN(l:List It)(b:Nat):l.Perm (l.filter (λx=>decide ((x.gZ:Int)<=(b:Int)))++l.filter (λx=>decide ((b:Int)<(x.gZ:Int)))):=by
 have h:=(List.filter_append_perm (λx=>decide ((x.gZ)<=(b:Int))) l).symm;have e:(λx=> !decide ((x.gZ)<=(b:Int)))=λx:It=>decide ((b)<(x.gZ:Int)):=funext λx=>by grind
 rw[e]at h;exact h
theorem yE{n:Int}(b:Nat)(hn:n=(b:Int))(m:Pt h s X I a)(G:Good a k)(m':k<=30000)(f: ∀H Q,Pt H s Q I (Ks a b)->cW X h Q H->R (.I (yG a b)) H):Cl 230 #[pt s,.U n] h R:=by
 subst hn;have B:=m.cV;refine sC (fJ B ⟨_,rfl,?_⟩);rw[fe];unfold Ks at f;by_cases w:b>1099511627776;have e:yG a b=1:=ah w;rw[e,fe]at f;rw[iE];exact f h X m (cW.refl _ _);rw[af (λe=>w (cv (bj e)))];refine⟨_,aj B,?_⟩;by_cases z:b<a.now;have e:yG a b=18:=by unfold yG;rw[af w,ah z]
 rw[e,fe]at f;rw[iE];exact f h X m (cW.refl _ _);rw[af (λe=>z (cv (bj e)))];have e:yG a b=0:=by unfold yG;rw[af w,af z]
 rw[e,ah rfl]at f;refine aY B bO λz a1 a2 a3=> ?_;obtain⟨T,q,S⟩:=m.put (n:=b) (r:=a.rf) a1 a2 a3;have a':=m.ord;have sm:=G.small a' ae;obtain⟨Z,p,zm,zd,go⟩:=q.use 2;refine⟨_,aj q.cV,oF.yE p sm (by have:=G.c.L;show a.C.over<=_;omega) (oF.Good.held G.c) (b:Int) λV Z3 p3 c3 C3 s3 N3 g3=>⟨_,_,_,rfl,?_⟩⟩;obtain⟨X3,P,h',_,_⟩:=go V Z3 { a with now:=b,C:=oF.Ex a.C (b:Int) } C3 s3 (λi D=>Vx (σ:= { a with now:=b }) _ D);obtain⟨Z,p,zm,zd,go⟩:=P.use 3;obtain⟨L,okB⟩:=m.okB;refine⟨_,aj P.cV,nz.yE b rfl p (by have:=G.b;show a.B.next<=_;omega) λh4 Z4 p4 c4 c k' K s4 o4 d4 E e4 o' g' m4=>⟨_,_,_,rfl,?_⟩⟩;have yp:(c.map nz.IV.abs).Perm (a.B.items.filter (λx=>decide ((x.gZ:Int)<=(b:Int)))):=OH okB (λy d=>by obtain⟨j',p,rfl⟩:=bR.1 d;exact m4 j' p) (by rw[e4];exact g');have yl:c.length=(a.B.items.filter (λx=>decide ((x.gZ:Int)<=(b:Int)))).length:=by rw[<-yp.length_eq,aM]
 have eB:({ a.B with items:=a.B.items.filter (λx=>decide ((b:Int)<(x.gZ:Int))),over:=a.B.over+c.length } :nz.BS)=wB a.B b:=by unfold wB;rw[yl]
 rw[eB]at K;obtain⟨u,H4,i',l',d'⟩:=go h4 Z4 { a with now:=b,C:=oF.Ex a.C (b:Int),B:=wB a.B b } K s4 (λi D=>Vy (σ:= { a with now:=b,C:=oF.Ex a.C (b:Int) }) _ D);have st:=S.trans (h'.trans i');have c': ∀y,aN p4 y->¬(u.M y\/u.D y)/\V.size<=y:=λy d=>⟨λo=>(E y d).2 (d' y (E y d).1 o),(E y d).1⟩;have hq:(a.Q).Perm (c.map nz.IV.abs++(wB a.B b).items):=by rw[G.q];exact(LN _ b).trans (yp.symm.append_right _)
 have e':yY (c.map nz.IV.abs++(wB a.B b).items):=yY.perm G.ok hq;refine⟨λi g=> ∃(j:Nat)(v:Ft),i=(j:Int)/\j<=c.length/\Pt g s v I { a with now:=b,C:=oF.Ex a.C (b:Int),B:=wB a.B b,Q:=(c.map nz.IV.abs).drop j++(wB a.B b).items } /\cW u h4 v g/\Own g p4 c.length c4 4 (c.flatMap nz.jc),λi _=>c.length - i.toNat,
  ⟨0,u,rfl,bg _,H4.perm hq,cW.refl _ _,o4⟩,?_⟩
 rintro _ g ⟨j,v,rfl,hj,t,J,O⟩;have n':c.length<=16:=by rw[yl];exact cw (gi _ _) okB.le
 by_cases C:j<c.length;rw[iE];have d:c[j]? =some c[j]:=ai C;obtain⟨pb,po,rfl⟩:=O.addr ae;refine⟨ae,av.2 (aR.vy (by rw[aG];exact O.gL nz.kJ d) (aR.new λb' g1 eb A F=> ?_))⟩;have M:=t.on F;have ed:(c.map nz.IV.abs).drop j=c[j].abs::(c.map nz.IV.abs).drop (j+1):=by rw[cK (by rw[aM];exact C),List.getElem_map]
 have f':=Kt e' j;refine⟨_,aj M.cV,_,aj A,_,_,_,aj A,M.Yj (x:=c[j].abs) (l:=(c.map nz.IV.abs).drop (j+1)++(wB a.B b).items) (by simp_all) f' (VC okB (m4 _ (cx C))) rfl rfl λg2 T q S=>⟨_,rfl,?_,?_⟩⟩;have lb:=aE A;exact S.fr.cell (aj A) (λo=>cv (t.lt b' (.inl o)));rw[eY];have s2:=J.on F|>.trans S;refine⟨⟨j+1,T,ae,ae,q,s2,(O.frame F bD).frame S.fr (λy d o=> ?_)⟩,by grind⟩;rcases J.nT y o with U|U;exact(c' y d).1 (.inl U);have:=o4.dW d;omega;rw[af (λe=>C (cv (bj e)))];refine f g v ?_ (st.trans J);rw[List.drop_eq_nil_of_le (by rw[aM];omega)]at t;exact t

end pg
end
section
namespace pg
open iZ (Ev dD jQ)
variable {h H:Heap} {R:dH} {s k:Nat} {X:Ft} {I:GY}
def Ak(x:Ev):Prop:=dD x=true/\x≠Ev.zero
instance (x : Ev) : Decidable (Ak x) := by unfold Ak; infer_instance
def Ku(x:Ev)(j:Ak x->∀H b,Mk H b x 0 0->h.size<=b->Fr No h H->R (.T #[pt b,.I 0]) H)(K: ¬Ak x->jA h R (.T #[.Q none,.I 3])):Cl 273 #[jQ x] h R:=by
 refine EF (aw.box λb l E g F=>ay.of λJ e=>aw.ld g (iZ.fA x λd f=>⟨_,rfl,?_⟩));have i:=f.get g id;cases c:dD x with
 |false=>subst e;exact K (λm=>by rw[m.1]at c;cases c) d (F.tt f)
 |true=>refine aw.ld i ⟨_,iZ.Dx (y:=Ev.zero) rfl rfl,?_⟩;subst e;by_cases a:x=Ev.zero;rw[aq a];dsimp only;exact K (λm=>m.2 a) d (F.tt f);rw[aA a];dsimp only;refine aw.ld i (bn (j ⟨c,a⟩ _ _ aU (cw F.1 f.1) ((F.tt f).tt (Fr.push _ _))))
theorem ft(x:Ev)(k1:Ak x->∀H s X I,Pt H s X I (kL x)->Xt h X H->R (.T #[pt s,.I 0]) H)(k2: ¬Ak x->jA h R (.T #[.Q none,.I 3])):Cl 198 #[jQ x] h R:=by
 refine EE (aw.box λb' g eb hb l=>aw.ld hb (Ku x (λq f k M g2 F=>⟨_,_,rfl,?_⟩) (λq f F=>⟨_,_,rfl,?_⟩)))
 .rw[fe];refine wx.ft 4800 1600 (λ_ V p m P g3 c' Q=>⟨_,_,rfl,?_⟩) (λe=>absurd e bA);rw[fe];refine me.ft λZ t X0 E S u4=>⟨_,rfl,nB.ft λh5 r X1 G u=>⟨_,rfl,oF.ft λh6 c X2 J U=>⟨_,rfl,nz.ft λb o X3 K T u7=>⟨_,rfl,bn ?_⟩⟩⟩⟩;have n:Fr No b (b.push (.C #[.P t 0,.P r 0,.P c 0,.P o 0,.P p 0,.P k 0,.U 0,.I 0] 160)):=Fr.push _ _;have v:(b.push (.C #[.P t 0,.P r 0,.P c 0,.P o 0,.P p 0,.P k 0,.U 0,.I 0] 160))[b.size]? =_:=aU;have z8:(b.push (.C #[.P t 0,.P r 0,.P c 0,.P o 0,.P p 0,.P k 0,.U 0,.I 0] 160)).size=b.size+1:=bK _;generalize b.push (.C #[.P t 0,.P r 0,.P c 0,.P o 0,.P p 0,.P k 0,.U 0,.I 0] 160)=h8 at n v z8⊢;have D:=T.tt n;have C:=U.fr.tt D;have A:=u.fr.tt C;have z:=S.tt A;have w:=Q.tt z;have F8:=l.tt (F.tt w);have z1:=l.1;have z2:=F.1;have z3:=Q.1;have z4:=S.1;have z5:=u.fr.1;have z6:=U.fr.1;have z7:=T.1;have lp:=P.lt;have lk:=aE M;let d:Nat->Ft:=λi=>match i with
   |0=>X0|1=>X1|2=>X2|3=>X3
   |4=>⟨λy=>y=p\/y=m,λ_=>False⟩
   |5=>⟨λy=>y=k,λ_=>False⟩
   |6=>⟨λy=>y=b.size,λ_=>False⟩
   |_=>⟨λ_=>False,λ_=>False⟩
  let L:Nat->Nat:=λi=> [V.size,Z.size,h5.size,h6.size,f.size,g.size].getD i b.size
  let hi:Nat->Nat:=λi=> [Z.size,h5.size,h6.size,b.size,V.size,f.size].getD i h8.size
  have B: ∀i y,In (d i) y->L i<=y/\y<hi i:=λi y hy=>by rcases i with _|_|_|_|_|_|_|i;exact⟨u4 y hy,E.lt y hy⟩;exact⟨u.ge y hy,G.lt y hy⟩;exact⟨U.ge y hy,J.lt y hy⟩;exact⟨u7 y hy,K.lt y hy⟩;rcases hy with hy|hy;grind;exact hy.elim;rcases hy with hy|hy;have hy:y=k:=hy;exact⟨hy▸g2,hy▸lk⟩;exact hy.elim;rcases hy with hy|hy;grind;exact hy.elim;rcases hy with hy|hy<;>exact hy.elim
  refine k1 q h8 b.size ⟨λy=> ∃i,(d i).M y,λy=> ∃i,(d i).D y⟩ ⟨t,r,c,o,p,k⟩ ⟨d,λi=> ?_,λi j y a' hy hz=> ?_,λ_=>dY,λ_=>dY⟩ ⟨F8,λy hy=> ?_⟩;rcases i with _|_|_|_|_|_|_|i;exact E.frame A bD;exact G.on C;exact J.on D;exact nz.GX.on ⟨[],K,nz.okB.nil⟩ n;exact⟨m,P.frame z id id,λy=>⟨dY,id⟩⟩;exact⟨w.get M id,λy=>⟨dY,id⟩⟩;exact⟨v,λy=>⟨dY,id⟩⟩;exact λy hy=>hy.elim id id
  .have g:=B i y hy;have f:=B j y hz;have O: ∀i,¬In (d (i+7)) y:=λi hy=>hy.elim id id;rcases i with _|_|_|_|_|_|_|i<;>first|exact O i hy|(rcases j with _|_|_|_|_|_|_|j<;>first|exact O j hz|exact a' rfl|(simp only[L,hi,List.getD_cons_zero,List.getD_cons_succ,List.getD_nil]at g f;omega))
  have key: ∀i,In (d i) y->h.size<=y:=λi a=>by have g:=(B i y a).1;rcases i with _|_|_|_|_|_|_|i<;>(simp only[L,List.getD_cons_zero,List.getD_cons_succ,List.getD_nil]at g;omega)
  rcases hy with⟨i,a⟩|⟨i,a⟩;exact key i (.inl a);exact key i (.inr a)
 rw[iE];exact k2 q f (l.tt F)

end pg
end
section
variable {h:Heap} {R:dH}
variable {d l s a:Nat} {self:aw.S} {S:bH} {n:Int}
def fQ.ex{K:fQ.S->Prop}(x:fQ.S)(H:K x):fQ.EX K:=⟨_,_,_,_,H⟩
def ee.ex{K:ee.S->Prop}(x:ee.S)(H:K x):ee.EX K:=⟨_,_,_,_,_,H⟩
def FZ(i:aT h (.C self.arr 64) λb c=>aw.ck c (AA b 0) λj=>Cl 149 #[.P d 0,j.agg] c λv H=> ∃T t,v=.T #[.Q T,.I t]/\ite (t==4) (aw.ck H (AA b 0) λk=>Cl 150 #[.P d 0,k.agg] H λV g=> ∃e f,V=.T #[.Q e,.I f]/\R (.T #[.Q e,.I f]) g) (R (.T #[.Q T,.I t]) H)):Cl 85 #[.P d 0,self.agg] h R:=aD [] i
def EG(f: ∃(I:cM)(m:Heap->Nat),(I h)/\∀H,I H->Cl 108 #[.P l 0] H λv e=>Vi v λi=>Cl 158 #[.P l 0] e λV c=> ∃T,V=.I T/\ite (decide (i<T)) (Cl 159 #[.P l 0] c λj b=> ∃g t,j=.T #[.I g,.I t]/\ite (t !=0) (R (.I t) b) ((I b/\m b<m H))) (R (.I 0) c)):Cl 91 #[.P l 0] h R:=aD [(2,λ_=> .scope 0 [] ll (lq (sq (lq (cq (sq (lq (lq (cq ll lf))) lf) lf)) ll)))] f
def gG (c: ∃(I:iT)(m:iW),I 0 h/\∀t H,I t H->ite (decide (t<(s:Int))) (Bd t s/\aJ S λA=>cg.LD H (A.add (toNat t*6)) λe f g i o k j r q p=>Cl 87 #[.agg #[.I e,.U f,.B g,.B i,.L o k j,.L r q p]] H λv b=> ∃T,v=.B T/\ite T (R (.I t) b) ((I (wrap .i64 (t+1)) b/\m (wrap .i64 (t+1)) b<m t H))) (R (.I (-1)) H)):Cl 151 #[.L S s a,.func (.func 87) #[] #[]] h R:=aD [(6,.loop [(8,sI)])] c
def gr(b:Cl 151 #[.L S s a,.func (.func 87) #[] #[]] h λv H=> ∃t,v=.I t/\R (.B (decide (t≥0))) H):Cl 88 #[.L S s a,.func (.func 87) #[] #[]] h R:=aD [] b
def B1 (L:aT h (.C self.arr 64) λb C=>Cl 83 #[.P d 0] C λe' e=> ∃u,e'=.I u/\ite (u==0) (R (.T #[.Q none,.I 6]) e) (ay (λ(M:Bool) H=>ite M (R (.T #[.Q none,.I 3]) H) (ite (decide (n>1099511627776)) (R (.T #[.Q none,.I 1]) H) (aw.ck H (AA b 0) λQ=>Cl 85 #[.P d 0,Q.agg] H λf' o=> ∃t f,f'=.T #[.Q t,.I f]/\ite (f !=0) (R (.T #[.Q none,.I f]) o) (Cl 86 #[.Q t] o λg' p=>Vp g' λU=>aJ U λA=>fM p (A.add 6) λT=>Cl 86 #[.Q t] p λh' q=>Vp h' λV=>aJ V λz=>UX q z λX=>Cl 89 #[.Q X] q λi' I=>Vl i' λb' a' Z=>Cl 88 #[.L b' a' Z,.func (.func 87) #[] #[]] I λj' r=>Vb j' λc'=>ay (λK=>Cl 91 #[.Q t] K λk' k=> ∃i,k'=.I i/\ite (i !=0) (R (.T #[.Q none,.I i]) k) (Cl 92 #[.Q t,.U (if T>n then T else n)] k λl' D=> ∃x y,l'=.T #[.Q x,.I y]/\R (.T #[.Q x,.I y]) D)) (λj=>ite c' (Cl 90 #[.Q t,.agg #[.U (if T>n then T else n),.I 8,.U 0,.I 0,.U 0,.I 0,.B false,.U 0,.U 0,.S (⟨#[]⟩:bC),.S (⟨#[]⟩:bC),.B false,.U 0,.U 0,.S (⟨#[]⟩:bC),.S (⟨#[]⟩:bC),.I 0,.I 0,.I 0,.Z,.U 0,.U 0,.B false,.Z]] r λm' F=>ag.EX λw=> ∃d' g,m'=.T #[w.agg,.I d',.I g]/\ag.NW F λB G=>ag.cR G (AA B 0) w λm=>ite (g !=0) (R (.T #[.Q none,.I g]) m) (j m)) (j r)))))) (λJ=>aw.ck e (AA b 0) λO=>Cl 84 #[O.agg] e λn' c=> ∃v,n'=.B v/\ite (!v) (J true c) (aw.ck c (AA b 0) λP=> ∃(E:Bool),Lj 64 (P.agg) (aw.S.z.agg) E/\J E c)))):Cl 43 #[.P d 0,self.agg,.U n] h R:=aD [(11,.join [(19,sB)]),(40,.join [])] L
def B3{x:Nat}{f:bH}{K k:Nat}(p:aT h (.C self.arr 64) λb m=>Cl 107 #[.P x 0] m λv c=> ∃T,v=.Q T/\ite T.isNone (R (.T #[.Q none,.I 6]) c) (Cl 187 #[.P d 0,.L f K k] c λV H=> ∃t,V=.I t/\ite (t !=0) (R (.T #[.Q none,.I t]) H) (aw.ck H (AA b 0) λq=>Cl 128 #[.P x 0] H λr e=> ∃g,r=.U g/\Kp H e [(Sa b 0)]/\Cl 43 #[.P d 0,q.agg,.U g] e λu o=> ∃i j,u=.T #[.Q i,.I j]/\R (.T #[.Q i,.I j]) o))):Cl 119 #[.P x 0,.P d 0,.L f K k,self.agg] h R:=aD [(21,λ_=>pK 9)] p
def F0(c:aT h (.C #[.B true,.Z] 346) λb H=>R (.P b 0) H):Cl 160 #[] h R:=aD [] c
def B5 (i:Cl 86 #[.P l 0] h λv H=> ∃t,v=.Q t/\ite t.isNone (R (.T #[.Q none,.I 6]) H) (ay (λ(j:Bool) c=>ite j (R (.T #[.Q none,.I 1]) c) (aT c (.map #[] 0) λb e=>Cl 160 #[] e λV f=>Vp V λk=>aT f (.C #[.P l 0,.map (some b),.I 1,.Q k,.U n] 249) λB g=>R (.T #[.P B 0,.I 0]) g)) (λJ=>ite (decide (n>1099511627776)) (J true H) (aJ t λA=> ∃T,aQ H (A.add 6)=some (.U T)/\J (decide (n<T)) H)))):Cl 92 #[.P l 0,.U n] h R:=aD [(13,.join [(12,sB)])] i
def eZ(H: ∃t,Cc h d 1 (.map t)/\R (.B (!t.isNone)) h):Cl 162 #[.P d 0] h R:=aD [] H
def kN(H: ∃t,Cc h d 4 (.U t)/\R (.U t) h):Cl 128 #[.P d 0] h R:=aD [] H
def gx(H: ∃t,Cc h d 0 (.Q t)/\R (.Q t) h):Cl 107 #[.P d 0] h R:=aD [] H

end
section
open Go.Fields
namespace me
open gD
variable {h H:Heap} {t:Nat} {p:bH} {c i:Nat} {l:WK} {D:Nat→Prop} {L:List SC}
def vx.on(T:vx h t l D L)(f:Fr No h H):vx H t l D L:=by have⟨p,c,a,o,d⟩:=T.cV;refine⟨⟨p,c,f.get a id,o.frame f bD,d⟩,T.WN,λi s g=>(T.kQ i s g).frame f (λ_ _ _ _ _=>id) bD,?_,?_,T.ap⟩;intro c r e;exact cN (T.Yg c r e) f.1;intro c b;exact cN (T.Sg c b) f.1

end me
end
section
variable {h:Heap} {R:dH}
variable {t:Nat}
def pW (hv:Hl h t 1 λn' P b1=> ∃(I:bH->Nat->Nat->iT)(M:bH->Nat->Nat->iW),I none 0 0 0 h/\∀i O o T e,I i O o T e->ite (decide (T<(P:Int))) (Bd T P/\aJ n' λa=>UX e (a.add (toNat T*1)) λp=>aJ p λZ=>cg.LD e Z λo' p' q' r' u' t' s' x' w' v'=>aT e (.C #[.I 0,.U 0,.B false,.B false,.Z,.Z] 166) λb j'=>cg.ST j' (AA b 0) o' p' q' r' u' t' s' x' w' v' λk'=>aI k' (AA b 4) (.Z) λl'=>aI l' (AA b 5) (.Z) λJ=>aJ p λa'=>oM J (a'.add 4) λy' Q b2=> ∃(k:iT)(K:iW),k 0 J/\∀c f,k c f->ite (decide (c<(Q:Int))) (Bd c Q/\aJ y' λb'=>dL.LD f (b'.add (toNat c*2)) λz' C' B' A'=>aT f (.C #[.U 0,.Z] 240) λB m'=>dL.ST m' (AA B 0) z' C' B' A' λg=>Hl g b 4 λs r q=>Hu g B 0 λj=>Hl g B 1 λF' E' D'=>Cl 152 #[.L F' E' D'] g λa6 n=>Vl a6 λI' H' G'=>Cc n B 0 (.U j)/\Cc n b 4 (.L s r q)/\aT n (.C #[.U j,.L I' H' G'] 240) λe' m=>Cc m B 0 (.U j)/\Cc m b 4 (.L s r q)/\ij (Builtin.append_ #[163,163] 163 #[.L s r q,.L (Sa e' 0) 1 1]) m λa7 A=>Vl a7 λL' K' J'=>Cc A B 0 (.U j)/\aI A (AA b 4) (.L L' K' J') λC=>(k (wrap .i64 (c+1)) C/\K (wrap .i64 (c+1)) C<K c f)) (aJ p λc'=>oM f (c'.add 5) λM' S b3=> ∃(l:iT)(L:iW),l 0 f/\∀d H,l d H->ite (decide (d<(S:Int))) (Bd d S/\aJ M' λd'=>oM H (d'.add (toNat d*1)) λQ' P' O'=>Hl H b 5 λw v u=>Cl 152 #[.L Q' P' O'] H λa8 D=>Vl a8 λT' S' R'=>Cc D b 5 (.L w v u)/\aT D (.C #[.L T' S' R'] 69) λf' E=>Cc E b 5 (.L w v u)/\ij (Builtin.append_ #[164,164] 164 #[.L w v u,.L (Sa f' 0) 1 1]) E λa9 h'=> ∃X V U,a9=.L X V U/\aI h' (AA b 5) (.L X V U) λF=>(l (wrap .i64 (d+1)) F/\L (wrap .i64 (d+1)) F<L d H)) (cg.LD H (AA b 0) λU' V' X' Z' a2 a1 a0 a5 a4 a3=>aT H (.C #[.I U',.U V',.B X',.B Z',.L a2 a1 a0,.L a5 a4 a3] 166) λg' i'=>ij (Builtin.append_ #[169,169] 169 #[.L i O o,.L (Sa g' 0) 1 1]) i' λb0 G=> ∃z y x,b0=.L z y x/\(I z y x (wrap .i64 (T+1)) G/\M z y x (wrap .i64 (T+1)) G<M i O o T e)))) (R (.L i O o) e)):Cl 89 #[.P t 0] h R:=aD [(16,.loop [(3,sS),(18,sI)]),(35,.loop [(32,sI)]),(46,λ_=>pN 12),(52,.loop [(53,sI)]),(63,λ_=>pN 8)] hv
def oS (hv:Cl 89 #[.P t 0] h λc6 v'=>Vl c6 λF' k' e5=> ∃(I:bH->Nat->Nat->iT)(mu:bH->Nat->Nat->iW),I none 0 0 0 v'/\∀A y w i o,I A y w i o->ite (decide (i<(k':Int))) (Bd i k'/\aJ F' λp'=>cg.LD o (p'.add (toNat i*6)) λG' H' I' J' M' L' K' Q' P' O'=>aT o (.C #[.I 0,.U 0,.B false,.B false,.Z,.Z] 166) λb E'=>cg.ST E' (AA b 0) G' H' I' J' M' L' K' Q' P' O' λH=>Hi H b 0 λl'=>Hu H b 1 λS=>Hb H b 2 λD=>Hb H b 3 λs=>Hl H b 4 λd T c=>Hl H b 5 λf a e=>Cl 217 #[] H λc7 g=>Vp c7 λR'=>Cc g b 5 (.L f a e)/\Cc g b 4 (.L d T c)/\Cc g b 3 (.B s)/\Cc g b 2 (.B D)/\Cc g b 1 (.U S)/\Cc g b 0 (.I l')/\Cl 219 #[.Q R',.I l'] g λd7 n=>Vp d7 λS'=>Cc n b 5 (.L f a e)/\Cc n b 4 (.L d T c)/\Cc n b 3 (.B s)/\Cc n b 2 (.B D)/\Cc n b 1 (.U S)/\Cl 218 #[.Q S',.U S] n λd8 p=>Vp d8 λT'=>Cc p b 5 (.L f a e)/\Cc p b 4 (.L d T c)/\Cc p b 3 (.B s)/\Cc p b 2 (.B D)/\Cl 300 #[.Q T',.B D] p λd9 v=>Vp d9 λU'=>Cc v b 5 (.L f a e)/\Cc v b 4 (.L d T c)/\Cc v b 3 (.B s)/\Cl 300 #[.Q U',.B s] v λe0 Q=>Vp e0 λV'=>Cc Q b 5 (.L f a e)/\Cc Q b 4 (.L d T c)/\Cl 219 #[.Q V',.I (T:Int)] Q λe1 G=>Vp e1 λX'=>Cc G b 5 (.L f a e)/\Cc G b 4 (.L d T c)/\Cl 219 #[.Q X',.I (a:Int)] G λe2 J=>Vp e2 λZ'=>Cc J b 5 (.L f a e)/\Cc J b 4 (.L d T c)/\Cl 222 #[.Q Z'] J λe3 K=>Vl e3 λa2 a1 a0=>Cc K b 5 (.L f a e)/\Cc K b 4 (.L d T c)/\aT K (.C #[.L a2 a1 a0] 69) λs' L=>Cc L b 5 (.L f a e)/\Cc L b 4 (.L d T c)/\ij (Builtin.append_ #[164,164] 164 #[.L A y w,.L (Sa s' 0) 1 1]) L λe4 u=>Vl e4 λa5 a4 a3=>Cc u b 5 (.L f a e)/\Cc u b 4 (.L d T c)/\Hl u b 4 λa6 m' e6=> ∃(E:bH->Nat->Nat->iT)(i':bH->Nat->Nat->iW),E a5 a4 a3 0 u/\∀C z x j l,E C z x j l->ite (decide (j<(m':Int))) (Bd j m'/\aJ a6 λq'=>dL.LD l (q'.add (toNat j*2)) λa7 b0 a9 a8=>aT l (.C #[.U 0,.Z] 240) λB w'=>dL.ST w' (AA B 0) a7 b0 a9 a8 λM=>Hu M B 0 λn'=>Hl M B 1 λX V U=>Cl 217 #[] M λc8 P=>Vp c8 λb1=>Cc P B 1 (.L X V U)/\Cc P B 0 (.U n')/\Cl 218 #[.Q b1,.U n'] P λc9 f'=>Vp c9 λb2=>Cc f' B 1 (.L X V U)/\Cl 221 #[.Q b2,.L X V U] f' λd0 x'=>Vp d0 λb3=>Cl 222 #[.Q b3] x' λd1 y'=>Vl d1 λb6 b5 b4=>aT y' (.C #[.L b6 b5 b4] 69) λt' z'=>ij (Builtin.append_ #[164,164] 164 #[.L C z x,.L (Sa t' 0) 1 1]) z' λd2 g'=> ∃b' a' Z,d2=.L b' a' Z/\(E b' a' Z (wrap .i64 (j+1)) g'/\i' b' a' Z (wrap .i64 (j+1)) g'<i' C z x j l)) (Hl l b 5 λb7 o' e7=> ∃(F:bH->Nat->Nat->iT)(j':bH->Nat->Nat->iW),F C z x 0 l/\∀r q O k m,F r q O k m->ite (decide (k<(o':Int))) (Bd k o'/\aJ b7 λr'=>oM m (r'.add (toNat k*1)) λc0 b9 b8=>Cl 217 #[] m λd3 A'=>Vp d3 λc1=>Cl 221 #[.Q c1,.L c0 b9 b8] A' λd4 B'=>Vp d4 λc2=>Cl 222 #[.Q c2] B' λd5 C'=>Vl d5 λc5 c4 c3=>aT C' (.C #[.L c5 c4 c3] 69) λu' D'=>ij (Builtin.append_ #[164,164] 164 #[.L r q O,.L (Sa u' 0) 1 1]) D' λd6 h'=> ∃e' d' c',d6=.L e' d' c'/\(F e' d' c' (wrap .i64 (k+1)) h'/\j' e' d' c' (wrap .i64 (k+1)) h'<j' r q O k m)) ((I r q O (wrap .i64 (i+1)) m/\mu r q O (wrap .i64 (i+1)) m<mu A y w i o)))) (R (.L A y w) o)):Cl 264 #[.P t 0] h R:=aD [(8,.loop [(3,sS),(13,sI)]),(20,λ_=> .pn (mL [0,2,3,5,6,8,9,11,12,14,15,16,18,19,20,1,4,7,10,13,17,21,22,23,24,25] .done)),(25,.loop [(3,sS),(45,sI)]),(36,λ_=> .pn (mL [0,2,3,5,6,1,4,7,8,9,10,11] .done)),(41,.loop [(3,sS),(64,sI)])] hv

end
section
open Go.Fields
namespace me
open gD
variable {h H d:Heap} {t:Nat} {X:Ft} {R:dH} {p:bH} {c i:Nat} {l:WK} {D:Nat→Prop} {L:List SC} {A:List me}
variable {s:SC} {g:Heap} {b:Nat} {E:Nat->Prop} {K:Heap->Prop}
abbrev wQ(s:SC):List Value:= [.int .i64 (s.num:Int),.int .u64 (s.token:Int),.bool s.up,.bool s.watch,.slice s.kp s.kept.length s.kc,.slice s.np s.notes.length s.nc]
def yc(s:SC):(wQ s).length=6:=rfl
def tS:jL Tryz.prog 169 166 6 72 (.agg #[.I 0,.U 0,.B false,.B false,.Z,.Z]):=⟨zzkr,zzkr,rfl⟩
def Zh:Tryz.prog.underlying 169=some (.slice 166):=zzkr
structure Ga (h:Heap) (D:fZ) (s:SC):Prop where
 k:Row h s.kp (s.kept.flatMap AV.enc)
 kD:s.kept≠ []->∀y,aN s.kp y->D y
 kd: ∀a∈s.kept,a.v.ok h D
 n:Row h s.np (s.notes.flatMap kR)
 nD:s.notes≠ []->∀y,aN s.np y->D y
 nd: ∀n∈s.notes,n.ok h D
def Ga.frame{Q:fZ}(j:Ga h D s)(f:Fr Q h H)(k: ∀y,D y->¬Q y):Ga H D s:=by refine⟨?_,j.kD,λa n=>(j.kd a n).frame f k,?_,j.nD,λa n=>(j.nd a n).frame f k⟩;by_cases e:s.kept= [];rw[e];exact .inl rfl;exact j.k.frame f (λa m=>k _ (j.kD e _ ⟨a,m,rfl⟩));by_cases e:s.notes= [];rw[e];exact .inl rfl;exact j.n.frame f (λa m=>k _ (j.nD e _ ⟨a,m,rfl⟩))
def Ga.mono{D':fZ}(f:Ga h D s)(j: ∀y,D y->D' y):Ga h D' s:=
 ⟨f.k,λe y m=>j y (f.kD e y m),λa k=>(f.kd a k).mono j,f.n,λe y m=>j y (f.nD e y m),λa k=>(f.nd a k).mono j⟩
def SL(d h:Heap)(p:bH)(e c:Nat)(A:List me):Prop:=
 ∃(a:List SC)(D:fZ),e=a.length/\Own h p e c 6 (a.flatMap wQ)/\a.map SC.abs=A/\(∀x∈a,Ga h D x)/\(∀y,D y->d.size<=y/\y<h.size/\¬aN p y)/\∀y,aN p y->d.size<=y
def SL.len{a:Nat}(e:SL d h p a c A):a=A.length:=by have⟨x,D,f,_,j,_⟩:=e;rw[f,<-j,aM]
structure Cp (g h:Heap) (b:Nat) (s:SC) (E:fZ):Prop where
 fr:Fr No g h
 cV:cg.at h b (s.num:Int) (s.token:Int) s.up s.watch s.kp s.kept.length s.kc s.np s.notes.length s.nc
 gb:g.size<=b
 ko:Own h s.kp s.kept.length s.kc 2 (s.kept.flatMap AV.enc)
 kg: ∀y,aN s.kp y->g.size<=y/\y≠b/\¬E y
 no:Own h s.np s.notes.length s.nc 1 (s.notes.flatMap kR)
 ng: ∀y,aN s.np y->g.size<=y/\y≠b/\¬E y/\¬aN s.kp y
 kd: ∀a∈s.kept,a.v.ok h E
 nd: ∀n∈s.notes,n.ok h E
 eg: ∀y,E y->g.size<=y/\y<h.size/\y≠b
def Cp.answer{a:AV}(C:Cp g h b s E)(hr:Row h a.v.p (bc a.v.b))(P':a.v.b.length<=1000)(O':s.kept.length<=1000)(hk: ∀H s' E',Cp g H b s' E'->s'.abs= { s.abs with kept:=s.abs.kept++ [a.abs] } ->K H):
  aT h (.C #[.U 0,.Z] 240) λm B'=>
     aI B' (AA m 0) (.U (a.id:Int)) λC'=>
     aI C' (AA m 1) (.L a.v.p a.v.b.length a.v.c) λw=>
     ∃(M:bH)(J I:Nat),aQ w (AA b 4)=some (.L M J I)/\
     ∃(T:Int),aQ w (AA m 0)=some (.U T)/\
     ∃(m':bH)(l' k':Nat),aQ w (AA m 1)=some (.L m' l' k')/\
     Cl 152 #[.L m' l' k'] w λu' S=>
     ∃(p':bH)(o' n':Nat),u'=.L p' o' n'/\
     aQ S (AA m 0)=some (.U T)/\
     aQ S (AA b 4)=some (.L M J I)/\
     aT S (.C #[.U T,.L p' o' n'] 240) λw' U=>
     aQ U (AA m 0)=some (.U T)/\
     aQ U (AA b 4)=some (.L M J I)/\
     bu Tryz.prog (Builtin.append_ #[163,163] 163 #[.L M J I,.L (Sa w' 0) 1 1]) U λK' f'=>
     ∃(t':bH)(r' q':Nat),K'=.L t' r' q'/\
     aQ f' (AA m 0)=some (.U T)/\
     aI f' (AA b 4) (.L t' r' q') λD'=>K D':=by
 refine dL.new λb1 M' L' z r=> ?_;have V:=r.get C.cV id;have zb:b<h.size:=aE C.cV;refine⟨_,_,_,aj V,_,aj z,_,_,_,aj z,jC (hr.frame r bD) rfl ae λP f j i' u x'=>⟨_,_,_,rfl,aj (u.get z id),aj (u.get V id),bn ?_⟩⟩;have Q:Fr No j (j.push (.C #[.U (a.id:Int),.L P a.v.b.length f] 240)):=Fr.push _ _;have j':Row (j.push (.C #[.U (a.id:Int),.L P a.v.b.length f] 240)) (Sa j.size 0) (AV.enc ⟨a.id,⟨P,f,a.v.b⟩⟩):=gW (cs:=AV.enc ⟨a.id,⟨P,f,a.v.b⟩⟩);have J':(j.push (.C #[.U (a.id:Int),.L P a.v.b.length f] 240)).size=j.size+1:=bK _;generalize j.push (.C #[.U (a.id:Int),.L P a.v.b.length f] 240)=z' at Q j' J'⊢;have O:=u.tt Q;have e':=r.tt O;have g':=O.get V id;have c':=O.get z id;refine⟨aj c',aj g',?_⟩;have S':=r.1;have T':=u.1;have zg:=C.fr.1;have h': ∀y,aN s.kp y->y≠b:=λy hy=>(C.kg y hy).2.1;have Z: ∀y,aN s.kp y->y<h.size:=λy hy=>C.ko.dW hy;refine du tA uA (C.ko.frame e' bD) j' rfl (λu' hv=>by simp at hv;rcases hv with rfl|rfl<;>rfl) ae ae ?_;intro b' d' A' H' _ F y';have v':=F.get c' (λhx=>cv (Z _ hx));refine⟨_,_,_,rfl,aj v',?_⟩;have F':=F.get g' (λhx=>h' _ hx rfl);refine aY F' bO λn q1 q2 q3=> ?_;have v:Fr (λx=>x=b) A' n:=Fr.of_eq q2 q3;have q:Fr (λx=>x=b\/aN s.kp x) h n:=(e'.mono (λ_ _=>False.elim)).tt ((F.mono (λ_ _ hx=> .inr hx)).tt (v.mono (λ_ _ hx=> .inl hx)));have Q':=F.1;have R':=v.1;have a': ∀y,aN b' y->aN s.kp y\/z'.size<=y:=y';have B: ∀y,aN P y->h.size<=y/\y<j.size:=λy hy=>⟨cv (x' y hy),i'.dW hy⟩;have G':Own n P a.v.b.length f 1 (bc a.v.b):=((i'.frame Q bD).frame F (λy hy hx=>iI (B y hy) (Z y hx))).frame v (λy hy e=>cv (B y hy));have eQ: ∀y,E y->¬(y=b\/aN s.kp y):=λy hy hx=>hx.elim (C.eg y hy).2.2 (λhx=>(C.kg y hx).2.2 hy);have I':=H'.frame v (λy hy e=>(a' y hy).elim (λhx=>h' y hx e) (λhx=>ae));refine hk n { s with kept:=s.kept++ [⟨a.id,⟨P,f,a.v.b⟩⟩],kp:=b',kc:=d' } (λy=>E y\/aN P y) ⟨?_,?_,C.gb,?_,?_,?_,?_,?_,?_,?_⟩ ?_;exact C.fr.step q (λy hy hx=>hx.elim (λe=>cv C.gb) (λhx=>cv ((C.kg y hx).1)));show n[b]? =_;rw[q1];dsimp only;rw[ak];rfl;show Own n b' (s.kept++ [_]).length d' 2 ((s.kept++ [_]).flatMap AV.enc);rw[ak,cC];simpa using I';intro y hy;rcases a' y hy with hx|hx;exact⟨(C.kg y hx).1,(C.kg y hx).2.1,λo=>o.elim (C.kg y hx).2.2 (λk=>iI (B y k) (Z y hx))⟩;exact⟨ae,ae,λo=>o.elim (λk=>cv ((C.eg y k).2.1)) (λk=>cv (B y k))⟩;exact C.no.frame q (λy hy hx=>hx.elim (C.ng y hy).2.1 (C.ng y hy).2.2.2);intro y hy;have G:=C.ng y hy;have ly:y<h.size:=C.no.dW hy;exact⟨G.1,G.2.1,λo=>o.elim G.2.2.1 (λk=>cv (B y k)),λhx=>(a' y hx).elim G.2.2.2 (λk=>ae)⟩;intro x hx;rcases cG.1 hx with hx|hx;exact((C.kd x hx).frame q eQ).mono (λy=> .inl);simp at hx;subst hx;exact BV.kZ G' (λy=> .inr);intro x hx;exact((C.nd x hx).frame q eQ).mono (λy=> .inl);rintro y (hy|hy);exact⟨(C.eg y hy).1,cv ((C.eg y hy).2.1),(C.eg y hy).2.2⟩;exact⟨cv (B y hy),cv (B y hy),cv (B y hy)⟩;unfold SC.abs;dsimp only;rw[bB];rfl
def Cp.note{n:BV}(C:Cp g h b s E)(hr:Row h n.p (bc n.b))(z':n.b.length<=1000)(y':s.notes.length<=1000)(hk: ∀H s' E',Cp g H b s' E'->s'.abs= { s.abs with notes:=s.abs.notes++ [n.b] } ->K H):
  ∃(u:bH)(r T:Nat),aQ h (AA b 5)=some (.L u r T)/\
       Cl 152 #[.L n.p n.b.length n.c] h λw' O=>
       ∃(f':bH)(e' d':Nat),w'=.L f' e' d'/\
       aQ O (AA b 5)=some (.L u r T)/\
       aT O (.C #[.L f' e' d'] 69) λj' Q=>
       aQ Q (AA b 5)=some (.L u r T)/\
       bu Tryz.prog (Builtin.append_ #[164,164] 164 #[.L u r T,.L (Sa j' 0) 1 1]) Q λx' o'=>
       ∃(i':bH)(h' g':Nat),x'=.L i' h' g'/\
       aI o' (AA b 5) (.L i' h' g') λp'=>K p':=by
 have zb:b<h.size:=aE C.cV;refine⟨_,_,_,aj C.cV,jC hr rfl ae λP f j b' w k'=>⟨_,_,_,rfl,aj (w.get C.cV id),bn ?_⟩⟩;have z:Fr No j (j.push (.C #[.L P n.b.length f] 69)):=Fr.push _ _;have c':Row (j.push (.C #[.L P n.b.length f] 69)) (Sa j.size 0) (kR ⟨P,f,n.b⟩):=gW (cs:=kR ⟨P,f,n.b⟩);have v':(j.push (.C #[.L P n.b.length f] 69)).size=j.size+1:=bK _;generalize j.push (.C #[.L P n.b.length f] 69)=m' at z c' v'⊢;have v:=w.tt z;have U:=v.get C.cV id;refine⟨aj U,?_⟩;have D':=w.1;have zg:=C.fr.1;have a': ∀y,aN s.np y->y≠b:=λy hy=>(C.ng y hy).2.1;have V: ∀y,aN s.np y->y<h.size:=λy hy=>C.no.dW hy;refine du tN uN (C.no.frame v bD) c' rfl (λA' S=>by simp at S;subst S;rfl) ae ae ?_;intro I J n' t' _ o l';refine⟨_,_,_,rfl,?_⟩;have q':=o.get U (λhx=>a' _ hx rfl);refine aY q' bO λk q1 q2 q3=> ?_;have q:Fr (λx=>x=b) n' k:=Fr.of_eq q2 q3;have F:Fr (λx=>x=b\/aN s.np x) h k:=(v.mono (λ_ _=>False.elim)).tt ((o.mono (λ_ _ hx=> .inr hx)).tt (q.mono (λ_ _ hx=> .inl hx)));have B':=o.1;have C':=q.1;have Z: ∀y,aN I y->aN s.np y\/m'.size<=y:=l';have B: ∀y,aN P y->h.size<=y/\y<j.size:=λy hy=>⟨k' y hy,b'.dW hy⟩;have r':Own k P n.b.length f 1 (bc n.b):=((b'.frame z bD).frame o (λy hy hx=>iI (B y hy) (V y hx))).frame q (λy hy e=>cv (B y hy));have M: ∀y,E y->¬(y=b\/aN s.np y):=λy hy hx=>hx.elim (C.eg y hy).2.2 (λhx=>(C.ng y hx).2.2.1 hy);have u':=t'.frame q (λy hy e=>(Z y hy).elim (λhx=>a' y hx e) (λhx=>ae));refine hk k { s with notes:=s.notes++ [⟨P,f,n.b⟩],np:=I,nc:=J } (λy=>E y\/aN P y) ⟨?_,?_,C.gb,?_,?_,?_,?_,?_,?_,?_⟩ ?_;exact C.fr.step F (λy hy hx=>hx.elim (λe=>cv C.gb) (λhx=>cv ((C.ng y hx).1)));show k[b]? =_;rw[q1];dsimp only;rw[ak];rfl;exact C.ko.frame F (λy hy hx=>hx.elim (C.kg y hy).2.1 (λa=>(C.ng y a).2.2.2 hy));intro y hy;have G:=C.kg y hy;have ly:y<h.size:=C.ko.dW hy;exact⟨G.1,G.2.1,λm=>m.elim G.2.2 (λa=>cv (B y a))⟩;show Own k I (s.notes++ [_]).length J 1 ((s.notes++ [_]).flatMap kR);rw[ak,cC];simpa using u';intro y hy;rcases Z y hy with hx|hx;exact⟨(C.ng y hx).1,(C.ng y hx).2.1,λm=>m.elim (C.ng y hx).2.2.1 (λa=>iI (B y a) (V y hx)),(C.ng y hx).2.2.2⟩;exact⟨ae,ae,λm=>m.elim (λa=>cv ((C.eg y a).2.1)) (λa=>cv (B y a)),λa=>cv (C.ko.dW a)⟩;intro x hx;exact((C.kd x hx).frame F M).mono (λy=> .inl);intro x hx;rcases cG.1 hx with hx|hx;exact((C.nd x hx).frame F M).mono (λy=> .inl);simp at hx;subst hx;exact BV.kZ r' (λy=> .inr);rintro y (hy|hy);exact⟨(C.eg y hy).1,cv ((C.eg y hy).2.1),(C.eg y hy).2.2⟩;exact⟨cv (B y hy),cv (B y hy),cv (B y hy)⟩;unfold SC.abs;dsimp only;rw[bB];rfl
theorem EC(q':Has h t X A)(ok:Pn A)(hk: ∀H p' l' c',SL h H p' l' c' A->Fr No h H->R (.L p' l' c') H):Cl 89 #[.P t 0] h R:=by
 obtain⟨_,l,L,TB,rfl,_,hS⟩:=q';have hl:=ok.le;rw[aM]at hl;obtain⟨tp,tc,j',C',_⟩:=TB.cV;refine pW ⟨_,_,_,aj j',?_⟩;refine⟨λB U T i h1=> ∃k:Nat,i=(k:Int)/\k<=L.length/\SL h h1 B U T ((L.map SC.abs).take k)/\Fr No h h1,λ_ _ _ i _=>L.length - i.toNat,⟨0,rfl,ae,⟨[],λ_=>False,rfl,.nil rfl rfl rfl rfl,rfl,(λx hx=>by cases hx),(λy hy=>hy.elim),λy ⟨a,e,_⟩=>by cases e⟩,Fr.refl _ _⟩,?_⟩;rintro B U T _ g ⟨k,rfl,H',O,F⟩;have r':=TB.on F;have I':=F.get j' id;have o':=C'.frame F bD;have A':=O.len;rw[bM,aM]at A';by_cases v':k<L.length
 .rw[iE,aG];have⟨s,z⟩:=tL v';have r:=r'.kQ k s z;have Cy:=ok.at_ k _ (Vv z);have kl:s.kept.length<=6:=by have:=Cy.kl;rwa[show s.abs.kept.length=s.kept.length from aM _]at this
  have nl:s.notes.length<=6:=by have:=Cy.nl;rwa[show s.abs.notes.length=s.notes.length from aM _]at this
  have kb: ∀a∈s.kept,a.v.b.length<=1000:=λa f=>(Cy.kd a.abs (cm f)).2;have nb: ∀a∈s.notes,a.b.length<=1000:=λa f=>by have:=(Cy.nd a.b (cm f)).2;omega
  obtain⟨ab,D',rfl⟩:=o'.addr ae;refine⟨⟨by first|trivial|omega,by first|trivial|omega⟩,av.2 ⟨some (AA s.b 0),?_,av.2 ?_⟩⟩;rw[bJ];exact o'.cell (by rw[aP,z];rfl);refine cg.ld r.cV (cg.new λb h8 eb g' f8=> ?_);refine aY g' bO λh9 a1 a2 a3=>aY a1 bO λe' b1 b2 b3=>av.2 ?_;have P:Fr No g e':=f8.step ((Fr.of_eq (S:=λx=>x=b) a2 a3).tt (Fr.of_eq b2 b3)) (λy hy e=>ae);have b':=r.frame P (λ_ _ _ _ _=>id) bD;refine⟨_,_,_,aj b'.cV,?_⟩;have a':Cp g e' b ⟨b,s.num,s.token,s.up,s.watch, [],none,0, [],none,0⟩ (λ_=>False):=
   ⟨P,b1,ae,.nil rfl rfl rfl rfl,(λy ⟨a,e,_⟩=>by cases e),.nil rfl rfl rfl rfl,(λy ⟨a,e,_⟩=>by cases e),(λa f=>by cases f),(λa f=>by cases f),λy hy=>hy.elim⟩
  refine⟨λi H=> ∃(j:Nat)(S:SC)(E:fZ),i=(j:Int)/\j<=s.kept.length/\Cp g H b S E/\S.abs=⟨s.num,s.token,s.up,s.watch,s.abs.kept.take j, []⟩,λi _=>s.kept.length - i.toNat,⟨0,_,_,rfl,ae,a',rfl⟩,?_⟩;clear a' b' P b1 b2 b3 a1 a2 a3 g' f8;rintro _ F' ⟨j,S,E,rfl,hj,C,n⟩;have u:=r.frame C.fr (λ_ _ _ _ _=>id) bD;by_cases w:j<s.kept.length
  .rw[iE,aG];have⟨a,f⟩:=tL w;have V:=u.WL;obtain⟨J',K',h'⟩:=V.addr ae;rw[h']at V;refine⟨⟨by first|trivial|omega,by first|trivial|omega⟩,?_⟩;rw[h'];refine av.2 (dL.vy (V.gL Eo f) ?_);have B':S.kept.length=j:=by
    have:=bY (λx=>x.kept.length) n;have M:S.abs.kept.length=S.kept.length:=aM _;dsimp only at this;rw[M,bM]at this;have e2:s.abs.kept.length=s.kept.length:=aM _;omega
   refine C.answer (u.kd a (aW f)).row (kb a (aW f)) ae λs' Z J I Q=> ?_;rw[eY];refine⟨⟨j+1,Z,J,ae,ae,I,?_⟩,?_⟩;rw[Q,n];dsimp only;congr 1;rw[bt,show s.abs.kept[j]? =some a.abs by show(s.kept.map AV.abs)[j]? =_;rw[aP,f];rfl];rfl;show s.kept.length - Int.toNat ((j:Int)+1)<s.kept.length - Int.toNat (j:Int);omega
  .have q2: ¬(j:Int)<(s.kept.length:Int):=ae
   simp only[q2,fC,aV,bQ];refine av.2 ⟨_,_,_,aj u.cV,?_⟩;have f':S.abs=⟨s.num,s.token,s.up,s.watch,s.abs.kept,s.abs.notes.take 0⟩:=by rw[n,bz (by have:s.abs.kept.length=s.kept.length:=aM _;omega)];rfl
   refine⟨λi H=> ∃(j:Nat)(S:SC)(E:fZ),i=(j:Int)/\j<=s.notes.length/\Cp g H b S E/\S.abs=⟨s.num,s.token,s.up,s.watch,s.abs.kept,s.abs.notes.take j⟩,λi _=>s.notes.length - i.toNat,⟨0,S,E,rfl,ae,C,f'⟩,?_⟩;clear C u n f' hj w q2;rintro _ t' ⟨j,S,E,rfl,hj,C,n⟩;have d':=r.frame C.fr (λ_ _ _ _ _=>id) bD;by_cases w:j<s.notes.length
   .rw[iE,aG];have⟨a,f⟩:=tL w;have q:=d'.WM;obtain⟨L',M',i'⟩:=q.addr ae;rw[i']at q;refine⟨⟨by first|trivial|omega,by first|trivial|omega⟩,?_⟩;rw[i'];refine av.2 ⟨a.p,a.b.length,a.c,?_,?_⟩;have:=(q.gL yA f).1;rwa[cA]at this;have B':S.notes.length=j:=by
     have:=bY (λx=>x.notes.length) n;have M:S.abs.notes.length=S.notes.length:=aM _;dsimp only at this;rw[M,bM]at this;have e2:s.abs.notes.length=s.notes.length:=aM _;omega
    refine C.note (d'.nd a (aW f)).row (nb a (aW f)) ae λs' Z J I Q=> ?_;rw[eY];refine⟨⟨j+1,Z,J,ae,ae,I,?_⟩,?_⟩;rw[Q,n];dsimp only;congr 1;rw[bt,show s.abs.notes[j]? =some a.b by show(s.notes.map BV.b)[j]? =_;rw[aP,f];rfl];rfl;show s.notes.length - Int.toNat ((j:Int)+1)<s.notes.length - Int.toNat (j:Int);omega
   rw[fe];have u':S.abs=s.abs:=by rw[n,bz (by have:s.abs.notes.length=s.notes.length:=aM _;omega)];rfl
   refine cg.ld C.cV ?_;obtain⟨xs,D,w',k',x',y',m',n'⟩:=O;have q:=k'.frame C.fr bD;refine hX tS Zh q rfl (λP' hv=>by simp at hv;rcases hv with rfl|rfl|rfl|rfl|rfl|rfl<;>rfl) ae ae ?_;intro O' E' G' z' v G;refine⟨_,_,_,rfl,?_⟩;rw[eY];have Q':=C.fr.1;have zg:=F.1;have o: ∀y,aN B y->y<g.size:=λy hy=>k'.dW hy;refine⟨⟨k+1,ae,ae,⟨xs++ [S],λy=>D y\/E y\/aN S.kp y\/aN S.np y,by rw[ak,w'];rfl,?_,?_,?_,?_,?_⟩,?_⟩,?_⟩;rw[cC];simpa using z';rw[bB,x',bt,aP,z];show _++ [S.abs]=_++ [s.abs];rw[u'];intro x hx;rcases cG.1 hx with hx|hx;refine(((y' x hx).frame C.fr bD).frame v (λy hy=>(m' y hy).2.2)).mono (λy=> .inl);simp at hx;subst hx;refine Ga.frame (h:=t') ⟨C.ko.iy,λ_ y hy=> .inr (.inr (.inl hy)),λa f=>(C.kd a f).mono (λy hy=> .inr (.inl hy)),C.no.iy,λ_ y hy=> .inr (.inr (.inr hy)),λa f=>(C.nd a f).mono (λy hy=> .inr (.inl hy))⟩ v ?_;rintro y (hy|hy|hy|hy) m;exact(m' y hy).2.2 m;have:=o y m;have:=(C.eg y hy).1;omega;have:=o y m;have:=(C.kg y hy).1;omega;have:=o y m;have:=(C.ng y hy).1;omega;have R':=v.1;rintro y (hy|hy|hy|hy);grind;have a:=C.eg y hy;exact⟨ae,ae,λm=>(G y m).elim (λh2=>cv (o y h2)) (λh2=>ae)⟩;have a:=C.kg y hy;have b:=C.ko.dW hy;exact⟨ae,ae,λm=>(G y m).elim (λh2=>cv (o y h2)) (λh2=>ae)⟩;have a:=C.ng y hy;have b:=C.no.dW hy;exact⟨ae,ae,λm=>(G y m).elim (λh2=>cv (o y h2)) (λh2=>ae)⟩;intro y hy;rcases G y hy with h2|h2;exact n' y h2;omega;exact(F.tt C.fr).step v (λy hy m=>cv (n' y m));show L.length - Int.toNat ((k:Int)+1)<L.length - Int.toNat (k:Int);omega
 rw[fe];rw[bz (by rw[aM];omega)]at O;exact hk g B U T O F

end me
end
section
variable {h:Heap} {R:dH}
variable {d w s S D f B b q:Nat} {n:Int} {a c:bH} {H:Heap}
def gB.ex{K:gB.S->Prop}(x:gB.S)(e:K x):gB.EX K:=⟨_,_,_,_,_,_,_,_,_,e⟩
def ej.ex{K:ej.S->Prop}(x:ej.S)(e:K x):ej.EX K:=⟨_,_,_,_,_,e⟩
def pX(j:Cl 162 #[.P d 0] h λv H=> ∃i,v=.B i/\ite (!i) (R (.T #[.Q none,.I 6]) H) (∃t,Cc H d 1 (.map t)/\∃T,Pk 245 (.map t) (.I n) false H (.Q T)/\ite T.isNone (R (.T #[.Q none,.I 4]) H) (∃e,Cc H d 1 (.map e)/\∃g,Pk 245 (.map e) (.I n) false H (.Q g)/\R (.T #[.Q g,.I 0]) H))):Cl 166 #[.P d 0,.I n] h R:=aD [] j
def nE (p:Cl 162 #[.P d 0] h λv H=> ∃m,v=.B m/\ite (!m) (R (.T #[.I 0,.I 6]) H) (∃t,Cc H d 1 (.map t)/\∃T:Int,Sm Tryz.prog #[245] 3 (.map t) H (.I T)/\ite (decide (T≥8)) (R (.T #[.I 0,.I 5]) H) (Hi H d 2 λi=> ∃j,Cc H d 2 (.I j)/\aI H (AA d 2) (.I (wrap .i64 (j+1))) λe=> ∃k,Cc e d 1 (.map k)/\Cl 163 #[] e λV g=> ∃l,V=.Q l/\Kp e g [(Sa d 1)]/\ij (Instr.mapUpdate 245 (.map k) (.I i) (.Q l)) g λ_ o=>R (.T #[.I i,.I 0]) o))):Cl 97 #[.P d 0] h R:=aD [(22,λ_=>pK 7)] p
def pY{k:Int} (i:Cl 162 #[.P d 0] h λv H=> ∃e,v=.B e/\ite (!e) (R (.I 6) H) (∃t,Cc H d 4 (.U t)/\ite (decide (k>(wrap .u64 (1099511627776 - t)))) (R (.I 1) H) (∃T,Cc H d 4 (.U T)/\aI H (AA d 4) (.U (wrap .u64 (T+k))) λg=>R (.I 0) g))):Cl 118 #[.P d 0,.U k] h R:=aD [] i
def qV{m:Int} (O:ao.NW h λe H=>Cl 166 #[.P d 0,.I n] H λc' v=> ∃T k,c'=.T #[.Q T,.I k]/\ite (k !=0) (ao.cR v (AA e 0) ao.S.z λx=>ao.ck x (AA e 0) λP=>R (.T #[P.agg,.I k]) x) (Cl 169 #[.Q T] v λd' I=>aC.EX λz=> ∃A,d'=.T #[z.agg,.B A]/\aC.NW I λl K=>aC.cR K (AA l 0) z λj=>ite (!A) (ao.cR j (AA e 0) ao.S.z λy=>ao.ck y (AA e 0) λQ=>R (.T #[Q.agg,.I 4]) y) (aC.ck j (AA l 0) λt=>ao.NW j λg L=>ao.cR L (AA g 0) ⟨n,t.f0,t.f1,t.f2,t.f3,t.f4,t.f5,t.f6,t.f7,t.f8,t.f9,t.f10,t.f11,t.f12,t.f13,t.f14,t.SB,t.SD,t.SE,t.f16,t.f17,t.f18,0,0,0,0,0,0,false,0,0,(⟨#[]⟩:bC),(⟨#[]⟩:bC),false,0,0,(⟨#[]⟩:bC),(⟨#[]⟩:bC),0,0,0,none,0,0,0,0,false,none,0,0,0,0,0,0,0,none,0,0,0⟩ λM=>Cl 170 #[.P d 0,.Q T,.P g 0,.U m] M λe' o=>e'=.T #[]/\ag.ck o (AA g 44) λV=>Cl 171 #[V.agg] o λf' i=> ∃F E C G,f'=.T #[.L F E C,.I G]/\ay (λp=>ao.ck p (AA g 0) λb'=>ao.cR p (AA e 0) b' λr=>ao.ck r (AA e 0) λU=>R (.T #[U.agg,.I 0]) r) (λJ=>ite (G==0) (Hp i d 3 λX=>Hi i g 50 λZ=>Cl 172 #[.Q X,.agg #[.I n,.L F E C,.I Z]] i λg' u=> ∃a',g'=.I a'/\Kp i u [(Sa g 50)]/\J u) (J i))))):Cl 102 #[.P d 0,.I n,.U m] h R:=aD [(31,.join []),(32,λ_=>pK 10)] O
def Gb(i:Cl 234 #[] h λv H=>Vp v λt=>aT H (.C #[.Q t,.Z,.I 0,.Z,.I 0] 353) λe g=>R (.P e 0) g):Cl 163 #[] h R:=aD [] i
def EH(g:aT h (.C #[.B true,.Z,.I 0] 442) λe H=>R (.P e 0) H):Cl 234 #[] h R:=aD [] g
def sG(k:aT h (.C #[.I n] 3) λg H=>Hl H w 9 λo m l=>Cl 109 #[.L o m l,.func (.func 168) #[] #[.P g 0]] H λv i=> ∃e T t,v=.L e T t/\aI i (AA w 9) (.L e T t) λj=>R (.T #[]) j):Cl 101 #[.P w 0,.I n] h R:=aD [] k
def hG (G:Cl 181 #[.L a s S,.func (.func 168) #[] #[.P D 0]] h λb' H=> ∃t,b'=.I t/\ite (t==(-1)) (R (.L a s S) H) (∃(I:Int->iT)(M:Int->iW),I t (wrap .i64 (t+1)) H/\∀i j g,I i j g->ite (decide (j<(s:Int))) (ay (λ(r:Int) p=>(I r (wrap .i64 (j+1)) p/\M r (wrap .i64 (j+1)) p<M i j g)) (λJ=>Bd j s/\aJ a λA=>iw g (A.add (toNat j*3)) λT=>iw g ((A.add (toNat j*3)).add 1) λL=>iw g ((A.add (toNat j*3)).add 2) λO=>aT g (.C #[.I 0,.I 0,.I 0] 196) λe z=>aI z (AA e 0) (.I T) λC=>aI C (AA e 1) (.I L) λE=>aI E (AA e 2) (.I O) λl=>Hi l e 0 λP=>Hi l e 1 λQ=>Hi l e 2 λU=>Cl 168 #[.agg #[.I P,.I Q,.I U],.P D 0] l λc' k=>Vb c' λV=>ay (λ(K:Int) F=>J K F) (λo=>ite (!V) (Hi k e 0 λX=>Hi k e 1 λZ=>Hi k e 2 λa'=>Bd i s/\aJ a λm=>aI k (m.add (toNat i*3)) (.I X) λu=>aI u ((m.add (toNat i*3)).add 1) (.I Z) λv=>aI v ((m.add (toNat i*3)).add 2) (.I a') λx=>o (wrap .i64 (i+1)) x) (o i k)))) (((0:Int)<=i/\i<=(s:Int))/\ij (Builtin.clear_ #[92] 0 #[.L (bV a S (toNat i) 3) (s - (toNat i)) (S - (toNat i))]) g λd' y=>d'=.T #[]/\((0:Int)<=i/\i<=(S:Int))/\R (.L (bV a S 0 3) ((toNat i) - 0) (S - 0)) y))):Cl 109 #[.L a s S,.func (.func 168) #[] #[.P D 0]] h R:=aD [(16,.loop [(5,sI),(6,sI)]),(24,.join [(5,sI)]),(29,.join [(5,sI)])] G
def hT (g: ∃(I:iT)(m:iW),I 0 h/\∀t H,I t H->ite (decide (t<(s:Int))) (Bd t s/\aJ a λA=>iw H (A.add (toNat t*3)) λi=>iw H ((A.add (toNat t*3)).add 1) λj=>iw H ((A.add (toNat t*3)).add 2) λk=>Cl 168 #[.agg #[.I i,.I j,.I k],.P f 0] H λv e=> ∃T,v=.B T/\ite T (R (.I t) e) ((I (wrap .i64 (t+1)) e/\m (wrap .i64 (t+1)) e<m t H))) (R (.I (-1)) H)):Cl 181 #[.L a s S,.func (.func 168) #[] #[.P f 0]] h R:=aD [(6,.loop [(8,sI)])] g
def hU{o:Nat} (K:Cl 181 #[.L a s S,.func (.func 110) #[] #[.P D 0,.P o 0]] h λc' H=> ∃t,c'=.I t/\ite (t==(-1)) (R (.L a s S) H) (∃(I:Int->iT)(M:Int->iW),I t (wrap .i64 (t+1)) H/\∀i j g,I i j g->ite (decide (j<(s:Int))) (ay (λ(u:Int) r=>(I u (wrap .i64 (j+1)) r/\M u (wrap .i64 (j+1)) r<M i j g)) (λJ=>Bd j s/\aJ a λA=>iw g (A.add (toNat j*3)) λT=>iw g ((A.add (toNat j*3)).add 1) λO=>iw g ((A.add (toNat j*3)).add 2) λP=>aT g (.C #[.I 0,.I 0,.I 0] 196) λe C=>aI C (AA e 0) (.I T) λE=>aI E (AA e 1) (.I O) λF=>aI F (AA e 2) (.I P) λl=>Hi l e 0 λQ=>Hi l e 1 λU=>Hi l e 2 λV=>Cl 110 #[.agg #[.I Q,.I U,.I V],.P D 0,.P o 0] l λd' k=>Vb d' λX=>ay (λ(L:Int) G=>J L G) (λp=>ite (!X) (Hi k e 0 λZ=>Hi k e 1 λa'=>Hi k e 2 λb'=>Bd i s/\aJ a λm=>aI k (m.add (toNat i*3)) (.I Z) λv=>aI v ((m.add (toNat i*3)).add 1) (.I a') λx=>aI x ((m.add (toNat i*3)).add 2) (.I b') λy=>p (wrap .i64 (i+1)) y) (p i k)))) (((0:Int)<=i/\i<=(s:Int))/\ij (Builtin.clear_ #[92] 0 #[.L (bV a S (toNat i) 3) (s - (toNat i)) (S - (toNat i))]) g λe' z=>e'=.T #[]/\((0:Int)<=i/\i<=(S:Int))/\R (.L (bV a S 0 3) ((toNat i) - 0) (S - 0)) z))):Cl 109 #[.L a s S,.func (.func 110) #[] #[.P D 0,.P o 0]] h R:=aD [(16,.loop [(5,sI),(6,sI)]),(24,.join [(5,sI)]),(29,.join [(5,sI)])] K
def ie{F:Nat} (g: ∃(I:iT)(m:iW),I 0 h/\∀t H,I t H->ite (decide (t<(s:Int))) (Bd t s/\aJ a λA=>iw H (A.add (toNat t*3)) λi=>iw H ((A.add (toNat t*3)).add 1) λj=>iw H ((A.add (toNat t*3)).add 2) λk=>Cl 110 #[.agg #[.I i,.I j,.I k],.P f 0,.P F 0] H λv e=> ∃T,v=.B T/\ite T (R (.I t) e) ((I (wrap .i64 (t+1)) e/\m (wrap .i64 (t+1)) e<m t H))) (R (.I (-1)) H)):Cl 181 #[.L a s S,.func (.func 110) #[] #[.P f 0,.P F 0]] h R:=aD [(6,.loop [(8,sI)])] g
def kT{x:ao.S} (p:aT h (.C x.arr 189) λe H=> ∃l,Cc H e 50 (.I l)/\ite (l==0) (R (.I (-1)) H) (ag.ck H (AA e 44) λr=>ag.NW H λi m=>ag.cR m (AA i 0) r λj=>Hi j e 21 λu=>ay (λg=>Hp g w 7 λy=>ax.ck g (AA e 20) λz=>ag.ck g (AA i 0) λA=>Cl 123 #[.Q y,z.agg,A.agg] g λv k=> ∃t T,v=.T #[.I t,.I T]/\ite (T !=0) (R (.I (-1)) k) (R (.I t) k)) (λJ=>ite (u !=4) (aI j (AA i 0) (.U 0) λo=>J o) (J j)))):Cl 100 #[.P w 0,x.agg] h R:=aD [(15,.join []),(19,λ_=>pK 13)] p
def qW(x:Cl 96 #[.P w 0] h λv H=>Vp v λy=>Cl 99 #[.Q y,.I n,.L c B b] H λV l=>ao.EX λT=> ∃t,V=.T #[T.agg,.I t]/\ao.NW l λg m=>ao.cR m (AA g 0) T λi=>ay (λ(z:Bool) e=>ay (λo=>R (.I t) o) (λj=>ite z (ao.ck e (AA g 0) λA=>Cl 100 #[.P w 0,A.agg] e λC p=>Vi C λG=>Cl 101 #[.P w 0,.I n] p λE r=>E=.T #[]/\j r) (j e))) (λJ=>ite (t !=0) (Cl 96 #[.P w 0] i λF u=> ∃k,F=.Q k/\J (!k.isNone) u) (J false i))):Cl 52 #[.P w 0,.I n,.L c B b] h R:=aD [(6,.join [(23,sB)]),(7,.join [])] x
def qX(o:Cl 96 #[.P w 0] h λv H=>Vp v λr=>Cl 103 #[.Q r,.I n] H λV i=>ao.EX λT=> ∃t,V=.T #[T.agg,.I t]/\ao.NW i λg j=>ao.cR j (AA g 0) T λe=>ay (λk=>R (.I t) k) (λJ=>ite (t==0) (ao.ck e (AA g 0) λp=>Cl 100 #[.P w 0,p.agg] e λu l=>Vi u λy=>Cl 101 #[.P w 0,.I n] l λx m=>x=.T #[]/\J m) (J e))):Cl 55 #[.P w 0,.I n] h R:=aD [(7,.join [])] o
def uJ(j:Cl 96 #[.P w 0] h λv H=>Vp v λk=>Cl 112 #[.Q k,.I n] H λV i=> ∃e T t g,V=.T #[.L e T t,.I g]/\R (.T #[.L e T t,.I g]) i):Cl 58 #[.P w 0,.I n] h R:=aD [] j
def sH(l:Hp h w 7 λr=>Hi h w 8 λk=>Hp h w 0 λm=>Hp h w 7 λo=>Cl 107 #[.Q m] h λv H=> ∃j,v=.Q j/\Kp h H [(Sa w 7),(Sa w 8),(Sa w 7)]/\Cl 108 #[.Q j] H λV e=> ∃t,V=.I t/\Kp H e [(Sa w 7),(Sa w 8),(Sa w 7)]/\Cl 124 #[.Q o] e λu g=> ∃T,u=.I T/\Kp e g [(Sa w 8),(Sa w 7)]/\Cl 125 #[.Q r,.I (if T<wrap .i64 (k+t)then T else wrap .i64 (k+t))] g λx i=> ∃p,x=.I p/\Kp g i [(Sa w 8)]/\R (.T #[]) i):Cl 105 #[.P w 0] h R:=aD [(0,λ_=> .ju (fE 13 0 (fE 4 16 (fE 3 13 (fE 3 20 .done)))))] l
def sJ(k:Cl 96 #[.P w 0] h λv H=>Vp v λm=>Cl 104 #[.Q m] H λV g=> ∃t T,V=.T #[.I t,.I T]/\Cl 96 #[.P w 0] g λo e=>Vp o λl=>ay (λi=>R (.T #[.I t,.I T]) i) (λJ=>ite (!l.isNone) (Cl 105 #[.P w 0] e λp j=>p=.T #[]/\J j) (J e))):Cl 56 #[.P w 0] h R:=aD [(7,.join [])] k
def pZ(E:aT h (.C #[.P w 0] 59) λe H=>Hp H e 0 λV=>Cl 96 #[.Q V] H λv i=> ∃o,v=.Q o/\ite o.isNone (R (.T #[.I 0,.I 6]) i) (Hp i e 0 λX=>Cl 96 #[.Q X] i λZ x=>Vp Z λF=>Cl 106 #[.Q F] x λa' j=>Vi a' λG=>Hp j e 0 λI=>aJ I λA=>UX j A λJ=>Cl 107 #[.Q J] j λb' y=>Vp b' λK=>Cl 108 #[.Q K] y λc' z=>Vi c' λL=>aT z (.C #[.I 0] 3) λk C=>aI C (AA k 0) (.I L) λg=>Hp g e 0 λM=>Hp g e 0 λO=>aJ O λp=>oM g (p.add 9) λU Q P=>Cl 109 #[.L U Q P,.func (.func 110) #[] #[.P k 0,.P e 0]] g λd' l=> ∃m T t,d'=.L m T t/\Kp g l [(Sa e 0),(Sa e 0)]/\aJ M λr=>aI l (r.add 9) (.L m T t) λu=>R (.T #[.I G,.I 0]) u)):Cl 57 #[.P w 0] h R:=aD [(15,λ_=>pK 10)] E
def oT(y:ao.NW h λe H=>Cl 166 #[.P d 0,.I n] H λv i=> ∃p t,v=.T #[.Q p,.I t]/\ite (t !=0) (ao.cR i (AA e 0) ao.S.z λj=>ao.ck j (AA e 0) λz=>R (.T #[z.agg,.I t]) j) (Cl 167 #[.Q p,.L c B b] i λV k=> ∃T,V=.I T/\ite (T !=0) (Cl 103 #[.P d 0,.I n] k λG u=>ao.EX λr=> ∃E,G=.T #[r.agg,.I E]/\ao.NW u λg x=>ao.cR x (AA g 0) r λl=>ao.ck l (AA g 0) λF=>ao.cR l (AA e 0) F λm=>ao.ck m (AA e 0) λA=>R (.T #[A.agg,.I T]) m) (ao.cR k (AA e 0) ao.S.z λo=>ao.ck o (AA e 0) λC=>R (.T #[C.agg,.I 0]) o))):Cl 99 #[.P d 0,.I n,.L c B b] h R:=aD [] y
def oU (hv:ao.NW h λg H=>Cl 166 #[.P d 0,.I n] H λG' k=> ∃t T,G'=.T #[.Q t,.I T]/\ite (T !=0) (ao.cR k (AA g 0) ao.S.z λL=>ao.ck L (AA g 0) λr0=>R (.T #[r0.agg,.I T]) L) (∃P,Cc k d 1 (.map P)/\ij (Builtin.delete_ #[245,3] 0 #[.map P,.I n]) k λH' M=>H'=.T #[]/\Hp M d 3 λD'=>Cl 173 #[.Q D',.I n] M λI' x'=>Vi I' λR'=>Cl 174 #[.Q t,.I 16] x' λJ' y'=>J'=.T #[]/\Cl 175 #[.Q t] y' λK' i=> ∃Q,K'=.I Q/\ite (Q==0) (ao.cR i (AA g 0) ao.S.z λO=>ao.ck O (AA g 0) λB'=>R (.T #[B'.agg,.I 0]) O) (ay (λ(o:bH) j=>ay (λ(e:Int) (A':bH) (z':Int) z=>aJ A' λi'=>ag.ck z i' λE'=>aJ o λj'=>ag.cR z (j'.add 44) E' λn'=>aJ o λk'=>aI n' (k'.add 50) (.I z') λC=>ay (λE=>aJ o λl'=>ao.ck E l' λF'=>ao.cR E (AA g 0) F' λF=>ao.ck F (AA g 0) λC'=>R (.T #[C'.agg,.I 0]) F) (λr=>ite (e !=0) (Cl 176 #[.U 0,.I e] C λL' o'=>ag.EX λh'=>L'=h'.agg/\aJ o λm'=>ag.cR o' (m'.add 44) h' λp'=>r p') (r C))) (λp=>Hp j d 0 λZ=>aJ o λA=>ax.ck j (A.add 20) λa'=>(Cl 90 #[.Q Z,a'.agg] j λM' q'=>ag.EX λb'=> ∃d' f',M'=.T #[b'.agg,.I d',.I f']/\ag.NW q' λu r'=>ag.cR r' (AA u 0) b' λs'=>p f' (Sa u 0) d' s')/\(ag.NW j λv G=>Kp j G [(some (A.add 20)),(Sa d 0)]/\Cl 90 #[.Q Z,a'.agg] G λO' t'=>ag.EX λc'=> ∃e' g',O'=.T #[c'.agg,.I e',.I g']/\ag.cR t' (AA v 0) c' λu'=>p g' (Sa v 0) e' u')/\True)) (λJ=>Hu i d 4 λU=>(Cl 175 #[.Q t] i λP' l=> ∃V,P'=.I V/\Kp i l [(Sa d 4)]/\ao.NW l λx I=>Kp l I [(Sa d 4)]/\ao.cR I (AA x 0) ⟨n,0,0,false,0,0,(⟨#[]⟩:bC),(⟨#[]⟩:bC),false,0,0,(⟨#[]⟩:bC),(⟨#[]⟩:bC),0,0,0,none,0,0,0,0,false,U,3,0,V,0,0,false,0,0,(⟨#[]⟩:bC),(⟨#[]⟩:bC),false,0,0,(⟨#[]⟩:bC),(⟨#[]⟩:bC),0,0,0,none,0,0,0,0,false,none,0,0,0,0,0,0,0,none,0,0,0⟩ λv'=>J (Sa x 0) v')/\(ao.NW i λy m=>Kp i m [(Sa d 4)]/\Cl 175 #[.Q t] m λQ' K=> ∃X,Q'=.I X/\Kp m K [(Sa d 4)]/\ao.cR K (AA y 0) ⟨n,0,0,false,0,0,(⟨#[]⟩:bC),(⟨#[]⟩:bC),false,0,0,(⟨#[]⟩:bC),(⟨#[]⟩:bC),0,0,0,none,0,0,0,0,false,U,3,0,X,0,0,false,0,0,(⟨#[]⟩:bC),(⟨#[]⟩:bC),false,0,0,(⟨#[]⟩:bC),(⟨#[]⟩:bC),0,0,0,none,0,0,0,0,false,none,0,0,0,0,0,0,0,none,0,0,0⟩ λw'=>J (Sa y 0) w')/\True)))):Cl 103 #[.P d 0,.I n] h R:=aD [(27,.join [(8,sP)]),(27,λ_=> .ju (fE 6 0 (.alts (.fork 6 (fE 4 7 .done) (.fork 9 (fE 3 6 (.op 10 .done)) .iH))))),(29,.join [(7,sI),(9,sP),(10,sI)]),(29,λ_=> .ju (fE 6 0 (.alts (.fork 6 (fE 8 7 .done) (.fork 11 (fE 5 6 (fE 3 12 .done)) .iH))))),(35,.join [])] hv
def qY(k:Cl 166 #[.P d 0,.I n] h λv H=> ∃T t,v=.T #[.Q T,.I t]/\ite (t !=0) (R (.T #[.Z,.I t]) H) (Cl 182 #[.Q T] H λV j=> ∃i g e,V=.L i g e/\R (.T #[.L i g e,.I 0]) j)):Cl 112 #[.P d 0,.I n] h R:=aD [] k
def oV(i:Cl 166 #[.P d 0,.I n] h λv H=> ∃t T,v=.T #[.Q t,.I T]/\ite (T !=0) (R (.I 0) H) (Cl 197 #[.Q t] H λV g=> ∃e,V=.I e/\R (.I e) g)):Cl 127 #[.P d 0,.I n] h R:=aD [] i
def qe(i:Cl 162 #[.P d 0] h λv H=> ∃e,v=.B e/\ite (!e) (R (.T #[.I 0,.I 6]) H) (Hp H d 0 λj=>Cl 159 #[.Q j] H λV g=> ∃t T,V=.T #[.I t,.I T]/\R (.T #[.I t,.I T]) g)):Cl 104 #[.P d 0] h R:=aD [] i
def oe (G:Cl 162 #[.P d 0] h λf' H=> ∃v,f'=.B v/\ite (!v) (R (.I 0) H) (Hp H d 3 λJ=>Hp H d 0 λK=>Cl 108 #[.Q K] H λg' l=> ∃o,g'=.I o/\Kp H l [(Sa d 3)]/\Cl 177 #[.Q J,.I o] l λh' y=>Vl h' λL T k'=> ∃(I:iT)(M:iW),I 0 y/\∀t e,I t e->ite (decide (t<(T:Int))) (Bd t T/\aJ L λA=>iw e (A.add (toNat t*3)) λO=>oM e ((A.add (toNat t*3)).add 1) λU Q P=>iw e ((A.add (toNat t*3)).add 2) λV=>aT e (.C #[.I 0,.Z,.I 0] 262) λg z=>aI z (AA g 0) (.I O) λC=>aI C (AA g 1) (.L U Q P) λE=>aI E (AA g 2) (.I V) λm=>Hl m g 1 λa' Z X=>Cl 178 #[.L a' Z X] m λi' F=>ag.EX λp=> ∃b',i'=.T #[p.agg,.I b']/\ag.NW F λk x=>ag.cR x (AA k 0) p λi=> ∃r,Cc i d 1 (.map r)/\Hi i g 0 λc'=> ∃u,Pk 245 (.map r) (.I c') false i (.Q u)/\ag.ck i (AA k 0) λd'=>Cl 179 #[.Q u,d'.agg] i λj' j=> ∃e',j'=.I e'/\Kp i j [(Sa g 0),(Sa d 1)]/\(I (wrap .i64 (t+1)) j/\M (wrap .i64 (t+1)) j<M t e)) (R (.I (T:Int)) e))):Cl 106 #[.P d 0] h R:=aD [(11,λ_=>pK 11),(16,.loop [(23,sI)]),(29,λ_=>pK 9)] G
def sK{done:Int}(j:aT h (.C #[.I done] 3) λg H=>Cl 242 #[.P q 0,.func (.func 244) #[] #[.P g 0]] H λv i=> ∃e T t,v=.L e T t/\R (.L e T t) i):Cl 177 #[.P q 0,.I done] h R:=aD [] j
def nF{r:Nat} (hv:Hl h q 1 λn' T M'=> ∃(I:bH->Nat->Nat->bH->Nat->Nat->iT)(M:bH->Nat->Nat->bH->Nat->Nat->iW),I none 0 0 none 0 0 0 h/\∀j O o i L l t H,I j O o i L l t H->ite (decide (t<(T:Int))) (ay (λ(C:bH) (z y:Nat) (x:bH) (v u:Nat) p=>(I C z y x v u (wrap .i64 (t+1)) p/\M C z y x v u (wrap .i64 (t+1)) p<M j O o i L l t H)) (λJ=>Bd t T/\aJ n' λA=>iw H (A.add (toNat t*3)) λo'=>oM H ((A.add (toNat t*3)).add 1) λr' q' p'=>iw H ((A.add (toNat t*3)).add 2) λs'=>aT H (.C #[.I 0,.Z,.I 0] 262) λe c'=>aI c' (AA e 0) (.I o') λd'=>aI d' (AA e 1) (.L r' q' p') λe'=>aI e' (AA e 2) (.I s') λk=>Hi k e 0 λt'=>Hl k e 1 λw' v' u'=>Hi k e 2 λx'=>Cl 244 #[.agg #[.I t',.L w' v' u',.I x'],.P r 0] k λJ' g=>Vb J' λy'=>ay (λ(m':bH) (l' k':Nat) (j':bH) (i' h':Nat) f'=>J m' l' k' j' i' h' f') (λm=>ite y' (Hi g e 0 λz'=>Hl g e 1 λC' B' A'=>Hi g e 2 λD'=>aT g (.C #[.I z',.L C' B' A',.I D'] 262) λU g'=>ij (Builtin.append_ #[265,265] 265 #[.L j O o,.L (Sa U 0) 1 1]) g' λK' X=> ∃G F E,K'=.L G F E/\m G F E i L l X) (Hi g e 0 λE'=>Hl g e 1 λH' G' F'=>Hi g e 2 λI'=>aT g (.C #[.I E',.L H' G' F',.I I'] 262) λV Z=>ij (Builtin.append_ #[265,265] 265 #[.L i L l,.L (Sa V 0) 1 1]) Z λL' a'=> ∃Q P K,L'=.L Q P K/\m j O o Q P K a')))) (aI H (AA q 1) (.L i L l) λb'=>R (.L j O o) b')):Cl 242 #[.P q 0,.func (.func 244) #[] #[.P r 0]] h R:=aD [(8,.loop [(5,sS),(6,sS),(14,sI)]),(16,.join [(5,sS),(6,sS)]),(21,.join [(5,sS),(6,sS)])] hv
def vT{l:Nat}(i:Cl 153 #[.P l 0] h λv H=> ∃e,v=.B e/\ite (!e) (R (.T #[.I 0,.I 6]) H) (Hp H l 0 λj=>Cl 233 #[.Q j] H λV g=> ∃t T,V=.T #[.I t,.I T]/\R (.T #[.I t,.I T]) g)):Cl 159 #[.P l 0] h R:=aD [] i
def iG{h:Nat}(e: ∃g t T,Cc H h 1 (.L g t T)/\R (.I ((t:Nat):Int)) H):Cl 124 #[.P h 0] H R:=aD [] e
def jI{h:Nat} (l:ay (λ(r:Bool) e=>ite r (R (.I 6) e) (ay (λ(m:Bool) g=>ite m (R (.I 1) g) (aI g (AA h 2) (.I n) λk=>R (.I 0) k)) (λj=> ∃T,Cc e h 2 (.I T)/\ite (decide (n<T)) (j true e) (∃p i o,Cc e h 1 (.L p i o)/\j (decide (n>((i:Nat):Int))) e)))) (λJ=> ∃t,Cc H h 0 (.B t)/\J (!t) H)):Cl 125 #[.P h 0,.I n] H R:=aD [(5,.join [(5,sB)]),(11,.join [(15,sB)])] l

end
section
open Go.Fields
namespace me
open gD
variable {h H:Heap} {t:Nat} {X:Ft} {R:dH} {p:bH} {c i:Nat} {A:List me}
def nG(s:me):cO:=bU s.num++bU s.token++bU (bit s.up)++bU (bit s.watch)++bU s.kept.length++bU s.notes.length
def IA(a:Nat×cO):cO:=bU a.1++dF a.2
def Tq(s:me):List (cO):=nG s::(s.kept.map IA++s.notes.map dF)
def xq(A:List me):List (cO):=A.flatMap Tq
def Q7(s:me):(Tq s).length=1+s.kept.length+s.notes.length:=by unfold Tq;simp;omega
def Ts(o:Pn A):(xq A).length<=13*A.length:=by
 have k: ∀B,(∀s∈B,s.kept.length<=6/\s.notes.length<=6)->(xq B).length<=13*B.length:=by
  intro B;induction B with
  |nil=>decide
  |cons s B I=>intro a;have f:=a s dz;have g:=I (λx e=>a x (cD _ e));unfold xq at*;rw[eM,ak,Q7,bw];omega
 refine k A λs d=> ?_;have⟨i,b⟩:=cd d;exact⟨(o.at_ i s b).kl,(o.at_ i s b).nl⟩
theorem lG(f0:Has h t X A)(ok:Pn A)(hk: ∀H p' l' c',BL h H p' l' c' (xq A)->Fr No h H->R (.L p' l' c') H):Cl 264 #[.P t 0] h R:=by
 refine oS (EC f0 ok λl p1 l1 c1 O1 f1=>⟨_,_,_,rfl,?_⟩);obtain⟨x,a6,rfl,h8,rfl,n',c8,m8⟩:=O1;have i0:=ok.le;rw[aM]at i0;refine⟨λV O oc i h2=> ∃k:Nat,i=(k:Int)/\k<=x.length/\BL l h2 V O oc (xq ((x.map SC.abs).take k))/\O<=13*k/\Fr No l h2,λ_ _ _ i _=>x.length - i.toNat,⟨0,rfl,ae,BL.nil,ae,Fr.refl _ _⟩,?_⟩;rintro V O oc _ j' ⟨k,rfl,m5,B,m7,T⟩;by_cases h7:k<x.length
 .rw[iE,aG];have⟨s,G⟩:=tL h7;have c7:(x.map SC.abs)[k]? =some s.abs:=by rw[aP,G];rfl
  have Cy:=ok.at_ k _ c7;have kl:s.kept.length<=6:=by have:=Cy.kl;rwa[show s.abs.kept.length=s.kept.length from aM _]at this
  have nl:s.notes.length<=6:=by have:=Cy.nl;rwa[show s.abs.notes.length=s.notes.length from aM _]at this
  have n1:s.num=k+1:=Cy.num;have n2:s.token<=2147483648:=Cy.tk.2;have kb: ∀a∈s.kept,a.id<=1099511627776/\a.v.b.length<=1000:=λa f=>Cy.kd a.abs (cm f);have nb: ∀a∈s.notes,a.b.length<=600:=λa f=>(Cy.nd a.b (cm f)).2;have d7:=h8.frame T bD;have j8: ∀{H:Heap},Fr No j' H->Ga H a6 s:=λv'=>(n' s (aW G)).frame (T.tt v') bD;obtain⟨ab,j9,rfl⟩:=d7.addr ae;have zg:=T.1;have zh:=f1.1;refine⟨⟨by first|trivial|omega,by first|trivial|omega⟩,av.2 (cg.vy (d7.gL yc G) (cg.new λb h9 eb n f9=> ?_))⟩;refine⟨_,aj n,_,aj n,_,aj n,_,aj n,_,_,_,aj n,_,_,_,aj n,?_⟩;refine gD.ft λg7 e8 f2 a8 w' b9=>⟨_,rfl,?_⟩;have R':Up h9 f2 g7:=⟨w',b9⟩;have I: ∀{S:fZ}{H:Heap},Up h9 S H->¬S b:=λi6 hx=>by have:=i6.ge b hx;have:=aE n;omega
  have o:=w'.get n id;refine⟨aj o,aj o,aj o,aj o,aj o,aj o,?_⟩;refine gY a8 bO ae λk6 i9 s' K'=>⟨_,rfl,?_⟩;have r:=K'.fr.get o (I R');have S':=R'.step K';have e1:gv (s.num:Int)=s.num:=by unfold gv;omega
  rw[e1,dJ]at s';have l1:=(bF s.num).2;refine⟨aj r,aj r,aj r,aj r,aj r,?_⟩;refine fD s.token s' ae rfl ae λk7 j0 a9 L'=>⟨_,rfl,?_⟩;have z:=L'.fr.get r (I S');have T':=S'.step L';have l2:=(bF s.token).2;refine⟨aj z,aj z,aj z,aj z,?_⟩;refine M1 a9 (by rw[ak];omega) λk8 j1 b0 M'=>⟨_,rfl,?_⟩;have Q:=M'.fr.get z (I T');have U':=T'.step M';have l3:=(bF (bit s.up)).2;refine⟨aj Q,aj Q,aj Q,?_⟩;refine M1 b0 (by simp only[ak];omega) λk9 j2 b1 O'=>⟨_,rfl,?_⟩;have b':=O'.fr.get Q (I U');have V':=U'.step O';have l4:=(bF (bit s.watch)).2;refine⟨aj b',aj b',?_⟩;refine gY b1 (by simp only[ak];omega) ae λl0 j3 t' P'=>⟨_,rfl,?_⟩;have d':=P'.fr.get b' (I V');have X':=V'.step P';have e5:gv ((s.kept.length:Nat):Int)=s.kept.length:=by unfold gv;omega
  rw[e5]at t';have l5:=(bF s.kept.length).2;refine⟨aj d',aj d',?_⟩;refine gY t' (by simp only[ak];omega) ae λg8 j4 a' Q'=>⟨_,rfl,?_⟩;have e':=Q'.fr.get d' (I X');have Z':=X'.step Q';have e6:gv ((s.notes.length:Nat):Int)=s.notes.length:=by unfold gv;omega
  rw[e6]at a';have l6:=(bF s.notes.length).2;refine⟨aj e',aj e',?_⟩;have eh:bU s.num++bU s.token++bU (bit s.up)++bU (bit s.watch)++bU s.kept.length++bU s.notes.length=nG s.abs:=by unfold nG;rw[show s.abs.kept.length=s.kept.length from aM _,show s.abs.notes.length=s.notes.length from aM _];rfl
  have m6:(nG s.abs).length<=60:=by rw[<-eh];simp only[ak];omega
  rw[eh]at a';refine gJ a' ae λq D m F' x' c0=>⟨_,_,_,rfl,?_⟩;have f':=x'.get e' id;refine⟨aj f',aj f',?_⟩;have L:Fr No j' m:=f9.tt (Z'.fr.tt x');have z9:=f9.1;have n8:=Z'.fr.1;have o3:=L.1;obtain⟨ys,DB,i1,D',i2,c9,d0,d1⟩:=B;refine bn ?_;have F:Fr No m (m.push (.C #[.slice q (nG s.abs).length D] 69)):=Fr.push _ _;have G':Row (m.push (.C #[.slice q (nG s.abs).length D] 69)) (Sa m.size 0) (kR ⟨q,D,nG s.abs⟩):=gW (cs:=kR ⟨q,D,nG s.abs⟩);have e0:(m.push (.C #[.slice q (nG s.abs).length D] 69)).size=m.size+1:=bK _;generalize m.push (.C #[.slice q (nG s.abs).length D] 69)=l9 at F G' e0⊢;have g':=F.get f' id;refine⟨aj g',aj g',?_⟩;have d6: ∀y,aN V y->y<j'.size:=λy d=>D'.dW d;have d2: ¬aN V b:=λhx=>by have:=d6 b hx;omega
  refine du tN uN ((D'.frame L bD).frame F bD) G' rfl (λn7 hv=>by simp at hv;subst hv;rfl) ae ae ?_;intro d8 g0 z' d4 _ E y';have C:=E.get g' d2;refine⟨_,_,_,rfl,aj C,aj C,?_⟩;have n9:=E.1;have b5: ∀y,aN q y->g8.size<=y/\y<m.size:=λy d=>⟨c0 y d,F'.dW d⟩;have a5:BL l z' d8 (O+1) g0 (xq ((x.map SC.abs).take k)++ [nG s.abs]):=by refine⟨ys++ [⟨q,D,nG s.abs⟩],λy=>DB y\/aN q y,by rw[ak,i1];rfl,?_,?_,?_,?_,?_⟩;rw[cC];simpa using d4;rw[bB,i2];rfl;intro i7 hx;rcases cG.1 hx with hx|hx;exact((((c9 i7 hx).frame L bD).frame F bD).frame E (λy d=>(d0 y d).2.2)).mono (λy=> .inl);simp at hx;subst hx;exact BV.kZ ((F'.frame F bD).frame E (λy d g=>iI (b5 y d) (d6 y g))) (λy=> .inr);grind;intro y d;rcases y' y d with h2|h2;exact d1 y h2;omega
  have a7:Fr No l z':=(T.tt (L.tt F)).step E (λy d g=>cv (d1 y g));have o4:b<z'.size:=aE C;have m4:l.size<=b:=ae
  have d3: ¬aN d8 b:=λg=>(y' b g).elim d2 (λh2=>ae);have Z: ∀{H:Heap},Fr No l H->Ga H a6 s:=λv'=>(n' s (aW G)).frame v' bD;clear d4 E y' G' e0 F g' f' F' x' c0 a' e' t' d' b1 b' b0 Q a9 z s' r a8 o n Q' P' O' M' L' K' w' b9 R' S' T' U' V' X' Z' b5 D' c9 d0 L f9;refine⟨_,_,_,aj C,?_⟩;refine⟨λJ u U i H=> ∃j:Nat,i=(j:Int)/\j<=s.kept.length/\BL l H J u U (xq ((x.map SC.abs).take k)++ [nG s.abs]++(s.abs.kept.map IA).take j)/\u<=O+1+j/\Fr No l H/\
   cg.at H b (s.num:Int) (s.token:Int) s.up s.watch s.kp s.kept.length s.kc s.np s.notes.length s.nc/\¬aN J b,λ_ _ _ i _=>s.kept.length - i.toNat,⟨0,rfl,ae,dQ a5,ae,a7,C,d3⟩,?_⟩
  clear a5 a7 C d3;rintro J u U _ g9 ⟨j,rfl,hj,v,c6,w,h',E'⟩;have i8:=w.1;by_cases m':j<s.kept.length
  .rw[iE,aG];have⟨a,f⟩:=tL m';have H':=(Z w).k;obtain⟨ka,B'⟩:=H'.any Eo;rw[B']at H';refine⟨⟨by first|trivial|omega,by first|trivial|omega⟩,?_⟩;rw[B'];have m9:=kb a (aW f);refine av.2 (dL.vy (H'.gL Eo f) (dL.new λb2 h0 k4 k' i'=>⟨_,aj k',_,_,_,aj k',?_⟩));refine gD.ft λh1 e8 f3 f5 b6 g4=>⟨_,rfl,?_⟩;have e2:Up h0 f3 h1:=⟨b6,g4⟩;have u':=b6.get k' id;refine⟨aj u',aj u',?_⟩;refine fD a.id f5 bO rfl ae λh3 j5 b3 d9=>⟨_,rfl,?_⟩;rw[dJ]at b3;have a0:=e2.step d9;have f8:=d9.fr.get u' (λhx=>iI (e2.ge b2 hx) (aE k'));refine⟨aj f8,?_⟩;have e9:Fr No l h3:=w.tt (i'.tt a0.fr);have l7:=(bF a.id).2;have J':=((Z e9).kd a (aW f)).row;refine pR b3 ae J' rfl ae (λy d C' hS=> ?_) λm0 j6 f6 i4=>⟨_,rfl,?_⟩;have a1:=(n' s (aW G)).kd a (aW f);have a2:=(c8 y (a1.own C' y d)).2.1;have a3:=a0.ge y hS;have a4:=i'.1;omega;have e3:=a0.step i4;have l8:=(bF a.v.b.length).2;have el:(dF a.v.b).length=(bU a.v.b.length).length+a.v.b.length:=by unfold dF;rw[ak]
   refine gJ f6 (by rw[ak];omega) λn5 k2 h4 d5 g1 c2=>⟨_,_,_,rfl,?_⟩;have M:Fr No g9 h4:=i'.tt (e3.fr.tt g1);have o0:=M.1;have zu:=(i'.tt e3.fr).1;have er:bU a.id++dF a.v.b=IA a.abs:=rfl;rw[er]at d5⊢;refine(v.on M).push ae d5 (λy d=>⟨cv (c2 y d),λg=>iI (v.lt g) (c2 y d)⟩) ae ?_;intro n3 k0 m1 o' b7 g5;refine⟨_,_,_,rfl,?_⟩;rw[eY];refine⟨⟨j+1,ae,ae,?_,ae,?_,(by rw[<-B'];exact b7.get (M.get h' id) E'),?_⟩,?_⟩;rw[cP]at o';rw[bt,show(s.abs.kept.map IA)[j]? =some (IA a.abs) by show((s.kept.map AV.abs).map IA)[j]? =_;rw[aP,aP,f];rfl];rw[<-cP]at o'⊢;exact o';refine(w.tt M).step b7 (λy d g=> ?_);obtain⟨_,_,_,_,_,_,_,A'⟩:=v;have:=A' y g;omega;intro g;rcases g5 b g with h2|h2;exact E' h2;have:=aE (M.get h' id);omega;show s.kept.length - Int.toNat ((j:Int)+1)<s.kept.length - Int.toNat (j:Int);omega
  .have q2: ¬(j:Int)<(s.kept.length:Int):=ae
   simp only[q2,fC,aV,bQ];rw[bz (l:=s.abs.kept.map IA) (by rw[aM,show s.abs.kept.length=s.kept.length from aM _];omega)]at v;refine⟨_,_,_,aj h',?_⟩;refine⟨λJ u U i H=> ∃j:Nat,i=(j:Int)/\j<=s.notes.length/\BL l H J u U (xq ((x.map SC.abs).take k)++ [nG s.abs]++s.abs.kept.map IA++(s.abs.notes.map dF).take j)/\u<=O+7+j/\Fr No l H,λ_ _ _ i _=>s.notes.length - i.toNat,⟨0,rfl,ae,dQ v,ae,w⟩,?_⟩;clear v w h' E' i8 c6 m' hj q2;rintro J u U _ c4 ⟨j,rfl,hj,K,c6,P⟩;have o1:=P.1;by_cases m':j<s.notes.length
   .rw[iE,aG];have⟨a,f⟩:=tL m';have I':=(Z P).n;obtain⟨ka,c5⟩:=I'.any yA;rw[c5]at I';refine⟨⟨by first|trivial|omega,by first|trivial|omega⟩,?_⟩;rw[c5];have n0:=nb a (aW f);refine av.2 ⟨a.p,a.b.length,a.c,?_,?_⟩;have:=(I'.gL yA f).1;rwa[cA]at this;refine gD.ft λh5 e8 f4 f7 b8 g6=>⟨_,rfl,?_⟩;have e4:Up c4 f4 h5:=⟨b8,g6⟩;have J':=((Z (P.tt b8)).nd a (aW f)).row;refine pR f7 bO J' rfl ae (λy d C' hS=> ?_) λm2 j7 b4 i5=>⟨_,rfl,?_⟩;have a1:=(n' s (aW G)).nd a (aW f);have a2:=(c8 y (a1.own C' y d)).2.1;have a3:=e4.ge y hS;omega;rw[dJ]at b4;have e7:=e4.step i5;have l8:=(bF a.b.length).2;have el:(dF a.b).length=(bU a.b.length).length+a.b.length:=by unfold dF;rw[ak]
    refine gJ b4 ae λn6 k3 h6 i3 g2 c3=>⟨_,_,_,rfl,?_⟩;have r':Fr No c4 h6:=e7.fr.tt g2;have o2:=r'.1;have zu:=e7.fr.1;refine(K.on r').push ae i3 (λy d=>⟨cv (c3 y d),λg=>iI (K.lt g) (c3 y d)⟩) ae ?_;intro n4 k1 m3 q' g3 k5;refine⟨_,_,_,rfl,?_⟩;rw[eY];refine⟨⟨j+1,ae,ae,?_,ae,?_⟩,?_⟩;rw[cP]at q';rw[bt,show(s.abs.notes.map dF)[j]? =some (dF a.b) by show((s.notes.map BV.b).map dF)[j]? =_;rw[aP,aP,f];rfl];rw[<-cP]at q'⊢;exact q';refine(P.tt r').step g3 (λy d g=> ?_);obtain⟨_,_,_,_,_,_,_,A'⟩:=K;have:=A' y g;omega;show s.notes.length - Int.toNat ((j:Int)+1)<s.notes.length - Int.toNat (j:Int);omega
   rw[fe];rw[bz (l:=s.abs.notes.map dF) (by rw[aM,show s.abs.notes.length=s.notes.length from aM _];omega)]at K;rw[eY];refine⟨⟨k+1,ae,ae,?_,ae,P⟩,?_⟩;have e:xq ((x.map SC.abs).take (k+1))=xq ((x.map SC.abs).take k)++ [nG s.abs]++s.abs.kept.map IA++s.abs.notes.map dF:=by unfold xq;rw[bt,c7,cC];simp[Tq]
   rw[e];exact K;show x.length - Int.toNat ((k:Int)+1)<x.length - Int.toNat (k:Int);omega
 rw[fe];rw[bz (by rw[aM];omega)]at B;exact hk j' V O oc (B.mono f1.1) (f1.tt T)

end me
end
section
open Go.Fields
namespace gD
variable {h H:Heap} {R:dH} {p q:bH} {c:Nat}
variable {n:Nat}
structure RS where
 p:bH
 c:Nat
 xs:List BV
abbrev RS.val(t:RS):Value:=.slice t.p t.xs.length t.c
variable {ts:List RS}
def G2(x:List BV):(x.flatMap kR).length=x.length:=by rw[ky kR 1 yA,bJ]
theorem Q8(m:n<=1000000)(d: ∀P C H,Own H P 0 C 1 []->Fr No h H->(∀y,aN P y->h.size<=y)->R (.L P 0 C) H):
  Cl 341 #[.Z,.I (n:Int)] h R:=by
 refine kM (ay.of λJ i=> ?_);have E:IntKind.wrap .i64 ((n) - (IntKind.wrap .i64 (((0:Nat)) - ((0:Nat)))))=(n):=by rw[show IntKind.wrap .i64 (((0:Nat)) - ((0:Nat)))=0 from rfl,eY];omega
 rw[af (λe=>by grind)];subst i;refine ay.of λk b=> ?_;rw[E];by_cases j:n=0;subst j;subst b;exact d none 0 h (.nil rfl rfl rfl rfl) (Fr.refl _ _) (λy ⟨a,e,_⟩=>by cases e);rw[iE];refine⟨ae,(Jr tN zzkr ae ae ae λg H o l f=>⟨_,_,_,rfl,ae,?_⟩)⟩;rw[iV];subst b;exact d _ g H o f (λy ⟨a,e,E⟩=>by grind)
def Am{j:Nat}{t:RS}(a:ts[j]? =some t):(ts.take (j+1)).flatMap RS.xs=(ts.take j).flatMap RS.xs++t.xs:=by rw[bt,a,cC];simp
theorem LO{a:Addr}{m:Nat}(I:Row h (some a) (ts.map RS.val))(M: ∀t∈ts,Row h t.p (t.xs.flatMap kR))(L:n=ts.length)(Q:ts.length<=1000)(hl:(ts.flatMap RS.xs).length<=1000000)(hk: ∀H P C,Own H P (ts.flatMap RS.xs).length C 1 ((ts.flatMap RS.xs).flatMap kR)->Fr No h H->(∀y,aN P y->h.size<=y)->R (.slice P (ts.flatMap RS.xs).length C) H):
  Cl 268 #[.L (some a) n m] h R:=by
 subst L;have T: ∀j,((ts.take j).flatMap RS.xs).length<=(ts.flatMap RS.xs).length:=λj=>by
  conv=>rhs;rw[<-List.take_append_drop j ts]
  rw[cC,ak];omega
 have A: ∀{g:Heap}{j:Nat}{t:RS},Fr No h g->ts[j]? =some t->aQ g (a.add (Int.toNat (j:Int)*1))=some t.val:=λf Q=>by rw[aG,bJ];exact(I.frame f bD).cell (by grind)
 refine jV ⟨λsize i g=>g=h/\∃j:Nat,i=(j:Int)/\j<=ts.length/\size=((((ts.take j).flatMap RS.xs).length:Nat):Int),λ_ i _=>ts.length - i.toNat,⟨rfl,0,rfl,bg _,rfl⟩,?_⟩;rintro _ _ g ⟨rfl,j,rfl,K,rfl⟩;by_cases d:j<ts.length;rw[iE];have b:=ai d;have E:=bY List.length (Am b);rw[ak]at E;have V:=T (j+1);refine ay.of λJ D=>⟨ae,av.2 ⟨_,_,_,A (Fr.refl _ _) b,ay.of λX s=> ?_⟩⟩;have e:IntKind.wrap .i64 (((((ts.take j).flatMap RS.xs).length:Nat):Int)+((ts[j].xs.length:Nat):Int))=((((ts.take (j+1)).flatMap RS.xs).length:Nat):Int):=by rw[eY];omega
 rw[e]at s⊢;rw[af (λe=>cv (bj e))];subst s;subst D;dsimp only;rw[eY];exact⟨⟨rfl,j+1,ae,ae,rfl⟩,by show ts.length - Int.toNat ((j:Int)+1)<ts.length - Int.toNat (j:Int);omega⟩;rw[af (λe=>by grind)];have v:j=ts.length:=ae
 subst v;rw[fk];refine Q8 ae λp4 Z h4 U w z=>⟨_,_,_,rfl,?_⟩;refine⟨λl k u i G=>Fr No g G/\(∀y,aN l y->g.size<=y)/\∃j:Nat,i=(j:Int)/\j<=ts.length/\k=((ts.take j).flatMap RS.xs).length/\Own G l k u 1 (((ts.take j).flatMap RS.xs).flatMap kR),λ_ _ _ i _=>ts.length - i.toNat,⟨w,z,0,rfl,bg _,rfl,U⟩,?_⟩;rintro l k u i G ⟨F,r,j,rfl,K,rfl,o⟩;by_cases d:j<ts.length;rw[iE];have b:=ai d;have E:=bY List.length (Am b);rw[ak]at E;have V:=T (j+1);refine⟨ae,av.2 ⟨_,_,_,A F b,?_⟩⟩;refine du tN uN o ((M _ (cx d)).frame F bD) (by rw[G2,bJ]) (Kf _) ae ae λp6 c6 h6 O _ x B=>⟨_,_,_,rfl,?_⟩;rw[<-cC,<-Am b,<-E]at O;rw[<-E,eY];have a':=F.1;exact⟨⟨F.fresh x r,(λy S=>(B y S).elim (r y) (λh2=>ae)),j+1,ae,ae,rfl,O⟩,by grind⟩;grind
def Ia{g g4:Heap}{X d e f:List BV}{D i j k:fZ}{P m:bH}{C o:Nat}{b:cO}{E r s t:List (cO)}(u: ∀x∈X,x.ok g D)(v: ∀x∈d,x.ok g i)(w: ∀x∈e,x.ok g j)(z: ∀x∈f,x.ok g k)(Q:X.map BV.b=E)(B:d.map BV.b=r)(G:e.map BV.b=s)(J:f.map BV.b=t)(all: ∀y,D y\/i y\/j y\/k y->h.size<=y/\y<g.size)(F:Fr No g H)(L:g.size<=g4.size)(Z:g4.size<=H.size)(M:h.size<=g4.size)(A:Own H P b.length C 1 (bc b))(I: ∀y,aN P y->h.size<=y/\y<g4.size)(K:n=1+(X++(d++(e++f))).length)
  (O:Own H m n o 1 ((⟨P,C,b⟩::(X++(d++(e++f)))).flatMap kR)) (l: ∀y,aN m y->g4.size<=y):BL h H m n o (b::(E++(r++(s++t)))):=by
 subst Q B G J;refine⟨⟨P,C,b⟩::(X++(d++(e++f))),λy=>(D y\/i y\/j y\/k y)\/aN P y,by rw[bw];omega,O,bO,λx hx=> ?_,λy hy=> ?_,λy hy=> ?_⟩;rcases bG.1 hx with rfl|hx;exact BV.kZ A (λy hy=> .inr hy);rcases cG.1 hx with hx|hx;exact((u x hx).frame F bD).mono λy a=> .inl (.inl a);rcases cG.1 hx with hx|hx;exact((v x hx).frame F bD).mono λy a=> .inl (.inr (.inl a));rcases cG.1 hx with hx|hx;exact((w x hx).frame F bD).mono λy a=> .inl (.inr (.inr (.inl a)));exact((z x hx).frame F bD).mono λy a=> .inl (.inr (.inr (.inr a)));rcases hy with hy|hy;have:=all y hy;exact⟨ae,ae,λq=>cv (l y q)⟩;have:=I y hy;exact⟨ae,ae,λq=>cv (l y q)⟩;have:=l y hy;omega

end gD
end
section
open Go.Fields
namespace pg
open iZ (Ev dD jQ gP)
open gD
variable {h H:Heap} {R:dH} {s k:Nat} {X:Ft} {I:GY} {a:SS} {p:bH}
variable {e:Ev} {t sq:Nat}
def Tt(M:Mk h k e t sq)(l: jA h R (.agg #[.B e.lS,.U e.node,.U e.iA,.S e.host,.S e.kj,.U (t:Int),.U (sq:Int)])):
  Cl 262 #[pt k] h R:=by
 refine sF (aB.box λb n E j f=> ?_);have m:=f.get M id;refine ay.of λJ i=>⟨_,aj m,?_⟩;subst i;dsimp only;refine⟨_,aj m,_,aj m,_,aj m,_,aj m,_,aj m,_,aj m,_,aj m,aB.set j λg A c d=>aB.ld A (l g (f.fresh (Fr.of_eq c d) (λy e=>ae)))⟩
def UA(a:SS):List (cO):=me.xq a.A++(a.G.map nB.B0++(oF.Ez a.C++nz.ED a.B))
def Nf(a:SS):cO:=dF (gP a.e)++bU a.now++bU a.rf++bU a.tm++bU a.sq++bU (me.xq a.A).length++bU (a.G.map nB.B0).length++bU (oF.Ez a.C).length++bU (nz.ED a.B).length
def Ng{w b:Nat}{S:fZ}{T:cO}{P a':Nat}{n r:Nat}{K:bH->cM}(V:Wr h w S [])(c':Row h p (bc T))(ht:P=T.length)(hl:T.length<=100000000)(z:n<18446744073709551616/\r<=1000000000/\t<18446744073709551616/\sq<18446744073709551616)(hp: ∀y,aN p y->T≠ []->¬S y)(B:Bk h s I n r)(hb:aB.at h b e.lS e.node e.iA e.host e.kj (t:Int) (sq:Int))(nb: ¬S b)(ns: ¬S s)(hk: ∀g d,Wr g w d (dF T++bU n++bU r++bU t++bU sq)->Step S h d g->K (Sa w 0) g):
  Cl 221 #[.P w 0,.L p P a'] h λd' j=>
   ∃G,d'=.Q G/\
   aQ j (AA b 6)=some (.U (sq:Int))/\
   aQ j (AA b 5)=some (.U (t:Int))/\
   aQ j (AA s 7)=some (.I (r:Int))/\
   aQ j (AA s 6)=some (.U (n:Int))/\
   Cl 218 #[.Q G,.U (n:Int)] j λe' o=>
   ∃J,e'=.Q J/\
   aQ o (AA b 6)=some (.U (sq:Int))/\
   aQ o (AA b 5)=some (.U (t:Int))/\
   aQ o (AA s 7)=some (.I (r:Int))/\
   Cl 219 #[.Q J,.I (r:Int)] o λf' x=>
   ∃L,f'=.Q L/\
   aQ x (AA b 6)=some (.U (sq:Int))/\
   aQ x (AA b 5)=some (.U (t:Int))/\
   Cl 218 #[.Q L,.U (t:Int)] x λg' F=>
   ∃M,g'=.Q M/\
   aQ F (AA b 6)=some (.U (sq:Int))/\
   Cl 218 #[.Q M,.U (sq:Int)] F λh' b'=>
   ∃O,h'=.Q O/\K O b':=by
 subst ht;have c: ∀{g d}(i:Nat)(v:Value),Step S h d g->(#[Value.bool e.lS,.U e.node,.U e.iA,.S e.host,.S e.kj,.U (t:Int),.U (sq:Int)])[i]? =some v->aQ g (AA b i)=some v:=λi v D A=>D.fr.cell (fY hb A) nb;have C: ∀{g d}(i:Nat)(v:Value),Step S h d g->(#[pt I.t,pt I.r,pt I.c,pt I.o,pt I.p,pt I.k,.U (n:Int),.I (r:Int)])[i]? =some v->aQ g (AA s i)=some v:=λi v D A=>D.fr.cell (fY B A) ns;have l0:(dF T).length<=200000000:=by unfold dF;rw[ak];have:=bF T.length;omega
 have ln:=bF n;have lr:=bF r;have lt:=bF t;refine pR V bO c' rfl ae hp λg1 S1 E l=>⟨_,rfl,c _ _ l rfl,c _ _ l rfl,C _ _ l rfl,C _ _ l rfl,?_⟩;rw[dJ]at E;refine fD n E ae rfl z.1 λg2 S2 Z f=>⟨_,rfl,?_⟩;have f:=l.trans f;refine⟨c _ _ f rfl,c _ _ f rfl,C _ _ f rfl,gY Z (by rw[ak];omega) ae λg3 Q u m=>⟨_,rfl,?_⟩⟩;have m:=f.trans m;have u:Wr g3 w Q (dF T++bU n++bU r):=u;refine⟨c _ _ m rfl,c _ _ m rfl,fD t u (by simp only[ak];omega) rfl z.2.2.1 λg4 S4 W4 q=>⟨_,rfl,?_⟩⟩;have q:=m.trans q;refine⟨c _ _ q rfl,fD sq W4 (by simp only[ak];omega) rfl z.2.2.2 λg5 U W5 s5=>⟨_,rfl,hk g5 U W5 (q.trans s5)⟩⟩
def lG(e':Pt h s X I a)(G:Good a k)(b7:k<=30000)(tb:jk.vx h)(hk: ∀H p' l' c',BL h H p' l' c' (Nf a::UA a)->Fr No h H->R (.L p' l' c') H):
  Cl 193 #[pt s] h R:=by
 refine sE (fJ e'.cV ⟨_,rfl,?_⟩);rw[fe];obtain⟨Y,hp,_⟩:=id e';obtain⟨P',_⟩:=hp 5;refine⟨_,aj e'.cV,Tt P' λh2 n=>⟨_,_,_,_,_,_,_,rfl,aB.new λT' b4 eb hb U'=>⟨_,aj hb,_,aj hb,_,aj hb,_,aj hb,_,aj hb,?_⟩⟩⟩;have z':=n.tt U';refine iZ.mF a.e (tb.on z') G.e.2.2 λU C'=>⟨_,_,rfl,ay.of λO' hJ=> ?_⟩;rw[ah G.e.1]at hJ;have Z:=z'.tt C';have a2:=C'.get hb id;have B: ∀{g},Fr No U g->Bk g s I a.now a.rf:=λf=>f.get (Z.get e'.cV id) id;have Q':=e'.ord;have sm:=G.small Q' ae;have gl:=G.c.L;obtain⟨Lb,a8⟩:=e'.okB;have s0: ∀{g:Heap}{K:bH->Nat->Nat->cM},Fr No U g->(∀b p l c,BL g b p l c (me.xq a.A)->Fr No g b->K p l c b)->Cl 264 #[pt I.t] g λv b=> ∃p l c,v=.L p l c/\K p l c b:=λf hK=>me.lG (me.Has.frame (hp 0) (Z.tt f) bD) G.a λb p l c L f'=>⟨p,l,c,rfl,hK b p l c L f'⟩;have s1: ∀{g:Heap}{K:bH->Nat->Nat->cM},Fr No U g->(∀b p l c,BL g b p l c (a.G.map nB.B0)->Fr No g b->K p l c b)->Cl 265 #[pt I.r] g λv b=> ∃p l c,v=.L p l c/\K p l c b:=λf hK=>nB.lG (nB.Tb.on (hp 1) (Z.tt f)) (cv G.g.len) G.g.all (tb.on (Z.tt f)) λb p l c L f'=>⟨p,l,c,rfl,hK b p l c L f'⟩;have s2: ∀{g:Heap}{K:bH->Nat->Nat->cM},Fr No U g->(∀b p l c,BL g b p l c (oF.Ez a.C)->Fr No g b->K p l c b)->Cl 266 #[pt I.c] g λv b=> ∃p l c,v=.L p l c/\K p l c b:=λf hK=>oF.lG (oF.Ct.on (hp 2) (Z.tt f)) sm ae G.c.all (tb.on (Z.tt f)) λb p l c L f'=>⟨p,l,c,rfl,hK b p l c L f'⟩;have s3: ∀{g:Heap}{K:bH->Nat->Nat->cM},Fr No U g->(∀b p l c,BL g b p l c (nz.ED a.B)->Fr No g b->K p l c b)->Cl 267 #[pt I.o] g λv b=> ∃p l c,v=.L p l c/\K p l c b:=λf hK=>nz.lG (nz.GX.on (hp 3) (Z.tt f)) (cv G.b) λb p l c L f'=>⟨p,l,c,rfl,hK b p l c L f'⟩;have h': ∀{g:Heap}{x:Nat}{p1 p2 p3 p4:bH}{l1 c1 l2 c2 l3 c3 l4 c4:Nat},cu.at g x p1 l1 c1 p2 l2 c2 p3 l3 c3 p4 l4 c4->BL U g p1 l1 c1 (me.xq a.A)->BL U g p2 l2 c2 (a.G.map nB.B0)->BL U g p3 l3 c3 (oF.Ez a.C)->BL U g p4 l4 c4 (nz.ED a.B)->Fr No U g->O' (Sa x 0) g:=by
  intro g x p1 p2 p3 p4 l1 c1 l2 c2 l3 c3 l4 c4 ha L1 L2 J C fg;subst hJ;dsimp only;have k':=fg.get a2 id;have lb:=aE k';have ls:=aE (B fg);refine ay.of λJ1 a0=> ?_;have tl:(gP a.e).length<=100000000:=cw (iZ.pU G.e.1 G.e.2.2) ae;have W: ∀{A:Heap}{a':Nat}{S:fZ},Wr A a' S (dF (gP a.e)++bU a.now++bU a.rf++bU a.tm++bU a.sq)->Fr No g A->(∀y,S y->g.size<=y)->J1 (Sa a' 0) A:=by
   intro A a' S W2 D' gS;subst a0;dsimp only;have a1:=D'.get ha id;obtain⟨q0,q1,q2,q3,_⟩:=cu.held a1;rw[cA]at q0;refine av.2 ⟨_,_,_,q0,_,_,_,q1,_,_,_,q2,_,_,_,q3,?_⟩;obtain⟨r',D1,rfl,o1,e1,d1,b1,i1⟩:=L1;obtain⟨s',D2,rfl,o2,e2,d2,b2,i2⟩:=L2;obtain⟨t',D3,rfl,o3,e3,d3,b3,i3⟩:=J;obtain⟨u',D4,rfl,o4,e4,d4,A',i4⟩:=C;have n1:=bY List.length e1;have n2:=bY List.length e2;have n3:=bY List.length e3;have n4:=bY List.length e4;rw[aM]at n1 n2 n3 n4;have m1:=me.Ts G.a;have b8:=G.a.le;have m2:=G.g.len;have m3:(oF.Ez a.C).length=a.C.L.length+1:=by unfold oF.Ez;simp
   have m4:(nz.ED a.B).length=a.B.items.length+1:=by unfold nz.ED;simp
   have b9:=a8.le;rw[aM]at n2;let M:List Nat:= [r'.length,s'.length,t'.length,u'.length]
   have a5:(dF (gP a.e)++bU a.now++bU a.rf++bU a.tm++bU a.sq).length<=1000000000:=by have:=bF a.now;have:=bF a.rf;have:=bF a.tm;have:=bF a.sq;have:=bF (gP a.e).length;simp only[ak,dF];omega
   generalize a4:dF (gP a.e)++bU a.now++bU a.rf++bU a.tm++bU a.sq=g' at W2 a5;have fl: ∀l:List Nat,(l.flatMap bU).length<=10*l.length:=λl=>by
    induction l with
    |nil=>exact bf _
    |cons d' l ih=>rw[eM,ak,bw];have:=bF d';omega
   refine⟨λx' Q=> ∃(j:Nat)(S':fZ),x'=(j:Int)/\j<=4/\Wr Q a' S' (g'++(M.take j).flatMap bU)/\Step S A S' Q,λx' _=>4 - x'.toNat,⟨0,S,rfl,ae,dQ W2,Step.refl _ _⟩,?_⟩;rintro _ Q ⟨j,S',rfl,hj,W3,M'⟩;have lj:(g'++(M.take j).flatMap bU).length<=1000000100:=by
    have:=fl (M.take j);rw[bM]at this;rw[ak];have:min j M.length<=4:=ae
    omega
   have one: ∀(d':Nat),M[j]? =some d'->d'<=40000->Cl 219 #[.P a' 0,.I (d':Int)] Q λv F'=> ∃b0,v=.Q b0/\((∃(j':Nat)(S':fZ),IntKind.wrap .i64 ((j:Int)+1)=(j':Int)/\j'<=4/\Wr F' a' S' (g'++(M.take j').flatMap bU)/\Step S A S' F')/\4 - (IntKind.wrap .i64 ((j:Int)+1)).toNat<4 - Int.toNat (j:Int)):=by intro d' hn hb;have b6:j<4:=(aS.1 hn).1;refine gY W3 ae ae λz S4 W4 a9=>⟨_,rfl,?_⟩;have W4:Wr z a' S4 ((g'++(M.take j).flatMap bU)++bU d'):=W4;rw[eY];refine⟨⟨j+1,S4,ae,ae,?_,M'.trans a9⟩,ae⟩;rw[bt,hn,cC,<-cP];simpa using W4
   by_cases a6:j<4;rw[iE];refine⟨ae,λe=> ?_,λe=> ?_,λe=> ?_,λe=> ?_,trivial⟩;obtain rfl:j=0:=ae
   exact one r'.length rfl ae;obtain rfl:j=1:=ae
   exact one s'.length rfl ae;obtain rfl:j=2:=ae
   exact one t'.length rfl ae;obtain rfl:j=3:=ae
   exact one u'.length rfl ae
   .rw[af (λe=>a6 (cv (bj e)))];obtain rfl:j=4:=ae
    clear one;have eh:Nf a=g'++(M.take 4).flatMap bU:=by unfold Nf;rw[a4,<-n1,aM,<-n2,<-n3,<-n4];simp[M]
    rw[eh]at hk;generalize g'++(M.take 4).flatMap bU=hd at W3 hk lj;refine av.2 (gJ W3 ae λp5 c5 z o5 o i5=>⟨_,_,_,rfl,?_⟩);have E':Fr No g Q:=D'.fresh M'.fr gS;have w':=E'.tt o;let V:List gD.RS:= [⟨p1,c1,r'⟩,⟨p2,c2,s'⟩,⟨p3,c3,t'⟩,⟨p4,c4,u'⟩]
    have et:V.flatMap gD.RS.xs=r'++(s'++(t'++u')):=by simp[V]
    have lt:(V.flatMap gD.RS.xs).length<=40000:=by rw[et];simp only[ak];omega
    have B': ∀{b:Heap}{K:dH},Fr No z b->(∀H p' c',Own H p' (V.flatMap gD.RS.xs).length c' 1 ((V.flatMap gD.RS.xs).flatMap kR)->Fr No b H->(∀y,aN p' y->b.size<=y)->K (.slice p' (V.flatMap gD.RS.xs).length c') H)->Cl 268 #[.L (bV (Sa x 0) 4 0 1) (4 - 0) (4 - 0)] b K:=by intro b K f hK;rw[iV];have F:=w'.tt f;refine LO (ts:=V) (.inr ⟨_,rfl,cu.held (F.get ha id)⟩) (λc0 ht=> ?_) rfl (by show 4<=1000;omega) ae hK;rcases bG.1 ht with rfl|ht;exact o1.iy.frame F bD;rcases bG.1 ht with rfl|ht;exact o2.iy.frame F bD;rcases bG.1 ht with rfl|ht;exact o3.iy.frame F bD;obtain rfl:=bT.1 ht;exact o4.iy.frame F bD
    have done: ∀{b:Heap}{b5 cc:Nat}{pc:bH},Fr No z b->Own b (Sa b5 0) 1 1 1 [.L p5 hd.length c5]->z.size<=b5->Own b pc (V.flatMap gD.RS.xs).length cc 1 ((V.flatMap gD.RS.xs).flatMap kR)->
      bu Tryz.prog (Builtin.append_ #[164,164] 164 #[.L (Sa b5 0) 1 1,.slice pc (V.flatMap gD.RS.xs).length cc]) b λv H=> ∃p l c,v=.L p l c/\R (.L p l c) H:=by
     intro b b5 cc pc f ol K' oc;refine du tN uN ol oc.iy (by rw[G2,bJ]) (Kf _) ae ae λp' c' H o' _ f' V'=>⟨_,_,_,rfl,?_⟩;have fF:=f.fresh f' (λy ⟨R',e,e2⟩=>by cases e;rw[<-e2];exact K');have F:=w'.tt fF;have lo: ∀y,aN p' y->z.size<=y:=λy hy=>(V' y hy).elim (λ⟨R',e,e2⟩=>by cases e;rw[<-e2];exact K') (λy'=>cw f.1 y');have v':=Z.1;have z3:=E'.1;have z4:=w'.1;have zF:=fF.1;have zg:=fg.1;rw[et]at o'⊢;refine hk H p' _ c' (Ia (g4:=z) d1 d2 d3 d4 e1 e2 e3 e4 (λy hy=> ?_) F ae ae ae (o5.frame fF bD) (λy hy=>⟨cv (i5 y hy),o5.dW hy⟩) rfl o' lo) ((Z.tt fg).tt F);rcases hy with hy|hy|hy|hy;exact⟨cw v' (b1 y hy).1,(b1 y hy).2.1⟩;exact⟨cw v' (b2 y hy).1,(b2 y hy).2.1⟩;exact⟨cw v' (b3 y hy).1,(b3 y hy).2.1⟩;exact⟨cw v' (A' y hy).1,(A' y hy).2.1⟩
    have L': ∀(b:Heap),Own (b.push (.C #[.L p5 hd.length c5] 69)) (Sa b.size 0) 1 1 1 [.L p5 hd.length c5]:=λb=> .row _ 0 _ _ rfl aU ae bO rfl (λj v hj=>by rw[aX];simpa using hj);refine⟨bn (B' (Fr.push _ _) λE p6 c6 O r i6=>⟨_,_,_,rfl,done ((Fr.push _ _).tt r) ((L' z).frame r bD) (bf _) O⟩),B' (Fr.refl _ _) λT p6 c6 O r i6=>⟨_,_,_,rfl,bn (done (r.tt (Fr.push _ _)) (L' T) r.1 (O.frame (Fr.push (S:=λ_=>False) _ _) bD))⟩,trivial⟩
  have bS: ∀{S:fZ},(∀y,S y->g.size<=y)->¬S T'/\¬S s:=λgS=>⟨λe=>cv (gS _ e),λe=>cv (gS _ e)⟩;have nn:a.now<18446744073709551616/\a.rf<=1000000000/\a.tm<18446744073709551616/\a.sq<18446744073709551616:=by have:=G.n;have:=G.t;have:=G.r;omega
  have tx:(str (gP a.e)).data.toList=gP a.e:=rfl;refine⟨_,aj (B fg),_,aj (B fg),_,aj k',_,aj k',?_,?_,trivial⟩;refine gD.ft λX' a' S W6 P i'=>⟨_,rfl,?_⟩;have F6:=fg.tt P;have w:=P.get k' id;refine⟨aj w,aj w,aj (B F6),aj (B F6),Uo λp7 c7 Z' r7 ic D n'=>⟨_,_,_,rfl,?_⟩⟩;have F7:=F6.tt D;have b':=D.get w id;refine⟨aj b',aj b',aj (B F7),aj (B F7),Ng (W6.frame D bD) r7 (by rw[tx];rfl) tl nn (λy hy _ hs=>iI (n' y hy) (W6.lt y hs)) (B F7) b' (bS i').1 (bS i').2 λA S2 W2 m'=>W W2 ((P.tt D).fresh m'.fr i') (λy hy=>(m'.new y hy).elim (i' y) (λy'=>iI P.1 D.1))⟩;refine Uo λp7 c7 X' r7 ic P i'=>⟨_,_,_,rfl,?_⟩;have F6:=fg.tt P;have w:=P.get k' id;refine⟨aj w,aj w,aj (B F6),aj (B F6),gD.ft λZ' a' S W7 D n'=>⟨_,rfl,?_⟩⟩;have F7:=F6.tt D;have b':=D.get w id;have q': ∀y,S y->g.size<=y:=λy hy=>cw P.1 (n' y hy);refine⟨aj b',aj b',aj (B F7),aj (B F7),Ng W7 (r7.frame D bD) (by rw[tx];rfl) tl nn (λy hy a7 hs=>iI (jT r7 (by rw[tx];intro e;exact a7 (by cases ht:gP a.e with|nil=>rfl|cons=>rw[ht]at e;simp[bc]at e)) hy) (n' y hs)) (B F7) b' (bS q').1 (bS q').2 λA S2 W2 m'=>W W2 ((P.tt D).fresh m'.fr q') (λy hy=>(m'.new y hy).elim (q' y) (λy'=>iI P.1 D.1))⟩
 refine⟨_,aj (B (Fr.refl _ _)),_,aj (B (Fr.refl _ _)),_,aj (B (Fr.refl _ _)),_,aj (B (Fr.refl _ _)),?_,?_,trivial⟩;refine s0 (Fr.refl _ _) λg1 p1 l1 c1 L1 d=>⟨aj (B d),aj (B d),aj (B d),?_,?_,trivial⟩;refine s1 d λA p2 l2 c2 L2 n=>⟨aj (B (d.tt n)),aj (B (d.tt n)),?_,?_,trivial⟩;have q:=d.tt n;refine s2 q λQ p3 l3 c3 J i=>⟨aj (B (q.tt i)),?_,?_,trivial⟩;have u:=q.tt i;refine s3 u λz p4 l4 c4 C m=>cu.new λx T eb a3 o=> ?_;exact h' a3 (L1.on (n.tt (i.tt (m.tt o)))) ((L2.mono d.1).on (i.tt (m.tt o))) ((J.mono q.1).on (m.tt o)) ((C.mono u.1).on o) (u.tt (m.tt o));have u:=q.tt i;refine cu.box λx z eb J' m=>⟨aj (B (u.tt m)),?_⟩;have F4:=u.tt m;refine s3 F4 λT p4 l4 c4 C o=>cu.set (o.get J' id) λE w z6 O=> ?_;have r:Fr (λy=>y=x) T E:=Fr.of_eq z6 O;have T3:Fr No Q E:=(m.tt o).fresh r (λy e=>ae);exact h' w (L1.on (n.tt (i.tt T3))) ((L2.mono d.1).on (i.tt T3)) ((J.mono q.1).on T3) ((C.frame r (λy hy e=>cv (aE J'))).mono F4.1) (u.tt T3);have q:=d.tt n;refine cu.box λx Q eb I' i=>⟨aj (B (q.tt i)),aj (B (q.tt i)),?_⟩;have u:=q.tt i;have lb:=aE I';refine s2 u λz p3 l3 c3 J m=>⟨aj (B (u.tt m)),s3 (u.tt m) λT p4 l4 c4 C o=>cu.set ((m.tt o).get I' id) λE w z6 O=> ?_⟩;have F4:=u.tt m;have r:Fr (λy=>y=x) T E:=Fr.of_eq z6 O;have z4:=m.1;have T2:Fr No A E:=(i.tt (m.tt o)).fresh r (λy e=>ae);exact h' w (L1.on (n.tt T2)) ((L2.mono d.1).on T2) (((J.on o).frame r (λy hy e=>ae)).mono u.1) ((C.frame r (λy hy e=>ae)).mono F4.1) (q.tt T2);refine cu.box λx A eb H' n=>⟨aj (B (d.tt n)),aj (B (d.tt n)),aj (B (d.tt n)),?_⟩;have q:=d.tt n;have lb:=aE H';refine s1 q λQ p2 l2 c2 L2 i=>⟨aj (B (q.tt i)),aj (B (q.tt i)),s2 (q.tt i) λz p3 l3 c3 J m=>⟨aj (B (q.tt (i.tt m))),s3 (q.tt (i.tt m)) λT p4 l4 c4 C o=>cu.set ((i.tt (m.tt o)).get H' id) λE w z6 O=> ?_⟩⟩;have u:=q.tt i;have F4:=u.tt m;have r:Fr (λy=>y=x) T E:=Fr.of_eq z6 O;have z3:=i.1;have z4:=m.1;have T1:Fr No g1 E:=(n.tt (i.tt (m.tt o))).fresh r (λy e=>ae);exact h' w (L1.on T1) (((L2.on (m.tt o)).frame r (λy hy e=>ae)).mono q.1) (((J.on o).frame r (λy hy e=>ae)).mono u.1) ((C.frame r (λy hy e=>ae)).mono F4.1) (d.tt T1);refine cu.box λx g1 eb G' d=>⟨aj (B d),aj (B d),aj (B d),aj (B d),?_⟩;have lb:=aE G';refine s0 d λA p1 l1 c1 L1 n=>⟨aj (B (d.tt n)),aj (B (d.tt n)),aj (B (d.tt n)),s1 (d.tt n) λQ p2 l2 c2 L2 i=>⟨aj (B (d.tt (n.tt i))),aj (B (d.tt (n.tt i))),s2 (d.tt (n.tt i)) λz p3 l3 c3 J m=>⟨aj (B (d.tt (n.tt (i.tt m)))),s3 (d.tt (n.tt (i.tt m))) λT p4 l4 c4 C o=>cu.set ((n.tt (i.tt (m.tt o))).get G' id) λE w z6 O=> ?_⟩⟩⟩;have q:=d.tt n;have u:=q.tt i;have F4:=u.tt m;have r:Fr (λy=>y=x) T E:=Fr.of_eq z6 O;have z2:=n.1;have z3:=i.1;have z4:=m.1;exact h' w (((L1.on (i.tt (m.tt o))).frame r (λy hy e=>ae)).mono d.1) (((L2.on (m.tt o)).frame r (λy hy e=>ae)).mono q.1) (((J.on o).frame r (λy hy e=>ae)).mono u.1) ((C.frame r (λy hy e=>ae)).mono F4.1) ((d.tt (n.tt (i.tt (m.tt o)))).fresh r (λy e=>ae))

end pg
end
section
namespace Ask
open iZ (Ev dD)
structure Rq where
 id:Nat
 kind:Int
 ep:Ev
 dest:Ev
 wy:Int
 num:Int
 oH:Int
 wC:cO
 kG:Nat
 token:Nat
 on:Bool
deriving DecidableEq
def jh(x:Rq):Rq:=⟨x.id,x.kind,.zero,.zero,0,0,0, [],0,0,false⟩
def uL(x:Rq):Rq:=
 if x.kind=1\/x.kind=3 then { jh x with ep:=x.ep,wy:=x.wy }
 else if x.kind=2\/x.kind=6 then { jh x with ep:=x.ep }
 else if x.kind=4 then { jh x with ep:=x.ep,dest:=x.dest,wC:=x.wC,kG:=x.kG,on:=x.on }
 else if x.kind=5\/x.kind=8\/x.kind=9 then { jh x with num:=x.num }
 else if x.kind=7 then { jh x with ep:=x.ep,oH:=x.oH }
 else if x.kind=10 then { jh x with on:=x.on }
 else if x.kind=12 then { jh x with token:=x.token }
 else jh x
def rO(e:Ev):Bool:=dD e && !decide (e=.zero)
def qZ(x:Rq):Bool:=
 if x.kind=1\/x.kind=3 then rO x.ep && decide (x.wy≥0) && decide (x.wy<=2)
 else if x.kind=2\/x.kind=6 then rO x.ep
 else if x.kind=4 then rO x.ep && rO x.dest && decide (x.wC.length<=200) && decide (x.kG≥1) && decide (x.kG<=1099511627776)
 else if x.kind=5\/x.kind=8\/x.kind=9 then decide (x.num≥1) && decide (x.num<=1099511627776)
 else if x.kind=7 then rO x.ep && decide (x.oH≥1) && decide (x.oH<=1000)
 else if x.kind=12 then decide (x.token≥1) && decide (x.token<=2147483648)
 else decide (x.kind=10\/x.kind=11)
def EI(x:Rq):Bool:=decide (x.id≥1) && decide (x.id<=1099511627776) && qZ x && decide (x=uL x)

end Ask
end
section
namespace Bn
open Cb
open iZ (Ev dD jQ)
variable {V:cO→Bool} {h a H:Heap} {R:dH} {D:Nat→Prop}
variable {b i o:Nat} {x:CV} {c:Array Value} {ts:List Tr} {t:Tr} {T:TypeId}
theorem YT{l:List (bH)}(f:Fr (λy=>y=b) h H)(d: ∀p∈l,p.map (·.block)≠some b):Kp h H l:=f.St λp g x e j=>d p g (by grind)
def LP{y:aw.S}{x:Ev}{K:aw.S->cM}(e:aw.ff h b y)(j: ∀H,Fr (λy=>y=b) h H->K x.s H):
  aw.cR h (AA b 0) x.s λg=>aw.ck g (AA b 0) λr=>K r g:=
 aw.fB (x:=x.s) e λg d f _=>aw.dZ d (j g f)
def VD(l:cO):(!((⟨l.toArray⟩:bC).toList==(⟨#[]⟩:bC).toList))= !l.isEmpty:=bO
theorem IB{s:bC}(M:jk.Mx h)(O:s.size<1000000)(C: jA h R (.T #[jQ (Ba s.data.toList),.B (yq s.data.toList)])):Cl 391 #[.S s] h R:=by
 refine xh (aw.cE λb L J v F=>jk.N9 ⟨_,_,rfl,jk.HZ (M.on F) ?_ ⟨_,_,_,rfl,aw.fX λI j K d m=>aw.dZ d ?_⟩⟩);show(Lib.trimPrefix s.data.toList _).length<_;have:=iZ.lW s;unfold Lib.trimPrefix;split;grind;omega;have E:(⟨(Lib.trimPrefix s.data.toList (⟨#[47,47]⟩:bC).data.toList).toArray⟩:bC).data.toList=Lib.trimPrefix s.data.toList [47,47]:=bO
 rw[E]at d⊢;rw[show(⟨#[47]⟩:bC).data.toList= [47]from rfl]at d⊢;rw[show(⟨#[47,47]⟩:bC).data.toList= [47,47]from rfl];have z:(⟨false,0,0,⟨(Lib.cut (Lib.trimPrefix s.data.toList [47,47]) [47]).1.toArray⟩,⟨(Lib.cut (Lib.trimPrefix s.data.toList [47,47]) [47]).2.1.toArray⟩⟩:aw.S)=(Ba s.data.toList).s:=rfl;rw[z]at d⊢;have Z:=F.1;have w:=F.tt m;have P:=aE v;have B:=m.get v id;have done: ∀g q,Fr No j g->q=yq s.data.toList->aw.cR g (AA b 0) (Ba s.data.toList).s λG=>aw.ck G (AA b 0) λr=>R (.T #[r.agg,.B q]) G:=λg q p e=>LP (p.get B id) λG f=>by rw[e];exact C G ((w.tt p).fresh f (λy e=>ae))
 rw[VD];cases k:Lib.hasPrefix s.data.toList [47,47]with
 |false=>exact done j _ (Fr.refl _ _) (by unfold yq;rw[k];rfl)
 |true=>
  rw[ah rfl];cases l:(Lib.cut (Lib.trimPrefix s.data.toList [47,47]) [47]).2.2 with
  |false=>exact done j _ (Fr.refl _ _) (by unfold yq;rw[k,l];rfl)
  |true=>
   rw[ah rfl];cases u:(Lib.cut (Lib.trimPrefix s.data.toList [47,47]) [47]).1.isEmpty with
   |true=>exact done j _ (Fr.refl _ _) (by unfold yq;rw[k,l,u];rfl)
   |false=>rw[ah (show(!false)=true from rfl)];exact aw.dZ d (iZ.fA (Ba s.data.toList) λA n=>⟨_,rfl,n.kp,done A _ n (by unfold yq;rw[k,l,u];rfl)⟩)
def t64:jL Tryz.prog 68 62 1 8 (.U 0):=⟨zzkr,zzkr,rfl⟩
def u64:Tryz.prog.underlying 68=some (.slice 62):=zzkr
abbrev nc(l:List Tr):List Value:=l.map λt=> .int .u64 (t.n:Int)
def elem{D:fZ}{q:bH}{l c:Nat}{d:List CV}(L:ny h D q l c d)(f:dT h D ts d)(j:i<ts.length): ∃(A:Addr)(y:CV),q=some A/\cz (A.add (i*4)) y.s.l 0 h/\hM h D (at_ ts i) y/\d[i]? =some y:=by have k:=f.len;have e:d[i]? =some (d[i]' ae):=ai _;obtain⟨t,g,T⟩:=f.get e;obtain⟨A,rfl⟩:=L.row.any gI;refine⟨A,_,rfl,L.row.gL gI e,?_,e⟩;unfold at_;rw[aL,g];exact T
def jR(d:i<ts.length):room (at_ ts i)<=dG ts:=by unfold at_;rw[aL,ai d];exact mN (cx d)
theorem Kv(B:KV h t x)(hr:room t<=1000000)(K:t.k=4->t.l.length=2->Ed t.l=true->∀H p c,Row H p (nc t.l)->Fr No h H->R (.T #[.L p 2 c,.B true]) H)(z: ¬(t.k=4/\t.l.length=2/\Ed t.l=true)->jA h R (.T #[.Z,.B false])):Cl 392 #[x.agg,.I 2] h R:=by
 have f':=B;cases t with
 |mk k d' b l=>
  simp only[room]at hr;have K:k=4->l.length=2->Ed l=true->∀H p c,Row H p (nc l)->Fr No h H->R (.T #[.L p 2 c,.B true]) H:=K;have z: ¬(k=4/\l.length=2/\Ed l=true)->∀H,Fr No h H->R (.T #[.Z,.B false]) H:=z;unfold hM at B;obtain⟨⟨rfl,rfl,rfl,e'⟩,ys,L,C⟩:=B;have ln:=C.len;have e0:=L.len;refine Ae (x:=x.s) (aa.cE λbb u eb v E=>ay.of λJ Z=>⟨_,aj v,?_⟩);have no: ¬(x.k=4/\l.length=2)->J true u:=λd=>by grind
  by_cases I:x.k=4
  case neg=>grind
  rw[af (dQ I)];refine⟨_,_,_,aj v,?_⟩;by_cases l2:l.length=2
  case neg=>grind
  rw[show((x.ll:Int) !=2)=false by grind];subst Z;rw[fe];have sl:x.s.Fw=2:=by show x.ll=2;omega
  refine⟨_,_,_,aj v,?_⟩;refine⟨λp len c t g=> ∃i:Nat,t=(i:Int)/\i<=2/\i=len/\Own g p i c 1 (nc (l.take i))/\(∀y,aN p y->u.size<=y)/\Fr No u g/\Ed (l.take i)=true,λ_ _ _ t _=>2 - t.toNat,⟨0,rfl,ae,rfl,by rw[fy];exact .nil rfl rfl rfl rfl,(λy ⟨A,e,_⟩=>by cases e),Fr.refl _ _,by rw[fy];rfl⟩,?_⟩;rintro p _ c _ g ⟨i,rfl,hi,rfl,O,M,F,d⟩;by_cases a':i<2;rw[iE];have n:=E.tt F;obtain⟨A,y,P,hh,T,j⟩:=elem (L.frame n bD) (C.on n) (i:=i) ae;refine⟨ae,cf.2 ⟨A,P,(aa.gT (x:=y.s) (by rw[aG];exact hh) (aa.fX (x:=y.s) λb1 h5 c' w r=>aa.dZ w ⟨_,aj w,fD λh6 f=>aa.ex (nv y.n).s ⟨rfl,f.kp,?_⟩⟩))⟩⟩;have ra:=jR (ts:=l) (i:=i) ae;have Q:l.take (i+1)=l.take i++ [at_ l i]:=by rw[bt];unfold at_;rw[aL,ai ae];rfl
  have yn:y.n=(at_ l i).n:=by revert T;generalize at_ l i=b';intro T;cases b';unfold hM at T;exact T.1.2.1
  refine jx (t:=at_ l i) (s:=num y.n) (x:=y) (y:=nv y.n) (T.on (r.tt f)) pP ae λX s=>⟨_,rfl,?_⟩;rw[yn];cases q:pG (at_ l i) (num (at_ l i).n)with
  |false=>rw[iE];refine z (λe=> ?_) X (n.tt (r.tt (f.tt s)));have:=eG.1 e.2.2 (at_ l i) (by unfold at_;rw[aL,ai ae];exact cx _);rw[q]at this;cases this
  |true=>rw[fe];have m:=r.tt (f.tt s);refine⟨_,aj ((f.tt s).get w id),hX t64 u64 (O.frame m bD) rfl (λg' G=>by simp at G;rw[G];rfl) ae ae λp2 c2 h9 o9 S U=>⟨_,_,_,rfl,?_⟩⟩;rw[df (n:=(i:Int)+1) ae ae];refine⟨⟨i+1,ae,ae,ae,?_,λy j=> ?_,(F.tt m).fresh S (λy j=>M y j),?_⟩,by grind⟩;grind;rcases U y j with A|A;exact M y A;have:=F.1;have:=m.1;omega;rw[Q];unfold Ed at d⊢;rw[List.all_append,d];simp[q]
  rw[af (λe=>a' (cv (bj e)))];obtain rfl:i=2:=ae
  rw[bz ae]at d O;exact K I l2 d g p c O.iy (E.tt F)
def hM.kn(e:hM h D t x):x.k=t.k/\x.n=t.n/\x.v.b=t.b/\x.ll=t.l.length/\x.v.ok h D/\∃y,ny h D x.q x.ll x.cl y/\dT h D t.l y:=by
 cases t with
 |mk k n b l=>have⟨⟨A,f,g,j⟩,y,L,d⟩:=e;exact⟨A,f,g,by rw[L.len,<-d.len];rfl,j,y,L,d⟩
def oW :dG t.l+t.b.length+9=room t:=by cases t;simp only[room,Tr.l,Tr.b];omega
def W9{p:Addr}{n:Nat}(h:p.block≠b):(some (p.add n)).map Addr.block≠some b:=by simp only[dB,kX];exact λe=>h (bL e)
def Q9(U:lU V a)(c3:Fr No a h)(mx:jk.Mx h)(tx:KV h t x)(hr:room t<=900000)(K: ∀e,pL V t=some e->jA h R (.T #[jQ e,.I 0]))(k:pL V t=none->jA h R (.T #[jQ .zero,.I 3])):Cl 325 #[x.agg] h R:=by
 obtain⟨xk,xn,xb,xl,xv,ys,L,TS⟩:=hM.kn tx;have rl:=oW (t:=t);refine FR (x:=x.s) (aa.cE λb h1 eb hb f1=>aw.cE λb1 h2 d0 G' B=>ay.of λO' hJ=>aa.dZ (B.get hb id) (fA U (c3.tt (f1.tt B)) ((tx.on f1).on B) ae λh3 f3=>⟨_,rfl,?_⟩));have A:=f1.tt (B.tt f3);have a':=(B.tt f3).get hb id;have H':=f3.get G' id;have zb:=aE hb;have f0:=aE G';have z1:=f1.1;have z2:=B.1;have z3:=f3.1;have Z:pL V t=none->O' true h3:=λhn=>by subst hJ;dsimp only;rw[ah rfl];exact LP (x:=.zero) H' λg f=>k hn g (A.fresh f (λy e=>ae))
 cases hR:iq V t with
 |false=>exact Z (by unfold pL;rw[af (λe=>by rw[hR]at e;cases e.1)])
 |true=>
 rw[af (show¬(!true)=true by decide)];refine⟨_,aj a',?_⟩;have e4:x.s.f0=t.k:=xk;rw[e4];by_cases k4:t.k=4
 case neg=>rw[ah (dQ k4)];exact Z (by unfold pL;rw[af (λe=>k4 e.2.1)])
 rw[af (dQ k4)];refine⟨_,_,_,aj a',?_⟩;have el:x.s.Fw=t.l.length:=xl;rw[el];by_cases l2:t.l.length=2
 case neg=>rw[show((t.l.length:Int) !=2)=true by simp only[fp,ne_eq];omega];exact Z (by unfold pL;rw[af (λe=>l2 e.2.2)])
 rw[show((t.l.length:Int) !=2)=false by simp only[bne_eq_false_iff_eq];omega];clear Z;subst hJ;dsimp only;rw[af (show¬false=true by decide)];unfold pL at K k;rw[ah ⟨hR,k4,l2⟩]at K k;obtain⟨a0,z,Q',I',c',_⟩:=elem (L.frame A bD) (TS.on A) (i:=0) ae;obtain⟨a1,r,R',J',d',_⟩:=elem (L.frame A bD) (TS.on A) (i:=1) ae;have r0:=jR (ts:=t.l) (i:=0) ae;have r1:=jR (ts:=t.l) (i:=1) ae;generalize at_ t.l 0=P at c' r0 K k;generalize at_ t.l 1=d at d' r1 K k;refine ay.of λJ1 a8=>⟨_,_,_,aj a',ae,cf.2 ⟨a0,Q',aa.gT (x:=z.s) I' ⟨_,_,_,aj a',ae,cf.2 ⟨a1,R',aa.gT (x:=r.s) J' ?_⟩⟩⟩⟩;have K': ∀g v' t',aa.ff g v' z.s->aa.ff g t' r.s->Fr No h3 g->J1 (Sa v' 0) (Sa t' 0) g:=by
  intro g v' t' hs b7 p;subst a8;have Fg:=A.tt p;have zg:=p.1;refine aw.cE λE v d1 p' l=>ay.of λX F'=>ay.of λJ3 a9=> ?_;have s':=l.get hs id;have O:=l.get b7 id;have r':=(p.tt l).get H' id;have f2:=aE p';have S:=Fg.tt l;have z6:=l.1;have C': ∀G e,aw.ff G E e.s->Fr (λy=>y=E) v G->(jA h R (.T #[jQ e,.I 0]))->X true G:=λG e he f hk=>by subst F';rw[fe];exact aw.dZ he (LP (f.get r' ae) λm F=>hk m ((S.fresh f (λy e=>ae)).fresh F (λy e=>ae)))
  have b': ∀G,Fr (λy=>y=E) v G->(jA h R (.T #[jQ .zero,.I 3]))->X false G:=λG f hk=>by subst F';rw[iE];exact LP (x:=.zero) (f.get r' ae) λm F=>hk m ((S.fresh f (λy e=>ae)).fresh F (λy e=>ae))
  have L': ∀{G},Fr No v G->Fr (λy=>y=E) v G:=λf=>f.mono λ_ _=>False.elim;obtain⟨c6,e8,c4,e7,c7,e9,L1,c8⟩:=hM.kn d';have e6:=oW (t:=d);have j3: ∀q G,Fr No v G->q=decide (pG P (num 1)=true/\pG d (num 0)=true)->J3 q G:=by
   intro q G f M;subst a9;refine ay.of λJ4 b0=> ?_;cases q with
   |true=>rw[ah rfl];have c:=bj M.symm;exact LP (x:=.zero) (f.get r' id) λm F=>K _ (by rw[ah c]) m ((S.tt f).fresh F (λy e=>ae))
   |false=>
    rw[fe];have c:=fh M.symm;rw[af c]at K k;have b9:=f.get s' id;have e1:=f.get O id;refine ay.of λJ5 b2=>av.2 (aa.dZ b9 (fD (n:=1) λd5 j'=>aa.ex (nv 1).s ⟨rfl,j'.kp,jx (x:=z) (y:=nv 1) (c'.on (p.tt (l.tt (f.tt j')))) pP ae λd6 Z'=>⟨_,rfl,?_⟩⟩));have j5: ∀q m,Fr No v m->q=decide (pG P (num 1)=true/\d.k=3)->J5 q m:=by
     intro q m F M;have c2:=F.get s' id;have b8:=F.get O id;have G7:=p.tt (l.tt F);subst b2;refine ay.of λJ6 b5=> ?_;have j6: ∀q g,X q g->J6 q g:=λq g hh=>by subst b5;subst b0;exact hh
     cases q with
     |true=>
      rw[ah rfl];have c5:=bj M.symm;rw[ah c5]at K k;have ev:r.v.b=d.b:=c4;refine av.2 ⟨_,_,_,aj b8,str d.b,gD.conv (by rw[<-ev];exact(c7.frame G7 bD).row) (by show r.v.b.length=_;rw[ev]),IB (mx.on (S.tt F)) (by rw[iZ.ir];omega) λd2 A'=> ?_⟩;have ed:(str d.b).data.toList=d.b:=by unfold str;simp
      rw[ed];refine aw.ex (Ba d.b).s ⟨_,rfl,aw.fB (x:=(Ba d.b).s) ((F.tt A').get p' id) λD' P' U' _=>j6 _ _ ?_⟩;have w':=Fr.no (F.tt A') U';cases j:yq d.b with
      |true=>exact C' D' _ P' w' (K _ (by rw[ah j]))
      |false=>exact b' D' w' (k (by rw[af (by rw[j];decide)]))
     |false=>
      rw[fe];have c5:=fh M.symm;rw[af c5]at K k;refine av.2 (aa.dZ c2 (fD (n:=2) λd3 h'=>aa.ex (nv 2).s ⟨rfl,h'.kp,jx (x:=z) (y:=nv 2) (c'.on (G7.tt h')) pP ae λa4 V'=>⟨_,rfl,ay.of λJ7 b6=> ?_⟩⟩));have j7: ∀q g,X q g->J7 q g:=λq g hh=>by subst b6;exact j6 _ _ hh
      have C:=F.tt (h'.tt V');cases e2:pG P (num 2)with
      |false=>rw[fe];exact j7 _ _ (b' a4 (L' C) (k (by rw[af (by rw[e2];decide)])))
      |true=>
       rw[ah rfl];rw[ah e2]at K k;refine av.2 (aa.dZ (C.get O id) (Kv (d'.on (p.tt (l.tt C))) ae (λq4 q2 qn E' M' c u' i'=>⟨_,_,_,_,rfl,ay.of λJ8 o'=> ?_⟩) (λqn E' i'=>⟨_,_,_,_,rfl,ay.of λJ8 o'=> ?_⟩)));rw[ah rfl];have n0:(nc d.l)[0]? =some (.U ((at_ d.l 0).n:Int)):=by unfold nc at_;rw[aP,aL,ai ae];rfl
       have n1:(nc d.l)[1]? =some (.U ((at_ d.l 1).n:Int)):=by unfold nc at_;rw[aP,aL,ai ae];rfl
       obtain⟨c9,rfl⟩:=u'.some (by intro e;rw[e]at n0;cases n0);have c0:=u'.cell n0;have c1:=u'.cell n1;have x':=C.tt i';refine⟨ae,av.2 ⟨_,by rw[show Int.toNat 0*1=0 from rfl];exact c0,ae,av.2 ⟨_,by rw[show Int.toNat 1*1=1 from rfl];exact c1,aw.fB (x:=(Qw d).s) (x'.get p' id) λd4 z' X' _=>aw.dZ z' (iZ.fA (Qw d) λm' B'=>⟨_,rfl,?_⟩)⟩⟩⟩;have y':Fr (λy=>y=E) v m':=(Fr.no x' X').on B';subst o';refine j7 _ _ ?_;cases j:dD (Qw d)with
       |true=>exact C' m' _ (B'.get z' id) y' (K _ (by rw[ah ⟨q4,q2,qn,j⟩]))
       |false=>exact b' m' y' (k (by rw[af (λe=>by rw[j]at e;cases e.2.2.2)]))
       rw[fe];subst o';exact j7 _ _ (b' E' (L' (C.tt i')) (k (by rw[af (λe=>qn ⟨e.1,e.2.1,e.2.2.1⟩)])))
    have e':=f.tt (j'.tt Z');cases I:pG P (num 1)with
    |false=>rw[fe];exact j5 _ _ e' (by rw[I];simp)
    |true=>rw[ah rfl];refine av.2 ⟨_,aj (e'.get O id),j5 _ _ e' ?_⟩;rw[show r.s.f0=d.k from c6,I];by_cases q:d.k=3<;>simp[q]
  refine av.2 (aa.dZ s' (fD (n:=1) λd7 k'=>aa.ex (nv 1).s ⟨rfl,k'.kp,jx (x:=z) (y:=nv 1) (c'.on (p.tt (l.tt k'))) pP ae λd8 a2=>⟨_,rfl,?_⟩⟩));have Q:=k'.tt a2;cases I:pG P (num 1)with
  |false=>rw[fe];exact j3 _ _ Q (by rw[I];simp)
  |true=>rw[ah rfl];refine av.2 (aa.dZ (Q.get O id) (fD (n:=0) λd9 l'=>aa.ex (nv 0).s ⟨rfl,l'.kp,jx (x:=r) (y:=nv 0) (d'.on (p.tt (l.tt (Q.tt l')))) pP ae λe0 a3=>⟨_,rfl,?_⟩⟩));exact j3 _ _ (Q.tt (l'.tt a3)) (by rw[I];simp)
 have e3:a0.block<h3.size:=by have:=I'.1;have:=sW this;rwa[kX,kX]at this
 have e5:a1.block<h3.size:=by have:=J'.1;have:=sW this;rwa[kX,kX]at this
 refine⟨aa.cE λb3 a5 S' w n=>⟨n.kp,aa.cE λb4 a6 T' q' s=>⟨s.kp,aa.fB (x:=z.s) (s.get w id) λa7 f' u _=>⟨YT u ?_,aa.fB (x:=r.s) (u.get q' (cv (aE w))) λn' g' J _=> ?_⟩⟩⟩,
  aa.cE λb3 a5 S' w n=>⟨n.kp,aa.cE λb4 a6 T' q' s=>⟨s.kp,aa.fB (x:=z.s) q' λa7 f' u _=>⟨YT u ?_,aa.fB (x:=r.s) (u.get (s.get w id) (cv (aE w))) λn' g' J _=> ?_⟩⟩⟩,trivial⟩
 intro M' j;simp only[bG,dU,or_false]at j;rcases j with rfl|rfl;exact W9 ae;simp only[dB];intro e;have:=bL e;omega;have:=aE w;have:=n.1;exact K' n' b3 b4 (J.get f' ae) g' (((n.tt s).fresh u (λy e=>ae)).fresh J (λy e=>ae));intro M' j;simp only[bG,dU,or_false]at j;have:=n.1;rcases j with rfl|rfl;exact W9 ae;simp only[dB];intro e;have:=bL e;omega;have:=aE w;have:=n.1;exact K' n' b4 b3 (J.get f' ae) g' (((n.tt s).fresh u (λy e=>ae)).fresh J (λy e=>ae))
abbrev CC.s(x:CC):aB.S:=⟨x.e.lS,x.e.node,x.e.iA,x.e.host,x.e.kj,x.tm,x.sq⟩
def oh(x:Ev){K:aw.S->Prop}(d:h[b]? =some (.C c T (0,0)))(a:c[o]? =some (.B x.lS))(e:c[o+1]? =some (.U x.node))(f:c[o+2]? =some (.U x.iA))(g:c[o+3]? =some (.S x.host))(j:c[o+4]? =some (.S x.kj))(k:K x.s):aw.ck h (AA b o) K:=
 ⟨_,fY d a,_,fY d e,_,fY d f,_,fY d g,_,fY d j,k⟩
def Xa(x:CC){K:aB.S->Prop}(d:h[b]? =some (.C c T (0,0)))(a:c[o]? =some (.B x.e.lS))(e:c[o+1]? =some (.U x.e.node))(f:c[o+2]? =some (.U x.e.iA))(g:c[o+3]? =some (.S x.e.host))(j:c[o+4]? =some (.S x.e.kj))(k:c[o+5]? =some (.U (x.tm:Int)))(l:c[o+6]? =some (.U (x.sq:Int)))(m:K x.s):aB.ck h (AA b o) K:=
 ⟨_,fY d a,_,fY d e,_,fY d f,_,fY d g,_,fY d j,_,fY d k,_,fY d l,m⟩
def VE{y:aB.S}(x:CC){K:aB.S->cM}(e:aB.ff h b y)(j: ∀H,Fr (λy=>y=b) h H->K x.s H):
  aB.cR h (AA b 0) x.s λg=>aB.ck g (AA b 0) λr=>K r g:=
 aB.fB e λg d f _=>aB.dZ d (j g f)
def nH(n m:Nat):decide ((n:Int)<=(m:Int))=decide (n<=m):=bO
def Ha(x:CC)(d: jA h R (.B (kF x))):Cl 413 #[x.s.agg] h R:=by refine Ac (aB.cE λb k E e F=>oh x.e e rfl rfl rfl rfl rfl (iZ.fA x.e λj f=>⟨_,rfl,?_⟩));have g:=f.get e id;have d:=d j (F.tt f);unfold kF at d;rw[fx]at d;exact xV d λd=>⟨_,aj g,xV d (λd=>⟨_,aj g,by rw[show decide ((x.s.f6)<=1099511627776)=_ from nH x.sq 1099511627776];exact d⟩) (nH x.tm 1099511627776)⟩
theorem Hd(x:CC)(X:0<=x.e.iA)(O:kF x=true->∀H z,wv H (λy=>h.size<=y) (Vh x) z->Fr No h H->R (.T #[z.agg,.I 0]) H)(P:kF x=false->jA h R (.T #[zv.agg,.I 3])):Cl 393 #[x.s.agg] h R:=by
 refine Ad (aB.cE λb h1 eb v n=>aa.cE λZ h2 a' A j=>aB.dZ (j.get v id) (Ha x λh3 g=>⟨_,rfl,?_⟩));have l:=(j.tt g).get v id;have B:=g.get A id;have m:=n.tt (j.tt g);have z1:=n.1;have h':=aE A;have z3:=g.1;cases d:kF x with
 |false=>exact Iu B λI E=>P d I (m.fresh E (λy e=>ae))
 |true=>
  have J:=by unfold kF at d;simp only[bE]at d;exact d.1.1
  rw[fe];refine oh x.e l rfl rfl rfl rfl rfl (Af x.e X (λ_ h5 z U f=>aa.ex z.s ⟨_,rfl,aa.fX λb2 h7 b' K k=>aa.dZ K ⟨_,aj ((f.tt k).get l id),_,aj ((f.tt k).get l id),(fD λh8 s=>aa.ex (nv x.tm).s ⟨rfl,s.kp,fD λh9 u=>aa.ex (nv x.sq).s ⟨rfl,u.kp,pQ (ys:= [nv x.tm,nv x.sq]) rfl λb3 d' c' L p=>⟨p.kp,kI (L (λ_=>True) trivial) (two pP pP) (by simp[room,dG]) λe' y T q=>aa.ex y.s ⟨rfl,q.kp,?_⟩⟩⟩⟩)⟩⟩) (λe=>by grind));have F:=k.tt (s.tt (u.tt (p.tt q)));have er:=mO x.e J;refine yx (two (U.u.on F) T.u) (by simp only[room,dG,bZ];omega) rfl rfl λf' w S r=>aa.ex w.s ⟨rfl,?_⟩;have z5:=f.1;have g':=F.1;exact fin ((f.tt (F.tt r)).get B id) S (λy M e=>ae) λG Q C=>O d G w (Q.mono λy M=>ae) ((m.tt (f.tt (F.tt r))).fresh C (λy e=>ae))
def EJ{x:CC}(h:kF x=true):dD x.e=true/\x.tm<=1099511627776/\x.sq<=1099511627776:=by unfold kF at h;simp only[bE,bN]at h;exact⟨h.1.1,h.1.2,h.2⟩
def Kw{e:Ev}(h:pL V t=some e):0<=e.iA/\dD e=true:=by
 unfold pL at h;split at h
 .split at h
  .cases h;decide
  .split at h
   .split at h
    .rename_i d;cases h;unfold yq at d;simp only[bE]at d;exact⟨by show(0)<=0;omega,d.2⟩
    .cases h
   .split at h
    .split at h
     .rename_i d;cases h;exact⟨by show(0)<=((_:Nat):Int);omega,d.2.2.2⟩
     .cases h
    .cases h
 .cases h
def Ra(x:CC)(h:kF x=true):room (Vh x)<=300:=by have:=mO x.e (EJ h).1;simp only[Vh,room,dG,bZ];omega
def EQ(V:mv)(t:Tr)(e:Ev)(q:Int):Prop:=(q=0->pL V t=some e)/\(q≠0->pL V t=none)/\0<=e.iA
def IC(U:lU V a)(u:Fr No a h)(m:jk.Mx h)(k:KV h t x)(j:room t<=900000)(g: ∀e q,EQ V t e q->jA h R (.T #[e.s.agg,.I q])):Cl 325 #[x.agg] h R:=
 Q9 U u m k j (λe d H f=>g e 0 ⟨λ_=>d,λq=>absurd rfl q,(Kw d).1⟩ H f) (λd H f=>g .zero 3 ⟨λq=>absurd q bA,λ_=>d,bA⟩ H f)
theorem Tu(x:CC)(w:0<=x.e.iA)(d: ∀H z q,(q=0->KV H (Vh x) z)->(q=0↔kF x=true)->Fr No h H->R (.T #[z.s.agg,.I q]) H):Cl 393 #[x.s.agg] h R:=
 Hd x w (λg H z j f=>d H z 0 (λ_=>j.u) ⟨λ_=>g,λ_=>rfl⟩ f) (λg H f=>d H zv 3 (λe=>absurd e bA) ⟨λe=>absurd e bA,λe=>by grind⟩ f)
theorem Rb(U:lU V a)(A':Fr No a h)(mx:jk.Mx h)(tx:KV h t x)(hr:room t<=900000)(K: ∀e,lu V t=some e->jA h R (.T #[e.s.agg,.I 0]))(k:lu V t=none->jA h R (.T #[CC.zero.s.agg,.I 3])):Cl 326 #[x.agg] h R:=by
 obtain⟨xk,xn,xb,xl,xv,ys,L,TS⟩:=hM.kn tx;have rl:=oW (t:=t);refine BT (x:=x.s) (aa.cE λb h1 eb hb f1=>aB.cE λb1 q G' a' X=>ay.of λJ s=> ?_);have F:=f1.tt X;have d:=X.get hb id;have zb:=aE hb;have P':=aE a';have z1:=f1.1;have z2:=X.1;have B:lu V t=none->J true q:=λhn=>by subst s;dsimp only;rw[ah rfl];exact VE .zero a' λg f=>k hn g (F.fresh f (λy e=>ae))
 have e4:x.s.f0=t.k:=xk;have el:x.s.Fw=t.l.length:=xl;refine⟨_,aj d,?_⟩;rw[e4];by_cases C:t.k=4
 case neg=>rw[ah (dQ C)];exact B (by unfold lu;rw[af (λe=>C e.1)])
 rw[af (dQ C)];refine⟨_,_,_,aj d,?_⟩;rw[el];by_cases l2:t.l.length=2
 case neg=>rw[ah (by simp only[fp,ne_eq];omega)];exact B (by unfold lu;rw[af (λe=>l2 e.2.1)])
 rw[af (by simp only[fp,ne_eq];omega)];obtain⟨a0,y0,k',s',g',_⟩:=elem (L.frame F bD) (TS.on F) (i:=0) ae;obtain⟨A,M,E,f',h',_⟩:=elem (L.frame F bD) (TS.on F) (i:=1) ae;obtain⟨i',E',D',j',M',O',L1,P⟩:=hM.kn h';have c0:aQ q (A.add (Int.toNat 1*4))=some (.I M.k):=by have:=f'.1;rwa[cA]at this
 have S:aQ q ((A.add (Int.toNat 1*4)).add 3)=some (.L M.q M.ll M.cl):=f'.2.2.2.1;have r0:=jR (ts:=t.l) (i:=0) ae;have r1:=jR (ts:=t.l) (i:=1) ae;refine⟨_,_,_,aj d,ae,cf.2 ⟨A,E,_,c0,?_⟩⟩;rw[i'];by_cases w:(at_ t.l 1).k=4
 case neg=>rw[ah (dQ w)];exact B (by unfold lu;rw[af (λe=>w e.2.2.1)])
 rw[af (dQ w)];refine⟨_,_,_,aj d,ae,cf.2 ⟨A,E,_,_,_,S,?_⟩⟩;rw[j'];by_cases l3:(at_ t.l 1).l.length=2
 case neg=>rw[show(((((at_ t.l 1).l.length:Nat):Int)) !=2)=true by simp only[fp,ne_eq];omega];exact B (by unfold lu;rw[af (λe=>l3 e.2.2.2)])
 rw[show(((((at_ t.l 1).l.length:Nat):Int)) !=2)=false by simp only[bne_eq_false_iff_eq];omega];clear B;subst s;dsimp only;rw[af (show¬false=true by decide)];unfold lu at K k;rw[ah ⟨C,l2,w,l3⟩]at K k;generalize K':at_ t.l 0=t0 at g' r0 K k;generalize L':at_ t.l 1=t1 at h' r1 K k i' E' D' j' P w l3;refine⟨_,_,_,aj d,ae,cf.2 ⟨a0,k',aa.gT (x:=y0.s) s' (IC U (A'.tt F) (mx.on F) g' ae λe x' ⟨v',w',we⟩ g fg=>aw.ex e.s ⟨_,rfl,?_⟩)⟩⟩;obtain⟨p0,w0,l',u,y',_⟩:=elem L1 P (i:=0) ae;obtain⟨p1,w1,m',v,z',_⟩:=elem L1 P (i:=1) ae;obtain⟨_,B',_⟩:=hM.kn y';obtain⟨_,C',_⟩:=hM.kn z';have u:aQ q ((p0.add (Int.toNat 0*4)).add 1)=some (.U (w0.n:Int)):=u.2.1;have v:aQ q ((p1.add (Int.toNat 1*4)).add 1)=some (.U (w1.n:Int)):=v.2.1;rw[B']at u;rw[C']at v;obtain⟨n,t'⟩: ∃n,(at_ t1.l 0).n=n:=⟨_,rfl⟩;obtain⟨l,u'⟩: ∃l,(at_ t1.l 1).n=l:=⟨_,rfl⟩;rw[t']at u K k;rw[u']at v K k;refine aw.fX (x:=e.s) λb2 h7 H' q' f7=>aw.dZ q' ?_;have G:=fg.tt f7;refine⟨_,_,_,aj (G.get d id),ae,cf.2 ⟨A,E,_,_,_,G.cell S id,ae,cf.2 ⟨p0,l',_,G.cell u id,_,_,_,aj (G.get d id),ae,cf.2 ⟨A,E,_,_,_,G.cell S id,ae,cf.2 ⟨p1,m',_,G.cell v id,?_⟩⟩⟩⟩⟩;refine aB.cE λb3 h8 I' e' z=>⟨z.kp,aB.fB (x:=(⟨e,n,l⟩:CC).s) e' λh9 d9 Z _=>aB.dZ d9 ?_⟩;have z7:=f7.1;have z8:=z.1;have zg:=fg.1;have Q':=aE e';have z9:=Z.1;have G9:Fr (λy=>y=b3) q h9:=Fr.no (G.tt z) Z;have O:Fr No h h9:=(F.tt (G.tt z)).fresh Z (λy e=>ae);refine Tu ⟨e,n,l⟩ we λg2 b' q2 hw hq o'=>aa.ex b'.s ⟨_,rfl,?_⟩;refine aa.fX (x:=b'.s) λb4 r J' r' c'=>ay.of λJ s=> ?_;have m:=o'.tt c';have d': ∀{g},Fr No r g->aB.ff g b1 .z:=λfq=>fq.get (m.get (G9.get a' ae) id) id;have no: ∀j,Fr No r j->(jA h R (.T #[CC.zero.s.agg,.I 3]))->J true j:=λj p hk=>by
  subst s;try dsimp only
  rw[ah rfl];exact VE .zero (d' p) λg f=>hk g ((O.tt (m.tt p)).fresh f (λy e=>ae))
 have F': ∀j,Fr No r j->(jA h R (.T #[(⟨e,n,l⟩:CC).s.agg,.I 0]))->J false j:=λj p hk=>by
  subst s;try dsimp only
  rw[fe];exact aB.dZ ((m.tt p).get d9 id) (VE ⟨e,n,l⟩ (d' p) λg f=>hk g ((O.tt (m.tt p)).fresh f (λy e=>ae)))
 by_cases I:x'=0
 case neg=>rw[ah (dQ I)];exact no r (Fr.refl _ _) (k (by rw[w' I]))
 rw[af (dQ I)];rw[v' I]at K k;dsimp only at K k;by_cases Q:q2=0
 case neg=>rw[ah (dQ Q)];exact no r (Fr.refl _ _) (k (by rw[af (λe=>Q (hq.2 e.1))]))
 rw[af (dQ Q)];have hI:=hq.1 Q;have rI:=Ra _ hI;refine aa.dZ r' (aa.dZ (x:=x.s) (m.get (G9.get d ae) id) (jx (x:=b') (y:=x) ((hw Q).on c') (tx.on (O.tt m)) ae λp' n'=>⟨_,rfl,?_⟩));cases hs:pG (Vh ⟨e,n,l⟩) t with
 |true=>exact F' p' n' (K _ (by rw[ah ⟨hI,hs⟩]))
 |false=>grind
def LQ{x:CC}(h:lu V t=some x):0<=x.e.iA:=by
 unfold lu at h;split at h;split at h
 cases h;rename_i e d;split at h;cases h;exact(Kw d).1;cases h;cases h
def IQ(V:mv)(t:Tr)(x:CC)(q:Int):Prop:=(q=0->lu V t=some x)/\(q≠0->lu V t=none)/\0<=x.e.iA
def ID(U:lU V a)(u:Fr No a h)(m:jk.Mx h)(k:KV h t x)(j:room t<=900000)(g: ∀e q,IQ V t e q->jA h R (.T #[e.s.agg,.I q])):Cl 326 #[x.agg] h R:=
 Rb U u m k j (λe d H f=>g e 0 ⟨λ_=>d,λq=>absurd rfl q,LQ d⟩ H f) (λd H f=>g .zero 3 ⟨λq=>absurd q bA,λ_=>d,bA⟩ H f)

end Bn
end
section
variable {h:Heap} {R:dH}
variable {x:aC.S}
def yH{a:aC.S}{b:aC.S} (o:aT h (.C a.arr 174) λB n=>aT n (.C b.arr 174) λc H=>Hu H B 0 λI=> ∃m,Cc H c 0 (.U m)/\ite (I==m) (Hi H B 1 λp=> ∃t,Cc H c 1 (.I t)/\ite (p==t) (aw.ck H (AA B 2) λq=>aw.ck H (AA c 2) λr=> ∃(e:Bool),Lj 64 (q.agg) (r.agg) e/\ite e (aw.ck H (AA B 7) λs=>aw.ck H (AA c 7) λu=> ∃(eq_1:Bool),Lj 64 (s.agg) (u.agg) eq_1/\ite eq_1 (Hi H B 12 λw=> ∃T,Cc H c 12 (.I T)/\ite (w==T) (Hi H B 13 λy=> ∃f,Cc H c 13 (.I f)/\ite (y==f) (Hi H B 14 λz=> ∃g,Cc H c 14 (.I g)/\ite (z==g) (Hl H B 15 λD C A=>Hl H c 15 λG F E=>Cl 194 #[.L D C A,.L G F E] H λv d=> ∃i,v=.B i/\ite i (Hu d B 16 λJ=> ∃j,Cc d c 16 (.U j)/\ite (J==j) (Hu d B 17 λK=> ∃k,Cc d c 17 (.U k)/\ite (K==k) (Hb d B 18 λL=> ∃l,Cc d c 18 (.B l)/\R (.B (L==l)) d) (R (.B false) d)) (R (.B false) d)) (R (.B false) d)) (R (.B false) H)) (R (.B false) H)) (R (.B false) H)) (R (.B false) H)) (R (.B false) H)) (R (.B false) H)) (R (.B false) H)):Cl 342 #[a.agg,b.agg] h R:=aD [] o
def An (hv:aT h (.C x.arr 174) λb F=>aC.NW F λv g=>Hu g b 0 λt5=>Hi g b 1 λt7=>aC.NW g λB a'=>aC.cR a' (AA B 0) ⟨t5,t7,false,0,0,(⟨#[]⟩:bC),(⟨#[]⟩:bC),false,0,0,(⟨#[]⟩:bC),(⟨#[]⟩:bC),0,0,0,none,0,0,0,0,false⟩ λi=>Hi i b 1 λt=>ay (λz=>aC.ck z (AA B 0) λt'=>aC.cR z (AA v 0) t' λA=>aC.ck A (AA v 0) λr0=>R (r0.agg) A) (λJ=>ay (λ(d':Bool) c=>ay (λc'=>J c') (λm=>ite d' (aw.ck c (AA b 2) λe'=>Hi c b 12 λf'=>aw.cR c (AA B 2) e' λC=>Kp c C [(Sa b 12)]/\aI C (AA B 12) (.I f') λG=>m G) (ay (λ(g':Bool) H=>ay (λI=>m I) (λo=>ite g' (aw.ck H (AA b 2) λh'=>aw.cR H (AA B 2) h' λK=>o K) (ay (λL=>o L) (λp=>ite (t==4) (aw.ck H (AA b 2) λi'=>aw.ck H (AA b 7) λj'=>Hl H b 15 λm' l' k'=>Hu H b 16 λn'=>Hb H b 18 λo'=>aw.cR H (AA B 2) i' λd=>Kp H d [(Sa b 18),(Sa b 16),(Sa b 15),(Sa b 7)]/\aw.cR d (AA B 7) j' λe=>Kp d e [(Sa b 18),(Sa b 16),(Sa b 15)]/\aI e (AA B 15) (.L m' l' k') λf=>Kp e f [(Sa b 18),(Sa b 16)]/\aI f (AA B 16) (.U n') λw=>Kp f w [(Sa b 18)]/\aI w (AA B 18) (.B o') λM=>p M) (ay (λ(p':Bool) a=>ay (λO=>p O) (λr=>ite p' (∃T,Cc a b 13 (.I T)/\aI a (AA B 13) (.I T) λP=>r P) (ay (λQ=>r Q) (λs=>ite (t==7) (aw.ck a (AA b 2) λr'=>Hi a b 14 λs'=>aw.cR a (AA B 2) r' λy=>Kp a y [(Sa b 14)]/\aI y (AA B 14) (.I s') λS=>s S) (ay (λU=>s U) (λu=>ite (t==10) (∃D,Cc a b 18 (.B D)/\aI a (AA B 18) (.B D) λV=>u V) (ay (λX=>u X) (λk=>ite (t==12) (∃E,Cc a b 17 (.U E)/\aI a (AA B 17) (.U E) λZ=>k Z) (k a))))))))) (λq=>ite (t==5) (q (t==5) H) (ay (λ(q':Bool) b'=>q q' b') (λl=>ite (t==8) (l (t==8) H) (l (t==9) H))))))))) (λn=>ite (t==2) (n (t==2) c) (n (t==6) c))))) (λj=>ite (t==1) (j (t==1) i) (j (t==3) i)))):Cl 362 #[x.agg] h R:=aD [(7,.join []),(11,.join [(11,sB)]),(14,.join []),(15,λ_=>pK 8),(19,.join [(20,sB)]),(22,.join []),(26,.join []),(27,λ_=>pK 20),(31,.join [(43,sB)]),(35,.join [(43,sB)]),(38,.join []),(42,.join []),(43,λ_=>pK 8),(46,.join []),(50,.join [])] hv
def vU{x:aw.S}(c:aT h (.C x.arr 64) λb a=>aw.ck a (AA b 0) λT=>Cl 84 #[T.agg] a λv H=> ∃t,v=.B t/\ite t (aw.ck H (AA b 0) λd=> ∃(e:Bool),Lj 64 (d.agg) (aw.S.z.agg) e/\R (.B (!e)) H) (R (.B false) H)):Cl 425 #[x.agg] h R:=aD [] c
def xr (I:aT h (.C x.arr 174) λb g=>Hi g b 1 λt=>ay (λ(S:Bool) f=>ite S (aw.ck f (AA b 2) λZ=>Cl 425 #[Z.agg] f λa' d=> ∃T,a'=.B T/\ite T (∃m,Cc d b 12 (.I m)/\ite (decide (m≥0)) (∃n,Cc d b 12 (.I n)/\R (.B (decide (n<=2))) d) (R (.B false) d)) (R (.B false) d)) (ay (λ(K:Bool) a=>ite K (aw.ck a (AA b 2) λL=>Cl 425 #[L.agg] a λb' G=> ∃o,b'=.B o/\R (.B o) G) (ite (t==4) (aw.ck a (AA b 2) λM=>Cl 425 #[M.agg] a λc' i=> ∃p,c'=.B p/\ite p (aw.ck i (AA b 7) λO=>Cl 425 #[O.agg] i λd' c=> ∃q,d'=.B q/\ite q (∃Q r P,Cc c b 15 (.L Q r P)/\ite (decide (((r:Nat):Int)<=200)) (∃s,Cc c b 16 (.U s)/\ite (decide (s≥1)) (∃u,Cc c b 16 (.U u)/\R (.B (decide (u<=1099511627776))) c) (R (.B false) c)) (R (.B false) c)) (R (.B false) c)) (R (.B false) i)) (ay (λ(U:Bool) H=>ite U (∃v,Cc H b 13 (.I v)/\ite (decide (v≥1)) (∃w,Cc H b 13 (.I w)/\R (.B (decide (w<=1099511627776))) H) (R (.B false) H)) (ite (t==7) (aw.ck H (AA b 2) λX=>Cl 425 #[X.agg] H λe' e=> ∃y,e'=.B y/\ite y (∃z,Cc e b 14 (.I z)/\ite (decide (z≥1)) (∃A,Cc e b 14 (.I A)/\R (.B (decide (A<=1000))) e) (R (.B false) e)) (R (.B false) e)) (ite (t==12) (∃B,Cc H b 17 (.U B)/\ite (decide (B≥1)) (∃C,Cc H b 17 (.U C)/\R (.B (decide (C<=2147483648))) H) (R (.B false) H)) (∃D,Cc H b 1 (.I D)/\ite (D==10) (R (.B true) H) (∃E,Cc H b 1 (.I E)/\R (.B (E==11)) H))))) (λk=>ite (t==5) (k (t==5) a) (ay (λ(V:Bool) F=>k V F) (λl=>ite (t==8) (l (t==8) a) (l (t==9) a))))))) (λj=>ite (t==2) (j (t==2) f) (j (t==6) f)))) (λJ=>ite (t==1) (J (t==1) g) (J (t==3) g))):Cl 361 #[x.agg] h R:=aD [(9,.join [(5,sB)]),(19,.join [(21,sB)]),(35,.join [(53,sB)]),(39,.join [(53,sB)])] I
def xu(i:aT h (.C x.arr 174) λb H=> ∃f,Cc H b 0 (.U f)/\ite (decide (f≥1)) (∃g,Cc H b 0 (.U g)/\ite (decide (g<=1099511627776)) (aC.ck H (AA b 0) λj=>Cl 361 #[j.agg] H λv a=> ∃t,v=.B t/\Kp H a [(Sa b 0),(Sa b 0)]/\ite t (aC.ck a (AA b 0) λk=>aC.ck a (AA b 0) λl=>Cl 362 #[l.agg] a λV c=>aC.EX λT=>V=T.agg/\Kp a c [(Sa b 0),(Sa b 0),(Sa b 0)]/\Cl 342 #[k.agg,T.agg] c λm d=> ∃e,m=.B e/\Kp c d [(Sa b 0),(Sa b 0)]/\R (.B e) d) (R (.B false) a)) (R (.B false) H)) (R (.B false) H)):Cl 298 #[x.agg] h R:=aD [(3,λ_=>pK 19)] i

end
section
namespace Ask
open iZ (Ev dD jQ)
open Bn (oh)
variable {h H g:Heap} {R:dH} {p q:bH} {c d:Nat}
variable {b:Nat} {y:aC.S} {x:aw.S} {K:Heap->Prop}
abbrev Rq.s(x:Rq)(p:bH)(c:Nat):aC.S:=⟨x.id,x.kind,x.ep.lS,x.ep.node,x.ep.iA,x.ep.host,x.ep.kj,x.dest.lS,x.dest.node,x.dest.iA,x.dest.host,x.dest.kj,x.wy,x.num,x.oH,p,x.wC.length,c,x.kG,x.token,x.on⟩
def Yk(x y:Rq):decide (x=y)=(((x.id:Int)==(y.id:Int)) && ((x.kind==y.kind) && (decide (x.ep=y.ep) && (decide (x.dest=y.dest) && ((x.wy==y.wy) && ((x.num==y.num) && ((x.oH==y.oH) && (decide (x.wC=y.wC) && (((x.kG:Int)==(y.kG:Int)) && (((x.token:Int)==(y.token:Int)) && (x.on==y.on))))))))))):=by rw[dA];cases x;cases y;simp[Int.ofNat_inj]
def Kx(x y:Rq)(r:Row h p (bc x.wC))(m:Row h q (bc y.wC))(a: jA h R (.B (decide (x=y)))):Cl 342 #[(x.s p c).agg,(y.s q d).agg] h R:=by refine yH (aC.cE λb o E l j=>aC.cE λB k n e i=> ?_);have f:=i.get l id;have F:=j.tt i;simp only[Yk]at a;exact⟨_,aj f,_,aj e,jM a F λa=>⟨_,aj f,_,aj e,jM a F λa=>oh x.ep f rfl rfl rfl rfl rfl (oh y.ep e rfl rfl rfl rfl rfl ⟨_,iZ.Dx (x:=x.ep) (y:=y.ep) rfl rfl,jM a F λa=>oh x.dest f rfl rfl rfl rfl rfl (oh y.dest e rfl rfl rfl rfl rfl ⟨_,iZ.Dx (x:=x.dest) (y:=y.dest) rfl rfl,jM a F λa=>⟨_,aj f,_,aj e,jM a F λa=>⟨_,aj f,_,aj e,jM a F λa=>⟨_,aj f,_,aj e,jM a F λa=>⟨_,_,_,aj f,_,_,_,aj e,Cb.ja (r.frame F bD) (m.frame F bD) rfl rfl ⟨_,rfl,jM a F λa=>⟨_,aj f,_,aj e,jM a F λa=>⟨_,aj f,_,aj e,jM a F λa=>⟨_,aj f,_,aj e,a k F⟩⟩⟩⟩⟩⟩⟩⟩⟩)⟩)⟩⟩
def qh(e:Ev)(a: jA h R (.B (rO e))):Cl 425 #[e.s.agg] h R:=by
 refine vU (aw.cE λb k E j F=>aw.dZ j (iZ.fA e λi f=>⟨_,rfl,?_⟩));unfold rO at a;cases C:dD e with
 |false=>rw[C]at a;exact a i (F.tt f)
 |true=>rw[C]at a;rw[ah rfl];exact aw.dZ (f.get j id) ⟨_,iZ.Dx rfl rfl,a i (F.tt f)⟩
def Tv(i:aC.ff h b y)(k: ∀H,aC.ff H b { y with f2:=x.f0,f3:=x.f1,f4:=x.f2,f5:=x.f3,f6:=x.f4 } ->Fr (λy=>y=b) h H->K H):aw.cR h (AA b 2) x K:=
 (show cQ (AA b 2) x.l 0 h K from vu i bO rfl rfl λf D a e=>k f D (Fr.of_eq a λc j=>e c j))
def VF(i:aC.ff h b y)(k: ∀H,aC.ff H b { y with f7:=x.f0,f8:=x.f1,f9:=x.f2,f10:=x.f3,f11:=x.f4 } ->Fr (λy=>y=b) h H->K H):aw.cR h (AA b 7) x K:=
 (show cQ (AA b 7) x.l 0 h K from vu i bO rfl rfl λf D a e=>k f D (Fr.of_eq a λc j=>e c j))
theorem uM{i:Nat}{z:aC.S}{v:Value}(f:aC.ff h b y)(k:i<19)(n:y.arr.setIfInBounds i v=z.arr)(l: ∀H,aC.ff H b z->Fr (λy=>y=b) h H->K H):aI h (AA b i) v K:=
 aY f k λe m D a=>l e (by grind) (Fr.of_eq D λc j=>a c j)
theorem UB{B:Nat}{l:List (bH)}(f:Fr (λy=>y=B) h H)(n:b≠B)(i: ∀p∈l,p.map (·.block)=some b):Kp h H l:=f.St λp j x e a=>n (by grind)
def bq{n k:Int}:((n==k)=true↔n=k):=cU
theorem LG(x:Rq)(rx:Row h p (bc x.wC))(hk: ∀H P C,Row H P (bc (uL x).wC)->Fr No h H->R ((uL x).s P C).agg H):Cl 362 #[(x.s p c).agg] h R:=by
 refine An (aC.cE λb h1 eb Q T=>aC.cE λb1 h2 m' b' u=>⟨_,aj (u.get Q id),_,aj (u.get Q id),aC.fX (x:=(jh x).s none 0) λL D n' n U=> ?_⟩);have a:=(u.tt U).get Q id;have F4:=T.tt (u.tt U);have zb:=aE Q;have p':=aE b';have z1:=T.1;have z2:=u.1;have A:b≠L:=ae
 have o':b1≠L:=ae
 refine⟨_,aj a,ay.of λd' hJ=>ay.of λJ1 e'=> ?_⟩;have fin: ∀g P C,aC.ff g L ((uL x).s P C)->Row h P (bc (uL x).wC)->Fr (λy=>y=L) D g->d' g:=by intro g P C hg hr fg;have X:Fr No h2 g:=U.fresh fg (λy e=>ae);have c':=(T.tt u).tt X;subst hJ;refine aC.dZ hg (aC.fB (x:=(uL x).s P C) (X.get b' id) λh6 d6 F _=>aC.dZ d6 ?_);have Z:=c'.fresh F (λy e=>ae);exact hk h6 P C (hr.frame Z bD) Z
 have t:Row h none (bc []):=Row.nil;have key: ∀v,(v=true↔x.kind=1\/x.kind=3)->J1 v D:=by
  intro v o;subst e';dsimp only;refine ay.of λJ2 m=> ?_;by_cases k:x.kind=1\/x.kind=3;have E:uL x= { jh x with ep:=x.ep,wy:=x.wy } :=ah k;rw[E]at fin;rw[ah (o.2 k)];exact oh x.ep a rfl rfl rfl rfl rfl ⟨_,aj a,Tv n λG i f=>⟨UB f A bO,uM (z:=({ jh x with ep:=x.ep,wy:=x.wy } :Rq).s none 0) i bA rfl λM B F=>by subst m;exact fin M none 0 B t (f.tt F)⟩⟩;rw[af (λe=>k (o.1 e))];refine ay.of λJ3 g'=> ?_;have i': ∀v,(v=true↔x.kind=2\/x.kind=6)->J3 v D:=by
   intro v o;subst g';dsimp only;refine ay.of λJ4 s=> ?_;by_cases j:x.kind=2\/x.kind=6;have E:uL x= { jh x with ep:=x.ep } :=(af k).trans (ah j);rw[E]at fin;rw[ah (o.2 j)];exact oh x.ep a rfl rfl rfl rfl rfl (Tv n λG i f=>by subst s;subst m;exact fin G none 0 i t f);rw[af (λe=>j (o.1 e))];refine ay.of λJ5 w=> ?_;by_cases r:x.kind=4;have E:uL x= { jh x with ep:=x.ep,dest:=x.dest,wC:=x.wC,kG:=x.kG,on:=x.on } :=(af k).trans ((af j).trans (ah r));rw[E]at fin;rw[ah (bq.2 r)];refine oh x.ep a rfl rfl rfl rfl rfl (oh x.dest a rfl rfl rfl rfl rfl ⟨_,_,_,aj a,_,aj a,_,aj a,Tv n λG i f=>⟨UB f A bO,VF i λM B F=>⟨UB F A bO,?_⟩⟩⟩);refine uM (z:=({ jh x with ep:=x.ep,dest:=x.dest,wC:=x.wC } :Rq).s p c) B bA rfl λg3 e3 f7=>⟨UB f7 A bO,?_⟩;refine uM (z:=({ jh x with ep:=x.ep,dest:=x.dest,wC:=x.wC,kG:=x.kG } :Rq).s p c) e3 bA rfl λg4 e4 f8=>⟨UB f8 A bO,?_⟩;refine uM (z:=({ jh x with ep:=x.ep,dest:=x.dest,wC:=x.wC,kG:=x.kG,on:=x.on } :Rq).s p c) e4 bA rfl λg5 e5 f9=> ?_;subst w;subst s;subst m;exact fin g5 p c e5 rx (f.tt (F.tt (f7.tt (f8.tt f9))));rw[af (λe=>r (bq.1 e))];refine ay.of λJ6 h'=> ?_;have j': ∀v,(v=true↔x.kind=5\/x.kind=8\/x.kind=9)->J6 v D:=by intro v o;subst h';dsimp only;refine ay.of λJ7 I=> ?_;by_cases l:x.kind=5\/x.kind=8\/x.kind=9;have E:uL x= { jh x with num:=x.num } :=(af k).trans ((af j).trans ((af r).trans (ah l)));rw[E]at fin;rw[ah (o.2 l)];exact⟨_,aj a,uM (z:=({ jh x with num:=x.num } :Rq).s none 0) n bA rfl λG i f=>by subst I;subst w;subst s;subst m;exact fin G none 0 i t f⟩;rw[af (λe=>l (o.1 e))];refine ay.of λJ8 O=> ?_;by_cases z:x.kind=7;have E:uL x= { jh x with ep:=x.ep,oH:=x.oH } :=(af k).trans ((af j).trans ((af r).trans ((af l).trans (ah z))));rw[E]at fin;rw[ah (bq.2 z)];exact oh x.ep a rfl rfl rfl rfl rfl ⟨_,aj a,Tv n λG i f=>⟨UB f A bO,uM (z:=({ jh x with ep:=x.ep,oH:=x.oH } :Rq).s none 0) i bA rfl λM B F=>by subst O;subst I;subst w;subst s;subst m;exact fin M none 0 B t (f.tt F)⟩⟩;rw[af (λe=>z (bq.1 e))];refine ay.of λJ9 V=> ?_;by_cases J:x.kind=10;have E:uL x= { jh x with on:=x.on } :=(af k).trans ((af j).trans ((af r).trans ((af l).trans ((af z).trans (ah J)))));rw[E]at fin;rw[ah (bq.2 J)];exact⟨_,aj a,uM (z:=({ jh x with on:=x.on } :Rq).s none 0) n bA rfl λG i f=>by subst V;subst O;subst I;subst w;subst s;subst m;exact fin G none 0 i t f⟩;rw[af (λe=>J (bq.1 e))];refine ay.of λk' a'=> ?_;by_cases S:x.kind=12;have E:uL x= { jh x with token:=x.token } :=(af k).trans ((af j).trans ((af r).trans ((af l).trans ((af z).trans ((af J).trans (ah S))))));rw[E]at fin;rw[ah (bq.2 S)];exact⟨_,aj a,uM (z:=({ jh x with token:=x.token } :Rq).s none 0) n bA rfl λG i f=>by subst a';subst V;subst O;subst I;subst w;subst s;subst m;exact fin G none 0 i t f⟩;rw[af (λe=>S (bq.1 e))];have E:uL x=jh x:=(af k).trans ((af j).trans ((af r).trans ((af l).trans ((af z).trans ((af J).trans (af S))))));rw[E]at fin;subst a';subst V;subst O;subst I;subst w;subst s;subst m;exact fin D none 0 n t (Fr.refl _ _)
   by_cases l:x.kind=5;grind;rw[af (λe=>l (bq.1 e))];refine ay.of λl' f'=> ?_;subst f';dsimp only;by_cases k8:x.kind=8;grind;rw[af (λe=>k8 (bq.1 e))];exact j' _ ⟨λe=> .inr (.inr (bq.1 e)),λe=>bq.2 ((e.resolve_left l).resolve_left k8)⟩
  by_cases j:x.kind=2;grind;rw[af (λe=>j (bq.1 e))];exact i' _ ⟨λe=> .inr (bq.1 e),λe=>bq.2 (e.resolve_left j)⟩
 by_cases k:x.kind=1;rw[ah (bq.2 k)];exact key _ ⟨λ_=> .inl k,λ_=>bq.2 k⟩;rw[af (λe=>k (bq.1 e))];exact key _ ⟨λe=> .inr (bq.1 e),λe=>bq.2 (e.resolve_left k)⟩
def IE(n k:Nat):decide ((n:Int)≥(k:Int))=decide (n≥k):=bO
theorem Rc(x:Rq)(a: jA h R (.B (qZ x))):Cl 361 #[(x.s p c).agg] h R:=by
 refine xr (aC.cE λb s V f n=>⟨_,aj f,ay.of λJ L=> ?_⟩);have key: ∀v,(v=true↔x.kind=1\/x.kind=3)->J v s:=by
  intro v l;subst L;dsimp only;by_cases k:x.kind=1\/x.kind=3;rw[show qZ x=(rO x.ep && (decide (x.wy≥0) && decide (x.wy<=2)))from(ah k).trans (fx ..)]at a;rw[ah (l.2 k)];exact oh x.ep f rfl rfl rfl rfl rfl (qh x.ep λo F=>⟨_,rfl,xV (a o (n.tt F)) λa=>⟨_,aj (F.get f id),xV a λa=>⟨_,aj (F.get f id),a⟩⟩⟩);rw[af (λe=>k (l.1 e))];refine ay.of λC O=> ?_;have S: ∀v,(v=true↔x.kind=2\/x.kind=6)->C v s:=by
   intro v l;subst O;dsimp only;by_cases i:x.kind=2\/x.kind=6;have E:qZ x=rO x.ep:=(af k).trans (ah i);rw[E]at a;rw[ah (l.2 i)];exact oh x.ep f rfl rfl rfl rfl rfl (qh x.ep λo F=>⟨_,rfl,a o (n.tt F)⟩);rw[af (λe=>i (l.1 e))];by_cases m:x.kind=4;have E:qZ x=(rO x.ep && rO x.dest && decide (x.wC.length<=200) && decide (x.kG≥1) && decide (x.kG<=1099511627776)):=(af k).trans ((af i).trans (ah m));simp only[fx]at E;rw[E]at a;rw[ah (bq.2 m)];refine oh x.ep f rfl rfl rfl rfl rfl (qh x.ep λo F=>⟨_,rfl,jM a (n.tt F) λa=>oh x.dest (F.get f id) rfl rfl rfl rfl rfl (qh x.dest λI z=>⟨_,rfl,?_⟩)⟩);have w:=(F.tt z).get f id;exact xV (a I (n.tt (F.tt z))) λa=>⟨_,_,_,aj w,xV a (λa=>⟨_,aj w,xV a (λa=>⟨_,aj w,by rw[show decide (((x.s p c).f16:Int)<=1099511627776)=_ from Bn.nH x.kG 1099511627776];exact a⟩) (IE x.kG 1)⟩) (Bn.nH x.wC.length 200)⟩;rw[af (λe=>m (bq.1 e))];refine ay.of λD P=> ?_;have A:=a;have a:=a s n;have T: ∀v,(v=true↔x.kind=5\/x.kind=8\/x.kind=9)->D v s:=by
    intro v l;subst P;dsimp only;by_cases j:x.kind=5\/x.kind=8\/x.kind=9;have E:qZ x=(decide (x.num≥1) && decide (x.num<=1099511627776)):=(af k).trans ((af i).trans ((af m).trans (ah j)));rw[E]at a;rw[ah (l.2 j)];exact⟨_,aj f,xV a λa=>⟨_,aj f,a⟩⟩;rw[af (λe=>j (l.1 e))];by_cases r:x.kind=7;have E:qZ x=(rO x.ep && decide (x.oH≥1) && decide (x.oH<=1000)):=(af k).trans ((af i).trans ((af m).trans ((af j).trans (ah r))));rw[E,fx]at A;rw[ah (bq.2 r)];exact oh x.ep f rfl rfl rfl rfl rfl (qh x.ep λo F=>⟨_,rfl,xV (A o (n.tt F)) λa=>⟨_,aj (F.get f id),xV a λa=>⟨_,aj (F.get f id),a⟩⟩⟩);rw[af (λe=>r (bq.1 e))];by_cases u:x.kind=12;have E:qZ x=(decide (x.token≥1) && decide (x.token<=2147483648)):=(af k).trans ((af i).trans ((af m).trans ((af j).trans ((af r).trans (ah u)))));rw[E]at a;rw[ah (bq.2 u)];exact⟨_,aj f,xV a (λa=>⟨_,aj f,by rw[show decide (((x.s p c).f17:Int)<=2147483648)=_ from Bn.nH x.token 2147483648];exact a⟩) (IE x.token 1)⟩;rw[af (λe=>u (bq.1 e))];have E:qZ x=decide (x.kind=10\/x.kind=11):=(af k).trans ((af i).trans ((af m).trans ((af j).trans ((af r).trans (af u)))));rw[E]at a;refine⟨_,aj f,?_⟩;by_cases t:x.kind=10;rw[ah (bq.2 t)];rw[aq (.inl t)]at a;exact a;rw[af (λe=>t (bq.1 e))];refine⟨_,aj f,?_⟩;have G:decide (x.kind=10\/x.kind=11)=(x.kind==11):=by by_cases Q:x.kind=11<;>simp[t,Q]
    rw[G]at a;exact a
   by_cases j:x.kind=5;grind;rw[af (λe=>j (bq.1 e))];refine ay.of λU M=> ?_;subst M;dsimp only;by_cases B:x.kind=8;grind;rw[af (λe=>B (bq.1 e))];exact T _ ⟨λe=> .inr (.inr (bq.1 e)),λe=>bq.2 ((e.resolve_left j).resolve_left B)⟩
  by_cases i:x.kind=2;simp_all;rw[af (λe=>i (bq.1 e))];exact S _ ⟨λe=> .inr (bq.1 e),λe=>bq.2 (e.resolve_left i)⟩
 by_cases k:x.kind=1;rw[ah (bq.2 k)];exact key _ ⟨λ_=> .inl k,λ_=>bq.2 k⟩;rw[af (λe=>k (bq.1 e))];exact key _ ⟨λe=> .inr (bq.1 e),λe=>bq.2 (e.resolve_left k)⟩
def fA(x:Rq)(r:Row h p (bc x.wC))(a: jA h R (.B (EI x))):Cl 298 #[(x.s p c).agg] h R:=by refine xu (aC.cE λb o E e f=>⟨_,aj e,?_⟩);unfold EI at a;simp only[fx]at a;rw[show decide (((x.s p c).f0:Int)≥1)=_ from IE x.id 1];refine jM a f λa=>⟨_,aj e,?_⟩;rw[show decide (((x.s p c).f0:Int)<=1099511627776)=_ from Bn.nH x.id 1099511627776];refine jM a f λa=>aC.dZ e (Rc x λs F=>⟨_,rfl,F.kp,jM a (f.tt F) λa=> ?_⟩);have l:=F.get e _root_.id;have i:=f.tt F;refine aC.dZ l (aC.dZ l (LG x (r.frame i (λ_ _=>_root_.id)) λt P C n j=>aC.ex ((uL x).s P C) ⟨rfl,j.kp,(Kx x (uL x) (r.frame (i.tt j) (λ_ _=>_root_.id)) n λm k=>⟨_,rfl,k.kp,(a m (i.tt (j.tt k)))⟩)⟩))

end Ask
end
section
variable {h:Heap} {R:dH}
variable {S:bH} {s a:Nat}
def jz(e:ite S.isNone (R (.Z) h) (aT h (.C #[] 368) λb H=>ij (Builtin.append_ #[366,366] 366 #[.L (Sa b 0) 0 0,.L S s a]) H λv d=> ∃c T t,v=.L c T t/\R (.L c T t) d)):Cl 458 #[.L S s a] h R:=aD [] e
def iu(b:Cl 516 #[.L S s a,.func (.func 462) #[] #[]] h λv H=> ∃t,v=.I t/\R (.B (decide (t≥0))) H):Cl 463 #[.L S s a,.func (.func 462) #[] #[]] h R:=aD [] b
def iC (c: ∃(I:iT)(m:iW),I 0 h/\∀t H,I t H->ite (decide (t<(s:Int))) (Bd t s/\aJ S λA=>aa.ck H (A.add (toNat t*4)) λd=>Cl 462 #[d.agg] H λv b=> ∃T,v=.B T/\ite T (R (.I t) b) ((I (wrap .i64 (t+1)) b/\m (wrap .i64 (t+1)) b<m t H))) (R (.I (-1)) H)):Cl 516 #[.L S s a,.func (.func 462) #[] #[]] h R:=aD [(6,.loop [(8,sI)])] c
def iD(b:Cl 517 #[.L S s a,.func (.func 465) #[] #[]] h λv H=> ∃t,v=.I t/\R (.B (decide (t≥0))) H):Cl 464 #[.L S s a,.func (.func 465) #[] #[]] h R:=aD [] b
def iR (c: ∃(I:iT)(m:iW),I 0 h/\∀t H,I t H->ite (decide (t<(s:Int))) (Bd t s/\aJ S λA=>fM H (A.add (toNat t*1)) λd=>Cl 465 #[.U d] H λv b=> ∃T,v=.B T/\ite T (R (.I t) b) ((I (wrap .i64 (t+1)) b/\m (wrap .i64 (t+1)) b<m t H))) (R (.I (-1)) H)):Cl 517 #[.L S s a,.func (.func 465) #[] #[]] h R:=aD [(6,.loop [(8,sI)])] c

end
section
namespace Bn
open Cb
open iZ (Ev dD jQ)
variable {V:cO→Bool} {h f d g0 g:Heap} {R:dH} {D:Nat→Prop}
variable {a:List CV} {n k:Int} {b c B:Nat} {v:BV} {T:List Tr} {q:bH} {t:Tr} {z:CV} {H:Heap}
def Dc(a:List CV): ∀v∈a.flatMap jr,fH v=true:=λv i=>by have⟨A,_,e⟩:=List.mem_flatMap.1 i;exact pO A v e
def OI{p:bH}{n m:Nat}(j:Row h p (a.flatMap jr))(i:n=a.length)(l:a.length<=1000000)(e: ∀P C d,Own d P a.length C 4 (a.flatMap jr)->Fr No h d->(∀x,aN P x->h.size<=x)->R (.L P a.length C) d):Cl 458 #[.L p n m] h R:=by
 subst i;exact jz (Gy tI uI bA j (ky jr 4 gI a) (Dc a) ae ae e)
structure Lc (g0 g:Heap) (b:Nat) (k n:Int) (v:BV) (T:List Tr) (a:List CV) (q:bH) (c:Nat):Prop where
 cV:aa.at g b k n v.p v.b.length v.c q a.length c
 own:Own g q a.length c 4 (a.flatMap jr)
 ge: ∀y,aN q y->g0.size<=y/\y≠b
 tr:dT g (λy=>(g0.size<=y/\y≠b)/\¬aN q y) T a
 fr:Fr (λy=>y=b) g0 g
def Lc.on(L:Lc g0 g b k n v T a q c)(F:Fr No g d):Lc g0 d b k n v T a q c:=
 ⟨F.get L.cV id,L.own.frame F bD,L.ge,L.tr.on F,L.fr.on F⟩
def UC(o:wv g (λy=>g0.size<=y/\y≠b) t z)(m:aa.ff g b z.s)(F:Fr (λy=>y=b) g0 g): ∃a,a.length=z.ll/\Lc g0 g b z.k z.n z.v t.l a z.q z.cl:=by have⟨H,a,e,i,j,l⟩:=o;refine⟨a,e.symm,?_,i,j,l,F⟩;rw[<-e];exact m
def UD{k':Nat}(L:Lc g0 g b k (k':Int) v T a q c)(o:v.ok g (λy=>g0.size<=y/\y≠b)):wv g (λy=>g0.size<=y/\y≠b) (.mk k k' v.b T) ⟨k,k',v,q,a.length,c⟩:=
 ⟨⟨rfl,rfl,rfl,o⟩,a,rfl,L.own,L.ge,L.tr⟩
theorem VG{e i:Heap}(C:wv e (λy=>H.size<=y) (wW []) z)(r:Fr No H e)(F:Fr No e i)(x:aa.ff i B z.s)(G:B=e.size):
  ∃Z,Z.length=0/\Lc H i B z.k z.n z.v [] Z z.q z.cl/\z.k=4/\z.n=0/\z.v.b= []/\z.v.b.length<=z.v.c:=by
 have I:=r.1;obtain⟨⟨A,l,m,o⟩,Z,s,p,u,w⟩:=C;have E:wv i (λy=>H.size<=y/\y≠B) (wW []) z:=
  ⟨⟨A,l,m,((MU o).mono λy j=>ae).frame F bD⟩,Z,s,p.frame F bD,λy j=>⟨u y j,cv (p.dW j)⟩,(dT.mono (λy j=>by grind) w.lt).on F⟩
 obtain⟨Z,_,L⟩:=UC (g0:=H) E x ((r.tt F).mono λ_ _=>False.elim);exact⟨Z,L.tr.len.symm,L,A,l,m,o.cap⟩
def Yl{i n:Nat}{y:aa.S}(L:Lc H g B k (n:Int) v T a q c)(m:k=4)(o:n=0)(E:v.b= [])(cap:v.b.length<=v.c)(F:Fr No h H)(j:aa.ff H i y)(w:i≠B)(A:h.size<=i)(C:h.size<=B)(s: ∀d z,wv d (λy=>h.size<=y) (wW T) z->Fr No h d->R z.s.agg d):aa.ck g (AA B 0) λr=>aa.cR g (AA i 0) r λG=>aa.ck G (AA i 0) λr=>R r.agg G:=by
 subst m;subst o;have I:=aE j;have Z:=F.1;have l:=UD (k':=0) L ⟨by rw[E];exact Row.nil,λe=>absurd E e,cap⟩;rw[E]at l;exact aa.dZ (x:=CV.s ⟨4,0,v,q,a.length,c⟩) L.cV (fin (z:=⟨4,0,v,q,a.length,c⟩) (t:=wW T) (D:=λy=>H.size<=y/\y≠B) (L.fr.get j w) l (λy u e=>ae) λG x p=>s G _ (x.mono λy u=>ae) ((F.fresh L.fr (λy e=>ae)).fresh p (λy e=>ae)))
def Ym{M:cM}(L:Lc g0 g b k n v T a q c)(ll:a.length<=1000000)(tz:hM g (λy=>(g0.size<=y/\y≠b)/\¬aN q y) t z)(hk: ∀G K Q C,Lc g0 G b k n v (T++ [t]) K Q C->K.length=a.length+1->g.size<=G.size->(∀x,x≠b->¬aN q x->x<g.size->G[x]? =g[x]?)->M G):
  aT g (.C z.s.arr 368) λP b'=>bu Tryz.prog (Builtin.append_ #[366,366] 366 #[.L q a.length c,.L (Sa P 0) 1 1]) b' λf' c'=>∃J I E,f'=.L J I E/\aI c' (AA b 3) (.L J I E) λd'=>M d':=by
 refine aa.cE λb2 h7 g' s F=> ?_;have z7:=F.1;have zg:=L.fr.1;have h':=aE s;have i':=aE L.cV;have nq: ∀y,aN q y->y<g.size:=λy i=>L.own.dW i;refine du tI uI (L.own.frame F bD) (ds:=jr z) (.inr ⟨_,rfl,aa.im (x:=z.s) s⟩) rfl (pO z) ae ae λQ C a' e' _ j p=>⟨_,_,_,rfl,?_⟩;have O:=j.get (F.get L.cV id) (λi=>(L.ge _ i).2 rfl);refine aY O (by show 3<4;omega) λr U X o=> ?_;have l:Fr (λy=>y=b) a' r:=Fr.of_eq X (λS hc=>o S hc);have w: ∀y,aN Q y->g0.size<=y/\y≠b:=λy i=>by rcases p y i with A|A;exact L.ge y A;omega
 have Z:a.flatMap jr++jr z=(a++ [z]).flatMap jr:=by rw[cC];simp
 refine hk r (a++ [z]) Q C ⟨?_,?_,w,?_,?_⟩ bO ?_ ?_;rw[ak];exact U;rw[ak,<-Z];exact e'.frame l (λy i e=>cv (w y i));have t1:=((L.tr.snoc tz).lt.on F).frame j (λy i m=>i.1.2 m);have m1:=dT.mono (D':=λy=>(g0.size<=y/\y≠b)/\¬aN Q y) (λy i=>⟨i.1.1,λm=>by rcases p y m with A|A;exact i.1.2 A;have:=i.2;omega⟩) t1;exact dT.frame l (λy i e=>ae) m1;exact((L.fr.on F).trans j (S'':=λy=>y=b) bD (λx u i=>cv (L.ge x i))).trans l bD bD;have:=j.1;omega;intro x u hq hl;rw[o x u,j.2 x ae hq,F.2 x hl id]
def UE{p:cM}{K:List (bH)}(L:Lc g0 g b k n v T a q c)(ll:a.length<=1000000)(I:hM g (λy=>(g0.size<=y/\y≠b)/\¬aN q y) t z)(F: ∀G o Q C,Lc g0 G b k n v (T++ [t]) o Q C->o.length=a.length+1->g.size<=G.size->(∀x,x≠b->¬aN q x->x<g.size->G[x]? =g[x]?)->p G):
  aT g (.C z.s.arr 368) λs i=>Kp g i K/\bu Tryz.prog (Builtin.append_ #[366,366] 366 #[.L q a.length c,.L (Sa s 0) 1 1]) i λJ w=>∃m l j,J=.L m l j/\aI w (AA b 3) (.L m l j) λA=>p A:=by
 intro r u E e;refine⟨?_,Ym L ll I F r u E e⟩;subst e;exact(Fr.push _ _).kp
def Re{l C:Nat}(U:lU V f)(u:Fr No f h)(L:ny h D q l C a)(r:dT h D T a)(X:dG T<=1000000)(s: jA h R (.B (!T.all (iq V)))):Cl 463 #[.L q l C,.func (.func 462) #[] #[]] h R:=by
 have ln:=r.len;have Q:=L.len;have l9:=ia T;refine iu (iC ?_);refine⟨λt g=> ∃i:Nat,t=(i:Int)/\i<=T.length/\Fr No h g/\(T.take i).all (iq V)=true,λt _=>T.length - t.toNat,⟨0,rfl,bg _,Fr.refl _ _,by rw[fy];rfl⟩,?_⟩;rintro _ g ⟨i,rfl,S,F,o⟩;by_cases j:i<T.length;rw[iE];obtain⟨A,y,E,J,M,Z⟩:=elem (L.frame F bD) (r.on F) j;have ra:=jR j;have w:T.take (i+1)=T.take i++ [at_ T i]:=by rw[bt];unfold at_;rw[aL,ai j];rfl
 have K:at_ T i∈T:=by unfold at_;rw[aL,ai j];exact cx j
 refine⟨ae,cf.2 ⟨A,E,aa.gT (x:=y.s) (by rw[aG];exact J) (vN (x:=y.s) (aa.cE λO H P I m=>aa.dZ I (fA U (u.tt (F.tt m)) (M.on m) ae λG x=>⟨_,rfl,_,rfl,?_⟩)))⟩⟩;have p:=F.tt (m.tt x);cases q:iq V (at_ T i)with
 |false=>rw[iE];refine⟨_,rfl,?_⟩;have:=s G p;rw[show T.all (iq V)=false by rw[List.all_eq_false];exact⟨_,K,by rw[q];decide⟩]at this;rw[aq ae];exact this
 |true=>rw[fe,df (n:=(i:Int)+1) ae ae];exact⟨⟨i+1,ae,ae,p,by rw[w,List.all_append,o];simp[q]⟩,by show T.length - Int.toNat ((i:Int)+1)<T.length - Int.toNat (i:Int);omega⟩
 rw[af (λe=>j (cv (bj e)))];rw[bz ae]at o;have:=s g F;rw[o]at this;exact⟨_,rfl,this⟩

end Bn
end
end Go.Proofs.YticlajoleibdnaaGreatDoor
