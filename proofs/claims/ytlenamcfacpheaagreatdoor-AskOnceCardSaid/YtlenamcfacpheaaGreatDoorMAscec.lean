/-
  Ei is proved here: parts of xi proof, one behind xi other (texts of this work, merged by a program; GH xi theorem GI not use is left out). No condition.
-/
import Derived.Test.YtlenamcfacpheaaGreatDoorMAsceb
set_option maxRecDepth 100000
set_option maxHeartbeats 4000000
namespace Go.Proofs.YtlenamcfacpheaaGreatDoor
open Go.Den
open IntKind (wrap)
open Int (toNat)
section
variable {h:ak} {R:fG}
variable {a:Nat} {X c i key:Int}
theorem KL.walk(e:aT h (.map #[] 0) λb H=>aT H (.cells #[.Z,.map (some b)] 191) λB d=>R (.P B 0) d):Cl 87 #[] h R:=aR (lq ll) Tryz.func87 e
theorem wv.walk(H: ∃t9,Cc h a 1 (.map t9)/\R (.bool (!t9.isNone)) h):Cl 114 #[.P a 0] h R:=aR (lq ll) Tryz.func114 H
theorem x8.walk(H: ∃b t T,Cc h a 0 (.slice b t T)/\R (.I ((t:Nat):Int)) h):Cl 56 #[.P a 0] h R:=aR (lq (sq (lq (cq ll lf)) ll)) Tryz.func56 H
theorem Fb.walk{y:Int}{Y:Int}(e:aT h (.cells #[.I X,.U c] 193) λb d=>aT d (.cells #[.I y,.U Y] 193) λB H=>Hu H b 1 λt6=> ∃t8,Cc H B 1 (.U t8)/\if(decide (t6<t8))then R (.bool true) H else Hu H b 1 λt12=> ∃t14,Cc H B 1 (.U t14)/\if(t12==t14)then Hi H b 0 λt18=> ∃t20,Cc H B 0 (.I t20)/\R (.bool (decide (t18<t20))) H else R (.bool false) H):Cl 170 #[.agg #[.I X,.U c],.agg #[.I y,.U Y]] h R:=aR (lq ll) Tryz.func170 e
theorem x9.walk(g:aT h (.cells #[.I X,.U c] 193) λb H=>Hl H a 0 λk j l=>Hi H b 0 λt=>Hu H b 1 λT=>Bd i j/\aO k λA=>aQ H (A.add (toNat i*2)) (.I t) λe=>aQ e ((A.add (toNat i*2)).add 1) (.U T) λd=> ∃t16,Cc d a 1 (.map t16)/\Hi d b 0 λt18=>aU Tryz.prog (Instr.mapUpdate 167 (.map t16) (.I t18) (.I i)) d λ_ f=>R (.tuple #[]) f):Cl 116 #[.P a 0,.I i,.agg #[.I X,.U c]] h R:=aR (lq (sq (pN 8) (pN 8))) Tryz.func116 g
theorem zU.walk (hv: ∃(I:Int->ak->Prop)(Q:Int->ak->Nat),(I i h)/\∀(d:Int)(H:ak),I d H->aI (λ(t28:Bool) (e:ak)=>if t28 then aI (λ(x:bZ) (y:bZ) (E:ak)=>aO x λL=>lR E L λk'=>ia E (L.add 1) λl'=>Cl 116 #[.P a 0,.I (wrap .i64 (Int.tdiv (wrap .i64 (d - 1)) 2)),.agg #[.I k',.U l']] E λv F=>v=.tuple #[]/\aO y λM=>lR F M λm'=>ia F (M.add 1) λn'=>Cl 116 #[.P a 0,.I d,.agg #[.I m',.U n']] F λo' P=>o'=.tuple #[]/\(I (wrap .i64 (Int.tdiv (wrap .i64 (d - 1)) 2)) P/\Q (wrap .i64 (Int.tdiv (wrap .i64 (d - 1)) 2)) P<Q d H)) (λK=>Hl e a 0 λs r u=>Bd d r/\aO s λj=>lR e (j.add (toNat d*2)) λk=>ia e ((j.add (toNat d*2)).add 1) λl=>Hl e a 0 λg f m=>Bd (wrap .i64 (Int.tdiv (wrap .i64 (d - 1)) 2)) f/\aO g λA=> ∃t,aX e (A.add (toNat (wrap .i64 (Int.tdiv (wrap .i64 (d - 1)) 2))*2))=some (.I t)/\∃T,aX e ((A.add (toNat (wrap .i64 (Int.tdiv (wrap .i64 (d - 1)) 2))*2)).add 1)=some (.U T)/\(aT e (.cells #[.I 0,.U 0] 193) λb p=>dM (A.add (toNat (wrap .i64 (Int.tdiv (wrap .i64 (d - 1)) 2))*2)) [.I t,.U T] 0 p/\Cc p a 0 (.slice g f m)/\dM (j.add (toNat d*2)) [.I k,.U l] 0 p/\Cc p a 0 (.slice s r u)/\aT p (.cells #[.I 0,.U 0] 193) λB q=>dM (A.add (toNat (wrap .i64 (Int.tdiv (wrap .i64 (d - 1)) 2))*2)) [.I t,.U T] 0 q/\Cc q a 0 (.slice g f m)/\dM (j.add (toNat d*2)) [.I k,.U l] 0 q/\Cc q a 0 (.slice s r u)/\aQ q (AA b 0) (.I k) λf'=>aQ f' (AA b 1) (.U l) λG=>dM (A.add (toNat (wrap .i64 (Int.tdiv (wrap .i64 (d - 1)) 2))*2)) [.I t,.U T] 0 G/\Cc G a 0 (.slice g f m)/\aQ G (AA B 0) (.I t) λa'=>aQ a' (AA B 1) (.U T) λb'=>K (Sa b 0) (Sa B 0) b')/\(aT e (.cells #[.I 0,.U 0] 193) λw n=>dM (A.add (toNat (wrap .i64 (Int.tdiv (wrap .i64 (d - 1)) 2))*2)) [.I t,.U T] 0 n/\Cc n a 0 (.slice g f m)/\dM (j.add (toNat d*2)) [.I k,.U l] 0 n/\Cc n a 0 (.slice s r u)/\aT n (.cells #[.I 0,.U 0] 193) λz o=>dM (A.add (toNat (wrap .i64 (Int.tdiv (wrap .i64 (d - 1)) 2))*2)) [.I t,.U T] 0 o/\Cc o a 0 (.slice g f m)/\dM (j.add (toNat d*2)) [.I k,.U l] 0 o/\Cc o a 0 (.slice s r u)/\aQ o (AA z 0) (.I k) λc'=>aQ c' (AA z 1) (.U l) λC=>dM (A.add (toNat (wrap .i64 (Int.tdiv (wrap .i64 (d - 1)) 2))*2)) [.I t,.U T] 0 C/\Cc C a 0 (.slice g f m)/\aQ C (AA w 0) (.I t) λd'=>aQ d' (AA w 1) (.U T) λe'=>K (Sa z 0) (Sa w 0) e')/\True)else R (.tuple #[]) e) (λJ=>if(decide (d>0))then Hl H a 0 λU S g'=>Bd d S/\aO U λN=>lR H (N.add (toNat d*2)) λh'=>ia H ((N.add (toNat d*2)).add 1) λi'=>Hl H a 0 λW V j'=>Bd (wrap .i64 (Int.tdiv (wrap .i64 (d - 1)) 2)) V/\aO W λO=> ∃Y,aX H (O.add (toNat (wrap .i64 (Int.tdiv (wrap .i64 (d - 1)) 2))*2))=some (.I Y)/\∃Z,aX H ((O.add (toNat (wrap .i64 (Int.tdiv (wrap .i64 (d - 1)) 2))*2)).add 1)=some (.U Z)/\Cl 170 #[.agg #[.I h',.U i'],.agg #[.I Y,.U Z]] H λp' D=>Vb p' λt27=>Cc D a 0 (.slice W V j')/\Cc D a 0 (.slice U S g')/\J t27 D else J false H)):Cl 117 #[.P a 0,.I i] h R:=aR (.scope 0 [(1,.one (.int .i64))] ll (lq (lq (sq (.join [(28,.one (.bool))] (pN 19)) (cq (sq (.join [(5,.one (.ptr)),(6,.one (.ptr))] (.gT (ga 14 0 (.alts (.fork 14 (ga 3 15 .done) (.fork 15 (.op 14 (.op 16 (.op 17 .done))) .gy)))))) (lq (lq ll))) lf))))) Tryz.func117 hv
theorem wx.walk (hv: ∃(I:Int->ak->Prop)(mu:Int->ak->Nat),(I i h)/\∀(d:Int)(F:ak),I d F->∃(z:Int->Int->ak->Prop)(i':Int->Int->ak->Nat),z d 0 F/\∀(B:Int)(t17:Int)(H:ak),z B t17 H->if(decide (t17<2))then aI (λ(d':Int) (f':ak)=>(z d' (wrap .i64 (t17+1)) f'/\i' d' (wrap .i64 (t17+1)) f'<i' B t17 H)) (λJ=>Bd t17 2/\(t17=((0:Nat):Int)->aI (λ(t43:Bool) (g':ak)=>aI (λ(z':Int) (H':ak)=>J z' H') (λQ=>if t43 then Q (wrap .i64 ((wrap .i64 (2*d))+1)) g' else Q B g')) (λP=> ∃l' N j',Cc H a 0 (.slice l' N j')/\if(decide ((wrap .i64 ((wrap .i64 (2*d))+1))<((N:Nat):Int)))then Hl H a 0 λp' n' J'=>Bd (wrap .i64 ((wrap .i64 (2*d))+1)) n'/\aO p' λW=> ∃r',aX H (W.add (toNat (wrap .i64 ((wrap .i64 (2*d))+1))*2))=some (.I r')/\∃t',aX H ((W.add (toNat (wrap .i64 ((wrap .i64 (2*d))+1))*2)).add 1)=some (.U t')/\Hl H a 0 λx' v' L'=>Bd B v'/\aO x' λY=>lR H (Y.add (toNat B*2)) λN'=>ia H ((Y.add (toNat B*2)).add 1) λP'=>Cl 170 #[.agg #[.I r',.U t'],.agg #[.I N',.U P']] H λv s=>Vb v λt42=>Cc s a 0 (.slice x' v' L')/\Cc s a 0 (.slice p' n' J')/\Cc s a 0 (.slice l' N j')/\P t42 s else P false H))/\(t17=((1:Nat):Int)->aI (λ(S':Bool) (h':ak)=>aI (λ(A':Int) (I':ak)=>J A' I') (λU=>if S' then U (wrap .i64 ((wrap .i64 (2*d))+2)) h' else U B h')) (λS=> ∃m' O k',Cc H a 0 (.slice m' O k')/\if(decide ((wrap .i64 ((wrap .i64 (2*d))+2))<((O:Nat):Int)))then Hl H a 0 λq' o' K'=>Bd (wrap .i64 ((wrap .i64 (2*d))+2)) o'/\aO q' λZ=> ∃s',aX H (Z.add (toNat (wrap .i64 ((wrap .i64 (2*d))+2))*2))=some (.I s')/\∃u',aX H ((Z.add (toNat (wrap .i64 ((wrap .i64 (2*d))+2))*2)).add 1)=some (.U u')/\Hl H a 0 λy' w' M'=>Bd B w'/\aO y' λa'=>lR H (a'.add (toNat B*2)) λO'=>ia H ((a'.add (toNat B*2)).add 1) λQ'=>Cl 170 #[.agg #[.I s',.U u'],.agg #[.I O',.U Q']] H λX' u=>Vb X' λR'=>Cc u a 0 (.slice y' w' M')/\Cc u a 0 (.slice q' o' K')/\Cc u a 0 (.slice m' O k')/\S R' u else S false H))/\True)else if(B !=d)then aI (λ(x:bZ) (y:bZ) (G:ak)=>aO x λb'=>lR G b' λT'=>ia G (b'.add 1) λU'=>Cl 116 #[.P a 0,.I B,.agg #[.I T',.U U']] G λY' K=>Y'=.tuple #[]/\aO y λc'=>lR K c' λV'=>ia K (c'.add 1) λW'=>Cl 116 #[.P a 0,.I d,.agg #[.I V',.U W']] K λZ' e'=>Z'=.tuple #[]/\(I B e'/\mu B e'<mu d F)) (λV=>Hl H a 0 λr q w=>Bd d q/\aO r λg=>lR H (g.add (toNat d*2)) λj=>ia H ((g.add (toNat d*2)).add 1) λk=>Hl H a 0 λf e l=>Bd B e/\aO f λA=>lR H (A.add (toNat B*2)) λt=>ia H ((A.add (toNat B*2)).add 1) λT=>(aT H (.cells #[.I 0,.U 0] 193) λb m=>dM (A.add (toNat B*2)) [.I t,.U T] 0 m/\Cc m a 0 (.slice f e l)/\dM (g.add (toNat d*2)) [.I j,.U k] 0 m/\Cc m a 0 (.slice r q w)/\aT m (.cells #[.I 0,.U 0] 193) λC n=>dM (A.add (toNat B*2)) [.I t,.U T] 0 n/\Cc n a 0 (.slice f e l)/\dM (g.add (toNat d*2)) [.I j,.U k] 0 n/\Cc n a 0 (.slice r q w)/\aQ n (AA b 0) (.I j) λB'=>aQ B' (AA b 1) (.U k) λL=>dM (A.add (toNat B*2)) [.I t,.U T] 0 L/\Cc L a 0 (.slice f e l)/\aQ L (AA C 0) (.I t) λC'=>aQ C' (AA C 1) (.U T) λD'=>V (Sa b 0) (Sa C 0) D')/\(aT H (.cells #[.I 0,.U 0] 193) λD o=>dM (A.add (toNat B*2)) [.I t,.U T] 0 o/\Cc o a 0 (.slice f e l)/\dM (g.add (toNat d*2)) [.I j,.U k] 0 o/\Cc o a 0 (.slice r q w)/\aT o (.cells #[.I 0,.U 0] 193) λE p=>dM (A.add (toNat B*2)) [.I t,.U T] 0 p/\Cc p a 0 (.slice f e l)/\dM (g.add (toNat d*2)) [.I j,.U k] 0 p/\Cc p a 0 (.slice r q w)/\aQ p (AA E 0) (.I j) λE'=>aQ E' (AA E 1) (.U k) λM=>dM (A.add (toNat B*2)) [.I t,.U T] 0 M/\Cc M a 0 (.slice f e l)/\aQ M (AA D 0) (.I t) λF'=>aQ F' (AA D 1) (.U T) λG'=>V (Sa E 0) (Sa D 0) G')/\True)else R (.tuple #[]) H):Cl 169 #[.P a 0,.I i] h R:=aR (.scope 0 [(1,.one (.int .i64))] ll (lq (lq (sq (lq (bq (.loop [(4,.one (.int .i64)),(17,.one (.int .i64))] (lq (sq (cq lf lf) (sq (.join [(4,.one (.int .i64))] (bq (lq (sq (.join [(43,.one (.bool))] (pN 24)) (.join [(4,.one (.int .i64))] (cq lf lf)))))) lf)))))) (lq (cq (sq (.join [(7,.one (.ptr)),(8,.one (.ptr))] (.gT (ga 14 0 (.alts (.fork 14 (ga 3 15 .done) (.fork 15 (.op 14 (.op 16 (.op 17 .done))) .gy)))))) (lq (lq ll))) lf)))))) Tryz.func169 hv
theorem ya.walk{V:Int}(o:Cl 114 #[.P a 0] h λv H=> ∃t10,v=.bool t10/\if(!t10)then R (.I 6) H else aI (λ(t12:Bool) (d:ak)=>if t12 then R (.I 1) d else Cl 115 #[.P a 0,.I key] d λs e=>Vi s λt25=>Hl e a 0 λr q p=>aT e (.cells #[.I 0,.U 0] 193) λb k=>aU Tryz.prog (Builtin.append_ #[189,189] 189 #[.slice r q p,.slice (Sa b 0) 1 1]) k λu l=> ∃g T t,u=.slice g T t/\aQ l (AA a 0) (.slice g T t) λf=>Hl f a 0 λz j y=>Cl 116 #[.P a 0,.I (wrap .i64 ((j:Int) - 1)),.agg #[.I key,.U V]] f λw m=>w=.tuple #[]/\Cl 117 #[.P a 0,.I (wrap .i64 ((j:Int) - 1))] m λx n=>x=.tuple #[]/\R (.I 0) n) (λJ=>if(decide (key<1))then J true H else if(decide (key>1099511627776))then J true H else J (decide (V>1099511627776)) H)):Cl 51 #[.P a 0,.I key,.U V] h R:=aR (lq (sq (bq (lq (cq ll (sq (.join [(12,.one (.bool))] lf) (cq ll lf))))) (lq (lq (lq (lq (lq ll))))))) Tryz.func51 o
theorem wy.walk (s:Cl 114 #[.P a 0] h λv H=> ∃t10,v=.bool t10/\if(!t10)then R (.I 6) H else∃t16,Cc H a 1 (.map t16)/\∃T l,ig Tryz.prog 167 (.map t16) (.I key) true H (.tuple #[.I T,.bool l])/\if(!l)then R (.I 4) H else Hl H a 0 λF t E=>Hl H a 0 λw u G=>Bd (wrap .i64 ((t:Int) - 1)) u/\aO w λA=> ∃m,aX H (A.add (toNat (wrap .i64 ((t:Int) - 1))*2))=some (.I m)/\∃n,aX H ((A.add (toNat (wrap .i64 ((t:Int) - 1))*2)).add 1)=some (.U n)/\aT H (.cells #[.I 0,.U 0] 193) λb o=>aQ o (AA b 0) (.I m) λp=>aQ p (AA b 1) (.U n) λj=>Hl j a 0 λx I g=>((0:Int)<=wrap .i64 ((t:Int) - 1)/\wrap .i64 ((t:Int) - 1)<=(g:Int))/\aQ j (AA a 0) (.slice (cR x g 0 2) ((toNat (wrap .i64 ((t:Int) - 1))) - 0) (g - 0)) λk=> ∃t48,Cc k a 1 (.map t48)/\aU Tryz.prog (Builtin.delete_ #[167,3] 0 #[.map t48,.I key]) k λV d=>V=.tuple #[]/\aI (λ(q:ak)=>R (.I 0) q) (λJ=>if(decide (T<(wrap .i64 ((t:Int) - 1))))then Hi d b 0 λy=>Hu d b 1 λz=>Cl 116 #[.P a 0,.I T,.agg #[.I y,.U z]] d λB r=>B=.tuple #[]/\Cl 117 #[.P a 0,.I T] r λC e=>C=.tuple #[]/\∃t64,Cc e a 1 (.map t64)/\Hi e b 0 λt66=> ∃t67,ig Tryz.prog 167 (.map t64) (.I t66) false e (.I t67)/\Cl 169 #[.P a 0,.I t67] e λD f=>D=.tuple #[]/\Cc f b 0 (.I t66)/\Cc f a 1 (.map t64)/\J f else J d)):Cl 115 #[.P a 0,.I key] h R:=aR (lq (sq (lq (cq ll lf)) (lq (sq (lq (cq ll lf)) (lq (lq (lq (lq (sq (lq (.join [] (cq (lq (lq (pN 9))) lf))) ll))))))))) Tryz.func115 s
theorem wz.walk(d:Cl 56 #[.P a 0] h λv H=> ∃t6,v=.I t6/\if(t6==0)then R (.tuple #[.I 0,.U 0,.bool false]) H else Hl H a 0 λT t g=>Bd 0 t/\aO T λA=>lR H (A.add (toNat 0*2)) λt14=>Hl H a 0 λf e j=>Bd 0 e/\aO f λb=> ∃t21,aX H ((b.add (toNat 0*2)).add 1)=some (.U t21)/\R (.tuple #[.I t14,.U t21,.bool true]) H):Cl 171 #[.P a 0] h R:=aR (lq (sq (lq (cq ll lf)) (sq (pN 17) lf))) Tryz.func171 d
theorem wA.walk{now:Int}(x:Cl 171 #[.P a 0] h λv r=> ∃j k l,v=.tuple #[.I j,.U k,.bool l]/\∃(I:bZ->Nat->Nat->Int->Int->Bool->ak->Prop)(m:bZ->Nat->Nat->Int->Int->Bool->ak->Nat),I none 0 0 j k l r/\∀(d:bZ)(O o:Nat)(key:Int)(V:Int)(is:Bool)(H:ak),I d O o key V is H->aI (λ(t20:Bool) (f:ak)=>if t20 then aT f (.cells #[.I key] 3) λb s=>aU Tryz.prog (Builtin.append_ #[105,105] 105 #[.slice d O o,.slice (Sa b 0) 1 1]) s λy u=>Vl y λq p n=>Cl 115 #[.P a 0,.I key] u λz w=>Vi z λt33=>Cl 171 #[.P a 0] w λA g=> ∃t T e,A=.tuple #[.I t,.U T,.bool e]/\(I q p n t T e g/\m q p n t T e g<m d O o key V is H)else R (.slice d O o) f) (λJ=>if is then J (decide (V<=now)) H else J false H)):Cl 118 #[.P a 0,.U now] h R:=aR (lq (lq (sq (lq (bq (.loop [(5,.one (.slice)),(6,.one (.int .i64)),(7,.one (.int .u64)),(8,.one (.bool))] (sq (sq (.join [(20,.one (.bool))] lf) (cq lf lf)) (sq (bq ll) lf))))) ll))) Tryz.func118 x

end
section
open Go.kQ
namespace cf
theorem tm:qG Tryz.prog 167 (.I 0):=.of 3 3 .i64 cZ cZ cZ
def enc(es:List E):List Value:=es.flatMap λe=> [.int .i64 e.1,.int .u64 e.2]
theorem oJ(e:E)(es:List E):enc (e::es)=.I e.1:: .U e.2::enc es:=rfl
theorem jI: ∀es:List E,(enc es).length=es.length*2
 | []=>rfl
 |e::es=>by rw[oJ];simp only[aW,jI es];omega
theorem He(es fs:List E):enc (es++fs)=enc es++enc fs:=by simp[enc]
theorem Rr: ∀{es:List E}{i:Nat},i<es.length->(enc es)[i*2]? =some (.I (at_ es i).1)
 | [],_,h=>by simp at h
 |e::es,0,_=>rfl
 |e::es,i+1,h=>by
  rw[oJ,show(i+1)*2=i*2+1+1 by omega,dA,dA,Rr (cH h)];rfl
theorem Rs: ∀{es:List E}{i:Nat},i<es.length->(enc es)[i*2+1]? =some (.U (at_ es i).2)
 | [],_,h=>by simp at h
 |e::es,0,_=>rfl
 |e::es,i+1,h=>by
  rw[oJ,show(i+1)*2+1=i*2+1+1+1 by omega,dA,dA,Rs (cH h)];rfl
theorem Jg: ∀(es:List E)(i:Nat)(x:E),((enc es).set (i*2) (.I x.1)).set (i*2+1) (.U x.2)=enc (es.set i x)
 | [],_,_=>by simp[enc]
 |e::es,0,x=>rfl
 |e::es,i+1,x=>by
  rw[oJ,show(i+1)*2=i*2+1+1 by omega,List.set_cons_succ,List.set_cons_succ,List.set_cons_succ,List.set_cons_succ,Jg es i x];rfl
theorem Fc: ∀(es:List E)(n:Nat),(enc es).take (n*2)=enc (es.take n)
 | [],n=>by simp[enc]
 |e::es,0=>by simp[enc]
 |e::es,n+1=>by
  rw[oJ,show(n+1)*2=n*2+1+1 by omega,gg,gg,Fc es n];rfl
theorem Jh: ∀(es:List E),∀v∈enc es,fX v=true
 | [],_,h=>by cases h
 |e::es,v,h=>by
  rw[oJ]at h;rcases bG.1 h with rfl|h
  .rfl
  .rcases bG.1 h with rfl|h
   .rfl
   .exact Jh es v h
structure Mem (h:ak) (a:Nat) (p:bZ) (cap m:Nat) (es:List E) (g:Int->Option Value):Prop where
 cX:h[a]? =some (.cells #[.slice p es.length cap,.map (some m)] 191 (0,0))
 own:fi h p es.length cap 2 (enc es)
 map:nm h m g
 ne: ¬aL p a
def zV(a:Nat)(p:bZ)(m:Nat)(c:Nat):Prop:=c=a\/c=m\/aL p c
def inner(p:bZ)(m:Nat)(c:Nat):Prop:=c=m\/aL p c
variable {h : ak} {a m cap : Nat} {p : Option Addr} {es : List E} {g : Int → Option Value} {R : Value → ak → Prop}
theorem Mem.am(M:Mem h a p cap m es g):a≠m:=by
 rintro rfl;obtain⟨x,c,H⟩:=M.map.map;rw[M.cX]at H;cases H
theorem Mem.pm(M:Mem h a p cap m es g): ¬aL p m:=λb=>by
 obtain⟨x,c,H⟩:=M.map.map;obtain⟨y,t,d⟩:=M.own.cells b;rw[d]at H;cases H
theorem Mem.lt(M:Mem h a p cap m es g){c:Nat}(hc:zV a p m c):c<h.size:=by
 rcases hc with rfl|rfl|hc
 .exact aE M.cX
 .exact M.map.lt
 .exact M.own.dw hc
theorem Mem.frame{S:Nat->Prop}{h':ak}(M:Mem h a p cap m es g)(H:Fr S h h')(b: ∀c,zV a p m c->¬S c):Mem h' a p cap m es g:=
 ⟨H.get M.cX (b a (.inl rfl)),M.own.frame H λc d=>b c (.inr (.inr d)),M.map.frame H (b m (.inr (.inl rfl))),M.ne⟩
theorem Mem.calm{h':ak}(M:Mem h a p cap m es g)(H:Fr No h h'):Mem h' a p cap m es g:=M.frame H λ_ _=>id
theorem Mem.hd(M:Mem h a p cap m es g):aX h (AA a 0)=some (.slice p es.length cap):=aq M.cX
theorem Mem.mp(M:Mem h a p cap m es g):aX h (AA a 1)=some (.map (some m)):=aq M.cX
theorem Mem.some(M:Mem h a p cap m es g)(c:0<es.length): ∃A,p=some A:=by
 obtain⟨b,off,H⟩:=M.own.some (by rw[jI];omega);exact⟨_,H⟩
theorem Mem.c0{A:Addr}(M:Mem h a (.some A) cap m es g){i:Nat}(H:i<es.length):aX h (A.add (i*2))=.some (.I (at_ es i).1):=M.own.cell (Rr H)
theorem Mem.c1{A:Addr}(M:Mem h a (.some A) cap m es g){i:Nat}(H:i<es.length):aX h ((A.add (i*2)).add 1)=.some (.U (at_ es i).2):=by
 rw[add_add];exact M.own.cell (Rs H)
theorem vk{c X y0 y:Int}(hk: iq h R (.bool (decide (lt (c,X) (y0,y))))):
  Cl 170 #[.agg #[.I c,.U X],.agg #[.I y0,.U y]] h R:=by
 refine Fb.walk ?_;rintro b d rfl rfl b1 i rfl rfl;have f:Fr No h ((h.push (.cells #[.I c,.U X] 193)).push (.cells #[.I y0,.U y] 193)):=Fr.tt (Fr.push _ _) (Fr.push _ _);have j:=zc (x:=.cells #[.I y0,.U y] 193) (bV (h:=h) (x:=.cells #[.I c,.U X] 193));have k:=bV (h:=h.push (.cells #[.I c,.U X] 193)) (x:=.cells #[.I y0,.U y] 193);have H:=hk _ f;refine⟨X,aq j,y,aq k,?_⟩;by_cases d:X<y
 .have e:decide (lt (c,X) (y0,y))=true:=by simp[lt,d]
  rw[e]at H;simpa only[d,bt,bg]using H
 .simp only[d,bf,au,aM];refine⟨X,aq j,y,aq k,?_⟩;by_cases i:X=y
  .subst i;simp only[ff,bg];refine⟨c,aq j,y0,aq k,?_⟩;have e:decide (lt (c,X) (y0,X))=decide (c<y0):=by simp[lt]
   rw[e]at H;exact H
  .have e:decide (lt (c,X) (y0,y))=false:=by simp[lt,d,i]
   rw[e]at H;simpa only[dL.2 i,au,aM]using H
theorem wB(M:Mem h a p cap m es g){i:Nat}(E:i<es.length){X d:Int}(hk: ∀h',Mem h' a p cap m (es.set i (X,d)) (λk=>if k=X then some (.I i)else g k)->Fr (inner p m) h h'->R (.tuple #[]) h'):
  Cl 116 #[.P a 0,.I i,.agg #[.I X,.U d]] h R:=by
 obtain⟨A,rfl⟩:=M.some ae;refine x9.walk ?_;rintro b l t rfl;have f1:Fr No h (h.push (.cells #[.I X,.U d] 193)):=Fr.push _ _;have f:=M.calm f1;have j:=bV (h:=h) (x:=.cells #[.I X,.U d] 193);rw[<-t]at j;generalize h.push (.cells #[.I X,.U d] 193)=l at f1 f j;have u: ∀c,zV a (some A) m c->b≠c:=λc H e=>by have:=M.lt H;omega
 refine⟨_,_,_,f.hd,X,aq j,d,aq j,ae,az.2 ?_⟩;rw[aC,add_add];have F:=jI es;refine f.own.store ae λD o2 B w=>o2.store (by rw[dj];omega) λq o C y=> ?_
 rw[Jg es i (X,d)]at o;have f2:Fr (aL (some A)) l q:=Fr.tt (Fr.of_eq B w) (Fr.of_eq C y);have v:=f2.get j (λH=>u b (.inr (.inr H)) rfl);have n:=f2.get f.cX M.ne;refine⟨_,aq n,X,aq v,?_⟩;refine mJ tm (f.map.frame f2 M.pm) λr z s K=>hk r ⟨?_,?_,z,M.ne⟩ ?_
 .rw[K a M.am,n,dj]
 .rw[dj];exact o.frame (Fr.of_eq (S:=λc=>c=m) s K) (λc H e=>M.pm (e▸H))
 .exact Fr.no f1 ((f2.mono λc _ H=> .inr H).trans (Fr.of_eq (S:=λc=>c=m) s K) cb (λ_ _ H=> .inl H))
theorem Rt{h:ak}{t:TypeId}{z Z X F y0 Y:Value}{G i r s:ak->Prop}{J:bZ->bZ->ak->Prop}(q: ∀h',Fr No h h'->G h'/\i h'/\r h'/\s h')(hJ: ∀b B h',h'[b]? =some (.cells #[X,F] t (0,0))->h'[B]? =some (.cells #[y0,Y] t (0,0))->h.size<=b->h.size<=B->Fr No h h'->J (Sa b 0) (Sa B 0) h'):
  (aT h (.cells #[z,Z] t) λb H=>G H/\i H/\r H/\s H/\aT H (.cells #[z,Z] t) λj d=>G d/\i d/\r d/\s d/\
   aQ d (AA b 0) X λD=>aQ D (AA b 1) F λe=>G e/\i e/\aQ e (AA j 0) y0 λA=>aQ A (AA j 1) Y λC=>J (Sa b 0) (Sa j 0) C)/\
  (aT h (.cells #[z,Z] t) λb H=>G H/\i H/\r H/\s H/\aT H (.cells #[z,Z] t) λj d=>G d/\i d/\r d/\s d/\
   aQ d (AA j 0) X λD=>aQ D (AA j 1) F λe=>G e/\i e/\aQ e (AA b 0) y0 λA=>aQ A (AA b 1) Y λC=>J (Sa j 0) (Sa b 0) C)/\True:=by
 have key: ∀(b B:Nat)(w:ak),b≠B->h.size<=b->h.size<=B->Fr No h w->w[b]? =some (.cells #[z,Z] t (0,0))->w[B]? =some (.cells #[z,Z] t (0,0))->
   aQ w (AA b 0) X λD=>aQ D (AA b 1) F λe=>G e/\i e/\aQ e (AA B 0) y0 λA=>aQ A (AA B 1) Y λC=>J (Sa b 0) (Sa B 0) C:=by
  intro b B w E I K f7 S T;have fr: ∀{u v:ak}{x:Nat},Fr No h u->h.size<=x->v.size=u.size->(∀y,y≠x->v[y]? =u[y]?)->Fr No h v:=λf hx hs ho=>
   ⟨bR f.1,λc hc hn=>by rw[ho c ae];exact f.2 c hc hn⟩
  refine bL S bQ λh8 U s8 N=>bL U bQ λh9 V s9 O=> ?_
  have f9:=fr (fr f7 I s8 N) I s9 O;have W:h9[B]? =some (.cells #[z,Z] t (0,0)):=by rw[O _ E.symm,N _ E.symm];exact T
  refine⟨(q _ f9).1,(q _ f9).2.1,bL W bQ λd' P b' L=>bL P bQ λa' Q c' M=> ?_⟩;refine hJ b B a' ?_ Q I K (fr (fr f9 K b' L) K c' M);rw[M _ E,L _ E];exact V
 have f1: ∀o,Fr No h (h.push o):=λo=>Fr.push _ _
 refine⟨?_,?_,trivial⟩
 .rintro b u rfl rfl;obtain⟨k,l,n,g4⟩:=q _ (f1 _);refine⟨k,l,n,g4,?_⟩;rintro B v rfl rfl;have f2:=Fr.tt (f1 (.cells #[z,Z] t)) (Fr.push (h.push (.cells #[z,Z] t)) (.cells #[z,Z] t));obtain⟨k,l,n,g4⟩:=q _ f2;exact⟨k,l,n,g4,key _ _ _ bQ bQ bQ f2 (zc bV) bV⟩
 .rintro b u rfl rfl;obtain⟨k,l,n,g4⟩:=q _ (f1 _);refine⟨k,l,n,g4,?_⟩;rintro B v rfl rfl;have f2:=Fr.tt (f1 (.cells #[z,Z] t)) (Fr.push (h.push (.cells #[z,Z] t)) (.cells #[z,Z] t));obtain⟨k,l,n,g4⟩:=q _ f2;exact⟨k,l,n,g4,key _ _ _ bQ bQ bQ f2 bV (zc bV)⟩
end cf
end
section
open Go.kQ
namespace cf
variable {h:ak} {a m cap:Nat} {p:bZ} {es:List E} {g:Int→Option Value} {R:fG}
variable {q i b:Nat}
theorem Sc(H:q<1000000):IntKind.wrap .i64 (Int.tdiv (IntKind.wrap .i64 ((q:Int) - 1)) 2)=(((q - 1)/2:Nat):Int):=by
 rw[bB (n:=(q:Int) - 1) ae ae];cases q with
 |zero=>decide
 |succ n=>
  rw[show((n+1:Nat):Int) - 1=(n:Int) by omega,show n+1 - 1=n from rfl];have:Int.tdiv (n:Int) 2=((n/2:Nat):Int):=by
   rw[Int.tdiv_eq_ediv_of_nonneg ae];omega
  rw[this];exact bB ae ae
theorem Pw(H:q<1000000):IntKind.wrap .i64 (IntKind.wrap .i64 (2*(q:Int))+1)=((2*q+1:Nat):Int):=by
 rw[bB (n:=2*(q:Int)) ae ae,bB ae ae];omega
theorem Px(H:q<1000000):IntKind.wrap .i64 (IntKind.wrap .i64 (2*(q:Int))+2)=((2*q+2:Nat):Int):=by
 rw[bB (n:=2*(q:Int)) ae ae,bB ae ae];omega
theorem Ji{K:ak->Prop}(M:Mem h a p cap m es g)(u:iG es g){j B:Nat}(f:i<es.length)(k:j<es.length)(y:i≠j)(d:h[b]? =some (.cells #[.I (at_ es i).1,.U (at_ es i).2] 193 (0,0)))(x:h[B]? =some (.cells #[.I (at_ es j).1,.U (at_ es j).2] 193 (0,0)))(N: ¬inner p m B)(hk: ∀h' G,Mem h' a p cap m (pQ es i j) G->iG (pQ es i j) G->Fr (inner p m) h h'->K h'):
  aO (some ((AA b 0):Addr)) λA=>
   ∃(t:Int),aX h A=some (.I t)/\∃(T:Int),aX h (A.add 1)=some (.U T)/\
   Cl 116 #[.P a 0,.I (j:Int),.agg #[.I t,.U T]] h λv H=>
   v=.tuple #[]/\
   aO (some ((AA B 0):Addr)) λc=>
   ∃(l:Int),aX H c=some (.I l)/\∃(n:Int),aX H (c.add 1)=some (.U n)/\
   Cl 116 #[.P a 0,.I (i:Int),.agg #[.I l,.U n]] H λV w=>
   V=.tuple #[]/\K w:=by
 refine az.2 ⟨_,aq d,_,by rw[gU];exact aq d,?_⟩;refine wB M k λz o f4=>⟨rfl,az.2 ?_⟩
 have e:=f4.get x N;refine⟨_,aq e,_,by rw[gU];exact aq e,?_⟩;refine wB o (by rw[dj];exact f) λs r f5=>⟨rfl,hk s _ r (u.swap f k y) (Fr.tt f4 f5)⟩
def X2(H:ak)(a:Nat)(p:bZ)(cap m:Nat)(e:List E)(i0:Nat)(i:Int)(h:ak):Prop:=
 ∃es g q,i=((q:Nat):Int)/\q<e.length/\es.length=e.length/\Mem h a p cap m es g/\iG es g/\es.Perm e/\tO (at_ es) e.length q/\
  ((q=i0/\es=e)\/zC (at_ es) e.length q)/\at_ es q=at_ e i0/\Fr (inner p m) H h
theorem Fe(M:Mem h a p cap m es g)(K:iG es g)(T:i<es.length)(hn:es.length<1000000)(ex:tO (at_ es) es.length i)(hk: ∀h' E G q,Mem h' a p cap m E G->iG E G->E.Perm es->E.length=es.length->q<es.length->at_ E q=at_ es i->tQ (at_ E) es.length q->(zC (at_ es) es.length i->qN (at_ E) es.length)->Fr (inner p m) h h'->R (.tuple #[]) h'):
  Cl 117 #[.P a 0,.I (i:Int)] h R:=by
 refine zU.walk ⟨X2 h a p cap m es i,λi _=>i.toNat,⟨es,g,i,rfl,T,rfl,M,K,.refl _,ex,.inl ⟨rfl,rfl⟩,rfl,Fr.refl _ _⟩,?_⟩;rintro i1 r ⟨e,B,q,rfl,v,u,c,P,x,o,kd,t,fr⟩;rw[Sc ae];refine aI.of λJ s=> ?_
 have j:q<e.length:=ae
 have H:(q - 1)/2<e.length:=ae
 have S: ∀l,Fr No r l->(q=0\/le (at_ e ((q - 1)/2)) (at_ e q))->J false l:=by
  intro l f U;subst s;simp only[au,aM];have hd:=Ph o U;refine hk l e B q (c.calm f) P x u v t hd (λV=> ?_) (Fr.on fr f);rcases kd with⟨e1,e2⟩|kd
  .subst e1 e2;exact pF hd V
  .exact pF hd kd
 by_cases D:q=0
 .subst D;exact S r (Fr.refl _ _) (.inl rfl)
 .have Q:(q:Int)>0:=ae
  simp only[Q,bt,bg,aC];obtain⟨X,rfl⟩:=c.some ae;refine⟨_,_,_,c.hd,ae,az.2 ⟨_,c.c0 j,_,c.c1 j,_,_,_,c.hd,ae,az.2 ⟨_,c.c0 H,_,c.c1 H,vk λl f=>⟨_,rfl,(c.calm f).hd,(c.calm f).hd,?_⟩⟩⟩⟩;by_cases n:lt (at_ e q) (at_ e ((q - 1)/2))
  .rw[show decide (lt ((at_ e q).1,(at_ e q).2) ((at_ e ((q - 1)/2)).1,(at_ e ((q - 1)/2)).2))=true from aw n];subst s;simp only[bg,aC];have d:=c.calm f;refine aI.of λW I=> ?_
   refine⟨_,_,_,d.hd,ae,az.2 ⟨_,d.c0 j,_,d.c1 j,_,_,_,d.hd,ae,az.2 ⟨_,d.c0 H,_,d.c1 H,?_⟩⟩⟩;refine Rt (λh' F=> ?_) (λb Y h' L N sb a' F=> ?_)
   .have k:=d.calm F;exact⟨⟨k.c0 H,k.c1 H,trivial⟩,k.hd,⟨k.c0 j,k.c1 j,trivial⟩,k.hd⟩
   .subst I;have y:=d.calm F;refine Ji y P j H ae L N (λO=> ?_) λZ C z A f5=>⟨⟨pQ e q ((q - 1)/2),C,(q - 1)/2,rfl,ae,by rw[wi];exact u,z,A,(tR j H).trans x,?_⟩,?_⟩
    .have:=d.lt (.inr O);omega
    .have w:=Pj o ae v rfl n;rw[Cj j H];refine⟨w.1,.inr w.2,?_,Fr.tt fr (Fr.no f (Fr.no F f5))⟩;rw[<-t];unfold oF;rw[dz,ah rfl]
    .show Int.toNat (((q - 1)/2:Nat):Int)<Int.toNat (q:Int);rw[aC,aC];omega
  .rw[show decide (lt ((at_ e q).1,(at_ e q).2) ((at_ e ((q - 1)/2)).1,(at_ e ((q - 1)/2)).2))=false from aD n];exact S l f (.inr n)
theorem M4{J:Int->ak->Prop}(M:Mem h a p cap m es g){c:Nat}(y:b<es.length)(N:es.length<=c->J b h)(O:c<es.length->lt (at_ es c) (at_ es b)->∀h',Fr No h h'->J c h')(P:c<es.length->¬lt (at_ es c) (at_ es b)->∀h',Fr No h h'->J b h'):
  aI (λ(t43:Bool) (x:ak)=>
   aI (λ(K:Int) (L:ak)=>
    J K L)
   (λr=>
    if t43=true then
     r (c:Int) x
    else
     r (b:Int) x))
  (λo=>
   ∃(B:bZ)(t z:Nat),aX h (AA a 0)=some (.slice B t z)/\
   if(decide ((c:Int)<(t:Int)))=true then
    ∃(k:bZ)(T C:Nat),aX h (AA a 0)=some (.slice k T C)/\
    ((0:Int)<=(c:Int)/\(c:Int)<(T:Int))/\
    aO k λA=>
    ∃(D:Int),aX h (A.add (Int.toNat (c:Int)*2))=some (.I D)/\∃(E:Int),aX h ((A.add (Int.toNat (c:Int)*2)).add 1)=some (.U E)/\
    ∃(n:bZ)(l F:Nat),aX h (AA a 0)=some (.slice n l F)/\
    ((0:Int)<=(b:Int)/\(b:Int)<(l:Int))/\
    aO n λs=>
    ∃(G:Int),aX h (s.add (Int.toNat (b:Int)*2))=some (.I G)/\∃(I:Int),aX h ((s.add (Int.toNat (b:Int)*2)).add 1)=some (.U I)/\
    Cl 170 #[.agg #[.I D,.U E],.agg #[.I G,.U I]] h λv H=>
    ∃(t42:Bool),v=.bool t42/\
    aX H (AA a 0)=some (.slice n l F)/\
    aX H (AA a 0)=some (.slice k T C)/\
    aX H (AA a 0)=some (.slice B t z)/\
    o t42 H
   else
    o false h):=by
 refine aI.of λQ w=>⟨_,_,_,M.hd,?_⟩
 by_cases d:c<es.length
 .have j:(c:Int)<(es.length:Int):=ae
  simp only[j,bt,bg,aC];obtain⟨S,rfl⟩:=M.some ae;refine⟨_,_,_,M.hd,ae,az.2 ⟨_,M.c0 d,_,M.c1 d,_,_,_,M.hd,ae,az.2 ⟨_,M.c0 y,_,M.c1 y,vk λu f=>⟨_,rfl,(M.calm f).hd,(M.calm f).hd,(M.calm f).hd,?_⟩⟩⟩⟩;subst w;by_cases e:lt (at_ es c) (at_ es b)
  .rw[show decide (lt ((at_ es c).1,(at_ es c).2) ((at_ es b).1,(at_ es b).2))=true from aw e];simp only[bg,aI];exact O d e u f
  .rw[show decide (lt ((at_ es c).1,(at_ es c).2) ((at_ es b).1,(at_ es b).2))=false from aD e];simp only[au,aM,aI];exact P d e u f
 .have j: ¬(c:Int)<(es.length:Int):=ae
  subst w;simp only[j,bf,au,aM,aI];exact N ae
def X4(H:ak)(a:Nat)(p:bZ)(cap m:Nat)(e:List E)(i:Int)(h:ak):Prop:=
 ∃es g q,i=((q:Nat):Int)/\q<e.length/\es.length=e.length/\Mem h a p cap m es g/\iG es g/\es.Perm e/\tQ (at_ es) e.length q/\Fr (inner p m) H h
def VJ(H:ak)(es:List E)(q:Nat)(B t:Int)(h:ak):Prop:=
 ∃b k:Nat,B=b/\t=k/\k<=2/\b<es.length/\Fr No H h/\(b≠q->(b - 1)/2=q/\0<b/\lt (at_ es b) (at_ es q))/\∀c,0<c->c<es.length->c<=2*q+k->(c - 1)/2=q->le (at_ es b) (at_ es c)
theorem Dp(M:Mem h a p cap m es g)(hP:iG es g)(hi:i<es.length)(hn:es.length<1000000)(ex:tQ (at_ es) es.length i)(hk: ∀h' E G,Mem h' a p cap m E G->iG E G->E.Perm es->E.length=es.length->qN (at_ E) es.length->Fr (inner p m) h h'->R (.tuple #[]) h'):
  Cl 169 #[.P a 0,.I (i:Int)] h R:=by
 refine wx.walk ⟨X4 h a p cap m es,λi _=>es.length - i.toNat,⟨es,g,i,rfl,hi,rfl,M,hP,.refl _,ex,Fr.refl _ _⟩,?_⟩;rintro i1 I ⟨y,X,q,rfl,hq,N,Q,P,O,D,fr⟩;have r:q<y.length:=ae
 rw[Pw ae,Px ae];refine⟨VJ I y q,λ_ t _=>2 - t.toNat,⟨q,0,rfl,rfl,ae,r,Fr.refl _ _,λA=>absurd rfl A,λc I K z h4=>ae⟩,?_⟩;rintro d' t K ⟨b,k,rfl,rfl,g',H,f2,s,w⟩;have d:=Q.calm f2;by_cases i':k<2
 .have a':(k:Int)<2:=ae
  simp only[a',bt,bg];rw[bB (n:=(k:Int)+1) ae ae];refine aI.of λc' L=>⟨ae,λe'=> ?_,λf'=> ?_,trivial⟩
  .obtain rfl:k=0:=ae
   refine M4 d H (λl=> ?_) (λl f z f3=> ?_) (λl f z f3=> ?_)<;>subst L<;>refine⟨?_,bQ⟩
   .exact⟨b,1,rfl,rfl,ae,H,f2,s,λc c1 C v o=>ae⟩
   .refine⟨2*q+1,1,rfl,rfl,ae,l,Fr.tt f2 f3,λ_=>⟨ae,ae,?_⟩,λc c1 C v o=> ?_⟩
    .by_cases e:b=q
     .rw[<-e];exact e▸f
     .exact lt_trans f (s e).2.2
    .have:c=2*q+1:=ae
     subst this;exact le_refl _
   .refine⟨b,1,rfl,rfl,ae,H,Fr.tt f2 f3,s,λc c1 C v o=> ?_⟩;have:c=2*q+1:=ae
    subst this;exact f
  .obtain rfl:k=1:=ae
   refine M4 d H (λl=> ?_) (λl f z f3=> ?_) (λl f z f3=> ?_)<;>subst L<;>refine⟨?_,bQ⟩
   .exact⟨b,2,rfl,rfl,ae,H,f2,s,λc c1 C v o=>w c c1 C ae o⟩
   .refine⟨2*q+2,2,rfl,rfl,ae,l,Fr.tt f2 f3,λ_=>⟨ae,ae,?_⟩,λc c1 C v o=> ?_⟩
    .by_cases e:b=q
     .rw[<-e];exact e▸f
     .exact lt_trans f (s e).2.2
    .by_cases e:c=2*q+2
     .subst e;exact le_refl _
     .exact le_trans (le_of_lt f) (w c c1 C ae o)
   .refine⟨b,2,rfl,rfl,ae,H,Fr.tt f2 f3,s,λc c1 C v o=> ?_⟩;by_cases e:c=2*q+2
    .subst e;exact f
    .exact w c c1 C ae o
 .obtain rfl:k=2:=ae
  simp only[show¬((2:Nat):Int)<2 by omega,bf,au,aM];by_cases e:b=q
  .subst e;simp only[bne_self_eq_false,au,aM];refine hk K y X d P O N (pF D λj J j2 B=>w j J ae ae B) (Fr.on fr f2)
  .obtain⟨b1,V,W⟩:=s e;have A:((b:Int) !=(q:Int))=true:=by simp;omega
   simp only[A,bg,aC];obtain⟨ad,rfl⟩:=d.some ae;refine aI.of λJ1 Z=> ?_
   refine⟨_,_,_,d.hd,ae,az.2 ⟨_,d.c0 r,_,d.c1 r,_,_,_,d.hd,ae,az.2 ⟨_,d.c0 H,_,d.c1 H,?_⟩⟩⟩;refine Rt (λh' F=> ?_) (λx x' h' hx b' sx j' F=> ?_)
   .have u:=d.calm F;exact⟨⟨u.c0 H,u.c1 H,trivial⟩,u.hd,⟨u.c0 r,u.c1 r,trivial⟩,u.hd⟩
   .subst Z;have S:=d.calm F;refine Ji S P r H (λx=>e x.symm) hx b' (λl=> ?_) λh5 Y T U f5=>⟨⟨pQ y q b,Y,b,rfl,ae,by rw[wi];exact N,T,U,(tR r H).trans O,?_,Fr.tt fr (Fr.no f2 (Fr.no F f5))⟩,?_⟩
    .have:=d.lt (.inr l);omega
    .rw[Cj r H];exact Kz D b1 V ae W λj J j2 B=>w j J ae ae B
    .show es.length - Int.toNat (b:Int)<es.length - Int.toNat (q:Int);rw[aC,aC];omega

end cf
end
section
open Go.kQ
namespace cf
variable {h:ak} {a m cap:Nat} {p:bZ} {es:List E} {g:Int→Option Value} {R:fG} {S:Nat→Prop} {L:List E}
theorem tE:nW Tryz.prog 189 193 2 16 (.agg #[.I 0,.U 0]):=⟨cZ,cZ,rfl⟩
theorem tI:nW Tryz.prog 105 3 1 8 (.I 0):=⟨cZ,cZ,rfl⟩
def Good(L:List E):Prop:= ∀e∈L,1<=e.1/\e.1<=1099511627776/\0<=e.2/\e.2<=1099511627776
def Al(h:ak)(a:Nat)(S:Nat->Prop)(L:List E):Prop:=
 ∃p cap m es g,Mem h a p cap m es g/\iG es g/\qN (at_ es) es.length/\es.Perm L/\ju L/\Good L/\∀c,S c↔zV a p m c
theorem Al.lt(A:Al h a S L){c:Nat}(b:S c):c<h.size:=by
 obtain⟨p,cap,m,es,g,M,_,_,_,_,_,H⟩:=A;exact M.lt ((H c).1 b)
theorem Al.frame{Q:Nat->Prop}{h':ak}(A:Al h a S L)(e:Fr Q h h')(f: ∀c,S c->¬Q c):Al h' a S L:=by
 obtain⟨p,cap,m,es,g,M,P,H,pm,so,G,b⟩:=A;exact⟨p,cap,m,es,g,M.frame e λc d=>f c ((b c).2 d),P,H,pm,so,G,b⟩
theorem Al.sorted(A:Al h a S L):ju L:=by
 obtain⟨p,cap,m,es,g,M,P,H,pm,so,G,b⟩:=A;exact so
theorem Al.nodup(A:Al h a S L):(keys L).Nodup:=by
 obtain⟨p,cap,m,es,g,M,P,H,pm,so,G,b⟩:=A;exact(keys_perm pm).nodup_iff.1 P.1
theorem fO(M:Mem h a p cap m es g)(hk:R (.bool true) h):Cl 114 #[.P a 0] h R:=
 wv.walk ⟨some m,M.mp,hk⟩
theorem gu(hk: ∀a S h',Al h' a S []->(∀c,S c->h.size<=c)->Fr No h h'->R (.P a 0) h'):Cl 87 #[] h R:=by
 refine KL.walk ?_;rintro b i rfl rfl b1 k rfl rfl;have f:Fr No (h.push (.map #[] 0)) ((h.push (.map #[] 0)).push (.cells #[.Z,.map (some h.size)] 191)):=Fr.push _ _;refine hk _ (zV (h.push (.map #[] 0)).size none h.size) _ ⟨none,0,h.size, [],λ_=>none,⟨bV,.nil rfl rfl rfl rfl,(nm.push h).frame f id,?_⟩,⟨.nil,?_,λ_ _=>rfl⟩,?_,.refl _,.nil,?_,λ_=>eU⟩ ?_ (Fr.tt (Fr.push _ _) f)
 .rintro⟨_,e,_⟩;cases e
 .intro j H;simp at H
 .intro j _ H;simp at H
 .intro e d;cases d
 .rintro c (rfl|rfl|⟨_,e,_⟩)
  .simp
  .exact bn _
  .cases e
theorem Hf(A:Al h a S L)(hk:R (.I (L.length:Int)) h):Cl 56 #[.P a 0] h R:=by
 obtain⟨p,cap,m,es,g,M,P,H,pm,so,G,b⟩:=A;refine x8.walk ⟨_,_,_,M.hd,?_⟩;rw[pm.length_eq];exact hk
def hd(L:List E):E:=L.headD (0,0)
theorem vm(A:Al h a S L)(hk:R (.tuple #[.I (hd L).1,.U (hd L).2,.bool (!L.isEmpty)]) h):Cl 171 #[.P a 0] h R:=by
 refine wz.walk (Hf A ⟨_,rfl,?_⟩);obtain⟨p,cap,m,es,g,M,P,H,pm,so,G,k⟩:=A;cases L with
 |nil=>exact hk
 |cons e r=>
  have c:=pm.length_eq;simp only[aW]at c;have d:(((e::r).length:Int)==0)=false:=by simp only[aW,dL];omega
  simp only[d,au,aM];obtain⟨j,rfl⟩:=M.some ae;obtain⟨l,f⟩:=ME pm so H ae;have b:at_ es 0=e:=(List.cons.inj f).1.symm;have c0:=M.c0 (i:=0) ae;have c1:=M.c1 (i:=0) ae;rw[b]at c0 c1;refine⟨_,_,_,M.hd,ae,az.2 ⟨_,c0,_,_,_,M.hd,ae,az.2 ⟨_,c1,hk⟩⟩⟩
theorem Sd{t:TypeId}{z Z x X:Value}{K:Nat->ak->Prop}(hk: ∀b h',h'[b]? =some (.cells #[x,X] t (0,0))->h.size<=b->Fr No h h'->K b h'):
  aT h (.cells #[z,Z] t) λb d=>aQ d (AA b 0) x λe=>aQ e (AA b 1) X λH=>K b H:=by
 rintro b d rfl rfl;refine bL bV bQ λe C s k=>bL C bQ λH f l j=>hk _ H f (bn _) ⟨?_,λc i _=> ?_⟩
 .rw[l,s];simp
 .rw[j c ae,k c ae];exact(Fr.push (S:=λ_=>False) h _).2 c i id
theorem pI(A:Al h a S L)(hn:L.length<1000000)(key:Int)(O:key∈keys L->∀h',Al h' a S (fS L key)->Fr S h h'->R (.I 0) h')(k2:key∉keys L->R (.I 4) h):Cl 115 #[.P a 0,.I key] h R:=by
 obtain⟨p,cap,m,es,g,M,P,H,pm,so,gd,hS⟩:=A;have r':=pm.length_eq;refine wy.walk (fO M ⟨true,rfl,?_⟩);simp only[dh,au,aM];have w:=C2 tm M.map key;by_cases v:key∈keys es
 .have O:=O ((keys_perm pm).mem_iff.1 v);clear k2;obtain⟨j,K,rfl⟩:=mem_keys v;obtain⟨n,k⟩: ∃n,es.length=n+1:=⟨es.length - 1,ae⟩;rw[P.2.1 j K]at w;refine⟨some m,M.mp,(j:Int),true,w,?_⟩;simp only[dh,au,aM];obtain⟨b0,off,rfl⟩:=M.own.some (by rw[jI];omega);refine⟨_,_,_,M.hd,_,_,_,M.hd,?_⟩;rw[show IntKind.wrap .i64 ((es.length:Int) - 1)=(n:Int) by rw[bB ae ae];omega];simp only[aC];refine⟨ae,az.2 ⟨_,M.c0 (i:=n) ae,_,M.c1 (i:=n) ae,Sd λb h4 hb sb f4=> ?_⟩⟩;have r:=M.calm f4;have q':=M.own.le;have b':cR (some ((AA b0 off):Addr)) cap 0 2=some (AA b0 off):=by
   unfold cR;split
   .rfl
   .simp[gU]
  refine⟨_,_,_,r.hd,ae,bL r.cX bQ λF c5 s5 k5=> ?_⟩;have f5:Fr (λc=>c=a) h4 F:=Fr.of_eq s5 k5;have tl:(es.take n).length=n:=by rw[bC];omega
  have s:Mem F a (Sa b0 off) cap m (es.take n) g:=by
   refine⟨?_,?_,r.map.frame f5 (λe=>M.am e.symm),M.ne⟩
   .rw[c5,b',tl];rfl
   .have o:=(r.own.frame f5 (λc d e=>M.ne (e▸d))).sub (l:=0) (u:=n) ae ae;rw[b',Fc,Nat.zero_mul,gL]at o;rw[tl];exact o
  refine⟨some m,s.mp,xA tm s.map λt m6 s6 k6=>⟨rfl,?_⟩⟩;have f6:Fr (λc=>c=m) F t:=Fr.of_eq s6 k6;have B:Mem t a (Sa b0 off) cap m (es.take n) (λx=>if x=(at_ es j).1 then none else g x):=
   ⟨f6.get s.cX M.am,s.own.frame f6 (λc d e=>M.pm (e▸d)),m6,M.ne⟩
  have Y:Fr (zV a (Sa b0 off) m) h t:=Fr.no f4 (f5.trans f6 (λ_ _ e=> .inl e) (λ_ _ e=> .inr (.inl e)));have J: ∀c,zV a (Sa b0 off) m c->b≠c:=λc d e=>by have:=M.lt d;omega
  have I:=f6.get (f5.get hb (J a (.inl rfl))) (J m (.inr (.inl rfl)));refine aI.of λd' hJ=> ?_
  have done: ∀h' E G,Mem h' a (Sa b0 off) cap m E G->iG E G->qN (at_ E) E.length->E.Perm (cut es n j)->Fr (zV a (Sa b0 off) m) h h'->d' h':=by
   intro h' E G M' P' z n' f';subst hJ;exact O h' ⟨_,_,_,E,G,M',P',z,n'.trans (MF k K P.1 pm),so.drop _,λe he=>gd e (ba.1 he).1,hS⟩ (f'.mono λc _ d=>(hS c).2 d)
  have y:=KA P k K;have cl:=Dc (j:=j) k;by_cases f:j<n
  .have N:(j:Int)<(n:Int):=ae
   simp only[f,bg]at y;simp only[N,bt,bg];have D:(es.take n).set j ((at_ es n).1,(at_ es n).2)=cut es n j:=by unfold cut;rw[ah f]
   refine⟨_,aq I,_,aq I,wB B ae λh8 V f8=>⟨rfl,?_⟩⟩;rw[D]at V;have ex:=MG k f H;refine Fe V y ae ae (by rw[cl];exact ex) λh9 j' g9 q C W p' l9 q9 g' X _ f9=>⟨rfl,some m,C.mp,?_⟩
   have Q: ¬inner (Sa b0 off) m b:=λd=>J b (.inr d) rfl
   have a':=f9.get (f8.get I Q) Q;have c':=BZ tm C.map (at_ es n).1;have e9:at_ j' q=at_ es n:=by rw[g',pG k f,ah rfl]
   have Z:=W.2.1 q ae;rw[e9]at Z;rw[Z]at c';refine⟨_,aq a',(q:Int),c',?_⟩;rw[<-l9]at X;refine Dp C W ae ae X λl' i' k' U e' o' m' T f10=>⟨rfl,aq (f10.get a' Q),U.mp,?_⟩
   rw[<-m']at T;exact done l' i' k' U e' T (o'.trans p') (Y.trans (Fr.tt f8 (Fr.tt f9 f10)) cb (λ_ _ d=> .inr d))
  .have N: ¬(j:Int)<(n:Int):=ae
   simp only[f,aM]at y;simp only[N,bf,au,aM];have D:es.take n=cut es n j:=by unfold cut;rw[af f]
   rw[D]at B;have z:=MH k f H;exact done t _ _ B y (by rw[cl];exact z) (.refl _) Y
 .rw[P.2.2 key v]at w;exact⟨some m,M.mp,0,false,w,k2 λhx=>v ((keys_perm pm).mem_iff.2 hx)⟩
def may(key t:Int):Bool:=decide (1<=key) && decide (key<=1099511627776) && decide (t<=1099511627776)
theorem mj{key t:Int}:may key t=true↔1<=key/\key<=1099511627776/\t<=1099511627776:=by simp[may,and_assoc]
def zW(L:List E)(key t:Int):List E:=uW (fS L key) (key,t)
theorem oK(L:List E)(key:Int):(fS L key).length<=L.length:=cC _ _
theorem Hh(A:Al h a S L)(hn:L.length<999999)(key t:Int)(ht:0<=t)(K:may key t=true->∀h' u,Al h' a u (zW L key t)->(∀c,u c->S c\/h.size<=c)->Fr S h h'->R (.I 0) h')(N:may key t=false->R (.I 1) h):Cl 51 #[.P a 0,.I key,.U t] h R:=by
 have A0:=A;obtain⟨p,cap,m,es,g,M, -, -, -, -, -, -⟩:=A;refine ya.walk (fO M ⟨true,rfl,?_⟩);clear M;simp only[dh,au,aM];refine aI.of λJ D=> ?_
 have no:may key t=false->J true h:=λn=>by subst D;exact N n
 by_cases d:key<1
 .simp only[d,bt,bg];exact no (by simp[may,show¬1<=key by omega])
 simp only[d,bf,au,aM];by_cases w:key>1099511627776
 .simp only[w,bt,bg];exact no (by simp[may,show¬key<=1099511627776 by omega])
 simp only[w,bf,au,aM];by_cases y:t>1099511627776
 .simp only[y,bt];exact no (by simp[may,show¬t<=1099511627776 by omega])
 simp only[y,bf];clear no N;have K:=K (mj.2 ⟨ae,ae,ae⟩);subst D;simp only[au,aM];have rest: ∀d e,Al d a S (fS L key)->Fr S h d->(∃(t25:Int),Value.I e=.I t25/\
    ∃(W:bZ)(V U:Nat),aX d (AA a 0)=some (.slice W V U)/\
    aT d (.cells #[.I 0,.U 0] 193) λb c'=>
    aU Tryz.prog (Builtin.append_ #[189,189] 189 #[.slice W V U,.slice (Sa b 0) 1 1]) c' λm' d'=>
    ∃(Z:bZ)(Y X:Nat),m'=.slice Z Y X/\
    aQ d' (AA a 0) (.slice Z Y X) λI=>
    ∃(l':bZ)(T k':Nat),aX I (AA a 0)=some (.slice l' T k')/\
    Cl 116 #[.P a 0,.I (IntKind.wrap .i64 ((T:Int) - 1)),.agg #[.I key,.U t]] I λn' e'=>
    n'=.tuple #[]/\
    Cl 117 #[.P a 0,.I (IntKind.wrap .i64 ((T:Int) - 1))] e' λo' f'=>
    o'=.tuple #[]/\
    R (.I 0) f'):=by
  intro d e A1 f1;refine⟨e,rfl,?_⟩;have kn:=GZ L key;have dl:=oK L key;obtain⟨p,cap,m,es,g,M,P,H,pm,so,gd,f⟩:=A1;have p':=pm.length_eq;refine⟨_,_,_,M.hd,?_⟩;rintro b h4 rfl rfl;have F:Fr No d (d.push (.cells #[.I 0,.U 0] 193)):=Fr.push _ _;have row:Row (d.push (.cells #[.I 0,.U 0] 193)) (Sa d.size 0) (enc [(0,0)]):=.inr ⟨_,rfl,gO bV λj v hj=>by rw[bH];simpa[enc]using hj⟩;have r':d.size<=(d.push (.cells #[.I 0,.U 0] 193)).size:=F.1;have k:=M.calm F;refine dD tE (eT:=193) cZ k.own row rfl (Jh _) ae ae λi C z Q _ f5 G=>⟨_,_,_,rfl,?_⟩
  rw[<-He]at Q;have b5:=f5.get k.cX M.ne;have O: ¬aL i a:=λhc=>by
   rcases G a hc with hx|hx
   .exact M.ne hx
   .have:=aE k.cX;omega
  have q': ¬aL i m:=λhc=>by
   rcases G m hc with hx|hx
   .exact M.pm hx
   .have:=k.map.lt;omega
  refine bL b5 bQ λo c6 s6 k6=> ?_
  have f6:Fr (λc=>c=a) z o:=Fr.of_eq s6 k6;have r:Mem o a i C m (es++ [(0,0)]) g:=by
   refine⟨?_,?_,(k.map.frame f5 M.pm).frame f6 (λe=>M.am e.symm),O⟩
   .rw[c6,ar];rfl
   .rw[ar];exact Q.frame f6 (λc hc e=>O (e▸hc))
  refine⟨_,_,_,r.hd,?_⟩;have ew:IntKind.wrap .i64 ((((es++ [((0,0):E)]).length:Nat):Int) - 1)=(es.length:Int):=by
   rw[ar,dG,bB ae ae];omega
  rw[ew];refine wB r (by rw[ar,dG];omega) λh7 s f7=>⟨rfl,?_⟩
  have a':(es++ [((0,0):E)]).set es.length (key,t)=es++ [(key,t)]:=by
   rw[List.set_append_right _ _ (bn _)];simp
  rw[a']at s;have i':key∉keys es:=λhx=>kn ((keys_perm pm).mem_iff.1 hx)
  have P7:=KB (x:=(key,t)) P i';obtain⟨ex,kd⟩:=MI (x:=(key,t)) H;have l7:(es++ [(key,t)]).length=es.length+1:=bQ
  rw[<-l7]at ex kd;refine Fe s P7 ae ae ex λB b' g8 q M8 P8 j' l8 _ _ _ l f8=>⟨rfl,?_⟩
  have l:=l kd;rw[<-l8]at l;have gf: ∀c,zV a i m c->S c\/h.size<=c:=by
   rintro c (rfl|rfl|hc)
   .exact .inl ((f _).2 (.inl rfl))
   .exact .inl ((f _).2 (.inr (.inl rfl)))
   .rcases G c hc with hx|hx
    .exact .inl ((f _).2 (.inr (.inr hx)))
    .have:=f1.1;exact .inr ae
  refine K B (zV a i m) ⟨i,C,m,b',g8,M8,P8,l,?_,so.insert _ kn,?_,λ_=>eU⟩ gf ?_
  .exact j'.trans ((dY _ _).trans ((pm.cons _).trans (mg _ _).symm))
  .intro e he;rcases bG.1 ((mg _ _).mem_iff.1 he)with rfl|hx
   .exact⟨by simp only;omega,by simp only;omega,ht,by simp only;omega⟩
   .exact gd e hx
  .have g': ∀c,c<d.size->zV a i m c->S c:=λc hc hx=>by
    rcases hx with rfl|rfl|hx
    .exact(f _).2 (.inl rfl)
    .exact(f _).2 (.inr (.inl rfl))
    .rcases G c hx with hy|hy
     .exact(f _).2 (.inr (.inr hy))
     .omega
   have g1:Fr S d z:=Fr.no F (f5.mono λc _ hc=>(f c).2 (.inr (.inr hc)));have g2:Fr S d o:=g1.trans f6 cb (λc _ e=>(f c).2 (.inl e));have g3:Fr S d B:=g2.trans (Fr.tt f7 f8) cb (λc hc hx=>g' c hc (.inr hx));exact Fr.tt f1 g3
 refine pI A0 ae key (λn d A1 f1=>rest d 0 A1 f1) (λn=> ?_);refine rest h 4 ?_ (Fr.refl _ _);rw[j4 n];exact A0
def jy(now:Int)(e:E):Bool:=decide (e.2<=now)
def due(L:List E)(now:Int):List E:=L.takeWhile (jy now)
def rest(L:List E)(now:Int):List E:=L.dropWhile (jy now)
def kc(L:List E):List Value:=(keys L).map (.int .i64 ·)
theorem KM{D T:List E}{now:Int}(hd: ∀e∈D,jy now e=true)(c: ∀e r,T=e::r->jy now e=false):due (D++T) now=D/\rest (D++T) now=T:=by
 unfold due rest;induction D with
 |nil=>
  cases T with
  |nil=>exact⟨rfl,rfl⟩
  |cons e r=>simp[List.takeWhile,List.dropWhile,c e r rfl]
 |cons d D i=>
  have H:=hd d df;obtain⟨i1,i2⟩:=i λe b=>hd e (ct _ b)
  simp only[dC,List.takeWhile_cons,List.dropWhile_cons,H,bg];exact⟨by rw[i1],i2⟩
def Tu(H:ak)(a:Nat)(S:Nat->Prop)(L:List E)(now:Int)(out:bZ)(l c:Nat)(key t:Int)(is:Bool)(h:ak):Prop:=
 ∃D T,L=D++T/\(∀e∈D,jy now e=true)/\Al h a S T/\key=(hd T).1/\t=(hd T).2/\is= !T.isEmpty/\l=D.length/\fi h out l c 1 (kc D)/\(∀x,aL out x->H.size<=x)/\Fr S H h
theorem Dq(A:Al h a S L)(X:L.length<999999)(now:Int)(hk: ∀h' P C,Al h' a S (rest L now)->fi h' P (due L now).length C 1 (kc (due L now))->(∀c,aL P c->h.size<=c)->Fr S h h'->R (.slice P (due L now).length C) h'):
  Cl 118 #[.P a 0,.U now] h R:=by
 refine wA.walk (vm A ⟨_,_,_,rfl,?_⟩);refine⟨Tu h a S L now,λ_ l _ _ _ _ _=>L.length - l,⟨[],L,rfl,(λ_ I=>by cases I),A,rfl,rfl,rfl,rfl,.nil rfl rfl rfl rfl,(λc ⟨_,e,_⟩=>by cases e),Fr.refl _ _⟩,?_⟩;rintro out l c key t is H ⟨D,U,E,s,n,rfl,rfl,rfl,rfl,o2,o,f2⟩;refine aI.of λJ u=> ?_
 have stop:(∀e r,U=e::r->jy now e=false)->J false H:=λN=>by
  subst u;simp only[au,aM];obtain⟨e1,e2⟩:=KM s N;rw[<-E]at e1 e2;rw[<-e1];rw[<-e1]at o2;exact hk H out c (by rw[e2];exact n) o2 o f2
 cases U with
 |nil=>exact stop (λe r x=>by cases x)
 |cons e U=>
  simp only[List.isEmpty_cons,eL,bg];by_cases i:e.2<=now
  .rw[show decide ((hd (e::U)).2<=now)=true from aw i];subst u;simp only[bg];rintro b T rfl rfl;have W:L.length=D.length+(U.length+1):=by rw[E];simp
   have f:Fr No H (H.push (.cells #[.I (hd (e::U)).1] 3)):=Fr.push _ _;have row:Row (H.push (.cells #[.I (hd (e::U)).1] 3)) (Sa H.size 0) (kc [e]):=.inr ⟨_,rfl,gO bV λj v K=>by rw[bH];simpa[kc,keys,hd]using K⟩;have sz:H.size<=(H.push (.cells #[.I (hd (e::U)).1] 3)).size:=f.1;refine dD tI (eT:=3) cZ (o2.frame f λ_ _=>id) row rfl (λv y=>by simp[kc,keys]at y;subst y;rfl) ae ae λP C F O _ f5 G=>⟨_,_,_,rfl,?_⟩
   have B:kc D++kc [e]=kc (D++ [e]):=by simp[kc,keys]
   rw[B]at O;have w: ∀{c},S c->c<h.size:=λd=>A.lt d
   have q:=(n.frame f λ_ _=>id).frame f5 (λc d hx=>gv (o c hx) (w d));have z: ∀c,aL P c->h.size<=c:=λc d=>by
    rcases G c d with hx|hx
    .exact o c hx
    .have:=f2.1;omega
   have f25:Fr S h F:=f2.trans (Fr.no f f5) cb (λc d hx=>bR (o c hx));refine pI q (by simp;omega) _ (λ_ V k f6=>⟨_,rfl,?_⟩) (λM=>absurd (by exact df) M);rw[show fS (e::U) (hd (e::U)).1=U from G1 q.nodup]at k;refine vm k ⟨_,_,_,rfl,⟨D++ [e],U,by rw[E];simp,?_,k,rfl,rfl,rfl,bQ,?_,z,Fr.tt f25 f6⟩,?_⟩
   .intro x hx;rcases bz.1 hx with hx|hx
    .exact s x hx
    .simp at hx;subst hx;exact aw i
   .exact O.frame f6 λc d hx=>by have:=z c d;have:=w hx;omega
   .show L.length - (D.length+1)<L.length - D.length;omega
  .rw[show decide ((hd (e::U)).2<=now)=false from aD i];exact stop λQ r x=>by cases x;exact aD i

end cf
end
section
variable {h:ak} {R:fG}
variable {b d c S s:Nat} {x X f num owner:Int} {e g:bZ}
theorem Hj.walk(i:Cl 87 #[] h λv H=>Vp v λt1=>aT H (.cells #[.Z,.I 1,.I 0,.I 0,.I 0,.pointer t1] 145) λb a=>R (.P b 0) a):Cl 38 #[] h R:=aR (lq ll) Tryz.func38 i
theorem yc.walk(H: ∃t9,Cc h b 5 (.pointer t9)/\R (.bool (!t9.isNone)) h):Cl 70 #[.P b 0] h R:=aR (lq ll) Tryz.func70 H
theorem Bp.walk(m:aT h (.cells #[.I x,.I X,.slice e d c,.U f] 119) λb k=>aT k (.cells #[.I 0,.I 0,.Z,.U 0] 119) λB H=>Hl H b 2 λz y w=>Cl 50 #[.slice z y w] H λv l=> ∃j T t,v=.slice j T t/\aQ l (AA b 2) (.slice j T t) λa=>aY.LD a (AA b 0) λA C F E D G=>aY.ST a (AA B 0) A C F E D G λi=>aY.LD i (AA B 0) λr n q p o u=>R (.agg #[.I r,.I n,.slice q p o,.U u]) i):Cl 88 #[.agg #[.I x,.I X,.slice e d c,.U f]] h R:=aR (lq (lq ll)) Tryz.func88 m
theorem Dr.walk(a:aT h (.cells #[.I x,.I X,.slice e d c,.U f] 119) λb H=> ∃t4,Cc H b 1 (.I t4)/\if(decide (t4≥1))then∃t8,Cc H b 1 (.I t8)/\if(decide (t8<=1099511627776))then∃j t i,Cc H b 2 (.slice j t i)/\if(decide (((t:Nat):Int)≥1))then∃l T k,Cc H b 2 (.slice l T k)/\if(decide (((T:Nat):Int)<=600))then∃t25,Cc H b 3 (.U t25)/\R (.bool (decide (t25<=1099511627776))) H else R (.bool false) H else R (.bool false) H else R (.bool false) H else R (.bool false) H):Cl 280 #[.agg #[.I x,.I X,.slice e d c,.U f]] h R:=aR (lq ll) Tryz.func280 a
theorem yd.walk(i:aT h (.cells #[.I num] 3) λB H=>Hl H b 0 λj T t=>Cl 153 #[.slice j T t,.func (.func 173) #[] #[.P B 0]] H λv a=> ∃t10,v=.I t10/\R (.I t10) a):Cl 122 #[.P b 0,.I num] h R:=aR (lq ll) Tryz.func122 i
theorem vo.walk{c0:Nat}(a:aT h (.cells #[.I x,.I X,.slice e d c,.U f] 119) λb H=>Hi H b 0 λt5=> ∃t6,Cc H c0 0 (.I t6)/\R (.bool (t5==t6)) H):Cl 173 #[.agg #[.I x,.I X,.slice e d c,.U f],.P c0 0] h R:=aR (lq ll) Tryz.func173 a
theorem zX.walk{i:Int} (A:aT h (.cells #[.I 0,.I 0,.Z,.U 0] 119) λq H=>Hl H b 0 λd' c' f'=>Bd i c'/\aO d' λa=>aY.LD H (a.add (toNat i*4)) λJ K N M L O=>aT H (.cells #[.I 0,.I 0,.Z,.U 0] 119) λB z=>aY.ST z (AA B 0) J K N M L O λk=>Hp k b 5 λt16=>Hi k B 0 λt18=>Cl 115 #[.pointer t16,.I t18] k λv l=>Vi v λt19=>Hl l b 0 λo w t=>((0:Int)<=i/\i<=(t:Int))/\Hl l b 0 λp j T=>((0:Int)<=wrap .i64 (i+1)/\wrap .i64 (i+1)<=(j:Int))/\aT l (.cells #[.slice (cR o t 0 4) ((toNat i) - 0) (t - 0),.slice (cR p T (toNat (wrap .i64 (i+1))) 4) (j - (toNat (wrap .i64 (i+1)))) (T - (toNat (wrap .i64 (i+1))))] 86) λy m=>Cc m b 0 (.slice p j T)/\Cc m b 0 (.slice o w t)/\Cl 172 #[.slice (Sa y 0) 2 2] m λe' n=>Vl e' λU Q P=>Cc n b 0 (.slice p j T)/\Cc n b 0 (.slice o w t)/\aQ n (AA b 0) (.slice U Q P) λr=>aY.LD r (AA B 0) λV W a' Z Y b'=>aY.ST r (AA q 0) V W a' Z Y b' λu=>aY.LD u (AA q 0) λC D G F E I=>R (.agg #[.I C,.I D,.slice G F E,.U I]) u):Cl 121 #[.P b 0,.I i] h R:=aR (lq (lq (sq (pN 7) (sq (pN 19) ll)))) Tryz.func121 A
theorem zY.walk(F:Cl 70 #[.P b 0] h λv j=>Vb v λt7=>aI (λ(L:bZ) (K G:Nat) (A:ak)=>R (.slice L K G) A) (λJ=>if t7 then Hl j b 0 λN n h'=> ∃(I:bZ->Nat->Nat->Int->ak->Prop)(M:bZ->Nat->Nat->Int->ak->Nat),I none 0 0 0 j/\∀(i:bZ)(O o:Nat)(t13:Int)(H:ak),I i O o t13 H->if(decide (t13<(n:Int)))then Bd t13 n/\aO N λa=>aY.LD H (a.add (toNat t13*4)) λP Q W V U Y=>aT H (.cells #[.I 0,.I 0,.Z,.U 0] 119) λB C=>aY.ST C (AA B 0) P Q W V U Y λl=>aY.LD l (AA B 0) λZ a' d' c' b' e'=>Cl 88 #[.agg #[.I Z,.I a',.slice d' c' b',.U e']] l λf' D=> ∃p q w u r y,f'=.agg #[.I p,.I q,.slice w u r,.U y]/\aT D (.cells #[.I p,.I q,.slice w u r,.U y] 119) λz E=>aU Tryz.prog (Builtin.append_ #[86,86] 86 #[.slice i O o,.slice (Sa z 0) 1 1]) E λg' m=> ∃k T t,g'=.slice k T t/\(I k T t (wrap .i64 (t13+1)) m/\M k T t (wrap .i64 (t13+1)) m<M i O o t13 H)else J i O o H else J none 0 0 j)):Cl 39 #[.P b 0] h R:=aR (lq (lq (sq (lq (.join [(3,.one (.slice))] (cq (lq (bq (.loop [(3,.one (.slice)),(13,.one (.int .i64))] (lq (sq (cq lf lf) (sq (bq ll) lf)))))) lf))) ll))) Tryz.func39 F
theorem zZ.walk{k:bZ}{j D:Nat}{V:Int}(L:Cl 70 #[.P b 0] h λv a=> ∃t12,v=.bool t12/\if(!t12)then R (.tuple #[.I 0,.I 6]) a else Hi a b 1 λt17=>Cl 88 #[.agg #[.I t17,.I owner,.slice k j D,.U V]] a λf' I=> ∃t T r q p u,f'=.agg #[.I t,.I T,.slice r q p,.U u]/\aT I (.cells #[.I 0,.I 0,.Z,.U 0] 119) λB J=>aY.ST J (AA B 0) t T r q p u λm=>aY.LD m (AA B 0) λM N Q P O U=>Cl 280 #[.agg #[.I M,.I N,.slice Q P O,.U U]] m λg' H=> ∃t25,g'=.bool t25/\if(!t25)then R (.tuple #[.I 0,.I 1]) H else∃Y w W,Cc H b 0 (.slice Y w W)/\if(decide (((w:Nat):Int)≥16))then R (.tuple #[.I 0,.I 15]) H else Hl H b 0 λA z y=>aY.LD H (AA B 0) λZ a' d' c' b' e'=>aT H (.cells #[.I Z,.I a',.slice d' c' b',.U e'] 119) λG n=>Cc n b 0 (.slice A z y)/\aU Tryz.prog (Builtin.append_ #[86,86] 86 #[.slice A z y,.slice (Sa G 0) 1 1]) n λh' K=> ∃F E C,h'=.slice F E C/\aQ K (AA b 0) (.slice F E C) λo=> ∃t47,Cc o b 1 (.I t47)/\aQ o (AA b 1) (.I (wrap .i64 (t47+1))) λi=>Hp i b 5 λt54=>Hi i B 0 λt56=>Cl 51 #[.pointer t54,.I t56,.U V] i λi' l=>Vi i' λt58=> ∃t60,Cc l B 0 (.I t60)/\R (.tuple #[.I t60,.I 0]) l):Cl 240 #[.P b 0,.I owner,.slice k j D,.U V] h R:=aR (lq (sq (lq (cq ll lf)) (lq (sq (bq (lq (cq ll (lq (cq ll lf))))) (sq (pN 11) (lq (sq (pN 8) ll))))))) Tryz.func240 L
theorem vp.walk(l:Cl 70 #[.P b 0] h λv i=> ∃t9,v=.bool t9/\if(!t9)then R (.I 6) i else Cl 122 #[.P b 0,.I num] i λV H=> ∃t13,V=.I t13/\if(decide (t13<0))then R (.I 4) H else Hl H b 0 λT t w=>Bd t13 t/\aO T λa=> ∃t25,aX H ((a.add (toNat t13*4)).add 1)=some (.I t25)/\if(t25 !=owner)then R (.I 13) H else Cl 121 #[.P b 0,.I t13] H λu j=> ∃m n q p o r,u=.agg #[.I m,.I n,.slice q p o,.U r]/\∃t34,Cc j b 3 (.I t34)/\aQ j (AA b 3) (.I (wrap .i64 (t34+1))) λk=>R (.I 0) k):Cl 152 #[.P b 0,.I num,.I owner] h R:=aR (lq (sq (lq (cq ll lf)) (lq (sq (bq (lq (cq ll (lq (cq ll lf))))) (lq (lq ll)))))) Tryz.func152 l
theorem ye.walk{now:Int}(G:Cl 70 #[.P b 0] h λv j=>Vb v λt9=>aI (λ(M:bZ) (L K:Nat) (A:ak)=>R (.slice M L K) A) (λJ=>if t9 then Hp j b 5 λt13=>Cl 118 #[.pointer t13,.U now] j λV C=>Vl V λN t W=> ∃(I:bZ->Nat->Nat->Int->ak->Prop)(m:bZ->Nat->Nat->Int->ak->Nat),I none 0 0 0 C/\∀(i:bZ)(O o:Nat)(t17:Int)(H:ak),I i O o t17 H->if(decide (t17<(t:Int)))then Bd t17 t/\aO N λa=>lR H (a.add (toNat t17*1)) λt20=>Cl 122 #[.P b 0,.I t20] H λP D=>Vi P λt25=>Cl 121 #[.P b 0,.I t25] D λQ E=> ∃T n r q p u,Q=.agg #[.I T,.I n,.slice r q p,.U u]/\aT E (.cells #[.I T,.I n,.slice r q p,.U u] 119) λB F=>aU Tryz.prog (Builtin.append_ #[86,86] 86 #[.slice i O o,.slice (Sa B 0) 1 1]) F λU k=>Vl U λz y w=> ∃t32,Cc k b 4 (.I t32)/\aQ k (AA b 4) (.I (wrap .i64 (t32+1))) λl=>(I z y w (wrap .i64 (t17+1)) l/\m z y w (wrap .i64 (t17+1)) l<m i O o t17 H)else J i O o H else J none 0 0 j)):Cl 54 #[.P b 0,.U now] h R:=aR (lq (lq (sq (lq (.join [(5,.one (.slice))] (cq (lq (bq (.loop [(5,.one (.slice)),(17,.one (.int .i64))] (lq (sq (cq lf lf) (sq (bq (lq ll)) lf)))))) lf))) ll))) Tryz.func54 G
theorem fE.find.walk{F:Nat}(j: ∃(I:Int->ak->Prop)(m:Int->ak->Nat),I 0 h/\∀(t8:Int)(H:ak),I t8 H->if(decide (t8<(S:Int)))then Bd t8 S/\aO g λa=>aY.LD H (a.add (toNat t8*4)) λt T n l k o=>Cl 173 #[.agg #[.I t,.I T,.slice n l k,.U o],.P F 0] H λv i=> ∃t16,v=.bool t16/\if t16 then R (.I t8) i else(I (wrap .i64 (t8+1)) i/\m (wrap .i64 (t8+1)) i<m t8 H)else R (.I (-1)) H):Cl 153 #[.slice g S s,.func (.func 173) #[] #[.P F 0]] h R:=aR (lq (sq (lq (bq (.loop [(8,.one (.int .i64))] (lq (sq (cq lf lf) (sq (bq (lq (lq (cq ll lf)))) lf)))))) ll)) Tryz.func153 j
theorem jC.walk{m:bZ}{j D:Nat} (C: ∃(I:Int->Int->ak->Prop)(M:Int->Int->ak->Nat),I 0 0 h/\∀(size:Int)(t11:Int)(H:ak),I size t11 H->if(decide (t11<(j:Int)))then aI (λ(u:Int) (p:ak)=>(I u (wrap .i64 (t11+1)) p/\M u (wrap .i64 (t11+1)) p<M size t11 H)) (λJ=>Bd t11 j/\aO m λa=>oY H (a.add (toNat t11*1)) λQ w P=>aI (λ(z:ak)=>J (wrap .i64 (size+(w:Int))) z) (λy=>if(decide ((wrap .i64 (size+(w:Int)))<0))then False else y H))else Cl 199 #[.Z,.I size] H λv B=>Vl v λG F E=> ∃(l:bZ->Nat->Nat->Int->ak->Prop)(r:bZ->Nat->Nat->Int->ak->Nat),l G F E 0 B/\∀(k:bZ)(N n:Nat)(t27:Int)(i:ak),l k N n t27 i->if(decide (t27<(j:Int)))then Bd t27 j/\aO m λA=>oY i (A.add (toNat t27*1)) λO L K=>aU Tryz.prog (Builtin.append_ #[86,86] 86 #[.slice k N n,.slice O L K]) i λV q=> ∃o T t,V=.slice o T t/\(l o T t (wrap .i64 (t27+1)) q/\r o T t (wrap .i64 (t27+1)) q<r k N n t27 i)else R (.slice k N n) i):Cl 172 #[.slice m j D] h R:=aR (lq (lq (sq (lq (bq (.loop [(3,.one (.int .i64)),(11,.one (.int .i64))] (lq (sq (cq lf lf) (sq (.join [(3,.one (.int .i64))] (bq (lq (lq (lq (.join [] (cq lf lf))))))) lf)))))) (lq (sq (lq (bq (.loop [(6,.one (.slice)),(27,.one (.int .i64))] (lq (sq (cq lf lf) (sq (bq ll) lf)))))) ll))))) Tryz.func172 C
theorem jJ.walk{n:Int} (k:aI (λ(H:ak)=>aI (λ(o:bZ) (m l:Nat) (a:ak)=>R (.slice o m l) a) (λj=>if(decide ((wrap .i64 (n - (wrap .i64 ((s:Int) - (S:Int)))))>0))then((0:Int)<=(s:Int)/\(s:Int)<=(s:Int))/\aU Tryz.prog (Builtin.append_ #[86,3] 86 #[.slice (cR g s 0 4) ((toNat (s:Int)) - 0) (s - 0),.I (wrap .i64 (n - (wrap .i64 ((s:Int) - (S:Int)))))]) H λv i=>Vl v λT p t=>((0:Int)<=(S:Int)/\(S:Int)<=(t:Int))/\j (cR T t 0 4) ((toNat (S:Int)) - 0) (t - 0) i else j g S s H)) (λJ=>if(decide (n<0))then False else J h)):Cl 199 #[.slice g S s,.I n] h R:=aR (lq (sq (lq (.join [] (cq lf lf))) (sq (lq (lq (.join [(0,.one (.slice))] (cq lf lf)))) ll))) Tryz.func199 k

end
section
open Go.fk Go.kQ
namespace gD
open hM
variable {h h':ak} {b:Nat} {X:Ft} {R:fG} {p q:bZ} {c d i:Nat} {L:List E}
structure It where
 num:Nat
 owner:Int
 d:cM
 cg:Nat
structure IV where
 num:Nat
 owner:Int
 v:BV
 cg:Nat
def IV.abs(x:IV):It:=⟨x.num,x.owner,x.v.b,x.cg⟩
abbrev gw(x:IV):List Value:= [.int .i64 (x.num:Int),.int .i64 x.owner,x.v.val,.int .u64 (x.cg:Int)]
theorem gZ(x:IV):(gw x).length=4:=rfl
theorem Ff(xs:List IV): ∀v∈xs.flatMap gw,fX v=true:=by
 intro v e;obtain⟨a,_,H⟩:=List.mem_flatMap.1 e;simp at H;rcases H with rfl|rfl|rfl|rfl<;>rfl
abbrev IV.agg(x:IV):Value:=.agg #[.int .i64 (x.num:Int),.int .i64 x.owner,x.v.val,.int .u64 (x.cg:Int)]
theorem tI:nW Tryz.prog 86 119 4 48 (.agg #[.I 0,.I 0,.Z,.U 0]):=⟨cZ,cZ,rfl⟩
theorem uI:Tryz.prog.underlying 86=some (.slice 119):=cZ
theorem VK:Tryz.prog.underlying 3=some (.int .i64):=cZ
structure BS where
 items:List It
 next:Nat
 taken:Nat
 qc:Nat
 over:Nat
structure Mm (h:ak) (b:Nat) (X:Ft) (s:BS) (L:List E) (t:bZ) (r:Nat) (xs:List IV) (a:Nat) (S:Nat->Prop):Prop where
 cX:h[b]? =some (.cells #[.slice t xs.length r,.int .i64 (s.next:Int),.int .i64 (s.taken:Int),.int .i64 (s.qc:Int),.int .i64 (s.over:Int),.pointer (some ⟨a,0,none⟩)] 145 (0,0))
 own:fi h t xs.length r 4 (xs.flatMap gw)
 al:cf.Al h a S L
 abs:xs.map IV.abs=s.items
 Bb: ∀x∈xs,x.v.ok h X.D
 m: ∀c,X.M c↔c=b\/aL t c\/S c
 bl: ¬aL t b
 bs: ¬S b
 ls: ∀c,aL t c->¬S c
 wk: ∀c,X.M c->¬X.D c
 Ee: ∀c,X.D c->c<h.size
def Bx(h:ak)(b:Nat)(X:Ft)(s:BS)(L:List E):Prop:= ∃t r xs a S,Mm h b X s L t r xs a S
variable {s : BS} {t : Option Addr} {r a : Nat} {xs : List IV} {S : Nat → Prop}
theorem Mm.lt(H:Mm h b X s L t r xs a S)(y:Nat)(hy:X.M y\/X.D y):y<h.size:=by
 rcases hy with hy|hy
 .rcases(H.m y).1 hy with rfl|h1|h1
  .exact aE H.cX
  .exact H.own.dw h1
  .exact H.al.lt h1
 .exact H.Ee y hy
theorem Bx.lt(H:Bx h b X s L)(y:Nat)(e:X.M y\/X.D y):y<h.size:=by
 obtain⟨t,r,xs,a,S,H⟩:=H;exact H.lt y e
theorem Mm.frame{Q:Nat->Prop}(H:Mm h b X s L t r xs a S)(f:Fr Q h h')(j: ∀y,X.M y\/X.D y->¬Q y):Mm h' b X s L t r xs a S:=
 have g: ∀y,X.M y->¬Q y:=λy e=>j y (.inl e)
 ⟨f.get H.cX (g b ((H.m b).2 (.inl rfl))),H.own.frame f (λy e=>g y ((H.m y).2 (.inr (.inl e)))),H.al.frame f (λy e=>g y ((H.m y).2 (.inr (.inr e)))),H.abs,λx k=>(H.Bb x k).frame f (λy e=>j y (.inr e)),H.m,H.bl,H.bs,H.ls,H.wk,λy e=>cE (H.Ee y e) f.1⟩
theorem Bx.frame{Q:Nat->Prop}(H:Bx h b X s L)(f:Fr Q h h')(e: ∀y,X.M y\/X.D y->¬Q y):Bx h' b X s L:=by
 obtain⟨t,r,xs,a,S,H⟩:=H;exact⟨t,r,xs,a,S,H.frame f e⟩
theorem Mm.on(H:Mm h b X s L t r xs a S)(f:Fr No h h'):Mm h' b X s L t r xs a S:=H.frame f cb
theorem Mm.len(H:Mm h b X s L t r xs a S):xs.length=s.items.length:=by rw[<-H.abs,aA]
theorem fO(H:Mm h b X s L t r xs a S)(hk:R (.bool true) h):Cl 70 #[.P b 0] h R:=
 yc.walk ⟨_,aq H.cX,hk⟩
theorem gu(hk: ∀h' b X,Bx h' b X ⟨[],1,0,0,0⟩ []->Fr No h h'->(∀y,X.M y\/X.D y->h.size<=y)->R (.P b 0) h'):Cl 38 #[] h R:=by
 refine Hj.walk (cf.gu λa S H A1 g f1=>⟨_,rfl,cI ?_⟩);have f2:Fr No H (H.push (.cells #[.Z,.I 1,.I 0,.I 0,.I 0,.P a 0] 145)):=Fr.push _ _;have z:=f1.1;refine hk _ H.size ⟨λy=>y=H.size\/aL none y\/S y,λ_=>False⟩ ⟨none,0, [],a,S,⟨bV,.nil rfl rfl rfl rfl,A1.frame f2 cb,rfl,(λx f=>by cases f),λ_=>eU,(λ⟨a,e,_⟩=>by cases e),λhs=> ?_,(λy ⟨a,e,_⟩=>by cases e),λ_ _=>id,λ_ hy=>hy.elim⟩⟩ (f1.tt f2) ?_
 .have:=A1.lt hs;omega
 .rintro y ((rfl|⟨a,e,_⟩|hs)|hy)
  .exact z
  .cases e
  .exact g y hs
  .exact hy.elim
theorem rY{x j k:Int}{bs:cM}{n m:Nat}(J:Row h p (bc bs))(f:n=bs.length)(I:bs.length<=70368744177664)(hk: ∀h' P C,fi h' P bs.length C 1 (bc bs)->Fr No h h'->(∀y,aL P y->h.size<=y)->R (.agg #[.I x,.I j,.slice P bs.length C,.U k]) h'):
  Cl 88 #[.agg #[.I x,.I j,.slice p n m,.U k]] h R:=by
 subst f;refine Bp.walk (aY.box λb1 W U v f1=>aY.box λB Y V z f2=> ?_);have w:=f2.get v id;refine⟨_,_,_,aq w,gQ (J.frame (f1.tt f2) cb) rfl I λD l g Q f3 G=>⟨_,_,_,rfl,?_⟩⟩;have l1:=aE v;have l2:=aE z;have K:=f3.get w id;have M:aY.at g B 0 0 none 0 0 0:=f3.get z id;have Z:=f1.1;have z2:=f2.1;have ne:B≠b1:=ae
 refine bL K bQ λo E T A=> ?_
 have N:aY.at o b1 x j D bs.length l k:=E;refine aY.ld N ?_;have O:aY.at o B 0 0 none 0 0 0:=(A B ne).trans M;refine aY.set O λu d1 d2 d3=>aY.ld d1 ?_
 have f4:Fr (λy=>y=b1\/y=B) g u:=⟨ae,λy H f=>by rw[d3 y (λe=>f (.inr e)),A y (λe=>f (.inl e))]⟩;have F:Fr No h g:=f1.tt (f2.tt f3);refine hk u D l (Q.frame f4 (λy H e=>bR (G y H))) (F.fresh f4 (λy H=>ae)) (λy H=>bR (G y H))
def ue(owner:Int)(n:Nat)(cg:Int):Bool:=decide (1<=owner) && decide (owner<=1099511627776) && decide (1<=n) && decide (n<=600) && decide (cg<=1099511627776)
theorem uf{owner cg:Int}{n:Nat}:ue owner n cg=true↔1<=owner/\owner<=1099511627776/\1<=n/\n<=600/\cg<=1099511627776:=by simp[ue,and_assoc]
theorem fx{l x k:Int}{n m:Nat}(hk: iq h R (.bool (ue x n k))):
  Cl 280 #[.agg #[.I l,.I x,.slice p n m,.U k]] h R:=by
 refine Dr.walk (aY.box λb1 H E e f1=>⟨_,aq e,?_⟩);have hk:=hk H f1;unfold ue at hk;by_cases H:1<=x
 .rw[ah (cH H)];refine⟨_,aq e,?_⟩;by_cases f:x<=1099511627776
  .rw[ah (cH f)];refine⟨_,_,_,aq e,?_⟩;by_cases g:1<=n
   .rw[ah (by simp;omega)];refine⟨_,_,_,aq e,?_⟩;by_cases j:n<=600
    .rw[ah (by simp;omega)];refine⟨_,aq e,?_⟩;simpa[H,f,g,j]using hk
    .rw[af (by simp;omega)];simpa[j]using hk
   .rw[af (by simp;omega)];simpa[g]using hk
  .rw[af (cH f)];simpa[f]using hk
 .rw[af (cH H)];simpa[H]using hk
def yf(xs:List It)(num:Int):Option Nat:=xs.findIdx? (λa=>decide ((a.num:Int)=num))
def qV(xs:List It)(num:Int):Int:=match yf xs num with|some k=>(k:Int)|none=> -1
abbrev Aa(h:ak)(b:Nat)(num:Int):Prop:=h[b]? =some (.cells #[.int .i64 num] 3 (0,0))
theorem M6{b:Nat}{num:Int}(x:IV)(hid:Aa h b num)(hk: iq h R (.bool (decide ((x.num:Int)=num)))):Cl 173 #[x.agg,.P b 0] h R:=by
 refine vo.walk (aY.box λb1 H E f f1=>⟨_,aq f,_,aq (f1.get hid (λx=>x)),?_⟩);have e:((x.num:Int)==num)=decide ((x.num:Int)=num):=by
  by_cases q:(x.num:Int)=num<;>simp[q]
 rw[e];exact hk H f1
theorem qW{xs:List IV}{n m b:Nat}{num:Int}(A:Row h p (xs.flatMap gw))(z:n=xs.length)(D:xs.length<=1000000000)(hid:Aa h b num)(hk: iq h R (.I (qV (xs.map IV.abs) num))):
  Cl 153 #[.slice p n m,.func (.func 173) #[] #[.P b 0]] h R:=by
 subst z;refine fE.find.walk ?_;refine⟨λi h'=>Fr No h h'/\∃k:Nat,i=(k:Int)/\k<=xs.length/\∀j (H:j<xs.length),j<k->(xs[j].num:Int)≠num,λi _=>xs.length - i.toNat,⟨Fr.refl _ _,0,rfl,ae,λj _ H=>ae⟩,?_⟩;rintro _ l ⟨f1,k,rfl,C,f⟩;have u:=A.frame f1 (λ_ _ x=>x);have y:Aa l b num:=f1.get hid (λx=>x);by_cases o:k<xs.length
 .have q1:(k:Int)<(xs.length:Int):=ae
  simp only[q1,bt,bg,aC];have g:xs[k]? =some xs[k]:=aj o;obtain⟨a,rfl⟩:=u.some (λe=>by have:=bP List.length e;rw[eO gw 4 gZ,bw]at this;omega);refine⟨⟨ae,by first|trivial|omega⟩,az.2 (aY.wm (u.fI gZ g) ?_)⟩;refine M6 xs[k] y λv f2=>⟨_,rfl,?_⟩
  by_cases e:(xs[k].num:Int)=num
  .simp only[e,bt,bg];have:qV (xs.map IV.abs) num=(k:Int):=by
    unfold qV yf;have:(xs.map IV.abs).findIdx? (λa=>decide ((a.num:Int)=num))=some k:=by
     rw[cN];refine⟨by rw[aA];exact o,?_,λj H=> ?_⟩
     .rw[List.getElem_map];exact aw e
     .rw[List.getElem_map,Bool.not_eq_true];exact aD (f j ae H)
    rw[this]
   rw[this]at hk;exact hk v (f1.tt f2)
  .simp only[e,bf,au,aM];rw[bB ae ae];refine⟨⟨f1.tt f2,k+1,ae,ae,λj H B=> ?_⟩,?_⟩
   .by_cases q:j=k
    .subst q;exact e
    .exact f j H ae
   .show xs.length - Int.toNat ((k:Int)+1)<xs.length - Int.toNat (k:Int);omega
 .have q1: ¬(k:Int)<(xs.length:Int):=ae
  simp only[q1,bf,au,aM];have:qV (xs.map IV.abs) num= -1:=by
   unfold qV yf;have:(xs.map IV.abs).findIdx? (λa=>decide ((a.num:Int)=num))=none:=by
    rw[dB];intro a w;obtain⟨x,g,rfl⟩:=bj.1 w;obtain⟨j,H,rfl⟩:=List.mem_iff_getElem.1 g;exact aD (f j H ae)
   rw[this]
  rw[this]at hk;exact hk l f1
theorem jc{num:Int}(H:Mm h b X s L t r xs a S)(g:s.items.length<=1000000000)(hk: iq h R (.I (qV s.items num))):Cl 122 #[.P b 0,.I num] h R:=by
 refine yd.walk (cI ?_);have f1:Fr No h (h.push (.cells #[.I num] 3)):=Fr.push _ _;have e:=H.on f1;have j:=H.len;refine⟨_,_,_,aq e.cX,qW e.own.iJ rfl ae bV λf f2=>⟨_,rfl,?_⟩⟩;rw[H.abs];exact hk f (f1.tt f2)
theorem Py{n:Nat}(k:n<=1000000)(hk: ∀P C h',fi h' P 0 C 4 []->Fr No h h'->(∀y,aL P y->h.size<=y)->R (.slice P 0 C) h'):
  Cl 199 #[.Z,.I (n:Int)] h R:=by
 refine jJ.walk ?_;simp only[aI];have Q: ¬(n:Int)<0:=ae
 have e1:IntKind.wrap .i64 (((0:Nat):Int) - ((0:Nat):Int))=0:=rfl;have e2:IntKind.wrap .i64 ((n:Int) - 0)=(n:Int):=by rw[bB ae ae];omega
 rw[e1,e2];simp only[Q,bf,au,aM];by_cases H:n=0
 .subst H;rw[af bQ];exact hk none 0 h (.nil rfl rfl rfl rfl) (Fr.refl _ _) (λy ⟨a,e,_⟩=>by cases e)
 .have q1:(n:Int)>0:=ae
  simp only[q1,bt,bg];refine⟨ae,?_⟩;have E:cR none 0 0 4=none:=iE _ _ _;rw[E];refine EM tI VK ae ae ae λg h' o j f=>⟨_,_,_,rfl,ae,?_⟩
  rw[iE];exact hk _ g h' o f (λy ⟨a,e,e2⟩=>by cases e;exact Nat.le_of_eq e2)
theorem Cq{w x:bZ}{n1 c1 n2 B:Nat}{u ws:List IV}(D:Row h (Sa c 0) [.slice w n1 c1,.slice x n2 B])(r1:Row h w (u.flatMap gw))(e1:n1=u.length)(r2:Row h x (ws.flatMap gw))(e2:n2=ws.length)(V:u.length+ws.length<=1000)(hk: ∀P C h',fi h' P (u++ws).length C 4 ((u++ws).flatMap gw)->Fr No h h'->(∀y,aL P y->h.size<=y)->R (.slice P (u++ws).length C) h'):
  Cl 172 #[.slice (Sa c 0) 2 2] h R:=by
 subst e1 e2;have c0: ∀{g:ak},Fr No h g->aX g (((AA c 0):Addr).add (0*1))=some (.slice w u.length c1):=λf=>(D.frame f cb).cell (j:=0) rfl
 have A: ∀{g:ak},Fr No h g->aX g (((AA c 0):Addr).add (1*1))=some (.slice x ws.length B):=λf=>(D.frame f cb).cell (j:=1) rfl
 refine jC.walk ?_;refine⟨λsize i g=>g=h/\((i=0/\size=0)\/(i=1/\size=(u.length:Int))\/(i=2/\size=((u.length+ws.length:Nat):Int))),λ_ i _=>2 - i.toNat,⟨rfl,.inl ⟨rfl,rfl⟩⟩,?_⟩;rintro size i g ⟨rfl,n⟩;rcases n with⟨rfl,rfl⟩|⟨rfl,rfl⟩|⟨rfl,rfl⟩
 .rw[ah (by rfl)];refine aI.of λJ m=>⟨ae,az.2 ⟨_,_,_,c0 (Fr.refl _ _),aI.of λE H=> ?_⟩⟩
  have e:IntKind.wrap .i64 (0+(u.length:Int))=(u.length:Int):=by rw[bB ae ae];omega
  rw[e]at H;rw[e,af (by simp<;>omega)];subst H;subst m;exact⟨⟨rfl,.inr (.inl ⟨rfl,rfl⟩)⟩,by show 2 - Int.toNat 1<2 - Int.toNat 0;decide⟩
 .rw[ah (by rfl)];refine aI.of λJ m=>⟨ae,az.2 ⟨_,_,_,A (Fr.refl _ _),aI.of λE H=> ?_⟩⟩
  have e:IntKind.wrap .i64 ((u.length:Int)+(ws.length:Int))=((u.length+ws.length:Nat):Int):=by rw[bB ae ae];omega
  rw[e]at H;rw[e,af (by simp<;>omega)];subst H;subst m;exact⟨⟨rfl,.inr (.inr ⟨rfl,rfl⟩)⟩,by show 2 - Int.toNat 2<2 - Int.toNat 1;decide⟩
 .rw[dz];refine Py ae λW T U N f4 g4=>⟨_,_,_,rfl,?_⟩
  refine⟨λnp nl nc i G=>Fr No g G/\(∀y,aL np y->g.size<=y)/\((i=0/\nl=0/\fi G np nl nc 4 [])\/(i=1/\nl=u.length/\fi G np nl nc 4 (u.flatMap gw))\/(i=2/\nl=(u++ws).length/\fi G np nl nc 4 ((u++ws).flatMap gw))),λ_ _ _ i _=>2 - i.toNat,⟨f4,g4,.inl ⟨rfl,rfl,N⟩⟩,?_⟩;rintro np nl nc i G ⟨F,k,n⟩;rcases n with⟨rfl,rfl,o⟩|⟨rfl,rfl,o⟩|⟨rfl,rfl,o⟩
  .rw[ah (by rfl)];refine⟨ae,az.2 ⟨_,_,_,c0 F,?_⟩⟩;refine dD tI uI o (r1.frame F cb) (eO gw 4 gZ u) (Ff u) ae ae λQ I M O _ f6 l=>⟨_,_,_,rfl,?_⟩
   rw[cy,bH]at O;rw[bH];have z:=F.1;exact⟨⟨F.fresh f6 k,(λy v=>(l y v).elim (k y) (λK=>ae)),.inr (.inl ⟨rfl,rfl,O⟩)⟩,by show 2 - Int.toNat 1<2 - Int.toNat 0;decide⟩
  .rw[ah (by rfl)];refine⟨ae,az.2 ⟨_,_,_,A F,?_⟩⟩;refine dD tI uI o (r2.frame F cb) (eO gw 4 gZ ws) (Ff ws) ae ae λQ I M O _ f6 l=>⟨_,_,_,rfl,?_⟩
   rw[<-bY,<-ar]at O;rw[<-ar];have z:=F.1;exact⟨⟨F.fresh f6 k,(λy v=>(l y v).elim (k y) (λK=>ae)),.inr (.inr ⟨rfl,rfl,O⟩)⟩,by show 2 - Int.toNat 2<2 - Int.toNat 1;decide⟩
  .rw[dz];exact hk np nc G o F k
theorem KN{L:List E}{k:Int}(hk:k∉keys L):fS L k=L:=by
 unfold fS;rw[cB];intro e H;have:e.1≠k:=λe2=>hk (e2▸bu H)
 simpa using this
theorem fi.yK{h:ak}{p:bZ}{xs:List IV}{cap l u:Nat}(f:Row h p (xs.flatMap gw))(H:l<=u)(e:u<=cap):Row h (cR p cap l 4) (((xs.take u).drop l).flatMap gw):=by
 have:=f.sub (cap:=cap) (l:=l) (u:=u) (sz:=4) H e;rwa[mz gw 4 gZ,oD gw 4 gZ]at this
def Bq(xs:List It)(i:Nat):List It:=xs.take i++xs.drop (i+1)
theorem Dh{x:IV}(H:Mm h b X s L t r xs a S)(hl:s.items.length<=100)(hL:L.length<1000)(g:xs[i]? =some x)(hk: ∀h' Y,Bx h' b Y { s with items:=Bq s.items i } (fS L (x.num:Int))->bN X h Y h'->x.v.ok h' Y.D->R x.agg h'):
  Cl 121 #[.P b 0,.I (i:Int)] h R:=by
 have A':=H.len;have hi:=(aB.1 g).1;refine zX.walk (aY.box λb1 h1 y' d' f1=> ?_);have W:=H.on f1;obtain⟨n,o,rfl⟩:=H.own.addr ae;refine⟨_,_,_,aq W.cX,ae,az.2 (aY.wm (by rw[aC];exact W.own.fI gZ g) (aY.new λB j z' b' f2=> ?_))⟩;have w:=W.on f2;have v':aY.at j b1 0 0 none 0 0 0:=f2.get d' id;have z1:=f1.1;have z2:=f2.1;have l1:=aE d';have l2:=aE b';have ne:B≠b1:=ae
 have nX: ∀y,h.size<=y->¬(X.M y\/X.D y):=λy hy g=>by have:=H.lt y g;omega
 refine⟨_,aq w.cX,_,aq b',?_⟩;have rest: ∀f,cf.Al f a S (fS L (x.num:Int))->Fr S j f->
   f[b]? =some (.cells #[.slice (Sa n o) xs.length r,.I (s.next:Int),.I (s.taken:Int),.I (s.qc:Int),.I (s.over:Int),.P a 0] 145 (0,0))/\
   Row f (Sa n o) (xs.flatMap gw)/\aY.at f b1 0 0 none 0 0 0/\aY.at f B (x.num:Int) x.owner x.v.p x.v.b.length x.v.c (x.cg:Int):=by
  intro f A f7;have nS: ∀y,h.size<=y->¬S y:=λy hy F=>by have:=H.al.lt F;omega
  exact⟨f7.get w.cX H.bs,w.own.iJ.frame f7 (λa' ea F=>H.ls _ ⟨a',ea,rfl⟩ F),f7.get v' (nS b1 ae),f7.get b' (nS B ae)⟩
 have fin: ∀f,cf.Al f a S (fS L (x.num:Int))->Fr S j f->∀P C k,Fr No f k->fi k P (xs.take i++xs.drop (i+1)).length C 4 ((xs.take i++xs.drop (i+1)).flatMap gw)->(∀y,aL P y->f.size<=y)->
   aQ k (AA b 0) (.slice P (xs.take i++xs.drop (i+1)).length C) λD=>
    ∃(m':Int),aX D (AA B 0)=some (.I m')/\∃(n':Int),aX D (AA B 1)=some (.I n')/\∃(q':bZ)(p' o':Nat),aX D (AA B 2)=some (.slice q' p' o')/\∃(r':Int),aX D (AA B 3)=some (.U r')/\
    aQ D (AA b1 0) (.I m') λs'=>
    aQ s' (AA b1 1) (.I n') λt'=>
    aQ t' (AA b1 2) (.slice q' p' o') λu'=>
    aQ u' (AA b1 3) (.U r') λE=>
    ∃(f':Int),aX E (AA b1 0)=some (.I f')/\∃(g':Int),aX E (AA b1 1)=some (.I g')/\∃(k':bZ)(j' i':Nat),aX E (AA b1 2)=some (.slice k' j' i')/\∃(l':Int),aX E (AA b1 3)=some (.U l')/\
    R (.agg #[.I f',.I g',.slice k' j' i',.U l']) E:=by
  intro f A f7 P C k f9 O G;obtain⟨K,_,k3,k4⟩:=rest f A f7;have lb:=aE H.cX;have z7:=f7.1;have z9:=f9.1;refine bL (f9.get K id) bQ λz a1 a2 Z=> ?_
  have i2:aY.at z B (x.num:Int) x.owner x.v.p x.v.b.length x.v.c (x.cg:Int):=(Z B ae).trans (f9.get k4 id);refine aY.ld i2 ?_;have i1:aY.at z b1 0 0 none 0 0 0:=(Z b1 ae).trans (f9.get k3 id);refine aY.set i1 λQ d1 d2 d3=>aY.ld d1 ?_
  have f10:Fr (λy=>y=b) k z:=Fr.of_eq a2 Z;have f14:Fr (λy=>y=b1) z Q:=Fr.of_eq d2 d3;have F2:Fr No h j:=f1.tt f2;have F7:Fr S h f:=Fr.no F2 f7;have F9:Fr S h k:=F7.tt (f9.mono (λ_ _ g=>g.elim));have U:Fr (λy=>S y\/y=b) h z:=(F9.mono (λ_ _ g=> .inl g)).tt (f10.mono (λ_ _ g=> .inr g));have V:Fr X.M h Q:=by
   refine⟨cD U.1 f14.1,λy hy hn=> ?_⟩;rw[f14.2 y (cE hy U.1) (λe=>ae),U.2 y hy (λg=>hn ((H.m y).2 (g.elim (λh=> .inr (.inr h)) .inl)))]
  have w': ∀y,aL P y->¬S y:=λy hy F=>by have:=G y hy;have:=H.al.lt F;omega
  have e': ∀y,aL P y->y≠b:=λy hy e=>by have:=G y hy;omega
  have x': ∀y,aL P y->y≠b1:=λy hy e=>by have:=G y hy;omega
  have c': ∀v:IV,v∈xs->v.v.ok Q X.D:=λv hv=>(H.Bb v hv).frame V (λy hd T=>H.wk y T hd)
  refine hk Q ⟨λy=>y=b\/aL P y\/S y,X.D⟩ ⟨P,C,xs.take i++xs.drop (i+1),a,S,⟨?_,(O.frame f10 e').frame f14 x',?_,?_,?_,λ_=>eU,λg=>e' b g rfl,H.bs,w',?_,λy hy=>cE (H.Ee y hy) V.1⟩⟩ ⟨V,?_,λ_=> .inl,λ_=>id⟩ (c' x (aJ g))
  .rw[d3 b ae,a1];simp
  .have A9:=A.frame f9 cb;exact(A9.frame f10 (λy hy e=>H.bs (e▸hy))).frame f14 (λy hy e=>bR (H.al.lt hy))
  .show _=Bq s.items i;unfold Bq;rw[<-H.abs,aV,List.map_take,List.map_drop]
  .intro v hv;refine c' v ?_;rcases bz.1 hv with hv|hv
   .exact List.mem_of_mem_take hv
   .exact List.mem_of_mem_drop hv
  .rintro y (rfl|hy|hy) hd
   .exact H.wk _ ((H.m _).2 (.inl rfl)) hd
   .have:=G y hy;have:=H.Ee y hd;omega
   .exact H.wk _ ((H.m _).2 (.inr (.inr hy))) hd
  .rintro y (rfl|hy|hy)
   .exact .inl ((H.m _).2 (.inl rfl))
   .right;have:=G y hy;omega
   .exact .inl ((H.m _).2 (.inr (.inr hy)))
 have ew:IntKind.wrap .i64 ((i:Int)+1)=((i+1:Nat):Int):=by rw[bB ae ae];omega
 have cap:=H.own.le;rw[ew];simp only[aC,Nat.sub_zero];refine cf.pI w.al ae _ (λT f A f7=>⟨_,rfl,?_⟩) (λT=>⟨_,rfl,?_⟩)
 .obtain⟨K,k2,k3,k4⟩:=rest f A f7;refine⟨_,_,_,aq K,ae,_,_,_,aq K,ae,cI ?_⟩;have f8:Fr No f (f.push (.cells #[.slice (cR (Sa n o) r 0 4) i r,.slice (cR (Sa n o) r (i+1) 4) (xs.length - (i+1)) (r - (i+1))] 86)):=Fr.push _ _;have m:=f8.get K id;refine⟨aq m,aq m,?_⟩;have J:=k2.frame f8 cb;have M:=fi.yK (l:=0) (u:=i) (cap:=r) J ae ae;have N:=fi.yK (l:=i+1) (u:=xs.length) (cap:=r) J ae ae;rw[gL]at M;rw[dZ]at N;refine Cq iS M (by rw[bC];omega) N (by rw[bX]) (by rw[bC,bX];omega) λP C k O f9 G=>⟨_,_,_,rfl,?_⟩
  have I:=f9.get m id;exact⟨aq I,aq I,fin f A f7 P C k (f8.tt f9) O (λy hy=>by have:=G y hy;rw[du]at this;omega)⟩
 .have A:cf.Al j a S (fS L (x.num:Int)):=by
   rw[KN T];exact w.al
  have f7:Fr S j j:=Fr.refl _ _;obtain⟨K,k2,k3,k4⟩:=rest j A f7;refine⟨_,_,_,aq K,ae,_,_,_,aq K,ae,cI ?_⟩;have f8:Fr No j (j.push (.cells #[.slice (cR (Sa n o) r 0 4) i r,.slice (cR (Sa n o) r (i+1) 4) (xs.length - (i+1)) (r - (i+1))] 86)):=Fr.push _ _;have m:=f8.get K id;refine⟨aq m,aq m,?_⟩;have J:=k2.frame f8 cb;have M:=fi.yK (l:=0) (u:=i) (cap:=r) J ae ae;have N:=fi.yK (l:=i+1) (u:=xs.length) (cap:=r) J ae ae;rw[gL]at M;rw[dZ]at N;refine Cq iS M (by rw[bC];omega) N (by rw[bX]) (by rw[bC,bX];omega) λP C k O f9 G=>⟨_,_,_,rfl,?_⟩
  have I:=f9.get m id;exact⟨aq I,aq I,fin j A f7 P C k (f8.tt f9) O (λy hy=>by have:=G y hy;rw[du]at this;omega)⟩
end gD
end
section
open Go.fk Go.kQ
namespace gD
open cf (jy)
variable {L:List E} {s:BS} {items:List It} {now:Int}
variable {num:Int}
def It.kv(x:It):E:=((x.num:Int),(x.cg:Int))
structure okB (s:BS) (L:List E):Prop where
 le:s.items.length<=16
 pm:L.Perm (s.items.map It.kv)
 it: ∀x∈s.items,1<=x.num/\x.num<s.next/\1<=x.d.length/\x.d.length<=600/\1<=x.owner/\x.owner<=1099511627776/\x.cg<=1099511627776
 inc:(s.items.map It.num).Pairwise (· < ·)
 xO:s.next=1+s.items.length+s.taken+s.qc+s.over
theorem okB.nil:okB ⟨[],1,0,0,0⟩ []:=⟨bQ,.refl _,bQ,.nil,rfl⟩
def qX(items:List It)(num:Int):List It:=items.filter (λy=> !decide ((y.num:Int)=num))
theorem qY: ∀{items:List It}{i:Nat}{x:It},(items.map It.num).Pairwise (· < ·)->items[i]? =some x->Bq items i=qX items (x.num:Int)
 | [],i,x,_,h=>by simp at h
 |y::r,0,x,H,h=>by
  simp at h;subst h;rw[cj,dS]at H;unfold Bq qX;rw[cz];simp only[bt,dh,au,aM,eM,cy,List.drop_succ_cons,gL];symm
  rw[cB];intro z b;have:=H.1 z.num (bu b);have: ¬(z.num:Int)=(y.num:Int):=ae
  simp[this]
 |y::r,i+1,x,H,h=>by
  rw[cj,dS]at H;rw[dA]at h;have I:=qY H.2 h;have c:=H.1 x.num (bu (aJ h));have a: ¬(y.num:Int)=(x.num:Int):=ae
  unfold Bq qX at I⊢;rw[cz];simp only[a,bf,eL,bg,gg,List.drop_succ_cons,dC];rw[I]
theorem Ab(h:L.Perm (items.map It.kv)):(fS L num).Perm ((qX items num).map It.kv):=by
 have:=h.filter (λe=> !(e.1==num));unfold fS;refine this.trans ?_;rw[dN];refine List.Perm.of_eq ?_;unfold qX;refine bP _ (ee ?_);intro x _;show(!((x.num:Int)==num))=_;by_cases q:(x.num:Int)=num<;>simp[q]
theorem okB.sub{i:List It}{l:List E}{t c o:Nat}(ok:okB s L)(h:i.Sublist s.items)(a:l.Perm (i.map It.kv))(H:s.next=1+i.length+t+c+o):okB ⟨i,s.next,t,c,o⟩ l:=
 ⟨cD h.length_le ok.le,a,λx b=>ok.it x (h.subset b),ok.inc.sublist (h.map _),H⟩
theorem Ac{i:Nat}(h:yf items num=some i): ∃x,items[i]? =some x/\(x.num:Int)=num:=by
 unfold yf at h;rw[cN]at h;obtain⟨H,a,_⟩:=h;exact⟨_,aj H,cH a⟩
theorem M7(h:yf items num=none): ∀x∈items,(x.num:Int)≠num:=by
 unfold yf at h;rw[dB]at h;intro x H;simpa using h x H
theorem uniq(h:(items.map It.num).Pairwise (· < ·)){x y:It}(H:x∈items)(a:y∈items)(e:x.num=y.num):x=y:=by
 induction items with
 |nil=>cases H
 |cons z r i=>
  rw[cj,dS]at h;rcases bG.1 H with e1|Xg
  .rcases bG.1 a with e2|Tv
   .rw[e1,e2]
   .have:=h.1 y.num (bu Tv);rw[e1]at e;omega
  .rcases bG.1 a with e2|Tv
   .have:=h.1 x.num (bu Xg);rw[e2]at e;omega
   .exact i h.2 Xg Tv
theorem gm: ∀{L:List E},ju L->cf.due L now=L.filter (jy now)/\cf.rest L now=L.filter (λe=> !jy now e)
 | [],_=>⟨rfl,rfl⟩
 |e::r,c=>by
  have b:=dS.1 c;obtain⟨i1,i2⟩:=gm (L:=r) b.2;unfold cf.due at i1⊢;unfold cf.rest at i2⊢;by_cases a:jy now e=true
  .rw[List.takeWhile_cons,List.dropWhile_cons,cz,cz,a];simp only[bg,dh,au,aM];rw[i1,i2];exact⟨rfl,rfl⟩
  .have H:jy now e=false:=by simpa using a
   have all: ∀x∈r,jy now x=false:=by
    intro x h;have h1:=b.1 x h;unfold jy at H⊢;have d:=fR H;apply aD
    rcases h1 with h1|h1<;>omega
   rw[List.takeWhile_cons,List.dropWhile_cons,cz,cz,H];simp only[au,aM,eL,bg];refine⟨?_,?_⟩
   .symm;rw[List.filter_eq_nil_iff];intro x h;rw[all x h];simp
   .congr 1;symm;rw[cB];intro x h;rw[all x h];rfl
def od(items:List It)(K:List Int):List It:=items.filter (λx=>decide ((x.num:Int)∉K))
theorem Na:od items []=items:=by unfold od;simp
theorem Nb{K:List Int}{k:Int}:qX (od items K) k=od items (K++ [k]):=by
 unfold qX od;rw[List.filter_filter];apply ee
 intro x _;by_cases h:(x.num:Int)=k
 .simp[h]
 .by_cases H:(x.num:Int)∈K<;>simp[h,H]
theorem Nc(ok:okB s L)(so:ju L)(nd:(keys L).Nodup):od s.items (keys (cf.due L now))=s.items.filter (λx=>decide (now<(x.cg:Int))):=by
 obtain⟨e1,_⟩:=gm (now:=now) so;unfold od;apply ee
 intro x a;have c:x.kv∈L:=ok.pm.mem_iff.2 (bu a);by_cases H:now<(x.cg:Int)
 .simp only[H,bt,aZ];intro hk;rw[e1]at hk;obtain⟨e,b,E⟩:=bj.1 hk;have h:=ba.1 b;obtain⟨y,d,rfl⟩:=bj.1 (ok.pm.mem_iff.1 h.1);have:y=x:=uniq ok.inc d a (by have:(y.num:Int)=(x.num:Int):=E;omega);subst this;have:=aP h.2;unfold It.kv at this;dsimp only at this;omega
 .simp only[H,bf,fa,Classical.not_not];rw[e1];refine bj.2 ⟨x.kv,ba.2 ⟨c,aw ?_⟩,rfl⟩;unfold It.kv;dsimp only;omega
theorem Cr(ok:okB s L)(so:ju L):(cf.rest L now).Perm ((s.items.filter (λx=>decide (now<(x.cg:Int)))).map It.kv):=by
 rw[(gm (now:=now) so).2];refine(ok.pm.filter _).trans (List.Perm.of_eq ?_);rw[dN];congr 1
 apply ee
 intro x _;show(!decide ((x.cg:Int)<=now))=_;by_cases q:now<(x.cg:Int)
 .simp[q]
 .simp[q];omega
theorem Nd(ok:okB s L)(so:ju L):(cf.due L now).Perm ((s.items.filter (λx=>decide ((x.cg:Int)<=now))).map It.kv):=by
 rw[(gm (now:=now) so).1];refine(ok.pm.filter _).trans (List.Perm.of_eq ?_);rw[dN];rfl

end gD
end
section
variable {h:ak} {R:fG}
variable {p:Nat} {owner n:Int}
theorem wC.walk(H: ∃t9,Cc h p 2 (.map t9)/\R (.bool (!t9.isNone)) h):Cl 174 #[.P p 0] h R:=aR (lq ll) Tryz.func174 H
theorem KO.walk{w:Int}{s:Int}(d:aI (λ(t20:Bool) (H:ak)=>if t20 then R (.tuple #[.pointer none,.I 1]) H else aT H (.map #[] 0) λb a=>aT a (.cells #[.I w,.I s,.map (some b),.I 0] 169) λB c=>R (.tuple #[.P B 0,.I 0]) c) (λJ=>if(decide (w<1))then J true h else if(decide (w>1048576))then J true h else if(decide (s<1))then J true h else J (decide (s>w)) h)):Cl 34 #[.I w,.I s] h R:=aR (lq (sq (sq (.join [(20,.one (.bool))] lf) (cq ll lf)) ll)) Tryz.func34 d
theorem yg.walk(b:Cl 174 #[.P p 0] h λv H=> ∃t9,v=.bool t9/\if(!t9)then R (.I 6) H else aI (λ(t11:Bool) (a:ak)=>if t11 then R (.I 1) a else R (.I 0) a) (λJ=>if(decide (owner<1))then J true H else if(decide (owner>1099511627776))then J true H else J (decide (n<0)) H)):Cl 123 #[.P p 0,.I owner,.I n] h R:=aR (lq (sq (bq (lq (cq ll (sq (.join [(11,.one (.bool))] lf) (cq ll lf))))) ll)) Tryz.func123 b
theorem wD.walk (e:Cl 123 #[.P p 0,.I owner,.I n] h λv H=> ∃t11,v=.I t11/\if(t11 !=0)then R (.I t11) H else aI (λ(t40:Bool) (a:ak)=>if t40 then R (.I 15) a else aI (λ(c:ak)=>R (.I 0) c) (λj=>if(decide (n>0))then∃t46,Cc a p 2 (.map t46)/\∃t48,ig Tryz.prog 167 (.map t46) (.I owner) false a (.I t48)/\aU Tryz.prog (Instr.mapUpdate 167 (.map t46) (.I owner) (.I (wrap .i64 (t48+n)))) a λ_ b=> ∃t54,Cc b p 3 (.I t54)/\aQ b (AA p 3) (.I (wrap .i64 (t54+n))) λd=>j d else j a)) (λJ=>Hi H p 1 λt19=> ∃t23,Cc H p 2 (.map t23)/\∃t25,ig Tryz.prog 167 (.map t23) (.I owner) false H (.I t25)/\if(decide (n>(wrap .i64 (t19 - t25))))then J true H else Hi H p 0 λt33=> ∃t37,Cc H p 3 (.I t37)/\J (decide (n>(wrap .i64 (t33 - t37)))) H)):Cl 241 #[.P p 0,.I owner,.I n] h R:=aR (lq (sq (lq (lq (cq ll lf))) (sq (sq (.join [(40,.one (.bool))] (pN 26)) (cq ll lf)) (sq (lq (.join [] (cq ll lf))) ll)))) Tryz.func241 e
theorem wE.walk (a:Cl 123 #[.P p 0,.I owner,.I n] h λv H=> ∃t10,v=.I t10/\if(t10==0)then Hi H p 1 λt17=> ∃t21,Cc H p 2 (.map t21)/\∃t23,ig Tryz.prog 167 (.map t21) (.I owner) false H (.I t23)/\if(decide (n<=(wrap .i64 (t17 - t23))))then Hi H p 0 λt32=> ∃t36,Cc H p 3 (.I t36)/\R (.bool (decide (n<=(wrap .i64 (t32 - t36))))) H else R (.bool false) H else R (.bool false) H):Cl 239 #[.P p 0,.I owner,.I n] h R:=aR (lq (sq (pN 34) lf)) Tryz.func239 a
theorem wF.walk(e:Cl 123 #[.P p 0,.I owner,.I n] h λv H=> ∃t11,v=.I t11/\if(t11 !=0)then R (.I t11) H else∃t19,Cc H p 2 (.map t19)/\∃t21,ig Tryz.prog 167 (.map t19) (.I owner) false H (.I t21)/\if(decide (n>t21))then R (.I 7) H else∃t26,Cc H p 3 (.I t26)/\aQ H (AA p 3) (.I (wrap .i64 (t26 - n))) λb=> ∃t34,Cc b p 2 (.map t34)/\∃t36,ig Tryz.prog 167 (.map t34) (.I owner) false b (.I t36)/\aU Tryz.prog (Instr.mapUpdate 167 (.map t34) (.I owner) (.I (wrap .i64 (t36 - n)))) b λ_ a=> ∃t42,Cc a p 2 (.map t42)/\∃t44,ig Tryz.prog 167 (.map t42) (.I owner) false a (.I t44)/\aI (λ(c:ak)=>R (.I 0) c) (λJ=>if(t44==0)then∃t49,Cc a p 2 (.map t49)/\aU Tryz.prog (Builtin.delete_ #[167,3] 0 #[.map t49,.I owner]) a λV d=>V=.tuple #[]/\J d else J a)):Cl 55 #[.P p 0,.I owner,.I n] h R:=aR (lq (sq (lq (lq (cq ll lf))) (sq (lq (cq ll lf)) (lq (lq (sq (lq (.join [] (cq lf lf))) ll)))))) Tryz.func55 e

end
section
namespace me
theorem tm:qG Tryz.prog 167 (.I 0):=.of 3 3 .i64 cZ cZ cZ
def gH(h:ak)(p m:Nat)(W S A:Int)(f:Int->Int):Prop:=
 h[p]? =some (.cells #[.int .i64 W,.int .i64 S,.map (some m),.int .i64 A] 169 (0,0))/\
 ∃g:Int->Option Value,nm h m g/\∀k,(g k).getD (.int .i64 0)=.int .i64 (f k)
def Ok(W S A:Int)(f:Int->Int):Prop:=1<=S/\S<=W/\W<=1048576/\ -2000000000000<=A/\A<=W/\∀k,0<=f k/\f k<=S
variable {h : ak} {p m : Nat} {W S A : Int} {f : Int → Int} {R : Value → ak → Prop}
theorem gH.frame{Q:Nat->Prop}{h':ak}(i:gH h p m W S A f)(H:Fr Q h h')(a: ¬Q p)(b: ¬Q m):gH h' p m W S A f:=by
 obtain⟨c,g,d,e⟩:=i;exact⟨H.get c a,g,d.frame H b,e⟩
theorem gH.ne(d:gH h p m W S A f):p≠m:=by
 obtain⟨a,g,b,_⟩:=d;obtain⟨es,c,H⟩:=b.map;rintro rfl;rw[a]at H;cases H
theorem gH.lt(H:gH h p m W S A f):p<h.size/\m<h.size:=⟨aE H.1,by obtain⟨_,g,a,_⟩:=H;exact a.lt⟩
theorem gH.ext{F:Int->Int}(d:gH h p m W S A f)(a: ∀k,F k=f k):gH h p m W S A F:=by
 obtain⟨H,g,b,c⟩:=d;exact⟨H,g,b,λk=>by rw[a];exact c k⟩
theorem fO(H:gH h p m W S A f)(hk:R (.bool true) h):Cl 174 #[.P p 0] h R:=
 wC.walk ⟨some m,aq H.1,hk⟩
theorem look(b:gH h p m W S A f)(o:Int):ig Tryz.prog 167 (.map (some m)) (.I o) false h (.I (f o)):=by
 obtain⟨_,g,H,a⟩:=b;have:=BZ tm H o;rw[a]at this;exact this
def may(o n:Int):Bool:=decide (1<=o) && decide (o<=1099511627776) && decide (0<=n)
def jj(o n:Int):Int:=if may o n=true then 0 else 1
theorem mj{o n:Int}:may o n=true↔1<=o/\o<=1099511627776/\0<=n:=by simp[may,and_assoc]
theorem wG(c:gH h p m W S A f)(o n:Int)(hk:R (.I (jj o n)) h):Cl 123 #[.P p 0,.I o,.I n] h R:=by
 refine yg.walk (fO c ⟨true,rfl,?_⟩);simp only[aI];unfold jj may at hk;by_cases H:o<1
 .simpa[H,show¬1<=o by omega]using hk
 .by_cases a:o>1099511627776
  .simpa[H,a,show¬o<=1099511627776 by omega]using hk
  .by_cases b:n<0
   .simpa[H,a,b,show¬0<=n by omega]using hk
   .simpa[H,a,b,show 1<=o by omega,show o<=1099511627776 by omega,show 0<=n by omega]using hk
def fits(W S A:Int)(f:Int->Int)(o n:Int):Bool:=may o n && decide (n<=S - f o) && decide (n<=W - A)
def Ru(W S A:Int)(f:Int->Int)(o n:Int):Int:=if may o n=true then(if fits W S A f o n=true then 0 else 15)else 1
def j8(f:Int->Int)(o n:Int):Int->Int:=λk=>if k=o then f k+n else f k
theorem Fh{o n:Int}:fits W S A f o n=true↔(1<=o/\o<=1099511627776/\0<=n)/\n<=S - f o/\n<=W - A:=by
 simp[fits,mj,and_assoc]
theorem Ok.take{o n:Int}(ok:Ok W S A f)(H:fits W S A f o n=true):Ok W S (A+n) (j8 f o n):=by
 obtain⟨o1,o2,O,j,l,a⟩:=ok;obtain⟨⟨b,c,d⟩,g,i⟩:=Fh.1 H;refine⟨o1,o2,O,ae,ae,λk=> ?_⟩;have:=a k;unfold j8;split
 .rename_i e;subst e;omega
 .exact this
theorem Pz(H:gH h p m W S A f)(ok:Ok W S A f)(o n:Int)(u:fits W S A f o n=true->∀h',gH h' p m W S (A+n) (j8 f o n)->Fr (λc=>c=p\/c=m) h h'->R (.I 0) h')(K:fits W S A f o n=false->R (.I (Ru W S A f o n)) h):
  Cl 241 #[.P p 0,.I o,.I n] h R:=by
 obtain⟨o1,o2,I,J,L,O⟩:=ok;have of:=O o;refine wD.walk (wG H o n ⟨_,rfl,?_⟩);unfold Ru at K;unfold jj;cases b:may o n with
 |false=>
  have:=K (by simp[fits,b]);simpa[b]using this
 |true=>
  have E:=mj.1 b;simp only[bg,bne_self_eq_false,au,aM,aI];refine⟨S,aq H.1,some m,aq H.1,f o,look H o,?_⟩;rw[bB ae ae];by_cases d:n>S - f o
  .have a:fits W S A f o n=false:=by simp[fits,show¬n<=S - f o by omega]
   have:=K a;simpa[d,b,a]using this
  .simp only[d,bf,au,aM];refine⟨W,aq H.1,A,aq H.1,?_⟩;rw[bB ae ae];by_cases i:n>W - A
   .have a:fits W S A f o n=false:=by simp[fits,show¬n<=W - A by omega]
    have:=K a;simpa[i,b,a]using this
   .have a:fits W S A f o n=true:=by simp[fits,b,show n<=S - f o by omega,show n<=W - A by omega]
    simp only[i,bf,au,aM];by_cases j:n>0
    .simp only[j,bt,bg];refine⟨some m,aq H.1,f o,look H o,?_⟩;rw[bB ae ae];have r:=H.ne;obtain⟨w,g,y,B⟩:=H;refine mJ tm y ?_;intro D z F s;have l:=(s p r).trans w;refine⟨A,aq l,?_⟩;rw[bB ae ae];refine bL l bQ ?_;intro v x G t;refine u a v ⟨x,_,z.mI (t m (fv r)),λk=> ?_⟩ (Fr.of_eq ae λc q=> ?_)
     .unfold j8;by_cases hk:k=o
      .simp[hk]
      .simp[hk,B]
     .rw[t c (λe=>q (.inl e)),s c (λe=>q (.inr e))]
    .have C:n=0:=ae
     simp only[j,bf,au,aM];refine u a h ?_ (Fr.refl _ _);subst C;rw[Int.add_zero];exact H.ext λk=>by unfold j8;split<;>omega
theorem PA(H:gH h p m W S A f)(ok:Ok W S A f)(o n:Int)(hk:R (.bool (fits W S A f o n)) h):Cl 239 #[.P p 0,.I o,.I n] h R:=by
 obtain⟨o1,o2,c,d,e,O⟩:=ok;have of:=O o;refine wE.walk (wG H o n ⟨_,rfl,?_⟩);unfold jj;unfold fits at hk;cases b:may o n with
 |false=>simpa[b]using hk
 |true=>
  simp only[bg,ff];refine⟨S,aq H.1,some m,aq H.1,f o,look H o,?_⟩;rw[bB ae ae];by_cases a:n<=S - f o
  .simp only[a,bt,bg];refine⟨W,aq H.1,A,aq H.1,?_⟩;rw[bB ae ae];simpa[b,a]using hk
  .simpa[b,a]using hk
def qZ(f:Int->Int)(o n:Int):Bool:=may o n && decide (n<=f o)
def Rv(f:Int->Int)(o n:Int):Int:=if may o n=true then(if qZ f o n=true then 0 else 7)else 1
theorem KP{o n:Int}:qZ f o n=true↔(1<=o/\o<=1099511627776/\0<=n)/\n<=f o:=by simp[qZ,mj,and_assoc]
theorem PB(d:gH h p m W S A f)(ok:Ok W S A f)(o n:Int)(C:qZ f o n=true->∀h',gH h' p m W S (A - n) (j8 f o (-n))->Fr (λc=>c=p\/c=m) h h'->R (.I 0) h')(K:qZ f o n=false->R (.I (Rv f o n)) h):
  Cl 55 #[.P p 0,.I o,.I n] h R:=by
 obtain⟨o1,o2,U,V,X,O⟩:=ok;have of:=O o;refine wF.walk (wG d o n ⟨_,rfl,?_⟩);unfold Rv at K;unfold jj;cases b:may o n with
 |false=>
  have:=K (by simp[qZ,b]);simpa[b]using this
 |true=>
  have N:=mj.1 b;simp only[bg,bne_self_eq_false,au,aM];refine⟨some m,aq d.1,f o,look d o,?_⟩;by_cases v:n>f o
  .have a:qZ f o n=false:=by simp[qZ,show¬n<=f o by omega]
   have:=K a;simpa[v,b,a]using this
  .have a:qZ f o n=true:=by simp[qZ,b,show n<=f o by omega]
   simp only[v,bf,au,aM];have r:=d.ne;obtain⟨w,g,G,q⟩:=d;refine⟨A,aq w,?_⟩;rw[bB ae ae];refine bL w bQ ?_;intro D l P s;have x:=G.mI (s m (fv r));have L:gH D p m W S (A - n) f:=⟨l,g,x,q⟩;refine⟨some m,aq l,f o,look L o,?_⟩;rw[bB ae ae];refine mJ tm x ?_;intro j y Q t;have i:=(t p r).trans l;have B:gH j p m W S (A - n) (j8 f o (-n)):=⟨i,_,y,λk=>by
    unfold j8;by_cases hk:k=o
    .simp[hk,Int.sub_eq_add_neg]
    .simp[hk,q]⟩
   have F:Fr (λc=>c=p\/c=m) h j:=Fr.of_eq ae λc H=>by rw[t c (λe=>H (.inr e)),s c (λe=>H (.inl e))]
   have J:=look B o;refine⟨some m,aq i,j8 f o (-n) o,J,?_⟩;simp only[aI];by_cases u:j8 f o (-n) o=0
   .simp only[u,ff,bg];refine⟨some m,aq i,?_⟩;refine xA tm y ?_;intro E I T z;refine⟨rfl,C a E ⟨(z p r).trans i,_,I,λk=> ?_⟩ (Fr.of_eq ae λc H=> ?_)⟩
    .by_cases hk:k=o
     .subst hk;simp[u]
     .simp[hk,q,j8]
    .rw[z c (λe=>H (.inr e)),t c (λe=>H (.inr e)),s c (λe=>H (.inl e))]
   .have M:(j8 f o (-n) o==0)=false:=by simpa using u
    simp only[M,au,aM];exact C a j B F
def xP(W S:Int):Bool:=decide (1<=W) && decide (W<=1048576) && decide (1<=S) && decide (S<=W)
theorem KQ:xP W S=true↔1<=W/\W<=1048576/\1<=S/\S<=W:=by simp[xP,and_assoc]
theorem gu(W S:Int){h:ak}(K:xP W S=true->∀h' p m,gH h' p m W S 0 (λ_=>0)->h.size<=p->h.size<=m->Fr No h h'->R (.tuple #[.P p 0,.I 0]) h')(k:xP W S=false->R (.tuple #[.pointer none,.I 1]) h):Cl 34 #[.I W,.I S] h R:=by
 refine KO.walk ?_;simp only[aI];by_cases a:W<1
 .simpa only[a,bt,bg]using k (by simp[xP,show¬1<=W by omega])
 .simp only[a,bf,au,aM];by_cases c:W>1048576
  .simpa only[c,bt,bg]using k (by simp[xP,show¬W<=1048576 by omega])
  .simp only[c,bf,au,aM];by_cases d:S<1
   .simpa only[d,bt,bg]using k (by simp[xP,show¬1<=S by omega])
   .simp only[d,bf,au,aM];by_cases e:S>W
    .simpa only[e,bt,bg]using k (by simp[xP,show¬S<=W by omega])
    .simp only[e,bf,au,aM];rintro b g rfl rfl b1 i rfl rfl;refine K (KQ.2 ae) _ _ h.size ⟨bV,λ_=>none,?_,λ_=>rfl⟩ bQ bQ ?_
     .exact(nm.push h).frame (Fr.push (S:=λ_=>False) _ _) bQ
     .exact(Fr.push (S:=λ_=>False) h _).trans (Fr.push (S:=λ_=>False) _ _) (λ_ _ H=>H) (λ_ _ H=>H)
end me
end
section
namespace eN
open gD (It)
variable {l L:List It} {x:It} {o:Int}
def xj(l:List It):Int:=(l.map (λx=>(x.d.length:Int))).sum
def own(l:List It)(o:Int):Int:=xj (l.filter (λx=>decide (x.owner=o)))
theorem Ad(p:l.Perm L):xj l=xj L:=by
 induction p with
 |nil=>rfl
 |cons x _ i=>unfold xj at i⊢;simp only[cj,List.sum_cons];omega
 |swap x y l=>unfold xj;simp only[cj,List.sum_cons];omega
 |trans _ _ H a=>exact H.trans a
theorem Ae(p:l.Perm L):own l=own L:=funext λo=>Ad (p.filter _)
theorem jF:xj (x::l)=x.d.length+xj l:=by unfold xj;rw[cj,List.sum_cons]
theorem mQ:own (x::l) o=(if x.owner=o then(x.d.length:Int)else 0)+own l o:=by
 unfold own;rw[cz];split<;>rename_i h
 .rw[jF,ah (aP h)]
 .rw[af (λe=>h (aw e))];omega
theorem Hk:0<=xj l:=by
 induction l with
 |nil=>exact dT _
 |cons x l i=>rw[jF];omega
theorem Hm:0<=own l o:=Hk
theorem Se(H:x∈l):(x.d.length:Int)<=own l x.owner:=by
 obtain⟨a,b,rfl⟩:=List.append_of_mem H;rw[Ae List.perm_middle,mQ,ah rfl];have:=Hm (l:=a++b) (o:=x.owner);omega
abbrev sS(l:List It):Prop:=me.Ok 4800 1600 (xj l) (own l)
theorem sS.perm(ok:sS l)(p:l.Perm L):sS L:=by
 unfold sS;rw[<-Ad p,<-Ae p];exact ok
theorem sS.sub(ok:sS (x::l)):sS l:=by
 obtain⟨a,b,c,d,e,f⟩:=ok;rw[jF]at d e;have:=Hk (l:=l);refine⟨a,b,c,ae,ae,λk=>⟨Hm,?_⟩⟩;have:=(f k).2;rw[mQ]at this;split at this<;>omega
theorem sS.nil:sS []:=⟨dt,dt,dt,dt,dt,λ_=>⟨dT 0,show(0:Int)<=1600 by decide⟩⟩
theorem Jj:me.j8 (own l) x.owner (x.d.length:Int)=own (x::l):=by
 funext k
 unfold me.j8;rw[mQ];by_cases e:k=x.owner
 .rw[ah e,ah e.symm];omega
 .rw[af e,af (λq=>e q.symm)];omega
theorem Nf:me.j8 (own (x::l)) x.owner (-(x.d.length:Int))=own l:=by
 funext k
 unfold me.j8;rw[mQ];by_cases e:k=x.owner
 .rw[ah e,ah e.symm];omega
 .rw[af e,af (λq=>e q.symm)];omega
def VL(x:It):Prop:=1<=x.d.length/\x.d.length<=600/\1<=x.owner/\x.owner<=1099511627776
section
variable {h h' : ak} {R : Value → ak → Prop} {p m : Nat}
abbrev Pu(h:ak)(p m:Nat)(l:List It):Prop:=me.gH h p m 4800 1600 (xj l) (own l)
theorem Pu.perm(H:Pu h p m l)(q:l.Perm L):Pu h p m L:=by
 unfold Pu;rw[<-Ad q,<-Ae q];exact H
theorem Tw{n:Int}(H:Pu h p m (x::l))(ok:sS (x::l))(k:VL x)(b:n=(x.d.length:Int))(hk: ∀h',Pu h' p m l->Fr (λc=>c=p\/c=m) h h'->R (.I 0) h'):
  Cl 55 #[.P p 0,.I x.owner,.I n] h R:=by
 subst b;have g:me.qZ (own (x::l)) x.owner (x.d.length:Int)=true:=me.KP.2 ⟨⟨k.2.2.1,k.2.2.2,ae⟩,Se bQ⟩;refine me.PB H ok _ _ (λ_ h' a f=>hk h' ?_ f) (λe=>by rw[g]at e;cases e);rw[Nf,jF,show(x.d.length:Int)+xj l - x.d.length=xj l by omega]at a;exact a
end
end eN
end
section
variable {h:ak} {R:fG}
variable {t e d c0 s c F:Nat} {num token id A:Int} {f S:bZ}
theorem Ds.walk(a:aT h (.cells #[.bool true,.Z] 90) λb H=>R (.P b 0) H):Cl 35 #[] h R:=aR (lq ll) Tryz.func35 a
theorem sw.walk (g:aI (λ(t6:Bool) (H:ak)=>if t6 then R (.tuple #[.pointer none,.I 6]) H else aI (λ(t16:Bool) (b:ak)=>if t16 then R (.tuple #[.pointer none,.I 4]) b else Hl b t 1 λm l n=>Bd (wrap .i64 (num - 1)) l/\aO m λa=> ∃t35,aX b (a.add (toNat (wrap .i64 (num - 1))*1))=some (.pointer t35)/\R (.tuple #[.pointer t35,.I 0]) b) (λj=>if(decide (num<1))then j true H else∃k T i,Cc H t 1 (.slice k T i)/\j (decide (num>((T:Nat):Int))) H)) (λJ=> ∃t13,Cc h t 0 (.bool t13)/\J (!t13) h)):Cl 78 #[.P t 0,.I num] h R:=aR (lq (sq (bq (sq (.join [(6,.one (.bool))] lf) (cq ll (sq (.join [(16,.one (.bool))] lf) (cq ll lf))))) ll)) Tryz.func78 g
theorem vq.walk(g:Cl 78 #[.P t 0,.I num] h λv H=> ∃T b,v=.tuple #[.pointer T,.I b]/\if(b==0)then aO T λa=> ∃t19,aX H (a.add 2)=some (.bool t19)/\R (.bool t19) H else R (.bool false) H):Cl 28 #[.P t 0,.I num] h R:=aR (lq (lq ll)) Tryz.func28 g
theorem vr.walk(g:Hl h t 1 λi T j=> ∃(I:Int->ak->Prop)(m:Int->ak->Nat),I 0 h/\∀(t12:Int)(H:ak),I t12 H->if(decide (t12<(T:Int)))then Bd t12 T/\aO i λa=>Bm H (a.add (toNat t12*1)) λt15=>aO t15 λb=> ∃t19,aX H (b.add 1)=some (.U t19)/\if(t19==token)then R (.pointer t15) H else(I (wrap .i64 (t12+1)) H/\m (wrap .i64 (t12+1)) H<m t12 H)else R (.pointer none) H):Cl 40 #[.P t 0,.U token] h R:=aR (lq (sq (lq (bq (.loop [(12,.one (.int .i64))] (lq (sq (cq lf lf) (sq (bq (lq (lq (cq ll lf)))) lf)))))) ll)) Tryz.func40 g
theorem sy.walk (x:aI (λ(t7:Bool) (a:ak)=>if t7 then R (.tuple #[.I 0,.I 6]) a else aI (λ(t17:Bool) (g:ak)=>if t17 then R (.tuple #[.I 0,.I 1]) g else Cl 40 #[.P t 0,.U token] g λv H=> ∃t27,v=.pointer t27/\if(!t27.isNone)then R (.tuple #[.I 0,.I 12]) H else∃z T y,Cc H t 1 (.slice z T y)/\if(decide (((T:Nat):Int)≥8))then R (.tuple #[.I 0,.I 5]) H else∃D l C,Cc H t 1 (.slice D l C)/\aT H (.cells #[.I (wrap .i64 (((l:Nat):Int)+1)),.U token,.bool true,.bool false,.Z,.Z] 76) λb i=> ∃o n m,Cc i t 1 (.slice o n m)/\aT i (.cells #[.P b 0] 91) λB u=>aU Tryz.prog (Builtin.append_ #[88,88] 88 #[.slice o n m,.slice (Sa B 0) 1 1]) u λV w=> ∃r q p,V=.slice r q p/\aQ w (AA t 1) (.slice r q p) λk=> ∃t58,Cc k b 0 (.I t58)/\R (.tuple #[.I t58,.I 0]) k) (λj=>if(decide (token<1))then j true a else j (decide (token>2147483648)) a)) (λJ=> ∃t14,Cc h t 0 (.bool t14)/\J (!t14) h)):Cl 12 #[.P t 0,.U token] h R:=aR (lq (sq (bq (sq (.join [(7,.one (.bool))] lf) (cq ll (sq (.join [(17,.one (.bool))] lf) (cq ll (lq (cq ll (lq (cq ll lf))))))))) (lq (lq ll)))) Tryz.func12 x
theorem sC.walk(j:Cl 78 #[.P t 0,.I num] h λv H=> ∃T b,v=.tuple #[.pointer T,.I b]/\if(b !=0)then R (.I b) H else aO T λa=> ∃t21,aX H (a.add 2)=some (.bool t21)/\if(!t21)then R (.I 7) H else aO T λg=>aQ H (g.add 2) (.bool false) λi=>R (.I 0) i):Cl 73 #[.P t 0,.I num] h R:=aR (lq (lq (sq (bq (lq (cq ll (lq (cq ll lf))))) (lq ll)))) Tryz.func73 j
theorem sD.walk{w:bZ}{D u:Nat} (Q:aT h (.cells #[.U id] 27) λb L=>Cl 78 #[.P t 0,.I num] L λv H=> ∃T n,v=.tuple #[.pointer T,.I n]/\if(n !=0)then R (.I n) H else aI (λ(t21:Bool) (j:ak)=>if t21 then R (.I 1) j else aO T λa=>oY j (a.add 4) λW V U=>Cl 109 #[.slice W V U,.func (.func 110) #[] #[.P b 0]] j λl' P=>Vl l' λZ Y X=>aO T λB=>aQ P (B.add 4) (.slice Z Y X) λk=>aO T λi=>oY k (i.add 4) λq p o=>Hu k b 0 λt43=>Cl 50 #[.slice w D u] k λm' l=>Vl m' λc' b' a'=>Cc l b 0 (.U t43)/\aX l (i.add 4)=some (.slice q p o)/\aT l (.cells #[.U t43,.slice c' b' a'] 161) λK m=>Cc m b 0 (.U t43)/\aX m (i.add 4)=some (.slice q p o)/\aU Tryz.prog (Builtin.append_ #[74,74] 74 #[.slice q p o,.slice (Sa K 0) 1 1]) m λn' x=>Vl n' λf' e' d'=>Cc x b 0 (.U t43)/\aO T λC=>aQ x (C.add 4) (.slice f' e' d') λg=>aO T λE=>oY g (E.add 4) λq' g' p'=>aI (λ(M:ak)=>R (.I 0) M) (λr=>if(decide ((g':Int)>6))then aO T λG=>oY g (G.add 4) λh' z y=>((0:Int)<=1/\1<=(z:Int))/\Cl 111 #[.slice (cR h' y (toNat 1) 2) (z - (toNat 1)) (y - (toNat 1))] g λo' N=>Vl o' λk' j' i'=>aO T λI=>aQ N (I.add 4) (.slice k' j' i') λO=>r O else r g)) (λJ=> ∃t22,Cc H b 0 (.U t22)/\if(decide (t22>1099511627776))then J true H else J (decide ((D:Int)>1000)) H)):Cl 46 #[.P t 0,.I num,.U id,.slice w D u] h R:=aR (lq (lq (sq (bq (lq (cq ll (sq (.join [(21,.one (.bool))] lf) (cq ll lf))))) (lq (sq (pN 14) (sq (lq (.join [] (cq lf lf))) ll)))))) Tryz.func46 Q
theorem qe.walk(a:aT h (.cells #[.U A,.slice f e d] 161) λb H=>Hu H b 0 λt5=> ∃t6,Cc H c0 0 (.U t6)/\R (.bool (t5==t6)) H):Cl 110 #[.agg #[.U A,.slice f e d],.P c0 0] h R:=aR (lq ll) Tryz.func110 a
theorem sE.walk(q:aT h (.cells #[.U id] 27) λb o=>Cl 78 #[.P t 0,.I num] o λv g=> ∃T i,v=.tuple #[.pointer T,.I i]/\if(i !=0)then R (.tuple #[.Z,.bool false]) g else aO T λa=>oY g (a.add 4) λw u r=>Cl 89 #[.slice w u r,.func (.func 90) #[] #[.P b 0]] g λV H=> ∃t24,V=.I t24/\if(decide (t24<0))then R (.tuple #[.Z,.bool false]) H else aO T λm=>oY H (m.add 4) λy x E=>Bd t24 x/\aO y λn=>oY H ((n.add (toNat t24*2)).add 1) λC B z=>Cl 50 #[.slice C B z] H λD p=> ∃l k j,D=.slice l k j/\R (.tuple #[.slice l k j,.bool true]) p):Cl 42 #[.P t 0,.I num,.U id] h R:=aR (lq (lq (sq (lq (cq ll lf)) (lq (sq (lq (cq ll lf)) ll))))) Tryz.func42 q
theorem qg.walk(a:aT h (.cells #[.U A,.slice f e d] 161) λb H=>Hu H b 0 λt5=> ∃t6,Cc H c0 0 (.U t6)/\R (.bool (t5==t6)) H):Cl 90 #[.agg #[.U A,.slice f e d],.P c0 0] h R:=aR (lq ll) Tryz.func90 a
theorem q7.walk{on:Bool}(j:Cl 78 #[.P t 0,.I num] h λv H=> ∃b T,v=.tuple #[.pointer b,.I T]/\aI (λ(g:ak)=>R (.I T) g) (λJ=>if(T==0)then aO b λa=>aQ H (a.add 3) (.bool on) λi=>J i else J H)):Cl 166 #[.P t 0,.I num,.bool on] h R:=aR (lq (lq (sq (lq (.join [] (cq lf lf))) ll))) Tryz.func166 j
theorem sF.walk(u:Cl 78 #[.P t 0,.I num] h λv b=> ∃T g,v=.tuple #[.pointer T,.I g]/\aI (λ(n:Int) (H:ak)=>if(n==0)then R (.tuple #[.Z,.I 0,.I g]) H else aO T λa=>oY H (a.add 5) λz y L=>Bd 0 y/\aO z λl=>oY H (l.add (toNat 0*1)) λD C B=>aO T λm=>oY H (m.add 5) λE k j=>((0:Int)<=1/\1<=(k:Int))/\Cl 198 #[.slice (cR E j (toNat 1) 1) (k - (toNat 1)) (j - (toNat 1))] H λV q=>Vl V λK I G=>aO T λo=>aQ q (o.add 5) (.slice K I G) λr=>R (.tuple #[.slice D C B,.I n,.I 0]) r) (λJ=>if(g==0)then aO T λp=> ∃x i w,aX b (p.add 5)=some (.slice x i w)/\J ((i:Nat):Int) b else J 0 b)):Cl 167 #[.P t 0,.I num] h R:=aR (lq (lq (lq (sq (lq (.join [(9,.one (.int .i64))] (cq lf lf))) (sq (lq (cq ll lf)) (lq (lq ll))))))) Tryz.func167 u
theorem ie.lK.walk{D:Nat}(x:Cl 89 #[.slice S s c,.func (.func 110) #[] #[.P D 0]] h λv l=> ∃t10,v=.I t10/\if(t10==(-1))then R (.slice S s c) l else∃(I:Int->Int->ak->Prop)(M:Int->Int->ak->Nat),I t10 (wrap .i64 (t10+1)) l/\∀(i:Int)(j:Int)(H:ak),I i j H->if(decide (j<(s:Int)))then aI (λ(o:Int) (m:ak)=>(I o (wrap .i64 (j+1)) m/\M o (wrap .i64 (j+1)) m<M i j H)) (λJ=>Bd j s/\aO S λa=>bW.LD H (a.add (toNat j*2)) λT C B z=>aT H (.cells #[.U 0,.Z] 161) λb q=>bW.ST q (AA b 0) T C B z λn=>bW.LD n (AA b 0) λE L K G=>Cl 110 #[.agg #[.U E,.slice L K G],.P D 0] n λV g=>Vb V λt28=>aI (λ(y:Int) (r:ak)=>J y r) (λk=>if(!t28)then bW.LD g (AA b 0) λN Q P O=>Bd i s/\aO S λp=>bW.ST g (p.add (toNat i*2)) N Q P O λu=>k (wrap .i64 (i+1)) u else k i g))else((0:Int)<=i/\i<=(s:Int))/\aU Tryz.prog (Builtin.clear_ #[74] 0 #[.slice (cR S c (toNat i) 2) (s - (toNat i)) (c - (toNat i))]) H λU w=>U=.tuple #[]/\((0:Int)<=i/\i<=(c:Int))/\R (.slice (cR S c 0 2) ((toNat i) - 0) (c - 0)) w):Cl 109 #[.slice S s c,.func (.func 110) #[] #[.P D 0]] h R:=aR (lq (lq (sq (lq (cq ll lf)) (sq (lq (bq (.loop [(5,.one (.int .i64)),(6,.one (.int .i64))] (sq (lq (cq lf lf)) (sq (.join [(5,.one (.int .i64))] (bq (lq (lq (.join [(5,.one (.int .i64))] (cq ll lf)))))) lf))))) (lq ll))))) Tryz.func109 x
theorem eP.lK.walk(g: ∃(I:Int->ak->Prop)(m:Int->ak->Nat),I 0 h/\∀(t8:Int)(H:ak),I t8 H->if(decide (t8<(s:Int)))then Bd t8 s/\aO S λa=>bW.LD H (a.add (toNat t8*2)) λT k j i=>Cl 110 #[.agg #[.U T,.slice k j i],.P F 0] H λv b=> ∃t16,v=.bool t16/\if t16 then R (.I t8) b else(I (wrap .i64 (t8+1)) b/\m (wrap .i64 (t8+1)) b<m t8 H)else R (.I (-1)) H):Cl 89 #[.slice S s c,.func (.func 110) #[] #[.P F 0]] h R:=aR (lq (sq (lq (bq (.loop [(8,.one (.int .i64))] (lq (sq (cq lf lf) (sq (bq (lq (lq (cq ll lf)))) lf)))))) ll)) Tryz.func89 g
theorem eP.kept.walk(g: ∃(I:Int->ak->Prop)(m:Int->ak->Nat),I 0 h/\∀(t8:Int)(H:ak),I t8 H->if(decide (t8<(s:Int)))then Bd t8 s/\aO S λa=>bW.LD H (a.add (toNat t8*2)) λT k j i=>Cl 90 #[.agg #[.U T,.slice k j i],.P F 0] H λv b=> ∃t16,v=.bool t16/\if t16 then R (.I t8) b else(I (wrap .i64 (t8+1)) b/\m (wrap .i64 (t8+1)) b<m t8 H)else R (.I (-1)) H):Cl 89 #[.slice S s c,.func (.func 90) #[] #[.P F 0]] h R:=aR (lq (sq (lq (bq (.loop [(8,.one (.int .i64))] (lq (sq (cq lf lf) (sq (bq (lq (lq (cq ll lf)))) lf)))))) ll)) Tryz.func89 g
theorem iM.walk(j:if S.isNone then R (.Z) h else aT h (.cells #[] 161) λb H=>aU Tryz.prog (Builtin.append_ #[74,74] 74 #[.slice (Sa b 0) 0 0,.slice S s c]) H λv i=> ∃g a T,v=.slice g a T/\R (.slice g a T) i):Cl 111 #[.slice S s c] h R:=aR (lq (sq (lq (cq ll lf)) ll)) Tryz.func111 j
theorem lY.walk(j:if S.isNone then R (.Z) h else aT h (.cells #[] 22) λb H=>aU Tryz.prog (Builtin.append_ #[64,64] 64 #[.slice (Sa b 0) 0 0,.slice S s c]) H λv i=> ∃g a T,v=.slice g a T/\R (.slice g a T) i):Cl 198 #[.slice S s c] h R:=aR (lq (sq (lq (cq ll lf)) ll)) Tryz.func198 j

end
section
open Go.fk
namespace eE
open hM
variable {h h' u:ak} {t:Nat} {X:Ft} {R:fG} {p q:bZ} {c i:Nat}
structure AV where
 id:Nat
 v:BV
abbrev AV.enc(a:AV):List Value:= [.int .u64 (a.id:Int),a.v.val]
structure SC where
 b:Nat
 num:Nat
 token:Nat
 up:Bool
 watch:Bool
 kept:List AV
 kp:bZ
 kc:Nat
 notes:List BV
 np:bZ
 nc:Nat
structure eE where
 num:Nat
 token:Nat
 up:Bool
 watch:Bool
 kept:List (Nat×cM)
 notes:List (cM)
def AV.abs(a:AV):Nat×cM:=(a.id,a.v.b)
def SC.abs(s:SC):eE:=⟨s.num,s.token,s.up,s.watch,s.kept.map AV.abs,s.notes.map BV.b⟩
theorem vt{α:Type}{l:List α}{i:Nat}{v:α}(h:l[i]? =some v):l.set i v=l:=by
 apply fK
 intro j;rw[di];split
 .rename_i e;subst e;rw[ah (aB.1 h).1,h]
 .rfl
abbrev PC:=Nat->Option Nat
abbrev At(h:ak)(s:SC):Prop:=cG.at h s.b (s.num:Int) (s.token:Int) s.up s.watch s.kp s.kept.length s.kc s.np s.notes.length s.nc
structure Af (h:ak) (d:PC) (D:Nat->Prop) (i:Nat) (s:SC):Prop where
 cX:At h s
 lb:d s.b=some (2+3*i)
 qh:fi h s.kp s.kept.length s.kc 2 (s.kept.flatMap AV.enc)
 kl: ∀c,aL s.kp c->d c=some (3+3*i)
 wH:fi h s.np s.notes.length s.nc 1 (s.notes.flatMap jO)
 nl: ∀c,aL s.np c->d c=some (4+3*i)
 kd: ∀a∈s.kept,a.v.ok h D
 nd: ∀n∈s.notes,n.ok h D
structure oe (h:ak) (t:Nat) (d:PC) (D:Nat->Prop) (L:List SC):Prop where
 cX: ∃p c,h[t]? =some (.cells #[.bool true,.slice p L.length c] 90 (0,0))/\fi h p L.length c 1 (L.map λs=> .pointer (some ⟨s.b,0,none⟩))/\∀x,aL p x->d x=some 1
 O6:d t=some 0
 ses: ∀i s,L[i]? =some s->Af h d D i s
 Ng: ∀c r,d c=some r->c<h.size
 Ee: ∀c,D c->c<h.size
 ap: ∀c r,d c=some r->¬D c
def sH(h:ak)(t:Nat)(X:Ft)(A:List eE)(B:List Nat):Prop:=
 ∃d L,oe h t d X.D L/\L.map SC.abs=A/\L.map SC.b=B/\∀c,X.M c↔ ∃r,d c=some r
def Has(h:ak)(t:Nat)(X:Ft)(A:List eE):Prop:= ∃B,sH h t X A B
variable {d : PC} {D : Nat → Prop} {L : List SC} {A : List eE}
theorem Af.frame{Q:Nat->Prop}{s:SC}(H:Af h d D i s)(f:Fr Q h h')(e: ∀c r,d c=some r->2+3*i<=r->r<=4+3*i->¬Q c)(hd: ∀c,D c->¬Q c):Af h' d D i s:=
 ⟨f.get H.cX (e _ _ H.lb ae ae),H.lb,H.qh.frame f (λc b=>e c _ (H.kl c b) ae ae),H.kl,H.wH.frame f (λc b=>e c _ (H.nl c b) ae ae),H.nl,λa g=>(H.kd a g).frame f hd,λn j=>(H.nd n j).frame f hd⟩
theorem Af.mono{l:PC}{D':Nat->Prop}{s:SC}(H:Af h d D i s)(e: ∀c r,d c=some r->l c=some r)(hd: ∀c,D c->D' c):Af h l D' i s:=
 ⟨H.cX,e _ _ H.lb,H.qh,λc b=>e c _ (H.kl c b),H.wH,λc b=>e c _ (H.nl c b),λa f=>(H.kd a f).mono hd,λn g=>(H.nd n g).mono hd⟩
theorem sH.lt{B:List Nat}(H:sH h t X A B): ∀x,X.M x\/X.D x->x<h.size:=by
 obtain⟨d,L,T,_,_,a⟩:=H;rintro x (e|hd)
 .obtain⟨r,b⟩:=(a x).1 e;exact T.Ng x r b
 .exact T.Ee x hd
theorem sH.wk{B:List Nat}(H:sH h t X A B): ∀x,X.M x->¬X.D x:=by
 obtain⟨d,L,T,_,_,a⟩:=H;intro x e;obtain⟨r,b⟩:=(a x).1 e;exact T.ap x r b
theorem sH.frame{B:List Nat}{Q:Nat->Prop}(H:sH h t X A B)(f:Fr Q h h')(k: ∀x,X.M x\/X.D x->¬Q x):sH h' t X A B:=by
 obtain⟨d,L,T,e,E,g⟩:=H;obtain⟨p,c,l,own,j⟩:=T.cX;have b: ∀c r,d c=some r->¬Q c:=λc r a=>k c (.inl ((g c).2 ⟨r,a⟩))
 refine⟨d,L,⟨⟨p,c,f.get l (b t _ T.O6),own.frame f (λx n=>b x _ (j x n)),j⟩,T.O6,λi s m=>(T.ses i s m).frame f (λc r a _ _=>b c r a) (λc hd=>k c (.inr hd)),?_,?_,T.ap⟩,e,E,g⟩
 .intro c r a;exact cE (T.Ng c r a) f.1
 .intro c hd;exact cE (T.Ee c hd) f.1
theorem Has.lt(H:Has h t X A): ∀x,X.M x\/X.D x->x<h.size:=by obtain⟨B,H⟩:=H;exact H.lt
theorem Has.wk(H:Has h t X A): ∀x,X.M x->¬X.D x:=by obtain⟨B,H⟩:=H;exact H.wk
theorem Has.frame{Q:Nat->Prop}(H:Has h t X A)(f:Fr Q h h')(a: ∀x,X.M x\/X.D x->¬Q x):Has h' t X A:=by obtain⟨B,H⟩:=H;exact⟨B,H.frame f a⟩
open Classical in
theorem oe.Tx{s s':SC}{Q E:Nat->Prop}(T:oe h t d X.D L)(C: ∀c,X.M c↔ ∃r,d c=some r)(y:L[i]? =some s)(B:s'.b=s.b)(f:Fr Q h h')(o: ∀c,Q c->∃r,d c=some r/\2+3*i<=r/\r<=4+3*i)(cX:At h' s')(qh:fi h' s'.kp s'.kept.length s'.kc 2 (s'.kept.flatMap AV.enc))(kn: ∀c,aL s'.kp c->d c=some (3+3*i)\/h.size<=c)(wH:fi h' s'.np s'.notes.length s'.nc 1 (s'.notes.flatMap jO))(U: ∀c,aL s'.np c->d c=some (4+3*i)\/h.size<=c)(N: ∀c,aL s'.kp c->aL s'.np c->False)(w: ∀c,E c->d c=none/\c<h'.size/\¬aL s'.kp c/\¬aL s'.np c)(kd: ∀a∈s'.kept,a.v.ok h' (λc=>X.D c\/E c))(nd: ∀n∈s'.notes,n.ok h' (λc=>X.D c\/E c)):
  ∃v,sH h' t v ((L.map SC.abs).set i s'.abs) (L.map SC.b)/\Fr X.M h h'/\(∀c,v.M c->X.M c\/h.size<=c)/\(∀c,v.D c->X.D c\/E c)/\∀c,X.D c->v.D c:=by
 let z:PC:=λc=>if h.size<=c/\aL s'.kp c then some (3+3*i)else if h.size<=c/\aL s'.np c then some (4+3*i)else d c
 have yG: ∀c r,d c=some r->z c=some r:=λc r H=>by
  have:=T.Ng c r H;show(if h.size<=c/\aL s'.kp c then some (3+3*i)else if h.size<=c/\aL s'.np c then some (4+3*i)else d c)=some r;rw[af (λk=>ae),af (λk=>ae)];exact H
 have new: ∀c r,z c=some r->d c=some r\/(h.size<=c/\(aL s'.kp c\/aL s'.np c)):=λc r H=>by
  have H:(if h.size<=c/\aL s'.kp c then some (3+3*i)else if h.size<=c/\aL s'.np c then some (4+3*i)else d c)=some r:=H;split at H
  .rename_i k;exact .inr ⟨k.1,.inl k.2⟩
  .split at H
   .rename_i k;exact .inr ⟨k.1,.inr k.2⟩
   .exact .inl H
 have S: ∀c,aL s'.kp c\/aL s'.np c->c<h'.size:=λc g=>g.elim (λg=>qh.dw g) (λg=>wH.dw g)
 have hd: ∀c,X.D c->¬Q c:=λc g l=>by obtain⟨r,H,_⟩:=o c l;exact T.ap c r H g
 obtain⟨p,c0,J,own,F⟩:=T.cX;have K:i<L.length:=(aB.1 y).1;have O: ¬Q t:=λl=>by obtain⟨r,H,h1,b⟩:=o t l;rw[T.O6]at H;cases H;omega
 have P: ∀x,aL p x->¬Q x:=λx l M=>by obtain⟨r,H,h1,b⟩:=o x M;rw[F x l]at H;cases H;omega
 have V:(L.set i s').map (λs=>Value.P s.b 0)=L.map (λs=>Value.P s.b 0):=by
  rw[List.map_set,B];exact vt (by rw[aF,y];rfl)
 have I:(L.set i s').map SC.b=L.map SC.b:=by
  rw[List.map_set,B];exact vt (by rw[aF,y];rfl)
 refine⟨⟨λc=> ∃r,z c=some r,λc=>X.D c\/E c⟩,⟨z,L.set i s',⟨⟨p,c0,?_,?_,λx l=>yG x _ (F x l)⟩,yG t 0 T.O6,?_,?_,?_,?_⟩,?_,I,λc=>eU⟩,?_,?_,λc h=>h,λc=> .inl⟩
 .rw[dj];exact f.get J O
 .rw[V,dj];exact own.frame f P
 .intro j W m;rw[di]at m;by_cases e:i=j
  .subst e;rw[ah rfl,ah K]at m;obtain rfl:=bp m;refine⟨cX,?_,qh,λc g=> ?_,wH,λc g=> ?_,kd,nd⟩
   .rw[B];exact yG _ _ (T.ses i s y).lb
   .show(if h.size<=c/\aL s'.kp c then some (3+3*i)else if h.size<=c/\aL s'.np c then some (4+3*i)else d c)=_;rcases kn c g with h1|h1
    .have:=T.Ng c _ h1;rw[af (λk=>ae),af (λk=>ae)];exact h1
    .rw[ah ⟨h1,g⟩]
   .show(if h.size<=c/\aL s'.kp c then some (3+3*i)else if h.size<=c/\aL s'.np c then some (4+3*i)else d c)=_;rw[af (λk=>N c k.2 g)];rcases U c g with h1|h1
    .have:=T.Ng c _ h1;rw[af (λk=>ae)];exact h1
    .rw[ah ⟨h1,g⟩]
  .rw[af e]at m;refine((T.ses j W m).frame f (λc r H h1 b l=> ?_) hd).mono yG (λc=> .inl);obtain⟨r',G,Y,Z⟩:=o c l;rw[H]at G;cases G;omega
 .intro c r H;rcases new c r H with h1|⟨_,h1⟩
  .exact cE (T.Ng c r h1) f.1
  .exact S c h1
 .rintro c (h1|h1)
  .exact cE (T.Ee c h1) f.1
  .exact(w c h1).2.1
 .rintro c r H (h1|h1)
  .rcases new c r H with b|⟨b,_⟩
   .exact T.ap c r b h1
   .have:=T.Ee c h1;omega
  .rcases new c r H with b|⟨_,b⟩
   .rw[(w c h1).1]at b;cases b
   .exact b.elim (w c h1).2.2.1 (w c h1).2.2.2
 .rw[List.map_set]
 .exact f.mono (λc _ l=>by obtain⟨r,H,_⟩:=o c l;exact(C c).2 ⟨r,H⟩)
 .rintro c ⟨r,H⟩;rcases new c r H with b|⟨b,_⟩
  .exact .inl ((C c).2 ⟨r,b⟩)
  .exact .inr b
theorem oe.VM{s s':SC}{Q E:Nat->Prop}(T:oe h t d X.D L)(j: ∀c,X.M c↔ ∃r,d c=some r)(o:L[i]? =some s)(k:s'.b=s.b)(f:Fr Q h h')(m: ∀c,Q c->∃r,d c=some r/\2+3*i<=r/\r<=4+3*i)(cX:At h' s')(qh:fi h' s'.kp s'.kept.length s'.kc 2 (s'.kept.flatMap AV.enc))(kn: ∀c,aL s'.kp c->d c=some (3+3*i)\/h.size<=c)(wH:fi h' s'.np s'.notes.length s'.nc 1 (s'.notes.flatMap jO))(N: ∀c,aL s'.np c->d c=some (4+3*i)\/h.size<=c)(K: ∀c,aL s'.kp c->aL s'.np c->False)(b: ∀c,E c->h.size<=c/\c<h'.size/\¬aL s'.kp c/\¬aL s'.np c)(kd: ∀a∈s'.kept,a.v.ok h' (λc=>X.D c\/E c))(nd: ∀n∈s'.notes,n.ok h' (λc=>X.D c\/E c)):
  ∃x,sH h' t x ((L.map SC.abs).set i s'.abs) (L.map SC.b)/\bN X h x h':=by
 obtain⟨x,e,F,M,g,O⟩:=T.Tx (Q:=Q) (E:=E) j o k f m cX qh kn wH N K (λc H=>⟨by
  cases l:d c with
  |none=>rfl
  |some r=>have:=T.Ng c r l;have:=(b c H).1;omega,(b c H).2⟩) kd nd
 exact⟨x,e,F,M,λc H=>(g c H).imp (λh=>h) (λh=>(b c h).1),O⟩
theorem oe.flag{s s':SC}(T:oe h t d X.D L)(v: ∀c,X.M c↔ ∃r,d c=some r)(m:L[i]? =some s)(y:s'.b=s.b)(hk:s'.kept=s.kept/\s'.kp=s.kp/\s'.kc=s.kc)(j:s'.notes=s.notes/\s'.np=s.np/\s'.nc=s.nc)(cX:At h' s')(B:h'.size=h.size)(z: ∀x,x≠s.b->h'[x]? =h[x]?): ∃l,sH h' t l ((L.map SC.abs).set i s'.abs) (L.map SC.b)/\bN X h l h':=by
 have H:=T.ses i s m;have f:Fr (λx=>x=s.b) h h':=Fr.of_eq B z;have N: ∀c,aL s.kp c->¬c=s.b:=λc g e=>by have k:=H.kl c g;rw[e,H.lb]at k;simp at k
 have C: ∀c,aL s.np c->¬c=s.b:=λc g e=>by have k:=H.nl c g;rw[e,H.lb]at k;simp at k
 have nD: ∀c,X.D c->¬c=s.b:=λc g e=>T.ap c _ (e▸H.lb) g
 refine T.VM (Q:=λx=>x=s.b) (E:=λ_=>False) v m y f (λc e=>⟨_,e▸H.lb,ae,ae⟩) cX ?_ ?_ ?_ ?_ ?_ (λc g=>g.elim) ?_ ?_
 .rw[hk.1,hk.2.1,hk.2.2];exact H.qh.frame f N
 .rw[hk.2.1];exact λc g=> .inl (H.kl c g)
 .rw[j.1,j.2.1,j.2.2];exact H.wH.frame f C
 .rw[j.2.1];exact λc g=> .inl (H.nl c g)
 .rw[hk.2.1,j.2.1];exact λc k o=>by have a:=H.kl c k;have b:=H.nl c o;rw[a]at b;simp at b
 .rw[hk.1];exact λa w=>((H.kd a w).frame f nD).mono (λc=> .inl)
 .rw[j.1];exact λn j=>((H.nd n j).frame f nD).mono (λc=> .inl)
open Classical in
theorem oe.add{s:SC}{p:bZ}{c0:Nat}{Q:Nat->Prop}(T:oe h t d X.D L)(y: ∀c,X.M c↔ ∃r,d c=some r)(f:Fr Q h h')(v: ∀c,Q c->d c=some 0\/d c=some 1)(B:h'[t]? =some (.cells #[.bool true,.slice p (L.length+1) c0] 90 (0,0)))(own:fi h' p (L.length+1) c0 1 (L.map (λs=> .P s.b 0)++ [.P s.b 0]))(C: ∀x,aL p x->d x=some 1\/h.size<=x)(E: ¬aL p s.b)(cX:At h' s)(F:h.size<=s.b)(hk:s.kept= []/\s.kp=none/\s.kc=0)(m:s.notes= []/\s.np=none/\s.nc=0):
  ∃w,sH h' t w (L.map SC.abs++ [s.abs]) (L.map SC.b++ [s.b])/\bN X h w h':=by
 have G:=aE cX
 let n:PC:=λc=>if c=s.b then some (2+3*L.length)else if h.size<=c/\aL p c then some 1 else d c
 have yG: ∀c r,d c=some r->n c=some r:=λc r H=>by
  have:=T.Ng c r H;show(if c=s.b then some (2+3*L.length)else if h.size<=c/\aL p c then some 1 else d c)=some r;rw[af (λk=>ae),af (λk=>ae)];exact H
 have new: ∀c r,n c=some r->d c=some r\/(h.size<=c/\(c=s.b\/aL p c)):=λc r H=>by
  have H:(if c=s.b then some (2+3*L.length)else if h.size<=c/\aL p c then some 1 else d c)=some r:=H;split at H
  .rename_i k;exact .inr ⟨ae,.inl k⟩
  .split at H
   .rename_i k;exact .inr ⟨k.1,.inr k.2⟩
   .exact .inl H
 have hd: ∀c,X.D c->¬Q c:=λc z b=>(v c b).elim (λh1=>T.ap c _ h1 z) (λh1=>T.ap c _ h1 z)
 refine⟨⟨λc=> ∃r,n c=some r,X.D⟩,⟨n,L++ [s],⟨⟨p,c0,?_,?_,?_⟩,yG t 0 T.O6,?_,?_,?_,?_⟩,?_,by rw[aV];rfl,λc=>eU⟩,?_,?_,λc=> .inl,λc=>id⟩
 .rw[ar];exact B
 .rw[ar,aV];exact own
 .intro x b;show(if x=s.b then some (2+3*L.length)else if h.size<=x/\aL p x then some 1 else d x)=some 1;rw[af (λe:x=s.b=>E (e▸b))];rcases C x b with h1|h1
  .have:=T.Ng x _ h1;rw[af (λk=>ae)];exact h1
  .rw[ah ⟨h1,b⟩]
 .intro j S l;by_cases e:j<L.length
  .rw[dc e]at l;refine((T.ses j S l).frame f (λc r H h1 g b=> ?_) hd).mono yG (λc h=>h);rcases v c b with h3|h3
   .rw[H]at h3;cases h3;omega
   .rw[H]at h3;cases h3;omega
  .rw[cY ae]at l;have e2:j=L.length:=by
    have:=(aB.1 l).1;simp at this;omega
   subst e2;simp at l;subst l;refine⟨cX,?_,?_,?_,?_,?_,?_,?_⟩
   .show(if s.b=s.b then some (2+3*L.length)else _)=_;rw[ah rfl]
   .rw[hk.1,hk.2.1,hk.2.2];exact .nil rfl rfl rfl rfl
   .rw[hk.2.1];rintro c ⟨a,e,_⟩;cases e
   .rw[m.1,m.2.1,m.2.2];exact .nil rfl rfl rfl rfl
   .rw[m.2.1];rintro c ⟨a,e,_⟩;cases e
   .rw[hk.1];intro a o;cases o
   .rw[m.1];intro a o;cases o
 .intro c r H;rcases new c r H with h1|⟨_,h1|h1⟩
  .exact cE (T.Ng c r h1) f.1
  .omega
  .exact own.dw h1
 .intro c h1;exact cE (T.Ee c h1) f.1
 .intro c r H h1;rcases new c r H with g|⟨g,_⟩
  .exact T.ap c r g h1
  .have:=T.Ee c h1;omega
 .rw[aV];rfl
 .exact f.mono (λc _ b=>(y c).2 ((v c b).elim (λh1=>⟨_,h1⟩) (λh1=>⟨_,h1⟩)))
 .rintro c ⟨r,H⟩;rcases new c r H with g|⟨g,_⟩
  .exact .inl ((y c).2 ⟨r,g⟩)
  .exact .inr g
theorem tA:nW Tryz.prog 74 161 2 32 (.agg #[.U 0,.Z]):=⟨cZ,cZ,rfl⟩
theorem uA:Tryz.prog.underlying 74=some (.slice 161):=cZ
theorem gA(a:AV):a.enc.length=2:=rfl
theorem Nh(xs:List AV): ∀v∈xs.flatMap AV.enc,fX v=true:=by
 intro v b;obtain⟨a,_,H⟩:=List.mem_flatMap.1 b;simp at H;rcases H with rfl|rfl<;>rfl
theorem KR{xs:List AV}{n m:Nat}(H:Row h p (xs.flatMap AV.enc))(j:n=xs.length)(k:xs.length<=1000000000)(hk: ∀P C h',fi h' P xs.length C 2 (xs.flatMap AV.enc)->Fr No h h'->(∀x,aL P x->h.size<=x)->R (.slice P xs.length C) h'):
  Cl 111 #[.slice p n m] h R:=by
 subst j;refine iM.walk ?_;cases p with
 |none=>
  have:xs= []:=by
   rcases H with H|⟨a,e,_⟩
   .cases xs with
    |nil=>rfl
    |cons b bs=>cases H
   .cases e
  subst this;exact hk none 0 h (.nil rfl rfl rfl rfl) (Fr.refl _ _) (λx ⟨a,e,_⟩=>by cases e)
 |some a=>
  simp only[Option.isNone_some,au,aM];exact wg tA uA H (eO AV.enc 2 gA xs) (Nh xs) ae ae λP C h' o f g=>⟨_,_,_,rfl,hk P C h' o f g⟩
theorem KS{xs:List BV}{n m:Nat}(H:Row h p (xs.flatMap jO))(j:n=xs.length)(k:xs.length<=1000000000)(hk: ∀P C h',fi h' P xs.length C 1 (xs.flatMap jO)->Fr No h h'->(∀x,aL P x->h.size<=x)->R (.slice P xs.length C) h'):
  Cl 198 #[.slice p n m] h R:=by
 subst j;refine lY.walk ?_;cases p with
 |none=>
  have:xs= []:=by
   rcases H with H|⟨a,e,_⟩
   .cases xs with
    |nil=>rfl
    |cons b bs=>cases H
   .cases e
  subst this;exact hk none 0 h (.nil rfl rfl rfl rfl) (Fr.refl _ _) (λx ⟨a,e,_⟩=>by cases e)
 |some a=>
  simp only[Option.isNone_some,au,aM];exact wg tN uN H (eO jO 1 jX xs) (zT xs) ae ae λP C h' o f g=>⟨_,_,_,rfl,hk P C h' o f g⟩
abbrev re(h:ak)(b:Nat)(id:Nat):Prop:=h[b]? =some (.cells #[.int .u64 (id:Int)] 27 (0,0))
def yh(xs:List AV)(id:Nat):Int:=match xs.findIdx? (λa=>decide (a.id=id))with|some k=>(k:Int)|none=> -1
theorem Fi{b id:Nat}(a:AV)(hid:re h b id)(hk: iq h R (.bool (decide (a.id=id)))):Cl 110 #[.agg #[.U (a.id:Int),a.v.val],.P b 0] h R:=by
 refine qe.walk (bW.box λb1 H E f f1=>⟨_,aq f,_,aq (f1.get hid (λx=>x)),?_⟩);have e:((a.id:Int)==(id:Int))=decide (a.id=id):=by
  by_cases q:a.id=id
  .simp[q]
  .have: ¬(a.id:Int)=(id:Int):=ae
   simp[q,this]
 rw[e];exact hk H f1
theorem Hn{xs:List AV}{n m b id:Nat}(z:Row h p (xs.flatMap AV.enc))(y:n=xs.length)(F:xs.length<=1000000000)(hid:re h b id)(hk: iq h R (.I (yh xs id))):
  Cl 89 #[.slice p n m,.func (.func 110) #[] #[.P b 0]] h R:=by
 subst y;refine eP.lK.walk ?_;refine⟨λi h'=>Fr No h h'/\∃k:Nat,i=(k:Int)/\k<=xs.length/\∀j (H:j<xs.length),j<k->xs[j].id≠id,λi _=>xs.length - i.toNat,⟨Fr.refl _ _,0,rfl,ae,λj _ H=>ae⟩,?_⟩;rintro _ g ⟨f1,k,rfl,E,f⟩;have r:=z.frame f1 (λ_ _ x=>x);have w:re g b id:=f1.get hid (λx=>x);by_cases o:k<xs.length
 .have q1:(k:Int)<(xs.length:Int):=ae
  simp only[q1,bt,bg,aC];have B:xs[k]? =some xs[k]:=aj o;obtain⟨a,rfl⟩:=r.some (λe=>by have:=bP List.length e;rw[eO AV.enc 2 gA,bw]at this;omega);refine⟨⟨ae,by first|trivial|omega⟩,az.2 (bW.wm (r.fI gA B) ?_)⟩;refine Fi xs[k] w λs f2=>⟨_,rfl,?_⟩
  by_cases e:xs[k].id=id
  .simp only[e,bt,bg];have:yh xs id=(k:Int):=by
    unfold yh;have:xs.findIdx? (λa=>decide (a.id=id))=some k:=by
     rw[cN];exact⟨o,cH e,λj H=>by simpa using f j ae H⟩
    rw[this]
   rw[this]at hk;exact hk s (f1.tt f2)
  .simp only[e,bf,au,aM];rw[bB ae ae];refine⟨⟨f1.tt f2,k+1,ae,ae,λj H C=> ?_⟩,?_⟩
   .by_cases q:j=k
    .subst q;exact e
    .exact f j H ae
   .show xs.length - Int.toNat ((k:Int)+1)<xs.length - Int.toNat (k:Int);omega
 .have q1: ¬(k:Int)<(xs.length:Int):=ae
  simp only[q1,bf,au,aM];have:yh xs id= -1:=by
   unfold yh;have:xs.findIdx? (λa=>decide (a.id=id))=none:=by
    rw[dB];intro a v;obtain⟨j,H⟩:=bK v;have l:=(aB.1 H).1;rw[aj l]at H;obtain rfl:=bp H;simpa using f j l ae
   rw[this]
  rw[this]at hk;exact hk g f1
theorem Ni{b id:Nat}(a:AV)(hid:re h b id)(hk: iq h R (.bool (decide (a.id=id)))):Cl 90 #[.agg #[.U (a.id:Int),a.v.val],.P b 0] h R:=by
 refine qg.walk (bW.box λb1 H E f f1=>⟨_,aq f,_,aq (f1.get hid (λx=>x)),?_⟩);have e:((a.id:Int)==(id:Int))=decide (a.id=id):=by
  by_cases q:a.id=id
  .simp[q]
  .have: ¬(a.id:Int)=(id:Int):=ae
   simp[q,this]
 rw[e];exact hk H f1
theorem Ho{xs:List AV}{n m b id:Nat}(z:Row h p (xs.flatMap AV.enc))(y:n=xs.length)(F:xs.length<=1000000000)(hid:re h b id)(hk: iq h R (.I (yh xs id))):
  Cl 89 #[.slice p n m,.func (.func 90) #[] #[.P b 0]] h R:=by
 subst y;refine eP.kept.walk ?_;refine⟨λi h'=>Fr No h h'/\∃k:Nat,i=(k:Int)/\k<=xs.length/\∀j (H:j<xs.length),j<k->xs[j].id≠id,λi _=>xs.length - i.toNat,⟨Fr.refl _ _,0,rfl,ae,λj _ H=>ae⟩,?_⟩;rintro _ g ⟨f1,k,rfl,E,f⟩;have r:=z.frame f1 (λ_ _ x=>x);have w:re g b id:=f1.get hid (λx=>x);by_cases o:k<xs.length
 .have q1:(k:Int)<(xs.length:Int):=ae
  simp only[q1,bt,bg,aC];have B:xs[k]? =some xs[k]:=aj o;obtain⟨a,rfl⟩:=r.some (λe=>by have:=bP List.length e;rw[eO AV.enc 2 gA,bw]at this;omega);refine⟨⟨ae,by first|trivial|omega⟩,az.2 (bW.wm (r.fI gA B) ?_)⟩;refine Ni xs[k] w λs f2=>⟨_,rfl,?_⟩
  by_cases e:xs[k].id=id
  .simp only[e,bt,bg];have:yh xs id=(k:Int):=by
    unfold yh;have:xs.findIdx? (λa=>decide (a.id=id))=some k:=by
     rw[cN];exact⟨o,cH e,λj H=>by simpa using f j ae H⟩
    rw[this]
   rw[this]at hk;exact hk s (f1.tt f2)
  .simp only[e,bf,au,aM];rw[bB ae ae];refine⟨⟨f1.tt f2,k+1,ae,ae,λj H C=> ?_⟩,?_⟩
   .by_cases q:j=k
    .subst q;exact e
    .exact f j H ae
   .show xs.length - Int.toNat ((k:Int)+1)<xs.length - Int.toNat (k:Int);omega
 .have q1: ¬(k:Int)<(xs.length:Int):=ae
  simp only[q1,bf,au,aM];have:yh xs id= -1:=by
   unfold yh;have:xs.findIdx? (λa=>decide (a.id=id))=none:=by
    rw[dB];intro a v;obtain⟨j,H⟩:=bK v;have l:=(aB.1 H).1;rw[aj l]at H;obtain rfl:=bp H;simpa using f j l ae
   rw[this]
  rw[this]at hk;exact hk g f1
def qX(u:ak)(p:bZ)(cap b id:Nat)(xs:List AV)(i j:Int)(h:ak):Prop:=
 ∃(a k:Nat)(zs:List AV),i=(a:Int)/\j=(k:Int)/\a<k/\k<=xs.length/\zs.length=xs.length/\zs.take a=(xs.take k).filter (λx=>decide (x.id≠id))/\zs.drop k=xs.drop k/\fi h p xs.length cap 2 (zs.flatMap AV.enc)/\Fr (aL p) u h/\re h b id
theorem Hq{xs:List AV}{cap b id n:Nat}(own:fi h p xs.length cap 2 (xs.flatMap AV.enc))(hn:n=xs.length)(hl:xs.length<=1000000000)(hid:re h b id)(J: ¬aL p b)(hk: ∀h',fi h' p (xs.filter (λx=>decide (x.id≠id))).length cap 2 ((xs.filter (λx=>decide (x.id≠id))).flatMap AV.enc)->Fr (aL p) h h'->re h' b id->R (.slice p (xs.filter (λx=>decide (x.id≠id))).length cap) h'):
  Cl 109 #[.slice p n cap,.func (.func 110) #[] #[.P b 0]] h R:=by
 subst hn;refine ie.lK.walk (Hn own.iJ rfl hl hid λg f1=>⟨_,rfl,?_⟩);have Sf:=own.frame f1 (λ_ _ x=>x);have r:re g b id:=f1.get hid (λx=>x);have F:Fr (aL p) h g:=f1.mono (λ_ _=>False.elim);unfold yh;cases m:xs.findIdx? (λa=>decide (a.id=id))with
 |none=>
  rw[ah (by rfl)];have e':xs.filter (λx=>decide (x.id≠id))=xs:=by
   rw[cB];intro a l;have:=dB.1 m a l;simpa using this
  rw[e']at hk;exact hk g Sf F r
 |some k=>
  dsimp only;rw[af (by simp only[dp];omega)];obtain⟨S,w,Q⟩:=cN.1 m;rw[bB ae ae];have T:(xs.take (k+1)).filter (λx=>decide (x.id≠id))=xs.take k:=by
   rw[bm,aj S,fQ];have e1:(xs.take k).filter (λx=>decide (x.id≠id))=xs.take k:=by
    rw[cB];intro a l;obtain⟨j,H⟩:=bK l;rw[db]at H;split at H
    .rename_i g';have s:j<xs.length:=ae
     rw[aj s]at H;obtain rfl:=bp H;simpa using Q j g'
    .cases H
   have e2: [xs[k]].filter (λx=>decide (x.id≠id))= []:=by
    simp at w;simp[w]
   rw[e1];show xs.take k++ [xs[k]].filter (λx=>decide (x.id≠id))=_;rw[e2,List.append_nil]
  refine⟨qX h p cap b id xs,λ_ j _=>xs.length - j.toNat,⟨k,k+1,xs,rfl,ae,ae,ae,rfl,T.symm,rfl,Sf,F,r⟩,?_⟩;clear Sf r F f1 T Q w S m;rintro _ _ h2 ⟨a,j,zs,rfl,rfl,p',q',W,f,y,o,z,N⟩;by_cases s:j<xs.length
  .have q1:(j:Int)<(xs.length:Int):=ae
   simp only[q1,bt,bg,aC];have V:xs[j]? =some xs[j]:=aj s;have j':zs[j]? =some xs[j]:=by
    have:=bP (·[0]?) y;simpa[V]using this
   have E:(xs.take (j+1)).filter (λx=>decide (x.id≠id))=(xs.take j).filter (λx=>decide (x.id≠id))++if xs[j].id=id then []else [xs[j]]:=by
    rw[bm,V,fQ];congr 1
    by_cases e:xs[j].id=id<;>simp[e]
   generalize xs[j]=x at*;obtain⟨ab,b',rfl⟩:=o.addr ae;refine aI.of λn' G=>⟨⟨ae,by first|trivial|omega⟩,az.2 (bW.wm (o.fI gA j') (bW.new λb6 h6 o' K f6=>bW.ld K ?_))⟩
   have O:re h6 b id:=f6.get N (λx=>x);refine Fi x O λC f7=>⟨_,rfl,?_⟩
   have f27:=f6.tt f7;have a':=o.frame f27 (λ_ _ x=>x);have P:re C b id:=f7.get O (λx=>x);have B:=z.on f27;refine aI.of λJ1 d'=> ?_
   subst d';by_cases e:x.id=id
   .simp only[e,bt,dh,au,aM];subst G;rw[bB ae ae];rw[ah e,List.append_nil]at E;refine⟨⟨a,j+1,zs,rfl,ae,ae,ae,W,by rw[E];exact f,?_,a',B,P⟩,?_⟩
    .have:=bP (List.drop 1) y;rw[List.drop_drop,List.drop_drop]at this;exact this
    .show xs.length - Int.toNat ((j:Int)+1)<xs.length - Int.toNat (j:Int);omega
   .simp only[e,bf,eL,bg];have f':=f7.get K (λx=>x);rw[af e]at E;refine bW.ld f' ⟨⟨ae,by first|trivial|omega⟩,az.2 ?_⟩;have I:a<zs.length:=ae
    have M:=eO AV.enc 2 gA zs;refine a'.store (by rw[M];omega) λh9 l' s9 o9=> ?_
    rw[add_add];refine l'.store (by rw[dj,M];omega) λc' Y m' k'=> ?_
    rw[Kv gA I rfl]at Y;subst G;rw[bB ae ae,bB ae ae];have f10:Fr (aL (Sa ab b')) C c':=(Fr.of_eq s9 o9).tt (Fr.of_eq m' k');refine⟨⟨a+1,j+1,zs.set a x,ae,ae,ae,ae,by rw[dj];exact W,?_,?_,Y,B.tt f10,f10.get P J⟩,?_⟩
    .rw[E,<-f,bm,di,ah rfl,ah I,List.take_set_of_le (bn a)];rfl
    .rw[List.drop_set_of_lt ae];have:=bP (List.drop 1) y;rw[List.drop_drop,List.drop_drop]at this;exact this
    .show xs.length - Int.toNat ((j:Int)+1)<xs.length - Int.toNat (j:Int);omega
  .have q1: ¬(j:Int)<(xs.length:Int):=ae
   simp only[q1,bf,au,aM];obtain rfl:j=xs.length:=ae
   rw[dZ]at f;have i':(xs.filter (λx=>decide (x.id≠id))).length=a:=by rw[<-f,bC];omega
   refine⟨ae,?_⟩;simp only[aC];refine B2 tA (by intro v U;simp[Value.cells]at U;rcases U with rfl|rfl<;>rfl) o ae λh3 Z f3=>⟨rfl,⟨ae,bR own.le⟩,?_⟩
   rw[mz AV.enc 2 gA,f]at Z;rw[iE,Nat.sub_zero,Nat.sub_zero];rw[i']at hk;exact hk h3 Z (z.tt f3) (f3.get N J)
end eE
end
section
namespace eE
variable {A:List eE} {num:Int} {s s':eE} {i:Nat}
structure pj (i:Nat) (s:eE):Prop where
 num:s.num=i+1
 tk:1<=s.token/\s.token<=2147483648
 kl:s.kept.length<=6
 nl:s.notes.length<=6
 kd: ∀a∈s.kept,a.1<=1099511627776/\a.2.length<=1000
 nd: ∀n∈s.notes,1<=n.length/\n.length<=600
 ki:(s.kept.map (·.1)).Nodup
structure ox (A:List eE):Prop where
 le:A.length<=8
 at_: ∀i s,A[i]? =some s->pj i s
 tk:(A.map (·.token)).Nodup
def jd(A:List eE)(num:Int):Option eE:=if 1<=num then A[(num - 1).toNat]? else none
theorem kZ(h:jd A num=some s): ∃i:Nat,num=(i:Int)+1/\A[i]? =some s:=by
 unfold jd at h;split at h
 .exact⟨(num - 1).toNat,ae,h⟩
 .cases h
theorem rZ :jd A ((i:Int)+1)=A[i]? :=by
 unfold jd;rw[gh,show((i:Int)+1 - 1).toNat=i by omega]
theorem mB(h:num<1\/num>(A.length:Int)):jd A num=none:=by
 unfold jd;split
 .rw[dI ae]
 .rfl
def ku(A:List eE)(num:Int)(s:eE):List eE:=A.set (num - 1).toNat s
def yi(A:List eE)(num:Int):Bool:=match jd A num with|some s=>s.up|none=>false
def Fj(A:List eE)(token:Nat):Bool:=A.any λs=>decide (s.token=token)
def pT(A:List eE)(token:Nat):Int:=if token<1\/token>2147483648 then 1 else if Fj A token=true then 12 else if A.length≥8 then 5 else 0
def Rx(A:List eE)(token:Nat):Int:=if pT A token=0 then(A.length:Int)+1 else 0
def kj(A:List eE)(token:Nat):List eE:=if pT A token=0 then A++ [⟨A.length+1,token,true,false, [], []⟩]else A
def Ry(A:List eE)(num:Int):Int:=match jd A num with|none=>4|some s=>if s.up=true then 0 else 7
def rh(A:List eE)(num:Int):List eE:=match jd A num with|none=>A|some s=>if s.up=true then ku A num { s with up:=false } else A
def gV(k:List (Nat×cM))(id:Nat)(d:cM):List (Nat×cM):=
 if(k.filter (λa=>decide (a.1≠id))++ [(id,d)]).length>6 then(k.filter (λa=>decide (a.1≠id))++ [(id,d)]).drop 1 else k.filter (λa=>decide (a.1≠id))++ [(id,d)]
def Nj(A:List eE)(num:Int)(id:Nat)(d:cM):Int:=match jd A num with|none=>4|some _=>if id>1099511627776\/d.length>1000 then 1 else 0
def jz(A:List eE)(num:Int)(id:Nat)(d:cM):List eE:=match jd A num with|none=>A|some s=>if id>1099511627776\/d.length>1000 then A else ku A num { s with kept:=gV s.kept id d }
def pU(k:List (Nat×cM))(id:Nat):Option (cM):=(k.find? (λa=>decide (a.1=id))).map (·.2)
def lL(A:List eE)(num:Int)(id:Nat):Option (cM):=match jd A num with|none=>none|some s=>pU s.kept id
def uh(A:List eE)(num:Int):Int:=match jd A num with|none=>4|some _=>0
def iB(A:List eE)(num:Int)(on:Bool):List eE:=match jd A num with|none=>A|some s=>ku A num { s with watch:=on }
def Jk(A:List eE)(num:Int):Int:=match jd A num with|none=>4|some _=>0
def Fk(A:List eE)(num:Int):Int:=match jd A num with|none=>0|some s=>(s.notes.length:Int)
def Ag(A:List eE)(num:Int):cM:=match jd A num with|none=> []|some s=>s.notes.headD []
def sU(A:List eE)(num:Int):List eE:=match jd A num with|none=>A|some s=>ku A num { s with notes:=s.notes.drop 1 }
theorem ox.set(ok:ox A)(H:A[i]? =some s)(b:s'.token=s.token)(h':pj i s'):ox (A.set i s'):=by
 have a:=(aB.1 H).1;refine⟨by rw[dj];exact ok.le,λj u h=> ?_,?_⟩
 .rw[di]at h;by_cases e:i=j
  .subst e;rw[ah rfl,ah a]at h;obtain rfl:=bp h;exact h'
  .rw[af e]at h;exact ok.at_ j u h
 .rw[List.map_set,b,vt (by rw[aF,H];rfl)];exact ok.tk
theorem ox.ku(ok:ox A)(H:jd A num=some s)(a:s'.token=s.token)(h': ∀i,pj i s->pj i s'):ox (ku A num s'):=by
 obtain⟨i,rfl,h⟩:=kZ H;unfold eE.ku;rw[show((i:Int)+1 - 1).toNat=i by omega];exact ok.set h a (h' i (ok.at_ i s h))
theorem ox.open(ok:ox A)(token:Nat):ox (kj A token):=by
 unfold kj;split
 .rename_i h;unfold pT at h;split at h
  .cases h
  rename_i k;split at h
  .cases h
  rename_i d;split at h
  .cases h
  rename_i l;refine⟨by rw[ar,dG];omega,λj u H=> ?_,?_⟩
  .by_cases e:j<A.length
   .rw[dc e]at H;exact ok.at_ j u H
   .rw[cY ae]at H;have e2:j=A.length:=by
     have:=(aB.1 H).1;simp at this;omega
    subst e2;simp at H;subst H;exact⟨rfl,by show 1<=token/\token<=2147483648;omega,bQ,bQ,bQ,bQ,bQ⟩
  .rw[aV,eY];refine⟨ok.tk,bQ,λa f b c e=> ?_⟩;simp at c;subst c;subst e;apply d
   unfold Fj;rw[List.any_eq_true];obtain⟨s,g,e⟩:=bj.1 f;exact⟨s,g,cH e⟩
 .exact ok
theorem ox.down(ok:ox A)(num:Int):ox (rh A num):=by
 unfold rh;split
 .exact ok
 .rename_i s h;split
  .exact ok.ku h rfl λi o=>⟨o.num,o.tk,o.kl,o.nl,o.kd,o.nd,o.ki⟩
  .exact ok
theorem Nk{k:List (Nat×cM)}{id:Nat}{d:cM}(hk:k.length<=6)(j: ∀a∈k,a.1<=1099511627776/\a.2.length<=1000)(l:(k.map (·.1)).Nodup)(f:id<=1099511627776)(g:d.length<=1000):
  (gV k id d).length<=6/\(∀a∈gV k id d,a.1<=1099511627776/\a.2.length<=1000)/\((gV k id d).map (·.1)).Nodup:=by
 have n:(k.filter (λa=>decide (a.1≠id))++ [(id,d)]).length<=7:=by
  have:=cC (λa=>decide (a.1≠id)) k;rw[ar,dG];omega
 have h: ∀a∈k.filter (λa=>decide (a.1≠id))++ [(id,d)],a.1<=1099511627776/\a.2.length<=1000:=by
  intro a ha;rcases bz.1 ha with ha|ha
  .exact j a (ba.1 ha).1
  .simp at ha;subst ha;exact⟨f,g⟩
 have c:((k.filter (λa=>decide (a.1≠id))++ [(id,d)]).map (·.1)).Nodup:=by
  rw[aV,eY];refine⟨(cU.map _).nodup l,bQ,λa ha b H e=> ?_⟩;simp at H;subst H;subst e;obtain⟨x,m,e⟩:=bj.1 ha;have:=(ba.1 m).2;simp at this;exact this e
 unfold gV;split
 .refine⟨by rw[bX];omega,λa ha=>h a (List.mem_of_mem_drop ha),?_⟩;rw[List.map_drop];exact(List.drop_sublist _ _).nodup c
 .exact⟨ae,h,c⟩
theorem ox.lK(ok:ox A)(num:Int)(id:Nat)(d:cM):ox (jz A num id d):=by
 unfold jz;split
 .exact ok
 .rename_i s h;split
  .exact ok
  .rename_i H;refine ok.ku h rfl λi o=> ?_
   obtain⟨k,K,a⟩:=Nk (id:=id) (d:=d) o.kl o.kd o.ki ae ae;exact⟨o.num,o.tk,k,o.nl,K,o.nd,a⟩
theorem ox.watch(ok:ox A)(num:Int)(on:Bool):ox (iB A num on):=by
 unfold iB;split
 .exact ok
 .rename_i s h;exact ok.ku h rfl λi o=>⟨o.num,o.tk,o.kl,o.nl,o.kd,o.nd,o.ki⟩
theorem ox.read(ok:ox A)(num:Int):ox (sU A num):=by
 unfold sU;split
 .exact ok
 .rename_i s H;refine ok.ku H rfl λi o=>⟨o.num,o.tk,o.kl,?_,o.kd,λn h=>o.nd n (List.mem_of_mem_drop h),o.ki⟩
  have:=o.nl;rw[bX];omega
theorem ox.nil:ox []:=⟨bQ,bQ,bQ⟩

end eE
end
section
open Go.fk
namespace eE
open hM
variable {h h':ak} {t:Nat} {X:Ft} {R:fG} {p q:bZ} {c i:Nat} {PD:PC} {D:Nat→Prop} {L:List SC} {A:List eE}
variable {num:Int}
theorem tP:nW Tryz.prog 88 91 1 8 (.pointer none):=⟨cZ,cZ,rfl⟩
theorem uP:Tryz.prog.underlying 88=some (.slice 91):=cZ
theorem gu(hk: ∀h' t X,Has h' t X []->Fr No h h'->(∀x,X.M x\/X.D x->h.size<=x)->R (.P t 0) h'):Cl 35 #[] h R:=by
 refine Ds.walk (cI ?_);refine hk _ _ ⟨λx=>x=h.size,λ_=>False⟩ ⟨[],λx=>if x=h.size then some 0 else none, [],⟨⟨none,0,bV,.nil rfl rfl rfl rfl,λx ⟨a,e,_⟩=>by cases e⟩,bQ,λi s b=>by simp at b,?_,λ_ h=>h.elim,λ_ _ _ h=>h⟩,rfl,rfl,?_⟩ (Fr.push _ _) (λx d=>d.elim (λe=>by have e:x=h.size:=e;omega) False.elim)
 .intro x r H;split at H
  .rename_i e;rw[du];omega
  .cases H
 .intro x;constructor
  .intro e;have e:x=h.size:=e;exact⟨0,by simp[e]⟩
  .rintro⟨r,H⟩;dsimp only at H;split at H
   .assumption
   .cases H
theorem jc(T:oe h t PD D L)(K: ∀i s,num=((i:Nat):Int)+1->L[i]? =some s->R (.tuple #[.P s.b 0,.I 0]) h)(k:(num<1\/num>(L.length:Int))->R (.tuple #[.pointer none,.I 4]) h)(m:L.length<=1000000):
  Cl 78 #[.P t 0,.I num] h R:=by
 obtain⟨p,c,d,own,n⟩:=T.cX;refine sw.walk (aI.of λJ H=>⟨true,aq d,?_⟩);subst H;simp only[dh,au,aM];refine aI.of λJ H=> ?_
 by_cases a:num<1
 .simp only[a,bt,bg];subst H;simp only[bg];exact k (.inl a)
 .simp only[a,bf,au,aM];refine⟨_,_,_,aq d,?_⟩;by_cases b:num>(L.length:Int)
  .simp only[b,bt];subst H;simp only[bg];exact k (.inr b)
  .simp only[b,bf];subst H;simp only[au,aM];obtain⟨i,rfl⟩: ∃i:Nat,num=(i:Int)+1:=⟨(num - 1).toNat,ae⟩;have g:i<L.length:=ae
   have f:L[i]? =some L[i]:=aj g;obtain⟨j,l,rfl⟩:=own.addr ae;have e:IntKind.wrap .i64 ((i:Int)+1 - 1)=(i:Int):=by rw[bB ae ae];omega
   rw[e];refine⟨_,_,_,aq d,ae,az.2 ⟨_,?_,K i _ rfl f⟩⟩;rw[aC,cp];exact own.cell (by rw[aF,f];rfl)
theorem Cs{k:Int}(token:Nat)(o:k=(token:Int))(T:oe h t PD D L)(z:L.length<=1000000)(K: ∀i s,L[i]? =some s->s.token=token->L.findIdx? (λs=>decide (s.token=token))=some i->R (.P s.b 0) h)(r:L.findIdx? (λs=>decide (s.token=token))=none->R (.pointer none) h):Cl 40 #[.P t 0,.U k] h R:=by
 subst o;obtain⟨p,c,n,own,B⟩:=T.cX;refine vr.walk ⟨_,_,_,aq n,?_⟩;refine⟨λi h'=>h'=h/\∃k:Nat,i=(k:Int)/\k<=L.length/\∀j (H:j<L.length),j<k->L[j].token≠token,λi _=>L.length - i.toNat,⟨rfl,0,rfl,ae,λj _ H=>ae⟩,?_⟩;rintro _ w ⟨rfl,k,rfl,y,b⟩;by_cases g:k<L.length
 .have q1:(k:Int)<(L.length:Int):=ae
  simp only[q1,bt,bg,aC];have d:L[k]? =some L[k]:=aj g;obtain⟨u,v,rfl⟩:=own.addr ae;have m:=(T.ses k _ d).cX;refine⟨⟨ae,by first|trivial|omega⟩,az.2 ⟨some ⟨L[k].b,0,none⟩,?_,az.2 ⟨_,aq m,?_⟩⟩⟩
  .rw[cp];exact own.cell (by rw[aF,d];rfl)
  by_cases e:L[k].token=token
  .rw[ah (by rw[e];simp)];refine K k _ d e ?_;rw[cN];exact⟨g,cH e,λj H=>by simpa using b j ae H⟩
  .rw[af (by simp only[dp];omega)];rw[bB ae ae];refine⟨⟨trivial,k+1,ae,ae,λj H x=> ?_⟩,?_⟩
   .by_cases q:j=k
    .subst q;exact e
    .exact b j H ae
   .show L.length - Int.toNat ((k:Int)+1)<L.length - Int.toNat (k:Int);omega
 .have q1: ¬(k:Int)<(L.length:Int):=ae
  simp only[q1,bf,au,aM];refine r ?_;rw[dB];intro a l;obtain⟨j,H⟩:=bK l;have f:=(aB.1 H).1;rw[aj f]at H;obtain rfl:=bp H;simpa using b j f ae
theorem mR{s:SC}(H:L[i]? =some s):(L.map SC.abs)[i]? =some s.abs:=by rw[aF,H];rfl
theorem Fe(H:Has h t X A)(ok:ox A)(hk:R (.bool (yi A num)) h):Cl 28 #[.P t 0,.I num] h R:=by
 obtain⟨_,PD,L,T,rfl,_,f⟩:=H;have b:=ok.le;rw[aA]at b;unfold yi at hk;refine vq.walk (jc T (λi s e a=>⟨_,_,rfl,?_⟩) (λd=>⟨_,_,rfl,?_⟩) ae)
 .rw[ah (by rfl)];subst e;rw[rZ,mR a]at hk;exact az.2 ⟨_,cK (T.ses i s a).cX rfl,hk⟩
 .rw[af bQ];rw[mB (by rw[aA];exact d)]at hk;exact hk
theorem nN {k : Int} (token : Nat) (Ya : k = (token : Int)) (H : Has h t X A) (ok : ox A) (hk : ∀ h' X', Has h' t X' (kj A token) → bN X h X' h' → R (.tuple #[.int .i64 (Rx A token), .int .i64 (pT A token)]) h') :
    Cl 12 #[.pointer (some ⟨t, 0, none⟩), .int .u64 k] h R := by
  subst Ya
  have H0 := H
  obtain ⟨_, PD, L, TB, rfl, _, hS⟩ := H
  have hl := ok.le
  rw [List.length_map] at hl
  obtain ⟨p, c, hb, own, hp⟩ := TB.cX
  refine sy.walk (aI.of λJ hJ => ⟨true, cK hb rfl, ?_⟩)
  subst hJ
  simp only [Bool.not_true, Bool.false_eq_true, if_false]
  refine aI.of λJ hJ => ?_
  unfold Rx kj at hk
  have jt : (token < 1 ∨ token > 2147483648) → J true h := by
    intro hh
    subst hJ
    simp only [if_true]
    have e : pT (L.map SC.abs) token = 1 := by unfold pT; rw [if_pos hh]
    rw [e] at hk
    exact hk h X H0 (bN.refl _ _)
  have jf : ¬ (token < 1 ∨ token > 2147483648) → J false h := by
    intro hh
    subst hJ
    simp only [Bool.false_eq_true, if_false]
    refine Cs token rfl TB (by omega) (λi s hs ht hf => ⟨_, rfl, ?_⟩) (λhf => ⟨_, rfl, ?_⟩)
    · simp only [Option.isNone_some, Bool.not_false, if_true]
      have e : pT (L.map SC.abs) token = 12 := by
        unfold pT
        rw [if_neg hh, if_pos]
        unfold Fj
        rw [List.any_eq_true]
        exact ⟨s.abs, List.mem_map_of_mem (List.mem_of_getElem? hs), by simp [SC.abs, ht]⟩
      rw [e] at hk
      exact hk h X H0 (bN.refl _ _)
    · simp only [Option.isNone_none, Bool.not_true, Bool.false_eq_true, if_false]
      have Xh : ¬ Fj (L.map SC.abs) token = true := by
        unfold Fj
        rw [List.any_eq_true]
        rintro ⟨x, hx, e⟩
        obtain ⟨s, hs, rfl⟩ := List.mem_map.1 hx
        have := List.findIdx?_eq_none_iff.1 hf s hs
        rw [show s.abs.token = s.token from rfl] at e
        rw [e] at this; cases this
      refine ⟨_, _, _, cK hb rfl, ?_⟩
      by_cases h8 : (L.length : Int) ≥ 8
      · simp only [h8, decide_true, if_true]
        have e : pT (L.map SC.abs) token = 5 := by
          unfold pT
          rw [if_neg hh, if_neg Xh, if_pos (by rw [List.length_map]; omega)]
        rw [e] at hk
        exact hk h X H0 (bN.refl _ _)
      · simp only [h8, decide_false, Bool.false_eq_true, if_false]
        have e : pT (L.map SC.abs) token = 0 := by
          unfold pT
          rw [if_neg hh, if_neg Xh, if_neg (by rw [List.length_map]; omega)]
        rw [e] at hk
        simp only [if_true] at hk
        refine ⟨_, _, _, cK hb rfl, ?_⟩
        rw [bB (n := (L.length : Int) + 1) (by omega) (by omega)]
        refine cG.box λb h4 eb Jl f4 => ?_
        have VN := own.frame f4 (λ_ _ => id)
        refine ⟨_, _, _, cK (f4.get hb id) rfl, ?_⟩
        refine iD tP uP VN rfl (λv hv => by simp at hv; subst hv; rfl) (by omega) (by omega) ?_
        intro p' c' h6 o6 f6 g6
        refine ⟨_, _, _, rfl, ?_⟩
        have Zu := aE hb
        have Xi : ¬ aL p t := λhx => by have := hp t hx; rw [TB.O6] at this; cases this
        have Yb := f6.get (f4.get hb id) Xi
        have Ty : ¬ aL p b := λhx => by have := own.dw hx; omega
        have Yc := f6.get Jl Ty
        refine bL Yb (by simp) λh7 k1 k2 k3 => ?_
        have f7 : Fr (λx => x = t) h6 h7 := Fr.of_eq k2 k3
        have Yd : ¬ b = t := λe => by omega
        have Xj := f7.get Yc Yd
        refine ⟨_, cK Xj rfl, ?_⟩
        have F : Fr (λx => x = t ∨ aL p x) h h7 := (f4.mono (λ_ _ => False.elim)).tt ((f6.mono (λ_ _ hx => .inr hx)).tt (f7.mono (λ_ _ hx => .inl hx)))
        have VO : ¬ aL p' t := λhx => (g6 t hx).elim Xi (λh2 => by have := aE (f4.get hb id); omega)
        have a1 : ∀ x, x = t ∨ aL p x → PD x = some 0 ∨ PD x = some 1 := by
          rintro x (rfl | hx)
          · exact .inl TB.O6
          · exact .inr (hp x hx)
        have a2 : ∀ x, aL p' x → PD x = some 1 ∨ h.size ≤ x := by
          intro x hx
          rcases g6 x hx with h2 | h2
          · exact .inl (hp x h2)
          · have := f4.1; exact .inr (by omega)
        have a3 : ¬ aL p' b := by
          intro hx
          rcases g6 b hx with h2 | h2
          · exact Ty h2
          · have := aE Jl; omega
        obtain ⟨X', HH, st⟩ := TB.add (s := ⟨b, L.length + 1, token, true, false, [], none, 0, [], none, 0⟩) (p := p') (c0 := c') hS F a1 k1 (o6.frame f7 (λx hx e => VO (e ▸ hx))) a2 a3 Xj (by show h.size ≤ b; omega) ⟨rfl, rfl, rfl⟩ ⟨rfl, rfl, rfl⟩
        have := hk h7 X' (by rw [List.length_map]; exact ⟨_, HH⟩) st
        rw [List.length_map] at this
        exact this
  clear hJ
  by_cases h1 : token < 1
  · have : (token : Int) < 1 := by omega
    simp only [this, decide_true, if_true]
    exact jt (.inl h1)
  · have : ¬ (token : Int) < 1 := by omega
    simp only [this, decide_false, Bool.false_eq_true, if_false]
    by_cases h2 : token > 2147483648
    · have : (token : Int) > 2147483648 := by omega
      simp only [this, decide_true]
      exact jt (.inr h2)
    · have : ¬ (token : Int) > 2147483648 := by omega
      simp only [this, decide_false]
      exact jf (by omega)
theorem Dp(H:Has h t X A)(ok:ox A)(hk: ∀h' x,Has h' t x (rh A num)->bN X h x h'->R (.I (Ry A num)) h'):Cl 73 #[.P t 0,.I num] h R:=by
 have b:=H;obtain⟨_,PD,L,T,rfl,_,k⟩:=H;have l:=ok.le;rw[aA]at l;unfold rh Ry at hk;refine sC.walk (jc T (λi s e a=>⟨_,_,rfl,?_⟩) (λm=>⟨_,_,rfl,?_⟩) ae)
 .rw[af bQ];subst e;rw[rZ,mR a]at hk;dsimp only at hk;have d:=(T.ses i s a).cX;refine az.2 ⟨_,aq d,?_⟩;cases f:s.up with
  |true=>
   have:s.abs.up=true:=f;simp only[this,bg]at hk;simp only[dh,au,aM];refine az.2 (bL d bQ λj K n o=> ?_);obtain⟨x,g,st⟩:=T.flag (s':= { s with up:=false }) k a rfl ⟨rfl,rfl,rfl⟩ ⟨rfl,rfl,rfl⟩ K n o;refine hk j x ?_ st;unfold ku;rw[show((i:Int)+1 - 1).toNat=i by omega];exact⟨_,g⟩
  |false=>
   have:s.abs.up=false:=f;simp only[this,au,aM]at hk;simp only[eL,bg];exact hk h X b (bN.refl _ _)
 .rw[ah (by rfl)];rw[mB (by rw[aA];exact m)]at hk;exact hk h X b (bN.refl _ _)
theorem Ah{on:Bool}(H:Has h t X A)(ok:ox A)(hk: ∀h' x,Has h' t x (iB A num on)->bN X h x h'->R (.I (uh A num)) h'):Cl 166 #[.P t 0,.I num,.bool on] h R:=by
 have d:=H;obtain⟨_,PD,L,T,rfl,_,j⟩:=H;have l:=ok.le;rw[aA]at l;unfold iB uh at hk;refine q7.walk (jc T (λi s e b=>⟨_,_,rfl,?_⟩) (λm=>⟨_,_,rfl,?_⟩) ae)
 .refine aI.of λJ a=> ?_
  subst a;rw[ah (by rfl)];subst e;rw[rZ,mR b]at hk;dsimp only at hk;have k:=(T.ses i s b).cX;refine az.2 (bL k bQ λg K n o=> ?_);obtain⟨x,f,st⟩:=T.flag (s':= { s with watch:=on }) j b rfl ⟨rfl,rfl,rfl⟩ ⟨rfl,rfl,rfl⟩ K n o;refine hk g x ?_ st;unfold ku;rw[show((i:Int)+1 - 1).toNat=i by omega];exact⟨_,f⟩
 .refine aI.of λJ a=> ?_
  subst a;rw[af bQ];rw[mB (by rw[aA];exact m)]at hk;exact hk h X d (bN.refl _ _)

end eE
end
section
open Go.fk Go.kQ
namespace gD
open hM
variable {h h':ak} {b:Nat} {X:Ft} {R:fG} {p q:bZ} {c d i:Nat} {L:List E} {s:BS}
variable {l:bZ} {r a:Nat} {xs:List IV} {S:Nat->Prop} {owner k:Int} {x:It}
def Be(h:ak)(b:Nat)(X:Ft)(s:BS):Prop:= ∃L,Bx h b X s L/\okB s L
theorem Be.frame{Q:Nat->Prop}(H:Be h b X s)(f:Fr Q h h')(e: ∀y,X.M y\/X.D y->¬Q y):Be h' b X s:=by
 obtain⟨L,H,ok⟩:=H;exact⟨L,H.frame f e,ok⟩
theorem Be.on(H:Be h b X s)(f:Fr No h h'):Be h' b X s:=H.frame f cb
theorem Be.lt(H:Be h b X s)(y:Nat)(e:X.M y\/X.D y):y<h.size:=by
 obtain⟨L,H,ok⟩:=H;exact H.lt y e
theorem Mm.Fl(H:Mm h b X s L l r xs a S)(ok:okB s L):L.length<1000/\xs.length<=16:=by
 have e:=ok.pm.length_eq;rw[aA]at e;have:=ok.le;have:=H.len;omega
def iN(s:BS)(owner:Int)(d:cM)(cg:Nat):Int:=if ue owner d.length (cg:Int)=true then(if s.items.length≥16 then 15 else 0)else 1
def Ai(s:BS)(owner:Int)(d:cM)(cg:Nat):Int:=if iN s owner d cg=0 then(s.next:Int)else 0
def Fm(s:BS)(owner:Int)(d:cM)(cg:Nat):BS:=if iN s owner d cg=0 then { s with items:=s.items++ [⟨s.next,owner,d,cg⟩],next:=s.next+1 } else s
theorem Aj{bs:cM}{n m:Nat}(cg:Nat)(r':k=(cg:Int))(H:Be h b X s)(hr:Row h p (bc bs))(B:n=bs.length)(hl:bs.length<=1000000)(B':s.next<=1000000000)(hk: ∀h' Y,Be h' b Y (Fm s owner bs cg)->bN X h Y h'->R (.tuple #[.I (Ai s owner bs cg),.I (iN s owner bs cg)]) h'):
  Cl 240 #[.P b 0,.I owner,.slice p n m,.U k] h R:=by
 subst r';subst B;obtain⟨L,⟨l,r,xs,a,S,H⟩,ok⟩:=H;obtain⟨hL,C'⟩:=H.Fl ok;have A':=H.len;refine zZ.walk (fO H ⟨_,rfl,?_⟩);simp only[dh,au,aM];refine⟨_,aq H.cX,rY hr rfl ae λt P C o2 f2 g2=>⟨_,_,_,_,_,_,rfl,?_⟩⟩;refine aY.new λb1 h7 z' U f7=>aY.ld U (fx λf f8=>⟨_,rfl,?_⟩)
 have I:Fr No h f:=f2.tt (f7.tt f8);have u:=H.on I;have z2:=f2.1;have z7:=f7.1;have z8:=f8.1;have l1:=aE U;unfold Fm Ai at hk;cases g:ue owner bs.length (cg:Int)with
 |false=>
  have e:iN s owner bs cg=1:=by unfold iN;rw[g];rfl
  rw[e]at hk;simp only[eL,bg];exact hk f X ⟨L,⟨l,r,xs,a,S,u⟩,ok⟩ (bN.iP I)
 |true=>
  simp only[dh,au,aM];refine⟨_,_,_,aq u.cX,?_⟩;by_cases c':s.items.length≥16
  .have q:(xs.length:Int)≥16:=ae
   have e:iN s owner bs cg=15:=by unfold iN;rw[g,ah rfl,ah c']
   rw[e]at hk;simp only[q,bt,bg];exact hk f X ⟨L,⟨l,r,xs,a,S,u⟩,ok⟩ (bN.iP I)
  .have q: ¬(xs.length:Int)≥16:=ae
   have e:iN s owner bs cg=0:=by unfold iN;rw[g,ah rfl,af c']
   rw[e]at hk;simp only[bg]at hk;simp only[q,bf,au,aM];have b':aY.at f b1 (s.next:Int) owner P bs.length C (cg:Int):=f8.get U id;refine⟨_,_,_,aq u.cX,aY.ld b' ?_⟩;refine cI ⟨cK (u.on (Fr.push (S:=λ_=>False) f _)).cX rfl,?_⟩;have f9:Fr No f (f.push (.cells #[.I (s.next:Int),.I owner,.slice P bs.length C,.U (cg:Int)] 119)):=Fr.push _ _;have r9:Row (f.push (.cells #[.I (s.next:Int),.I owner,.slice P bs.length C,.U (cg:Int)] 119)) (Sa f.size 0) [.I (s.next:Int),.I owner,.slice P bs.length C,.U (cg:Int)]:=iS;generalize f.push (.cells #[.I (s.next:Int),.I owner,.slice P bs.length C,.U (cg:Int)] 119)=K at f9 r9⊢;have N:=u.on f9;have q':aY.at K b1 (s.next:Int) owner P bs.length C (cg:Int):=f9.get b' id;refine dD tI uI N.own r9 rfl (λv hv=>by simp at hv;rcases hv with rfl|rfl|rfl|rfl<;>rfl) ae ae λF l' w e' _ f10 o'=>⟨_,_,_,rfl,?_⟩
   have z9:=f9.1;have D':=f10.1;have lb:=aE H.cX;have v':=f10.get N.cX H.bl;refine bL v' bQ λJ Z a2 a3=> ?_
   have f11:Fr (λy=>y=b) w J:=Fr.of_eq a2 a3;refine⟨_,aq Z,bL Z bQ λj d1 d2 d3=> ?_⟩;have f12:Fr (λy=>y=b) J j:=Fr.of_eq d2 d3;have d': ∀y,h.size<=y->¬aL l y:=λy hy hx=>by have:=H.own.dw hx;omega
   have p':aY.at w b1 (s.next:Int) owner P bs.length C (cg:Int):=f10.get q' (d' b1 ae);have a':aY.at j b1 (s.next:Int) owner P bs.length C (cg:Int):=(d3 b1 ae).trans ((a3 b1 ae).trans p');have f':cf.Al j a S L:=((N.al.frame f10 (λy hy hx=>H.ls y hx hy)).frame f11 (λy hy e=>H.bs (e▸hy))).frame f12 (λy hy e=>H.bs (e▸hy));refine⟨_,aq d1,_,aq a',?_⟩;rw[uf]at g;have s':cf.may (s.next:Int) (cg:Int)=true:=cf.mj.2 ⟨bR ok.xO,ae,g.2.2.2.2⟩;refine cf.Hh f' ae _ _ ae (λ_ A O g' T f13=>⟨_,rfl,?_⟩) (λhf=>by rw[s']at hf;cases hf);have V: ∀y,h.size<=y->¬S y:=λy hy o=>by have:=H.al.lt o;omega
   refine⟨_,aq (f13.get a' (V b1 ae)),?_⟩;have F9:Fr No h K:=I.tt f9;have E':w.size<=j.size:=ae
   have i':Fr (aL l) h w:=Fr.no F9 f10;have j':Fr (λy=>aL l y\/y=b) h j:=((i'.mono (λ_ _ hx=> .inl hx)).tt (f11.mono (λ_ _ hx=> .inr hx))).tt (f12.mono (λ_ _ hx=> .inr hx));have G:Fr X.M h A:=((j'.mono (λy _ hx=>(H.m y).2 (hx.elim (λh=> .inr (.inl h)) .inl))).tt (f13.mono (λy _ hx=>(H.m y).2 (.inr (.inr hx)))));have M: ∀y,aL P y->h.size<=y/\y<t.size:=λy hy=>⟨g2 y hy,o2.dw hy⟩
   have D: ∀y,aL F y->aL l y\/t.size<=y:=λy hy=>(o' y hy).imp id (λh1=>ae)
   have y': ∀y,aL F y->y<j.size:=λy hy=>by have:=e'.dw hy;omega
   have x':fi A P bs.length C 1 (bc bs):=by
    have k':Fr X.M t A:=by
     refine⟨gv G.1 f13.1,λy hy B=> ?_⟩;have e1:A[y]? =j[y]? :=f13.2 y ae (λhx=>B ((H.m y).2 (.inr (.inr hx))));have e2:j[y]? =J[y]? :=f12.2 y ae (λe=>B ((H.m y).2 (.inl e)));have e3:J[y]? =w[y]? :=f11.2 y ae (λe=>B ((H.m y).2 (.inl e)));have e4:w[y]? =K[y]? :=f10.2 y ae (λe=>B ((H.m y).2 (.inr (.inl e))));have e5:K[y]? =t[y]? :=(f7.tt (f8.tt f9)).2 y ae id;rw[e1,e2,e3,e4,e5]
    exact o2.frame k' (λy hy E=>gv (H.lt y (.inl E)) (M y hy))
   have n': ∀y,X.D y\/aL P y->y<A.size:=λy hy=>hy.elim (λh1=>cE (H.Ee y h1) G.1) (λh1=>gv (M y h1) f13.1)
   have m':xs.flatMap gw++ [.I (s.next:Int),.I owner,.slice P bs.length C,.U (cg:Int)]=(xs++ [(⟨s.next,owner,⟨P,C,bs⟩,cg⟩:IV)]).flatMap gw:=by rw[bY];simp
   have ln:(xs++ [(⟨s.next,owner,⟨P,C,bs⟩,cg⟩:IV)]).length=xs.length+1:=by rw[ar];rfl
   have W: ∀y,aL F y->y≠b:=λy hy e=>(D y hy).elim (λh1=>H.bl (e▸h1)) (λh1=>ae)
   have Q: ∀y,O y->X.M y\/j.size<=y:=λy hy=>(T y hy).imp (λh1=>(H.m y).2 (.inr (.inr h1))) id
   refine hk A ⟨λy=>y=b\/aL F y\/O y,λy=>X.D y\/aL P y⟩ ⟨_,⟨F,l',xs++ [⟨s.next,owner,⟨P,C,bs⟩,cg⟩],a,O,⟨?_,?_,g',?_,?_,λ_=>eU,λhx=>W b hx rfl,?_,?_,?_,n'⟩⟩,?_⟩ ⟨G,?_,?_,λ_=> .inl⟩
   .have w':=f13.get d1 H.bs;rw[w'];dsimp only;rw[ln,bB ae ae];rfl
   .rw[ln,<-m'];exact((e'.frame f11 W).frame f12 W).frame f13 (λy hy o=>(D y hy).elim (λh1=>H.ls y h1 o) (λh1=>V y ae o))
   .rw[aV,H.abs];rfl
   .intro v hv;rcases bz.1 hv with hv|hv
    .exact((H.Bb v hv).frame G (λy hd E=>H.wk y E hd)).mono (λy=> .inl)
    .obtain rfl:=bM.1 hv;exact BV.jr x' (λy=> .inr)
   .intro o;exact(T b o).elim H.bs (λh1=>ae)
   .intro y hy o;rcases T y o with h1|h1
    .exact(D y hy).elim (λt=>H.ls y t h1) (λt=>V y ae h1)
    .have:=y' y hy;omega
   .rintro y hy (hd|hd)
    .rcases hy with rfl|hy|hy
     .exact H.wk _ ((H.m _).2 (.inl rfl)) hd
     .exact(D y hy).elim (λh1=>H.wk _ ((H.m _).2 (.inr (.inl h1))) hd) (λh1=>bR (H.Ee y hd))
     .exact(Q y hy).elim (λh1=>H.wk _ h1 hd) (λh1=>bR (H.Ee y hd))
    .have u':=M y hd;rcases hy with rfl|hy|hy
     .omega
     .exact(D y hy).elim (λh1=>d' y u'.1 h1) (λh1=>ae)
     .exact(Q y hy).elim (λh1=>bR (H.lt y (.inl h1))) (λh1=>ae)
   .have t':(s.next:Int)∉keys L:=by
     intro E;obtain⟨e,he,ek⟩:=bj.1 E;obtain⟨x,hx,rfl⟩:=bj.1 (ok.pm.mem_iff.1 he);have:=(ok.it x hx).2.1;have ek:(x.num:Int)=(s.next:Int):=ek;omega
    refine⟨?_,?_,?_,?_,?_⟩
    .show(s.items++ [_]).length<=16;rw[ar,dG];omega
    .unfold cf.zW;rw[j4 t'];refine(mg _ _).trans ?_;show List.Perm (((s.next:Int),(cg:Int))::L) ((s.items++ [(⟨s.next,owner,bs,cg⟩:It)]).map It.kv);rw[aV];exact(List.Perm.cons _ ok.pm).trans (dY _ _).symm
    .intro x hx;rcases bz.1 hx with hx|hx
     .have:=ok.it x hx;exact⟨this.1,by show x.num<s.next+1;omega,this.2.2⟩
     .obtain rfl:=bM.1 hx;exact⟨by show 1<=s.next;have:=ok.xO;omega,by show s.next<s.next+1;omega,g.2.2.1,g.2.2.2.1,g.1,g.2.1,by have:=g.2.2.2.2;show cg<=_;omega⟩
    .show((s.items++ [_]).map It.num).Pairwise (· < ·);rw[aV,List.pairwise_append];refine⟨ok.inc,bQ,λy hy z hz=> ?_⟩;simp at hz;subst hz;obtain⟨x,hx,rfl⟩:=bj.1 hy;exact(ok.it x hx).2.1
    .show s.next+1=1+(s.items++ [_]).length+s.taken+s.qc+s.over;rw[ar,dG];have:=ok.xO;omega
   .rintro y (rfl|hy|hy)
    .exact .inl ((H.m _).2 (.inl rfl))
    .exact(D y hy).imp (λh1=>(H.m _).2 (.inr (.inl h1))) (λh1=>ae)
    .exact(Q y hy).imp id (λh1=>ae)
   .rintro y (hy|hy)
    .exact .inl hy
    .exact .inr (M y hy).1
def mS(s:BS)(num owner:Int):Int:=match yf s.items num with|none=>4|some i=>(match s.items[i]? with|some x=>if x.owner=owner then 0 else 13|none=>4)
def mT(s:BS)(num owner:Int):BS:=if mS s num owner=0 then { s with items:=qX s.items num,qc:=s.qc+1 } else s
theorem Mm.field{s':BS}(H:Mm h b X s L l r xs a S)(n:s'.items=s.items)(m:h'[b]? =some (.cells #[.slice l xs.length r,.I (s'.next:Int),.I (s'.taken:Int),.I (s'.qc:Int),.I (s'.over:Int),.P a 0] 145 (0,0)))(f:Fr (λy=>y=b) h h'):Mm h' b X s' L l r xs a S/\bN X h X h':=by
 have j: ∀y,X.D y->y≠b:=λy hd e=>H.wk b ((H.m b).2 (.inl rfl)) (e▸hd)
 refine⟨⟨m,H.own.frame f (λy g e=>H.bl (e▸g)),H.al.frame f (λy g e=>H.bs (e▸g)),H.abs.trans n.symm,λx o=>(H.Bb x o).frame f (λy hd e=>j y hd e),H.m,H.bl,H.bs,H.ls,H.wk,λy g=>cE (H.Ee y g) f.1⟩,bN.uT (f.mono (λy _ e=>(H.m y).2 (.inl e)))⟩
theorem Jm(H:Mm h b X s L l r xs a S)(e:s.items[i]? =some x): ∃v,xs[i]? =some v/\v.abs=x:=by
 rw[<-H.abs,aF]at e;cases f:xs[i]? with
 |none=>rw[f]at e;cases e
 |some v=>rw[f]at e;exact⟨v,rfl,bp e⟩
theorem vu{items:List It}(e:(items.map It.num).Pairwise (· < ·))(H:items[i]? =some x):(qX items (x.num:Int)).length+1=items.length:=by
 have f:=(aB.1 H).1;rw[<-qY e H];unfold Bq;rw[ar,bC,bX];omega
theorem okB.del{t o:Nat}(ok:okB s L)(H:s.items[i]? =some x)(e:t+c+o=s.taken+s.qc+s.over+1):okB ⟨qX s.items (x.num:Int),s.next,t,c,o⟩ (fS L (x.num:Int)):=by
 refine ok.sub cU (Ab ok.pm) ?_;have:=vu ok.inc H;have:=ok.xO;omega
theorem wI{num:Int}(H:Be h b X s)(f':s.next<=1000000000)(hk: ∀h' A,Be h' b A (mT s num owner)->bN X h A h'->R (.I (mS s num owner)) h'):
  Cl 152 #[.P b 0,.I num,.I owner] h R:=by
 obtain⟨L,⟨l,r,xs,a,S,H⟩,ok⟩:=H;obtain⟨Q,g'⟩:=H.Fl ok;have e':=H.len;have d':=ok.le;refine vp.walk (fO H ⟨_,rfl,?_⟩);simp only[dh,au,aM];refine jc H ae λB f2=>⟨_,rfl,?_⟩
 have f:=H.on f2;unfold mT at hk;cases g:yf s.items num with
 |none=>
  have e:mS s num owner=4:=by unfold mS;rw[g]
  rw[e]at hk;have ev:qV s.items num= -1:=by unfold qV;rw[g]
  rw[ev,gh];exact hk B X ⟨L,⟨l,r,xs,a,S,f⟩,ok⟩ (bN.iP f2)
 |some i=>
  obtain⟨x,j,w⟩:=Ac g;have ev:qV s.items num=(i:Int):=by unfold qV;rw[g]
  have hi:=(aB.1 j).1;obtain⟨v,C,D⟩:=Jm H j;have q: ¬(i:Int)<0:=ae
  rw[ev];simp only[q,bf,au,aM,aC];obtain⟨ab,b',rfl⟩:=f.own.addr ae;have T:=(f.own.fI gZ C).2.1;refine⟨_,_,_,aq f.cX,ae,az.2 ⟨v.owner,T,?_⟩⟩;have E:v.owner=x.owner:=by rw[<-D];rfl
  by_cases m:x.owner=owner
  .have e:mS s num owner=0:=by unfold mS;rw[g];dsimp only;rw[j];dsimp only;rw[ah m]
   rw[e]at hk;simp only[bg]at hk;rw[af (by rw[E,m];simp)];refine Dh f ae Q C λP I F W _=>⟨_,_,_,_,_,_,rfl,?_⟩
   obtain⟨V,U,a',M,G,n⟩:=F;refine⟨_,aq n.cX,bL n.cX bQ λu J K N=> ?_⟩;have f4:Fr (λy=>y=b) P u:=Fr.of_eq K N;have c':=ok.xO;have Z:(v.num:Int)=num:=by rw[<-w,<-D];rfl
   have O:Bq s.items i=qX s.items num:=by rw[<-w];exact qY ok.inc j
   obtain⟨z,Y⟩:=n.field (s':=⟨qX s.items num,s.next,s.taken,s.qc+1,s.over⟩) (h':=u) O.symm (by
    rw[J];dsimp only;rw[bB ae ae];rfl) f4
   rw[Z]at z;refine hk u I ⟨fS L num,⟨V,U,a',M,G,z⟩,?_⟩ ((bN.iP f2).trans (W.trans Y));have:=ok.del (t:=s.taken) (c:=s.qc+1) (o:=s.over) j ae;rwa[w]at this
  .have e:mS s num owner=13:=by unfold mS;rw[g];dsimp only;rw[j];dsimp only;rw[af m]
   rw[e]at hk;rw[ah (by rw[E];simpa using m)];exact hk B X ⟨L,⟨_,r,xs,a,S,f⟩,ok⟩ (bN.iP f2)
theorem vw(now:Nat)(B':k=(now:Int))(H:Be h b X s)(X':s.next<=1000000000)
  (hk: ∀h' n p' c' (ys:List IV) D,Be h' b n { s with items:=s.items.filter (λx=>decide ((now:Int)<(x.cg:Int))),over:=s.over+ys.length } ->bN X h n h'->fi h' p' ys.length c' 4 (ys.flatMap gw)->(∀y∈ys,y.v.ok h' n.D)->(∀y,aL p' y->h.size<=y/\¬(n.M y\/n.D y))->
   (ys.map IV.abs).map It.kv=D->ju D->D.Perm ((s.items.filter (λx=>decide ((x.cg:Int)<=(now:Int)))).map It.kv)->(∀y∈ys,y.abs∈s.items)->R (.slice p' ys.length c') h'):
  Cl 54 #[.P b 0,.U k] h R:=by
 subst B';obtain⟨L,⟨l,r,xs,a,S,H⟩,ok⟩:=H;obtain⟨hL,Y'⟩:=H.Fl ok;have C':=ok.le;have R':=ok.xO;have so:=H.al.sorted;have nd:=H.al.nodup;refine ye.walk (fO H ⟨_,rfl,aI.of λQ' hJ=> ?_⟩);simp only[bg];refine⟨_,aq H.cX,cf.Dq H.al ae _ λh3 p3 c3 A3 o3 g3 f3=>⟨_,_,_,rfl,?_⟩⟩;generalize hD:cf.due L (now:Int)=D at o3⊢;have N:L=D++cf.rest L (now:Int):=by rw[<-hD];exact(List.takeWhile_append_dropWhile).symm
 have M3:Mm h3 b X s (cf.rest L (now:Int)) l r xs a S:=by
  refine⟨f3.get H.cX H.bs,H.own.frame f3 (λy f W=>H.ls y f W),A3,H.abs,λx m=>(H.Bb x m).frame f3 (λy hd W=>H.wk y ((H.m y).2 (.inr (.inr W))) hd),H.m,H.bl,H.bs,H.ls,H.wk,λy f=>cE (H.Ee y f) f3.1⟩
 have s3:bN X h X h3:=bN.uT (f3.mono (λy _ W=>(H.m y).2 (.inr (.inr W))));have Dl:D.length<=16:=by
  have h1:=bP List.length N;rw[ar]at h1;have:=ok.pm.length_eq;rw[aA]at this;omega
 have L':(keys D).Nodup:=by
  rw[N]at nd;unfold keys at nd⊢;rw[aV,eY]at nd;exact nd.1
 have dr: ∀e∈D,e.1∉keys (cf.rest L (now:Int)):=by
  intro e he F;rw[N]at nd;unfold keys at nd F;rw[aV,eY]at nd;exact nd.2.2 e.1 (bu he) e.1 F rfl
 have M':(cf.rest L (now:Int)).length<1000:=by
  have h1:=bP List.length N;rw[ar]at h1;omega
 refine⟨λop ol oc t g=> ∃(k:Nat)(n:Ft)(ys:List IV),t=(k:Int)/\k<=D.length/\ol=ys.length/\ys.length=k/\Bx g b n { s with items:=od s.items (keys (D.take k)),over:=s.over+k } (cf.rest L (now:Int))/\bN X h n g/\Fr (λy=>h.size<=y\/X.M y) h3 g/\fi g op ol oc 4 (ys.flatMap gw)/\(∀y∈ys,y.v.ok g n.D)/\
   (∀y,aL op y->h.size<=y/\¬(n.M y\/n.D y)/\¬aL p3 y)/\(∀y,aL p3 y->¬(n.M y\/n.D y))/\Row g p3 (cf.kc D)/\(ys.map IV.abs).map It.kv=D.take k/\(∀y∈ys,y.abs∈s.items),λ_ _ _ t _=>D.length - t.toNat,
   ⟨0,X, [],rfl,ae,rfl,rfl,?_,s3,Fr.refl _ _,.nil rfl rfl rfl rfl,(λy f=>by cases f),(λy ⟨a,e,_⟩=>by cases e),(λy f m=>gv (g3 y f) (H.lt y m)),o3.iJ,rfl,λy f=>by cases f⟩,?_⟩
 .have:({ s with items:=od s.items (keys (D.take 0)),over:=s.over+0 } :BS)=s:=by
   show(⟨od s.items [],_,_,_,_⟩:BS)=s;rw[Na];rfl
  rw[this];exact⟨l,r,xs,a,S,M3⟩
 clear M3 A3;rintro op ol oc _ g ⟨k,n,ys,rfl,U',rfl,u',B,st,fg,o,hd,G,n',Y,d',r'⟩;by_cases D':k<D.length
 .have q:(k:Int)<((D.length:Nat):Int):=ae
  simp only[q,bt,bg];have K:D[k]? =some D[k]:=aj D';generalize D[k]=e at K;have q':=aJ K;have aX:(cf.kc D)[k]? =some (.I e.1):=by
   unfold cf.kc keys;rw[aF,aF,K];rfl
  obtain⟨pa,rfl⟩:=Y.some (λE=>by rw[E]at aX;cases aX);have cell:=Y.cell aX;refine⟨⟨by first|trivial|omega,by first|trivial|omega⟩,az.2 ⟨e.1,by rw[aC,cp];exact cell,?_⟩⟩;obtain⟨Zv,Z',Zw,J,S',M⟩:=B;have k':({ s with items:=od s.items (keys (D.take k)),over:=s.over+k } :BS).items=od s.items (keys (D.take k)):=rfl;have rl:(od s.items (keys (D.take k))).length<=16:=cD (cC _ _) C';refine jc M (by rw[k'];omega) λh5 f5=>⟨_,rfl,?_⟩
  rw[k'];have M5:=M.on f5;have A':e∈L:=by rw[N];exact eH _ q'
  obtain⟨x,m,t'⟩:=bj.1 (ok.pm.mem_iff.1 A');have a':(x.num:Int)=e.1:=by rw[<-t'];rfl
  have E':e.1∉keys (D.take k):=by
   intro F;obtain⟨e',z',ek⟩:=bj.1 F;obtain⟨j,hj⟩:=bK z';rw[db]at hj;split at hj
   .rename_i T';have h1:(keys D)[j]? =some e.1:=by unfold keys;rw[aF,hj,<-ek];rfl
    have h2:(keys D)[k]? =some e.1:=by unfold keys;rw[aF,K];rfl
    have:=(dU (by unfold keys;rw[aA];omega) L').1 (h1.trans h2.symm);omega
   .cases hj
  have H':x∈od s.items (keys (D.take k)):=ba.2 ⟨m,aw (by rw[a'];exact E')⟩;cases b':yf (od s.items (keys (D.take k))) e.1 with
  |none=>exact absurd a' (M7 b' x H')
  |some i=>
   obtain⟨x',i',W'⟩:=Ac b';have G':x'∈s.items:=(ba.1 (aJ i')).1;obtain rfl:x'=x:=uniq ok.inc G' m ae;have ev:qV (od s.items (keys (D.take k))) e.1=(i:Int):=by unfold qV;rw[b']
   rw[ev];obtain⟨v,hv,g'⟩:=Jm M5 i';refine Dh M5 (by rw[k'];omega) M' hv λh6 C B6 s6 v6=>⟨_,_,_,_,_,_,rfl,?_⟩
   have vn:(v.num:Int)=e.1:=by rw[<-a',<-g'];rfl
   rw[vn,j4 (dr e q')]at B6;have I':((od s.items (keys (D.take k))).map It.num).Pairwise (· < ·):=ok.inc.sublist (cU.map _);have F':keys (D.take (k+1))=keys (D.take k)++ [e.1]:=by unfold keys;rw[bm,K,aV];rfl
   have y':Bq (od s.items (keys (D.take k))) i=od s.items (keys (D.take (k+1))):=by
    rw[qY I' i',a',Nb,F']
   have o5:=o.frame f5 cb;have l': ∀y,aL op y->¬(C.M y\/C.D y):=λy f=>λm=>s6.apart (Q:=aL op) (λz hz A=>(G z A).2.1 hz) (λz A=>o5.dw A) y m f
   have o6:=o5.frame s6.fr (λy f F=>(G y f).2.1 (.inl F));refine iD tI uI o6 rfl (λw hw=>by simp at hw;rcases hw with rfl|rfl|rfl|rfl<;>rfl) ae ae λp8 c8 h8 o8 f8 g8=>⟨_,_,_,rfl,?_⟩
   have B8:Bx h8 b C _ _:=B6.frame f8 (λy f A=>l' y A f);obtain⟨K',J',O',a8,S8,P⟩:=B8;refine⟨_,aq P.cX,bL P.cX bQ λU a1 a2 a3=> ?_⟩;have f9:Fr (λy=>y=b) h8 U:=Fr.of_eq a2 a3;obtain⟨M9,s9⟩:=P.field (s':=⟨od s.items (keys (D.take (k+1))),s.next,s.taken,s.qc,s.over+(k+1)⟩) (h':=U) y'.symm (by
    rw[a1];dsimp only;rw[bB ae ae];rfl) f9
   have Z:C.M b:=(P.m b).2 (.inl rfl);have v': ∀y,aL p8 y->h.size<=y/\¬(C.M y\/C.D y)/\¬aL (some pa) y:=by
    intro y f;rcases g8 y f with h1|h1
    .exact⟨(G y h1).1,l' y h1,(G y h1).2.2⟩
    .have z6:=s6.fr.1;have z5:=f5.1;have zg:=st.fr.1;refine⟨ae,λm=>bR (B6.lt y m),λm=> ?_⟩;have:=iK Y (by intro E;rw[E]at aX;cases aX) m;omega
   have O:bN n g C h6:=(bN.iP f5).trans s6;have o': ∀y,aL (some pa) y->¬(C.M y\/C.D y):=λy f m=>O.apart (Q:=aL (some pa)) (λz hz A=>n' z A hz) (λz A=>iK Y (by intro E;rw[E]at aX;cases aX) A) y m f
   have I:bN X h C h6:=st.trans O;have m': ∀y,y<h.size->¬X.M y->U[y]? =h6[y]? :=by
    intro y f F;have zz:=I.fr.1;have Zx:=f8.1;rw[f9.2 y ae (λE=>(I.jD b Z).elim (λh1=>F (E▸h1)) (λh1=>ae)),f8.2 y ae (λA=>bR ((G y A).1))]
   have N':bN X h C U:=by
    refine⟨⟨gv I.fr.1 f8.1,λy f V=> ?_⟩,I.jD,I.lW,I.wc⟩;rw[m' y f V];exact I.fr.2 y f V
   have P': ∀y,aL p8 y->y≠b:=λy f E=>(v' y f).2.1 (.inl (E▸Z))
   have w':ys.flatMap gw++([.I (v.num:Int),.I v.owner,.slice v.v.p v.v.b.length v.v.c,.U (v.cg:Int)]:List Value)=(ys++ [v]).flatMap gw:=by rw[bY];simp
   have ln:(ys++ [v]).length=ys.length+1:=by rw[ar];rfl
   rw[bB ae ae];refine⟨⟨k+1,C,ys++ [v],ae,ae,ln.symm,by rw[ln,u'],⟨K',J',O',a8,S8,M9⟩,N',?_,?_,?_,v',o',?_,?_,?_⟩,?_⟩
   .refine⟨sY fg.1 O.fr.1 f8.1,λy f V=> ?_⟩;have j':y<h.size:=Nat.lt_of_not_le (λm=>V (.inl m));have f': ¬X.M y:=λm=>V (.inr m)
    rw[m' y j' f',I.fr.2 y j' f',s3.fr.2 y j' f']
   .rw[<-w'];exact o8.frame f9 P'
   .intro w hw;have key: ∀u:IV,u.v.ok h6 C.D->u.v.ok U C.D:=λu hu=>(hu.frame f8 (λy f A=>l' y A (.inr f))).frame f9 (λy f E=>P.wk b Z (E▸f))
    rcases bz.1 hw with hw|hw
    .exact key w (((hd w hw).frame O.fr (λy f F=>M.wk y F f)).mono (λy f=>O.wc y f))
    .obtain rfl:=bM.1 hw;exact key w v6
   .refine((Y.frame O.fr (λJ T F=>n' _ ⟨J,T,rfl⟩ (.inl F))).frame f8 (λJ T A=>(G _ A).2.2 ⟨J,T,rfl⟩)).frame f9 (λJ T E=>o' _ ⟨J,T,rfl⟩ (.inl (by have E:J.block=b:=E;rw[E];exact Z)))
   .rw[aV,aV,d',bm,K];simp[g',t']
   .intro w hw;rcases bz.1 hw with hw|hw
    .exact r' w hw
    .obtain rfl:=bM.1 hw;rw[g'];exact m
   .show D.length - Int.toNat ((k:Int)+1)<D.length - Int.toNat (k:Int);omega
 .have q: ¬(k:Int)<((D.length:Nat):Int):=ae
  simp only[q,bf,au,aM];obtain rfl:k=D.length:=ae
  subst hJ;rw[dZ]at B d';have e1:od s.items (keys D)=s.items.filter (λx=>decide ((now:Int)<(x.cg:Int))):=by rw[<-hD];exact Nc ok so nd
  rw[e1]at B;have V':D.length+(s.items.filter (λx=>decide ((now:Int)<(x.cg:Int)))).length=s.items.length:=by
   have h1:=bP List.length N;rw[ar,(Cr (now:=(now:Int)) ok so).length_eq,aA,ok.pm.length_eq,aA]at h1;omega
  refine hk g n op oc ys D ⟨_,by rw[u'];exact B,?_⟩ st o hd (λy f=>⟨(G y f).1,(G y f).2.1⟩) d' ?_ ?_ r'
  .exact ok.sub cU (Cr ok so) ae
  .rw[<-hD,(gm so).1];exact fU _ so
  .rw[<-hD];exact Nd ok so

end gD
end
section
namespace iY
variable {h h':ak} {R:fG}
variable {s:ByteArray} {pos:Nat} {more:UInt8}
theorem byte_at(H:pos<s.size):s.data.toList[pos]? =some (s.data.toList.getD pos 0):=by
 have:pos<s.data.toList.length:=H;rw[bh,aj this];rfl
theorem TA{b:UInt8}(d:more.toNat<128)(h:pl more b=true):b<128:=by
 show b.toNat<128;by_cases a:b.toNat<128
 .exact a
 .have H:=MW (more:=(more.toNat:Int)) (c:=(b.toNat:Int)) ae ae;rw[MX,h]at H;cases H
theorem Nl(e:more.toNat<128)(d:pos<s.size)(h:np (more.toNat:Int) ((Utf8.decode s pos).1:Int)=false):
  pl more (s.data.toList.getD pos 0)=true/\(Utf8.decode s pos).2=1:=by
 obtain⟨a,b⟩:=decode_at s pos d;by_cases H:s.data.toList.getD pos 0<128
 .rw[a H]at h⊢;rw[MX]at h;exact⟨cH h,rfl⟩
 .have:=MW (more:=(more.toNat:Int)) (c:=((Utf8.decode s pos).1:Int)) ae (bR (b H));rw[this]at h;cases h
theorem PE(d:more.toNat<128)(H:pos<s.size)(h:np (more.toNat:Int) ((Utf8.decode s pos).1:Int)=true):mN more s=false:=by
 cases c:mN more s with
 |false=>rfl
 |true=>
  have a:=List.all_eq_true.1 c _ (aJ (byte_at H));obtain⟨b,_⟩:=decode_at s pos H;rw[b (TA d a),MX,a]at h;cases h
theorem Ak{it:Nat}{ty:TypeId}{H d:ak}(n:more.toNat<128)(r:d[it]? =some (.stringIter s 0))(u:H.size<=it)(f1:Fr No H d)(hk: ∀h',Fr No H h'->R (.bool (mN more s)) h'):
  ∃(I:ak->Prop)(M:ak->Nat),I d/\∀g,I g->aU Tryz.prog (Instr.next (.P it 0) true ty) g λv G=>
   (v=.tuple #[.bool false]/\R (.bool true) G)\/∃(a b:Value),v=.tuple #[.bool true,a,b]/\∃(c:Int),b=.int .i32 c/\if np (more.toNat:Int) c=true then R (.bool false) G else(I G/\M G<M g):=by
 refine⟨λg=> ∃pos,g[it]? =some (.stringIter s pos)/\Fr No H g/\pos<=s.size/\(s.data.toList.take pos).all (pl more)=true,λg=>(match g[it]? with|some (.stringIter _ p)=>s.size - p|_=>0),⟨0,r,f1,br _,bQ⟩,?_⟩;rintro g ⟨pos,m,F,w,j⟩;refine Ky m (λq=> .inl ⟨rfl,?_⟩) (λf G k x t=> .inr ⟨_,_,rfl,_,rfl,?_⟩)
 .have:mN more s=true:=by
   unfold mN;rw[bk (by show s.data.toList.length<=pos;exact q)]at j;exact j
  rw[<-this];exact hk g F
 .have l:Fr No H G:=F.fresh (S:=λc=>c=it) ⟨ae,λc _ i=>t c i⟩ (λc e=>ae);cases i:np (more.toNat:Int) ((Utf8.decode s pos).1:Int)with
  |true=>
   rw[ah rfl,<-PE n f i];exact hk G l
  |false=>
   rw[af bQ];obtain⟨d,o⟩:=Nl n f i;rw[o]at k;refine⟨⟨pos+1,k,l,f,?_⟩,?_⟩
   .rw[bm,byte_at f,List.all_append,j];show(true && (pl more (s.data.toList.getD pos 0) && true))=true;rw[d];rfl
   .simp only[m,k];omega
theorem Hr(hk: iq h R (.bool (mN 45 s))):Cl 142 #[.string s,.int .i32 45] h R:=by
 refine wo.host.walk (zA cZ λr o p n f1=>⟨_,rfl,?_⟩);obtain⟨I,M,k,l⟩:=Ak (more:=45) (ty:=0) dt n ae f1 hk;refine⟨I,M,k,λg m=>ke _ _ (λv G H=> ?_) (l g m)⟩;rcases H with H|⟨a,b,e,c,e2,H⟩
 .exact .inl H
 .refine .inr ⟨a,b,e,c,e2,aI.of λJ d=> ?_⟩;have key:J (np 45 c) G:=by subst d;exact H
  clear d H;unfold np at key;revert key;generalize decide (c<97)=b1;generalize decide (c>122)=B;generalize decide (c<48)=f;generalize decide (c>57)=i;generalize (c !=45)=j;intro key;cases b1<;>cases B<;>cases f<;>cases i<;>cases j<;>exact key
theorem Fo(hk: iq h R (.bool (mN 47 s))):Cl 142 #[.string s,.int .i32 47] h R:=by
 refine wo.Ts.walk (zA cZ λr p q o f1=>⟨_,rfl,?_⟩);obtain⟨I,M,l,m⟩:=Ak (more:=47) (ty:=0) dt o ae f1 hk;refine⟨I,M,l,λg n=>ke _ _ (λv G H=> ?_) (m g n)⟩;rcases H with H|⟨a,b,e,c,e2,H⟩
 .exact .inl H
 .refine .inr ⟨a,b,e,c,e2,aI.of λJ d=> ?_⟩;have key:J (np 47 c) G:=by subst d;exact H
  clear d H;unfold np at key;revert key;generalize decide (c<97)=b1;generalize decide (c>122)=B;generalize decide (c<48)=f;generalize decide (c>57)=i;generalize (c !=45)=j;generalize (c !=47)=k;intro key;cases b1<;>cases B<;>cases f<;>cases i<;>cases j<;>cases k<;>exact key
abbrev Ev.at(h:ak)(b:Nat)(x:Ev):Prop:=ax.at h b x.jT x.node x.gr x.host x.jv
theorem fx(x:Ev)(hk: iq h R (.bool (cV x))):Cl 86 #[.agg #[.bool x.jT,.U x.node,.U x.gr,.string x.host,.string x.jv]] h R:=by
 refine KF.walk (ax.box λb f E H f1=>ax.ld H ⟨_,u0 (y:=.zero) (x:=x) rfl rfl,?_⟩);have K:=hk f f1;unfold cV at K;by_cases e:x=.zero
 .rw[ah (aw e)];rw[ah e]at K;exact K
 .rw[af (cH e)];rw[af e]at K;refine⟨_,aq H,?_⟩;by_cases d:x.jT=true
  .rw[ah d];rw[ah d]at K;refine ax.ld H ⟨_,aq H,_,aq H,_,u0 (y:=⟨true,x.node,x.gr,⟨#[]⟩,⟨#[]⟩⟩) (x:=x) rfl rfl,?_⟩;by_cases c:x=⟨true,x.node,x.gr,⟨#[]⟩,⟨#[]⟩⟩
   .have e1:x.host=⟨#[]⟩:=bP Ev.host c;have e2:x.jv=⟨#[]⟩:=bP Ev.jv c;rw[ah (aw c)];refine⟨_,aq H,?_⟩;by_cases q1:x.node≥1
    .rw[ah (aw q1)];refine⟨_,aq H,?_⟩;by_cases q2:x.node<=4294967295
     .rw[ah (aw q2)];refine⟨_,aq H,?_⟩;have q:1<=x.node:=q1;simp only[e1,e2,q,q2,true_and]at K;exact K
     .rw[af (cH q2)];simp only[q2,false_and,and_false,bf]at K;exact K
    .rw[af (cH q1)];have q: ¬1<=x.node:=q1;simp only[q,false_and,and_false,bf]at K;exact K
   .rw[af (cH c)];have: ¬(x.host=⟨#[]⟩/\x.jv=⟨#[]⟩/\1<=x.node/\x.node<=4294967295/\x.gr<=4294967295):=λ⟨a,b,_⟩=>c (Ev.ext' d rfl rfl a b)
    rw[aD this]at K;exact K
  .have k:x.jT=false:=by simpa using d
   rw[af d];rw[af d]at K;refine ax.ld H ⟨_,aq H,_,aq H,_,u0 (y:=⟨false,0,0,x.host,x.jv⟩) (x:=x) rfl rfl,?_⟩;by_cases c:x=⟨false,0,0,x.host,x.jv⟩
   .have e1:x.node=0:=bP Ev.node c;have e2:x.gr=0:=bP Ev.gr c;rw[ah (aw c)];refine⟨_,aq H,?_⟩;simp only[e1,e2,true_and]at K;by_cases q1:1<=x.host.size
    .rw[gh];refine⟨_,aq H,?_⟩;by_cases q2:x.host.size<=16
     .rw[gh];refine⟨_,aq H,?_⟩;by_cases q3:x.jv.size<=24
      .rw[gh];simp only[q1,q2,q3,and_self,bt,dX]at K;refine⟨_,aq H,Hr λg f2=>⟨_,rfl,?_⟩⟩;have j:=f2.get H id;by_cases q4:mN 45 x.host=true
       .rw[ah q4];refine⟨_,aq j,Fo λi f3=>⟨_,rfl,?_⟩⟩;have:=hk i (f1.tt (f2.tt f3));unfold cV at this;rw[af e,af d,q4]at this;simp only[e1,e2,q1,q2,q3,and_self,bt,dX]at this;exact this
       .rw[af q4];have:=hk g (f1.tt f2);unfold cV at this;have q4:mN 45 x.host=false:=by simpa using q4
        rw[af e,af d,q4]at this;simp only[ft,Bool.and_false]at this;exact this
      .rw[af (by simp;omega)];simp only[q3,and_false,bf,ft]at K;exact K
     .rw[af (by simp;omega)];simp only[q2,false_and,and_false,bf,ft]at K;exact K
    .rw[af (by simp;omega)];simp only[q1,false_and,and_false,bf,ft]at K;exact K
   .rw[af (cH c)];have: ¬(x.node=0/\x.gr=0/\1<=x.host.size/\x.host.size<=16/\x.jv.size<=24):=λ⟨a,b,_⟩=>c (Ev.ext' k a b rfl rfl)
    rw[aD this,ft]at K;exact K
theorem vx(x:Ev)(hk: iq h R (.I (iU x))):Cl 184 #[.agg #[.bool x.jT,.U x.node,.U x.gr,.string x.host,.string x.jv]] h R:=by
 refine KG.walk (ax.box λb d e c f1=>ax.ld c ⟨_,u0 (y:=.zero) (x:=x) rfl rfl,?_⟩);have K:=hk d f1;unfold iU at K;by_cases H:x=.zero
 .rw[ah (aw H)];rw[ah H]at K;exact K
 .rw[af (cH H)];rw[af H]at K;refine⟨_,aq c,?_⟩;by_cases a:x.jT=true
  .rw[ah a];rw[ah a]at K;exact K
  .rw[af a];rw[af a]at K;exact K
theorem Fq{a b:ByteArray}:(a.toList==b.toList)=true↔a=b:=by
 rw[dp,toList_data,toList_data];constructor
 .intro e;cases a;cases b;simp only[ByteArray.mk.injEq];exact Array.ext' e
 .rintro rfl;rfl
theorem PF(x y:Ev)(hk: iq h R (.bool (kI x y))):Cl 133 #[.agg #[.bool x.jT,.U x.node,.U x.gr,.string x.host,.string x.jv],.agg #[.bool y.jT,.U y.node,.U y.gr,.string y.host,.string y.jv]] h R:=by
 refine MU.walk (ax.box λb l E j f1=>ax.box λc m k d f2=> ?_);have f:=f2.get j id;refine ax.ld f (ax.ld d (vx x λn f3=>⟨_,rfl,ax.held (f3.get d id),vx y λg f4=>⟨_,rfl,?_⟩⟩));have F:=f3.tt f4;have a:=F.get f id;have H:=F.get d id;have K:=hk g (f1.tt (f2.tt F));unfold kI at K;by_cases q:iU x=iU y
 .rw[af (cH q)];rw[af (cH q)]at K;refine⟨_,aq a,_,aq H,?_⟩;by_cases q1:x.node=y.node
  .rw[af (cH q1)];rw[af (cH q1)]at K;refine⟨_,aq a,_,aq H,?_⟩;by_cases q2:x.gr=y.gr
   .rw[af (cH q2)];rw[af (cH q2)]at K;refine⟨_,aq a,_,aq H,?_⟩;by_cases q3:x.host=y.host
    .rw[af (by simp[Fq.2 q3])];rw[af (cH q3)]at K;exact⟨_,aq a,_,aq H,K⟩
    .have:(x.host.toList==y.host.toList)=false:=by
      cases e:x.host.toList==y.host.toList
      .rfl
      .exact absurd (Fq.1 e) q3
     rw[ah (by simp[this])];rw[ah q3]at K;exact⟨_,aq a,_,aq H,K⟩
   .rw[ah (cH q2)];rw[ah q2]at K;exact⟨_,aq a,_,aq H,K⟩
  .rw[ah (cH q1)];rw[ah q1]at K;exact⟨_,aq a,_,aq H,K⟩
 .rw[ah (cH q)];refine ax.ld a (ax.ld H (vx x λo f5=>⟨_,rfl,ax.held (f5.get H id),vx y λi f6=>⟨_,rfl,?_⟩⟩));have K:=hk i (f1.tt (f2.tt (F.tt (f5.tt f6))));unfold kI at K;rw[ah q]at K;exact K

end iY
end
section
variable {h:ak} {R:fG}
variable {t d c:Nat} {r e:Bool} {l m q s E f owner a b:Int} {o p g k:ByteArray} {D:bZ}
theorem Nn.walk(j:aT h (.map #[] 0) λb H=>aT H (.cells #[.map (some b)] 172) λB i=>R (.P B 0) i):Cl 36 #[] h R:=aR (lq ll) Tryz.func36 j
theorem yj.walk(H: ∃t9,Cc h t 0 (.map t9)/\R (.bool (!t9.isNone)) h):Cl 130 #[.P t 0] h R:=aR (lq ll) Tryz.func130 H
theorem Br.walk{n:Int}(H:if(decide (n≥0))then R (.bool (decide (n<=2))) h else R (.bool false) h):Cl 149 #[.I n] h R:=aR (lq ll) Tryz.func149 H
theorem Ht.walk(n:aT h (.cells #[.bool r,.U l,.U m,.string o,.string p,.I q,.I s] 136) λb j=>ax.LD j (AA b 0) λT u w x y=>Cl 86 #[.agg #[.bool T,.U u,.U w,.string x,.string y]] j λv H=> ∃t5,v=.bool t5/\if t5 then ax.LD H (AA b 0) λz A B C F=> ∃(eq:Bool),yD Tryz.prog 29 (.agg #[.bool z,.U A,.U B,.string C,.string F]) (.agg #[.bool false,.U 0,.U 0,.string hC,.string hC]) eq/\if(!eq)then Hi H b 5 λt14=>Cl 149 #[.I t14] H λV i=> ∃t15,V=.bool t15/\if t15 then∃t19,Cc i b 6 (.I t19)/\if(decide (t19≥1))then∃t24,Cc i b 6 (.I t24)/\R (.bool (decide (t24<=1099511627776))) i else R (.bool false) i else R (.bool false) i else R (.bool false) H else R (.bool false) H):Cl 147 #[.agg #[.bool r,.U l,.U m,.string o,.string p,.I q,.I s]] h R:=aR (lq ll) Tryz.func147 n
theorem Am.walk(N:aT h (.cells #[.bool r,.U l,.U m,.string o,.string p,.I q,.I s] 136) λb L=>Cl 130 #[.P t 0] L λv i=> ∃t8,v=.bool t8/\if(!t8)then R (.I 6) i else∃t14,Cc i t 0 (.map t14)/\ax.LD i (AA b 0) λT u w x y=> ∃z A B C F G I J,ig Tryz.prog 170 (.map t14) (.agg #[.bool T,.U u,.U w,.string x,.string y]) true i (.tuple #[.agg #[.bool z,.U A,.U B,.string C,.string F,.I G,.I I],.bool J])/\aT i (.cells #[.bool false,.U 0,.U 0,.string hC,.string hC,.I 0,.I 0] 136) λK j=>kA (.map t14) i j/\dM (AA b 0) [.bool T,.U u,.U w,.string x,.string y] 0 j/\Cc j t 0 (.map t14)/\bD.ST j (AA K 0) z A B C F G I λn=>bD.LD n (AA b 0) λO P Q S U V W=>Cl 147 #[.agg #[.bool O,.U P,.U Q,.string S,.string U,.I V,.I W]] n λj' H=> ∃t22,j'=.bool t22/\if(!t22)then R (.I 1) H else if J then R (.I 11) H else∃t30,Cc H t 0 (.map t30)/\∃t31:Int,O8 Tryz.prog #[170] 3 (.map t30) H (.I t31)/\if(decide (t31≥8))then R (.I 15) H else∃t36,Cc H t 0 (.map t36)/\ax.LD H (AA b 0) λX Y Z a' b'=>bD.LD H (AA b 0) λc' d' e' f' g' h' i'=>aU Tryz.prog (Instr.mapUpdate 170 (.map t36) (.agg #[.bool X,.U Y,.U Z,.string a',.string b']) (.agg #[.bool c',.U d',.U e',.string f',.string g',.I h',.I i'])) H λ_ M=>R (.I 0) M):Cl 97 #[.P t 0,.agg #[.bool r,.U l,.U m,.string o,.string p,.I q,.I s]] h R:=aR (lq (sq (lq (cq ll lf)) (sq (pN 13) (sq (bq (lq (cq ll (lq (cq ll (lq (cq ll lf))))))) (sq (pN 8) ll))))) Tryz.func97 N
theorem An.walk(S:aT h (.cells #[.bool e,.U E,.U f,.string g,.string k] 29) λb P=>aT P (.cells #[.bool false,.U 0,.U 0,.string hC,.string hC,.I 0,.I 0] 136) λB Q=>Cl 130 #[.P t 0] Q λv H=> ∃t11,v=.bool t11/\if(!t11)then bD.ST H (AA B 0) false 0 0 hC hC 0 0 λu=>bD.LD u (AA B 0) λU Y c' g' k' o' s'=>R (.tuple #[.agg #[.bool U,.U Y,.U c',.string g',.string k',.I o',.I s'],.I 6]) u else∃t18,Cc H t 0 (.map t18)/\ax.LD H (AA b 0) λT z A C F=> ∃G I J K L M N O,ig Tryz.prog 170 (.map t18) (.agg #[.bool T,.U z,.U A,.string C,.string F]) true H (.tuple #[.agg #[.bool G,.U I,.U J,.string K,.string L,.I M,.I N],.bool O])/\aT H (.cells #[.bool false,.U 0,.U 0,.string hC,.string hC,.I 0,.I 0] 136) λn j=>kA (.map t18) H j/\dM (AA b 0) [.bool T,.U z,.U A,.string C,.string F] 0 j/\Cc j t 0 (.map t18)/\bD.ST j (AA n 0) G I J K L M N λi=>if(!O)then bD.ST i (AA B 0) false 0 0 hC hC 0 0 λw=>bD.LD w (AA B 0) λV Z d' h' l' p' t'=>R (.tuple #[.agg #[.bool V,.U Z,.U d',.string h',.string l',.I p',.I t'],.I 4]) w else∃t29,Cc i n 6 (.I t29)/\if(t29 !=owner)then bD.ST i (AA B 0) false 0 0 hC hC 0 0 λx=>bD.LD x (AA B 0) λW a' e' i' m' q' u'=>R (.tuple #[.agg #[.bool W,.U a',.U e',.string i',.string m',.I q',.I u'],.I 13]) x else bD.LD i (AA n 0) λw' x' y' z' A' B' C'=>bD.ST i (AA B 0) w' x' y' z' A' B' C' λy=>bD.LD y (AA B 0) λX b' f' j' n' r' v'=>R (.tuple #[.agg #[.bool X,.U b',.U f',.string j',.string n',.I r',.I v'],.I 0]) y):Cl 148 #[.P t 0,.agg #[.bool e,.U E,.U f,.string g,.string k],.I owner] h R:=aR (lq (sq (lq (cq ll lf)) (sq (pN 12) (sq (bq (lq (cq ll (lq (cq ll lf))))) ll)))) Tryz.func148 S
theorem vy.walk(I:aT h (.cells #[.bool e,.U E,.U f,.string g,.string k] 29) λb i=>ax.LD i (AA b 0) λK L M N O=>Cl 148 #[.P t 0,.agg #[.bool K,.U L,.U M,.string N,.string O],.I owner] i λv A=> ∃j n u w x y z T,v=.tuple #[.agg #[.bool j,.U n,.U u,.string w,.string x,.I y,.I z],.I T]/\aT A (.cells #[.bool false,.U 0,.U 0,.string hC,.string hC,.I 0,.I 0] 136) λB C=>bD.ST C (AA B 0) j n u w x y z λH=>aI (λ(F:ak)=>R (.I T) F) (λJ=>if(T==0)then∃t21,Cc H t 0 (.map t21)/\ax.LD H (AA b 0) λP Q S U V=>aU Tryz.prog (Builtin.delete_ #[170,29] 0 #[.map t21,.agg #[.bool P,.U Q,.U S,.string U,.string V]]) H λW G=>W=.tuple #[]/\J G else J H)):Cl 98 #[.P t 0,.agg #[.bool e,.U E,.U f,.string g,.string k],.I owner] h R:=aR (lq (lq (sq (lq (.join [] (cq (pN 6) lf))) ll))) Tryz.func98 I
theorem vz.walk{P:Int}(O:aT h (.cells #[.bool e,.U E,.U f,.string g,.string k] 29) λb G=>aI (λ(t17:Bool) (i:ak)=>if t17 then R (.I 1) i else ax.LD i (AA b 0) λQ S U V W=>Cl 148 #[.P t 0,.agg #[.bool Q,.U S,.U U,.string V,.string W],.I owner] i λv K=> ∃w x y z A C F T,v=.tuple #[.agg #[.bool w,.U x,.U y,.string z,.string A,.I C,.I F],.I T]/\aT K (.cells #[.bool false,.U 0,.U 0,.string hC,.string hC,.I 0,.I 0] 136) λB L=>bD.ST L (AA B 0) w x y z A C F λn=>aI (λ(M:ak)=>R (.I T) M) (λj=>if(T==0)then aQ n (AA B 5) (.I P) λH=> ∃t32,Cc H t 0 (.map t32)/\ax.LD H (AA b 0) λX Y Z a' b'=>bD.LD H (AA B 0) λc' d' e' f' g' h' i'=>aU Tryz.prog (Instr.mapUpdate 170 (.map t32) (.agg #[.bool X,.U Y,.U Z,.string a',.string b']) (.agg #[.bool c',.U d',.U e',.string f',.string g',.I h',.I i'])) H λ_ N=>j N else j n)) (λJ=>Cl 130 #[.P t 0] G λj' u=> ∃t12,j'=.bool t12/\if t12 then Cl 149 #[.I P] u λk' I=> ∃t15,k'=.bool t15/\J (!t15) I else J false u)):Cl 100 #[.P t 0,.agg #[.bool e,.U E,.U f,.string g,.string k],.I owner,.I P] h R:=aR (lq (sq (sq (.join [(17,.one (.bool))] lf) (cq ll lf)) (lq (sq (lq (.join [] (cq (lq (pN 7)) lf))) ll)))) Tryz.func100 O
theorem ym.walk(P:aT h (.cells #[.bool e,.U E,.U f,.string g,.string k] 29) λb N=>aT N (.cells #[.bool false,.U 0,.U 0,.string hC,.string hC,.I 0,.I 0] 136) λB O=>Cl 130 #[.P t 0] O λv H=> ∃t9,v=.bool t9/\if(!t9)then bD.ST H (AA B 0) false 0 0 hC hC 0 0 λn=>bD.LD n (AA B 0) λQ U W Y a' c' e'=>R (.tuple #[.agg #[.bool Q,.U U,.U W,.string Y,.string a',.I c',.I e'],.bool false]) n else∃t16,Cc H t 0 (.map t16)/\ax.LD H (AA b 0) λT x y z A=> ∃C F G I J K L M,ig Tryz.prog 170 (.map t16) (.agg #[.bool T,.U x,.U y,.string z,.string A]) true H (.tuple #[.agg #[.bool C,.U F,.U G,.string I,.string J,.I K,.I L],.bool M])/\aT H (.cells #[.bool false,.U 0,.U 0,.string hC,.string hC,.I 0,.I 0] 136) λj i=>kA (.map t16) H i/\dM (AA b 0) [.bool T,.U x,.U y,.string z,.string A] 0 i/\Cc i t 0 (.map t16)/\bD.ST i (AA j 0) C F G I J K L λu=>bD.LD u (AA j 0) λg' h' i' j' k' l' m'=>bD.ST u (AA B 0) g' h' i' j' k' l' m' λw=>bD.LD w (AA B 0) λS V X Z b' d' f'=>R (.tuple #[.agg #[.bool S,.U V,.U X,.string Z,.string b',.I d',.I f'],.bool M]) w):Cl 155 #[.P t 0,.agg #[.bool e,.U E,.U f,.string g,.string k]] h R:=aR (lq (sq (lq (cq ll lf)) (sq (pN 12) ll))) Tryz.func155 P
theorem Ao.walk(hv:Cl 130 #[.P t 0] h λv H=>Vb v λt7=>aI (λ(C:bZ) (B A:Nat) (X:ak)=>Cl 131 #[.slice C B A,.func (.func 132) #[] #[]] X λm' Y=>m'=.tuple #[]/\R (.slice C B A) Y) (λJ=>if t7 then∃t11,Cc H t 0 (.map t11)/\aU Tryz.prog (Instr.range 170 (.map t11)) H λn' Z=> ∃(it:Nat),n'=.P it 0/\∃(I:bZ->Nat->Nat->ak->Prop)(M:bZ->Nat->Nat->ak->Nat),I none 0 0 Z/\∀(j:bZ)(i O:Nat)(n:ak),I j i O n->aU Tryz.prog (Instr.next (.P it 0) false 0) n λV y=>(V=.tuple #[.bool false]/\J j i O y)\/(∃(c' d':Value),V=.tuple #[.bool true,c',d']/\aU Tryz.prog (Instr.entry (.P it 0)) y λo' a'=> ∃(e' F:Value),o'=.tuple #[e',F]/\∃G K L N P Q S,F=.agg #[.bool G,.U K,.U L,.string N,.string P,.I Q,.I S]/\aT a' (.cells #[.bool false,.U 0,.U 0,.string hC,.string hC,.I 0,.I 0] 136) λb b'=>bD.ST b' (AA b 0) G K L N P Q S λz=>bD.LD z (AA b 0) λf' g' h' i' j' k' l'=>aT z (.cells #[.bool f',.U g',.U h',.string i',.string j',.I k',.I l'] 136) λU W=>aU Tryz.prog (Builtin.append_ #[133,133] 133 #[.slice j i O,.slice (Sa U 0) 1 1]) W λp' x=> ∃w u T,p'=.slice w u T/\(I w u T x/\M w u T x<M j i O n))else J none 0 0 H)):Cl 63 #[.P t 0] h R:=aR (lq (lq (sq (lq (.join [(3,.one (.slice))] (cq (lq (bq (.loop [(3,.one (.slice))] (lq (sq (cq lf lf) (bq (sq (.typed [(16,.agg [.bool,.int .u64,.int .u64,.str,.str,.int .i64,.int .i64])]) lf))))))) lf))) (lq ll)))) Tryz.func63 hv
theorem wJ.walk{A:Bool}{i:Int}{j:Int}{n:ByteArray}{u:ByteArray}{w:Int}{x:Int}{y:Bool}{B:Int}{z:Int}{C:ByteArray}{F:ByteArray}{G:Int}{I:Int}(L:aT h (.cells #[.bool A,.U i,.U j,.string n,.string u,.I w,.I x] 136) λb K=>aT K (.cells #[.bool y,.U B,.U z,.string C,.string F,.I G,.I I] 136) λB H=>ax.LD H (AA b 0) λT M N O P=>ax.LD H (AA B 0) λQ S U V W=>Cl 133 #[.agg #[.bool T,.U M,.U N,.string O,.string P],.agg #[.bool Q,.U S,.U U,.string V,.string W]] H λv J=> ∃t9,v=.bool t9/\if t9 then R (.I (-1)) J else R (.I 1) J):Cl 132 #[.agg #[.bool A,.U i,.U j,.string n,.string u,.I w,.I x],.agg #[.bool y,.U B,.U z,.string C,.string F,.I G,.I I]] h R:=aR (lq (sq (lq (cq ll lf)) ll)) Tryz.func132 L
theorem jY.TC.walk{i:bZ}{x X:Nat}(n:Cl 183 #[.U (wrap .u64 (x:Int))] h λv H=>Vi v λt11=>Cl 182 #[.slice i x X,.I 0,.I (x:Int),.I t11,.func (.func 132) #[] #[]] H λV j=>V=.tuple #[]/\R (.tuple #[]) j):Cl 131 #[.slice i x X,.func (.func 132) #[] #[]] h R:=aR ll Tryz.func131 n
theorem k7.TC.walk{Y:Int} (hv: ∃(I:Int->Int->Int->Bool->Bool->ak->Prop)(mu:Int->Int->Int->Bool->Bool->ak->Nat),I a b Y true true h/\∀(A:Int)(B:Int)(L:Int)(w:Bool)(W:Bool)(H:ak),I A B L w W H->aI (λ(M:Int) (N:Int) (Z:Int) (b':Bool) (c':Bool) (U:ak)=>(I M N Z b' c' U/\mu M N Z b' c' U<mu A B L w W H)) (λJ=>if(decide ((wrap .i64 (B - A))<=12))then Cl 214 #[.slice D d c,.I A,.I B,.func (.func 132) #[] #[]] H λv o'=>v=.tuple #[]/\R (.tuple #[]) o' else if(L==0)then Cl 215 #[.slice D d c,.I A,.I B,.func (.func 132) #[] #[]] H λG' p'=>G'=.tuple #[]/\R (.tuple #[]) p' else aI (λ(j:Int) (q':ak)=>Cl 217 #[.slice D d c,.I A,.I B,.func (.func 132) #[] #[]] q' λI' V=> ∃x y,I'=.tuple #[.I x,.I y]/\aI (λ(P:Int) (r':Int) (u:ak)=>aI (λ(t75:Bool) (X:ak)=>aI (λ(i:ak)=>aI (λ(t97:Bool) (O:ak)=>if t97 then Cl 220 #[.slice D d c,.I A,.I B,.I P,.func (.func 132) #[] #[]] O λJ' h'=> ∃t103,J'=.I t103/\J t103 B j w W h' else Cl 221 #[.slice D d c,.I A,.I B,.I P,.func (.func 132) #[] #[]] O λK' Q=> ∃T a',K'=.tuple #[.I T,.bool a']/\aI (λ(d':Int) (g':Int) (Q':Bool) (i':ak)=>J d' g' j Q' a' i') (λK=>if(decide ((wrap .i64 (T - A))<(wrap .i64 (B - T))))then Cl 182 #[.slice D d c,.I A,.I T,.I j,.func (.func 132) #[] #[]] Q λL' j'=>L'=.tuple #[]/\K (wrap .i64 (T+1)) B (decide ((wrap .i64 (T - A))≥(wrap .i64 (Int.tdiv (wrap .i64 (B - A)) 8)))) j' else Cl 182 #[.slice D d c,.I (wrap .i64 (T+1)),.I B,.I j,.func (.func 132) #[] #[]] Q λM' k'=>M'=.tuple #[]/\K A T (decide ((wrap .i64 (B - T))≥(wrap .i64 (Int.tdiv (wrap .i64 (B - A)) 8)))) k')) (λG=>if(decide (A>0))then Bd (wrap .i64 (A - 1)) d/\aO D λe'=>bD.LD i (e'.add (toNat (wrap .i64 (A - 1))*7)) λs' t' u' v' w' x' y'=>Bd P d/\aO D λf'=>bD.LD i (f'.add (toNat P*7)) λz' A' B' C' D' E' F'=>Cl 132 #[.agg #[.bool s',.U t',.U u',.string v',.string w',.I x',.I y'],.agg #[.bool z',.U A',.U B',.string C',.string D',.I E',.I F']] i λN' l'=> ∃t94,N'=.I t94/\G (!(decide (t94<0))) l' else G false i)) (λF=>if t75 then Cl 219 #[.slice D d c,.I A,.I B,.func (.func 132) #[] #[]] X λO' S=> ∃t80,O'=.bool t80/\if t80 then R (.tuple #[]) S else F S else F X)) (λn=>if w then if W then n (r'==1) u else n false u else n false u)) (λC=>if(y==2)then Cl 218 #[.slice D d c,.I A,.I B,.func (.func 132) #[] #[]] V λP' m'=>P'=.tuple #[]/\C (wrap .i64 ((wrap .i64 (B - 1)) - (wrap .i64 (x - A)))) 1 m' else C x y V)) (λz=>if(!w)then Cl 216 #[.slice D d c,.I A,.I B,.func (.func 132) #[] #[]] H λH' n'=>H'=.tuple #[]/\z (wrap .i64 (L - 1)) n' else z L H))):Cl 182 #[.slice D d c,.I a,.I b,.I Y,.func (.func 132) #[] #[]] h R:=aR (lq (lq (bq (.loop [(1,.one (.int .i64)),(2,.one (.int .i64)),(3,.one (.int .i64)),(10,.one (.bool)),(11,.one (.bool))] (.join [(1,.one (.int .i64)),(2,.one (.int .i64)),(3,.one (.int .i64)),(10,.one (.bool)),(11,.one (.bool))] (bq (lq (sq (lq (cq ll lf)) (sq (lq (cq ll lf)) (sq (lq (.join [(3,.one (.int .i64))] (cq ll lf))) (lq (sq (lq (.join [(13,.one (.int .i64)),(14,.one (.int .i64))] (cq (lq ll) lf))) (sq (sq (.join [(75,.one (.bool))] lf) (.join [] (cq (lq (cq lf lf)) lf))) (sq (sq (.join [(97,.one (.bool))] (pN 17)) (cq (lq ll) lf)) (lq (lq (lq (lq (lq (.join [(1,.one (.int .i64)),(2,.one (.int .i64)),(10,.one (.bool))] (cq (lq ll) (lq ll)))))))))))))))))))))) Tryz.func182 hv
theorem jP.TC.walk (N: ∃(I:Int->ak->Prop)(M:Int->ak->Nat),I (wrap .i64 (a+1)) h/\∀(i:Int)(u:ak),I i u->if(decide (i<b))then∃(w:Int->ak->Prop)(y:Int->ak->Nat),w i u/\∀(j:Int)(H:ak),w j H->aI (λ(t34:Bool) (n:ak)=>if t34 then Bd (wrap .i64 (j - 1)) d/\aO D λA=>bD.LD n (A.add (toNat (wrap .i64 (j - 1))*7)) λd' e' f' g' h' i' j'=>Bd j d/\aO D λz=>bD.LD n (z.add (toNat j*7)) λk' l' m' n' o' p' q'=>Bd j d/\aO D λB=>bD.ST n (B.add (toNat j*7)) d' e' f' g' h' i' j' λK=>Bd (wrap .i64 (j - 1)) d/\aO D λC=>bD.ST K (C.add (toNat (wrap .i64 (j - 1))*7)) k' l' m' n' o' p' q' λx=>(w (wrap .i64 (j - 1)) x/\y (wrap .i64 (j - 1)) x<y j H)else(I (wrap .i64 (i+1)) n/\M (wrap .i64 (i+1)) n<M i u)) (λJ=>if(decide (j>a))then Bd j d/\aO D λF=>bD.LD H (F.add (toNat j*7)) λT O P Q S U V=>Bd (wrap .i64 (j - 1)) d/\aO D λG=>bD.LD H (G.add (toNat (wrap .i64 (j - 1))*7)) λW X Y Z a' b' c'=>Cl 132 #[.agg #[.bool T,.U O,.U P,.string Q,.string S,.I U,.I V],.agg #[.bool W,.U X,.U Y,.string Z,.string a',.I b',.I c']] H λv L=> ∃t32,v=.I t32/\J (decide (t32<0)) L else J false H)else R (.tuple #[]) u):Cl 214 #[.slice D d c,.I a,.I b,.func (.func 132) #[] #[]] h R:=aR (lq (bq (.loop [(8,.one (.int .i64))] (sq (lq (cq lf lf)) (sq (bq (lq (bq (.loop [(9,.one (.int .i64))] (sq (sq (.join [(34,.one (.bool))] (pN 17)) (cq lf lf)) (sq (bq (pN 18)) lf)))))) lf))))) Tryz.func214 N

end
end Go.Proofs.YtlenamcfacpheaaGreatDoor
